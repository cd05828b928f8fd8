/- Walks: a part of a list: a parameter or none. · Walks: a list's parameters, its bad parts. · The statement of layer 35 on parts, walked. (laid together by program out of single texts). -/
import Derived.Deep.MidRow
import Derived.Laws.ResultCell
import Derived.Test.YtoliaphiipkopaaDoorM2
import Derived.Test.YtoliaphiipkopaaDoorM13
import Derived.Test.YtoliaphiipkopaaDoorM25
import Derived.Test.YtoliaphiipkopaaDoorM26
namespace Go.Proofs.YtoliaphiipkopaaDoor
open Go.RowKit
set_option maxHeartbeats 4000000
set_option maxRecDepth 100000
theorem loadP4 (w : World) (T : TypeId) (b : Nat) (x0 x1 x2 x3 : Value) (d : TypeDesc) (hu : Tryd.prog.underlying T = some d) (hd : d.isRow = true) (hi : (Tryd.prog.info? T).map (·.size) = some 4) (h0 : w.cell? ⟨b, 0, none⟩ = some x0) (h1 : w.cell? ⟨b, 1, none⟩ = some x1) (h2 : w.cell? ⟨b, 2, none⟩ = some x2) (h3 : w.cell? ⟨b, 3, none⟩ = some x3) :
    (loadVar T ⟨b, 0, none⟩).run Tryd.prog w = .ok (.agg #[x0, x1, x2, x3]) w :=
  run_loadVar_mid w b 0 T [x0, x1, x2, x3] d (fun j v hj => by
    rcases j with _ | _ | _ | _ | j
    · simp at hj; subst hj; simpa using h0
    · simp at hj; subst hj; simpa using h1
    · simp at hj; subst hj; simpa using h2
    · simp at hj; subst hj; simpa using h3
    · simp at hj) hu hd hi
theorem results_cT {fn : Func} {p u : Tmp} {ty : TypeId} (h : fn.results = #[.cell p ty, .tmp u]) (tmps : Array Value) (w : World) (b : Nat) (v : Value) (hp : tmps.getD p undef = .pointer (some ⟨b, 0, none⟩)) (hl : (loadVar ty ⟨b, 0, none⟩).run Tryd.prog w = .ok v w) :
    (results fn tmps).run Tryd.prog w = .ok (.tuple #[v, tmps.getD u undef]) w := by
  rw [results_cell_tmp h]
  rw [hp]
  simp [asAddr, hl, Result.andThen]
/-- A record of four cells at block P. -/
def Rc (B P : Nat) (w : World) (x0 x1 x2 x3 : Value) : Prop := Own B 28 w (.slice (some ⟨P, 0, none⟩) 4 4) [x0, x1, x2, x3]
theorem Rc.new (w : World) (x0 x1 x2 x3 : Value) (h : x0.oneCell' = true ∧ x1.oneCell' = true ∧ x2.oneCell' = true ∧ x3.oneCell' = true) : Rc w.heap.size w.heap.size (w.alloc (.cells #[x0, x1, x2, x3] 28)) x0 x1 x2 x3 :=
  Own.lit [x0, x1, x2, x3] (by intro u hu; simp at hu; rcases hu with rfl | rfl | rfl | rfl; exact h.1; exact h.2.1; exact h.2.2.1; exact h.2.2.2) (Nat.le_refl _) (by simp)
section
variable {B P : Nat} {w w' : World} {x0 x1 x2 x3 : Value}
theorem Rc.below (h : Rc B P w x0 x1 x2 x3) (hb : Below w.heap.size w w') : Rc B P w' x0 x1 x2 x3 := Own.below h hb
theorem Rc.cells (h : Rc B P w x0 x1 x2 x3) : w.cell? ⟨P, 0, none⟩ = some x0 ∧ w.cell? ⟨P, 1, none⟩ = some x1 ∧ w.cell? ⟨P, 2, none⟩ = some x2 ∧ w.cell? ⟨P, 3, none⟩ = some x3 :=
  ⟨Own.cell h (j := 0) rfl, Own.cell h (j := 1) rfl, Own.cell h (j := 2) rfl, Own.cell h (j := 3) rfl⟩
theorem Rc.unfrozen (h : Rc B P w x0 x1 x2 x3) : w.frozen? ⟨P, 0, none⟩ = false ∧ w.frozen? ⟨P, 1, none⟩ = false ∧ w.frozen? ⟨P, 2, none⟩ = false ∧ w.frozen? ⟨P, 3, none⟩ = false :=
  ⟨Own.frozen h 0, Own.frozen h 1, Own.frozen h 2, Own.frozen h 3⟩
theorem Rc.set0 (h : Rc B P w x0 x1 x2 x3) (u : Value) (hu : u.oneCell' = true) : Rc B P (w.setCell ⟨P, 0, none⟩ u) u x1 x2 x3 := Own.set h 0 u hu
theorem Rc.set1 (h : Rc B P w x0 x1 x2 x3) (u : Value) (hu : u.oneCell' = true) : Rc B P (w.setCell ⟨P, 1, none⟩ u) x0 u x2 x3 := Own.set h 1 u hu
theorem Rc.set2 (h : Rc B P w x0 x1 x2 x3) (u : Value) (hu : u.oneCell' = true) : Rc B P (w.setCell ⟨P, 2, none⟩ u) x0 x1 u x3 := Own.set h 2 u hu
theorem Rc.set3 (h : Rc B P w x0 x1 x2 x3) (u : Value) (hu : u.oneCell' = true) : Rc B P (w.setCell ⟨P, 3, none⟩ u) x0 x1 x2 u := Own.set h 3 u hu
theorem Own.setRc {B' : Nat} {v : Value} {cs : List Value} (h : Own B' 5 w v cs) (hr : Rc B P w x0 x1 x2 x3) (j : Nat) (u : Value) : Own B' 5 (w.setCell ⟨P, j, none⟩ u) v cs := h.otherE hr (by decide) (grown_set w P j u)
theorem Rc.le (h : Rc B P w x0 x1 x2 x3) : B ≤ P := (Own.blkB h).1
  where Own.blkB {B g n cap : Nat} {E : TypeId} {w : World} {cs : List Value} (h : Own B E w (.slice (some ⟨g, 0, none⟩) n cap) cs) : B ≤ g ∧ g < w.heap.size := h.1.lt g rfl
end
theorem Rc.other {B P Q : Nat} {w : World} {x0 x1 x2 x3 : Value} (h : Rc B P w x0 x1 x2 x3) (hne : P ≠ Q) (j : Nat) (u : Value) : Rc B P (w.setCell ⟨Q, j, none⟩ u) x0 x1 x2 x3 :=
  ⟨h.1.kept (grown_set w Q j u) (.inr (fun e => hne (Option.some.inj e))), h.2⟩
theorem Rc.plt {B P : Nat} {w : World} {x0 x1 x2 x3 : Value} (h : Rc B P w x0 x1 x2 x3) : P < w.heap.size := (h.1.lt P rfl).2
theorem pempty_any (v : Value) (xs : List Int) (w : World) (h : Row w v (ints .u8 xs)) (hg : Rg 0 256 xs) (hl : xs.length ≤ 900000) :
    Calls Tryd.prog 27 #[v] w fun e w' => e = .returned (.bool (emtB xs)) ∧ Below w.heap.size w w' := by
  have hG := gap00_any v xs w h hg hl
  unfold emtB
  generalize gp xs = n at *
  have HG := Lib.hid hG
  clear hG
  obtain ⟨a, c, rfl⟩ := (id h).formN0 (n := xs.length) (by rw [ints_length])
  go_enter Tryd.func27, Tryd.ntmps27
  go_wp2_with fail
  refine HG.out.mono ?_
  rintro e w1 ⟨rfl, hb1⟩
  go_wp2
  go_ret
  exact ⟨ret_bool (by rw [Bool.eq_iff_iff]; simp; omega), hb1⟩
theorem one35_any (v : Value) (xs : List Int) (w : World) (h : Row w v (ints .u8 xs)) (hg : Rg 0 256 xs) (hl : xs.length ≤ 800000) :
    Calls Tryd.prog 26 #[v] w fun e w' => ∃ a b, e = .returned (.tuple #[.agg #[a, .int .i64 (oneM xs).1.2.1, .bool (oneM xs).1.2.2.1, b], .int .i64 (oneM xs).2]) ∧ Own w.heap.size 5 w' a (ints .u8 (oneM xs).1.1) ∧ Own w.heap.size 5 w' b (ints .u8 (oneM xs).1.2.2.2) ∧ Below w.heap.size w w' := by
  obtain ⟨a0, b0, off0, cp0, rfl, _⟩ := id h.op
  have hG0 := fun w' h' => gap00_any (.slice a0 xs.length cp0) xs w' h' hg (by omega)
  have hgl := gp_len xs
  have hT := fun w' h' => token_any (.slice a0 xs.length cp0) xs (gp xs) w' h' hg (by omega) hgl
  have htr := tokM_rng (gp xs) (xs.drop (gp xs))
  have hdl : (xs.drop (gp xs)).length = xs.length - gp xs := List.length_drop
  have hS := fun w' h' => skip_any (.slice a0 xs.length cp0) xs (tokM (gp xs) (xs.drop (gp xs))).2.1 61 w' h' hg (by omega) (by omega)
  have hsr := skpM_rng xs (tokM (gp xs) (xs.drop (gp xs))).2.1 61 (by omega)
  have hgT : Rg 0 256 (tokM (gp xs) (xs.drop (gp xs))).1 := fun x hx => hg x (List.mem_of_mem_drop (htr.2.2 x hx))
  have hA := fun v1 w' h' => attr_any v1 (tokM (gp xs) (xs.drop (gp xs))).1 w' h' hgT (by omega)
  have hO : oneM xs = if (tokM (gp xs) (xs.drop (gp xs))).2.2 ≠ 0 then (([], 0, false, []), 3) else if (skpM xs (tokM (gp xs) (xs.drop (gp xs))).2.1 61).2 = false then (([], 0, false, []), 3) else oneM.oneV (atrM (tokM (gp xs) (xs.drop (gp xs))).1) xs ((skpM xs (tokM (gp xs) (xs.drop (gp xs))).2.1 61).1 + gp (xs.drop (skpM xs (tokM (gp xs) (xs.drop (gp xs))).2.1 61).1)) := rfl
  rw [hO]
  generalize atrM (tokM (gp xs) (xs.drop (gp xs))).1 = AT at *
  generalize (tokM (gp xs) (xs.drop (gp xs))).2.2 = te at *
  generalize (tokM (gp xs) (xs.drop (gp xs))).2.1 = tn at *
  generalize (tokM (gp xs) (xs.drop (gp xs))).1 = T at *
  generalize gp xs = g0 at *
  generalize (skpM xs tn 61).2 = sb at *
  generalize (skpM xs tn 61).1 = sn at *
  have hG2 := fun w' h' => gap_any (.slice a0 xs.length cp0) xs sn w' h' hg (by omega) hsr
  have hg2l := gp_len (xs.drop sn)
  have hd2 : (xs.drop sn).length = xs.length - sn := List.length_drop
  generalize hm : sn + gp (xs.drop sn) = m at *
  have hml : m ≤ xs.length := by omega
  have hV := fun w' h' => value_any (.slice a0 xs.length cp0) xs m w' h' hg (by omega) hml
  have hvr := valM_rng m (xs.drop m)
  have hd3 : (xs.drop m).length = xs.length - m := List.length_drop
  have hoV : oneM.oneV AT xs m = if (valM m (xs.drop m)).2.2 ≠ 0 then (([], 0, false, []), 3) else if emtB (xs.drop (valM m (xs.drop m)).2.1) = false then (([], 0, false, []), 3) else ((AT.1, AT.2.1, AT.2.2, (valM m (xs.drop m)).1), 0) := by
    rw [oneM.oneV]
    by_cases h1 : (valM m (xs.drop m)).2.2 ≠ 0
    · rw [if_pos h1, if_pos h1]
    · rw [if_neg h1, if_neg h1]
      by_cases h2 : gp (xs.drop (valM m (xs.drop m)).2.1) ≠ (xs.drop (valM m (xs.drop m)).2.1).length
      · rw [if_pos h2, if_pos (by simpa [emtB] using h2)]
      · rw [if_neg h2, if_neg (by simpa [emtB] using h2)]
  rw [hoV]
  generalize (valM m (xs.drop m)).2.2 = ve at *
  generalize (valM m (xs.drop m)).2.1 = vn at *
  generalize (valM m (xs.drop m)).1 = V at *
  have hE := fun v1 w' h' => pempty_any v1 (xs.drop vn) w' h' (hg.drop _) (by rw [List.length_drop]; omega)
  generalize emtB (xs.drop vn) = eb at *
  have hvn : vn ≤ xs.length := by omega
  obtain ⟨A1, A2, A3⟩ := AT
  have HG0 := Lib.hid hG0; have HT := Lib.hid hT; have HS := Lib.hid hS; have HG2 := Lib.hid hG2; have HV := Lib.hid hV; have HE := Lib.hid hE; have HA := Lib.hid hA
  clear hG0 hT hS hG2 hV hE hA hO hoV hgl htr hdl hsr hgT hg2l hd2 hm hml hvr hd3
  have hB := below_alloc w (.cells #[(.slice none 0 0), (.int .i64 0), (.bool false), (.slice none 0 0)] 28)
  have HR := Lib.hid (Rc.new w (.slice none 0 0) (.int .i64 0) (.bool false) (.slice none 0 0) ⟨rfl, rfl, rfl, rfl⟩)
  by_cases hte : te = 0
  case neg =>
    rw [if_pos hte]
    have hbe : (te != 0) = true := by simpa using hte
    go_enter Tryd.func26, Tryd.ntmps26; go_wp2_with fail; refine (HG0.out _ (h.below hB)).mono ?_; rintro e w1 ⟨rfl, hb1⟩; have hB1 := below_trans hB hb1; have hR1 := HR.out.below hb1; go_wp2_with fail; refine (HT.out _ (h.below hB1)).mono ?_; rintro e w2 ⟨t2, rfl, ho2, hb2⟩; have hB2 := below_trans hB1 hb2; have hR2 := hR1.below hb2; have hT2 := ho2.mono hB1.size; obtain ⟨f0, f1, f2, f3⟩ := hR2.unfrozen; obtain ⟨c0, c1, c2, c3⟩ := hR2.cells
    go_wp2
    have hz := (((hR2.set0 (.slice none 0 0) rfl).set1 (.int .i64 0) rfl).set2 (.bool false) rfl).set3 (.slice none 0 0) rfl
    have hBz := hB2
    refine bodyPost_ret (results_cT rfl _ _ w.heap.size _ rfl (loadP4 _ _ _ _ _ _ _ _ Tryd.underlying28 rfl (by kernel_rfl) hz.cells.1 hz.cells.2.1 hz.cells.2.2.1 hz.cells.2.2.2)) rfl ?_; exact ⟨_, _, rfl, Own.nil _ _ _, Own.nil _ _ _, (((hBz.setCell (Nat.le_refl _) _).setCell (Nat.le_refl _) _).setCell (Nat.le_refl _) _).setCell (Nat.le_refl _) _⟩
  rw [if_neg (fun h9 => h9 hte)]
  subst hte
  rcases sb with _ | _
  · rw [if_pos rfl]
    go_enter Tryd.func26, Tryd.ntmps26; go_wp2_with fail; refine (HG0.out _ (h.below hB)).mono ?_; rintro e w1 ⟨rfl, hb1⟩; have hB1 := below_trans hB hb1; have hR1 := HR.out.below hb1; go_wp2_with fail; refine (HT.out _ (h.below hB1)).mono ?_; rintro e w2 ⟨t2, rfl, ho2, hb2⟩; have hB2 := below_trans hB1 hb2; have hR2 := hR1.below hb2; have hT2 := ho2.mono hB1.size; obtain ⟨f0, f1, f2, f3⟩ := hR2.unfrozen; obtain ⟨c0, c1, c2, c3⟩ := hR2.cells
    go_wp2_with fail
    refine (HS.out _ (h.below hB2)).mono ?_; rintro e w3 ⟨rfl, hb3⟩; have hB3 := below_trans hB2 hb3; have hR3 := hR2.below hb3; have hT3 := hT2.below hb3; clear f0 f1 f2 f3 c0 c1 c2 c3; obtain ⟨f0, f1, f2, f3⟩ := hR3.unfrozen; obtain ⟨c0, c1, c2, c3⟩ := hR3.cells
    go_wp2
    have hz := (((hR3.set0 (.slice none 0 0) rfl).set1 (.int .i64 0) rfl).set2 (.bool false) rfl).set3 (.slice none 0 0) rfl
    have hBz := hB3
    refine bodyPost_ret (results_cT rfl _ _ w.heap.size _ rfl (loadP4 _ _ _ _ _ _ _ _ Tryd.underlying28 rfl (by kernel_rfl) hz.cells.1 hz.cells.2.1 hz.cells.2.2.1 hz.cells.2.2.2)) rfl ?_; exact ⟨_, _, rfl, Own.nil _ _ _, Own.nil _ _ _, (((hBz.setCell (Nat.le_refl _) _).setCell (Nat.le_refl _) _).setCell (Nat.le_refl _) _).setCell (Nat.le_refl _) _⟩
  · rw [if_neg (by decide)]
    by_cases hve : ve = 0
    case neg =>
      rw [if_pos hve]
      have hbe : (ve != 0) = true := by simpa using hve
      go_enter Tryd.func26, Tryd.ntmps26; go_wp2_with fail; refine (HG0.out _ (h.below hB)).mono ?_; rintro e w1 ⟨rfl, hb1⟩; have hB1 := below_trans hB hb1; have hR1 := HR.out.below hb1; go_wp2_with fail; refine (HT.out _ (h.below hB1)).mono ?_; rintro e w2 ⟨t2, rfl, ho2, hb2⟩; have hB2 := below_trans hB1 hb2; have hR2 := hR1.below hb2; have hT2 := ho2.mono hB1.size; obtain ⟨f0, f1, f2, f3⟩ := hR2.unfrozen; obtain ⟨c0, c1, c2, c3⟩ := hR2.cells
      go_wp2_with fail
      refine (HS.out _ (h.below hB2)).mono ?_; rintro e w3 ⟨rfl, hb3⟩; have hB3 := below_trans hB2 hb3; have hR3 := hR2.below hb3; have hT3 := hT2.below hb3; clear f0 f1 f2 f3 c0 c1 c2 c3; obtain ⟨f0, f1, f2, f3⟩ := hR3.unfrozen; obtain ⟨c0, c1, c2, c3⟩ := hR3.cells
      go_wp2_with fail
      refine (HG2.out _ (h.below hB3)).mono ?_; rintro e w4 ⟨rfl, hb4⟩; have hB4 := below_trans hB3 hb4; have hR4 := hR3.below hb4; have hT4 := hT3.below hb4; go_wp2_with fail; refine (HV.out _ (h.below hB4)).mono ?_; rintro e w5 ⟨t5, rfl, ho5, hb5⟩; have hB5 := below_trans hB4 hb5; have hR5 := hR4.below hb5; have hT5 := hT4.below hb5; have hV5 := ho5.mono hB4.size; clear f0 f1 f2 f3 c0 c1 c2 c3; obtain ⟨f0, f1, f2, f3⟩ := hR5.unfrozen; obtain ⟨c0, c1, c2, c3⟩ := hR5.cells
      go_wp2
      have hz := (((hR5.set0 (.slice none 0 0) rfl).set1 (.int .i64 0) rfl).set2 (.bool false) rfl).set3 (.slice none 0 0) rfl
      have hBz := hB5
      refine bodyPost_ret (results_cT rfl _ _ w.heap.size _ rfl (loadP4 _ _ _ _ _ _ _ _ Tryd.underlying28 rfl (by kernel_rfl) hz.cells.1 hz.cells.2.1 hz.cells.2.2.1 hz.cells.2.2.2)) rfl ?_; exact ⟨_, _, rfl, Own.nil _ _ _, Own.nil _ _ _, (((hBz.setCell (Nat.le_refl _) _).setCell (Nat.le_refl _) _).setCell (Nat.le_refl _) _).setCell (Nat.le_refl _) _⟩
    rw [if_neg (fun h9 => h9 hve)]
    subst hve
    rcases eb with _ | _
    · rw [if_pos rfl]
      go_enter Tryd.func26, Tryd.ntmps26; go_wp2_with fail; refine (HG0.out _ (h.below hB)).mono ?_; rintro e w1 ⟨rfl, hb1⟩; have hB1 := below_trans hB hb1; have hR1 := HR.out.below hb1; go_wp2_with fail; refine (HT.out _ (h.below hB1)).mono ?_; rintro e w2 ⟨t2, rfl, ho2, hb2⟩; have hB2 := below_trans hB1 hb2; have hR2 := hR1.below hb2; have hT2 := ho2.mono hB1.size; obtain ⟨f0, f1, f2, f3⟩ := hR2.unfrozen; obtain ⟨c0, c1, c2, c3⟩ := hR2.cells
      go_wp2_with fail
      refine (HS.out _ (h.below hB2)).mono ?_; rintro e w3 ⟨rfl, hb3⟩; have hB3 := below_trans hB2 hb3; have hR3 := hR2.below hb3; have hT3 := hT2.below hb3; clear f0 f1 f2 f3 c0 c1 c2 c3; obtain ⟨f0, f1, f2, f3⟩ := hR3.unfrozen; obtain ⟨c0, c1, c2, c3⟩ := hR3.cells
      go_wp2_with fail
      refine (HG2.out _ (h.below hB3)).mono ?_; rintro e w4 ⟨rfl, hb4⟩; have hB4 := below_trans hB3 hb4; have hR4 := hR3.below hb4; have hT4 := hT3.below hb4; go_wp2_with fail; refine (HV.out _ (h.below hB4)).mono ?_; rintro e w5 ⟨t5, rfl, ho5, hb5⟩; have hB5 := below_trans hB4 hb5; have hR5 := hR4.below hb5; have hT5 := hT4.below hb5; have hV5 := ho5.mono hB4.size; clear f0 f1 f2 f3 c0 c1 c2 c3; obtain ⟨f0, f1, f2, f3⟩ := hR5.unfrozen; obtain ⟨c0, c1, c2, c3⟩ := hR5.cells
      go_wp2_with (refine wpList_slL slT_u8 _ _ rfl rfl rfl rfl (h.below hB5) (by omega) (by rw [ints_length]; omega) ?_; intro v6 hv6; have r6 : Row w5 v6 (ints .u8 (xs.drop vn)) := (by have := hv6 w5 (h.below hB5); rw [Int.toNat_natCast, ints_drop] at this; exact this); clear hv6); refine (HE.out _ _ r6).mono ?_; rintro e w6 ⟨rfl, hb6⟩; have hB6 := below_trans hB5 hb6; have hR6 := hR5.below hb6; have hT6 := hT5.below hb6; have hV6 := hV5.below hb6; clear f0 f1 f2 f3 c0 c1 c2 c3; obtain ⟨f0, f1, f2, f3⟩ := hR6.unfrozen; obtain ⟨c0, c1, c2, c3⟩ := hR6.cells
      go_wp2
      have hz := (((hR6.set0 (.slice none 0 0) rfl).set1 (.int .i64 0) rfl).set2 (.bool false) rfl).set3 (.slice none 0 0) rfl
      have hBz := hB6
      refine bodyPost_ret (results_cT rfl _ _ w.heap.size _ rfl (loadP4 _ _ _ _ _ _ _ _ Tryd.underlying28 rfl (by kernel_rfl) hz.cells.1 hz.cells.2.1 hz.cells.2.2.1 hz.cells.2.2.2)) rfl ?_; exact ⟨_, _, rfl, Own.nil _ _ _, Own.nil _ _ _, (((hBz.setCell (Nat.le_refl _) _).setCell (Nat.le_refl _) _).setCell (Nat.le_refl _) _).setCell (Nat.le_refl _) _⟩
    · rw [if_neg (by decide)]
      go_enter Tryd.func26, Tryd.ntmps26; go_wp2_with fail; refine (HG0.out _ (h.below hB)).mono ?_; rintro e w1 ⟨rfl, hb1⟩; have hB1 := below_trans hB hb1; have hR1 := HR.out.below hb1; go_wp2_with fail; refine (HT.out _ (h.below hB1)).mono ?_; rintro e w2 ⟨t2, rfl, ho2, hb2⟩; have hB2 := below_trans hB1 hb2; have hR2 := hR1.below hb2; have hT2 := ho2.mono hB1.size; obtain ⟨f0, f1, f2, f3⟩ := hR2.unfrozen; obtain ⟨c0, c1, c2, c3⟩ := hR2.cells
      go_wp2_with fail
      refine (HS.out _ (h.below hB2)).mono ?_; rintro e w3 ⟨rfl, hb3⟩; have hB3 := below_trans hB2 hb3; have hR3 := hR2.below hb3; have hT3 := hT2.below hb3; clear f0 f1 f2 f3 c0 c1 c2 c3; obtain ⟨f0, f1, f2, f3⟩ := hR3.unfrozen; obtain ⟨c0, c1, c2, c3⟩ := hR3.cells
      go_wp2_with fail
      refine (HG2.out _ (h.below hB3)).mono ?_; rintro e w4 ⟨rfl, hb4⟩; have hB4 := below_trans hB3 hb4; have hR4 := hR3.below hb4; have hT4 := hT3.below hb4; go_wp2_with fail; refine (HV.out _ (h.below hB4)).mono ?_; rintro e w5 ⟨t5, rfl, ho5, hb5⟩; have hB5 := below_trans hB4 hb5; have hR5 := hR4.below hb5; have hT5 := hT4.below hb5; have hV5 := ho5.mono hB4.size; clear f0 f1 f2 f3 c0 c1 c2 c3; obtain ⟨f0, f1, f2, f3⟩ := hR5.unfrozen; obtain ⟨c0, c1, c2, c3⟩ := hR5.cells
      obtain ⟨a5, c5, rfl⟩ := (id ho5.row).formN0 (n := V.length) (by rw [ints_length])
      go_wp2_with (refine wpList_slL slT_u8 _ _ rfl rfl rfl rfl (h.below hB5) (by omega) (by rw [ints_length]; omega) ?_; intro v6 hv6; have r6 : Row w5 v6 (ints .u8 (xs.drop vn)) := (by have := hv6 w5 (h.below hB5); rw [Int.toNat_natCast, ints_drop] at this; exact this); clear hv6); refine (HE.out _ _ r6).mono ?_; rintro e w6 ⟨rfl, hb6⟩; have hB6 := below_trans hB5 hb6; have hR6 := hR5.below hb6; have hT6 := hT5.below hb6; have hV6 := hV5.below hb6; clear f0 f1 f2 f3 c0 c1 c2 c3; obtain ⟨f0, f1, f2, f3⟩ := hR6.unfrozen; obtain ⟨c0, c1, c2, c3⟩ := hR6.cells
      clear f0 f1 f2 f3 c0 c1 c2 c3
      go_wp2_with fail
      have hB6a := hB6.alloc hB6.size (.cells #[(.slice none 0 0), (.int .i64 0), (.bool false), .slice a5 V.length c5] 28)
      have hba := below_alloc w6 (.cells #[(.slice none 0 0), (.int .i64 0), (.bool false), .slice a5 V.length c5] 28)
      have hQ := Rc.new w6 (.slice none 0 0) (.int .i64 0) (.bool false) (.slice a5 V.length c5) ⟨rfl, rfl, rfl, rfl⟩
      have hR7 := hR6.below hba
      have hT7 := hT6.below hba
      have hV7 := hV6.below hba
      refine (HA.out _ _ hT7.row).mono ?_
      rintro e w8 ⟨t8, rfl, ho8, hb8⟩
      have hB8 := below_trans hB6a hb8
      have hQ8 := hQ.below hb8
      have hR8 := hR7.below hb8
      have hV8 := hV7.below hb8
      have hN8 := ho8.mono hB6a.size
      obtain ⟨a8, c8, rfl⟩ := (id ho8.row).formN0 (n := A1.length) (by rw [ints_length])
      have hne : w.heap.size ≠ w6.heap.size := fun e => by have := hR6.plt; omega
      have hR9 := ((hR8.other hne 0 (.slice a8 A1.length c8)).other hne 1 (.int .i64 A2)).other hne 2 (.bool A3)
      obtain ⟨f0, f1, f2, f3⟩ := hR9.unfrozen
      obtain ⟨c0, c1, c2, c3⟩ := hR9.cells
      obtain ⟨g0, g1, g2, g3⟩ := hQ8.unfrozen
      obtain ⟨d0, d1, d2, d3⟩ := hQ8.cells
      have hQ9 := ((hQ8.set0 (.slice a8 A1.length c8) rfl).set1 (.int .i64 A2) rfl).set2 (.bool A3) rfl
      have hN9 := ((hN8.setRc hQ8 0 (.slice a8 A1.length c8)).setRc (hQ8.set0 (.slice a8 A1.length c8) rfl) 1 (.int .i64 A2)).setRc ((hQ8.set0 (.slice a8 A1.length c8) rfl).set1 (.int .i64 A2) rfl) 2 (.bool A3)
      have hV9 := ((hV8.setRc hQ8 0 (.slice a8 A1.length c8)).setRc (hQ8.set0 (.slice a8 A1.length c8) rfl) 1 (.int .i64 A2)).setRc ((hQ8.set0 (.slice a8 A1.length c8) rfl).set1 (.int .i64 A2) rfl) 2 (.bool A3)
      have hB9 := ((hB8.setCell (p := ⟨w6.heap.size, 0, none⟩) hB6.size (.slice a8 A1.length c8)).setCell (p := ⟨w6.heap.size, 1, none⟩) hB6.size (.int .i64 A2)).setCell (p := ⟨w6.heap.size, 2, none⟩) hB6.size (.bool A3)
      have k0 := hR9.set0 (.slice a8 A1.length c8) rfl
      have k1 := k0.set1 (.int .i64 A2) rfl
      have k2 := k1.set2 (.bool A3) rfl
      have hz := k2.set3 (.slice a5 V.length c5) rfl
      have hNz := (((hN9.setRc hR9 0 (.slice a8 A1.length c8)).setRc k0 1 (.int .i64 A2)).setRc k1 2 (.bool A3)).setRc k2 3 (.slice a5 V.length c5)
      have hVz := (((hV9.setRc hR9 0 (.slice a8 A1.length c8)).setRc k0 1 (.int .i64 A2)).setRc k1 2 (.bool A3)).setRc k2 3 (.slice a5 V.length c5)
      have HZ := Lib.hid hz; have HNZ := Lib.hid hNz; have HVZ := Lib.hid hVz; have HB9 := Lib.hid hB9
      clear k0 k1 k2 hz hNz hVz hN9 hV9 hB9 hQ9 hR9
      go_wp2
      refine bodyPost_ret (results_cT rfl _ _ w.heap.size _ rfl (loadP4 _ _ _ _ _ _ _ _ Tryd.underlying28 rfl (by kernel_rfl) HZ.out.cells.1 HZ.out.cells.2.1 HZ.out.cells.2.2.1 HZ.out.cells.2.2.2)) rfl ?_
      exact ⟨_, _, rfl, HNZ.out, HVZ.out, (((HB9.out.setCell (Nat.le_refl _) _).setCell (Nat.le_refl _) _).setCell (Nat.le_refl _) _).setCell (Nat.le_refl _) _⟩
end Go.Proofs.YtoliaphiipkopaaDoor
namespace Go.Proofs.YtoliaphiipkopaaDoor
open Go.RowKit
set_option maxHeartbeats 4000000
set_option maxRecDepth 100000
theorem slT_pm : SlTN 4 Tryd.prog 35 28 := SlTN.mk (z := .agg #[.slice none 0 0, .int .i64 0, .bool false, .slice none 0 0]) (bytes := 64) (by kernel_rfl) (by kernel_rfl) (by omega) rfl (by omega)
/-- The record r holds the parameter q. -/
def PrR (B : Nat) (w : World) (r : List Value) (q : List Int × Int × Bool × List Int) : Prop := ∃ a b, r = [a, .int .i64 q.2.1, .bool q.2.2.1, b] ∧ Own B 5 w a (ints .u8 q.1) ∧ Own B 5 w b (ints .u8 q.2.2.2)
def PrL (B : Nat) (w : World) (l : List (List Value)) (L : List (List Int × Int × Bool × List Int)) : Prop := l.length = L.length ∧ ∀ (i : Nat) (r : List Value) (q : List Int × Int × Bool × List Int), l[i]? = some r → L[i]? = some q → PrR B w r q
theorem PrL.nil (B : Nat) (w : World) : PrL B w [] [] := ⟨rfl, by simp⟩
theorem PrL.below {B : Nat} {w w' : World} {l : List (List Value)} {L : List (List Int × Int × Bool × List Int)} (h : PrL B w l L) (hb : Below w.heap.size w w') : PrL B w' l L :=
  ⟨h.1, fun i r q h1 h2 => by obtain ⟨a, b, e, ha, hb'⟩ := h.2 i r q h1 h2; exact ⟨a, b, e, ha.below hb, hb'.below hb⟩⟩
theorem PrL.mono {B B' : Nat} {w : World} {l : List (List Value)} {L : List (List Int × Int × Bool × List Int)} (h : PrL B w l L) (hB : B' ≤ B) : PrL B' w l L :=
  ⟨h.1, fun i r q h1 h2 => by obtain ⟨a, b, e, ha, hb'⟩ := h.2 i r q h1 h2; exact ⟨a, b, e, ha.mono hB, hb'.mono hB⟩⟩
theorem PrL.other {B B' : Nat} {w w' : World} {l m : List (List Value)} {L : List (List Int × Int × Bool × List Int)} {v' : Value} (h : PrL B w l L) (h' : OwnN 4 B' 28 w v' m) (hg : w.grownBy w' v'.ownBlock) : PrL B w' l L :=
  ⟨h.1, fun i r q h1 h2 => by obtain ⟨a, b, e, ha, hb'⟩ := h.2 i r q h1 h2; exact ⟨a, b, e, ha.otherN h' (by decide) hg, hb'.otherN h' (by decide) hg⟩⟩
theorem PrL.snoc {B : Nat} {w : World} {l : List (List Value)} {L : List (List Int × Int × Bool × List Int)} {r : List Value} {q : List Int × Int × Bool × List Int} (h : PrL B w l L) (hr : PrR B w r q) : PrL B w (l ++ [r]) (L ++ [q]) := by
  refine ⟨by simp [h.1], fun i r' q' hp hq => ?_⟩
  rcases Nat.lt_or_ge i l.length with hi | hi
  · rw [List.getElem?_append_left hi] at hp
    rw [List.getElem?_append_left (by rw [← h.1]; exact hi)] at hq
    exact h.2 i r' q' hp hq
  · rw [List.getElem?_append_right hi] at hp
    rw [List.getElem?_append_right (by rw [← h.1]; exact hi), ← h.1] at hq
    cases hk : i - l.length with
    | zero => rw [hk] at hp hq; simp at hp hq; subst hp hq; exact hr
    | succ n => rw [hk] at hp; simp at hp
def pick (p : List Int) : Option (List Int × Int × Bool × List Int) := if (oneM p).2 = 0 then some (oneM p).1 else none
theorem readP_pick (xs : List Int) : readP xs = (ptsM xs).filterMap pick := rfl
/-- What the loop of Read keeps: a is the world behind Parts. -/
def RdI (a : World) (ps : List (List Int)) (lv iv : Value) (wr : World) : Prop :=
  ∃ (k : Nat) (l : List (List Value)), iv = .int .i64 k ∧ k ≤ ps.length ∧ Hid (OwnN 4 a.heap.size 28 wr lv l) ∧ Hid (PrL a.heap.size wr l ((ps.take k).filterMap pick)) ∧ Hid (l.length ≤ k) ∧ Below a.heap.size a wr
theorem fm_snoc {ps : List (List Int)} {k : Nat} {p : List Int} (h : ps[k]? = some p) : (ps.take (k + 1)).filterMap pick = (ps.take k).filterMap pick ++ (if (oneM p).2 = 0 then [(oneM p).1] else []) := by
  rw [List.take_add_one, h, List.filterMap_append]
  congr 1
  by_cases h0 : (oneM p).2 = 0
  · rw [if_pos h0]; simp [pick, h0]
  · rw [if_neg h0]; simp [pick, h0]
theorem pread_any (v : Value) (xs : List Int) (w : World) (h : Row w v (ints .u8 xs)) (hg : Rg 0 256 xs) (hl : xs.length ≤ 800000) :
    Calls Tryd.prog 12 #[v] w fun e w' => ∃ t l, e = .returned t ∧ OwnN 4 w.heap.size 28 w' t l ∧ PrL w.heap.size w' l (readP xs) ∧ Below w.heap.size w w' := by
  have hP := parts35_any v xs w h hg hl
  have hpl := ptG_len xs.length xs [] (Nat.le_refl _)
  have hpm : ∀ p ∈ ptsM xs, Rg 0 256 p ∧ p.length ≤ 800000 := fun p hp => by
    have := joinP_mem _ p hp
    rw [ptsM_join] at this
    exact ⟨fun x hx => hg x (this.1 x hx), by omega⟩
  rw [readP_pick]
  have hpl2 : (ptsM xs).length ≤ 800001 := by have : ptsM xs = ptG [] xs := rfl; rw [this]; omega
  generalize ptsM xs = ps at *
  have HP := Lib.hid hP; have HPM := Lib.hid hpm
  clear hP hpm hpl h
  go_enter Tryd.func12, Tryd.ntmps12
  go_wp2_with fail
  refine HP.out.mono ?_
  rintro e w1 ⟨t1, vs, rfl, ho1, hop1, hb1⟩
  obtain ⟨at1, bt1, offt, ct1, rfl, htc, htm, hta, _, hcell⟩ := ho1.row
  rw [hop1.1] at *
  have HCL := Lib.hid hcell; have HTA := Lib.hid hta; have HOP := Lib.hid hop1
  clear hcell hta hop1 ho1 htc htm HP
  go_wp2_with fail
  go_loopw [3, 11] (fun lv iv wr => RdI w1 ps lv iv wr) (fun _ iv _ => ps.length - (intOf iv).toNat)
  case atStart => exact ⟨0, [], rfl, Nat.zero_le _, OwnN.nil _ _ _ _, PrL.nil _ _, Nat.le_refl _, Below.refl _ _⟩
  case round =>
    obtain ⟨k, l, rfl, hk, HO, HL, HLL, hb⟩ := hrel
    by_cases hlt : k < ps.length
    · obtain ⟨p, hp⟩ : ∃ p, ps[k]? = some p := ⟨_, List.getElem?_eq_getElem hlt⟩
      obtain ⟨u, hu⟩ : ∃ u, vs[k]? = some u := ⟨_, List.getElem?_eq_getElem (by rw [HOP.out.1]; exact hlt)⟩
      have hru := HOP.out.2 k u p hu hp
      obtain rfl : at1 = some ⟨bt1, offt, none⟩ := by
        rcases HTA.out with h9 | ⟨h9, _⟩
        · exact h9
        · rw [h9] at hu; simp at hu
      have hc := cell_kept (HCL.out k u hu) hb
      have hpr := HPM.out p (List.mem_of_getElem? hp)
      have hO := one35_any u p wr (hru.row.below hb) hpr.1 hpr.2
      have hfm := fm_snoc hp
      generalize (oneM p).2 = oe at *
      generalize (oneM p).1 = q at *
      obtain ⟨q1, q2, q3, q4⟩ := q
      have HOO := Lib.hid hO; have HFM := Lib.hid hfm
      clear hO hfm hru hpr hp hu
      by_cases he : oe = 0
      · subst he
        go_wp2_with fail; refine HOO.out.mono ?_; rintro e w6 ⟨ra, rb, rfl, hoa, hob, hb6⟩; obtain ⟨a6, c6, rfl⟩ := (id hoa.row).formN0 (n := q1.length) (by rw [ints_length]); obtain ⟨a7, c7, rfl⟩ := (id hob.row).formN0 (n := q4.length) (by rw [ints_length]); have hB6 := below_trans hb hb6; have hO6 := HO.out.below hb6; have hL6 := HL.out.below hb6; have hA6 := hoa.mono hb.size; have hD6 := hob.mono hb.size
        have hBa := hB6.alloc hB6.size (.cells #[.slice a6 q1.length c6, .int .i64 q2, .bool q3, .slice a7 q4.length c7] 28)
        have hR := Rc.new w6 (.slice a6 q1.length c6) (.int .i64 q2) (.bool q3) (.slice a7 q4.length c7) ⟨rfl, rfl, rfl, rfl⟩
        obtain ⟨k0, k1, k2, k3⟩ := hR.cells
        have HLIT : Hid (∀ (j : Nat) (u : Value), [(.slice a6 q1.length c6 : Value), .int .i64 q2, .bool q3, .slice a7 q4.length c7][j]? = some u → ((w6.alloc (.cells #[.slice a6 q1.length c6, .int .i64 q2, .bool q3, .slice a7 q4.length c7] 28)).alloc (.cells #[.slice a6 q1.length c6, .int .i64 q2, .bool q3, .slice a7 q4.length c7] 28)).cell? ⟨w6.heap.size + 1, j, none⟩ = some u) := fun j u hu => by
          have hR2 := Rc.new (w6.alloc (.cells #[.slice a6 q1.length c6, .int .i64 q2, .bool q3, .slice a7 q4.length c7] 28)) (.slice a6 q1.length c6) (.int .i64 q2) (.bool q3) (.slice a7 q4.length c7) ⟨rfl, rfl, rfl, rfl⟩
          have e9 : (w6.alloc (.cells #[.slice a6 q1.length c6, .int .i64 q2, .bool q3, .slice a7 q4.length c7] 28)).heap.size = w6.heap.size + 1 := by simp
          rw [e9] at hR2
          exact Own.cell hR2 hu
        have hO6a := (hO6.alloc (.cells #[.slice a6 q1.length c6, .int .i64 q2, .bool q3, .slice a7 q4.length c7] 28)).alloc (.cells #[.slice a6 q1.length c6, .int .i64 q2, .bool q3, .slice a7 q4.length c7] 28)
        have hBb := hBa.alloc hBa.size (.cells #[.slice a6 q1.length c6, .int .i64 q2, .bool q3, .slice a7 q4.length c7] 28)
        have hL6a := (hL6.below (below_alloc w6 (.cells #[.slice a6 q1.length c6, .int .i64 q2, .bool q3, .slice a7 q4.length c7] 28))).below (below_alloc (w6.alloc (.cells #[.slice a6 q1.length c6, .int .i64 q2, .bool q3, .slice a7 q4.length c7] 28)) (.cells #[.slice a6 q1.length c6, .int .i64 q2, .bool q3, .slice a7 q4.length c7] 28))
        have hA6a := (hA6.alloc (.cells #[.slice a6 q1.length c6, .int .i64 q2, .bool q3, .slice a7 q4.length c7] 28)).alloc (.cells #[.slice a6 q1.length c6, .int .i64 q2, .bool q3, .slice a7 q4.length c7] 28)
        have hD6a := (hD6.alloc (.cells #[.slice a6 q1.length c6, .int .i64 q2, .bool q3, .slice a7 q4.length c7] 28)).alloc (.cells #[.slice a6 q1.length c6, .int .i64 q2, .bool q3, .slice a7 q4.length c7] 28)
        have HX := Lib.hid hO6a; have HLX := Lib.hid hL6a; have HAX := Lib.hid hA6a; have HDX := Lib.hid hD6a
        clear hR hO6 hL6 hA6 hD6 hO6a hL6a hA6a hD6a
        go_wp2_with (at_builtin; refine wpList_appN slT_pm w1.heap.size _ _ rfl rfl rfl rfl HX.out (r := [(.slice a6 q1.length c6 : Value), .int .i64 q2, .bool q3, .slice a7 q4.length c7]) rfl (by intro u hu; simp at hu; rcases hu with rfl | rfl | rfl | rfl <;> rfl) HLIT.out (by have := HLL.out; omega) (by have := hBb.size; simp at this ⊢; omega) ?_; intro t7 w7 ho7 hg7; have hb7 : Below w1.heap.size w1 w7 := below_ownN hBb HX.out hg7 (by have := hBb.size; simp at this ⊢; omega) (Nat.le_refl _); have hl7 := HLX.out.other HX.out hg7; have ha7 := HAX.out.otherN HX.out (by decide) hg7; have hd7 := HDX.out.otherN HX.out (by decide) hg7)
        go_roundw
        case rel => exact ⟨k + 1, l ++ [[(.slice a6 q1.length c6 : Value), .int .i64 q2, .bool q3, .slice a7 q4.length c7]], by go_num, by omega, ho7, (by show PrL _ _ _ _; rw [HFM.out, if_pos trivial]; exact hl7.snoc (q := (q1, q2, q3, q4)) ⟨_, _, rfl, ha7, hd7⟩), (by have := HLL.out; show _ ≤ _; simp; omega), hb7⟩
        case measure => simp [intOf]; omega
      · have hbe : (oe == 0) = false := beq_false_of_ne he
        go_wp2_with fail; refine HOO.out.mono ?_; rintro e w6 ⟨ra, rb, rfl, hoa, hob, hb6⟩; obtain ⟨a6, c6, rfl⟩ := (id hoa.row).formN0 (n := q1.length) (by rw [ints_length]); obtain ⟨a7, c7, rfl⟩ := (id hob.row).formN0 (n := q4.length) (by rw [ints_length]); have hB6 := below_trans hb hb6; have hO6 := HO.out.below hb6; have hL6 := HL.out.below hb6; have hA6 := hoa.mono hb.size; have hD6 := hob.mono hb.size
        have hO6a := hO6.alloc (.cells #[.slice a6 q1.length c6, .int .i64 q2, .bool q3, .slice a7 q4.length c7] 28)
        have hL6a := hL6.below (below_alloc w6 (.cells #[.slice a6 q1.length c6, .int .i64 q2, .bool q3, .slice a7 q4.length c7] 28))
        go_wp2_with fail
        go_roundw
        case rel => exact ⟨k + 1, l, by go_num, by omega, hO6a, (by show PrL _ _ _ _; rw [HFM.out, if_neg he]; simpa using hL6a), (by have := HLL.out; show _ ≤ _; omega), hB6.alloc hB6.size _⟩
        case measure => simp [intOf]; omega
    · obtain rfl : k = ps.length := by omega
      have hL := HL.out
      rw [List.take_of_length_le (Nat.le_refl _)] at hL
      have hO := HO.out
      go_wp2_with fail
      go_ret
      exact ⟨_, _, rfl, hO.mono hb1.size, hL.mono hb1.size, below_trans hb1 hb⟩
def bdB (p : List Int) : Bool := decide ((oneM p).2 ≠ 0) && !emtB p
theorem badP_bd (xs : List Int) : badP xs = (ptsM xs).countP bdB := rfl
theorem cnt_snocB {ps : List (List Int)} {k : Nat} {p : List Int} (h : ps[k]? = some p) : (ps.take (k + 1)).countP bdB = (ps.take k).countP bdB + (if bdB p = true then 1 else 0) := by
  rw [List.take_add_one, h]
  simp [List.countP_append, List.countP_cons]
theorem pbad_any (v : Value) (xs : List Int) (w : World) (h : Row w v (ints .u8 xs)) (hg : Rg 0 256 xs) (hl : xs.length ≤ 800000) :
    Calls Tryd.prog 13 #[v] w fun e w' => e = .returned (.int .i64 (badP xs : Nat)) ∧ Below w.heap.size w w' := by
  have hP := parts35_any v xs w h hg hl
  have hpl := ptG_len xs.length xs [] (Nat.le_refl _)
  have hpm : ∀ p ∈ ptsM xs, Rg 0 256 p ∧ p.length ≤ 800000 := fun p hp => by
    have := joinP_mem _ p hp
    rw [ptsM_join] at this
    exact ⟨fun x hx => hg x (this.1 x hx), by omega⟩
  rw [badP_bd]
  have hpl2 : (ptsM xs).length ≤ 800001 := by have : ptsM xs = ptG [] xs := rfl; rw [this]; omega
  generalize ptsM xs = ps at *
  have HP := Lib.hid hP; have HPM := Lib.hid hpm
  clear hP hpm hpl h
  go_enter Tryd.func13, Tryd.ntmps13
  go_wp2_with fail
  refine HP.out.mono ?_
  rintro e w1 ⟨t1, vs, rfl, ho1, hop1, hb1⟩
  obtain ⟨at1, bt1, offt, ct1, rfl, htc, htm, hta, _, hcell⟩ := ho1.row
  rw [hop1.1] at *
  have HCL := Lib.hid hcell; have HTA := Lib.hid hta; have HOP := Lib.hid hop1
  clear hcell hta hop1 ho1 htc htm HP
  go_wp2_with fail
  go_loopw [3, 11] (fun nv iv wr => ∃ (k n : Nat), iv = .int .i64 k ∧ nv = .int .i64 n ∧ k ≤ ps.length ∧ n ≤ k ∧ Hid ((ps.take k).countP bdB = n) ∧ Below w1.heap.size w1 wr) (fun _ iv _ => ps.length - (intOf iv).toNat)
  case atStart => exact ⟨0, 0, rfl, rfl, Nat.zero_le _, Nat.le_refl _, (by show _ = _; simp), Below.refl _ _⟩
  case round =>
    obtain ⟨k, n, rfl, rfl, hk, hnk, HN, hb⟩ := hrel
    by_cases hlt : k < ps.length
    · obtain ⟨p, hp⟩ : ∃ p, ps[k]? = some p := ⟨_, List.getElem?_eq_getElem hlt⟩
      obtain ⟨u, hu⟩ : ∃ u, vs[k]? = some u := ⟨_, List.getElem?_eq_getElem (by rw [HOP.out.1]; exact hlt)⟩
      have hru := (HOP.out.2 k u p hu hp).row
      obtain rfl : at1 = some ⟨bt1, offt, none⟩ := by
        rcases HTA.out with h9 | ⟨h9, _⟩
        · exact h9
        · rw [h9] at hu; simp at hu
      have hc := cell_kept (HCL.out k u hu) hb
      have hpr := HPM.out p (List.mem_of_getElem? hp)
      have hO := one35_any u p wr (hru.below hb) hpr.1 hpr.2
      have hE := fun w' h' => pempty_any u p w' h' hpr.1 (by omega)
      have hfm := cnt_snocB hp
      rw [HN.out] at hfm
      have hbd : bdB p = (decide ((oneM p).2 ≠ 0) && !emtB p) := rfl
      rw [hbd] at hfm
      generalize (oneM p).2 = oe at *
      generalize (oneM p).1 = q at *
      generalize emtB p = eb at *
      obtain ⟨q1, q2, q3, q4⟩ := q
      have HOO := Lib.hid hO; have HFM := Lib.hid hfm; have HE := Lib.hid hE; have HRU := Lib.hid hru
      clear hO hfm hpr hp hu hE hru hbd
      by_cases he : oe = 0
      · subst he
        go_wp2_with fail; refine HOO.out.mono ?_; rintro e w6 ⟨ra, rb, rfl, hoa, hob, hb6⟩; obtain ⟨a6, c6, rfl⟩ := (id hoa.row).formN0 (n := q1.length) (by rw [ints_length]); obtain ⟨a7, c7, rfl⟩ := (id hob.row).formN0 (n := q4.length) (by rw [ints_length]); have hB6 := below_trans hb hb6
        go_wp2_with fail
        go_roundw
        case rel => exact ⟨k + 1, n, by go_num, rfl, by omega, by omega, (by show _ = _; rw [HFM.out]; simp), hB6.alloc hB6.size _⟩
        case measure => simp [intOf]; omega
      · have hbe : (oe != 0) = true := by simpa using he
        go_wp2_with fail; refine HOO.out.mono ?_; rintro e w6 ⟨ra, rb, rfl, hoa, hob, hb6⟩; obtain ⟨a6, c6, rfl⟩ := (id hoa.row).formN0 (n := q1.length) (by rw [ints_length]); obtain ⟨a7, c7, rfl⟩ := (id hob.row).formN0 (n := q4.length) (by rw [ints_length]); have hB6 := below_trans hb hb6
        have hBa := hB6.alloc hB6.size (.cells #[.slice a6 q1.length c6, .int .i64 q2, .bool q3, .slice a7 q4.length c7] 28)
        rcases eb with _ | _
        · go_wp2_with fail
          refine (HE.out _ (HRU.out.below hBa)).mono ?_
          rintro e w8 ⟨rfl, hb8⟩
          have hB8 := below_trans hBa hb8
          go_wp2_with fail
          go_roundw
          case rel => exact ⟨k + 1, n + 1, by go_num, by go_num, by omega, by omega, (by show _ = _; rw [HFM.out]; simp [he]), hB8⟩
          case measure => simp [intOf]; omega
        · go_wp2_with fail
          refine (HE.out _ (HRU.out.below hBa)).mono ?_
          rintro e w8 ⟨rfl, hb8⟩
          have hB8 := below_trans hBa hb8
          go_wp2_with fail
          go_roundw
          case rel => exact ⟨k + 1, n, by go_num, rfl, by omega, by omega, (by show _ = _; rw [HFM.out]; simp), hB8⟩
          case measure => simp [intOf]; omega
    · obtain rfl : k = ps.length := by omega
      have hN : ps.countP bdB = n := by have := HN.out; rw [List.take_of_length_le (Nat.le_refl _)] at this; exact this
      have HNN := Lib.hid hN
      clear hN
      go_wp2_with fail
      go_ret
      rw [HNN.out]
      exact ⟨rfl, below_trans hb1 hb⟩
end Go.Proofs.YtoliaphiipkopaaDoor
namespace Go.Proofs.YtoliaphiipkopaaDoor
open Go.RowKit
set_option maxHeartbeats 4000000
set_option maxRecDepth 100000
theorem two_of {α : Type} {l : List α} (h : l.length = 2) : ∃ a b, l = [a, b] := by
  match l, h with
  | [a, b], _ => exact ⟨a, b, rfl⟩
theorem alive35_any (w : World) : Calls Tryd.prog 4 #[] w fun e w' => e = .returned (.bool true) ∧ Below w.heap.size w w' := by
  have kc := fun (w : World) (C : Array Value) (n c : Nat) => Lib.run_convert_bytes_const (P := Tryd.prog) w 22 5 C n c Tryd.underlying22 Tryd.underlying5
  obtain ⟨f1, f2⟩ := alive35_facts
  have h1 := fun v w' h' => pread_any v [59, 32, 65, 42, 49, 42, 61, 120, 59, 32, 98, 61, 34, 99, 59, 100, 34, 59, 32, 61] w' h' (by intro x hx; simp at hx; omega) (by simp)
  have h2 := fun v w' h' => pbad_any v [97, 59, 98, 61, 99] w' h' (by intro x hx; simp at hx; omega) (by simp)
  rw [f1] at h1; rw [f2] at h2
  have H1 := Lib.hid h1; have H2 := Lib.hid h2
  clear h1 h2 f1 f2
  go_enter Tryd.func4, Tryd.ntmps4
  go_wp2_with fail
  refine (H1.out _ _ (Row.flit [59, 32, 65, 42, 49, 42, 61, 120, 59, 32, 98, 61, 34, 99, 59, 100, 34, 59, 32, 61] [_, _, _, _, _, _, _, _, _, _, _, _, _, _, _, _, _, _, _, _] rfl (by simp))).mono ?_
  rintro e w1 ⟨t, l, rfl, ol, hel, hb1⟩
  have hB1 := below_trans (below_alloc w _) hb1
  obtain ⟨r0, r1, rfl⟩ := two_of hel.1
  obtain ⟨a0, b0, rfl, ha0, hb0⟩ := hel.2 0 _ _ rfl rfl
  obtain ⟨a1, b1, rfl, ha1, hb2⟩ := hel.2 1 _ _ rfl rfl
  simp only at ol ha0 hb2
  obtain ⟨g, cap, rfl, hg1, hg2⟩ := ol.form (n := 2) rfl (by omega)
  obtain ⟨x0, y0, rfl⟩ := (id ha0.row).formN0 (n := 1) rfl
  obtain ⟨x1, y1, rfl⟩ := (id hb2.row).formN0 (n := 3) rfl
  have c0 := ol.cellAt (j := 0) rfl
  have c1 := ol.cellAt (j := 1) rfl
  have c2 := ol.cellAt (j := 2) rfl
  have c5 := ol.cellAt (j := 5) rfl
  have c7 := ol.cellAt (j := 7) rfl
  have cv1 := rowstr2 _ ha0.row
  have cv2 := rowstr2 _ hb2.row
  rw [show strOfNums [97] = ⟨#[97]⟩ from by first | rfl | decide] at cv1
  rw [show strOfNums [99, 59, 100] = ⟨#[99, 59, 100]⟩ from by first | rfl | decide] at cv2
  clear hel ol
  have kc1 := kc w1
  go_wp2_with fail
  refine (H2.out _ _ (Row.flit [97, 59, 98, 61, 99] [_, _, _, _, _] rfl (by simp))).mono ?_
  rintro e w2 ⟨rfl, hb3⟩
  go_wp2
  go_ret
  exact ⟨rfl, below_trans (hB1.alloc hB1.size _) hb3⟩
theorem joinP_step {ps : List (List Int)} {k : Nat} {p : List Int} (h : ps[k]? = some p) (h0 : 0 < k) : joinP (ps.take (k + 1)) = joinP (ps.take k) ++ [59] ++ p := by
  have hl : k < ps.length := (List.getElem?_eq_some_iff.1 h).1
  rw [List.take_add_one, h]
  show joinP (ps.take k ++ [p]) = _
  rw [joinP_snoc _ _ (by intro e; have := congrArg List.length e; rw [List.length_take, List.length_nil] at this; omega)]
  simp
theorem joinP_len : ∀ (l : List (List Int)) (k : Nat), (joinP (l.take k)).length ≤ (joinP l).length
  | [], k => by simp
  | [p], k => by
    cases k with
    | zero => simp [joinP]
    | succ k => simp
  | p :: q :: l, k => by
    cases k with
    | zero => simp [joinP]
    | succ k =>
      cases k with
      | zero => simp only [List.take_succ_cons, List.take_zero, joinP, List.length_append]; omega
      | succ k =>
        have ih := joinP_len (q :: l) (k + 1)
        simp only [List.take_succ_cons] at ih ⊢
        simp only [joinP, List.length_append, List.length_cons] at ih ⊢
        omega
end Go.Proofs.YtoliaphiipkopaaDoor
