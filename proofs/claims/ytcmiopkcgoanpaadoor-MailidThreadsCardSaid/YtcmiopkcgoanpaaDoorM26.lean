/- Walks: the names of a thread, found and taken away. · Walks: names the same, by the reference. · Walks: the names of a thread, those that are the same taken away. (laid together by program out of single texts). -/
import Derived.Deep.RegionHeld3
import Derived.BigQuiet
import Derived.Test.YtcmiopkcgoanpaaDoorM8
import Derived.Test.YtcmiopkcgoanpaaDoorM16
import Derived.Test.YtcmiopkcgoanpaaDoorM23
import Derived.Test.YtcmiopkcgoanpaaDoorM25
namespace Go.Proofs.YtcmiopkcgoanpaaDoor
open Go.RowKit
set_option maxHeartbeats 4000000
set_option maxRecDepth 100000
/-- A name's parts are octets, and not too many. -/
def IdR (q : List Int × List Int) : Prop := Rg 0 256 q.1 ∧ Rg 0 256 q.2 ∧ q.1.length ≤ 900000 ∧ q.2.length ≤ 900000
/-- The record at block P. -/
def Cy (P : Nat) (w : World) (x y : Value) : Prop := w.cell? ⟨P, 0, none⟩ = some x ∧ w.cell? ⟨P, 1, none⟩ = some y
theorem Cy.lt {P : Nat} {w : World} {x y : Value} (h : Cy P w x y) : P < w.heap.size := World.block_lt_of_cell? w _ h.1
theorem Cy.below {P : Nat} {w w' : World} {x y : Value} (h : Cy P w x y) (hb : Below w.heap.size w w') : Cy P w' x y :=
  ⟨(hb.cell (p := ⟨P, 0, none⟩) h.lt).trans h.1, (hb.cell (p := ⟨P, 1, none⟩) h.lt).trans h.2⟩
theorem Cy.new (w : World) (x y : Value) (T : TypeId) : Cy w.heap.size (w.alloc (.cells #[x, y] T)) x y := pair_new w x y T
theorem Cy.set {P g j : Nat} {w : World} {x y u : Value} (h : Cy P w x y) (hne : P ≠ g) : Cy P (w.setCell ⟨g, j, none⟩ u) x y :=
  ⟨(World.cell?_setCell_other _ _ _ _ (fun e => hne (by cases e; rfl))).trans h.1, (World.cell?_setCell_other _ _ _ _ (fun e => hne (by cases e; rfl))).trans h.2⟩
theorem Cy.cells {P g : Nat} {x y : Value} (hne : P ≠ g) : ∀ (cs : List Value) (o : Nat) (w : World), Cy P w x y → Cy P (w.setCells g o cs) x y
  | [], _, _, h => h
  | _ :: cs, o, _, h => Cy.cells hne cs (o + 1) _ (h.set hne)
theorem thr1_any (P : Nat) (y1 y2 a b : Value) (Y Z : List Int × List Int) (w : World) (hc : Cy P w y1 y2) (h1 : Row w y1 (ints .u8 Y.1)) (h2 : Row w y2 (ints .u8 Y.2)) (h3 : Row w a (ints .u8 Z.1)) (h4 : Row w b (ints .u8 Z.2)) (gY : IdR Y) (gZ : IdR Z) :
    Calls Tryd.prog 34 #[.agg #[a, b], .pointer (some ⟨P, 0, none⟩)] w fun e w' => e = .returned (.bool (samM Y Z)) ∧ Below w.heap.size w w' := by
  have hB := below_alloc w (.cells #[a, b] 25)
  have hS := msame_any y1 y2 a b Y.1 Y.2 Z.1 Z.2 _ (h1.below hB) (h2.below hB) (h3.below hB) (h4.below hB) gY.1 gY.2.1 gZ.1 gZ.2.1 gY.2.2.2 gZ.2.2.2
  have hc' := hc.below hB
  obtain ⟨c0, c1⟩ := id hc'
  obtain ⟨d0, d1⟩ := pair_new w a b 25
  have e9 : samM (Y.1, Y.2) (Z.1, Z.2) = samM Y Z := rfl
  rw [e9] at hS
  generalize samM Y Z = q at *
  have HS := Lib.hid hS
  clear hS e9 hc hc' h1 h2 h3 h4
  go_enter Tryd.func34, Tryd.ntmps34
  go_wp2_with fail
  refine HS.out.mono ?_
  rintro e w1 ⟨rfl, hb1⟩
  go_wp2
  go_ret
  exact ⟨rfl, below_trans hB hb1⟩
theorem idx2_any (P : Nat) (y1 y2 : Value) (Y : List Int × List Int) (v : Value) (l : List (Value × Value)) (L : List (List Int × List Int)) (w : World) (h : Row2 w v l) (e : IdL w l L) (hc : Cy P w y1 y2) (h1 : Row w y1 (ints .u8 Y.1)) (h2 : Row w y2 (ints .u8 Y.2)) (gY : IdR Y) (gL : ∀ q ∈ L, IdR q) (hl : L.length ≤ 1000000) :
    Calls Tryd.prog 52 #[v, (.func (.func 34) #[] #[.pointer (some ⟨P, 0, none⟩)])] w fun e w' => (∃ i : Int, e = .returned (.int .i64 i) ∧ ((i = -1 ∧ ∀ q ∈ L, samM Y q = false) ∨ (∃ (k : Nat) (q : List Int × List Int), i = k ∧ L[k]? = some q ∧ samM Y q = true ∧ ∀ q ∈ L.take k, samM Y q = false))) ∧ Below w.heap.size w w' := by
  obtain ⟨a, b, off, cp, rfl, hcp, hM, ha, ho, hcell⟩ := h
  have hl1 := e.1
  rw [hl1]
  have HL1 := Lib.hid hl1
  have HCL := Lib.hid hcell; have HA := Lib.hid ha; have HE := Lib.hid e; have HG := Lib.hid gL
  clear hcell ha e gL hcp hM ho hl1
  go_enter Tryd.func52, Tryd.ntmps52
  go_wp2
  go_loopw [8] (fun i wr => ∃ k : Nat, i = .int .i64 k ∧ k ≤ L.length ∧ Hid (∀ q ∈ L.take k, samM Y q = false) ∧ Below w.heap.size w wr) (fun i _ => L.length - (intOf i).toNat)
  case atStart => exact ⟨0, rfl, Nat.zero_le _, (fun q hq => by simp at hq : ∀ q ∈ L.take 0, samM Y q = false), Below.refl _ _⟩
  case round =>
    obtain ⟨k, rfl, hk, HK, hb⟩ := hrel
    by_cases hlt : k < L.length
    · obtain ⟨q, hq⟩ : ∃ q, L[k]? = some q := ⟨_, List.getElem?_eq_getElem hlt⟩
      obtain ⟨p, hp⟩ : ∃ p, l[k]? = some p := ⟨_, List.getElem?_eq_getElem (by rw [HL1.out]; exact hlt)⟩
      obtain ⟨r1, r2⟩ := HE.out.2 k p q hp hq
      have hqg := HG.out q (List.mem_of_getElem? hq)
      obtain rfl : a = some ⟨b, off, none⟩ := by
        rcases HA.out with h9 | ⟨h9, _⟩
        · exact h9
        · rw [h9] at hp; simp at hp
      have c1 := cell_kept (HCL.out _ _ (flat2_get hp).1) hb
      have c2 := cell_kept (HCL.out _ _ (flat2_get hp).2) hb
      obtain ⟨x1, x2⟩ := p
      simp only at r1 r2 c1 c2
      have hS := thr1_any P y1 y2 x1 x2 Y q wr (hc.below hb) (h1.below hb) (h2.below hb) (r1.below hb) (r2.below hb) gY hqg
      obtain ⟨o, HO⟩ : ∃ o, Hid (samM Y q = o) := ⟨_, rfl⟩
      rw [HO.out] at hS
      have HS := Lib.hid hS
      have HQ := Lib.hid hq
      clear hS hp hq r1 r2 hqg
      rw [← Nat.add_assoc] at c2
      rcases o with _ | _
      · go_wp2_with fail
        refine HS.out.mono ?_
        rintro e w2 ⟨rfl, hb2⟩
        have hB2 := below_trans hb hb2
        go_wp2_with fail
        go_roundw
        case rel => exact ⟨k + 1, by go_num, by omega, (by show ∀ q ∈ L.take (k + 1), samM Y q = false; intro z hz; rw [List.take_add_one, HQ.out] at hz; rcases List.mem_append.1 hz with h9 | h9; exact HK.out z h9; simp at h9; subst h9; exact HO.out), hB2⟩
        case measure => simp [intOf]; omega
      · go_wp2_with fail
        refine HS.out.mono ?_
        rintro e w2 ⟨rfl, hb2⟩
        have hB2 := below_trans hb hb2
        go_wp2
        go_ret
        exact ⟨⟨_, rfl, .inr ⟨k, q, rfl, HQ.out, HO.out, HK.out⟩⟩, hB2⟩
    · have h9 := HK.out
      rw [List.take_of_length_le (by omega)] at h9
      have HK9 := Lib.hid h9
      clear h9
      go_wp2
      go_ret
      exact ⟨⟨_, rfl, .inl ⟨rfl, HK9.out⟩⟩, hb⟩
theorem filter_none {α : Type} {p : α → Bool} : ∀ {l : List α}, (∀ q ∈ l, p q = false) → l.filter (fun z => !p z) = l
  | [], _ => rfl
  | a :: l, h => by
    rw [List.filter_cons, if_pos (by simp [h a (by simp)]), filter_none (fun q hq => h q (List.mem_cons_of_mem _ hq))]
theorem IdL.take {w : World} {l : List (Value × Value)} {L : List (List Int × List Int)} (h : IdL w l L) (k : Nat) : IdL w (l.take k) (L.take k) := by
  refine ⟨by rw [List.length_take, List.length_take, h.1], fun i p q hp hq => ?_⟩
  rw [List.getElem?_take] at hp hq
  split at hp
  · rename_i hi
    rw [if_pos hi] at hq
    exact h.2 i p q hp hq
  · cases hp
theorem take_set_snoc {α : Type} : ∀ (m : List α) (i : Nat) (x : α), i < m.length → (m.set i x).take (i + 1) = m.take i ++ [x]
  | [], i, x, h => by simp at h
  | a :: m, 0, x, _ => by simp
  | a :: m, i + 1, x, h => by
    have := take_set_snoc m i x (by simpa using h)
    simp [this]
theorem drop_set_lt {α : Type} : ∀ (m : List α) (i j : Nat) (x : α), i < j → (m.set i x).drop j = m.drop j
  | [], i, j, x, _ => by simp
  | a :: m, i, 0, x, h => by omega
  | a :: m, 0, j + 1, x, _ => by simp
  | a :: m, i + 1, j + 1, x, h => by
    simp [drop_set_lt m i j x (by omega)]
end Go.Proofs.YtcmiopkcgoanpaaDoor
namespace Go.Proofs.YtcmiopkcgoanpaaDoor
open Go.RowKit
set_option maxHeartbeats 8000000
set_option maxRecDepth 100000
theorem r01low_any (c : Int) (w : World) (_h0 : 0 ≤ c) (_h1 : c < 256) :
    Calls Tryd.prog 61 #[.int .u8 c] w fun e w' => e = .returned (.int .u8 (lowC c)) ∧ w' = w := by
  unfold lowC
  by_cases h : 65 ≤ c ∧ c ≤ 90
  · rw [if_pos h]
    obtain ⟨ha, hb⟩ := h
    have hw : IntKind.u8.wrap (c + 32) = c + 32 := IntWalk.u8_in _ (by omega)
    go_enter Tryd.func61, Tryd.ntmps61
    go_wp2
    go_ret
    first | exact ⟨rfl, rfl⟩ | exact ⟨congrArg Ending.returned (congrArg (Value.int .u8) hw), rfl⟩
  · rw [if_neg h]
    by_cases ha : 65 ≤ c
    · have hb : 90 < c := by omega
      clear h
      go_enter Tryd.func61, Tryd.ntmps61
      go_wp2
      go_ret
      exact ⟨rfl, rfl⟩
    · have hb : c < 65 := by omega
      clear h ha
      go_enter Tryd.func61, Tryd.ntmps61
      go_wp2
      go_ret
      exact ⟨rfl, rfl⟩
theorem r01fold_any (v : Value) (xs : List Int) (w : World) (h : Row w v (ints .u8 xs)) (hg : Rg 0 256 xs) (hl : xs.length ≤ 900000) :
    Calls Tryd.prog 53 #[v] w fun e w' => ∃ t, e = .returned t ∧ Own w.heap.size 5 w' t (ints .u8 (xs.map lowC)) ∧ Below w.heap.size w w' := by
  obtain ⟨a, b, off, cap, rfl, HC⟩ := id h.op
  go_enter Tryd.func53, Tryd.ntmps53
  go_wp2
  go_loopw [3, 4] (fun ov iv wr => ∃ k : Nat, iv = .int .i64 k ∧ k ≤ xs.length ∧ Hid (Own w.heap.size 5 wr ov (ints .u8 ((xs.take k).map lowC))) ∧ Below w.heap.size w wr) (fun _ iv _ => xs.length - (intOf iv).toNat)
  case atStart => exact ⟨0, rfl, Nat.zero_le _, Own.nil _ _ _, Below.refl _ _⟩
  case round =>
    obtain ⟨k, rfl, hk, HO, hb⟩ := hrel
    by_cases hlt : k < xs.length
    · obtain ⟨x, HX, rfl, hc⟩ := HC.out k hlt
      replace hc := hc _ hb
      have hxr := hg x (List.mem_of_getElem? HX.out)
      have HM := Lib.hid (fun w => r01low_any x w hxr.1 hxr.2)
      have HT : Hid (ints .u8 ((xs.take k).map lowC) ++ ints .u8 [lowC x] = ints .u8 ((xs.take (k + 1)).map lowC)) := by
        show _ = _
        rw [List.take_add_one, HX.out]
        simp [ints]
      generalize lowC x = z at *
      have HLN : Hid ((ints .u8 ((xs.take k).map lowC)).length ≤ 900000) := by
        show _ ≤ _
        rw [ints_length, List.length_map, List.length_take]; omega
      clear hxr
      go_wp2_with (first | (go_at_call 61; refine (HM.out _).mono ?_; rintro e w2 ⟨rfl, hw2⟩; obtain rfl := hw2.symm) | (at_builtin; refine wpList_app slT_u8 w.heap.size _ _ rfl rfl rfl rfl (HO.out.alloc _) (Row.ilit [z] [_] rfl (by simp)) (by have := HLN.out; simp only [ints_length, List.length_cons, List.length_nil] at this ⊢; omega) (by have := hb.size; simp; omega) ?_; intro t3 w3 ho3 hg3; have hb3 : Below w.heap.size w w3 := below_own (hb.alloc hb.size _) (HO.out.alloc _) hg3 (by have := hb.size; simp; omega) (Nat.le_refl _); rw [HT.out] at ho3))
      go_roundw
      case rel => exact ⟨k + 1, by go_num, by omega, ho3, hb3⟩
      case measure => simp [intOf]; omega
    · obtain rfl : k = xs.length := by omega
      have ho := HO.out
      rw [List.take_of_length_le (Nat.le_refl _)] at ho
      go_wp2
      go_ret
      exact ⟨_, rfl, ho, hb⟩
theorem rSame_any (a b c d : Value) (A B C D : List Int) (w : World) (ha : Row w a (ints .u8 A)) (hb0 : Row w b (ints .u8 B)) (hc : Row w c (ints .u8 C)) (hd : Row w d (ints .u8 D)) (gB : Rg 0 256 B) (gD : Rg 0 256 D) (hlA : A.length ≤ 900000) (hlB : B.length ≤ 900000) (hlC : C.length ≤ 900000) (hlD : D.length ≤ 900000) :
    Calls Tryd.prog 35 #[.agg #[a, b], .agg #[c, d]] w fun e w' => e = .returned (.bool (samM (A, B) (C, D))) ∧ Below w.heap.size w w' := by
  have h1 := fun w' h1' h2' => like1_any a c A C w' h1' h2' (by omega) (by omega)
  have h2 := fun w' h1' => r01fold_any b B w' h1' gB hlB
  have h3 := fun w' h1' => r01fold_any d D w' h1' gD hlD
  have h4 := fun t u w' h1' h2' => like1_any t u (B.map lowC) (D.map lowC) w' h1' h2' (by rw [List.length_map]; omega) (by rw [List.length_map]; omega)
  have e : samM (A, B) (C, D) = (decide (A = C) && decide (B.map lowC = D.map lowC)) := rfl
  rw [e]
  generalize decide (A = C) = p at *
  generalize decide (B.map lowC = D.map lowC) = q at *
  generalize B.map lowC = B' at *
  generalize D.map lowC = D' at *
  have H1 := Lib.hid h1; have H2 := Lib.hid h2; have H3 := Lib.hid h3; have H4 := Lib.hid h4
  clear h1 h2 h3 h4 e
  have hB1 := below_alloc w (.cells #[a, b] 29)
  have hB2 := hB1.alloc hB1.size (.cells #[c, d] 29)
  obtain ⟨x0, x1⟩ := pair_new w a b 29
  obtain ⟨z0, z1⟩ := pair_new (w.alloc (.cells #[a, b] 29)) c d 29
  replace x0 := cell_kept x0 (below_alloc _ (.cells #[c, d] 29))
  replace x1 := cell_kept x1 (below_alloc _ (.cells #[c, d] 29))
  have e9 : (w.alloc (.cells #[a, b] 29)).heap.size = w.heap.size + 1 := by simp
  rw [e9] at z0 z1
  have hPl : w.heap.size + 1 < ((w.alloc (.cells #[a, b] 29)).alloc (.cells #[c, d] 29)).heap.size := by simp
  have HK : Hid (∀ w', Below ((w.alloc (.cells #[a, b] 29)).alloc (.cells #[c, d] 29)).heap.size ((w.alloc (.cells #[a, b] 29)).alloc (.cells #[c, d] 29)) w' → (fun w' => w'.cell? ⟨w.heap.size, 0, none⟩ = some a ∧ w'.cell? ⟨w.heap.size, 1, none⟩ = some b ∧ w'.cell? ⟨w.heap.size + 1, 0, none⟩ = some c ∧ w'.cell? ⟨w.heap.size + 1, 1, none⟩ = some d) w') := fun w' hb' => ⟨(hb'.cell (p := ⟨w.heap.size, 0, none⟩) (by simp; omega)).trans x0, (hb'.cell (p := ⟨w.heap.size, 1, none⟩) (by simp; omega)).trans x1, (hb'.cell (p := ⟨w.heap.size + 1, 0, none⟩) hPl).trans z0, (hb'.cell (p := ⟨w.heap.size + 1, 1, none⟩) hPl).trans z1⟩
  have ra := ha.below hB2; have rb := hb0.below hB2; have rc := hc.below hB2; have rd := hd.below hB2
  clear x0 x1 z0 z1 e9 hPl hB1
  rcases p with _ | _
  · go_enter Tryd.func35, Tryd.ntmps35
    go_wp2_with fail
    generalize (w.alloc (.cells #[a, b] 29)).alloc (.cells #[c, d] 29) = w2 at *
    refine wp_region_held_drew (S := (fun w' => w'.cell? ⟨w.heap.size, 0, none⟩ = some a ∧ w'.cell? ⟨w.heap.size, 1, none⟩ = some b ∧ w'.cell? ⟨w.heap.size + 1, 0, none⟩ = some c ∧ w'.cell? ⟨w.heap.size + 1, 1, none⟩ = some d)) (by kernel_rfl) (HK.out _ ((Below.refl w2.heap.size w2).drew)) (fun hHeld => ?_)
    refine wpAnyH_take (i := 0) (v := (.pointer (some ⟨w.heap.size, 0, none⟩))) rfl (by kernel_rfl) (by kernel_rfl) (by kernel_rfl) (fun _ _ _ h => h) (Or.inl ⟨by rfl, fun _ hS => by obtain ⟨s0, s1, s2, s3⟩ := hS; go_simp⟩) hHeld ?_
    simp only [Act.put, List.getElem_toArray, List.getElem_cons_zero, List.setIfInBounds_toArray, List.set_cons_zero, List.set_cons_succ]
    refine wpAnyH_take (i := 1) (v := a) rfl (by kernel_rfl) (by kernel_rfl) (by kernel_rfl) (fun _ _ _ h => h) (Or.inl ⟨by rfl, fun _ hS => by obtain ⟨s0, s1, s2, s3⟩ := hS; go_simp⟩) hHeld ?_
    simp only [Act.put, List.getElem_toArray, List.getElem_cons_succ, List.getElem_cons_zero, List.setIfInBounds_toArray, List.set_cons_zero, List.set_cons_succ]
    refine wpAnyH_take (i := 2) (v := (.pointer (some ⟨w.heap.size + 1, 0, none⟩))) rfl (by kernel_rfl) (by kernel_rfl) (by kernel_rfl) (fun _ _ _ h => h) (Or.inl ⟨by rfl, fun _ hS => by obtain ⟨s0, s1, s2, s3⟩ := hS; go_simp⟩) hHeld ?_
    simp only [Act.put, List.getElem_toArray, List.getElem_cons_succ, List.getElem_cons_zero, List.setIfInBounds_toArray, List.set_cons_zero, List.set_cons_succ]
    refine wpAnyH_take (i := 3) (v := c) rfl (by kernel_rfl) (by kernel_rfl) (by kernel_rfl) (fun _ _ _ h => h) (Or.inl ⟨by rfl, fun _ hS => by obtain ⟨s0, s1, s2, s3⟩ := hS; go_simp⟩) hHeld ?_
    simp only [Act.put, List.getElem_toArray, List.getElem_cons_succ, List.getElem_cons_zero, List.setIfInBounds_toArray, List.set_cons_zero, List.set_cons_succ]
    refine wpAnyH_ready (rs := [4]) (by kernel_rfl) (by simp) ?_
    refine AllReadyH.cons rfl (fun K hK => ?_) AllReadyH.nil
    simp only [List.getElem_toArray, List.getElem_cons_succ, List.getElem_cons_zero]
    go_simp
    (go_at_call 17; refine (H1.out _ (ra.below ((Below.refl w2.heap.size w2).drew)) (rc.below ((Below.refl w2.heap.size w2).drew))).mono ?_; rintro e w3 ⟨rfl, hb3'⟩; have hb3 : Below w2.heap.size w2 w3 := ((Below.refl w2.heap.size w2).drew).trans hb3')
    refine hK.out _ _ (HK.out _ hb3) (fun hHeld => ?_)
    clear hK K
    refine wpAnyH_take (i := 5) (v := (.bool false)) rfl (by kernel_rfl) (by kernel_rfl) (by kernel_rfl) (fun _ _ _ h => h) (Or.inl ⟨by rfl, fun _ hS => by obtain ⟨s0, s1, s2, s3⟩ := hS; go_simp⟩) hHeld ?_
    simp only [Act.put, List.getElem_toArray, List.getElem_cons_succ, List.getElem_cons_zero, List.setIfInBounds_toArray, List.set_cons_zero, List.set_cons_succ]
    refine wpAnyH_take (i := 6) (v := undef) rfl (by kernel_rfl) (by kernel_rfl) (by kernel_rfl) (fun _ _ _ h => h) (Or.inr ⟨by rfl, rfl⟩) hHeld ?_
    simp only [Act.put, List.getElem_toArray, List.getElem_cons_succ, List.getElem_cons_zero, List.setIfInBounds_toArray, List.set_cons_zero, List.set_cons_succ]
    refine wpAnyH_take (i := 7) (v := undef) rfl (by kernel_rfl) (by kernel_rfl) (by kernel_rfl) (fun _ _ _ h => h) (Or.inr ⟨by rfl, rfl⟩) hHeld ?_
    simp only [Act.put, List.getElem_toArray, List.getElem_cons_succ, List.getElem_cons_zero, List.setIfInBounds_toArray, List.set_cons_zero, List.set_cons_succ]
    refine wpAnyH_take (i := 8) (v := undef) rfl (by kernel_rfl) (by kernel_rfl) (by kernel_rfl) (fun _ _ _ h => h) (Or.inr ⟨by rfl, rfl⟩) hHeld ?_
    simp only [Act.put, List.getElem_toArray, List.getElem_cons_succ, List.getElem_cons_zero, List.setIfInBounds_toArray, List.set_cons_zero, List.set_cons_succ]
    refine wpAnyH_take (i := 9) (v := undef) rfl (by kernel_rfl) (by kernel_rfl) (by kernel_rfl) (fun _ _ _ h => h) (Or.inr ⟨by rfl, rfl⟩) hHeld ?_
    simp only [Act.put, List.getElem_toArray, List.getElem_cons_succ, List.getElem_cons_zero, List.setIfInBounds_toArray, List.set_cons_zero, List.set_cons_succ]
    refine wpAnyH_take (i := 10) (v := undef) rfl (by kernel_rfl) (by kernel_rfl) (by kernel_rfl) (fun _ _ _ h => h) (Or.inr ⟨by rfl, rfl⟩) hHeld ?_
    simp only [Act.put, List.getElem_toArray, List.getElem_cons_succ, List.getElem_cons_zero, List.setIfInBounds_toArray, List.set_cons_zero, List.set_cons_succ]
    refine wpAnyH_take (i := 11) (v := undef) rfl (by kernel_rfl) (by kernel_rfl) (by kernel_rfl) (fun _ _ _ h => h) (Or.inr ⟨by rfl, rfl⟩) hHeld ?_
    simp only [Act.put, List.getElem_toArray, List.getElem_cons_succ, List.getElem_cons_zero, List.setIfInBounds_toArray, List.set_cons_zero, List.set_cons_succ]
    refine wpAnyH_take (i := 12) (v := undef) rfl (by kernel_rfl) (by kernel_rfl) (by kernel_rfl) (fun _ _ _ h => h) (Or.inr ⟨by rfl, rfl⟩) hHeld ?_
    simp only [Act.put, List.getElem_toArray, List.getElem_cons_succ, List.getElem_cons_zero, List.setIfInBounds_toArray, List.set_cons_zero, List.set_cons_succ]
    refine wpAnyH_take (i := 13) (v := (.bool false)) rfl (by kernel_rfl) (by kernel_rfl) (by kernel_rfl) (fun _ _ _ h => h) (Or.inl ⟨by rfl, fun _ hS => by obtain ⟨s0, s1, s2, s3⟩ := hS; go_simp⟩) hHeld ?_
    simp only [Act.put, List.getElem_toArray, List.getElem_cons_succ, List.getElem_cons_zero, List.setIfInBounds_toArray, List.set_cons_zero, List.set_cons_succ]
    refine wpAnyH_take (i := 14) (v := (.bool false)) rfl (by kernel_rfl) (by kernel_rfl) (by kernel_rfl) (fun _ _ _ h => h) (Or.inl ⟨by rfl, fun _ hS => by obtain ⟨s0, s1, s2, s3⟩ := hS; go_simp⟩) hHeld ?_
    simp only [Act.put, List.getElem_toArray, List.getElem_cons_succ, List.getElem_cons_zero, List.setIfInBounds_toArray, List.set_cons_zero, List.set_cons_succ]
    refine wpAnyH_done (by kernel_rfl) ?_ _
    go_wp2
    go_ret
    exact ⟨rfl, below_trans hB2 hb3⟩
  · go_enter Tryd.func35, Tryd.ntmps35
    go_wp2_with fail
    generalize (w.alloc (.cells #[a, b] 29)).alloc (.cells #[c, d] 29) = w2 at *
    refine wp_region_held_drew (S := (fun w' => w'.cell? ⟨w.heap.size, 0, none⟩ = some a ∧ w'.cell? ⟨w.heap.size, 1, none⟩ = some b ∧ w'.cell? ⟨w.heap.size + 1, 0, none⟩ = some c ∧ w'.cell? ⟨w.heap.size + 1, 1, none⟩ = some d)) (by kernel_rfl) (HK.out _ ((Below.refl w2.heap.size w2).drew)) (fun hHeld => ?_)
    refine wpAnyH_take (i := 0) (v := (.pointer (some ⟨w.heap.size, 0, none⟩))) rfl (by kernel_rfl) (by kernel_rfl) (by kernel_rfl) (fun _ _ _ h => h) (Or.inl ⟨by rfl, fun _ hS => by obtain ⟨s0, s1, s2, s3⟩ := hS; go_simp⟩) hHeld ?_
    simp only [Act.put, List.getElem_toArray, List.getElem_cons_zero, List.setIfInBounds_toArray, List.set_cons_zero, List.set_cons_succ]
    refine wpAnyH_take (i := 1) (v := a) rfl (by kernel_rfl) (by kernel_rfl) (by kernel_rfl) (fun _ _ _ h => h) (Or.inl ⟨by rfl, fun _ hS => by obtain ⟨s0, s1, s2, s3⟩ := hS; go_simp⟩) hHeld ?_
    simp only [Act.put, List.getElem_toArray, List.getElem_cons_succ, List.getElem_cons_zero, List.setIfInBounds_toArray, List.set_cons_zero, List.set_cons_succ]
    refine wpAnyH_take (i := 2) (v := (.pointer (some ⟨w.heap.size + 1, 0, none⟩))) rfl (by kernel_rfl) (by kernel_rfl) (by kernel_rfl) (fun _ _ _ h => h) (Or.inl ⟨by rfl, fun _ hS => by obtain ⟨s0, s1, s2, s3⟩ := hS; go_simp⟩) hHeld ?_
    simp only [Act.put, List.getElem_toArray, List.getElem_cons_succ, List.getElem_cons_zero, List.setIfInBounds_toArray, List.set_cons_zero, List.set_cons_succ]
    refine wpAnyH_take (i := 3) (v := c) rfl (by kernel_rfl) (by kernel_rfl) (by kernel_rfl) (fun _ _ _ h => h) (Or.inl ⟨by rfl, fun _ hS => by obtain ⟨s0, s1, s2, s3⟩ := hS; go_simp⟩) hHeld ?_
    simp only [Act.put, List.getElem_toArray, List.getElem_cons_succ, List.getElem_cons_zero, List.setIfInBounds_toArray, List.set_cons_zero, List.set_cons_succ]
    refine wpAnyH_ready (rs := [4]) (by kernel_rfl) (by simp) ?_
    refine AllReadyH.cons rfl (fun K hK => ?_) AllReadyH.nil
    simp only [List.getElem_toArray, List.getElem_cons_succ, List.getElem_cons_zero]
    go_simp
    (go_at_call 17; refine (H1.out _ (ra.below ((Below.refl w2.heap.size w2).drew)) (rc.below ((Below.refl w2.heap.size w2).drew))).mono ?_; rintro e w3 ⟨rfl, hb3'⟩; have hb3 : Below w2.heap.size w2 w3 := ((Below.refl w2.heap.size w2).drew).trans hb3')
    refine hK.out _ _ (HK.out _ hb3) (fun hHeld => ?_)
    clear hK K
    refine wpAnyH_take (i := 5) (v := (.bool true)) rfl (by kernel_rfl) (by kernel_rfl) (by kernel_rfl) (fun _ _ _ h => h) (Or.inl ⟨by rfl, fun _ hS => by obtain ⟨s0, s1, s2, s3⟩ := hS; go_simp⟩) hHeld ?_
    simp only [Act.put, List.getElem_toArray, List.getElem_cons_succ, List.getElem_cons_zero, List.setIfInBounds_toArray, List.set_cons_zero, List.set_cons_succ]
    refine wpAnyH_take (i := 6) (v := (.pointer (some ⟨w.heap.size, 1, none⟩))) rfl (by kernel_rfl) (by kernel_rfl) (by kernel_rfl) (fun _ _ _ h => h) (Or.inl ⟨by rfl, fun _ hS => by obtain ⟨s0, s1, s2, s3⟩ := hS; go_simp⟩) hHeld ?_
    simp only [Act.put, List.getElem_toArray, List.getElem_cons_succ, List.getElem_cons_zero, List.setIfInBounds_toArray, List.set_cons_zero, List.set_cons_succ]
    refine wpAnyH_take (i := 7) (v := b) rfl (by kernel_rfl) (by kernel_rfl) (by kernel_rfl) (fun _ _ _ h => h) (Or.inl ⟨by rfl, fun _ hS => by obtain ⟨s0, s1, s2, s3⟩ := hS; go_simp⟩) hHeld ?_
    simp only [Act.put, List.getElem_toArray, List.getElem_cons_succ, List.getElem_cons_zero, List.setIfInBounds_toArray, List.set_cons_zero, List.set_cons_succ]
    refine wpAnyH_take (i := 9) (v := (.pointer (some ⟨w.heap.size + 1, 1, none⟩))) rfl (by kernel_rfl) (by kernel_rfl) (by kernel_rfl) (fun _ _ _ h => h) (Or.inl ⟨by rfl, fun _ hS => by obtain ⟨s0, s1, s2, s3⟩ := hS; go_simp⟩) hHeld ?_
    simp only [Act.put, List.getElem_toArray, List.getElem_cons_succ, List.getElem_cons_zero, List.setIfInBounds_toArray, List.set_cons_zero, List.set_cons_succ]
    refine wpAnyH_take (i := 10) (v := d) rfl (by kernel_rfl) (by kernel_rfl) (by kernel_rfl) (fun _ _ _ h => h) (Or.inl ⟨by rfl, fun _ hS => by obtain ⟨s0, s1, s2, s3⟩ := hS; go_simp⟩) hHeld ?_
    simp only [Act.put, List.getElem_toArray, List.getElem_cons_succ, List.getElem_cons_zero, List.setIfInBounds_toArray, List.set_cons_zero, List.set_cons_succ]
    refine wpAnyH_ready (rs := [8]) (by kernel_rfl) (by simp) ?_
    refine AllReadyH.cons rfl (fun K hK => ?_) AllReadyH.nil
    simp only [List.getElem_toArray, List.getElem_cons_succ, List.getElem_cons_zero]
    rw [if_pos (by rfl)]
    go_simp
    (go_at_call 53; refine (H2.out _ (rb.below hb3)).mono ?_; rintro e w4 ⟨t4, rfl, ho4, hb4'⟩; have hb4 : Below w2.heap.size w2 w4 := below_trans hb3 hb4')
    refine hK.out _ _ (HK.out _ hb4) (fun hHeld => ?_)
    clear hK K
    refine wpAnyH_ready (rs := [11]) (by kernel_rfl) (by simp) ?_
    refine AllReadyH.cons rfl (fun K hK => ?_) AllReadyH.nil
    simp only [List.getElem_toArray, List.getElem_cons_succ, List.getElem_cons_zero]
    rw [if_pos (by rfl)]
    go_simp
    (go_at_call 53; refine (H3.out _ (rd.below hb4)).mono ?_; rintro e w5 ⟨t5, rfl, ho5, hb5'⟩; have hb5 : Below w2.heap.size w2 w5 := below_trans hb4 hb5')
    refine hK.out _ _ (HK.out _ hb5) (fun hHeld => ?_)
    clear hK K
    refine wpAnyH_ready (rs := [12]) (by kernel_rfl) (by simp) ?_
    refine AllReadyH.cons rfl (fun K hK => ?_) AllReadyH.nil
    simp only [List.getElem_toArray, List.getElem_cons_succ, List.getElem_cons_zero]
    rw [if_pos (by rfl)]
    go_simp
    (go_at_call 17; refine (H4.out _ _ _ (ho4.row.below hb5') ho5.row).mono ?_; rintro e w6 ⟨rfl, hb6'⟩; have hb6 : Below w2.heap.size w2 w6 := below_trans hb5 hb6')
    refine hK.out _ _ (HK.out _ hb6) (fun hHeld => ?_)
    clear hK K
    refine wpAnyH_take (i := 13) (v := (.bool q)) rfl (by kernel_rfl) (by kernel_rfl) (by kernel_rfl) (fun _ _ _ h => h) (Or.inl ⟨by rfl, fun _ hS => by obtain ⟨s0, s1, s2, s3⟩ := hS; go_simp⟩) hHeld ?_
    simp only [Act.put, List.getElem_toArray, List.getElem_cons_succ, List.getElem_cons_zero, List.setIfInBounds_toArray, List.set_cons_zero, List.set_cons_succ]
    refine wpAnyH_take (i := 14) (v := (.bool q)) rfl (by kernel_rfl) (by kernel_rfl) (by kernel_rfl) (fun _ _ _ h => h) (Or.inl ⟨by rfl, fun _ hS => by obtain ⟨s0, s1, s2, s3⟩ := hS; go_simp⟩) hHeld ?_
    simp only [Act.put, List.getElem_toArray, List.getElem_cons_succ, List.getElem_cons_zero, List.setIfInBounds_toArray, List.set_cons_zero, List.set_cons_succ]
    refine wpAnyH_done (by kernel_rfl) ?_ _
    go_wp2
    go_ret
    exact ⟨ret_bool (by simp), below_trans hB2 hb6⟩
end Go.Proofs.YtcmiopkcgoanpaaDoor
namespace Go.Proofs.YtcmiopkcgoanpaaDoor
open Go.RowKit
set_option maxHeartbeats 8000000
set_option maxRecDepth 100000
theorem Own2.form {B : Nat} {E : TypeId} {w : World} {v : Value} {l : List (Value × Value)} (h : Own2 B E w v l) (h0 : 0 < l.length) : ∃ g cap, v = .slice (some ⟨g, 0, none⟩) l.length cap ∧ B ≤ g ∧ g < w.heap.size := by
  obtain ⟨g, cap, hv, h1, h2⟩ := h.1.form h0
  exact ⟨g, cap, hv, h1, h2⟩
theorem Own2.one {B g n cap : Nat} {E : TypeId} {w : World} {l : List (Value × Value)} (h : Own2 B E w (.slice (some ⟨g, 0, none⟩) n cap) l) {i : Nat} (hi : i < l.length) : ∃ x y, w.cell? ⟨g, i * 2, none⟩ = some x ∧ w.cell? ⟨g, i * 2 + 1, none⟩ = some y := by
  obtain ⟨p, hp⟩ : ∃ p, l[i]? = some p := ⟨_, List.getElem?_eq_getElem hi⟩
  exact ⟨p.1, p.2, h.cellAt (flat2_get hp).1, h.cellAt (flat2_get hp).2⟩
theorem Own2.cap {B g n cap : Nat} {E : TypeId} {w : World} {l : List (Value × Value)} (h : Own2 B E w (.slice (some ⟨g, 0, none⟩) n cap) l) : n ≤ cap ∧ cap ≤ maxLen := by
  obtain ⟨_, _, _, _, hv, hc, hm, _⟩ := h.row
  have := h.len
  simp only [Value.slice.injEq] at hv
  obtain ⟨_, _, rfl⟩ := hv
  omega
/-- What the loop of DeleteFunc keeps. -/
def DlI (w0 : World) (P : Nat) (y1 y2 : Value) (Y : List Int × List Int) (l : List (Value × Value)) (L : List (List Int × List Int)) (g cap : Nat) (iv jv : Value) (wr : World) : Prop :=
  ∃ (i j : Nat) (m : List (Value × Value)), iv = .int .i64 i ∧ jv = .int .i64 j ∧ i < j ∧ j ≤ L.length ∧ Hid (m.length = L.length) ∧ Hid (Own2 w0.heap.size 25 wr (.slice (some ⟨g, 0, none⟩) L.length cap) m) ∧
    Hid (IdL w0 (m.take i) ((L.take j).filter fun z => !samM Y z)) ∧ Hid (m.drop j = l.drop j) ∧ Hid (Cy P wr y1 y2) ∧ Below w0.heap.size w0 wr
theorem filter_yes {Y q : List Int × List Int} {L : List (List Int × List Int)} {j : Nat} (hq : L[j]? = some q) (ho : samM Y q = true) : (L.take (j + 1)).filter (fun z => !samM Y z) = (L.take j).filter (fun z => !samM Y z) := by
  rw [List.take_add_one, hq]
  simp [ho]
theorem filter_no {Y q : List Int × List Int} {L : List (List Int × List Int)} {j : Nat} (hq : L[j]? = some q) (ho : samM Y q = false) : (L.take (j + 1)).filter (fun z => !samM Y z) = (L.take j).filter (fun z => !samM Y z) ++ [q] := by
  rw [List.take_add_one, hq]
  simp [ho]
theorem del_any (P : Nat) (y1 y2 : Value) (Y : List Int × List Int) (v : Value) (l : List (Value × Value)) (L : List (List Int × List Int)) (w0 w : World) (hb0 : Below w0.heap.size w0 w) (hown : Own2 w0.heap.size 25 w v l) (hid : IdL w0 l L)
    (h1 : Row w0 y1 (ints .u8 Y.1)) (h2 : Row w0 y2 (ints .u8 Y.2)) (hc : Cy P w y1 y2) (hP : v.ownBlock ≠ some P) (gY : IdR Y) (gL : ∀ q ∈ L, IdR q) (hl : L.length ≤ 1000000) :
    Calls Tryd.prog 33 #[v, (.func (.func 34) #[] #[.pointer (some ⟨P, 0, none⟩)])] w fun e w' => ∃ v' l', e = .returned v' ∧ Own2 w0.heap.size 25 w' v' l' ∧ IdL w0 l' (L.filter fun z => !samM Y z) ∧ Cy P w' y1 y2 ∧ Below w0.heap.size w0 w' := by
  have hI := idx2_any P y1 y2 Y v l L w hown.row (hid.below hb0) hc (h1.below hb0) (h2.below hb0) gY gL hl
  have HI := Lib.hid hI; have HID := Lib.hid hid; have HG := Lib.hid gL; have HOW := Lib.hid hown; have HC := Lib.hid hc
  clear hI hid gL hown hc
  go_enter Tryd.func33, Tryd.ntmps33
  go_wp2_with fail
  refine HI.out.mono ?_
  rintro e w1 ⟨⟨i, rfl, hi⟩, hb1⟩
  rcases hi with ⟨rfl, hn⟩ | ⟨k, q, rfl, hq, ho, hn⟩
  · have HN := Lib.hid hn
    clear hn
    go_wp2
    go_ret
    exact ⟨v, l, rfl, HOW.out.below hb1, by rw [filter_none HN.out]; exact HID.out, HC.out.below hb1, below_trans hb0 hb1⟩
  · have hkl : k < L.length := (List.getElem?_eq_some_iff.1 hq).1
    obtain ⟨g, cap, hv, hgB, hgs⟩ := HOW.out.form (by rw [HID.out.1]; omega)
    rw [HID.out.1] at hv
    subst hv
    have hne : P ≠ g := fun e => hP (by rw [e]; rfl)
    have hk1 : ((k : Int) == -1) = false := beq_false_of_ne (by omega)
    have HST : Hid (IdL w0 (l.take k) ((L.take (k + 1)).filter fun z => !samM Y z)) := by
      show IdL _ _ _
      rw [filter_yes hq ho, filter_none hn]
      exact HID.out.take k
    have hcap := HOW.out.cap
    have HOW1 := Lib.hid (HOW.out.below hb1)
    have HC1 := Lib.hid (HC.out.below hb1)
    have hb01 := below_trans hb0 hb1
    clear hq ho hn hP
    go_wp2
    go_loopw [5, 6] (fun iv jv wr => DlI w0 P y1 y2 Y l L g cap iv jv wr) (fun _ jv _ => L.length - (intOf jv).toNat)
    case atStart => exact ⟨k, k + 1, l, rfl, by go_num, by omega, by omega, HID.out.1, HOW1.out, HST.out, rfl, HC1.out, hb01⟩
    case round =>
      obtain ⟨i, j, m, rfl, rfl, hij, hj, HML, HO, HT, HD, HCY, hb⟩ := hrel
      by_cases hlt : j < L.length
      · obtain ⟨q, hq⟩ : ∃ q, L[j]? = some q := ⟨_, List.getElem?_eq_getElem hlt⟩
        obtain ⟨p, hp⟩ : ∃ p, l[j]? = some p := ⟨_, List.getElem?_eq_getElem (by rw [HID.out.1]; exact hlt)⟩
        have hmj : m[j]? = some p := by
          have h9 := congrArg (fun z => z[0]?) HD.out
          simp only [List.getElem?_drop, Nat.add_zero] at h9
          rw [h9, hp]
        have HD1 : Hid (m.drop (j + 1) = l.drop (j + 1)) := by
          show _ = _
          have h9 := congrArg (fun z => z.drop 1) HD.out
          simpa [List.drop_drop] using h9
        obtain ⟨r1, r2⟩ := HID.out.2 j p q hp hq
        have hqg := HG.out q (List.mem_of_getElem? hq)
        have c1 := HO.out.cellAt (flat2_get hmj).1
        have c2 := HO.out.cellAt (flat2_get hmj).2
        obtain ⟨x1, x2⟩ := p
        simp only at r1 r2 c1 c2
        obtain ⟨b1, d1, rfl⟩ := (id r1).formN0 (n := q.1.length) (by rw [ints_length])
        obtain ⟨b2, d2, rfl⟩ := (id r2).formN0 (n := q.2.length) (by rw [ints_length])
        have hBa := below_alloc wr (.cells #[(.slice b1 q.1.length d1), (.slice b2 q.2.length d2)] 25)
        have hb2 := below_trans hb hBa
        have hS := thr1_any P y1 y2 (.slice b1 q.1.length d1) (.slice b2 q.2.length d2) Y q (wr.alloc (.cells #[(.slice b1 q.1.length d1), (.slice b2 q.2.length d2)] 25)) (HCY.out.below hBa) (h1.below hb2) (h2.below hb2) (r1.below hb2) (r2.below hb2) gY hqg
        obtain ⟨o, HOO⟩ : ∃ o, Hid (samM Y q = o) := ⟨_, rfl⟩
        rw [HOO.out] at hS
        obtain ⟨k0, k1⟩ := pair_new wr (.slice b1 q.1.length d1) (.slice b2 q.2.length d2) 25
        have HS := Lib.hid hS
        have HQ := Lib.hid hq
        have HR1 := Lib.hid r1; have HR2 := Lib.hid r2
        clear hS hp hq r1 r2 hqg hmj
        rcases o with _ | _
        · go_wp2_with fail
          refine HS.out.mono ?_
          rintro e w3 ⟨rfl, hb3⟩
          replace k0 := cell_kept k0 hb3
          replace k1 := cell_kept k1 hb3
          have hb4 := below_trans hb2 hb3
          have HO3 := Lib.hid ((HO.out.below hBa).below hb3)
          have HC3 := Lib.hid ((HCY.out.below hBa).below hb3)
          obtain ⟨u1, u2, s1, s2⟩ := HO3.out.one (i := i) (by rw [HML.out]; omega)
          have f1 := HO3.out.frozen (i * 2)
          have f2 := HO3.out.frozen (i * 2 + 1)
          clear c1 c2 hBa hb3
          go_wp2_with fail
          go_roundw
          case rel => exact ⟨i + 1, j + 1, m.set i ((.slice b1 q.1.length d1), (.slice b2 q.2.length d2)), by go_num, by go_num, by omega, by omega, (by show _ = _; rw [List.length_set]; exact HML.out), HO3.out.put i (by rw [HML.out]; omega) ((.slice b1 q.1.length d1), (.slice b2 q.2.length d2)) ⟨rfl, rfl⟩, (by rw [filter_no HQ.out HOO.out, take_set_snoc m i _ (by rw [HML.out]; omega)]; exact IdL.snoc HT.out HR1.out HR2.out), (by show _ = _; rw [drop_set_lt m i (j + 1) _ (by omega)]; exact HD1.out), (HC3.out.set hne).set hne, (hb4.setCell hgB _).setCell hgB _⟩
          case measure => simp [intOf]; omega
        · go_wp2_with fail
          refine HS.out.mono ?_
          rintro e w3 ⟨rfl, hb3⟩
          have hb4 := below_trans hb2 hb3
          have HO3 := Lib.hid ((HO.out.below hBa).below hb3)
          have HC3 := Lib.hid ((HCY.out.below hBa).below hb3)
          clear c1 c2 hBa hb3 k0 k1
          go_wp2_with fail
          go_roundw
          case rel => exact ⟨i, j + 1, m, rfl, by go_num, by omega, by omega, HML.out, HO3.out, by (rw [filter_yes HQ.out HOO.out]; exact HT.out), HD1.out, HC3.out, hb4⟩
          case measure => simp [intOf]; omega
      · obtain rfl : j = L.length := by omega
        have hL2 : (flat2 m).length = L.length * 2 := by rw [flat2_len, HML.out]
        obtain ⟨cs, hcs⟩ := run_clear2 (P := Tryd.prog) wr 32 25 0 (.agg #[.slice none 0 0, .slice none 0 0]) (.slice none 0 0) (.slice none 0 0) Tryd.underlying32 (fun w => by kernel_rfl) rfl ⟨rfl, rfl⟩ g (i * 2) (L.length - i) (cap - i) (by omega)
          (fun j hj => by
            obtain ⟨u, hu⟩ : ∃ u, (flat2 m)[i * 2 + j]? = some u := ⟨_, List.getElem?_eq_getElem (by rw [hL2]; omega)⟩
            rw [HO.out.cellAt hu]; rfl) (fun j _ => HO.out.frozen _)
        have HF : Hid (IdL w0 (m.take i) (L.filter fun z => !samM Y z)) := by
          have h9 := HT.out
          rw [List.take_of_length_le (Nat.le_refl _)] at h9
          exact h9
        have HO9 := Lib.hid (HO.out.cut i (by rw [HML.out]; omega))
        clear hL2 HT HD
        go_wp2_with (simp only [hcs])
        go_ret
        have hcut := Own2.cleared (g := g) cs (i * 2) wr (by rw [List.length_take, HML.out]; omega) HO9.out
        exact ⟨_, _, rfl, hcut, HF.out, Cy.cells hne cs _ _ HCY.out, below_cells hgB cs _ _ hb⟩
end Go.Proofs.YtcmiopkcgoanpaaDoor
