/- Walks: a message's name, checked and laid. · Walks: a message's name, its text; laid. · Walks: octets folded; two names the same. (laid together by program out of single texts). -/
import Derived.Test.YtcmiopkcgoanpaaDoorM8
import Derived.Test.YtcmiopkcgoanpaaDoorM11
import Derived.Test.YtcmiopkcgoanpaaDoorM13
import Derived.Test.YtcmiopkcgoanpaaDoorM15
namespace Go.Proofs.YtcmiopkcgoanpaaDoor
open Go.RowKit
set_option maxHeartbeats 4000000
set_option maxRecDepth 100000
theorem cell_kept {w w' : World} {a : Addr} {v : Value} (h : w.cell? a = some v) (hb : Below w.heap.size w w') : w'.cell? a = some v := by
  rw [← h]; exact hb.cell (World.block_lt_of_cell? w _ h)
theorem pair_new (w : World) (a b : Value) (T : TypeId) : (w.alloc (.cells #[a, b] T)).cell? ⟨w.heap.size, 0, none⟩ = some a ∧ (w.alloc (.cells #[a, b] T)).cell? ⟨w.heap.size, 1, none⟩ = some b := by
  have hc := fun j => cell_of_row (w.alloc (.cells #[a, b] T)) w.heap.size j #[a, b] T (0, 0) (heap_alloc_new w _)
  exact ⟨by rw [hc]; rfl, by rw [hc]; rfl⟩
theorem flat_snoc {ps : List (List Int)} {k : Nat} {p : List Int} (h : ps[k]? = some p) : (ps.take (k + 1)).flatten = (ps.take k).flatten ++ p := by
  rw [List.take_add_one, h]; simp
theorem flat_take (ps : List (List Int)) (k : Nat) : ((ps.take k).flatten).length ≤ ps.flatten.length := by
  have h : ps.flatten = (ps.take k).flatten ++ (ps.drop k).flatten := by rw [← List.flatten_append, List.take_append_drop]
  rw [h, List.length_append]; omega
theorem joined_any (v : Value) (vs : List Value) (ps : List (List Int)) (w : World) (h : Row w v vs) (hp : Pvs w vs ps) (hl : vs.length ≤ 1000000) (hs : ps.flatten.length ≤ 1000000) :
    Calls Tryd.prog 51 #[v] w fun e w' => ∃ t, e = .returned t ∧ Own w.heap.size 5 w' t (ints .u8 ps.flatten) ∧ Below w.heap.size w w' := by
  obtain ⟨a, b, off, cp, rfl, hcp, hM, ha, h1, hcell⟩ := h
  have HP := Lib.hid hp
  have HCL := Lib.hid hcell
  have HA := Lib.hid ha
  have HS := Lib.hid hs
  clear hp hcell ha h1 hcp hM hs
  go_enter Tryd.func51, Tryd.ntmps51
  go_wp2
  go_loopw [3, 8] (fun o i wr => ∃ k : Nat, i = .int .i64 k ∧ k ≤ vs.length ∧ Hid (Own w.heap.size 5 wr o (ints .u8 (ps.take k).flatten)) ∧ Below w.heap.size w wr) (fun _ i _ => vs.length - (intOf i).toNat)
  case atStart => exact ⟨0, rfl, Nat.zero_le _, Own.nil _ _ _, Below.refl _ _⟩
  case round =>
    obtain ⟨k, rfl, hk, HO, hb⟩ := hrel
    by_cases hlt : k < vs.length
    · obtain ⟨u, p, hu, hpk, hru⟩ := HP.out.get hlt
      have hcc := cell_kept (HCL.out k u hu) hb
      obtain rfl : a = some ⟨b, off, none⟩ := by
        rcases HA.out with h9 | ⟨h9, _⟩
        · exact h9
        · rw [h9] at hlt; simp at hlt
      have hfs := flat_snoc hpk
      have hft := flat_take ps k
      have hpl : p.length ≤ ps.flatten.length := by
        have := flat_take ps (k + 1)
        rw [hfs, List.length_append] at this; omega
      have HFS := Lib.hid hfs
      have HLB : Hid ((ints .u8 (ps.take k).flatten).length + (ints .u8 p).length ≤ 1000000000) := by
        show _ ≤ _; rw [ints_length, ints_length]; have := HS.out; omega
      have HRU := Lib.hid hru
      clear hu hpk hru hfs hft hpl
      go_wp2_with (at_builtin; refine wpList_app slT_u8 _ _ _ rfl rfl rfl rfl HO.out (HRU.out.below hb) HLB.out hb.size ?_; intro t2 w2 hown2 hg2)
      go_roundw
      case rel => exact ⟨k + 1, by go_num, by omega, by show Own _ _ _ _ _; rw [HFS.out, ints_append]; exact hown2, below_app hb (Below.refl _ _) HO.out hg2⟩
      case measure => simp [intOf]; omega
    · have ho := HO.out
      rw [List.take_of_length_le (by rw [← HP.out.1]; omega)] at ho
      go_wp2
      go_ret
      exact ⟨_, rfl, ho, hb⟩
theorem may_any (a b : Value) (L R : List Int) (w : World) (ha : Row w a (ints .u8 L)) (hb0 : Row w b (ints .u8 R)) (hgL : Rg 0 256 L) (hgR : Rg 0 256 R) (hlL : L.length ≤ 900000) (hlR : R.length ≤ 900000) :
    Calls Tryd.prog 43 #[.agg #[a, b]] w fun e w' => e = .returned (.bool (dotB L && dotB R)) ∧ Below w.heap.size w w' := by
  have h1 := fun w' h' => mDotted_any a L w' h' hgL hlL
  have h2 := fun w' h' => mDotted_any b R w' h' hgR hlR
  generalize dotB L = p at *
  generalize dotB R = q at *
  have H1 := Lib.hid h1; have H2 := Lib.hid h2
  clear h1 h2
  obtain ⟨hc0, hc1⟩ := pair_new w a b 25
  have HC1 := Lib.hid hc1
  clear hc0 hc1
  rcases p with _ | _
  · go_enter Tryd.func43, Tryd.ntmps43
    go_wp2_with (go_at_call 13; refine (H1.out _ (ha.alloc _)).mono ?_; rintro e w1 ⟨rfl, hb1⟩)
    go_ret
    exact ⟨rfl, below_trans (below_alloc _ _) hb1⟩
  · go_enter Tryd.func43, Tryd.ntmps43
    go_wp2_with fail
    refine (H1.out _ (ha.alloc _)).mono ?_
    rintro e w1 ⟨rfl, hb1⟩
    have hc1 := cell_kept HC1.out hb1
    go_wp2_with fail
    refine (H2.out _ ((hb0.alloc _).below hb1)).mono ?_
    rintro e w2 ⟨rfl, hb2⟩
    go_wp2
    go_ret
    exact ⟨rfl, below_trans (below_trans (below_alloc _ _) hb1) hb2⟩
end Go.Proofs.YtcmiopkcgoanpaaDoor
namespace Go.Proofs.YtcmiopkcgoanpaaDoor
open Go.RowKit
set_option maxHeartbeats 4000000
set_option maxRecDepth 100000
/-- The world in which a name's five pieces lie. -/
def w5 (w : World) (T : TypeId) (a b : Value) : World :=
  ((((w.alloc (.cells #[a, b] T)).alloc (.cells #[.int .u8 60] 5)).alloc (.cells #[.int .u8 64] 5)).alloc (.cells #[.int .u8 62] 5)).alloc
    (.cells #[.slice (some ⟨w.heap.size + 1, 0, none⟩) 1 1, a, .slice (some ⟨w.heap.size + 2, 0, none⟩) 1 1, b, .slice (some ⟨w.heap.size + 3, 0, none⟩) 1 1] 22)
theorem text_lits (w : World) (T : TypeId) (a b : Value) (L R : List Int) (ha : Row w a (ints .u8 L)) (hb : Row w b (ints .u8 R)) (h1 : a.oneCell' = true) (h2 : b.oneCell' = true) :
    Row (w5 w T a b) (.slice (some ⟨w.heap.size + 4, 0, none⟩) 5 5) [.slice (some ⟨w.heap.size + 1, 0, none⟩) 1 1, a, .slice (some ⟨w.heap.size + 2, 0, none⟩) 1 1, b, .slice (some ⟨w.heap.size + 3, 0, none⟩) 1 1] ∧
    Pvs (w5 w T a b) [.slice (some ⟨w.heap.size + 1, 0, none⟩) 1 1, a, .slice (some ⟨w.heap.size + 2, 0, none⟩) 1 1, b, .slice (some ⟨w.heap.size + 3, 0, none⟩) 1 1] [[60], L, [64], R, [62]] ∧ Below w.heap.size w (w5 w T a b) := by
  have b1 := below_alloc w (.cells #[a, b] T)
  have b2 := b1.alloc b1.size (.cells #[.int .u8 60] 5)
  have b3 := b2.alloc b2.size (.cells #[.int .u8 64] 5)
  have b4 := b3.alloc b3.size (.cells #[.int .u8 62] 5)
  have b5 := b4.alloc b4.size (.cells #[.slice (some ⟨w.heap.size + 1, 0, none⟩) 1 1, a, .slice (some ⟨w.heap.size + 2, 0, none⟩) 1 1, b, .slice (some ⟨w.heap.size + 3, 0, none⟩) 1 1] 22)
  have r60 : Row ((w.alloc (.cells #[a, b] T)).alloc (.cells #[.int .u8 60] 5)) (.slice (some ⟨(w.alloc (.cells #[a, b] T)).heap.size, 0, none⟩) 1 1) (ints .u8 [60]) := Row.ilit [60] [_] rfl (by simp)
  have r64 : Row (((w.alloc (.cells #[a, b] T)).alloc (.cells #[.int .u8 60] 5)).alloc (.cells #[.int .u8 64] 5)) (.slice (some ⟨((w.alloc (.cells #[a, b] T)).alloc (.cells #[.int .u8 60] 5)).heap.size, 0, none⟩) 1 1) (ints .u8 [64]) := Row.ilit [64] [_] rfl (by simp)
  have r62 : Row ((((w.alloc (.cells #[a, b] T)).alloc (.cells #[.int .u8 60] 5)).alloc (.cells #[.int .u8 64] 5)).alloc (.cells #[.int .u8 62] 5)) (.slice (some ⟨(((w.alloc (.cells #[a, b] T)).alloc (.cells #[.int .u8 60] 5)).alloc (.cells #[.int .u8 64] 5)).heap.size, 0, none⟩) 1 1) (ints .u8 [62]) := Row.ilit [62] [_] rfl (by simp)
  have e1 : (w.alloc (.cells #[a, b] T)).heap.size = w.heap.size + 1 := by simp
  have e2 : ((w.alloc (.cells #[a, b] T)).alloc (.cells #[.int .u8 60] 5)).heap.size = w.heap.size + 2 := by simp
  have e3 : (((w.alloc (.cells #[a, b] T)).alloc (.cells #[.int .u8 60] 5)).alloc (.cells #[.int .u8 64] 5)).heap.size = w.heap.size + 3 := by simp
  have e4 : ((((w.alloc (.cells #[a, b] T)).alloc (.cells #[.int .u8 60] 5)).alloc (.cells #[.int .u8 64] 5)).alloc (.cells #[.int .u8 62] 5)).heap.size = w.heap.size + 4 := by simp
  rw [e1] at r60; rw [e2] at r64; rw [e3] at r62
  have rl := Row.lit (w := (((w.alloc (.cells #[a, b] T)).alloc (.cells #[.int .u8 60] 5)).alloc (.cells #[.int .u8 64] 5)).alloc (.cells #[.int .u8 62] 5)) (E := 22)
    [.slice (some ⟨w.heap.size + 1, 0, none⟩) 1 1, a, .slice (some ⟨w.heap.size + 2, 0, none⟩) 1 1, b, .slice (some ⟨w.heap.size + 3, 0, none⟩) 1 1]
    (by intro u hu; simp at hu; rcases hu with rfl | rfl | rfl | rfl | rfl
        · rfl
        · exact h1
        · rfl
        · exact h2
        · rfl) (by simp)
  rw [e4] at rl
  refine ⟨rl, ⟨rfl, fun i v p hv hp => ?_⟩, b5⟩
  rcases i with _ | _ | _ | _ | _ | i
  · simp at hv hp; subst hv hp; exact ((r60.alloc _).alloc _).alloc _
  · simp at hv hp; subst hv hp; exact ha.below b5
  · simp at hv hp; subst hv hp; exact (r64.alloc _).alloc _
  · simp at hv hp; subst hv hp; exact hb.below b5
  · simp at hv hp; subst hv hp; exact r62.alloc _
  · simp at hv
theorem text_any (a b : Value) (L R : List Int) (w : World) (ha : Row w a (ints .u8 L)) (hb0 : Row w b (ints .u8 R)) (hlL : L.length ≤ 400000) (hlR : R.length ≤ 400000) :
    Calls Tryd.prog 31 #[.agg #[a, b]] w fun e w' => ∃ t, e = .returned t ∧ Own w.heap.size 5 w' t (ints .u8 (textM L R)) ∧ Below w.heap.size w w' := by
  obtain ⟨a1, c1, rfl⟩ := (id ha).formN0 (n := L.length) (by rw [ints_length])
  obtain ⟨b1, d1, rfl⟩ := (id hb0).formN0 (n := R.length) (by rw [ints_length])
  obtain ⟨hr, hp, hb⟩ := text_lits w 25 _ _ L R ha hb0 rfl rfl
  have hj := joined_any _ _ _ _ hr hp (by simp) (by simp; omega)
  have hfl : [[60], L, [64], R, [62]].flatten = textM L R := by simp [textM]
  rw [hfl] at hj
  have HJ := Lib.hid hj; have HB := Lib.hid hb
  clear hr hp hb hj hfl
  generalize textM L R = X at *
  go_enter Tryd.func31, Tryd.ntmps31
  go_wp2_with fail
  refine (HJ.out).mono ?_
  rintro e w1 ⟨t1, rfl, ho1, hb1⟩
  go_wp2
  go_ret
  exact ⟨_, rfl, ho1.mono HB.out.size, below_trans HB.out hb1⟩
def chkM (L R : List Int) : Int := if (dotB L && dotB R) = false then 3 else if 250 < (textM L R).length then 12 else 0
theorem check_any (a b : Value) (L R : List Int) (w : World) (ha : Row w a (ints .u8 L)) (hb0 : Row w b (ints .u8 R)) (hgL : Rg 0 256 L) (hgR : Rg 0 256 R) (hlL : L.length ≤ 400000) (hlR : R.length ≤ 400000) :
    Calls Tryd.prog 23 #[.agg #[a, b]] w fun e w' => e = .returned (.int .i64 (chkM L R)) ∧ Below w.heap.size w w' := by
  have hM := fun w' h1' h2' => may_any a b L R w' h1' h2' hgL hgR (by omega) (by omega)
  have hT := fun w' h1' h2' => text_any a b L R w' h1' h2' hlL hlR
  unfold chkM
  generalize (dotB L && dotB R) = q at *
  generalize textM L R = X at *
  have HM := Lib.hid hM; have HT := Lib.hid hT
  clear hM hT
  obtain ⟨hc0, hc1⟩ := pair_new w a b 25
  have HC0 := Lib.hid hc0; have HC1 := Lib.hid hc1
  have hB := below_alloc w (.cells #[a, b] 25)
  rcases q with _ | _
  · rw [if_pos rfl]
    go_enter Tryd.func23, Tryd.ntmps23
    go_wp2_with fail
    refine (HM.out _ (ha.below hB) (hb0.below hB)).mono ?_
    rintro e w1 ⟨rfl, hb1⟩
    go_wp2
    go_ret
    exact ⟨rfl, below_trans hB hb1⟩
  · rw [if_neg (by decide)]
    by_cases hx : 250 < X.length
    case' pos => rw [if_pos hx]
    case' neg => rw [if_neg hx]; have hx2 : X.length ≤ 250 := (by omega); clear hx
    all_goals
      go_enter Tryd.func23, Tryd.ntmps23
      go_wp2_with fail
      refine (HM.out _ (ha.below hB) (hb0.below hB)).mono ?_
      rintro e w1 ⟨rfl, hb1⟩
      have hd0 := cell_kept HC0.out hb1
      have hd1 := cell_kept HC1.out hb1
      have hB1 := below_trans hB hb1
      clear hc0 hc1
      go_wp2_with fail
      refine (HT.out _ (ha.below hB1) (hb0.below hB1)).mono ?_
      rintro e w2 ⟨t2, rfl, ho2, hb2⟩
      obtain ⟨a2, c2, rfl⟩ := ho2.row.formN0 (n := X.length) (by rw [ints_length])
      go_wp2
      go_ret
      exact ⟨rfl, below_trans hB1 hb2⟩
theorem layM_chk (L R : List Int) : layM L R = if chkM L R = 0 then (textM L R, 0) else ([], chkM L R) := by
  unfold layM chkM
  by_cases h1 : (dotB L && dotB R) = false
  · rw [if_pos h1, if_pos h1]; rfl
  · rw [if_neg h1, if_neg h1]
    by_cases h2 : 250 < (textM L R).length
    · rw [if_pos h2, if_pos h2]; rfl
    · rw [if_neg h2, if_neg h2]; rfl
theorem lay_any (a b : Value) (L R : List Int) (w : World) (ha : Row w a (ints .u8 L)) (hb0 : Row w b (ints .u8 R)) (hgL : Rg 0 256 L) (hgR : Rg 0 256 R) (hlL : L.length ≤ 400000) (hlR : R.length ≤ 400000) :
    Calls Tryd.prog 15 #[.agg #[a, b]] w fun e w' => ∃ t, e = .returned (.tuple #[t, .int .i64 (layM L R).2]) ∧ Own w.heap.size 5 w' t (ints .u8 (layM L R).1) ∧ Below w.heap.size w w' := by
  have hM := fun w' h1' h2' => check_any a b L R w' h1' h2' hgL hgR hlL hlR
  have hT := fun w' h1' h2' => text_any a b L R w' h1' h2' hlL hlR
  rw [layM_chk]
  generalize chkM L R = q at *
  generalize textM L R = X at *
  have HM := Lib.hid hM; have HT := Lib.hid hT
  clear hM hT
  obtain ⟨hc0, hc1⟩ := pair_new w a b 25
  have HC0 := Lib.hid hc0; have HC1 := Lib.hid hc1
  have hB := below_alloc w (.cells #[a, b] 25)
  by_cases hq : q = 0
  · rw [if_pos hq]
    subst hq
    go_enter Tryd.func15, Tryd.ntmps15
    go_wp2_with fail
    refine (HM.out _ (ha.below hB) (hb0.below hB)).mono ?_
    rintro e w1 ⟨rfl, hb1⟩
    have hd0 := cell_kept HC0.out hb1
    have hd1 := cell_kept HC1.out hb1
    have hB1 := below_trans hB hb1
    clear hc0 hc1
    go_wp2_with fail
    refine (HT.out _ (ha.below hB1) (hb0.below hB1)).mono ?_
    rintro e w2 ⟨t2, rfl, ho2, hb2⟩
    go_wp2
    go_ret2
    exact ⟨_, rfl, ho2.mono hB1.size, below_trans hB1 hb2⟩
  · rw [if_neg hq]
    have bq : (q != 0) = true := by simpa using hq
    clear hq
    go_enter Tryd.func15, Tryd.ntmps15
    go_wp2_with fail
    refine (HM.out _ (ha.below hB) (hb0.below hB)).mono ?_
    rintro e w1 ⟨rfl, hb1⟩
    go_wp2
    go_ret2
    exact ⟨_, rfl, Own.nil _ _ _, below_trans hB hb1⟩
end Go.Proofs.YtcmiopkcgoanpaaDoor
namespace Go.Proofs.YtcmiopkcgoanpaaDoor
open Go.RowKit
set_option maxHeartbeats 4000000
set_option maxRecDepth 100000
theorem or_low : ∀ n : Fin 26, bits .or .u8 (65 + (n.val : Int)) 32 = 65 + (n.val : Int) + 32 := by decide +kernel
theorem low_any (c : Int) (w : World) (_h0 : 0 ≤ c) (_h1 : c < 256) :
    Calls Tryd.prog 62 #[.int .u8 c] w fun e w' => e = .returned (.int .u8 (lowC c)) ∧ w' = w := by
  unfold lowC
  by_cases h : 65 ≤ c ∧ c ≤ 90
  · rw [if_pos h]
    obtain ⟨ha, hb⟩ := h
    have ho : bits .or .u8 c 32 = c + 32 := by
      have := or_low ⟨(c - 65).toNat, by omega⟩
      have e : 65 + (((c - 65).toNat : Nat) : Int) = c := by omega
      simp only [e] at this
      exact this
    go_enter Tryd.func62, Tryd.ntmps62
    go_wp2
    go_ret
    first | exact ⟨rfl, rfl⟩ | exact ⟨congrArg Ending.returned (congrArg (Value.int .u8) ho), rfl⟩
  · rw [if_neg h]
    by_cases ha : 65 ≤ c
    · have hb : 90 < c := by omega
      clear h
      go_enter Tryd.func62, Tryd.ntmps62
      go_wp2
      go_ret
      exact ⟨rfl, rfl⟩
    · have hb : c < 65 := by omega
      clear h ha
      go_enter Tryd.func62, Tryd.ntmps62
      go_wp2
      go_ret
      exact ⟨rfl, rfl⟩
theorem lowC_rng {c : Int} (h0 : 0 ≤ c) (h1 : c < 256) : 0 ≤ lowC c ∧ lowC c < 256 := by
  unfold lowC; split <;> omega
theorem map_low_rng {xs : List Int} (hg : Rg 0 256 xs) : Rg 0 256 (xs.map lowC) := fun x hx => by
  obtain ⟨y, hy, rfl⟩ := List.mem_map.1 hx
  exact lowC_rng (hg y hy).1 (hg y hy).2
theorem fold_any (v : Value) (xs : List Int) (w : World) (h : Row w v (ints .u8 xs)) (hg : Rg 0 256 xs) (hl : xs.length ≤ 900000) :
    Calls Tryd.prog 54 #[v] w fun e w' => ∃ t, e = .returned t ∧ Own w.heap.size 5 w' t (ints .u8 (xs.map lowC)) ∧ Below w.heap.size w w' := by
  have hC := oclone_any v xs w h (by omega)
  have HC := Lib.hid hC; clear hC
  rcases Nat.eq_zero_or_pos xs.length with h0 | h0
  · obtain rfl := List.eq_nil_of_length_eq_zero h0
    go_enter Tryd.func54, Tryd.ntmps54
    go_wp2_with (go_at_call 42; refine (HC.out).mono ?_; rintro e w1 ⟨t1, rfl, ho1, hb1⟩; obtain ⟨a1, c1, rfl⟩ := ho1.row.formN0 (n := 0) rfl)
    go_loopw [10] (fun i wr => i = .int .i64 0 ∧ wr = w1) (fun _ _ => 0)
    case atStart => exact ⟨rfl, rfl⟩
    case round =>
      obtain ⟨rfl, hw⟩ := hrel
      obtain rfl := hw.symm
      go_wp2
      go_ret
      exact ⟨_, rfl, ho1, hb1⟩
  · have hst := fun k x (hx : xs[k]? = some x) => fill_step (ys := xs) lowC hx rfl
    have hgt := fun k (hk : k < xs.length) => fill_get (ys := xs) lowC hk rfl
    have hal := fill_all (xs := xs) (ys := xs) lowC rfl
    have HST := Lib.hid hst; have HGT := Lib.hid hgt; have HAL := Lib.hid hal
    clear hst hgt hal
    go_enter Tryd.func54, Tryd.ntmps54
    go_wp2_with (go_at_call 42; refine (HC.out).mono ?_; rintro e w1 ⟨t1, rfl, ho1, hb1⟩; obtain ⟨g, cap, rfl, hgB, hgl⟩ := ho1.form (by rw [ints_length]; exact h0); rw [ints_length] at *)
    have HQ0 : Hid (Own w.heap.size 5 w1 (.slice (some ⟨g, 0, none⟩) xs.length cap) (ints .u8 ((xs.take 0).map lowC ++ xs.drop 0))) := by rw [List.take_zero, List.drop_zero]; exact ho1
    have HB1 := Lib.hid hb1
    clear ho1 hb1 h0 HC
    go_loopw [10] (fun i wr => ∃ k : Nat, i = .int .i64 k ∧ k ≤ xs.length ∧ Hid (Own w.heap.size 5 wr (.slice (some ⟨g, 0, none⟩) xs.length cap) (ints .u8 ((xs.take k).map lowC ++ xs.drop k))) ∧ Below w.heap.size w wr) (fun i _ => xs.length - (intOf i).toNat)
    case atStart => exact ⟨0, rfl, Nat.zero_le _, HQ0.out, HB1.out⟩
    case round =>
      obtain ⟨k, rfl, hk, HO, hb⟩ := hrel
      by_cases hlt : k < xs.length
      · obtain ⟨x, hx⟩ : ∃ x, xs[k]? = some x := ⟨_, List.getElem?_eq_getElem hlt⟩
        obtain ⟨y, hy, hy2⟩ := HGT.out k hlt
        obtain rfl : x = y := by rw [hx] at hy2; exact Option.some.inj hy2
        have hxr := hg x (List.mem_of_getElem? hx)
        have hcell := Own.cell HO.out (j := k) (u := .int .u8 x) (by rw [ints_get, hy]; rfl)
        have hln : (ints .u8 ((xs.take k).map lowC ++ xs.drop k)).length = xs.length := by
          rw [ints_length, List.length_append, List.length_map, List.length_take, List.length_drop]; omega
        have hfz := (show wr.ownsRow w.heap.size 5 1 (.slice (some ⟨g, 0, none⟩) xs.length cap) xs.length _ from hln ▸ HO.out.1).frozenAt k
        have hs := Own.storeN HO.out k (.int .u8 (lowC x)) rfl
        rw [ints_set, HST.out k x hx] at hs
        have HS := Lib.hid hs
        have HM := Lib.hid fun w => low_any x w hxr.1 hxr.2
        clear hs hx hy hy2 hln hxr
        generalize lowC x = z at *
        go_wp2_with (go_at_call 62; refine (HM.out _).mono ?_; rintro e w2 ⟨rfl, hw2⟩; obtain rfl := hw2.symm)
        go_roundw
        case rel => exact ⟨k + 1, by go_num, by omega, HS.out.1, hb.setCell hgB _⟩
        case measure => simp [intOf]; omega
      · obtain rfl : k = xs.length := by omega
        have ho := HO.out
        rw [HAL.out] at ho
        go_wp2
        go_ret
        exact ⟨_, rfl, ho, hb⟩
theorem osame_any (v1 v2 : Value) (xs ys : List Int) (w : World) (h1 : Row w v1 (ints .u8 xs)) (h2 : Row w v2 (ints .u8 ys)) (g1 : Rg 0 256 xs) (g2 : Rg 0 256 ys) (hl1 : xs.length ≤ 900000) (hl2 : ys.length ≤ 900000) :
    Calls Tryd.prog 37 #[v1, v2] w fun e w' => e = .returned (.bool (decide (xs.map lowC = ys.map lowC))) ∧ Below w.heap.size w w' := by
  have hA := fun w' h' => fold_any v1 xs w' h' g1 hl1
  have hB := fun w' h' => fold_any v2 ys w' h' g2 hl2
  have r1 := map_low_rng g1
  have r2 := map_low_rng g2
  generalize xs.map lowC = X at *
  generalize ys.map lowC = Y at *
  have HA := Lib.hid hA; have HB := Lib.hid hB
  clear hA hB
  go_enter Tryd.func37, Tryd.ntmps37
  go_wp2_with fail
  refine (HA.out _ h1).mono ?_
  rintro e w1 ⟨t1, rfl, ho1, hb1⟩
  go_wp2_with fail
  refine (HB.out _ (h2.below hb1)).mono ?_
  rintro e w2 ⟨t2, rfl, ho2, hb2⟩
  go_wp2_with fail
  refine (beq_any _ _ X Y _ (ho1.row.below hb2) ho2.row r1 r2).mono ?_
  rintro e w3 ⟨rfl, hw3⟩
  obtain rfl := hw3.symm
  go_wp2
  go_ret
  exact ⟨rfl, below_trans hb1 hb2⟩
theorem msame_any (a b c d : Value) (A B C D : List Int) (w : World) (ha : Row w a (ints .u8 A)) (hb0 : Row w b (ints .u8 B)) (hc : Row w c (ints .u8 C)) (hd : Row w d (ints .u8 D)) (gA : Rg 0 256 A) (gB : Rg 0 256 B) (gC : Rg 0 256 C) (gD : Rg 0 256 D) (hlB : B.length ≤ 900000) (hlD : D.length ≤ 900000) :
    Calls Tryd.prog 20 #[.agg #[a, b], .agg #[c, d]] w fun e w' => e = .returned (.bool (samM (A, B) (C, D))) ∧ Below w.heap.size w w' := by
  have h1 := fun w' h1' h2' => beq_any a c A C w' h1' h2' gA gC
  have h2 := fun w' h1' h2' => osame_any b d B D w' h1' h2' gB gD hlB hlD
  have e : samM (A, B) (C, D) = (decide (A = C) && decide (B.map lowC = D.map lowC)) := rfl
  rw [e]
  generalize decide (A = C) = p at *
  generalize decide (B.map lowC = D.map lowC) = q at *
  have H1 := Lib.hid h1; have H2 := Lib.hid h2
  clear h1 h2 e
  have hB1 := below_alloc w (.cells #[a, b] 25)
  have hB2 := hB1.alloc hB1.size (.cells #[c, d] 25)
  rcases p with _ | _
  · go_enter Tryd.func20, Tryd.ntmps20
    go_wp2_with fail
    refine (H1.out _ (ha.below hB2) (hc.below hB2)).mono ?_
    rintro e w1 ⟨rfl, hw1⟩
    obtain rfl := hw1.symm
    go_wp2
    go_ret
    exact ⟨rfl, hB2⟩
  · go_enter Tryd.func20, Tryd.ntmps20
    go_wp2_with fail
    refine (H1.out _ (ha.below hB2) (hc.below hB2)).mono ?_
    rintro e w1 ⟨rfl, hw1⟩
    obtain rfl := hw1.symm
    go_wp2_with fail
    refine (H2.out _ (hb0.below hB2) (hd.below hB2)).mono ?_
    rintro e w2 ⟨rfl, hb2⟩
    go_wp2
    go_ret
    exact ⟨rfl, below_trans hB2 hb2⟩
end Go.Proofs.YtcmiopkcgoanpaaDoor
