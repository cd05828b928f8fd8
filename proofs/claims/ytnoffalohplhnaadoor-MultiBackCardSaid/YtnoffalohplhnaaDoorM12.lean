/- Walks: the marks (multi's May and Mark). · Walks: the first mark among lines (multi's cut) and among parts. Printed with gen50.py. (laid together by program out of single texts). -/
import Derived.Deep.RegionHeld3
import Derived.Test.YtnoffalohplhnaaDoorM8
import Derived.Test.YtnoffalohplhnaaDoorM10
import Derived.Test.YtnoffalohplhnaaDoorM11
namespace Go.Proofs.YtnoffalohplhnaaDoor
open Go.RowKit
set_option maxHeartbeats 4000000
set_option maxRecDepth 100000
def oddM (c : Int) : Bool := decide (c < 32) || decide (126 < c)
theorem mayF_any (c : Int) (w : World) :
    Calls Tryd.prog 21 #[.int .u8 c] w fun e w' => e = .returned (.bool (oddM c)) ∧ w' = w := by
  unfold oddM
  by_cases h1 : c < 32
  · rw [decide_eq_true h1]
    go_enter Tryd.func21, Tryd.ntmps21
    go_wp2
    go_ret
    exact ⟨ret_bool (by simp), rfl⟩
  · rw [decide_eq_false h1]
    go_enter Tryd.func21, Tryd.ntmps21
    go_wp2
    go_ret
    exact ⟨ret_bool (by simp), rfl⟩
theorem idxM_any (v : Value) (xs : List Int) (w : World) (h : Row w v (ints .u8 xs)) (hl : xs.length ≤ 1000000) :
    Calls Tryd.prog 30 #[v, .func (.func 21) #[] #[]] w fun e w' => (∃ i : Int, e = .returned (.int .i64 i) ∧ decide (0 ≤ i) = xs.any oddM) ∧ w' = w := by
  obtain ⟨a, b, off, cp, rfl, HC⟩ := h.op
  obtain ⟨q, HQ⟩ : ∃ q, Hid (xs.any oddM = q) := ⟨_, rfl⟩
  rw [HQ.out]
  go_enter Tryd.func30, Tryd.ntmps30
  go_wp2
  go_loopw [8] (fun i wr => ∃ k : Nat, i = .int .i64 k ∧ k ≤ xs.length ∧ Hid (∀ p ∈ xs.take k, oddM p = false) ∧ wr = w) (fun i _ => xs.length - (intOf i).toNat)
  case atStart => exact ⟨0, rfl, Nat.zero_le _, (fun y hy => by simp at hy : ∀ p ∈ xs.take 0, oddM p = false), rfl⟩
  case round =>
    obtain ⟨k, rfl, hk, HK, hw0⟩ := hrel
    obtain rfl := hw0.symm
    by_cases hlt : k < xs.length
    · obtain ⟨c, hc, rfl, hcell⟩ := HC.out k hlt
      have hcell := hcell w (Below.refl _ _)
      have hF := mayF_any c w
      obtain ⟨o, HO⟩ : ∃ o, Hid (oddM c = o) := ⟨_, rfl⟩
      rw [HO.out] at hF
      have HF := Lib.hid hF
      clear hF
      rcases o with _ | _
      · go_wp2_with (go_at_call 21; refine (HF.out).mono ?_; rintro e w' ⟨rfl, hw⟩; obtain rfl := hw.symm)
        go_roundw
        case rel => exact ⟨k + 1, by go_num, by omega, (by show ∀ p ∈ xs.take (k + 1), oddM p = false; intro y hy; rw [List.take_add_one, hc.out] at hy; rcases List.mem_append.1 hy with h9 | h9; exact HK.out y h9; simp at h9; subst h9; exact HO.out), by first | rfl | trivial⟩
        case measure => simp [intOf]; omega
      · have hq : q = true := by
          rw [← HQ.out]
          exact List.any_eq_true.2 ⟨c, List.mem_of_getElem? hc.out, HO.out⟩
        subst hq
        go_wp2_with (go_at_call 21; refine (HF.out).mono ?_; rintro e w' ⟨rfl, hw⟩; obtain rfl := hw.symm)
        go_ret
        exact ⟨⟨_, rfl, decide_eq_true (by omega)⟩, rfl⟩
    · have hq : q = false := by
        rw [← HQ.out]
        have := HK.out
        rw [List.take_of_length_le (by omega)] at this
        cases hx : xs.any oddM with
        | false => rfl
        | true =>
          obtain ⟨y, hy, h9⟩ := List.any_eq_true.1 hx
          rw [this y hy] at h9; cases h9
      subst hq
      go_wp2
      go_ret
      exact ⟨⟨_, rfl, by first | decide | simp⟩, rfl⟩
theorem conM_any (v : Value) (xs : List Int) (w : World) (h : Row w v (ints .u8 xs)) (hl : xs.length ≤ 1000000) :
    Calls Tryd.prog 22 #[v, .func (.func 21) #[] #[]] w fun e w' => e = .returned (.bool (xs.any oddM)) ∧ w' = w := by
  have hI := idxM_any v xs w h hl
  generalize xs.any oddM = q at *
  have HI := Lib.hid hI; clear hI
  go_enter Tryd.func22, Tryd.ntmps22
  go_wp2_with (go_at_call 30; refine (HI.out).mono ?_; rintro e w' ⟨⟨i, rfl, hi⟩, hw⟩; obtain rfl := hw.symm; have HQ := Lib.hid hi; clear hi hw)
  go_ret
  exact ⟨ret_bool HQ.out, rfl⟩
theorem odd_all (xs : List Int) : xs.all (fun c => decide (32 ≤ c) && decide (c ≤ 126)) = !xs.any oddM := by
  induction xs with
  | nil => rfl
  | cons x r ih =>
    rw [List.all_cons, List.any_cons, ih, Bool.not_or]
    congr 1
    unfold oddM
    rw [Bool.not_or, ← decide_not, ← decide_not]
    congr 1 <;> rw [decide_eq_decide] <;> omega
theorem may_any (v : Value) (xs : List Int) (w : World) (h : Row w v (ints .u8 xs)) (hl : xs.length ≤ 1000000) :
    Calls Tryd.prog 10 #[v] w fun e w' => e = .returned (.bool (mayB xs)) ∧ w' = w := by
  have hC := conM_any v xs w h hl
  obtain ⟨a, b, off, cp, rfl, HC⟩ := h.op
  obtain ⟨r, hr⟩ : ∃ r, mayB xs = r := ⟨_, rfl⟩
  rw [hr]
  unfold mayB at hr
  rw [odd_all] at hr
  generalize xs.any oddM = q at *
  have HI := Lib.hid hC; clear hC
  by_cases h0 : 0 < xs.length
  · rw [decide_eq_true h0] at hr
    by_cases h70 : xs.length ≤ 70
    · rw [decide_eq_true h70] at hr
      rcases q with _ | _
      · obtain ⟨c, hc, rfl, hcell⟩ := HC.out (xs.length - 1) (by omega)
        have hcell := hcell w (Below.refl _ _)
        have hlast : xs.getLast? = some c := by rw [List.getLast?_eq_getElem?]; exact hc.out
        rw [hlast] at hr
        have hr2 : decide (c ≠ 32) = r := by rw [← hr]; simp
        have HR := Lib.hid hr2
        have e1 : ((xs.length : Int) - 1) = ((xs.length - 1 : Nat) : Int) := by omega
        clear hr hr2
        go_enter Tryd.func10, Tryd.ntmps10
        go_wp2_with (go_at_call 22; refine (HI.out).mono ?_; rintro e w' ⟨rfl, hw⟩; obtain rfl := hw.symm)
        go_ret
        exact ⟨ret_bool (by rw [← HR.out]; simp [bne, Bool.beq_eq_decide_eq]), rfl⟩
      · obtain ⟨c, hc, rfl, hcell⟩ := HC.out (xs.length - 1) (by omega)
        have hcell := hcell w (Below.refl _ _)
        obtain rfl : false = r := by rw [← hr]; simp
        clear hr
        go_enter Tryd.func10, Tryd.ntmps10
        go_wp2_with (go_at_call 22; refine (HI.out).mono ?_; rintro e w' ⟨rfl, hw⟩; obtain rfl := hw.symm)
        go_ret
        exact ⟨rfl, rfl⟩
    · rw [decide_eq_false h70] at hr
      obtain rfl : false = r := by rw [← hr]; simp
      clear hr
      go_enter Tryd.func10, Tryd.ntmps10
      go_wp2
      go_ret
      exact ⟨rfl, rfl⟩
  · rw [decide_eq_false h0] at hr
    obtain rfl : false = r := by rw [← hr]; simp
    clear hr
    go_enter Tryd.func10, Tryd.ntmps10
    go_wp2
    go_ret
    exact ⟨rfl, rfl⟩
theorem preI_iff {xs ys : List Int} : preI xs ys = true ↔ xs = ys ++ xs.drop ys.length := by
  unfold preI
  rw [List.isPrefixOf_iff_prefix]
  refine ⟨fun ⟨t, ht⟩ => by rw [← ht]; simp, fun h => ⟨_, h.symm⟩⟩
/-- The kind of a mark, as the program asks. -/
theorem markN_ways (l b : List Int) :
    (preI (trimR l) [45, 45] = false → markN l b = 0) ∧
    (preI (trimR l) [45, 45] = true → preI ((trimR l).drop 2) b = false → markN l b = 0) ∧
    (preI (trimR l) [45, 45] = true → preI ((trimR l).drop 2) b = true → markN l b = if (((trimR l).drop 2).drop b.length).length = 0 then 1 else if ((trimR l).drop 2).drop b.length = [45, 45] then 2 else 0) := by
  unfold markN
  generalize trimR l = T
  have hT : preI T [45, 45] = true ↔ T = 45 :: 45 :: T.drop 2 := preI_iff
  refine ⟨fun h => ?_, fun h1 h2 => ?_, fun h1 h2 => ?_⟩
  · rw [if_neg, if_neg]
    · intro e; rw [e] at h; simp [preI] at h
    · intro e; rw [e] at h; simp [preI] at h
  · rw [if_neg, if_neg]
    · intro e; rw [e] at h2; rw [show (45 :: 45 :: (b ++ [45, 45])).drop 2 = b ++ [45, 45] from rfl] at h2; rw [preI_iff.2 (by simp)] at h2; cases h2
    · intro e; rw [e] at h2; rw [show (45 :: 45 :: b).drop 2 = b from rfl] at h2; rw [preI_iff.2 (by simp)] at h2; cases h2
  · have e1 := hT.1 h1
    have e2 := preI_iff.1 h2
    generalize T.drop 2 = R at *
    generalize R.drop b.length = S at *
    subst e2
    subst e1
    by_cases hS : S = []
    · subst hS; simp
    · have hl : ¬ S.length = 0 := fun h => hS (List.eq_nil_of_length_eq_zero h)
      rw [if_neg (c := S.length = 0) hl]
      rw [if_neg (by simpa using hS)]
      by_cases hS2 : S = [45, 45]
      · subst hS2; simp
      · rw [if_neg hS2, if_neg]
        intro e
        exact hS2 (List.append_cancel_left (List.cons.inj (List.cons.inj e).2).2)
theorem dash2 : strOfNums [45, 45] = ⟨#[45, 45]⟩ := by decide
theorem str_dash {xs : List Int} (hx : Rg 0 256 xs) : ((strOfNums xs).toList == [45, 45]) = decide (xs = [45, 45]) := by
  have e : ([45, 45] : List UInt8) = (strOfNums [45, 45]).toList := by rw [dash2, ByteArray.toList_eq]
  rw [e, Bool.eq_iff_iff, beq_iff_eq, decide_eq_true_iff, ByteArray.toList_eq, ByteArray.toList_eq]
  exact ⟨fun h => strinj2 hx (by intro x hx; simp at hx; omega) (ByteArray.ext (Array.toList_inj.1 h)), fun h => by rw [h]⟩
theorem mark_any (v v2 : Value) (xs b : List Int) (w : World) (h : Row w v (ints .u8 xs)) (h2 : Row w v2 (ints .u8 b)) (hg : Rg 0 256 xs) (hgb : Rg 0 256 b) :
    Calls Tryd.prog 27 #[v, v2] w fun e w' => e = .returned (.int .i64 (markN xs b)) ∧ Below w.heap.size w w' := by
  have kc := fun (w : World) (C : Array Value) (n c : Nat) => Lib.run_convert_bytes_const (P := Tryd.prog) w 23 5 C n c Tryd.underlying23 Tryd.underlying5
  have hT := trim_any v ⟨#[32, 9]⟩ xs w h (by rfl) hg
  obtain ⟨hm1, hm2, hm3⟩ := markN_ways xs b
  have hgT : Rg 0 256 (trimR xs) := by rw [(trimR_take xs).1]; exact hg.take _
  generalize markN xs b = M at *
  generalize trimR xs = T at *
  have hC1 := fun v1 vd w' h1 hd => cutprefix_any v1 vd T [45, 45] w' h1 hd hgT (by intro x hx; simp at hx; omega)
  generalize preI T [45, 45] = q1 at *
  have hgR : Rg 0 256 (T.drop 2) := hgT.drop _
  rw [show ([45, 45] : List Int).length = 2 from rfl] at hC1
  generalize T.drop 2 = R at *
  have hC2 := fun v1 w' h1 h2' => cutprefix_any v1 v2 R b w' h1 h2' hgR hgb
  generalize preI R b = q2 at *
  have hgS : Rg 0 256 (R.drop b.length) := hgR.drop _
  generalize R.drop b.length = S at *
  have HT := Lib.hid hT; have HC1 := Lib.hid hC1; have HC2 := Lib.hid hC2
  have HM3 := Lib.hid hm3; have HM2 := Lib.hid hm2; have HM1 := Lib.hid hm1
  have HGS := Lib.hid hgS
  clear hT hC1 hC2 hm1 hm2 hm3 hgS hgR hgT hg hgb
  rcases q1 with _ | _
  · have h0 := HM1.out rfl
    subst h0
    go_enter Tryd.func27, Tryd.ntmps27
    go_wp2_with (first | ((go_at_call 34; refine (HT.out).mono ?_; rintro e w1 ⟨t1, rfl, hr1, hb1⟩)) | ((go_at_call 33; refine (HC1.out _ _ _ (hr1.alloc _) (Row.flit [_, _] [_, _] rfl (by simp))).mono ?_; rintro e w2 ⟨t2, rfl, hy2, hn2, hw⟩; obtain rfl := hw.symm)))
    go_ret
    exact ⟨rfl, below_trans hb1 (below_alloc _ _)⟩
  · rcases q2 with _ | _
    · have h0 := HM2.out rfl rfl
      subst h0
      go_enter Tryd.func27, Tryd.ntmps27
      go_wp2_with fail
      refine HT.out.mono ?_
      rintro e w1 ⟨t1, rfl, hr1, hb1⟩
      go_wp2_with fail
      refine (HC1.out _ _ _ (hr1.alloc _) (Row.flit [_, _] [_, _] rfl (by simp))).mono ?_
      rintro e w2 ⟨t2, rfl, hy2, hn2, hw⟩
      obtain rfl := hw.symm
      have hr2 := hy2 (by first | trivial | rfl)
      obtain ⟨a2, b2, o2, c2, rfl, _⟩ := id hr2.op
      have hb2 := below_trans hb1 (below_alloc w1 (.cells #[.int .u8 45, .int .u8 45] 5 (2, 3)))
      clear hy2 hn2
      go_wp2_with fail
      refine (HC2.out _ _ hr2 (h2.below hb2)).mono ?_
      rintro e w2 ⟨t3, rfl, hy3, hn3, hw⟩
      obtain rfl := hw.symm
      clear hy3 hn3
      go_wp2
      go_ret
      exact ⟨rfl, hb2⟩
    · have h0 := HM3.out rfl rfl
      go_enter Tryd.func27, Tryd.ntmps27
      go_wp2_with fail
      refine HT.out.mono ?_
      rintro e w1 ⟨t1, rfl, hr1, hb1⟩
      go_wp2_with fail
      refine (HC1.out _ _ _ (hr1.alloc _) (Row.flit [_, _] [_, _] rfl (by simp))).mono ?_
      rintro e w2 ⟨t2, rfl, hy2, hn2, hw⟩
      obtain rfl := hw.symm
      have hr2 := hy2 (by first | trivial | rfl)
      obtain ⟨a2, b2, o2, c2, rfl, _⟩ := id hr2.op
      have hb2 := below_trans hb1 (below_alloc w1 (.cells #[.int .u8 45, .int .u8 45] 5 (2, 3)))
      clear hy2 hn2
      go_wp2_with fail
      refine (HC2.out _ _ hr2 (h2.below hb2)).mono ?_
      rintro e w2 ⟨t3, rfl, hy3, hn3, hw⟩
      obtain rfl := hw.symm
      have hr3 := hy3 (by first | trivial | rfl)
      obtain ⟨a3, b3, o3, c3, rfl, _⟩ := id hr3.op
      have cv := rowstr2 S hr3
      have hsd := str_dash HGS.out
      clear hy3 hn3
      by_cases hS0 : S.length = 0
      · rw [if_pos hS0] at h0
        subst h0
        clear hsd
        go_wp2
        go_ret
        exact ⟨rfl, hb2⟩
      · rw [if_neg hS0] at h0
        generalize strOfNums S = sx at *
        have hS1 : 0 < S.length := by omega
        by_cases hS2 : S = [45, 45]
        · rw [if_pos hS2] at h0
          subst h0
          rw [decide_eq_true hS2] at hsd
          have HSD := Lib.hid hsd
          clear hS2
          go_wp2
          go_ret
          exact ⟨rfl, hb2⟩
        · rw [if_neg hS2] at h0
          subst h0
          rw [decide_eq_false hS2] at hsd
          clear hS2
          go_wp2
          go_ret
          exact ⟨rfl, hb2⟩
end Go.Proofs.YtnoffalohplhnaaDoor
namespace Go.Proofs.YtnoffalohplhnaaDoor
open Go.RowKit
set_option maxHeartbeats 4000000
set_option maxRecDepth 100000
theorem cell_keep50 {w w' : World} {a : Addr} {v : Value} (h : w.cell? a = some v) (hb : Below w.heap.size w w') : w'.cell? a = some v := by
  rw [← h]; exact hb.cell (World.block_lt_of_cell? w _ h)
/-- i is where f first says yes, or -1. -/
def FI (f : List Int → Bool) (ps : List (List Int)) (i : Int) : Prop :=
  (i = -1 ∧ ps.any f = false) ∨ ∃ k : Nat, i = k ∧ ∃ x, ps[k]? = some x ∧ f x = true ∧ ∀ q ∈ ps.take k, f q = false
theorem FI_step {f : List Int → Bool} {ps : List (List Int)} {k : Nat} {x : List Int} (h : ∀ q ∈ ps.take k, f q = false) (hx : ps[k]? = some x) (hf : f x = false) : ∀ q ∈ ps.take (k + 1), f q = false := by
  intro y hy
  rw [List.take_add_one, hx] at hy
  rcases List.mem_append.1 hy with h9 | h9
  · exact h y h9
  · simp at h9; subst h9; exact hf
theorem FI_yes {f : List Int → Bool} {ps : List (List Int)} {k : Nat} {x : List Int} (h : ∀ q ∈ ps.take k, f q = false) (hx : ps[k]? = some x) (hf : f x = true) : FI f ps k := .inr ⟨k, rfl, x, hx, hf, h⟩
theorem FI_no {f : List Int → Bool} {ps : List (List Int)} {k : Nat} (h : ∀ q ∈ ps.take k, f q = false) (hk : ps.length ≤ k) : FI f ps (-1) := by
  rw [List.take_of_length_le hk] at h
  refine .inl ⟨rfl, ?_⟩
  cases hx : ps.any f with
  | false => rfl
  | true =>
    obtain ⟨y, hy, h9⟩ := List.any_eq_true.1 hx
    rw [h y hy] at h9; cases h9
theorem FI_any {f : List Int → Bool} {ps : List (List Int)} {i : Int} (h : FI f ps i) : ps.any f = decide (0 ≤ i) := by
  rcases h with ⟨rfl, h⟩ | ⟨k, rfl, x, hx, hf, _⟩
  · rw [h]; rfl
  · rw [decide_eq_true (by omega)]
    exact List.any_eq_true.2 ⟨x, List.mem_of_getElem? hx, hf⟩
theorem cutF_no {b : List Int} {l : List (List Int)} (h : l.any (isM b) = false) : cutF b l = (l, 0, []) := by
  have := cutF_none (b := b) l [] h
  rw [List.append_nil] at this
  rw [this, cutF]; simp
theorem cutF_yes {b : List Int} {l : List (List Int)} {k : Nat} {x : List Int} (hx : l[k]? = some x) (hf : isM b x = true) (h : ∀ q ∈ l.take k, isM b q = false) : cutF b l = (l.take k, markN x b, l.drop (k + 1)) := by
  have hk := (List.getElem?_eq_some_iff.1 hx).1
  have hxe := (List.getElem?_eq_some_iff.1 hx).2
  have e : l = l.take k ++ x :: l.drop (k + 1) := by
    rw [← hxe, List.getElem_cons_drop, List.take_append_drop]
  have hn : (l.take k).any (isM b) = false := by
    cases h9 : (l.take k).any (isM b) with
    | false => rfl
    | true =>
      obtain ⟨y, hy, h8⟩ := List.any_eq_true.1 h9
      rw [h y hy] at h8; cases h8
  have := cutF_none (b := b) (l.take k) (x :: l.drop (k + 1)) hn
  rw [← e] at this
  rw [this, cutF, if_pos hf]; simp
theorem cutM1_any (u : Value) (x b : List Int) (p : Addr) (vb : Value) (w : World) (hc : w.cell? p = some vb) (hb : Row w vb (ints .u8 b)) (hu : Row w u (ints .u8 x)) (hgx : Rg 0 256 x) (hgb : Rg 0 256 b) :
    Calls Tryd.prog 26 #[u, .pointer (some p)] w fun e w' => e = .returned (.bool (isM b x)) ∧ Below w.heap.size w w' := by
  have hM := mark_any u vb x b w hu hb hgx hgb
  have hi : isM b x = decide (((markN x b : Nat) : Int) ≠ 0) := by unfold isM; rw [decide_eq_decide]; omega
  rw [hi]
  generalize ((markN x b : Nat) : Int) = m at *
  have HM := Lib.hid hM; clear hM hi
  go_enter Tryd.func26, Tryd.ntmps26
  go_wp2_with (go_at_call 27; refine (HM.out).mono ?_; rintro e w1 ⟨rfl, hb1⟩)
  go_ret
  exact ⟨ret_bool (by by_cases h9 : m = 0 <;> simp [h9]), hb1⟩
theorem idxC_any (v : Value) (vs : List Value) (ps : List (List Int)) (b : List Int) (p : Addr) (w : World) (h : Row w v vs) (hp : Pvs w vs ps) (hr : Hid (∀ q ∈ ps, Rg 0 256 q ∧ q.length ≤ 1000000)) (hl : vs.length ≤ 1000000)
    (hF : ∀ u q w', Below w.heap.size w w' → Row w' u (ints .u8 q) → Rg 0 256 q ∧ q.length ≤ 1000000 → Calls Tryd.prog 26 #[u, .pointer (some p)] w' fun e w'' => e = .returned (.bool (isM b q)) ∧ Below w'.heap.size w' w'') :
    Calls Tryd.prog 24 #[v, .func (.func 26) #[] #[.pointer (some p)]] w fun e w' => (∃ i : Int, e = .returned (.int .i64 i) ∧ FI (fun q => isM b q) ps i) ∧ Below w.heap.size w w' := by
  obtain ⟨a, b0, off, cp, rfl, hcp, hM, ha, h1, hcell⟩ := h
  have HP := Lib.hid hp
  have HCL := Lib.hid hcell
  have HA := Lib.hid ha
  have HFF := Lib.hid hF
  clear hp hcell ha h1 hcp hM hF
  go_enter Tryd.func24, Tryd.ntmps24
  go_wp2
  go_loopw [8] (fun i wr => ∃ k : Nat, i = .int .i64 k ∧ k ≤ vs.length ∧ Hid (∀ q ∈ ps.take k, isM b q = false) ∧ Below w.heap.size w wr) (fun i _ => vs.length - (intOf i).toNat)
  case atStart => exact ⟨0, rfl, Nat.zero_le _, (fun y hy => by simp at hy : ∀ q ∈ ps.take 0, isM b q = false), Below.refl _ _⟩
  case round =>
    obtain ⟨k, rfl, hk, HK, hbw⟩ := hrel
    by_cases hlt : k < vs.length
    · obtain ⟨u, q, hu, hpk, hru⟩ := HP.out.get hlt
      have hcc := cell_keep50 (HCL.out k u hu) hbw
      obtain rfl : a = some ⟨b0, off, none⟩ := by
        rcases HA.out with h9 | ⟨h9, _⟩
        · exact h9
        · rw [h9] at hlt; simp at hlt
      have hpr := hr.out q (List.mem_of_getElem? hpk)
      have hF := HFF.out u q wr hbw (hru.below hbw) hpr
      obtain ⟨o, HO⟩ : ∃ o, Hid (isM b q = o) := ⟨_, rfl⟩
      rw [HO.out] at hF
      have HF := Lib.hid hF
      have HPK := Lib.hid hpk
      clear hF hpk hru hu hpr
      rcases o with _ | _
      · go_wp2_with (go_at_call 26; refine (HF.out).mono ?_; rintro e w1 ⟨rfl, hb1⟩)
        go_roundw
        case rel => exact ⟨k + 1, by go_num, by omega, FI_step HK.out HPK.out HO.out, below_trans hbw hb1⟩
        case measure => simp [intOf]; omega
      · go_wp2_with (go_at_call 26; refine (HF.out).mono ?_; rintro e w1 ⟨rfl, hb1⟩)
        go_ret
        exact ⟨⟨_, rfl, FI_yes HK.out HPK.out HO.out⟩, below_trans hbw hb1⟩
    · go_wp2
      go_ret
      exact ⟨⟨_, rfl, FI_no HK.out (by rw [← HP.out.1]; omega)⟩, hbw⟩

theorem idxF_any (v : Value) (vs : List Value) (ps : List (List Int)) (b : List Int) (p : Addr) (w : World) (h : Row w v vs) (hp : Pvs w vs ps) (hr : Hid (∀ q ∈ ps, Rg 0 256 q ∧ q.length ≤ 900000)) (hl : vs.length ≤ 1000000)
    (hF : ∀ u q w', Below w.heap.size w w' → Row w' u (ints .u8 q) → Rg 0 256 q ∧ q.length ≤ 900000 → Calls Tryd.prog 13 #[u, .pointer (some p)] w' fun e w'' => e = .returned (.bool (hasM q b)) ∧ Below w'.heap.size w' w'') :
    Calls Tryd.prog 24 #[v, .func (.func 13) #[] #[.pointer (some p)]] w fun e w' => (∃ i : Int, e = .returned (.int .i64 i) ∧ FI (fun q => hasM q b) ps i) ∧ Below w.heap.size w w' := by
  obtain ⟨a, b0, off, cp, rfl, hcp, hM, ha, h1, hcell⟩ := h
  have HP := Lib.hid hp
  have HCL := Lib.hid hcell
  have HA := Lib.hid ha
  have HFF := Lib.hid hF
  clear hp hcell ha h1 hcp hM hF
  go_enter Tryd.func24, Tryd.ntmps24
  go_wp2
  go_loopw [8] (fun i wr => ∃ k : Nat, i = .int .i64 k ∧ k ≤ vs.length ∧ Hid (∀ q ∈ ps.take k, hasM q b = false) ∧ Below w.heap.size w wr) (fun i _ => vs.length - (intOf i).toNat)
  case atStart => exact ⟨0, rfl, Nat.zero_le _, (fun y hy => by simp at hy : ∀ q ∈ ps.take 0, hasM q b = false), Below.refl _ _⟩
  case round =>
    obtain ⟨k, rfl, hk, HK, hbw⟩ := hrel
    by_cases hlt : k < vs.length
    · obtain ⟨u, q, hu, hpk, hru⟩ := HP.out.get hlt
      have hcc := cell_keep50 (HCL.out k u hu) hbw
      obtain rfl : a = some ⟨b0, off, none⟩ := by
        rcases HA.out with h9 | ⟨h9, _⟩
        · exact h9
        · rw [h9] at hlt; simp at hlt
      have hpr := hr.out q (List.mem_of_getElem? hpk)
      have hF := HFF.out u q wr hbw (hru.below hbw) hpr
      obtain ⟨o, HO⟩ : ∃ o, Hid (hasM q b = o) := ⟨_, rfl⟩
      rw [HO.out] at hF
      have HF := Lib.hid hF
      have HPK := Lib.hid hpk
      clear hF hpk hru hu hpr
      rcases o with _ | _
      · go_wp2_with (go_at_call 13; refine (HF.out).mono ?_; rintro e w1 ⟨rfl, hb1⟩)
        go_roundw
        case rel => exact ⟨k + 1, by go_num, by omega, FI_step HK.out HPK.out HO.out, below_trans hbw hb1⟩
        case measure => simp [intOf]; omega
      · go_wp2_with (go_at_call 13; refine (HF.out).mono ?_; rintro e w1 ⟨rfl, hb1⟩)
        go_ret
        exact ⟨⟨_, rfl, FI_yes HK.out HPK.out HO.out⟩, below_trans hbw hb1⟩
    · go_wp2
      go_ret
      exact ⟨⟨_, rfl, FI_no HK.out (by rw [← HP.out.1]; omega)⟩, hbw⟩

theorem sliced_zero50 (b off k cp : Nat) : sliced (some ⟨b, off, none⟩) 0 k cp 1 = .slice (some ⟨b, off, none⟩) k cp := by
  unfold sliced
  simp [addr_add]
theorem Pvs.take {w : World} {vs : List Value} {ps : List (List Int)} (h : Pvs w vs ps) (n : Nat) : Pvs w (vs.take n) (ps.take n) := by
  refine ⟨by rw [List.length_take, List.length_take, h.1], fun i u q h1 h2 => ?_⟩
  rw [List.getElem?_take] at h1 h2
  split at h1
  · rename_i hi
    rw [if_pos hi] at h2
    exact h.2 i u q h1 h2
  · cases h1
theorem Pvs.drop {w : World} {vs : List Value} {ps : List (List Int)} (h : Pvs w vs ps) (n : Nat) : Pvs w (vs.drop n) (ps.drop n) := by
  refine ⟨by rw [List.length_drop, List.length_drop, h.1], fun i u q h1 h2 => ?_⟩
  rw [List.getElem?_drop] at h1 h2
  exact h.2 _ u q h1 h2
theorem cut_at (v v2 : Value) (vs : List Value) (ps : List (List Int)) (b : List Int) (w0 w : World) (h0 : Row w0 v vs) (hp0 : Pvs w0 vs ps) (hb0 : Below w0.heap.size w0 w) (h2 : Row w v2 (ints .u8 b)) (hr : ∀ q ∈ ps, Rg 0 256 q ∧ q.length ≤ 1000000) (hgb : Rg 0 256 b) (hl : vs.length ≤ 1000000) :
    Calls Tryd.prog 17 #[v, v2] w fun e w' => ∃ t u vs1 vs2, e = .returned (.tuple #[t, .int .i64 ((cutF b ps).2.1 : Nat), u]) ∧ Row w0 t vs1 ∧ Pvs w0 vs1 (cutF b ps).1 ∧ Row w0 u vs2 ∧ Pvs w0 vs2 (cutF b ps).2.2 ∧ Below w.heap.size w w' := by
  have h := h0.below hb0
  have hp := hp0.below hb0
  have HR0 := Lib.hid h0
  have HP0 := Lib.hid hp0
  clear h0 hp0 hb0
  obtain ⟨V, hV⟩ : ∃ V, cutF b ps = V := ⟨_, rfl⟩
  rw [hV]
  have HV := Lib.hid hV
  clear hV
  obtain ⟨a2, b2, o2, c2, rfl, _⟩ := id h2.op
  obtain ⟨W, hW⟩ : ∃ W, w.alloc (.cells #[.slice a2 b.length c2] 23) = W := ⟨_, rfl⟩
  have hB : Below w.heap.size w W := by rw [← hW]; exact below_alloc w _
  have hc : W.cell? ⟨w.heap.size, 0, none⟩ = some (.slice a2 b.length c2) := by rw [← hW]; exact cell_of_one (heap_alloc_new w _)
  have h' := h.below hB
  have hp' := hp.below hB
  have h2' := h2.below hB
  have hI := idxC_any v vs ps b ⟨w.heap.size, 0, none⟩ W h' hp' hr hl (fun u q w' hb hu hq => cutM1_any u q b _ (.slice a2 b.length c2) w' (cell_keep50 hc hb) (h2'.below hb) hu hq.1 hgb)
  have HI := Lib.hid hI
  have HC := Lib.hid hc; have HB := Lib.hid hB; have HROW := Lib.hid h'; have HPV := Lib.hid hp'; have HB2 := Lib.hid h2'
  have HR := Lib.hid hr
  obtain ⟨a, b0, off, cp, rfl, hcp, hM, ha, h1, hcell⟩ := id h'
  clear hI hc hB h' hp' h2' h hp h2 hr h1
  go_enter Tryd.func17, Tryd.ntmps17
  go_wp2_with fail
  refine HI.out.mono ?_
  rintro e w1 ⟨⟨i, rfl, hi⟩, hb1⟩
  have HW := Lib.hid hW
  clear hW
  rcases hi with ⟨rfl, hn⟩ | ⟨k, rfl, x, hx, hf, hbef⟩
  · obtain rfl : V = (ps, 0, []) := by rw [← HV.out]; exact cutF_no hn
    go_wp2
    go_ret3
    exact ⟨_, _, rfl, vs, HR0.out, HP0.out, [], Row.nil _, Pvs.nil _, below_trans HB.out hb1⟩
  · obtain rfl : V = (ps.take k, markN x b, ps.drop (k + 1)) := by rw [← HV.out]; exact cutF_yes hx hf hbef
    have hk : k < vs.length := by rw [HPV.out.1]; exact (List.getElem?_eq_some_iff.1 hx).1
    obtain ⟨u, q, hu, hq, hru⟩ := HPV.out.get hk
    obtain rfl : x = q := by rw [hx] at hq; exact Option.some.inj hq
    obtain rfl : a = some ⟨b0, off, none⟩ := by
      rcases ha with h9 | ⟨h9, _⟩
      · exact h9
      · rw [h9] at hk; simp at hk
    have hcu := cell_keep50 (hcell k u hu) hb1
    have hcb := cell_keep50 HC.out hb1
    have hxr := HR.out x (List.mem_of_getElem? hx)
    have hMk := fun w' (hb' : Below w1.heap.size w1 w') => mark_any u (.slice a2 b.length c2) x b w' (hru.below (below_trans hb1 hb')) (HB2.out.below (below_trans hb1 hb')) hxr.1 hgb
    have HMK := Lib.hid hMk
    have hsub1 := Row.sub HR0.out (some ⟨b0, off, none⟩) cp rfl 0 k (Nat.zero_le _) (by omega)
    have hsub2 := Row.sub HR0.out (some ⟨b0, off, none⟩) cp rfl (k + 1) vs.length (by omega) (Nat.le_refl _)
    rw [List.take_length] at hsub2
    rw [List.drop_zero] at hsub1
    have HS1 := Lib.hid hsub1; have HS2 := Lib.hid hsub2
    have HCL := Lib.hid hcell
    have hk0 : (0 : Int) ≤ (k : Int) := by omega
    have hk1 : (k : Int) ≤ cp := by omega
    have hk2 : (k : Int) + 1 ≤ vs.length := by omega
    have hk3 : (0 : Int) ≤ (k : Int) + 1 := by omega
    have hw1 : IntKind.i64.wrap ((k : Int) + 1) = (k : Int) + 1 := IntWalk.i64_in _ (by omega)
    have HX := Lib.hid hx
    clear hbef hf hq hMk hsub1 hsub2 hru hu hcell ha hx
    have hbr := Below.refl w1.heap.size w1
    have HKK : Hid ((∀ w', Below w1.drew.heap.size w1.drew w' → w'.cell? ⟨w.heap.size, 0, none⟩ = some (.slice a2 b.length c2)) ∧ ∀ w', Below w1.drew.heap.size w1.drew w' → w'.cell? ⟨b0, off + k, none⟩ = some u) :=
      ⟨fun w' hb' => cell_keep50 (w := w1.drew) hcb hb', fun w' hb' => cell_keep50 (w := w1.drew) hcu hb'⟩
    go_wp2
    go_region_held3 (fun w' => w'.cell? ⟨w.heap.size, 0, none⟩ = some (.slice a2 b.length c2) ∧ w'.cell? ⟨b0, off + k, none⟩ = some u) (first | exact ⟨hcb, hcu⟩ | exact ⟨HKK.out.1 _ hb3, HKK.out.2 _ hb3⟩ | go_keep) (first | (go_at_call 27; refine (HMK.out w1.drew hbr.drew).mono ?_; rintro e w3 ⟨rfl, hb3⟩; dsimp only))
    go_wp2
    all_goals go_ret3
    all_goals
      have hbw := below_trans hb1 (hbr.drew.trans hb3)
      have r1 := HS1.out
      have r2 := HS2.out
      rw [sliced_zero50] at r1
      unfold sliced at r2
      split at r2
      all_goals first
        | (exfalso; omega)
        | (try simp only [Option.map_some, addr_add, Nat.mul_one] at r2
           have p1 := HP0.out.take k
           have p2 := HP0.out.drop (k + 1)
           have hbz := below_trans HB.out hbw
           clear HI HCL HKK hcu hcb HS1 HS2 HMK HROW HPV HV HB HR HB2 HC HR0 HP0
           refine ⟨_, _, rfl, vs.take k, Eq.mp (congrArg (fun v => Row _ v _) ?_) r1, p1, vs.drop (k + 1), Eq.mp (congrArg (fun v => Row _ v _) ?_) r2, p2, hbz⟩
           · clear r1 r2; first | (simp; done) | (simp; omega)
           · clear r1 r2; first | (simp; done) | (simp; omega))
theorem cut_any (v v2 : Value) (vs : List Value) (ps : List (List Int)) (b : List Int) (w : World) (h : Row w v vs) (hp : Pvs w vs ps) (h2 : Row w v2 (ints .u8 b)) (hr : ∀ q ∈ ps, Rg 0 256 q ∧ q.length ≤ 1000000) (hgb : Rg 0 256 b) (hl : vs.length ≤ 1000000) :
    Calls Tryd.prog 17 #[v, v2] w fun e w' => ∃ t u vs1 vs2, e = .returned (.tuple #[t, .int .i64 ((cutF b ps).2.1 : Nat), u]) ∧ Row w t vs1 ∧ Pvs w vs1 (cutF b ps).1 ∧ Row w u vs2 ∧ Pvs w vs2 (cutF b ps).2.2 ∧ Below w.heap.size w w' :=
  cut_at v v2 vs ps b w w h hp (Below.refl _ _) h2 hr hgb hl
end Go.Proofs.YtnoffalohplhnaaDoor
