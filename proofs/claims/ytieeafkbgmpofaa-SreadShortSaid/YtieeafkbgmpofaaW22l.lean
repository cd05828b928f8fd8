/- Walks: how many runs, by the reference; the length of what is laid. -/
import Derived.Test.YtieeafkbgmpofaaW22k
namespace Go.Proofs.Ytieeafkbgmpofaa
open Go.RowKit
set_option maxHeartbeats 2000000
/-- How many runs begin in a text, within a run or not. -/
def rr : Bool → List Int → Nat
  | _, [] => 0
  | inn, c :: r => if dirB c then rr false r else if inn then rr true r else if c = 43 then rr false r else rr true r + 1
theorem rr_true : ∀ xs : List Int, rr true xs = rr false (xs.drop (dn xs))
  | [] => rfl
  | c :: r => by
    rw [dn]
    by_cases hd : dirB c = true
    · rw [if_pos hd, List.drop_zero, rr, rr, if_pos hd, if_pos hd]
    · rw [if_neg hd, List.drop_succ_cons, rr, if_neg hd, if_pos rfl]; exact rr_true r
theorem rr_lay : ∀ (k : Nat) (xs : List Int), xs.length ≤ k → (lay xs).2 = rr false xs
  | _, [], _ => by rw [lay_nil]; rfl
  | 0, c :: r, h => by simp at h
  | k + 1, c :: r, h => by
    have hp := lk_pos c r
    have ih := rr_lay k ((c :: r).drop (lk c r)) (by rw [List.length_drop]; simp only [List.length_cons] at h ⊢; omega)
    rw [lay_cons, ih]
    by_cases hd : dirB c = true
    · have h0 : rn (c :: r) = 0 := by rw [rn]; split; rfl; rw [dn, if_pos hd]
      rw [ln, if_neg (by omega), lk, if_neg (by omega), Nat.zero_add, rr, if_pos hd, List.drop_succ_cons, List.drop_zero]
    · by_cases h43 : c = 43
      · have h0 : rn (c :: r) = 0 := by rw [rn, if_pos h43]
        rw [ln, if_neg (by omega), lk, if_neg (by omega), Nat.zero_add, rr, if_neg hd, if_neg (by simp), if_pos h43, List.drop_succ_cons, List.drop_zero]
      · have h0 : rn (c :: r) = dn r + 1 := by rw [rn, if_neg h43, dn, if_neg hd]
        rw [ln, if_pos (by omega), lk, if_pos (by omega), h0, rr, if_neg hd, if_neg (by simp), if_neg h43, List.drop_succ_cons, rr_true, Nat.add_comm]
theorem oLen_any (v : Value) (xs : List Int) (w : World) (h : Row w v (ints .i32 xs)) (hg : R32 xs) (hl : xs.length ≤ 5000) :
    Calls Try.prog 32 #[v] w fun e w' => e = .returned (.int .i64 (if allSc xs then (lay xs).1 else []).length) ∧ Below w.heap.size w w' := by
  have hr := oLay_any v xs w h hg hl
  generalize (if allSc xs then (lay xs).1 else []) = L at *
  have HR := Lib.hid hr; clear hr
  go_enter Try.func32, Try.ntmps32
  go_wp2_with (go_at_call 27; refine (HR.out).mono ?_; rintro e w2 ⟨t, rfl, ho, hb2⟩; obtain ⟨al, bl, ol, cl, rfl, _⟩ := id ho.row.op)
  all_goals
    go_ret
    exact ⟨rfl, hb2⟩
theorem rRuns_any (v : Value) (xs : List Int) (w : World) (h : Row w v (ints .i32 xs)) (hg : R32 xs) (hl : xs.length ≤ 5000) :
    Calls Try.prog 61 #[v] w fun e w' => e = .returned (.int .i64 (lay xs).2) ∧ Below w.heap.size w w' := by
  obtain ⟨a, b, off, cp, rfl, HC⟩ := h.op
  rw [rr_lay _ xs (Nat.le_refl _)]
  obtain ⟨R, HR⟩ : ∃ R, Hid (rr false xs = R) := ⟨_, rfl⟩
  rw [HR.out]
  go_enter Try.func61, Try.ntmps61
  go_wp2
  go_loopw [3, 4, 5] (fun nv bv iv wr => ∃ (k m : Nat) (q : Bool), iv = .int .i64 k ∧ nv = .int .i64 m ∧ bv = .bool q ∧ k ≤ xs.length ∧ m ≤ k ∧ Hid (m + rr q (xs.drop k) = R) ∧ Below w.heap.size w wr) (fun _ _ i _ => xs.length - (intOf i).toNat)
  case atStart => exact ⟨0, 0, false, rfl, rfl, rfl, Nat.zero_le _, Nat.le_refl _, (by rw [Nat.zero_add, List.drop_zero]; exact HR.out : 0 + rr false (xs.drop 0) = R), Below.refl _ _⟩
  case round =>
    obtain ⟨k, m, q, rfl, rfl, rfl, hk, hm, HQ, hbr⟩ := hrel
    by_cases hlt : k < xs.length
    · obtain ⟨c, HX, rfl, hc⟩ := HC.out k hlt
      have HCF := Lib.hid hc
      replace hc := hc _ hbr
      have hcr := hg.get HX.out
      have hdir := fun w => rDirect_any c w hcr.1 hcr.2
      have hq := HQ.out
      obtain ⟨k1, k2⟩ := List.getElem?_eq_some_iff.1 HX.out
      rw [List.drop_eq_getElem_cons k1, k2, rr] at hq
      rcases hd : dirB c with _ | _
      · rw [hd] at hdir
        rw [if_neg (by rw [hd]; simp)] at hq
        have HDIR := Lib.hid hdir
        clear hdir hd HQ
        rcases q with _ | _
        · rw [if_neg (by simp)] at hq
          rcases Decidable.em (c = 43) with rfl | h43
          · rw [if_pos rfl] at hq
            have HQ := Lib.hid hq; clear hq
            go_wp2_with (go_at_call 24; refine (HDIR.out _).mono ?_; rintro e w' ⟨rfl, hb'⟩; have hc2 := HCF.out _ (below_trans hbr hb'))
            go_roundw
            case rel => exact ⟨k + 1, m, false, by go_num, rfl, rfl, by omega, by omega, HQ, below_trans hbr hb'⟩
            case measure => simp [intOf]; omega
          · rw [if_neg h43, ← Nat.add_assoc, Nat.add_right_comm] at hq
            have HQ := Lib.hid hq; clear hq
            have hne : (c != 43) = true := by simpa using h43
            go_wp2_with (go_at_call 24; refine (HDIR.out _).mono ?_; rintro e w' ⟨rfl, hb'⟩; have hc2 := HCF.out _ (below_trans hbr hb'))
            go_roundw
            case rel => exact ⟨k + 1, m + 1, true, by go_num, by go_num, rfl, by omega, by omega, HQ, below_trans hbr hb'⟩
            case measure => simp [intOf]; omega
        · rw [if_pos rfl] at hq
          have HQ := Lib.hid hq; clear hq
          go_wp2_with (go_at_call 24; refine (HDIR.out _).mono ?_; rintro e w' ⟨rfl, hb'⟩)
          go_roundw
          case rel => exact ⟨k + 1, m, true, by go_num, rfl, rfl, by omega, by omega, HQ, below_trans hbr hb'⟩
          case measure => simp [intOf]; omega
      · rw [hd] at hdir
        rw [if_pos hd] at hq
        have HDIR := Lib.hid hdir
        clear hdir hd HQ
        have HQ := Lib.hid hq; clear hq
        go_wp2_with (go_at_call 24; refine (HDIR.out _).mono ?_; rintro e w' ⟨rfl, hb'⟩)
        go_roundw
        case rel => exact ⟨k + 1, m, false, by go_num, rfl, rfl, by omega, by omega, HQ, below_trans hbr hb'⟩
        case measure => simp [intOf]; omega
    · go_wp2
      go_ret
      have hq := HQ.out
      rw [List.drop_eq_nil_of_le (by omega), show rr q [] = 0 from by cases q <;> rfl, Nat.add_zero] at hq
      exact ⟨ret_int (by rw [hq]), hbr⟩
end Go.Proofs.Ytieeafkbgmpofaa
