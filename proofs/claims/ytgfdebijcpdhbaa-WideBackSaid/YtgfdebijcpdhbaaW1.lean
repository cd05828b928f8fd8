/- Walks: UTF-16. -/
import Derived.Test.YtgfdebijcpdhbaaP1
import Derived.Test.YtgfdebijcpdhbaaW0
import Derived.Test.YtgfdebijcpdhbaaT0
import Derived.Test.YtgfdebijcpdhbaaB0
import Derived.StillTailTactics
namespace Go.Proofs.Ytgfdebijcpdhbaa
open Go.RowKit
set_option maxHeartbeats 400000

theorem uhigh_any (u : Int) (w : World) (h0 : 0 ≤ u) (h1 : u < 65536) :
    Calls Try.prog 55 #[.int .u16 u] w fun e w' => e = .returned (.bool (hiB u)) ∧ w = w' := by
  go_enter Try.func55, Try.ntmps55
  go_wp2
  go_ret
  exact ⟨ret_bool (by rw [u16_and_fc00 u h0 h1, Bool.eq_iff_iff, hiB_iff, beq_iff_eq]; omega), rfl⟩
theorem ulow_any (u : Int) (w : World) (h0 : 0 ≤ u) (h1 : u < 65536) :
    Calls Try.prog 54 #[.int .u16 u] w fun e w' => e = .returned (.bool (loB u)) ∧ w = w' := by
  go_enter Try.func54, Try.ntmps54
  go_wp2
  go_ret
  exact ⟨ret_bool (by rw [u16_and_fc00 u h0 h1, Bool.eq_iff_iff, loB_iff, beq_iff_eq]; omega), rfl⟩
theorem uLow_any (u : Int) (w : World) (h0 : 0 ≤ u) (h1 : u < 65536) :
    Calls Try.prog 56 #[.int .u16 u] w fun e w' => e = .returned (.bool (loB u)) ∧ w = w' := by
  go_enter Try.func56, Try.ntmps56
  go_wp2_with (go_at_call 54; refine (ulow_any _ _ h0 h1).mono ?_; rintro e w' ⟨rfl, rfl⟩)
  go_ret
  exact ⟨rfl, rfl⟩
theorem rHigh_any (u : Int) (w : World) :
    Calls Try.prog 40 #[.int .u16 u] w fun e w' => e = .returned (.bool (hiB u)) ∧ w = w' := by
  go_enter Try.func40, Try.ntmps40
  go_wp2
  all_goals (go_ret; exact ⟨ret_bool (by rw [Bool.eq_iff_iff]; simp [hiB]; try omega), rfl⟩)
theorem rLow_any (u : Int) (w : World) :
    Calls Try.prog 41 #[.int .u16 u] w fun e w' => e = .returned (.bool (loB u)) ∧ w = w' := by
  go_enter Try.func41, Try.ntmps41
  go_wp2
  all_goals (go_ret; exact ⟨ret_bool (by rw [Bool.eq_iff_iff]; simp [loB]; try omega), rfl⟩)

theorem uof_any (c : Int) (w : World) (h0 : -2147483648 ≤ c) (h1 : c ≤ 2147483647) :
    Calls Try.prog 38 #[.int .i32 c] w fun e w' => ∃ v, e = .returned v ∧ Own w.heap.size 66 w' v (ints .u16 (uof c)) ∧ Below w.heap.size w w' := by
  by_cases hs : scB c = true
  · have hb := scB_iff.1 hs
    by_cases hc : c < 65536
    · go_enter Try.func38, Try.ntmps38
      go_wp2_with (go_at_call 48; refine (is_any _ _ (by omega) (by omega)).mono ?_; rintro e w' ⟨rfl, rfl⟩)
      go_ret
      exact ⟨_, rfl, Own.ilit _ [_] (by simp [uof, hs, hc, ints]) (Nat.le_refl _) (by simp), below_alloc _ _⟩
    · go_enter Try.func38, Try.ntmps38
      go_wp2_with (go_at_call 48; refine (is_any _ _ (by omega) (by omega)).mono ?_; rintro e w' ⟨rfl, rfl⟩)
      go_ret
      refine ⟨_, rfl, Own.ilit _ [_, _] ?_ (Nat.le_refl _) (by simp), below_alloc _ _⟩
      rw [i32_join10 55296 _ (by omega) (by omega) (by omega) (by omega) (by omega), i32_mask10 _ (by omega) (by omega), i32_join10 56320 _ (by omega) (by omega) (by omega) (by omega) (by omega),
        IntWalk.u16_in _ (by omega), IntWalk.u16_in _ (by omega)]
      simp only [uof, hs, if_true, if_neg (by omega : ¬ c < 65536)]
      rfl
  · have hs' : scB c = false := by simpa using hs
    clear hs
    go_enter Try.func38, Try.ntmps38
    go_wp2_with (go_at_call 48; refine (is_any _ _ (by omega) (by omega)).mono ?_; rintro e w' ⟨rfl, rfl⟩)
    go_ret
    exact ⟨_, rfl, by rw [uof, hs']; exact Own.nil _ _ _, Below.refl _ _⟩
theorem ruof_any (c : Int) (w : World) (h0 : -2147483648 ≤ c) (h1 : c ≤ 2147483647) :
    Calls Try.prog 39 #[.int .i32 c] w fun e w' => ∃ v, e = .returned v ∧ Own w.heap.size 66 w' v (ints .u16 (uof c)) ∧ Below w.heap.size w w' := by
  by_cases hs : scB c = true
  · have hb := scB_iff.1 hs
    by_cases hc : c < 65536
    · go_enter Try.func39, Try.ntmps39
      go_wp2_with (go_at_call 31; refine (ris_any _ _).mono ?_; rintro e w' ⟨rfl, rfl⟩)
      go_ret
      exact ⟨_, rfl, Own.ilit _ [_] (by simp [uof, hs, hc, ints]) (Nat.le_refl _) (by simp), below_alloc _ _⟩
    · go_enter Try.func39, Try.ntmps39
      go_wp2_with (go_at_call 31; refine (ris_any _ _).mono ?_; rintro e w' ⟨rfl, rfl⟩)
      go_ret
      refine ⟨_, rfl, Own.ilit _ [_, _] ?_ (Nat.le_refl _) (by simp), below_alloc _ _⟩
      simp only [uof, hs, if_true, if_neg (by omega : ¬ c < 65536)]
      rfl
  · have hs' : scB c = false := by simpa using hs
    clear hs
    go_enter Try.func39, Try.ntmps39
    go_wp2_with (go_at_call 31; refine (ris_any _ _).mono ?_; rintro e w' ⟨rfl, rfl⟩)
    go_ret
    exact ⟨_, rfl, by rw [uof, hs']; exact Own.nil _ _ _, Below.refl _ _⟩

theorem uone_any (v : Value) (x : Int) (r : List Int) (w : World) (h : Row w v (ints .u16 (x :: r))) (hg : Rg 0 65536 (x :: r)) (hl : (x :: r).length ≤ 1000000000) :
    Calls Try.prog 53 #[v] w fun e w' => e = .returned (.tuple #[.int .i32 (uone x r).1, .int .i64 (uone x r).2.1, .int .i64 (uone x r).2.2]) ∧ Below w.heap.size w w' := by
  obtain ⟨a, b, off, cap, rfl, HC⟩ := h.op
  obtain ⟨⟨hx0, hx1⟩, hg'⟩ := hg.cons
  obtain ⟨x', HX, rfl, hc⟩ := HC.out 0 (by simp)
  obtain rfl : x = x' := by simpa using HX.out
  replace hc : w.cell? ⟨b, off, none⟩ = some (.int .u16 x) := by simpa using hc w (Below.refl _ _)
  by_cases hlo : loB x = true
  · go_enter Try.func53, Try.ntmps53
    go_wp2_with (first | (go_at_call 54; refine (ulow_any _ _ hx0 hx1).mono ?_; rintro e w' ⟨rfl, rfl⟩) | (go_at_call 55; refine (uhigh_any _ _ hx0 hx1).mono ?_; rintro e w' ⟨rfl, rfl⟩))
    go_ret3
    exact ⟨by simp [uone, hlo], Below.refl _ _⟩
  · have hlo' : loB x = false := by simpa using hlo
    clear hlo
    by_cases hhi : hiB x = true
    · cases r with
      | nil =>
        go_enter Try.func53, Try.ntmps53
        go_wp2_with (first | (go_at_call 54; refine (ulow_any _ _ hx0 hx1).mono ?_; rintro e w' ⟨rfl, rfl⟩) | (go_at_call 55; refine (uhigh_any _ _ hx0 hx1).mono ?_; rintro e w' ⟨rfl, rfl⟩))
        go_ret3
        exact ⟨by simp [uone, hlo', hhi], Below.refl _ _⟩
      | cons y r =>
        obtain ⟨⟨hy0, hy1⟩, hg''⟩ := hg'.cons
        obtain ⟨y', HY, _, hd⟩ := HC.out 1 (by simp)
        obtain rfl : y = y' := by simpa using HY.out
        replace hd := hd w (Below.refl _ _)
        by_cases hly : loB y = true
        · have h1 := hiB_iff.1 hhi
          have h2 := loB_iff.1 hly
          go_enter Try.func53, Try.ntmps53
          go_wp2_with (first | (go_at_call 54; refine (ulow_any _ _ hx0 hx1).mono ?_; rintro e w' ⟨rfl, rfl⟩) | (go_at_call 55; refine (uhigh_any _ _ hx0 hx1).mono ?_; rintro e w' ⟨rfl, rfl⟩) | (go_at_call 56; refine (uLow_any _ _ hy0 hy1).mono ?_; rintro e w' ⟨rfl, rfl⟩))
          go_quiet (fail)
          go_wp2
          go_ret3
          refine ⟨ret3 (iv ?_) (iv (by simp [uone, hlo', hhi, hly])) (iv (by simp [uone, hlo', hhi, hly])), below_drewN (Below.refl _ _) _⟩
          rw [i32_mask10 x hx0 (by omega), i32_mask10 y hy0 (by omega), IntWalk.wrap32_in (x % 1024 * 1024) (by omega), i32_join10 _ _ (by omega) (by omega) (by omega) (by omega) (by omega), IntWalk.wrap32_in _ (by omega)]
          simp [uone, hlo', hhi, hly]
          omega
        · have hly' : loB y = false := by simpa using hly
          clear hly
          go_enter Try.func53, Try.ntmps53
          go_wp2_with (first | (go_at_call 54; refine (ulow_any _ _ hx0 hx1).mono ?_; rintro e w' ⟨rfl, rfl⟩) | (go_at_call 55; refine (uhigh_any _ _ hx0 hx1).mono ?_; rintro e w' ⟨rfl, rfl⟩) | (go_at_call 56; refine (uLow_any _ _ hy0 hy1).mono ?_; rintro e w' ⟨rfl, rfl⟩))
          go_ret3
          exact ⟨by simp [uone, hlo', hhi, hly'], Below.refl _ _⟩
    · have hhi' : hiB x = false := by simpa using hhi
      clear hhi
      go_enter Try.func53, Try.ntmps53
      go_wp2_with (first | (go_at_call 54; refine (ulow_any _ _ hx0 hx1).mono ?_; rintro e w' ⟨rfl, rfl⟩) | (go_at_call 55; refine (uhigh_any _ _ hx0 hx1).mono ?_; rintro e w' ⟨rfl, rfl⟩))
      go_ret3
      exact ⟨by simp [uone, hlo', hhi'], Below.refl _ _⟩
end Go.Proofs.Ytgfdebijcpdhbaa
