/- Walks: UTF-8, one sign. -/
import Derived.Test.YthjenihaogihpaaP04
import Derived.Test.YthjenihaogihpaaW0
import Derived.Test.YthjenihaogihpaaT0
import Derived.Test.YthjenihaogihpaaL0
import Derived.Test.YthjenihaogihpaaK2
import Derived.Test.YthjenihaogihpaaB0
namespace Go.Proofs.Ythjenihaogihpaa
open Go.RowKit
set_option maxHeartbeats 400000

theorem oLen_any (c : Int) (w : World) (h0 : -2147483648 ≤ c) (h1 : c ≤ 2147483647) :
    Calls Try.prog 53 #[.int .i32 c] w fun e w' => e = .returned (.int .i64 (ulenI c)) ∧ w = w' := by
  unfold ulenI
  by_cases hs : scB c = true
  · rw [if_pos hs]
    have hb := scB_iff.1 hs
    have HS := Lib.hid hs
    by_cases h2 : c < 128
    · rw [if_pos h2]
      go_enter Try.func53, Try.ntmps53
      go_wp2_with (go_at_call 64; refine (is_any _ _ h0 h1).mono ?_; rintro e w' ⟨rfl, rfl⟩)
      go_ret
      exact ⟨rfl, rfl⟩
    · rw [if_neg h2]
      by_cases h3 : c < 2048
      · rw [if_pos h3]
        go_enter Try.func53, Try.ntmps53
        go_wp2_with (go_at_call 64; refine (is_any _ _ h0 h1).mono ?_; rintro e w' ⟨rfl, rfl⟩)
        go_ret
        exact ⟨rfl, rfl⟩
      · rw [if_neg h3]
        by_cases h4 : c < 65536
        · rw [if_pos h4]
          go_enter Try.func53, Try.ntmps53
          go_wp2_with (go_at_call 64; refine (is_any _ _ h0 h1).mono ?_; rintro e w' ⟨rfl, rfl⟩)
          go_ret
          exact ⟨rfl, rfl⟩
        · rw [if_neg h4]
          go_enter Try.func53, Try.ntmps53
          go_wp2_with (go_at_call 64; refine (is_any _ _ h0 h1).mono ?_; rintro e w' ⟨rfl, rfl⟩)
          go_ret
          exact ⟨rfl, rfl⟩
  · rw [if_neg hs]
    replace hs : scB c = false := by simpa using hs
    go_enter Try.func53, Try.ntmps53
    go_wp2_with (go_at_call 64; refine (is_any _ _ h0 h1).mono ?_; rintro e w' ⟨rfl, rfl⟩)
    go_ret
    exact ⟨rfl, rfl⟩
theorem olead_any (n : Int) (w : World) :
    Calls Try.prog 59 #[.int .i64 n] w fun e w' => e = .returned (.int .u8 (leadI n)) ∧ w = w' := by
  unfold leadI
  rcases (by omega : n = 2 ∨ n = 3 ∨ n = 4 ∨ (n ≠ 2 ∧ n ≠ 3 ∧ n ≠ 4)) with rfl | rfl | rfl | ⟨h2, h3, h4⟩
  · go_enter Try.func59, Try.ntmps59
    go_wp2
    go_ret
    exact ⟨rfl, rfl⟩
  · go_enter Try.func59, Try.ntmps59
    go_wp2
    go_ret
    exact ⟨rfl, rfl⟩
  · go_enter Try.func59, Try.ntmps59
    go_wp2
    go_ret
    exact ⟨rfl, rfl⟩
  · rw [if_neg h2, if_neg h3, if_neg h4]
    have e2 : (n == 2) = false := by simpa using h2
    have e3 : (n == 3) = false := by simpa using h3
    have e4 : (n == 4) = false := by simpa using h4
    clear h2 h3 h4
    go_enter Try.func59, Try.ntmps59
    go_wp2
    go_ret
    exact ⟨rfl, rfl⟩
theorem oStarts_any (x : Int) (w : World) (h0 : 0 ≤ x) (h1 : x < 256) :
    Calls Try.prog 58 #[.int .u8 x] w fun e w' => e = .returned (.int .i64 (wideI x)) ∧ w = w' := by
  go_enter Try.func58, Try.ntmps58
  go_wp2
  all_goals
    go_ret
    refine ⟨ret_int ?_, rfl⟩
    unfold wideI
    repeat (first | rw [if_pos (by omega)] | rw [if_neg (by omega)])
theorem rwide_any (x : Int) (w : World) (h0 : 0 ≤ x) (h1 : x < 256) :
    Calls Try.prog 56 #[.int .u8 x] w fun e w' => e = .returned (.int .i64 (wideI x)) ∧ w = w' := by
  go_enter Try.func56, Try.ntmps56
  go_wp2
  all_goals
    go_ret
    refine ⟨ret_int ?_, rfl⟩
    unfold wideI
    repeat (first | rw [if_pos (by omega)] | rw [if_neg (by omega)])
theorem oFollows_any (x : Int) (w : World) (h0 : 0 ≤ x) (h1 : x < 256) :
    Calls Try.prog 67 #[.int .u8 x] w fun e w' => e = .returned (.bool (folB x)) ∧ w = w' := by
  go_enter Try.func67, Try.ntmps67
  go_wp2
  go_ret
  exact ⟨ret_bool (fol_bits h0 h1), rfl⟩
theorem rrange_any (a : Int) (w : World) (_h0 : 0 ≤ a) (_h1 : a < 256) :
    Calls Try.prog 66 #[.int .u8 a] w fun e w' => e = .returned (.tuple #[.int .u8 (loI a), .int .u8 (hiI a)]) ∧ w = w' := by
  go_enter Try.func66, Try.ntmps66
  go_wp2
  all_goals
    go_ret2
    refine ⟨ret2 (iv ?_) (iv ?_), rfl⟩
    all_goals
      simp only [beq_iff_eq, beq_eq_false_iff_ne, ne_eq] at *
      simp only [loI, hiI]
      repeat (first | rw [if_pos (by omega)] | rw [if_neg (by omega)])
theorem osecond_any (a y : Int) (w : World) (_h0 : 0 ≤ a) (_h1 : a < 256) (h2 : 0 ≤ y) (h3 : y < 256) :
    Calls Try.prog 68 #[.int .u8 a, .int .u8 y] w fun e w' => e = .returned (.bool (secB a y && folB y)) ∧ w = w' := by
  go_enter Try.func68, Try.ntmps68
  go_wp2_with (go_at_call 67; refine (oFollows_any _ _ h2 h3).mono ?_; rintro e w' ⟨rfl, rfl⟩)
  all_goals
    go_ret
    refine ⟨ret_bool ?_, rfl⟩
    simp only [beq_iff_eq, beq_eq_false_iff_ne, ne_eq] at *
    rw [Bool.eq_iff_iff]
    simp only [Bool.and_eq_true, secB_iff, folB_iff, loI, hiI, Bool.false_eq_true]
    repeat (first | rw [if_pos (by omega)] | rw [if_neg (by omega)])
    refine ⟨fun h => ?_, fun h => ?_⟩ <;> first | omega | exact h.elim
theorem oclone_any (v : Value) (xs : List Int) (w : World) (h : Row w v (ints .u8 xs)) (hl : xs.length ≤ 1000000) :
    Calls Try.prog 46 #[v] w fun e w' => ∃ t, e = .returned t ∧ Own w.heap.size 5 w' t (ints .u8 xs) ∧ Below w.heap.size w w' := by
  obtain ⟨a, b, off, cap, rfl, hlc, hm, ha, _⟩ := id h
  have hnil := fun w a n c n' c' => Lib.run_eql_slice_nil (P := Try.prog) w 22 5 a n c n' c' Try.underlying22
  cases a with
  | none =>
    obtain ⟨hn, hz⟩ : ints .u8 xs = [] ∧ ((none : Option Addr) = none → cap = 0) := by
      rcases ha with h | h
      · cases h
      · exact h
    obtain rfl : xs = [] := by simpa [ints] using hn
    obtain rfl := hz rfl
    go_enter Try.func46, Try.ntmps46
    go_wp2
    go_ret
    exact ⟨_, rfl, Own.nil _ _ _, Below.refl _ _⟩
  | some ad =>
    go_enter Try.func46, Try.ntmps46
    go_wp2_with (at_builtin; refine wpList_app slT_u8 _ _ _ rfl rfl rfl rfl (Own.ilit (k := .u8) [] [] rfl (Nat.le_refl _) (by simp)) (h.alloc _) (by simp [ints]; omega) (by simp) ?_; intro t2 w2 hown2 hg2)
    go_ret
    exact ⟨_, rfl, hown2, below_app (Below.refl _ _) (below_alloc _ _) (Own.ilit (k := .u8) [] [] rfl (Nat.le_refl _) (by simp)) hg2⟩
end Go.Proofs.Ythjenihaogihpaa
