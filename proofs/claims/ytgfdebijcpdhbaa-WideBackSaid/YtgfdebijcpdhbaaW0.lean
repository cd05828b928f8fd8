/- Walks: scalar values. -/
import Derived.Test.YtgfdebijcpdhbaaRows
import Derived.Test.YtgfdebijcpdhbaaP0
import Derived.Test.YtgfdebijcpdhbaaK
namespace Go.Proofs.Ytgfdebijcpdhbaa
open Go.RowKit
set_option maxHeartbeats 400000

theorem surrogate_any (c : Int) (w : World) :
    Calls Try.prog 51 #[.int .i32 c] w fun e w' => e = .returned (.bool (surB c)) ∧ w = w' := by
  go_enter Try.func51, Try.ntmps51
  go_wp2
  all_goals (go_ret; exact ⟨ret_bool (by rw [surB, eq_comm]; simp; try omega), rfl⟩)
theorem is_any (c : Int) (w : World) (h1 : -2147483648 ≤ c) (h2 : c ≤ 2147483647) :
    Calls Try.prog 48 #[.int .i32 c] w fun e w' => e = .returned (.bool (scB c)) ∧ w = w' := by
  go_enter Try.func48, Try.ntmps48
  go_wp2_with (go_at_call 51; refine (surrogate_any _ _).mono ?_; rintro e w' ⟨rfl, rfl⟩)
  all_goals (go_ret; exact ⟨ret_bool (by rw [Bool.eq_iff_iff]; simp [scB, surB]; omega), rfl⟩)
theorem rsur_any (c : Int) (w : World) :
    Calls Try.prog 42 #[.int .i32 c] w fun e w' => e = .returned (.bool (surB c)) ∧ w = w' := by
  go_enter Try.func42, Try.ntmps42
  go_wp2
  all_goals (go_ret; exact ⟨ret_bool (by rw [Bool.eq_iff_iff]; simp [surB]; try omega), rfl⟩)
theorem ris_any (c : Int) (w : World) :
    Calls Try.prog 31 #[.int .i32 c] w fun e w' => e = .returned (.bool (scB c)) ∧ w = w' := by
  go_enter Try.func31, Try.ntmps31
  go_wp2_with (go_at_call 42; refine (rsur_any _ _).mono ?_; rintro e w' ⟨rfl, rfl⟩)
  all_goals (go_ret; exact ⟨ret_bool (by rw [Bool.eq_iff_iff]; simp [scB, surB]; omega), rfl⟩)

theorem rfirst_any (v : Value) (xs : List Int) (w : World) (h : Row w v (ints .i32 xs)) (hl : xs.length ≤ 1000000000) :
    Calls Try.prog 26 #[v] w fun e w' => e = .returned (.int .i64 (idx (fun c => !scB c) xs)) ∧ w = w' := by
  obtain ⟨a, b, off, cap, rfl, hc, hm, ha, hcell⟩ := h.int
  clear hc hm
  have HC := Lib.hid hcell; clear hcell
  go_enter Try.func26, Try.ntmps26
  go_wp2
  go_loop [3] (fun i => ∃ k : Nat, k ≤ xs.length ∧ i = .int .i64 k ∧ Hid (∀ y ∈ xs.take k, scB y = true)) (fun i => xs.length - (intOf i).toNat)
  case atStart => exact ⟨0, Nat.zero_le _, rfl, fun y hy => by simp at hy⟩
  case round =>
    obtain ⟨k, hk, rfl, hall⟩ := hrel
    by_cases hlt : k < xs.length
    · obtain ⟨x, hx⟩ : ∃ x, xs[k]? = some x := ⟨_, List.getElem?_eq_getElem hlt⟩
      have HX := Lib.hid hx; clear hx
      have hc := HC.out k x HX.out
      obtain rfl : a = some ⟨b, off, none⟩ := by
        rcases ha with h | ⟨h, _⟩
        · exact h
        · subst h; simp at hlt
      clear ha
      by_cases hs : scB x = true
      · go_wp2_with (go_at_call 31; refine (ris_any _ _).mono ?_; rintro e w' ⟨rfl, rfl⟩)
        go_round
        case rel => exact ⟨k + 1, by omega, by go_num, take_succ_all hall.out HX.out hs⟩
        case measure => simp [intOf]; omega
      · have hs' : scB x = false := by simpa using hs
        clear hs
        go_wp2_with (go_at_call 31; refine (ris_any _ _).mono ?_; rintro e w' ⟨rfl, rfl⟩)
        go_ret
        exact ⟨ret_int (by rw [idx_at (p := fun c => !scB c) (k := k) (fun y hy => by simp [hall.out y hy]) HX.out (by simp [hs'])]), rfl⟩
    · go_wp2
      go_ret
      exact ⟨ret_int (by rw [idx_none (fun y hy => by simp [hall.out y (by rw [List.take_of_length_le (by omega)]; exact hy)])]), rfl⟩
end Go.Proofs.Ytgfdebijcpdhbaa
