/- Walks: Base64's digits. -/
import Derived.Test.YtieeafkbgmpofaaLI
import Derived.Test.YtieeafkbgmpofaaT0
import Derived.Test.YtieeafkbgmpofaaP23
namespace Go.Proofs.Ytieeafkbgmpofaa
open Go.RowKit
set_option maxHeartbeats 1000000
theorem bValue_any (c : Int) (w : World) (h0 : 0 ≤ c) (h1 : c < 256) :
    Calls Try.prog 107 #[.int .u8 c] w fun e w' => e = .returned (.tuple #[.int .i64 (max (dv c) 0), .bool (decide (0 ≤ dv c))]) ∧ w' = w := by
  have hi := idx_b64 h0 h1
  have hr := dv_rng c
  generalize dv c = n at *
  have hs := fun w => sIndexByte_any ⟨b64.toArray⟩ c w
  simp only [hi] at hs
  have HS := Lib.hid hs; clear hs hi
  by_cases hn : 0 ≤ n
  · go_enter Try.func107, Try.ntmps107
    go_wp2_with (go_at_call 57; refine (HS.out _).mono ?_; rintro e w' ⟨rfl, rfl⟩)
    all_goals
      go_ret2
      exact ⟨ret2 (iv (by omega)) (bv (by first | (simp; omega) | simp)), rfl⟩
  · go_enter Try.func107, Try.ntmps107
    go_wp2_with (go_at_call 57; refine (HS.out _).mono ?_; rintro e w' ⟨rfl, rfl⟩)
    all_goals
      go_ret2
      exact ⟨ret2 (iv (by omega)) (bv (by first | (simp; omega) | simp)), rfl⟩
theorem rDigit_any (n : Int) (w : World) (h0 : 0 ≤ n) (h1 : n < 64) :
    Calls Try.prog 95 #[.int .i64 n] w fun e w' => e = .returned (.int .u8 (dg n)) ∧ w' = w := by
  rcases (by omega : n < 26 ∨ (26 ≤ n ∧ n < 52) ∨ (52 ≤ n ∧ n < 62) ∨ n = 62 ∨ n = 63) with h | h | h | rfl | rfl
  all_goals
    go_enter Try.func95, Try.ntmps95
    go_wp2
    all_goals
      go_ret
      exact ⟨ret_int (by unfold dg; (repeat' split) <;> omega), rfl⟩
theorem rValue_any (c : Int) (w : World) :
    Calls Try.prog 79 #[.int .u8 c] w fun e w' => e = .returned (.tuple #[.int .i64 (max (dv c) 0), .bool (decide (0 ≤ dv c))]) ∧ w' = w := by
  have hr := dv_rng c
  go_enter Try.func79, Try.ntmps79
  go_wp2
  go_loopw [4] (fun i wr => ∃ k : Nat, i = .int .i64 k ∧ k ≤ 64 ∧ Hid (∀ j : Nat, j < k → dg j ≠ c) ∧ wr = w) (fun i _ => 64 - (intOf i).toNat)
  case atStart => exact ⟨0, rfl, by omega, (by intro j hj; omega : ∀ j : Nat, j < 0 → dg j ≠ c), rfl⟩
  case round =>
    obtain ⟨k, rfl, hk, HK, rfl⟩ := hrel
    by_cases hlt : k < 64
    · by_cases hd : dg k = c
      · have he : dv c = k := by rw [← hd]; exact dv_dg (by omega) (by omega)
        have hb : (dg k == c) = true := beq_iff_eq.2 hd
        clear hd
        go_wp2_with (go_at_call 95; refine (rDigit_any _ _ (by omega) (by omega)).mono ?_; rintro e w' ⟨rfl, rfl⟩)
        go_ret2
        exact ⟨ret2 (iv (by omega)) (bv (by first | (simp; omega) | simp)), rfl⟩
      · have hb : (dg k == c) = false := beq_false_of_ne hd
        go_wp2_with (go_at_call 95; refine (rDigit_any _ _ (by omega) (by omega)).mono ?_; rintro e w' ⟨rfl, rfl⟩)
        go_roundw
        case rel => exact ⟨k + 1, by go_num, by omega, (fun j hj => by
          rcases Nat.lt_or_ge j k with h | h
          · exact HK.out j h
          · obtain rfl : j = k := by omega
            exact hd : ∀ j : Nat, j < k + 1 → dg j ≠ c), by first | rfl | trivial⟩
        case measure => simp [intOf]; omega
    · have hn : dv c < 0 := by
        rcases Int.lt_or_le (dv c) 0 with h | h
        · exact h
        · exfalso
          refine HK.out (dv c).toNat (by omega) ?_
          rw [Int.toNat_of_nonneg h]; exact dg_dv h
      go_wp2
      go_ret2
      exact ⟨ret2 (iv (by omega)) (bv (by first | (simp; omega) | simp)), rfl⟩
end Go.Proofs.Ytieeafkbgmpofaa
