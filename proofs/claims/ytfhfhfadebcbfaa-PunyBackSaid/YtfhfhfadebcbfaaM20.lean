/- Walks: a row's order broken: the numbers by which. · Walks: how many bits a number to 100 has (each number walked by itself). (laid together by program out of single texts). -/
import Derived.Sort.LotD5
import Derived.Sort.Walk7a
import Derived.Laws.Bits64
import Derived.Laws.Bits64b
import Derived.Test.YtfhfhfadebcbfaaM18
namespace Go.Proofs.Ytfhfhfadebcbfaa
open Go.RowKit
set_option maxHeartbeats 8000000
set_option maxRecDepth 100000
def Xs (B Q : Nat) (w : World) (x : Nat) : Prop := Own B 78 w (.slice (some ⟨Q, 0, none⟩) 1 1) [.int .u64 x]
section
variable {B Q x : Nat} {w : World}
theorem Xs.cell (h : Xs B Q w x) : w.cell? ⟨Q, 0, none⟩ = some (.int .u64 x) := Own.cell h (j := 0) rfl
theorem Xs.frz (h : Xs B Q w x) : w.frozen? ⟨Q, 0, none⟩ = false := Own.frozen h 0
theorem Xs.set (h : Xs B Q w x) (t : Nat) : Xs B Q (w.setCell ⟨Q, 0, none⟩ (.int .u64 t)) t := Own.set h 0 (.int .u64 t) rfl
theorem Xs.drewN (h : Xs B Q w x) (q : Nat) : Xs B Q (w.drewN q) x := Own.below h (below_drewN (Below.refl _ _) q)
end
theorem next_any (B Q X : Nat) (w : World) (h : Xs B Q w X) (hX : X < 18446744073709551616) :
    Calls Try.prog 73 #[.pointer (some ⟨Q, 0, none⟩)] w fun e w' => e = .returned (.int .u64 (Sort.xorNextN X : Nat)) ∧ Xs B Q w' (Sort.xorNextN X) ∧ w.grownBy w' (some Q) := by
  obtain ⟨x1, h1⟩ : ∃ a : Nat, a = X ^^^ (X * 8192 % 18446744073709551616) := ⟨_, rfl⟩
  obtain ⟨x2, h2⟩ : ∃ a : Nat, a = x1 ^^^ (x1 / 128) := ⟨_, rfl⟩
  obtain ⟨x3, h3⟩ : ∃ a : Nat, a = x2 ^^^ (x2 * 131072 % 18446744073709551616) := ⟨_, rfl⟩
  have l1 : x1 < 18446744073709551616 := by rw [h1]; exact Nat.xor_lt_two_pow (n := 64) (by omega) (by omega)
  have l2 : x2 < 18446744073709551616 := by rw [h2]; exact Nat.xor_lt_two_pow (n := 64) (by omega) (by omega)
  have hv : Sort.xorNextN X = x3 := by unfold Sort.xorNextN; simp only []; rw [← h1, ← h2, ← h3]
  rw [hv]
  have e1 : bits .xor .u64 (X : Int) (IntKind.u64.wrap ((X : Int) * 8192)) = (x1 : Int) := by
    rw [IntKind.wrap_u64, show ((X : Int) * 8192 % 18446744073709551616) = ((X * 8192 % 18446744073709551616 : Nat) : Int) by omega, bits_xor_u64_nat _ _ hX (by omega), h1]
  have e2 : bits .xor .u64 (x1 : Int) ((x1 : Int) / 128) = (x2 : Int) := by
    rw [show ((x1 : Int) / 128) = ((x1 / 128 : Nat) : Int) by omega, bits_xor_u64_nat _ _ l1 (by omega), h2]
  have e3 : bits .xor .u64 (x2 : Int) (IntKind.u64.wrap ((x2 : Int) * 131072)) = (x3 : Int) := by
    rw [IntKind.wrap_u64, show ((x2 : Int) * 131072 % 18446744073709551616) = ((x2 * 131072 % 18446744073709551616 : Nat) : Int) by omega, bits_xor_u64_nat _ _ l2 (by omega), h3]
  clear h1 h2 h3 hv
  have hss : ∀ v v', (w.setCell ⟨Q, 0, none⟩ v).setCell ⟨Q, 0, none⟩ v' = w.setCell ⟨Q, 0, none⟩ v' := setCell_setCell w Q 0
  have kc := h.cell
  have fc := h.frz
  have HX := Lib.hid ((h.drewN 3).set x3)
  go_enter Try.func73, Try.ntmps73
  go_wp2
  go_region
  all_goals go_wp2
  all_goals go_region
  all_goals go_wp2
  all_goals go_region
  all_goals go_wp2
  go_ret
  exact ⟨rfl, HX.out, grown_trans (grown_drewN w 3 (some Q)) (grown_set (w.drewN 3) Q 0 (.int .u64 x3))⟩
end Go.Proofs.Ytfhfhfadebcbfaa
namespace Go.Proofs.Ytfhfhfadebcbfaa
open Go.RowKit
set_option maxHeartbeats 4000000
set_option maxRecDepth 100000
theorem len64_0 (w : World) : Calls Try.prog 69 #[.int .u64 0] w fun e w' => e = .returned (.int .i64 (Sort.bitsLen 0 : Nat)) ∧ w' = w := by
  go_enter Try.func69, Try.ntmps69
  go_wp2
  go_ret
  exact ⟨congrArg Ending.returned (congrArg (Value.int .i64) (by decide +kernel)), rfl⟩
theorem len64_1 (w : World) : Calls Try.prog 69 #[.int .u64 1] w fun e w' => e = .returned (.int .i64 (Sort.bitsLen 1 : Nat)) ∧ w' = w := by
  go_enter Try.func69, Try.ntmps69
  go_wp2
  go_ret
  exact ⟨congrArg Ending.returned (congrArg (Value.int .i64) (by decide +kernel)), rfl⟩
theorem len64_2 (w : World) : Calls Try.prog 69 #[.int .u64 2] w fun e w' => e = .returned (.int .i64 (Sort.bitsLen 2 : Nat)) ∧ w' = w := by
  go_enter Try.func69, Try.ntmps69
  go_wp2
  go_ret
  exact ⟨congrArg Ending.returned (congrArg (Value.int .i64) (by decide +kernel)), rfl⟩
theorem len64_3 (w : World) : Calls Try.prog 69 #[.int .u64 3] w fun e w' => e = .returned (.int .i64 (Sort.bitsLen 3 : Nat)) ∧ w' = w := by
  go_enter Try.func69, Try.ntmps69
  go_wp2
  go_ret
  exact ⟨congrArg Ending.returned (congrArg (Value.int .i64) (by decide +kernel)), rfl⟩
theorem len64_4 (w : World) : Calls Try.prog 69 #[.int .u64 4] w fun e w' => e = .returned (.int .i64 (Sort.bitsLen 4 : Nat)) ∧ w' = w := by
  go_enter Try.func69, Try.ntmps69
  go_wp2
  go_ret
  exact ⟨congrArg Ending.returned (congrArg (Value.int .i64) (by decide +kernel)), rfl⟩
theorem len64_5 (w : World) : Calls Try.prog 69 #[.int .u64 5] w fun e w' => e = .returned (.int .i64 (Sort.bitsLen 5 : Nat)) ∧ w' = w := by
  go_enter Try.func69, Try.ntmps69
  go_wp2
  go_ret
  exact ⟨congrArg Ending.returned (congrArg (Value.int .i64) (by decide +kernel)), rfl⟩
theorem len64_6 (w : World) : Calls Try.prog 69 #[.int .u64 6] w fun e w' => e = .returned (.int .i64 (Sort.bitsLen 6 : Nat)) ∧ w' = w := by
  go_enter Try.func69, Try.ntmps69
  go_wp2
  go_ret
  exact ⟨congrArg Ending.returned (congrArg (Value.int .i64) (by decide +kernel)), rfl⟩
theorem len64_7 (w : World) : Calls Try.prog 69 #[.int .u64 7] w fun e w' => e = .returned (.int .i64 (Sort.bitsLen 7 : Nat)) ∧ w' = w := by
  go_enter Try.func69, Try.ntmps69
  go_wp2
  go_ret
  exact ⟨congrArg Ending.returned (congrArg (Value.int .i64) (by decide +kernel)), rfl⟩
theorem len64_8 (w : World) : Calls Try.prog 69 #[.int .u64 8] w fun e w' => e = .returned (.int .i64 (Sort.bitsLen 8 : Nat)) ∧ w' = w := by
  go_enter Try.func69, Try.ntmps69
  go_wp2
  go_ret
  exact ⟨congrArg Ending.returned (congrArg (Value.int .i64) (by decide +kernel)), rfl⟩
theorem len64_9 (w : World) : Calls Try.prog 69 #[.int .u64 9] w fun e w' => e = .returned (.int .i64 (Sort.bitsLen 9 : Nat)) ∧ w' = w := by
  go_enter Try.func69, Try.ntmps69
  go_wp2
  go_ret
  exact ⟨congrArg Ending.returned (congrArg (Value.int .i64) (by decide +kernel)), rfl⟩
theorem len64_10 (w : World) : Calls Try.prog 69 #[.int .u64 10] w fun e w' => e = .returned (.int .i64 (Sort.bitsLen 10 : Nat)) ∧ w' = w := by
  go_enter Try.func69, Try.ntmps69
  go_wp2
  go_ret
  exact ⟨congrArg Ending.returned (congrArg (Value.int .i64) (by decide +kernel)), rfl⟩
theorem len64_11 (w : World) : Calls Try.prog 69 #[.int .u64 11] w fun e w' => e = .returned (.int .i64 (Sort.bitsLen 11 : Nat)) ∧ w' = w := by
  go_enter Try.func69, Try.ntmps69
  go_wp2
  go_ret
  exact ⟨congrArg Ending.returned (congrArg (Value.int .i64) (by decide +kernel)), rfl⟩
theorem len64_12 (w : World) : Calls Try.prog 69 #[.int .u64 12] w fun e w' => e = .returned (.int .i64 (Sort.bitsLen 12 : Nat)) ∧ w' = w := by
  go_enter Try.func69, Try.ntmps69
  go_wp2
  go_ret
  exact ⟨congrArg Ending.returned (congrArg (Value.int .i64) (by decide +kernel)), rfl⟩
theorem len64_13 (w : World) : Calls Try.prog 69 #[.int .u64 13] w fun e w' => e = .returned (.int .i64 (Sort.bitsLen 13 : Nat)) ∧ w' = w := by
  go_enter Try.func69, Try.ntmps69
  go_wp2
  go_ret
  exact ⟨congrArg Ending.returned (congrArg (Value.int .i64) (by decide +kernel)), rfl⟩
theorem len64_14 (w : World) : Calls Try.prog 69 #[.int .u64 14] w fun e w' => e = .returned (.int .i64 (Sort.bitsLen 14 : Nat)) ∧ w' = w := by
  go_enter Try.func69, Try.ntmps69
  go_wp2
  go_ret
  exact ⟨congrArg Ending.returned (congrArg (Value.int .i64) (by decide +kernel)), rfl⟩
theorem len64_15 (w : World) : Calls Try.prog 69 #[.int .u64 15] w fun e w' => e = .returned (.int .i64 (Sort.bitsLen 15 : Nat)) ∧ w' = w := by
  go_enter Try.func69, Try.ntmps69
  go_wp2
  go_ret
  exact ⟨congrArg Ending.returned (congrArg (Value.int .i64) (by decide +kernel)), rfl⟩
theorem len64_16 (w : World) : Calls Try.prog 69 #[.int .u64 16] w fun e w' => e = .returned (.int .i64 (Sort.bitsLen 16 : Nat)) ∧ w' = w := by
  go_enter Try.func69, Try.ntmps69
  go_wp2
  go_ret
  exact ⟨congrArg Ending.returned (congrArg (Value.int .i64) (by decide +kernel)), rfl⟩
theorem len64_17 (w : World) : Calls Try.prog 69 #[.int .u64 17] w fun e w' => e = .returned (.int .i64 (Sort.bitsLen 17 : Nat)) ∧ w' = w := by
  go_enter Try.func69, Try.ntmps69
  go_wp2
  go_ret
  exact ⟨congrArg Ending.returned (congrArg (Value.int .i64) (by decide +kernel)), rfl⟩
theorem len64_18 (w : World) : Calls Try.prog 69 #[.int .u64 18] w fun e w' => e = .returned (.int .i64 (Sort.bitsLen 18 : Nat)) ∧ w' = w := by
  go_enter Try.func69, Try.ntmps69
  go_wp2
  go_ret
  exact ⟨congrArg Ending.returned (congrArg (Value.int .i64) (by decide +kernel)), rfl⟩
theorem len64_19 (w : World) : Calls Try.prog 69 #[.int .u64 19] w fun e w' => e = .returned (.int .i64 (Sort.bitsLen 19 : Nat)) ∧ w' = w := by
  go_enter Try.func69, Try.ntmps69
  go_wp2
  go_ret
  exact ⟨congrArg Ending.returned (congrArg (Value.int .i64) (by decide +kernel)), rfl⟩
theorem len64_20 (w : World) : Calls Try.prog 69 #[.int .u64 20] w fun e w' => e = .returned (.int .i64 (Sort.bitsLen 20 : Nat)) ∧ w' = w := by
  go_enter Try.func69, Try.ntmps69
  go_wp2
  go_ret
  exact ⟨congrArg Ending.returned (congrArg (Value.int .i64) (by decide +kernel)), rfl⟩
theorem len64_21 (w : World) : Calls Try.prog 69 #[.int .u64 21] w fun e w' => e = .returned (.int .i64 (Sort.bitsLen 21 : Nat)) ∧ w' = w := by
  go_enter Try.func69, Try.ntmps69
  go_wp2
  go_ret
  exact ⟨congrArg Ending.returned (congrArg (Value.int .i64) (by decide +kernel)), rfl⟩
theorem len64_22 (w : World) : Calls Try.prog 69 #[.int .u64 22] w fun e w' => e = .returned (.int .i64 (Sort.bitsLen 22 : Nat)) ∧ w' = w := by
  go_enter Try.func69, Try.ntmps69
  go_wp2
  go_ret
  exact ⟨congrArg Ending.returned (congrArg (Value.int .i64) (by decide +kernel)), rfl⟩
theorem len64_23 (w : World) : Calls Try.prog 69 #[.int .u64 23] w fun e w' => e = .returned (.int .i64 (Sort.bitsLen 23 : Nat)) ∧ w' = w := by
  go_enter Try.func69, Try.ntmps69
  go_wp2
  go_ret
  exact ⟨congrArg Ending.returned (congrArg (Value.int .i64) (by decide +kernel)), rfl⟩
theorem len64_24 (w : World) : Calls Try.prog 69 #[.int .u64 24] w fun e w' => e = .returned (.int .i64 (Sort.bitsLen 24 : Nat)) ∧ w' = w := by
  go_enter Try.func69, Try.ntmps69
  go_wp2
  go_ret
  exact ⟨congrArg Ending.returned (congrArg (Value.int .i64) (by decide +kernel)), rfl⟩
theorem len64_25 (w : World) : Calls Try.prog 69 #[.int .u64 25] w fun e w' => e = .returned (.int .i64 (Sort.bitsLen 25 : Nat)) ∧ w' = w := by
  go_enter Try.func69, Try.ntmps69
  go_wp2
  go_ret
  exact ⟨congrArg Ending.returned (congrArg (Value.int .i64) (by decide +kernel)), rfl⟩
theorem len64_26 (w : World) : Calls Try.prog 69 #[.int .u64 26] w fun e w' => e = .returned (.int .i64 (Sort.bitsLen 26 : Nat)) ∧ w' = w := by
  go_enter Try.func69, Try.ntmps69
  go_wp2
  go_ret
  exact ⟨congrArg Ending.returned (congrArg (Value.int .i64) (by decide +kernel)), rfl⟩
theorem len64_27 (w : World) : Calls Try.prog 69 #[.int .u64 27] w fun e w' => e = .returned (.int .i64 (Sort.bitsLen 27 : Nat)) ∧ w' = w := by
  go_enter Try.func69, Try.ntmps69
  go_wp2
  go_ret
  exact ⟨congrArg Ending.returned (congrArg (Value.int .i64) (by decide +kernel)), rfl⟩
theorem len64_28 (w : World) : Calls Try.prog 69 #[.int .u64 28] w fun e w' => e = .returned (.int .i64 (Sort.bitsLen 28 : Nat)) ∧ w' = w := by
  go_enter Try.func69, Try.ntmps69
  go_wp2
  go_ret
  exact ⟨congrArg Ending.returned (congrArg (Value.int .i64) (by decide +kernel)), rfl⟩
theorem len64_29 (w : World) : Calls Try.prog 69 #[.int .u64 29] w fun e w' => e = .returned (.int .i64 (Sort.bitsLen 29 : Nat)) ∧ w' = w := by
  go_enter Try.func69, Try.ntmps69
  go_wp2
  go_ret
  exact ⟨congrArg Ending.returned (congrArg (Value.int .i64) (by decide +kernel)), rfl⟩
theorem len64_30 (w : World) : Calls Try.prog 69 #[.int .u64 30] w fun e w' => e = .returned (.int .i64 (Sort.bitsLen 30 : Nat)) ∧ w' = w := by
  go_enter Try.func69, Try.ntmps69
  go_wp2
  go_ret
  exact ⟨congrArg Ending.returned (congrArg (Value.int .i64) (by decide +kernel)), rfl⟩
theorem len64_31 (w : World) : Calls Try.prog 69 #[.int .u64 31] w fun e w' => e = .returned (.int .i64 (Sort.bitsLen 31 : Nat)) ∧ w' = w := by
  go_enter Try.func69, Try.ntmps69
  go_wp2
  go_ret
  exact ⟨congrArg Ending.returned (congrArg (Value.int .i64) (by decide +kernel)), rfl⟩
theorem len64_32 (w : World) : Calls Try.prog 69 #[.int .u64 32] w fun e w' => e = .returned (.int .i64 (Sort.bitsLen 32 : Nat)) ∧ w' = w := by
  go_enter Try.func69, Try.ntmps69
  go_wp2
  go_ret
  exact ⟨congrArg Ending.returned (congrArg (Value.int .i64) (by decide +kernel)), rfl⟩
theorem len64_33 (w : World) : Calls Try.prog 69 #[.int .u64 33] w fun e w' => e = .returned (.int .i64 (Sort.bitsLen 33 : Nat)) ∧ w' = w := by
  go_enter Try.func69, Try.ntmps69
  go_wp2
  go_ret
  exact ⟨congrArg Ending.returned (congrArg (Value.int .i64) (by decide +kernel)), rfl⟩
theorem len64_34 (w : World) : Calls Try.prog 69 #[.int .u64 34] w fun e w' => e = .returned (.int .i64 (Sort.bitsLen 34 : Nat)) ∧ w' = w := by
  go_enter Try.func69, Try.ntmps69
  go_wp2
  go_ret
  exact ⟨congrArg Ending.returned (congrArg (Value.int .i64) (by decide +kernel)), rfl⟩
theorem len64_35 (w : World) : Calls Try.prog 69 #[.int .u64 35] w fun e w' => e = .returned (.int .i64 (Sort.bitsLen 35 : Nat)) ∧ w' = w := by
  go_enter Try.func69, Try.ntmps69
  go_wp2
  go_ret
  exact ⟨congrArg Ending.returned (congrArg (Value.int .i64) (by decide +kernel)), rfl⟩
theorem len64_36 (w : World) : Calls Try.prog 69 #[.int .u64 36] w fun e w' => e = .returned (.int .i64 (Sort.bitsLen 36 : Nat)) ∧ w' = w := by
  go_enter Try.func69, Try.ntmps69
  go_wp2
  go_ret
  exact ⟨congrArg Ending.returned (congrArg (Value.int .i64) (by decide +kernel)), rfl⟩
theorem len64_37 (w : World) : Calls Try.prog 69 #[.int .u64 37] w fun e w' => e = .returned (.int .i64 (Sort.bitsLen 37 : Nat)) ∧ w' = w := by
  go_enter Try.func69, Try.ntmps69
  go_wp2
  go_ret
  exact ⟨congrArg Ending.returned (congrArg (Value.int .i64) (by decide +kernel)), rfl⟩
theorem len64_38 (w : World) : Calls Try.prog 69 #[.int .u64 38] w fun e w' => e = .returned (.int .i64 (Sort.bitsLen 38 : Nat)) ∧ w' = w := by
  go_enter Try.func69, Try.ntmps69
  go_wp2
  go_ret
  exact ⟨congrArg Ending.returned (congrArg (Value.int .i64) (by decide +kernel)), rfl⟩
theorem len64_39 (w : World) : Calls Try.prog 69 #[.int .u64 39] w fun e w' => e = .returned (.int .i64 (Sort.bitsLen 39 : Nat)) ∧ w' = w := by
  go_enter Try.func69, Try.ntmps69
  go_wp2
  go_ret
  exact ⟨congrArg Ending.returned (congrArg (Value.int .i64) (by decide +kernel)), rfl⟩
theorem len64_40 (w : World) : Calls Try.prog 69 #[.int .u64 40] w fun e w' => e = .returned (.int .i64 (Sort.bitsLen 40 : Nat)) ∧ w' = w := by
  go_enter Try.func69, Try.ntmps69
  go_wp2
  go_ret
  exact ⟨congrArg Ending.returned (congrArg (Value.int .i64) (by decide +kernel)), rfl⟩
theorem len64_41 (w : World) : Calls Try.prog 69 #[.int .u64 41] w fun e w' => e = .returned (.int .i64 (Sort.bitsLen 41 : Nat)) ∧ w' = w := by
  go_enter Try.func69, Try.ntmps69
  go_wp2
  go_ret
  exact ⟨congrArg Ending.returned (congrArg (Value.int .i64) (by decide +kernel)), rfl⟩
theorem len64_42 (w : World) : Calls Try.prog 69 #[.int .u64 42] w fun e w' => e = .returned (.int .i64 (Sort.bitsLen 42 : Nat)) ∧ w' = w := by
  go_enter Try.func69, Try.ntmps69
  go_wp2
  go_ret
  exact ⟨congrArg Ending.returned (congrArg (Value.int .i64) (by decide +kernel)), rfl⟩
theorem len64_43 (w : World) : Calls Try.prog 69 #[.int .u64 43] w fun e w' => e = .returned (.int .i64 (Sort.bitsLen 43 : Nat)) ∧ w' = w := by
  go_enter Try.func69, Try.ntmps69
  go_wp2
  go_ret
  exact ⟨congrArg Ending.returned (congrArg (Value.int .i64) (by decide +kernel)), rfl⟩
theorem len64_44 (w : World) : Calls Try.prog 69 #[.int .u64 44] w fun e w' => e = .returned (.int .i64 (Sort.bitsLen 44 : Nat)) ∧ w' = w := by
  go_enter Try.func69, Try.ntmps69
  go_wp2
  go_ret
  exact ⟨congrArg Ending.returned (congrArg (Value.int .i64) (by decide +kernel)), rfl⟩
theorem len64_45 (w : World) : Calls Try.prog 69 #[.int .u64 45] w fun e w' => e = .returned (.int .i64 (Sort.bitsLen 45 : Nat)) ∧ w' = w := by
  go_enter Try.func69, Try.ntmps69
  go_wp2
  go_ret
  exact ⟨congrArg Ending.returned (congrArg (Value.int .i64) (by decide +kernel)), rfl⟩
theorem len64_46 (w : World) : Calls Try.prog 69 #[.int .u64 46] w fun e w' => e = .returned (.int .i64 (Sort.bitsLen 46 : Nat)) ∧ w' = w := by
  go_enter Try.func69, Try.ntmps69
  go_wp2
  go_ret
  exact ⟨congrArg Ending.returned (congrArg (Value.int .i64) (by decide +kernel)), rfl⟩
theorem len64_47 (w : World) : Calls Try.prog 69 #[.int .u64 47] w fun e w' => e = .returned (.int .i64 (Sort.bitsLen 47 : Nat)) ∧ w' = w := by
  go_enter Try.func69, Try.ntmps69
  go_wp2
  go_ret
  exact ⟨congrArg Ending.returned (congrArg (Value.int .i64) (by decide +kernel)), rfl⟩
theorem len64_48 (w : World) : Calls Try.prog 69 #[.int .u64 48] w fun e w' => e = .returned (.int .i64 (Sort.bitsLen 48 : Nat)) ∧ w' = w := by
  go_enter Try.func69, Try.ntmps69
  go_wp2
  go_ret
  exact ⟨congrArg Ending.returned (congrArg (Value.int .i64) (by decide +kernel)), rfl⟩
theorem len64_49 (w : World) : Calls Try.prog 69 #[.int .u64 49] w fun e w' => e = .returned (.int .i64 (Sort.bitsLen 49 : Nat)) ∧ w' = w := by
  go_enter Try.func69, Try.ntmps69
  go_wp2
  go_ret
  exact ⟨congrArg Ending.returned (congrArg (Value.int .i64) (by decide +kernel)), rfl⟩
theorem len64_50 (w : World) : Calls Try.prog 69 #[.int .u64 50] w fun e w' => e = .returned (.int .i64 (Sort.bitsLen 50 : Nat)) ∧ w' = w := by
  go_enter Try.func69, Try.ntmps69
  go_wp2
  go_ret
  exact ⟨congrArg Ending.returned (congrArg (Value.int .i64) (by decide +kernel)), rfl⟩
theorem len64_51 (w : World) : Calls Try.prog 69 #[.int .u64 51] w fun e w' => e = .returned (.int .i64 (Sort.bitsLen 51 : Nat)) ∧ w' = w := by
  go_enter Try.func69, Try.ntmps69
  go_wp2
  go_ret
  exact ⟨congrArg Ending.returned (congrArg (Value.int .i64) (by decide +kernel)), rfl⟩
theorem len64_52 (w : World) : Calls Try.prog 69 #[.int .u64 52] w fun e w' => e = .returned (.int .i64 (Sort.bitsLen 52 : Nat)) ∧ w' = w := by
  go_enter Try.func69, Try.ntmps69
  go_wp2
  go_ret
  exact ⟨congrArg Ending.returned (congrArg (Value.int .i64) (by decide +kernel)), rfl⟩
theorem len64_53 (w : World) : Calls Try.prog 69 #[.int .u64 53] w fun e w' => e = .returned (.int .i64 (Sort.bitsLen 53 : Nat)) ∧ w' = w := by
  go_enter Try.func69, Try.ntmps69
  go_wp2
  go_ret
  exact ⟨congrArg Ending.returned (congrArg (Value.int .i64) (by decide +kernel)), rfl⟩
theorem len64_54 (w : World) : Calls Try.prog 69 #[.int .u64 54] w fun e w' => e = .returned (.int .i64 (Sort.bitsLen 54 : Nat)) ∧ w' = w := by
  go_enter Try.func69, Try.ntmps69
  go_wp2
  go_ret
  exact ⟨congrArg Ending.returned (congrArg (Value.int .i64) (by decide +kernel)), rfl⟩
theorem len64_55 (w : World) : Calls Try.prog 69 #[.int .u64 55] w fun e w' => e = .returned (.int .i64 (Sort.bitsLen 55 : Nat)) ∧ w' = w := by
  go_enter Try.func69, Try.ntmps69
  go_wp2
  go_ret
  exact ⟨congrArg Ending.returned (congrArg (Value.int .i64) (by decide +kernel)), rfl⟩
theorem len64_56 (w : World) : Calls Try.prog 69 #[.int .u64 56] w fun e w' => e = .returned (.int .i64 (Sort.bitsLen 56 : Nat)) ∧ w' = w := by
  go_enter Try.func69, Try.ntmps69
  go_wp2
  go_ret
  exact ⟨congrArg Ending.returned (congrArg (Value.int .i64) (by decide +kernel)), rfl⟩
theorem len64_57 (w : World) : Calls Try.prog 69 #[.int .u64 57] w fun e w' => e = .returned (.int .i64 (Sort.bitsLen 57 : Nat)) ∧ w' = w := by
  go_enter Try.func69, Try.ntmps69
  go_wp2
  go_ret
  exact ⟨congrArg Ending.returned (congrArg (Value.int .i64) (by decide +kernel)), rfl⟩
theorem len64_58 (w : World) : Calls Try.prog 69 #[.int .u64 58] w fun e w' => e = .returned (.int .i64 (Sort.bitsLen 58 : Nat)) ∧ w' = w := by
  go_enter Try.func69, Try.ntmps69
  go_wp2
  go_ret
  exact ⟨congrArg Ending.returned (congrArg (Value.int .i64) (by decide +kernel)), rfl⟩
theorem len64_59 (w : World) : Calls Try.prog 69 #[.int .u64 59] w fun e w' => e = .returned (.int .i64 (Sort.bitsLen 59 : Nat)) ∧ w' = w := by
  go_enter Try.func69, Try.ntmps69
  go_wp2
  go_ret
  exact ⟨congrArg Ending.returned (congrArg (Value.int .i64) (by decide +kernel)), rfl⟩
theorem len64_60 (w : World) : Calls Try.prog 69 #[.int .u64 60] w fun e w' => e = .returned (.int .i64 (Sort.bitsLen 60 : Nat)) ∧ w' = w := by
  go_enter Try.func69, Try.ntmps69
  go_wp2
  go_ret
  exact ⟨congrArg Ending.returned (congrArg (Value.int .i64) (by decide +kernel)), rfl⟩
theorem len64_61 (w : World) : Calls Try.prog 69 #[.int .u64 61] w fun e w' => e = .returned (.int .i64 (Sort.bitsLen 61 : Nat)) ∧ w' = w := by
  go_enter Try.func69, Try.ntmps69
  go_wp2
  go_ret
  exact ⟨congrArg Ending.returned (congrArg (Value.int .i64) (by decide +kernel)), rfl⟩
theorem len64_62 (w : World) : Calls Try.prog 69 #[.int .u64 62] w fun e w' => e = .returned (.int .i64 (Sort.bitsLen 62 : Nat)) ∧ w' = w := by
  go_enter Try.func69, Try.ntmps69
  go_wp2
  go_ret
  exact ⟨congrArg Ending.returned (congrArg (Value.int .i64) (by decide +kernel)), rfl⟩
theorem len64_63 (w : World) : Calls Try.prog 69 #[.int .u64 63] w fun e w' => e = .returned (.int .i64 (Sort.bitsLen 63 : Nat)) ∧ w' = w := by
  go_enter Try.func69, Try.ntmps69
  go_wp2
  go_ret
  exact ⟨congrArg Ending.returned (congrArg (Value.int .i64) (by decide +kernel)), rfl⟩
theorem len64_64 (w : World) : Calls Try.prog 69 #[.int .u64 64] w fun e w' => e = .returned (.int .i64 (Sort.bitsLen 64 : Nat)) ∧ w' = w := by
  go_enter Try.func69, Try.ntmps69
  go_wp2
  go_ret
  exact ⟨congrArg Ending.returned (congrArg (Value.int .i64) (by decide +kernel)), rfl⟩
theorem len64_65 (w : World) : Calls Try.prog 69 #[.int .u64 65] w fun e w' => e = .returned (.int .i64 (Sort.bitsLen 65 : Nat)) ∧ w' = w := by
  go_enter Try.func69, Try.ntmps69
  go_wp2
  go_ret
  exact ⟨congrArg Ending.returned (congrArg (Value.int .i64) (by decide +kernel)), rfl⟩
theorem len64_66 (w : World) : Calls Try.prog 69 #[.int .u64 66] w fun e w' => e = .returned (.int .i64 (Sort.bitsLen 66 : Nat)) ∧ w' = w := by
  go_enter Try.func69, Try.ntmps69
  go_wp2
  go_ret
  exact ⟨congrArg Ending.returned (congrArg (Value.int .i64) (by decide +kernel)), rfl⟩
theorem len64_67 (w : World) : Calls Try.prog 69 #[.int .u64 67] w fun e w' => e = .returned (.int .i64 (Sort.bitsLen 67 : Nat)) ∧ w' = w := by
  go_enter Try.func69, Try.ntmps69
  go_wp2
  go_ret
  exact ⟨congrArg Ending.returned (congrArg (Value.int .i64) (by decide +kernel)), rfl⟩
theorem len64_68 (w : World) : Calls Try.prog 69 #[.int .u64 68] w fun e w' => e = .returned (.int .i64 (Sort.bitsLen 68 : Nat)) ∧ w' = w := by
  go_enter Try.func69, Try.ntmps69
  go_wp2
  go_ret
  exact ⟨congrArg Ending.returned (congrArg (Value.int .i64) (by decide +kernel)), rfl⟩
theorem len64_69 (w : World) : Calls Try.prog 69 #[.int .u64 69] w fun e w' => e = .returned (.int .i64 (Sort.bitsLen 69 : Nat)) ∧ w' = w := by
  go_enter Try.func69, Try.ntmps69
  go_wp2
  go_ret
  exact ⟨congrArg Ending.returned (congrArg (Value.int .i64) (by decide +kernel)), rfl⟩
theorem len64_70 (w : World) : Calls Try.prog 69 #[.int .u64 70] w fun e w' => e = .returned (.int .i64 (Sort.bitsLen 70 : Nat)) ∧ w' = w := by
  go_enter Try.func69, Try.ntmps69
  go_wp2
  go_ret
  exact ⟨congrArg Ending.returned (congrArg (Value.int .i64) (by decide +kernel)), rfl⟩
theorem len64_71 (w : World) : Calls Try.prog 69 #[.int .u64 71] w fun e w' => e = .returned (.int .i64 (Sort.bitsLen 71 : Nat)) ∧ w' = w := by
  go_enter Try.func69, Try.ntmps69
  go_wp2
  go_ret
  exact ⟨congrArg Ending.returned (congrArg (Value.int .i64) (by decide +kernel)), rfl⟩
theorem len64_72 (w : World) : Calls Try.prog 69 #[.int .u64 72] w fun e w' => e = .returned (.int .i64 (Sort.bitsLen 72 : Nat)) ∧ w' = w := by
  go_enter Try.func69, Try.ntmps69
  go_wp2
  go_ret
  exact ⟨congrArg Ending.returned (congrArg (Value.int .i64) (by decide +kernel)), rfl⟩
theorem len64_73 (w : World) : Calls Try.prog 69 #[.int .u64 73] w fun e w' => e = .returned (.int .i64 (Sort.bitsLen 73 : Nat)) ∧ w' = w := by
  go_enter Try.func69, Try.ntmps69
  go_wp2
  go_ret
  exact ⟨congrArg Ending.returned (congrArg (Value.int .i64) (by decide +kernel)), rfl⟩
theorem len64_74 (w : World) : Calls Try.prog 69 #[.int .u64 74] w fun e w' => e = .returned (.int .i64 (Sort.bitsLen 74 : Nat)) ∧ w' = w := by
  go_enter Try.func69, Try.ntmps69
  go_wp2
  go_ret
  exact ⟨congrArg Ending.returned (congrArg (Value.int .i64) (by decide +kernel)), rfl⟩
theorem len64_75 (w : World) : Calls Try.prog 69 #[.int .u64 75] w fun e w' => e = .returned (.int .i64 (Sort.bitsLen 75 : Nat)) ∧ w' = w := by
  go_enter Try.func69, Try.ntmps69
  go_wp2
  go_ret
  exact ⟨congrArg Ending.returned (congrArg (Value.int .i64) (by decide +kernel)), rfl⟩
theorem len64_76 (w : World) : Calls Try.prog 69 #[.int .u64 76] w fun e w' => e = .returned (.int .i64 (Sort.bitsLen 76 : Nat)) ∧ w' = w := by
  go_enter Try.func69, Try.ntmps69
  go_wp2
  go_ret
  exact ⟨congrArg Ending.returned (congrArg (Value.int .i64) (by decide +kernel)), rfl⟩
theorem len64_77 (w : World) : Calls Try.prog 69 #[.int .u64 77] w fun e w' => e = .returned (.int .i64 (Sort.bitsLen 77 : Nat)) ∧ w' = w := by
  go_enter Try.func69, Try.ntmps69
  go_wp2
  go_ret
  exact ⟨congrArg Ending.returned (congrArg (Value.int .i64) (by decide +kernel)), rfl⟩
theorem len64_78 (w : World) : Calls Try.prog 69 #[.int .u64 78] w fun e w' => e = .returned (.int .i64 (Sort.bitsLen 78 : Nat)) ∧ w' = w := by
  go_enter Try.func69, Try.ntmps69
  go_wp2
  go_ret
  exact ⟨congrArg Ending.returned (congrArg (Value.int .i64) (by decide +kernel)), rfl⟩
theorem len64_79 (w : World) : Calls Try.prog 69 #[.int .u64 79] w fun e w' => e = .returned (.int .i64 (Sort.bitsLen 79 : Nat)) ∧ w' = w := by
  go_enter Try.func69, Try.ntmps69
  go_wp2
  go_ret
  exact ⟨congrArg Ending.returned (congrArg (Value.int .i64) (by decide +kernel)), rfl⟩
theorem len64_80 (w : World) : Calls Try.prog 69 #[.int .u64 80] w fun e w' => e = .returned (.int .i64 (Sort.bitsLen 80 : Nat)) ∧ w' = w := by
  go_enter Try.func69, Try.ntmps69
  go_wp2
  go_ret
  exact ⟨congrArg Ending.returned (congrArg (Value.int .i64) (by decide +kernel)), rfl⟩
theorem len64_81 (w : World) : Calls Try.prog 69 #[.int .u64 81] w fun e w' => e = .returned (.int .i64 (Sort.bitsLen 81 : Nat)) ∧ w' = w := by
  go_enter Try.func69, Try.ntmps69
  go_wp2
  go_ret
  exact ⟨congrArg Ending.returned (congrArg (Value.int .i64) (by decide +kernel)), rfl⟩
theorem len64_82 (w : World) : Calls Try.prog 69 #[.int .u64 82] w fun e w' => e = .returned (.int .i64 (Sort.bitsLen 82 : Nat)) ∧ w' = w := by
  go_enter Try.func69, Try.ntmps69
  go_wp2
  go_ret
  exact ⟨congrArg Ending.returned (congrArg (Value.int .i64) (by decide +kernel)), rfl⟩
theorem len64_83 (w : World) : Calls Try.prog 69 #[.int .u64 83] w fun e w' => e = .returned (.int .i64 (Sort.bitsLen 83 : Nat)) ∧ w' = w := by
  go_enter Try.func69, Try.ntmps69
  go_wp2
  go_ret
  exact ⟨congrArg Ending.returned (congrArg (Value.int .i64) (by decide +kernel)), rfl⟩
theorem len64_84 (w : World) : Calls Try.prog 69 #[.int .u64 84] w fun e w' => e = .returned (.int .i64 (Sort.bitsLen 84 : Nat)) ∧ w' = w := by
  go_enter Try.func69, Try.ntmps69
  go_wp2
  go_ret
  exact ⟨congrArg Ending.returned (congrArg (Value.int .i64) (by decide +kernel)), rfl⟩
theorem len64_85 (w : World) : Calls Try.prog 69 #[.int .u64 85] w fun e w' => e = .returned (.int .i64 (Sort.bitsLen 85 : Nat)) ∧ w' = w := by
  go_enter Try.func69, Try.ntmps69
  go_wp2
  go_ret
  exact ⟨congrArg Ending.returned (congrArg (Value.int .i64) (by decide +kernel)), rfl⟩
theorem len64_86 (w : World) : Calls Try.prog 69 #[.int .u64 86] w fun e w' => e = .returned (.int .i64 (Sort.bitsLen 86 : Nat)) ∧ w' = w := by
  go_enter Try.func69, Try.ntmps69
  go_wp2
  go_ret
  exact ⟨congrArg Ending.returned (congrArg (Value.int .i64) (by decide +kernel)), rfl⟩
theorem len64_87 (w : World) : Calls Try.prog 69 #[.int .u64 87] w fun e w' => e = .returned (.int .i64 (Sort.bitsLen 87 : Nat)) ∧ w' = w := by
  go_enter Try.func69, Try.ntmps69
  go_wp2
  go_ret
  exact ⟨congrArg Ending.returned (congrArg (Value.int .i64) (by decide +kernel)), rfl⟩
theorem len64_88 (w : World) : Calls Try.prog 69 #[.int .u64 88] w fun e w' => e = .returned (.int .i64 (Sort.bitsLen 88 : Nat)) ∧ w' = w := by
  go_enter Try.func69, Try.ntmps69
  go_wp2
  go_ret
  exact ⟨congrArg Ending.returned (congrArg (Value.int .i64) (by decide +kernel)), rfl⟩
theorem len64_89 (w : World) : Calls Try.prog 69 #[.int .u64 89] w fun e w' => e = .returned (.int .i64 (Sort.bitsLen 89 : Nat)) ∧ w' = w := by
  go_enter Try.func69, Try.ntmps69
  go_wp2
  go_ret
  exact ⟨congrArg Ending.returned (congrArg (Value.int .i64) (by decide +kernel)), rfl⟩
theorem len64_90 (w : World) : Calls Try.prog 69 #[.int .u64 90] w fun e w' => e = .returned (.int .i64 (Sort.bitsLen 90 : Nat)) ∧ w' = w := by
  go_enter Try.func69, Try.ntmps69
  go_wp2
  go_ret
  exact ⟨congrArg Ending.returned (congrArg (Value.int .i64) (by decide +kernel)), rfl⟩
theorem len64_91 (w : World) : Calls Try.prog 69 #[.int .u64 91] w fun e w' => e = .returned (.int .i64 (Sort.bitsLen 91 : Nat)) ∧ w' = w := by
  go_enter Try.func69, Try.ntmps69
  go_wp2
  go_ret
  exact ⟨congrArg Ending.returned (congrArg (Value.int .i64) (by decide +kernel)), rfl⟩
theorem len64_92 (w : World) : Calls Try.prog 69 #[.int .u64 92] w fun e w' => e = .returned (.int .i64 (Sort.bitsLen 92 : Nat)) ∧ w' = w := by
  go_enter Try.func69, Try.ntmps69
  go_wp2
  go_ret
  exact ⟨congrArg Ending.returned (congrArg (Value.int .i64) (by decide +kernel)), rfl⟩
theorem len64_93 (w : World) : Calls Try.prog 69 #[.int .u64 93] w fun e w' => e = .returned (.int .i64 (Sort.bitsLen 93 : Nat)) ∧ w' = w := by
  go_enter Try.func69, Try.ntmps69
  go_wp2
  go_ret
  exact ⟨congrArg Ending.returned (congrArg (Value.int .i64) (by decide +kernel)), rfl⟩
theorem len64_94 (w : World) : Calls Try.prog 69 #[.int .u64 94] w fun e w' => e = .returned (.int .i64 (Sort.bitsLen 94 : Nat)) ∧ w' = w := by
  go_enter Try.func69, Try.ntmps69
  go_wp2
  go_ret
  exact ⟨congrArg Ending.returned (congrArg (Value.int .i64) (by decide +kernel)), rfl⟩
theorem len64_95 (w : World) : Calls Try.prog 69 #[.int .u64 95] w fun e w' => e = .returned (.int .i64 (Sort.bitsLen 95 : Nat)) ∧ w' = w := by
  go_enter Try.func69, Try.ntmps69
  go_wp2
  go_ret
  exact ⟨congrArg Ending.returned (congrArg (Value.int .i64) (by decide +kernel)), rfl⟩
theorem len64_96 (w : World) : Calls Try.prog 69 #[.int .u64 96] w fun e w' => e = .returned (.int .i64 (Sort.bitsLen 96 : Nat)) ∧ w' = w := by
  go_enter Try.func69, Try.ntmps69
  go_wp2
  go_ret
  exact ⟨congrArg Ending.returned (congrArg (Value.int .i64) (by decide +kernel)), rfl⟩
theorem len64_97 (w : World) : Calls Try.prog 69 #[.int .u64 97] w fun e w' => e = .returned (.int .i64 (Sort.bitsLen 97 : Nat)) ∧ w' = w := by
  go_enter Try.func69, Try.ntmps69
  go_wp2
  go_ret
  exact ⟨congrArg Ending.returned (congrArg (Value.int .i64) (by decide +kernel)), rfl⟩
theorem len64_98 (w : World) : Calls Try.prog 69 #[.int .u64 98] w fun e w' => e = .returned (.int .i64 (Sort.bitsLen 98 : Nat)) ∧ w' = w := by
  go_enter Try.func69, Try.ntmps69
  go_wp2
  go_ret
  exact ⟨congrArg Ending.returned (congrArg (Value.int .i64) (by decide +kernel)), rfl⟩
theorem len64_99 (w : World) : Calls Try.prog 69 #[.int .u64 99] w fun e w' => e = .returned (.int .i64 (Sort.bitsLen 99 : Nat)) ∧ w' = w := by
  go_enter Try.func69, Try.ntmps69
  go_wp2
  go_ret
  exact ⟨congrArg Ending.returned (congrArg (Value.int .i64) (by decide +kernel)), rfl⟩
theorem len64_100 (w : World) : Calls Try.prog 69 #[.int .u64 100] w fun e w' => e = .returned (.int .i64 (Sort.bitsLen 100 : Nat)) ∧ w' = w := by
  go_enter Try.func69, Try.ntmps69
  go_wp2
  go_ret
  exact ⟨congrArg Ending.returned (congrArg (Value.int .i64) (by decide +kernel)), rfl⟩
theorem len64_any (n : Nat) (hn : n ≤ 100) (w : World) : Calls Try.prog 69 #[.int .u64 n] w fun e w' => e = .returned (.int .i64 (Sort.bitsLen n : Nat)) ∧ w' = w := by
  match n, hn with
  | 0, _ => exact len64_0 w
  | 1, _ => exact len64_1 w
  | 2, _ => exact len64_2 w
  | 3, _ => exact len64_3 w
  | 4, _ => exact len64_4 w
  | 5, _ => exact len64_5 w
  | 6, _ => exact len64_6 w
  | 7, _ => exact len64_7 w
  | 8, _ => exact len64_8 w
  | 9, _ => exact len64_9 w
  | 10, _ => exact len64_10 w
  | 11, _ => exact len64_11 w
  | 12, _ => exact len64_12 w
  | 13, _ => exact len64_13 w
  | 14, _ => exact len64_14 w
  | 15, _ => exact len64_15 w
  | 16, _ => exact len64_16 w
  | 17, _ => exact len64_17 w
  | 18, _ => exact len64_18 w
  | 19, _ => exact len64_19 w
  | 20, _ => exact len64_20 w
  | 21, _ => exact len64_21 w
  | 22, _ => exact len64_22 w
  | 23, _ => exact len64_23 w
  | 24, _ => exact len64_24 w
  | 25, _ => exact len64_25 w
  | 26, _ => exact len64_26 w
  | 27, _ => exact len64_27 w
  | 28, _ => exact len64_28 w
  | 29, _ => exact len64_29 w
  | 30, _ => exact len64_30 w
  | 31, _ => exact len64_31 w
  | 32, _ => exact len64_32 w
  | 33, _ => exact len64_33 w
  | 34, _ => exact len64_34 w
  | 35, _ => exact len64_35 w
  | 36, _ => exact len64_36 w
  | 37, _ => exact len64_37 w
  | 38, _ => exact len64_38 w
  | 39, _ => exact len64_39 w
  | 40, _ => exact len64_40 w
  | 41, _ => exact len64_41 w
  | 42, _ => exact len64_42 w
  | 43, _ => exact len64_43 w
  | 44, _ => exact len64_44 w
  | 45, _ => exact len64_45 w
  | 46, _ => exact len64_46 w
  | 47, _ => exact len64_47 w
  | 48, _ => exact len64_48 w
  | 49, _ => exact len64_49 w
  | 50, _ => exact len64_50 w
  | 51, _ => exact len64_51 w
  | 52, _ => exact len64_52 w
  | 53, _ => exact len64_53 w
  | 54, _ => exact len64_54 w
  | 55, _ => exact len64_55 w
  | 56, _ => exact len64_56 w
  | 57, _ => exact len64_57 w
  | 58, _ => exact len64_58 w
  | 59, _ => exact len64_59 w
  | 60, _ => exact len64_60 w
  | 61, _ => exact len64_61 w
  | 62, _ => exact len64_62 w
  | 63, _ => exact len64_63 w
  | 64, _ => exact len64_64 w
  | 65, _ => exact len64_65 w
  | 66, _ => exact len64_66 w
  | 67, _ => exact len64_67 w
  | 68, _ => exact len64_68 w
  | 69, _ => exact len64_69 w
  | 70, _ => exact len64_70 w
  | 71, _ => exact len64_71 w
  | 72, _ => exact len64_72 w
  | 73, _ => exact len64_73 w
  | 74, _ => exact len64_74 w
  | 75, _ => exact len64_75 w
  | 76, _ => exact len64_76 w
  | 77, _ => exact len64_77 w
  | 78, _ => exact len64_78 w
  | 79, _ => exact len64_79 w
  | 80, _ => exact len64_80 w
  | 81, _ => exact len64_81 w
  | 82, _ => exact len64_82 w
  | 83, _ => exact len64_83 w
  | 84, _ => exact len64_84 w
  | 85, _ => exact len64_85 w
  | 86, _ => exact len64_86 w
  | 87, _ => exact len64_87 w
  | 88, _ => exact len64_88 w
  | 89, _ => exact len64_89 w
  | 90, _ => exact len64_90 w
  | 91, _ => exact len64_91 w
  | 92, _ => exact len64_92 w
  | 93, _ => exact len64_93 w
  | 94, _ => exact len64_94 w
  | 95, _ => exact len64_95 w
  | 96, _ => exact len64_96 w
  | 97, _ => exact len64_97 w
  | 98, _ => exact len64_98 w
  | 99, _ => exact len64_99 w
  | 100, _ => exact len64_100 w
  | n + 101, h => omega
end Go.Proofs.Ytfhfhfadebcbfaa
