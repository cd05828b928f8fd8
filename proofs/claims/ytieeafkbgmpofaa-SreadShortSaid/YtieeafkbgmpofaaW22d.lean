/- Walks: Base64 of octets, without what fills up. -/
import Derived.Test.YtieeafkbgmpofaaW23b
import Derived.Test.YtieeafkbgmpofaaP22
namespace Go.Proofs.Ytieeafkbgmpofaa
open Go.RowKit
set_option maxHeartbeats 2000000
theorem b64_at (k : Nat) (h : k < (ByteArray.mk b64.toArray).size) : (((ByteArray.mk b64.toArray)[k]'h).toNat : Int) = dg (k : Int) := by
  have key : ∀ j : Fin 64, ((b64[j.val]'(by have := j.isLt; simp [b64])).toNat : Int) = dg (j.val : Int) := by decide +kernel
  have hk : k < 64 := h
  exact key ⟨k, hk⟩
theorem bDigit_any (n : Int) (w : World) (h0 : 0 ≤ n) (h1 : n < 4611686018427387904) :
    Calls Try.prog 92 #[.int .i64 n] w fun e w' => e = .returned (.int .u8 (dg (n % 64))) ∧ w' = w := by
  have hm := i64_mask 6 (by omega) n h0 h1
  have hm2 : bits .and .i64 n 63 = n % 64 := hm
  clear hm
  have hr : 0 ≤ n % 64 ∧ n % 64 < 64 := by omega
  generalize n % 64 = m at *
  have hr0 := hr.1
  have hr1 := hr.2
  go_enter Try.func92, Try.ntmps92
  go_wp2
  go_ret
  refine ⟨ret_int ?_, rfl⟩
  have h9 := b64_at m.toNat (by show m.toNat < 64; omega)
  rw [Int.toNat_of_nonneg hr0] at h9
  exact h9
end Go.Proofs.Ytieeafkbgmpofaa
