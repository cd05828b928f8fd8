/- Plain laws on bits. -/
import Derived.WalkKit
namespace Go.Proofs.Ytgfdebijcpdhbaa
/-- n & (the bits from m on, below m + j). -/
theorem nat_and_high (n m j : Nat) : n &&& ((2 ^ j - 1) * 2 ^ m) = n / 2 ^ m % 2 ^ j * 2 ^ m := by
  have h1 : (n &&& ((2 ^ j - 1) * 2 ^ m)) % 2 ^ m = 0 := by rw [Nat.and_mod_two_pow, Nat.mul_mod_left, Nat.and_zero]
  have h2 : (n &&& ((2 ^ j - 1) * 2 ^ m)) / 2 ^ m = n / 2 ^ m % 2 ^ j := by
    rw [Nat.and_div_two_pow, Nat.mul_div_cancel _ (Nat.two_pow_pos m), Nat.and_two_pow_sub_one_eq_mod]
  have h3 := Nat.div_add_mod (n &&& ((2 ^ j - 1) * 2 ^ m)) (2 ^ m)
  rw [h1, h2, Nat.add_zero] at h3
  rw [← h3, Nat.mul_comm]
theorem u16_and_fc00 (u : Int) (h0 : 0 ≤ u) (h1 : u < 65536) : bits .and .u16 u 64512 = u / 1024 * 1024 := by
  rw [u16_and u 64512 h0 h1 (by omega) (by omega), show ((64512 : Int).toNat) = (2 ^ 6 - 1) * 2 ^ 10 from rfl, nat_and_high]
  show ((u.toNat / 1024 % 64 * 1024 : Nat) : Int) = _
  omega
theorem i32_mask10 (x : Int) (h0 : 0 ≤ x) (h1 : x < 2147483648) : bits .and .i32 x 1023 = x % 1024 := bits_mask .i32 31 (by decide) wraps_i32 10 (by decide) x h0 h1
theorem i32_join10 (x y : Int) (hx0 : 0 ≤ x) (hx : x % 1024 = 0) (hx1 : x < 2147483648) (hy0 : 0 ≤ y) (hy : y < 1024) : bits .or .i32 x y = x + y := bits_join .i32 31 (by decide) wraps_i32 10 x y hx0 hx hx1 hy0 hy (by omega)
theorem u16_join8 (x y : Int) (hx0 : 0 ≤ x) (hx : x % 256 = 0) (hx1 : x < 65536) (hy0 : 0 ≤ y) (hy : y < 256) : bits .or .u16 x y = x + y := bits_join .u16 16 (by decide) (fun n h0 h1 => IntWalk.u16_in n (by omega)) 8 x y hx0 hx hx1 hy0 hy (by omega)
theorem i32_join6 (x y : Int) (hx0 : 0 ≤ x) (hx : x % 64 = 0) (hx1 : x < 2147483648) (hy0 : 0 ≤ y) (hy : y < 64) : bits .or .i32 x y = x + y := bits_join .i32 31 (by decide) wraps_i32 6 x y hx0 hx hx1 hy0 hy (by omega)
end Go.Proofs.Ytgfdebijcpdhbaa
