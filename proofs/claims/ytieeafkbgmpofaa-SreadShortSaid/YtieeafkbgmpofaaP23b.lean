/- Plain: six bits more. -/
import Derived.Test.YtieeafkbgmpofaaP23
import Derived.WalkKit
namespace Go.Proofs.Ytieeafkbgmpofaa
theorem left_small {L b : List Int} (h : (left 16 L).length + b.length < 16) : wholes 16 (L ++ b) = wholes 16 L ∧ left 16 (L ++ b) = left 16 L ++ b := by
  have h1 := left_len 16 L
  have h2 := Nat.div_add_mod L.length 16
  have e : (L ++ b).length / 16 = L.length / 16 := by rw [List.length_append]; omega
  refine ⟨?_, ?_⟩
  · rw [wholes, e, chunk_app (by omega)]; rfl
  · rw [left, e, List.drop_append_of_le_length (by omega)]; rfl
theorem left_big {L b : List Int} (h : 16 ≤ (left 16 L).length + b.length) (hb : b.length < 16) :
    wholes 16 (L ++ b) = wholes 16 L ++ [num ((left 16 L ++ b).take 16)] ∧ left 16 (L ++ b) = (left 16 L ++ b).drop 16 := by
  have h1 := left_len 16 L
  have h2 := Nat.div_add_mod L.length 16
  have e : (L ++ b).length / 16 = L.length / 16 + 1 := by rw [List.length_append]; omega
  have hd : (L ++ b).drop (16 * (L.length / 16)) = left 16 L ++ b := by rw [List.drop_append_of_le_length (by omega)]; rfl
  refine ⟨?_, ?_⟩
  · rw [wholes, e, chunk_succ, chunk_app (by omega), hd]; rfl
  · rw [left, e, Nat.mul_add, Nat.mul_one, ← List.drop_drop, hd]
theorem num_cut {P : List Int} (h : Bit P) (k : Nat) : num P / 2 ^ (P.length - k) = num (P.take k) ∧ num P % 2 ^ (P.length - k) = num (P.drop k) := by
  have e : num P = num (P.take k) * 2 ^ (P.drop k).length + num (P.drop k) := by rw [← num_append, List.take_append_drop]
  have hr := num_rng (h.drop k)
  rw [List.length_drop] at e hr
  have hp : (0 : Int) < 2 ^ (P.length - k) := Int.pow_pos (by omega)
  refine ⟨?_, ?_⟩
  · rw [e, Int.add_comm, Int.add_mul_ediv_right _ _ (by omega), Int.ediv_eq_zero_of_lt hr.1 hr.2, Int.zero_add]
  · rw [e, Int.add_comm, Int.add_mul_emod_self_right, Int.emod_eq_of_lt hr.1 hr.2]
theorem wraps_i64 (n : Int) (h0 : 0 ≤ n) (h1 : n < 2 ^ 62) : IntKind.i64.wrap n = n := by
  have h2 : (2 : Int) ^ 62 = 4611686018427387904 := rfl
  rw [IntKind.wrap_i64]; omega
theorem i64_join6 (x y : Int) (hx0 : 0 ≤ x) (hx : x % 64 = 0) (hx1 : x < 4611686018427387904) (hy0 : 0 ≤ y) (hy : y < 64) : bits .or .i64 x y = x + y := bits_join .i64 62 (by decide) wraps_i64 6 x y hx0 hx hx1 hy0 hy (by omega)
theorem i64_join8 (x y : Int) (hx0 : 0 ≤ x) (hx : x % 256 = 0) (hx1 : x < 4611686018427387904) (hy0 : 0 ≤ y) (hy : y < 256) : bits .or .i64 x y = x + y := bits_join .i64 62 (by decide) wraps_i64 8 x y hx0 hx hx1 hy0 hy (by omega)
theorem i64_mask (i : Nat) (hi : i ≤ 62) (x : Int) (h0 : 0 ≤ x) (h1 : x < 4611686018427387904) : bits .and .i64 x (2 ^ i - 1) = x % 2 ^ i := bits_mask .i64 62 (by decide) wraps_i64 i hi x h0 h1
end Go.Proofs.Ytieeafkbgmpofaa
