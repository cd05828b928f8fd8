/- Plain: Base64 of octets, without what fills up. -/
import Derived.Test.YtieeafkbgmpofaaP23b
namespace Go.Proofs.Ytieeafkbgmpofaa
def bits8 (x : Int) : List Int := [x / 128 % 2, x / 64 % 2, x / 32 % 2, x / 16 % 2, x / 8 % 2, x / 4 % 2, x / 2 % 2, x % 2]
def obits (xs : List Int) : List Int := xs.flatMap bits8
theorem bits8_bit (x : Int) : Bit (bits8 x) := by
  intro y hy
  simp only [bits8, List.mem_cons, List.not_mem_nil, or_false] at hy
  omega
theorem bits8_num {x : Int} (h0 : 0 ≤ x) (h1 : x < 256) : num (bits8 x) = x := by
  simp only [num, bits8, List.foldl_cons, List.foldl_nil]; omega
theorem obits_snoc {xs : List Int} {k : Nat} {x : Int} (h : xs[k]? = some x) : obits (xs.take (k + 1)) = obits (xs.take k) ++ bits8 x := by
  rw [List.take_add_one, h, obits, List.flatMap_append]; simp [obits]
theorem obits_len (xs : List Int) : (obits xs).length = 8 * xs.length := by
  induction xs with
  | nil => rfl
  | cons x r ih => rw [obits, List.flatMap_cons, List.length_append]; rw [obits] at ih; rw [ih]; simp [bits8]; omega
theorem obits_bit (xs : List Int) : Bit (obits xs) := by
  intro x hx
  obtain ⟨c, _, hc⟩ := List.mem_flatMap.1 hx
  exact bits8_bit _ x hc
theorem chunk_add (n : Nat) (l : List Int) (k j : Nat) : chunk n l (k + j) = chunk n l k ++ chunk n (l.drop (n * k)) j := by
  induction j with
  | zero => simp [chunk]
  | succ j ih => rw [← Nat.add_assoc, chunk_succ, ih, chunk_succ, List.append_assoc, List.drop_drop, Nat.mul_add]
/-- The whole numbers and what is left, when more bits come. -/
theorem wholes_app (n : Nat) (hn : 0 < n) (L b : List Int) : wholes n (L ++ b) = wholes n L ++ wholes n (left n L ++ b) ∧ left n (L ++ b) = left n (left n L ++ b) := by
  have h1 := left_len n L
  have h2 := Nat.div_add_mod L.length n
  have hd : (L ++ b).drop (n * (L.length / n)) = left n L ++ b := by rw [List.drop_append_of_le_length (by omega)]; rfl
  have e : (L ++ b).length / n = L.length / n + (left n L ++ b).length / n := by
    rw [List.length_append, List.length_append, h1]
    conv => lhs; rw [← h2, Nat.add_assoc, Nat.mul_add_div hn]
  refine ⟨?_, ?_⟩
  · rw [wholes, e, chunk_add, chunk_app (by omega), hd]; rfl
  · rw [left, e, Nat.mul_add, ← List.drop_drop, hd]; rfl
/-- What is left, filled up with 0. -/
def pad6 (l : List Int) : List Int := l ++ List.replicate ((6 - l.length % 6) % 6) 0
def bare (xs : List Int) : List Int := (wholes 6 (pad6 (obits xs))).map dg
/-- The digit of what is left over. -/
def tail6 (P : List Int) : List Int := if P.length = 0 then [] else [dg (num P * 2 ^ (6 - P.length))]
theorem num_zeros (k : Nat) : num (List.replicate k 0) = 0 := by
  induction k with
  | zero => rfl
  | succ k ih => rw [List.replicate_succ', num_append, ih]; simp [num]
theorem bare_eq (xs : List Int) : bare xs = (wholes 6 (obits xs)).map dg ++ tail6 (left 6 (obits xs)) := by
  have hl := left_len 6 (obits xs)
  obtain ⟨w1, _⟩ := wholes_app 6 (by omega) (obits xs) (List.replicate ((6 - (obits xs).length % 6) % 6) 0)
  rw [bare, pad6, w1, List.map_append]
  congr 1
  rw [← hl]
  generalize left 6 (obits xs) = P at *
  have hP : P.length < 6 := by omega
  rw [tail6]
  split
  · rename_i h0
    obtain rfl := List.eq_nil_of_length_eq_zero h0
    simp [wholes, chunk]
  · rename_i h0
    have e : (6 - P.length) % 6 = 6 - P.length := Nat.mod_eq_of_lt (by omega)
    rw [e]
    have hlen : (P ++ List.replicate (6 - P.length) (0 : Int)).length = 6 := by rw [List.length_append, List.length_replicate]; omega
    rw [wholes, hlen, show 6 / 6 = 0 + 1 from rfl, chunk_succ, show chunk 6 (P ++ List.replicate (6 - P.length) (0 : Int)) 0 = [] from rfl, Nat.mul_zero, List.drop_zero, List.take_of_length_le (by omega), num_append, num_zeros, List.length_replicate, Int.add_zero]
    rfl
theorem digit_at {P : List Int} (hb : Bit P) (a : Nat) (h : a + 6 ≤ P.length) : num ((P.drop a).take 6) = num P / 2 ^ (P.length - (a + 6)) % 64 := by
  rw [(num_cut hb (a + 6)).1, List.take_add, num_append]
  have h1 := num_rng ((hb.drop a).take 6)
  have h2 : ((P.drop a).take 6).length = 6 := by rw [List.length_take, List.length_drop]; omega
  rw [h2] at h1 ⊢
  have h3 : (2 : Int) ^ 6 = 64 := rfl
  rw [h3] at h1 ⊢
  rw [Int.add_comm, Int.add_mul_emod_self_right, Int.emod_eq_of_lt h1.1 h1.2]
theorem wholes_one {P : List Int} (hb : Bit P) (h : P.length / 6 = 1) : wholes 6 P = [num P / 2 ^ (P.length - 6) % 64] ∧ left 6 P = P.drop 6 := by
  refine ⟨?_, ?_⟩
  · have := digit_at hb 0 (by omega)
    rw [List.drop_zero, Nat.zero_add] at this
    rw [wholes, h, show 1 = 0 + 1 from rfl, chunk_succ, show chunk 6 P 0 = [] from rfl, Nat.mul_zero, List.drop_zero, this]; rfl
  · rw [left, h]
theorem wholes_two {P : List Int} (hb : Bit P) (h : P.length / 6 = 2) : wholes 6 P = [num P / 2 ^ (P.length - 6) % 64, num P / 2 ^ (P.length - 12) % 64] ∧ left 6 P = P.drop 12 := by
  refine ⟨?_, ?_⟩
  · have h1 := digit_at hb 0 (by omega)
    have h2 := digit_at hb 6 (by omega)
    rw [List.drop_zero, Nat.zero_add] at h1
    rw [wholes, h, show 2 = 0 + 1 + 1 from rfl, chunk_succ, chunk_succ, show chunk 6 P 0 = [] from rfl, Nat.mul_zero, List.drop_zero, h1, show 6 * (0 + 1) = 6 from rfl, h2]; rfl
  · rw [left, h]
end Go.Proofs.Ytieeafkbgmpofaa
