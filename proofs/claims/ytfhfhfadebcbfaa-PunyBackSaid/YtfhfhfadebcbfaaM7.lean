/- Plain: Base64's digits; the units of digits. (laid together by program out of single texts). -/
import Derived.Lib.Bytealg
import Derived.Test.YtfhfhfadebcbfaaM6
namespace Go.Proofs.Ytfhfhfadebcbfaa
/-- A digit's number, or -1. -/
def dv (c : Int) : Int :=
  if 65 ≤ c ∧ c ≤ 90 then c - 65 else if 97 ≤ c ∧ c ≤ 122 then c - 71 else if 48 ≤ c ∧ c ≤ 57 then c + 4 else if c = 43 then 62 else if c = 47 then 63 else -1
/-- A number's digit. -/
def dg (n : Int) : Int := if n < 26 then n + 65 else if n < 52 then n + 71 else if n < 62 then n - 4 else if n = 62 then 43 else 47
theorem dv_rng (c : Int) : -1 ≤ dv c ∧ dv c < 64 := by unfold dv; split <;> (try split) <;> (try split) <;> (try split) <;> (try split) <;> omega
theorem dv_dg {n : Int} (h0 : 0 ≤ n) (h1 : n < 64) : dv (dg n) = n := by
  unfold dg dv
  repeat' split
  all_goals omega
theorem dg_dv {c : Int} (h : 0 ≤ dv c) : dg (dv c) = c := by
  unfold dv at h ⊢
  unfold dg
  repeat' split at h
  all_goals repeat' split
  all_goals omega
theorem dg_rng {n : Int} (h0 : 0 ≤ n) (h1 : n < 64) : 43 ≤ dg n ∧ dg n ≤ 122 := by
  unfold dg
  repeat' split
  all_goals omega
def b64 : List UInt8 := [65, 66, 67, 68, 69, 70, 71, 72, 73, 74, 75, 76, 77, 78, 79, 80, 81, 82, 83, 84, 85, 86, 87, 88, 89, 90, 97, 98, 99, 100, 101, 102, 103, 104, 105, 106, 107, 108, 109, 110, 111, 112, 113, 114, 115, 116, 117, 118, 119, 120, 121, 122, 48, 49, 50, 51, 52, 53, 54, 55, 56, 57, 43, 47]
theorem idx_b64 {c : Int} (h0 : 0 ≤ c) (h1 : c < 256) : Lib.indexByte b64 c.toNat.toUInt8 = dv c := by
  have key : ∀ n : Nat, n < 256 → Lib.indexByte b64 n.toUInt8 = dv (n : Int) := by decide +kernel
  have := key c.toNat (by omega)
  rwa [Int.toNat_of_nonneg h0] at this
/-- The six bits of a number, the highest first. -/
def bits6 (n : Int) : List Int := [n / 32 % 2, n / 16 % 2, n / 8 % 2, n / 4 % 2, n / 2 % 2, n % 2]
def dbits (d : List Int) : List Int := d.flatMap fun c => bits6 (dv c)
/-- The number of bits. -/
def num (l : List Int) : Int := l.foldl (fun n x => 2 * n + x) 0
def Bit (l : List Int) : Prop := ∀ x ∈ l, x = 0 ∨ x = 1
theorem num_go (l : List Int) : ∀ a : Int, l.foldl (fun n x => 2 * n + x) a = a * 2 ^ l.length + num l := by
  induction l with
  | nil => intro a; simp [num]
  | cons x r ih =>
    intro a
    have e : num (x :: r) = x * 2 ^ r.length + num r := by
      have := ih (2 * 0 + x)
      simpa [num] using this
    rw [List.foldl_cons, ih, e, List.length_cons, Int.pow_succ, Int.add_mul, Int.add_assoc]
    congr 1
    rw [Int.mul_comm 2 a, Int.mul_assoc, Int.mul_comm 2]
theorem num_append (a b : List Int) : num (a ++ b) = num a * 2 ^ b.length + num b := by
  rw [num, List.foldl_append, num_go]; rfl
theorem num_rng : ∀ {l : List Int}, Bit l → 0 ≤ num l ∧ num l < 2 ^ l.length := by
  intro l
  induction l with
  | nil => intro _; simp [num]
  | cons x r ih =>
    intro h
    have h1 := ih fun y hy => h y (by simp [hy])
    have hx := h x (by simp)
    have e : num (x :: r) = x * 2 ^ r.length + num r := by
      rw [num, List.foldl_cons, num_go]; simp
    have hp : (0 : Int) < 2 ^ r.length := Int.pow_pos (by omega)
    rw [e, List.length_cons, Int.pow_succ]
    rcases hx with rfl | rfl <;> omega
theorem bits6_bit (n : Int) : Bit (bits6 n) := by
  intro x hx
  simp only [bits6, List.mem_cons, List.not_mem_nil, or_false] at hx
  omega
theorem bits6_num {n : Int} (h0 : 0 ≤ n) (h1 : n < 64) : num (bits6 n) = n := by
  simp only [num, bits6, List.foldl_cons, List.foldl_nil]; omega
theorem dbits_snoc {d : List Int} {k : Nat} {c : Int} (h : d[k]? = some c) : dbits (d.take (k + 1)) = dbits (d.take k) ++ bits6 (dv c) := by
  rw [List.take_add_one, h, dbits, List.flatMap_append]; simp [dbits]
theorem dbits_len (d : List Int) : (dbits d).length = 6 * d.length := by
  induction d with
  | nil => rfl
  | cons x r ih => rw [dbits, List.flatMap_cons, List.length_append]; rw [dbits] at ih; rw [ih]; simp [bits6]; omega
theorem dbits_bit (d : List Int) : Bit (dbits d) := by
  intro x hx
  obtain ⟨c, _, hc⟩ := List.mem_flatMap.1 hx
  exact bits6_bit _ x hc
theorem Bit.take {l : List Int} (h : Bit l) (n : Nat) : Bit (l.take n) := fun x hx => h x (List.mem_of_mem_take hx)
theorem Bit.drop {l : List Int} (h : Bit l) (n : Nat) : Bit (l.drop n) := fun x hx => h x (List.mem_of_mem_drop hx)
/-- The first k numbers of n bits each. -/
def chunk (n : Nat) (l : List Int) (k : Nat) : List Int := (List.range k).map fun j => num ((l.drop (n * j)).take n)
theorem chunk_succ (n : Nat) (l : List Int) (k : Nat) : chunk n l (k + 1) = chunk n l k ++ [num ((l.drop (n * k)).take n)] := by simp [chunk, List.range_succ]
theorem chunk_len (n : Nat) (l : List Int) (k : Nat) : (chunk n l k).length = k := by simp [chunk]
theorem chunk_app {n : Nat} {l b : List Int} {k : Nat} (h : n * k ≤ l.length) : chunk n (l ++ b) k = chunk n l k := by
  apply List.map_congr_left
  intro j hj
  have hj := List.mem_range.1 hj
  have h2 : n * j + n ≤ l.length := by
    have : n * (j + 1) ≤ n * k := Nat.mul_le_mul_left n hj
    rw [Nat.mul_add, Nat.mul_one] at this; omega
  rw [List.drop_append_of_le_length (by omega), List.take_append_of_le_length (by rw [List.length_drop]; omega)]
/-- All the whole ones, and what is left over. -/
def wholes (n : Nat) (l : List Int) : List Int := chunk n l (l.length / n)
def left (n : Nat) (l : List Int) : List Int := l.drop (n * (l.length / n))
theorem left_len (n : Nat) (l : List Int) : (left n l).length = l.length % n := by
  rw [left, List.length_drop]
  have := Nat.div_add_mod l.length n
  omega
end Go.Proofs.Ytfhfhfadebcbfaa
