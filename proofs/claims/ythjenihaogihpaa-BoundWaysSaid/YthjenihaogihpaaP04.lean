/- Plain definitions and laws: UTF-8, one sign. -/
import Derived.Test.YthjenihaogihpaaP1
namespace Go.Proofs.Ythjenihaogihpaa
def wideI (x : Int) : Int := if x < 128 then 1 else if 194 ≤ x ∧ x ≤ 223 then 2 else if 224 ≤ x ∧ x ≤ 239 then 3 else if 240 ≤ x ∧ x ≤ 244 then 4 else 0
def folB (x : Int) : Bool := decide (128 ≤ x ∧ x ≤ 191)
theorem folB_iff {x : Int} : folB x = true ↔ (128 ≤ x ∧ x ≤ 191) := decide_eq_true_iff
def loI (a : Int) : Int := if a = 224 then 160 else if a = 240 then 144 else 128
def hiI (a : Int) : Int := if a = 237 then 159 else if a = 244 then 143 else 191
def secB (a y : Int) : Bool := decide (loI a ≤ y ∧ y ≤ hiI a)
theorem secB_iff {a y : Int} : secB a y = true ↔ (loI a ≤ y ∧ y ≤ hiI a) := decide_eq_true_iff
def ulenI (c : Int) : Int := if scB c then (if c < 128 then 1 else if c < 2048 then 2 else if c < 65536 then 3 else 4) else 0
def octs (c : Int) : List Int :=
  if scB c then (if c < 128 then [c] else if c < 2048 then [192 + c / 64, 128 + c % 64]
    else if c < 65536 then [224 + c / 4096, 128 + c / 64 % 64, 128 + c % 64]
    else [240 + c / 262144, 128 + c / 4096 % 64, 128 + c / 64 % 64, 128 + c % 64]) else []
theorem octs_len (c : Int) : ((octs c).length : Int) = ulenI c := by
  unfold octs ulenI; split
  · split
    · rfl
    · split
      · rfl
      · split <;> rfl
  · rfl
theorem octs_len4 (c : Int) : (octs c).length ≤ 4 := by
  have := octs_len c; unfold ulenI at this; split at this <;> (try split at this) <;> (try split at this) <;> (try split at this) <;> omega
theorem octs_rng (c : Int) : Rg 0 256 (octs c) := by
  unfold octs
  split
  · rename_i h
    have := scB_iff.1 h
    split
    · intro y hy; simp at hy; omega
    · split
      · intro y hy; simp at hy; omega
      · split
        · intro y hy; simp at hy; omega
        · intro y hy; simp at hy; omega
  · exact Rg.nil _ _
/-- May the octet y stand at place j of a sign that a begins? -/
def okAt (a : Int) (j : Nat) (y : Int) : Bool := if j = 1 then secB a y else folB y
/-- How many octets are well formed, j so far. -/
def farL (a : Int) : Nat → List Int → Nat
  | j, [] => j
  | j, y :: r => if (j : Int) < wideI a ∧ okAt a j y = true then farL a (j + 1) r else j
def far : List Int → Nat
  | [] => 0
  | a :: r => if wideI a = 0 then 0 else farL a 1 r
theorem wideI_rng (x : Int) : 0 ≤ wideI x ∧ wideI x ≤ 4 := by unfold wideI; split <;> (try split) <;> (try split) <;> (try split) <;> omega
theorem farL_bounds (a : Int) : ∀ (r : List Int) (j : Nat), j ≤ farL a j r ∧ farL a j r ≤ j + r.length ∧ ((j : Int) ≤ wideI a → (farL a j r : Int) ≤ wideI a)
  | [], j => by simp [farL]
  | y :: r, j => by
    unfold farL
    split
    · rename_i h
      have := farL_bounds a r (j + 1)
      simp only [List.length_cons]
      refine ⟨by omega, by omega, fun _ => this.2.2 (by omega)⟩
    · simp
def leadI (n : Int) : Int := if n = 2 then 192 else if n = 3 then 224 else if n = 4 then 240 else 0
/-- The number that the octets behind the first one make. -/
def valL (c : Int) : List Int → Int
  | [] => c
  | y :: r => valL (64 * c + (y - 128)) r
theorem valL_snoc (c : Int) : ∀ (r : List Int) (y : Int), valL c (r ++ [y]) = 64 * valL c r + (y - 128)
  | [], y => rfl
  | x :: r, y => by simp only [List.cons_append, valL]; exact valL_snoc _ r y
/-- What is taken: the sign, of how many octets, the error. -/
def takeR : List Int → Int × Int × Int
  | [] => (0, 0, 4)
  | a :: r =>
    if wideI a = 0 then (0, 1, 3)
    else if (farL a 1 r : Int) = wideI a then (valL (a - leadI (wideI a)) (r.take (farL a 1 r - 1)), farL a 1 r, 0)
    else if farL a 1 r = r.length + 1 then (0, farL a 1 r, 4)
    else (0, farL a 1 r, 3)

theorem byte_all {P : Int → Prop} (h : ∀ n : Fin 256, P (n.val : Int)) {x : Int} (h0 : 0 ≤ x) (h1 : x < 256) : P x := by
  have := h ⟨x.toNat, by omega⟩
  simp only [] at this
  rwa [Int.toNat_of_nonneg h0] at this
theorem fol_bits {x : Int} (h0 : 0 ≤ x) (h1 : x < 256) : (bits .andNot .u8 x 63 == 128) = folB x :=
  byte_all (P := fun x => (bits .andNot .u8 x 63 == 128) = folB x) (by decide +kernel) h0 h1
theorem secB_fol {a y : Int} (h : secB a y = true) : folB y = true := by
  rw [secB_iff] at h; rw [folB_iff]; unfold loI hiI at h
  split at h <;> (try split at h) <;> (try split at h) <;> (try split at h) <;> omega

theorem farL_ok (a : Int) : ∀ (r : List Int) (j : Nat), 1 ≤ j → ∀ y ∈ r.take (farL a j r - j), folB y = true
  | [], j, _ => by simp
  | x :: r, j, hj => by
    unfold farL
    split
    · rename_i h
      have hb := (farL_bounds a r (j + 1)).1
      intro y hy
      rw [show farL a (j + 1) r - j = (farL a (j + 1) r - (j + 1)) + 1 by omega, List.take_succ_cons] at hy
      rcases List.mem_cons.1 hy with rfl | hy
      · have h2 := h.2
        unfold okAt at h2
        split at h2
        · exact secB_fol h2
        · exact h2
      · exact farL_ok a r (j + 1) (by omega) y hy
    · intro y hy; simp at hy
theorem andNot_lead {a : Int} (h0 : 0 ≤ a) (h1 : a < 256) : wideI a = 0 ∨ (bits .andNot .u8 a (leadI (wideI a)) = a - leadI (wideI a) ∧ 0 ≤ a - leadI (wideI a) ∧ a - leadI (wideI a) < 128 ∧ 0 ≤ leadI (wideI a)) :=
  byte_all (P := fun a => wideI a = 0 ∨ (bits .andNot .u8 a (leadI (wideI a)) = a - leadI (wideI a) ∧ 0 ≤ a - leadI (wideI a) ∧ a - leadI (wideI a) < 128 ∧ 0 ≤ leadI (wideI a))) (by decide +kernel) h0 h1
def bnd (k : Nat) : Int := if k = 0 then 128 else if k = 1 then 8192 else if k = 2 then 524288 else 33554432
theorem bnd_succ {k : Nat} (hk : k < 3) {m : Int} (h0 : 0 ≤ m) (h : m < bnd k) {y : Int} (hy : folB y = true) : 0 ≤ 64 * m + (y - 128) ∧ 64 * m + (y - 128) < bnd (k + 1) := by
  rw [folB_iff] at hy
  rcases (by omega : k = 0 ∨ k = 1 ∨ k = 2) with rfl | rfl | rfl <;> simp [bnd] at h ⊢ <;> omega
theorem bnd_le (k : Nat) : bnd k ≤ 33554432 := by unfold bnd; split <;> (try split) <;> (try split) <;> omega
theorem takeR_bad {a : Int} {r : List Int} (h : wideI a = 0) : takeR (a :: r) = (0, 1, 3) := by simp [takeR, h]
theorem takeR_ok {a : Int} {r : List Int} (h : wideI a ≠ 0) (h1 : (farL a 1 r : Int) = wideI a) : takeR (a :: r) = (valL (a - leadI (wideI a)) (r.take (farL a 1 r - 1)), ((farL a 1 r : Nat) : Int), 0) := by rw [takeR, if_neg h, if_pos h1]
theorem takeR_end {a : Int} {r : List Int} (h : wideI a ≠ 0) (h1 : (farL a 1 r : Int) ≠ wideI a) (h2 : farL a 1 r = r.length + 1) : takeR (a :: r) = (0, ((farL a 1 r : Nat) : Int), 4) := by
  rw [takeR, if_neg h, if_neg h1, if_pos h2]
theorem takeR_form {a : Int} {r : List Int} (h : wideI a ≠ 0) (h1 : (farL a 1 r : Int) ≠ wideI a) (h2 : farL a 1 r ≠ r.length + 1) : takeR (a :: r) = (0, ((farL a 1 r : Nat) : Int), 3) := by
  rw [takeR, if_neg h, if_neg h1, if_neg h2]
end Go.Proofs.Ythjenihaogihpaa
