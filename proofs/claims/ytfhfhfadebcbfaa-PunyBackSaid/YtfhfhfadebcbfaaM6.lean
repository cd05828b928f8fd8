/- Plain definitions and laws: scalar values, searches. No program in sight. · Plain definitions and laws: UTF-16. · Plain definitions and laws: UTF-8, one sign. · Plain laws on bits. (laid together by program out of single texts). -/
import Derived.WalkKit
namespace Go.Proofs.Ytfhfhfadebcbfaa

def surB (c : Int) : Bool := decide (55296 ≤ c ∧ c ≤ 57343)
def scB (c : Int) : Bool := decide (0 ≤ c ∧ c ≤ 1114111 ∧ ¬ (55296 ≤ c ∧ c ≤ 57343))
theorem surB_iff {c : Int} : surB c = true ↔ (55296 ≤ c ∧ c ≤ 57343) := decide_eq_true_iff
theorem scB_iff {c : Int} : scB c = true ↔ (0 ≤ c ∧ c ≤ 1114111 ∧ ¬ (55296 ≤ c ∧ c ≤ 57343)) := decide_eq_true_iff

/-- The place of the first that p takes, or -1. -/
def idx (p : Int → Bool) (xs : List Int) : Int := match xs.findIdx? p with | some i => i | none => -1
theorem idx_at {p : Int → Bool} {xs : List Int} {k : Nat} {x : Int} (h : ∀ y ∈ xs.take k, p y = false) (hx : xs[k]? = some x) (hp : p x = true) : idx p xs = k := by
  obtain ⟨hk, rfl⟩ := List.getElem?_eq_some_iff.1 hx
  have : xs.findIdx? p = some k := by
    rw [List.findIdx?_eq_some_iff_getElem]
    refine ⟨hk, hp, fun j hj => ?_⟩
    have := h xs[j] (by rw [List.mem_iff_getElem]; exact ⟨j, by simp; omega, by simp⟩)
    simp [this]
  simp [idx, this]
theorem idx_none {p : Int → Bool} {xs : List Int} (h : ∀ y ∈ xs, p y = false) : idx p xs = -1 := by
  have : xs.findIdx? p = none := by rw [List.findIdx?_eq_none_iff]; exact h
  simp [idx, this]
theorem take_succ_all {q : Int → Prop} {xs : List Int} {k : Nat} {x : Int} (h : ∀ y ∈ xs.take k, q y) (hx : xs[k]? = some x) (hq : q x) : ∀ y ∈ xs.take (k + 1), q y := by
  intro y hy
  rw [List.take_add_one, hx] at hy
  rcases List.mem_append.1 hy with hy | hy
  · exact h y hy
  · simp at hy; subst hy; exact hq

end Go.Proofs.Ytfhfhfadebcbfaa
namespace Go.Proofs.Ytfhfhfadebcbfaa
def Rg (a b : Int) (xs : List Int) : Prop := ∀ x ∈ xs, a ≤ x ∧ x < b
theorem Rg.nil (a b : Int) : Rg a b [] := fun x hx => by simp at hx
theorem Rg.cons {a b : Int} {x : Int} {xs : List Int} (h : Rg a b (x :: xs)) : (a ≤ x ∧ x < b) ∧ Rg a b xs := ⟨h x (by simp), fun y hy => h y (by simp [hy])⟩
theorem Rg.drop {a b : Int} {xs : List Int} (h : Rg a b xs) (n : Nat) : Rg a b (xs.drop n) := fun x hx => h x (List.mem_of_mem_drop hx)
theorem Rg.take {a b : Int} {xs : List Int} (h : Rg a b xs) (n : Nat) : Rg a b (xs.take n) := fun x hx => h x (List.mem_of_mem_take hx)
theorem Rg.get {a b : Int} {xs : List Int} (h : Rg a b xs) {i : Nat} {x : Int} (hx : xs[i]? = some x) : a ≤ x ∧ x < b := h x (List.mem_of_getElem? hx)
theorem Rg.append {a b : Int} {xs ys : List Int} (h : Rg a b xs) (h' : Rg a b ys) : Rg a b (xs ++ ys) := fun x hx => (List.mem_append.1 hx).elim (h x) (h' x)

/-- Strictly: the text, if there is no error. -/
def strictL (q : Int) (t : List Int) : List Int := if q = 0 then t else []
/-- The first error of some. -/
def ferr (es : List Int) : Int := (es.find? (· != 0)).getD 0
theorem ferr_nil : ferr [] = 0 := rfl
theorem ferr_zero {es : List Int} (h : ferr es = 0) : ∀ e ∈ es, e = 0 := by
  unfold ferr at h
  intro e he
  cases hf : es.find? (· != 0) with
  | none => simpa using List.find?_eq_none.1 hf e he
  | some y =>
    rw [hf] at h
    have := List.find?_some hf
    simp at h; subst h; simp at this
theorem ferr_snoc (es : List Int) (e : Int) : ferr (es ++ [e]) = if ferr es = 0 then e else ferr es := by
  split
  · rename_i h
    have h0 := ferr_zero h
    have : es.find? (· != 0) = none := by rw [List.find?_eq_none]; intro x hx; simp [h0 x hx]
    by_cases he : e = 0
    · simp [ferr, List.find?_append, this, he]
    · have hb : (e != 0) = true := by simp [he]
      simp [ferr, List.find?_append, this, hb]
  · rename_i h
    cases hf : es.find? (· != 0) with
    | none => simp [ferr, hf] at h
    | some y => simp [ferr, List.find?_append, hf]
theorem ferr_all {es : List Int} (h : ∀ e ∈ es, e = 0) : ferr es = 0 := by
  have : es.find? (· != 0) = none := by rw [List.find?_eq_none]; intro x hx; simp [h x hx]
  simp [ferr, this]

def hiB (u : Int) : Bool := decide (55296 ≤ u ∧ u ≤ 56319)
def loB (u : Int) : Bool := decide (56320 ≤ u ∧ u ≤ 57343)
theorem hiB_iff {u : Int} : hiB u = true ↔ (55296 ≤ u ∧ u ≤ 56319) := decide_eq_true_iff
theorem loB_iff {u : Int} : loB u = true ↔ (56320 ≤ u ∧ u ≤ 57343) := decide_eq_true_iff
def uof (c : Int) : List Int := if scB c then (if c < 65536 then [c] else [55296 + (c - 65536) / 1024, 56320 + (c - 65536) % 1024]) else []

/-- The first sign, of how many units, and its error. -/
def uone (x : Int) (r : List Int) : Int × Int × Int :=
  if loB x then (65533, 1, 3) else if hiB x then
    (match r with
      | [] => (65533, 1, 4)
      | y :: _ => if loB y then (65536 + ((x - 55296) * 1024 + (y - 56320)), 2, 0) else (65533, 1, 3))
  else (x, 1, 0)
/-- The signs and their errors. -/
def uread : List Int → List (Int × Int)
  | [] => []
  | x :: r => ((uone x r).1, (uone x r).2.2) :: uread ((x :: r).drop (uone x r).2.1.toNat)
termination_by xs => xs.length
decreasing_by
  have : 1 ≤ (uone x r).2.1 := by
    unfold uone
    split
    · simp
    · split
      · split
        · simp
        · split <;> simp
      · simp
  simp only [List.length_drop, List.length_cons]; omega
theorem uone_n (x : Int) (r : List Int) : (uone x r).2.1 = 1 ∨ ((uone x r).2.1 = 2 ∧ r ≠ []) := by
  unfold uone
  split
  · simp
  · split
    · split
      · simp
      · split <;> simp
    · simp

theorem uread_nil : uread [] = [] := by rw [uread]
theorem uread_cons (x : Int) (r : List Int) : uread (x :: r) = ((uone x r).1, (uone x r).2.2) :: uread ((x :: r).drop (uone x r).2.1.toNat) := by rw [uread]
theorem uone_rng {x : Int} {r : List Int} (h : Rg 0 65536 (x :: r)) : 0 ≤ (uone x r).1 ∧ (uone x r).1 ≤ 1114111 := by
  obtain ⟨hx, hr⟩ := h.cons
  unfold uone
  split
  · simp
  · split
    · rename_i h1
      have h1 := hiB_iff.1 h1
      split
      · simp
      · split
        · rename_i h2
          have h2 := loB_iff.1 h2
          simp only []; omega
        · simp
    · simp only []; omega

theorem hiB_not_lo {x : Int} (h : loB x = true) : hiB x = false := by
  have h1 := loB_iff.1 h
  have : ¬ hiB x = true := fun h2 => by have := hiB_iff.1 h2; omega
  simpa using this
theorem uread_lo {x : Int} (r : List Int) (h : loB x = true) : uread (x :: r) = (65533, 3) :: uread r := by
  rw [uread_cons]; simp [uone, h]
theorem uread_bmp {x : Int} (r : List Int) (h : loB x = false) (h' : hiB x = false) : uread (x :: r) = (x, 0) :: uread r := by
  rw [uread_cons]; simp [uone, h, h']
theorem uread_end {x : Int} (h : loB x = false) (h' : hiB x = true) : uread [x] = (65533, 4) :: uread [] := by
  rw [uread_cons]; simp [uone, h, h']
theorem uread_pair {x y : Int} (r : List Int) (h : loB x = false) (h' : hiB x = true) (hy : loB y = true) : uread (x :: y :: r) = (65536 + ((x - 55296) * 1024 + (y - 56320)), 0) :: uread r := by
  rw [uread_cons]; simp [uone, h, h', hy]
theorem uread_bad {x y : Int} (r : List Int) (h : loB x = false) (h' : hiB x = true) (hy : loB y = false) : uread (x :: y :: r) = (65533, 3) :: uread (y :: r) := by
  rw [uread_cons]; simp [uone, h, h', hy]
end Go.Proofs.Ytfhfhfadebcbfaa
namespace Go.Proofs.Ytfhfhfadebcbfaa
def wideI (x : Int) : Int := if x < 128 then 1 else if 194 ≤ x ∧ x ≤ 223 then 2 else if 224 ≤ x ∧ x ≤ 239 then 3 else if 240 ≤ x ∧ x ≤ 244 then 4 else 0
def folB (x : Int) : Bool := decide (128 ≤ x ∧ x ≤ 191)
theorem folB_iff {x : Int} : folB x = true ↔ (128 ≤ x ∧ x ≤ 191) := decide_eq_true_iff
def loI (a : Int) : Int := if a = 224 then 160 else if a = 240 then 144 else 128
def hiI (a : Int) : Int := if a = 237 then 159 else if a = 244 then 143 else 191
def secB (a y : Int) : Bool := decide (loI a ≤ y ∧ y ≤ hiI a)
theorem secB_iff {a y : Int} : secB a y = true ↔ (loI a ≤ y ∧ y ≤ hiI a) := decide_eq_true_iff
def ulenI (c : Int) : Int := if scB c then (if c < 128 then 1 else if c < 2048 then 2 else if c < 65536 then 3 else 4) else 0
def octs (c : Int) : List Int :=
  if scB c then (if c < 128 then [c] else if c < 2048 then [192 + c / 64, 128 + c % 64]
    else if c < 65536 then [224 + c / 4096, 128 + c / 64 % 64, 128 + c % 64]
    else [240 + c / 262144, 128 + c / 4096 % 64, 128 + c / 64 % 64, 128 + c % 64]) else []
theorem octs_len (c : Int) : ((octs c).length : Int) = ulenI c := by
  unfold octs ulenI; split
  · split
    · rfl
    · split
      · rfl
      · split <;> rfl
  · rfl
theorem octs_len4 (c : Int) : (octs c).length ≤ 4 := by
  have := octs_len c; unfold ulenI at this; split at this <;> (try split at this) <;> (try split at this) <;> (try split at this) <;> omega
theorem octs_rng (c : Int) : Rg 0 256 (octs c) := by
  unfold octs
  split
  · rename_i h
    have := scB_iff.1 h
    split
    · intro y hy; simp at hy; omega
    · split
      · intro y hy; simp at hy; omega
      · split
        · intro y hy; simp at hy; omega
        · intro y hy; simp at hy; omega
  · exact Rg.nil _ _
/-- May the octet y stand at place j of a sign that a begins? -/
def okAt (a : Int) (j : Nat) (y : Int) : Bool := if j = 1 then secB a y else folB y
/-- How many octets are well formed, j so far. -/
def farL (a : Int) : Nat → List Int → Nat
  | j, [] => j
  | j, y :: r => if (j : Int) < wideI a ∧ okAt a j y = true then farL a (j + 1) r else j
def far : List Int → Nat
  | [] => 0
  | a :: r => if wideI a = 0 then 0 else farL a 1 r
theorem wideI_rng (x : Int) : 0 ≤ wideI x ∧ wideI x ≤ 4 := by unfold wideI; split <;> (try split) <;> (try split) <;> (try split) <;> omega
theorem farL_bounds (a : Int) : ∀ (r : List Int) (j : Nat), j ≤ farL a j r ∧ farL a j r ≤ j + r.length ∧ ((j : Int) ≤ wideI a → (farL a j r : Int) ≤ wideI a)
  | [], j => by simp [farL]
  | y :: r, j => by
    unfold farL
    split
    · rename_i h
      have := farL_bounds a r (j + 1)
      simp only [List.length_cons]
      refine ⟨by omega, by omega, fun _ => this.2.2 (by omega)⟩
    · simp
def leadI (n : Int) : Int := if n = 2 then 192 else if n = 3 then 224 else if n = 4 then 240 else 0
/-- The number that the octets behind the first one make. -/
def valL (c : Int) : List Int → Int
  | [] => c
  | y :: r => valL (64 * c + (y - 128)) r
theorem valL_snoc (c : Int) : ∀ (r : List Int) (y : Int), valL c (r ++ [y]) = 64 * valL c r + (y - 128)
  | [], y => rfl
  | x :: r, y => by simp only [List.cons_append, valL]; exact valL_snoc _ r y
/-- What is taken: the sign, of how many octets, the error. -/
def takeR : List Int → Int × Int × Int
  | [] => (0, 0, 4)
  | a :: r =>
    if wideI a = 0 then (0, 1, 3)
    else if (farL a 1 r : Int) = wideI a then (valL (a - leadI (wideI a)) (r.take (farL a 1 r - 1)), farL a 1 r, 0)
    else if farL a 1 r = r.length + 1 then (0, farL a 1 r, 4)
    else (0, farL a 1 r, 3)

theorem byte_all {P : Int → Prop} (h : ∀ n : Fin 256, P (n.val : Int)) {x : Int} (h0 : 0 ≤ x) (h1 : x < 256) : P x := by
  have := h ⟨x.toNat, by omega⟩
  simp only [] at this
  rwa [Int.toNat_of_nonneg h0] at this
theorem fol_bits {x : Int} (h0 : 0 ≤ x) (h1 : x < 256) : (bits .andNot .u8 x 63 == 128) = folB x :=
  byte_all (P := fun x => (bits .andNot .u8 x 63 == 128) = folB x) (by decide +kernel) h0 h1
theorem secB_fol {a y : Int} (h : secB a y = true) : folB y = true := by
  rw [secB_iff] at h; rw [folB_iff]; unfold loI hiI at h
  split at h <;> (try split at h) <;> (try split at h) <;> (try split at h) <;> omega

theorem farL_ok (a : Int) : ∀ (r : List Int) (j : Nat), 1 ≤ j → ∀ y ∈ r.take (farL a j r - j), folB y = true
  | [], j, _ => by simp
  | x :: r, j, hj => by
    unfold farL
    split
    · rename_i h
      have hb := (farL_bounds a r (j + 1)).1
      intro y hy
      rw [show farL a (j + 1) r - j = (farL a (j + 1) r - (j + 1)) + 1 by omega, List.take_succ_cons] at hy
      rcases List.mem_cons.1 hy with rfl | hy
      · have h2 := h.2
        unfold okAt at h2
        split at h2
        · exact secB_fol h2
        · exact h2
      · exact farL_ok a r (j + 1) (by omega) y hy
    · intro y hy; simp at hy
theorem andNot_lead {a : Int} (h0 : 0 ≤ a) (h1 : a < 256) : wideI a = 0 ∨ (bits .andNot .u8 a (leadI (wideI a)) = a - leadI (wideI a) ∧ 0 ≤ a - leadI (wideI a) ∧ a - leadI (wideI a) < 128 ∧ 0 ≤ leadI (wideI a)) :=
  byte_all (P := fun a => wideI a = 0 ∨ (bits .andNot .u8 a (leadI (wideI a)) = a - leadI (wideI a) ∧ 0 ≤ a - leadI (wideI a) ∧ a - leadI (wideI a) < 128 ∧ 0 ≤ leadI (wideI a))) (by decide +kernel) h0 h1
def bnd (k : Nat) : Int := if k = 0 then 128 else if k = 1 then 8192 else if k = 2 then 524288 else 33554432
theorem bnd_succ {k : Nat} (hk : k < 3) {m : Int} (h0 : 0 ≤ m) (h : m < bnd k) {y : Int} (hy : folB y = true) : 0 ≤ 64 * m + (y - 128) ∧ 64 * m + (y - 128) < bnd (k + 1) := by
  rw [folB_iff] at hy
  rcases (by omega : k = 0 ∨ k = 1 ∨ k = 2) with rfl | rfl | rfl <;> simp [bnd] at h ⊢ <;> omega
theorem bnd_le (k : Nat) : bnd k ≤ 33554432 := by unfold bnd; split <;> (try split) <;> (try split) <;> omega
theorem takeR_bad {a : Int} {r : List Int} (h : wideI a = 0) : takeR (a :: r) = (0, 1, 3) := by simp [takeR, h]
theorem takeR_ok {a : Int} {r : List Int} (h : wideI a ≠ 0) (h1 : (farL a 1 r : Int) = wideI a) : takeR (a :: r) = (valL (a - leadI (wideI a)) (r.take (farL a 1 r - 1)), ((farL a 1 r : Nat) : Int), 0) := by rw [takeR, if_neg h, if_pos h1]
theorem takeR_end {a : Int} {r : List Int} (h : wideI a ≠ 0) (h1 : (farL a 1 r : Int) ≠ wideI a) (h2 : farL a 1 r = r.length + 1) : takeR (a :: r) = (0, ((farL a 1 r : Nat) : Int), 4) := by
  rw [takeR, if_neg h, if_neg h1, if_pos h2]
theorem takeR_form {a : Int} {r : List Int} (h : wideI a ≠ 0) (h1 : (farL a 1 r : Int) ≠ wideI a) (h2 : farL a 1 r ≠ r.length + 1) : takeR (a :: r) = (0, ((farL a 1 r : Nat) : Int), 3) := by
  rw [takeR, if_neg h, if_neg h1, if_neg h2]
end Go.Proofs.Ytfhfhfadebcbfaa
namespace Go.Proofs.Ytfhfhfadebcbfaa
/-- n & (the bits from m on, below m + j). -/
theorem nat_and_high (n m j : Nat) : n &&& ((2 ^ j - 1) * 2 ^ m) = n / 2 ^ m % 2 ^ j * 2 ^ m := by
  have h1 : (n &&& ((2 ^ j - 1) * 2 ^ m)) % 2 ^ m = 0 := by rw [Nat.and_mod_two_pow, Nat.mul_mod_left, Nat.and_zero]
  have h2 : (n &&& ((2 ^ j - 1) * 2 ^ m)) / 2 ^ m = n / 2 ^ m % 2 ^ j := by
    rw [Nat.and_div_two_pow, Nat.mul_div_cancel _ (Nat.two_pow_pos m), Nat.and_two_pow_sub_one_eq_mod]
  have h3 := Nat.div_add_mod (n &&& ((2 ^ j - 1) * 2 ^ m)) (2 ^ m)
  rw [h1, h2, Nat.add_zero] at h3
  rw [← h3, Nat.mul_comm]
theorem u16_and_fc00 (u : Int) (h0 : 0 ≤ u) (h1 : u < 65536) : bits .and .u16 u 64512 = u / 1024 * 1024 := by
  rw [u16_and u 64512 h0 h1 (by omega) (by omega), show ((64512 : Int).toNat) = (2 ^ 6 - 1) * 2 ^ 10 from rfl, nat_and_high]
  show ((u.toNat / 1024 % 64 * 1024 : Nat) : Int) = _
  omega
theorem i32_mask10 (x : Int) (h0 : 0 ≤ x) (h1 : x < 2147483648) : bits .and .i32 x 1023 = x % 1024 := bits_mask .i32 31 (by decide) wraps_i32 10 (by decide) x h0 h1
theorem i32_join10 (x y : Int) (hx0 : 0 ≤ x) (hx : x % 1024 = 0) (hx1 : x < 2147483648) (hy0 : 0 ≤ y) (hy : y < 1024) : bits .or .i32 x y = x + y := bits_join .i32 31 (by decide) wraps_i32 10 x y hx0 hx hx1 hy0 hy (by omega)
theorem u16_join8 (x y : Int) (hx0 : 0 ≤ x) (hx : x % 256 = 0) (hx1 : x < 65536) (hy0 : 0 ≤ y) (hy : y < 256) : bits .or .u16 x y = x + y := bits_join .u16 16 (by decide) (fun n h0 h1 => IntWalk.u16_in n (by omega)) 8 x y hx0 hx hx1 hy0 hy (by omega)
theorem i32_join6 (x y : Int) (hx0 : 0 ≤ x) (hx : x % 64 = 0) (hx1 : x < 2147483648) (hy0 : 0 ≤ y) (hy : y < 64) : bits .or .i32 x y = x + y := bits_join .i32 31 (by decide) wraps_i32 6 x y hx0 hx hx1 hy0 hy (by omega)
end Go.Proofs.Ytfhfhfadebcbfaa
