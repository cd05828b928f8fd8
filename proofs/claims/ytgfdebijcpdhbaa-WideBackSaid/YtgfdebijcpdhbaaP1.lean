/- Plain definitions and laws: UTF-16. -/
import Derived.Test.YtgfdebijcpdhbaaP0
namespace Go.Proofs.Ytgfdebijcpdhbaa
def Rg (a b : Int) (xs : List Int) : Prop := ∀ x ∈ xs, a ≤ x ∧ x < b
theorem Rg.nil (a b : Int) : Rg a b [] := fun x hx => by simp at hx
theorem Rg.cons {a b : Int} {x : Int} {xs : List Int} (h : Rg a b (x :: xs)) : (a ≤ x ∧ x < b) ∧ Rg a b xs := ⟨h x (by simp), fun y hy => h y (by simp [hy])⟩
theorem Rg.drop {a b : Int} {xs : List Int} (h : Rg a b xs) (n : Nat) : Rg a b (xs.drop n) := fun x hx => h x (List.mem_of_mem_drop hx)
theorem Rg.take {a b : Int} {xs : List Int} (h : Rg a b xs) (n : Nat) : Rg a b (xs.take n) := fun x hx => h x (List.mem_of_mem_take hx)
theorem Rg.get {a b : Int} {xs : List Int} (h : Rg a b xs) {i : Nat} {x : Int} (hx : xs[i]? = some x) : a ≤ x ∧ x < b := h x (List.mem_of_getElem? hx)
theorem Rg.append {a b : Int} {xs ys : List Int} (h : Rg a b xs) (h' : Rg a b ys) : Rg a b (xs ++ ys) := fun x hx => (List.mem_append.1 hx).elim (h x) (h' x)

/-- Strictly: the text, if there is no error. -/
def strictL (q : Int) (t : List Int) : List Int := if q = 0 then t else []
/-- The first error of some. -/
def ferr (es : List Int) : Int := (es.find? (· != 0)).getD 0
theorem ferr_nil : ferr [] = 0 := rfl
theorem ferr_zero {es : List Int} (h : ferr es = 0) : ∀ e ∈ es, e = 0 := by
  unfold ferr at h
  intro e he
  cases hf : es.find? (· != 0) with
  | none => simpa using List.find?_eq_none.1 hf e he
  | some y =>
    rw [hf] at h
    have := List.find?_some hf
    simp at h; subst h; simp at this
theorem ferr_snoc (es : List Int) (e : Int) : ferr (es ++ [e]) = if ferr es = 0 then e else ferr es := by
  split
  · rename_i h
    have h0 := ferr_zero h
    have : es.find? (· != 0) = none := by rw [List.find?_eq_none]; intro x hx; simp [h0 x hx]
    by_cases he : e = 0
    · simp [ferr, List.find?_append, this, he]
    · have hb : (e != 0) = true := by simp [he]
      simp [ferr, List.find?_append, this, hb]
  · rename_i h
    cases hf : es.find? (· != 0) with
    | none => simp [ferr, hf] at h
    | some y => simp [ferr, List.find?_append, hf]
theorem ferr_all {es : List Int} (h : ∀ e ∈ es, e = 0) : ferr es = 0 := by
  have : es.find? (· != 0) = none := by rw [List.find?_eq_none]; intro x hx; simp [h x hx]
  simp [ferr, this]

def hiB (u : Int) : Bool := decide (55296 ≤ u ∧ u ≤ 56319)
def loB (u : Int) : Bool := decide (56320 ≤ u ∧ u ≤ 57343)
theorem hiB_iff {u : Int} : hiB u = true ↔ (55296 ≤ u ∧ u ≤ 56319) := decide_eq_true_iff
theorem loB_iff {u : Int} : loB u = true ↔ (56320 ≤ u ∧ u ≤ 57343) := decide_eq_true_iff
def uof (c : Int) : List Int := if scB c then (if c < 65536 then [c] else [55296 + (c - 65536) / 1024, 56320 + (c - 65536) % 1024]) else []

/-- The first sign, of how many units, and its error. -/
def uone (x : Int) (r : List Int) : Int × Int × Int :=
  if loB x then (65533, 1, 3) else if hiB x then
    (match r with
      | [] => (65533, 1, 4)
      | y :: _ => if loB y then (65536 + ((x - 55296) * 1024 + (y - 56320)), 2, 0) else (65533, 1, 3))
  else (x, 1, 0)
/-- The signs and their errors. -/
def uread : List Int → List (Int × Int)
  | [] => []
  | x :: r => ((uone x r).1, (uone x r).2.2) :: uread ((x :: r).drop (uone x r).2.1.toNat)
termination_by xs => xs.length
decreasing_by
  have : 1 ≤ (uone x r).2.1 := by
    unfold uone
    split
    · simp
    · split
      · split
        · simp
        · split <;> simp
      · simp
  simp only [List.length_drop, List.length_cons]; omega
theorem uone_n (x : Int) (r : List Int) : (uone x r).2.1 = 1 ∨ ((uone x r).2.1 = 2 ∧ r ≠ []) := by
  unfold uone
  split
  · simp
  · split
    · split
      · simp
      · split <;> simp
    · simp

theorem uread_nil : uread [] = [] := by rw [uread]
theorem uread_cons (x : Int) (r : List Int) : uread (x :: r) = ((uone x r).1, (uone x r).2.2) :: uread ((x :: r).drop (uone x r).2.1.toNat) := by rw [uread]
theorem uone_rng {x : Int} {r : List Int} (h : Rg 0 65536 (x :: r)) : 0 ≤ (uone x r).1 ∧ (uone x r).1 ≤ 1114111 := by
  obtain ⟨hx, hr⟩ := h.cons
  unfold uone
  split
  · simp
  · split
    · rename_i h1
      have h1 := hiB_iff.1 h1
      split
      · simp
      · split
        · rename_i h2
          have h2 := loB_iff.1 h2
          simp only []; omega
        · simp
    · simp only []; omega

theorem hiB_not_lo {x : Int} (h : loB x = true) : hiB x = false := by
  have h1 := loB_iff.1 h
  have : ¬ hiB x = true := fun h2 => by have := hiB_iff.1 h2; omega
  simpa using this
theorem uread_lo {x : Int} (r : List Int) (h : loB x = true) : uread (x :: r) = (65533, 3) :: uread r := by
  rw [uread_cons]; simp [uone, h]
theorem uread_bmp {x : Int} (r : List Int) (h : loB x = false) (h' : hiB x = false) : uread (x :: r) = (x, 0) :: uread r := by
  rw [uread_cons]; simp [uone, h, h']
theorem uread_end {x : Int} (h : loB x = false) (h' : hiB x = true) : uread [x] = (65533, 4) :: uread [] := by
  rw [uread_cons]; simp [uone, h, h']
theorem uread_pair {x y : Int} (r : List Int) (h : loB x = false) (h' : hiB x = true) (hy : loB y = true) : uread (x :: y :: r) = (65536 + ((x - 55296) * 1024 + (y - 56320)), 0) :: uread r := by
  rw [uread_cons]; simp [uone, h, h', hy]
theorem uread_bad {x y : Int} (r : List Int) (h : loB x = false) (h' : hiB x = true) (hy : loB y = false) : uread (x :: y :: r) = (65533, 3) :: uread (y :: r) := by
  rw [uread_cons]; simp [uone, h, h', hy]
end Go.Proofs.Ytgfdebijcpdhbaa
