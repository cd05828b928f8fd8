/- Plain definitions and laws: UTF-8, texts. -/
import Derived.Test.YthjenihaogihpaaP04b
namespace Go.Proofs.Ythjenihaogihpaa
theorem takeR_pos (x : Int) (r : List Int) : 1 ≤ (takeR (x :: r)).2.1 := by
  have := (takeR_n (x :: r)).2.2
  simp only [List.length_cons] at this; omega
/-- The signs that octets begin with, one behind the other, and their errors. -/
def eread : List Int → List (Int × Int)
  | [] => []
  | x :: r => ((takeR (x :: r)).1, (takeR (x :: r)).2.2) :: eread ((x :: r).drop (takeR (x :: r)).2.1.toNat)
termination_by xs => xs.length
decreasing_by
  have := takeR_pos x r
  simp only [List.length_drop, List.length_cons]; omega
theorem eread_nil : eread [] = [] := by rw [eread]
theorem eread_cons (x : Int) (r : List Int) : eread (x :: r) = ((takeR (x :: r)).1, (takeR (x :: r)).2.2) :: eread ((x :: r).drop (takeR (x :: r)).2.1.toNat) := by rw [eread]
/-- What is read of a sign. -/
def rd (p : Int × Int) : Int := if p.2 = 0 then p.1 else 65533
def bad (p : Int × Int) : Bool := p.2 != 0
def etext (xs : List Int) : List Int := (eread xs).map rd
def eerr (xs : List Int) : Int := ferr ((eread xs).map Prod.snd)
def ebad (xs : List Int) : Nat := ((eread xs).filter bad).length
theorem eread_ind (P : List Int → Prop) (h0 : P []) (hs : ∀ x r, P ((x :: r).drop (takeR (x :: r)).2.1.toNat) → P (x :: r)) (n : Nat) : ∀ xs : List Int, xs.length ≤ n → P xs := by
  induction n with
  | zero => intro xs h; obtain rfl : xs = [] := List.eq_nil_of_length_eq_zero (by omega); exact h0
  | succ n ih =>
    intro xs h
    cases xs with
    | nil => exact h0
    | cons x r =>
      have := takeR_pos x r
      exact hs x r (ih _ (by simp at h ⊢; omega))
theorem eread_len (xs : List Int) : (eread xs).length ≤ xs.length := by
  refine eread_ind (fun xs => (eread xs).length ≤ xs.length) (by simp [eread_nil]) ?_ _ xs (Nat.le_refl _)
  intro x r ih
  have := takeR_pos x r
  rw [eread_cons]
  simp only [List.length_cons, List.length_drop] at ih ⊢; omega
/-- The octets of a text. -/
def elay (xs : List Int) : List Int := xs.flatMap octs
theorem elay_cons (x : Int) (xs : List Int) : elay (x :: xs) = octs x ++ elay xs := by simp [elay]
theorem elay_snoc {xs : List Int} {k : Nat} {x : Int} (h : xs[k]? = some x) : elay (xs.take (k + 1)) = elay (xs.take k) ++ octs x := by
  simp [elay, List.take_add_one, h]
theorem elay_len (xs : List Int) : (elay xs).length ≤ 4 * xs.length := by
  induction xs with
  | nil => simp [elay]
  | cons x xs ih => have := octs_len4 x; rw [elay_cons]; simp only [List.length_append, List.length_cons] at ih ⊢; omega
theorem elay_rng : ∀ xs : List Int, Rg 0 256 (elay xs)
  | [] => Rg.nil _ _
  | x :: xs => by rw [elay_cons]; exact (octs_rng x).append (elay_rng xs)
/-- How many octets a text has. -/
def elen (xs : List Int) : Int := (xs.map ulenI).sum
theorem elen_eq (xs : List Int) : elen xs = (elay xs).length := by
  induction xs with
  | nil => simp [elen, elay]
  | cons x xs ih => rw [elay_cons]; simp only [elen, List.map_cons, List.sum_cons, List.length_append] at ih ⊢; rw [ih, ← octs_len x]; simp
theorem elen_snoc {xs : List Int} {k : Nat} {x : Int} (h : xs[k]? = some x) : elen (xs.take (k + 1)) = elen (xs.take k) + ulenI x := by
  simp [elen, List.take_add_one, h]
end Go.Proofs.Ythjenihaogihpaa
