/- Plain: the reading of shifted text. -/
import Derived.Test.YtieeafkbgmpofaaW23e
namespace Go.Proofs.Ytieeafkbgmpofaa
/-- How many digits stand ahead. -/
def dl : List Int → Nat
  | [] => 0
  | c :: r => if 0 ≤ dv c then dl r + 1 else 0
/-- How many octets are taken behind the first. -/
def sn (c : Int) (r : List Int) : Nat := if c = 43 then (if r[dl r]? = some 45 then dl r + 1 else dl r) else 0
def sout (c : Int) (r : List Int) : List Int :=
  if 128 ≤ c then [65533] else if c = 43 then (if dl r = 0 then [43] else if runO (r.take (dl r)) then runT (r.take (dl r)) ++ [65533] else runT (r.take (dl r))) else [c]
def srun (c : Int) (r : List Int) : Nat := if c = 43 ∧ dl r ≠ 0 then 1 else 0
def swr (c : Int) (r : List Int) : Bool := if 128 ≤ c then true else if c = 43 then (if dl r = 0 then !decide (r[dl r]? = some 45) else !runR (r.take (dl r))) else false
def sread : List Int → List Int × Nat × Bool
  | [] => ([], 0, false)
  | c :: r => (sout c r ++ (sread (r.drop (sn c r))).1, srun c r + (sread (r.drop (sn c r))).2.1, swr c r || (sread (r.drop (sn c r))).2.2)
termination_by l => l.length
decreasing_by all_goals (simp only [List.length_drop, List.length_cons]; omega)
theorem sread_nil : sread [] = ([], 0, false) := by rw [sread]
theorem sread_cons (c : Int) (r : List Int) : sread (c :: r) = (sout c r ++ (sread (r.drop (sn c r))).1, srun c r + (sread (r.drop (sn c r))).2.1, swr c r || (sread (r.drop (sn c r))).2.2) := by rw [sread]
theorem dl_le : ∀ r : List Int, dl r ≤ r.length
  | [] => Nat.le_refl _
  | c :: r => by
    have := dl_le r
    rw [dl]; split <;> simp <;> omega
theorem dl_all : ∀ r : List Int, allD (r.take (dl r)) = true
  | [] => rfl
  | c :: r => by
    rw [dl]; split
    · rename_i h
      have := dl_all r
      rw [allD] at this ⊢
      rw [List.take_succ_cons, List.all_cons, this, decide_eq_true h]; rfl
    · rfl
theorem dl_in : ∀ (r : List Int) (k : Nat), k < dl r → ∃ c, r[k]? = some c ∧ 0 ≤ dv c
  | [], k, h => by simp [dl] at h
  | c :: r, k, h => by
    rw [dl] at h
    split at h
    · rename_i hc
      cases k with
      | zero => exact ⟨c, rfl, hc⟩
      | succ k => rw [List.getElem?_cons_succ]; exact dl_in r k (by omega)
    · omega
theorem dl_out : ∀ (r : List Int) (c : Int), r[dl r]? = some c → dv c < 0
  | [], c, h => by simp [dl] at h
  | x :: r, c, h => by
    rw [dl] at h
    split at h
    · rw [List.getElem?_cons_succ] at h; exact dl_out r c h
    · simp at h; subst h; omega
theorem dl_step {r : List Int} {k : Nat} (hk : k ≤ dl r) : (∃ c, r[k]? = some c ∧ 0 ≤ dv c ∧ k < dl r) ∨ (k = dl r ∧ ∀ c, r[k]? = some c → dv c < 0) := by
  rcases Nat.lt_or_ge k (dl r) with h | h
  · obtain ⟨c, h1, h2⟩ := dl_in r k h
    exact .inl ⟨c, h1, h2, h⟩
  · obtain rfl : k = dl r := by omega
    exact .inr ⟨rfl, dl_out r⟩
/-- Once more, from a place on. -/
theorem sread_at {xs : List Int} {p : Nat} {c : Int} (h : xs[p]? = some c) :
    sread (xs.drop p) = (sout c (xs.drop (p + 1)) ++ (sread (xs.drop (p + 1 + sn c (xs.drop (p + 1))))).1, srun c (xs.drop (p + 1)) + (sread (xs.drop (p + 1 + sn c (xs.drop (p + 1))))).2.1, swr c (xs.drop (p + 1)) || (sread (xs.drop (p + 1 + sn c (xs.drop (p + 1))))).2.2) := by
  obtain ⟨k1, k2⟩ := List.getElem?_eq_some_iff.1 h
  rw [List.drop_eq_getElem_cons k1, k2, sread_cons, List.drop_drop]
end Go.Proofs.Ytieeafkbgmpofaa
