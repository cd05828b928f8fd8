/- Plain: laying as seven bits. -/
import Derived.Test.YtieeafkbgmpofaaW22h
namespace Go.Proofs.Ytieeafkbgmpofaa
/-- How many signs that are not direct stand ahead; how long a run they begin with. -/
def dn : List Int → Nat
  | [] => 0
  | c :: r => if dirB c then 0 else dn r + 1
def rn : List Int → Nat
  | [] => 0
  | c :: r => if c = 43 then 0 else dn (c :: r)
theorem dn_le : ∀ t : List Int, dn t ≤ t.length
  | [] => Nat.le_refl _
  | c :: r => by
    have := dn_le r
    rw [dn]; split <;> simp <;> omega
theorem rn_le (t : List Int) : rn t ≤ t.length := by
  cases t with
  | nil => exact Nat.le_refl _
  | cons c r => rw [rn]; split; exact Nat.zero_le _; exact dn_le _
theorem dn_in : ∀ (t : List Int) (k : Nat), k < dn t → ∃ c, t[k]? = some c ∧ dirB c = false
  | [], k, h => by simp [dn] at h
  | c :: r, k, h => by
    rw [dn] at h
    split at h
    · omega
    · rename_i hc
      cases k with
      | zero => exact ⟨c, rfl, by simpa using hc⟩
      | succ k => rw [List.getElem?_cons_succ]; exact dn_in r k (by omega)
theorem dn_out : ∀ (t : List Int) (c : Int), t[dn t]? = some c → dirB c = true
  | [], c, h => by simp [dn] at h
  | x :: r, c, h => by
    rw [dn] at h
    split at h
    · rename_i hx
      simp at h; subst h; exact hx
    · rw [List.getElem?_cons_succ] at h; exact dn_out r c h
/-- What is laid of the first, how many runs that is, how many signs that takes. -/
def lo (c : Int) (r : List Int) : List Int := if 0 < rn (c :: r) then 43 :: codeL ((c :: r).take (rn (c :: r))) ++ [45] else if c = 43 then [43, 45] else [c]
def ln (c : Int) (r : List Int) : Nat := if 0 < rn (c :: r) then 1 else 0
def lk (c : Int) (r : List Int) : Nat := if 0 < rn (c :: r) then rn (c :: r) else 1
theorem lk_pos (c : Int) (r : List Int) : 0 < lk c r := by unfold lk; split <;> omega
theorem lk_le (c : Int) (r : List Int) : lk c r ≤ (c :: r).length := by
  have := rn_le (c :: r)
  unfold lk; split <;> simp only [List.length_cons] at * <;> omega
theorem lk_eq (c : Int) (r : List Int) : lk c r - 1 + 1 = lk c r := by have := lk_pos c r; omega
def lay : List Int → List Int × Nat
  | [] => ([], 0)
  | c :: r => (lo c r ++ (lay (r.drop (lk c r - 1))).1, ln c r + (lay (r.drop (lk c r - 1))).2)
termination_by l => l.length
decreasing_by all_goals (simp only [List.length_drop, List.length_cons]; omega)
theorem lay_nil : lay [] = ([], 0) := by rw [lay]
theorem lay_cons (c : Int) (r : List Int) : lay (c :: r) = (lo c r ++ (lay ((c :: r).drop (lk c r))).1, ln c r + (lay ((c :: r).drop (lk c r))).2) := by
  rw [lay, ← lk_eq c r, List.drop_succ_cons]
  simp only [Nat.add_sub_cancel]
theorem bare_len (xs : List Int) : (bare xs).length ≤ 2 * xs.length + 1 := by
  rw [bare, List.length_map, wholes, chunk_len, pad6, List.length_append, List.length_replicate, obits_len]
  omega
theorem codeL_len (t : List Int) : (codeL t).length ≤ 8 * t.length + 1 := by
  unfold codeL
  split
  · have h1 := bare_len (uoct (ulayL t))
    have h2 := ulayL_len t
    rw [uoct_len] at h1
    omega
  · simp
theorem lo_len (c : Int) (r : List Int) : (lo c r).length ≤ 11 * lk c r := by
  have h1 := codeL_len ((c :: r).take (rn (c :: r)))
  have h2 := rn_le (c :: r)
  rw [List.length_take] at h1
  unfold lo lk
  split
  · simp only [List.length_append, List.length_cons, List.length_nil]; omega
  · split <;> simp
theorem ln_le (c : Int) (r : List Int) : ln c r ≤ 1 := by unfold ln; split <;> omega
end Go.Proofs.Ytieeafkbgmpofaa
