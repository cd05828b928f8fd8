/- Walks: the first that is no scalar value. -/
import Derived.Test.YtgfdebijcpdhbaaDoorW0
import Derived.Test.YtgfdebijcpdhbaaDoorT0
import Derived.Test.YtgfdebijcpdhbaaDoorP1
namespace Go.Proofs.YtgfdebijcpdhbaaDoor
open Go.RowKit
set_option maxHeartbeats 400000

/-- int32. -/
def R32 (xs : List Int) : Prop := ∀ x ∈ xs, -2147483648 ≤ x ∧ x ≤ 2147483647
theorem R32.get {xs : List Int} (h : R32 xs) {i : Nat} {x : Int} (hx : xs[i]? = some x) : -2147483648 ≤ x ∧ x ≤ 2147483647 := h x (List.mem_of_getElem? hx)

/-- A call of f enters f. -/
def Fnc (f : Nat) : Prop := ∀ args w, Sem.run Tryd.prog (callFunc f args) w = .ok (.enter f args) w
/-- All scalar values. -/
def allSc (xs : List Int) : Bool := xs.all scB
theorem idx_allSc (xs : List Int) : (idx (fun c => !scB c) xs == -1) = allSc xs := by
  by_cases h : allSc xs = true
  · rw [idx_none (fun y hy => by simp [List.all_eq_true.1 h y hy]), h]; rfl
  · have hf : allSc xs = false := by simpa using h
    obtain ⟨y, hy, hny⟩ := List.all_eq_false.1 hf
    have : ∃ i, xs.findIdx? (fun c => !scB c) = some i := by
      cases hc : xs.findIdx? (fun c => !scB c) with
      | some i => exact ⟨i, rfl⟩
      | none => rw [List.findIdx?_eq_none_iff] at hc; have := hc y hy; simp at this; exact absurd this hny
    obtain ⟨i, hi⟩ := this
    rw [hf, idx, hi]
    simp
theorem idx_neg (xs : List Int) (p : Int → Bool) : -1 ≤ idx p xs := by unfold idx; split <;> omega
theorem allSc_idx {xs : List Int} : allSc xs = decide (idx (fun c => !scB c) xs < 0) := by
  rw [← idx_allSc]; have := idx_neg xs (fun c => !scB c)
  rw [Bool.eq_iff_iff, beq_iff_eq, decide_eq_true_iff]; omega

theorem scB_32 {xs : List Int} (h : allSc xs = true) : R32 xs := fun x hx => by
  have := scB_iff.1 (List.all_eq_true.1 h x hx); omega
theorem idx_none_sc {xs : List Int} (h : allSc xs = true) : idx (fun c => !scB c) xs = -1 := idx_none (fun y hy => by simp [List.all_eq_true.1 h y hy])

theorem WF.u16 {xs : List Int} (h : WF .u16 xs) : Rg 0 65536 xs := fun x hx => wf_u16 (h x hx)
theorem WF.u8 {xs : List Int} (h : WF .u8 xs) : Rg 0 256 xs := fun x hx => wf_u8 (h x hx)
theorem WF.i32 {xs : List Int} (h : WF .i32 xs) : R32 xs := fun x hx => wf_i32 (h x hx)
theorem WF.b {xs : List Int} (h : WF .u8 xs) : Rg 0 256 xs := fun x hx => wf_u8 (h x hx)
theorem WF.get {k : IntKind} {xs : List Int} (h : WF k xs) {i : Nat} {x : Int} (hx : xs[i]? = some x) : (Lit.int k x).wf = true := h x (List.mem_of_getElem? hx)
end Go.Proofs.YtgfdebijcpdhbaaDoor
