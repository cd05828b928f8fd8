/- Plain laws: UTF-8, texts, there and back. -/
import Derived.Test.YthjenihaogihpaaP05
import Derived.Test.YthjenihaogihpaaW0b
namespace Go.Proofs.Ythjenihaogihpaa
theorem octs_cons {c : Int} (h : scB c = true) : ∃ a r, octs c = a :: r := by
  have := octs_len c
  unfold ulenI at this
  rw [if_pos h] at this
  cases ho : octs c with
  | nil => rw [ho] at this; simp at this; split at this <;> (try split at this) <;> (try split at this) <;> omega
  | cons a r => exact ⟨a, r, rfl⟩
theorem eread_octs {c : Int} (h : scB c = true) (s : List Int) : eread (octs c ++ s) = (c, 0) :: eread s := by
  obtain ⟨a, r, ho⟩ := octs_cons h
  have ht := takeR_octs h s
  have hl := octs_len c
  rw [ho] at ht hl ⊢
  rw [List.cons_append] at ht ⊢
  rw [eread_cons, ht]
  simp only []
  congr 2
  rw [← hl, ← List.cons_append, Int.toNat_natCast]
  exact List.drop_left
theorem eread_elay : ∀ xs : List Int, allSc xs = true → eread (elay xs) = xs.map fun c => (c, 0)
  | [], _ => by simp [elay, eread_nil]
  | x :: xs, h => by
    simp only [allSc, List.all_cons, Bool.and_eq_true] at h
    rw [elay_cons, eread_octs h.1, eread_elay xs h.2]; rfl
theorem etext_elay {xs : List Int} (h : allSc xs = true) : etext (elay xs) = xs := by
  rw [etext, eread_elay xs h, List.map_map]
  conv => rhs; rw [← List.map_id xs]
  exact List.map_congr_left fun x _ => by simp [rd]
theorem eerr_elay {xs : List Int} (h : allSc xs = true) : eerr (elay xs) = 0 := by
  rw [eerr, eread_elay xs h]; exact ferr_all (by intro e he; simp at he; exact he.2.symm)
theorem ebad_elay {xs : List Int} (h : allSc xs = true) : ebad (elay xs) = 0 := by
  rw [ebad, eread_elay xs h, List.length_eq_zero_iff, List.filter_eq_nil_iff]
  intro p hp; simp only [List.mem_map] at hp; obtain ⟨x, _, rfl⟩ := hp; simp [bad]
theorem ecount_elay {xs : List Int} (h : allSc xs = true) : (eread (elay xs)).length = xs.length := by rw [eread_elay xs h]; simp
theorem eerr_iff (xs : List Int) : eerr xs = 0 ↔ ∀ p ∈ eread xs, p.2 = 0 := by
  constructor
  · intro h p hp; exact ferr_zero h _ (List.mem_map_of_mem hp)
  · intro h; exact ferr_all (by intro e he; simp only [List.mem_map] at he; obtain ⟨p, hp, rfl⟩ := he; exact h p hp)
theorem ebad_iff (xs : List Int) : ebad xs = 0 ↔ ∀ p ∈ eread xs, p.2 = 0 := by
  rw [ebad, List.length_eq_zero_iff, List.filter_eq_nil_iff]
  simp [bad]
theorem eread_sc {xs : List Int} : Rg 0 256 xs → ∀ p ∈ eread xs, p.2 = 0 → scB p.1 = true := by
  refine eread_ind (fun xs => Rg 0 256 xs → ∀ p ∈ eread xs, p.2 = 0 → scB p.1 = true) (by intro _ p hp; simp [eread_nil] at hp) ?_ _ xs (Nat.le_refl _)
  intro x r ih hg p hp h0
  rw [eread_cons] at hp
  rcases List.mem_cons.1 hp with rfl | hp
  · exact (takeR_good hg h0).1
  · exact ih (hg.drop _) p hp h0
theorem etext_sc {xs : List Int} (hg : Rg 0 256 xs) : allSc (etext xs) = true := by
  rw [allSc, List.all_eq_true]
  intro y hy
  simp only [etext, List.mem_map] at hy
  obtain ⟨p, hp, rfl⟩ := hy
  unfold rd
  split
  · rename_i h; exact eread_sc hg p hp h
  · decide
theorem elay_etext {xs : List Int} : Rg 0 256 xs → (∀ p ∈ eread xs, p.2 = 0) → elay (etext xs) = xs := by
  refine eread_ind (fun xs => Rg 0 256 xs → (∀ p ∈ eread xs, p.2 = 0) → elay (etext xs) = xs) (by intro _ _; simp [etext, eread_nil, elay]) ?_ _ xs (Nat.le_refl _)
  intro x r ih hg h
  have h0 : (takeR (x :: r)).2.2 = 0 := h ((takeR (x :: r)).1, (takeR (x :: r)).2.2) (by rw [eread_cons]; exact List.mem_cons_self)
  obtain ⟨_, h2, h3, _⟩ := takeR_good hg h0
  have ih' := ih (hg.drop _) (fun p hp => h p (by rw [eread_cons]; exact List.mem_cons_of_mem _ hp))
  rw [etext, eread_cons, List.map_cons, elay_cons]
  rw [show rd ((takeR (x :: r)).1, (takeR (x :: r)).2.2) = (takeR (x :: r)).1 by simp [rd, h0], h2]
  rw [etext] at ih'
  rw [ih', List.take_append_drop]
theorem etext_len (xs : List Int) : (etext xs).length = (eread xs).length := by simp [etext]
theorem eread_pos (xs : List Int) : 0 < (eread xs).length ↔ 0 < xs.length := by
  cases xs with
  | nil => simp [eread_nil]
  | cons x r => rw [eread_cons]; simp
end Go.Proofs.Ythjenihaogihpaa
