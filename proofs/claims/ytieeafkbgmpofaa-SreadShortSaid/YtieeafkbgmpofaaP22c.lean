/- Plain: what is laid is of seven bits; a text of direct signs is itself. -/
import Derived.Test.YtieeafkbgmpofaaP22b
namespace Go.Proofs.Ytieeafkbgmpofaa
theorem dir_cases {c : Int} (h : dirB c = true) : (48 ≤ c ∧ c ≤ 57 ∨ 65 ≤ c ∧ c ≤ 90 ∨ 97 ≤ c ∧ c ≤ 122) ∨ (c = 39 ∨ c = 40 ∨ c = 41 ∨ c = 44 ∨ c = 45 ∨ c = 46 ∨ c = 47 ∨ c = 58 ∨ c = 63 ∨ c = 32 ∨ c = 9 ∨ c = 13 ∨ c = 10) := by
  rw [dirB] at h
  rcases Bool.or_eq_true _ _ |>.mp h with h1 | h1
  · exact Or.inl (of_decide_eq_true h1)
  · have := List.contains_iff_mem.1 h1
    simp [dirL] at this
    omega
theorem sev_dir {c : Int} (h : dirB c = true) : sevB c = true := decide_eq_true (by have := dir_cases h; omega)
theorem sc_dir {c : Int} (h : dirB c = true) : scB c = true := decide_eq_true (by have := dir_cases h; omega)
theorem pad6_bit {l : List Int} (h : Bit l) : Bit (pad6 l) := by
  intro x hx
  rcases List.mem_append.1 hx with h1 | h1
  · exact h x h1
  · exact Or.inl (List.eq_of_mem_replicate h1)
theorem wholes6_rng {l : List Int} (h : Bit l) : ∀ n ∈ wholes 6 l, 0 ≤ n ∧ n < 64 := by
  intro n hn
  rw [wholes, chunk] at hn
  obtain ⟨j, _, rfl⟩ := List.mem_map.1 hn
  have h1 := num_rng ((h.drop (6 * j)).take 6)
  have h2 : ((l.drop (6 * j)).take 6).length ≤ 6 := List.length_take_le _ _
  generalize ((l.drop (6 * j)).take 6).length = m at *
  generalize num ((l.drop (6 * j)).take 6) = z at *
  rcases (by omega : m = 0 ∨ m = 1 ∨ m = 2 ∨ m = 3 ∨ m = 4 ∨ m = 5 ∨ m = 6) with rfl | rfl | rfl | rfl | rfl | rfl | rfl <;> omega
theorem sev_bare (xs : List Int) : ∀ c ∈ bare xs, sevB c = true := by
  intro c hc
  rw [bare] at hc
  obtain ⟨n, hn, rfl⟩ := List.mem_map.1 hc
  have h1 := wholes6_rng (pad6_bit (obits_bit xs)) n hn
  have h2 := dg_rng h1.1 h1.2
  exact decide_eq_true (by omega)
theorem sev_code (t : List Int) : ∀ c ∈ codeL t, sevB c = true := by
  intro c hc
  rw [codeL] at hc
  split at hc
  · exact sev_bare _ c hc
  · cases hc
theorem dir_of_rn {c : Int} {r : List Int} (h : ¬ 0 < rn (c :: r)) (hc : c ≠ 43) : dirB c = true := by
  rw [rn, if_neg hc, dn] at h
  split at h
  · assumption
  · omega
theorem rn_dir {c : Int} (r : List Int) (h : dirB c = true) : rn (c :: r) = 0 := by
  rw [rn]; split
  · rfl
  · rw [dn, if_pos h]
theorem dir_ne {c : Int} (h : dirB c = true) : c ≠ 43 := by have := dir_cases h; omega
theorem sev_lo (c : Int) (r : List Int) : ∀ x ∈ lo c r, sevB x = true := by
  intro x hx
  rw [lo] at hx
  split at hx
  · rcases List.mem_append.1 hx with h1 | h1
    · rcases List.mem_cons.1 h1 with rfl | h1
      · rfl
      · exact sev_code _ x h1
    · rw [List.mem_singleton.1 h1]; rfl
  · rename_i h0
    split at hx
    · rcases List.mem_cons.1 hx with rfl | h1
      · rfl
      · rw [List.mem_singleton.1 h1]; rfl
    · rename_i h1
      rw [List.mem_singleton.1 hx]
      exact sev_dir (dir_of_rn h0 h1)
theorem lay_sev : ∀ (k : Nat) (xs : List Int), xs.length ≤ k → ∀ c ∈ (lay xs).1, sevB c = true
  | _, [], _ => by rw [lay_nil]; intro c hc; cases hc
  | 0, c :: r, h => by simp at h
  | k + 1, c :: r, h => by
    have h1 := lk_pos c r
    have ih := lay_sev k ((c :: r).drop (lk c r)) (by rw [List.length_drop]; simp only [List.length_cons] at *; omega)
    rw [lay_cons]
    intro x hx
    rcases List.mem_append.1 hx with h2 | h2
    · exact sev_lo c r x h2
    · exact ih x h2
theorem lay_len : ∀ (k : Nat) (xs : List Int), xs.length ≤ k → (lay xs).1.length ≤ 11 * xs.length
  | _, [], _ => by rw [lay_nil]; simp
  | 0, c :: r, h => by simp at h
  | k + 1, c :: r, h => by
    have h1 := lk_pos c r
    have h2 := lk_le c r
    have h3 := lo_len c r
    have ih := lay_len k ((c :: r).drop (lk c r)) (by rw [List.length_drop]; simp only [List.length_cons] at *; omega)
    rw [List.length_drop] at ih
    rw [lay_cons, List.length_append]
    omega
theorem sev_rng {l : List Int} (h : ∀ c ∈ l, sevB c = true) : Rg 0 256 l := fun c hc => by have := of_decide_eq_true (h c hc); omega
theorem lay_dir : ∀ xs : List Int, (∀ c ∈ xs, dirB c = true) → lay xs = (xs, 0)
  | [], _ => lay_nil
  | c :: r, h => by
    have hc := h c List.mem_cons_self
    have h0 := rn_dir r hc
    have ih := lay_dir r (fun x hx => h x (List.mem_cons_of_mem _ hx))
    have e1 : lo c r = [c] := by rw [lo, h0, if_neg (Nat.lt_irrefl 0), if_neg (dir_ne hc)]
    have e2 : ln c r = 0 := by rw [ln, h0, if_neg (Nat.lt_irrefl 0)]
    have e3 : lk c r = 1 := by rw [lk, h0, if_neg (Nat.lt_irrefl 0)]
    rw [lay_cons, e1, e2, e3, List.drop_succ_cons, List.drop_zero, ih]
    rfl
theorem lay_a : lay [65, 8802, 913, 46] = ([65, 43, 73, 109, 73, 68, 107, 81, 45, 46], 1) := by
  rw [lay_cons, show lo 65 [8802, 913, 46] = [65] from by decide, show ln 65 [8802, 913, 46] = 0 from by decide, show lk 65 [8802, 913, 46] = 1 from by decide, show ([65, 8802, 913, 46] : List Int).drop 1 = [8802, 913, 46] from rfl, lay_cons, show lo 8802 [913, 46] = [43, 73, 109, 73, 68, 107, 81, 45] from by decide +kernel, show ln 8802 [913, 46] = 1 from by decide, show lk 8802 [913, 46] = 2 from by decide, show ([8802, 913, 46] : List Int).drop 2 = [46] from rfl, lay_dir [46] (by decide)]
  rfl
theorem lay_b : lay [43] = ([43, 45], 0) := by
  rw [lay_cons, show lo 43 [] = [43, 45] from by decide, show ln 43 [] = 0 from by decide, show lk 43 [] = 1 from by decide, show ([43] : List Int).drop 1 = [] from rfl, lay_nil]
  rfl
end Go.Proofs.Ytieeafkbgmpofaa
