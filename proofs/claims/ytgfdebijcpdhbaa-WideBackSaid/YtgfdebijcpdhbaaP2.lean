/- Plain laws: UTF-16, laid and read. -/
import Derived.Test.YtgfdebijcpdhbaaW6
namespace Go.Proofs.Ytgfdebijcpdhbaa
theorem ferr_cons (e : Int) (es : List Int) : ferr (e :: es) = if e = 0 then ferr es else e := by
  by_cases h : e = 0
  · subst h; simp [ferr]
  · have : (e != 0) = true := by simpa using h
    simp [ferr, h, this]
theorem ulayL_cons (x : Int) (xs : List Int) : ulayL (x :: xs) = uof x ++ ulayL xs := by simp [ulayL]
theorem uof_bmp {x : Int} (h0 : 0 ≤ x) (h1 : x < 65536) (hh : hiB x = false) (hl : loB x = false) : uof x = [x] := by
  have h2 : ¬ hiB x = true := by simp [hh]
  have h3 : ¬ loB x = true := by simp [hl]
  rw [hiB_iff] at h2; rw [loB_iff] at h3
  rw [uof, if_pos (scB_iff.2 (by omega)), if_pos h1]
theorem uof_pair {x y : Int} (hh : hiB x = true) (hl : loB y = true) : uof (65536 + ((x - 55296) * 1024 + (y - 56320))) = [x, y] := by
  rw [hiB_iff] at hh; rw [loB_iff] at hl
  rw [uof, if_pos (scB_iff.2 (by omega)), if_neg (by omega)]
  congr 1
  · omega
  · congr 1; omega
theorem uread_uof {c : Int} (h : scB c = true) (r : List Int) : uread (uof c ++ r) = (c, 0) :: uread r := by
  have hc := scB_iff.1 h
  by_cases h1 : c < 65536
  · have h2 : hiB c = false := by
      have : ¬ hiB c = true := by rw [hiB_iff]; omega
      simpa using this
    have h3 : loB c = false := by
      have : ¬ loB c = true := by rw [loB_iff]; omega
      simpa using this
    rw [uof_bmp (by omega) h1 h2 h3]
    exact uread_bmp r h3 h2
  · rw [uof, if_pos h, if_neg h1]
    have h2 : hiB (55296 + (c - 65536) / 1024) = true := by rw [hiB_iff]; omega
    have h4 : loB (55296 + (c - 65536) / 1024) = false := by
      have : ¬ loB (55296 + (c - 65536) / 1024) = true := by rw [loB_iff]; omega
      simpa using this
    have h3 : loB (56320 + (c - 65536) % 1024) = true := by rw [loB_iff]; omega
    rw [show [55296 + (c - 65536) / 1024, 56320 + (c - 65536) % 1024] ++ r = (55296 + (c - 65536) / 1024) :: (56320 + (c - 65536) % 1024) :: r from rfl, uread_pair r h4 h2 h3]
    congr 2
    omega
theorem uread_ulay : ∀ xs : List Int, allSc xs = true → uread (ulayL xs) = xs.map fun c => (c, 0)
  | [], _ => by simp [ulayL, uread_nil]
  | x :: xs, h => by
    simp only [allSc, List.all_cons, Bool.and_eq_true] at h
    rw [ulayL_cons, uread_uof h.1, uread_ulay xs h.2]; rfl
theorem ulay_rng : ∀ xs : List Int, Rg 0 65536 (ulayL xs)
  | [] => by simp [ulayL]; exact Rg.nil _ _
  | x :: xs => by
    rw [ulayL_cons]
    refine Rg.append ?_ (ulay_rng xs)
    intro y hy
    unfold uof at hy
    split at hy
    · rename_i h
      have := scB_iff.1 h
      split at hy <;> simp at hy <;> omega
    · simp at hy
/-- What can be said of each step of the reading. -/
theorem uread_steps (P : List Int → List (Int × Int) → Prop) (h0 : P [] [])
    (hlo : ∀ x r ps, 0 ≤ x → x < 65536 → loB x = true → P r ps → P (x :: r) ((65533, 3) :: ps))
    (hbmp : ∀ x r ps, 0 ≤ x → x < 65536 → loB x = false → hiB x = false → P r ps → P (x :: r) ((x, 0) :: ps))
    (hbad : ∀ x r e ps, 0 ≤ x → x < 65536 → loB x = false → hiB x = true → e ≠ 0 → P r ps → P (x :: r) ((65533, e) :: ps))
    (hpair : ∀ x y r ps, 0 ≤ x → x < 65536 → hiB x = true → loB y = true → P r ps → P (x :: y :: r) ((65536 + ((x - 55296) * 1024 + (y - 56320)), 0) :: ps))
    (n : Nat) : ∀ xs : List Int, xs.length ≤ n → Rg 0 65536 xs → P xs (uread xs) := by
  induction n with
  | zero => intro xs h _; obtain rfl : xs = [] := List.eq_nil_of_length_eq_zero (by omega); rw [uread_nil]; exact h0
  | succ n ih =>
    intro xs h hg
    cases xs with
    | nil => rw [uread_nil]; exact h0
    | cons x r =>
      obtain ⟨⟨hx0, hx1⟩, hg'⟩ := hg.cons
      have hr := ih r (by simp at h; omega) hg'
      cases hl : loB x with
      | true => rw [uread_lo r hl]; exact hlo x r _ hx0 hx1 hl hr
      | false =>
        cases hh : hiB x with
        | false => rw [uread_bmp r hl hh]; exact hbmp x r _ hx0 hx1 hl hh hr
        | true =>
          cases r with
          | nil => rw [uread_end hl hh]; exact hbad x [] 4 _ hx0 hx1 hl hh (by omega) hr
          | cons y r =>
            cases hy : loB y with
            | false => rw [uread_bad r hl hh hy]; exact hbad x (y :: r) 3 _ hx0 hx1 hl hh (by omega) hr
            | true => rw [uread_pair r hl hh hy]; exact hpair x y r _ hx0 hx1 hh hy (ih r (by simp at h; omega) hg'.cons.2)
theorem uread_sc {xs : List Int} (hg : Rg 0 65536 xs) : allSc ((uread xs).map Prod.fst) = true := by
  refine uread_steps (fun _ ps => allSc (ps.map Prod.fst) = true) rfl ?_ ?_ ?_ ?_ _ xs (Nat.le_refl _) hg
  · intro x r ps _ _ _ h
    simpa [allSc, show scB 65533 = true from by decide] using h
  · intro x r ps h0 h1 hl hh h
    have : scB x = true := by
      have h2 : ¬ hiB x = true := by simp [hh]
      have h3 : ¬ loB x = true := by simp [hl]
      rw [hiB_iff] at h2; rw [loB_iff] at h3; rw [scB_iff]; omega
    simpa [allSc, this] using h
  · intro x r e ps _ _ _ _ _ h
    simpa [allSc, show scB 65533 = true from by decide] using h
  · intro x y r ps _ _ hh hl h
    have : scB (65536 + ((x - 55296) * 1024 + (y - 56320))) = true := by
      rw [hiB_iff] at hh; rw [loB_iff] at hl; rw [scB_iff]; omega
    simpa [allSc, this] using h
theorem uread_right {xs : List Int} (hg : Rg 0 65536 xs) : ferr ((uread xs).map Prod.snd) = 0 ↔ ulayL ((uread xs).map Prod.fst) = xs := by
  have sur : ∀ x, uof 65533 = [65533] ∧ (loB x = true ∨ hiB x = true → x ≠ 65533) := by
    intro x
    refine ⟨by decide, ?_⟩
    rw [loB_iff, hiB_iff]; omega
  refine uread_steps (fun xs ps => ferr (ps.map Prod.snd) = 0 ↔ ulayL (ps.map Prod.fst) = xs) (by simp [ferr, ulayL]) ?_ ?_ ?_ ?_ _ xs (Nat.le_refl _) hg
  · intro x r ps _ _ hl h
    rw [List.map_cons, ferr_cons, List.map_cons, ulayL_cons, (sur x).1]
    simp only [Int.reduceEq, if_false, List.cons_append, List.nil_append, List.cons.injEq, false_iff]
    intro h'
    exact (sur x).2 (.inl hl) h'.1.symm
  · intro x r ps h0 h1 hl hh h
    rw [List.map_cons, ferr_cons, List.map_cons, ulayL_cons, uof_bmp h0 h1 hh hl]
    simpa using h
  · intro x r e ps _ _ _ hh he h
    rw [List.map_cons, ferr_cons, List.map_cons, ulayL_cons, (sur x).1]
    simp only [if_neg he, List.cons_append, List.nil_append, List.cons.injEq]
    refine ⟨fun h => absurd h he, fun h' => absurd h'.1.symm ((sur x).2 (.inr hh))⟩
  · intro x y r ps _ _ hh hl h
    rw [List.map_cons, ferr_cons, List.map_cons, ulayL_cons, uof_pair hh hl]
    simpa using h
end Go.Proofs.Ytgfdebijcpdhbaa
