/- Plain definitions and laws: signs, places, pieces. -/
import Derived.Test.YthjenihaogihpaaP05b
namespace Go.Proofs.Ythjenihaogihpaa
/-- The octets of the signs, one behind the other. -/
def esg : List Int → List (List Int)
  | [] => []
  | x :: r => (x :: r).take (takeR (x :: r)).2.1.toNat :: esg ((x :: r).drop (takeR (x :: r)).2.1.toNat)
termination_by xs => xs.length
decreasing_by
  have := takeR_pos x r
  simp only [List.length_drop, List.length_cons]; omega
theorem esg_nil : esg [] = [] := by rw [esg]
theorem esg_cons (x : Int) (r : List Int) : esg (x :: r) = (x :: r).take (takeR (x :: r)).2.1.toNat :: esg ((x :: r).drop (takeR (x :: r)).2.1.toNat) := by rw [esg]
/-- The ends of the signs, the first of which begins at a. -/
def psum (a : Nat) : List (List Int) → List Int
  | [] => []
  | g :: gs => ((a + g.length : Nat) : Int) :: psum (a + g.length) gs
def places (xs : List Int) : List Int := 0 :: psum 0 (esg xs)
/-- The pieces; cur stands ahead. -/
def psplit (most : Int) (cur : List Int) : List (List Int) → List (List Int)
  | [] => []
  | [g] => [cur ++ g]
  | g :: h :: r => if ((cur ++ g).length : Int) + h.length > most then (cur ++ g) :: psplit most [] (h :: r) else psplit most (cur ++ g) (h :: r)
def pieces (most : Int) (xs : List Int) : List (List Int) := psplit most [] (esg xs)
def pnext (xs : List Int) (n : Int) : Int := ((places xs).find? (fun p => decide (p > n))).getD xs.length

theorem esg_one (x : Int) (r : List Int) : ((x :: r).take (takeR (x :: r)).2.1.toNat).length = (takeR (x :: r)).2.1.toNat ∧ 0 < (takeR (x :: r)).2.1.toNat := by
  have h1 := takeR_pos x r
  have h2 := (takeR_n (x :: r)).2.1
  rw [List.length_take]; omega
theorem esg_flat (xs : List Int) : (esg xs).flatten = xs := by
  refine eread_ind (fun xs => (esg xs).flatten = xs) (by rw [esg_nil]; rfl) ?_ _ xs (Nat.le_refl _)
  intro x r ih
  rw [esg_cons, List.flatten_cons, ih, List.take_append_drop]
theorem esg_len (xs : List Int) : (esg xs).length ≤ xs.length := by
  refine eread_ind (fun xs => (esg xs).length ≤ xs.length) (by rw [esg_nil]; simp) ?_ _ xs (Nat.le_refl _)
  intro x r ih
  have := (esg_one x r).2
  rw [esg_cons, List.length_cons]; rw [List.length_drop] at ih; simp only [List.length_cons] at ih ⊢; omega
theorem psum_length (a : Nat) : ∀ gs : List (List Int), (psum a gs).length = gs.length
  | [] => rfl
  | g :: gs => by simp [psum, psum_length (a + g.length) gs]
theorem psum_gt : ∀ (a : Nat) (gs : List (List Int)), (∀ g ∈ gs, 0 < g.length) → ∀ y ∈ psum a gs, (a : Int) < y
  | _, [], _, y, hy => by simp [psum] at hy
  | a, g :: gs, h, y, hy => by
    have h1 := h g List.mem_cons_self
    simp only [psum, List.mem_cons] at hy
    rcases hy with rfl | hy
    · omega
    · have := psum_gt (a + g.length) gs (fun q hq => h q (List.mem_cons_of_mem _ hq)) y hy; omega
theorem psum_le : ∀ (a : Nat) (gs : List (List Int)), ∀ y ∈ psum a gs, y ≤ ((a + gs.flatten.length : Nat) : Int)
  | _, [], y, hy => by simp [psum] at hy
  | a, g :: gs, y, hy => by
    simp only [psum, List.mem_cons] at hy
    rcases hy with rfl | hy
    · simp; omega
    · have := psum_le (a + g.length) gs y hy
      simp only [List.flatten_cons, List.length_append]; omega
theorem esg_pos (xs : List Int) : ∀ g ∈ esg xs, 0 < g.length := by
  refine eread_ind (fun xs => ∀ g ∈ esg xs, 0 < g.length) (by rw [esg_nil]; simp) ?_ _ xs (Nat.le_refl _)
  intro x r ih g hg
  rw [esg_cons] at hg
  rcases List.mem_cons.1 hg with rfl | hg
  · have := esg_one x r; omega
  · exact ih g hg
theorem psum_sorted : ∀ (a : Nat) (gs : List (List Int)), (∀ g ∈ gs, 0 < g.length) → (psum a gs).Pairwise (· < ·)
  | _, [], _ => List.Pairwise.nil
  | a, g :: gs, h => by
    have h' : ∀ q ∈ gs, 0 < q.length := fun q hq => h q (List.mem_cons_of_mem _ hq)
    exact List.Pairwise.cons (fun y hy => psum_gt _ gs h' y hy) (psum_sorted (a + g.length) gs h')
theorem places_sorted (xs : List Int) : (places xs).Pairwise (· < ·) :=
  List.Pairwise.cons (fun y hy => by have := psum_gt 0 _ (esg_pos xs) y hy; simpa using this) (psum_sorted 0 _ (esg_pos xs))
theorem places_length (xs : List Int) : (places xs).length = (esg xs).length + 1 := by simp [places, psum_length]
theorem places_rng (xs : List Int) : ∀ y ∈ places xs, 0 ≤ y ∧ y ≤ xs.length := by
  intro y hy
  rcases List.mem_cons.1 hy with rfl | hy
  · omega
  · have h1 := psum_gt 0 _ (esg_pos xs) y hy
    have h2 := psum_le 0 _ y hy
    rw [esg_flat] at h2; omega
theorem psum_snoc_drop (a : Nat) (x : Int) (r : List Int) : psum a (esg (x :: r)) = ((a + (takeR (x :: r)).2.1.toNat : Nat) : Int) :: psum (a + (takeR (x :: r)).2.1.toNat) (esg ((x :: r).drop (takeR (x :: r)).2.1.toNat)) := by
  rw [esg_cons, psum, (esg_one x r).1]
/-! ### What the pieces are -/
theorem psplit_flat (most : Int) : ∀ (gs : List (List Int)) (cur : List Int), gs ≠ [] → (psplit most cur gs).flatten = cur ++ gs.flatten
  | [], _, h => absurd rfl h
  | [g], cur, _ => by simp [psplit]
  | g :: h :: r, cur, _ => by
    rw [psplit]; split
    · rw [List.flatten_cons, psplit_flat most (h :: r) [] (by simp)]; simp
    · rw [psplit_flat most (h :: r) _ (by simp)]; simp
theorem pieces_flat (most : Int) (xs : List Int) : (pieces most xs).flatten = xs := by
  by_cases h : esg xs = []
  · have := esg_flat xs; rw [h] at this; rw [pieces, h, ← this]; rfl
  · rw [pieces, psplit_flat most _ _ h, esg_flat]; rfl
/-- A piece is some of the signs, and one sign alone or not too long. -/
theorem psplit_of (most : Int) : ∀ (gs : List (List Int)) (cur : List (List Int)), (cur ≠ [] → ∀ g r, gs = g :: r → ((cur.flatten ++ g).length : Int) ≤ most) → ∀ p ∈ psplit most cur.flatten gs,
    ∃ qs : List (List Int), qs ≠ [] ∧ (∀ q ∈ qs, q ∈ cur ++ gs) ∧ p = qs.flatten ∧ (qs.length = 1 ∨ (p.length : Int) ≤ most)
  | [], _, _, p, hp => by simp [psplit] at hp
  | [g], cur, hc, p, hp => by
    simp only [psplit, List.mem_singleton] at hp
    subst hp
    refine ⟨cur ++ [g], by simp, by simp, by simp, ?_⟩
    by_cases h : cur = []
    · left; simp [h]
    · right; exact hc h g [] rfl
  | g :: h :: r, cur, hc, p, hp => by
    rw [psplit] at hp
    split at hp
    · rcases List.mem_cons.1 hp with rfl | hp
      · refine ⟨cur ++ [g], by simp, fun q hq => by simp at hq ⊢; rcases hq with hq | hq <;> simp [hq], by simp, ?_⟩
        by_cases h0 : cur = []
        · left; simp [h0]
        · right; exact hc h0 g _ rfl
      · obtain ⟨qs, h1, h2, h3, h4⟩ := psplit_of most (h :: r) [] (by simp) p hp
        exact ⟨qs, h1, fun q hq => by have := h2 q hq; simp at this ⊢; exact .inr (.inr this), h3, h4⟩
    · rename_i hle
      have he : cur.flatten ++ g = (cur ++ [g]).flatten := by simp
      rw [he] at hp hle
      obtain ⟨qs, h1, h2, h3, h4⟩ := psplit_of most (h :: r) (cur ++ [g]) (fun _ g' r' e => by
        obtain ⟨rfl, rfl⟩ := List.cons.inj e
        rw [List.length_append]; push_cast; omega) p hp
      exact ⟨qs, h1, fun q hq => by simpa using h2 q hq, h3, h4⟩
theorem psplit_len (most : Int) : ∀ (gs : List (List Int)) (cur : List Int), (psplit most cur gs).length ≤ gs.length
  | [], _ => by simp [psplit]
  | [g], cur => by simp [psplit]
  | g :: h :: r, cur => by
    rw [psplit]; split
    · have := psplit_len most (h :: r) []; simp at this ⊢; omega
    · have := psplit_len most (h :: r) (cur ++ g); simp at this ⊢; omega
theorem farL_take (a : Int) : ∀ (r : List Int) (j : Nat), farL a j (r.take (farL a j r - j)) = farL a j r
  | [], j => by simp [farL]
  | y :: r, j => by
    by_cases hc : (j : Int) < wideI a ∧ okAt a j y = true
    · have hb := (farL_bounds a r (j + 1)).1
      have e : farL a j (y :: r) = farL a (j + 1) r := by rw [farL, if_pos hc]
      rw [e, show farL a (j + 1) r - j = (farL a (j + 1) r - (j + 1)) + 1 by omega, List.take_succ_cons, farL, if_pos hc]
      exact farL_take a r (j + 1)
    · have e : farL a j (y :: r) = j := by rw [farL, if_neg hc]
      rw [e]; simp [farL]
theorem takeR_w {a : Int} {r : List Int} (h : wideI a ≠ 0) : (takeR (a :: r)).2.1 = ((farL a 1 r : Nat) : Int) := by
  by_cases hN : (farL a 1 r : Int) = wideI a
  · rw [takeR_ok h hN]
  · by_cases hE : farL a 1 r = r.length + 1
    · rw [takeR_end h hN hE]
    · rw [takeR_form h hN hE]
theorem esg_self (x : Int) (r : List Int) : esg ((x :: r).take (takeR (x :: r)).2.1.toNat) = [(x :: r).take (takeR (x :: r)).2.1.toNat] := by
  have key : ∀ k, (takeR (x :: r)).2.1.toNat = k + 1 → (takeR (x :: r.take k)).2.1.toNat = k + 1 := by
    intro k hk
    by_cases hw : wideI x = 0
    · rw [takeR_bad hw] at hk ⊢; exact hk
    · rw [takeR_w hw, Int.toNat_natCast] at hk ⊢
      have := farL_take x r 1
      rw [hk, Nat.add_sub_cancel] at this; exact this
  have hp := (esg_one x r).2
  obtain ⟨k, hk⟩ : ∃ k, (takeR (x :: r)).2.1.toNat = k + 1 := ⟨_, (Nat.succ_pred_eq_of_pos hp).symm⟩
  rw [hk, List.take_succ_cons, esg_cons, key k hk, List.take_succ_cons, List.take_take, Nat.min_self, List.drop_succ_cons, List.drop_eq_nil_of_le (by rw [List.length_take]; omega), esg_nil]
theorem esg_mem (xs : List Int) : ∀ g ∈ esg xs, esg g = [g] := by
  refine eread_ind (fun xs => ∀ g ∈ esg xs, esg g = [g]) (by rw [esg_nil]; simp) ?_ _ xs (Nat.le_refl _)
  intro x r ih g hg
  rw [esg_cons] at hg
  rcases List.mem_cons.1 hg with rfl | hg
  · exact esg_self x r
  · exact ih g hg
theorem esg_sc {xs : List Int} : Rg 0 256 xs → ebad xs = 0 → ∀ g ∈ esg xs, ∃ c, scB c = true ∧ g = octs c := by
  refine eread_ind (fun xs => Rg 0 256 xs → ebad xs = 0 → ∀ g ∈ esg xs, ∃ c, scB c = true ∧ g = octs c) (by rw [esg_nil]; simp) ?_ _ xs (Nat.le_refl _)
  intro x r ih hg h0 g hm
  rw [ebad_iff, eread_cons] at h0
  rw [esg_cons] at hm
  rcases List.mem_cons.1 hm with rfl | hm
  · have h1 := h0 _ List.mem_cons_self
    have h2 := takeR_good hg h1
    exact ⟨_, h2.1, h2.2.1.symm⟩
  · exact ih (hg.drop _) (by rw [ebad_iff]; exact fun p hp => h0 p (List.mem_cons_of_mem _ hp)) g hm
theorem sc_list : ∀ qs : List (List Int), (∀ q ∈ qs, ∃ c, scB c = true ∧ q = octs c) → ∃ cs, allSc cs = true ∧ qs.flatten = elay cs
  | [], _ => ⟨[], rfl, rfl⟩
  | q :: qs, h => by
    obtain ⟨c, h1, rfl⟩ := h q List.mem_cons_self
    obtain ⟨cs, h2, h3⟩ := sc_list qs (fun q hq => h q (List.mem_cons_of_mem _ hq))
    exact ⟨c :: cs, by simp only [allSc, List.all_cons, Bool.and_eq_true] at h2 ⊢; exact ⟨h1, h2⟩, by rw [List.flatten_cons, h3, elay_cons]⟩
/-- What BoundWhole says of a piece. -/
theorem piece_ok {most : Int} {xs p : List Int} (hg : Rg 0 256 xs) (hp : p ∈ pieces most xs) :
    0 < p.length ∧ ((p.length : Int) ≤ most ∨ (places p).length = 2) ∧ (ebad xs = 0 → ebad p = 0) := by
  obtain ⟨qs, h1, h2, h3, h4⟩ := psplit_of most (esg xs) [] (by simp) p hp
  simp only [List.nil_append] at h2
  refine ⟨?_, ?_, fun h0 => ?_⟩
  · cases qs with
    | nil => exact absurd rfl h1
    | cons q qs =>
      have := esg_pos xs q (h2 q List.mem_cons_self)
      rw [h3, List.flatten_cons, List.length_append]; omega
  · rcases h4 with h4 | h4
    · right
      obtain ⟨q, rfl⟩ := List.length_eq_one_iff.1 h4
      have := esg_mem xs q (h2 q (by simp))
      rw [places_length, h3]
      simp [this]
    · exact .inl h4
  · obtain ⟨cs, h5, h6⟩ := sc_list qs (fun q hq => esg_sc hg h0 q (h2 q hq))
    rw [h3, h6, ebad_elay h5]
theorem pieces_mem_len {most : Int} {xs p : List Int} (hp : p ∈ pieces most xs) : p.length ≤ xs.length := by
  have h := pieces_flat most xs
  rw [← h]
  exact (List.sublist_flatten_of_mem hp).length_le
end Go.Proofs.Ythjenihaogihpaa
