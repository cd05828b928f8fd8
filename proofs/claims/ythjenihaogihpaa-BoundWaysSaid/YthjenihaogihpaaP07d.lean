/- Plain: from place to place. -/
import Derived.Test.YthjenihaogihpaaP07c
namespace Go.Proofs.Ythjenihaogihpaa
theorem psum_last : ∀ (gs : List (List Int)) (a : Nat), ((a : Int) :: psum a gs)[gs.length]? = some ((a + gs.flatten.length : Nat) : Int)
  | [], a => by simp [psum]
  | g :: gs, a => by
    have := psum_last gs (a + g.length)
    rw [List.length_cons, List.getElem?_cons_succ, psum, this, List.flatten_cons, List.length_append, Nat.add_assoc]
theorem places_last (xs : List Int) : (places xs)[(places xs).length - 1]? = some (xs.length : Int) := by
  have := psum_last (esg xs) 0
  rw [esg_flat, Nat.zero_add] at this
  rw [places_length]; exact this
theorem sorted_get {l : List Int} (hs : l.Pairwise (· < ·)) {i j : Nat} {x y : Int} (h1 : l[i]? = some x) (h2 : l[j]? = some y) (hij : i < j) : x < y := by
  obtain ⟨k1, rfl⟩ := List.getElem?_eq_some_iff.1 h1
  obtain ⟨k2, rfl⟩ := List.getElem?_eq_some_iff.1 h2
  exact List.pairwise_iff_getElem.1 hs i j k1 k2 hij
theorem places_ge {xs : List Int} {k : Nat} {y : Int} (h : (places xs)[k]? = some y) : ∀ z ∈ (places xs).drop k, y ≤ z := by
  intro z hz
  obtain ⟨j, hj⟩ := List.mem_iff_getElem?.1 hz
  rw [List.getElem?_drop] at hj
  rcases Nat.eq_zero_or_pos j with rfl | hp
  · rw [Nat.add_zero, h] at hj; simp at hj; omega
  · have := sorted_get (places_sorted xs) h hj (by omega); omega
theorem places_le {xs : List Int} {k : Nat} {y : Int} (h : (places xs)[k]? = some y) : ∀ z ∈ (places xs).take (k + 1), z ≤ y := by
  intro z hz
  obtain ⟨j, hj⟩ := List.mem_iff_getElem?.1 hz
  rw [List.getElem?_take] at hj
  split at hj
  · rcases Nat.lt_or_ge j k with hp | hp
    · have := sorted_get (places_sorted xs) hj h hp; omega
    · obtain rfl : j = k := by omega
      rw [h] at hj; simp at hj; omega
  · cases hj
theorem pway {xs : List Int} {k : Nat} {y : Int} (h : (places xs)[k]? = some y) : (places xs).contains y = true ∧ pnth xs k = y := by
  refine ⟨?_, ?_⟩
  · rw [List.contains_iff_mem]; exact List.mem_of_getElem? h
  · have hk := (List.getElem?_eq_some_iff.1 h).1
    rw [pnth, show (min (max (k : Int) 0) (((places xs).length : Int) - 1)).toNat = k by omega, h]; rfl
theorem pway2 {xs : List Int} {k : Nat} {y z : Int} (h1 : (places xs)[k]? = some y) (h2 : (places xs)[k + 1]? = some z) : y < z ∧ pback xs z = y ∧ pnext xs y = z := by
  have hlt := sorted_get (places_sorted xs) h1 h2 (by omega)
  obtain ⟨k2, hz⟩ := List.getElem?_eq_some_iff.1 h2
  refine ⟨hlt, ?_, ?_⟩
  · have e := List.take_append_drop (k + 1) (places xs)
    rw [pback, lback, ← e, List.foldl_append]
    have h3 := lback_snoc (n := z) h1
    rw [if_pos hlt, lback] at h3
    rw [h3]
    exact fold_none (· < z) y _ fun u hu => by have := places_ge h2 u hu; omega
  · have e := List.take_append_drop (k + 1) (places xs)
    rw [pnext, ← e, List.find?_append, List.find?_eq_none.2 (fun u hu => by have := places_le h1 u hu; simp; omega), List.drop_eq_getElem_cons k2, hz, List.find?_cons, show decide (z > y) = true by simpa using hlt]; rfl
theorem pends (xs : List Int) : (places xs).contains (-1) = false ∧ pback xs 0 = 0 ∧ pnext xs xs.length = xs.length := by
  refine ⟨?_, ?_, ?_⟩
  · cases hc : (places xs).contains (-1) with
    | false => rfl
    | true => have := places_rng xs _ (List.contains_iff_mem.1 hc); omega
  · exact fold_none (· < 0) 0 _ fun u hu => by have := places_rng xs u hu; omega
  · rw [pnext, List.find?_eq_none.2 (fun u hu => by have := places_rng xs u hu; simp; omega)]; rfl
end Go.Proofs.Ythjenihaogihpaa
