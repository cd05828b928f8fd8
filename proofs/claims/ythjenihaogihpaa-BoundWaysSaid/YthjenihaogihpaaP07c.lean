/- Plain: the last place that serves, told from behind. -/
import Derived.Test.YthjenihaogihpaaW07h
namespace Go.Proofs.Ythjenihaogihpaa
/-- What comes when a list is told from behind: k of them. -/
def bupto (l : List Int) (k : Nat) : List (Nat × Int) := (List.range k).map fun j => (l.length - 1 - j, l[l.length - 1 - j]?.getD 0)
theorem bupto_succ (l : List Int) (k : Nat) : bupto l (k + 1) = bupto l k ++ [(l.length - 1 - k, l[l.length - 1 - k]?.getD 0)] := by simp [bupto, List.range_succ]
theorem bupto_length (l : List Int) (k : Nat) : (bupto l k).length = k := by simp [bupto]
theorem fold_last (q : Int → Prop) [DecidablePred q] : ∀ (k : Nat) (l : List Int), k < l.length → (∀ j < k, ¬ q (l[l.length - 1 - j]?.getD 0)) → q (l[l.length - 1 - k]?.getD 0) →
    l.foldl (fun o y => if q y then y else o) 0 = l[l.length - 1 - k]?.getD 0 := by
  intro k
  induction k with
  | zero =>
    intro l hk _ hq
    obtain ⟨l', y, rfl⟩ : ∃ l' y, l = l' ++ [y] := by
      rcases List.eq_nil_or_concat l with rfl | ⟨l', y, rfl⟩
      · simp at hk
      · exact ⟨l', y, by rw [List.concat_eq_append]⟩
    simp at hq ⊢
    intro h; exact absurd hq h
  | succ k ih =>
    intro l hk hn hq
    obtain ⟨l', y, rfl⟩ : ∃ l' y, l = l' ++ [y] := by
      rcases List.eq_nil_or_concat l with rfl | ⟨l', y, rfl⟩
      · simp at hk
      · exact ⟨l', y, by rw [List.concat_eq_append]⟩
    have h0 := hn 0 (by omega)
    simp at h0 hk
    have he : ∀ j, j < l'.length → (l' ++ [y])[(l' ++ [y]).length - 1 - (j + 1)]?.getD 0 = l'[l'.length - 1 - j]?.getD 0 := by
      intro j hj
      rw [List.getElem?_append_left (by simp; omega)]
      congr 2; simp; omega
    rw [he k hk] at hq ⊢
    rw [List.foldl_append, ih l' hk (fun j hj => by have := hn (j + 1) (by omega); rwa [he j (by omega)] at this) hq]
    simp [h0]
theorem fold_none (q : Int → Prop) [DecidablePred q] (o : Int) : ∀ (l : List Int), (∀ y ∈ l, ¬ q y) → l.foldl (fun o y => if q y then y else o) o = o
  | [], _ => rfl
  | y :: l, h => by rw [List.foldl_cons, if_neg (h y (by simp))]; exact fold_none q o l fun z hz => h z (by simp [hz])
theorem bupto_mem {l : List Int} {y : Int} (h : y ∈ l) : ∃ i, (i, y) ∈ bupto l l.length := by
  obtain ⟨i, hi, rfl⟩ := List.mem_iff_getElem.1 h
  refine ⟨i, ?_⟩
  rw [bupto, List.mem_map]
  refine ⟨l.length - 1 - i, by simp; omega, ?_⟩
  rw [show l.length - 1 - (l.length - 1 - i) = i by omega]; simp [hi]
/-- One round has said 'no more': the last that came. -/
theorem bupto_hit (q : Int → Prop) [DecidablePred q] {l : List Int} {k : Nat} (hk : k ≤ l.length) {ini : List (Nat × Int)} {last : Nat × Int} (he : bupto l k = ini ++ [last]) (hn : ∀ p ∈ ini, ¬ q p.2) (hq : q last.2) :
    l.foldl (fun o y => if q y then y else o) 0 = last.2 := by
  obtain ⟨k', rfl⟩ : ∃ k', k = k' + 1 := by
    cases k with
    | zero => simp [bupto] at he
    | succ k' => exact ⟨k', rfl⟩
  rw [bupto_succ] at he
  obtain ⟨rfl, e5⟩ := List.append_inj' he rfl
  obtain rfl : (l.length - 1 - k', l[l.length - 1 - k']?.getD 0) = last := by simpa using e5
  exact fold_last q k' l (by omega) (fun j hj => hn (_, l[l.length - 1 - j]?.getD 0) (by rw [bupto, List.mem_map]; exact ⟨j, by simp [hj], rfl⟩)) hq
theorem bupto_miss (q : Int → Prop) [DecidablePred q] {l : List Int} (hn : ∀ p ∈ bupto l l.length, ¬ q p.2) : l.foldl (fun o y => if q y then y else o) 0 = 0 :=
  fold_none q 0 l fun y hy => by obtain ⟨i, hi⟩ := bupto_mem hy; exact hn _ hi
end Go.Proofs.Ythjenihaogihpaa
