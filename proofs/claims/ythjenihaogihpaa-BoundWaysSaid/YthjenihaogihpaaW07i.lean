/- Walks: the reference's Split. -/
import Derived.Test.YthjenihaogihpaaW07h
import Derived.Test.YthjenihaogihpaaW07e
import Derived.Test.YthjenihaogihpaaP07b
namespace Go.Proofs.Ythjenihaogihpaa
open Go.RowKit
set_option maxHeartbeats 1000000
theorem Own.opened {B : Nat} {E : TypeId} {w : World} {u : Value} {cs : List Value} (h : Own B E w u cs) (hne : 0 < cs.length) :
    ∃ g cap, u = .slice (some ⟨g, 0, none⟩) cs.length cap ∧ cs.length ≤ cap ∧ B ≤ g ∧ (∀ (i : Nat) (v : Value), cs[i]? = some v → w.cell? ⟨g, i, none⟩ = some v) ∧ ∀ j, w.frozen? ⟨g, j, none⟩ = false := by
  obtain ⟨⟨h0, h⟩, h1⟩ := h
  rcases h with ⟨_, hn⟩ | ⟨g, cap, cur, rfl, hB, hg, hc, hm, hs, ht⟩
  · omega
  · have hw : w.ownsRow B E 1 (.slice (some ⟨g, 0, none⟩) cs.length cap) cs.length cs := ⟨by simp, .inr ⟨g, cap, cur, rfl, hB, hg, hc, hm, hs, ht⟩⟩
    refine ⟨g, cap, rfl, hc, hB, fun i v hv => ?_, fun j => hw.frozenAt j⟩
    have := hw.cells (g := g) rfl i v hv
    rw [addr_add, Nat.zero_add] at this; exact this
/-- The slices vs hold the octets ps: slices of the world w1, or of blocks of their own behind it. -/
def Pcs (w1 w : World) (vs : List Value) (ps : List (List Int)) : Prop :=
  vs.length = ps.length ∧ ∀ (i : Nat) (v : Value) (p : List Int), vs[i]? = some v → ps[i]? = some p → Row w1 v (ints .u8 p) ∨ Own w1.heap.size 5 w v (ints .u8 p)
theorem Pcs.nil (w1 w : World) : Pcs w1 w [] [] := ⟨rfl, by simp⟩
theorem Pcs.row {w1 w : World} {vs : List Value} {ps : List (List Int)} (h : Pcs w1 w vs ps) (hb : Below w1.heap.size w1 w) {i : Nat} {v : Value} {p : List Int} (h1 : vs[i]? = some v) (h2 : ps[i]? = some p) : Row w v (ints .u8 p) := by
  rcases h.2 i v p h1 h2 with h | h
  · exact h.below hb
  · exact h.row
theorem Pcs.below {w1 w w' : World} {vs : List Value} {ps : List (List Int)} (h : Pcs w1 w vs ps) (hb : Below w.heap.size w w') : Pcs w1 w' vs ps :=
  ⟨h.1, fun i v p h1 h2 => (h.2 i v p h1 h2).imp id (·.below hb)⟩
theorem Pcs.other {w1 w w' : World} {B' : Nat} {vs : List Value} {ps : List (List Int)} {v' : Value} {cs' : List Value} (h : Pcs w1 w vs ps) (h' : Own B' 22 w v' cs') (hg : w.grownBy w' v'.ownBlock) : Pcs w1 w' vs ps :=
  ⟨h.1, fun i v p h1 h2 => (h.2 i v p h1 h2).imp id (·.other h' (by decide) hg)⟩
theorem Pcs.snoc {w1 w : World} {vs : List Value} {ps : List (List Int)} {v : Value} {p : List Int} (h : Pcs w1 w vs ps) (hv : Row w1 v (ints .u8 p) ∨ Own w1.heap.size 5 w v (ints .u8 p)) : Pcs w1 w (vs ++ [v]) (ps ++ [p]) := by
  refine ⟨by simp [h.1], fun i u q h1 h2 => ?_⟩
  rcases Nat.lt_or_ge i vs.length with hi | hi
  · rw [List.getElem?_append_left hi] at h1
    rw [List.getElem?_append_left (by rw [← h.1]; exact hi)] at h2
    exact h.2 i u q h1 h2
  · rw [List.getElem?_append_right hi] at h1
    rw [List.getElem?_append_right (by rw [← h.1]; exact hi), ← h.1] at h2
    cases hk : i - vs.length with
    | zero => rw [hk] at h1 h2; simp at h1 h2; subst h1 h2; exact hv
    | succ n => rw [hk] at h1; simp at h1
theorem Own.store {B : Nat} {E : TypeId} {w : World} {g cap : Nat} {cs : List Value} (h : Own B E w (.slice (some ⟨g, 0, none⟩) cs.length cap) cs) (j : Nat) (u : Value) (hu : u.oneCell' = true) :
    Own B E (w.setCell ⟨g, j, none⟩ u) (.slice (some ⟨g, 0, none⟩) cs.length cap) (cs.set j u) ∧ w.grownBy (w.setCell ⟨g, j, none⟩ u) (some g) := by
  have := h.1.stored j u
  refine ⟨⟨?_, fun x hx => ?_⟩, this.2⟩
  · have h1 := this.1
    rw [show (cs.set j u).length = cs.length by simp]
    exact h1
  · rcases List.mem_or_eq_of_mem_set hx with hx | rfl
    · exact h.2 x hx
    · exact hu
end Go.Proofs.Ythjenihaogihpaa
