/- Toolkit: writing into a row that the call owns. · The toolkit, more: a record of four cells of one type, at a block of its own. (laid together by program out of single texts). -/
import Derived.Laws.OwnMore
import Derived.Test.YtfhfhfadebcbfaaM1
import Derived.Test.YtfhfhfadebcbfaaM3
namespace Go.Proofs.Ytfhfhfadebcbfaa
open Go.RowKit
theorem Own.form {B : Nat} {E : TypeId} {w : World} {v : Value} {cs : List Value} (h : Own B E w v cs) (h0 : 0 < cs.length) : ∃ g cap, v = .slice (some ⟨g, 0, none⟩) cs.length cap ∧ B ≤ g ∧ g < w.heap.size := by
  obtain ⟨g, cap, hv, h1, h2⟩ := h.1.form h0
  exact ⟨g, cap, hv, h1, h2⟩
theorem Own.cell {B g n cap : Nat} {E : TypeId} {w : World} {cs : List Value} (h : Own B E w (.slice (some ⟨g, 0, none⟩) n cap) cs) {j : Nat} {u : Value} (hu : cs[j]? = some u) : w.cell? ⟨g, j, none⟩ = some u := by
  have hl : n = cs.length := by
    obtain ⟨_, _, _, _, hv, _⟩ := h.row
    simp only [Value.slice.injEq] at hv; exact hv.2.1
  subst hl
  rw [h.1.cellAt j (by have := (List.getElem?_eq_some_iff.1 hu).1; omega), hu]
theorem Own.frozen {B g n cap : Nat} {E : TypeId} {w : World} {cs : List Value} (h : Own B E w (.slice (some ⟨g, 0, none⟩) n cap) cs) (j : Nat) : w.frozen? ⟨g, j, none⟩ = false := by
  have hl : n = cs.length := by
    obtain ⟨_, _, _, _, hv, _⟩ := h.row
    simp only [Value.slice.injEq] at hv; exact hv.2.1
  subst hl
  exact h.1.frozenAt j
theorem Own.set {B g n cap : Nat} {E : TypeId} {w : World} {cs : List Value} (h : Own B E w (.slice (some ⟨g, 0, none⟩) n cap) cs) (j : Nat) (u : Value) (hu : u.oneCell' = true) : Own B E (w.setCell ⟨g, j, none⟩ u) (.slice (some ⟨g, 0, none⟩) n cap) (cs.set j u) := by
  have hl : n = cs.length := by
    obtain ⟨_, _, _, _, hv, _⟩ := h.row
    simp only [Value.slice.injEq] at hv; exact hv.2.1
  subst hl
  refine ⟨?_, fun x hx => ?_⟩
  · rw [List.length_set]; exact (h.1.stored j u).1
  · rcases List.mem_or_eq_of_mem_set hx with h1 | rfl
    · exact h.2 x h1
    · exact hu
theorem grown_set (w : World) (g j : Nat) (u : Value) : w.grownBy (w.setCell ⟨g, j, none⟩ u) (some g) := ⟨rfl, rfl, rfl, by simp, fun k _ hk => heap_setCell_other w ⟨g, j, none⟩ k u (fun e => hk (by simp [e]))⟩
theorem grown_trans {w w1 w2 : World} {r : Option Nat} (h : w.grownBy w1 r) (h2 : w1.grownBy w2 r) : w.grownBy w2 r := ⟨h2.os.trans h.os, h2.tape.trans h.tape, h2.output.trans h.output, Nat.le_trans h.size h2.size, fun k hk hr => (h2.block k (Nat.lt_of_lt_of_le hk h.size) hr).trans (h.block k hk hr)⟩
theorem grown_drew (w : World) (r : Option Nat) : w.grownBy w.drew r := ⟨rfl, rfl, rfl, Nat.le_refl _, fun _ _ _ => rfl⟩
theorem ints_set (k : IntKind) (xs : List Int) (j : Nat) (x : Int) : (ints k xs).set j (.int k x) = ints k (xs.set j x) := by simp [ints, List.map_set]
theorem wpList_app2 {P : Program} {w : World} {ops : Array Oper} {rest : List Oper} {o : Oper} {a : Act} {Q : Exit → Act → World → Prop} {t E : TypeId} (hT : SlT P t E) (B : Nat)
    (s x : Operand) (hg : Region.wanted o (yielded ops a.tmps) = true) (ho : o.op = .call { callee := .builtin .append, args := #[s, x], argTypes := #[t, t] })
    {v v2 : Value} (hs : a.eval s = v) (hx : a.eval x = v2) {cs ds : List Value} (hown : Own B E w v cs) (hrow : Row w v2 ds) (hb : cs.length + ds.length ≤ 1000000000) (hB : B ≤ w.heap.size)
    (h : ∀ v' w', Own B E w' v' (cs ++ ds) → w.grownBy w' v.ownBlock → (v'.ownBlock = v.ownBlock ∨ v'.ownBlock = some w.heap.size) → wpList P ops Q rest (a.put o.dst v') w') : wpList P ops Q (o :: rest) a w :=
  wpList_wanted hg (wp_app2 hT B s x ho hs hx hown hrow hb hB h)
end Go.Proofs.Ytfhfhfadebcbfaa
namespace Go.Proofs.Ytfhfhfadebcbfaa
open Go.RowKit
/-- A record of four cells at block P. -/
def Rq (E : TypeId) (B P : Nat) (w : World) (x0 x1 x2 x3 : Value) : Prop := Own B E w (.slice (some ⟨P, 0, none⟩) 4 4) [x0, x1, x2, x3]
theorem Rq.new (E : TypeId) (w : World) (x0 x1 x2 x3 : Value) (h : x0.oneCell' = true ∧ x1.oneCell' = true ∧ x2.oneCell' = true ∧ x3.oneCell' = true) : Rq E w.heap.size w.heap.size (w.alloc (.cells #[x0, x1, x2, x3] E)) x0 x1 x2 x3 :=
  Own.lit [x0, x1, x2, x3] (by intro u hu; simp at hu; rcases hu with rfl | rfl | rfl | rfl; exact h.1; exact h.2.1; exact h.2.2.1; exact h.2.2.2) (Nat.le_refl _) (by simp)
section
variable {E : TypeId} {B P : Nat} {w w' : World} {x0 x1 x2 x3 : Value}
theorem Rq.below (h : Rq E B P w x0 x1 x2 x3) (hb : Below w.heap.size w w') : Rq E B P w' x0 x1 x2 x3 := Own.below h hb
theorem Rq.cells (h : Rq E B P w x0 x1 x2 x3) : w.cell? ⟨P, 0, none⟩ = some x0 ∧ w.cell? ⟨P, 1, none⟩ = some x1 ∧ w.cell? ⟨P, 2, none⟩ = some x2 ∧ w.cell? ⟨P, 3, none⟩ = some x3 :=
  ⟨Own.cell h (j := 0) rfl, Own.cell h (j := 1) rfl, Own.cell h (j := 2) rfl, Own.cell h (j := 3) rfl⟩
theorem Rq.unfrozen (h : Rq E B P w x0 x1 x2 x3) : w.frozen? ⟨P, 0, none⟩ = false ∧ w.frozen? ⟨P, 1, none⟩ = false ∧ w.frozen? ⟨P, 2, none⟩ = false ∧ w.frozen? ⟨P, 3, none⟩ = false :=
  ⟨Own.frozen h 0, Own.frozen h 1, Own.frozen h 2, Own.frozen h 3⟩
theorem Rq.set0 (h : Rq E B P w x0 x1 x2 x3) (u : Value) (hu : u.oneCell' = true) : Rq E B P (w.setCell ⟨P, 0, none⟩ u) u x1 x2 x3 := Own.set h 0 u hu
theorem Rq.set1 (h : Rq E B P w x0 x1 x2 x3) (u : Value) (hu : u.oneCell' = true) : Rq E B P (w.setCell ⟨P, 1, none⟩ u) x0 u x2 x3 := Own.set h 1 u hu
theorem Rq.set2 (h : Rq E B P w x0 x1 x2 x3) (u : Value) (hu : u.oneCell' = true) : Rq E B P (w.setCell ⟨P, 2, none⟩ u) x0 x1 u x3 := Own.set h 2 u hu
theorem Rq.set3 (h : Rq E B P w x0 x1 x2 x3) (u : Value) (hu : u.oneCell' = true) : Rq E B P (w.setCell ⟨P, 3, none⟩ u) x0 x1 x2 u := Own.set h 3 u hu
end
end Go.Proofs.Ytfhfhfadebcbfaa
