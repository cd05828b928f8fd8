/- Toolkit: writing into a row that the call owns. · The toolkit, more: slices of records of n cells each, built by appends. (laid together by program out of single texts). -/
import Derived.Laws.OwnMore
import Derived.Test.YtoliaphiipkopaaDoorM11
namespace Go.Proofs.YtoliaphiipkopaaDoor
open Go.RowKit
theorem Own.form {B : Nat} {E : TypeId} {w : World} {v : Value} {cs : List Value} (h : Own B E w v cs) (h0 : 0 < cs.length) : ∃ g cap, v = .slice (some ⟨g, 0, none⟩) cs.length cap ∧ B ≤ g ∧ g < w.heap.size := by
  obtain ⟨g, cap, hv, h1, h2⟩ := h.1.form h0
  exact ⟨g, cap, hv, h1, h2⟩
theorem Own.cell {B g n cap : Nat} {E : TypeId} {w : World} {cs : List Value} (h : Own B E w (.slice (some ⟨g, 0, none⟩) n cap) cs) {j : Nat} {u : Value} (hu : cs[j]? = some u) : w.cell? ⟨g, j, none⟩ = some u := by
  have hl : n = cs.length := by
    obtain ⟨_, _, _, _, hv, _⟩ := h.row
    simp only [Value.slice.injEq] at hv; exact hv.2.1
  subst hl
  rw [h.1.cellAt j (by have := (List.getElem?_eq_some_iff.1 hu).1; omega), hu]
theorem Own.frozen {B g n cap : Nat} {E : TypeId} {w : World} {cs : List Value} (h : Own B E w (.slice (some ⟨g, 0, none⟩) n cap) cs) (j : Nat) : w.frozen? ⟨g, j, none⟩ = false := by
  have hl : n = cs.length := by
    obtain ⟨_, _, _, _, hv, _⟩ := h.row
    simp only [Value.slice.injEq] at hv; exact hv.2.1
  subst hl
  exact h.1.frozenAt j
theorem Own.set {B g n cap : Nat} {E : TypeId} {w : World} {cs : List Value} (h : Own B E w (.slice (some ⟨g, 0, none⟩) n cap) cs) (j : Nat) (u : Value) (hu : u.oneCell' = true) : Own B E (w.setCell ⟨g, j, none⟩ u) (.slice (some ⟨g, 0, none⟩) n cap) (cs.set j u) := by
  have hl : n = cs.length := by
    obtain ⟨_, _, _, _, hv, _⟩ := h.row
    simp only [Value.slice.injEq] at hv; exact hv.2.1
  subst hl
  refine ⟨?_, fun x hx => ?_⟩
  · rw [List.length_set]; exact (h.1.stored j u).1
  · rcases List.mem_or_eq_of_mem_set hx with h1 | rfl
    · exact h.2 x h1
    · exact hu
theorem grown_set (w : World) (g j : Nat) (u : Value) : w.grownBy (w.setCell ⟨g, j, none⟩ u) (some g) := ⟨rfl, rfl, rfl, by simp, fun k _ hk => heap_setCell_other w ⟨g, j, none⟩ k u (fun e => hk (by simp [e]))⟩
theorem grown_trans {w w1 w2 : World} {r : Option Nat} (h : w.grownBy w1 r) (h2 : w1.grownBy w2 r) : w.grownBy w2 r := ⟨h2.os.trans h.os, h2.tape.trans h.tape, h2.output.trans h.output, Nat.le_trans h.size h2.size, fun k hk hr => (h2.block k (Nat.lt_of_lt_of_le hk h.size) hr).trans (h.block k hk hr)⟩
theorem grown_drew (w : World) (r : Option Nat) : w.grownBy w.drew r := ⟨rfl, rfl, rfl, Nat.le_refl _, fun _ _ _ => rfl⟩
theorem ints_set (k : IntKind) (xs : List Int) (j : Nat) (x : Int) : (ints k xs).set j (.int k x) = ints k (xs.set j x) := by simp [ints, List.map_set]
theorem wpList_app2 {P : Program} {w : World} {ops : Array Oper} {rest : List Oper} {o : Oper} {a : Act} {Q : Exit → Act → World → Prop} {t E : TypeId} (hT : SlT P t E) (B : Nat)
    (s x : Operand) (hg : Region.wanted o (yielded ops a.tmps) = true) (ho : o.op = .call { callee := .builtin .append, args := #[s, x], argTypes := #[t, t] })
    {v v2 : Value} (hs : a.eval s = v) (hx : a.eval x = v2) {cs ds : List Value} (hown : Own B E w v cs) (hrow : Row w v2 ds) (hb : cs.length + ds.length ≤ 1000000000) (hB : B ≤ w.heap.size)
    (h : ∀ v' w', Own B E w' v' (cs ++ ds) → w.grownBy w' v.ownBlock → (v'.ownBlock = v.ownBlock ∨ v'.ownBlock = some w.heap.size) → wpList P ops Q rest (a.put o.dst v') w') : wpList P ops Q (o :: rest) a w :=
  wpList_wanted hg (wp_app2 hT B s x ho hs hx hown hrow hb hB h)
end Go.Proofs.YtoliaphiipkopaaDoor
namespace Go.Proofs.YtoliaphiipkopaaDoor
open Go.RowKit
def OwnN (k B : Nat) (E : TypeId) (w : World) (v : Value) (l : List (List Value)) : Prop := w.ownsRow B E k v l.length l.flatten ∧ ∀ r ∈ l, r.length = k ∧ ∀ u ∈ r, u.oneCell' = true
theorem OwnN.nil (k B : Nat) (E : TypeId) (w : World) : OwnN k B E w (.slice none 0 0) [] := ⟨World.ownsRow_nil _ _ _ _, by simp⟩
theorem OwnN.below {k B : Nat} {E : TypeId} {w w' : World} {v : Value} {l : List (List Value)} (h : OwnN k B E w v l) (hb : Below w.heap.size w w') : OwnN k B E w' v l := by
  obtain ⟨h, h1⟩ := h
  refine ⟨h.kept (row := none) ⟨hb.os, hb.tape, hb.output, hb.size, fun k hk _ => hb.block k hk⟩ ?_, h1⟩
  cases v.ownBlock <;> simp
theorem OwnN.alloc {k B : Nat} {E : TypeId} {w : World} {v : Value} {l : List (List Value)} (h : OwnN k B E w v l) (o : Obj) : OwnN k B E (w.alloc o) v l := h.below ((Below.refl _ _).alloc (Nat.le_refl _) o)
theorem OwnN.mono {k B B' : Nat} {E : TypeId} {w : World} {v : Value} {l : List (List Value)} (h : OwnN k B E w v l) (hB : B' ≤ B) : OwnN k B' E w v l := by
  obtain ⟨⟨h1, h2⟩, h3⟩ := h
  refine ⟨⟨h1, ?_⟩, h3⟩
  rcases h2 with h2 | ⟨g, cap, cur, hv, hb, rest⟩
  · exact .inl h2
  · exact .inr ⟨g, cap, cur, hv, Nat.le_trans hB hb, rest⟩
theorem OwnN.form {k B : Nat} {E : TypeId} {w : World} {v : Value} {l : List (List Value)} (h : OwnN k B E w v l) {n : Nat} (hn : l.length = n) (h0 : 0 < n) : ∃ g cap, v = .slice (some ⟨g, 0, none⟩) n cap ∧ B ≤ g ∧ g < w.heap.size := by
  subst hn
  obtain ⟨g, cap, hv, h1, h2⟩ := h.1.form h0
  exact ⟨g, cap, hv, h1, h2⟩
theorem OwnN.cellAt {k B g n cap : Nat} {E : TypeId} {w : World} {l : List (List Value)} (h : OwnN k B E w (.slice (some ⟨g, 0, none⟩) n cap) l) {j : Nat} {u : Value} (hu : l.flatten[j]? = some u) : w.cell? ⟨g, j, none⟩ = some u := by
  have := h.1.cells (g := g) rfl j u hu
  have hadd : (⟨g, 0, none⟩ : Addr).add j = ⟨g, j, none⟩ := by unfold Addr.add; split <;> simp_all
  rwa [hadd] at this
theorem below_ownN {k B B' : Nat} {E : TypeId} {a w w' : World} {v : Value} {l : List (List Value)} (h : Below B a w) (hown : OwnN k B' E w v l) (hg : w.grownBy w' v.ownBlock) (hB : B ≤ w.heap.size) (hB' : B ≤ B') : Below B a w' :=
  h.grown hg hB (fun k hk => Nat.le_trans hB' (hown.1.lt k hk).1)
/-- A slice of octets is no block of records of another type. -/
theorem Own.otherN {k B B' : Nat} {E E' : TypeId} {w w' : World} {v v' : Value} {cs : List Value} {l : List (List Value)} (h : Own B E w v cs) (h' : OwnN k B' E' w v' l) (hE : E ≠ E') (hg : w.grownBy w' v'.ownBlock) : Own B E w' v cs := by
  refine ⟨h.1.kept hg ?_, h.2⟩
  rcases h.1.2 with ⟨rfl, _⟩ | ⟨g, cap, cur, rfl, _, hgg, _⟩
  · exact .inl rfl
  · right
    rcases h'.1.2 with ⟨rfl, _⟩ | ⟨g', cap', cur', rfl, _, hg', _⟩
    · simp [Value.ownBlock]
    · intro e
      simp only [Value.ownBlock, Option.some.injEq] at e
      subst e
      rw [hgg] at hg'
      injection hg' with e1
      injection e1 with _ e2
      exact hE e2
def SlTN (k : Nat) (P : Program) (t e : TypeId) : Prop := P.underlying t = some (.slice e) ∧ ∃ i z, P.info? e = some i ∧ i.zero = some z ∧ i.size = k ∧ i.bytes ≤ 64 ∧ z.cells.size = k ∧ 0 < k
theorem SlTN.mk {k : Nat} {P : Program} {t e : TypeId} {z : Value} {bytes : Nat} (ht : P.underlying t = some (.slice e)) (h : (P.info? e).map (fun i => (i.zero, i.size, i.bytes)) = some (some z, k, bytes)) (hb : bytes ≤ 64) (hz : z.cells.size = k) (hk : 0 < k) : SlTN k P t e := by
  obtain ⟨i, h1, h2, h3, h4⟩ := info_parts h
  exact ⟨ht, i, z, h1, h2, h3, by omega, hz, hk⟩
/-- An append of one record that a literal laid. -/
theorem wpList_appN {k : Nat} {P : Program} {w : World} {ops : Array Oper} {rest : List Oper} {o : Oper} {a : Act} {Q : Exit → Act → World → Prop} {t E : TypeId} (hT : SlTN k P t E) (B : Nat)
    (s x : Operand) (hg : Region.wanted o (yielded ops a.tmps) = true) (ho : o.op = .call { callee := .builtin .append, args := #[s, x], argTypes := #[t, t] })
    {v : Value} {g : Nat} (hs : a.eval s = v) (hx : a.eval x = .slice (some ⟨g, 0, none⟩) 1 1) {l : List (List Value)} {r : List Value} (hown : OwnN k B E w v l) (hr : r.length = k) (h1 : ∀ u ∈ r, u.oneCell' = true) (hc : ∀ j u, r[j]? = some u → w.cell? ⟨g, j, none⟩ = some u) (hb : l.length + 1 ≤ 1000000000) (hB : B ≤ w.heap.size)
    (h : ∀ v' w', OwnN k B E w' v' (l ++ [r]) → w.grownBy w' v.ownBlock → wpList P ops Q rest (a.put o.dst v') w') : wpList P ops Q (o :: rest) a w := by
  refine wpList_wanted hg ?_
  obtain ⟨ht, i, z, hi, hz, hsize, hby, hzs, hk⟩ := hT
  have hnews : ∀ j u, r[j]? = some u → w.cell? ((⟨g, 0, none⟩ : Addr).add j) = some u := by
    intro j u hu
    have hadd : (⟨g, 0, none⟩ : Addr).add j = ⟨g, j, none⟩ := by unfold Addr.add; split <;> simp_all
    rw [hadd]; exact hc j u hu
  have h3 : (l.length + 1) * i.bytes ≤ 1000000000 * 64 := Nat.mul_le_mul hb hby
  exact wp_append_own w s x t ho B E i z k i.bytes ht hi hz hsize rfl hzs hk v l.length l.flatten hs hown.1 ⟨g, 0, none⟩ 1 1 r (by simpa using hx) (by omega) hnews h1
    (by simp only [maxLen]; omega) (by omega) hB
    (fun v' w' h5 h6 _ => h v' w' ⟨by
        rw [List.length_append, List.flatten_append]
        simpa using h5, by
      intro r' hr'
      rcases List.mem_append.1 hr' with h7 | h7
      · exact hown.2 r' h7
      · simp at h7; subst h7; exact ⟨hr, h1⟩⟩ h6)
end Go.Proofs.YtoliaphiipkopaaDoor
