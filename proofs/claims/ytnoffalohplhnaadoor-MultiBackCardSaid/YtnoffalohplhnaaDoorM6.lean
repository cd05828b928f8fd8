/- Toolkit: a slice that lies apart from the one that is appended to; append, and where the new slice lies. (laid together by program out of single texts). -/
import Derived.Deep.AppendLies
import Derived.Test.YtnoffalohplhnaaDoorM5
namespace Go.Proofs.YtnoffalohplhnaaDoor
open Go.RowKit
/-- r reads as ds, and lies apart from what v owns. -/
def Free (w : World) (v r : Value) (ds : List Value) : Prop := Row w r ds ∧ (ds = [] ∨ ∃ g, r.ownBlock = some g ∧ g < w.heap.size ∧ v.ownBlock ≠ some g)
theorem Free.row {w : World} {v r : Value} {ds : List Value} (h : Free w v r ds) : Row w r ds := h.1
theorem Own.blk {B : Nat} {E : TypeId} {w : World} {v : Value} {cs : List Value} (h : Own B E w v cs) : ∀ g, v.ownBlock = some g → g < w.heap.size := fun g hg => (h.1.lt g hg).2
theorem Free.of_own {B : Nat} {E : TypeId} {w : World} {v r : Value} {ds : List Value} (h : Own B E w r ds) (hv : ∀ g, v.ownBlock = some g → g < B) : Free w v r ds := by
  refine ⟨h.row, ?_⟩
  rcases h.1.2 with ⟨_, h0⟩ | ⟨g, cap, cur, hr, hb, hg, _⟩
  · exact .inl (List.eq_nil_of_length_eq_zero h0)
  · have hr' : r.ownBlock = some g := by rw [hr]; rfl
    exact .inr ⟨g, hr', (h.1.lt g hr').2, fun h9 => by have := hv g h9; omega⟩
theorem Free.below {w w' : World} {v r : Value} {ds : List Value} (h : Free w v r ds) (hb : Below w.heap.size w w') : Free w' v r ds := by
  refine ⟨h.1.below hb, ?_⟩
  rcases h.2 with h0 | ⟨g, h1, h2, h3⟩
  · exact .inl h0
  · exact .inr ⟨g, h1, Nat.lt_of_lt_of_le h2 hb.size, h3⟩
theorem Free.alloc {w : World} {v r : Value} {ds : List Value} (h : Free w v r ds) (o : Obj) : Free (w.alloc o) v r ds := h.below (below_alloc w o)
/-- A literal that is made now. -/
theorem Free.ilit {B : Nat} {E E' : TypeId} {w : World} {v : Value} {cs0 : List Value} {k : IntKind} (hown : Own B E w v cs0) (xs : List Int) (cs : List Value) (hx : ints k xs = cs) (hl : cs.length ≤ 1000000000) :
    Free (w.alloc (.cells cs.toArray E')) v (.slice (some ⟨w.heap.size, 0, none⟩) cs.length cs.length) (ints k xs) :=
  Free.of_own (Own.ilit (B := w.heap.size) xs cs hx (Nat.le_refl _) hl) hown.blk
/-- What stays when v is appended to. -/
theorem Free.app {w w' : World} {v v' r : Value} {ds : List Value} (h : Free w v r ds) (hg : w.grownBy w' v.ownBlock) (hl : v'.ownBlock = v.ownBlock ∨ v'.ownBlock = some w.heap.size) : Free w' v' r ds := by
  obtain ⟨⟨a, b, off, cap, rfl, hc, hm, ha, h1, hcell⟩, h2⟩ := h
  rcases h2 with rfl | ⟨g, h2, h3, h4⟩
  · exact ⟨⟨a, b, off, cap, rfl, hc, hm, ha, h1, fun i u hu => by simp at hu⟩, .inl rfl⟩
  · refine ⟨⟨a, b, off, cap, rfl, hc, hm, ha, h1, fun i u hu => ?_⟩, .inr ⟨g, h2, Nat.lt_of_lt_of_le h3 hg.size, ?_⟩⟩
    · have h5 := hcell i u hu
      rcases ha with rfl | ⟨rfl, _⟩
      · have e : b = g := by simpa [Value.ownBlock] using h2
        subst e
        rw [← h5]
        exact hg.cell_far _ h3 (fun h9 => h4 h9.symm)
      · simp at hu
    · rcases hl with hl | hl
      · rw [hl]; exact h4
      · rw [hl]; intro h9
        have : w.heap.size = g := by simpa using h9
        omega
theorem Row.far {w w' : World} {row : Option Nat} {r : Value} {ds : List Value} (h : Row w r ds) (hg : w.grownBy w' row) (hr : ∀ g, r.ownBlock = some g → g < w.heap.size → row ≠ some g) : Row w' r ds := by
  obtain ⟨a, b, off, cap, rfl, hc, hm, ha, h1, hcell⟩ := h
  refine ⟨a, b, off, cap, rfl, hc, hm, ha, h1, fun i u hu => ?_⟩
  have h5 := hcell i u hu
  rcases ha with rfl | ⟨rfl, _⟩
  · have hlt := World.block_lt_of_cell? w _ h5
    rw [← h5]
    exact hg.cell_far _ hlt (fun h9 => hr b rfl hlt h9.symm)
  · simp at hu
/-- append(s, x...): s owned, x read as a row; and where the new slice lies. -/
theorem wp_app2 {P : Program} {w : World} {o : Oper} {a : Act} {K : Act → World → Prop} {Q : Exit → Act → World → Prop} {t E : TypeId} (hT : SlT P t E) (B : Nat)
    (s x : Operand) (ho : o.op = .call { callee := .builtin .append, args := #[s, x], argTypes := #[t, t] })
    {v v2 : Value} (hs : a.eval s = v) (hx : a.eval x = v2) {cs ds : List Value} (hown : Own B E w v cs) (hrow : Row w v2 ds) (hb : cs.length + ds.length ≤ 1000000000) (hB : B ≤ w.heap.size)
    (h : ∀ v' w', Own B E w' v' (cs ++ ds) → w.grownBy w' v.ownBlock → (v'.ownBlock = v.ownBlock ∨ v'.ownBlock = some w.heap.size) → K (a.put o.dst v') w') : o.wp P a w K Q := by
  obtain ⟨ht, i, z, hi, hz, hsize, hby, hzs⟩ := hT
  obtain ⟨a2, b2, off2, cap2, rfl, hc2, hm2, ha2, h12, hcell2⟩ := hrow
  cases a2 with
  | none =>
    obtain ⟨rfl, hc⟩ : ds = [] ∧ ((none : Option Addr) = none → cap2 = 0) := by
      rcases ha2 with h | h
      · cases h
      · exact h
    obtain rfl := hc rfl
    have hrun := run_append_owned_none (P := P) (w := w) B t o.type E i 1 ht hi v cs.length cs hown.1
    unfold Oper.wp
    simp [execOp, ho, resolve, invoke, builtin, hs, hx, hrun, Result.andThen]
    have := h v w (by simpa using hown) ⟨rfl, rfl, rfl, Nat.le_refl _, fun _ _ _ => rfl⟩ (.inl rfl)
    exact this
  | some ad =>
    have hnews : ∀ j u, ds[j]? = some u → w.cell? (ad.add j) = some u := by
      intro j u hu
      rcases ha2 with h | h
      · obtain rfl : ad = ⟨b2, off2, none⟩ := by simpa using h
        rw [addr_add]; exact hcell2 j u hu
      · obtain ⟨rfl, _⟩ := h
        simp at hu
    have h3 : (cs.length + ds.length) * i.bytes ≤ 1000000000 * 64 := Nat.mul_le_mul hb hby
    obtain ⟨v', w', hr, h2, h4, _, h5⟩ := run_append_own_at (P := P) w B t o.type E i z 1 i.bytes ht hi hz hsize rfl hzs (by omega) v cs.length cs hown.1 ad ds.length cap2 ds (by simp) hnews h12
      (by simp only [maxLen]; omega) (by omega) hB
    unfold Oper.wp execOp
    simp only [ho, resolve, invoke, builtin, Sem.run_bind, Sem.run_pure, Result.andThen_ok, List.map_toArray, List.map_cons, List.map_nil, hs, hx, hr]
    exact h v' w' ⟨by simpa using h2, by
        intro u hu
        rcases List.mem_append.1 hu with hu | hu
        · exact hown.2 u hu
        · exact h12 u hu⟩ h4 h5
/-- The same at a step of a region that draws its order. -/
theorem step_app2 {P : Program} {w : World} {ops : Array Oper} {o : Oper} {a : Act} {K : Act → World → Prop} {Q : Exit → Act → World → Prop} {F : Prop} {t E : TypeId} (hT : SlT P t E) (B : Nat)
    (s x : Operand) (hg : Region.wanted o (yielded ops a.tmps) = true) (ho : o.op = .call { callee := .builtin .append, args := #[s, x], argTypes := #[t, t] })
    {v v2 : Value} (hs : a.eval s = v) (hx : a.eval x = v2) {cs ds : List Value} (hown : Own B E w v cs) (hrow : Row w v2 ds) (hb : cs.length + ds.length ≤ 1000000000) (hB : B ≤ w.heap.size)
    (h : ∀ v' w', Own B E w' v' (cs ++ ds) → w.grownBy w' v.ownBlock → (v'.ownBlock = v.ownBlock ∨ v'.ownBlock = some w.heap.size) → K (a.put o.dst v') w') : if Region.wanted o (yielded ops a.tmps) = true then Oper.wp P o a w K Q else F := by
  rw [if_pos hg]; exact wp_app2 hT B s x ho hs hx hown hrow hb hB h
theorem below_grown {B : Nat} {E : TypeId} {a w w' : World} {v : Value} {cs : List Value} (h : Below B a w) (hown : Own B E w v cs) (hg : w.grownBy w' v.ownBlock) (hB : B ≤ w.heap.size) : Below B a w' := below_own h hown hg hB (Nat.le_refl _)
end Go.Proofs.YtnoffalohplhnaaDoor
