/- The toolkit: what a slice reads as in a world (Row), what a call owns (Own), how both are kept; an append of a row to an owned row. (laid together by program out of single texts). -/
import Derived.WalkKit
import Derived.WalkSpells
import Derived.WalkLawsBesides
import Derived.BigQuiet
import Derived.Deep.QuietTactic
import Derived.Lib.Hide
import Derived.Laws.AppendOwnNone
import Derived.Deep.RegionHeld3
namespace Go.Proofs.YtnoffalohplhnaaDoor
open Go.RowKit

/-- In the world w the slice v reads as the cells cs. -/
def Row (w : World) (v : Value) (cs : List Value) : Prop :=
  ∃ a b off cap, v = .slice a cs.length cap ∧ cs.length ≤ cap ∧ cap ≤ maxLen ∧ (a = some ⟨b, off, none⟩ ∨ (cs = [] ∧ (a = none → cap = 0))) ∧
    (∀ u ∈ cs, u.oneCell' = true) ∧ ∀ i u, cs[i]? = some u → w.cell? ⟨b, off + i, none⟩ = some u

/-- The slice v is nil, or heads a block from B on, and its elements are cs. -/
def Own (B : Nat) (E : TypeId) (w : World) (v : Value) (cs : List Value) : Prop := w.ownsRow B E 1 v cs.length cs ∧ ∀ u ∈ cs, u.oneCell' = true

theorem Row.nil (w : World) : Row w (.slice none 0 0) [] := ⟨none, 0, 0, 0, rfl, by simp, by simp, .inr ⟨rfl, fun _ => rfl⟩, by simp, by simp⟩
theorem Own.nil (B : Nat) (E : TypeId) (w : World) : Own B E w (.slice none 0 0) [] := ⟨World.ownsRow_nil _ _ _ _, by simp⟩

theorem Own.row {B : Nat} {E : TypeId} {w : World} {v : Value} {cs : List Value} (h : Own B E w v cs) : Row w v cs := by
  obtain ⟨⟨h0, h⟩, h1⟩ := h
  rcases h with ⟨rfl, hn⟩ | ⟨g, cap, cur, rfl, _, hg, hc, hm, hs, ht⟩
  · obtain rfl : cs = [] := List.eq_nil_of_length_eq_zero hn
    exact Row.nil w
  · refine ⟨some ⟨g, 0, none⟩, g, 0, cap, rfl, hc, hm, .inl rfl, h1, fun i u hu => ?_⟩
    have := World.ownsRow.cells (w := w) (base := g) (e := E) (size := 1) (v := .slice (some ⟨g, 0, none⟩) cs.length cap) (n := cs.length) (xs := cs)
      ⟨by simp, .inr ⟨g, cap, cur, rfl, Nat.le_refl _, hg, hc, hm, hs, ht⟩⟩ (g := g) rfl i u hu
    have hadd : (⟨g, 0, none⟩ : Addr).add i = ⟨g, 0 + i, none⟩ := by unfold Addr.add; split <;> simp_all
    rwa [hadd] at this

theorem Row.below {w w' : World} {v : Value} {cs : List Value} (h : Row w v cs) (hb : Below w.heap.size w w') : Row w' v cs := by
  obtain ⟨a, b, off, cap, hv, hc, hm, ha, h1, hcell⟩ := h
  refine ⟨a, b, off, cap, hv, hc, hm, ha, h1, fun i u hu => ?_⟩
  have := hcell i u hu
  rw [← this]
  exact hb.cell (World.block_lt_of_cell? w _ this)

theorem Row.drew {w : World} {v : Value} {cs : List Value} (h : Row w v cs) : Row w.drew v cs := h.below ((Below.refl _ _).drew)
theorem Row.drewN {w : World} {v : Value} {cs : List Value} (h : Row w v cs) (n : Nat) : Row (w.drewN n) v cs := h.below ⟨rfl, rfl, rfl, Nat.le_refl _, fun _ _ => rfl⟩
theorem Row.alloc {w : World} {v : Value} {cs : List Value} (h : Row w v cs) (o : Obj) : Row (w.alloc o) v cs := h.below ((Below.refl _ _).alloc (Nat.le_refl _) o)

theorem Own.below {B : Nat} {E : TypeId} {w w' : World} {v : Value} {cs : List Value} (h : Own B E w v cs) (hb : Below w.heap.size w w') : Own B E w' v cs := by
  obtain ⟨h, h1⟩ := h
  refine ⟨h.kept (row := none) ⟨hb.os, hb.tape, hb.output, hb.size, fun k hk _ => hb.block k hk⟩ ?_, h1⟩
  cases v.ownBlock <;> simp
theorem Own.alloc {B : Nat} {E : TypeId} {w : World} {v : Value} {cs : List Value} (h : Own B E w v cs) (o : Obj) : Own B E (w.alloc o) v cs := h.below ((Below.refl _ _).alloc (Nat.le_refl _) o)
theorem Own.drew {B : Nat} {E : TypeId} {w : World} {v : Value} {cs : List Value} (h : Own B E w v cs) : Own B E w.drew v cs := h.below ((Below.refl _ _).drew)
theorem Own.mono {B B' : Nat} {E : TypeId} {w : World} {v : Value} {cs : List Value} (h : Own B E w v cs) (hB : B' ≤ B) : Own B' E w v cs := by
  obtain ⟨⟨h0, h⟩, h1⟩ := h
  refine ⟨⟨h0, ?_⟩, h1⟩
  rcases h with h | ⟨g, cap, cur, hv, hb, r⟩
  · exact .inl h
  · exact .inr ⟨g, cap, cur, hv, by omega, r⟩

theorem below_drewN {B : Nat} {a w : World} (h : Below B a w) (n : Nat) : Below B a (w.drewN n) := ⟨h.os, h.tape, h.output, h.size, h.block⟩

theorem below_own {B B' : Nat} {E : TypeId} {a w w' : World} {v : Value} {cs : List Value} (h : Below B a w) (hown : Own B' E w v cs) (hg : w.grownBy w' v.ownBlock) (hB : B ≤ w.heap.size) (hB' : B ≤ B') : Below B a w' :=
  h.grown hg hB (fun k hk => Nat.le_trans hB' (hown.1.lt k hk).1)

/-- What an append needs to know of a slice type t with elements e: one cell each. -/
def SlT (P : Program) (t e : TypeId) : Prop := P.underlying t = some (.slice e) ∧ ∃ i z, P.info? e = some i ∧ i.zero = some z ∧ i.size = 1 ∧ i.bytes ≤ 64 ∧ z.cells.size = 1
theorem SlT.mk {P : Program} {t e : TypeId} {z : Value} {bytes : Nat} (ht : P.underlying t = some (.slice e)) (h : (P.info? e).map (fun i => (i.zero, i.size, i.bytes)) = some (some z, 1, bytes)) (hb : bytes ≤ 64) (hz : z.cells.size = 1) : SlT P t e := by
  obtain ⟨i, h1, h2, h3, h4⟩ := info_parts h
  exact ⟨ht, i, z, h1, h2, h3, by omega, hz⟩

theorem wpList_wanted {P : Program} {w : World} {ops : Array Oper} {rest : List Oper} {o : Oper} {a : Act} {Q : Exit → Act → World → Prop}
    (hg : Region.wanted o (yielded ops a.tmps) = true) (h : o.wp P a w (wpList P ops Q rest) Q) : wpList P ops Q (o :: rest) a w := by
  unfold wpList; rw [if_pos hg]; exact .inl h

theorem addr_add (b off i : Nat) : (⟨b, off, none⟩ : Addr).add i = ⟨b, off + i, none⟩ := by unfold Addr.add; split <;> simp_all

/-- append(s, x...): s owned, x read as a row. -/
theorem wp_app {P : Program} {w : World} {o : Oper} {a : Act} {K : Act → World → Prop} {Q : Exit → Act → World → Prop} {t E : TypeId} (hT : SlT P t E) (B : Nat)
    (s x : Operand) (ho : o.op = .call { callee := .builtin .append, args := #[s, x], argTypes := #[t, t] })
    {v v2 : Value} (hs : a.eval s = v) (hx : a.eval x = v2) {cs ds : List Value} (hown : Own B E w v cs) (hrow : Row w v2 ds) (hb : cs.length + ds.length ≤ 1000000000) (hB : B ≤ w.heap.size)
    (h : ∀ v' w', Own B E w' v' (cs ++ ds) → w.grownBy w' v.ownBlock → K (a.put o.dst v') w') : o.wp P a w K Q := by
  obtain ⟨ht, i, z, hi, hz, hsize, hby, hzs⟩ := hT
  obtain ⟨a2, b2, off2, cap2, rfl, hc2, hm2, ha2, h12, hcell2⟩ := hrow
  cases a2 with
  | none =>
    obtain ⟨rfl, hc⟩ : ds = [] ∧ ((none : Option Addr) = none → cap2 = 0) := by
      rcases ha2 with h | h
      · cases h
      · exact h
    obtain rfl := hc rfl
    have hrun := run_append_owned_none (P := P) (w := w) B t o.type E i 1 ht hi v cs.length cs hown.1
    unfold Oper.wp
    simp [execOp, ho, resolve, invoke, builtin, hs, hx, hrun, Result.andThen]
    have := h v w (by simpa using hown) ⟨rfl, rfl, rfl, Nat.le_refl _, fun _ _ _ => rfl⟩
    exact this
  | some ad =>
    have hnews : ∀ j u, ds[j]? = some u → w.cell? (ad.add j) = some u := by
      intro j u hu
      rcases ha2 with h | h
      · obtain rfl : ad = ⟨b2, off2, none⟩ := by simpa using h
        rw [addr_add]; exact hcell2 j u hu
      · obtain ⟨rfl, _⟩ := h
        simp at hu
    have h3 : (cs.length + ds.length) * i.bytes ≤ 1000000000 * 64 := Nat.mul_le_mul hb hby
    exact wp_append_own w s x t ho B E i z 1 i.bytes ht hi hz hsize rfl hzs (by omega) v cs.length cs hs hown.1 ad ds.length cap2 ds (by simpa using hx) (by simp) hnews h12
      (by simp only [maxLen]; omega) (by omega) hB
      (fun v' w' h5 h6 _ => h v' w' ⟨by simpa using h5, by
        intro u hu
        rcases List.mem_append.1 hu with hu | hu
        · exact hown.2 u hu
        · exact h12 u hu⟩ h6)
theorem wpList_app {P : Program} {w : World} {ops : Array Oper} {rest : List Oper} {o : Oper} {a : Act} {Q : Exit → Act → World → Prop} {t E : TypeId} (hT : SlT P t E) (B : Nat)
    (s x : Operand) (hg : Region.wanted o (yielded ops a.tmps) = true) (ho : o.op = .call { callee := .builtin .append, args := #[s, x], argTypes := #[t, t] })
    {v v2 : Value} (hs : a.eval s = v) (hx : a.eval x = v2) {cs ds : List Value} (hown : Own B E w v cs) (hrow : Row w v2 ds) (hb : cs.length + ds.length ≤ 1000000000) (hB : B ≤ w.heap.size)
    (h : ∀ v' w', Own B E w' v' (cs ++ ds) → w.grownBy w' v.ownBlock → wpList P ops Q rest (a.put o.dst v') w') : wpList P ops Q (o :: rest) a w :=
  wpList_wanted hg (wp_app hT B s x ho hs hx hown hrow hb hB h)
/-- The same at a step of a region that draws its order. -/
theorem step_app {P : Program} {w : World} {ops : Array Oper} {o : Oper} {a : Act} {K : Act → World → Prop} {Q : Exit → Act → World → Prop} {F : Prop} {t E : TypeId} (hT : SlT P t E) (B : Nat)
    (s x : Operand) (hg : Region.wanted o (yielded ops a.tmps) = true) (ho : o.op = .call { callee := .builtin .append, args := #[s, x], argTypes := #[t, t] })
    {v v2 : Value} (hs : a.eval s = v) (hx : a.eval x = v2) {cs ds : List Value} (hown : Own B E w v cs) (hrow : Row w v2 ds) (hb : cs.length + ds.length ≤ 1000000000) (hB : B ≤ w.heap.size)
    (h : ∀ v' w', Own B E w' v' (cs ++ ds) → w.grownBy w' v.ownBlock → K (a.put o.dst v') w') : if Region.wanted o (yielded ops a.tmps) = true then Oper.wp P o a w K Q else F := by
  rw [if_pos hg]; exact wp_app hT B s x ho hs hx hown hrow hb hB h

theorem ret_bool {a b : Bool} (h : a = b) : Ending.returned (.bool a) = .returned (.bool b) := by rw [h]
theorem ret_int {k : IntKind} {a b : Int} (h : a = b) : Ending.returned (.int k a) = .returned (.int k b) := by rw [h]

/-- The cells of integers of one kind. -/
def ints (k : IntKind) (xs : List Int) : List Value := xs.map (.int k)
theorem ints_length (k : IntKind) (xs : List Int) : (ints k xs).length = xs.length := by simp [ints]
theorem ints_one (k : IntKind) (xs : List Int) : ∀ u ∈ ints k xs, u.oneCell' = true := by
  intro u hu; simp only [ints, List.mem_map] at hu; obtain ⟨x, _, rfl⟩ := hu; rfl
theorem ints_append (k : IntKind) (xs ys : List Int) : ints k (xs ++ ys) = ints k xs ++ ints k ys := by simp [ints]
theorem ints_get (k : IntKind) (xs : List Int) (i : Nat) : (ints k xs)[i]? = xs[i]?.map (.int k) := by simp [ints]

/-- The slice v reads as the integers xs. -/
theorem Row.int {k : IntKind} {w : World} {v : Value} {xs : List Int} (h : Row w v (ints k xs)) :
    ∃ a b off cap, v = .slice a xs.length cap ∧ xs.length ≤ cap ∧ cap ≤ maxLen ∧ (a = some ⟨b, off, none⟩ ∨ (xs = [] ∧ (a = none → cap = 0))) ∧
      ∀ i x, xs[i]? = some x → w.cell? ⟨b, off + i, none⟩ = some (.int k x) := by
  obtain ⟨a, b, off, cap, hv, hc, hm, ha, _, hcell⟩ := h
  simp only [ints_length] at hv hc
  refine ⟨a, b, off, cap, hv, hc, hm, ?_, fun i x hx => hcell i _ (by rw [ints_get, hx]; rfl)⟩
  rcases ha with h | ⟨h, h'⟩
  · exact .inl h
  · exact .inr ⟨by simpa [ints] using h, h'⟩

theorem Row.sub {w : World} {v : Value} {cs : List Value} (h : Row w v cs) (a : Option Addr) (cap : Nat) (hv : v = .slice a cs.length cap) (l hh : Nat) (h1 : l ≤ hh) (h2 : hh ≤ cs.length) :
    Row w (sliced a l hh cap 1) ((cs.take hh).drop l) := by
  obtain ⟨a', b, off, cap', hv', hc, hm, ha, hone, hcell⟩ := h
  rw [hv] at hv'
  simp only [Value.slice.injEq] at hv'
  obtain ⟨rfl, _, rfl⟩ := hv'
  have hlen : ((cs.take hh).drop l).length = hh - l := by simp; omega
  have hone' : ∀ u ∈ (cs.take hh).drop l, u.oneCell' = true := fun u hu => hone u (List.mem_of_mem_take (List.mem_of_mem_drop hu))
  have hget : ∀ i u, ((cs.take hh).drop l)[i]? = some u → cs[l + i]? = some u := by
    intro i u hu
    rw [List.getElem?_drop, List.getElem?_take] at hu
    split at hu
    · exact hu
    · cases hu
  unfold sliced
  by_cases hcl : cap = l
  · rw [if_pos hcl]
    have h0 : hh - l = 0 := by omega
    have hnil : (cs.take hh).drop l = [] := List.eq_nil_of_length_eq_zero (by omega)
    refine ⟨a, b, off, cap - l, by rw [hlen], by omega, by omega, ?_, hone', fun i u hu => by rw [hnil] at hu; simp at hu⟩
    rcases ha with rfl | ⟨hn, hz⟩
    · exact .inl rfl
    · exact .inr ⟨hnil, fun hh => by omega⟩
  · rw [if_neg hcl]
    refine ⟨_, b, off + l, cap - l, by rw [hlen], by omega, by omega, ?_, hone', fun i u hu => ?_⟩
    · rcases ha with rfl | ⟨rfl, hz⟩
      · exact .inl (by simp [addr_add])
      · refine .inr ⟨by simp, fun hn => ?_⟩
        have : a = none := by simpa using hn
        have := hz this
        omega
    · have := hcell (l + i) u (hget i u hu)
      rwa [Nat.add_assoc]

section
variable {P : Program} {w : World} {ops : Array Oper} {rest : List Oper} {o : Oper} {a : Act} {Q : Exit → Act → World → Prop} {t E : TypeId} (hT : SlT P t E)
include hT
theorem SlT.run : P.underlying t = some (.slice (P.elem t)) ∧ ∀ w : World, (sizeOf (P.elem t)).run P w = .ok 1 w := by
  obtain ⟨ht, i, z, hi, hz, hsize, hby, hzs⟩ := hT
  have he : P.elem t = E := by simp [Program.elem, ht]
  exact ⟨by rw [he]; exact ht, fun w => by rw [he]; simp [sizeOf, typeInfo, hi, hsize]⟩

/-- x[l:] -/
theorem wpList_slL (x l : Operand) (hg : Region.wanted o (yielded ops a.tmps) = true) (ho : o.op = .slice t x (some l) none none)
    {v : Value} {cs : List Value} {kl : IntKind} {k : Int} (hx : a.eval x = v) (hl : a.eval l = .int kl k) (hrow : Row w v cs) (h0 : 0 ≤ k) (h1 : k ≤ cs.length)
    (h : ∀ v', (∀ w' : World, Row w' v cs → Row w' v' (cs.drop k.toNat)) → wpList P ops Q rest (a.put o.dst v') w) : wpList P ops Q (o :: rest) a w := by
  obtain ⟨ht, hs⟩ := SlT.run hT
  obtain ⟨aa, b, off, cap, hv, hc, _⟩ := id hrow
  have := h _ (fun w' hr => by
    have hsub := Row.sub hr aa cap hv k.toNat cs.length (by omega) (Nat.le_refl _)
    rw [List.take_length] at hsub; exact hsub)
  refine wpList_wanted hg ?_
  unfold Oper.wp
  simp only [execOp, ho, Option.map_some, Option.map_none, hx, hl, hv]
  simp [run_sliceAt_slice w t _ _ _ _ ht, run_slice_l w t aa cs.length cap ht kl k h0 (by omega), hs, Result.andThen]
  exact this

/-- x[:h] -/
theorem wpList_slH (x l : Operand) (hg : Region.wanted o (yielded ops a.tmps) = true) (ho : o.op = .slice t x none (some l) none)
    {v : Value} {cs : List Value} {kl : IntKind} {k : Int} (hx : a.eval x = v) (hl : a.eval l = .int kl k) (hrow : Row w v cs) (h0 : 0 ≤ k) (h1 : k ≤ cs.length)
    (h : ∀ v', (∀ w' : World, Row w' v cs → Row w' v' (cs.take k.toNat)) → wpList P ops Q rest (a.put o.dst v') w) : wpList P ops Q (o :: rest) a w := by
  obtain ⟨ht, hs⟩ := SlT.run hT
  obtain ⟨aa, b, off, cap, hv, hc, _⟩ := id hrow
  have := h _ (fun w' hr => by
    have hsub := Row.sub hr aa cap hv 0 k.toNat (Nat.zero_le _) (by omega)
    rw [List.drop_zero] at hsub; exact hsub)
  refine wpList_wanted hg ?_
  unfold Oper.wp
  simp only [execOp, ho, Option.map_some, Option.map_none, hx, hl, hv]
  simp [run_sliceAt_slice w t _ _ _ _ ht, run_slice_h w t aa cs.length cap ht kl k h0 (by omega), hs, Result.andThen]
  exact this

/-- x[l:h] -/
theorem wpList_slLH (x l hh : Operand) (hg : Region.wanted o (yielded ops a.tmps) = true) (ho : o.op = .slice t x (some l) (some hh) none)
    {v : Value} {cs : List Value} {kl kh : IntKind} {k j : Int} (hx : a.eval x = v) (hl : a.eval l = .int kl k) (hh : a.eval hh = .int kh j) (hrow : Row w v cs) (h0 : 0 ≤ k) (h1 : k ≤ j) (h2 : j ≤ cs.length)
    (h : ∀ v', (∀ w' : World, Row w' v cs → Row w' v' ((cs.take j.toNat).drop k.toNat)) → wpList P ops Q rest (a.put o.dst v') w) : wpList P ops Q (o :: rest) a w := by
  obtain ⟨ht, hs⟩ := SlT.run hT
  obtain ⟨aa, b, off, cap, hv, hc, _⟩ := id hrow
  have := h _ (fun w' hr => Row.sub hr aa cap hv k.toNat j.toNat (by omega) (by omega))
  refine wpList_wanted hg ?_
  unfold Oper.wp
  simp only [execOp, ho, Option.map_some, Option.map_none, hx, hl, hh, hv]
  simp [run_sliceAt_slice w t _ _ _ _ ht, run_slice_lh w t aa cs.length cap ht kl kh k j h0 h1 (by omega), hs, Result.andThen]
  exact this
end

/-- The slice v reads as the integers xs: its form, and each cell, now and later. -/
theorem Row.op {k : IntKind} {w : World} {v : Value} {xs : List Int} (h : Row w v (ints k xs)) :
    ∃ a b off cap, v = .slice a xs.length cap ∧ Hid (∀ i, i < xs.length → ∃ x, Hid (xs[i]? = some x) ∧ a = some ⟨b, off, none⟩ ∧ ∀ w', Below w.heap.size w w' → w'.cell? ⟨b, off + i, none⟩ = some (.int k x)) := by
  obtain ⟨a, b, off, cap, rfl, hc, hm, ha, hcell⟩ := h.int
  refine ⟨a, b, off, cap, rfl, fun i hi => ⟨xs[i], List.getElem?_eq_getElem hi, ?_, fun w' hb => ?_⟩⟩
  · rcases ha with h | ⟨h, _⟩
    · exact h
    · subst h; simp at hi
  · have := hcell i xs[i] (List.getElem?_eq_getElem hi)
    rw [← this]; exact hb.cell (World.block_lt_of_cell? w _ this)

theorem Own.lit {w : World} {E : TypeId} {B : Nat} (cs : List Value) (hone : ∀ u ∈ cs, u.oneCell' = true) (hB : B ≤ w.heap.size) (hl : cs.length ≤ 1000000000) :
    Own B E (w.alloc (.cells cs.toArray E)) (.slice (some ⟨w.heap.size, 0, none⟩) cs.length cs.length) cs :=
  ⟨⟨by simp, .inr ⟨w.heap.size, cs.length, cs.toArray, rfl, hB, heap_alloc_new w _, Nat.le_refl _, by simp only [maxLen]; omega, by simp, by simp⟩⟩, hone⟩
/-- A literal of integers. -/
theorem Own.ilit {w : World} {E : TypeId} {B : Nat} {k : IntKind} (xs : List Int) (cs : List Value) (hx : ints k xs = cs) (hB : B ≤ w.heap.size) (hl : cs.length ≤ 1000000000) :
    Own B E (w.alloc (.cells cs.toArray E)) (.slice (some ⟨w.heap.size, 0, none⟩) cs.length cs.length) (ints k xs) := by
  subst hx; exact Own.lit _ (ints_one _ _) hB hl
theorem Row.lit {w : World} {E : TypeId} (cs : List Value) (hone : ∀ u ∈ cs, u.oneCell' = true) (hl : cs.length ≤ 1000000000) :
    Row (w.alloc (.cells cs.toArray E)) (.slice (some ⟨w.heap.size, 0, none⟩) cs.length cs.length) cs := (Own.lit (B := 0) cs hone (Nat.zero_le _) hl).row
theorem Row.ilit {w : World} {E : TypeId} {k : IntKind} (xs : List Int) (cs : List Value) (hx : ints k xs = cs) (hl : cs.length ≤ 1000000000) :
    Row (w.alloc (.cells cs.toArray E)) (.slice (some ⟨w.heap.size, 0, none⟩) cs.length cs.length) (ints k xs) := (Own.ilit (B := 0) xs cs hx (Nat.zero_le _) hl).row
theorem below_alloc (w : World) (o : Obj) : Below w.heap.size w (w.alloc o) := (Below.refl _ _).alloc (Nat.le_refl _) o
theorem ret_val {a b : Value} (h : a = b) : Ending.returned a = .returned b := by rw [h]

theorem iv {k : IntKind} {a b : Int} (h : a = b) : Value.int k a = Value.int k b := by rw [h]
theorem bv {a b : Bool} (h : a = b) : Value.bool a = Value.bool b := by rw [h]
theorem ret2 {a a' b b' : Value} (h1 : a = a') (h2 : b = b') : Ending.returned (.tuple #[a, b]) = .returned (.tuple #[a', b']) := by rw [h1, h2]
theorem ret3 {a a' b b' c c' : Value} (h1 : a = a') (h2 : b = b') (h3 : c = c') : Ending.returned (.tuple #[a, b, c]) = .returned (.tuple #[a', b', c']) := by rw [h1, h2, h3]

/-- The length in a slot: for a loop's measure. -/
def lenOf : Value → Nat | .slice _ n _ => n | _ => 0
theorem Row.len {w : World} {v : Value} {cs : List Value} (h : Row w v cs) : lenOf v = cs.length := by
  obtain ⟨a, b, off, cap, rfl, _⟩ := h; rfl
theorem ints_drop (k : IntKind) (xs : List Int) (n : Nat) : (ints k xs).drop n = ints k (xs.drop n) := by simp [ints]
theorem ints_take (k : IntKind) (xs : List Int) (n : Nat) : (ints k xs).take n = ints k (xs.take n) := by simp [ints]

theorem below_app {E : TypeId} {w wr w1 w2 : World} {v : Value} {cs : List Value} (hb : Below w.heap.size w wr) (hb1 : Below wr.heap.size wr w1) (hown : Own w.heap.size E w1 v cs) (hg : w1.grownBy w2 v.ownBlock) : Below w.heap.size w w2 :=
  below_own (hb.trans (hb1.mono hb.size)) hown hg (Nat.le_trans hb.size hb1.size) (Nat.le_refl _)
theorem below_size2 {w wr w1 : World} (hb : Below w.heap.size w wr) (hb1 : Below wr.heap.size wr w1) : w.heap.size ≤ w1.heap.size := Nat.le_trans hb.size hb1.size
theorem below_trans {w wr w1 : World} (hb : Below w.heap.size w wr) (hb1 : Below wr.heap.size wr w1) : Below w.heap.size w w1 := hb.trans (hb1.mono hb.size)

/-- All fit their kind. -/
def WF (k : IntKind) (xs : List Int) : Prop := ∀ x ∈ xs, (Lit.int k x).wf = true
theorem Row.ofIs {k : IntKind} {w : World} {a : Option Addr} {len cap : Nat} {zs : List Int}
    (h : (a = none ∧ len = 0 ∧ cap = 0 ∧ zs = []) ∨
      ∃ x, a = some x ∧ len ≤ cap ∧ cap ≤ maxLen ∧ zs.length = cap ∧ (∀ i, i < zs.length → w.cell? (x.add i) = some (.int k (zs.getD i 0))) ∧ ∀ n ∈ zs, (Lit.int k n).wf = true) :
    ∃ xs, Row w (.slice a len cap) (ints k xs) ∧ WF k xs := by
  rcases h with ⟨rfl, rfl, rfl, rfl⟩ | ⟨x, rfl, hl, hm, hz, hcell, hwf⟩
  · exact ⟨[], Row.nil w, fun x hx => by simp at hx⟩
  · have hlen : (ints k (zs.take len)).length = len := by simp [ints]; omega
    refine ⟨zs.take len, ?_, fun y hy => hwf y (List.mem_of_mem_take hy)⟩
    by_cases hc0 : cap = 0
    · obtain rfl : len = 0 := by omega
      exact ⟨some x, 0, 0, cap, by rw [hlen], by omega, hm, .inr ⟨by simp [ints], fun h => by cases h⟩, ints_one _ _, fun i u hu => by simp [ints] at hu⟩
    · obtain ⟨b, off, spot⟩ := x
      have h0 := hcell 0 (by omega)
      have hspot : spot = none := by simpa [Addr.add] using World.cell?_spot h0
      subst hspot
      refine ⟨some ⟨b, off, none⟩, b, off, cap, by rw [hlen], by omega, hm, .inl rfl, ints_one _ _, fun i u hu => ?_⟩
      rw [ints_get, List.getElem?_take] at hu
      split at hu
      · rename_i hi
        have := hcell i (by omega)
        rw [addr_add] at this
        rw [this]
        rw [List.getElem?_eq_getElem (by omega : i < zs.length)] at hu
        simp only [Option.map_some, Option.some.injEq] at hu
        rw [← hu]
        simp [List.getD, List.getElem?_eq_getElem (by omega : i < zs.length)]
      · simp at hu
theorem wf_u8 {x : Int} (h : (Lit.int .u8 x).wf = true) : 0 ≤ x ∧ x < 256 := by simp [Lit.wf, IntKind.min, IntKind.max, IntKind.bits, IntKind.signed] at h; omega
theorem wf_u16 {x : Int} (h : (Lit.int .u16 x).wf = true) : 0 ≤ x ∧ x < 65536 := by simp [Lit.wf, IntKind.min, IntKind.max, IntKind.bits, IntKind.signed] at h; omega
theorem wf_i32 {x : Int} (h : (Lit.int .i32 x).wf = true) : -2147483648 ≤ x ∧ x ≤ 2147483647 := by simp [Lit.wf, IntKind.min, IntKind.max, IntKind.bits, IntKind.signed] at h; omega
theorem wf_i64 {x : Int} (h : (Lit.int .i64 x).wf = true) : -9223372036854775808 ≤ x ∧ x ≤ 9223372036854775807 := by simp [Lit.wf, IntKind.min, IntKind.max, IntKind.bits, IntKind.signed] at h; omega
end Go.Proofs.YtnoffalohplhnaaDoor
