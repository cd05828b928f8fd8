/- The toolkit, more: stores into a slice of records of two cells that the call made; an append of any of them. (laid together by program out of single texts). -/
import Derived.Laws.IdiomCopy
import Derived.Lib.SliceRun
import Derived.Test.YtoliaphiipkopaaDoorM1
import Derived.Test.YtoliaphiipkopaaDoorM13
namespace Go.Proofs.YtoliaphiipkopaaDoor
open Go.RowKit
theorem flat2_set : ∀ (l : List (Value × Value)) (i : Nat) (p : Value × Value), i < l.length → flat2 (l.set i p) = ((flat2 l).set (i * 2) p.1).set (i * 2 + 1) p.2
  | [], i, p, h => by simp at h
  | q :: l, 0, p, _ => rfl
  | q :: l, i + 1, p, h => by
    have ih := flat2_set l i p (by simpa using h)
    rw [List.set_cons_succ, flat2_cons, flat2_cons, ih, show (i + 1) * 2 = i * 2 + 1 + 1 by omega]
    rfl
theorem flat2_take (l : List (Value × Value)) : ∀ (k : Nat), flat2 (l.take k) = (flat2 l).take (k * 2) := by
  induction l with
  | nil => intro k; simp [flat2]
  | cons p l ih =>
    intro k
    cases k with
    | zero => rfl
    | succ k =>
      rw [List.take_succ_cons, flat2_cons, flat2_cons, ih k, show (k + 1) * 2 = k * 2 + 1 + 1 by omega]
      rfl
theorem flat2_drop (l : List (Value × Value)) : ∀ (k : Nat), flat2 (l.drop k) = (flat2 l).drop (k * 2) := by
  induction l with
  | nil => intro k; simp [flat2]
  | cons p l ih =>
    intro k
    cases k with
    | zero => rfl
    | succ k =>
      rw [List.drop_succ_cons, flat2_cons, ih k, show (k + 1) * 2 = k * 2 + 1 + 1 by omega]
      rfl
section
variable {B g n cap : Nat} {E : TypeId} {w : World} {l : List (Value × Value)}
theorem Own2.len (h : Own2 B E w (.slice (some ⟨g, 0, none⟩) n cap) l) : n = l.length := by
  obtain ⟨_, _, _, _, hv, _⟩ := h.row
  simp only [Value.slice.injEq] at hv; exact hv.2.1
theorem Own2.cellAt (h : Own2 B E w (.slice (some ⟨g, 0, none⟩) n cap) l) {j : Nat} {u : Value} (hu : (flat2 l)[j]? = some u) : w.cell? ⟨g, j, none⟩ = some u := by
  obtain rfl := h.len
  rw [h.1.cellAt j (by have := (List.getElem?_eq_some_iff.1 hu).1; rw [flat2_len] at this; exact this), hu]
theorem Own2.frozen (h : Own2 B E w (.slice (some ⟨g, 0, none⟩) n cap) l) (j : Nat) : w.frozen? ⟨g, j, none⟩ = false := by
  obtain rfl := h.len
  exact h.1.frozenAt j
theorem Own2.glt (h : Own2 B E w (.slice (some ⟨g, 0, none⟩) n cap) l) : B ≤ g ∧ g < w.heap.size := h.1.lt g rfl
theorem Own2.put (h : Own2 B E w (.slice (some ⟨g, 0, none⟩) n cap) l) (i : Nat) (hi : i < l.length) (p : Value × Value) (hp : p.1.oneCell' = true ∧ p.2.oneCell' = true) :
    Own2 B E ((w.setCell ⟨g, i * 2, none⟩ p.1).setCell ⟨g, i * 2 + 1, none⟩ p.2) (.slice (some ⟨g, 0, none⟩) n cap) (l.set i p) := by
  obtain rfl := h.len
  have h1 := (h.1.stored (i * 2) p.1).1
  have h2 := (h1.stored (i * 2 + 1) p.2).1
  refine ⟨?_, fun u hu => ?_⟩
  · rw [flat2_set l i p hi, List.length_set]; exact h2
  · rw [flat2_set l i p hi] at hu
    rcases List.mem_or_eq_of_mem_set hu with hu | rfl
    · rcases List.mem_or_eq_of_mem_set hu with hu | rfl
      · exact h.2 u hu
      · exact hp.1
    · exact hp.2
theorem Own2.cut (h : Own2 B E w (.slice (some ⟨g, 0, none⟩) n cap) l) (k : Nat) (hk : k ≤ l.length) : Own2 B E w (.slice (some ⟨g, 0, none⟩) k cap) (l.take k) := by
  obtain rfl := h.len
  obtain ⟨⟨hlen, h0⟩, h1⟩ := h
  refine ⟨?_, fun u hu => h1 u (by rw [flat2_take] at hu; exact List.mem_of_mem_take hu)⟩
  rcases h0 with ⟨h9, _⟩ | ⟨g', cap', cur, hv, hb, hg, hn, hm, hs, ht⟩
  · cases h9
  · cases hv
    have e : (l.take k).length = k := by rw [List.length_take]; omega
    rw [e]
    refine ⟨by rw [flat2_len, e], .inr ⟨g, cap, cur, rfl, hb, hg, by omega, hm, hs, ?_⟩⟩
    rw [flat2_take, ← ht, List.take_take, Nat.min_eq_left (by omega)]
end
theorem Own2.cleared {B g n cap : Nat} {E : TypeId} {l : List (Value × Value)} (cs : List Value) : ∀ (o : Nat) (w : World), l.length * 2 ≤ o → Own2 B E w (.slice (some ⟨g, 0, none⟩) n cap) l → Own2 B E (w.setCells g o cs) (.slice (some ⟨g, 0, none⟩) n cap) l := by
  induction cs with
  | nil => intro o w _ h; exact h
  | cons c cs ih =>
    intro o w ho h
    have hl := h.len
    subst hl
    have h1 := (h.1.stored o c).1
    rw [List.set_eq_of_length_le (by rw [flat2_len]; exact ho)] at h1
    exact ih (o + 1) _ (by omega) ⟨h1, h.2⟩
/-- 'clear(s)', s a slice of n > 0 records of two cells: they hold the zero value. -/
theorem run_clear2 {P : Program} (w : World) (t e ty : TypeId) (z : Value) (x y : Value) (ht : P.underlying t = some (.slice e)) (hv : ∀ w, (zeroValue e).run P w = .ok z w) (hz : z.cells = #[x, y]) (h1 : x.oneCell' = true ∧ y.oneCell' = true) (b o n c : Nat) (hn : 0 < n)
    (hc : ∀ j, j < n * 2 → (w.cell? ⟨b, o + j, none⟩).isSome = true) (hf : ∀ j, j < n * 2 → w.frozen? ⟨b, o + j, none⟩ = false) :
    ∃ cs : List Value, (Builtin.clear_ #[t] ty #[.slice (some ⟨b, o, none⟩) n c]).run P w = .ok (.tuple #[]) (w.setCells b o cs) := by
  have hzl : (Builtin.zeroCells z.cells n).toList.length = n * 2 := by rw [hz]; simp [Builtin.zeroCells]
  have hz1 : ∀ v ∈ (Builtin.zeroCells z.cells n).toList, v.oneCell' = true := by
    intro v hv'
    rw [hz] at hv'
    simp only [Builtin.zeroCells, Array.toList_map, List.mem_map] at hv'
    obtain ⟨i, _, rfl⟩ := hv'
    have : i % 2 = 0 ∨ i % 2 = 1 := by omega
    rcases this with h | h
    · show (#[x, y][i % 2]!).oneCell' = true
      rw [h]; exact h1.1
    · show (#[x, y][i % 2]!).oneCell' = true
      rw [h]; exact h1.2
  have hst := run_storeCells_cells (P := P) b o (Builtin.zeroCells z.cells n).toList 0 w (by rw [hzl]; simpa using hc) (by rw [hzl]; simpa using hf) hz1
  simp only [Nat.add_zero] at hst
  obtain ⟨m, rfl⟩ : ∃ m, n = m + 1 := ⟨n - 1, by omega⟩
  exact ⟨(Builtin.zeroCells z.cells (m + 1)).toList, by simp [Builtin.clear_, run_underlying ht, hv, hst]⟩
theorem below_cells {B b : Nat} {a : World} (hb : B ≤ b) : ∀ (vs : List Value) (o : Nat) (w : World), Below B a w → Below B a (w.setCells b o vs)
  | [], _, _, h => h
  | v :: vs, o, _, h => below_cells hb vs (o + 1) _ (h.setCell hb v)
/-- An append of any records. -/
theorem wp_app2z {P : Program} {w : World} {o : Oper} {a : Act} {K : Act → World → Prop} {Q : Exit → Act → World → Prop} {t E : TypeId} (hT : SlT2 P t E) (B : Nat)
    (s x : Operand) (ho : o.op = .call { callee := .builtin .append, args := #[s, x], argTypes := #[t, t] })
    {v v2 : Value} (hs : a.eval s = v) (hx : a.eval x = v2) {l m : List (Value × Value)} (hown : Own2 B E w v l) (hrow : Row2 w v2 m) (hb : l.length + m.length ≤ 1000000000) (hB : B ≤ w.heap.size)
    (h : ∀ v' w', Own2 B E w' v' (l ++ m) → w.grownBy w' v.ownBlock → K (a.put o.dst v') w') : o.wp P a w K Q := by
  obtain ⟨a2, b2, off2, cap2, rfl, hc2, hm2, ha2, h12, hcell2⟩ := id hrow
  obtain ⟨ht, i, z, hi, hz, hsize, hby, hzs⟩ := hT
  rcases ha2 with rfl | ⟨rfl, hnil⟩
  · have hnews : ∀ j u, (flat2 m)[j]? = some u → w.cell? ((⟨b2, off2, none⟩ : Addr).add j) = some u := by
      intro j u hu
      rw [addr_add]; exact hcell2 j u hu
    have h3 : (l.length + m.length) * i.bytes ≤ 1000000000 * 64 := Nat.mul_le_mul hb hby
    exact wp_append_own w s x t ho B E i z 2 i.bytes ht hi hz hsize rfl hzs (by omega) v l.length (flat2 l) hs hown.1 ⟨b2, off2, none⟩ m.length cap2 (flat2 m) (by simpa using hx) (flat2_len m) hnews h12
      (by simp only [maxLen]; omega) (by omega) hB
      (fun v' w' h5 h6 _ => h v' w' ⟨by rw [List.length_append, flat2_app]; exact h5, by
        intro u hu
        rw [flat2_app] at hu
        rcases List.mem_append.1 hu with hu | hu
        · exact hown.2 u hu
        · exact h12 u hu⟩ h6)
  · cases a2 with
    | none =>
      obtain rfl := hnil rfl
      have hrun := run_append_owned_none (P := P) (w := w) B t o.type E i 2 ht hi v l.length (flat2 l) hown.1
      unfold Oper.wp
      simp [execOp, ho, resolve, invoke, builtin, hs, hx, hrun, Result.andThen]
      exact h v w (by simpa using hown) ⟨rfl, rfl, rfl, Nat.le_refl _, fun _ _ _ => rfl⟩
    | some ad =>
      exact wp_append_own w s x t ho B E i z 2 i.bytes ht hi hz hsize rfl hzs (by omega) v l.length (flat2 l) hs hown.1 ad 0 cap2 [] (by simpa using hx) (by simp) (by simp) (by simp)
        (by simp only [maxLen]; simp at hb; omega) (by have : l.length * i.bytes ≤ 1000000000 * 64 := Nat.mul_le_mul (by simp at hb; omega) hby; simpa using (by omega : l.length * i.bytes ≤ _)) hB
        (fun v' w' h5 h6 _ => h v' w' ⟨by simpa using h5, by simpa using hown.2⟩ h6)
theorem wpList_app2z {P : Program} {w : World} {ops : Array Oper} {rest : List Oper} {o : Oper} {a : Act} {Q : Exit → Act → World → Prop} {t E : TypeId} (hT : SlT2 P t E) (B : Nat)
    (s x : Operand) (hg : Region.wanted o (yielded ops a.tmps) = true) (ho : o.op = .call { callee := .builtin .append, args := #[s, x], argTypes := #[t, t] })
    {v v2 : Value} (hs : a.eval s = v) (hx : a.eval x = v2) {l m : List (Value × Value)} (hown : Own2 B E w v l) (hrow : Row2 w v2 m) (hb : l.length + m.length ≤ 1000000000) (hB : B ≤ w.heap.size)
    (h : ∀ v' w', Own2 B E w' v' (l ++ m) → w.grownBy w' v.ownBlock → wpList P ops Q rest (a.put o.dst v') w') : wpList P ops Q (o :: rest) a w :=
  wpList_wanted hg (wp_app2z hT B s x ho hs hx hown hrow hb hB h)
/-- The same at a step of a region that draws its order. -/
theorem step_app2z {P : Program} {w : World} {ops : Array Oper} {o : Oper} {a : Act} {K : Act → World → Prop} {Q : Exit → Act → World → Prop} {F : Prop} {t E : TypeId} (hT : SlT2 P t E) (B : Nat)
    (s x : Operand) (hg : Region.wanted o (yielded ops a.tmps) = true) (ho : o.op = .call { callee := .builtin .append, args := #[s, x], argTypes := #[t, t] })
    {v v2 : Value} (hs : a.eval s = v) (hx : a.eval x = v2) {l m : List (Value × Value)} (hown : Own2 B E w v l) (hrow : Row2 w v2 m) (hb : l.length + m.length ≤ 1000000000) (hB : B ≤ w.heap.size)
    (h : ∀ v' w', Own2 B E w' v' (l ++ m) → w.grownBy w' v.ownBlock → K (a.put o.dst v') w') : if Region.wanted o (yielded ops a.tmps) = true then Oper.wp P o a w K Q else F := by
  rw [if_pos hg]; exact wp_app2z hT B s x ho hs hx hown hrow hb hB h
theorem Row2.sub {w : World} {v : Value} {ps : List (Value × Value)} (h : Row2 w v ps) (a : Option Addr) (cap : Nat) (hv : v = .slice a ps.length cap) (l hh : Nat) (h1 : l ≤ hh) (h2 : hh ≤ ps.length) :
    Row2 w (sliced a l hh cap 2) ((ps.take hh).drop l) := by
  obtain ⟨a', b, off, cap', hv', hc, hm, ha, hone, hcell⟩ := h
  rw [hv] at hv'
  simp only [Value.slice.injEq] at hv'
  obtain ⟨rfl, _, rfl⟩ := hv'
  have hlen : ((ps.take hh).drop l).length = hh - l := by simp; omega
  have hfl : flat2 ((ps.take hh).drop l) = ((flat2 ps).take (hh * 2)).drop (l * 2) := by rw [flat2_drop, flat2_take]
  have hone' : ∀ u ∈ flat2 ((ps.take hh).drop l), u.oneCell' = true := fun u hu => hone u (by rw [hfl] at hu; exact List.mem_of_mem_take (List.mem_of_mem_drop hu))
  have hget : ∀ i u, (flat2 ((ps.take hh).drop l))[i]? = some u → (flat2 ps)[l * 2 + i]? = some u := by
    intro i u hu
    rw [hfl, List.getElem?_drop, List.getElem?_take] at hu
    split at hu
    · exact hu
    · cases hu
  unfold sliced
  by_cases hcl : cap = l
  · rw [if_pos hcl]
    have h0 : hh - l = 0 := by omega
    have hnil : (ps.take hh).drop l = [] := List.eq_nil_of_length_eq_zero (by omega)
    refine ⟨a, b, off, cap - l, by rw [hlen], by omega, by omega, ?_, hone', fun i u hu => by rw [hnil] at hu; simp [flat2] at hu⟩
    rcases ha with rfl | ⟨hn, hz⟩
    · exact .inl rfl
    · exact .inr ⟨hnil, fun hh => by omega⟩
  · rw [if_neg hcl]
    refine ⟨_, b, off + l * 2, cap - l, by rw [hlen], by omega, by omega, ?_, hone', fun i u hu => ?_⟩
    · rcases ha with rfl | ⟨rfl, hz⟩
      · exact .inl (by simp [addr_add])
      · refine .inr ⟨by simp, fun hn => ?_⟩
        have : a = none := by simpa using hn
        have := hz this
        omega
    · have := hcell (l * 2 + i) u (hget i u hu)
      rwa [Nat.add_assoc]
section
variable {P : Program} {w : World} {ops : Array Oper} {rest : List Oper} {o : Oper} {a : Act} {Q : Exit → Act → World → Prop} {t E : TypeId} (hT : SlT2 P t E)
include hT
theorem SlT2.run : P.underlying t = some (.slice (P.elem t)) ∧ ∀ w : World, (sizeOf (P.elem t)).run P w = .ok 2 w := by
  obtain ⟨ht, i, z, hi, hz, hsize, hby, hzs⟩ := hT
  have he : P.elem t = E := by simp [Program.elem, ht]
  exact ⟨by rw [he]; exact ht, fun w => by rw [he]; simp [sizeOf, typeInfo, hi, hsize]⟩
/-- x[l:], records of two cells -/
theorem wpList_slL2 (x l : Operand) (hg : Region.wanted o (yielded ops a.tmps) = true) (ho : o.op = .slice t x (some l) none none)
    {v : Value} {cs : List (Value × Value)} {kl : IntKind} {k : Int} (hx : a.eval x = v) (hl : a.eval l = .int kl k) (hrow : Row2 w v cs) (h0 : 0 ≤ k) (h1 : k ≤ cs.length)
    (h : ∀ v', (∀ w' : World, Row2 w' v cs → Row2 w' v' (cs.drop k.toNat)) → wpList P ops Q rest (a.put o.dst v') w) : wpList P ops Q (o :: rest) a w := by
  obtain ⟨ht, hs⟩ := SlT2.run hT
  obtain ⟨aa, b, off, cap, hv, hc, _⟩ := id hrow
  have := h _ (fun w' hr => by
    have hsub := Row2.sub hr aa cap hv k.toNat cs.length (by omega) (Nat.le_refl _)
    rw [List.take_length] at hsub; exact hsub)
  refine wpList_wanted hg ?_
  unfold Oper.wp
  simp only [execOp, ho, Option.map_some, Option.map_none, hx, hl, hv]
  simp [run_sliceAt_slice w t _ _ _ _ ht, run_slice_l w t aa cs.length cap ht kl k h0 (by omega), hs, Result.andThen]
  exact this
/-- x[:h], records of two cells -/
theorem wpList_slH2 (x l : Operand) (hg : Region.wanted o (yielded ops a.tmps) = true) (ho : o.op = .slice t x none (some l) none)
    {v : Value} {cs : List (Value × Value)} {kl : IntKind} {k : Int} (hx : a.eval x = v) (hl : a.eval l = .int kl k) (hrow : Row2 w v cs) (h0 : 0 ≤ k) (h1 : k ≤ cs.length)
    (h : ∀ v', (∀ w' : World, Row2 w' v cs → Row2 w' v' (cs.take k.toNat)) → wpList P ops Q rest (a.put o.dst v') w) : wpList P ops Q (o :: rest) a w := by
  obtain ⟨ht, hs⟩ := SlT2.run hT
  obtain ⟨aa, b, off, cap, hv, hc, _⟩ := id hrow
  have := h _ (fun w' hr => by
    have hsub := Row2.sub hr aa cap hv 0 k.toNat (Nat.zero_le _) (by omega)
    rw [List.drop_zero] at hsub; exact hsub)
  refine wpList_wanted hg ?_
  unfold Oper.wp
  simp only [execOp, ho, Option.map_some, Option.map_none, hx, hl, hv]
  simp [run_sliceAt_slice w t _ _ _ _ ht, run_slice_h w t aa cs.length cap ht kl k h0 (by omega), hs, Result.andThen]
  exact this
end
end Go.Proofs.YtoliaphiipkopaaDoor
