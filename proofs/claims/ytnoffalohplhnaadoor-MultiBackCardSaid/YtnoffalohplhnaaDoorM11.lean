/- The toolkit, more: a whole array stored into the block made for it. (laid together by program out of single texts). -/
import Derived.Deep.MidRow
import Derived.Lib.SlBytesConst
import Derived.Test.YtnoffalohplhnaaDoorM4
namespace Go.Proofs.YtnoffalohplhnaaDoor
open Go.RowKit

theorem setCells_new (w : World) (ty : TypeId) : ∀ (vs done Z : List Value), Z.length = vs.length →
    (w.alloc (.cells (done ++ Z).toArray ty)).setCells w.heap.size done.length vs = w.alloc (.cells (done ++ vs).toArray ty)
  | [], done, Z, h => by obtain rfl : Z = [] := List.eq_nil_of_length_eq_zero h; rfl
  | v :: vs, done, [], h => by simp at h
  | v :: vs, done, z :: Z, h => by
    rw [World.setCells, World.setCell_alloc_at _ _ _ _ _ rfl]
    have hs : (done ++ z :: Z).toArray.setIfInBounds done.length v = ((done ++ [v]) ++ Z).toArray := by
      simp
    rw [hs]
    have := setCells_new w ty vs (done ++ [v]) Z (by simpa using h)
    simp only [List.length_append, List.length_cons, List.length_nil] at this
    rw [this]
    simp
theorem wpList_store_new {P : Program} {w : World} {ops : Array Oper} {rest : List Oper} {o : Oper} {a : Act} {Q : Exit → Act → World → Prop} (hgd : o.guard = none) (ty ty' : TypeId) (x y : Operand) (ho : o.op = .store ty x y)
    (cs Z : List Value) (hx : a.eval x = .pointer (some ⟨w.heap.size, 0, none⟩)) (hy : a.eval y = .agg cs.toArray) (hi : (P.info? ty).map (·.size) = some cs.length) (h1 : ∀ u ∈ cs, u.oneCell' = true) (hz : Z.length = cs.length)
    (h : wpList P ops Q rest (a.put o.dst undef) (w.alloc (.cells cs.toArray ty'))) : wpList P ops Q (o :: rest) a (w.alloc (.cells Z.toArray ty')) := by
  refine wpList_store_mid hgd ty x y ho w.heap.size 0 cs.toArray hx hy ?_ (by simpa using hi) (all_oneCell_toArray h1) ?_
  · intro j hj
    have hj' : j < Z.length := by simp at hj; omega
    have hc := cell_of_row (w.alloc (.cells Z.toArray ty')) w.heap.size (0 + j) Z.toArray ty' (0, 0) (heap_alloc_new w _)
    refine ⟨by rw [hc]; simp [List.getElem?_eq_getElem hj'], ?_⟩
    unfold World.frozen?
    rw [heap_alloc_new w _]
    simp
  · have := setCells_new w ty' cs [] Z hz
    simp only [List.nil_append, List.length_nil] at this
    rw [show cs.toArray.toList = cs by simp, this]
    exact h

/-- An array or a struct made whole. -/
theorem wpList_build {P : Program} {w : World} {ops : Array Oper} {rest : List Oper} {o : Oper} {a : Act} {Q : Exit → Act → World → Prop} (hg : Region.wanted o (yielded ops a.tmps) = true) (t : TypeId) (parts : Array (Nat × Operand)) (_ho : o.op = .build t parts)
    (v : Value) (hr : (execOp a.eval o).run P w = .ok (.value v) w) (h : wpList P ops Q rest (a.put o.dst v) w) : wpList P ops Q (o :: rest) a w := by
  refine wpList_wanted hg ?_
  unfold Oper.wp
  rw [hr]
  exact h

/-- A long slice literal. -/
theorem wpList_bslice {P : Program} {w : World} {ops : Array Oper} {rest : List Oper} {o : Oper} {a : Act} {Q : Exit → Act → World → Prop} (hg : Region.wanted o (yielded ops a.tmps) = true) (t : TypeId) (n : Nat) (parts : Array (Nat × Operand)) (_ho : o.op = .buildSlice t n parts)
    (cs : List Value) (E : TypeId) (m : Nat) (_hm : cs.length = m) (hr : (execOp a.eval o).run P w = .ok (.value (.slice (some ⟨w.heap.size, 0, none⟩) m m)) (w.alloc (.cells cs.toArray E)))
    (h : wpList P ops Q rest (a.put o.dst (.slice (some ⟨w.heap.size, 0, none⟩) m m)) (w.alloc (.cells cs.toArray E))) : wpList P ops Q (o :: rest) a w := by
  refine wpList_wanted hg ?_
  unfold Oper.wp
  rw [hr]
  exact h
theorem hidC {k : IntKind} {w : World} {g n cap : Nat} {xs : List Int} (h : Row w (.slice (some ⟨g, 0, none⟩) n cap) (ints k xs)) (i : Nat) (hi : i < xs.length) {x : Int} (hx : Hid (xs[i]? = some x)) :
    Hid (w.cell? ⟨g, i, none⟩ = some (.int k x)) := by
  obtain ⟨a, b, off, cap', hv, HC⟩ := h.op
  simp only [Value.slice.injEq] at hv
  obtain ⟨hv, _⟩ := hv
  subst hv
  obtain ⟨y, hy, he, hc⟩ := HC.out i hi
  simp only [Option.some.injEq, Addr.mk.injEq, and_true] at he
  obtain ⟨rfl, rfl⟩ := he
  have e := hy.out
  rw [hx.out] at e
  obtain rfl := Option.some.inj e
  have := hc w (Below.refl _ _)
  rwa [Nat.zero_add] at this

/-- make([]T, 0, n). -/
theorem wpList_mk {P : Program} {w : World} {ops : Array Oper} {rest : List Oper} {o : Oper} {a : Act} {Q : Exit → Act → World → Prop} {t E : TypeId} (hT : SlT P t E) (B : Nat) (l c : Operand)
    (hg : Region.wanted o (yielded ops a.tmps) = true) (ho : o.op = .makeSlice t l c) {kl kc : IntKind} {n : Nat} (hl : a.eval l = .int kl 0) (hc : a.eval c = .int kc n) (hn : n ≤ 1000000000) (hB : B ≤ w.heap.size)
    (h : ∀ v' w', Own B E w' v' [] → Below w.heap.size w w' → wpList P ops Q rest (a.put o.dst v') w') : wpList P ops Q (o :: rest) a w := by
  obtain ⟨ht, i, z, hi, hz, hsize, hby, hzs⟩ := hT
  have h3 : i.bytes * n ≤ 64 * 1000000000 := Nat.mul_le_mul hby hn
  obtain ⟨w', hr, hown, hgr⟩ := run_make_own (P := P) w B t E i z 1 ht hi hz hsize kl kc n (by omega) (by simp only [maxLen]; omega) hB
  refine wpList_wanted hg ?_
  unfold Oper.wp
  simp [execOp, ho, hl, hc, hr, Result.andThen]
  exact h _ w' ⟨hown, by simp⟩ ⟨hgr.os, hgr.tape, hgr.output, hgr.size, fun k hk => hgr.block k hk (by simp)⟩

theorem quiet_same {P : Program} {f : FuncId} {args : Array Value} {w : World} {n : Nat} {v : Value}
    (h : Calls P f args (w.drewN n) fun e w' => e = .returned v ∧ w.drewN n = w') : Calls P f args (w.drewN n) fun e w'' => e = .returned v ∧ ∃ m, w'' = w.drewN m :=
  h.mono fun _ _ ⟨he, hm⟩ => ⟨he, n, hm.symm⟩

/-- A literal whose end bears a mark (the bytes of a constant string). -/
theorem Row.flit {w : World} {E : TypeId} {k : IntKind} {f : Nat × Nat} (xs : List Int) (cs : List Value) (hx : ints k xs = cs) (hl : cs.length ≤ 1000000000) :
    Row (w.alloc (.cells cs.toArray E f)) (.slice (some ⟨w.heap.size, 0, none⟩) cs.length cs.length) (ints k xs) := by
  subst hx
  refine ⟨_, w.heap.size, 0, (ints k xs).length, rfl, Nat.le_refl _, by simp only [maxLen]; omega, .inl rfl, ints_one _ _, fun i u hu => ?_⟩
  rw [cell_of_row (w.alloc (.cells (ints k xs).toArray E f)) w.heap.size (0 + i) (ints k xs).toArray E f (heap_alloc_new w _)]
  simpa using hu
end Go.Proofs.YtnoffalohplhnaaDoor
