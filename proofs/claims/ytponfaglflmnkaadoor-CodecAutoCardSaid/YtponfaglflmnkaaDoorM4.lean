/- Toolkit: a slice that lies apart from the one that is appended to; append, and where the new slice lies. · Toolkit: writing into a row that the call owns. · Walks: bytes.Equal, bytes.HasPrefix, bytes.Clone. · Toolkit: a slice made with its length; rows that are filled from the front. · Walks: latin nine and latin one, with what they give. (laid together by program out of single texts). -/
import Derived.Deep.AppendLies
import Derived.Laws.OwnMore
import Derived.Lib.SlBytesConst
import Derived.Deep.OwnRows
import Derived.Test.YtponfaglflmnkaaDoorM1
import Derived.Test.YtponfaglflmnkaaDoorM3
namespace Go.Proofs.YtponfaglflmnkaaDoor
open Go.RowKit
/-- r reads as ds, and lies apart from what v owns. -/
def Free (w : World) (v r : Value) (ds : List Value) : Prop := Row w r ds ∧ (ds = [] ∨ ∃ g, r.ownBlock = some g ∧ g < w.heap.size ∧ v.ownBlock ≠ some g)
theorem Free.row {w : World} {v r : Value} {ds : List Value} (h : Free w v r ds) : Row w r ds := h.1
theorem Own.blk {B : Nat} {E : TypeId} {w : World} {v : Value} {cs : List Value} (h : Own B E w v cs) : ∀ g, v.ownBlock = some g → g < w.heap.size := fun g hg => (h.1.lt g hg).2
theorem Free.of_own {B : Nat} {E : TypeId} {w : World} {v r : Value} {ds : List Value} (h : Own B E w r ds) (hv : ∀ g, v.ownBlock = some g → g < B) : Free w v r ds := by
  refine ⟨h.row, ?_⟩
  rcases h.1.2 with ⟨_, h0⟩ | ⟨g, cap, cur, hr, hb, hg, _⟩
  · exact .inl (List.eq_nil_of_length_eq_zero h0)
  · have hr' : r.ownBlock = some g := by rw [hr]; rfl
    exact .inr ⟨g, hr', (h.1.lt g hr').2, fun h9 => by have := hv g h9; omega⟩
theorem Free.below {w w' : World} {v r : Value} {ds : List Value} (h : Free w v r ds) (hb : Below w.heap.size w w') : Free w' v r ds := by
  refine ⟨h.1.below hb, ?_⟩
  rcases h.2 with h0 | ⟨g, h1, h2, h3⟩
  · exact .inl h0
  · exact .inr ⟨g, h1, Nat.lt_of_lt_of_le h2 hb.size, h3⟩
theorem Free.alloc {w : World} {v r : Value} {ds : List Value} (h : Free w v r ds) (o : Obj) : Free (w.alloc o) v r ds := h.below (below_alloc w o)
/-- A literal that is made now. -/
theorem Free.ilit {B : Nat} {E E' : TypeId} {w : World} {v : Value} {cs0 : List Value} {k : IntKind} (hown : Own B E w v cs0) (xs : List Int) (cs : List Value) (hx : ints k xs = cs) (hl : cs.length ≤ 1000000000) :
    Free (w.alloc (.cells cs.toArray E')) v (.slice (some ⟨w.heap.size, 0, none⟩) cs.length cs.length) (ints k xs) :=
  Free.of_own (Own.ilit (B := w.heap.size) xs cs hx (Nat.le_refl _) hl) hown.blk
/-- What stays when v is appended to. -/
theorem Free.app {w w' : World} {v v' r : Value} {ds : List Value} (h : Free w v r ds) (hg : w.grownBy w' v.ownBlock) (hl : v'.ownBlock = v.ownBlock ∨ v'.ownBlock = some w.heap.size) : Free w' v' r ds := by
  obtain ⟨⟨a, b, off, cap, rfl, hc, hm, ha, h1, hcell⟩, h2⟩ := h
  rcases h2 with rfl | ⟨g, h2, h3, h4⟩
  · exact ⟨⟨a, b, off, cap, rfl, hc, hm, ha, h1, fun i u hu => by simp at hu⟩, .inl rfl⟩
  · refine ⟨⟨a, b, off, cap, rfl, hc, hm, ha, h1, fun i u hu => ?_⟩, .inr ⟨g, h2, Nat.lt_of_lt_of_le h3 hg.size, ?_⟩⟩
    · have h5 := hcell i u hu
      rcases ha with rfl | ⟨rfl, _⟩
      · have e : b = g := by simpa [Value.ownBlock] using h2
        subst e
        rw [← h5]
        exact hg.cell_far _ h3 (fun h9 => h4 h9.symm)
      · simp at hu
    · rcases hl with hl | hl
      · rw [hl]; exact h4
      · rw [hl]; intro h9
        have : w.heap.size = g := by simpa using h9
        omega
theorem Row.far {w w' : World} {row : Option Nat} {r : Value} {ds : List Value} (h : Row w r ds) (hg : w.grownBy w' row) (hr : ∀ g, r.ownBlock = some g → g < w.heap.size → row ≠ some g) : Row w' r ds := by
  obtain ⟨a, b, off, cap, rfl, hc, hm, ha, h1, hcell⟩ := h
  refine ⟨a, b, off, cap, rfl, hc, hm, ha, h1, fun i u hu => ?_⟩
  have h5 := hcell i u hu
  rcases ha with rfl | ⟨rfl, _⟩
  · have hlt := World.block_lt_of_cell? w _ h5
    rw [← h5]
    exact hg.cell_far _ hlt (fun h9 => hr b rfl hlt h9.symm)
  · simp at hu
/-- append(s, x...): s owned, x read as a row; and where the new slice lies. -/
theorem wp_app2 {P : Program} {w : World} {o : Oper} {a : Act} {K : Act → World → Prop} {Q : Exit → Act → World → Prop} {t E : TypeId} (hT : SlT P t E) (B : Nat)
    (s x : Operand) (ho : o.op = .call { callee := .builtin .append, args := #[s, x], argTypes := #[t, t] })
    {v v2 : Value} (hs : a.eval s = v) (hx : a.eval x = v2) {cs ds : List Value} (hown : Own B E w v cs) (hrow : Row w v2 ds) (hb : cs.length + ds.length ≤ 1000000000) (hB : B ≤ w.heap.size)
    (h : ∀ v' w', Own B E w' v' (cs ++ ds) → w.grownBy w' v.ownBlock → (v'.ownBlock = v.ownBlock ∨ v'.ownBlock = some w.heap.size) → K (a.put o.dst v') w') : o.wp P a w K Q := by
  obtain ⟨ht, i, z, hi, hz, hsize, hby, hzs⟩ := hT
  obtain ⟨a2, b2, off2, cap2, rfl, hc2, hm2, ha2, h12, hcell2⟩ := hrow
  cases a2 with
  | none =>
    obtain ⟨rfl, hc⟩ : ds = [] ∧ ((none : Option Addr) = none → cap2 = 0) := by
      rcases ha2 with h | h
      · cases h
      · exact h
    obtain rfl := hc rfl
    have hrun := run_append_owned_none (P := P) (w := w) B t o.type E i 1 ht hi v cs.length cs hown.1
    unfold Oper.wp
    simp [execOp, ho, resolve, invoke, builtin, hs, hx, hrun, Result.andThen]
    have := h v w (by simpa using hown) ⟨rfl, rfl, rfl, Nat.le_refl _, fun _ _ _ => rfl⟩ (.inl rfl)
    exact this
  | some ad =>
    have hnews : ∀ j u, ds[j]? = some u → w.cell? (ad.add j) = some u := by
      intro j u hu
      rcases ha2 with h | h
      · obtain rfl : ad = ⟨b2, off2, none⟩ := by simpa using h
        rw [addr_add]; exact hcell2 j u hu
      · obtain ⟨rfl, _⟩ := h
        simp at hu
    have h3 : (cs.length + ds.length) * i.bytes ≤ 1000000000 * 64 := Nat.mul_le_mul hb hby
    obtain ⟨v', w', hr, h2, h4, _, h5⟩ := run_append_own_at (P := P) w B t o.type E i z 1 i.bytes ht hi hz hsize rfl hzs (by omega) v cs.length cs hown.1 ad ds.length cap2 ds (by simp) hnews h12
      (by simp only [maxLen]; omega) (by omega) hB
    unfold Oper.wp execOp
    simp only [ho, resolve, invoke, builtin, Sem.run_bind, Sem.run_pure, Result.andThen_ok, List.map_toArray, List.map_cons, List.map_nil, hs, hx, hr]
    exact h v' w' ⟨by simpa using h2, by
        intro u hu
        rcases List.mem_append.1 hu with hu | hu
        · exact hown.2 u hu
        · exact h12 u hu⟩ h4 h5
/-- The same at a step of a region that draws its order. -/
theorem step_app2 {P : Program} {w : World} {ops : Array Oper} {o : Oper} {a : Act} {K : Act → World → Prop} {Q : Exit → Act → World → Prop} {F : Prop} {t E : TypeId} (hT : SlT P t E) (B : Nat)
    (s x : Operand) (hg : Region.wanted o (yielded ops a.tmps) = true) (ho : o.op = .call { callee := .builtin .append, args := #[s, x], argTypes := #[t, t] })
    {v v2 : Value} (hs : a.eval s = v) (hx : a.eval x = v2) {cs ds : List Value} (hown : Own B E w v cs) (hrow : Row w v2 ds) (hb : cs.length + ds.length ≤ 1000000000) (hB : B ≤ w.heap.size)
    (h : ∀ v' w', Own B E w' v' (cs ++ ds) → w.grownBy w' v.ownBlock → (v'.ownBlock = v.ownBlock ∨ v'.ownBlock = some w.heap.size) → K (a.put o.dst v') w') : if Region.wanted o (yielded ops a.tmps) = true then Oper.wp P o a w K Q else F := by
  rw [if_pos hg]; exact wp_app2 hT B s x ho hs hx hown hrow hb hB h
theorem below_grown {B : Nat} {E : TypeId} {a w w' : World} {v : Value} {cs : List Value} (h : Below B a w) (hown : Own B E w v cs) (hg : w.grownBy w' v.ownBlock) (hB : B ≤ w.heap.size) : Below B a w' := below_own h hown hg hB (Nat.le_refl _)
end Go.Proofs.YtponfaglflmnkaaDoor
namespace Go.Proofs.YtponfaglflmnkaaDoor
open Go.RowKit
theorem Own.form {B : Nat} {E : TypeId} {w : World} {v : Value} {cs : List Value} (h : Own B E w v cs) (h0 : 0 < cs.length) : ∃ g cap, v = .slice (some ⟨g, 0, none⟩) cs.length cap ∧ B ≤ g ∧ g < w.heap.size := by
  obtain ⟨g, cap, hv, h1, h2⟩ := h.1.form h0
  exact ⟨g, cap, hv, h1, h2⟩
theorem Own.cell {B g n cap : Nat} {E : TypeId} {w : World} {cs : List Value} (h : Own B E w (.slice (some ⟨g, 0, none⟩) n cap) cs) {j : Nat} {u : Value} (hu : cs[j]? = some u) : w.cell? ⟨g, j, none⟩ = some u := by
  have hl : n = cs.length := by
    obtain ⟨_, _, _, _, hv, _⟩ := h.row
    simp only [Value.slice.injEq] at hv; exact hv.2.1
  subst hl
  rw [h.1.cellAt j (by have := (List.getElem?_eq_some_iff.1 hu).1; omega), hu]
theorem Own.frozen {B g n cap : Nat} {E : TypeId} {w : World} {cs : List Value} (h : Own B E w (.slice (some ⟨g, 0, none⟩) n cap) cs) (j : Nat) : w.frozen? ⟨g, j, none⟩ = false := by
  have hl : n = cs.length := by
    obtain ⟨_, _, _, _, hv, _⟩ := h.row
    simp only [Value.slice.injEq] at hv; exact hv.2.1
  subst hl
  exact h.1.frozenAt j
theorem Own.set {B g n cap : Nat} {E : TypeId} {w : World} {cs : List Value} (h : Own B E w (.slice (some ⟨g, 0, none⟩) n cap) cs) (j : Nat) (u : Value) (hu : u.oneCell' = true) : Own B E (w.setCell ⟨g, j, none⟩ u) (.slice (some ⟨g, 0, none⟩) n cap) (cs.set j u) := by
  have hl : n = cs.length := by
    obtain ⟨_, _, _, _, hv, _⟩ := h.row
    simp only [Value.slice.injEq] at hv; exact hv.2.1
  subst hl
  refine ⟨?_, fun x hx => ?_⟩
  · rw [List.length_set]; exact (h.1.stored j u).1
  · rcases List.mem_or_eq_of_mem_set hx with h1 | rfl
    · exact h.2 x h1
    · exact hu
theorem grown_set (w : World) (g j : Nat) (u : Value) : w.grownBy (w.setCell ⟨g, j, none⟩ u) (some g) := ⟨rfl, rfl, rfl, by simp, fun k _ hk => heap_setCell_other w ⟨g, j, none⟩ k u (fun e => hk (by simp [e]))⟩
theorem grown_trans {w w1 w2 : World} {r : Option Nat} (h : w.grownBy w1 r) (h2 : w1.grownBy w2 r) : w.grownBy w2 r := ⟨h2.os.trans h.os, h2.tape.trans h.tape, h2.output.trans h.output, Nat.le_trans h.size h2.size, fun k hk hr => (h2.block k (Nat.lt_of_lt_of_le hk h.size) hr).trans (h.block k hk hr)⟩
theorem grown_drew (w : World) (r : Option Nat) : w.grownBy w.drew r := ⟨rfl, rfl, rfl, Nat.le_refl _, fun _ _ _ => rfl⟩
theorem ints_set (k : IntKind) (xs : List Int) (j : Nat) (x : Int) : (ints k xs).set j (.int k x) = ints k (xs.set j x) := by simp [ints, List.map_set]
theorem wpList_app2 {P : Program} {w : World} {ops : Array Oper} {rest : List Oper} {o : Oper} {a : Act} {Q : Exit → Act → World → Prop} {t E : TypeId} (hT : SlT P t E) (B : Nat)
    (s x : Operand) (hg : Region.wanted o (yielded ops a.tmps) = true) (ho : o.op = .call { callee := .builtin .append, args := #[s, x], argTypes := #[t, t] })
    {v v2 : Value} (hs : a.eval s = v) (hx : a.eval x = v2) {cs ds : List Value} (hown : Own B E w v cs) (hrow : Row w v2 ds) (hb : cs.length + ds.length ≤ 1000000000) (hB : B ≤ w.heap.size)
    (h : ∀ v' w', Own B E w' v' (cs ++ ds) → w.grownBy w' v.ownBlock → (v'.ownBlock = v.ownBlock ∨ v'.ownBlock = some w.heap.size) → wpList P ops Q rest (a.put o.dst v') w') : wpList P ops Q (o :: rest) a w :=
  wpList_wanted hg (wp_app2 hT B s x ho hs hx hown hrow hb hB h)
end Go.Proofs.YtponfaglflmnkaaDoor
namespace Go.Proofs.YtponfaglflmnkaaDoor
open Go.RowKit
set_option maxHeartbeats 1000000
theorem rowstr2 {w : World} {a : Option Addr} {n c : Nat} (xs : List Int) (h : Row w (.slice a n c) (ints .u8 xs)) :
    (convert 24 9 (.slice a n c)).run Tryd.prog w = .ok (.string (strOfNums xs)) w := by
  obtain ⟨a', b, off, cap, he, hc, hm, ha, hcell⟩ := h.int
  cases he
  cases a with
  | none =>
    have h0 : xs = [] := by
      rcases ha with h9 | ⟨h9, _⟩
      · cases h9
      · exact h9
    subst h0
    exact run_convert_bytes_nil w 24 5 Tryd.underlying24 Tryd.underlying5 _ _ 9 Tryd.underlying9
  | some ad =>
    rcases ha with h9 | ⟨h9, _⟩
    · obtain rfl := Option.some.inj h9
      exact run_convert_bytes_arg w 24 5 Tryd.underlying24 Tryd.underlying5 b off _ _ xs rfl (fun i hi => by
        rw [hcell i xs[i] (List.getElem?_eq_getElem hi)]; simp [List.getD, hi]) 9 Tryd.underlying9
    · subst h9
      have hl : (loadCells ad 0).run Tryd.prog w = .ok #[] w := by
        have := run_loadCells_list (P := Tryd.prog) w ad [] (fun j v hj => by simp at hj)
        simpa using this
      show (convert 24 9 (.slice (some ad) 0 c)).run Tryd.prog w = _
      rw [run_convert_bytes_string w 24 9 5 _ 0 c Tryd.underlying24 Tryd.underlying5 Tryd.underlying9, run_bytesToString w _ 0 c [] hl, foldl_push_bytes]
      rfl
theorem strinj2 {xs ys : List Int} (hx : Rg 0 256 xs) (hy : Rg 0 256 ys) (h : strOfNums xs = strOfNums ys) : xs = ys := by
  have h1 : xs.map (fun n => UInt8.ofNat n.toNat) = ys.map (fun n => UInt8.ofNat n.toNat) := by
    rw [← strOfNums_data, ← strOfNums_data, h]
  have h2 : ∀ zs : List Int, Rg 0 256 zs → (zs.map (fun n => UInt8.ofNat n.toNat)).map (fun u => (u.toNat : Int)) = zs := fun zs hz => by
    rw [List.map_map]
    have : zs.map ((fun u : UInt8 => (u.toNat : Int)) ∘ fun n => UInt8.ofNat n.toNat) = zs.map id := List.map_congr_left fun z hz2 => by
      have := hz z hz2
      simp only [Function.comp, id, UInt8.toNat_ofNat']
      omega
    rw [this, List.map_id]
  rw [← h2 xs hx, h1, h2 ys hy]
set_option maxRecDepth 100000 in
theorem beq_any (v1 v2 : Value) (xs ys : List Int) (w : World) (h1 : Row w v1 (ints .u8 xs)) (h2 : Row w v2 (ints .u8 ys)) (g1 : Rg 0 256 xs) (g2 : Rg 0 256 ys) :
    Calls Tryd.prog 21 #[v1, v2] w fun e w' => e = .returned (.bool (decide (xs = ys))) ∧ w' = w := by
  obtain ⟨a1, b1, o1, c1, rfl, _⟩ := id h1.op
  obtain ⟨a2, b2, o2, c2, rfl, _⟩ := id h2.op
  have s1 := rowstr2 xs h1
  have s2 := rowstr2 ys h2
  have HF : Hid (decide (strOfNums xs = strOfNums ys) = decide (xs = ys)) := by
    show _ = _
    rw [decide_eq_decide]
    exact ⟨strinj2 g1 g2, fun h => by rw [h]⟩
  generalize strOfNums xs = sx at *
  generalize strOfNums ys = sy at *
  clear h1 h2
  go_enter Tryd.func21, Tryd.ntmps21
  go_wp2
  go_ret
  refine ⟨ret_bool ?_, rfl⟩
  rw [← HF.out]
  have e : ∀ s t : ByteArray, (s.toList == t.toList) = decide (s = t) := fun s t => by
    rw [Bool.eq_iff_iff, beq_iff_eq, decide_eq_true_iff, ByteArray.toList_eq, ByteArray.toList_eq]
    exact ⟨fun h => ByteArray.ext (Array.toList_inj.1 h), fun h => by rw [h]⟩
  exact e sx sy
theorem bclone_any (v : Value) (xs : List Int) (w : World) (h : Row w v (ints .u8 xs)) (hl : xs.length ≤ 1000000) :
    Calls Tryd.prog 57 #[v] w fun e w' => ∃ t, e = .returned t ∧ Own w.heap.size 5 w' t (ints .u8 xs) ∧ Below w.heap.size w w' := by
  obtain ⟨a, b, off, cap, rfl, hlc, hm, ha, _⟩ := id h
  have hnil := fun w a n c n' c' => Lib.run_eql_slice_nil (P := Tryd.prog) w 24 5 a n c n' c' Tryd.underlying24
  cases a with
  | none =>
    obtain ⟨hn, hz⟩ : ints .u8 xs = [] ∧ ((none : Option Addr) = none → cap = 0) := by
      rcases ha with h | h
      · cases h
      · exact h
    obtain rfl : xs = [] := by simpa [ints] using hn
    obtain rfl := hz rfl
    go_enter Tryd.func57, Tryd.ntmps57
    go_wp2
    go_ret
    exact ⟨_, rfl, Own.nil _ _ _, Below.refl _ _⟩
  | some ad =>
    go_enter Tryd.func57, Tryd.ntmps57
    go_wp2_with (at_builtin; refine wpList_app slT_u8 _ _ _ rfl rfl rfl rfl (Own.ilit (k := .u8) [] [] rfl (Nat.le_refl _) (by simp)) (h.alloc _) (by simp [ints]; omega) (by simp) ?_; intro t2 w2 hown2 hg2)
    go_ret
    exact ⟨_, rfl, hown2, below_app (Below.refl _ _) (below_alloc _ _) (Own.ilit (k := .u8) [] [] rfl (Nat.le_refl _) (by simp)) hg2⟩
/-- The row that the call owns holds xs; nothing else is written. -/
def SetQ (k : IntKind) (E : TypeId) (B g N cap : Nat) (w : World) (xs : List Int) (w' : World) : Prop := Own B E w' (.slice (some ⟨g, 0, none⟩) N cap) (ints k xs) ∧ w.grownBy w' (some g)
theorem SetQ.drew {k : IntKind} {E : TypeId} {B g N cap : Nat} {w w' : World} {xs : List Int} (h : SetQ k E B g N cap w xs w') : SetQ k E B g N cap w xs w'.drew := ⟨h.1.drew, grown_trans h.2 (grown_drew _ _)⟩
theorem SetQ.set {k : IntKind} {E : TypeId} {B g N cap : Nat} {w w' : World} {xs : List Int} (h : SetQ k E B g N cap w xs w') (j : Nat) (x : Int) : SetQ k E B g N cap w (xs.set j x) (w'.setCell ⟨g, j, none⟩ (.int k x)) :=
  ⟨by have := h.1.set j (.int k x) rfl; rwa [ints_set] at this, grown_trans h.2 (grown_set _ _ _ _)⟩
theorem SetQ.cell {k : IntKind} {E : TypeId} {B g N cap : Nat} {w w' : World} {xs : List Int} (h : SetQ k E B g N cap w xs w') {j : Nat} {x : Int} (hx : xs[j]? = some x) : w'.cell? ⟨g, j, none⟩ = some (.int k x) := h.1.cell (by rw [ints_get, hx]; rfl)
end Go.Proofs.YtponfaglflmnkaaDoor
namespace Go.Proofs.YtponfaglflmnkaaDoor
open Go.RowKit
/-- make([]T, n). -/
theorem wpList_mkn {P : Program} {w : World} {ops : Array Oper} {rest : List Oper} {o : Oper} {a : Act} {Q : Exit → Act → World → Prop} (t e : TypeId) (z : Value) (bytes : Nat) (ht : P.underlying t = some (.slice e))
    (hinfo : (P.info? e).map (fun i => (i.zero, i.size, i.bytes)) = some (some z, 1, bytes)) (hz1 : z.cells = #[z]) (hzc : z.oneCell' = true) (hby : bytes ≤ 64) (l c : Operand)
    (hg : Region.wanted o (yielded ops a.tmps) = true) (ho : o.op = .makeSlice t l c) {kl kc : IntKind} {n : Nat} (hl : a.eval l = .int kl n) (hc : a.eval c = .int kc n) (hn : n ≤ 1000000)
    (h : ∀ w', Own w.heap.size e w' (.slice (some ⟨w.heap.size, 0, none⟩) n n) (List.replicate n z) → Below w.heap.size w w' → wpList P ops Q rest (a.put o.dst (.slice (some ⟨w.heap.size, 0, none⟩) n n)) w') : wpList P ops Q (o :: rest) a w := by
  have h3 : bytes * n ≤ 64 * 1000000 := Nat.mul_le_mul hby hn
  have hr := run_make_row' (P := P) t e z bytes ht hinfo hz1 kl kc n (by omega) (by omega) w
  have hm : madeCells #[z] n = (List.replicate n z).toArray := Array.toList_inj.1 (by rw [toList_madeCells_one])
  rw [hm] at hr
  have hown := Own.lit (w := w) (E := e) (B := w.heap.size) (List.replicate n z) (fun u hu => by rw [(List.mem_replicate.1 hu).2]; exact hzc) (Nat.le_refl _) (by rw [List.length_replicate]; omega)
  rw [List.length_replicate] at hown
  refine wpList_wanted hg ?_
  unfold Oper.wp
  simp [execOp, ho, hl, hc, hr, Result.andThen]
  exact h _ (by simpa using hown) (below_alloc w _)
theorem ints_replicate (k : IntKind) (n : Nat) (x : Int) : ints k (List.replicate n x) = List.replicate n (.int k x) := by simp [ints]
/-- Filled up to k: the first ones, then what was there. -/
theorem fill_step {xs ys : List Int} (g : Int → Int) {k : Nat} {x : Int} (hx : xs[k]? = some x) (hl : ys.length = xs.length) : ((xs.take k).map g ++ ys.drop k).set k (g x) = (xs.take (k + 1)).map g ++ ys.drop (k + 1) := by
  obtain ⟨h1, h2⟩ := List.getElem?_eq_some_iff.1 hx
  have hlen : ((xs.take k).map g).length = k := by rw [List.length_map, List.length_take]; omega
  have h3 : k < ys.length := by omega
  rw [List.set_append_right _ _ (by omega), hlen, Nat.sub_self, List.drop_eq_getElem_cons h3, List.set_cons_zero, List.take_add_one, hx, List.map_append, List.append_assoc]; rfl
theorem fill_all {xs ys : List Int} (g : Int → Int) (hl : ys.length = xs.length) : (xs.take xs.length).map g ++ ys.drop xs.length = xs.map g := by
  rw [List.take_length, List.drop_eq_nil_of_le (by omega), List.append_nil]
theorem fill_get {xs ys : List Int} (g : Int → Int) {k : Nat} (hk : k < xs.length) (hl : ys.length = xs.length) : ∃ y, ((xs.take k).map g ++ ys.drop k)[k]? = some y ∧ ys[k]? = some y := by
  have hlen : ((xs.take k).map g).length = k := by rw [List.length_map, List.length_take]; omega
  refine ⟨ys[k]'(by omega), ?_, List.getElem?_eq_getElem _⟩
  rw [List.getElem?_append_right (by omega), hlen, Nat.sub_self, List.getElem?_drop, Nat.add_zero, List.getElem?_eq_getElem]
theorem Row.formN0 {w : World} {v : Value} {cs : List Value} (h : Row w v cs) {n : Nat} (hn : cs.length = n) : ∃ a c, v = .slice a n c := by
  obtain ⟨a, _, _, c, hv, _⟩ := h
  exact ⟨a, c, by rw [hv, hn]⟩
end Go.Proofs.YtponfaglflmnkaaDoor
namespace Go.Proofs.YtponfaglflmnkaaDoor
open Go.RowKit
set_option maxHeartbeats 2000000
set_option linter.unusedSimpArgs false
def put9 (c : Int) : Int := if nineB c then oct9 c else 0
theorem em3V (c a b : Int) (h1 : nineB b = true ∧ put9 b = a) (h2 : nineB a = false ∧ put9 a = 0) : (c = b ∧ Hid (nineB c = true ∧ put9 c = a)) ∨ (c = a ∧ Hid (nineB c = false ∧ put9 c = 0)) ∨ (a ≠ c ∧ b ≠ c) := by
  rcases (by omega : c = b ∨ c = a ∨ (a ≠ c ∧ b ≠ c)) with rfl | rfl | h
  · exact .inl ⟨rfl, h1⟩
  · exact .inr (.inl ⟨rfl, h2⟩)
  · exact .inr (.inr h)
theorem NoK.oct {c : Int} (h : NoK c 8) : oct9 c = c := by
  have k := fun (j : Nat) (hj : j < 8) => (h j hj).2
  have k0 := k 0 (by omega); have k1 := k 1 (by omega); have k2 := k 2 (by omega); have k3 := k 3 (by omega); have k4 := k 4 (by omega); have k5 := k 5 (by omega); have k6 := k 6 (by omega); have k7 := k 7 (by omega)
  simp only [nineS, List.getD_cons_zero, List.getD_cons_succ] at k0 k1 k2 k3 k4 k5 k6 k7
  unfold oct9
  rw [if_neg (Ne.symm k0), if_neg (Ne.symm k1), if_neg (Ne.symm k2), if_neg (Ne.symm k3), if_neg (Ne.symm k4), if_neg (Ne.symm k5), if_neg (Ne.symm k6), if_neg (Ne.symm k7)]
set_option maxRecDepth 100000 in
theorem latPutV_any (c : Int) (w : World) (h1 : -2147483648 ≤ c) (h2 : c ≤ 2147483647) :
    Calls Tryd.prog 40 #[.int .i32 c] w fun e w' => e = .returned (.tuple #[.int .u8 (put9 c), .bool (nineB c)]) ∧ Below w.heap.size w w' := by
  go_enter Tryd.func40, Tryd.ntmps40
  go_wp2_with (go_at_call 52; refine (others9_any _).mono ?_; rintro e w1 ⟨rfl, hb1⟩)
  go_loopw [7] (fun i wr => ∃ k : Nat, i = .int .i64 k ∧ k ≤ 8 ∧ NoK c k ∧ Below w.heap.size w wr) (fun i _ => 8 - (intOf i).toNat)
  case atStart => exact ⟨0, rfl, by omega, fun n hn => by omega, hb1⟩
  case round =>
    obtain ⟨k, rfl, hk, HP, hb⟩ := hrel
    by_cases hlt : k < 8
    · rcases (by omega : k = 0 ∨ k = 1 ∨ k = 2 ∨ k = 3 ∨ k = 4 ∨ k = 5 ∨ k = 6 ∨ k = 7) with rfl | rfl | rfl | rfl | rfl | rfl | rfl | rfl
      case' inl => have hcs := em3V c 164 8364 (by decide) (by decide); have hx : ∀ w, (Instr.index 65 (.agg (#[.int .u8 164, .int .i32 8364, .int .u8 166, .int .i32 352, .int .u8 168, .int .i32 353, .int .u8 180, .int .i32 381, .int .u8 184, .int .i32 382, .int .u8 188, .int .i32 338, .int .u8 189, .int .i32 339, .int .u8 190, .int .i32 376] : Array Value)) (.int .i64 0)).run Tryd.prog w = .ok (.agg #[.int .u8 164, .int .i32 8364]) w := fun _ => by kernel_rfl
      case' inr.inl => have hcs := em3V c 166 352 (by decide) (by decide); have hx : ∀ w, (Instr.index 65 (.agg (#[.int .u8 164, .int .i32 8364, .int .u8 166, .int .i32 352, .int .u8 168, .int .i32 353, .int .u8 180, .int .i32 381, .int .u8 184, .int .i32 382, .int .u8 188, .int .i32 338, .int .u8 189, .int .i32 339, .int .u8 190, .int .i32 376] : Array Value)) (.int .i64 1)).run Tryd.prog w = .ok (.agg #[.int .u8 166, .int .i32 352]) w := fun _ => by kernel_rfl
      case' inr.inr.inl => have hcs := em3V c 168 353 (by decide) (by decide); have hx : ∀ w, (Instr.index 65 (.agg (#[.int .u8 164, .int .i32 8364, .int .u8 166, .int .i32 352, .int .u8 168, .int .i32 353, .int .u8 180, .int .i32 381, .int .u8 184, .int .i32 382, .int .u8 188, .int .i32 338, .int .u8 189, .int .i32 339, .int .u8 190, .int .i32 376] : Array Value)) (.int .i64 2)).run Tryd.prog w = .ok (.agg #[.int .u8 168, .int .i32 353]) w := fun _ => by kernel_rfl
      case' inr.inr.inr.inl => have hcs := em3V c 180 381 (by decide) (by decide); have hx : ∀ w, (Instr.index 65 (.agg (#[.int .u8 164, .int .i32 8364, .int .u8 166, .int .i32 352, .int .u8 168, .int .i32 353, .int .u8 180, .int .i32 381, .int .u8 184, .int .i32 382, .int .u8 188, .int .i32 338, .int .u8 189, .int .i32 339, .int .u8 190, .int .i32 376] : Array Value)) (.int .i64 3)).run Tryd.prog w = .ok (.agg #[.int .u8 180, .int .i32 381]) w := fun _ => by kernel_rfl
      case' inr.inr.inr.inr.inl => have hcs := em3V c 184 382 (by decide) (by decide); have hx : ∀ w, (Instr.index 65 (.agg (#[.int .u8 164, .int .i32 8364, .int .u8 166, .int .i32 352, .int .u8 168, .int .i32 353, .int .u8 180, .int .i32 381, .int .u8 184, .int .i32 382, .int .u8 188, .int .i32 338, .int .u8 189, .int .i32 339, .int .u8 190, .int .i32 376] : Array Value)) (.int .i64 4)).run Tryd.prog w = .ok (.agg #[.int .u8 184, .int .i32 382]) w := fun _ => by kernel_rfl
      case' inr.inr.inr.inr.inr.inl => have hcs := em3V c 188 338 (by decide) (by decide); have hx : ∀ w, (Instr.index 65 (.agg (#[.int .u8 164, .int .i32 8364, .int .u8 166, .int .i32 352, .int .u8 168, .int .i32 353, .int .u8 180, .int .i32 381, .int .u8 184, .int .i32 382, .int .u8 188, .int .i32 338, .int .u8 189, .int .i32 339, .int .u8 190, .int .i32 376] : Array Value)) (.int .i64 5)).run Tryd.prog w = .ok (.agg #[.int .u8 188, .int .i32 338]) w := fun _ => by kernel_rfl
      case' inr.inr.inr.inr.inr.inr.inl => have hcs := em3V c 189 339 (by decide) (by decide); have hx : ∀ w, (Instr.index 65 (.agg (#[.int .u8 164, .int .i32 8364, .int .u8 166, .int .i32 352, .int .u8 168, .int .i32 353, .int .u8 180, .int .i32 381, .int .u8 184, .int .i32 382, .int .u8 188, .int .i32 338, .int .u8 189, .int .i32 339, .int .u8 190, .int .i32 376] : Array Value)) (.int .i64 6)).run Tryd.prog w = .ok (.agg #[.int .u8 189, .int .i32 339]) w := fun _ => by kernel_rfl
      case' inr.inr.inr.inr.inr.inr.inr => have hcs := em3V c 190 376 (by decide) (by decide); have hx : ∀ w, (Instr.index 65 (.agg (#[.int .u8 164, .int .i32 8364, .int .u8 166, .int .i32 352, .int .u8 168, .int .i32 353, .int .u8 180, .int .i32 381, .int .u8 184, .int .i32 382, .int .u8 188, .int .i32 338, .int .u8 189, .int .i32 339, .int .u8 190, .int .i32 376] : Array Value)) (.int .i64 7)).run Tryd.prog w = .ok (.agg #[.int .u8 190, .int .i32 376]) w := fun _ => by kernel_rfl
      all_goals
        rcases hcs with ⟨rfl, HF⟩ | ⟨rfl, HF⟩ | ⟨ho, hs⟩
        · go_wp2
          go_ret2
          exact ⟨ret2 (iv (by rw [HF.out.2])) (bv (by rw [HF.out.1])), by first | exact hb | exact hb.alloc hb.size _⟩
        · go_wp2
          go_ret2
          exact ⟨ret2 (iv (by rw [HF.out.2])) (bv (by rw [HF.out.1])), by first | exact hb | exact hb.alloc hb.size _⟩
        · have hs1 := beq_false_of_ne (Ne.symm hs)
          have ho1 := beq_false_of_ne (Ne.symm ho)
          have HP2 := Lib.hid (NoK.succ HP ho hs)
          clear ho hs HP
          go_wp2_with fail
          go_roundw
          case rel => exact ⟨_, by first | exact iv (by rfl) | go_num, by omega, HP2.out, by first | exact hb | exact hb.alloc hb.size _⟩
          case measure => simp [intOf]
    · obtain rfl : k = 8 := by omega
      have HN := Lib.hid HP.all
      have HO := Lib.hid HP.oct
      clear HP
      rcases Decidable.em (0 ≤ c ∧ c < 256) with h3 | h3
      · have HF : Hid (nineB c = true ∧ put9 c = c) := by
          have h9 : nineB c = true := by rw [HN.out, oneB]; exact decide_eq_true h3
          exact ⟨h9, by rw [put9, if_pos h9, HO.out]⟩
        have h4 := h3.1
        have h5 := h3.2
        clear h3
        go_wp2
        go_ret2
        exact ⟨ret2 (iv (by rw [HF.out.2])) (bv (by rw [HF.out.1])), hb⟩
      · have HF : Hid (nineB c = false ∧ put9 c = 0) := by
          have h9 : nineB c = false := by rw [HN.out, oneB]; exact decide_eq_false h3
          exact ⟨h9, by rw [put9, if_neg (by rw [h9]; decide)]⟩
        rcases Decidable.em (c < 0) with h4 | h4
        · clear h3
          go_wp2
          go_ret2
          exact ⟨ret2 (iv (by rw [HF.out.2])) (bv (by rw [HF.out.1])), hb⟩
        · have h5 : 256 ≤ c := by omega
          clear h3
          go_wp2
          go_ret2
          exact ⟨ret2 (iv (by rw [HF.out.2])) (bv (by rw [HF.out.1])), hb⟩
/-- None of the first k octets. -/
def NoX (x : Int) (k : Nat) : Prop := ∀ j, j < k → nineO.getD j 0 ≠ x
theorem NoX.succ {x : Int} {k : Nat} (h : NoX x k) (h1 : nineO.getD k 0 ≠ x) : NoX x (k + 1) := fun j hj => by
  rcases (by omega : j < k ∨ j = k) with h9 | rfl
  · exact h j h9
  · exact h1
theorem NoX.sign {x : Int} (h : NoX x 8) : sign9 x = x := by
  have k0 := h 0 (by omega); have k1 := h 1 (by omega); have k2 := h 2 (by omega); have k3 := h 3 (by omega); have k4 := h 4 (by omega); have k5 := h 5 (by omega); have k6 := h 6 (by omega); have k7 := h 7 (by omega)
  simp only [nineO, List.getD_cons_zero, List.getD_cons_succ] at k0 k1 k2 k3 k4 k5 k6 k7
  unfold sign9
  rw [if_neg (Ne.symm k0), if_neg (Ne.symm k1), if_neg (Ne.symm k2), if_neg (Ne.symm k3), if_neg (Ne.symm k4), if_neg (Ne.symm k5), if_neg (Ne.symm k6), if_neg (Ne.symm k7)]
theorem em2V (x a b : Int) (h1 : sign9 a = b) : (x = a ∧ Hid (sign9 x = b)) ∨ a ≠ x := by
  rcases Decidable.em (x = a) with rfl | h
  · exact .inl ⟨rfl, h1⟩
  · exact .inr (Ne.symm h)
set_option maxRecDepth 100000 in
theorem latSign_any (x : Int) (w : World) (h1 : 0 ≤ x) (h2 : x < 256) :
    Calls Tryd.prog 33 #[.int .u8 x] w fun e w' => e = .returned (.int .i32 (sign9 x)) ∧ Below w.heap.size w w' := by
  go_enter Tryd.func33, Tryd.ntmps33
  go_wp2_with (go_at_call 52; refine (others9_any _).mono ?_; rintro e w1 ⟨rfl, hb1⟩)
  go_loopw [6] (fun i wr => ∃ k : Nat, i = .int .i64 k ∧ k ≤ 8 ∧ NoX x k ∧ Below w.heap.size w wr) (fun i _ => 8 - (intOf i).toNat)
  case atStart => exact ⟨0, rfl, by omega, fun n hn => by omega, hb1⟩
  case round =>
    obtain ⟨k, rfl, hk, HP, hb⟩ := hrel
    by_cases hlt : k < 8
    · rcases (by omega : k = 0 ∨ k = 1 ∨ k = 2 ∨ k = 3 ∨ k = 4 ∨ k = 5 ∨ k = 6 ∨ k = 7) with rfl | rfl | rfl | rfl | rfl | rfl | rfl | rfl
      case' inl => have hcs := em2V x 164 8364 (by decide); have hx : ∀ w, (Instr.index 65 (.agg (#[.int .u8 164, .int .i32 8364, .int .u8 166, .int .i32 352, .int .u8 168, .int .i32 353, .int .u8 180, .int .i32 381, .int .u8 184, .int .i32 382, .int .u8 188, .int .i32 338, .int .u8 189, .int .i32 339, .int .u8 190, .int .i32 376] : Array Value)) (.int .i64 0)).run Tryd.prog w = .ok (.agg #[.int .u8 164, .int .i32 8364]) w := fun _ => by kernel_rfl
      case' inr.inl => have hcs := em2V x 166 352 (by decide); have hx : ∀ w, (Instr.index 65 (.agg (#[.int .u8 164, .int .i32 8364, .int .u8 166, .int .i32 352, .int .u8 168, .int .i32 353, .int .u8 180, .int .i32 381, .int .u8 184, .int .i32 382, .int .u8 188, .int .i32 338, .int .u8 189, .int .i32 339, .int .u8 190, .int .i32 376] : Array Value)) (.int .i64 1)).run Tryd.prog w = .ok (.agg #[.int .u8 166, .int .i32 352]) w := fun _ => by kernel_rfl
      case' inr.inr.inl => have hcs := em2V x 168 353 (by decide); have hx : ∀ w, (Instr.index 65 (.agg (#[.int .u8 164, .int .i32 8364, .int .u8 166, .int .i32 352, .int .u8 168, .int .i32 353, .int .u8 180, .int .i32 381, .int .u8 184, .int .i32 382, .int .u8 188, .int .i32 338, .int .u8 189, .int .i32 339, .int .u8 190, .int .i32 376] : Array Value)) (.int .i64 2)).run Tryd.prog w = .ok (.agg #[.int .u8 168, .int .i32 353]) w := fun _ => by kernel_rfl
      case' inr.inr.inr.inl => have hcs := em2V x 180 381 (by decide); have hx : ∀ w, (Instr.index 65 (.agg (#[.int .u8 164, .int .i32 8364, .int .u8 166, .int .i32 352, .int .u8 168, .int .i32 353, .int .u8 180, .int .i32 381, .int .u8 184, .int .i32 382, .int .u8 188, .int .i32 338, .int .u8 189, .int .i32 339, .int .u8 190, .int .i32 376] : Array Value)) (.int .i64 3)).run Tryd.prog w = .ok (.agg #[.int .u8 180, .int .i32 381]) w := fun _ => by kernel_rfl
      case' inr.inr.inr.inr.inl => have hcs := em2V x 184 382 (by decide); have hx : ∀ w, (Instr.index 65 (.agg (#[.int .u8 164, .int .i32 8364, .int .u8 166, .int .i32 352, .int .u8 168, .int .i32 353, .int .u8 180, .int .i32 381, .int .u8 184, .int .i32 382, .int .u8 188, .int .i32 338, .int .u8 189, .int .i32 339, .int .u8 190, .int .i32 376] : Array Value)) (.int .i64 4)).run Tryd.prog w = .ok (.agg #[.int .u8 184, .int .i32 382]) w := fun _ => by kernel_rfl
      case' inr.inr.inr.inr.inr.inl => have hcs := em2V x 188 338 (by decide); have hx : ∀ w, (Instr.index 65 (.agg (#[.int .u8 164, .int .i32 8364, .int .u8 166, .int .i32 352, .int .u8 168, .int .i32 353, .int .u8 180, .int .i32 381, .int .u8 184, .int .i32 382, .int .u8 188, .int .i32 338, .int .u8 189, .int .i32 339, .int .u8 190, .int .i32 376] : Array Value)) (.int .i64 5)).run Tryd.prog w = .ok (.agg #[.int .u8 188, .int .i32 338]) w := fun _ => by kernel_rfl
      case' inr.inr.inr.inr.inr.inr.inl => have hcs := em2V x 189 339 (by decide); have hx : ∀ w, (Instr.index 65 (.agg (#[.int .u8 164, .int .i32 8364, .int .u8 166, .int .i32 352, .int .u8 168, .int .i32 353, .int .u8 180, .int .i32 381, .int .u8 184, .int .i32 382, .int .u8 188, .int .i32 338, .int .u8 189, .int .i32 339, .int .u8 190, .int .i32 376] : Array Value)) (.int .i64 6)).run Tryd.prog w = .ok (.agg #[.int .u8 189, .int .i32 339]) w := fun _ => by kernel_rfl
      case' inr.inr.inr.inr.inr.inr.inr => have hcs := em2V x 190 376 (by decide); have hx : ∀ w, (Instr.index 65 (.agg (#[.int .u8 164, .int .i32 8364, .int .u8 166, .int .i32 352, .int .u8 168, .int .i32 353, .int .u8 180, .int .i32 381, .int .u8 184, .int .i32 382, .int .u8 188, .int .i32 338, .int .u8 189, .int .i32 339, .int .u8 190, .int .i32 376] : Array Value)) (.int .i64 7)).run Tryd.prog w = .ok (.agg #[.int .u8 190, .int .i32 376]) w := fun _ => by kernel_rfl
      all_goals
        rcases hcs with ⟨rfl, HF⟩ | ho
        · go_wp2
          go_ret
          exact ⟨ret_int HF.out.symm, by first | exact hb | exact hb.alloc hb.size _⟩
        · have ho1 := beq_false_of_ne ho
          have HP2 := Lib.hid (NoX.succ HP ho)
          clear ho HP
          go_wp2_with fail
          go_roundw
          case rel => exact ⟨_, by first | exact iv (by rfl) | go_num, by omega, HP2.out, by first | exact hb | exact hb.alloc hb.size _⟩
          case measure => simp [intOf]
    · obtain rfl : k = 8 := by omega
      have HN := Lib.hid HP.sign
      clear HP
      have hw : IntKind.i32.wrap x = x := by rw [IntKind.wrap_i32]; omega
      go_wp2
      go_ret
      exact ⟨ret_int (by rw [HN.out]), hb⟩
end Go.Proofs.YtponfaglflmnkaaDoor
