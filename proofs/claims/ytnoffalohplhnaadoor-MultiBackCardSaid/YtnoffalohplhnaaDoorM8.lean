/- Walks: bytes.Equal, bytes.HasPrefix, bytes.Clone. · Toolkit: a slice made with its length; rows that are filled from the front. · The toolkit, more: stores into a slice of slices that the call made. (laid together by program out of single texts). -/
import Derived.Lib.SlBytesConst
import Derived.Deep.OwnRows
import Derived.Test.YtnoffalohplhnaaDoorM2
import Derived.Test.YtnoffalohplhnaaDoorM5
import Derived.Test.YtnoffalohplhnaaDoorM7
namespace Go.Proofs.YtnoffalohplhnaaDoor
open Go.RowKit
set_option maxHeartbeats 1000000
theorem rowstr2 {w : World} {a : Option Addr} {n c : Nat} (xs : List Int) (h : Row w (.slice a n c) (ints .u8 xs)) :
    (convert 23 9 (.slice a n c)).run Tryd.prog w = .ok (.string (strOfNums xs)) w := by
  obtain ⟨a', b, off, cap, he, hc, hm, ha, hcell⟩ := h.int
  cases he
  cases a with
  | none =>
    have h0 : xs = [] := by
      rcases ha with h9 | ⟨h9, _⟩
      · cases h9
      · exact h9
    subst h0
    exact run_convert_bytes_nil w 23 5 Tryd.underlying23 Tryd.underlying5 _ _ 9 Tryd.underlying9
  | some ad =>
    rcases ha with h9 | ⟨h9, _⟩
    · obtain rfl := Option.some.inj h9
      exact run_convert_bytes_arg w 23 5 Tryd.underlying23 Tryd.underlying5 b off _ _ xs rfl (fun i hi => by
        rw [hcell i xs[i] (List.getElem?_eq_getElem hi)]; simp [List.getD, hi]) 9 Tryd.underlying9
    · subst h9
      have hl : (loadCells ad 0).run Tryd.prog w = .ok #[] w := by
        have := run_loadCells_list (P := Tryd.prog) w ad [] (fun j v hj => by simp at hj)
        simpa using this
      show (convert 23 9 (.slice (some ad) 0 c)).run Tryd.prog w = _
      rw [run_convert_bytes_string w 23 9 5 _ 0 c Tryd.underlying23 Tryd.underlying5 Tryd.underlying9, run_bytesToString w _ 0 c [] hl, foldl_push_bytes]
      rfl
theorem strinj2 {xs ys : List Int} (hx : Rg 0 256 xs) (hy : Rg 0 256 ys) (h : strOfNums xs = strOfNums ys) : xs = ys := by
  have h1 : xs.map (fun n => UInt8.ofNat n.toNat) = ys.map (fun n => UInt8.ofNat n.toNat) := by
    rw [← strOfNums_data, ← strOfNums_data, h]
  have h2 : ∀ zs : List Int, Rg 0 256 zs → (zs.map (fun n => UInt8.ofNat n.toNat)).map (fun u => (u.toNat : Int)) = zs := fun zs hz => by
    rw [List.map_map]
    have : zs.map ((fun u : UInt8 => (u.toNat : Int)) ∘ fun n => UInt8.ofNat n.toNat) = zs.map id := List.map_congr_left fun z hz2 => by
      have := hz z hz2
      simp only [Function.comp, id, UInt8.toNat_ofNat']
      omega
    rw [this, List.map_id]
  rw [← h2 xs hx, h1, h2 ys hy]
set_option maxRecDepth 100000 in
theorem beq_any (v1 v2 : Value) (xs ys : List Int) (w : World) (h1 : Row w v1 (ints .u8 xs)) (h2 : Row w v2 (ints .u8 ys)) (g1 : Rg 0 256 xs) (g2 : Rg 0 256 ys) :
    Calls Tryd.prog 48 #[v1, v2] w fun e w' => e = .returned (.bool (decide (xs = ys))) ∧ w' = w := by
  obtain ⟨a1, b1, o1, c1, rfl, _⟩ := id h1.op
  obtain ⟨a2, b2, o2, c2, rfl, _⟩ := id h2.op
  have s1 := rowstr2 xs h1
  have s2 := rowstr2 ys h2
  have HF : Hid (decide (strOfNums xs = strOfNums ys) = decide (xs = ys)) := by
    show _ = _
    rw [decide_eq_decide]
    exact ⟨strinj2 g1 g2, fun h => by rw [h]⟩
  generalize strOfNums xs = sx at *
  generalize strOfNums ys = sy at *
  clear h1 h2
  go_enter Tryd.func48, Tryd.ntmps48
  go_wp2
  go_ret
  refine ⟨ret_bool ?_, rfl⟩
  rw [← HF.out]
  have e : ∀ s t : ByteArray, (s.toList == t.toList) = decide (s = t) := fun s t => by
    rw [Bool.eq_iff_iff, beq_iff_eq, decide_eq_true_iff, ByteArray.toList_eq, ByteArray.toList_eq]
    exact ⟨fun h => ByteArray.ext (Array.toList_inj.1 h), fun h => by rw [h]⟩
  exact e sx sy
set_option maxRecDepth 100000 in
theorem bpre_any (v1 v2 : Value) (xs ys : List Int) (w : World) (h1 : Row w v1 (ints .u8 xs)) (h2 : Row w v2 (ints .u8 ys)) (g1 : Rg 0 256 xs) (g2 : Rg 0 256 ys) (_hl : xs.length ≤ 1000000) (hl2 : ys.length ≤ 1000000) :
    Calls Tryd.prog 42 #[v1, v2] w fun e w' => e = .returned (.bool (decide (xs.take ys.length = ys))) ∧ w' = w := by
  obtain ⟨a1, b1, o1, c1, rfl, _⟩ := id h1.op
  obtain ⟨a2, b2, o2, c2, rfl, _⟩ := id h2.op
  rcases Nat.lt_or_ge xs.length ys.length with hlt | hge
  · have HF : Hid (decide (xs.take ys.length = ys) = false) := decide_eq_false fun h => by
      have := congrArg List.length h
      rw [List.length_take] at this; omega
    go_enter Tryd.func42, Tryd.ntmps42
    go_wp2
    go_ret
    exact ⟨ret_bool HF.out.symm, rfl⟩
  · have hE := fun v h => beq_any v (.slice a2 ys.length c2) (xs.take ys.length) ys w h h2 (fun x hx => g1 x (List.mem_of_mem_take hx)) g2
    have HE := Lib.hid hE; clear hE
    generalize decide (xs.take ys.length = ys) = q at *
    go_enter Tryd.func42, Tryd.ntmps42
    go_wp2_with (first | (refine wpList_slH slT_u8 _ _ rfl rfl rfl rfl h1 (by omega) (by simp [ints]; omega) ?_; intro u3 hu3; have r3 := hu3 w h1; rw [Int.toNat_natCast, ints_take] at r3) | (go_at_call 48; refine (HE.out _ r3).mono ?_; rintro e w1 ⟨rfl, hw⟩; obtain rfl := hw.symm))
    go_ret
    exact ⟨rfl, rfl⟩
theorem bclone_any (v : Value) (xs : List Int) (w : World) (h : Row w v (ints .u8 xs)) (hl : xs.length ≤ 1000000) :
    Calls Tryd.prog 16 #[v] w fun e w' => ∃ t, e = .returned t ∧ Own w.heap.size 5 w' t (ints .u8 xs) ∧ Below w.heap.size w w' := by
  obtain ⟨a, b, off, cap, rfl, hlc, hm, ha, _⟩ := id h
  have hnil := fun w a n c n' c' => Lib.run_eql_slice_nil (P := Tryd.prog) w 23 5 a n c n' c' Tryd.underlying23
  cases a with
  | none =>
    obtain ⟨hn, hz⟩ : ints .u8 xs = [] ∧ ((none : Option Addr) = none → cap = 0) := by
      rcases ha with h | h
      · cases h
      · exact h
    obtain rfl : xs = [] := by simpa [ints] using hn
    obtain rfl := hz rfl
    go_enter Tryd.func16, Tryd.ntmps16
    go_wp2
    go_ret
    exact ⟨_, rfl, Own.nil _ _ _, Below.refl _ _⟩
  | some ad =>
    go_enter Tryd.func16, Tryd.ntmps16
    go_wp2_with (at_builtin; refine wpList_app slT_u8 _ _ _ rfl rfl rfl rfl (Own.ilit (k := .u8) [] [] rfl (Nat.le_refl _) (by simp)) (h.alloc _) (by simp [ints]; omega) (by simp) ?_; intro t2 w2 hown2 hg2)
    go_ret
    exact ⟨_, rfl, hown2, below_app (Below.refl _ _) (below_alloc _ _) (Own.ilit (k := .u8) [] [] rfl (Nat.le_refl _) (by simp)) hg2⟩
/-- The row that the call owns holds xs; nothing else is written. -/
def SetQ (k : IntKind) (E : TypeId) (B g N cap : Nat) (w : World) (xs : List Int) (w' : World) : Prop := Own B E w' (.slice (some ⟨g, 0, none⟩) N cap) (ints k xs) ∧ w.grownBy w' (some g)
theorem SetQ.drew {k : IntKind} {E : TypeId} {B g N cap : Nat} {w w' : World} {xs : List Int} (h : SetQ k E B g N cap w xs w') : SetQ k E B g N cap w xs w'.drew := ⟨h.1.drew, grown_trans h.2 (grown_drew _ _)⟩
theorem SetQ.set {k : IntKind} {E : TypeId} {B g N cap : Nat} {w w' : World} {xs : List Int} (h : SetQ k E B g N cap w xs w') (j : Nat) (x : Int) : SetQ k E B g N cap w (xs.set j x) (w'.setCell ⟨g, j, none⟩ (.int k x)) :=
  ⟨by have := h.1.set j (.int k x) rfl; rwa [ints_set] at this, grown_trans h.2 (grown_set _ _ _ _)⟩
theorem SetQ.cell {k : IntKind} {E : TypeId} {B g N cap : Nat} {w w' : World} {xs : List Int} (h : SetQ k E B g N cap w xs w') {j : Nat} {x : Int} (hx : xs[j]? = some x) : w'.cell? ⟨g, j, none⟩ = some (.int k x) := h.1.cell (by rw [ints_get, hx]; rfl)
end Go.Proofs.YtnoffalohplhnaaDoor
namespace Go.Proofs.YtnoffalohplhnaaDoor
open Go.RowKit
/-- make([]T, n). -/
theorem wpList_mkn {P : Program} {w : World} {ops : Array Oper} {rest : List Oper} {o : Oper} {a : Act} {Q : Exit → Act → World → Prop} (t e : TypeId) (z : Value) (bytes : Nat) (ht : P.underlying t = some (.slice e))
    (hinfo : (P.info? e).map (fun i => (i.zero, i.size, i.bytes)) = some (some z, 1, bytes)) (hz1 : z.cells = #[z]) (hzc : z.oneCell' = true) (hby : bytes ≤ 64) (l c : Operand)
    (hg : Region.wanted o (yielded ops a.tmps) = true) (ho : o.op = .makeSlice t l c) {kl kc : IntKind} {n : Nat} (hl : a.eval l = .int kl n) (hc : a.eval c = .int kc n) (hn : n ≤ 1000000)
    (h : ∀ w', Own w.heap.size e w' (.slice (some ⟨w.heap.size, 0, none⟩) n n) (List.replicate n z) → Below w.heap.size w w' → wpList P ops Q rest (a.put o.dst (.slice (some ⟨w.heap.size, 0, none⟩) n n)) w') : wpList P ops Q (o :: rest) a w := by
  have h3 : bytes * n ≤ 64 * 1000000 := Nat.mul_le_mul hby hn
  have hr := run_make_row' (P := P) t e z bytes ht hinfo hz1 kl kc n (by omega) (by omega) w
  have hm : madeCells #[z] n = (List.replicate n z).toArray := Array.toList_inj.1 (by rw [toList_madeCells_one])
  rw [hm] at hr
  have hown := Own.lit (w := w) (E := e) (B := w.heap.size) (List.replicate n z) (fun u hu => by rw [(List.mem_replicate.1 hu).2]; exact hzc) (Nat.le_refl _) (by rw [List.length_replicate]; omega)
  rw [List.length_replicate] at hown
  refine wpList_wanted hg ?_
  unfold Oper.wp
  simp [execOp, ho, hl, hc, hr, Result.andThen]
  exact h _ (by simpa using hown) (below_alloc w _)
theorem ints_replicate (k : IntKind) (n : Nat) (x : Int) : ints k (List.replicate n x) = List.replicate n (.int k x) := by simp [ints]
/-- Filled up to k: the first ones, then what was there. -/
theorem fill_step {xs ys : List Int} (g : Int → Int) {k : Nat} {x : Int} (hx : xs[k]? = some x) (hl : ys.length = xs.length) : ((xs.take k).map g ++ ys.drop k).set k (g x) = (xs.take (k + 1)).map g ++ ys.drop (k + 1) := by
  obtain ⟨h1, h2⟩ := List.getElem?_eq_some_iff.1 hx
  have hlen : ((xs.take k).map g).length = k := by rw [List.length_map, List.length_take]; omega
  have h3 : k < ys.length := by omega
  rw [List.set_append_right _ _ (by omega), hlen, Nat.sub_self, List.drop_eq_getElem_cons h3, List.set_cons_zero, List.take_add_one, hx, List.map_append, List.append_assoc]; rfl
theorem fill_all {xs ys : List Int} (g : Int → Int) (hl : ys.length = xs.length) : (xs.take xs.length).map g ++ ys.drop xs.length = xs.map g := by
  rw [List.take_length, List.drop_eq_nil_of_le (by omega), List.append_nil]
theorem fill_get {xs ys : List Int} (g : Int → Int) {k : Nat} (hk : k < xs.length) (hl : ys.length = xs.length) : ∃ y, ((xs.take k).map g ++ ys.drop k)[k]? = some y ∧ ys[k]? = some y := by
  have hlen : ((xs.take k).map g).length = k := by rw [List.length_map, List.length_take]; omega
  refine ⟨ys[k]'(by omega), ?_, List.getElem?_eq_getElem _⟩
  rw [List.getElem?_append_right (by omega), hlen, Nat.sub_self, List.getElem?_drop, Nat.add_zero, List.getElem?_eq_getElem]
theorem Row.formN0 {w : World} {v : Value} {cs : List Value} (h : Row w v cs) {n : Nat} (hn : cs.length = n) : ∃ a c, v = .slice a n c := by
  obtain ⟨a, _, _, c, hv, _⟩ := h
  exact ⟨a, c, by rw [hv, hn]⟩
end Go.Proofs.YtnoffalohplhnaaDoor
namespace Go.Proofs.YtnoffalohplhnaaDoor
open Go.RowKit
theorem Own.storeS {B : Nat} {E : TypeId} {w : World} {g cap : Nat} {cs : List Value} (h : Own B E w (.slice (some ⟨g, 0, none⟩) cs.length cap) cs) (j : Nat) (u : Value) (hu : u.oneCell' = true) :
    Own B E (w.setCell ⟨g, j, none⟩ u) (.slice (some ⟨g, 0, none⟩) cs.length cap) (cs.set j u) ∧ w.grownBy (w.setCell ⟨g, j, none⟩ u) (some g) := by
  have := h.1.stored j u
  refine ⟨⟨?_, fun x hx => ?_⟩, this.2⟩
  · have h1 := this.1
    rw [show (cs.set j u).length = cs.length by simp]
    exact h1
  · rcases List.mem_or_eq_of_mem_set hx with hx | rfl
    · exact h.2 x hx
    · exact hu
theorem Own.storeN {B : Nat} {E : TypeId} {w : World} {g n cap : Nat} {cs : List Value} (h : Own B E w (.slice (some ⟨g, 0, none⟩) n cap) cs) (j : Nat) (u : Value) (hu : u.oneCell' = true) :
    Own B E (w.setCell ⟨g, j, none⟩ u) (.slice (some ⟨g, 0, none⟩) n cap) (cs.set j u) ∧ w.grownBy (w.setCell ⟨g, j, none⟩ u) (some g) := by
  have hl : n = cs.length := by
    obtain ⟨_, _, _, _, hv, _⟩ := h.row
    cases hv; rfl
  subst hl
  exact Own.storeS h j u hu
/-- The slices vs, of the world w, hold the octets ps. -/
def Pvs (w : World) (vs : List Value) (ps : List (List Int)) : Prop :=
  vs.length = ps.length ∧ ∀ (i : Nat) (v : Value) (p : List Int), vs[i]? = some v → ps[i]? = some p → Row w v (ints .u8 p)
theorem Pvs.nil (w : World) : Pvs w [] [] := ⟨rfl, by simp⟩
theorem Pvs.below {w w' : World} {vs : List Value} {ps : List (List Int)} (h : Pvs w vs ps) (hb : Below w.heap.size w w') : Pvs w' vs ps :=
  ⟨h.1, fun i v p h1 h2 => (h.2 i v p h1 h2).below hb⟩
theorem Pvs.snoc {w : World} {vs : List Value} {ps : List (List Int)} {v : Value} {p : List Int} (h : Pvs w vs ps) (hv : Row w v (ints .u8 p)) : Pvs w (vs ++ [v]) (ps ++ [p]) := by
  refine ⟨by simp [h.1], fun i u q h1 h2 => ?_⟩
  rcases Nat.lt_or_ge i vs.length with hi | hi
  · rw [List.getElem?_append_left hi] at h1
    rw [List.getElem?_append_left (by rw [← h.1]; exact hi)] at h2
    exact h.2 i u q h1 h2
  · rw [List.getElem?_append_right hi] at h1
    rw [List.getElem?_append_right (by rw [← h.1]; exact hi), ← h.1] at h2
    cases hk : i - vs.length with
    | zero => rw [hk] at h1 h2; simp at h1 h2; subst h1 h2; exact hv
    | succ n => rw [hk] at h1; simp at h1
theorem Pvs.get {w : World} {vs : List Value} {ps : List (List Int)} (h : Pvs w vs ps) {i : Nat} (hi : i < vs.length) : ∃ v p, vs[i]? = some v ∧ ps[i]? = some p ∧ Row w v (ints .u8 p) := by
  have h1 := List.getElem?_eq_getElem hi
  have h2 := List.getElem?_eq_getElem (show i < ps.length by rw [← h.1]; exact hi)
  exact ⟨_, _, h1, h2, h.2 i _ _ h1 h2⟩
/-- A fill: the first ones, then what was there. -/
theorem set_fill {vs : List Value} {z v : Value} {m : Nat} : (vs ++ List.replicate (m + 1) z).set vs.length v = (vs ++ [v]) ++ List.replicate m z := by
  rw [List.set_append_right _ _ (Nat.le_refl _), Nat.sub_self, List.replicate_succ, List.set_cons_zero]
  simp
end Go.Proofs.YtnoffalohplhnaaDoor
