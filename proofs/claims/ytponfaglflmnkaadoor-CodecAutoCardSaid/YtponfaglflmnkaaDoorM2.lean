/- Walks: are two lists the same? · Walks: the first that is no scalar value. · The toolkit, more: a whole array stored into the block made for it. · Walks: windows-1252. · Walks: windows-1252, the reference; texts. · Walks: repertoires: has a charset a number? (laid together by program out of single texts). -/
import Derived.Deep.MidRow
import Derived.Lib.SlBytesConst
import Derived.Test.YtponfaglflmnkaaDoorM1
namespace Go.Proofs.YtponfaglflmnkaaDoor
open Go.RowKit
set_option maxHeartbeats 400000
set_option maxRecDepth 100000 in
theorem like1_any (v1 v2 : Value) (xs ys : List Int) (w : World) (h1 : Row w v1 (ints .u8 xs)) (h2 : Row w v2 (ints .u8 ys)) (hl : xs.length ≤ 1000000000) (hl' : ys.length ≤ 1000000000) :
    Calls Tryd.prog 7 #[v1, v2] w fun e w' => e = .returned (.bool (decide (xs = ys))) ∧ Below w.heap.size w w' := by
  obtain ⟨a1, b1, o1, c1, rfl, HC1⟩ := h1.op
  obtain ⟨a2, b2, o2, c2, rfl, HC2⟩ := h2.op
  clear h1 h2
  by_cases hn : xs.length = ys.length
  · have hne : ((xs.length : Int) != (ys.length : Int)) = false := by simp [hn]
    have HN := Lib.hid hn; clear hn
    go_enter Tryd.func7, Tryd.ntmps7
    go_wp2
    clear hne
    go_loopw [5] (fun i wr => ∃ k : Nat, k ≤ xs.length ∧ i = .int .i64 k ∧ Hid (xs.take k = ys.take k) ∧ Below w.heap.size w wr) (fun i _ => xs.length - (intOf i).toNat)
    case atStart => exact ⟨0, Nat.zero_le _, rfl, rfl, Below.refl _ _⟩
    case round =>
      obtain ⟨k, hk, rfl, HT, hb⟩ := hrel
      by_cases hlt : k < xs.length
      · have hlt2 : k < ys.length := by have := HN.out; omega
        obtain ⟨x, HX, rfl, hc⟩ := HC1.out k hlt
        obtain ⟨y, HY, rfl, hd⟩ := HC2.out k hlt2
        replace hc := hc wr hb
        replace hd := hd wr hb
        by_cases hxy : x = y
        · subst hxy
          go_wp2_with fail
          go_quiet (fail)
          go_wp2
          go_roundw
          case rel => exact ⟨k + 1, by omega, by go_num, (by rw [List.take_add_one, List.take_add_one, HX.out, HY.out, HT.out] : xs.take (k + 1) = ys.take (k + 1)), below_drewN hb _⟩
          case measure => simp [intOf]; omega
        · have hne : (x != y) = true := by simpa using hxy
          go_wp2_with fail
          go_quiet (fail)
          go_wp2
          go_ret
          refine ⟨ret_bool (decide_eq_false ?_).symm, below_drewN hb _⟩
          intro he
          subst he
          exact hxy (Option.some.inj (HX.out.symm.trans HY.out))
      · go_wp2
        go_ret
        refine ⟨ret_bool (decide_eq_true ?_).symm, hb⟩
        have := HT.out
        rwa [List.take_of_length_le (by omega), List.take_of_length_le (by have := HN.out; omega)] at this
  · have hne : ((xs.length : Int) != (ys.length : Int)) = true := by rw [bne_iff_ne]; omega
    have HN := Lib.hid hn; clear hn
    go_enter Tryd.func7, Tryd.ntmps7
    go_wp2
    go_ret
    exact ⟨ret_bool (decide_eq_false (fun h => HN.out (by rw [h]))).symm, Below.refl _ _⟩
set_option maxRecDepth 100000 in
theorem like3_any (v1 v2 : Value) (xs ys : List Int) (w : World) (h1 : Row w v1 (ints .i32 xs)) (h2 : Row w v2 (ints .i32 ys)) (hl : xs.length ≤ 1000000000) (hl' : ys.length ≤ 1000000000) :
    Calls Tryd.prog 8 #[v1, v2] w fun e w' => e = .returned (.bool (decide (xs = ys))) ∧ Below w.heap.size w w' := by
  obtain ⟨a1, b1, o1, c1, rfl, HC1⟩ := h1.op
  obtain ⟨a2, b2, o2, c2, rfl, HC2⟩ := h2.op
  clear h1 h2
  by_cases hn : xs.length = ys.length
  · have hne : ((xs.length : Int) != (ys.length : Int)) = false := by simp [hn]
    have HN := Lib.hid hn; clear hn
    go_enter Tryd.func8, Tryd.ntmps8
    go_wp2
    clear hne
    go_loopw [5] (fun i wr => ∃ k : Nat, k ≤ xs.length ∧ i = .int .i64 k ∧ Hid (xs.take k = ys.take k) ∧ Below w.heap.size w wr) (fun i _ => xs.length - (intOf i).toNat)
    case atStart => exact ⟨0, Nat.zero_le _, rfl, rfl, Below.refl _ _⟩
    case round =>
      obtain ⟨k, hk, rfl, HT, hb⟩ := hrel
      by_cases hlt : k < xs.length
      · have hlt2 : k < ys.length := by have := HN.out; omega
        obtain ⟨x, HX, rfl, hc⟩ := HC1.out k hlt
        obtain ⟨y, HY, rfl, hd⟩ := HC2.out k hlt2
        replace hc := hc wr hb
        replace hd := hd wr hb
        by_cases hxy : x = y
        · subst hxy
          go_wp2_with fail
          go_quiet (fail)
          go_wp2
          go_roundw
          case rel => exact ⟨k + 1, by omega, by go_num, (by rw [List.take_add_one, List.take_add_one, HX.out, HY.out, HT.out] : xs.take (k + 1) = ys.take (k + 1)), below_drewN hb _⟩
          case measure => simp [intOf]; omega
        · have hne : (x != y) = true := by simpa using hxy
          go_wp2_with fail
          go_quiet (fail)
          go_wp2
          go_ret
          refine ⟨ret_bool (decide_eq_false ?_).symm, below_drewN hb _⟩
          intro he
          subst he
          exact hxy (Option.some.inj (HX.out.symm.trans HY.out))
      · go_wp2
        go_ret
        refine ⟨ret_bool (decide_eq_true ?_).symm, hb⟩
        have := HT.out
        rwa [List.take_of_length_le (by omega), List.take_of_length_le (by have := HN.out; omega)] at this
  · have hne : ((xs.length : Int) != (ys.length : Int)) = true := by rw [bne_iff_ne]; omega
    have HN := Lib.hid hn; clear hn
    go_enter Tryd.func8, Tryd.ntmps8
    go_wp2
    go_ret
    exact ⟨ret_bool (decide_eq_false (fun h => HN.out (by rw [h]))).symm, Below.refl _ _⟩
end Go.Proofs.YtponfaglflmnkaaDoor
namespace Go.Proofs.YtponfaglflmnkaaDoor
open Go.RowKit
set_option maxHeartbeats 400000

/-- int32. -/
def R32 (xs : List Int) : Prop := ∀ x ∈ xs, -2147483648 ≤ x ∧ x ≤ 2147483647
theorem R32.get {xs : List Int} (h : R32 xs) {i : Nat} {x : Int} (hx : xs[i]? = some x) : -2147483648 ≤ x ∧ x ≤ 2147483647 := h x (List.mem_of_getElem? hx)

/-- A call of f enters f. -/
def Fnc (f : Nat) : Prop := ∀ args w, Sem.run Tryd.prog (callFunc f args) w = .ok (.enter f args) w
theorem indexFunc_any (f : Nat) (hf : Fnc f) (p : Int → Bool) (hp : Hid (∀ c w, -2147483648 ≤ c → c ≤ 2147483647 → Calls Tryd.prog f #[.int .i32 c] w fun e w' => e = .returned (.bool (p c)) ∧ w = w'))
    (v : Value) (xs : List Int) (w : World) (h : Row w v (ints .i32 xs)) (hr : R32 xs) (hl : xs.length ≤ 1000000000) :
    Calls Tryd.prog 72 #[v, .func (Fn.func f) #[] #[]] w fun e w' => e = .returned (.int .i64 (idx p xs)) ∧ w = w' := by
  obtain ⟨a, b, off, cap, rfl, HC⟩ := h.op
  clear h
  unfold Fnc at hf
  go_enter Tryd.func72, Tryd.ntmps72
  go_wp2
  go_loop [8] (fun i => ∃ k : Nat, k ≤ xs.length ∧ i = .int .i64 k ∧ Hid (∀ y ∈ xs.take k, p y = false)) (fun i => xs.length - (intOf i).toNat)
  case atStart => exact ⟨0, Nat.zero_le _, rfl, fun y hy => by simp at hy⟩
  case round =>
    obtain ⟨k, hk, rfl, hall⟩ := hrel
    by_cases hlt : k < xs.length
    · obtain ⟨x, HX, rfl, hc⟩ := HC.out k hlt
      replace hc := hc w (Below.refl _ _)
      have hxr := hr.get HX.out
      by_cases hs : p x = true
      · go_wp2_with (refine (hp.out _ _ hxr.1 hxr.2).mono ?_; rintro e w' ⟨rfl, rfl⟩)
        go_ret
        exact ⟨ret_int (by rw [idx_at hall.out HX.out hs]), rfl⟩
      · replace hs : p x = false := by simpa using hs
        go_wp2_with (refine (hp.out _ _ hxr.1 hxr.2).mono ?_; rintro e w' ⟨rfl, rfl⟩)
        go_round
        case rel => exact ⟨k + 1, by omega, by go_num, take_succ_all hall.out HX.out hs⟩
        case measure => simp [intOf]; omega
    · go_wp2
      go_ret
      exact ⟨ret_int (by rw [idx_none (fun y hy => hall.out y (by rw [List.take_of_length_le (by omega)]; exact hy))]), rfl⟩

theorem first1_fnc : Fnc 73 := fun args w => by kernel_rfl
theorem first1_any (c : Int) (w : World) (h1 : -2147483648 ≤ c) (h2 : c ≤ 2147483647) :
    Calls Tryd.prog 73 #[.int .i32 c] w fun e w' => e = .returned (.bool (!scB c)) ∧ w = w' := by
  go_enter Tryd.func73, Tryd.ntmps73
  go_wp2_with (go_at_call 63; refine (is_any _ _ h1 h2).mono ?_; rintro e w' ⟨rfl, rfl⟩)
  go_ret
  exact ⟨rfl, rfl⟩
theorem first_any (v : Value) (xs : List Int) (w : World) (h : Row w v (ints .i32 xs)) (hr : R32 xs) (hl : xs.length ≤ 1000000000) :
    Calls Tryd.prog 55 #[v] w fun e w' => e = .returned (.int .i64 (idx (fun c => !scB c) xs)) ∧ w = w' := by
  go_enter Tryd.func55, Tryd.ntmps55
  go_wp2_with (go_at_call 72; refine (indexFunc_any _ first1_fnc _ (fun c w h1 h2 => first1_any c w h1 h2) _ _ _ h hr hl).mono ?_; rintro e w' ⟨rfl, rfl⟩)
  go_ret
  exact ⟨rfl, rfl⟩
/-- All scalar values. -/
def allSc (xs : List Int) : Bool := xs.all scB
theorem idx_allSc (xs : List Int) : (idx (fun c => !scB c) xs == -1) = allSc xs := by
  by_cases h : allSc xs = true
  · rw [idx_none (fun y hy => by simp [List.all_eq_true.1 h y hy]), h]; rfl
  · have hf : allSc xs = false := by simpa using h
    obtain ⟨y, hy, hny⟩ := List.all_eq_false.1 hf
    have : ∃ i, xs.findIdx? (fun c => !scB c) = some i := by
      cases hc : xs.findIdx? (fun c => !scB c) with
      | some i => exact ⟨i, rfl⟩
      | none => rw [List.findIdx?_eq_none_iff] at hc; have := hc y hy; simp at this; exact absurd this hny
    obtain ⟨i, hi⟩ := this
    rw [hf, idx, hi]
    simp
theorem right_any (v : Value) (xs : List Int) (w : World) (h : Row w v (ints .i32 xs)) (hr : R32 xs) (hl : xs.length ≤ 1000000000) :
    Calls Tryd.prog 38 #[v] w fun e w' => e = .returned (.bool (allSc xs)) ∧ w = w' := by
  go_enter Tryd.func38, Tryd.ntmps38
  go_wp2_with (go_at_call 55; refine (first_any _ _ _ h hr hl).mono ?_; rintro e w' ⟨rfl, rfl⟩)
  go_ret
  exact ⟨ret_bool (idx_allSc xs), rfl⟩

theorem idx_neg (xs : List Int) (p : Int → Bool) : -1 ≤ idx p xs := by unfold idx; split <;> omega
theorem allSc_idx {xs : List Int} : allSc xs = decide (idx (fun c => !scB c) xs < 0) := by
  rw [← idx_allSc]; have := idx_neg xs (fun c => !scB c)
  rw [Bool.eq_iff_iff, beq_iff_eq, decide_eq_true_iff]; omega

theorem scB_32 {xs : List Int} (h : allSc xs = true) : R32 xs := fun x hx => by
  have := scB_iff.1 (List.all_eq_true.1 h x hx); omega
theorem idx_none_sc {xs : List Int} (h : allSc xs = true) : idx (fun c => !scB c) xs = -1 := idx_none (fun y hy => by simp [List.all_eq_true.1 h y hy])

theorem WF.u16 {xs : List Int} (h : WF .u16 xs) : Rg 0 65536 xs := fun x hx => wf_u16 (h x hx)
theorem WF.u8 {xs : List Int} (h : WF .u8 xs) : Rg 0 256 xs := fun x hx => wf_u8 (h x hx)
theorem WF.i32 {xs : List Int} (h : WF .i32 xs) : R32 xs := fun x hx => wf_i32 (h x hx)
theorem WF.b {xs : List Int} (h : WF .u8 xs) : Rg 0 256 xs := fun x hx => wf_u8 (h x hx)
theorem WF.get {k : IntKind} {xs : List Int} (h : WF k xs) {i : Nat} {x : Int} (hx : xs[i]? = some x) : (Lit.int k x).wf = true := h x (List.mem_of_getElem? hx)
end Go.Proofs.YtponfaglflmnkaaDoor
namespace Go.Proofs.YtponfaglflmnkaaDoor
open Go.RowKit

theorem setCells_new (w : World) (ty : TypeId) : ∀ (vs done Z : List Value), Z.length = vs.length →
    (w.alloc (.cells (done ++ Z).toArray ty)).setCells w.heap.size done.length vs = w.alloc (.cells (done ++ vs).toArray ty)
  | [], done, Z, h => by obtain rfl : Z = [] := List.eq_nil_of_length_eq_zero h; rfl
  | v :: vs, done, [], h => by simp at h
  | v :: vs, done, z :: Z, h => by
    rw [World.setCells, World.setCell_alloc_at _ _ _ _ _ rfl]
    have hs : (done ++ z :: Z).toArray.setIfInBounds done.length v = ((done ++ [v]) ++ Z).toArray := by
      simp
    rw [hs]
    have := setCells_new w ty vs (done ++ [v]) Z (by simpa using h)
    simp only [List.length_append, List.length_cons, List.length_nil] at this
    rw [this]
    simp
theorem wpList_store_new {P : Program} {w : World} {ops : Array Oper} {rest : List Oper} {o : Oper} {a : Act} {Q : Exit → Act → World → Prop} (hgd : o.guard = none) (ty ty' : TypeId) (x y : Operand) (ho : o.op = .store ty x y)
    (cs Z : List Value) (hx : a.eval x = .pointer (some ⟨w.heap.size, 0, none⟩)) (hy : a.eval y = .agg cs.toArray) (hi : (P.info? ty).map (·.size) = some cs.length) (h1 : ∀ u ∈ cs, u.oneCell' = true) (hz : Z.length = cs.length)
    (h : wpList P ops Q rest (a.put o.dst undef) (w.alloc (.cells cs.toArray ty'))) : wpList P ops Q (o :: rest) a (w.alloc (.cells Z.toArray ty')) := by
  refine wpList_store_mid hgd ty x y ho w.heap.size 0 cs.toArray hx hy ?_ (by simpa using hi) (all_oneCell_toArray h1) ?_
  · intro j hj
    have hj' : j < Z.length := by simp at hj; omega
    have hc := cell_of_row (w.alloc (.cells Z.toArray ty')) w.heap.size (0 + j) Z.toArray ty' (0, 0) (heap_alloc_new w _)
    refine ⟨by rw [hc]; simp [List.getElem?_eq_getElem hj'], ?_⟩
    unfold World.frozen?
    rw [heap_alloc_new w _]
    simp
  · have := setCells_new w ty' cs [] Z hz
    simp only [List.nil_append, List.length_nil] at this
    rw [show cs.toArray.toList = cs by simp, this]
    exact h

/-- An array or a struct made whole. -/
theorem wpList_build {P : Program} {w : World} {ops : Array Oper} {rest : List Oper} {o : Oper} {a : Act} {Q : Exit → Act → World → Prop} (hg : Region.wanted o (yielded ops a.tmps) = true) (t : TypeId) (parts : Array (Nat × Operand)) (_ho : o.op = .build t parts)
    (v : Value) (hr : (execOp a.eval o).run P w = .ok (.value v) w) (h : wpList P ops Q rest (a.put o.dst v) w) : wpList P ops Q (o :: rest) a w := by
  refine wpList_wanted hg ?_
  unfold Oper.wp
  rw [hr]
  exact h

/-- A long slice literal. -/
theorem wpList_bslice {P : Program} {w : World} {ops : Array Oper} {rest : List Oper} {o : Oper} {a : Act} {Q : Exit → Act → World → Prop} (hg : Region.wanted o (yielded ops a.tmps) = true) (t : TypeId) (n : Nat) (parts : Array (Nat × Operand)) (_ho : o.op = .buildSlice t n parts)
    (cs : List Value) (E : TypeId) (m : Nat) (_hm : cs.length = m) (hr : (execOp a.eval o).run P w = .ok (.value (.slice (some ⟨w.heap.size, 0, none⟩) m m)) (w.alloc (.cells cs.toArray E)))
    (h : wpList P ops Q rest (a.put o.dst (.slice (some ⟨w.heap.size, 0, none⟩) m m)) (w.alloc (.cells cs.toArray E))) : wpList P ops Q (o :: rest) a w := by
  refine wpList_wanted hg ?_
  unfold Oper.wp
  rw [hr]
  exact h
theorem hidC {k : IntKind} {w : World} {g n cap : Nat} {xs : List Int} (h : Row w (.slice (some ⟨g, 0, none⟩) n cap) (ints k xs)) (i : Nat) (hi : i < xs.length) {x : Int} (hx : Hid (xs[i]? = some x)) :
    Hid (w.cell? ⟨g, i, none⟩ = some (.int k x)) := by
  obtain ⟨a, b, off, cap', hv, HC⟩ := h.op
  simp only [Value.slice.injEq] at hv
  obtain ⟨hv, _⟩ := hv
  subst hv
  obtain ⟨y, hy, he, hc⟩ := HC.out i hi
  simp only [Option.some.injEq, Addr.mk.injEq, and_true] at he
  obtain ⟨rfl, rfl⟩ := he
  have e := hy.out
  rw [hx.out] at e
  obtain rfl := Option.some.inj e
  have := hc w (Below.refl _ _)
  rwa [Nat.zero_add] at this

/-- make([]T, 0, n). -/
theorem wpList_mk {P : Program} {w : World} {ops : Array Oper} {rest : List Oper} {o : Oper} {a : Act} {Q : Exit → Act → World → Prop} {t E : TypeId} (hT : SlT P t E) (B : Nat) (l c : Operand)
    (hg : Region.wanted o (yielded ops a.tmps) = true) (ho : o.op = .makeSlice t l c) {kl kc : IntKind} {n : Nat} (hl : a.eval l = .int kl 0) (hc : a.eval c = .int kc n) (hn : n ≤ 1000000000) (hB : B ≤ w.heap.size)
    (h : ∀ v' w', Own B E w' v' [] → Below w.heap.size w w' → wpList P ops Q rest (a.put o.dst v') w') : wpList P ops Q (o :: rest) a w := by
  obtain ⟨ht, i, z, hi, hz, hsize, hby, hzs⟩ := hT
  have h3 : i.bytes * n ≤ 64 * 1000000000 := Nat.mul_le_mul hby hn
  obtain ⟨w', hr, hown, hgr⟩ := run_make_own (P := P) w B t E i z 1 ht hi hz hsize kl kc n (by omega) (by simp only [maxLen]; omega) hB
  refine wpList_wanted hg ?_
  unfold Oper.wp
  simp [execOp, ho, hl, hc, hr, Result.andThen]
  exact h _ w' ⟨hown, by simp⟩ ⟨hgr.os, hgr.tape, hgr.output, hgr.size, fun k hk => hgr.block k hk (by simp)⟩

theorem quiet_same {P : Program} {f : FuncId} {args : Array Value} {w : World} {n : Nat} {v : Value}
    (h : Calls P f args (w.drewN n) fun e w' => e = .returned v ∧ w.drewN n = w') : Calls P f args (w.drewN n) fun e w'' => e = .returned v ∧ ∃ m, w'' = w.drewN m :=
  h.mono fun _ _ ⟨he, hm⟩ => ⟨he, n, hm.symm⟩

/-- A literal whose end bears a mark (the bytes of a constant string). -/
theorem Row.flit {w : World} {E : TypeId} {k : IntKind} {f : Nat × Nat} (xs : List Int) (cs : List Value) (hx : ints k xs = cs) (hl : cs.length ≤ 1000000000) :
    Row (w.alloc (.cells cs.toArray E f)) (.slice (some ⟨w.heap.size, 0, none⟩) cs.length cs.length) (ints k xs) := by
  subst hx
  refine ⟨_, w.heap.size, 0, (ints k xs).length, rfl, Nat.le_refl _, by simp only [maxLen]; omega, .inl rfl, ints_one _ _, fun i u hu => ?_⟩
  rw [cell_of_row (w.alloc (.cells (ints k xs).toArray E f)) w.heap.size (0 + i) (ints k xs).toArray E f (heap_alloc_new w _)]
  simpa using hu
end Go.Proofs.YtponfaglflmnkaaDoor
namespace Go.Proofs.YtponfaglflmnkaaDoor
open Go.RowKit
set_option maxHeartbeats 400000

theorem others_any (w : World) : Calls Tryd.prog 53 #[] w fun e w' => ∃ v, e = .returned v ∧ Row w' v (ints .i32 othersL) ∧ Below w.heap.size w w' := by
  go_enter Tryd.func53, Tryd.ntmps53
  go_wp2_with (first | (refine wpList_build rfl _ _ rfl (.agg (ints .i32 othersL).toArray) (by kernel_rfl) ?_) | (refine wpList_store_new rfl _ _ _ _ rfl (ints .i32 othersL) (List.replicate 32 (.int .i32 0)) (by rfl) (by rfl) (by kernel_rfl) (ints_one _ _) (by rfl) ?_))
  go_ret
  exact ⟨_, rfl, Row.ilit othersL (ints .i32 othersL) rfl (by simp [ints, othersL]), below_alloc _ _⟩

theorem indexI_any (v : Value) (xs : List Int) (c : Int) (w : World) (h : Row w v (ints .i32 xs)) (hl : xs.length ≤ 1000000000) :
    Calls Tryd.prog 60 #[v, .int .i32 c] w fun e w' => e = .returned (.int .i64 (idx (fun y => c == y) xs)) ∧ w = w' := by
  obtain ⟨a, b, off, cap, rfl, HC⟩ := h.op
  clear h
  go_enter Tryd.func60, Tryd.ntmps60
  go_wp2
  go_loop [8] (fun i => ∃ k : Nat, k ≤ xs.length ∧ i = .int .i64 k ∧ Hid (∀ y ∈ xs.take k, (c == y) = false)) (fun i => xs.length - (intOf i).toNat)
  case atStart => exact ⟨0, Nat.zero_le _, rfl, fun y hy => by simp at hy⟩
  case round =>
    obtain ⟨k, hk, rfl, hall⟩ := hrel
    by_cases hlt : k < xs.length
    · obtain ⟨x, HX, rfl, hc⟩ := HC.out k hlt
      replace hc := hc w (Below.refl _ _)
      by_cases hs : (c == x) = true
      · go_wp2
        go_ret
        exact ⟨ret_int (by rw [idx_at hall.out HX.out hs]), rfl⟩
      · replace hs : (c == x) = false := by simpa using hs
        go_wp2
        go_round
        case rel => exact ⟨k + 1, by omega, by go_num, take_succ_all hall.out HX.out hs⟩
        case measure => simp [intOf]; omega
    · go_wp2
      go_ret
      exact ⟨ret_int (by rw [idx_none (fun y hy => hall.out y (by rw [List.take_of_length_le (by omega)]; exact hy))]), rfl⟩

theorem wPut_any (c : Int) (w : World) (h1 : -2147483648 ≤ c) (h2 : c ≤ 2147483647) :
    Calls Tryd.prog 42 #[.int .i32 c] w fun e w' => e = .returned (.tuple #[.int .u8 (wput c).1, .bool (wput c).2]) ∧ Below w.heap.size w w' := by
  by_cases ha : (0 ≤ c ∧ c < 128) ∨ (160 ≤ c ∧ c < 256)
  · rw [show wput c = (c, true) by rw [wput, if_pos ha]]
    rcases ha with ha | ha
    · go_enter Tryd.func42, Tryd.ntmps42
      go_wp2
      go_ret2
      exact ⟨rfl, Below.refl _ _⟩
    · go_enter Tryd.func42, Tryd.ntmps42
      go_wp2
      go_ret2
      exact ⟨rfl, Below.refl _ _⟩
  · by_cases hb : c < 256
    · rw [show wput c = (0, false) by rw [wput, if_neg ha, if_pos hb]]
      rcases (by omega : c < 0 ∨ (128 ≤ c ∧ c < 160)) with hc | hc
      · clear ha
        go_enter Tryd.func42, Tryd.ntmps42
        go_wp2
        go_ret2
        exact ⟨rfl, Below.refl _ _⟩
      · clear ha
        go_enter Tryd.func42, Tryd.ntmps42
        go_wp2
        go_ret2
        exact ⟨rfl, Below.refl _ _⟩
    · have hw : wput c = if idx (fun y => c == y) othersL < 0 then (0, false) else (128 + idx (fun y => c == y) othersL, true) := by rw [wput, if_neg ha, if_neg hb]
      rw [hw]
      have hi : idx (fun y => c == y) othersL < 32 := by
        rcases idx_spec (fun y => c == y) othersL with h4 | ⟨i, x, h4, h5, h6⟩
        · omega
        · have : i < 32 := (List.getElem?_eq_some_iff.1 h5).1
          omega
      have hI := fun v w' h' => indexI_any v othersL c w' h' (by simp [othersL])
      obtain ⟨q, hq⟩ : ∃ q, idx (fun y => c == y) othersL = q := ⟨_, rfl⟩
      rw [hq] at hI hi ⊢
      have HI := Lib.hid hI
      clear hI hq hw ha
      by_cases h0 : q < 0
      · rw [if_pos h0]
        go_enter Tryd.func42, Tryd.ntmps42
        go_wp2_with fail
        refine (others_any _).mono ?_
        rintro e w1 ⟨v, rfl, r, hb1⟩
        go_wp2_with fail
        refine (HI.out _ _ r).mono ?_
        rintro e w' ⟨rfl, rfl⟩
        go_wp2
        go_ret2
        exact ⟨rfl, hb1⟩
      · rw [if_neg h0]
        go_enter Tryd.func42, Tryd.ntmps42
        go_wp2_with fail
        refine (others_any _).mono ?_
        rintro e w1 ⟨v, rfl, r, hb1⟩
        go_wp2_with fail
        refine (HI.out _ _ r).mono ?_
        rintro e w' ⟨rfl, rfl⟩
        go_wp2
        go_ret2
        exact ⟨rfl, hb1⟩
theorem wHas_any (c : Int) (w : World) (h1 : -2147483648 ≤ c) (h2 : c ≤ 2147483647) :
    Calls Tryd.prog 59 #[.int .i32 c] w fun e w' => e = .returned (.bool (wput c).2) ∧ Below w.heap.size w w' := by
  go_enter Tryd.func59, Tryd.ntmps59
  go_wp2_with (go_at_call 42; refine (wPut_any _ _ h1 h2).mono ?_; rintro e w' ⟨rfl, hb⟩)
  go_ret
  exact ⟨rfl, hb⟩
theorem wSign_any (x : Int) (w : World) (h1 : 0 ≤ x) (h2 : x < 256) :
    Calls Tryd.prog 34 #[.int .u8 x] w fun e w' => e = .returned (.int .i32 (wsign x)) ∧ Below w.heap.size w w' := by
  by_cases ha : x < 128 ∨ 160 ≤ x
  · rw [show wsign x = x by rw [wsign, if_pos ha]]
    rcases ha with ha | ha
    · go_enter Tryd.func34, Tryd.ntmps34
      go_wp2
      go_ret
      exact ⟨rfl, Below.refl _ _⟩
    · go_enter Tryd.func34, Tryd.ntmps34
      go_wp2
      go_ret
      exact ⟨rfl, Below.refl _ _⟩
  · obtain ⟨i, rfl⟩ : ∃ i : Nat, x = 128 + (i : Int) := ⟨(x - 128).toNat, by omega⟩
    have hi : i < 32 := by omega
    have hs := others_sign ⟨i, hi⟩
    have hw : wsign (128 + (i : Int)) = othersR.getD i 0 := by rw [wsign, if_neg ha, show (128 + (i : Int) - 128).toNat = i by omega]
    rw [hw, hs]
    obtain ⟨y, hy⟩ : ∃ y, othersL[i]? = some y := ⟨_, List.getElem?_eq_getElem hi⟩
    rw [show othersL.getD i 0 = y by simp [List.getD, hy]]
    have HY := Lib.hid hy
    have hk : 128 + (i : Int) - 128 = i := by omega
    clear hs hw hy
    have h1' : ¬ (128 + (i : Int)) < 128 := by omega
    have h2' : ¬ (160 : Int) ≤ 128 + (i : Int) := by omega
    clear ha
    by_cases h0 : y = 0
    · subst h0
      rw [if_pos rfl]
      go_enter Tryd.func34, Tryd.ntmps34
      go_wp2_with fail
      refine (others_any _).mono ?_
      rintro e w1 ⟨v, rfl, r, hb1⟩
      obtain ⟨a, b, off, cap, rfl, HC⟩ := r.op
      obtain ⟨z, HZ, rfl, hc⟩ := HC.out i hi
      obtain rfl : z = 0 := by have := HZ.out; rw [HY.out] at this; exact (Option.some.inj this).symm
      replace hc := hc _ (Below.refl _ _)
      have hlt : i < othersL.length := hi
      go_wp2
      go_ret
      exact ⟨rfl, hb1⟩
    · rw [if_neg h0]
      have hne : (y != 0) = true := by simpa using h0
      clear h0
      go_enter Tryd.func34, Tryd.ntmps34
      go_wp2_with fail
      refine (others_any _).mono ?_
      rintro e w1 ⟨v, rfl, r, hb1⟩
      obtain ⟨a, b, off, cap, rfl, HC⟩ := r.op
      obtain ⟨z, HZ, rfl, hc⟩ := HC.out i hi
      obtain rfl : z = y := by have := HZ.out; rw [HY.out] at this; exact (Option.some.inj this).symm
      replace hc := hc _ (Below.refl _ _)
      have hlt : i < othersL.length := hi
      go_wp2
      go_ret
      exact ⟨rfl, hb1⟩
end Go.Proofs.YtponfaglflmnkaaDoor
namespace Go.Proofs.YtponfaglflmnkaaDoor
open Go.RowKit
set_option maxHeartbeats 400000

set_option maxRecDepth 100000 in
theorem rwSign_any (x : Int) (w : World) (h1 : 0 ≤ x) (h2 : x < 256) :
    Calls Tryd.prog 69 #[.int .u8 x] w fun e w' => e = .returned (.int .i32 (wsign x)) ∧ Below w.heap.size w w' := by
  by_cases ha : x < 128 ∨ 160 ≤ x
  · rw [show wsign x = x by rw [wsign, if_pos ha]]
    rcases ha with ha | ha
    · go_enter Tryd.func69, Tryd.ntmps69
      go_wp2
      go_ret
      exact ⟨rfl, Below.refl _ _⟩
    · have hg : ¬ x < 128 := by omega
      have hg' : (159 : Int) < x := by omega
      go_enter Tryd.func69, Tryd.ntmps69
      go_wp2
      go_ret
      exact ⟨rfl, Below.refl _ _⟩
  · obtain ⟨i, rfl⟩ : ∃ i : Nat, x = 128 + (i : Int) := ⟨(x - 128).toNat, by omega⟩
    have hi : i < 32 := by omega
    have hw : wsign (128 + (i : Int)) = othersR.getD i 0 := by rw [wsign, if_neg ha, show (128 + (i : Int) - 128).toNat = i by omega]
    rw [hw]
    obtain ⟨y, hy⟩ : ∃ y, othersR[i]? = some y := ⟨_, List.getElem?_eq_getElem hi⟩
    rw [show othersR.getD i 0 = y by simp [List.getD, hy]]
    have HY := Lib.hid hy
    have hk : 128 + (i : Int) - 128 = i := by omega
    clear hw hy
    have h1' : ¬ (128 + (i : Int)) < 128 := by omega
    have h2' : ¬ (159 : Int) < 128 + (i : Int) := by omega
    clear ha
    have hc : (ints .i32 othersR)[i]? = some (.int .i32 y) := by rw [ints_get, HY.out]; rfl
    go_enter Tryd.func69, Tryd.ntmps69
    go_wp2_with (refine wpList_bslice rfl _ _ _ rfl (ints .i32 othersR) 21 32 (by rfl) (by kernel_rfl) ?_)
    go_wp2
    go_ret
    exact ⟨rfl, below_alloc _ _⟩

set_option maxRecDepth 100000 in
theorem rwPut_any (c : Int) (w : World) (_h1 : -2147483648 ≤ c) (_h2 : c ≤ 2147483647) :
    Calls Tryd.prog 50 #[.int .i32 c] w fun e w' => e = .returned (.tuple #[.int .u8 (wput c).1, .bool (wput c).2]) ∧ Below w.heap.size w w' := by
  go_enter Tryd.func50, Tryd.ntmps50
  go_wp2
  go_loopw [4] (fun i wr => ∃ k : Nat, i = .int .i64 k ∧ k ≤ 256 ∧ Hid (∀ n : Nat, n < k → wsign n ≠ c ∨ c = 65533) ∧ Below w.heap.size w wr) (fun i _ => 256 - (intOf i).toNat)
  case atStart => exact ⟨0, rfl, by omega, fun n hn => by omega, Below.refl _ _⟩
  case round =>
    obtain ⟨k, rfl, hk, HP, hb⟩ := hrel
    by_cases hlt : k < 256
    · by_cases hs : wsign k = c
      · by_cases hc : c = 65533
        · have hs' : (wsign k == c) = true := by simpa using hs
          have hc' : (c != 65533) = false := by simpa using hc
          have HS := Lib.hid hs; have HC := Lib.hid hc; clear hs hc
          go_wp2_with (go_at_call 69; refine (rwSign_any _ _ (by omega) (by omega)).mono ?_; rintro e w' ⟨rfl, hb1⟩)
          go_roundw
          case rel => exact ⟨k + 1, by go_num, by omega, fun n hn => .inr HC.out, below_trans hb hb1⟩
          case measure => simp [intOf]; omega
        · have hs' : (wsign k == c) = true := by simpa using hs
          have hc' : (c != 65533) = true := by simpa using hc
          have HF := Lib.hid (wput_found hlt hs hc)
          clear hs hc
          go_wp2_with (go_at_call 69; refine (rwSign_any _ _ (by omega) (by omega)).mono ?_; rintro e w' ⟨rfl, hb1⟩)
          go_ret2
          exact ⟨by rw [HF.out]; rfl, below_trans hb hb1⟩
      · have hs' : (wsign k == c) = false := by simpa using hs
        have HS := Lib.hid hs; clear hs
        go_wp2_with (go_at_call 69; refine (rwSign_any _ _ (by omega) (by omega)).mono ?_; rintro e w' ⟨rfl, hb1⟩)
        go_roundw
        case rel => exact ⟨k + 1, by go_num, by omega, fun n hn => (by
          rcases (by omega : n < k ∨ n = k) with h | rfl
          · exact HP.out n h
          · exact .inl HS.out), below_trans hb hb1⟩
        case measure => simp [intOf]; omega
    · obtain rfl : k = 256 := by omega
      have HF := Lib.hid (wput_none HP.out)
      go_wp2
      go_ret2
      exact ⟨by rw [HF.out]; rfl, hb⟩

/-- The first sign that the charset has not. -/
def wlacks (xs : List Int) : Int := idx (fun c => !(wput c).2) xs
theorem wlacks_at {xs : List Int} {k : Nat} {x : Int} (h : ∀ y ∈ xs.take k, (wput y).2 = true) (hx : xs[k]? = some x) (hp : (wput x).2 = false) : wlacks xs = k :=
  idx_at (fun y hy => by simp [h y hy]) hx (by simp [hp])
theorem wlacks_none {xs : List Int} (h : ∀ y ∈ xs, (wput y).2 = true) : wlacks xs = -1 := idx_none (fun y hy => by simp [h y hy])
def lackp (xs : List Int) (k : Nat) : Prop := ∀ y ∈ xs.take k, (wput y).2 = true
theorem lackp_0 (xs : List Int) : lackp xs 0 := fun y hy => by simp at hy
theorem lackp_succ {xs : List Int} {k : Nat} {x : Int} (h : lackp xs k) (hx : xs[k]? = some x) (hp : (wput x).2 = true) : lackp xs (k + 1) := take_succ_all h hx hp
theorem lackp_all {xs : List Int} {k : Nat} (h : lackp xs k) (hk : xs.length ≤ k) : wlacks xs = -1 := wlacks_none (fun y hy => h y (by rw [List.take_of_length_le hk]; exact hy))
theorem wLacks_any (v : Value) (xs : List Int) (w : World) (h : Row w v (ints .i32 xs)) (hr : WF .i32 xs) (hl : xs.length ≤ 1000000000) :
    Calls Tryd.prog 41 #[v] w fun e w' => e = .returned (.int .i64 (wlacks xs)) ∧ Below w.heap.size w w' := by
  obtain ⟨a, b, off, cap, rfl, HC⟩ := h.op
  clear h
  go_enter Tryd.func41, Tryd.ntmps41
  go_wp2
  go_loopw [7] (fun i wr => ∃ k : Nat, i = .int .i64 k ∧ k ≤ xs.length ∧ lackp xs k ∧ Below w.heap.size w wr) (fun i _ => xs.length - (intOf i).toNat)
  case atStart => exact ⟨0, rfl, by omega, lackp_0 _, Below.refl _ _⟩
  case round =>
    obtain ⟨k, rfl, hk, HP, hb⟩ := hrel
    by_cases hlt : k < xs.length
    · obtain ⟨x, HX, rfl, hc⟩ := HC.out k hlt
      replace hc := hc wr hb
      have hxr := wf_i32 (hr.get HX.out)
      by_cases hs : (wput x).2 = true
      · go_wp2_with (go_at_call 59; refine (wHas_any _ _ hxr.1 hxr.2).mono ?_; rintro e w' ⟨rfl, hb1⟩)
        go_roundw
        case rel => exact ⟨k + 1, by go_num, by omega, lackp_succ HP HX.out hs, below_trans hb hb1⟩
        case measure => simp [intOf]; omega
      · replace hs : (wput x).2 = false := by simpa using hs
        have HF := Lib.hid (wlacks_at HP HX.out hs)
        go_wp2_with (go_at_call 59; refine (wHas_any _ _ hxr.1 hxr.2).mono ?_; rintro e w' ⟨rfl, hb1⟩)
        go_ret
        exact ⟨ret_int (by rw [HF.out]), below_trans hb hb1⟩
    · have HF := Lib.hid (lackp_all HP (by omega))
      go_wp2
      go_ret
      exact ⟨ret_int (by rw [HF.out]), hb⟩
/-- A text laid: its octets, or the error. -/
def wlayR (xs : List Int) : List Int × Int := if wlacks xs < 0 then (xs.map fun c => (wput c).1, 0) else ([], 9)
def wlayL (xs : List Int) : List Int := xs.map fun c => (wput c).1
theorem wlayL_snoc {xs : List Int} {k : Nat} {x : Int} (h : xs[k]? = some x) : wlayL (xs.take (k + 1)) = wlayL (xs.take k) ++ [(wput x).1] := by
  simp [wlayL, List.take_add_one, h]
theorem wlayL_len (xs : List Int) : (wlayL xs).length = xs.length := by simp [wlayL]
theorem wLay_any (v : Value) (xs : List Int) (w : World) (h : Row w v (ints .i32 xs)) (hr : WF .i32 xs) (hl : xs.length ≤ 1000000) :
    Calls Tryd.prog 26 #[v] w fun e w' => ∃ t, e = .returned (.tuple #[t, .int .i64 (wlayR xs).2]) ∧ Own w.heap.size 5 w' t (ints .u8 (wlayR xs).1) ∧ Below w.heap.size w w' := by
  have hL := fun w' h' => wLacks_any v xs w' h' hr (by omega)
  obtain ⟨q, HQ⟩ : ∃ q, Hid (wlacks xs = q) := ⟨_, rfl⟩
  rw [HQ.out] at hL
  have HL := Lib.hid hL; clear hL
  obtain ⟨a, b, off, cap, rfl, HC⟩ := id h.op
  by_cases hq : q < 0
  · rw [show wlayR xs = (wlayL xs, 0) by rw [wlayR, HQ.out, if_pos hq]; rfl]
    have hq' : ¬ 0 ≤ q := by omega
    go_enter Tryd.func26, Tryd.ntmps26
    go_wp2_with (first | (go_at_call 41; refine (HL.out _ h).mono ?_; rintro e w1 ⟨rfl, hb1⟩) | (at_make; refine wpList_mk slT_u8 w.heap.size _ _ rfl rfl rfl rfl (by omega) hb1.size ?_; intro v2 w2 hown2 hb2))
    have hb := below_trans hb1 hb2
    clear hb1 hb2 hq hq' h
    go_loopw [4, 17] (fun u i wr => ∃ k : Nat, i = .int .i64 k ∧ k ≤ xs.length ∧ Own w.heap.size 5 wr u (ints .u8 (wlayL (xs.take k))) ∧ Below w.heap.size w wr) (fun _ i _ => xs.length - (intOf i).toNat)
    case atStart => exact ⟨0, rfl, Nat.zero_le _, hown2, hb⟩
    case round =>
      clear hown2 hb
      obtain ⟨k, rfl, hk, hown, hb⟩ := hrel
      by_cases hlt : k < xs.length
      · obtain ⟨x, HX, rfl, hc⟩ := HC.out k hlt
        replace hc := hc wr hb
        have hxr := wf_i32 (hr.get HX.out)
        have HU := Lib.hid (wlayL_snoc HX.out)
        have HLb : Hid ((ints .u8 (wlayL (xs.take k))).length + (ints .u8 [(wput x).1]).length ≤ 1000000000) := by
          have h1 := wlayL_len (xs.take k); rw [List.length_take] at h1; show _ ≤ _; simp only [ints_length, List.length_cons, List.length_nil]; omega
        go_wp2_with (first | (go_at_call 42; refine (wPut_any _ _ hxr.1 hxr.2).mono ?_; rintro e w1 ⟨rfl, hb1⟩) | (at_builtin; refine wpList_app slT_u8 _ _ _ rfl rfl rfl rfl ((hown.below hb1).alloc _) (Row.ilit [_] [_] rfl (by simp)) HLb.out (by have := below_size2 hb hb1; simp; omega) ?_; intro t2 w2 hown2 hg2))
        go_roundw
        case rel => exact ⟨k + 1, by go_num, by omega, by rw [HU.out, ints_append]; exact hown2, below_app hb (hb1.alloc hb1.size _) ((hown.below hb1).alloc _) hg2⟩
        case measure => simp [intOf]; omega
      · go_wp2
        go_ret2
        rw [List.take_of_length_le (by omega)] at hown
        exact ⟨_, rfl, hown, hb⟩
  · rw [show wlayR xs = ([], 9) by rw [wlayR, HQ.out, if_neg hq]]
    have hq' : 0 ≤ q := by omega
    go_enter Tryd.func26, Tryd.ntmps26
    go_wp2_with (first | (go_at_call 41; refine (HL.out _ h).mono ?_; rintro e w1 ⟨rfl, hb1⟩))
    go_ret2
    exact ⟨_, rfl, Own.nil _ _ _, hb1⟩
end Go.Proofs.YtponfaglflmnkaaDoor
namespace Go.Proofs.YtponfaglflmnkaaDoor
open Go.RowKit
set_option maxHeartbeats 1000000
/-- An octet, and whether there is one. -/
def PutP (b : Bool) (e : Ending) : Prop := ∃ x, e = .returned (.tuple #[.int .u8 x, .bool b])
theorem PutP.mk {b b' : Bool} {x : Int} (h : b = b') : PutP b (.returned (.tuple #[.int .u8 x, .bool b'])) := ⟨x, by rw [h]⟩
theorem laHas_any (c : Int) (w : World) (h1 : -2147483648 ≤ c) (h2 : c ≤ 2147483647) :
    Calls Tryd.prog 61 #[.int .i32 c] w fun e w' => e = .returned (.bool (oneB c)) ∧ w' = w := by
  have hw : IntKind.u32.wrap c = if c < 0 then c + 4294967296 else c := by simp only [IntKind.wrap_u32]; split <;> omega
  rcases Int.lt_or_le c 0 with hc | hc
  · rw [if_pos hc] at hw
    go_enter Tryd.func61, Tryd.ntmps61
    go_wp2
    go_ret
    exact ⟨ret_bool (by rw [oneB, decide_eq_decide]; omega), rfl⟩
  · rw [if_neg (by omega)] at hw
    go_enter Tryd.func61, Tryd.ntmps61
    go_wp2
    go_ret
    exact ⟨ret_bool (by rw [oneB, decide_eq_decide]; omega), rfl⟩
theorem rSign8_any (x : Int) (w : World) (h1 : 0 ≤ x) (h2 : x < 256) :
    Calls Tryd.prog 67 #[.int .u8 x] w fun e w' => e = .returned (.int .i32 x) ∧ w' = w := by
  have hw : IntKind.i32.wrap x = x := by rw [IntKind.wrap_i32]; omega
  go_enter Tryd.func67, Tryd.ntmps67
  go_wp2
  go_ret
  exact ⟨ret_int (by first | rfl | exact hw), rfl⟩
set_option maxRecDepth 100000 in
theorem rPut8_any (c : Int) (w : World) (_h1 : -2147483648 ≤ c) (_h2 : c ≤ 2147483647) :
    Calls Tryd.prog 48 #[.int .i32 c] w fun e w' => PutP (oneB c) e ∧ w' = w := by
  go_enter Tryd.func48, Tryd.ntmps48
  go_wp2
  go_loop [4] (fun i => ∃ k : Nat, i = .int .i64 k ∧ k ≤ 256 ∧ Hid (∀ n : Nat, n < k → (n : Int) ≠ c)) (fun i => 256 - (intOf i).toNat)
  case atStart => exact ⟨0, rfl, by omega, fun n hn => by omega⟩
  case round =>
    obtain ⟨k, rfl, hk, HP⟩ := hrel
    by_cases hlt : k < 256
    · by_cases hs : (k : Int) = c
      · subst hs
        have hs' : ((k : Int) == k) = true := by simp
        have hc' : ((k : Int) != 65533) = true := by simp; omega
        have hF : oneB (k : Int) = true := decide_eq_true (by omega)
        have HF := Lib.hid hF; clear hF
        go_wp2_with (go_at_call 67; refine (rSign8_any _ _ (by omega) (by omega)).mono ?_; rintro e w' ⟨rfl, hw⟩; obtain rfl := hw.symm)
        go_ret2
        exact ⟨PutP.mk HF.out, rfl⟩
      · have hs' : ((k : Int) == c) = false := by simpa using hs
        have HS := Lib.hid hs; clear hs
        go_wp2_with (go_at_call 67; refine (rSign8_any _ _ (by omega) (by omega)).mono ?_; rintro e w' ⟨rfl, hw⟩; obtain rfl := hw.symm)
        go_round
        case rel => exact ⟨k + 1, by go_num, by omega, fun n hn => (by
          rcases (by omega : n < k ∨ n = k) with h | rfl
          · exact HP.out n h
          · exact HS.out)⟩
        case measure => simp [intOf]; omega
    · have hF : oneB c = false := decide_eq_false fun h => by
        have := HP.out c.toNat (by omega)
        omega
      have HF := Lib.hid hF; clear hF
      go_wp2
      go_ret2
      exact ⟨PutP.mk HF.out, rfl⟩
set_option maxRecDepth 100000 in
theorem rSign9_any (x : Int) (w : World) (h1 : 0 ≤ x) (h2 : x < 256) :
    Calls Tryd.prog 68 #[.int .u8 x] w fun e w' => e = .returned (.int .i32 (sign9 x)) ∧ w' = w := by
  have hw : IntKind.i32.wrap x = x := by rw [IntKind.wrap_i32]; omega
  rcases Decidable.em (x = 164 ∨ x = 166 ∨ x = 168 ∨ x = 180 ∨ x = 184 ∨ x = 188 ∨ x = 189 ∨ x = 190) with h | h
  · rcases h with rfl | rfl | rfl | rfl | rfl | rfl | rfl | rfl
    all_goals
      go_enter Tryd.func68, Tryd.ntmps68
      go_wp2
      go_ret
      exact ⟨rfl, rfl⟩
  · have e : sign9 x = x := by
      rw [sign9, if_neg (by omega), if_neg (by omega), if_neg (by omega), if_neg (by omega), if_neg (by omega), if_neg (by omega), if_neg (by omega), if_neg (by omega)]
    rw [e]
    have e1 : (x == 164) = false := beq_false_of_ne (by omega)
    have e2 : (x == 166) = false := beq_false_of_ne (by omega)
    have e3 : (x == 168) = false := beq_false_of_ne (by omega)
    have e4 : (x == 180) = false := beq_false_of_ne (by omega)
    have e5 : (x == 184) = false := beq_false_of_ne (by omega)
    have e6 : (x == 188) = false := beq_false_of_ne (by omega)
    have e7 : (x == 189) = false := beq_false_of_ne (by omega)
    have e8 : (x == 190) = false := beq_false_of_ne (by omega)
    clear h e
    go_enter Tryd.func68, Tryd.ntmps68
    go_wp2
    go_ret
    exact ⟨ret_int (by first | rfl | exact hw), rfl⟩
set_option maxRecDepth 100000 in
theorem rPut9_any (c : Int) (w : World) (_h1 : -2147483648 ≤ c) (_h2 : c ≤ 2147483647) :
    Calls Tryd.prog 49 #[.int .i32 c] w fun e w' => PutP (nineB c) e ∧ w' = w := by
  go_enter Tryd.func49, Tryd.ntmps49
  go_wp2
  go_loop [4] (fun i => ∃ k : Nat, i = .int .i64 k ∧ k ≤ 256 ∧ Hid (∀ n : Nat, n < k → sign9 n ≠ c)) (fun i => 256 - (intOf i).toNat)
  case atStart => exact ⟨0, rfl, by omega, fun n hn => by omega⟩
  case round =>
    obtain ⟨k, rfl, hk, HP⟩ := hrel
    by_cases hlt : k < 256
    · by_cases hs : sign9 k = c
      · have hn := nine_sign ⟨k, hlt⟩
        have hF : nineB c = true := by rw [← hs]; exact hn.1
        have hs' : (sign9 k == c) = true := by simpa using hs
        have hc' : (c != 65533) = true := by rw [← hs]; simpa using hn.2
        have HF := Lib.hid hF
        clear hF hn hs
        go_wp2_with (go_at_call 68; refine (rSign9_any _ _ (by omega) (by omega)).mono ?_; rintro e w' ⟨rfl, hw⟩; obtain rfl := hw.symm)
        go_ret2
        exact ⟨PutP.mk HF.out, rfl⟩
      · have hs' : (sign9 k == c) = false := by simpa using hs
        have HS := Lib.hid hs; clear hs
        go_wp2_with (go_at_call 68; refine (rSign9_any _ _ (by omega) (by omega)).mono ?_; rintro e w' ⟨rfl, hw⟩; obtain rfl := hw.symm)
        go_round
        case rel => exact ⟨k + 1, by go_num, by omega, fun n hn => (by
          rcases (by omega : n < k ∨ n = k) with h | rfl
          · exact HP.out n h
          · exact HS.out)⟩
        case measure => simp [intOf]; omega
    · have hF : nineB c = false := nine_none fun n hn => HP.out n (by omega)
      have HF := Lib.hid hF; clear hF
      go_wp2
      go_ret2
      exact ⟨PutP.mk HF.out, rfl⟩
end Go.Proofs.YtponfaglflmnkaaDoor
