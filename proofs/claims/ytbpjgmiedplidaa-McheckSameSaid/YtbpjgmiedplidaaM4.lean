/- Walks: UTF-16, laying; octets. · Walks: UTF-16, octets. · Walks: kinds of octets: letters, digits and controls. · The toolkit, more: a whole array stored into the block made for it. · Walks: direct signs, seven bits. · Walks: seven bits. · Plain laws: UTF-16, laid and read. · Walks: the code of a run. · Plain: laying as seven bits. · Plain: what is laid is of seven bits; a text of direct signs is itself. · Walks: the reference's run. (laid together by program out of single texts). -/
import Derived.Deep.MidRow
import Derived.Lib.SlBytesConst
import Derived.Test.YtbpjgmiedplidaaM1
import Derived.Test.YtbpjgmiedplidaaM2
import Derived.Test.YtbpjgmiedplidaaM3
namespace Go.Proofs.Ytbpjgmiedplidaa
open Go.RowKit
set_option maxHeartbeats 400000

/-- The units of a text, or the error. -/
def ulayR (xs : List Int) : List Int × Int := if allSc xs then (ulayL xs, 0) else ([], 7)

theorem uLay_any (v : Value) (xs : List Int) (w : World) (h : Row w v (ints .i32 xs)) (hr : R32 xs) (hl : xs.length ≤ 1000000) :
    Calls Try.prog 36 #[v] w fun e w' => ∃ t, e = .returned (.tuple #[t, .int .i64 (ulayR xs).2]) ∧ Own w.heap.size 76 w' t (ints .u16 (ulayR xs).1) ∧ Below w.heap.size w w' := by
  by_cases ha : allSc xs = true
  · rw [show ulayR xs = (ulayL xs, 0) by rw [ulayR, if_pos ha]]
    obtain ⟨a, b, off, cap, rfl, HC⟩ := id h.op
    go_enter Try.func36, Try.ntmps36
    go_wp2_with (go_at_call 34; refine (right_any _ _ _ h hr (by omega)).mono ?_; rintro e w' ⟨rfl, rfl⟩)
    clear h ha
    go_loopw [4, 12] (fun u i wr => ∃ k : Nat, i = .int .i64 k ∧ k ≤ xs.length ∧ Own w.heap.size 76 wr u (ints .u16 (ulayL (xs.take k))) ∧ Below w.heap.size w wr) (fun _ i _ => xs.length - (intOf i).toNat)
    case atStart => exact ⟨0, rfl, Nat.zero_le _, Own.nil _ _ _, Below.refl _ _⟩
    case round =>
      obtain ⟨k, rfl, hk, hown, hb⟩ := hrel
      by_cases hlt : k < xs.length
      · obtain ⟨x, HX, rfl, hc⟩ := HC.out k hlt
        replace hc := hc wr hb
        have hxr := hr.get HX.out
        have HU := Lib.hid (ulayL_snoc HX.out)
        have HLb : Hid ((ints .u16 (ulayL (xs.take k))).length + (ints .u16 (uof x)).length ≤ 1000000000) := by
          have h1 := ulayL_len (xs.take k); have h2 := uof_len x; rw [List.length_take] at h1; show _ ≤ _; simp only [ints_length]; omega
        go_wp2_with (first | (go_at_call 60; refine (uof_any _ _ hxr.1 hxr.2).mono ?_; rintro e' w1 ⟨v2, rfl, ho1, hb1⟩) | (at_builtin; refine wpList_app slT_u16 _ _ _ rfl rfl rfl rfl (hown.below hb1) ho1.row HLb.out (below_size2 hb hb1) ?_; intro t2 w2 hown2 hg2))
        go_roundw
        case rel => exact ⟨k + 1, by go_num, by omega, by rw [HU.out, ints_append]; exact hown2, below_app hb hb1 (hown.below hb1) hg2⟩
        case measure => simp [intOf]; omega
      · go_wp2
        go_ret2
        rw [List.take_of_length_le (by omega)] at hown
        exact ⟨_, rfl, hown, hb⟩
  · rw [show ulayR xs = ([], 7) by rw [ulayR, if_neg ha]]
    replace ha : allSc xs = false := by simpa using ha
    go_enter Try.func36, Try.ntmps36
    go_wp2_with (go_at_call 34; refine (right_any _ _ _ h hr (by omega)).mono ?_; rintro e w' ⟨rfl, rfl⟩)
    go_ret2
    exact ⟨_, rfl, Own.nil _ _ _, Below.refl _ _⟩

theorem rLay_any (v : Value) (xs : List Int) (w : World) (h : Row w v (ints .i32 xs)) (hr : R32 xs) (hl : xs.length ≤ 1000000) :
    Calls Try.prog 39 #[v] w fun e w' => ∃ t, e = .returned (.tuple #[t, .int .i64 (ulayR xs).2]) ∧ Own w.heap.size 76 w' t (ints .u16 (ulayR xs).1) ∧ Below w.heap.size w w' := by
  have hf := fun w' h' => rfirst_any v xs w' h' (by omega)
  obtain ⟨q, HQ⟩ : ∃ q, Hid (idx (fun c => !scB c) xs = q) := ⟨_, rfl⟩
  rw [HQ.out] at hf
  have HF := Lib.hid hf; clear hf
  by_cases ha : q < 0
  · rw [show ulayR xs = (ulayL xs, 0) by rw [ulayR, if_pos (by rw [allSc_idx, HQ.out]; simpa using ha)]]
    have ha' : ¬ 0 ≤ q := by omega
    obtain ⟨a, b, off, cap, rfl, HC⟩ := id h.op
    go_enter Try.func39, Try.ntmps39
    go_wp2_with (go_at_call 21; refine (HF.out _ h).mono ?_; rintro e w' ⟨rfl, rfl⟩)
    clear h ha ha'
    go_loopw [4, 5] (fun u i wr => ∃ k : Nat, i = .int .i64 k ∧ k ≤ xs.length ∧ Own w.heap.size 76 wr u (ints .u16 (ulayL (xs.take k))) ∧ Below w.heap.size w wr) (fun _ i _ => xs.length - (intOf i).toNat)
    case atStart => exact ⟨0, rfl, Nat.zero_le _, Own.nil _ _ _, Below.refl _ _⟩
    case round =>
      obtain ⟨k, rfl, hk, hown, hb⟩ := hrel
      by_cases hlt : k < xs.length
      · obtain ⟨x, HX, rfl, hc⟩ := HC.out k hlt
        replace hc := hc wr hb
        have hxr := hr.get HX.out
        have HU := Lib.hid (ulayL_snoc HX.out)
        have HLb : Hid ((ints .u16 (ulayL (xs.take k))).length + (ints .u16 (uof x)).length ≤ 1000000000) := by
          have h1 := ulayL_len (xs.take k); have h2 := uof_len x; rw [List.length_take] at h1; show _ ≤ _; simp only [ints_length]; omega
        go_wp2_with (first | (go_at_call 63; refine (ruof_any _ _ hxr.1 hxr.2).mono ?_; rintro e' w1 ⟨v2, rfl, ho1, hb1⟩) | (at_builtin; refine wpList_app slT_u16 _ _ _ rfl rfl rfl rfl (hown.below hb1) ho1.row HLb.out (below_size2 hb hb1) ?_; intro t2 w2 hown2 hg2))
        go_roundw
        case rel => exact ⟨k + 1, by go_num, by omega, by rw [HU.out, ints_append]; exact hown2, below_app hb hb1 (hown.below hb1) hg2⟩
        case measure => simp [intOf]; omega
      · go_wp2
        go_ret2
        rw [List.take_of_length_le (by omega)] at hown
        exact ⟨_, rfl, hown, hb⟩
  · rw [show ulayR xs = ([], 7) by rw [ulayR, if_neg (by rw [allSc_idx, HQ.out]; simpa using ha)]]
    have ha' : 0 ≤ q := by omega
    go_enter Try.func39, Try.ntmps39
    go_wp2_with (go_at_call 21; refine (HF.out _ h).mono ?_; rintro e w' ⟨rfl, rfl⟩)
    go_ret2
    exact ⟨_, rfl, Own.nil _ _ _, Below.refl _ _⟩
end Go.Proofs.Ytbpjgmiedplidaa
namespace Go.Proofs.Ytbpjgmiedplidaa
open Go.RowKit
set_option maxHeartbeats 400000

/-- The octets of units. -/
def uoct (xs : List Int) : List Int := xs.flatMap fun u => [u / 256, u % 256]
theorem uoct_snoc {xs : List Int} {k : Nat} {x : Int} (h : xs[k]? = some x) : uoct (xs.take (k + 1)) = uoct (xs.take k) ++ [x / 256, x % 256] := by
  simp [uoct, List.take_add_one, h]
theorem uoct_len (xs : List Int) : (uoct xs).length = 2 * xs.length := by
  induction xs with
  | nil => simp [uoct]
  | cons x xs ih => simp only [uoct, List.flatMap_cons, List.length_append, List.length_cons, List.length_nil] at ih ⊢; omega
/-- The units of octets. -/
def fromO : List Int → List Int
  | x :: y :: r => (256 * x + y) :: fromO r
  | _ => []
theorem fromO_snoc {k : Nat} : ∀ {xs : List Int} {x y : Int}, xs[2 * k]? = some x → xs[2 * k + 1]? = some y → fromO (xs.take (2 * k + 2)) = fromO (xs.take (2 * k)) ++ [256 * x + y] := by
  induction k with
  | zero =>
    intro xs x y hx hy
    match xs, hx, hy with
    | a :: b :: r, hx, hy => simp at hx hy; subst hx hy; simp [fromO]
    | [a], hx, hy => simp at hy
    | [], hx, hy => simp at hx
  | succ k ih =>
    intro xs x y hx hy
    match xs, hx, hy with
    | a :: b :: r, hx, hy =>
      have e1 : 2 * (k + 1) = (2 * k) + 1 + 1 := by omega
      have e2 : 2 * (k + 1) + 2 = (2 * k + 2) + 1 + 1 := by omega
      have e3 : 2 * (k + 1) + 1 = (2 * k + 1) + 1 + 1 := by omega
      rw [e1, List.getElem?_cons_succ, List.getElem?_cons_succ] at hx
      rw [e3, List.getElem?_cons_succ, List.getElem?_cons_succ] at hy
      rw [e2, e1, List.take_succ_cons, List.take_succ_cons, List.take_succ_cons, List.take_succ_cons]
      simp only [fromO, ih hx hy, List.cons_append]
    | [a], hx, hy => rw [show 2 * (k + 1) + 1 = (2 * k + 2) + 1 by omega] at hy; simp at hy
    | [], hx, hy => simp at hx
theorem fromO_len (n : Nat) : ∀ xs : List Int, xs.length ≤ n → 2 * (fromO xs).length ≤ xs.length := by
  induction n with
  | zero => intro xs h; obtain rfl : xs = [] := List.eq_nil_of_length_eq_zero (by omega); simp [fromO]
  | succ n ih =>
    intro xs h
    match xs, h with
    | a :: b :: r, h => have := ih r (by simp at h; omega); simp [fromO]; omega
    | [a], h => simp [fromO]
    | [], h => simp [fromO]
def fromR (xs : List Int) : List Int × Int := if xs.length % 2 = 0 then (fromO xs, 0) else ([], 4)

theorem uOctets_any (v : Value) (xs : List Int) (w : World) (h : Row w v (ints .u16 xs)) (hg : Rg 0 65536 xs) (hl : xs.length ≤ 1000000) :
    Calls Try.prog 38 #[v] w fun e w' => ∃ t, e = .returned t ∧ Own w.heap.size 5 w' t (ints .u8 (uoct xs)) ∧ Below w.heap.size w w' := by
  obtain ⟨a, b, off, cap, rfl, HC⟩ := h.op
  clear h
  go_enter Try.func38, Try.ntmps38
  go_wp2
  go_loopw [3, 8] (fun u i wr => ∃ k : Nat, i = .int .i64 k ∧ k ≤ xs.length ∧ Own w.heap.size 5 wr u (ints .u8 (uoct (xs.take k))) ∧ Below w.heap.size w wr) (fun _ i _ => xs.length - (intOf i).toNat)
  case atStart => exact ⟨0, rfl, Nat.zero_le _, Own.nil _ _ _, Below.refl _ _⟩
  case round =>
    obtain ⟨k, rfl, hk, hown, hb⟩ := hrel
    by_cases hlt : k < xs.length
    · obtain ⟨x, HX, rfl, hc⟩ := HC.out k hlt
      replace hc := hc wr hb
      have hxr := hg.get HX.out
      have HU := Lib.hid (uoct_snoc HX.out)
      have HLb : Hid ((ints .u8 (uoct (xs.take k))).length + (ints .u8 [x / 256, x % 256]).length ≤ 1000000000) := by
        have h1 := uoct_len (xs.take k); rw [List.length_take] at h1; show _ ≤ _; simp only [ints_length, List.length_cons, List.length_nil]; omega
      go_wp2_with (first | (at_builtin; refine wpList_app slT_u8 _ _ _ rfl rfl rfl rfl (hown.alloc _) (Row.ilit [x / 256, x % 256] [_, _] rfl (by simp)) HLb.out (by have := hb.size; simp; omega) ?_; intro t2 w2 hown2 hg2))
      go_roundw
      case rel => exact ⟨k + 1, by go_num, by omega, by rw [HU.out, ints_append]; exact hown2, below_app hb (below_alloc _ _) (hown.alloc _) hg2⟩
      case measure => simp [intOf]; omega
    · go_wp2
      go_ret
      rw [List.take_of_length_le (by omega)] at hown
      exact ⟨_, rfl, hown, hb⟩
theorem rOctets_any (v : Value) (xs : List Int) (w : World) (h : Row w v (ints .u16 xs)) (hg : Rg 0 65536 xs) (hl : xs.length ≤ 1000000) :
    Calls Try.prog 41 #[v] w fun e w' => ∃ t, e = .returned t ∧ Own w.heap.size 5 w' t (ints .u8 (uoct xs)) ∧ Below w.heap.size w w' := by
  obtain ⟨a, b, off, cap, rfl, HC⟩ := h.op
  clear h
  go_enter Try.func41, Try.ntmps41
  go_wp2
  go_loopw [3, 4] (fun u i wr => ∃ k : Nat, i = .int .i64 k ∧ k ≤ xs.length ∧ Own w.heap.size 5 wr u (ints .u8 (uoct (xs.take k))) ∧ Below w.heap.size w wr) (fun _ i _ => xs.length - (intOf i).toNat)
  case atStart => exact ⟨0, rfl, Nat.zero_le _, Own.nil _ _ _, Below.refl _ _⟩
  case round =>
    obtain ⟨k, rfl, hk, hown, hb⟩ := hrel
    by_cases hlt : k < xs.length
    · obtain ⟨x, HX, rfl, hc⟩ := HC.out k hlt
      have HCA := Lib.hid hc
      replace hc := hc wr hb
      have hxr := hg.get HX.out
      have HU := Lib.hid (uoct_snoc HX.out)
      have HLb : Hid ((ints .u8 (uoct (xs.take k))).length + (ints .u8 [x / 256, x % 256]).length ≤ 1000000000) := by
        have h1 := uoct_len (xs.take k); rw [List.length_take] at h1; show _ ≤ _; simp only [ints_length, List.length_cons, List.length_nil]; omega
      have hi1 : (0 : Int) ≤ (k : Int) := by omega
      have hi2 : (k : Int) < (xs.length : Int) := by omega
      have hq1 : IntKind.u16.wrap (x.tdiv 256) = x / 256 := by rw [IntWalk.u16_in _ (by rw [Int.tdiv_eq_ediv_of_nonneg hxr.1]; omega), Int.tdiv_eq_ediv_of_nonneg hxr.1]
      have hq2 : IntKind.u8.wrap (x / 256) = x / 256 := IntWalk.u8_in _ (by omega)
      have hq3 : x.tmod 256 = x % 256 := Int.tmod_eq_emod_of_nonneg hxr.1
      have hq4 : IntKind.u8.wrap (x % 256) = x % 256 := IntWalk.u8_in _ (by omega)
      go_wp2_with fail
      go_region_held3 (fun w' => w'.cell? ⟨b, off + k, none⟩ = some (.int .u16 x)) (first | go_keep | exact (HCA.out _ hb2)) ((refine step_app slT_u8 _ _ _ (by rfl) (by rfl) (by rfl) (by rfl) (by first | exact hown.drew.alloc _ | exact (hown.alloc _).drew) (by first | exact Row.ilit [x / 256, x % 256] [_, _] rfl (by simp) | exact (Row.ilit [x / 256, x % 256] [_, _] rfl (by simp)).drew) HLb.out (by have := hb.size; simp; omega) ?_; intro t2 w2 hown2 hg2; have hb2 : Below w.heap.size w w2 := below_own (by first | exact hb.drew.alloc hb.size _ | exact (hb.alloc hb.size _).drew) (by first | exact hown.drew.alloc _ | exact (hown.alloc _).drew) hg2 (by have := hb.size; simp; omega) (Nat.le_refl _)))
      go_wp2
      go_roundw
      case rel => exact ⟨k + 1, by go_num, by omega, by rw [HU.out, ints_append]; exact hown2, hb2⟩
      case measure => simp [intOf]; omega
    · go_wp2
      go_ret
      rw [List.take_of_length_le (by omega)] at hown
      exact ⟨_, rfl, hown, hb⟩

theorem fromR_odd {xs : List Int} (h : ¬ xs.length % 2 = 0) : fromR xs = ([], 4) := by rw [fromR, if_neg h]
theorem fromR_even {xs : List Int} (h : xs.length % 2 = 0) : fromR xs = (fromO xs, 0) := by rw [fromR, if_pos h]
end Go.Proofs.Ytbpjgmiedplidaa
namespace Go.Proofs.Ytbpjgmiedplidaa
open Go.RowKit
set_option maxHeartbeats 2000000
def isAl (c : Int) : Bool := decide (48 ≤ c ∧ c ≤ 57 ∨ 65 ≤ c ∧ c ≤ 90 ∨ 97 ≤ c ∧ c ≤ 122)
def isCtl (c : Int) : Bool := decide (c < 32 ∨ c = 127)
end Go.Proofs.Ytbpjgmiedplidaa
namespace Go.Proofs.Ytbpjgmiedplidaa
open Go.RowKit

theorem setCells_new (w : World) (ty : TypeId) : ∀ (vs done Z : List Value), Z.length = vs.length →
    (w.alloc (.cells (done ++ Z).toArray ty)).setCells w.heap.size done.length vs = w.alloc (.cells (done ++ vs).toArray ty)
  | [], done, Z, h => by obtain rfl : Z = [] := List.eq_nil_of_length_eq_zero h; rfl
  | v :: vs, done, [], h => by simp at h
  | v :: vs, done, z :: Z, h => by
    rw [World.setCells, World.setCell_alloc_at _ _ _ _ _ rfl]
    have hs : (done ++ z :: Z).toArray.setIfInBounds done.length v = ((done ++ [v]) ++ Z).toArray := by
      simp
    rw [hs]
    have := setCells_new w ty vs (done ++ [v]) Z (by simpa using h)
    simp only [List.length_append, List.length_cons, List.length_nil] at this
    rw [this]
    simp
theorem wpList_store_new {P : Program} {w : World} {ops : Array Oper} {rest : List Oper} {o : Oper} {a : Act} {Q : Exit → Act → World → Prop} (hgd : o.guard = none) (ty ty' : TypeId) (x y : Operand) (ho : o.op = .store ty x y)
    (cs Z : List Value) (hx : a.eval x = .pointer (some ⟨w.heap.size, 0, none⟩)) (hy : a.eval y = .agg cs.toArray) (hi : (P.info? ty).map (·.size) = some cs.length) (h1 : ∀ u ∈ cs, u.oneCell' = true) (hz : Z.length = cs.length)
    (h : wpList P ops Q rest (a.put o.dst undef) (w.alloc (.cells cs.toArray ty'))) : wpList P ops Q (o :: rest) a (w.alloc (.cells Z.toArray ty')) := by
  refine wpList_store_mid hgd ty x y ho w.heap.size 0 cs.toArray hx hy ?_ (by simpa using hi) (all_oneCell_toArray h1) ?_
  · intro j hj
    have hj' : j < Z.length := by simp at hj; omega
    have hc := cell_of_row (w.alloc (.cells Z.toArray ty')) w.heap.size (0 + j) Z.toArray ty' (0, 0) (heap_alloc_new w _)
    refine ⟨by rw [hc]; simp [List.getElem?_eq_getElem hj'], ?_⟩
    unfold World.frozen?
    rw [heap_alloc_new w _]
    simp
  · have := setCells_new w ty' cs [] Z hz
    simp only [List.nil_append, List.length_nil] at this
    rw [show cs.toArray.toList = cs by simp, this]
    exact h

/-- An array or a struct made whole. -/
theorem wpList_build {P : Program} {w : World} {ops : Array Oper} {rest : List Oper} {o : Oper} {a : Act} {Q : Exit → Act → World → Prop} (hg : Region.wanted o (yielded ops a.tmps) = true) (t : TypeId) (parts : Array (Nat × Operand)) (_ho : o.op = .build t parts)
    (v : Value) (hr : (execOp a.eval o).run P w = .ok (.value v) w) (h : wpList P ops Q rest (a.put o.dst v) w) : wpList P ops Q (o :: rest) a w := by
  refine wpList_wanted hg ?_
  unfold Oper.wp
  rw [hr]
  exact h

/-- A long slice literal. -/
theorem wpList_bslice {P : Program} {w : World} {ops : Array Oper} {rest : List Oper} {o : Oper} {a : Act} {Q : Exit → Act → World → Prop} (hg : Region.wanted o (yielded ops a.tmps) = true) (t : TypeId) (n : Nat) (parts : Array (Nat × Operand)) (_ho : o.op = .buildSlice t n parts)
    (cs : List Value) (E : TypeId) (m : Nat) (_hm : cs.length = m) (hr : (execOp a.eval o).run P w = .ok (.value (.slice (some ⟨w.heap.size, 0, none⟩) m m)) (w.alloc (.cells cs.toArray E)))
    (h : wpList P ops Q rest (a.put o.dst (.slice (some ⟨w.heap.size, 0, none⟩) m m)) (w.alloc (.cells cs.toArray E))) : wpList P ops Q (o :: rest) a w := by
  refine wpList_wanted hg ?_
  unfold Oper.wp
  rw [hr]
  exact h
theorem hidC {k : IntKind} {w : World} {g n cap : Nat} {xs : List Int} (h : Row w (.slice (some ⟨g, 0, none⟩) n cap) (ints k xs)) (i : Nat) (hi : i < xs.length) {x : Int} (hx : Hid (xs[i]? = some x)) :
    Hid (w.cell? ⟨g, i, none⟩ = some (.int k x)) := by
  obtain ⟨a, b, off, cap', hv, HC⟩ := h.op
  simp only [Value.slice.injEq] at hv
  obtain ⟨hv, _⟩ := hv
  subst hv
  obtain ⟨y, hy, he, hc⟩ := HC.out i hi
  simp only [Option.some.injEq, Addr.mk.injEq, and_true] at he
  obtain ⟨rfl, rfl⟩ := he
  have e := hy.out
  rw [hx.out] at e
  obtain rfl := Option.some.inj e
  have := hc w (Below.refl _ _)
  rwa [Nat.zero_add] at this

/-- make([]T, 0, n). -/
theorem wpList_mk {P : Program} {w : World} {ops : Array Oper} {rest : List Oper} {o : Oper} {a : Act} {Q : Exit → Act → World → Prop} {t E : TypeId} (hT : SlT P t E) (B : Nat) (l c : Operand)
    (hg : Region.wanted o (yielded ops a.tmps) = true) (ho : o.op = .makeSlice t l c) {kl kc : IntKind} {n : Nat} (hl : a.eval l = .int kl 0) (hc : a.eval c = .int kc n) (hn : n ≤ 1000000000) (hB : B ≤ w.heap.size)
    (h : ∀ v' w', Own B E w' v' [] → Below w.heap.size w w' → wpList P ops Q rest (a.put o.dst v') w') : wpList P ops Q (o :: rest) a w := by
  obtain ⟨ht, i, z, hi, hz, hsize, hby, hzs⟩ := hT
  have h3 : i.bytes * n ≤ 64 * 1000000000 := Nat.mul_le_mul hby hn
  obtain ⟨w', hr, hown, hgr⟩ := run_make_own (P := P) w B t E i z 1 ht hi hz hsize kl kc n (by omega) (by simp only [maxLen]; omega) hB
  refine wpList_wanted hg ?_
  unfold Oper.wp
  simp [execOp, ho, hl, hc, hr, Result.andThen]
  exact h _ w' ⟨hown, by simp⟩ ⟨hgr.os, hgr.tape, hgr.output, hgr.size, fun k hk => hgr.block k hk (by simp)⟩

theorem quiet_same {P : Program} {f : FuncId} {args : Array Value} {w : World} {n : Nat} {v : Value}
    (h : Calls P f args (w.drewN n) fun e w' => e = .returned v ∧ w.drewN n = w') : Calls P f args (w.drewN n) fun e w'' => e = .returned v ∧ ∃ m, w'' = w.drewN m :=
  h.mono fun _ _ ⟨he, hm⟩ => ⟨he, n, hm.symm⟩

/-- A literal whose end bears a mark (the bytes of a constant string). -/
theorem Row.flit {w : World} {E : TypeId} {k : IntKind} {f : Nat × Nat} (xs : List Int) (cs : List Value) (hx : ints k xs = cs) (hl : cs.length ≤ 1000000000) :
    Row (w.alloc (.cells cs.toArray E f)) (.slice (some ⟨w.heap.size, 0, none⟩) cs.length cs.length) (ints k xs) := by
  subst hx
  refine ⟨_, w.heap.size, 0, (ints k xs).length, rfl, Nat.le_refl _, by simp only [maxLen]; omega, .inl rfl, ints_one _ _, fun i u hu => ?_⟩
  rw [cell_of_row (w.alloc (.cells (ints k xs).toArray E f)) w.heap.size (0 + i) (ints k xs).toArray E f (heap_alloc_new w _)]
  simpa using hu
end Go.Proofs.Ytbpjgmiedplidaa
namespace Go.Proofs.Ytbpjgmiedplidaa
open Go.RowKit
set_option maxHeartbeats 2000000
def dirL : List Int := [39, 40, 41, 44, 45, 46, 47, 58, 63, 32, 9, 13, 10]
def dirB (c : Int) : Bool := isAl c || dirL.contains c
def sevB (c : Int) : Bool := decide (c ≤ 126 ∧ (32 ≤ c ∨ c = 9 ∨ c = 10 ∨ c = 13))
theorem idx_dir {c : Int} (h0 : 0 ≤ c) (h1 : c < 256) : decide (0 ≤ Lib.indexByte [39, 40, 41, 44, 45, 46, 47, 58, 63, 32, 9, 13, 10] c.toNat.toUInt8) = dirL.contains c := by
  have key : ∀ n : Nat, n < 256 → decide (0 ≤ Lib.indexByte [39, 40, 41, 44, 45, 46, 47, 58, 63, 32, 9, 13, 10] n.toUInt8) = dirL.contains (n : Int) := by decide +kernel
  have := key c.toNat (by omega)
  rwa [Int.toNat_of_nonneg h0] at this
theorem idx_lines {c : Int} (h0 : 0 ≤ c) (h1 : c < 256) : decide (Lib.indexByte [9, 13, 10] c.toNat.toUInt8 < 0) = !decide (c = 9 ∨ c = 10 ∨ c = 13) := by
  have key : ∀ n : Nat, n < 256 → decide (Lib.indexByte [9, 13, 10] n.toUInt8 < 0) = !decide ((n : Int) = 9 ∨ (n : Int) = 10 ∨ (n : Int) = 13) := by decide +kernel
  have := key c.toNat (by omega)
  rwa [Int.toNat_of_nonneg h0] at this
theorem sev_eq {c : Int} (h0 : 0 ≤ c) (h1 : c < 256) : sevB c = !(decide (128 ≤ c) || (isCtl c && !decide (c = 9 ∨ c = 10 ∨ c = 13))) := by
  rw [sevB, isCtl]
  by_cases a : c ≤ 126 ∧ (32 ≤ c ∨ c = 9 ∨ c = 10 ∨ c = 13)
  · rw [decide_eq_true a]
    by_cases b : c < 32 ∨ c = 127
    · rw [decide_eq_true b, decide_eq_false (show ¬ 128 ≤ c by omega), decide_eq_true (show c = 9 ∨ c = 10 ∨ c = 13 by omega)]; rfl
    · rw [decide_eq_false b, decide_eq_false (show ¬ 128 ≤ c by omega)]; rfl
  · rw [decide_eq_false a]
    by_cases b : 128 ≤ c
    · rw [decide_eq_true b]; rfl
    · rw [decide_eq_true (show c < 32 ∨ c = 127 by omega), decide_eq_false (show ¬ (c = 9 ∨ c = 10 ∨ c = 13) by omega), decide_eq_false b]; rfl
end Go.Proofs.Ytbpjgmiedplidaa
namespace Go.Proofs.Ytbpjgmiedplidaa
open Go.RowKit
set_option maxHeartbeats 2000000
end Go.Proofs.Ytbpjgmiedplidaa
namespace Go.Proofs.Ytbpjgmiedplidaa
theorem ferr_cons (e : Int) (es : List Int) : ferr (e :: es) = if e = 0 then ferr es else e := by
  by_cases h : e = 0
  · subst h; simp [ferr]
  · have : (e != 0) = true := by simpa using h
    simp [ferr, h, this]
theorem ulayL_cons (x : Int) (xs : List Int) : ulayL (x :: xs) = uof x ++ ulayL xs := by simp [ulayL]
theorem uof_bmp {x : Int} (h0 : 0 ≤ x) (h1 : x < 65536) (hh : hiB x = false) (hl : loB x = false) : uof x = [x] := by
  have h2 : ¬ hiB x = true := by simp [hh]
  have h3 : ¬ loB x = true := by simp [hl]
  rw [hiB_iff] at h2; rw [loB_iff] at h3
  rw [uof, if_pos (scB_iff.2 (by omega)), if_pos h1]
theorem uof_pair {x y : Int} (hh : hiB x = true) (hl : loB y = true) : uof (65536 + ((x - 55296) * 1024 + (y - 56320))) = [x, y] := by
  rw [hiB_iff] at hh; rw [loB_iff] at hl
  rw [uof, if_pos (scB_iff.2 (by omega)), if_neg (by omega)]
  congr 1
  · omega
  · congr 1; omega
theorem uread_uof {c : Int} (h : scB c = true) (r : List Int) : uread (uof c ++ r) = (c, 0) :: uread r := by
  have hc := scB_iff.1 h
  by_cases h1 : c < 65536
  · have h2 : hiB c = false := by
      have : ¬ hiB c = true := by rw [hiB_iff]; omega
      simpa using this
    have h3 : loB c = false := by
      have : ¬ loB c = true := by rw [loB_iff]; omega
      simpa using this
    rw [uof_bmp (by omega) h1 h2 h3]
    exact uread_bmp r h3 h2
  · rw [uof, if_pos h, if_neg h1]
    have h2 : hiB (55296 + (c - 65536) / 1024) = true := by rw [hiB_iff]; omega
    have h4 : loB (55296 + (c - 65536) / 1024) = false := by
      have : ¬ loB (55296 + (c - 65536) / 1024) = true := by rw [loB_iff]; omega
      simpa using this
    have h3 : loB (56320 + (c - 65536) % 1024) = true := by rw [loB_iff]; omega
    rw [show [55296 + (c - 65536) / 1024, 56320 + (c - 65536) % 1024] ++ r = (55296 + (c - 65536) / 1024) :: (56320 + (c - 65536) % 1024) :: r from rfl, uread_pair r h4 h2 h3]
    congr 2
    omega
theorem uread_ulay : ∀ xs : List Int, allSc xs = true → uread (ulayL xs) = xs.map fun c => (c, 0)
  | [], _ => by simp [ulayL, uread_nil]
  | x :: xs, h => by
    simp only [allSc, List.all_cons, Bool.and_eq_true] at h
    rw [ulayL_cons, uread_uof h.1, uread_ulay xs h.2]; rfl
theorem ulay_rng : ∀ xs : List Int, Rg 0 65536 (ulayL xs)
  | [] => by simp [ulayL]; exact Rg.nil _ _
  | x :: xs => by
    rw [ulayL_cons]
    refine Rg.append ?_ (ulay_rng xs)
    intro y hy
    unfold uof at hy
    split at hy
    · rename_i h
      have := scB_iff.1 h
      split at hy <;> simp at hy <;> omega
    · simp at hy
/-- What can be said of each step of the reading. -/
theorem uread_steps (P : List Int → List (Int × Int) → Prop) (h0 : P [] [])
    (hlo : ∀ x r ps, 0 ≤ x → x < 65536 → loB x = true → P r ps → P (x :: r) ((65533, 3) :: ps))
    (hbmp : ∀ x r ps, 0 ≤ x → x < 65536 → loB x = false → hiB x = false → P r ps → P (x :: r) ((x, 0) :: ps))
    (hbad : ∀ x r e ps, 0 ≤ x → x < 65536 → loB x = false → hiB x = true → e ≠ 0 → P r ps → P (x :: r) ((65533, e) :: ps))
    (hpair : ∀ x y r ps, 0 ≤ x → x < 65536 → hiB x = true → loB y = true → P r ps → P (x :: y :: r) ((65536 + ((x - 55296) * 1024 + (y - 56320)), 0) :: ps))
    (n : Nat) : ∀ xs : List Int, xs.length ≤ n → Rg 0 65536 xs → P xs (uread xs) := by
  induction n with
  | zero => intro xs h _; obtain rfl : xs = [] := List.eq_nil_of_length_eq_zero (by omega); rw [uread_nil]; exact h0
  | succ n ih =>
    intro xs h hg
    cases xs with
    | nil => rw [uread_nil]; exact h0
    | cons x r =>
      obtain ⟨⟨hx0, hx1⟩, hg'⟩ := hg.cons
      have hr := ih r (by simp at h; omega) hg'
      cases hl : loB x with
      | true => rw [uread_lo r hl]; exact hlo x r _ hx0 hx1 hl hr
      | false =>
        cases hh : hiB x with
        | false => rw [uread_bmp r hl hh]; exact hbmp x r _ hx0 hx1 hl hh hr
        | true =>
          cases r with
          | nil => rw [uread_end hl hh]; exact hbad x [] 4 _ hx0 hx1 hl hh (by omega) hr
          | cons y r =>
            cases hy : loB y with
            | false => rw [uread_bad r hl hh hy]; exact hbad x (y :: r) 3 _ hx0 hx1 hl hh (by omega) hr
            | true => rw [uread_pair r hl hh hy]; exact hpair x y r _ hx0 hx1 hh hy (ih r (by simp at h; omega) hg'.cons.2)
theorem uread_sc {xs : List Int} (hg : Rg 0 65536 xs) : allSc ((uread xs).map Prod.fst) = true := by
  refine uread_steps (fun _ ps => allSc (ps.map Prod.fst) = true) rfl ?_ ?_ ?_ ?_ _ xs (Nat.le_refl _) hg
  · intro x r ps _ _ _ h
    simpa [allSc, show scB 65533 = true from by decide] using h
  · intro x r ps h0 h1 hl hh h
    have : scB x = true := by
      have h2 : ¬ hiB x = true := by simp [hh]
      have h3 : ¬ loB x = true := by simp [hl]
      rw [hiB_iff] at h2; rw [loB_iff] at h3; rw [scB_iff]; omega
    simpa [allSc, this] using h
  · intro x r e ps _ _ _ _ _ h
    simpa [allSc, show scB 65533 = true from by decide] using h
  · intro x y r ps _ _ hh hl h
    have : scB (65536 + ((x - 55296) * 1024 + (y - 56320))) = true := by
      rw [hiB_iff] at hh; rw [loB_iff] at hl; rw [scB_iff]; omega
    simpa [allSc, this] using h
theorem uread_right {xs : List Int} (hg : Rg 0 65536 xs) : ferr ((uread xs).map Prod.snd) = 0 ↔ ulayL ((uread xs).map Prod.fst) = xs := by
  have sur : ∀ x, uof 65533 = [65533] ∧ (loB x = true ∨ hiB x = true → x ≠ 65533) := by
    intro x
    refine ⟨by decide, ?_⟩
    rw [loB_iff, hiB_iff]; omega
  refine uread_steps (fun xs ps => ferr (ps.map Prod.snd) = 0 ↔ ulayL (ps.map Prod.fst) = xs) (by simp [ferr, ulayL]) ?_ ?_ ?_ ?_ _ xs (Nat.le_refl _) hg
  · intro x r ps _ _ hl h
    rw [List.map_cons, ferr_cons, List.map_cons, ulayL_cons, (sur x).1]
    simp only [Int.reduceEq, if_false, List.cons_append, List.nil_append, List.cons.injEq, false_iff]
    intro h'
    exact (sur x).2 (.inl hl) h'.1.symm
  · intro x r ps h0 h1 hl hh h
    rw [List.map_cons, ferr_cons, List.map_cons, ulayL_cons, uof_bmp h0 h1 hh hl]
    simpa using h
  · intro x r e ps _ _ _ hh he h
    rw [List.map_cons, ferr_cons, List.map_cons, ulayL_cons, (sur x).1]
    simp only [if_neg he, List.cons_append, List.nil_append, List.cons.injEq]
    refine ⟨fun h => absurd h he, fun h' => absurd h'.1.symm ((sur x).2 (.inr hh))⟩
  · intro x y r ps _ _ hh hl h
    rw [List.map_cons, ferr_cons, List.map_cons, ulayL_cons, uof_pair hh hl]
    simpa using h
end Go.Proofs.Ytbpjgmiedplidaa
namespace Go.Proofs.Ytbpjgmiedplidaa
open Go.RowKit
set_option maxHeartbeats 2000000
def codeL (t : List Int) : List Int := if allSc t then bare (uoct (ulayL t)) else []
theorem uoct_rng {xs : List Int} (h : Rg 0 65536 xs) : Rg 0 256 (uoct xs) := by
  intro y hy
  obtain ⟨u, hu, hc⟩ := List.mem_flatMap.1 hy
  have := h u hu
  simp only [List.mem_cons, List.not_mem_nil, or_false] at hc
  omega
end Go.Proofs.Ytbpjgmiedplidaa
namespace Go.Proofs.Ytbpjgmiedplidaa
/-- How many signs that are not direct stand ahead; how long a run they begin with. -/
def dn : List Int → Nat
  | [] => 0
  | c :: r => if dirB c then 0 else dn r + 1
def rn : List Int → Nat
  | [] => 0
  | c :: r => if c = 43 then 0 else dn (c :: r)
theorem dn_le : ∀ t : List Int, dn t ≤ t.length
  | [] => Nat.le_refl _
  | c :: r => by
    have := dn_le r
    rw [dn]; split <;> simp <;> omega
theorem rn_le (t : List Int) : rn t ≤ t.length := by
  cases t with
  | nil => exact Nat.le_refl _
  | cons c r => rw [rn]; split; exact Nat.zero_le _; exact dn_le _
theorem dn_in : ∀ (t : List Int) (k : Nat), k < dn t → ∃ c, t[k]? = some c ∧ dirB c = false
  | [], k, h => by simp [dn] at h
  | c :: r, k, h => by
    rw [dn] at h
    split at h
    · omega
    · rename_i hc
      cases k with
      | zero => exact ⟨c, rfl, by simpa using hc⟩
      | succ k => rw [List.getElem?_cons_succ]; exact dn_in r k (by omega)
theorem dn_out : ∀ (t : List Int) (c : Int), t[dn t]? = some c → dirB c = true
  | [], c, h => by simp [dn] at h
  | x :: r, c, h => by
    rw [dn] at h
    split at h
    · rename_i hx
      simp at h; subst h; exact hx
    · rw [List.getElem?_cons_succ] at h; exact dn_out r c h
/-- What is laid of the first, how many runs that is, how many signs that takes. -/
def lo (c : Int) (r : List Int) : List Int := if 0 < rn (c :: r) then 43 :: codeL ((c :: r).take (rn (c :: r))) ++ [45] else if c = 43 then [43, 45] else [c]
def ln (c : Int) (r : List Int) : Nat := if 0 < rn (c :: r) then 1 else 0
def lk (c : Int) (r : List Int) : Nat := if 0 < rn (c :: r) then rn (c :: r) else 1
theorem lk_pos (c : Int) (r : List Int) : 0 < lk c r := by unfold lk; split <;> omega
theorem lk_le (c : Int) (r : List Int) : lk c r ≤ (c :: r).length := by
  have := rn_le (c :: r)
  unfold lk; split <;> simp only [List.length_cons] at * <;> omega
theorem lk_eq (c : Int) (r : List Int) : lk c r - 1 + 1 = lk c r := by have := lk_pos c r; omega
def lay : List Int → List Int × Nat
  | [] => ([], 0)
  | c :: r => (lo c r ++ (lay (r.drop (lk c r - 1))).1, ln c r + (lay (r.drop (lk c r - 1))).2)
termination_by l => l.length
decreasing_by all_goals (simp only [List.length_drop, List.length_cons]; omega)
theorem lay_nil : lay [] = ([], 0) := by rw [lay]
theorem lay_cons (c : Int) (r : List Int) : lay (c :: r) = (lo c r ++ (lay ((c :: r).drop (lk c r))).1, ln c r + (lay ((c :: r).drop (lk c r))).2) := by
  rw [lay, ← lk_eq c r, List.drop_succ_cons]
  simp only [Nat.add_sub_cancel]
theorem bare_len (xs : List Int) : (bare xs).length ≤ 2 * xs.length + 1 := by
  rw [bare, List.length_map, wholes, chunk_len, pad6, List.length_append, List.length_replicate, obits_len]
  omega
theorem codeL_len (t : List Int) : (codeL t).length ≤ 8 * t.length + 1 := by
  unfold codeL
  split
  · have h1 := bare_len (uoct (ulayL t))
    have h2 := ulayL_len t
    rw [uoct_len] at h1
    omega
  · simp
theorem lo_len (c : Int) (r : List Int) : (lo c r).length ≤ 11 * lk c r := by
  have h1 := codeL_len ((c :: r).take (rn (c :: r)))
  have h2 := rn_le (c :: r)
  rw [List.length_take] at h1
  unfold lo lk
  split
  · simp only [List.length_append, List.length_cons, List.length_nil]; omega
  · split <;> simp
theorem ln_le (c : Int) (r : List Int) : ln c r ≤ 1 := by unfold ln; split <;> omega
end Go.Proofs.Ytbpjgmiedplidaa
namespace Go.Proofs.Ytbpjgmiedplidaa
theorem dir_cases {c : Int} (h : dirB c = true) : (48 ≤ c ∧ c ≤ 57 ∨ 65 ≤ c ∧ c ≤ 90 ∨ 97 ≤ c ∧ c ≤ 122) ∨ (c = 39 ∨ c = 40 ∨ c = 41 ∨ c = 44 ∨ c = 45 ∨ c = 46 ∨ c = 47 ∨ c = 58 ∨ c = 63 ∨ c = 32 ∨ c = 9 ∨ c = 13 ∨ c = 10) := by
  rw [dirB] at h
  rcases Bool.or_eq_true _ _ |>.mp h with h1 | h1
  · exact Or.inl (of_decide_eq_true h1)
  · have := List.contains_iff_mem.1 h1
    simp [dirL] at this
    omega
theorem sev_dir {c : Int} (h : dirB c = true) : sevB c = true := decide_eq_true (by have := dir_cases h; omega)
theorem sc_dir {c : Int} (h : dirB c = true) : scB c = true := decide_eq_true (by have := dir_cases h; omega)
theorem pad6_bit {l : List Int} (h : Bit l) : Bit (pad6 l) := by
  intro x hx
  rcases List.mem_append.1 hx with h1 | h1
  · exact h x h1
  · exact Or.inl (List.eq_of_mem_replicate h1)
theorem wholes6_rng {l : List Int} (h : Bit l) : ∀ n ∈ wholes 6 l, 0 ≤ n ∧ n < 64 := by
  intro n hn
  rw [wholes, chunk] at hn
  obtain ⟨j, _, rfl⟩ := List.mem_map.1 hn
  have h1 := num_rng ((h.drop (6 * j)).take 6)
  have h2 : ((l.drop (6 * j)).take 6).length ≤ 6 := List.length_take_le _ _
  generalize ((l.drop (6 * j)).take 6).length = m at *
  generalize num ((l.drop (6 * j)).take 6) = z at *
  rcases (by omega : m = 0 ∨ m = 1 ∨ m = 2 ∨ m = 3 ∨ m = 4 ∨ m = 5 ∨ m = 6) with rfl | rfl | rfl | rfl | rfl | rfl | rfl <;> omega
theorem sev_bare (xs : List Int) : ∀ c ∈ bare xs, sevB c = true := by
  intro c hc
  rw [bare] at hc
  obtain ⟨n, hn, rfl⟩ := List.mem_map.1 hc
  have h1 := wholes6_rng (pad6_bit (obits_bit xs)) n hn
  have h2 := dg_rng h1.1 h1.2
  exact decide_eq_true (by omega)
theorem sev_code (t : List Int) : ∀ c ∈ codeL t, sevB c = true := by
  intro c hc
  rw [codeL] at hc
  split at hc
  · exact sev_bare _ c hc
  · cases hc
theorem dir_of_rn {c : Int} {r : List Int} (h : ¬ 0 < rn (c :: r)) (hc : c ≠ 43) : dirB c = true := by
  rw [rn, if_neg hc, dn] at h
  split at h
  · assumption
  · omega
theorem rn_dir {c : Int} (r : List Int) (h : dirB c = true) : rn (c :: r) = 0 := by
  rw [rn]; split
  · rfl
  · rw [dn, if_pos h]
theorem dir_ne {c : Int} (h : dirB c = true) : c ≠ 43 := by have := dir_cases h; omega
theorem sev_lo (c : Int) (r : List Int) : ∀ x ∈ lo c r, sevB x = true := by
  intro x hx
  rw [lo] at hx
  split at hx
  · rcases List.mem_append.1 hx with h1 | h1
    · rcases List.mem_cons.1 h1 with rfl | h1
      · rfl
      · exact sev_code _ x h1
    · rw [List.mem_singleton.1 h1]; rfl
  · rename_i h0
    split at hx
    · rcases List.mem_cons.1 hx with rfl | h1
      · rfl
      · rw [List.mem_singleton.1 h1]; rfl
    · rename_i h1
      rw [List.mem_singleton.1 hx]
      exact sev_dir (dir_of_rn h0 h1)
theorem lay_sev : ∀ (k : Nat) (xs : List Int), xs.length ≤ k → ∀ c ∈ (lay xs).1, sevB c = true
  | _, [], _ => by rw [lay_nil]; intro c hc; cases hc
  | 0, c :: r, h => by simp at h
  | k + 1, c :: r, h => by
    have h1 := lk_pos c r
    have ih := lay_sev k ((c :: r).drop (lk c r)) (by rw [List.length_drop]; simp only [List.length_cons] at *; omega)
    rw [lay_cons]
    intro x hx
    rcases List.mem_append.1 hx with h2 | h2
    · exact sev_lo c r x h2
    · exact ih x h2
theorem lay_len : ∀ (k : Nat) (xs : List Int), xs.length ≤ k → (lay xs).1.length ≤ 11 * xs.length
  | _, [], _ => by rw [lay_nil]; simp
  | 0, c :: r, h => by simp at h
  | k + 1, c :: r, h => by
    have h1 := lk_pos c r
    have h2 := lk_le c r
    have h3 := lo_len c r
    have ih := lay_len k ((c :: r).drop (lk c r)) (by rw [List.length_drop]; simp only [List.length_cons] at *; omega)
    rw [List.length_drop] at ih
    rw [lay_cons, List.length_append]
    omega
theorem sev_rng {l : List Int} (h : ∀ c ∈ l, sevB c = true) : Rg 0 256 l := fun c hc => by have := of_decide_eq_true (h c hc); omega
theorem lay_dir : ∀ xs : List Int, (∀ c ∈ xs, dirB c = true) → lay xs = (xs, 0)
  | [], _ => lay_nil
  | c :: r, h => by
    have hc := h c List.mem_cons_self
    have h0 := rn_dir r hc
    have ih := lay_dir r (fun x hx => h x (List.mem_cons_of_mem _ hx))
    have e1 : lo c r = [c] := by rw [lo, h0, if_neg (Nat.lt_irrefl 0), if_neg (dir_ne hc)]
    have e2 : ln c r = 0 := by rw [ln, h0, if_neg (Nat.lt_irrefl 0)]
    have e3 : lk c r = 1 := by rw [lk, h0, if_neg (Nat.lt_irrefl 0)]
    rw [lay_cons, e1, e2, e3, List.drop_succ_cons, List.drop_zero, ih]
    rfl
theorem lay_a : lay [65, 8802, 913, 46] = ([65, 43, 73, 109, 73, 68, 107, 81, 45, 46], 1) := by
  rw [lay_cons, show lo 65 [8802, 913, 46] = [65] from by decide, show ln 65 [8802, 913, 46] = 0 from by decide, show lk 65 [8802, 913, 46] = 1 from by decide, show ([65, 8802, 913, 46] : List Int).drop 1 = [8802, 913, 46] from rfl, lay_cons, show lo 8802 [913, 46] = [43, 73, 109, 73, 68, 107, 81, 45] from by decide +kernel, show ln 8802 [913, 46] = 1 from by decide, show lk 8802 [913, 46] = 2 from by decide, show ([8802, 913, 46] : List Int).drop 2 = [46] from rfl, lay_dir [46] (by decide)]
  rfl
theorem lay_b : lay [43] = ([43, 45], 0) := by
  rw [lay_cons, show lo 43 [] = [43, 45] from by decide, show ln 43 [] = 0 from by decide, show lk 43 [] = 1 from by decide, show ([43] : List Int).drop 1 = [] from rfl, lay_nil]
  rfl
end Go.Proofs.Ytbpjgmiedplidaa
namespace Go.Proofs.Ytbpjgmiedplidaa
open Go.RowKit
set_option maxHeartbeats 1000000
/-- The units of a run's digits, its signs, what is left over, and whether it is right. -/
def runU (d : List Int) : List Int := wholes 16 (dbits d)
def runT (d : List Int) : List Int := if allD d then (uread (runU d)).map Prod.fst else []
def runO (d : List Int) : Bool := decide (6 ≤ (left 16 (dbits d)).length) || (num (left 16 (dbits d)) != 0)
def runR (d : List Int) : Bool := allD d && (ferr ((uread (runU d)).map Prod.snd) == 0 && !runO d)
theorem runU_rng (d : List Int) : Rg 0 65536 (runU d) := by
  intro x hx
  obtain ⟨j, _, rfl⟩ := List.mem_map.1 hx
  have h1 := num_rng (((dbits_bit d).drop (16 * j)).take 16)
  have h2 : (2 : Nat) ^ (((dbits d).drop (16 * j)).take 16).length ≤ 2 ^ 16 := Nat.pow_le_pow_right (by omega) (by rw [List.length_take]; omega)
  have h3 := Int.ofNat_le.2 h2
  simp only [Int.natCast_pow] at h3
  have h4 : ((2 : Nat) : Int) ^ 16 = 65536 := rfl
  rw [h4] at h3
  exact ⟨h1.1, Int.lt_of_lt_of_le h1.2 h3⟩
theorem runU_len (d : List Int) : (runU d).length ≤ d.length := by
  rw [runU, wholes, chunk_len, dbits_len]; omega
set_option maxRecDepth 100000 in
theorem rRun_any (v : Value) (d : List Int) (w : World) (h : Row w v (ints .u8 d)) (hl : d.length ≤ 10000) :
    Calls Try.prog 55 #[v] w fun e w' => ∃ t, e = .returned (.tuple #[t, .bool (runR d), .bool (allD d)]) ∧ Own w.heap.size 21 w' t (ints .i32 (runT d)) ∧ Below w.heap.size w w' := by
  have hv := fun w' h' => rValues_any v d w' h' (by omega)
  cases ha : allD d with
  | false =>
    rw [ha] at hv
    have HV := Lib.hid hv; clear hv
    go_enter Try.func55, Try.ntmps55
    go_wp2_with (go_at_call 76; refine (HV.out _ h).mono ?_; rintro e w1 ⟨t, rfl, ho, hb⟩)
    go_ret3
    exact ⟨_, ret3 rfl (bv (by rw [runR, ha]; rfl)) rfl, by rw [runT, ha]; exact Own.nil _ _ _, hb⟩
  | true =>
    have hL : valsL d = dbits d := by rw [valsL, ha]; rfl
    rw [ha, hL] at hv
    have hT : runT d = (uread (runU d)).map Prod.fst := by rw [runT, ha]; rfl
    have hR : runR d = (ferr ((uread (runU d)).map Prod.snd) == 0 && !runO d) := by rw [runR, ha]; rfl
    have hU : runU d = wholes 16 (dbits d) := rfl
    have hO : runO d = (decide (6 ≤ (left 16 (dbits d)).length) || (num (left 16 (dbits d)) != 0)) := rfl
    have hrd := fun v w' h' => rread_any v (runU d) w' h' (runU_rng d) (Nat.le_trans (runU_len d) (by omega))
    have hUr := runU_rng d
    have hbit := dbits_bit d
    have hlen := dbits_len d
    rw [hT, hR]
    clear hT hR
    generalize runU d = U at *
    generalize runO d = O at *
    generalize (uread U).map Prod.fst = T at *
    generalize ferr ((uread U).map Prod.snd) = q at *
    generalize dbits d = L at *
    have HV := Lib.hid hv; have HU := Lib.hid hU; have HO := Lib.hid hO; have HRD := Lib.hid hrd; have HLEN := Lib.hid hlen
    have hLl : L.length ≤ 60000 := by omega
    clear hv hU hO hrd hlen hL
    go_enter Try.func55, Try.ntmps55
    go_wp2_with (go_at_call 76; refine (HV.out _ h).mono ?_; rintro e w1 ⟨t, rfl, ho, hb⟩; have rL := ho.row; clear ho; obtain ⟨a, b, off, cp, rfl, hcp, _⟩ := id rL.int)
    go_loopw [7, 8] (fun u i wr => ∃ k : Nat, i = .int .i64 ((16 * k : Nat) : Int) ∧ 16 * k ≤ L.length ∧ Own w1.heap.size 76 wr u (ints .u16 (chunk 16 L k)) ∧ Below w1.heap.size w1 wr) (fun _ i _ => L.length - (intOf i).toNat)
    case atStart => exact ⟨0, rfl, by omega, Own.nil _ _ _, Below.refl _ _⟩
    case round =>
      obtain ⟨k, rfl, hk, hown, hbr⟩ := hrel
      by_cases hlt : 16 * k + 16 ≤ L.length
      · have h1 := num_rng ((hbit.drop (16 * k)).take 16)
        have hlen2 : ((L.drop (16 * k)).take 16).length = 16 := by rw [List.length_take, List.length_drop]; omega
        have hcs := chunk_succ 16 L k
        have hcl : (ints .u16 (chunk 16 L k)).length = k := by rw [ints_length, chunk_len]
        have hnum := fun v w' h' => rnumber_any v ((L.drop (16 * k)).take 16) w' h' ((hbit.drop _).take _) (by omega)
        have hdt : (L.take (16 * k + 16)).drop (16 * k) = (L.drop (16 * k)).take 16 := by rw [List.drop_take]; congr 1; omega
        rw [hlen2] at h1
        generalize num ((L.drop (16 * k)).take 16) = z at *
        generalize (L.drop (16 * k)).take 16 = P at *
        have hz1 : 0 ≤ z := h1.1
        have hz2 : z < 65536 := h1.2
        have HCS := Lib.hid hcs; have HCL := Lib.hid hcl; have HN := Lib.hid hnum; have HDT := Lib.hid hdt
        clear hcs hcl hnum hdt h1 hlen2
        generalize hi : 16 * k = i at *
        go_wp2_with (first | (refine wpList_slLH slT_int _ _ _ rfl rfl rfl rfl rfl (rL.below hbr) (by omega) (by omega) (by simp [ints]; omega) ?_; intro v2 hv2; have r2 := hv2 wr (rL.below hbr); rw [show ((i : Int) + 16).toNat = i + 16 by omega, Int.toNat_natCast, ints_take, ints_drop, HDT.out] at r2) | (go_at_call 77; refine (HN.out _ _ r2).mono ?_; rintro e w2 ⟨rfl, rfl⟩) | (at_builtin; refine wpList_app slT_u16 _ _ _ rfl rfl rfl rfl (hown.alloc _) (Row.ilit [_] [_] rfl (by simp)) (by have h9 := HCL.out; rw [h9]; simp [ints]; omega) (by have := hbr.size; simp; omega) ?_; intro t3 w3 hown3 hg3))
        have hb3 := below_app hbr (below_alloc _ _) (hown.alloc _) hg3
        rw [← ints_append, ← HCS.out] at hown3
        go_roundw
        case rel => exact ⟨k + 1, by congr 1; omega, by omega, hown3, hb3⟩
        case measure => simp [intOf]; omega
      · have hk2 : k = L.length / 16 := by omega
        have hu : chunk 16 L k = U := by rw [hk2, HU.out]; rfl
        rw [hu] at hown
        have hd : L.drop (16 * k) = left 16 L := by rw [hk2]; rfl
        have hll : (left 16 L).length = L.length - 16 * k := by rw [← hd, List.length_drop]
        have hnum := fun v w' h' => rnumber_any v (left 16 L) w' h' (hbit.drop _) (by omega)
        have ho := HO.out
        rw [hll] at ho
        generalize num (left 16 L) = z at *
        generalize left 16 L = P at *
        have HN := Lib.hid hnum; have HD := Lib.hid hd; have HO2 := Lib.hid ho
        clear hnum hd ho HO hu hll hk2
        generalize hi : 16 * k = i at *
        have ho3 : O = (decide (6 ≤ L.length - i) || !(z == 0)) := HO2.out
        have HO3 := Lib.hid ho3; clear ho3 HO2
        by_cases hn : L.length - i < 6
        case' pos =>
          have hn2 : (L.length : Int) - i < 6 := by omega
          have e6 : decide (6 ≤ L.length - i) = false := decide_eq_false (by omega)
        case' neg =>
          have hn2 : 6 ≤ (L.length : Int) - i := by omega
          have e6 : decide (6 ≤ L.length - i) = true := decide_eq_true (by omega)
        all_goals
          clear hn
          have E6 := Lib.hid e6; clear e6
          rcases hq : (q == 0) with _ | _ <;> rcases hz : (z == 0) with _ | _
          all_goals
            have HQ := Lib.hid hq
            have hO2 := HO3.out
            rw [E6.out, hz] at hO2
            have HO2 := Lib.hid hO2; clear hO2
            go_wp2_with (first | (go_at_call 78; refine (HRD.out _ _ hown.row).mono ?_; rintro e w2 ⟨t2, rfl, ho2, hb2⟩; have hb3 := below_trans hbr hb2) | (refine wpList_slL slT_int _ _ rfl rfl rfl rfl (rL.below hb3) (by omega) (by simp [ints]; omega) ?_; intro v2 hv2; have r2 := hv2 w2 (rL.below hb3); rw [Int.toNat_natCast, ints_drop, HD.out] at r2) | (go_at_call 77; refine (HN.out _ _ r2).mono ?_; rintro e w3 ⟨rfl, rfl⟩))
            go_ret3
            exact ⟨_, ret3 rfl (bv (by first | (rw [HO2.out]; rfl) | (rw [HQ.out, HO2.out]; rfl))) rfl, ho2.mono (Nat.le_trans hb.size hbr.size), below_trans hb hb3⟩
end Go.Proofs.Ytbpjgmiedplidaa
