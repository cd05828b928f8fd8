/- Walks: bytes.Equal, bytes.HasPrefix, bytes.Clone. · Walks: Base64's digits, modified. · Walks: names in seven bits: codes. · A range over a function whose iterator keeps its state in a box of its own; every round goes on. · An append inside a fence, by what the slice owns. (laid together by program out of single texts). -/
import Derived.Lib.SlBytesConst
import Derived.Deep.OwnRows
import Derived.RangeFuncNested
import Derived.RangeFuncBox
import Derived.RangeFuncLeaves
import Derived.RangeFuncCalls
import Derived.Shelf.Abstract
import Derived.WalkKit
import Derived.OwnWalkIn
import Derived.TacticsInMore
import Derived.LoopNIn
import Derived.LoopIn
import Derived.Test.YtbpjgmiedplidaaM1
import Derived.Test.YtbpjgmiedplidaaM5
import Derived.Test.YtbpjgmiedplidaaM7
namespace Go.Proofs.Ytbpjgmiedplidaa
open Go.RowKit
set_option maxHeartbeats 1000000
theorem rowstr2 {w : World} {a : Option Addr} {n c : Nat} (xs : List Int) (h : Row w (.slice a n c) (ints .u8 xs)) :
    (convert 24 9 (.slice a n c)).run Try.prog w = .ok (.string (strOfNums xs)) w := by
  obtain ⟨a', b, off, cap, he, hc, hm, ha, hcell⟩ := h.int
  cases he
  cases a with
  | none =>
    have h0 : xs = [] := by
      rcases ha with h9 | ⟨h9, _⟩
      · cases h9
      · exact h9
    subst h0
    exact run_convert_bytes_nil w 24 5 Try.underlying24 Try.underlying5 _ _ 9 Try.underlying9
  | some ad =>
    rcases ha with h9 | ⟨h9, _⟩
    · obtain rfl := Option.some.inj h9
      exact run_convert_bytes_arg w 24 5 Try.underlying24 Try.underlying5 b off _ _ xs rfl (fun i hi => by
        rw [hcell i xs[i] (List.getElem?_eq_getElem hi)]; simp [List.getD, hi]) 9 Try.underlying9
    · subst h9
      have hl : (loadCells ad 0).run Try.prog w = .ok #[] w := by
        have := run_loadCells_list (P := Try.prog) w ad [] (fun j v hj => by simp at hj)
        simpa using this
      show (convert 24 9 (.slice (some ad) 0 c)).run Try.prog w = _
      rw [run_convert_bytes_string w 24 9 5 _ 0 c Try.underlying24 Try.underlying5 Try.underlying9, run_bytesToString w _ 0 c [] hl, foldl_push_bytes]
      rfl
theorem strinj2 {xs ys : List Int} (hx : Rg 0 256 xs) (hy : Rg 0 256 ys) (h : strOfNums xs = strOfNums ys) : xs = ys := by
  have h1 : xs.map (fun n => UInt8.ofNat n.toNat) = ys.map (fun n => UInt8.ofNat n.toNat) := by
    rw [← strOfNums_data, ← strOfNums_data, h]
  have h2 : ∀ zs : List Int, Rg 0 256 zs → (zs.map (fun n => UInt8.ofNat n.toNat)).map (fun u => (u.toNat : Int)) = zs := fun zs hz => by
    rw [List.map_map]
    have : zs.map ((fun u : UInt8 => (u.toNat : Int)) ∘ fun n => UInt8.ofNat n.toNat) = zs.map id := List.map_congr_left fun z hz2 => by
      have := hz z hz2
      simp only [Function.comp, id, UInt8.toNat_ofNat']
      omega
    rw [this, List.map_id]
  rw [← h2 xs hx, h1, h2 ys hy]
set_option maxRecDepth 100000 in
theorem beq_any (v1 v2 : Value) (xs ys : List Int) (w : World) (h1 : Row w v1 (ints .u8 xs)) (h2 : Row w v2 (ints .u8 ys)) (g1 : Rg 0 256 xs) (g2 : Rg 0 256 ys) :
    Calls Try.prog 67 #[v1, v2] w fun e w' => e = .returned (.bool (decide (xs = ys))) ∧ w' = w := by
  obtain ⟨a1, b1, o1, c1, rfl, _⟩ := id h1.op
  obtain ⟨a2, b2, o2, c2, rfl, _⟩ := id h2.op
  have s1 := rowstr2 xs h1
  have s2 := rowstr2 ys h2
  have HF : Hid (decide (strOfNums xs = strOfNums ys) = decide (xs = ys)) := by
    show _ = _
    rw [decide_eq_decide]
    exact ⟨strinj2 g1 g2, fun h => by rw [h]⟩
  generalize strOfNums xs = sx at *
  generalize strOfNums ys = sy at *
  clear h1 h2
  go_enter Try.func67, Try.ntmps67
  go_wp2
  go_ret
  refine ⟨ret_bool ?_, rfl⟩
  rw [← HF.out]
  have e : ∀ s t : ByteArray, (s.toList == t.toList) = decide (s = t) := fun s t => by
    rw [Bool.eq_iff_iff, beq_iff_eq, decide_eq_true_iff, ByteArray.toList_eq, ByteArray.toList_eq]
    exact ⟨fun h => ByteArray.ext (Array.toList_inj.1 h), fun h => by rw [h]⟩
  exact e sx sy
set_option maxRecDepth 100000 in
theorem bpre_any (v1 v2 : Value) (xs ys : List Int) (w : World) (h1 : Row w v1 (ints .u8 xs)) (h2 : Row w v2 (ints .u8 ys)) (g1 : Rg 0 256 xs) (g2 : Rg 0 256 ys) (_hl : xs.length ≤ 1000000) (hl2 : ys.length ≤ 1000000) :
    Calls Try.prog 44 #[v1, v2] w fun e w' => e = .returned (.bool (decide (xs.take ys.length = ys))) ∧ w' = w := by
  obtain ⟨a1, b1, o1, c1, rfl, _⟩ := id h1.op
  obtain ⟨a2, b2, o2, c2, rfl, _⟩ := id h2.op
  rcases Nat.lt_or_ge xs.length ys.length with hlt | hge
  · have HF : Hid (decide (xs.take ys.length = ys) = false) := decide_eq_false fun h => by
      have := congrArg List.length h
      rw [List.length_take] at this; omega
    go_enter Try.func44, Try.ntmps44
    go_wp2
    go_ret
    exact ⟨ret_bool HF.out.symm, rfl⟩
  · have hE := fun v h => beq_any v (.slice a2 ys.length c2) (xs.take ys.length) ys w h h2 (fun x hx => g1 x (List.mem_of_mem_take hx)) g2
    have HE := Lib.hid hE; clear hE
    generalize decide (xs.take ys.length = ys) = q at *
    go_enter Try.func44, Try.ntmps44
    go_wp2_with (first | (refine wpList_slH slT_u8 _ _ rfl rfl rfl rfl h1 (by omega) (by simp [ints]; omega) ?_; intro u3 hu3; have r3 := hu3 w h1; rw [Int.toNat_natCast, ints_take] at r3) | (go_at_call 67; refine (HE.out _ r3).mono ?_; rintro e w1 ⟨rfl, hw⟩; obtain rfl := hw.symm))
    go_ret
    exact ⟨rfl, rfl⟩
theorem bclone_any (v : Value) (xs : List Int) (w : World) (h : Row w v (ints .u8 xs)) (hl : xs.length ≤ 1000000) :
    Calls Try.prog 97 #[v] w fun e w' => ∃ t, e = .returned t ∧ Own w.heap.size 5 w' t (ints .u8 xs) ∧ Below w.heap.size w w' := by
  obtain ⟨a, b, off, cap, rfl, hlc, hm, ha, _⟩ := id h
  have hnil := fun w a n c n' c' => Lib.run_eql_slice_nil (P := Try.prog) w 24 5 a n c n' c' Try.underlying24
  cases a with
  | none =>
    obtain ⟨hn, hz⟩ : ints .u8 xs = [] ∧ ((none : Option Addr) = none → cap = 0) := by
      rcases ha with h | h
      · cases h
      · exact h
    obtain rfl : xs = [] := by simpa [ints] using hn
    obtain rfl := hz rfl
    go_enter Try.func97, Try.ntmps97
    go_wp2
    go_ret
    exact ⟨_, rfl, Own.nil _ _ _, Below.refl _ _⟩
  | some ad =>
    go_enter Try.func97, Try.ntmps97
    go_wp2_with (at_builtin; refine wpList_app slT_u8 _ _ _ rfl rfl rfl rfl (Own.ilit (k := .u8) [] [] rfl (Nat.le_refl _) (by simp)) (h.alloc _) (by simp [ints]; omega) (by simp) ?_; intro t2 w2 hown2 hg2)
    go_ret
    exact ⟨_, rfl, hown2, below_app (Below.refl _ _) (below_alloc _ _) (Own.ilit (k := .u8) [] [] rfl (Nat.le_refl _) (by simp)) hg2⟩
/-- The row that the call owns holds xs; nothing else is written. -/
def SetQ (k : IntKind) (E : TypeId) (B g N cap : Nat) (w : World) (xs : List Int) (w' : World) : Prop := Own B E w' (.slice (some ⟨g, 0, none⟩) N cap) (ints k xs) ∧ w.grownBy w' (some g)
theorem SetQ.drew {k : IntKind} {E : TypeId} {B g N cap : Nat} {w w' : World} {xs : List Int} (h : SetQ k E B g N cap w xs w') : SetQ k E B g N cap w xs w'.drew := ⟨h.1.drew, grown_trans h.2 (grown_drew _ _)⟩
theorem SetQ.set {k : IntKind} {E : TypeId} {B g N cap : Nat} {w w' : World} {xs : List Int} (h : SetQ k E B g N cap w xs w') (j : Nat) (x : Int) : SetQ k E B g N cap w (xs.set j x) (w'.setCell ⟨g, j, none⟩ (.int k x)) :=
  ⟨by have := h.1.set j (.int k x) rfl; rwa [ints_set] at this, grown_trans h.2 (grown_set _ _ _ _)⟩
theorem SetQ.cell {k : IntKind} {E : TypeId} {B g N cap : Nat} {w w' : World} {xs : List Int} (h : SetQ k E B g N cap w xs w') {j : Nat} {x : Int} (hx : xs[j]? = some x) : w'.cell? ⟨g, j, none⟩ = some (.int k x) := h.1.cell (by rw [ints_get, hx]; rfl)
end Go.Proofs.Ytbpjgmiedplidaa
namespace Go.Proofs.Ytbpjgmiedplidaa
open Go.RowKit
set_option maxHeartbeats 1000000
theorem mValue_any (c : Int) (w : World) (h0 : 0 ≤ c) (h1 : c < 256) :
    Calls Try.prog 70 #[.int .u8 c] w fun e w' => e = .returned (.tuple #[.int .i64 (max (mv c) 0), .bool (decide (0 ≤ mv c))]) ∧ w' = w := by
  have hb := bValue_any c w h0 h1
  rcases Decidable.em (c = 44) with rfl | h44
  · clear hb
    go_enter Try.func70, Try.ntmps70
    go_wp2
    go_ret2
    exact ⟨rfl, rfl⟩
  · rcases Decidable.em (c = 47) with rfl | h47
    · clear hb
      go_enter Try.func70, Try.ntmps70
      go_wp2
      go_ret2
      exact ⟨rfl, rfl⟩
    · have e : mv c = dv c := by unfold mv; rw [if_neg h44, if_neg h47]
      have e44 : (c == 44) = false := beq_false_of_ne h44
      have e47 : (c == 47) = false := beq_false_of_ne h47
      rw [e]
      clear e h44 h47
      have HB := Lib.hid hb; clear hb
      go_enter Try.func70, Try.ntmps70
      go_wp2_with (go_at_call 93; refine (HB.out).mono ?_; rintro e w' ⟨rfl, hw⟩; obtain rfl := hw.symm)
      go_ret2
      exact ⟨rfl, rfl⟩
theorem rmValue_any (c : Int) (w : World) :
    Calls Try.prog 53 #[.int .u8 c] w fun e w' => e = .returned (.tuple #[.int .i64 (max (mv c) 0), .bool (decide (0 ≤ mv c))]) ∧ w' = w := by
  have hb := rValue_any c w
  rcases Decidable.em (c = 44) with rfl | h44
  · clear hb
    go_enter Try.func53, Try.ntmps53
    go_wp2
    go_ret2
    exact ⟨rfl, rfl⟩
  · rcases Decidable.em (c = 47) with rfl | h47
    · clear hb
      go_enter Try.func53, Try.ntmps53
      go_wp2
      go_ret2
      exact ⟨rfl, rfl⟩
    · have e : mv c = dv c := by unfold mv; rw [if_neg h44, if_neg h47]
      have e44 : (c == 44) = false := beq_false_of_ne h44
      have e47 : (c == 47) = false := beq_false_of_ne h47
      rw [e]
      clear e h44 h47
      have HB := Lib.hid hb; clear hb
      go_enter Try.func53, Try.ntmps53
      go_wp2_with (go_at_call 74; refine (HB.out).mono ?_; rintro e w' ⟨rfl, hw⟩; obtain rfl := hw.symm)
      go_ret2
      exact ⟨rfl, rfl⟩
theorem swapc_any (a b c : Int) (p q : Nat) (w : World) (hp : w.cell? ⟨p, 0, none⟩ = some (.int .u8 a)) (hq : w.cell? ⟨q, 0, none⟩ = some (.int .u8 b)) :
    Calls Try.prog 98 #[.int .u8 c, .pointer (some ⟨p, 0, none⟩), .pointer (some ⟨q, 0, none⟩)] w fun e w' => e = .returned (.int .u8 (sub1 a b c)) ∧ w' = w := by
  rcases Decidable.em (c = a) with rfl | h
  · go_enter Try.func98, Try.ntmps98
    go_wp2
    go_ret
    exact ⟨ret_int (by rw [sub1, if_pos rfl]), rfl⟩
  · have e : sub1 a b c = c := by rw [sub1, if_neg h]
    have e2 : (c == a) = false := beq_false_of_ne h
    clear h
    go_enter Try.func98, Try.ntmps98
    go_wp2
    go_ret
    exact ⟨ret_int e.symm, rfl⟩
theorem swap_any (a b : Int) (w : World) :
    Calls Try.prog 73 #[.int .u8 a, .int .u8 b] w fun e w' => e = .returned (.func (.func 98) #[] #[.pointer (some ⟨w.heap.size, 0, none⟩), .pointer (some ⟨w.heap.size + 1, 0, none⟩)]) ∧
      w'.cell? ⟨w.heap.size, 0, none⟩ = some (.int .u8 a) ∧ w'.cell? ⟨w.heap.size + 1, 0, none⟩ = some (.int .u8 b) ∧ Below w.heap.size w w' := by
  have hb := (below_alloc w (.cells #[.int .u8 a] 5)).alloc (by simp) (.cells #[.int .u8 b] 5)
  have c00 : (w.alloc (.cells #[.int .u8 a] 5)).cell? ⟨w.heap.size, 0, none⟩ = some (.int .u8 a) := by rw [cell_of_row _ _ 0 _ _ (0, 0) (heap_alloc_new w _)]; rfl
  have c0 : ((w.alloc (.cells #[.int .u8 a] 5)).alloc (.cells #[.int .u8 b] 5)).cell? ⟨w.heap.size, 0, none⟩ = some (.int .u8 a) := by
    rw [← c00]; exact (below_alloc _ _).cell (World.block_lt_of_cell? _ _ c00)
  have c1 : ((w.alloc (.cells #[.int .u8 a] 5)).alloc (.cells #[.int .u8 b] 5)).cell? ⟨w.heap.size + 1, 0, none⟩ = some (.int .u8 b) := by
    have h1 : (w.alloc (.cells #[.int .u8 a] 5)).heap.size = w.heap.size + 1 := by simp
    rw [← h1, cell_of_row _ _ 0 _ _ (0, 0) (heap_alloc_new _ _)]; rfl
  have H := Lib.hid (And.intro hb (And.intro c0 c1))
  clear hb c0 c1
  go_enter Try.func73, Try.ntmps73
  go_wp2
  go_ret
  exact ⟨rfl, H.out.2.1, H.out.2.2, H.out.1⟩
theorem subset_step (a b : Int) {xs : List Int} {k : Nat} {x : Int} (h : xs[k]? = some x) : (subL a b (xs.take k) ++ xs.drop k).set k (sub1 a b x) = subL a b (xs.take (k + 1)) ++ xs.drop (k + 1) := by
  obtain ⟨h1, h2⟩ := List.getElem?_eq_some_iff.1 h
  have hl : (subL a b (xs.take k)).length = k := by rw [subL_len, List.length_take]; omega
  rw [List.set_append_right _ _ (by omega), hl, Nat.sub_self, List.drop_eq_getElem_cons h1, List.set_cons_zero, subL_snoc h, List.append_assoc]; rfl
theorem subset_get (a b : Int) {xs : List Int} {k : Nat} {x : Int} (h : xs[k]? = some x) : (subL a b (xs.take k) ++ xs.drop k)[k]? = some x := by
  obtain ⟨h1, h2⟩ := List.getElem?_eq_some_iff.1 h
  have hl : (subL a b (xs.take k)).length = k := by rw [subL_len, List.length_take]; omega
  rw [List.getElem?_append_right (by omega), hl, Nat.sub_self, List.getElem?_drop, Nat.add_zero, h]
set_option maxRecDepth 100000 in
theorem turned_any (a b : Int) (p q : Nat) (v : Value) (xs : List Int) (w : World) (h : Row w v (ints .u8 xs)) (hl : xs.length ≤ 1000000) (hp : w.cell? ⟨p, 0, none⟩ = some (.int .u8 a)) (hq : w.cell? ⟨q, 0, none⟩ = some (.int .u8 b)) :
    Calls Try.prog 72 #[v, .func (.func 98) #[] #[.pointer (some ⟨p, 0, none⟩), .pointer (some ⟨q, 0, none⟩)]] w fun e w' => ∃ t, e = .returned t ∧ Own w.heap.size 5 w' t (ints .u8 (subL a b xs)) ∧ Below w.heap.size w w' := by
  have hcl := bclone_any v xs w h hl
  have HCL := Lib.hid hcl; clear hcl
  have hpl := World.block_lt_of_cell? w _ hp
  have hql := World.block_lt_of_cell? w _ hq
  rcases Nat.eq_zero_or_pos xs.length with h0 | h0
  · obtain rfl := List.eq_nil_of_length_eq_zero h0
    go_enter Try.func72, Try.ntmps72
    go_wp2_with (go_at_call 97; refine (HCL.out).mono ?_; rintro e w1 ⟨t1, rfl, ho1, hb1⟩; obtain ⟨a1, b1, o1, c1, rfl, C1⟩ := id ho1.row.op)
    go_loopw [12] (fun i wr => i = .int .i64 0 ∧ wr = w1) (fun i _ => 0)
    case atStart => exact ⟨rfl, rfl⟩
    case round =>
      obtain ⟨rfl, hw⟩ := hrel
      obtain rfl := hw.symm
      go_wp2
      go_ret
      exact ⟨_, rfl, ho1, hb1⟩
  · go_enter Try.func72, Try.ntmps72
    go_wp2_with (go_at_call 97; refine (HCL.out).mono ?_; rintro e w1 ⟨t1, rfl, ho1, hb1⟩; obtain ⟨g, cap, rfl, hgB, hgl⟩ := ho1.form (by rw [ints_length]; exact h0); rw [ints_length] at *)
    have hq0 : SetQ .u8 5 w.heap.size g xs.length cap w1 (subL a b (xs.take 0) ++ xs.drop 0) w1 := ⟨by rw [List.take_zero, List.drop_zero]; exact ho1, ⟨rfl, rfl, rfl, Nat.le_refl _, fun _ _ _ => rfl⟩⟩
    have hp1 : w1.cell? ⟨p, 0, none⟩ = some (.int .u8 a) := by rw [← hp]; exact hb1.cell hpl
    have hq1 : w1.cell? ⟨q, 0, none⟩ = some (.int .u8 b) := by rw [← hq]; exact hb1.cell hql
    have hpg : p ≠ g := by omega
    have hqg : q ≠ g := by omega
    have HPG := Lib.hid hpg; have HQG := Lib.hid hqg; have HP1 := Lib.hid hp1; have HQ1 := Lib.hid hq1; have HQ0 := Lib.hid hq0; have HB1 := Lib.hid hb1
    have HGB := Lib.hid hgB
    clear hp hq hpl hql hpg hqg hp1 hq1 hq0 ho1 h hb1 hgB HCL h0
    go_loopw [12] (fun i wr => ∃ k : Nat, i = .int .i64 k ∧ k ≤ xs.length ∧ SetQ .u8 5 w.heap.size g xs.length cap w1 (subL a b (xs.take k) ++ xs.drop k) wr) (fun i _ => xs.length - (intOf i).toNat)
    case atStart => exact ⟨0, rfl, Nat.zero_le _, HQ0.out⟩
    case round =>
      obtain ⟨k, rfl, hk, hr⟩ := hrel
      by_cases hlt : k < xs.length
      · obtain ⟨x, hx⟩ : ∃ x, xs[k]? = some x := ⟨_, List.getElem?_eq_getElem hlt⟩
        have f := fun j => hr.1.frozen j
        have c := hr.cell (subset_get a b hx)
        have hs := hr.set k (sub1 a b x)
        rw [subset_step a b hx] at hs
        have HS := Lib.hid hs
        have hsw := swapc_any a b x p q wr (hr.2.cell HP1.out (by intro h9; have := Option.some.inj h9; have := HPG.out; simp only at *; omega)) (hr.2.cell HQ1.out (by intro h9; have := Option.some.inj h9; have := HQG.out; simp only at *; omega))
        have HSW := Lib.hid hsw
        clear hs hsw hx hr
        go_wp2_with (go_at_call 98; refine (HSW.out).mono ?_; rintro e w2 ⟨rfl, hw2⟩; obtain rfl := hw2.symm)
        go_roundw
        case rel => exact ⟨k + 1, by go_num, by omega, HS.out⟩
        case measure => simp [intOf]; omega
      · obtain rfl : k = xs.length := by omega
        rw [List.take_length, List.drop_length, List.append_nil] at hr
        go_wp2
        go_ret
        exact ⟨_, rfl, hr.1, HB1.out.grown hr.2 (Nat.le_of_lt (by have := HGB.out; omega)) (fun k hk => by cases hk; exact HGB.out)⟩
end Go.Proofs.Ytbpjgmiedplidaa
namespace Go.Proofs.Ytbpjgmiedplidaa
open Go.RowKit
set_option maxHeartbeats 1000000
theorem oUsual_any (v : Value) (xs : List Int) (w : World) (h : Row w v (ints .u8 xs)) (hl : xs.length ≤ 1000000) :
    Calls Try.prog 52 #[v] w fun e w' => ∃ t, e = .returned t ∧ Own w.heap.size 5 w' t (ints .u8 (usuL xs)) ∧ Below w.heap.size w w' := by
  have hs := swap_any 44 47 w
  have ht := fun w1 (hb : Below w.heap.size w w1) hp hq => turned_any 44 47 w.heap.size (w.heap.size + 1) v xs w1 (h.below hb) hl hp hq
  have HS := Lib.hid hs; have HT := Lib.hid ht; clear hs ht
  go_enter Try.func52, Try.ntmps52
  go_wp2_with (first | (go_at_call 73; refine (HS.out).mono ?_; rintro e w1 ⟨rfl, hp1, hq1, hb1⟩) | (go_at_call 72; refine (HT.out _ hb1 hp1 hq1).mono ?_; rintro e w2 ⟨t2, rfl, ho2, hb2⟩))
  go_ret
  exact ⟨_, rfl, ho2.mono hb1.size, below_trans hb1 hb2⟩
theorem oModified_any (v : Value) (xs : List Int) (w : World) (h : Row w v (ints .u8 xs)) (hl : xs.length ≤ 1000000) :
    Calls Try.prog 61 #[v] w fun e w' => ∃ t, e = .returned t ∧ Own w.heap.size 5 w' t (ints .u8 (modL xs)) ∧ Below w.heap.size w w' := by
  have hs := swap_any 47 44 w
  have ht := fun w1 (hb : Below w.heap.size w w1) hp hq => turned_any 47 44 w.heap.size (w.heap.size + 1) v xs w1 (h.below hb) hl hp hq
  have HS := Lib.hid hs; have HT := Lib.hid ht; clear hs ht
  go_enter Try.func61, Try.ntmps61
  go_wp2_with (first | (go_at_call 73; refine (HS.out).mono ?_; rintro e w1 ⟨rfl, hp1, hq1, hb1⟩) | (go_at_call 72; refine (HT.out _ hb1 hp1 hq1).mono ?_; rintro e w2 ⟨t2, rfl, ho2, hb2⟩))
  go_ret
  exact ⟨_, rfl, ho2.mono hb1.size, below_trans hb1 hb2⟩
theorem omLay_any (v : Value) (xs : List Int) (w : World) (h : Row w v (ints .u8 xs)) (hg : Rg 0 256 xs) (hl : xs.length ≤ 100000) :
    Calls Try.prog 37 #[v] w fun e w' => ∃ t, e = .returned t ∧ Own w.heap.size 5 w' t (ints .u8 (modL (bare xs))) ∧ Below w.heap.size w w' := by
  have hb := oBare_any v xs w h hg hl
  have hm := fun v w1 h => oModified_any v (bare xs) w1 h (by have := bare_len xs; omega)
  have HB := Lib.hid hb; have HM := Lib.hid hm; clear hb hm
  go_enter Try.func37, Try.ntmps37
  go_wp2_with (first | (go_at_call 62; refine (HB.out).mono ?_; rintro e w1 ⟨t1, rfl, ho1, hb1⟩) | (go_at_call 61; refine (HM.out _ _ ho1.row).mono ?_; rintro e w2 ⟨t2, rfl, ho2, hb2⟩))
  go_ret
  exact ⟨_, rfl, ho2.mono hb1.size, below_trans hb1 hb2⟩
set_option maxRecDepth 100000 in
theorem rturned_any (a b : Int) (v : Value) (xs : List Int) (w : World) (h : Row w v (ints .u8 xs)) (hl : xs.length ≤ 1000000) :
    Calls Try.prog 75 #[v, .int .u8 a, .int .u8 b] w fun e w' => ∃ t, e = .returned t ∧ Own w.heap.size 5 w' t (ints .u8 (subL a b xs)) ∧ Below w.heap.size w w' := by
  obtain ⟨a1, b1, o1, c1, rfl, HC⟩ := h.op
  go_enter Try.func75, Try.ntmps75
  go_wp2
  go_loopw [7, 8] (fun u i wr => ∃ k : Nat, i = .int .i64 k ∧ k ≤ xs.length ∧ Own w.heap.size 5 wr u (ints .u8 (subL a b (xs.take k))) ∧ Below w.heap.size w wr) (fun _ i _ => xs.length - (intOf i).toNat)
  case atStart => exact ⟨0, rfl, Nat.zero_le _, Own.nil _ _ _, Below.refl _ _⟩
  case round =>
    obtain ⟨k, rfl, hk, hown, hb⟩ := hrel
    by_cases hlt : k < xs.length
    · obtain ⟨x, HX, rfl, hc⟩ := HC.out k hlt
      replace hc := hc wr hb
      have hsn := subL_snoc (a := a) (b := b) HX.out
      have hsl := subL_len a b (xs.take k)
      rw [List.length_take] at hsl
      have HSL : Hid ((subL a b (xs.take k)).length ≤ 1000000) := by show _ ≤ _; omega
      clear hsl
      rcases Decidable.em (x = a) with rfl | hx
      · rw [sub1, if_pos rfl] at hsn
        have HU := Lib.hid hsn; clear hsn
        go_wp2_with (at_builtin; refine wpList_app slT_u8 _ _ _ rfl rfl rfl rfl (hown.alloc _) (Row.ilit [_] [_] rfl (by simp)) (by have := HSL.out; simp only [ints_length, List.length_cons, List.length_nil]; omega) (by have := hb.size; simp; omega) ?_; intro t2 w2 hown2 hg2)
        have hb2 := below_app hb (below_alloc _ _) (hown.alloc _) hg2
        rw [← ints_append, ← HU.out] at hown2
        go_roundw
        case rel => exact ⟨k + 1, by go_num, by omega, hown2, hb2⟩
        case measure => simp [intOf]; omega
      · rw [sub1, if_neg hx] at hsn
        have HU := Lib.hid hsn; clear hsn
        have hne : (x == a) = false := beq_false_of_ne hx
        clear hx
        go_wp2_with (at_builtin; refine wpList_app slT_u8 _ _ _ rfl rfl rfl rfl (hown.alloc _) (Row.ilit [_] [_] rfl (by simp)) (by have := HSL.out; simp only [ints_length, List.length_cons, List.length_nil]; omega) (by have := hb.size; simp; omega) ?_; intro t2 w2 hown2 hg2)
        have hb2 := below_app hb (below_alloc _ _) (hown.alloc _) hg2
        rw [← ints_append, ← HU.out] at hown2
        go_roundw
        case rel => exact ⟨k + 1, by go_num, by omega, hown2, hb2⟩
        case measure => simp [intOf]; omega
    · obtain rfl : k = xs.length := by omega
      rw [List.take_length] at hown
      go_wp2
      go_ret
      exact ⟨_, rfl, hown, hb⟩
theorem rUsual_any (v : Value) (xs : List Int) (w : World) (h : Row w v (ints .u8 xs)) (hl : xs.length ≤ 1000000) :
    Calls Try.prog 54 #[v] w fun e w' => ∃ t, e = .returned t ∧ Own w.heap.size 5 w' t (ints .u8 (usuL xs)) ∧ Below w.heap.size w w' := by
  have ht := rturned_any 44 47 v xs w h hl
  have HT := Lib.hid ht; clear ht
  go_enter Try.func54, Try.ntmps54
  go_wp2_with (go_at_call 75; refine (HT.out).mono ?_; rintro e w2 ⟨t2, rfl, ho2, hb2⟩)
  go_ret
  exact ⟨_, rfl, ho2, hb2⟩
theorem rModified_any (v : Value) (xs : List Int) (w : World) (h : Row w v (ints .u8 xs)) (hl : xs.length ≤ 1000000) :
    Calls Try.prog 64 #[v] w fun e w' => ∃ t, e = .returned t ∧ Own w.heap.size 5 w' t (ints .u8 (modL xs)) ∧ Below w.heap.size w w' := by
  have ht := rturned_any 47 44 v xs w h hl
  have HT := Lib.hid ht; clear ht
  go_enter Try.func64, Try.ntmps64
  go_wp2_with (go_at_call 75; refine (HT.out).mono ?_; rintro e w2 ⟨t2, rfl, ho2, hb2⟩)
  go_ret
  exact ⟨_, rfl, ho2, hb2⟩
theorem rmLay_any (v : Value) (xs : List Int) (w : World) (h : Row w v (ints .u8 xs)) (hg : Rg 0 256 xs) (hl : xs.length ≤ 50000) :
    Calls Try.prog 40 #[v] w fun e w' => ∃ t, e = .returned t ∧ Own w.heap.size 5 w' t (ints .u8 (modL (bare xs))) ∧ Below w.heap.size w w' := by
  have hb := rBare_any v xs w h hg hl
  have hm := fun v w1 h => rModified_any v (bare xs) w1 h (by have := bare_len xs; omega)
  have HB := Lib.hid hb; have HM := Lib.hid hm; clear hb hm
  go_enter Try.func40, Try.ntmps40
  go_wp2_with (first | (go_at_call 65; refine (HB.out).mono ?_; rintro e w1 ⟨t1, rfl, ho1, hb1⟩) | (go_at_call 64; refine (HM.out _ _ ho1.row).mono ?_; rintro e w2 ⟨t2, rfl, ho2, hb2⟩))
  go_ret
  exact ⟨_, rfl, ho2.mono hb1.size, below_trans hb1 hb2⟩
theorem mDirect_any (c : Int) (w : World) :
    Calls Try.prog 19 #[.int .i32 c] w fun e w' => e = .returned (.bool (mdirB c)) ∧ w' = w := by
  have e : mdirB c = (decide (32 ≤ c) && decide (c ≤ 126) && (c != 38)) := by
    rw [mdirB, Bool.eq_iff_iff]; simp; omega
  rw [e]
  by_cases h1 : 32 ≤ c
  · by_cases h2 : c ≤ 126
    · go_enter Try.func19, Try.ntmps19
      go_wp2
      go_ret
      exact ⟨ret_bool (by rw [decide_eq_true h1, decide_eq_true h2]; rfl), rfl⟩
    · go_enter Try.func19, Try.ntmps19
      go_wp2
      go_ret
      exact ⟨ret_bool (by simp; omega), rfl⟩
  · go_enter Try.func19, Try.ntmps19
    go_wp2
    go_ret
    exact ⟨ret_bool (by simp; omega), rfl⟩
theorem rmDirect_any (c : Int) (w : World) :
    Calls Try.prog 20 #[.int .i32 c] w fun e w' => e = .returned (.bool (mdirB c)) ∧ w' = w := by
  have e : mdirB c = (decide (32 ≤ c) && decide (c ≤ 126) && (c != 38)) := by
    rw [mdirB, Bool.eq_iff_iff]; simp; omega
  rw [e]
  by_cases h1 : 32 ≤ c
  · by_cases h2 : c ≤ 126
    · go_enter Try.func20, Try.ntmps20
      go_wp2
      go_ret
      exact ⟨ret_bool (by rw [decide_eq_true h1, decide_eq_true h2]; rfl), rfl⟩
    · go_enter Try.func20, Try.ntmps20
      go_wp2
      go_ret
      exact ⟨ret_bool (by simp; omega), rfl⟩
  · go_enter Try.func20, Try.ntmps20
    go_wp2
    go_ret
    exact ⟨ret_bool (by simp; omega), rfl⟩
theorem omCode_any (v : Value) (t : List Int) (w : World) (h : Row w v (ints .i32 t)) (hr : R32 t) (hl : t.length ≤ 5000) :
    Calls Try.prog 17 #[v] w fun e w' => ∃ r, e = .returned r ∧ Own w.heap.size 5 w' r (ints .u8 (mcodeL t)) ∧ Below w.heap.size w w' := by
  have hL := uLay_any v t w h hr (by omega)
  have hul := ulayL_len t
  cases ha : allSc t with
  | false =>
    rw [show ulayR t = ([], 7) from by rw [ulayR, ha]; rfl] at hL
    rw [show mcodeL t = [] from by rw [mcodeL, codeL, ha]; rfl]
    have HL := Lib.hid hL; clear hL
    go_enter Try.func17, Try.ntmps17
    go_wp2_with (go_at_call 36; refine (HL.out).mono ?_; rintro e w1 ⟨u, rfl, ho, hb⟩)
    go_ret
    exact ⟨_, rfl, Own.nil _ _ _, hb⟩
  | true =>
    rw [show ulayR t = (ulayL t, 0) from by rw [ulayR, ha]; rfl] at hL
    rw [show mcodeL t = modL (bare (uoct (ulayL t))) from by rw [mcodeL, codeL, ha]; rfl]
    have hg := ulay_rng t
    have hO := fun v w' h' => uOctets_any v (ulayL t) w' h' hg (by omega)
    have hB := fun v w' h' => omLay_any v (uoct (ulayL t)) w' h' (uoct_rng hg) (by rw [uoct_len]; omega)
    have HL := Lib.hid hL; have HO := Lib.hid hO; have HB := Lib.hid hB; clear hL hO hB
    go_enter Try.func17, Try.ntmps17
    go_wp2_with (first | (go_at_call 36; refine (HL.out).mono ?_; rintro e w1 ⟨u, rfl, ho, hb⟩) | (go_at_call 38; refine (HO.out _ _ ho.row).mono ?_; rintro e w2 ⟨u2, rfl, ho2, hb2⟩) | (go_at_call 37; refine (HB.out _ _ ho2.row).mono ?_; rintro e w3 ⟨u3, rfl, ho3, hb3⟩))
    go_ret
    exact ⟨_, rfl, ho3.mono (Nat.le_trans hb.size hb2.size), below_trans (below_trans hb hb2) hb3⟩
theorem rmCode_any (v : Value) (t : List Int) (w : World) (h : Row w v (ints .i32 t)) (hr : R32 t) (hl : t.length ≤ 5000) :
    Calls Try.prog 18 #[v] w fun e w' => ∃ r, e = .returned r ∧ Own w.heap.size 5 w' r (ints .u8 (mcodeL t)) ∧ Below w.heap.size w w' := by
  have hL := rLay_any v t w h hr (by omega)
  have hul := ulayL_len t
  cases ha : allSc t with
  | false =>
    rw [show ulayR t = ([], 7) from by rw [ulayR, ha]; rfl] at hL
    rw [show mcodeL t = [] from by rw [mcodeL, codeL, ha]; rfl]
    have HL := Lib.hid hL; clear hL
    go_enter Try.func18, Try.ntmps18
    go_wp2_with (go_at_call 39; refine (HL.out).mono ?_; rintro e w1 ⟨u, rfl, ho, hb⟩)
    go_ret
    exact ⟨_, rfl, Own.nil _ _ _, hb⟩
  | true =>
    rw [show ulayR t = (ulayL t, 0) from by rw [ulayR, ha]; rfl] at hL
    rw [show mcodeL t = modL (bare (uoct (ulayL t))) from by rw [mcodeL, codeL, ha]; rfl]
    have hg := ulay_rng t
    have hO := fun v w' h' => rOctets_any v (ulayL t) w' h' hg (by omega)
    have hB := fun v w' h' => rmLay_any v (uoct (ulayL t)) w' h' (uoct_rng hg) (by rw [uoct_len]; omega)
    have HL := Lib.hid hL; have HO := Lib.hid hO; have HB := Lib.hid hB; clear hL hO hB
    go_enter Try.func18, Try.ntmps18
    go_wp2_with (first | (go_at_call 39; refine (HL.out).mono ?_; rintro e w1 ⟨u, rfl, ho, hb⟩) | (go_at_call 41; refine (HO.out _ _ ho.row).mono ?_; rintro e w2 ⟨u2, rfl, ho2, hb2⟩) | (go_at_call 40; refine (HB.out _ _ ho2.row).mono ?_; rintro e w3 ⟨u3, rfl, ho3, hb3⟩))
    go_ret
    exact ⟨_, rfl, ho3.mono (Nat.le_trans hb.size hb2.size), below_trans (below_trans hb hb2) hb3⟩
end Go.Proofs.Ytbpjgmiedplidaa
namespace Go.Proofs.Ytbpjgmiedplidaa
open Go.RowKit Go.Shelf
/-- What a round keeps: whatever lay below n₀, and the iterator's box. -/
def KpB (n₀ Bs : Nat) (W W' : World) : Prop := Below n₀ W W' ∧ W'.heap[Bs]? = W.heap[Bs]?
theorem KpB.trans {n₀ Bs : Nat} {A B C : World} (h : KpB n₀ Bs A B) (k : KpB n₀ Bs B C) : KpB n₀ Bs A C := ⟨h.1.trans k.1, k.2.trans h.2⟩
theorem KpB.putObj {n₀ Bs l : Nat} {W : World} (o' : Obj) (hn : n₀ ≤ l) (hB : Bs ≠ l) (hl : l < W.heap.size) : KpB n₀ Bs W (W.putObj l o') :=
  ⟨(Below.refl n₀ W).grown (grownBy_putObj' W l o') (by omega) (fun k e => by cases e; omega), World.putObj_heap_other hB⟩
variable {F : Fence} {n : Nat} {P : Program}
theorem range_all {α : Type} {g : Operand} {ps : Array Tmp} {assign body : Code} {Q : Exit → Act → World → Prop} {a : Act} {w : World}
    (hro : F.round = none) (h1 : 1 ≤ n) {gf : Nat} {lb : Array Value} (hg : a.eval g = .func (.func gf) #[] lb) (hFg : F.fn gf) (eg : ∀ args w, (callFunc gf args).run P w = .ok (.enter gf args) w)
    {encs : α → Array Value} (hps : ∀ x, (encs x).size = ps.size) (n₀ Bs : Nat) (hn₀ : n₀ ≤ w.heap.size) (hBs : Bs < w.heap.size) {S : List α → Prop} {N : Nat}
    (hseq : ∀ (l : Nat) (J : List α → World → Prop), (∀ s W u, J s W → J s (W.setCell ⟨Bs, 0, none⟩ u)) →
      (∀ pre x W1, J pre W1 → pre.length < N → YieldAt F (n - 1 - 1) P l (encs x) W1 fun e W' => e = .returned (.bool true) ∧ J (pre ++ [x]) W' ∧ KpB n₀ Bs W1 W') →
      ∀ W, Below w.heap.size w W → J [] W → CallsIn F (n - 1) P gf (#[.func (.yield l) #[] #[]] ++ lb) W fun e W' => (∃ v, e = .returned v) ∧ ∃ ys, S ys ∧ J ys W')
    (I : List α → World → Prop) (hI : OwnFrom w.heap.size I) (hIc : ∀ s W u, I s W → I s (W.setCell ⟨Bs, 0, none⟩ u)) (h0 : I [] w) (a₁ : α → Act)
    (hassign : ∀ (l : Nat) (x : α) (W : World) (K : Act → World → Prop), K (a₁ x) W →
      assign.wpIn (F.inRound l) (n - 1 - 1) P (Exit.then K (fun _ _ _ => False)) { tmps := (ps.zip (encs x)).foldl (fun t (p, v) => t.setIfInBounds p v) a.tmps, defers := [] } W)
    (hbody : ∀ (l : Nat) (pre : List α) (x : α) (W : World), I pre W → pre.length < N → body.wpIn (F.inRound l) (n - 1 - 1) P (ownPostK (KpB n₀ Bs) I (fun _ _ _ => False) (pre ++ [x]) W) (a₁ x) W)
    (hdone : ∀ (D : Nat) (xs : List α) (W : World), w.heap.size ≤ D → S xs → I xs W → W.heap[D]? = some (.deferred (some [])) → Q .normal { a with defers := { target := .collected D, args := #[] } :: a.defers } W) :
    (Code.rangeFunc g ps assign body).wpIn F n P Q a w := by
  refine wpIn_rangeFunc fun fn hfn => ?_
  rw [hro]
  obtain ⟨R, hR⟩ : ∃ R : Loop, R = { state := .ready, pending := none, fn, tmps := a.tmps, params := ps, assign, body, defers := w.heap.size } := ⟨_, rfl⟩
  obtain ⟨Z, hZ⟩ : ∃ Z, (w.alloc (.deferred (some []))).alloc (.loop R) = Z := ⟨_, rfl⟩
  have zl : Z.heap[w.heap.size + 1]? = some (.loop R) := by
    rw [← hZ]
    have := World.alloc_heap_new (w.alloc (.deferred (some []))) (.loop R)
    rwa [World.size_alloc] at this
  have zd : Z.heap[w.heap.size]? = some (.deferred (some [])) := by
    rw [← hZ]
    exact (Below.heap_alloc _ _ _ (by simp)).trans (World.alloc_heap_new w _)
  have zb : Below w.heap.size w Z := by
    rw [← hZ]
    exact ((Below.refl _ w).alloc (Nat.le_refl _) _).alloc (by simp) _
  have zi : I [] Z := by rw [← hZ]; exact hI.alloc _ (hI.alloc _ h0)
  have run1 := run_enterLoop_outer (P := P) (w := w) fn a.tmps ps assign body
  rw [← hR, hZ] at run1
  refine ⟨_, _, Z, { target := .fn (.func gf) lb, args := #[.func (.yield (w.heap.size + 1)) #[] #[]] }, Z, gf, #[.func (.yield (w.heap.size + 1)) #[] #[]] ++ lb, Z, run1, ?_, ?_, ?_, fun _ => h1, ?_⟩
  · simp only [resolve, hg]
    simp [go_sem]
  · intro f' hf'
    simp [Target.leads] at hf'
    subst hf'
    exact hFg
  · simp [invoke, go_sem, eg]
  refine (hseq (w.heap.size + 1) (fun pre W => I pre W ∧ W.heap[w.heap.size + 1]? = some (.loop R) ∧ W.heap[w.heap.size]? = some (.deferred (some []))) ?cell ?round Z zb ⟨zi, zl, zd⟩).mono ?after
  case cell =>
    rintro s W u ⟨hi, hl, hd⟩
    exact ⟨hIc s W u hi, (Below.heap_setCell _ _ _ _ (by simp; omega)).trans hl, (Below.heap_setCell _ _ _ _ (by simp; omega)).trans hd⟩
  case round =>
    rintro pre x W ⟨hi, hl, hd⟩ hlen
    have hlt : w.heap.size + 1 < W.heap.size := (Array.getElem?_eq_some_iff.1 hl).1
    have hy := run_yield (P := P) (args := encs x) hl (by rw [hR]; exact hps x)
    rw [hR] at hy
    refine ⟨fn, _, assign, body, hy, roundIn_of_wpIn hfn (hassign _ x W _ ⟨_, run_beginRound hl (by rw [hR]), ?_⟩)⟩
    have k0 : KpB n₀ Bs W (W.putObj (w.heap.size + 1) (.loop { R with state := .busy })) := KpB.putObj _ (by omega) (by omega) hlt
    have i0 : I pre (W.putObj (w.heap.size + 1) (.loop { R with state := .busy })) := hI.putObj _ hi (by omega) hl rfl
    have l0 : (W.putObj (w.heap.size + 1) (.loop { R with state := .busy })).heap[w.heap.size + 1]? = some (.loop { R with state := .busy }) := World.putObj_heap_same hlt
    have d0 : (W.putObj (w.heap.size + 1) (.loop { R with state := .busy })).heap[w.heap.size]? = some (.deferred (some [])) := (World.putObj_heap_other (by omega)).trans hd
    refine wpIn_mono (hbody _ pre x _ i0 hlen) ?_
    rintro e a3 W3 hp
    cases e with
    | normal =>
      obtain ⟨hk3, hkp3, hi3⟩ := hp
      have l3 := hk3.same _ _ l0 rfl
      have d3 := hk3.same _ _ d0 rfl
      have hlt3 : w.heap.size + 1 < W3.heap.size := (Array.getElem?_eq_some_iff.1 l3).1
      have he := run_endRound (P := P) none l3
      simp only [Option.isNone_none, if_true] at he
      have hRR : ({ R with state := .ready, pending := none } : Loop) = R := by rw [hR]
      rw [hRR] at he
      refine ⟨_, _, he, rfl, ⟨hI.putObj _ hi3 (by omega) l3 rfl, World.putObj_heap_same hlt3, (World.putObj_heap_other (by omega)).trans d3⟩, (k0.trans hkp3).trans (KpB.putObj _ (by omega) (by omega) hlt3)⟩
    | ret => exact hp.2.elim
    | exit id => exact hp.2.elim
    | goto t => exact hp.2.elim
    | panic ch => exact hp.elim
    | outgrown => exact hp.elim
  case after =>
    rintro e W2 ⟨⟨v, rfl⟩, ys, hS, hi, hl, hd⟩
    have he := run_endLoop (P := P) hl (by rw [hR]; simp)
    rw [show R.pending = none by rw [hR]] at he
    exact ⟨none, _, he, hdone _ ys _ (Nat.le_refl _) hS (hI.putObj _ hi (by omega) hl rfl) ((World.putObj_heap_other (by omega)).trans hd)⟩
end Go.Proofs.Ytbpjgmiedplidaa
namespace Go.Proofs.Ytbpjgmiedplidaa
open Go.RowKit
theorem wpIn_app2 {F : Fence} {n : Nat} {P : Program} {w : World} {o : Oper} {a : Act} {K : Act → World → Prop} {Q : Exit → Act → World → Prop} {t E : TypeId} (hT : SlT P t E) (B : Nat)
    (s x : Operand) (ho : o.op = .call { callee := .builtin .append, args := #[s, x], argTypes := #[t, t] })
    {v v2 : Value} (hs : a.eval s = v) (hx : a.eval x = v2) {cs ds : List Value} (hown : Own B E w v cs) (hrow : Row w v2 ds) (hb : cs.length + ds.length ≤ 1000000000) (hB : B ≤ w.heap.size)
    (h : ∀ v' w', Own B E w' v' (cs ++ ds) → w.grownBy w' v.ownBlock → (v'.ownBlock = v.ownBlock ∨ v'.ownBlock = some w.heap.size) → K (a.put o.dst v') w') : o.wpIn F n P a w K Q := by
  obtain ⟨ht, i, z, hi, hz, hsize, hby, hzs⟩ := hT
  obtain ⟨a2, b2, off2, cap2, rfl, hc2, hm2, ha2, h12, hcell2⟩ := hrow
  unfold Oper.wpIn
  refine ⟨fun f hf => ?_, ?_⟩
  · simp [Oper.about, ho, resolve, Target.leads, Sem.run_pure] at hf
  rw [Oper.semAt_plain F _ _ (by rw [ho]; intro c hc'; cases hc')]
  cases a2 with
  | none =>
    obtain ⟨rfl, hc⟩ : ds = [] ∧ ((none : Option Addr) = none → cap2 = 0) := by
      rcases ha2 with h | h
      · cases h
      · exact h
    obtain rfl := hc rfl
    have hrun := run_append_owned_none (P := P) (w := w) B t o.type E i 1 ht hi v cs.length cs hown.1
    simp [execOp, ho, resolve, invoke, builtin, hs, hx, hrun, Result.andThen]
    have := h v w (by simpa using hown) ⟨rfl, rfl, rfl, Nat.le_refl _, fun _ _ _ => rfl⟩ (.inl rfl)
    exact this
  | some ad =>
    have hnews : ∀ j u, ds[j]? = some u → w.cell? (ad.add j) = some u := by
      intro j u hu
      rcases ha2 with h | h
      · obtain rfl : ad = ⟨b2, off2, none⟩ := by simpa using h
        rw [addr_add]; exact hcell2 j u hu
      · obtain ⟨rfl, _⟩ := h
        simp at hu
    have h3 : (cs.length + ds.length) * i.bytes ≤ 1000000000 * 64 := Nat.mul_le_mul hb hby
    obtain ⟨v', w', hr, h2, h4, _, h5⟩ := run_append_own_at (P := P) w B t o.type E i z 1 i.bytes ht hi hz hsize rfl hzs (by omega) v cs.length cs hown.1 ad ds.length cap2 ds (by simp) hnews h12
      (by simp only [maxLen]; omega) (by omega) hB
    unfold execOp
    simp only [ho, resolve, invoke, builtin, Sem.run_bind, Sem.run_pure, Result.andThen_ok, List.map_toArray, List.map_cons, List.map_nil, hs, hx, hr]
    exact h v' w' ⟨by simpa using h2, by
        intro u hu
        rcases List.mem_append.1 hu with hu | hu
        · exact hown.2 u hu
        · exact h12 u hu⟩ h4 h5
theorem wpListIn_app2 {F : Fence} {n : Nat} {P : Program} {w : World} {ops : Array Oper} {rest : List Oper} {o : Oper} {a : Act} {Q : Exit → Act → World → Prop} {t E : TypeId} (hT : SlT P t E) (B : Nat)
    (s x : Operand) (hg : o.guard = none) (ho : o.op = .call { callee := .builtin .append, args := #[s, x], argTypes := #[t, t] })
    {v v2 : Value} (hs : a.eval s = v) (hx : a.eval x = v2) {cs ds : List Value} (hown : Own B E w v cs) (hrow : Row w v2 ds) (hb : cs.length + ds.length ≤ 1000000000) (hB : B ≤ w.heap.size)
    (h : ∀ v' w', Own B E w' v' (cs ++ ds) → w.grownBy w' v.ownBlock → (v'.ownBlock = v.ownBlock ∨ v'.ownBlock = some w.heap.size) → wpListIn F n P ops Q rest (a.put o.dst v') w') : wpListIn F n P ops Q (o :: rest) a w :=
  wpListIn_plain hg fun _ hK => wpIn_app2 hT B s x ho hs hx hown hrow hb hB (fun v' w' h1 h2 h3 => hK _ _ (h v' w' h1 h2 h3))
end Go.Proofs.Ytbpjgmiedplidaa
