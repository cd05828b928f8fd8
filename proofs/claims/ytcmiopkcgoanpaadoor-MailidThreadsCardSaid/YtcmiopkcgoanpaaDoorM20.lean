/- Walks: the parts of a message's name. · Walks: the parts of a message's name, there; a name read. · Walks: a message's name read. (laid together by program out of single texts). -/
import Derived.Deep.MidRow
import Derived.Laws.ResultCell
import Derived.Test.YtcmiopkcgoanpaaDoorM8
import Derived.Test.YtcmiopkcgoanpaaDoorM16
import Derived.Test.YtcmiopkcgoanpaaDoorM19
namespace Go.Proofs.YtcmiopkcgoanpaaDoor
open Go.RowKit
set_option maxHeartbeats 4000000
set_option maxRecDepth 100000
theorem loadID (w : World) (T : TypeId) (b : Nat) (x y : Value) (d : TypeDesc) (hu : Tryd.prog.underlying T = some d) (hd : d.isRow = true) (hi : (Tryd.prog.info? T).map (·.size) = some 2) (h0 : w.cell? ⟨b, 0, none⟩ = some x) (h1 : w.cell? ⟨b, 1, none⟩ = some y) :
    (loadVar T ⟨b, 0, none⟩).run Tryd.prog w = .ok (.agg #[x, y]) w :=
  run_loadVar_mid w b 0 T [x, y] d (fun j v hj => by
    rcases j with _ | _ | j
    · simp at hj; subst hj; simpa using h0
    · simp at hj; subst hj; simpa using h1
    · simp at hj) hu hd hi
theorem results_c2 {fn : Func} {p u : Tmp} {ty : TypeId} (h : fn.results = #[.cell p ty, .tmp u]) (tmps : Array Value) (w : World) (b : Nat) (v : Value) (hp : tmps.getD p undef = .pointer (some ⟨b, 0, none⟩)) (hl : (loadVar ty ⟨b, 0, none⟩).run Tryd.prog w = .ok v w) :
    (results fn tmps).run Tryd.prog w = .ok (.tuple #[v, tmps.getD u undef]) w := by
  rw [results_cell_tmp h]
  rw [hp]
  simp [asAddr, hl, Result.andThen]
theorem results_c3 {fn : Func} {p u s : Tmp} {ty : TypeId} (h : fn.results = #[.cell p ty, .tmp u, .tmp s]) (tmps : Array Value) (w : World) (b : Nat) (v : Value) (hp : tmps.getD p undef = .pointer (some ⟨b, 0, none⟩)) (hl : (loadVar ty ⟨b, 0, none⟩).run Tryd.prog w = .ok v w) :
    (results fn tmps).run Tryd.prog w = .ok (.tuple #[v, tmps.getD u undef, tmps.getD s undef]) w := by
  have hp2 : (tmps[p]?).getD undef = .pointer (some ⟨b, 0, none⟩) := by rw [← hp]; simp
  simp only [results, h]
  simp [Result.andThen, hp2, asAddr, hl]
theorem lit_at1 (w : World) (o : Obj) (c : Int) : Row ((w.alloc o).alloc (.cells #[.int .u8 c] 5)) (.slice (some ⟨w.heap.size + 1, 0, none⟩) 1 1) (ints .u8 [c]) := by
  have : Row ((w.alloc o).alloc (.cells #[.int .u8 c] 5)) (.slice (some ⟨(w.alloc o).heap.size, 0, none⟩) 1 1) (ints .u8 [c]) := Row.ilit [c] [_] rfl (by simp)
  have e : (w.alloc o).heap.size = w.heap.size + 1 := by simp
  rw [e] at this
  exact this
theorem parts_no (v : Value) (y : List Int) (w : World) (h : Row w v (ints .u8 y)) (hg : Rg 0 256 y) (hc : y.contains 62 = false) :
    Calls Tryd.prog 22 #[v] w fun e w' => ∃ a b r, e = .returned (.tuple #[.agg #[a, b], r, .bool false]) ∧ Own w.heap.size 5 w' a (ints .u8 []) ∧ Own w.heap.size 5 w' b (ints .u8 []) ∧ Row w' r (ints .u8 []) ∧ Below w.heap.size w w' := by
  have hC := fun v2 w' h' h2' => bcut1_no v v2 y 62 w' h' h2' hg (by omega) (by omega) hc
  have HC := Lib.hid hC
  clear hC hc
  have hB := below_alloc w (.cells #[.slice none 0 0, .slice none 0 0] 25)
  go_enter Tryd.func22, Tryd.ntmps22
  go_wp2_with (go_at_call 41; refine (HC.out _ _ ((h.below hB).alloc _) (lit_at1 _ _ _)).mono ?_; rintro e w1 ⟨rfl, hw⟩; obtain rfl := hw.symm)
  have hp := pair_new w (.slice none 0 0) (.slice none 0 0) 25
  have hb2 := below_alloc (w.alloc (.cells #[.slice none 0 0, .slice none 0 0] 25)) (.cells #[.int .u8 62] 5)
  refine bodyPost_ret (results_c3 rfl _ _ w.heap.size _ rfl (loadID _ _ _ _ _ _ Tryd.underlying25 rfl (by kernel_rfl) (cell_kept hp.1 hb2) (cell_kept hp.2 hb2))) rfl ?_
  exact ⟨_, _, _, rfl, Own.nil _ _ _, Own.nil _ _ _, Row.nil _, hB.alloc hB.size _⟩
/-- The block of a result of two cells: what it holds, free to be written. -/
def PB (P : Nat) (w : World) : Prop := w.cell? ⟨P, 0, none⟩ = some (.slice none 0 0) ∧ w.cell? ⟨P, 1, none⟩ = some (.slice none 0 0) ∧ (∀ j, w.frozen? ⟨P, j, none⟩ = false) ∧ P < w.heap.size ∧ ∃ c fr, w.heap[P]? = some (.cells c 25 fr)
theorem PB.new (w : World) : PB w.heap.size (w.alloc (.cells #[.slice none 0 0, .slice none 0 0] 25)) := by
  obtain ⟨h0, h1⟩ := pair_new w (.slice none 0 0) (.slice none 0 0) 25
  refine ⟨h0, h1, fun j => ?_, by simp, _, _, heap_alloc_new w _⟩
  unfold World.frozen?
  rw [heap_alloc_new w _]
  simp
theorem PB.below {P : Nat} {w w' : World} (h : PB P w) (hb : Below w.heap.size w w') : PB P w' := by
  obtain ⟨h0, h1, hf, hP, c, fr, hc⟩ := h
  exact ⟨(hb.cell (p := ⟨P, 0, none⟩) hP).trans h0, (hb.cell (p := ⟨P, 1, none⟩) hP).trans h1, fun j => (hb.frozen (p := ⟨P, j, none⟩) hP).trans (hf j), Nat.lt_of_lt_of_le hP hb.size, c, fr, by rw [hb.block P hP]; exact hc⟩
theorem Own.setPB {B P : Nat} {w : World} {v : Value} {cs : List Value} (h : Own B 5 w v cs) (hp : PB P w) (x y : Value) : Own B 5 ((w.setCell ⟨P, 0, none⟩ x).setCell ⟨P, 1, none⟩ y) v cs := by
  obtain ⟨c, fr, hc⟩ := hp.2.2.2.2
  have hne : v.ownBlock = none ∨ v.ownBlock ≠ some P := by
    rcases h.1.2 with ⟨rfl, _⟩ | ⟨g, cap, cur, rfl, _, hg, _⟩
    · exact .inl rfl
    · right
      intro e
      simp only [Value.ownBlock, Option.some.injEq] at e
      subst e
      rw [hg] at hc
      injection hc with e1
      injection e1 with _ e2
      cases e2
  have gr : ∀ (w : World) (j : Nat) (u : Value), w.grownBy (w.setCell ⟨P, j, none⟩ u) (some P) := fun w j u => ⟨rfl, rfl, rfl, by simp, fun k _ hk => heap_setCell_other w ⟨P, j, none⟩ k u (fun e => hk (by simp [e]))⟩
  exact ⟨(h.1.kept (gr _ _ _) hne).kept (gr _ _ _) hne, h.2⟩
theorem PB.set {P : Nat} {w : World} (h : PB P w) (x y : Value) : ((w.setCell ⟨P, 0, none⟩ x).setCell ⟨P, 1, none⟩ y).cell? ⟨P, 0, none⟩ = some x ∧ ((w.setCell ⟨P, 0, none⟩ x).setCell ⟨P, 1, none⟩ y).cell? ⟨P, 1, none⟩ = some y := by
  obtain ⟨h0, h1, _, _, _⟩ := h
  exact ⟨(cm_other (by decide)).trans (World.cell?_setCell_same' _ _ _ (by rw [h0]; rfl)), World.cell?_setCell_same' _ _ _ (by rw [cm_other (by decide), h1]; rfl)⟩
theorem parts_bad (v : Value) (y : List Int) (w : World) (h : Row w v (ints .u8 y)) (hg : Rg 0 256 y) (hl : y.length ≤ 400000) (hc : y.contains 62 = true) (hI : tw 62 y = [] ∨ ∃ c i, tw 62 y = c :: i ∧ c ≠ 60) :
    Calls Tryd.prog 22 #[v] w fun e w' => ∃ a b r, e = .returned (.tuple #[.agg #[a, b], r, .bool false]) ∧ Own w.heap.size 5 w' a (ints .u8 []) ∧ Own w.heap.size 5 w' b (ints .u8 []) ∧ Row w' r (ints .u8 []) ∧ Below w.heap.size w w' := by
  have hC := fun v2 w' h' h2' => bcut1_yes v v2 y 62 w' h' h2' hg (by omega) (by omega) hc (by omega)
  generalize y.drop ((tw 62 y).length + 1) = rest at *
  generalize tw 62 y = I at *
  have HC := Lib.hid hC
  clear hC hc
  have hB := below_alloc w (.cells #[.slice none 0 0, .slice none 0 0] 25)
  have HPB := Lib.hid (PB.new w)
  rcases hI with rfl | ⟨c, i, rfl, hne⟩
  · -- nothing ahead of the end
    go_enter Tryd.func22, Tryd.ntmps22
    go_wp2_with fail
    refine (HC.out _ _ ((h.below hB).alloc _) (lit_at1 _ _ _)).mono ?_
    rintro e w1 ⟨ia, ib, rfl, ra, rb, hb1⟩
    have hB1 := below_trans (hB.alloc hB.size _) hb1
    have hb01 := below_trans (below_alloc (w.alloc (.cells #[.slice none 0 0, .slice none 0 0] 25)) (.cells #[.int .u8 62] 5)) hb1
    have hpb := HPB.out.below hb01
    obtain ⟨a1, c1, rfl⟩ := ra.formN0 (n := 0) rfl
    obtain ⟨g0, g1, gf, gP⟩ := id hpb
    have gf0 := gf 0; have gf1 := gf 1
    clear gf
    go_wp2
    have hs := hpb.set (.slice none 0 0) (.slice none 0 0)
    refine bodyPost_ret (results_c3 rfl _ _ w.heap.size _ rfl (loadID _ _ _ _ _ _ Tryd.underlying25 rfl (by kernel_rfl) hs.1 hs.2)) rfl ?_
    exact ⟨_, _, _, rfl, Own.nil _ _ _, Own.nil _ _ _, Row.nil _, (hB1.setCell (Nat.le_refl _) _).setCell (Nat.le_refl _) _⟩
  · have hbn : (c != 60) = true := by simpa using hne
    clear hne
    go_enter Tryd.func22, Tryd.ntmps22
    go_wp2_with fail
    refine (HC.out _ _ ((h.below hB).alloc _) (lit_at1 _ _ _)).mono ?_
    rintro e w1 ⟨ia, ib, rfl, ra, rb, hb1⟩
    have hB1 := below_trans (hB.alloc hB.size _) hb1
    have hb01 := below_trans (below_alloc (w.alloc (.cells #[.slice none 0 0, .slice none 0 0] 25)) (.cells #[.int .u8 62] 5)) hb1
    have hpb := HPB.out.below hb01
    obtain ⟨a1, b1, off1, c1, rfl, HCC⟩ := ra.op
    obtain ⟨x, hx, rfl, hcx⟩ := HCC.out 0 (by simp)
    obtain rfl : c = x := Option.some.inj hx.out
    replace hcx := hcx w1 (Below.refl _ _)
    simp only [Nat.add_zero] at hcx
    obtain ⟨g0, g1, gf, gP⟩ := id hpb
    have gf0 := gf 0; have gf1 := gf 1
    clear gf HCC hx
    go_wp2
    have hs := hpb.set (.slice none 0 0) (.slice none 0 0)
    refine bodyPost_ret (results_c3 rfl _ _ w.heap.size _ rfl (loadID _ _ _ _ _ _ Tryd.underlying25 rfl (by kernel_rfl) hs.1 hs.2)) rfl ?_
    exact ⟨_, _, _, rfl, Own.nil _ _ _, Own.nil _ _ _, Row.nil _, (hB1.setCell (Nat.le_refl _) _).setCell (Nat.le_refl _) _⟩
end Go.Proofs.YtcmiopkcgoanpaaDoor
namespace Go.Proofs.YtcmiopkcgoanpaaDoor
open Go.RowKit
set_option maxHeartbeats 4000000
set_option maxRecDepth 100000
theorem Row.setP {w : World} {v : Value} {k : IntKind} {xs : List Int} {P j : Nat} {u0 : Value} (h : Row w v (ints k xs)) (hp : w.cell? ⟨P, j, none⟩ = some u0) (hu : ∀ x, u0 ≠ .int k x) (u : Value) : Row (w.setCell ⟨P, j, none⟩ u) v (ints k xs) := by
  obtain ⟨a, b, off, cap, hv, hc, hm, ha, h1, hcell⟩ := h
  refine ⟨a, b, off, cap, hv, hc, hm, ha, h1, fun i c hi => ?_⟩
  have hcc := hcell i c hi
  rw [World.cell?_setCell_other _ _ _ _ (fun e => ?_)]
  · exact hcc
  · rw [← e, hp] at hcc
    rw [ints_get] at hi
    cases hx : xs[i]? with
    | none => rw [hx] at hi; simp at hi
    | some x =>
      rw [hx] at hi
      simp only [Option.map_some, Option.some.injEq] at hi hcc
      exact hu x (hcc.trans hi.symm)
theorem Row.setPB {w : World} {v : Value} {k : IntKind} {xs : List Int} {P : Nat} (h : Row w v (ints k xs)) (hp : PB P w) (x y : Value) : Row ((w.setCell ⟨P, 0, none⟩ x).setCell ⟨P, 1, none⟩ y) v (ints k xs) :=
  (h.setP hp.1 (fun _ e => by cases e) x).setP ((cm_other (by decide)).trans hp.2.1) (fun _ e => by cases e) y
theorem parts_good (v : Value) (y i : List Int) (w : World) (h : Row w v (ints .u8 y)) (hg : Rg 0 256 y) (hl : y.length ≤ 400000) (hc : y.contains 62 = true) (hI : tw 62 y = 60 :: i) :
    Calls Tryd.prog 22 #[v] w fun e w' => ∃ a b r, e = .returned (.tuple #[.agg #[a, b], r, .bool (ptM y).2.2.2]) ∧ Own w.heap.size 5 w' a (ints .u8 (ptM y).1) ∧ Own w.heap.size 5 w' b (ints .u8 (ptM y).2.1) ∧ Row w' r (ints .u8 (ptM y).2.2.1) ∧ Below w.heap.size w w' := by
  have hC := fun v2 w' h' h2' => bcut1_yes v v2 y 62 w' h' h2' hg (by omega) (by omega) hc (by omega)
  have hgI : Rg 0 256 (tw 62 y) := by rw [tw_take]; exact hg.take _
  have hlI := tw_len 62 y
  have hyes := fun h4 => pt_yes hc hI (i := i) h4
  have hone := fun h4 => pt_one hc hI (i := i) h4
  generalize y.drop ((tw 62 y).length + 1) = rest at *
  rw [hI] at hC hgI hlI
  simp only [List.length_cons] at hlI
  have hgi : Rg 0 256 i := fun x hx => hgI x (List.mem_cons_of_mem _ hx)
  have HC := Lib.hid hC
  clear hC hI hc hgI
  have hB := below_alloc w (.cells #[.slice none 0 0, .slice none 0 0] 25)
  have HPB := Lib.hid (PB.new w)
  cases h4 : i.contains 64 with
  | true =>
    have hD := fun v3 v2 w' h' h2' => bcut1_yes v3 v2 i 64 w' h' h2' hgi (by omega) (by omega) h4 (by omega)
    have htl := tw_len 64 i
    rw [hyes h4]
    have hdl : (i.drop ((tw 64 i).length + 1)).length ≤ i.length := by rw [List.length_drop]; omega
    generalize i.drop ((tw 64 i).length + 1) = R at *
    generalize tw 64 i = L at *
    have HD := Lib.hid hD
    clear hD hyes hone h4
    go_enter Tryd.func22, Tryd.ntmps22
    go_wp2_with fail
    refine (HC.out _ _ ((h.below hB).alloc _) (lit_at1 _ _ _)).mono ?_
    rintro e w1 ⟨ia, ib, rfl, ra, rb, hb1⟩
    have hB1 := below_trans (hB.alloc hB.size _) hb1
    have hpb := HPB.out.below (below_trans (below_alloc (w.alloc (.cells #[.slice none 0 0, .slice none 0 0] 25)) (.cells #[.int .u8 62] 5)) hb1)
    obtain ⟨a1, b1, off1, c1, rfl, HCC⟩ := id ra.op
    obtain ⟨x, hx, rfl, hcx⟩ := HCC.out 0 (by simp)
    obtain rfl : 60 = x := Option.some.inj hx.out
    replace hcx := hcx w1 (Below.refl _ _)
    simp only [Nat.add_zero] at hcx
    clear HCC hx
    go_wp2_with (refine wpList_slL slT_u8 _ _ rfl rfl rfl rfl ra (by omega) (by simp [ints]; omega) ?_; intro v3 hv3; have r3 : Row w1 v3 (ints .u8 i) := (by have := hv3 w1 ra; rw [ints_drop] at this; exact this); clear hv3)
    refine (HD.out _ _ _ (r3.alloc _) (by first | exact Row.ilit [_] [_] rfl (by simp) | exact Row.flit [_] [_] rfl (by simp))).mono ?_
    rintro e w2 ⟨la, lb, rfl, rl, rr, hb2⟩
    have hb12 := below_trans (below_alloc w1 (.cells #[.int .u8 64] 5)) hb2
    have hB2 := below_trans hB1 hb12
    replace hpb := hpb.below hb12
    replace rb := rb.below hb12
    clear hcx r3 ra
    go_wp2_with fail
    refine (oclone_any _ L _ rl (by omega)).mono ?_
    rintro e w3 ⟨t3, rfl, ho3, hb3⟩
    go_wp2_with fail
    refine (oclone_any _ R _ (rr.below hb3) (by omega)).mono ?_
    rintro e w4 ⟨t4, rfl, ho4, hb4⟩
    replace hpb := (hpb.below hb3).below hb4
    replace rb := (rb.below hb3).below hb4
    have hB4 := below_trans (below_trans hB2 hb3) hb4
    have r3 := (ho3.mono hB2.size).below hb4
    have r4 := ho4.mono (Nat.le_trans hB2.size hb3.size)
    obtain ⟨a3, c3, rfl⟩ := r3.row.formN0 (n := L.length) (by rw [ints_length])
    obtain ⟨a4, c4, rfl⟩ := r4.row.formN0 (n := R.length) (by rw [ints_length])
    obtain ⟨g0, g1, gf, gP⟩ := id hpb
    have gf0 := gf 0; have gf1 := gf 1
    clear gf ho3 ho4
    go_wp2
    have hs := hpb.set (.slice a3 L.length c3) (.slice a4 R.length c4)
    refine bodyPost_ret (results_c3 rfl _ _ w.heap.size _ rfl (loadID _ _ _ _ _ _ Tryd.underlying25 rfl (by kernel_rfl) hs.1 hs.2)) rfl ?_
    exact ⟨_, _, _, rfl, r3.setPB hpb _ _, r4.setPB hpb _ _, rb.setPB hpb _ _, (hB4.setCell (Nat.le_refl _) _).setCell (Nat.le_refl _) _⟩
  | false =>
    have hD := fun v3 v2 w' h' h2' => bcut1_no v3 v2 i 64 w' h' h2' hgi (by omega) (by omega) h4
    rw [hone h4]
    have HD := Lib.hid hD
    clear hD hyes hone h4
    go_enter Tryd.func22, Tryd.ntmps22
    go_wp2_with fail
    refine (HC.out _ _ ((h.below hB).alloc _) (lit_at1 _ _ _)).mono ?_
    rintro e w1 ⟨ia, ib, rfl, ra, rb, hb1⟩
    have hB1 := below_trans (hB.alloc hB.size _) hb1
    have hpb := HPB.out.below (below_trans (below_alloc (w.alloc (.cells #[.slice none 0 0, .slice none 0 0] 25)) (.cells #[.int .u8 62] 5)) hb1)
    obtain ⟨a1, b1, off1, c1, rfl, HCC⟩ := id ra.op
    obtain ⟨x, hx, rfl, hcx⟩ := HCC.out 0 (by simp)
    obtain rfl : 60 = x := Option.some.inj hx.out
    replace hcx := hcx w1 (Below.refl _ _)
    simp only [Nat.add_zero] at hcx
    clear HCC hx
    go_wp2_with (refine wpList_slL slT_u8 _ _ rfl rfl rfl rfl ra (by omega) (by simp [ints]; omega) ?_; intro v3 hv3; have r3 : Row w1 v3 (ints .u8 i) := (by have := hv3 w1 ra; rw [ints_drop] at this; exact this); clear hv3)
    refine (HD.out _ _ _ (r3.alloc _) (by first | exact Row.ilit [_] [_] rfl (by simp) | exact Row.flit [_] [_] rfl (by simp))).mono ?_
    rintro e w2 ⟨rfl, hw2⟩
    have hb12 : Below w1.heap.size w1 w2 := by rw [hw2]; exact below_alloc _ _
    have hB2 := below_trans hB1 hb12
    replace hpb := hpb.below hb12
    replace rb := rb.below hb12
    replace r3 := r3.below hb12
    clear hcx ra hw2
    go_wp2_with fail
    refine (oclone_any _ i _ r3 (by omega)).mono ?_
    rintro e w3 ⟨t3, rfl, ho3, hb3⟩
    go_wp2_with fail
    refine (oclone_any _ [] _ (Row.nil _) (by simp)).mono ?_
    rintro e w4 ⟨t4, rfl, ho4, hb4⟩
    replace hpb := (hpb.below hb3).below hb4
    replace rb := (rb.below hb3).below hb4
    have hB4 := below_trans (below_trans hB2 hb3) hb4
    have r5 := (ho3.mono hB2.size).below hb4
    have r4 := ho4.mono (Nat.le_trans hB2.size hb3.size)
    obtain ⟨a3, c3, rfl⟩ := r5.row.formN0 (n := i.length) (by rw [ints_length])
    obtain ⟨a4, c4, rfl⟩ := r4.row.formN0 (n := 0) rfl
    obtain ⟨g0, g1, gf, gP⟩ := id hpb
    have gf0 := gf 0; have gf1 := gf 1
    clear gf ho3 ho4
    go_wp2
    have hs := hpb.set (.slice a3 i.length c3) (.slice a4 0 c4)
    refine bodyPost_ret (results_c3 rfl _ _ w.heap.size _ rfl (loadID _ _ _ _ _ _ Tryd.underlying25 rfl (by kernel_rfl) hs.1 hs.2)) rfl ?_
    exact ⟨_, _, _, rfl, r5.setPB hpb _ _, r4.setPB hpb _ _, rb.setPB hpb _ _, (hB4.setCell (Nat.le_refl _) _).setCell (Nat.le_refl _) _⟩
theorem parts_any (v : Value) (y : List Int) (w : World) (h : Row w v (ints .u8 y)) (hg : Rg 0 256 y) (hl : y.length ≤ 400000) :
    Calls Tryd.prog 22 #[v] w fun e w' => ∃ a b r, e = .returned (.tuple #[.agg #[a, b], r, .bool (ptM y).2.2.2]) ∧ Own w.heap.size 5 w' a (ints .u8 (ptM y).1) ∧ Own w.heap.size 5 w' b (ints .u8 (ptM y).2.1) ∧ Row w' r (ints .u8 (ptM y).2.2.1) ∧ Below w.heap.size w w' := by
  cases hc : y.contains 62 with
  | false => rw [pt_no hc]; exact parts_no v y w h hg hc
  | true =>
    cases ht : tw 62 y with
    | nil => rw [pt_nil hc ht]; exact parts_bad v y w h hg hl hc (.inl ht)
    | cons c i =>
      by_cases h6 : c = 60
      · subst h6; exact parts_good v y i w h hg hl hc ht
      · rw [pt_ne hc ht h6]; exact parts_bad v y w h hg hl hc (.inr ⟨c, i, ht, h6⟩)
end Go.Proofs.YtcmiopkcgoanpaaDoor
namespace Go.Proofs.YtcmiopkcgoanpaaDoor
open Go.RowKit
set_option maxHeartbeats 4000000
set_option maxRecDepth 100000
theorem gap0_any (v : Value) (xs : List Int) (w : World) (h : Row w v (ints .u8 xs)) (hg : Rg 0 256 xs) (hl : xs.length ≤ 900000) :
    Calls Tryd.prog 21 #[v, .int .i64 0] w fun e w' => e = .returned (.int .i64 (gp xs : Nat)) ∧ Below w.heap.size w w' := by
  have := gap_any v xs 0 w h hg hl (Nat.zero_le _)
  rw [List.drop_zero, Nat.zero_add] at this
  exact this
theorem mRead_any (v : Value) (xs : List Int) (w : World) (h : Row w v (ints .u8 xs)) (hg : Rg 0 256 xs) (hl : xs.length ≤ 400000) :
    Calls Tryd.prog 7 #[v] w fun e w' => ∃ a b, e = .returned (.tuple #[.agg #[a, b], .int .i64 (readM xs).2.2]) ∧ Own w.heap.size 5 w' a (ints .u8 (readM xs).1) ∧ Own w.heap.size 5 w' b (ints .u8 (readM xs).2.1) ∧ Below w.heap.size w w' := by
  have hG := fun w' h' => gap0_any v xs w' h' hg (by omega)
  have hgl := gp_len xs
  have hP := fun v2 w' h' => parts_any v2 (xs.drop (gp xs)) w' h' (hg.drop _) (by rw [List.length_drop]; omega)
  have hdl : (xs.drop (gp xs)).length ≤ xs.length := by rw [List.length_drop]; omega
  have hdg : Rg 0 256 (xs.drop (gp xs)) := hg.drop _
  have hdd : (xs.drop (gp xs)).length = xs.length - gp xs := List.length_drop
  rw [readM_pt]
  generalize gp xs = n at *
  generalize hye : xs.drop n = y at *
  have HY := Lib.hid hye
  have HG := Lib.hid hG
  clear hG hye
  obtain ⟨a0, b0, off0, cp0, rfl, _⟩ := id h.op
  have hB := below_alloc w (.cells #[.slice none 0 0, .slice none 0 0] 25)
  have HPB := Lib.hid (PB.new w)
  have hn0 : (0 : Int) ≤ (n : Int) := by omega
  have hn1 : (n : Int) ≤ xs.length := by omega
  by_cases h0 : y.length = 0
  · rw [if_pos h0]
    have hny : xs.length - n = 0 := by omega
    have HY0 : Hid ((ints .u8 y).length = 0) := by show _ = _; rw [ints_length]; exact h0
    clear h0 hdd hP hdl
    go_enter Tryd.func7, Tryd.ntmps7
    go_wp2_with fail
    refine (HG.out _ (h.below hB)).mono ?_
    rintro e w1 ⟨rfl, hb1⟩
    have hB1 := below_trans hB hb1
    have hpb := HPB.out.below hb1
    obtain ⟨g0, g1, gf, gP⟩ := id hpb
    have gf0 := gf 0; have gf1 := gf 1
    clear gf
    have hr1 := h.below hB1
    go_wp2_with ((refine wpList_slL slT_u8 _ _ rfl rfl rfl rfl hr1 (by omega) (by simp [ints]; omega) ?_; intro v2 hv2; have r2 : Row w1 v2 (ints .u8 y) := (by have := hv2 w1 hr1; rw [Int.toNat_natCast, ints_drop, HY.out] at this; exact this); clear hv2); obtain ⟨a2, c2, rfl⟩ := r2.formN0 (n := 0) HY0.out)
    have hs := hpb.set (.slice none 0 0) (.slice none 0 0)
    refine bodyPost_ret (results_c2 rfl _ _ w.heap.size _ rfl (loadID _ _ _ _ _ _ Tryd.underlying25 rfl (by kernel_rfl) hs.1 hs.2)) rfl ?_
    exact ⟨_, _, rfl, Own.nil _ _ _, Own.nil _ _ _, (hB1.setCell (Nat.le_refl _) _).setCell (Nat.le_refl _) _⟩
  · rw [if_neg h0]
    have hpl := ptM_len y
    have hpr := ptM_rng hdg
    have hG2 := fun v2 w' h' => gap0_any v2 (ptM y).2.2.1 w' h' hpr.2.2 (by omega)
    have hCK := fun a b w' h1 h2 => check_any a b (ptM y).1 (ptM y).2.1 w' h1 h2 hpr.1 hpr.2.1 (by omega) (by omega)
    rw [rdOf]
    have hch : chkN (ptM y).1 (ptM y).2.1 = chkM (ptM y).1 (ptM y).2.1 := rfl
    rw [hch]
    generalize chkM (ptM y).1 (ptM y).2.1 = q at *
    generalize (ptM y).1 = L at *
    generalize (ptM y).2.1 = R at *
    generalize (ptM y).2.2.1 = S at *
    generalize (ptM y).2.2.2 = ok at *
    generalize hgs : gp S = m at *
    have HP := Lib.hid hP; have HG2 := Lib.hid hG2; have HCK := Lib.hid hCK
    have hy1 : 1 ≤ y.length := by omega
    have hyb : (((y.length : Nat) : Int) == 0) = false := beq_false_of_ne (by omega)
    clear hP hG2 hCK hch hgs hdd hdl hpl hpr
    -- up to the parts
    have key : ∀ (T : List Int × List Int × Int), ((ok && (m == S.length)) = false → T = ([], [], 3)) → ((ok && (m == S.length)) = true → q = 0 → T = (L, R, 0)) → ((ok && (m == S.length)) = true → q ≠ 0 → T = ([], [], q)) →
        Calls Tryd.prog 7 #[.slice a0 xs.length cp0] w fun e w' => ∃ a b, e = .returned (.tuple #[.agg #[a, b], .int .i64 T.2.2]) ∧ Own w.heap.size 5 w' a (ints .u8 T.1) ∧ Own w.heap.size 5 w' b (ints .u8 T.2.1) ∧ Below w.heap.size w w' := by
      intro T hT1 hT2 hT3
      have HT1 := Lib.hid hT1; have HT2 := Lib.hid hT2; have HT3 := Lib.hid hT3
      clear hT1 hT2 hT3 h0
      go_enter Tryd.func7, Tryd.ntmps7
      go_wp2_with fail
      refine (HG.out _ (h.below hB)).mono ?_
      rintro e w1 ⟨rfl, hb1⟩
      have hB1 := below_trans hB hb1
      have hpb := HPB.out.below hb1
      have hr1 := h.below hB1
      clear HG
      go_wp2_with ((refine wpList_slL slT_u8 _ _ rfl rfl rfl rfl hr1 (by omega) (by simp [ints]; omega) ?_; intro v2 hv2; have r2 : Row w1 v2 (ints .u8 y) := (by have := hv2 w1 hr1; rw [Int.toNat_natCast, ints_drop, HY.out] at this; exact this); clear hv2); obtain ⟨a2, c2, rfl⟩ := r2.formN0 (n := y.length) (by rw [ints_length]))
      refine (HP.out _ _ r2).mono ?_
      rintro e w2 ⟨xa, xb, xr, rfl, ra, rb, rr, hb2⟩
      obtain ⟨a3, c3, rfl⟩ := ra.row.formN0 (n := L.length) (by rw [ints_length])
      obtain ⟨a4, c4, rfl⟩ := rb.row.formN0 (n := R.length) (by rw [ints_length])
      obtain ⟨a5, c5, rfl⟩ := rr.formN0 (n := S.length) (by rw [ints_length])
      have hB2 := below_trans hB1 hb2
      replace hpb := hpb.below hb2
      have HS2 := Lib.hid (pair_new w2 (.slice a3 L.length c3) (.slice a4 R.length c4) 25)
      have hpb2 : PB w.heap.size (w2.alloc (.cells #[.slice a3 L.length c3, .slice a4 R.length c4] 25)) := hpb.below (below_alloc _ _)
      have HRA := Lib.hid ((ra.mono hB1.size).alloc (.cells #[.slice a3 L.length c3, .slice a4 R.length c4] 25))
      have HRB := Lib.hid ((rb.mono hB1.size).alloc (.cells #[.slice a3 L.length c3, .slice a4 R.length c4] 25))
      have HRR := Lib.hid (rr.alloc (.cells #[.slice a3 L.length c3, .slice a4 R.length c4] 25))
      have HB2 : Hid (Below w.heap.size w (w2.alloc (.cells #[.slice a3 L.length c3, .slice a4 R.length c4] 25))) := hB2.alloc hB2.size _
      have HPB2 := Lib.hid hpb2
      clear ra rb rr r2 hpb hpb2 hb2 hr1
      rcases ok with _ | _
      · have e9 := Lib.hid (HT1.out (by cases (m == S.length) <;> rfl))
        obtain ⟨g0, g1, gf, gP⟩ := id HPB2.out
        have gf0 := gf 0; have gf1 := gf 1
        clear gf
        go_wp2
        have hs := HPB2.out.set (.slice none 0 0) (.slice none 0 0)
        refine bodyPost_ret (results_c2 rfl _ _ w.heap.size _ rfl (loadID _ _ _ _ _ _ Tryd.underlying25 rfl (by kernel_rfl) hs.1 hs.2)) rfl ?_
        rw [e9.out]
        exact ⟨_, _, rfl, Own.nil _ _ _, Own.nil _ _ _, (HB2.out.setCell (Nat.le_refl _) _).setCell (Nat.le_refl _) _⟩
      · go_wp2_with fail
        refine (HG2.out _ _ HRR.out).mono ?_
        rintro e w3 ⟨rfl, hb3⟩
        have hB3 := below_trans HB2.out hb3
        have hpb3 := HPB2.out.below hb3
        by_cases hm : m = S.length
        · have hmt : (m == S.length) = true := by rw [hm]; simp
          have hmb : (((m : Nat) : Int) != ((S.length : Nat) : Int)) = false := by rw [hm]; simp
          rw [hmt] at HT2 HT3
          clear hm hmt HT1
          have hs2 := HS2.out
          have d0 := cell_kept hs2.1 hb3
          have d1 := cell_kept hs2.2 hb3
          have HD0 := Lib.hid d0; have HD1 := Lib.hid d1
          clear hs2
          go_wp2_with fail
          refine (HCK.out _ _ _ (HRA.out.below hb3).row (HRB.out.below hb3).row).mono ?_
          rintro e w4 ⟨rfl, hb4⟩
          have hB4 := below_trans hB3 hb4
          have hpb4 := hpb3.below hb4
          have e0 := cell_kept HD0.out hb4
          have e1 := cell_kept HD1.out hb4
          have rA := (HRA.out.below hb3).below hb4
          have rB := (HRB.out.below hb3).below hb4
          obtain ⟨g0, g1, gf, gP⟩ := id hpb4
          have gf0 := gf 0; have gf1 := gf 1
          clear gf d0 d1
          by_cases hq : q = 0
          · have e9 := Lib.hid (HT2.out rfl hq)
            subst hq
            go_wp2
            have hs := hpb4.set (.slice a3 L.length c3) (.slice a4 R.length c4)
            refine bodyPost_ret (results_c2 rfl _ _ w.heap.size _ rfl (loadID _ _ _ _ _ _ Tryd.underlying25 rfl (by kernel_rfl) hs.1 hs.2)) rfl ?_
            rw [e9.out]
            exact ⟨_, _, rfl, rA.setPB hpb4 _ _, rB.setPB hpb4 _ _, (hB4.setCell (Nat.le_refl _) _).setCell (Nat.le_refl _) _⟩
          · have e9 := Lib.hid (HT3.out rfl hq)
            have bq : (q != 0) = true := by simpa using hq
            clear hq
            go_wp2
            have hs := hpb4.set (.slice none 0 0) (.slice none 0 0)
            refine bodyPost_ret (results_c2 rfl _ _ w.heap.size _ rfl (loadID _ _ _ _ _ _ Tryd.underlying25 rfl (by kernel_rfl) hs.1 hs.2)) rfl ?_
            rw [e9.out]
            exact ⟨_, _, rfl, Own.nil _ _ _, Own.nil _ _ _, (hB4.setCell (Nat.le_refl _) _).setCell (Nat.le_refl _) _⟩
        · have hmt : (m == S.length) = false := by simpa using hm
          have hmb : (((m : Nat) : Int) != ((S.length : Nat) : Int)) = true := by simp; omega
          have e9 := Lib.hid (HT1.out (by rw [hmt]; rfl))
          obtain ⟨g0, g1, gf, gP⟩ := id hpb3
          have gf0 := gf 0; have gf1 := gf 1
          clear gf hm hmt
          go_wp2
          have hs := hpb3.set (.slice none 0 0) (.slice none 0 0)
          refine bodyPost_ret (results_c2 rfl _ _ w.heap.size _ rfl (loadID _ _ _ _ _ _ Tryd.underlying25 rfl (by kernel_rfl) hs.1 hs.2)) rfl ?_
          rw [e9.out]
          exact ⟨_, _, rfl, Own.nil _ _ _, Own.nil _ _ _, (hB3.setCell (Nat.le_refl _) _).setCell (Nat.le_refl _) _⟩
    by_cases hk : (ok && (m == S.length)) = false
    · rw [if_pos hk]; exact key _ (fun _ => rfl) (fun h9 => by rw [hk] at h9; cases h9) (fun h9 => by rw [hk] at h9; cases h9)
    · rw [if_neg hk]
      by_cases hq : q = 0
      · rw [if_pos hq]; exact key _ (fun h9 => absurd h9 hk) (fun _ _ => rfl) (fun _ h9 => absurd hq h9)
      · rw [if_neg hq]; exact key _ (fun h9 => absurd h9 hk) (fun _ h9 => absurd h9 hq) (fun _ _ => rfl)
end Go.Proofs.YtcmiopkcgoanpaaDoor
