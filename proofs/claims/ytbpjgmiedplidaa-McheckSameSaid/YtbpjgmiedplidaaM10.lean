/- Walks: laying a name. (laid together by program out of single texts). -/
import Derived.Test.YtbpjgmiedplidaaM3
import Derived.Test.YtbpjgmiedplidaaM9
namespace Go.Proofs.Ytbpjgmiedplidaa
set_option linter.unusedSimpArgs false
open Go.RowKit Go.Shelf
attribute [local go_sem] Oper.semAt_some
theorem Own.formN {B : Nat} {E : TypeId} {w : World} {t : Value} {cs : List Value} (h : Own B E w t cs) {n : Nat} (hn : cs.length = n) : ∃ a c, t = .slice a n c := by
  obtain ⟨a, _, _, c, hv, _⟩ := h.row
  exact ⟨a, c, by rw [hv, hn]⟩
theorem keeps_grown {B : Nat} {E : TypeId} {w w' : World} {v : Value} {cs : List Value} (h : Own B E w v cs) (hg : w.grownBy w' v.ownBlock) : KeepsOthers w w' :=
  KeepsOthers.of_grownBy hg fun j o hj ho => by
    rcases h.1.2 with ⟨rfl, _⟩ | ⟨g, cap, cur, rfl, hB, hc, _⟩
    · cases hj
    · obtain rfl : g = j := Option.some.inj hj
      rw [hc] at ho; cases ho; rfl
/-- In a round: the box at B holds bv, the row ov is owned, and the rest is as at the round's beginning. -/
def Bx (w0 : World) (B : Nat) (W : World) (bv ov : Value) (cs : List Int) : Prop :=
  W.cell? ⟨B, 0, none⟩ = some bv ∧ W.frozen? ⟨B, 0, none⟩ = false ∧ Own (B + 2) 5 W ov (ints .u8 cs) ∧ KpB B (B + 1) w0 W ∧ KeepsOthers w0 W ∧ B + 2 ≤ W.heap.size
section
variable {w0 W W' : World} {B : Nat} {bv ov ov' : Value} {cs ds : List Int}
theorem Bx.below (h : Bx w0 B W bv ov cs) (hb : Below W.heap.size W W') : Bx w0 B W' bv ov cs := by
  obtain ⟨h1, h2, h3, h4, h5, h6⟩ := h
  have hs := hb.size
  refine ⟨(hb.cell (p := ⟨B, 0, none⟩) (by simp; omega)).trans h1, (hb.frozen (p := ⟨B, 0, none⟩) (by simp; omega)).trans h2, h3.below hb, h4.trans ⟨hb.mono (by omega), hb.block _ (by omega)⟩, h5.trans ⟨hs, fun k o hk _ => (hb.block k (Array.getElem?_eq_some_iff.1 hk).1).trans hk⟩, by omega⟩
theorem Bx.alloc (h : Bx w0 B W bv ov cs) (o : Obj) : Bx w0 B (W.alloc o) bv ov cs := h.below (below_alloc W o)
theorem Bx.drew (h : Bx w0 B W bv ov cs) : Bx w0 B W.drew bv ov cs := h.below ((Below.refl _ _).drew)
theorem Bx.app (h : Bx w0 B W bv ov cs) (ho : Own (B + 2) 5 W' ov' (ints .u8 (cs ++ ds))) (hg : W.grownBy W' ov.ownBlock) : Bx w0 B W' bv ov' (cs ++ ds) := by
  obtain ⟨h1, h2, h3, h4, h5, h6⟩ := h
  have hs := hg.size
  have hfar : ∀ k, k < B + 2 → some k ≠ ov.ownBlock := fun k hk e => by have := (h3.1.lt k e.symm).1; omega
  have hk : ∀ k, k < B + 2 → W'.heap[k]? = W.heap[k]? := fun k hk => hg.block k (by omega) (hfar k hk)
  refine ⟨(World.cell?_of_block (hk B (by omega))).trans h1, ?_, ho, h4.trans ⟨?_, hk _ (by omega)⟩, h5.trans (keeps_grown h3 hg), by omega⟩
  · have := hk B (by omega)
    simp only [World.frozen?, this] at h2 ⊢; exact h2
  · exact below_own (Below.refl _ _) h3 hg (by omega) (by omega)
theorem Bx.store (h : Bx w0 B W bv ov cs) : Bx w0 B (W.setCell ⟨B, 0, none⟩ ov) ov ov cs := by
  obtain ⟨h1, h2, h3, h4, h5, h6⟩ := h
  exact ⟨World.cell?_setCell_same' _ _ _ (by rw [h1]; rfl), by rw [World.frozen?_setCell]; exact h2, h3.put (by omega) _, h4.trans ⟨(Below.refl _ _).setCell (p := ⟨B, 0, none⟩) (Nat.le_refl _) _, heap_setCell_other W ⟨B, 0, none⟩ (B + 1) _ (by simp)⟩, h5.trans (KeepsOthers.setCell _ _ _), by simpa using h6⟩
end
def mlayR (xs : List Int) : List Int := if allSc xs then (mlay xs).1 else []
def mlayE (xs : List Int) : Int := if allSc xs then 0 else 7
/-- What the rounds keep. -/
def LyI (w : World) (xs : List Int) (pre : List (Pc w xs)) (W : World) : Prop :=
  (∃ ov, W.cell? ⟨w.heap.size, 0, none⟩ = some ov ∧ W.frozen? ⟨w.heap.size, 0, none⟩ = false ∧ Own (w.heap.size + 2) 5 W ov (ints .u8 (pre.flatMap fun x => mo2 (xs.drop x.1.1))) ∧ w.heap.size + 2 ≤ W.heap.size) ∧ Below w.heap.size w W
theorem LyI.own (w : World) (xs : List Int) (D : Nat) (hD : w.heap.size ≤ D) : OwnFrom D (LyI w xs) :=
  OwnFrom.and (Own.from (fun s A B row hs hg hr => by
    obtain ⟨ov, h1, h2, h3, h4⟩ := hs
    exact ⟨ov, cell_kept h1 hg hr, (frozen_kept h1 hg hr).trans h2, h3.turned hg hr, Nat.le_trans h4 hg.size⟩) _) (ownFrom_below (Nat.le_refl _) hD)
theorem LyI.put {w : World} {xs : List Int} (s : List (Pc w xs)) (W : World) (u : Value) (h : LyI w xs s W) : LyI w xs s (W.setCell ⟨w.heap.size + 1, 0, none⟩ u) := by
  obtain ⟨⟨ov, h1, h2, h3, h5⟩, h4⟩ := h
  exact ⟨⟨ov, (World.cell?_setCell_far W ⟨w.heap.size + 1, 0, none⟩ ⟨w.heap.size, 0, none⟩ u (by simp)).trans h1, by rw [World.frozen?_setCell]; exact h2, h3.put (by omega) _, by simpa using h5⟩, h4.setCell (p := ⟨w.heap.size + 1, 0, none⟩) (by simp) _⟩
theorem LyI.next {w W W' : World} {xs : List Int} {pre : List (Pc w xs)} {x : Pc w xs} {ov : Value} {ds : List Int} (hB : Below w.heap.size w W) (hd : mo2 (xs.drop x.1.1) = ds)
    (h : Bx W w.heap.size W' ov ov ((pre.flatMap fun x => mo2 (xs.drop x.1.1)) ++ ds)) : KeepsOthers W W' ∧ KpB w.heap.size (w.heap.size + 1) W W' ∧ LyI w xs (pre ++ [x]) W' := by
  obtain ⟨h1, h2, h3, h4, h5, h6⟩ := h
  refine ⟨h5, h4, ⟨ov, h1, h2, ?_, h6⟩, hB.trans h4.1⟩
  rw [List.flatMap_append, List.flatMap_cons, List.flatMap_nil, List.append_nil, hd]; exact h3
set_option maxRecDepth 100000 in
set_option maxHeartbeats 4000000 in
theorem mLay_any (v : Value) (xs : List Int) (w : World) (h : Row w v (ints .i32 xs)) (hr : R32 xs) (hl : xs.length ≤ 5000) :
    Calls Try.prog 12 #[v] w fun e w' => ∃ t, e = .returned (.tuple #[t, .int .i64 (mlayE xs)]) ∧ Own w.heap.size 5 w' t (ints .u8 (mlayR xs)) ∧ Below w.heap.size w w' := by
  obtain ⟨a, b, off, cap, rfl, _⟩ := id h.op
  have hR := right_any _ xs w h hr (by omega)
  cases ha : allSc xs with
  | false =>
    rw [ha] at hR
    rw [show mlayR xs = [] from by rw [mlayR, ha]; rfl, show mlayE xs = 7 from by rw [mlayE, ha]; rfl]
    have HR := Lib.hid hR; clear hR ha
    go_enter Try.func12, Try.ntmps12
    go_wp2_with (go_at_call 34; refine (HR.out).mono ?_; rintro e w2 ⟨rfl, hw⟩; obtain rfl := hw)
    go_ret2
    exact ⟨_, rfl, Own.nil _ _ _, Below.refl _ _⟩
  | true =>
    rw [ha] at hR
    rw [show mlayR xs = (mlay xs).1 from by rw [mlayR, ha]; rfl, show mlayE xs = 0 from by rw [mlayE, ha]; rfl]
    have hout := (mpls_out _ xs xs 0 (Nat.le_refl _) (List.drop_zero (l := xs))).1
    generalize (mlay xs).1 = q at *
    have HOUT := Lib.hid hout; have HR := Lib.hid hR; clear hR ha hout
    refine (callsIn_wide (n := 6)).1 ?_
    refine callsIn_of_wp_marks Try.func12 rfl trivial ?_ rfl
    simp only [Try.ntmps12, List.size_toArray, List.length_cons, List.length_nil, Nat.reduceAdd, Nat.reduceSub, Array.replicate_succ, Array.replicate_zero, List.push_toArray, List.append_toArray, List.nil_append, List.cons_append]
    gi_wp2_with (first | (refine ⟨trivial, ?_⟩; gi_at_call 34; refine (callsIn_wide.2 HR.out).mono ?_; rintro e w2 ⟨rfl, hw⟩; obtain rfl := hw) | (refine ⟨trivial, ?_⟩; gi_at_call 35; refine (mruns_in Fence.wide _ trivial rfl _ _ _ _).mono ?_; rintro e w2 ⟨rfl, rfl⟩))
    have hz : ∀ o : Obj, (w.alloc o).heap.size = w.heap.size + 1 := fun o => by simp
    have bN := (Boxed.new w 24 (.slice none 0 0)).alloc (.cells #[.slice a xs.length cap] 22)
    have bS := Boxed.new (w.alloc (.cells #[.slice none 0 0] 24)) 22 (.slice a xs.length cap)
    rw [hz] at bS
    have hB2 : Below w.heap.size w ((w.alloc (.cells #[.slice none 0 0] 24)).alloc (.cells #[.slice a xs.length cap] 22)) := ((Below.refl _ w).alloc (Nat.le_refl _) _).alloc (by simp) _
    have hs2 : ((w.alloc (.cells #[.slice none 0 0] 24)).alloc (.cells #[.slice a xs.length cap] 22)).heap.size = w.heap.size + 2 := by simp
    generalize (w.alloc (.cells #[.slice none 0 0] 24)).alloc (.cells #[.slice a xs.length cap] 22) = w2 at *
    refine range_all rfl (by omega) (gf := 59) (lb := #[.pointer (some ⟨w.heap.size + 1, 0, none⟩)]) rfl trivial (enters_of Try.func59 (by kernel_rfl) rfl) (encs := encP (w0 := w) (xs := xs)) (fun _ => rfl) w.heap.size (w.heap.size + 1) (by omega) (by omega)
      (S := fun ys => ys.map (·.1.1) = mpls xs 0) (N := xs.length) ?seq (LyI w xs) (LyI.own w xs _ (by omega)) (LyI.put (xs := xs))
      ⟨⟨_, bN.cell, bN.frozen, Own.nil _ _ _, by omega⟩, hB2⟩
      (fun x => { tmps := #[.slice a xs.length cap, undef, .slice none 0 0, .int .i64 0, .pointer (some ⟨w.heap.size, 0, none⟩), x.1.2, .bool (decide (0 < mn (xs.drop x.1.1))), .slice a xs.length cap, .bool true, .bool false, .slice a xs.length cap, .func (.func 59) #[] #[.pointer (some ⟨w.heap.size + 1, 0, none⟩)], x.1.2, .bool (decide (0 < mn (xs.drop x.1.1))),
        undef, undef, undef, undef, undef, undef, undef, undef, undef, undef, undef, undef, undef, undef, undef, undef, undef, undef, undef, undef, undef, undef, undef, undef, undef, undef], defers := [] }) ?assign ?body ?done
    case seq =>
      intro l J hJ hY W hW hJ0
      exact runs1_in _ l (w.heap.size + 1) w (.slice a xs.length cap) xs h (by omega) (by omega) J hJ hY W (hB2.trans (hW.mono (by omega))) ((hW.cell (p := ⟨w.heap.size + 1, 0, none⟩) (by simp; omega)).trans bS.cell) ((hW.frozen (p := ⟨w.heap.size + 1, 0, none⟩) (by simp; omega)).trans bS.frozen) hJ0
    case assign =>
      intro l x W K hK
      rw [show encP x = #[x.1.2, .bool (decide (0 < mn (xs.drop x.1.1)))] from rfl]
      gi_wp2
      exact hK
    case body =>
      rintro l pre x W hI hlen
      have hNX := fun W' ov ds hd hx => LyI.next (W := W) (W' := W') (xs := xs) (pre := pre) (x := x) (ov := ov) (ds := ds) hI.2 hd hx
      obtain ⟨⟨ov, hc, hf, hown, hsz⟩, hB⟩ := hI
      have hOl : (pre.flatMap fun x => mo2 (xs.drop x.1.1)).length ≤ pre.length * (11 * 5000) := flat_le (fun x : Pc w xs => mo2 (xs.drop x.1.1)) (11 * 5000) (fun x => by have := mo2_len (xs.drop x.1.1); rw [List.length_drop] at this; omega) pre
      have hOl2 : (pre.flatMap fun x => mo2 (xs.drop x.1.1)).length ≤ 300000000 := Nat.le_trans hOl (by have : pre.length * (11 * 5000) ≤ 5000 * (11 * 5000) := Nat.mul_le_mul_right _ (by omega); omega)
      clear hOl
      generalize (pre.flatMap fun x => mo2 (xs.drop x.1.1)) = O at *
      have bx : Bx W w.heap.size W ov ov O := ⟨hc, hf, hown, ⟨Below.refl _ _, rfl⟩, KeepsOthers.refl _, hsz⟩
      have hxr := x.2.2
      have hxl := x.2.1
      obtain ⟨x1, hx1⟩ : ∃ x1, x.1.1 = x1 := ⟨_, rfl⟩
      obtain ⟨x2, hx2⟩ : ∃ x2, x.1.2 = x2 := ⟨_, rfl⟩
      dsimp only
      rw [hx1] at hxr hxl hNX
      rw [hx2] at hxr
      rw [hx1, hx2]
      obtain ⟨c, r, hT⟩ : ∃ c r, xs.drop x1 = c :: r := by
        cases ht : xs.drop x1 with
        | nil => have := congrArg List.length ht; rw [List.length_drop] at this; simp at this; omega
        | cons c r => exact ⟨c, r, rfl⟩
      have hTl : (c :: r).length ≤ 5000 := by rw [← hT, List.length_drop]; omega
      rw [hT] at hxr hNX ⊢
      have hmem : ∀ y ∈ c :: r, y ∈ xs := fun y hy => List.mem_of_mem_drop (by rw [hT]; exact hy)
      clear hx1 hx2 hT
      rcases Nat.eq_zero_or_pos (mn (c :: r)) with h0 | h0
      · have hk1 : mk1 (c :: r) = 1 := by rw [mk1, h0]; rfl
        rw [hk1, List.take_succ_cons, List.take_zero] at hxr
        rw [show decide (0 < mn (c :: r)) = false from decide_eq_false (by omega)]
        obtain ⟨a1, b1, o1, c1, rfl, HC1⟩ := id hxr.op
        obtain ⟨y, HY, rfl, hy⟩ := HC1.out 0 (by simp)
        have e9 : c = y := by have h9 := HY.out; rw [List.getElem?_cons_zero] at h9; exact Option.some.inj h9
        subst e9
        simp only [Nat.add_zero] at hy
        have hcy := hy W hB
        have HYW := Lib.hid hy
        rcases Decidable.em (c = 38) with rfl | h38
        · have e1 : mo2 (38 :: r) = [38, 45] := by show mo 38 r = _; rw [mo, if_neg (by omega), if_pos rfl]
          have HNX := Lib.hid (fun W' ov h => hNX W' ov _ e1 h)
          clear hNX h0 hk1 HC1 HY e1 hy
          gi_wp2_with (gi_at_builtin; refine wpListIn_app2 slT_u8 (w.heap.size + 2) _ _ rfl rfl rfl rfl (bx.alloc _).2.2.1 (Row.ilit [38, 45] [_, _] rfl (by simp)) (by simp only [ints_length, List.length_cons, List.length_nil]; omega) (by simp; omega) ?_; intro t3 w3 ho3 hg3 _; rw [← ints_append] at ho3; obtain ⟨a3, c3, rfl⟩ := ho3.formN (n := O.length + 2) (by simp [ints]); have bx3 := (bx.alloc _).app ho3 hg3; have hc3 := bx3.1; have hf3 := bx3.2.1)
          exact HNX.out _ _ bx3.store
        · have hm := mtak_of_mn (c := c) (r := r) (by omega) h38
          have hcr := of_decide_eq_true hm
          have hc0 : 0 ≤ c := by omega
          have hc1 : c < 256 := by omega
          have e1 : mo2 (c :: r) = [c] := by show mo c r = _; rw [mo, if_neg (by omega), if_neg h38]
          have HNX := Lib.hid (fun W' ov h => hNX W' ov _ e1 h)
          have hne : (c == 38) = false := beq_false_of_ne h38
          clear hNX h0 hk1 HC1 HY e1 hy hm hcr h38
          gi_wp2
          refine wpIn_region_any_drew (by kernel_rfl) (by rfl) (by rintro ⟨_, _, h9⟩; exact h9) ?_
          have bxd := bx.drew
          generalize W.drew = wd at *
          have hw8 : IntKind.u8.wrap c = c := by rw [IntKind.wrap_u8]; omega
          have hcd := bxd.1
          have hyd := HYW.out _ (hB.trans bxd.2.2.2.1.1)
          refine wpAny_take (i := 1) (v := (.slice (some ⟨b1, o1, none⟩) [c].length c1)) rfl (by kernel_rfl) (by kernel_rfl) (by kernel_rfl) (fun _ _ _ h => h) (Or.inl ⟨by rfl, fun w9 => by go_simp⟩) ?_
          simp only [Act.put, List.getElem_toArray, List.getElem_cons_succ, List.getElem_cons_zero, List.setIfInBounds_toArray, List.set_cons_zero, List.set_cons_succ]
          refine wpAny_take (i := 2) (v := (.pointer (some ⟨b1, o1, none⟩))) rfl (by kernel_rfl) (by kernel_rfl) (by kernel_rfl) (fun _ _ _ h => h) (Or.inl ⟨by rfl, fun w9 => by go_simp⟩) ?_
          simp only [Act.put, List.getElem_toArray, List.getElem_cons_succ, List.getElem_cons_zero, List.setIfInBounds_toArray, List.set_cons_zero, List.set_cons_succ]
          refine wpAny_ready (rs := [0, 3]) (by kernel_rfl) (by simp) ?_
          refine AllReady.cons rfl (fun K hK => ?_) ?_
          · simp only [List.getElem_toArray, List.getElem_cons_succ, List.getElem_cons_zero]
            go_simp
            refine hK _ _ ?_
            clear hK K
            try simp only [Act.put, List.getElem_toArray, List.getElem_cons_succ, List.getElem_cons_zero, List.setIfInBounds_toArray, List.set_cons_zero, List.set_cons_succ]
            refine wpAny_ready (rs := [3]) (by kernel_rfl) (by simp) ?_
            refine AllReady.cons rfl (fun K hK => ?_) AllReady.nil
            simp only [List.getElem_toArray, List.getElem_cons_succ, List.getElem_cons_zero]
            go_simp
            refine hK _ _ ?_
            clear hK K
            try simp only [Act.put, List.getElem_toArray, List.getElem_cons_succ, List.getElem_cons_zero, List.setIfInBounds_toArray, List.set_cons_zero, List.set_cons_succ]
            refine wpAny_take (i := 4) (v := (.int .u8 c)) rfl (by kernel_rfl) (by kernel_rfl) (by kernel_rfl) (fun _ _ _ h => h) (Or.inl ⟨by rfl, fun w9 => by go_simp⟩) ?_
            simp only [Act.put, List.getElem_toArray, List.getElem_cons_succ, List.getElem_cons_zero, List.setIfInBounds_toArray, List.set_cons_zero, List.set_cons_succ]
            refine wpAny_ready (rs := [5]) (by kernel_rfl) (by simp) ?_
            refine AllReady.cons rfl (fun K hK => ?_) AllReady.nil
            simp only [List.getElem_toArray, List.getElem_cons_succ, List.getElem_cons_zero]
            go_simp
            have bx2 := bxd.alloc (.cells #[.int .u8 c] 5)
            have hr2 : Row (wd.alloc (.cells #[.int .u8 c] 5)) (.slice (some ⟨wd.heap.size, 0, none⟩) 1 1) (ints .u8 [c]) := Row.ilit [c] [_] rfl (by simp)
            have hca := bx2.1
            refine hK _ _ ?_
            clear hK K
            generalize World.alloc wd (.cells #[.int .u8 c] 5) = wa at *
            try simp only [Act.put, List.getElem_toArray, List.getElem_cons_succ, List.getElem_cons_zero, List.setIfInBounds_toArray, List.set_cons_zero, List.set_cons_succ]
            refine wpAny_ready (rs := [6]) (by kernel_rfl) (by simp) ?_
            refine AllReady.cons rfl (fun K hK => ?_) AllReady.nil
            simp only [List.getElem_toArray, List.getElem_cons_succ, List.getElem_cons_zero]
            rw [if_pos (by rfl)]
            refine wp_app2 slT_u8 (w.heap.size + 2) _ _ (by rfl) (by rfl) (by rfl) bx2.2.2.1 hr2 (by simp only [ints_length, List.length_cons, List.length_nil]; omega) bx2.2.2.2.2.2 ?_
            intro t3 w3 ho3 hg3 _
            rw [← ints_append] at ho3
            obtain ⟨a3, c3, rfl⟩ := ho3.formN (n := O.length + 1) (by simp [ints])
            have bx3 := bx2.app ho3 hg3
            refine hK _ _ ?_
            clear hK K
            try simp only [Act.put, List.getElem_toArray, List.getElem_cons_succ, List.getElem_cons_zero, List.setIfInBounds_toArray, List.set_cons_zero, List.set_cons_succ]
            refine wpAny_ready (rs := [7]) (by kernel_rfl) (by simp) ?_
            refine AllReady.cons rfl (fun K hK => ?_) AllReady.nil
            simp only [List.getElem_toArray, List.getElem_cons_succ, List.getElem_cons_zero]
            have hc3 := bx3.1
            have hf3 := bx3.2.1
            go_simp
            refine hK _ _ ?_
            clear hK K
            refine wpAny_done (by kernel_rfl) ?_ _
            exact HNX.out _ _ bx3.store
          refine AllReady.cons rfl (fun K hK => ?_) AllReady.nil
          simp only [List.getElem_toArray, List.getElem_cons_succ, List.getElem_cons_zero]
          go_simp
          refine hK _ _ ?_
          clear hK K
          try simp only [Act.put, List.getElem_toArray, List.getElem_cons_succ, List.getElem_cons_zero, List.setIfInBounds_toArray, List.set_cons_zero, List.set_cons_succ]
          refine wpAny_take (i := 4) (v := (.int .u8 c)) rfl (by kernel_rfl) (by kernel_rfl) (by kernel_rfl) (fun _ _ _ h => h) (Or.inl ⟨by rfl, fun w9 => by go_simp⟩) ?_
          simp only [Act.put, List.getElem_toArray, List.getElem_cons_succ, List.getElem_cons_zero, List.setIfInBounds_toArray, List.set_cons_zero, List.set_cons_succ]
          refine wpAny_ready (rs := [0, 5]) (by kernel_rfl) (by simp) ?_
          refine AllReady.cons rfl (fun K hK => ?_) ?_
          · simp only [List.getElem_toArray, List.getElem_cons_succ, List.getElem_cons_zero]
            go_simp
            refine hK _ _ ?_
            clear hK K
            try simp only [Act.put, List.getElem_toArray, List.getElem_cons_succ, List.getElem_cons_zero, List.setIfInBounds_toArray, List.set_cons_zero, List.set_cons_succ]
            refine wpAny_ready (rs := [5]) (by kernel_rfl) (by simp) ?_
            refine AllReady.cons rfl (fun K hK => ?_) AllReady.nil
            simp only [List.getElem_toArray, List.getElem_cons_succ, List.getElem_cons_zero]
            go_simp
            have bx2 := bxd.alloc (.cells #[.int .u8 c] 5)
            have hr2 : Row (wd.alloc (.cells #[.int .u8 c] 5)) (.slice (some ⟨wd.heap.size, 0, none⟩) 1 1) (ints .u8 [c]) := Row.ilit [c] [_] rfl (by simp)
            have hca := bx2.1
            refine hK _ _ ?_
            clear hK K
            generalize World.alloc wd (.cells #[.int .u8 c] 5) = wa at *
            try simp only [Act.put, List.getElem_toArray, List.getElem_cons_succ, List.getElem_cons_zero, List.setIfInBounds_toArray, List.set_cons_zero, List.set_cons_succ]
            refine wpAny_ready (rs := [6]) (by kernel_rfl) (by simp) ?_
            refine AllReady.cons rfl (fun K hK => ?_) AllReady.nil
            simp only [List.getElem_toArray, List.getElem_cons_succ, List.getElem_cons_zero]
            rw [if_pos (by rfl)]
            refine wp_app2 slT_u8 (w.heap.size + 2) _ _ (by rfl) (by rfl) (by rfl) bx2.2.2.1 hr2 (by simp only [ints_length, List.length_cons, List.length_nil]; omega) bx2.2.2.2.2.2 ?_
            intro t3 w3 ho3 hg3 _
            rw [← ints_append] at ho3
            obtain ⟨a3, c3, rfl⟩ := ho3.formN (n := O.length + 1) (by simp [ints])
            have bx3 := bx2.app ho3 hg3
            refine hK _ _ ?_
            clear hK K
            try simp only [Act.put, List.getElem_toArray, List.getElem_cons_succ, List.getElem_cons_zero, List.setIfInBounds_toArray, List.set_cons_zero, List.set_cons_succ]
            refine wpAny_ready (rs := [7]) (by kernel_rfl) (by simp) ?_
            refine AllReady.cons rfl (fun K hK => ?_) AllReady.nil
            simp only [List.getElem_toArray, List.getElem_cons_succ, List.getElem_cons_zero]
            have hc3 := bx3.1
            have hf3 := bx3.2.1
            go_simp
            refine hK _ _ ?_
            clear hK K
            refine wpAny_done (by kernel_rfl) ?_ _
            exact HNX.out _ _ bx3.store
          refine AllReady.cons rfl (fun K hK => ?_) AllReady.nil
          simp only [List.getElem_toArray, List.getElem_cons_succ, List.getElem_cons_zero]
          go_simp
          have bx2 := bxd.alloc (.cells #[.int .u8 c] 5)
          have hr2 : Row (wd.alloc (.cells #[.int .u8 c] 5)) (.slice (some ⟨wd.heap.size, 0, none⟩) 1 1) (ints .u8 [c]) := Row.ilit [c] [_] rfl (by simp)
          have hca := bx2.1
          refine hK _ _ ?_
          clear hK K
          generalize World.alloc wd (.cells #[.int .u8 c] 5) = wa at *
          try simp only [Act.put, List.getElem_toArray, List.getElem_cons_succ, List.getElem_cons_zero, List.setIfInBounds_toArray, List.set_cons_zero, List.set_cons_succ]
          refine wpAny_ready (rs := [0]) (by kernel_rfl) (by simp) ?_
          refine AllReady.cons rfl (fun K hK => ?_) AllReady.nil
          simp only [List.getElem_toArray, List.getElem_cons_succ, List.getElem_cons_zero]
          go_simp
          refine hK _ _ ?_
          clear hK K
          try simp only [Act.put, List.getElem_toArray, List.getElem_cons_succ, List.getElem_cons_zero, List.setIfInBounds_toArray, List.set_cons_zero, List.set_cons_succ]
          refine wpAny_ready (rs := [6]) (by kernel_rfl) (by simp) ?_
          refine AllReady.cons rfl (fun K hK => ?_) AllReady.nil
          simp only [List.getElem_toArray, List.getElem_cons_succ, List.getElem_cons_zero]
          rw [if_pos (by rfl)]
          refine wp_app2 slT_u8 (w.heap.size + 2) _ _ (by rfl) (by rfl) (by rfl) bx2.2.2.1 hr2 (by simp only [ints_length, List.length_cons, List.length_nil]; omega) bx2.2.2.2.2.2 ?_
          intro t3 w3 ho3 hg3 _
          rw [← ints_append] at ho3
          obtain ⟨a3, c3, rfl⟩ := ho3.formN (n := O.length + 1) (by simp [ints])
          have bx3 := bx2.app ho3 hg3
          refine hK _ _ ?_
          clear hK K
          try simp only [Act.put, List.getElem_toArray, List.getElem_cons_succ, List.getElem_cons_zero, List.setIfInBounds_toArray, List.set_cons_zero, List.set_cons_succ]
          refine wpAny_ready (rs := [7]) (by kernel_rfl) (by simp) ?_
          refine AllReady.cons rfl (fun K hK => ?_) AllReady.nil
          simp only [List.getElem_toArray, List.getElem_cons_succ, List.getElem_cons_zero]
          have hc3 := bx3.1
          have hf3 := bx3.2.1
          go_simp
          refine hK _ _ ?_
          clear hK K
          refine wpAny_done (by kernel_rfl) ?_ _
          exact HNX.out _ _ bx3.store
      · have hk1 : mk1 (c :: r) = mn (c :: r) := by unfold mk1; omega
        rw [hk1] at hxr
        rw [show decide (0 < mn (c :: r)) = true from decide_eq_true h0]
        have e1 : mo2 (c :: r) = 38 :: mcodeL ((c :: r).take (mn (c :: r))) ++ [45] := by show mo c r = _; rw [mo, if_pos h0]
        have hCd := fun v w' h' => omCode_any v ((c :: r).take (mn (c :: r))) w' h' (fun y hy => hr y (hmem y (List.mem_of_mem_take hy))) (by rw [List.length_take]; omega)
        have hcl := mcodeL_len ((c :: r).take (mn (c :: r)))
        rw [List.length_take] at hcl
        have hcl2 : (mcodeL ((c :: r).take (mn (c :: r)))).length ≤ 50000 := by omega
        have HNX := Lib.hid (fun W' ov h => hNX W' ov _ e1 h)
        clear hNX hk1 e1 hcl hmem
        generalize mcodeL ((c :: r).take (mn (c :: r))) = cd at *
        obtain ⟨a1, b1, o1, c1, hv1, _⟩ := id hxr.op
        have hml := mn_le (c :: r)
        rw [List.length_take, Nat.min_eq_left hml] at hv1
        subst hv1
        generalize (c :: r).take (mn (c :: r)) = T at *
        generalize mn (c :: r) = m at *
        have HCD := Lib.hid hCd
        have HCL : Hid (cd.length ≤ 50000) := hcl2
        clear hCd hcl2
        have hOl3 := hOl2
        gi_wp2_with (first | (gi_at_builtin; refine wpListIn_app2 slT_u8 (w.heap.size + 2) _ _ rfl rfl rfl rfl (bx.alloc _).2.2.1 (Row.ilit [38] [_] rfl (by simp)) (by simp only [ints_length, List.length_cons, List.length_nil]; omega) (by simp; omega) ?_; intro t3 w3 ho3 hg3 _; rw [← ints_append] at ho3; have bx3 := (bx.alloc _).app ho3 hg3) | (refine ⟨trivial, ?_⟩; refine (CallsIn.inRound l (callsIn_wide.2 (HCD.out _ _ (hxr.below (hB.trans bx3.2.2.2.1.1))))).mono ?_; rintro e w5 ⟨t5, rfl, ho5, hb5⟩; have bx5 := bx3.below hb5) | (gi_at_builtin; refine wpListIn_app2 slT_u8 (w.heap.size + 2) _ _ rfl rfl rfl rfl bx5.2.2.1 ho5.row (by have := HCL.out; simp only [ints_length, List.length_append, List.length_cons, List.length_nil]; omega) bx5.2.2.2.2.2 ?_; intro t6 w6 ho6 hg6 _; rw [← ints_append] at ho6; have bx6 := bx5.app ho6 hg6) | (gi_at_builtin; refine wpListIn_app2 slT_u8 (w.heap.size + 2) _ _ rfl rfl rfl rfl (bx6.alloc _).2.2.1 (Row.ilit [45] [_] rfl (by simp)) (by have := HCL.out; simp only [ints_length, List.length_append, List.length_cons, List.length_nil]; omega) (by have := bx6.2.2.2.2.2; simp; omega) ?_; intro t7 w7 ho7 hg7 _; rw [← ints_append] at ho7; obtain ⟨a7, c7, rfl⟩ := ho7.formN (n := O.length + cd.length + 2) (by simp only [ints_length, List.length_append, List.length_cons, List.length_nil]; omega); have bx7 := (bx6.alloc _).app ho7 hg7; have hc7 := bx7.1; have hf7 := bx7.2.1))
        exact HNX.out _ _ (by have h9 := bx7.store; simpa [List.append_assoc] using h9)
    case done =>
      rintro D ys W hD hS ⟨⟨ov, hc, hf, hown, _⟩, hB⟩ hK
      have hq : (ys.flatMap (fun x => mo2 (xs.drop x.1.1))) = q := by
        have h9 := HOUT.out
        rw [← hS, List.flatMap_map] at h9
        exact h9
      rw [hq] at hown
      gi_wp2
      refine ⟨by simp, .inl ⟨_, _, rfl, run_takeDeferred hK, ?_⟩⟩
      refine ⟨.tuple #[ov, .int .i64 0], ?_, ov, rfl, (hown.mono (by omega)).turned (grownBy_putObj' _ D _) (fun r e => by cases e; exact ⟨_, hK, rfl⟩), hB.trans (belowK_b (w := w) (Nat.le_refl _) W D _ _ (by omega) hK rfl rfl)⟩
      simp [results, Try.f12, go_sem]
end Go.Proofs.Ytbpjgmiedplidaa
