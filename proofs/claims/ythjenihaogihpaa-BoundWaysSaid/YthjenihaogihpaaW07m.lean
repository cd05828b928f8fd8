/- Walks: Cut, which tells the places from behind. -/
import Derived.Test.YthjenihaogihpaaW07l
namespace Go.Proofs.Ythjenihaogihpaa
open Go.RowKit Go.Shelf
attribute [local go_sem] Oper.semAt_some
theorem Row.turned {w w' : World} {row : Option Nat} {v : Value} {cs : List Value} (h : Row w v cs) (hg : w.grownBy w' row) (hr : ∀ r, row = some r → ∃ o : Obj, w.heap[r]? = some o ∧ o.isCells = false) : Row w' v cs := by
  obtain ⟨a, b, off, cap, hv, hc, hm, ha, hone, hcell⟩ := h
  exact ⟨a, b, off, cap, hv, hc, hm, ha, hone, fun i u hu => cell_kept (hcell i u hu) hg hr⟩
theorem Own.kept {B : Nat} {E : TypeId} {w w' : World} {v : Value} {cs : List Value} (h : Own B E w v cs) {k : Nat} (hg : w.grownBy w' (some k)) (hk : k < B) : Own B E w' v cs := by
  refine ⟨h.1.kept hg ?_, h.2⟩
  rcases h.1.2 with ⟨rfl, _⟩ | ⟨g, cap, cur, rfl, hB, _⟩
  · exact .inl rfl
  · right; simp [Value.ownBlock]; omega
theorem keeps_below {W W' : World} (h : Below W.heap.size W W') : KeepsOthers W W' := ⟨h.size, fun k _ hk _ => (h.block k (Array.getElem?_eq_some_iff.1 hk).1).trans hk⟩
theorem last_lcut {α : Type} {g : α → Nat × Int} {f : Nat → α} {n q : Int} {l : List Int} {k : Nat} (hf : ∀ j, g (f j) = (l.length - 1 - j, l[l.length - 1 - j]?.getD 0)) (hk : k ≤ l.length) {z : Int} (h : LastQ (· ≤ n) ((gupto f k).map g) z) (HQ : lcut n l = q) : q = z := by
  have e : (gupto f k).map g = bupto l k := by
    rw [gupto, List.map_map, bupto]; congr 1; funext j; exact hf j
  rw [e] at h
  obtain ⟨ini, last, e1, e2, e3, rfl⟩ := h
  rw [← HQ]; exact bupto_hit (· ≤ n) hk e1 e2 e3
theorem none_lcut {α : Type} {g : α → Nat × Int} {f : Nat → α} {n q : Int} {l : List Int} (hf : ∀ j, g (f j) = (l.length - 1 - j, l[l.length - 1 - j]?.getD 0)) (h : NoneQ (· ≤ n) ((gupto f l.length).map g)) (HQ : lcut n l = q) : q = 0 := by
  have e : (gupto f l.length).map g = bupto l l.length := by
    rw [gupto, List.map_map, bupto]; congr 1; funext j; exact hf j
  rw [e] at h
  rw [← HQ]; exact bupto_miss (· ≤ n) h
set_option maxRecDepth 100000 in
set_option maxHeartbeats 2000000 in
theorem oCut_any (v : Value) (xs : List Int) (n : Int) (w : World) (h : Row w v (ints .u8 xs)) (hg : Rg 0 256 xs) (hl : xs.length ≤ 1000000) :
    Calls Try.prog 24 #[v, .int .i64 n] w fun e w' => ∃ t, e = .returned t ∧ Row w' t (ints .u8 (xs.take (pcut xs n).toNat)) ∧ Below w.heap.size w w' := by
  obtain ⟨a, b, off, cp, rfl, hcp, _⟩ := id h.int
  obtain ⟨q, HQ⟩ : ∃ q, Hid (pcut xs n = q) := ⟨_, rfl⟩
  rw [HQ.out]
  have hpl := places_max hl
  have hpos : 0 < (places xs).length := by rw [places_length]; omega
  have HQ2 : Hid (lcut n (places xs) = q) := HQ
  have HPR : Hid (∀ (i : Nat), 0 ≤ (places xs)[i]?.getD 0 ∧ (places xs)[i]?.getD 0 ≤ xs.length) := fun i => by
    cases hx : (places xs)[i]? with
    | none => simp
    | some y => exact places_rng xs y (List.mem_of_getElem? hx)
  clear HQ
  have hp := fun w (h : Row w (.slice a xs.length cp) (ints .u8 xs)) => oPlaces_any (.slice a xs.length cp) xs w h hg hl
  have HP := Lib.hid hp; clear hp
  generalize places xs = l at *
  have hB2 : Below w.heap.size w (((w.alloc (.cells #[.slice a xs.length cp] 22)).alloc (.cells #[.int .i64 n] 3)).alloc (.cells #[.slice none 0 0] 22)) := (((Below.refl _ w).alloc (Nat.le_refl _) _).alloc (by simp) _).alloc (by simp; omega) _
  have h2 := h.below hB2
  have HPP := Lib.hid (HP.out _ h2)
  refine (callsIn_wide (n := 6)).1 ?_
  refine callsIn_of_wp_marks Try.func24 rfl trivial ?_ rfl
  simp only [Try.ntmps24, List.size_toArray, List.length_cons, List.length_nil, Nat.reduceAdd, Nat.reduceSub, Array.replicate_succ, Array.replicate_zero, List.push_toArray, List.append_toArray, List.nil_append, List.cons_append]
  gi_wp2_with (first | (refine ⟨trivial, ?_⟩; gi_at_call 21; refine (callsIn_wide.2 HPP.out).mono ?_; rintro e w1 ⟨t, rfl, ho, hb⟩; obtain ⟨a2, b2, o2, c2, rfl, HC⟩ := ho.row.op; obtain ⟨y0, _, rfl, hc0⟩ := HC.out 0 hpos) | (refine ⟨trivial, ?_⟩; gi_at_call 48; refine (back_in Fence.wide _ trivial rfl _ _ _ _).mono ?_; rintro e w2 ⟨rfl, rfl⟩))
  have hblt := cell_lt (hc0 w1 (Below.refl _ _))
  have hs := hb.size
  have bS := ((Boxed.new w 22 (.slice a xs.length cp)).alloc (.cells #[.int .i64 n] 3)).alloc (.cells #[.slice none 0 0] 22)
  have bN := (Boxed.new (w.alloc (.cells #[.slice a xs.length cp] 22)) 3 (.int .i64 n)).alloc (.cells #[.slice none 0 0] 22)
  have bR := Boxed.new ((w.alloc (.cells #[.slice a xs.length cp] 22)).alloc (.cells #[.int .i64 n] 3)) 22 (.slice none 0 0)
  simp only [World.size_alloc] at bS bN bR hs hb
  have hb0 : Below (w.heap.size + 1 + 1 + 1) (((w.alloc (.cells #[.slice a xs.length cp] 22)).alloc (.cells #[.int .i64 n] 3)).alloc (.cells #[.slice none 0 0] 22)) (w1.alloc (.cells #[.slice (some ⟨b2, o2, none⟩) l.length c2] 36)) := hb.alloc hs _
  have hBW : Below w.heap.size w (w1.alloc (.cells #[.slice (some ⟨b2, o2, none⟩) l.length c2] 36)) := hB2.trans (hb0.mono (by omega))
  have cS0 := (hb0.cell (p := ⟨w.heap.size, 0, none⟩) (by simp; omega)).trans bS.cell
  have cN0 := (hb0.cell (p := ⟨w.heap.size + 1, 0, none⟩) (by simp)).trans bN.cell
  have cR0 := (hb0.cell (p := ⟨w.heap.size + 1 + 1, 0, none⟩) (by simp)).trans bR.cell
  have fR0 := (hb0.frozen (p := ⟨w.heap.size + 1 + 1, 0, none⟩) (by simp)).trans bR.frozen
  refine wpIn_rangeFunc_ownF rfl (by omega) (gf := 60) (lb := #[.pointer (some ⟨w1.heap.size, 0, none⟩)]) rfl trivial (enters_of Try.func60 (by kernel_rfl) rfl)
    (back_stops (fun j => (⟨(l.length - 1 - j, l[l.length - 1 - j]?.getD 0), HPR.out _⟩ : { x : Nat × Int // 0 ≤ x.2 ∧ x.2 ≤ xs.length })) (fun x => #[Value.int .i64 (x.1.1 : Int), Value.int .i64 x.1.2]) Fence.wide _ trivial rfl (by omega) w1.heap.size (w1.heap.size + 1) b2 o2 c2 l hpl (fun _ _ => rfl) _ (by omega) (by simp) (Boxed.new w1 36 _).cell (by omega) (fun j hj => by
      obtain ⟨y, HX, _, hc⟩ := HC.out j hj
      rw [hc _ (below_alloc _ _), HX.out]; rfl)) belowK_t (belowK_b (by simp)) (Below.refl _ _) (fun _ => rfl)
    (fun pre W => (NoneQ (· ≤ n) (pre.map (·.1)) ∧ W.cell? ⟨w.heap.size, 0, none⟩ = some (.slice a xs.length cp) ∧ W.cell? ⟨w.heap.size + 1, 0, none⟩ = some (.int .i64 n) ∧ W.cell? ⟨w.heap.size + 1 + 1, 0, none⟩ = some (.slice none 0 0) ∧ W.frozen? ⟨w.heap.size + 1 + 1, 0, none⟩ = false) ∧ Below w.heap.size w W)
    (fun c pre W => (c = .ret ∧ ∃ z t, LastQ (· ≤ n) (pre.map (·.1)) z ∧ W.cell? ⟨w.heap.size + 1 + 1, 0, none⟩ = some t ∧ Row W t (ints .u8 (xs.take z.toNat))) ∧ Below w.heap.size w W)
    (OwnFrom.and (Own.from (fun s A B row hs hg hr => ⟨hs.1, cell_kept hs.2.1 hg hr, cell_kept hs.2.2.1 hg hr, cell_kept hs.2.2.2.1 hg hr, (frozen_kept hs.2.2.2.1 hg hr).trans hs.2.2.2.2⟩) _) (ownFrom_below (Nat.le_refl _) (by simp; omega)))
    (fun c => OwnFrom.and (Own.from (fun s A B row hs hg hr => by obtain ⟨hc, z, t, e1, e4, e5⟩ := hs; exact ⟨hc, z, t, e1, cell_kept e4 hg hr, e5.turned hg hr⟩) _) (ownFrom_below (Nat.le_refl _) (by simp; omega)))
    ⟨⟨fun p hp => by simp at hp, cS0, cN0, cR0, fR0⟩, hBW⟩
    (fun x => { tmps := #[.slice a xs.length cp, .int .i64 n, .pointer (some ⟨w.heap.size, 0, none⟩), .pointer (some ⟨w.heap.size + 1, 0, none⟩), .pointer (some ⟨w.heap.size + 1 + 1, 0, none⟩), undef, .int .i64 x.1.2, .slice a xs.length cp, .slice (some ⟨b2, o2, none⟩) l.length c2, .func (.func 60) #[] #[.pointer (some ⟨w1.heap.size, 0, none⟩)], .int .i64 (x.1.1 : Int), .int .i64 x.1.2, undef, undef, undef, undef, undef, undef, undef], defers := [] }) ?assign ?body ?done ?stop
  case assign =>
    intro l x W K hK
    gi_wp2
    exact hK
  case body =>
    rintro l pre ⟨⟨i, y⟩, hy0, hy1⟩ W ⟨⟨hp, hcs, hcn, hcr, hfr⟩, hB⟩ _
    dsimp only at hy0 hy1 ⊢
    obtain ⟨m, rfl⟩ : ∃ m : Nat, y = m := ⟨y.toNat, by omega⟩
    have hm : m ≤ xs.length := by omega
    have r2 := Row.sub (h.below hB) a cp (by rw [ints_length]) 0 m (Nat.zero_le _) (by rw [ints_length]; exact hm)
    rw [List.drop_zero, ints_take] at r2
    have ha0 : sliced a 0 m cp 1 = .slice a m cp := by
      have h3 : a.map (fun x => x.add (0 * 1)) = a := by cases a <;> simp [Addr.add]
      simp only [sliced, h3, ite_self, Nat.sub_zero]
    rw [ha0] at r2
    gi_wp2_with (refine ⟨trivial, ?_⟩; gi_at_call 46; refine (CallsIn.inRound l (callsIn_wide.2 (oclone_any _ _ _ r2 (by rw [List.length_take]; omega)))).mono ?_; rintro e W1 ⟨t, rfl, ho1, hb1⟩; obtain ⟨a3, b3, o3, c3, rfl, _⟩ := id ho1.row.op; rw [show (xs.take m).length = m by rw [List.length_take]; omega] at ho1; have cR1 := (hb1.cell (p := ⟨w.heap.size + 1 + 1, 0, none⟩) (cell_lt hcr)).trans hcr; have fR1 := (hb1.frozen (p := ⟨w.heap.size + 1 + 1, 0, none⟩) (cell_lt hcr)).trans hfr)
    · have hx : ((m : Nat) : Int) ≤ n := by assumption
      have hsz := hb1.size
      have hlt1 := cell_lt hcr
      have hb2 : Below w.heap.size w (W1.setCell ⟨w.heap.size + 1 + 1, 0, none⟩ (.slice a3 m c3)) := (below_trans hB hb1).setCell (p := ⟨w.heap.size + 1 + 1, 0, none⟩) (by simp; omega) _
      refine ⟨(keeps_below hb1).trans (KeepsOthers.setCell _ _ _), ⟨rfl, (m : Int), (.slice a3 m c3), ?_, World.cell?_setCell_same' _ _ _ (by rw [cR1]; rfl), ?_⟩, hb2⟩
      · rw [List.map_append]; exact LastQ.snoc hp hx
      · exact (ho1.kept (grownBy_setCell' _ _ _) hlt1).row
    · have hx : ¬ ((m : Nat) : Int) ≤ n := by omega
      refine ⟨KeepsOthers.refl _, Below.refl _ _, ⟨?_, hcs, hcn, hcr, hfr⟩, hB⟩
      rw [List.map_append]; exact hp.snoc hx
  case done =>
    rintro D ys W hD rfl ⟨⟨hne, _, _, hcr, hfr⟩, hB⟩ hK
    gi_wp2
    have hK' := (KeepsOthers.setCell W ⟨w.heap.size + 1 + 1, 0, none⟩ (.slice none 0 0)).same D _ hK rfl
    refine ⟨by simp, .inl ⟨_, _, rfl, run_takeDeferred hK', ?_⟩⟩
    have hc5 := cell_kept (World.cell?_setCell_same' W ⟨w.heap.size + 1 + 1, 0, none⟩ (.slice none 0 0) (by rw [hcr]; rfl)) (grownBy_putObj' _ D (.deferred none)) (fun r e => by cases e; exact ⟨_, hK', rfl⟩)
    have he : q = 0 := none_lcut (fun _ => rfl) hne HQ2.out
    refine ⟨.slice none 0 0, ?_, _, rfl, by rw [he]; exact Row.nil _, (hB.setCell (p := ⟨w.heap.size + 1 + 1, 0, none⟩) (by simp; omega) _).trans (belowK_b (w := w) (Nat.le_refl _) _ D _ _ (by simp at hD; omega) hK' rfl rfl)⟩
    simp [results, Try.f24, go_sem, hc5]
  case stop =>
    rintro D c pre W hD ⟨k, hk, rfl⟩ ⟨⟨rfl, z, t, hz, hcr, hrow⟩, hB⟩ hK
    gi_wp2
    refine ⟨by simp, .inl ⟨_, _, rfl, run_takeDeferred hK, ?_⟩⟩
    have hc5 := cell_kept hcr (grownBy_putObj' _ D (.deferred none)) (fun r e => by cases e; exact ⟨_, hK, rfl⟩)
    have he : q = z := last_lcut (fun _ => rfl) hk hz HQ2.out
    refine ⟨t, ?_, t, rfl, by rw [he]; exact hrow.turned (grownBy_putObj' _ D (.deferred none)) (fun r e => by cases e; exact ⟨_, hK, rfl⟩), hB.trans (belowK_b (w := w) (Nat.le_refl _) W D _ _ (by simp at hD; omega) hK rfl rfl)⟩
    simp [results, Try.f24, go_sem, hc5]
end Go.Proofs.Ythjenihaogihpaa
