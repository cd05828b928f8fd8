/- Walks: Back, which tells the places from behind. -/
import Derived.Test.YthjenihaogihpaaW07k
namespace Go.Proofs.Ythjenihaogihpaa
open Go.RowKit Go.Shelf
attribute [local go_sem] Oper.semAt_some
def NoneQ (q : Int → Prop) (pre : List (Nat × Int)) : Prop := ∀ p ∈ pre, ¬ q p.2
def LastQ (q : Int → Prop) (pre : List (Nat × Int)) (z : Int) : Prop := ∃ ini last, pre = ini ++ [last] ∧ NoneQ q ini ∧ q last.2 ∧ z = last.2
theorem NoneQ.snoc {q : Int → Prop} {pre : List (Nat × Int)} {x : Nat × Int} (h : NoneQ q pre) (hx : ¬ q x.2) : NoneQ q (pre ++ [x]) := fun p hp =>
  (List.mem_append.1 hp).elim (h p) (fun e => by rw [List.mem_singleton.1 e]; exact hx)
theorem LastQ.snoc {q : Int → Prop} {pre : List (Nat × Int)} {x : Nat × Int} (h : NoneQ q pre) (hx : q x.2) : LastQ q (pre ++ [x]) x.2 := ⟨pre, x, rfl, h, hx, rfl⟩
theorem cell_lt {w : World} {b o : Nat} {v : Value} (h : w.cell? ⟨b, o, none⟩ = some v) : b < w.heap.size := by
  by_cases hb : b < w.heap.size
  · exact hb
  · have hn : w.heap[b]? = none := by simp; omega
    simp [World.cell?, hn] at h
set_option maxRecDepth 100000 in
set_option maxHeartbeats 2000000 in
theorem oBack_any (v : Value) (xs : List Int) (n : Int) (w : World) (h : Row w v (ints .u8 xs)) (hg : Rg 0 256 xs) (hl : xs.length ≤ 1000000) :
    Calls Try.prog 30 #[v, .int .i64 n] w fun e w' => e = .returned (.int .i64 (pback xs n)) ∧ Below w.heap.size w w' := by
  obtain ⟨q, HQ⟩ : ∃ q, Hid (pback xs n = q) := ⟨_, rfl⟩
  rw [HQ.out]
  have hpl := places_max hl
  have hpos : 0 < (places xs).length := by rw [places_length]; omega
  have HQ2 : Hid (lback n (places xs) = q) := HQ
  clear HQ
  have hp := fun w (h : Row w v (ints .u8 xs)) => oPlaces_any v xs w h hg hl
  have HP := Lib.hid hp; clear hp
  generalize places xs = l at *
  have hB2 : Below w.heap.size w ((w.alloc (.cells #[.int .i64 n] 3)).alloc (.cells #[.int .i64 0] 3)) := ((Below.refl _ w).alloc (Nat.le_refl _) _).alloc (by simp) _
  have h2 := h.below hB2
  have HPP := Lib.hid (HP.out _ h2)
  refine (callsIn_wide (n := 5)).1 ?_
  refine callsIn_of_wp_marks Try.func30 rfl trivial ?_ rfl
  simp only [Try.ntmps30, List.size_toArray, List.length_cons, List.length_nil, Nat.reduceAdd, Nat.reduceSub, Array.replicate_succ, Array.replicate_zero, List.push_toArray, List.append_toArray, List.nil_append, List.cons_append]
  gi_wp2_with (first | (refine ⟨trivial, ?_⟩; gi_at_call 21; refine (callsIn_wide.2 HPP.out).mono ?_; rintro e w1 ⟨t, rfl, ho, hb⟩; obtain ⟨a2, b2, o2, c2, rfl, HC⟩ := ho.row.op; obtain ⟨y0, _, rfl, hc0⟩ := HC.out 0 hpos) | (refine ⟨trivial, ?_⟩; gi_at_call 48; refine (back_in Fence.wide _ trivial rfl _ _ _ _).mono ?_; rintro e w2 ⟨rfl, rfl⟩))
  have hblt := cell_lt (hc0 w1 (Below.refl _ _))
  have hs := hb.size
  have cN := (((Boxed.new w 3 (.int .i64 n)).alloc (.cells #[.int .i64 0] 3)).cell)
  have bR := Boxed.new (w.alloc (.cells #[.int .i64 n] 3)) 3 (.int .i64 0)
  simp only [World.size_alloc] at bR hs hb
  have hb0 : Below (w.heap.size + 1 + 1) ((w.alloc (.cells #[.int .i64 n] 3)).alloc (.cells #[.int .i64 0] 3)) (w1.alloc (.cells #[.slice (some ⟨b2, o2, none⟩) l.length c2] 36)) := hb.alloc hs _
  have hBW : Below w.heap.size w (w1.alloc (.cells #[.slice (some ⟨b2, o2, none⟩) l.length c2] 36)) := hB2.trans (hb0.mono (by omega))
  have cN0 := (hb0.cell (p := ⟨w.heap.size, 0, none⟩) (by simp; omega)).trans cN
  have cR0 := (hb0.cell (p := ⟨w.heap.size + 1, 0, none⟩) (by simp)).trans bR.cell
  have fR0 := (hb0.frozen (p := ⟨w.heap.size + 1, 0, none⟩) (by simp)).trans bR.frozen
  refine wpIn_rangeFunc_ownF rfl (by omega) (gf := 60) (lb := #[.pointer (some ⟨w1.heap.size, 0, none⟩)]) rfl trivial (enters_of Try.func60 (by kernel_rfl) rfl)
    (back_stops (fun j => (l.length - 1 - j, l[l.length - 1 - j]?.getD 0)) (fun x : Nat × Int => #[Value.int .i64 (x.1 : Int), Value.int .i64 x.2]) Fence.wide _ trivial rfl (by omega) w1.heap.size (w1.heap.size + 1) b2 o2 c2 l hpl (fun _ _ => rfl) _ (by omega) (by simp) (Boxed.new w1 36 _).cell (by omega) (fun j hj => by
      obtain ⟨y, HX, _, hc⟩ := HC.out j hj
      rw [hc _ (below_alloc _ _), HX.out]; rfl)) belowK_t (belowK_b (by simp)) (Below.refl _ _) (fun _ => rfl)
    (fun pre W => (NoneQ (· < n) pre ∧ W.cell? ⟨w.heap.size, 0, none⟩ = some (.int .i64 n) ∧ W.cell? ⟨w.heap.size + 1, 0, none⟩ = some (.int .i64 0) ∧ W.frozen? ⟨w.heap.size + 1, 0, none⟩ = false) ∧ Below w.heap.size w W)
    (fun c pre W => (c = .ret ∧ ∃ z, LastQ (· < n) pre z ∧ W.cell? ⟨w.heap.size + 1, 0, none⟩ = some (.int .i64 z)) ∧ Below w.heap.size w W)
    (OwnFrom.and (Own.from (fun s A B row hs hg hr => ⟨hs.1, cell_kept hs.2.1 hg hr, cell_kept hs.2.2.1 hg hr, (frozen_kept hs.2.2.1 hg hr).trans hs.2.2.2⟩) _) (ownFrom_below (Nat.le_refl _) (by simp; omega)))
    (fun c => OwnFrom.and (Own.from (fun s A B row hs hg hr => by obtain ⟨hc, z, e1, e4⟩ := hs; exact ⟨hc, z, e1, cell_kept e4 hg hr⟩) _) (ownFrom_below (Nat.le_refl _) (by simp; omega)))
    ⟨⟨fun p hp => by simp at hp, cN0, cR0, fR0⟩, hBW⟩
    (fun x => { tmps := #[v, .int .i64 n, undef, .pointer (some ⟨w.heap.size, 0, none⟩), .pointer (some ⟨w.heap.size + 1, 0, none⟩), undef, .int .i64 x.2, v, .slice (some ⟨b2, o2, none⟩) l.length c2, .func (.func 60) #[] #[.pointer (some ⟨w1.heap.size, 0, none⟩)], .int .i64 (x.1 : Int), .int .i64 x.2, undef, undef, undef, undef], defers := [] }) ?assign ?body ?done ?stop
  case assign =>
    intro l x W K hK
    gi_wp2
    exact hK
  case body =>
    rintro l pre x W ⟨⟨hp, hcn, hcr, hfr⟩, hB⟩ _
    gi_wp2
    · have hx : x.2 < n := by assumption
      exact ⟨KeepsOthers.setCell _ _ _, ⟨rfl, _, LastQ.snoc hp hx, World.cell?_setCell_same' _ _ _ (by rw [hcr]; rfl)⟩, hB.setCell (p := ⟨w.heap.size + 1, 0, none⟩) (by simp) _⟩
    · have hx : ¬ x.2 < n := by omega
      exact ⟨KeepsOthers.refl _, Below.refl _ _, ⟨hp.snoc hx, hcn, hcr, hfr⟩, hB⟩
  case done =>
    rintro D ys W hD rfl ⟨⟨hne, _, hcr, hfr⟩, hB⟩ hK
    gi_wp2
    have hK' := (KeepsOthers.setCell W ⟨w.heap.size + 1, 0, none⟩ (.int .i64 0)).same D _ hK rfl
    refine ⟨by simp, .inl ⟨_, _, rfl, run_takeDeferred hK', ?_⟩⟩
    have hc5 := cell_kept (World.cell?_setCell_same' W ⟨w.heap.size + 1, 0, none⟩ (.int .i64 0) (by rw [hcr]; rfl)) (grownBy_putObj' _ D (.deferred none)) (fun r e => by cases e; exact ⟨_, hK', rfl⟩)
    have he : q = 0 := by rw [← HQ2.out]; exact bupto_miss (· < n) hne
    refine ⟨.int .i64 0, ?_, by rw [he], (hB.setCell (p := ⟨w.heap.size + 1, 0, none⟩) (by simp) _).trans (belowK_b (w := w) (Nat.le_refl _) _ D _ _ (by simp at hD; omega) hK' rfl rfl)⟩
    simp [results, Try.f30, go_sem, hc5]
  case stop =>
    rintro D c pre W hD ⟨k, hk, rfl⟩ ⟨⟨rfl, z, hz, hcr⟩, hB⟩ hK
    gi_wp2
    refine ⟨by simp, .inl ⟨_, _, rfl, run_takeDeferred hK, ?_⟩⟩
    have hc5 := cell_kept hcr (grownBy_putObj' _ D (.deferred none)) (fun r e => by cases e; exact ⟨_, hK, rfl⟩)
    have he : q = z := by obtain ⟨ini, last, e1, e2, e3, rfl⟩ := hz; rw [← HQ2.out]; exact bupto_hit (· < n) hk e1 e2 e3
    refine ⟨.int .i64 z, ?_, by rw [he], hB.trans (belowK_b (w := w) (Nat.le_refl _) W D _ _ (by simp at hD; omega) hK rfl rfl)⟩
    simp [results, Try.f30, go_sem, hc5]
end Go.Proofs.Ythjenihaogihpaa
