/- Walks: a host's name laid; what the statements ask beside. (laid together by program out of single texts). -/
import Derived.Test.YtfhfhfadebcbfaaM2
import Derived.Test.YtfhfhfadebcbfaaM25
import Derived.Test.YtfhfhfadebcbfaaM29
namespace Go.Proofs.Ytfhfhfadebcbfaa
open Go.RowKit
set_option maxHeartbeats 8000000
set_option maxRecDepth 100000
theorem run_app_full (w : World) (b n : Nat) (cs ds : List Value) (x : Value) (hc : cs.length = n) (hcs : ∀ j u, cs[j]? = some u → w.cell? ⟨b, j, none⟩ = some u) (h1 : ∀ u ∈ cs, u.oneCell' = true) (hx : Row w x ds) (hd : ds ≠ []) (hl : n + ds.length ≤ 1000000000) :
    ∃ v' w', (∀ ty, (Builtin.append_ #[22, 22] ty #[.slice (some ⟨b, 0, none⟩) n n, x]).run Try.prog w = .ok v' w') ∧ Own w.heap.size 5 w' v' (cs ++ ds) ∧ Below w.heap.size w w' := by
  obtain ⟨a2, b2, off2, cap2, rfl, hc2, hm2, ha2, h12, hcell2⟩ := hx
  have hdl : 0 < ds.length := Nat.pos_of_ne_zero (fun h9 => hd (List.eq_nil_of_length_eq_zero h9))
  obtain rfl : a2 = some ⟨b2, off2, none⟩ := by
    rcases ha2 with h9 | ⟨h9, _⟩
    · exact h9
    · exact absurd h9 hd
  obtain ⟨i0, hi0, hz0, hzs, hzb⟩ := info_parts (P := Try.prog) (e := 5) (z := Value.int .u8 0) (size := 1) (bytes := 1) (by rfl)
  have hold : (Builtin.firstCells i0.size n (.slice (some ⟨b, 0, none⟩) n n)).run Try.prog w.drew = .ok cs.toArray w.drew := by
    rw [hzs]
    exact run_firstCells_some w.drew 1 n ⟨b, 0, none⟩ n n cs (by omega) (fun j u hj => by rw [addr_add, Nat.zero_add]; exact hcs j u hj)
  have hsrc : Src Try.prog i0.size 22 (.slice (some ⟨b2, off2, none⟩) ds.length cap2) ds.length ds w := by
    rw [hzs]
    exact Src.ofSlice w Try.underlying22 ⟨b2, off2, none⟩ ds.length cap2 ds (by omega) (fun j u hj => by rw [addr_add]; exact hcell2 j u hj) h12
  refine ⟨_, _, fun ty => run_append_grow_src (P := Try.prog) (w := w) (ty := ty) 22 22 5 i0 _ Try.underlying22 hi0 hz0 (some ⟨b, 0, none⟩) n n cs hold _ ds.length ds hsrc (by omega) (by omega) (by rw [hzb]; exact growslice_fits (by omega) (by omega)), ?_, ?_⟩
  · have hlen : (cs ++ ds).length = n + ds.length := by rw [List.length_append, hc]
    have hG := grownCap_ge w (n + ds.length) n 5
    refine ⟨⟨by simp, .inr ⟨w.heap.size, grownCap w (n + ds.length) n 5, _, ?_, Nat.le_refl _, heap_alloc_new w.drew _, by rw [hlen]; exact hG, grownCap_le_maxLen w (n + ds.length) n 5 (by unfold maxLen; omega), ?_, ?_⟩⟩, ?_⟩
    · rw [hlen]
    · simp [Builtin.zeroCells, Value.cells]; omega
    · rw [hlen, Nat.mul_one]
      simp only [Array.toList_append]
      rw [List.take_left' hlen]
    · intro u hu
      rcases List.mem_append.1 hu with hu | hu
      · exact h1 u hu
      · exact h12 u hu
  · exact ((Below.refl w.heap.size w).drew).alloc (Nat.le_refl _) _
def t6 : List Int := [98, 252, 99, 104, 101, 114]
def y6 : List Int := [98, 99, 101, 104, 114, 252]
def o6 : List Int := [98, 99, 104, 101, 114, 45, 107, 118, 97]
theorem y6_is : isrP 5 1 t6 = y6 := by decide +kernel
theorem o6_is : layP t6 (y6.filter (fun c => !decide (c < 128))) = (o6, 0) := by decide +kernel
def n6 : List Int := [120, 110, 45, 45, 98, 99, 104, 101, 114, 45, 107, 118, 97]
theorem n6_is : [120, 110, 45, 45] ++ o6 = n6 := rfl
theorem n6_len : n6.length = 13 := rfl
theorem f6_is : flP n6 = (t6, 0) := by decide +kernel
theorem s6_to : SortTo t6 y6 := fun B g cap w h => by
  rw [← y6_is]
  exact sort6_any B g cap t6 w h rfl
theorem c6_to : CompTo y6 y6 := fun B g cap w h => by
  refine (compact_any (.slice (some ⟨g, 0, none⟩) y6.length cap) y6 w h.row (fun k x y hx hy => ?_) (by decide)).mono ?_
  · unfold y6 at hx hy
    rcases k with _ | _ | _ | _ | _ | k <;> simp at hx hy <;> omega
  · rintro e w' ⟨rfl, hb⟩
    exact ⟨rfl, h.below hb, ⟨hb.os, hb.tape, hb.output, hb.size, fun k hk _ => hb.block k hk⟩⟩
theorem t6_len : t6.length = 6 := rfl
theorem label6_any (v : Value) (w : World) (h : Row w v (ints .i32 t6)) :
    Calls Try.prog 20 #[v] w fun e w' => ∃ t, e = .returned (.tuple #[t, .int .i64 0]) ∧ Own w.heap.size 5 w' t (ints .u8 ([120, 110, 45, 45] ++ o6)) ∧ Below w.heap.size w w' := by
  have hr : R32 t6 := by intro x hx; unfold t6 at hx; simp at hx; omega
  have hcf := fun wx h9 => contains_any v t6 wx h9 hr (by decide)
  rw [show t6.any (fun c => decide (c < 0 ∨ 128 ≤ c)) = true from by decide] at hcf
  have hly := fun wx h9 => lay_any v t6 y6 y6 wx h9 hr (by decide) (by decide) s6_to c6_to (by decide) (by decide) (by intro x hx; unfold y6 at hx; simp at hx; omega)
  rw [o6_is] at hly
  have kc := fun (w : World) (C : Array Value) (n c : Nat) => Lib.run_convert_bytes_const (P := Try.prog) w 22 5 C n c Try.underlying22 Try.underlying5
  have HCF := Lib.hid hcf
  have HLY := Lib.hid hly
  clear hcf hly hr
  obtain ⟨a, b, off, cap, rfl, HC⟩ := Row.op h
  go_enter Try.func20, Try.ntmps20
  go_wp2_with fail
  refine (HCF.out _ h).mono ?_
  rintro e w' ⟨rfl, hw⟩
  obtain rfl := hw
  go_wp2_with fail
  refine (HLY.out _ h).mono ?_
  rintro e w1 ⟨t1, rfl, ho1, hb1⟩
  obtain ⟨v', w2, hr2, ho2, hb2⟩ := run_app_full (w1.alloc (.cells #[.int .u8 120, .int .u8 110, .int .u8 45, .int .u8 45] 5 (4, 5))) w1.heap.size 4 (ints .u8 [120, 110, 45, 45]) (ints .u8 o6) t1 rfl (fun j u hj => by
      rw [cell_of_row (w1.alloc (.cells #[.int .u8 120, .int .u8 110, .int .u8 45, .int .u8 45] 5 (4, 5))) w1.heap.size j #[.int .u8 120, .int .u8 110, .int .u8 45, .int .u8 45] 5 (4, 5) (heap_alloc_new w1 _)]
      simpa [ints] using hj) (ints_one _ _) (ho1.row.alloc _) (by decide) (by decide)
  have hB2 := below_trans (hb1.alloc hb1.size (.cells #[.int .u8 120, .int .u8 110, .int .u8 45, .int .u8 45] 5 (4, 5))) hb2
  rw [← ints_append] at ho2
  have ho3 := Own.mono ho2 (by have := hb1.size; simp; omega : w.heap.size ≤ _)
  clear ho2 hb2 ho1
  go_wp2_with (at_builtin; refine Lib.wpList_append_run _ rfl _ _ _ _ rfl _ _ rfl rfl _ _ (hr2 _) ?_)
  go_ret2
  exact ⟨_, rfl, ho3, hB2⟩
theorem alive41_any (w : World) : Calls Try.prog 6 #[] w fun e w' => e = .returned (.bool true) ∧ Below w.heap.size w w' := by
  have hfl := fun v wx h9 => flabel_any v n6 wx h9 (by intro x hx; unfold n6 at hx; simp at hx; omega) (by decide)
  rw [f6_is] at hfl
  have HFL := Lib.hid hfl
  have hlk := fun v1 v2 wx h1 h2 => like3_any v1 v2 t6 t6 wx h1 h2 (by decide) (by decide)
  rw [decide_eq_true rfl] at hlk
  have HLK := Lib.hid hlk
  have hdg := fun wx => digit_any 26 wx
  rw [show dgtP 26 = 48 from by decide] at hdg
  have HDG := Lib.hid hdg
  clear hfl hlk hdg
  have hrow : Row (w.alloc (.cells #[.int .i32 98, .int .i32 252, .int .i32 99, .int .i32 104, .int .i32 101, .int .i32 114] 21)) (.slice (some ⟨w.heap.size, 0, none⟩) 6 6) (ints .i32 t6) := Row.ilit (k := .i32) t6 [_, _, _, _, _, _] rfl (by simp)
  have hB1 := below_alloc w (.cells #[.int .i32 98, .int .i32 252, .int .i32 99, .int .i32 104, .int .i32 101, .int .i32 114] 21)
  go_enter Try.func6, Try.ntmps6
  go_wp2_with fail
  refine (label6_any _ _ hrow).mono ?_
  rintro e w1 ⟨t1, rfl, ho1, hb1⟩
  rw [n6_is] at ho1
  have hrow1 := hrow.below hb1
  have hB2 := below_trans hB1 hb1
  go_wp2_with fail
  refine (HFL.out _ _ ho1.row).mono ?_
  rintro e w2 ⟨t2, rfl, ho2, hb2⟩
  have hrow2 := hrow1.below hb2
  have hB3 := below_trans hB2 hb2
  have ho3 := ho1.row.below hb2
  obtain ⟨a4, b4, o4, c4, rfl, _⟩ := Row.op ho3
  rw [n6_len] at ho3 ⊢
  have hst := rowstr2 _ ho3
  have hstr : strOfNums n6 = ⟨#[120, 110, 45, 45, 98, 99, 104, 101, 114, 45, 107, 118, 97]⟩ := by decide
  rw [hstr] at hst
  clear hstr ho1 hrow hrow1
  go_wp2_with (first | (go_at_call 11; refine (HLK.out _ _ _ ho2.row hrow2).mono ?_; rintro e w3 ⟨rfl, hb4⟩; have hB4 := below_trans hB3 hb4) | (go_at_call 14; refine (HDG.out _).mono ?_; rintro e w4 ⟨rfl, hw⟩; obtain rfl := hw.symm))
  go_ret
  exact ⟨rfl, hB4⟩
end Go.Proofs.Ytfhfhfadebcbfaa
