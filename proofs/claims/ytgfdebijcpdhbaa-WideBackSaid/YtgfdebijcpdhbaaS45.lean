/- The statements of layer 45 on laying, walked. -/
import Derived.Test.YtgfdebijcpdhbaaW45m
import Derived.Test.YtgfdebijcpdhbaaL0
namespace Go.Proofs.Ytgfdebijcpdhbaa
open Go.RowKit
set_option maxHeartbeats 1000000
theorem alive45_facts : wideO 2 false [65] = [65, 0] ∧ wideE 2 [65] = 0 ∧ markN [254, 255, 0] = 2 ∧ markB [254, 255, 0] = true ∧ readT 4 true [1] = [65533] := by decide +kernel
set_option maxRecDepth 100000 in
theorem alive45_any (w : World) : Calls Try.prog 7 #[] w fun e w' => e = .returned (.bool true) ∧ Below w.heap.size w w' := by
  obtain ⟨f1, f2, f3, f4, f5⟩ := alive45_facts
  have hA := fun v w' h' => wideLay_any 2 false v [65] w' h' (by intro x hx; simp at hx; omega) (by simp)
  rw [f1, f2] at hA
  have hB := fun v w' h' => wMark_any v [254, 255, 0] w' h' (by intro x hx; simp at hx; omega) (by simp)
  rw [f3, f4] at hB
  have hC := fun v w' h' => wRead_any2 4 true v [1] w' h' (by intro x hx; simp at hx; omega) (by simp)
  rw [f5] at hC
  have HA := Lib.hid hA; have HB := Lib.hid hB; have HC := Lib.hid hC
  clear hA hB hC f1 f2 f3 f4 f5
  have hb := Below.refl w.heap.size w
  go_enter Try.func7, Try.ntmps7
  go_wp2_with fail
  refine (HA.out _ _ (Row.ilit [65] [_] rfl (by simp))).mono ?_
  rintro e w1 ⟨t1, rfl, ho1, hb1⟩
  replace hb := (by first | exact below_trans hb hb1 | exact below_trans (hb.alloc hb.size _) hb1 | exact below_trans ((hb.alloc hb.size _).alloc (hb.alloc hb.size _).size _) hb1 : Below w.heap.size w _)
  have r1 := ho1.row
  clear ho1 hb1
  go_wp2_with fail
  refine (HB.out _ _ (Row.ilit [254, 255, 0] [_, _, _] rfl (by simp))).mono ?_
  rintro e w2 ⟨rfl, hb2⟩
  replace hb := (by first | exact below_trans hb hb2 | exact below_trans (hb.alloc hb.size _) hb2 | exact below_trans ((hb.alloc hb.size _).alloc (hb.alloc hb.size _).size _) hb2 : Below w.heap.size w _)
  replace r1 := r1.below (below_trans (below_alloc _ _) hb2)
  clear hb2
  obtain ⟨a1, b1, o1, c1, rfl, C1⟩ := r1.op
  obtain ⟨x, hx, rfl, d1⟩ := C1.out 0 (by simp)
  obtain ⟨x', hx', _, d2⟩ := C1.out 1 (by simp)
  obtain rfl : x = 65 := by have := hx.out; simpa using this.symm
  obtain rfl : x' = 0 := by have := hx'.out; simpa using this.symm
  replace d1 : w2.cell? ⟨b1, o1, none⟩ = some (.int .u8 65) := by simpa using d1 _ (Below.refl _ _)
  replace d2 := d2 _ (Below.refl _ _)
  clear hx hx' C1
  go_wp2_with fail
  refine (HC.out _ _ (Row.ilit [1] [_] rfl (by simp))).mono ?_
  rintro e w3 ⟨t3, rfl, ho3, hb3⟩
  replace hb := (by first | exact below_trans hb hb3 | exact below_trans (hb.alloc hb.size _) hb3 | exact below_trans ((hb.alloc hb.size _).alloc (hb.alloc hb.size _).size _) hb3 : Below w.heap.size w _)
  have r3 := ho3.row
  obtain ⟨a3, b3, o3, c3, rfl, _⟩ := r3.op
  go_wp2
  go_ret
  exact ⟨rfl, hb⟩
theorem wideO_len (wd : Int) (big : Bool) (xs : List Int) : (wideO wd big xs).length ≤ 8 * xs.length := by
  unfold wideO; split
  · split
    · exact wideL_len wd big xs
    · simp
  · simp
set_option maxRecDepth 100000 in
theorem WideLays_walk (wd : Int) (big : Bool) (v : Value) (xs : List Int) (w : World) (_hw : (Lit.int .i64 wd).wf = true) (h : Row w v (ints .i32 xs)) (g : WF .i32 xs) :
    Calls Try.prog 3 #[.int .i64 wd, .bool big, v] w fun e w' => e = .returned (.bool true) ∧ Below w.heap.size w w' := by
  obtain ⟨a, b, off, cap, rfl, _⟩ := id h.op
  have hb := Below.refl w.heap.size w
  by_cases hl : xs.length ≤ 300
  · have hgx : R32 xs := fun x hx => wf_i32 (g x hx)
    have hg2 : R32 (65279 :: xs) := fun x hx => by
      rcases List.mem_cons.1 hx with rfl | hx
      · omega
      · exact hgx x hx
    have hA := fun v w' h' => wideLay_any wd big v xs w' h' hgx (by omega)
    have hB := fun v w' h' => rwideLay_any wd big v xs w' h' hgx (by omega)
    have hC := fun v w' h' => marked_any wd big v xs w' h' hgx (by omega)
    have hD := fun v w' h' => rwideLay_any wd big v (65279 :: xs) w' h' hg2 (by simp only [List.length_cons]; omega)
    have hl1 := wideO_len wd big xs
    have hl2 := wideO_len wd big (65279 :: xs)
    rw [List.length_cons] at hl2
    generalize wideE wd xs = er at *
    generalize wideO wd big xs = O at *
    generalize wideE wd (65279 :: xs) = er2 at *
    generalize wideO wd big (65279 :: xs) = O2 at *
    have HA := Lib.hid hA; have HB := Lib.hid hB; have HC := Lib.hid hC; have HD := Lib.hid hD
    have HO : Hid (O.length ≤ 10000) := by show _ ≤ _; omega
    have HO2 : Hid (O2.length ≤ 10000) := by show _ ≤ _; omega
    clear hA hB hC hD hl1 hl2 hg2
    have hee : (er == er) = true := by simp
    have hee2 : (er2 == er2) = true := by simp
    have hrow := h
    go_enter Try.func3, Try.ntmps3
    go_wp2_with fail
    refine (HA.out _ _ hrow).mono ?_
    rintro e w1 ⟨t1, rfl, ho1, hb1⟩
    replace hb := (by first | exact below_trans hb hb1 | exact below_trans (hb.alloc hb.size _) hb1 | exact below_trans ((hb.alloc hb.size _).alloc (hb.alloc hb.size _).size _) hb1 : Below w.heap.size w _)
    replace hrow := hrow.below hb1
    have r1 := ho1.row
    go_wp2_with fail
    refine (HB.out _ _ hrow).mono ?_
    rintro e w2 ⟨t2, rfl, ho2, hb2⟩
    replace hb := (by first | exact below_trans hb hb2 | exact below_trans (hb.alloc hb.size _) hb2 | exact below_trans ((hb.alloc hb.size _).alloc (hb.alloc hb.size _).size _) hb2 : Below w.heap.size w _)
    replace hrow := hrow.below hb2
    replace r1 := r1.below hb2
    have r2 := ho2.row
    go_wp2_with fail
    refine (HC.out _ _ hrow).mono ?_
    rintro e w3 ⟨t3, rfl, ho3, hb3⟩
    replace hb := (by first | exact below_trans hb hb3 | exact below_trans (hb.alloc hb.size _) hb3 | exact below_trans ((hb.alloc hb.size _).alloc (hb.alloc hb.size _).size _) hb3 : Below w.heap.size w _)
    replace hrow := hrow.below hb3
    replace r1 := r1.below hb3
    replace r2 := r2.below hb3
    have r3 := ho3.row
    clear ho1 ho2 ho3 hb1 hb2 hb3
    have ho4 := Own.ilit (k := .i32) (E := 21) (w := w3) (B := w3.heap.size) [65279] [_] rfl (Nat.le_refl _) (by simp)
    go_wp2_with (first | (at_builtin; refine wpList_app slT_i32 _ _ _ rfl rfl rfl rfl ho4 (hrow.alloc _) (by rw [ints_length, ints_length]; simp only [List.length_cons, List.length_nil]; omega) (by simp) ?_; intro t5 w5 hown5 hg5) | (go_at_call 9; refine (HD.out _ _ hown5.row).mono ?_; rintro e w6 ⟨t6, rfl, ho6, hb6⟩))
    have hb5 := below_app (Below.refl w3.heap.size w3) (below_alloc _ _) ho4 hg5
    have hb56 := below_trans hb5 hb6
    replace r1 := r1.below hb56
    replace r2 := r2.below hb56
    replace r3 := r3.below hb56
    have r6 := ho6.row
    replace hb := below_trans hb hb56
    clear ho4 hown5 hg5 ho6 hb5 hb6 hb56
    refine (like1_any _ _ O O _ r1 r2 (by have := HO.out; omega) (by have := HO.out; omega)).mono ?_
    rintro e w7 ⟨rfl, hb7⟩
    replace hb := below_trans hb hb7
    rw [decide_eq_true rfl]
    replace r3 := r3.below hb7
    replace r6 := r6.below hb7
    go_wp2_with fail
    refine (like1_any _ _ O2 O2 _ r3 r6 (by have := HO2.out; omega) (by have := HO2.out; omega)).mono ?_
    rintro e w8 ⟨rfl, hb8⟩
    replace hb := (by first | exact below_trans hb hb8 | exact below_trans (hb.alloc hb.size _) hb8 | exact below_trans ((hb.alloc hb.size _).alloc (hb.alloc hb.size _).size _) hb8 : Below w.heap.size w _)
    rw [decide_eq_true rfl]
    go_wp2_with fail
    refine (alive45_any _).mono ?_
    rintro e w9 ⟨rfl, hb9⟩
    replace hb := (by first | exact below_trans hb hb9 | exact below_trans (hb.alloc hb.size _) hb9 | exact below_trans ((hb.alloc hb.size _).alloc (hb.alloc hb.size _).size _) hb9 : Below w.heap.size w _)
    go_wp2
    go_ret
    exact ⟨rfl, hb⟩
  · go_enter Try.func3, Try.ntmps3
    go_wp2_with (go_at_call 7; refine (alive45_any _).mono ?_; rintro e w7 ⟨rfl, hb7⟩)
    go_ret
    exact ⟨rfl, hb7⟩
end Go.Proofs.Ytgfdebijcpdhbaa
