/- The statement of layer 45 on back, walked: one text a case (printed by gen45d.py). -/
import Derived.Test.YtgfdebijcpdhbaaP45e
namespace Go.Proofs.Ytgfdebijcpdhbaa
open Go.RowKit
set_option maxHeartbeats 2000000
theorem sc_mark {ts : List Int} (h : allSc ts = true) : allSc (65279 :: ts) = true := by
  rw [allSc, List.all_cons]; exact Bool.and_eq_true _ _ |>.mpr ⟨by decide, h⟩
theorem sc_R32 {xs : List Int} (h : allSc xs = true) : R32 xs := fun x hx => by have := scB_iff.1 (List.all_eq_true.1 h x hx); omega
theorem grp_rng {wd : Int} (big : Bool) (n : Int) : Rg 0 256 (grp wd big n) := by
  unfold grp oct2 oct4
  repeat' split
  all_goals (intro x hx; simp at hx; omega)
theorem wideL_rng {wd : Int} (_hw : wd = 2 ∨ wd = 4) (big : Bool) (t : List Int) : Rg 0 256 (wideL wd big t) := by
  intro x hx
  obtain ⟨n, _, hn⟩ := List.mem_flatMap.1 hx
  exact grp_rng big n x hn
set_option maxRecDepth 100000 in
theorem wb2l_ns1 (v1 : Value) (ts : List Int) (v2 : Value) (xs : List Int) (w : World) (h1 : Row w v1 (ints .i32 ts)) (hg1 : R32 ts) (h2 : Row w v2 (ints .u8 xs)) (hg2 : Rg 0 256 xs) (hl1 : List.length ts ≤ 300) (hl2 : xs.length ≤ 600) (hs : allSc ts = false) (hf : readE 2 false xs = 0) :
    Calls Try.prog 6 #[.agg #[.bool true, .bool false], v1, v2] w fun e w' => e = .returned (.bool true) ∧ Below w.heap.size w w' := by
  have hA := fun v w' h' => wideLay_any 2 false v ts w' h' hg1 (by omega)
  rw [show wideE 2 ts = 7 from by rw [wideE, hs]; rfl, show wideO 2 false ts = [] from by rw [wideO, hs]; rfl] at hA
  have HA := Lib.hid hA
  clear hA
  have hT := fun v w' h' => wStrict_any 2 false v xs w' h' hg2 (by omega)
  unfold RdP at hT
  have hwr := wide_read (wd := 2) (by decide) false hg2 hf
  have hrl := readT_len 2 false xs
  rw [show strictT 2 false xs = readT 2 false xs from if_pos hf, hf] at hT
  have hL := fun v w' h' => wideLay_any 2 false v (readT 2 false xs) w' h' (sc_R32 hwr.1) (by omega)
  rw [show wideO 2 false (readT 2 false xs) = xs from by rw [wideO, hwr.1]; exact hwr.2, show wideE 2 (readT 2 false xs) = 0 from by rw [wideE, hwr.1]; rfl] at hL
  generalize readT 2 false xs = X at *
  have HT := Lib.hid hT; have HL := Lib.hid hL
  clear hT hL hwr hrl hf
  clear hs
  obtain ⟨a, b, off, cap, rfl, HC1⟩ := id h1.op
  obtain ⟨a2, b2, off2, cap2, rfl, _⟩ := id h2.op
  have hb := below_alloc w (.cells #[.bool true, .bool false] 44)
  have c0 : (w.alloc (.cells #[.bool true, .bool false] 44)).cell? ⟨w.heap.size, 0, none⟩ = some (.bool true) := by rw [cell_of_row _ _ 0 _ _ (0, 0) (heap_alloc_new w _)]; rfl
  have c1 : (w.alloc (.cells #[.bool true, .bool false] 44)).cell? ⟨w.heap.size, 1, none⟩ = some (.bool false) := by rw [cell_of_row _ _ 1 _ _ (0, 0) (heap_alloc_new w _)]; rfl
  have HB := Lib.hid hb
  clear hb
  go_enter Try.func6, Try.ntmps6
  go_wp2_with fail
  go_quiet (fail)
  go_wp2_with fail
  have hb := below_drewN HB.out nq
  generalize World.drewN (w.alloc (.cells #[.bool true, .bool false] 44)) nq = w0 at *
  have hr1 := h1.below hb
  have hr2 := h2.below hb
  clear c0 c1
  refine (HA.out _ _ hr1).mono ?_
  rintro e w1 ⟨t1, rfl, ho1, hb1⟩
  replace hb := below_trans hb hb1
  replace hr1 := hr1.below hb1
  replace hr2 := hr2.below hb1
  go_wp2_with fail
  refine (HT.out _ _ hr2).mono ?_
  rintro e w7 ⟨t7, rfl, ho7, hb7⟩
  replace hb := below_trans hb hb7
  replace hr2 := hr2.below hb7
  have r7 := ho7.row
  go_wp2_with fail
  refine (HL.out _ _ r7).mono ?_
  rintro e w8 ⟨t8, rfl, ho8, hb8⟩
  replace hb := below_trans hb hb8
  replace hr2 := hr2.below hb8
  have r8 := ho8.row
  go_wp2_with fail
  refine (like1_any _ _ xs xs _ r8 hr2 (by omega) (by omega)).mono ?_
  rintro e w9 ⟨rfl, hb9⟩
  replace hb := below_trans hb hb9
  rw [decide_eq_true rfl]
  go_wp2_with fail
  refine (alive45_any _).mono ?_
  rintro e w10 ⟨rfl, hb10⟩
  replace hb := below_trans hb hb10
  go_wp2
  go_ret
  first | exact ⟨rfl, hb⟩ | exact ⟨by simp, hb⟩
set_option maxRecDepth 100000 in
theorem wb2l_ns0 (v1 : Value) (ts : List Int) (v2 : Value) (xs : List Int) (w : World) (h1 : Row w v1 (ints .i32 ts)) (hg1 : R32 ts) (h2 : Row w v2 (ints .u8 xs)) (hg2 : Rg 0 256 xs) (hl1 : List.length ts ≤ 300) (hl2 : xs.length ≤ 600) (hs : allSc ts = false) (hf : readE 2 false xs ≠ 0) :
    Calls Try.prog 6 #[.agg #[.bool true, .bool false], v1, v2] w fun e w' => e = .returned (.bool true) ∧ Below w.heap.size w w' := by
  have hA := fun v w' h' => wideLay_any 2 false v ts w' h' hg1 (by omega)
  rw [show wideE 2 ts = 7 from by rw [wideE, hs]; rfl, show wideO 2 false ts = [] from by rw [wideO, hs]; rfl] at hA
  have HA := Lib.hid hA
  clear hA
  have hT := fun v w' h' => wStrict_any 2 false v xs w' h' hg2 (by omega)
  unfold RdP at hT
  rw [show strictT 2 false xs = [] from if_neg hf] at hT
  generalize readE 2 false xs = er at *
  have hne : (er != 0) = true := by rw [bne, beq_false_of_ne hf]; rfl
  have HT := Lib.hid hT
  clear hT hf
  clear hs
  obtain ⟨a, b, off, cap, rfl, HC1⟩ := id h1.op
  obtain ⟨a2, b2, off2, cap2, rfl, _⟩ := id h2.op
  have hb := below_alloc w (.cells #[.bool true, .bool false] 44)
  have c0 : (w.alloc (.cells #[.bool true, .bool false] 44)).cell? ⟨w.heap.size, 0, none⟩ = some (.bool true) := by rw [cell_of_row _ _ 0 _ _ (0, 0) (heap_alloc_new w _)]; rfl
  have c1 : (w.alloc (.cells #[.bool true, .bool false] 44)).cell? ⟨w.heap.size, 1, none⟩ = some (.bool false) := by rw [cell_of_row _ _ 1 _ _ (0, 0) (heap_alloc_new w _)]; rfl
  have HB := Lib.hid hb
  clear hb
  go_enter Try.func6, Try.ntmps6
  go_wp2_with fail
  go_quiet (fail)
  go_wp2_with fail
  have hb := below_drewN HB.out nq
  generalize World.drewN (w.alloc (.cells #[.bool true, .bool false] 44)) nq = w0 at *
  have hr1 := h1.below hb
  have hr2 := h2.below hb
  clear c0 c1
  refine (HA.out _ _ hr1).mono ?_
  rintro e w1 ⟨t1, rfl, ho1, hb1⟩
  replace hb := below_trans hb hb1
  replace hr1 := hr1.below hb1
  replace hr2 := hr2.below hb1
  go_wp2_with fail
  refine (HT.out _ _ hr2).mono ?_
  rintro e w7 ⟨t7, rfl, ho7, hb7⟩
  replace hb := below_trans hb hb7
  replace hr2 := hr2.below hb7
  have r7 := ho7.row
  obtain ⟨a7, b7, o7, c7, rfl, _⟩ := id r7.op
  go_wp2_with fail
  refine (alive45_any _).mono ?_
  rintro e w10 ⟨rfl, hb10⟩
  replace hb := below_trans hb hb10
  go_wp2
  go_ret
  first | exact ⟨rfl, hb⟩ | exact ⟨by simp, hb⟩
set_option maxRecDepth 100000 in
theorem wb2l_odd1 (v1 : Value) (r : List Int) (v2 : Value) (xs : List Int) (w : World) (h1 : Row w v1 (ints .i32 (0 :: r))) (hg1 : R32 (0 :: r)) (h2 : Row w v2 (ints .u8 xs)) (hg2 : Rg 0 256 xs) (hl1 : List.length (0 :: r) ≤ 300) (hl2 : xs.length ≤ 600) (hs : allSc (0 :: r) = true) (hf : readE 2 false xs = 0) :
    Calls Try.prog 6 #[.agg #[.bool true, .bool false], v1, v2] w fun e w' => e = .returned (.bool true) ∧ Below w.heap.size w w' := by
  have hA := fun v w' h' => wideLay_any 2 false v (0 :: r) w' h' hg1 (by omega)
  have hwd : (2 : Int) = 2 ∨ (2 : Int) = 4 := by decide
  have hrw := read_wide hwd false hs
  have hm2 := sc_mark hs
  have hlw := wideL_len 2 false (0 :: r)
  have hlm := wideL_len 2 false (65279 :: (0 :: r))
  have hO : wideO 2 false (0 :: r) = wideL 2 false (0 :: r) := by rw [wideO, hs]; rfl
  have hE : wideE 2 (0 :: r) = 0 := by rw [wideE, hs]; rfl
  have hO2 : wideO 2 false (65279 :: (0 :: r)) = wideL 2 false (65279 :: (0 :: r)) := by rw [wideO, hm2]; rfl
  have hE2 : wideE 2 (65279 :: (0 :: r)) = 0 := by rw [wideE, hm2]; rfl
  rw [hO, hE] at hA
  have hlt9 : (65279 :: (0 :: r)).length ≤ 301 := by simp only [List.length_cons] at *; omega
  have hrg : Rg 0 256 (wideL 2 false (0 :: r)) := wideL_rng hwd false (0 :: r)
  have hrg2 : Rg 0 256 (wideL 2 false (65279 :: (0 :: r))) := wideL_rng hwd false _
  have hS := fun v w' h' => wStrict_any 2 false v (wideL 2 false (0 :: r)) w' h' hrg (by omega)
  rw [show strictT 2 false (wideL 2 false (0 :: r)) = (0 :: r) from by rw [strictT, if_pos hrw.2, hrw.1], hrw.2] at hS
  unfold RdP at hS
  have hM := fun v w' h' => marked_any 2 false v (0 :: r) w' h' hg1 (by omega)
  rw [hO2, hE2] at hM
  generalize wideL 2 false (65279 :: (0 :: r)) = O2 at *
  generalize wideL 2 false (0 :: r) = O at *
  have HA := Lib.hid hA; have HS := Lib.hid hS; have HM := Lib.hid hM
  clear hA hS hM hrw hm2 hlw hlm hO hE hO2 hE2 hlt9 hrg hrg2 hwd
  have hT := fun v w' h' => wStrict_any 2 false v xs w' h' hg2 (by omega)
  unfold RdP at hT
  have hwr := wide_read (wd := 2) (by decide) false hg2 hf
  have hrl := readT_len 2 false xs
  rw [show strictT 2 false xs = readT 2 false xs from if_pos hf, hf] at hT
  have hL := fun v w' h' => wideLay_any 2 false v (readT 2 false xs) w' h' (sc_R32 hwr.1) (by omega)
  rw [show wideO 2 false (readT 2 false xs) = xs from by rw [wideO, hwr.1]; exact hwr.2, show wideE 2 (readT 2 false xs) = 0 from by rw [wideE, hwr.1]; rfl] at hL
  generalize readT 2 false xs = X at *
  have HT := Lib.hid hT; have HL := Lib.hid hL
  clear hT hL hwr hrl hf
  clear hs
  obtain ⟨a, b, off, cap, rfl, HC1⟩ := id h1.op
  obtain ⟨a2, b2, off2, cap2, rfl, _⟩ := id h2.op
  obtain ⟨q0, hq0, rfl, hd0⟩ := HC1.out 0 (by simp)
  have e0 := hq0.out
  obtain rfl : q0 = 0 := (Option.some.inj e0).symm
  clear hq0 e0
  have HD0 := Lib.hid hd0
  clear hd0
  have hl1c : (r.length : Int) + 1 ≤ 300 := by rw [List.length_cons] at hl1; omega
  have hb := below_alloc w (.cells #[.bool true, .bool false] 44)
  have c0 : (w.alloc (.cells #[.bool true, .bool false] 44)).cell? ⟨w.heap.size, 0, none⟩ = some (.bool true) := by rw [cell_of_row _ _ 0 _ _ (0, 0) (heap_alloc_new w _)]; rfl
  have c1 : (w.alloc (.cells #[.bool true, .bool false] 44)).cell? ⟨w.heap.size, 1, none⟩ = some (.bool false) := by rw [cell_of_row _ _ 1 _ _ (0, 0) (heap_alloc_new w _)]; rfl
  have HB := Lib.hid hb
  clear hb
  go_enter Try.func6, Try.ntmps6
  go_wp2_with fail
  go_quiet (fail)
  go_wp2_with fail
  have hb := below_drewN HB.out nq
  generalize World.drewN (w.alloc (.cells #[.bool true, .bool false] 44)) nq = w0 at *
  have hr1 := h1.below hb
  have hr2 := h2.below hb
  clear c0 c1
  refine (HA.out _ _ hr1).mono ?_
  rintro e w1 ⟨t1, rfl, ho1, hb1⟩
  replace hb := below_trans hb hb1
  replace hr1 := hr1.below hb1
  replace hr2 := hr2.below hb1
  have rO := ho1.row
  go_wp2_with fail
  refine (HS.out _ _ rO).mono ?_
  rintro e w2 ⟨t2, rfl, ho2, hb2⟩
  replace hb := below_trans hb hb2
  replace hr1 := hr1.below hb2
  replace hr2 := hr2.below hb2
  have rX := ho2.row
  go_wp2_with fail
  refine (HM.out _ _ hr1).mono ?_
  rintro e w3 ⟨t3, rfl, ho3, hb3⟩
  replace hb := below_trans hb hb3
  replace hr1 := hr1.below hb3
  replace hr2 := hr2.below hb3
  replace rX := rX.below hb3
  have rM := ho3.row
  clear ho1 ho2 ho3 rO
  have hd0 := HD0.out _ hb
  simp only [Nat.add_zero] at hd0
  go_wp2_with fail
  refine (like3_any _ _ (0 :: r) (0 :: r) _ rX hr1 (by omega) (by omega)).mono ?_
  rintro e w4 ⟨rfl, hb4⟩
  replace hb := below_trans hb hb4
  rw [decide_eq_true rfl]
  replace hr1 := hr1.below hb4
  replace hr2 := hr2.below hb4
  replace rM := rM.below hb4
  clear hd0
  go_wp2_with fail
  refine (HT.out _ _ hr2).mono ?_
  rintro e w7 ⟨t7, rfl, ho7, hb7⟩
  replace hb := below_trans hb hb7
  replace hr2 := hr2.below hb7
  have r7 := ho7.row
  go_wp2_with fail
  refine (HL.out _ _ r7).mono ?_
  rintro e w8 ⟨t8, rfl, ho8, hb8⟩
  replace hb := below_trans hb hb8
  replace hr2 := hr2.below hb8
  have r8 := ho8.row
  go_wp2_with fail
  refine (like1_any _ _ xs xs _ r8 hr2 (by omega) (by omega)).mono ?_
  rintro e w9 ⟨rfl, hb9⟩
  replace hb := below_trans hb hb9
  rw [decide_eq_true rfl]
  go_wp2_with fail
  refine (alive45_any _).mono ?_
  rintro e w10 ⟨rfl, hb10⟩
  replace hb := below_trans hb hb10
  go_wp2
  go_ret
  first | exact ⟨rfl, hb⟩ | exact ⟨by simp, hb⟩
set_option maxRecDepth 100000 in
theorem wb2l_odd0 (v1 : Value) (r : List Int) (v2 : Value) (xs : List Int) (w : World) (h1 : Row w v1 (ints .i32 (0 :: r))) (hg1 : R32 (0 :: r)) (h2 : Row w v2 (ints .u8 xs)) (hg2 : Rg 0 256 xs) (hl1 : List.length (0 :: r) ≤ 300) (hl2 : xs.length ≤ 600) (hs : allSc (0 :: r) = true) (hf : readE 2 false xs ≠ 0) :
    Calls Try.prog 6 #[.agg #[.bool true, .bool false], v1, v2] w fun e w' => e = .returned (.bool true) ∧ Below w.heap.size w w' := by
  have hA := fun v w' h' => wideLay_any 2 false v (0 :: r) w' h' hg1 (by omega)
  have hwd : (2 : Int) = 2 ∨ (2 : Int) = 4 := by decide
  have hrw := read_wide hwd false hs
  have hm2 := sc_mark hs
  have hlw := wideL_len 2 false (0 :: r)
  have hlm := wideL_len 2 false (65279 :: (0 :: r))
  have hO : wideO 2 false (0 :: r) = wideL 2 false (0 :: r) := by rw [wideO, hs]; rfl
  have hE : wideE 2 (0 :: r) = 0 := by rw [wideE, hs]; rfl
  have hO2 : wideO 2 false (65279 :: (0 :: r)) = wideL 2 false (65279 :: (0 :: r)) := by rw [wideO, hm2]; rfl
  have hE2 : wideE 2 (65279 :: (0 :: r)) = 0 := by rw [wideE, hm2]; rfl
  rw [hO, hE] at hA
  have hlt9 : (65279 :: (0 :: r)).length ≤ 301 := by simp only [List.length_cons] at *; omega
  have hrg : Rg 0 256 (wideL 2 false (0 :: r)) := wideL_rng hwd false (0 :: r)
  have hrg2 : Rg 0 256 (wideL 2 false (65279 :: (0 :: r))) := wideL_rng hwd false _
  have hS := fun v w' h' => wStrict_any 2 false v (wideL 2 false (0 :: r)) w' h' hrg (by omega)
  rw [show strictT 2 false (wideL 2 false (0 :: r)) = (0 :: r) from by rw [strictT, if_pos hrw.2, hrw.1], hrw.2] at hS
  unfold RdP at hS
  have hM := fun v w' h' => marked_any 2 false v (0 :: r) w' h' hg1 (by omega)
  rw [hO2, hE2] at hM
  generalize wideL 2 false (65279 :: (0 :: r)) = O2 at *
  generalize wideL 2 false (0 :: r) = O at *
  have HA := Lib.hid hA; have HS := Lib.hid hS; have HM := Lib.hid hM
  clear hA hS hM hrw hm2 hlw hlm hO hE hO2 hE2 hlt9 hrg hrg2 hwd
  have hT := fun v w' h' => wStrict_any 2 false v xs w' h' hg2 (by omega)
  unfold RdP at hT
  rw [show strictT 2 false xs = [] from if_neg hf] at hT
  generalize readE 2 false xs = er at *
  have hne : (er != 0) = true := by rw [bne, beq_false_of_ne hf]; rfl
  have HT := Lib.hid hT
  clear hT hf
  clear hs
  obtain ⟨a, b, off, cap, rfl, HC1⟩ := id h1.op
  obtain ⟨a2, b2, off2, cap2, rfl, _⟩ := id h2.op
  obtain ⟨q0, hq0, rfl, hd0⟩ := HC1.out 0 (by simp)
  have e0 := hq0.out
  obtain rfl : q0 = 0 := (Option.some.inj e0).symm
  clear hq0 e0
  have HD0 := Lib.hid hd0
  clear hd0
  have hl1c : (r.length : Int) + 1 ≤ 300 := by rw [List.length_cons] at hl1; omega
  have hb := below_alloc w (.cells #[.bool true, .bool false] 44)
  have c0 : (w.alloc (.cells #[.bool true, .bool false] 44)).cell? ⟨w.heap.size, 0, none⟩ = some (.bool true) := by rw [cell_of_row _ _ 0 _ _ (0, 0) (heap_alloc_new w _)]; rfl
  have c1 : (w.alloc (.cells #[.bool true, .bool false] 44)).cell? ⟨w.heap.size, 1, none⟩ = some (.bool false) := by rw [cell_of_row _ _ 1 _ _ (0, 0) (heap_alloc_new w _)]; rfl
  have HB := Lib.hid hb
  clear hb
  go_enter Try.func6, Try.ntmps6
  go_wp2_with fail
  go_quiet (fail)
  go_wp2_with fail
  have hb := below_drewN HB.out nq
  generalize World.drewN (w.alloc (.cells #[.bool true, .bool false] 44)) nq = w0 at *
  have hr1 := h1.below hb
  have hr2 := h2.below hb
  clear c0 c1
  refine (HA.out _ _ hr1).mono ?_
  rintro e w1 ⟨t1, rfl, ho1, hb1⟩
  replace hb := below_trans hb hb1
  replace hr1 := hr1.below hb1
  replace hr2 := hr2.below hb1
  have rO := ho1.row
  go_wp2_with fail
  refine (HS.out _ _ rO).mono ?_
  rintro e w2 ⟨t2, rfl, ho2, hb2⟩
  replace hb := below_trans hb hb2
  replace hr1 := hr1.below hb2
  replace hr2 := hr2.below hb2
  have rX := ho2.row
  go_wp2_with fail
  refine (HM.out _ _ hr1).mono ?_
  rintro e w3 ⟨t3, rfl, ho3, hb3⟩
  replace hb := below_trans hb hb3
  replace hr1 := hr1.below hb3
  replace hr2 := hr2.below hb3
  replace rX := rX.below hb3
  have rM := ho3.row
  clear ho1 ho2 ho3 rO
  have hd0 := HD0.out _ hb
  simp only [Nat.add_zero] at hd0
  go_wp2_with fail
  refine (like3_any _ _ (0 :: r) (0 :: r) _ rX hr1 (by omega) (by omega)).mono ?_
  rintro e w4 ⟨rfl, hb4⟩
  replace hb := below_trans hb hb4
  rw [decide_eq_true rfl]
  replace hr1 := hr1.below hb4
  replace hr2 := hr2.below hb4
  replace rM := rM.below hb4
  clear hd0
  go_wp2_with fail
  refine (HT.out _ _ hr2).mono ?_
  rintro e w7 ⟨t7, rfl, ho7, hb7⟩
  replace hb := below_trans hb hb7
  replace hr2 := hr2.below hb7
  have r7 := ho7.row
  obtain ⟨a7, b7, o7, c7, rfl, _⟩ := id r7.op
  go_wp2_with fail
  refine (alive45_any _).mono ?_
  rintro e w10 ⟨rfl, hb10⟩
  replace hb := below_trans hb hb10
  go_wp2
  go_ret
  first | exact ⟨rfl, hb⟩ | exact ⟨by simp, hb⟩
set_option maxRecDepth 100000 in
theorem wb2l_okn1 (v1 : Value)  (v2 : Value) (xs : List Int) (w : World) (h1 : Row w v1 (ints .i32 ([] : List Int))) (hg1 : R32 ([] : List Int)) (h2 : Row w v2 (ints .u8 xs)) (hg2 : Rg 0 256 xs) (hl1 : List.length ([] : List Int) ≤ 300) (hl2 : xs.length ≤ 600) (hs : allSc ([] : List Int) = true) (hf : readE 2 false xs = 0) :
    Calls Try.prog 6 #[.agg #[.bool true, .bool false], v1, v2] w fun e w' => e = .returned (.bool true) ∧ Below w.heap.size w w' := by
  have hA := fun v w' h' => wideLay_any 2 false v ([] : List Int) w' h' hg1 (by omega)
  have hwd : (2 : Int) = 2 ∨ (2 : Int) = 4 := by decide
  have hrw := read_wide hwd false hs
  have hm2 := sc_mark hs
  have hlw := wideL_len 2 false ([] : List Int)
  have hlm := wideL_len 2 false (65279 :: ([] : List Int))
  have hO : wideO 2 false ([] : List Int) = wideL 2 false ([] : List Int) := by rw [wideO, hs]; rfl
  have hE : wideE 2 ([] : List Int) = 0 := by rw [wideE, hs]; rfl
  have hO2 : wideO 2 false (65279 :: ([] : List Int)) = wideL 2 false (65279 :: ([] : List Int)) := by rw [wideO, hm2]; rfl
  have hE2 : wideE 2 (65279 :: ([] : List Int)) = 0 := by rw [wideE, hm2]; rfl
  rw [hO, hE] at hA
  have hlt9 : (65279 :: ([] : List Int)).length ≤ 301 := by simp only [List.length_cons] at *; omega
  have hrg : Rg 0 256 (wideL 2 false ([] : List Int)) := wideL_rng hwd false ([] : List Int)
  have hrg2 : Rg 0 256 (wideL 2 false (65279 :: ([] : List Int))) := wideL_rng hwd false _
  have hS := fun v w' h' => wStrict_any 2 false v (wideL 2 false ([] : List Int)) w' h' hrg (by omega)
  rw [show strictT 2 false (wideL 2 false ([] : List Int)) = ([] : List Int) from by rw [strictT, if_pos hrw.2, hrw.1], hrw.2] at hS
  unfold RdP at hS
  have hM := fun v w' h' => marked_any 2 false v ([] : List Int) w' h' hg1 (by omega)
  rw [hO2, hE2] at hM
  have hU := fun v w' h' => wAuto_any v (wideL 2 false (65279 :: ([] : List Int))) w' h' hrg2 (by omega)
  rw [auto_marked hwd false hs (fun h9 => by obtain ⟨_, _, r9, h8⟩ := h9; cases h8)] at hU
  have HU := Lib.hid hU
  clear hU
  generalize wideL 2 false (65279 :: ([] : List Int)) = O2 at *
  generalize wideL 2 false ([] : List Int) = O at *
  have HA := Lib.hid hA; have HS := Lib.hid hS; have HM := Lib.hid hM
  clear hA hS hM hrw hm2 hlw hlm hO hE hO2 hE2 hlt9 hrg hrg2 hwd
  have hT := fun v w' h' => wStrict_any 2 false v xs w' h' hg2 (by omega)
  unfold RdP at hT
  have hwr := wide_read (wd := 2) (by decide) false hg2 hf
  have hrl := readT_len 2 false xs
  rw [show strictT 2 false xs = readT 2 false xs from if_pos hf, hf] at hT
  have hL := fun v w' h' => wideLay_any 2 false v (readT 2 false xs) w' h' (sc_R32 hwr.1) (by omega)
  rw [show wideO 2 false (readT 2 false xs) = xs from by rw [wideO, hwr.1]; exact hwr.2, show wideE 2 (readT 2 false xs) = 0 from by rw [wideE, hwr.1]; rfl] at hL
  generalize readT 2 false xs = X at *
  have HT := Lib.hid hT; have HL := Lib.hid hL
  clear hT hL hwr hrl hf
  clear hs
  obtain ⟨a, b, off, cap, rfl, HC1⟩ := id h1.op
  obtain ⟨a2, b2, off2, cap2, rfl, _⟩ := id h2.op
  have hb := below_alloc w (.cells #[.bool true, .bool false] 44)
  have c0 : (w.alloc (.cells #[.bool true, .bool false] 44)).cell? ⟨w.heap.size, 0, none⟩ = some (.bool true) := by rw [cell_of_row _ _ 0 _ _ (0, 0) (heap_alloc_new w _)]; rfl
  have c1 : (w.alloc (.cells #[.bool true, .bool false] 44)).cell? ⟨w.heap.size, 1, none⟩ = some (.bool false) := by rw [cell_of_row _ _ 1 _ _ (0, 0) (heap_alloc_new w _)]; rfl
  have HB := Lib.hid hb
  clear hb
  go_enter Try.func6, Try.ntmps6
  go_wp2_with fail
  go_quiet (fail)
  go_wp2_with fail
  have hb := below_drewN HB.out nq
  generalize World.drewN (w.alloc (.cells #[.bool true, .bool false] 44)) nq = w0 at *
  have hr1 := h1.below hb
  have hr2 := h2.below hb
  clear c0 c1
  refine (HA.out _ _ hr1).mono ?_
  rintro e w1 ⟨t1, rfl, ho1, hb1⟩
  replace hb := below_trans hb hb1
  replace hr1 := hr1.below hb1
  replace hr2 := hr2.below hb1
  have rO := ho1.row
  go_wp2_with fail
  refine (HS.out _ _ rO).mono ?_
  rintro e w2 ⟨t2, rfl, ho2, hb2⟩
  replace hb := below_trans hb hb2
  replace hr1 := hr1.below hb2
  replace hr2 := hr2.below hb2
  have rX := ho2.row
  go_wp2_with fail
  refine (HM.out _ _ hr1).mono ?_
  rintro e w3 ⟨t3, rfl, ho3, hb3⟩
  replace hb := below_trans hb hb3
  replace hr1 := hr1.below hb3
  replace hr2 := hr2.below hb3
  replace rX := rX.below hb3
  have rM := ho3.row
  clear ho1 ho2 ho3 rO
  go_wp2_with fail
  refine (like3_any _ _ ([] : List Int) ([] : List Int) _ rX hr1 (by omega) (by omega)).mono ?_
  rintro e w4 ⟨rfl, hb4⟩
  replace hb := below_trans hb hb4
  rw [decide_eq_true rfl]
  replace hr1 := hr1.below hb4
  replace hr2 := hr2.below hb4
  replace rM := rM.below hb4
  go_wp2_with fail
  refine (HU.out _ _ rM).mono ?_
  rintro e w5 ⟨t5, rfl, ho5, hb5⟩
  replace hb := below_trans hb hb5
  replace hr1 := hr1.below hb5
  replace hr2 := hr2.below hb5
  have r5 := ho5.row
  go_wp2_with fail
  refine (like3_any _ _ ([] : List Int) ([] : List Int) _ r5 hr1 (by omega) (by omega)).mono ?_
  rintro e w6 ⟨rfl, hb6⟩
  replace hb := below_trans hb hb6
  rw [decide_eq_true rfl]
  replace hr2 := hr2.below hb6
  go_wp2_with fail
  refine (HT.out _ _ hr2).mono ?_
  rintro e w7 ⟨t7, rfl, ho7, hb7⟩
  replace hb := below_trans hb hb7
  replace hr2 := hr2.below hb7
  have r7 := ho7.row
  go_wp2_with fail
  refine (HL.out _ _ r7).mono ?_
  rintro e w8 ⟨t8, rfl, ho8, hb8⟩
  replace hb := below_trans hb hb8
  replace hr2 := hr2.below hb8
  have r8 := ho8.row
  go_wp2_with fail
  refine (like1_any _ _ xs xs _ r8 hr2 (by omega) (by omega)).mono ?_
  rintro e w9 ⟨rfl, hb9⟩
  replace hb := below_trans hb hb9
  rw [decide_eq_true rfl]
  go_wp2_with fail
  refine (alive45_any _).mono ?_
  rintro e w10 ⟨rfl, hb10⟩
  replace hb := below_trans hb hb10
  go_wp2
  go_ret
  first | exact ⟨rfl, hb⟩ | exact ⟨by simp, hb⟩
set_option maxRecDepth 100000 in
theorem wb2l_okn0 (v1 : Value)  (v2 : Value) (xs : List Int) (w : World) (h1 : Row w v1 (ints .i32 ([] : List Int))) (hg1 : R32 ([] : List Int)) (h2 : Row w v2 (ints .u8 xs)) (hg2 : Rg 0 256 xs) (hl1 : List.length ([] : List Int) ≤ 300) (hl2 : xs.length ≤ 600) (hs : allSc ([] : List Int) = true) (hf : readE 2 false xs ≠ 0) :
    Calls Try.prog 6 #[.agg #[.bool true, .bool false], v1, v2] w fun e w' => e = .returned (.bool true) ∧ Below w.heap.size w w' := by
  have hA := fun v w' h' => wideLay_any 2 false v ([] : List Int) w' h' hg1 (by omega)
  have hwd : (2 : Int) = 2 ∨ (2 : Int) = 4 := by decide
  have hrw := read_wide hwd false hs
  have hm2 := sc_mark hs
  have hlw := wideL_len 2 false ([] : List Int)
  have hlm := wideL_len 2 false (65279 :: ([] : List Int))
  have hO : wideO 2 false ([] : List Int) = wideL 2 false ([] : List Int) := by rw [wideO, hs]; rfl
  have hE : wideE 2 ([] : List Int) = 0 := by rw [wideE, hs]; rfl
  have hO2 : wideO 2 false (65279 :: ([] : List Int)) = wideL 2 false (65279 :: ([] : List Int)) := by rw [wideO, hm2]; rfl
  have hE2 : wideE 2 (65279 :: ([] : List Int)) = 0 := by rw [wideE, hm2]; rfl
  rw [hO, hE] at hA
  have hlt9 : (65279 :: ([] : List Int)).length ≤ 301 := by simp only [List.length_cons] at *; omega
  have hrg : Rg 0 256 (wideL 2 false ([] : List Int)) := wideL_rng hwd false ([] : List Int)
  have hrg2 : Rg 0 256 (wideL 2 false (65279 :: ([] : List Int))) := wideL_rng hwd false _
  have hS := fun v w' h' => wStrict_any 2 false v (wideL 2 false ([] : List Int)) w' h' hrg (by omega)
  rw [show strictT 2 false (wideL 2 false ([] : List Int)) = ([] : List Int) from by rw [strictT, if_pos hrw.2, hrw.1], hrw.2] at hS
  unfold RdP at hS
  have hM := fun v w' h' => marked_any 2 false v ([] : List Int) w' h' hg1 (by omega)
  rw [hO2, hE2] at hM
  have hU := fun v w' h' => wAuto_any v (wideL 2 false (65279 :: ([] : List Int))) w' h' hrg2 (by omega)
  rw [auto_marked hwd false hs (fun h9 => by obtain ⟨_, _, r9, h8⟩ := h9; cases h8)] at hU
  have HU := Lib.hid hU
  clear hU
  generalize wideL 2 false (65279 :: ([] : List Int)) = O2 at *
  generalize wideL 2 false ([] : List Int) = O at *
  have HA := Lib.hid hA; have HS := Lib.hid hS; have HM := Lib.hid hM
  clear hA hS hM hrw hm2 hlw hlm hO hE hO2 hE2 hlt9 hrg hrg2 hwd
  have hT := fun v w' h' => wStrict_any 2 false v xs w' h' hg2 (by omega)
  unfold RdP at hT
  rw [show strictT 2 false xs = [] from if_neg hf] at hT
  generalize readE 2 false xs = er at *
  have hne : (er != 0) = true := by rw [bne, beq_false_of_ne hf]; rfl
  have HT := Lib.hid hT
  clear hT hf
  clear hs
  obtain ⟨a, b, off, cap, rfl, HC1⟩ := id h1.op
  obtain ⟨a2, b2, off2, cap2, rfl, _⟩ := id h2.op
  have hb := below_alloc w (.cells #[.bool true, .bool false] 44)
  have c0 : (w.alloc (.cells #[.bool true, .bool false] 44)).cell? ⟨w.heap.size, 0, none⟩ = some (.bool true) := by rw [cell_of_row _ _ 0 _ _ (0, 0) (heap_alloc_new w _)]; rfl
  have c1 : (w.alloc (.cells #[.bool true, .bool false] 44)).cell? ⟨w.heap.size, 1, none⟩ = some (.bool false) := by rw [cell_of_row _ _ 1 _ _ (0, 0) (heap_alloc_new w _)]; rfl
  have HB := Lib.hid hb
  clear hb
  go_enter Try.func6, Try.ntmps6
  go_wp2_with fail
  go_quiet (fail)
  go_wp2_with fail
  have hb := below_drewN HB.out nq
  generalize World.drewN (w.alloc (.cells #[.bool true, .bool false] 44)) nq = w0 at *
  have hr1 := h1.below hb
  have hr2 := h2.below hb
  clear c0 c1
  refine (HA.out _ _ hr1).mono ?_
  rintro e w1 ⟨t1, rfl, ho1, hb1⟩
  replace hb := below_trans hb hb1
  replace hr1 := hr1.below hb1
  replace hr2 := hr2.below hb1
  have rO := ho1.row
  go_wp2_with fail
  refine (HS.out _ _ rO).mono ?_
  rintro e w2 ⟨t2, rfl, ho2, hb2⟩
  replace hb := below_trans hb hb2
  replace hr1 := hr1.below hb2
  replace hr2 := hr2.below hb2
  have rX := ho2.row
  go_wp2_with fail
  refine (HM.out _ _ hr1).mono ?_
  rintro e w3 ⟨t3, rfl, ho3, hb3⟩
  replace hb := below_trans hb hb3
  replace hr1 := hr1.below hb3
  replace hr2 := hr2.below hb3
  replace rX := rX.below hb3
  have rM := ho3.row
  clear ho1 ho2 ho3 rO
  go_wp2_with fail
  refine (like3_any _ _ ([] : List Int) ([] : List Int) _ rX hr1 (by omega) (by omega)).mono ?_
  rintro e w4 ⟨rfl, hb4⟩
  replace hb := below_trans hb hb4
  rw [decide_eq_true rfl]
  replace hr1 := hr1.below hb4
  replace hr2 := hr2.below hb4
  replace rM := rM.below hb4
  go_wp2_with fail
  refine (HU.out _ _ rM).mono ?_
  rintro e w5 ⟨t5, rfl, ho5, hb5⟩
  replace hb := below_trans hb hb5
  replace hr1 := hr1.below hb5
  replace hr2 := hr2.below hb5
  have r5 := ho5.row
  go_wp2_with fail
  refine (like3_any _ _ ([] : List Int) ([] : List Int) _ r5 hr1 (by omega) (by omega)).mono ?_
  rintro e w6 ⟨rfl, hb6⟩
  replace hb := below_trans hb hb6
  rw [decide_eq_true rfl]
  replace hr2 := hr2.below hb6
  go_wp2_with fail
  refine (HT.out _ _ hr2).mono ?_
  rintro e w7 ⟨t7, rfl, ho7, hb7⟩
  replace hb := below_trans hb hb7
  replace hr2 := hr2.below hb7
  have r7 := ho7.row
  obtain ⟨a7, b7, o7, c7, rfl, _⟩ := id r7.op
  go_wp2_with fail
  refine (alive45_any _).mono ?_
  rintro e w10 ⟨rfl, hb10⟩
  replace hb := below_trans hb hb10
  go_wp2
  go_ret
  first | exact ⟨rfl, hb⟩ | exact ⟨by simp, hb⟩
set_option maxRecDepth 100000 in
theorem wb2l_okc1 (v1 : Value) (c : Int) (r : List Int) (v2 : Value) (xs : List Int) (w : World) (h1 : Row w v1 (ints .i32 (c :: r))) (hg1 : R32 (c :: r)) (h2 : Row w v2 (ints .u8 xs)) (hg2 : Rg 0 256 xs) (hl1 : List.length (c :: r) ≤ 300) (hl2 : xs.length ≤ 600) (hs : allSc (c :: r) = true) (hc0 : c ≠ 0) (hf : readE 2 false xs = 0) :
    Calls Try.prog 6 #[.agg #[.bool true, .bool false], v1, v2] w fun e w' => e = .returned (.bool true) ∧ Below w.heap.size w w' := by
  have hA := fun v w' h' => wideLay_any 2 false v (c :: r) w' h' hg1 (by omega)
  have hwd : (2 : Int) = 2 ∨ (2 : Int) = 4 := by decide
  have hrw := read_wide hwd false hs
  have hm2 := sc_mark hs
  have hlw := wideL_len 2 false (c :: r)
  have hlm := wideL_len 2 false (65279 :: (c :: r))
  have hO : wideO 2 false (c :: r) = wideL 2 false (c :: r) := by rw [wideO, hs]; rfl
  have hE : wideE 2 (c :: r) = 0 := by rw [wideE, hs]; rfl
  have hO2 : wideO 2 false (65279 :: (c :: r)) = wideL 2 false (65279 :: (c :: r)) := by rw [wideO, hm2]; rfl
  have hE2 : wideE 2 (65279 :: (c :: r)) = 0 := by rw [wideE, hm2]; rfl
  rw [hO, hE] at hA
  have hlt9 : (65279 :: (c :: r)).length ≤ 301 := by simp only [List.length_cons] at *; omega
  have hrg : Rg 0 256 (wideL 2 false (c :: r)) := wideL_rng hwd false (c :: r)
  have hrg2 : Rg 0 256 (wideL 2 false (65279 :: (c :: r))) := wideL_rng hwd false _
  have hS := fun v w' h' => wStrict_any 2 false v (wideL 2 false (c :: r)) w' h' hrg (by omega)
  rw [show strictT 2 false (wideL 2 false (c :: r)) = (c :: r) from by rw [strictT, if_pos hrw.2, hrw.1], hrw.2] at hS
  unfold RdP at hS
  have hM := fun v w' h' => marked_any 2 false v (c :: r) w' h' hg1 (by omega)
  rw [hO2, hE2] at hM
  have hU := fun v w' h' => wAuto_any v (wideL 2 false (65279 :: (c :: r))) w' h' hrg2 (by omega)
  rw [auto_marked hwd false hs (fun h9 => by obtain ⟨_, _, r9, h8⟩ := h9; exact hc0 (List.cons.inj h8).1)] at hU
  have HU := Lib.hid hU
  clear hU
  generalize wideL 2 false (65279 :: (c :: r)) = O2 at *
  generalize wideL 2 false (c :: r) = O at *
  have HA := Lib.hid hA; have HS := Lib.hid hS; have HM := Lib.hid hM
  clear hA hS hM hrw hm2 hlw hlm hO hE hO2 hE2 hlt9 hrg hrg2 hwd
  have hT := fun v w' h' => wStrict_any 2 false v xs w' h' hg2 (by omega)
  unfold RdP at hT
  have hwr := wide_read (wd := 2) (by decide) false hg2 hf
  have hrl := readT_len 2 false xs
  rw [show strictT 2 false xs = readT 2 false xs from if_pos hf, hf] at hT
  have hL := fun v w' h' => wideLay_any 2 false v (readT 2 false xs) w' h' (sc_R32 hwr.1) (by omega)
  rw [show wideO 2 false (readT 2 false xs) = xs from by rw [wideO, hwr.1]; exact hwr.2, show wideE 2 (readT 2 false xs) = 0 from by rw [wideE, hwr.1]; rfl] at hL
  generalize readT 2 false xs = X at *
  have HT := Lib.hid hT; have HL := Lib.hid hL
  clear hT hL hwr hrl hf
  clear hs
  obtain ⟨a, b, off, cap, rfl, HC1⟩ := id h1.op
  obtain ⟨a2, b2, off2, cap2, rfl, _⟩ := id h2.op
  obtain ⟨q0, hq0, rfl, hd0⟩ := HC1.out 0 (by simp)
  have e0 := hq0.out
  obtain rfl : c = q0 := Option.some.inj e0
  clear hq0 e0
  have HD0 := Lib.hid hd0
  clear hd0
  have hl1c : (r.length : Int) + 1 ≤ 300 := by rw [List.length_cons] at hl1; omega
  have hcc : (c == 0) = false := beq_false_of_ne hc0
  clear hc0
  have hb := below_alloc w (.cells #[.bool true, .bool false] 44)
  have c0 : (w.alloc (.cells #[.bool true, .bool false] 44)).cell? ⟨w.heap.size, 0, none⟩ = some (.bool true) := by rw [cell_of_row _ _ 0 _ _ (0, 0) (heap_alloc_new w _)]; rfl
  have c1 : (w.alloc (.cells #[.bool true, .bool false] 44)).cell? ⟨w.heap.size, 1, none⟩ = some (.bool false) := by rw [cell_of_row _ _ 1 _ _ (0, 0) (heap_alloc_new w _)]; rfl
  have HB := Lib.hid hb
  clear hb
  go_enter Try.func6, Try.ntmps6
  go_wp2_with fail
  go_quiet (fail)
  go_wp2_with fail
  have hb := below_drewN HB.out nq
  generalize World.drewN (w.alloc (.cells #[.bool true, .bool false] 44)) nq = w0 at *
  have hr1 := h1.below hb
  have hr2 := h2.below hb
  clear c0 c1
  refine (HA.out _ _ hr1).mono ?_
  rintro e w1 ⟨t1, rfl, ho1, hb1⟩
  replace hb := below_trans hb hb1
  replace hr1 := hr1.below hb1
  replace hr2 := hr2.below hb1
  have rO := ho1.row
  go_wp2_with fail
  refine (HS.out _ _ rO).mono ?_
  rintro e w2 ⟨t2, rfl, ho2, hb2⟩
  replace hb := below_trans hb hb2
  replace hr1 := hr1.below hb2
  replace hr2 := hr2.below hb2
  have rX := ho2.row
  go_wp2_with fail
  refine (HM.out _ _ hr1).mono ?_
  rintro e w3 ⟨t3, rfl, ho3, hb3⟩
  replace hb := below_trans hb hb3
  replace hr1 := hr1.below hb3
  replace hr2 := hr2.below hb3
  replace rX := rX.below hb3
  have rM := ho3.row
  clear ho1 ho2 ho3 rO
  have hd0 := HD0.out _ hb
  simp only [Nat.add_zero] at hd0
  go_wp2_with fail
  refine (like3_any _ _ (c :: r) (c :: r) _ rX hr1 (by omega) (by omega)).mono ?_
  rintro e w4 ⟨rfl, hb4⟩
  replace hb := below_trans hb hb4
  rw [decide_eq_true rfl]
  replace hr1 := hr1.below hb4
  replace hr2 := hr2.below hb4
  replace rM := rM.below hb4
  clear hd0
  go_wp2_with fail
  refine (HU.out _ _ rM).mono ?_
  rintro e w5 ⟨t5, rfl, ho5, hb5⟩
  replace hb := below_trans hb hb5
  replace hr1 := hr1.below hb5
  replace hr2 := hr2.below hb5
  have r5 := ho5.row
  go_wp2_with fail
  refine (like3_any _ _ (c :: r) (c :: r) _ r5 hr1 (by omega) (by omega)).mono ?_
  rintro e w6 ⟨rfl, hb6⟩
  replace hb := below_trans hb hb6
  rw [decide_eq_true rfl]
  replace hr2 := hr2.below hb6
  go_wp2_with fail
  refine (HT.out _ _ hr2).mono ?_
  rintro e w7 ⟨t7, rfl, ho7, hb7⟩
  replace hb := below_trans hb hb7
  replace hr2 := hr2.below hb7
  have r7 := ho7.row
  go_wp2_with fail
  refine (HL.out _ _ r7).mono ?_
  rintro e w8 ⟨t8, rfl, ho8, hb8⟩
  replace hb := below_trans hb hb8
  replace hr2 := hr2.below hb8
  have r8 := ho8.row
  go_wp2_with fail
  refine (like1_any _ _ xs xs _ r8 hr2 (by omega) (by omega)).mono ?_
  rintro e w9 ⟨rfl, hb9⟩
  replace hb := below_trans hb hb9
  rw [decide_eq_true rfl]
  go_wp2_with fail
  refine (alive45_any _).mono ?_
  rintro e w10 ⟨rfl, hb10⟩
  replace hb := below_trans hb hb10
  go_wp2
  go_ret
  first | exact ⟨rfl, hb⟩ | exact ⟨by simp, hb⟩
set_option maxRecDepth 100000 in
theorem wb2l_okc0 (v1 : Value) (c : Int) (r : List Int) (v2 : Value) (xs : List Int) (w : World) (h1 : Row w v1 (ints .i32 (c :: r))) (hg1 : R32 (c :: r)) (h2 : Row w v2 (ints .u8 xs)) (hg2 : Rg 0 256 xs) (hl1 : List.length (c :: r) ≤ 300) (hl2 : xs.length ≤ 600) (hs : allSc (c :: r) = true) (hc0 : c ≠ 0) (hf : readE 2 false xs ≠ 0) :
    Calls Try.prog 6 #[.agg #[.bool true, .bool false], v1, v2] w fun e w' => e = .returned (.bool true) ∧ Below w.heap.size w w' := by
  have hA := fun v w' h' => wideLay_any 2 false v (c :: r) w' h' hg1 (by omega)
  have hwd : (2 : Int) = 2 ∨ (2 : Int) = 4 := by decide
  have hrw := read_wide hwd false hs
  have hm2 := sc_mark hs
  have hlw := wideL_len 2 false (c :: r)
  have hlm := wideL_len 2 false (65279 :: (c :: r))
  have hO : wideO 2 false (c :: r) = wideL 2 false (c :: r) := by rw [wideO, hs]; rfl
  have hE : wideE 2 (c :: r) = 0 := by rw [wideE, hs]; rfl
  have hO2 : wideO 2 false (65279 :: (c :: r)) = wideL 2 false (65279 :: (c :: r)) := by rw [wideO, hm2]; rfl
  have hE2 : wideE 2 (65279 :: (c :: r)) = 0 := by rw [wideE, hm2]; rfl
  rw [hO, hE] at hA
  have hlt9 : (65279 :: (c :: r)).length ≤ 301 := by simp only [List.length_cons] at *; omega
  have hrg : Rg 0 256 (wideL 2 false (c :: r)) := wideL_rng hwd false (c :: r)
  have hrg2 : Rg 0 256 (wideL 2 false (65279 :: (c :: r))) := wideL_rng hwd false _
  have hS := fun v w' h' => wStrict_any 2 false v (wideL 2 false (c :: r)) w' h' hrg (by omega)
  rw [show strictT 2 false (wideL 2 false (c :: r)) = (c :: r) from by rw [strictT, if_pos hrw.2, hrw.1], hrw.2] at hS
  unfold RdP at hS
  have hM := fun v w' h' => marked_any 2 false v (c :: r) w' h' hg1 (by omega)
  rw [hO2, hE2] at hM
  have hU := fun v w' h' => wAuto_any v (wideL 2 false (65279 :: (c :: r))) w' h' hrg2 (by omega)
  rw [auto_marked hwd false hs (fun h9 => by obtain ⟨_, _, r9, h8⟩ := h9; exact hc0 (List.cons.inj h8).1)] at hU
  have HU := Lib.hid hU
  clear hU
  generalize wideL 2 false (65279 :: (c :: r)) = O2 at *
  generalize wideL 2 false (c :: r) = O at *
  have HA := Lib.hid hA; have HS := Lib.hid hS; have HM := Lib.hid hM
  clear hA hS hM hrw hm2 hlw hlm hO hE hO2 hE2 hlt9 hrg hrg2 hwd
  have hT := fun v w' h' => wStrict_any 2 false v xs w' h' hg2 (by omega)
  unfold RdP at hT
  rw [show strictT 2 false xs = [] from if_neg hf] at hT
  generalize readE 2 false xs = er at *
  have hne : (er != 0) = true := by rw [bne, beq_false_of_ne hf]; rfl
  have HT := Lib.hid hT
  clear hT hf
  clear hs
  obtain ⟨a, b, off, cap, rfl, HC1⟩ := id h1.op
  obtain ⟨a2, b2, off2, cap2, rfl, _⟩ := id h2.op
  obtain ⟨q0, hq0, rfl, hd0⟩ := HC1.out 0 (by simp)
  have e0 := hq0.out
  obtain rfl : c = q0 := Option.some.inj e0
  clear hq0 e0
  have HD0 := Lib.hid hd0
  clear hd0
  have hl1c : (r.length : Int) + 1 ≤ 300 := by rw [List.length_cons] at hl1; omega
  have hcc : (c == 0) = false := beq_false_of_ne hc0
  clear hc0
  have hb := below_alloc w (.cells #[.bool true, .bool false] 44)
  have c0 : (w.alloc (.cells #[.bool true, .bool false] 44)).cell? ⟨w.heap.size, 0, none⟩ = some (.bool true) := by rw [cell_of_row _ _ 0 _ _ (0, 0) (heap_alloc_new w _)]; rfl
  have c1 : (w.alloc (.cells #[.bool true, .bool false] 44)).cell? ⟨w.heap.size, 1, none⟩ = some (.bool false) := by rw [cell_of_row _ _ 1 _ _ (0, 0) (heap_alloc_new w _)]; rfl
  have HB := Lib.hid hb
  clear hb
  go_enter Try.func6, Try.ntmps6
  go_wp2_with fail
  go_quiet (fail)
  go_wp2_with fail
  have hb := below_drewN HB.out nq
  generalize World.drewN (w.alloc (.cells #[.bool true, .bool false] 44)) nq = w0 at *
  have hr1 := h1.below hb
  have hr2 := h2.below hb
  clear c0 c1
  refine (HA.out _ _ hr1).mono ?_
  rintro e w1 ⟨t1, rfl, ho1, hb1⟩
  replace hb := below_trans hb hb1
  replace hr1 := hr1.below hb1
  replace hr2 := hr2.below hb1
  have rO := ho1.row
  go_wp2_with fail
  refine (HS.out _ _ rO).mono ?_
  rintro e w2 ⟨t2, rfl, ho2, hb2⟩
  replace hb := below_trans hb hb2
  replace hr1 := hr1.below hb2
  replace hr2 := hr2.below hb2
  have rX := ho2.row
  go_wp2_with fail
  refine (HM.out _ _ hr1).mono ?_
  rintro e w3 ⟨t3, rfl, ho3, hb3⟩
  replace hb := below_trans hb hb3
  replace hr1 := hr1.below hb3
  replace hr2 := hr2.below hb3
  replace rX := rX.below hb3
  have rM := ho3.row
  clear ho1 ho2 ho3 rO
  have hd0 := HD0.out _ hb
  simp only [Nat.add_zero] at hd0
  go_wp2_with fail
  refine (like3_any _ _ (c :: r) (c :: r) _ rX hr1 (by omega) (by omega)).mono ?_
  rintro e w4 ⟨rfl, hb4⟩
  replace hb := below_trans hb hb4
  rw [decide_eq_true rfl]
  replace hr1 := hr1.below hb4
  replace hr2 := hr2.below hb4
  replace rM := rM.below hb4
  clear hd0
  go_wp2_with fail
  refine (HU.out _ _ rM).mono ?_
  rintro e w5 ⟨t5, rfl, ho5, hb5⟩
  replace hb := below_trans hb hb5
  replace hr1 := hr1.below hb5
  replace hr2 := hr2.below hb5
  have r5 := ho5.row
  go_wp2_with fail
  refine (like3_any _ _ (c :: r) (c :: r) _ r5 hr1 (by omega) (by omega)).mono ?_
  rintro e w6 ⟨rfl, hb6⟩
  replace hb := below_trans hb hb6
  rw [decide_eq_true rfl]
  replace hr2 := hr2.below hb6
  go_wp2_with fail
  refine (HT.out _ _ hr2).mono ?_
  rintro e w7 ⟨t7, rfl, ho7, hb7⟩
  replace hb := below_trans hb hb7
  replace hr2 := hr2.below hb7
  have r7 := ho7.row
  obtain ⟨a7, b7, o7, c7, rfl, _⟩ := id r7.op
  go_wp2_with fail
  refine (alive45_any _).mono ?_
  rintro e w10 ⟨rfl, hb10⟩
  replace hb := below_trans hb hb10
  go_wp2
  go_ret
  first | exact ⟨rfl, hb⟩ | exact ⟨by simp, hb⟩
set_option maxRecDepth 100000 in
theorem wb2b_ns1 (v1 : Value) (ts : List Int) (v2 : Value) (xs : List Int) (w : World) (h1 : Row w v1 (ints .i32 ts)) (hg1 : R32 ts) (h2 : Row w v2 (ints .u8 xs)) (hg2 : Rg 0 256 xs) (hl1 : List.length ts ≤ 300) (hl2 : xs.length ≤ 600) (hs : allSc ts = false) (hf : readE 2 true xs = 0) :
    Calls Try.prog 6 #[.agg #[.bool true, .bool true], v1, v2] w fun e w' => e = .returned (.bool true) ∧ Below w.heap.size w w' := by
  have hA := fun v w' h' => wideLay_any 2 true v ts w' h' hg1 (by omega)
  rw [show wideE 2 ts = 7 from by rw [wideE, hs]; rfl, show wideO 2 true ts = [] from by rw [wideO, hs]; rfl] at hA
  have HA := Lib.hid hA
  clear hA
  have hT := fun v w' h' => wStrict_any 2 true v xs w' h' hg2 (by omega)
  unfold RdP at hT
  have hwr := wide_read (wd := 2) (by decide) true hg2 hf
  have hrl := readT_len 2 true xs
  rw [show strictT 2 true xs = readT 2 true xs from if_pos hf, hf] at hT
  have hL := fun v w' h' => wideLay_any 2 true v (readT 2 true xs) w' h' (sc_R32 hwr.1) (by omega)
  rw [show wideO 2 true (readT 2 true xs) = xs from by rw [wideO, hwr.1]; exact hwr.2, show wideE 2 (readT 2 true xs) = 0 from by rw [wideE, hwr.1]; rfl] at hL
  generalize readT 2 true xs = X at *
  have HT := Lib.hid hT; have HL := Lib.hid hL
  clear hT hL hwr hrl hf
  clear hs
  obtain ⟨a, b, off, cap, rfl, HC1⟩ := id h1.op
  obtain ⟨a2, b2, off2, cap2, rfl, _⟩ := id h2.op
  have hb := below_alloc w (.cells #[.bool true, .bool true] 44)
  have c0 : (w.alloc (.cells #[.bool true, .bool true] 44)).cell? ⟨w.heap.size, 0, none⟩ = some (.bool true) := by rw [cell_of_row _ _ 0 _ _ (0, 0) (heap_alloc_new w _)]; rfl
  have c1 : (w.alloc (.cells #[.bool true, .bool true] 44)).cell? ⟨w.heap.size, 1, none⟩ = some (.bool true) := by rw [cell_of_row _ _ 1 _ _ (0, 0) (heap_alloc_new w _)]; rfl
  have HB := Lib.hid hb
  clear hb
  go_enter Try.func6, Try.ntmps6
  go_wp2_with fail
  go_quiet (fail)
  go_wp2_with fail
  have hb := below_drewN HB.out nq
  generalize World.drewN (w.alloc (.cells #[.bool true, .bool true] 44)) nq = w0 at *
  have hr1 := h1.below hb
  have hr2 := h2.below hb
  clear c0 c1
  refine (HA.out _ _ hr1).mono ?_
  rintro e w1 ⟨t1, rfl, ho1, hb1⟩
  replace hb := below_trans hb hb1
  replace hr1 := hr1.below hb1
  replace hr2 := hr2.below hb1
  go_wp2_with fail
  refine (HT.out _ _ hr2).mono ?_
  rintro e w7 ⟨t7, rfl, ho7, hb7⟩
  replace hb := below_trans hb hb7
  replace hr2 := hr2.below hb7
  have r7 := ho7.row
  go_wp2_with fail
  refine (HL.out _ _ r7).mono ?_
  rintro e w8 ⟨t8, rfl, ho8, hb8⟩
  replace hb := below_trans hb hb8
  replace hr2 := hr2.below hb8
  have r8 := ho8.row
  go_wp2_with fail
  refine (like1_any _ _ xs xs _ r8 hr2 (by omega) (by omega)).mono ?_
  rintro e w9 ⟨rfl, hb9⟩
  replace hb := below_trans hb hb9
  rw [decide_eq_true rfl]
  go_wp2_with fail
  refine (alive45_any _).mono ?_
  rintro e w10 ⟨rfl, hb10⟩
  replace hb := below_trans hb hb10
  go_wp2
  go_ret
  first | exact ⟨rfl, hb⟩ | exact ⟨by simp, hb⟩
set_option maxRecDepth 100000 in
theorem wb2b_ns0 (v1 : Value) (ts : List Int) (v2 : Value) (xs : List Int) (w : World) (h1 : Row w v1 (ints .i32 ts)) (hg1 : R32 ts) (h2 : Row w v2 (ints .u8 xs)) (hg2 : Rg 0 256 xs) (hl1 : List.length ts ≤ 300) (hl2 : xs.length ≤ 600) (hs : allSc ts = false) (hf : readE 2 true xs ≠ 0) :
    Calls Try.prog 6 #[.agg #[.bool true, .bool true], v1, v2] w fun e w' => e = .returned (.bool true) ∧ Below w.heap.size w w' := by
  have hA := fun v w' h' => wideLay_any 2 true v ts w' h' hg1 (by omega)
  rw [show wideE 2 ts = 7 from by rw [wideE, hs]; rfl, show wideO 2 true ts = [] from by rw [wideO, hs]; rfl] at hA
  have HA := Lib.hid hA
  clear hA
  have hT := fun v w' h' => wStrict_any 2 true v xs w' h' hg2 (by omega)
  unfold RdP at hT
  rw [show strictT 2 true xs = [] from if_neg hf] at hT
  generalize readE 2 true xs = er at *
  have hne : (er != 0) = true := by rw [bne, beq_false_of_ne hf]; rfl
  have HT := Lib.hid hT
  clear hT hf
  clear hs
  obtain ⟨a, b, off, cap, rfl, HC1⟩ := id h1.op
  obtain ⟨a2, b2, off2, cap2, rfl, _⟩ := id h2.op
  have hb := below_alloc w (.cells #[.bool true, .bool true] 44)
  have c0 : (w.alloc (.cells #[.bool true, .bool true] 44)).cell? ⟨w.heap.size, 0, none⟩ = some (.bool true) := by rw [cell_of_row _ _ 0 _ _ (0, 0) (heap_alloc_new w _)]; rfl
  have c1 : (w.alloc (.cells #[.bool true, .bool true] 44)).cell? ⟨w.heap.size, 1, none⟩ = some (.bool true) := by rw [cell_of_row _ _ 1 _ _ (0, 0) (heap_alloc_new w _)]; rfl
  have HB := Lib.hid hb
  clear hb
  go_enter Try.func6, Try.ntmps6
  go_wp2_with fail
  go_quiet (fail)
  go_wp2_with fail
  have hb := below_drewN HB.out nq
  generalize World.drewN (w.alloc (.cells #[.bool true, .bool true] 44)) nq = w0 at *
  have hr1 := h1.below hb
  have hr2 := h2.below hb
  clear c0 c1
  refine (HA.out _ _ hr1).mono ?_
  rintro e w1 ⟨t1, rfl, ho1, hb1⟩
  replace hb := below_trans hb hb1
  replace hr1 := hr1.below hb1
  replace hr2 := hr2.below hb1
  go_wp2_with fail
  refine (HT.out _ _ hr2).mono ?_
  rintro e w7 ⟨t7, rfl, ho7, hb7⟩
  replace hb := below_trans hb hb7
  replace hr2 := hr2.below hb7
  have r7 := ho7.row
  obtain ⟨a7, b7, o7, c7, rfl, _⟩ := id r7.op
  go_wp2_with fail
  refine (alive45_any _).mono ?_
  rintro e w10 ⟨rfl, hb10⟩
  replace hb := below_trans hb hb10
  go_wp2
  go_ret
  first | exact ⟨rfl, hb⟩ | exact ⟨by simp, hb⟩
set_option maxRecDepth 100000 in
theorem wb2b_ok1 (v1 : Value) (ts : List Int) (v2 : Value) (xs : List Int) (w : World) (h1 : Row w v1 (ints .i32 ts)) (hg1 : R32 ts) (h2 : Row w v2 (ints .u8 xs)) (hg2 : Rg 0 256 xs) (hl1 : List.length ts ≤ 300) (hl2 : xs.length ≤ 600) (hs : allSc ts = true) (hod : ¬ ((2 : Int) = 2 ∧ true = false ∧ ∃ r, ts = 0 :: r)) (hf : readE 2 true xs = 0) :
    Calls Try.prog 6 #[.agg #[.bool true, .bool true], v1, v2] w fun e w' => e = .returned (.bool true) ∧ Below w.heap.size w w' := by
  have hA := fun v w' h' => wideLay_any 2 true v ts w' h' hg1 (by omega)
  have hwd : (2 : Int) = 2 ∨ (2 : Int) = 4 := by decide
  have hrw := read_wide hwd true hs
  have hm2 := sc_mark hs
  have hlw := wideL_len 2 true ts
  have hlm := wideL_len 2 true (65279 :: ts)
  have hO : wideO 2 true ts = wideL 2 true ts := by rw [wideO, hs]; rfl
  have hE : wideE 2 ts = 0 := by rw [wideE, hs]; rfl
  have hO2 : wideO 2 true (65279 :: ts) = wideL 2 true (65279 :: ts) := by rw [wideO, hm2]; rfl
  have hE2 : wideE 2 (65279 :: ts) = 0 := by rw [wideE, hm2]; rfl
  rw [hO, hE] at hA
  have hlt9 : (65279 :: ts).length ≤ 301 := by simp only [List.length_cons] at *; omega
  have hrg : Rg 0 256 (wideL 2 true ts) := wideL_rng hwd true ts
  have hrg2 : Rg 0 256 (wideL 2 true (65279 :: ts)) := wideL_rng hwd true _
  have hS := fun v w' h' => wStrict_any 2 true v (wideL 2 true ts) w' h' hrg (by omega)
  rw [show strictT 2 true (wideL 2 true ts) = ts from by rw [strictT, if_pos hrw.2, hrw.1], hrw.2] at hS
  unfold RdP at hS
  have hM := fun v w' h' => marked_any 2 true v ts w' h' hg1 (by omega)
  rw [hO2, hE2] at hM
  have hU := fun v w' h' => wAuto_any v (wideL 2 true (65279 :: ts)) w' h' hrg2 (by omega)
  rw [auto_marked hwd true hs hod] at hU
  have HU := Lib.hid hU
  clear hU
  generalize wideL 2 true (65279 :: ts) = O2 at *
  generalize wideL 2 true ts = O at *
  have HA := Lib.hid hA; have HS := Lib.hid hS; have HM := Lib.hid hM
  clear hA hS hM hrw hm2 hlw hlm hO hE hO2 hE2 hlt9 hrg hrg2 hwd
  have hT := fun v w' h' => wStrict_any 2 true v xs w' h' hg2 (by omega)
  unfold RdP at hT
  have hwr := wide_read (wd := 2) (by decide) true hg2 hf
  have hrl := readT_len 2 true xs
  rw [show strictT 2 true xs = readT 2 true xs from if_pos hf, hf] at hT
  have hL := fun v w' h' => wideLay_any 2 true v (readT 2 true xs) w' h' (sc_R32 hwr.1) (by omega)
  rw [show wideO 2 true (readT 2 true xs) = xs from by rw [wideO, hwr.1]; exact hwr.2, show wideE 2 (readT 2 true xs) = 0 from by rw [wideE, hwr.1]; rfl] at hL
  generalize readT 2 true xs = X at *
  have HT := Lib.hid hT; have HL := Lib.hid hL
  clear hT hL hwr hrl hf
  clear hs
  obtain ⟨a, b, off, cap, rfl, HC1⟩ := id h1.op
  obtain ⟨a2, b2, off2, cap2, rfl, _⟩ := id h2.op
  have hb := below_alloc w (.cells #[.bool true, .bool true] 44)
  have c0 : (w.alloc (.cells #[.bool true, .bool true] 44)).cell? ⟨w.heap.size, 0, none⟩ = some (.bool true) := by rw [cell_of_row _ _ 0 _ _ (0, 0) (heap_alloc_new w _)]; rfl
  have c1 : (w.alloc (.cells #[.bool true, .bool true] 44)).cell? ⟨w.heap.size, 1, none⟩ = some (.bool true) := by rw [cell_of_row _ _ 1 _ _ (0, 0) (heap_alloc_new w _)]; rfl
  have HB := Lib.hid hb
  clear hb
  go_enter Try.func6, Try.ntmps6
  go_wp2_with fail
  go_quiet (fail)
  go_wp2_with fail
  have hb := below_drewN HB.out nq
  generalize World.drewN (w.alloc (.cells #[.bool true, .bool true] 44)) nq = w0 at *
  have hr1 := h1.below hb
  have hr2 := h2.below hb
  clear c0 c1
  refine (HA.out _ _ hr1).mono ?_
  rintro e w1 ⟨t1, rfl, ho1, hb1⟩
  replace hb := below_trans hb hb1
  replace hr1 := hr1.below hb1
  replace hr2 := hr2.below hb1
  have rO := ho1.row
  go_wp2_with fail
  refine (HS.out _ _ rO).mono ?_
  rintro e w2 ⟨t2, rfl, ho2, hb2⟩
  replace hb := below_trans hb hb2
  replace hr1 := hr1.below hb2
  replace hr2 := hr2.below hb2
  have rX := ho2.row
  go_wp2_with fail
  refine (HM.out _ _ hr1).mono ?_
  rintro e w3 ⟨t3, rfl, ho3, hb3⟩
  replace hb := below_trans hb hb3
  replace hr1 := hr1.below hb3
  replace hr2 := hr2.below hb3
  replace rX := rX.below hb3
  have rM := ho3.row
  clear ho1 ho2 ho3 rO
  go_wp2_with fail
  refine (like3_any _ _ ts ts _ rX hr1 (by omega) (by omega)).mono ?_
  rintro e w4 ⟨rfl, hb4⟩
  replace hb := below_trans hb hb4
  rw [decide_eq_true rfl]
  replace hr1 := hr1.below hb4
  replace hr2 := hr2.below hb4
  replace rM := rM.below hb4
  go_wp2_with fail
  refine (HU.out _ _ rM).mono ?_
  rintro e w5 ⟨t5, rfl, ho5, hb5⟩
  replace hb := below_trans hb hb5
  replace hr1 := hr1.below hb5
  replace hr2 := hr2.below hb5
  have r5 := ho5.row
  go_wp2_with fail
  refine (like3_any _ _ ts ts _ r5 hr1 (by omega) (by omega)).mono ?_
  rintro e w6 ⟨rfl, hb6⟩
  replace hb := below_trans hb hb6
  rw [decide_eq_true rfl]
  replace hr2 := hr2.below hb6
  go_wp2_with fail
  refine (HT.out _ _ hr2).mono ?_
  rintro e w7 ⟨t7, rfl, ho7, hb7⟩
  replace hb := below_trans hb hb7
  replace hr2 := hr2.below hb7
  have r7 := ho7.row
  go_wp2_with fail
  refine (HL.out _ _ r7).mono ?_
  rintro e w8 ⟨t8, rfl, ho8, hb8⟩
  replace hb := below_trans hb hb8
  replace hr2 := hr2.below hb8
  have r8 := ho8.row
  go_wp2_with fail
  refine (like1_any _ _ xs xs _ r8 hr2 (by omega) (by omega)).mono ?_
  rintro e w9 ⟨rfl, hb9⟩
  replace hb := below_trans hb hb9
  rw [decide_eq_true rfl]
  go_wp2_with fail
  refine (alive45_any _).mono ?_
  rintro e w10 ⟨rfl, hb10⟩
  replace hb := below_trans hb hb10
  go_wp2
  go_ret
  first | exact ⟨rfl, hb⟩ | exact ⟨by simp, hb⟩
set_option maxRecDepth 100000 in
theorem wb2b_ok0 (v1 : Value) (ts : List Int) (v2 : Value) (xs : List Int) (w : World) (h1 : Row w v1 (ints .i32 ts)) (hg1 : R32 ts) (h2 : Row w v2 (ints .u8 xs)) (hg2 : Rg 0 256 xs) (hl1 : List.length ts ≤ 300) (hl2 : xs.length ≤ 600) (hs : allSc ts = true) (hod : ¬ ((2 : Int) = 2 ∧ true = false ∧ ∃ r, ts = 0 :: r)) (hf : readE 2 true xs ≠ 0) :
    Calls Try.prog 6 #[.agg #[.bool true, .bool true], v1, v2] w fun e w' => e = .returned (.bool true) ∧ Below w.heap.size w w' := by
  have hA := fun v w' h' => wideLay_any 2 true v ts w' h' hg1 (by omega)
  have hwd : (2 : Int) = 2 ∨ (2 : Int) = 4 := by decide
  have hrw := read_wide hwd true hs
  have hm2 := sc_mark hs
  have hlw := wideL_len 2 true ts
  have hlm := wideL_len 2 true (65279 :: ts)
  have hO : wideO 2 true ts = wideL 2 true ts := by rw [wideO, hs]; rfl
  have hE : wideE 2 ts = 0 := by rw [wideE, hs]; rfl
  have hO2 : wideO 2 true (65279 :: ts) = wideL 2 true (65279 :: ts) := by rw [wideO, hm2]; rfl
  have hE2 : wideE 2 (65279 :: ts) = 0 := by rw [wideE, hm2]; rfl
  rw [hO, hE] at hA
  have hlt9 : (65279 :: ts).length ≤ 301 := by simp only [List.length_cons] at *; omega
  have hrg : Rg 0 256 (wideL 2 true ts) := wideL_rng hwd true ts
  have hrg2 : Rg 0 256 (wideL 2 true (65279 :: ts)) := wideL_rng hwd true _
  have hS := fun v w' h' => wStrict_any 2 true v (wideL 2 true ts) w' h' hrg (by omega)
  rw [show strictT 2 true (wideL 2 true ts) = ts from by rw [strictT, if_pos hrw.2, hrw.1], hrw.2] at hS
  unfold RdP at hS
  have hM := fun v w' h' => marked_any 2 true v ts w' h' hg1 (by omega)
  rw [hO2, hE2] at hM
  have hU := fun v w' h' => wAuto_any v (wideL 2 true (65279 :: ts)) w' h' hrg2 (by omega)
  rw [auto_marked hwd true hs hod] at hU
  have HU := Lib.hid hU
  clear hU
  generalize wideL 2 true (65279 :: ts) = O2 at *
  generalize wideL 2 true ts = O at *
  have HA := Lib.hid hA; have HS := Lib.hid hS; have HM := Lib.hid hM
  clear hA hS hM hrw hm2 hlw hlm hO hE hO2 hE2 hlt9 hrg hrg2 hwd
  have hT := fun v w' h' => wStrict_any 2 true v xs w' h' hg2 (by omega)
  unfold RdP at hT
  rw [show strictT 2 true xs = [] from if_neg hf] at hT
  generalize readE 2 true xs = er at *
  have hne : (er != 0) = true := by rw [bne, beq_false_of_ne hf]; rfl
  have HT := Lib.hid hT
  clear hT hf
  clear hs
  obtain ⟨a, b, off, cap, rfl, HC1⟩ := id h1.op
  obtain ⟨a2, b2, off2, cap2, rfl, _⟩ := id h2.op
  have hb := below_alloc w (.cells #[.bool true, .bool true] 44)
  have c0 : (w.alloc (.cells #[.bool true, .bool true] 44)).cell? ⟨w.heap.size, 0, none⟩ = some (.bool true) := by rw [cell_of_row _ _ 0 _ _ (0, 0) (heap_alloc_new w _)]; rfl
  have c1 : (w.alloc (.cells #[.bool true, .bool true] 44)).cell? ⟨w.heap.size, 1, none⟩ = some (.bool true) := by rw [cell_of_row _ _ 1 _ _ (0, 0) (heap_alloc_new w _)]; rfl
  have HB := Lib.hid hb
  clear hb
  go_enter Try.func6, Try.ntmps6
  go_wp2_with fail
  go_quiet (fail)
  go_wp2_with fail
  have hb := below_drewN HB.out nq
  generalize World.drewN (w.alloc (.cells #[.bool true, .bool true] 44)) nq = w0 at *
  have hr1 := h1.below hb
  have hr2 := h2.below hb
  clear c0 c1
  refine (HA.out _ _ hr1).mono ?_
  rintro e w1 ⟨t1, rfl, ho1, hb1⟩
  replace hb := below_trans hb hb1
  replace hr1 := hr1.below hb1
  replace hr2 := hr2.below hb1
  have rO := ho1.row
  go_wp2_with fail
  refine (HS.out _ _ rO).mono ?_
  rintro e w2 ⟨t2, rfl, ho2, hb2⟩
  replace hb := below_trans hb hb2
  replace hr1 := hr1.below hb2
  replace hr2 := hr2.below hb2
  have rX := ho2.row
  go_wp2_with fail
  refine (HM.out _ _ hr1).mono ?_
  rintro e w3 ⟨t3, rfl, ho3, hb3⟩
  replace hb := below_trans hb hb3
  replace hr1 := hr1.below hb3
  replace hr2 := hr2.below hb3
  replace rX := rX.below hb3
  have rM := ho3.row
  clear ho1 ho2 ho3 rO
  go_wp2_with fail
  refine (like3_any _ _ ts ts _ rX hr1 (by omega) (by omega)).mono ?_
  rintro e w4 ⟨rfl, hb4⟩
  replace hb := below_trans hb hb4
  rw [decide_eq_true rfl]
  replace hr1 := hr1.below hb4
  replace hr2 := hr2.below hb4
  replace rM := rM.below hb4
  go_wp2_with fail
  refine (HU.out _ _ rM).mono ?_
  rintro e w5 ⟨t5, rfl, ho5, hb5⟩
  replace hb := below_trans hb hb5
  replace hr1 := hr1.below hb5
  replace hr2 := hr2.below hb5
  have r5 := ho5.row
  go_wp2_with fail
  refine (like3_any _ _ ts ts _ r5 hr1 (by omega) (by omega)).mono ?_
  rintro e w6 ⟨rfl, hb6⟩
  replace hb := below_trans hb hb6
  rw [decide_eq_true rfl]
  replace hr2 := hr2.below hb6
  go_wp2_with fail
  refine (HT.out _ _ hr2).mono ?_
  rintro e w7 ⟨t7, rfl, ho7, hb7⟩
  replace hb := below_trans hb hb7
  replace hr2 := hr2.below hb7
  have r7 := ho7.row
  obtain ⟨a7, b7, o7, c7, rfl, _⟩ := id r7.op
  go_wp2_with fail
  refine (alive45_any _).mono ?_
  rintro e w10 ⟨rfl, hb10⟩
  replace hb := below_trans hb hb10
  go_wp2
  go_ret
  first | exact ⟨rfl, hb⟩ | exact ⟨by simp, hb⟩
set_option maxRecDepth 100000 in
theorem wb4l_ns1 (v1 : Value) (ts : List Int) (v2 : Value) (xs : List Int) (w : World) (h1 : Row w v1 (ints .i32 ts)) (hg1 : R32 ts) (h2 : Row w v2 (ints .u8 xs)) (hg2 : Rg 0 256 xs) (hl1 : List.length ts ≤ 300) (hl2 : xs.length ≤ 600) (hs : allSc ts = false) (hf : readE 4 false xs = 0) :
    Calls Try.prog 6 #[.agg #[.bool false, .bool false], v1, v2] w fun e w' => e = .returned (.bool true) ∧ Below w.heap.size w w' := by
  have hA := fun v w' h' => wideLay_any 4 false v ts w' h' hg1 (by omega)
  rw [show wideE 4 ts = 7 from by rw [wideE, hs]; rfl, show wideO 4 false ts = [] from by rw [wideO, hs]; rfl] at hA
  have HA := Lib.hid hA
  clear hA
  have hT := fun v w' h' => wStrict_any 4 false v xs w' h' hg2 (by omega)
  unfold RdP at hT
  have hwr := wide_read (wd := 4) (by decide) false hg2 hf
  have hrl := readT_len 4 false xs
  rw [show strictT 4 false xs = readT 4 false xs from if_pos hf, hf] at hT
  have hL := fun v w' h' => wideLay_any 4 false v (readT 4 false xs) w' h' (sc_R32 hwr.1) (by omega)
  rw [show wideO 4 false (readT 4 false xs) = xs from by rw [wideO, hwr.1]; exact hwr.2, show wideE 4 (readT 4 false xs) = 0 from by rw [wideE, hwr.1]; rfl] at hL
  generalize readT 4 false xs = X at *
  have HT := Lib.hid hT; have HL := Lib.hid hL
  clear hT hL hwr hrl hf
  clear hs
  obtain ⟨a, b, off, cap, rfl, HC1⟩ := id h1.op
  obtain ⟨a2, b2, off2, cap2, rfl, _⟩ := id h2.op
  have hb := below_alloc w (.cells #[.bool false, .bool false] 44)
  have c0 : (w.alloc (.cells #[.bool false, .bool false] 44)).cell? ⟨w.heap.size, 0, none⟩ = some (.bool false) := by rw [cell_of_row _ _ 0 _ _ (0, 0) (heap_alloc_new w _)]; rfl
  have c1 : (w.alloc (.cells #[.bool false, .bool false] 44)).cell? ⟨w.heap.size, 1, none⟩ = some (.bool false) := by rw [cell_of_row _ _ 1 _ _ (0, 0) (heap_alloc_new w _)]; rfl
  have HB := Lib.hid hb
  clear hb
  go_enter Try.func6, Try.ntmps6
  go_wp2_with fail
  go_quiet (fail)
  go_wp2_with fail
  have hb := below_drewN HB.out nq
  generalize World.drewN (w.alloc (.cells #[.bool false, .bool false] 44)) nq = w0 at *
  have hr1 := h1.below hb
  have hr2 := h2.below hb
  clear c0 c1
  refine (HA.out _ _ hr1).mono ?_
  rintro e w1 ⟨t1, rfl, ho1, hb1⟩
  replace hb := below_trans hb hb1
  replace hr1 := hr1.below hb1
  replace hr2 := hr2.below hb1
  go_wp2_with fail
  refine (HT.out _ _ hr2).mono ?_
  rintro e w7 ⟨t7, rfl, ho7, hb7⟩
  replace hb := below_trans hb hb7
  replace hr2 := hr2.below hb7
  have r7 := ho7.row
  go_wp2_with fail
  refine (HL.out _ _ r7).mono ?_
  rintro e w8 ⟨t8, rfl, ho8, hb8⟩
  replace hb := below_trans hb hb8
  replace hr2 := hr2.below hb8
  have r8 := ho8.row
  go_wp2_with fail
  refine (like1_any _ _ xs xs _ r8 hr2 (by omega) (by omega)).mono ?_
  rintro e w9 ⟨rfl, hb9⟩
  replace hb := below_trans hb hb9
  rw [decide_eq_true rfl]
  go_wp2_with fail
  refine (alive45_any _).mono ?_
  rintro e w10 ⟨rfl, hb10⟩
  replace hb := below_trans hb hb10
  go_wp2
  go_ret
  first | exact ⟨rfl, hb⟩ | exact ⟨by simp, hb⟩
set_option maxRecDepth 100000 in
theorem wb4l_ns0 (v1 : Value) (ts : List Int) (v2 : Value) (xs : List Int) (w : World) (h1 : Row w v1 (ints .i32 ts)) (hg1 : R32 ts) (h2 : Row w v2 (ints .u8 xs)) (hg2 : Rg 0 256 xs) (hl1 : List.length ts ≤ 300) (hl2 : xs.length ≤ 600) (hs : allSc ts = false) (hf : readE 4 false xs ≠ 0) :
    Calls Try.prog 6 #[.agg #[.bool false, .bool false], v1, v2] w fun e w' => e = .returned (.bool true) ∧ Below w.heap.size w w' := by
  have hA := fun v w' h' => wideLay_any 4 false v ts w' h' hg1 (by omega)
  rw [show wideE 4 ts = 7 from by rw [wideE, hs]; rfl, show wideO 4 false ts = [] from by rw [wideO, hs]; rfl] at hA
  have HA := Lib.hid hA
  clear hA
  have hT := fun v w' h' => wStrict_any 4 false v xs w' h' hg2 (by omega)
  unfold RdP at hT
  rw [show strictT 4 false xs = [] from if_neg hf] at hT
  generalize readE 4 false xs = er at *
  have hne : (er != 0) = true := by rw [bne, beq_false_of_ne hf]; rfl
  have HT := Lib.hid hT
  clear hT hf
  clear hs
  obtain ⟨a, b, off, cap, rfl, HC1⟩ := id h1.op
  obtain ⟨a2, b2, off2, cap2, rfl, _⟩ := id h2.op
  have hb := below_alloc w (.cells #[.bool false, .bool false] 44)
  have c0 : (w.alloc (.cells #[.bool false, .bool false] 44)).cell? ⟨w.heap.size, 0, none⟩ = some (.bool false) := by rw [cell_of_row _ _ 0 _ _ (0, 0) (heap_alloc_new w _)]; rfl
  have c1 : (w.alloc (.cells #[.bool false, .bool false] 44)).cell? ⟨w.heap.size, 1, none⟩ = some (.bool false) := by rw [cell_of_row _ _ 1 _ _ (0, 0) (heap_alloc_new w _)]; rfl
  have HB := Lib.hid hb
  clear hb
  go_enter Try.func6, Try.ntmps6
  go_wp2_with fail
  go_quiet (fail)
  go_wp2_with fail
  have hb := below_drewN HB.out nq
  generalize World.drewN (w.alloc (.cells #[.bool false, .bool false] 44)) nq = w0 at *
  have hr1 := h1.below hb
  have hr2 := h2.below hb
  clear c0 c1
  refine (HA.out _ _ hr1).mono ?_
  rintro e w1 ⟨t1, rfl, ho1, hb1⟩
  replace hb := below_trans hb hb1
  replace hr1 := hr1.below hb1
  replace hr2 := hr2.below hb1
  go_wp2_with fail
  refine (HT.out _ _ hr2).mono ?_
  rintro e w7 ⟨t7, rfl, ho7, hb7⟩
  replace hb := below_trans hb hb7
  replace hr2 := hr2.below hb7
  have r7 := ho7.row
  obtain ⟨a7, b7, o7, c7, rfl, _⟩ := id r7.op
  go_wp2_with fail
  refine (alive45_any _).mono ?_
  rintro e w10 ⟨rfl, hb10⟩
  replace hb := below_trans hb hb10
  go_wp2
  go_ret
  first | exact ⟨rfl, hb⟩ | exact ⟨by simp, hb⟩
set_option maxRecDepth 100000 in
theorem wb4l_ok1 (v1 : Value) (ts : List Int) (v2 : Value) (xs : List Int) (w : World) (h1 : Row w v1 (ints .i32 ts)) (hg1 : R32 ts) (h2 : Row w v2 (ints .u8 xs)) (hg2 : Rg 0 256 xs) (hl1 : List.length ts ≤ 300) (hl2 : xs.length ≤ 600) (hs : allSc ts = true) (hod : ¬ ((4 : Int) = 2 ∧ false = false ∧ ∃ r, ts = 0 :: r)) (hf : readE 4 false xs = 0) :
    Calls Try.prog 6 #[.agg #[.bool false, .bool false], v1, v2] w fun e w' => e = .returned (.bool true) ∧ Below w.heap.size w w' := by
  have hA := fun v w' h' => wideLay_any 4 false v ts w' h' hg1 (by omega)
  have hwd : (4 : Int) = 2 ∨ (4 : Int) = 4 := by decide
  have hrw := read_wide hwd false hs
  have hm2 := sc_mark hs
  have hlw := wideL_len 4 false ts
  have hlm := wideL_len 4 false (65279 :: ts)
  have hO : wideO 4 false ts = wideL 4 false ts := by rw [wideO, hs]; rfl
  have hE : wideE 4 ts = 0 := by rw [wideE, hs]; rfl
  have hO2 : wideO 4 false (65279 :: ts) = wideL 4 false (65279 :: ts) := by rw [wideO, hm2]; rfl
  have hE2 : wideE 4 (65279 :: ts) = 0 := by rw [wideE, hm2]; rfl
  rw [hO, hE] at hA
  have hlt9 : (65279 :: ts).length ≤ 301 := by simp only [List.length_cons] at *; omega
  have hrg : Rg 0 256 (wideL 4 false ts) := wideL_rng hwd false ts
  have hrg2 : Rg 0 256 (wideL 4 false (65279 :: ts)) := wideL_rng hwd false _
  have hS := fun v w' h' => wStrict_any 4 false v (wideL 4 false ts) w' h' hrg (by omega)
  rw [show strictT 4 false (wideL 4 false ts) = ts from by rw [strictT, if_pos hrw.2, hrw.1], hrw.2] at hS
  unfold RdP at hS
  have hM := fun v w' h' => marked_any 4 false v ts w' h' hg1 (by omega)
  rw [hO2, hE2] at hM
  have hU := fun v w' h' => wAuto_any v (wideL 4 false (65279 :: ts)) w' h' hrg2 (by omega)
  rw [auto_marked hwd false hs hod] at hU
  have HU := Lib.hid hU
  clear hU
  generalize wideL 4 false (65279 :: ts) = O2 at *
  generalize wideL 4 false ts = O at *
  have HA := Lib.hid hA; have HS := Lib.hid hS; have HM := Lib.hid hM
  clear hA hS hM hrw hm2 hlw hlm hO hE hO2 hE2 hlt9 hrg hrg2 hwd
  have hT := fun v w' h' => wStrict_any 4 false v xs w' h' hg2 (by omega)
  unfold RdP at hT
  have hwr := wide_read (wd := 4) (by decide) false hg2 hf
  have hrl := readT_len 4 false xs
  rw [show strictT 4 false xs = readT 4 false xs from if_pos hf, hf] at hT
  have hL := fun v w' h' => wideLay_any 4 false v (readT 4 false xs) w' h' (sc_R32 hwr.1) (by omega)
  rw [show wideO 4 false (readT 4 false xs) = xs from by rw [wideO, hwr.1]; exact hwr.2, show wideE 4 (readT 4 false xs) = 0 from by rw [wideE, hwr.1]; rfl] at hL
  generalize readT 4 false xs = X at *
  have HT := Lib.hid hT; have HL := Lib.hid hL
  clear hT hL hwr hrl hf
  clear hs
  obtain ⟨a, b, off, cap, rfl, HC1⟩ := id h1.op
  obtain ⟨a2, b2, off2, cap2, rfl, _⟩ := id h2.op
  have hb := below_alloc w (.cells #[.bool false, .bool false] 44)
  have c0 : (w.alloc (.cells #[.bool false, .bool false] 44)).cell? ⟨w.heap.size, 0, none⟩ = some (.bool false) := by rw [cell_of_row _ _ 0 _ _ (0, 0) (heap_alloc_new w _)]; rfl
  have c1 : (w.alloc (.cells #[.bool false, .bool false] 44)).cell? ⟨w.heap.size, 1, none⟩ = some (.bool false) := by rw [cell_of_row _ _ 1 _ _ (0, 0) (heap_alloc_new w _)]; rfl
  have HB := Lib.hid hb
  clear hb
  go_enter Try.func6, Try.ntmps6
  go_wp2_with fail
  go_quiet (fail)
  go_wp2_with fail
  have hb := below_drewN HB.out nq
  generalize World.drewN (w.alloc (.cells #[.bool false, .bool false] 44)) nq = w0 at *
  have hr1 := h1.below hb
  have hr2 := h2.below hb
  clear c0 c1
  refine (HA.out _ _ hr1).mono ?_
  rintro e w1 ⟨t1, rfl, ho1, hb1⟩
  replace hb := below_trans hb hb1
  replace hr1 := hr1.below hb1
  replace hr2 := hr2.below hb1
  have rO := ho1.row
  go_wp2_with fail
  refine (HS.out _ _ rO).mono ?_
  rintro e w2 ⟨t2, rfl, ho2, hb2⟩
  replace hb := below_trans hb hb2
  replace hr1 := hr1.below hb2
  replace hr2 := hr2.below hb2
  have rX := ho2.row
  go_wp2_with fail
  refine (HM.out _ _ hr1).mono ?_
  rintro e w3 ⟨t3, rfl, ho3, hb3⟩
  replace hb := below_trans hb hb3
  replace hr1 := hr1.below hb3
  replace hr2 := hr2.below hb3
  replace rX := rX.below hb3
  have rM := ho3.row
  clear ho1 ho2 ho3 rO
  go_wp2_with fail
  refine (like3_any _ _ ts ts _ rX hr1 (by omega) (by omega)).mono ?_
  rintro e w4 ⟨rfl, hb4⟩
  replace hb := below_trans hb hb4
  rw [decide_eq_true rfl]
  replace hr1 := hr1.below hb4
  replace hr2 := hr2.below hb4
  replace rM := rM.below hb4
  go_wp2_with fail
  refine (HU.out _ _ rM).mono ?_
  rintro e w5 ⟨t5, rfl, ho5, hb5⟩
  replace hb := below_trans hb hb5
  replace hr1 := hr1.below hb5
  replace hr2 := hr2.below hb5
  have r5 := ho5.row
  go_wp2_with fail
  refine (like3_any _ _ ts ts _ r5 hr1 (by omega) (by omega)).mono ?_
  rintro e w6 ⟨rfl, hb6⟩
  replace hb := below_trans hb hb6
  rw [decide_eq_true rfl]
  replace hr2 := hr2.below hb6
  go_wp2_with fail
  refine (HT.out _ _ hr2).mono ?_
  rintro e w7 ⟨t7, rfl, ho7, hb7⟩
  replace hb := below_trans hb hb7
  replace hr2 := hr2.below hb7
  have r7 := ho7.row
  go_wp2_with fail
  refine (HL.out _ _ r7).mono ?_
  rintro e w8 ⟨t8, rfl, ho8, hb8⟩
  replace hb := below_trans hb hb8
  replace hr2 := hr2.below hb8
  have r8 := ho8.row
  go_wp2_with fail
  refine (like1_any _ _ xs xs _ r8 hr2 (by omega) (by omega)).mono ?_
  rintro e w9 ⟨rfl, hb9⟩
  replace hb := below_trans hb hb9
  rw [decide_eq_true rfl]
  go_wp2_with fail
  refine (alive45_any _).mono ?_
  rintro e w10 ⟨rfl, hb10⟩
  replace hb := below_trans hb hb10
  go_wp2
  go_ret
  first | exact ⟨rfl, hb⟩ | exact ⟨by simp, hb⟩
set_option maxRecDepth 100000 in
theorem wb4l_ok0 (v1 : Value) (ts : List Int) (v2 : Value) (xs : List Int) (w : World) (h1 : Row w v1 (ints .i32 ts)) (hg1 : R32 ts) (h2 : Row w v2 (ints .u8 xs)) (hg2 : Rg 0 256 xs) (hl1 : List.length ts ≤ 300) (hl2 : xs.length ≤ 600) (hs : allSc ts = true) (hod : ¬ ((4 : Int) = 2 ∧ false = false ∧ ∃ r, ts = 0 :: r)) (hf : readE 4 false xs ≠ 0) :
    Calls Try.prog 6 #[.agg #[.bool false, .bool false], v1, v2] w fun e w' => e = .returned (.bool true) ∧ Below w.heap.size w w' := by
  have hA := fun v w' h' => wideLay_any 4 false v ts w' h' hg1 (by omega)
  have hwd : (4 : Int) = 2 ∨ (4 : Int) = 4 := by decide
  have hrw := read_wide hwd false hs
  have hm2 := sc_mark hs
  have hlw := wideL_len 4 false ts
  have hlm := wideL_len 4 false (65279 :: ts)
  have hO : wideO 4 false ts = wideL 4 false ts := by rw [wideO, hs]; rfl
  have hE : wideE 4 ts = 0 := by rw [wideE, hs]; rfl
  have hO2 : wideO 4 false (65279 :: ts) = wideL 4 false (65279 :: ts) := by rw [wideO, hm2]; rfl
  have hE2 : wideE 4 (65279 :: ts) = 0 := by rw [wideE, hm2]; rfl
  rw [hO, hE] at hA
  have hlt9 : (65279 :: ts).length ≤ 301 := by simp only [List.length_cons] at *; omega
  have hrg : Rg 0 256 (wideL 4 false ts) := wideL_rng hwd false ts
  have hrg2 : Rg 0 256 (wideL 4 false (65279 :: ts)) := wideL_rng hwd false _
  have hS := fun v w' h' => wStrict_any 4 false v (wideL 4 false ts) w' h' hrg (by omega)
  rw [show strictT 4 false (wideL 4 false ts) = ts from by rw [strictT, if_pos hrw.2, hrw.1], hrw.2] at hS
  unfold RdP at hS
  have hM := fun v w' h' => marked_any 4 false v ts w' h' hg1 (by omega)
  rw [hO2, hE2] at hM
  have hU := fun v w' h' => wAuto_any v (wideL 4 false (65279 :: ts)) w' h' hrg2 (by omega)
  rw [auto_marked hwd false hs hod] at hU
  have HU := Lib.hid hU
  clear hU
  generalize wideL 4 false (65279 :: ts) = O2 at *
  generalize wideL 4 false ts = O at *
  have HA := Lib.hid hA; have HS := Lib.hid hS; have HM := Lib.hid hM
  clear hA hS hM hrw hm2 hlw hlm hO hE hO2 hE2 hlt9 hrg hrg2 hwd
  have hT := fun v w' h' => wStrict_any 4 false v xs w' h' hg2 (by omega)
  unfold RdP at hT
  rw [show strictT 4 false xs = [] from if_neg hf] at hT
  generalize readE 4 false xs = er at *
  have hne : (er != 0) = true := by rw [bne, beq_false_of_ne hf]; rfl
  have HT := Lib.hid hT
  clear hT hf
  clear hs
  obtain ⟨a, b, off, cap, rfl, HC1⟩ := id h1.op
  obtain ⟨a2, b2, off2, cap2, rfl, _⟩ := id h2.op
  have hb := below_alloc w (.cells #[.bool false, .bool false] 44)
  have c0 : (w.alloc (.cells #[.bool false, .bool false] 44)).cell? ⟨w.heap.size, 0, none⟩ = some (.bool false) := by rw [cell_of_row _ _ 0 _ _ (0, 0) (heap_alloc_new w _)]; rfl
  have c1 : (w.alloc (.cells #[.bool false, .bool false] 44)).cell? ⟨w.heap.size, 1, none⟩ = some (.bool false) := by rw [cell_of_row _ _ 1 _ _ (0, 0) (heap_alloc_new w _)]; rfl
  have HB := Lib.hid hb
  clear hb
  go_enter Try.func6, Try.ntmps6
  go_wp2_with fail
  go_quiet (fail)
  go_wp2_with fail
  have hb := below_drewN HB.out nq
  generalize World.drewN (w.alloc (.cells #[.bool false, .bool false] 44)) nq = w0 at *
  have hr1 := h1.below hb
  have hr2 := h2.below hb
  clear c0 c1
  refine (HA.out _ _ hr1).mono ?_
  rintro e w1 ⟨t1, rfl, ho1, hb1⟩
  replace hb := below_trans hb hb1
  replace hr1 := hr1.below hb1
  replace hr2 := hr2.below hb1
  have rO := ho1.row
  go_wp2_with fail
  refine (HS.out _ _ rO).mono ?_
  rintro e w2 ⟨t2, rfl, ho2, hb2⟩
  replace hb := below_trans hb hb2
  replace hr1 := hr1.below hb2
  replace hr2 := hr2.below hb2
  have rX := ho2.row
  go_wp2_with fail
  refine (HM.out _ _ hr1).mono ?_
  rintro e w3 ⟨t3, rfl, ho3, hb3⟩
  replace hb := below_trans hb hb3
  replace hr1 := hr1.below hb3
  replace hr2 := hr2.below hb3
  replace rX := rX.below hb3
  have rM := ho3.row
  clear ho1 ho2 ho3 rO
  go_wp2_with fail
  refine (like3_any _ _ ts ts _ rX hr1 (by omega) (by omega)).mono ?_
  rintro e w4 ⟨rfl, hb4⟩
  replace hb := below_trans hb hb4
  rw [decide_eq_true rfl]
  replace hr1 := hr1.below hb4
  replace hr2 := hr2.below hb4
  replace rM := rM.below hb4
  go_wp2_with fail
  refine (HU.out _ _ rM).mono ?_
  rintro e w5 ⟨t5, rfl, ho5, hb5⟩
  replace hb := below_trans hb hb5
  replace hr1 := hr1.below hb5
  replace hr2 := hr2.below hb5
  have r5 := ho5.row
  go_wp2_with fail
  refine (like3_any _ _ ts ts _ r5 hr1 (by omega) (by omega)).mono ?_
  rintro e w6 ⟨rfl, hb6⟩
  replace hb := below_trans hb hb6
  rw [decide_eq_true rfl]
  replace hr2 := hr2.below hb6
  go_wp2_with fail
  refine (HT.out _ _ hr2).mono ?_
  rintro e w7 ⟨t7, rfl, ho7, hb7⟩
  replace hb := below_trans hb hb7
  replace hr2 := hr2.below hb7
  have r7 := ho7.row
  obtain ⟨a7, b7, o7, c7, rfl, _⟩ := id r7.op
  go_wp2_with fail
  refine (alive45_any _).mono ?_
  rintro e w10 ⟨rfl, hb10⟩
  replace hb := below_trans hb hb10
  go_wp2
  go_ret
  first | exact ⟨rfl, hb⟩ | exact ⟨by simp, hb⟩
set_option maxRecDepth 100000 in
theorem wb4b_ns1 (v1 : Value) (ts : List Int) (v2 : Value) (xs : List Int) (w : World) (h1 : Row w v1 (ints .i32 ts)) (hg1 : R32 ts) (h2 : Row w v2 (ints .u8 xs)) (hg2 : Rg 0 256 xs) (hl1 : List.length ts ≤ 300) (hl2 : xs.length ≤ 600) (hs : allSc ts = false) (hf : readE 4 true xs = 0) :
    Calls Try.prog 6 #[.agg #[.bool false, .bool true], v1, v2] w fun e w' => e = .returned (.bool true) ∧ Below w.heap.size w w' := by
  have hA := fun v w' h' => wideLay_any 4 true v ts w' h' hg1 (by omega)
  rw [show wideE 4 ts = 7 from by rw [wideE, hs]; rfl, show wideO 4 true ts = [] from by rw [wideO, hs]; rfl] at hA
  have HA := Lib.hid hA
  clear hA
  have hT := fun v w' h' => wStrict_any 4 true v xs w' h' hg2 (by omega)
  unfold RdP at hT
  have hwr := wide_read (wd := 4) (by decide) true hg2 hf
  have hrl := readT_len 4 true xs
  rw [show strictT 4 true xs = readT 4 true xs from if_pos hf, hf] at hT
  have hL := fun v w' h' => wideLay_any 4 true v (readT 4 true xs) w' h' (sc_R32 hwr.1) (by omega)
  rw [show wideO 4 true (readT 4 true xs) = xs from by rw [wideO, hwr.1]; exact hwr.2, show wideE 4 (readT 4 true xs) = 0 from by rw [wideE, hwr.1]; rfl] at hL
  generalize readT 4 true xs = X at *
  have HT := Lib.hid hT; have HL := Lib.hid hL
  clear hT hL hwr hrl hf
  clear hs
  obtain ⟨a, b, off, cap, rfl, HC1⟩ := id h1.op
  obtain ⟨a2, b2, off2, cap2, rfl, _⟩ := id h2.op
  have hb := below_alloc w (.cells #[.bool false, .bool true] 44)
  have c0 : (w.alloc (.cells #[.bool false, .bool true] 44)).cell? ⟨w.heap.size, 0, none⟩ = some (.bool false) := by rw [cell_of_row _ _ 0 _ _ (0, 0) (heap_alloc_new w _)]; rfl
  have c1 : (w.alloc (.cells #[.bool false, .bool true] 44)).cell? ⟨w.heap.size, 1, none⟩ = some (.bool true) := by rw [cell_of_row _ _ 1 _ _ (0, 0) (heap_alloc_new w _)]; rfl
  have HB := Lib.hid hb
  clear hb
  go_enter Try.func6, Try.ntmps6
  go_wp2_with fail
  go_quiet (fail)
  go_wp2_with fail
  have hb := below_drewN HB.out nq
  generalize World.drewN (w.alloc (.cells #[.bool false, .bool true] 44)) nq = w0 at *
  have hr1 := h1.below hb
  have hr2 := h2.below hb
  clear c0 c1
  refine (HA.out _ _ hr1).mono ?_
  rintro e w1 ⟨t1, rfl, ho1, hb1⟩
  replace hb := below_trans hb hb1
  replace hr1 := hr1.below hb1
  replace hr2 := hr2.below hb1
  go_wp2_with fail
  refine (HT.out _ _ hr2).mono ?_
  rintro e w7 ⟨t7, rfl, ho7, hb7⟩
  replace hb := below_trans hb hb7
  replace hr2 := hr2.below hb7
  have r7 := ho7.row
  go_wp2_with fail
  refine (HL.out _ _ r7).mono ?_
  rintro e w8 ⟨t8, rfl, ho8, hb8⟩
  replace hb := below_trans hb hb8
  replace hr2 := hr2.below hb8
  have r8 := ho8.row
  go_wp2_with fail
  refine (like1_any _ _ xs xs _ r8 hr2 (by omega) (by omega)).mono ?_
  rintro e w9 ⟨rfl, hb9⟩
  replace hb := below_trans hb hb9
  rw [decide_eq_true rfl]
  go_wp2_with fail
  refine (alive45_any _).mono ?_
  rintro e w10 ⟨rfl, hb10⟩
  replace hb := below_trans hb hb10
  go_wp2
  go_ret
  first | exact ⟨rfl, hb⟩ | exact ⟨by simp, hb⟩
set_option maxRecDepth 100000 in
theorem wb4b_ns0 (v1 : Value) (ts : List Int) (v2 : Value) (xs : List Int) (w : World) (h1 : Row w v1 (ints .i32 ts)) (hg1 : R32 ts) (h2 : Row w v2 (ints .u8 xs)) (hg2 : Rg 0 256 xs) (hl1 : List.length ts ≤ 300) (hl2 : xs.length ≤ 600) (hs : allSc ts = false) (hf : readE 4 true xs ≠ 0) :
    Calls Try.prog 6 #[.agg #[.bool false, .bool true], v1, v2] w fun e w' => e = .returned (.bool true) ∧ Below w.heap.size w w' := by
  have hA := fun v w' h' => wideLay_any 4 true v ts w' h' hg1 (by omega)
  rw [show wideE 4 ts = 7 from by rw [wideE, hs]; rfl, show wideO 4 true ts = [] from by rw [wideO, hs]; rfl] at hA
  have HA := Lib.hid hA
  clear hA
  have hT := fun v w' h' => wStrict_any 4 true v xs w' h' hg2 (by omega)
  unfold RdP at hT
  rw [show strictT 4 true xs = [] from if_neg hf] at hT
  generalize readE 4 true xs = er at *
  have hne : (er != 0) = true := by rw [bne, beq_false_of_ne hf]; rfl
  have HT := Lib.hid hT
  clear hT hf
  clear hs
  obtain ⟨a, b, off, cap, rfl, HC1⟩ := id h1.op
  obtain ⟨a2, b2, off2, cap2, rfl, _⟩ := id h2.op
  have hb := below_alloc w (.cells #[.bool false, .bool true] 44)
  have c0 : (w.alloc (.cells #[.bool false, .bool true] 44)).cell? ⟨w.heap.size, 0, none⟩ = some (.bool false) := by rw [cell_of_row _ _ 0 _ _ (0, 0) (heap_alloc_new w _)]; rfl
  have c1 : (w.alloc (.cells #[.bool false, .bool true] 44)).cell? ⟨w.heap.size, 1, none⟩ = some (.bool true) := by rw [cell_of_row _ _ 1 _ _ (0, 0) (heap_alloc_new w _)]; rfl
  have HB := Lib.hid hb
  clear hb
  go_enter Try.func6, Try.ntmps6
  go_wp2_with fail
  go_quiet (fail)
  go_wp2_with fail
  have hb := below_drewN HB.out nq
  generalize World.drewN (w.alloc (.cells #[.bool false, .bool true] 44)) nq = w0 at *
  have hr1 := h1.below hb
  have hr2 := h2.below hb
  clear c0 c1
  refine (HA.out _ _ hr1).mono ?_
  rintro e w1 ⟨t1, rfl, ho1, hb1⟩
  replace hb := below_trans hb hb1
  replace hr1 := hr1.below hb1
  replace hr2 := hr2.below hb1
  go_wp2_with fail
  refine (HT.out _ _ hr2).mono ?_
  rintro e w7 ⟨t7, rfl, ho7, hb7⟩
  replace hb := below_trans hb hb7
  replace hr2 := hr2.below hb7
  have r7 := ho7.row
  obtain ⟨a7, b7, o7, c7, rfl, _⟩ := id r7.op
  go_wp2_with fail
  refine (alive45_any _).mono ?_
  rintro e w10 ⟨rfl, hb10⟩
  replace hb := below_trans hb hb10
  go_wp2
  go_ret
  first | exact ⟨rfl, hb⟩ | exact ⟨by simp, hb⟩
set_option maxRecDepth 100000 in
theorem wb4b_ok1 (v1 : Value) (ts : List Int) (v2 : Value) (xs : List Int) (w : World) (h1 : Row w v1 (ints .i32 ts)) (hg1 : R32 ts) (h2 : Row w v2 (ints .u8 xs)) (hg2 : Rg 0 256 xs) (hl1 : List.length ts ≤ 300) (hl2 : xs.length ≤ 600) (hs : allSc ts = true) (hod : ¬ ((4 : Int) = 2 ∧ true = false ∧ ∃ r, ts = 0 :: r)) (hf : readE 4 true xs = 0) :
    Calls Try.prog 6 #[.agg #[.bool false, .bool true], v1, v2] w fun e w' => e = .returned (.bool true) ∧ Below w.heap.size w w' := by
  have hA := fun v w' h' => wideLay_any 4 true v ts w' h' hg1 (by omega)
  have hwd : (4 : Int) = 2 ∨ (4 : Int) = 4 := by decide
  have hrw := read_wide hwd true hs
  have hm2 := sc_mark hs
  have hlw := wideL_len 4 true ts
  have hlm := wideL_len 4 true (65279 :: ts)
  have hO : wideO 4 true ts = wideL 4 true ts := by rw [wideO, hs]; rfl
  have hE : wideE 4 ts = 0 := by rw [wideE, hs]; rfl
  have hO2 : wideO 4 true (65279 :: ts) = wideL 4 true (65279 :: ts) := by rw [wideO, hm2]; rfl
  have hE2 : wideE 4 (65279 :: ts) = 0 := by rw [wideE, hm2]; rfl
  rw [hO, hE] at hA
  have hlt9 : (65279 :: ts).length ≤ 301 := by simp only [List.length_cons] at *; omega
  have hrg : Rg 0 256 (wideL 4 true ts) := wideL_rng hwd true ts
  have hrg2 : Rg 0 256 (wideL 4 true (65279 :: ts)) := wideL_rng hwd true _
  have hS := fun v w' h' => wStrict_any 4 true v (wideL 4 true ts) w' h' hrg (by omega)
  rw [show strictT 4 true (wideL 4 true ts) = ts from by rw [strictT, if_pos hrw.2, hrw.1], hrw.2] at hS
  unfold RdP at hS
  have hM := fun v w' h' => marked_any 4 true v ts w' h' hg1 (by omega)
  rw [hO2, hE2] at hM
  have hU := fun v w' h' => wAuto_any v (wideL 4 true (65279 :: ts)) w' h' hrg2 (by omega)
  rw [auto_marked hwd true hs hod] at hU
  have HU := Lib.hid hU
  clear hU
  generalize wideL 4 true (65279 :: ts) = O2 at *
  generalize wideL 4 true ts = O at *
  have HA := Lib.hid hA; have HS := Lib.hid hS; have HM := Lib.hid hM
  clear hA hS hM hrw hm2 hlw hlm hO hE hO2 hE2 hlt9 hrg hrg2 hwd
  have hT := fun v w' h' => wStrict_any 4 true v xs w' h' hg2 (by omega)
  unfold RdP at hT
  have hwr := wide_read (wd := 4) (by decide) true hg2 hf
  have hrl := readT_len 4 true xs
  rw [show strictT 4 true xs = readT 4 true xs from if_pos hf, hf] at hT
  have hL := fun v w' h' => wideLay_any 4 true v (readT 4 true xs) w' h' (sc_R32 hwr.1) (by omega)
  rw [show wideO 4 true (readT 4 true xs) = xs from by rw [wideO, hwr.1]; exact hwr.2, show wideE 4 (readT 4 true xs) = 0 from by rw [wideE, hwr.1]; rfl] at hL
  generalize readT 4 true xs = X at *
  have HT := Lib.hid hT; have HL := Lib.hid hL
  clear hT hL hwr hrl hf
  clear hs
  obtain ⟨a, b, off, cap, rfl, HC1⟩ := id h1.op
  obtain ⟨a2, b2, off2, cap2, rfl, _⟩ := id h2.op
  have hb := below_alloc w (.cells #[.bool false, .bool true] 44)
  have c0 : (w.alloc (.cells #[.bool false, .bool true] 44)).cell? ⟨w.heap.size, 0, none⟩ = some (.bool false) := by rw [cell_of_row _ _ 0 _ _ (0, 0) (heap_alloc_new w _)]; rfl
  have c1 : (w.alloc (.cells #[.bool false, .bool true] 44)).cell? ⟨w.heap.size, 1, none⟩ = some (.bool true) := by rw [cell_of_row _ _ 1 _ _ (0, 0) (heap_alloc_new w _)]; rfl
  have HB := Lib.hid hb
  clear hb
  go_enter Try.func6, Try.ntmps6
  go_wp2_with fail
  go_quiet (fail)
  go_wp2_with fail
  have hb := below_drewN HB.out nq
  generalize World.drewN (w.alloc (.cells #[.bool false, .bool true] 44)) nq = w0 at *
  have hr1 := h1.below hb
  have hr2 := h2.below hb
  clear c0 c1
  refine (HA.out _ _ hr1).mono ?_
  rintro e w1 ⟨t1, rfl, ho1, hb1⟩
  replace hb := below_trans hb hb1
  replace hr1 := hr1.below hb1
  replace hr2 := hr2.below hb1
  have rO := ho1.row
  go_wp2_with fail
  refine (HS.out _ _ rO).mono ?_
  rintro e w2 ⟨t2, rfl, ho2, hb2⟩
  replace hb := below_trans hb hb2
  replace hr1 := hr1.below hb2
  replace hr2 := hr2.below hb2
  have rX := ho2.row
  go_wp2_with fail
  refine (HM.out _ _ hr1).mono ?_
  rintro e w3 ⟨t3, rfl, ho3, hb3⟩
  replace hb := below_trans hb hb3
  replace hr1 := hr1.below hb3
  replace hr2 := hr2.below hb3
  replace rX := rX.below hb3
  have rM := ho3.row
  clear ho1 ho2 ho3 rO
  go_wp2_with fail
  refine (like3_any _ _ ts ts _ rX hr1 (by omega) (by omega)).mono ?_
  rintro e w4 ⟨rfl, hb4⟩
  replace hb := below_trans hb hb4
  rw [decide_eq_true rfl]
  replace hr1 := hr1.below hb4
  replace hr2 := hr2.below hb4
  replace rM := rM.below hb4
  go_wp2_with fail
  refine (HU.out _ _ rM).mono ?_
  rintro e w5 ⟨t5, rfl, ho5, hb5⟩
  replace hb := below_trans hb hb5
  replace hr1 := hr1.below hb5
  replace hr2 := hr2.below hb5
  have r5 := ho5.row
  go_wp2_with fail
  refine (like3_any _ _ ts ts _ r5 hr1 (by omega) (by omega)).mono ?_
  rintro e w6 ⟨rfl, hb6⟩
  replace hb := below_trans hb hb6
  rw [decide_eq_true rfl]
  replace hr2 := hr2.below hb6
  go_wp2_with fail
  refine (HT.out _ _ hr2).mono ?_
  rintro e w7 ⟨t7, rfl, ho7, hb7⟩
  replace hb := below_trans hb hb7
  replace hr2 := hr2.below hb7
  have r7 := ho7.row
  go_wp2_with fail
  refine (HL.out _ _ r7).mono ?_
  rintro e w8 ⟨t8, rfl, ho8, hb8⟩
  replace hb := below_trans hb hb8
  replace hr2 := hr2.below hb8
  have r8 := ho8.row
  go_wp2_with fail
  refine (like1_any _ _ xs xs _ r8 hr2 (by omega) (by omega)).mono ?_
  rintro e w9 ⟨rfl, hb9⟩
  replace hb := below_trans hb hb9
  rw [decide_eq_true rfl]
  go_wp2_with fail
  refine (alive45_any _).mono ?_
  rintro e w10 ⟨rfl, hb10⟩
  replace hb := below_trans hb hb10
  go_wp2
  go_ret
  first | exact ⟨rfl, hb⟩ | exact ⟨by simp, hb⟩
set_option maxRecDepth 100000 in
theorem wb4b_ok0 (v1 : Value) (ts : List Int) (v2 : Value) (xs : List Int) (w : World) (h1 : Row w v1 (ints .i32 ts)) (hg1 : R32 ts) (h2 : Row w v2 (ints .u8 xs)) (hg2 : Rg 0 256 xs) (hl1 : List.length ts ≤ 300) (hl2 : xs.length ≤ 600) (hs : allSc ts = true) (hod : ¬ ((4 : Int) = 2 ∧ true = false ∧ ∃ r, ts = 0 :: r)) (hf : readE 4 true xs ≠ 0) :
    Calls Try.prog 6 #[.agg #[.bool false, .bool true], v1, v2] w fun e w' => e = .returned (.bool true) ∧ Below w.heap.size w w' := by
  have hA := fun v w' h' => wideLay_any 4 true v ts w' h' hg1 (by omega)
  have hwd : (4 : Int) = 2 ∨ (4 : Int) = 4 := by decide
  have hrw := read_wide hwd true hs
  have hm2 := sc_mark hs
  have hlw := wideL_len 4 true ts
  have hlm := wideL_len 4 true (65279 :: ts)
  have hO : wideO 4 true ts = wideL 4 true ts := by rw [wideO, hs]; rfl
  have hE : wideE 4 ts = 0 := by rw [wideE, hs]; rfl
  have hO2 : wideO 4 true (65279 :: ts) = wideL 4 true (65279 :: ts) := by rw [wideO, hm2]; rfl
  have hE2 : wideE 4 (65279 :: ts) = 0 := by rw [wideE, hm2]; rfl
  rw [hO, hE] at hA
  have hlt9 : (65279 :: ts).length ≤ 301 := by simp only [List.length_cons] at *; omega
  have hrg : Rg 0 256 (wideL 4 true ts) := wideL_rng hwd true ts
  have hrg2 : Rg 0 256 (wideL 4 true (65279 :: ts)) := wideL_rng hwd true _
  have hS := fun v w' h' => wStrict_any 4 true v (wideL 4 true ts) w' h' hrg (by omega)
  rw [show strictT 4 true (wideL 4 true ts) = ts from by rw [strictT, if_pos hrw.2, hrw.1], hrw.2] at hS
  unfold RdP at hS
  have hM := fun v w' h' => marked_any 4 true v ts w' h' hg1 (by omega)
  rw [hO2, hE2] at hM
  have hU := fun v w' h' => wAuto_any v (wideL 4 true (65279 :: ts)) w' h' hrg2 (by omega)
  rw [auto_marked hwd true hs hod] at hU
  have HU := Lib.hid hU
  clear hU
  generalize wideL 4 true (65279 :: ts) = O2 at *
  generalize wideL 4 true ts = O at *
  have HA := Lib.hid hA; have HS := Lib.hid hS; have HM := Lib.hid hM
  clear hA hS hM hrw hm2 hlw hlm hO hE hO2 hE2 hlt9 hrg hrg2 hwd
  have hT := fun v w' h' => wStrict_any 4 true v xs w' h' hg2 (by omega)
  unfold RdP at hT
  rw [show strictT 4 true xs = [] from if_neg hf] at hT
  generalize readE 4 true xs = er at *
  have hne : (er != 0) = true := by rw [bne, beq_false_of_ne hf]; rfl
  have HT := Lib.hid hT
  clear hT hf
  clear hs
  obtain ⟨a, b, off, cap, rfl, HC1⟩ := id h1.op
  obtain ⟨a2, b2, off2, cap2, rfl, _⟩ := id h2.op
  have hb := below_alloc w (.cells #[.bool false, .bool true] 44)
  have c0 : (w.alloc (.cells #[.bool false, .bool true] 44)).cell? ⟨w.heap.size, 0, none⟩ = some (.bool false) := by rw [cell_of_row _ _ 0 _ _ (0, 0) (heap_alloc_new w _)]; rfl
  have c1 : (w.alloc (.cells #[.bool false, .bool true] 44)).cell? ⟨w.heap.size, 1, none⟩ = some (.bool true) := by rw [cell_of_row _ _ 1 _ _ (0, 0) (heap_alloc_new w _)]; rfl
  have HB := Lib.hid hb
  clear hb
  go_enter Try.func6, Try.ntmps6
  go_wp2_with fail
  go_quiet (fail)
  go_wp2_with fail
  have hb := below_drewN HB.out nq
  generalize World.drewN (w.alloc (.cells #[.bool false, .bool true] 44)) nq = w0 at *
  have hr1 := h1.below hb
  have hr2 := h2.below hb
  clear c0 c1
  refine (HA.out _ _ hr1).mono ?_
  rintro e w1 ⟨t1, rfl, ho1, hb1⟩
  replace hb := below_trans hb hb1
  replace hr1 := hr1.below hb1
  replace hr2 := hr2.below hb1
  have rO := ho1.row
  go_wp2_with fail
  refine (HS.out _ _ rO).mono ?_
  rintro e w2 ⟨t2, rfl, ho2, hb2⟩
  replace hb := below_trans hb hb2
  replace hr1 := hr1.below hb2
  replace hr2 := hr2.below hb2
  have rX := ho2.row
  go_wp2_with fail
  refine (HM.out _ _ hr1).mono ?_
  rintro e w3 ⟨t3, rfl, ho3, hb3⟩
  replace hb := below_trans hb hb3
  replace hr1 := hr1.below hb3
  replace hr2 := hr2.below hb3
  replace rX := rX.below hb3
  have rM := ho3.row
  clear ho1 ho2 ho3 rO
  go_wp2_with fail
  refine (like3_any _ _ ts ts _ rX hr1 (by omega) (by omega)).mono ?_
  rintro e w4 ⟨rfl, hb4⟩
  replace hb := below_trans hb hb4
  rw [decide_eq_true rfl]
  replace hr1 := hr1.below hb4
  replace hr2 := hr2.below hb4
  replace rM := rM.below hb4
  go_wp2_with fail
  refine (HU.out _ _ rM).mono ?_
  rintro e w5 ⟨t5, rfl, ho5, hb5⟩
  replace hb := below_trans hb hb5
  replace hr1 := hr1.below hb5
  replace hr2 := hr2.below hb5
  have r5 := ho5.row
  go_wp2_with fail
  refine (like3_any _ _ ts ts _ r5 hr1 (by omega) (by omega)).mono ?_
  rintro e w6 ⟨rfl, hb6⟩
  replace hb := below_trans hb hb6
  rw [decide_eq_true rfl]
  replace hr2 := hr2.below hb6
  go_wp2_with fail
  refine (HT.out _ _ hr2).mono ?_
  rintro e w7 ⟨t7, rfl, ho7, hb7⟩
  replace hb := below_trans hb hb7
  replace hr2 := hr2.below hb7
  have r7 := ho7.row
  obtain ⟨a7, b7, o7, c7, rfl, _⟩ := id r7.op
  go_wp2_with fail
  refine (alive45_any _).mono ?_
  rintro e w10 ⟨rfl, hb10⟩
  replace hb := below_trans hb hb10
  go_wp2
  go_ret
  first | exact ⟨rfl, hb⟩ | exact ⟨by simp, hb⟩
end Go.Proofs.Ytgfdebijcpdhbaa
