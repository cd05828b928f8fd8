/- Walks: a run behind a sign that shifts. -/
import Derived.Test.YtieeafkbgmpofaaW23g
namespace Go.Proofs.Ytieeafkbgmpofaa
open Go.RowKit
set_option maxHeartbeats 2000000
set_option maxRecDepth 100000 in
theorem shiftedN_any (w0 : World) (w : World) (lv : Value) (r T : List Int) (n : Int) (b : Bool) (h : Rd w0.heap.size w lv T n b) (hr : Row w0 lv (ints .u8 r)) (hb0 : Below w0.heap.size w0 w) (hg : Rg 0 256 r) (hl : r.length ≤ 10000) (hT : T.length ≤ 60000) (hn0 : 0 ≤ n) (hn1 : n ≤ 60000) (hm : 0 < dl r) :
    Calls Try.prog 106 #[.pointer (some ⟨w0.heap.size, 0, none⟩)] w fun e w' => (∃ v, e = .returned v) ∧ ShPost w0 r T n b w' := by
  have hdg := digits_any w0 w lv r T n b h hr hb0 hg hl
  have hdl := dl_le r
  have hgd := hg.take (dl r)
  have e1 : sout 43 r = if runO (r.take (dl r)) then runT (r.take (dl r)) ++ [65533] else runT (r.take (dl r)) := by rw [sout, if_neg (by omega), if_pos rfl, if_neg (by omega)]
  have e2 : srun 43 r = 1 := by rw [srun, if_pos ⟨rfl, by omega⟩]
  have e3 : swr 43 r = !runR (r.take (dl r)) := by rw [swr, if_neg (by omega), if_pos rfl, if_neg (by omega)]
  have e4 : sn 43 r = if r[dl r]? = some 45 then dl r + 1 else dl r := by rw [sn, if_pos rfl]
  have hrun := fun v w' h' => orun_any v (r.take (dl r)) w' h' hgd (by rw [List.length_take]; omega)
  rw [dl_all, Bool.true_and] at hrun
  have hTd := runT_len (r.take (dl r))
  have hdlen : (r.take (dl r)).length = dl r := by rw [List.length_take]; omega
  have hP : ∀ w', ShPost w0 r T n b w' = ∃ lv', Rd w0.heap.size w' lv' (T ++ if runO (r.take (dl r)) then runT (r.take (dl r)) ++ [65533] else runT (r.take (dl r))) (n + 1) (b || !runR (r.take (dl r))) ∧ Row w0 lv' (ints .u8 (r.drop (if r[dl r]? = some 45 then dl r + 1 else dl r))) ∧ Below w0.heap.size w0 w' := fun w' => by rw [ShPost, e1, e2, e3, e4]; rfl
  have hz : r[dl r]? = (r.drop (dl r))[0]? := by rw [List.getElem?_drop]; rfl
  have hdd : r.drop (dl r + 1) = (r.drop (dl r)).drop 1 := by rw [List.drop_drop]
  rw [hdlen] at hTd
  clear e1 e2 e3 e4 hgd hg
  generalize ShPost w0 r T n b = Q at *
  generalize dl r = m at *
  generalize runT (r.take m) = Td at *
  generalize runO (r.take m) = O at *
  generalize runR (r.take m) = R at *
  generalize hd : r.take m = d at *
  have hml : 0 < d.length := by omega
  have hml2 : d.length ≤ 10000 := by omega
  have hTd2 : Td.length ≤ 10000 := by omega
  have HD := Lib.hid hdg; have HR := Lib.hid hrun; have HPP := Lib.hid hP; have HZ := Lib.hid hz; have HDD := Lib.hid hdd
  clear hdg hrun hP hz hdd hdl hm hdlen hTd hd
  rcases hx : r.drop m with _ | ⟨x, r2⟩
  · have HX := Lib.hid hx; clear hx
    have hif : (if r[m]? = some 45 then m + 1 else m) = m := by rw [HZ.out, HX.out]; rfl
    have HIF := Lib.hid hif; clear hif
    rcases O with _ | _ <;> rcases b with _ | _
    case' false.false => rcases R with _ | _
    case' true.false => rcases R with _ | _
    all_goals
      go_enter Try.func106, Try.ntmps106
      go_wp2_with fail
      refine (HD.out).mono ?_
      rintro e w1 ⟨dv1, lv1, rfl, hrd, rd1, rl1, hc1⟩
      rw [HX.out] at rl1
      obtain ⟨ad, bd, od, cd, rfl, _⟩ := id rd1.op
      obtain ⟨al, bl, ol, cl, rfl, _⟩ := id rl1.op
      have HRDX := Lib.hid hrd
      obtain ⟨tv, q0, q1, q2, q3, qf, qo, qB⟩ := id hrd
      have f0 := qf 0
      have BLX := Lib.hid hc1
      have BLE := Lib.hid (Nat.le_of_lt qB)
      go_wp2_with (first | (go_at_call 52; refine (HR.out _ _ (rd1.below hc1)).mono ?_; rintro e w2 ⟨t2, rfl, ho2, hb2⟩; obtain ⟨tv2, p0, p1, p2, p3, pf, po, pB⟩ := id (HRDX.out.below hb2)) | (at_builtin; refine wpList_app slT_i32 _ _ _ rfl rfl rfl rfl po ho2.row (by rw [ints_length, ints_length]; omega) pB ?_; intro t3 w3 hown3 hg3; rw [← ints_append] at hown3; have hb3 : Below (w0.heap.size + 1) w2 w3 := below_own (Below.refl _ w2) po hg3 pB (Nat.le_refl _); have d1 := (hb3.cell (p := ⟨w0.heap.size, 1, none⟩) (Nat.lt_succ_self _)).trans p1; have d2 := (hb3.cell (p := ⟨w0.heap.size, 2, none⟩) (Nat.lt_succ_self _)).trans p2; have d3 := (hb3.cell (p := ⟨w0.heap.size, 3, none⟩) (Nat.lt_succ_self _)).trans p3; have f1 := (hb3.frozen (p := ⟨w0.heap.size, 1, none⟩) (Nat.lt_succ_self _)).trans (pf 1); have f2 := (hb3.frozen (p := ⟨w0.heap.size, 2, none⟩) (Nat.lt_succ_self _)).trans (pf 2); have f3 := (hb3.frozen (p := ⟨w0.heap.size, 3, none⟩) (Nat.lt_succ_self _)).trans (pf 3); obtain ⟨a4, b4, o4, c4, rfl, _⟩ := id hown3.row.op; rw [List.length_append] at hown3) | (go_at_call 105; refine (put_any _ _ _ _ _ _ _ (Rd.setT p0 p1 p2 p3 pf pB hb3 hown3) (by rw [List.length_append]; omega)).mono ?_; rintro e w4 ⟨⟨v4, rfl⟩, hrd4, hb4⟩; obtain ⟨tv4, s0, s1, s2, s3, sf, so, sB⟩ := id hrd4; have k2 := sf 2; have k3 := sf 3))
      go_end0
      refine ⟨⟨_, rfl⟩, ?_⟩
      rw [HPP.out, HIF.out]
      first
        | exact ⟨_, (by rw [if_pos trivial, ← List.append_assoc]; exact (hrd4.setN _).setW _), (by rw [HX.out]; exact rl1), (((((BLX.out.trans (hb2.mono BLE.out)).trans (hb3.mono (Nat.le_succ _))).setCell (p := ⟨w0.heap.size, 1, none⟩) (Nat.le_refl _) _).trans hb4).setCell (p := ⟨w0.heap.size, 2, none⟩) (Nat.le_refl _) _).setCell (p := ⟨w0.heap.size, 3, none⟩) (Nat.le_refl _) _⟩
        | exact ⟨_, (by rw [if_neg (by decide)]; exact ((Rd.setT p0 p1 p2 p3 pf pB hb3 hown3).setN _).setW _), (by rw [HX.out]; exact rl1), ((((BLX.out.trans (hb2.mono BLE.out)).trans (hb3.mono (Nat.le_succ _))).setCell (p := ⟨w0.heap.size, 1, none⟩) (Nat.le_refl _) _).setCell (p := ⟨w0.heap.size, 2, none⟩) (Nat.le_refl _) _).setCell (p := ⟨w0.heap.size, 3, none⟩) (Nat.le_refl _) _⟩
  · have HX := Lib.hid hx; clear hx
    by_cases hx45 : x = 45
    · subst hx45
      have hif : (if r[m]? = some 45 then m + 1 else m) = m + 1 := by rw [HZ.out, HX.out]; rfl
      have HIF := Lib.hid hif; clear hif
      rcases O with _ | _ <;> rcases b with _ | _
      case' false.false => rcases R with _ | _
      case' true.false => rcases R with _ | _
      all_goals
        go_enter Try.func106, Try.ntmps106
        go_wp2_with fail
        refine (HD.out).mono ?_
        rintro e w1 ⟨dv1, lv1, rfl, hrd, rd1, rl1, hc1⟩
        rw [HX.out] at rl1
        obtain ⟨ad, bd, od, cd, rfl, _⟩ := id rd1.op
        obtain ⟨al, bl, ol, cl, rfl, HCL⟩ := id rl1.op
        obtain ⟨y, HY, rfl, hc⟩ := HCL.out 0 (by simp)
        have ey : (45 : Int) = y := by have h9 := HY.out; rw [List.getElem?_cons_zero] at h9; exact Option.some.inj h9
        subst ey
        replace hc := hc _ hc1
        simp only [Nat.add_zero] at hc
        obtain ⟨tv, q0, q1, q2, q3, qf, qo, qB⟩ := id hrd
        have f0 := qf 0
        go_wp2_with (first | (refine wpList_slL slT_u8 _ _ rfl rfl rfl rfl (rl1.below hc1) (by omega) (by simp [ints]; omega) ?_; intro v3 hv3; have r3 := hv3 w0 rl1; rw [show (1 : Int).toNat = 1 from rfl, ints_drop] at r3; obtain ⟨a3, b3, o3, c3, rfl, _⟩ := id r3.op; have HRDX := Lib.hid (hrd.setL (Value.slice a3 r2.length c3)); have BLX := Lib.hid (hc1.setCell (p := ⟨w0.heap.size, 0, none⟩) (Nat.le_refl _) (Value.slice a3 r2.length c3)); have BLE := Lib.hid (show w0.heap.size ≤ (w1.setCell ⟨w0.heap.size, 0, none⟩ (Value.slice a3 r2.length c3)).heap.size from by rw [World.size_setCell]; exact Nat.le_of_lt qB)) | (go_at_call 52; refine (HR.out _ _ (rd1.below BLX.out)).mono ?_; rintro e w2 ⟨t2, rfl, ho2, hb2⟩; obtain ⟨tv2, p0, p1, p2, p3, pf, po, pB⟩ := id (HRDX.out.below hb2)) | (at_builtin; refine wpList_app slT_i32 _ _ _ rfl rfl rfl rfl po ho2.row (by rw [ints_length, ints_length]; omega) pB ?_; intro t3 w3 hown3 hg3; rw [← ints_append] at hown3; have hb3 : Below (w0.heap.size + 1) w2 w3 := below_own (Below.refl _ w2) po hg3 pB (Nat.le_refl _); have d1 := (hb3.cell (p := ⟨w0.heap.size, 1, none⟩) (Nat.lt_succ_self _)).trans p1; have d2 := (hb3.cell (p := ⟨w0.heap.size, 2, none⟩) (Nat.lt_succ_self _)).trans p2; have d3 := (hb3.cell (p := ⟨w0.heap.size, 3, none⟩) (Nat.lt_succ_self _)).trans p3; have f1 := (hb3.frozen (p := ⟨w0.heap.size, 1, none⟩) (Nat.lt_succ_self _)).trans (pf 1); have f2 := (hb3.frozen (p := ⟨w0.heap.size, 2, none⟩) (Nat.lt_succ_self _)).trans (pf 2); have f3 := (hb3.frozen (p := ⟨w0.heap.size, 3, none⟩) (Nat.lt_succ_self _)).trans (pf 3); obtain ⟨a4, b4, o4, c4, rfl, _⟩ := id hown3.row.op; rw [List.length_append] at hown3) | (go_at_call 105; refine (put_any _ _ _ _ _ _ _ (Rd.setT p0 p1 p2 p3 pf pB hb3 hown3) (by rw [List.length_append]; omega)).mono ?_; rintro e w4 ⟨⟨v4, rfl⟩, hrd4, hb4⟩; obtain ⟨tv4, s0, s1, s2, s3, sf, so, sB⟩ := id hrd4; have k2 := sf 2; have k3 := sf 3))
        go_end0
        refine ⟨⟨_, rfl⟩, ?_⟩
        rw [HPP.out, HIF.out]
        first
          | exact ⟨_, (by rw [if_pos trivial, ← List.append_assoc]; exact (hrd4.setN _).setW _), (by rw [HDD.out, HX.out]; exact r3), (((((BLX.out.trans (hb2.mono BLE.out)).trans (hb3.mono (Nat.le_succ _))).setCell (p := ⟨w0.heap.size, 1, none⟩) (Nat.le_refl _) _).trans hb4).setCell (p := ⟨w0.heap.size, 2, none⟩) (Nat.le_refl _) _).setCell (p := ⟨w0.heap.size, 3, none⟩) (Nat.le_refl _) _⟩
          | exact ⟨_, (by rw [if_neg (by decide)]; exact ((Rd.setT p0 p1 p2 p3 pf pB hb3 hown3).setN _).setW _), (by rw [HDD.out, HX.out]; exact r3), ((((BLX.out.trans (hb2.mono BLE.out)).trans (hb3.mono (Nat.le_succ _))).setCell (p := ⟨w0.heap.size, 1, none⟩) (Nat.le_refl _) _).setCell (p := ⟨w0.heap.size, 2, none⟩) (Nat.le_refl _) _).setCell (p := ⟨w0.heap.size, 3, none⟩) (Nat.le_refl _) _⟩
    · have hne : (x == 45) = false := beq_false_of_ne hx45
      have hif : (if r[m]? = some 45 then m + 1 else m) = m := by rw [HZ.out, HX.out, List.getElem?_cons_zero, if_neg (by simp [hx45])]
      have HIF := Lib.hid hif; clear hif
      rcases O with _ | _ <;> rcases b with _ | _
      case' false.false => rcases R with _ | _
      case' true.false => rcases R with _ | _
      all_goals
        go_enter Try.func106, Try.ntmps106
        go_wp2_with fail
        refine (HD.out).mono ?_
        rintro e w1 ⟨dv1, lv1, rfl, hrd, rd1, rl1, hc1⟩
        rw [HX.out] at rl1
        obtain ⟨ad, bd, od, cd, rfl, _⟩ := id rd1.op
        obtain ⟨al, bl, ol, cl, rfl, HCL⟩ := id rl1.op
        obtain ⟨y, HY, rfl, hc⟩ := HCL.out 0 (by simp)
        have ey : x = y := by have h9 := HY.out; rw [List.getElem?_cons_zero] at h9; exact Option.some.inj h9
        subst ey
        replace hc := hc _ hc1
        simp only [Nat.add_zero] at hc
        obtain ⟨tv, q0, q1, q2, q3, qf, qo, qB⟩ := id hrd
        have f0 := qf 0
        have BLE := Lib.hid (Nat.le_of_lt qB)
        have HRDX := Lib.hid hrd
        have BLX := Lib.hid hc1
        go_wp2_with (first | (go_at_call 52; refine (HR.out _ _ (rd1.below hc1)).mono ?_; rintro e w2 ⟨t2, rfl, ho2, hb2⟩; obtain ⟨tv2, p0, p1, p2, p3, pf, po, pB⟩ := id (HRDX.out.below hb2)) | (at_builtin; refine wpList_app slT_i32 _ _ _ rfl rfl rfl rfl po ho2.row (by rw [ints_length, ints_length]; omega) pB ?_; intro t3 w3 hown3 hg3; rw [← ints_append] at hown3; have hb3 : Below (w0.heap.size + 1) w2 w3 := below_own (Below.refl _ w2) po hg3 pB (Nat.le_refl _); have d1 := (hb3.cell (p := ⟨w0.heap.size, 1, none⟩) (Nat.lt_succ_self _)).trans p1; have d2 := (hb3.cell (p := ⟨w0.heap.size, 2, none⟩) (Nat.lt_succ_self _)).trans p2; have d3 := (hb3.cell (p := ⟨w0.heap.size, 3, none⟩) (Nat.lt_succ_self _)).trans p3; have f1 := (hb3.frozen (p := ⟨w0.heap.size, 1, none⟩) (Nat.lt_succ_self _)).trans (pf 1); have f2 := (hb3.frozen (p := ⟨w0.heap.size, 2, none⟩) (Nat.lt_succ_self _)).trans (pf 2); have f3 := (hb3.frozen (p := ⟨w0.heap.size, 3, none⟩) (Nat.lt_succ_self _)).trans (pf 3); obtain ⟨a4, b4, o4, c4, rfl, _⟩ := id hown3.row.op; rw [List.length_append] at hown3) | (go_at_call 105; refine (put_any _ _ _ _ _ _ _ (Rd.setT p0 p1 p2 p3 pf pB hb3 hown3) (by rw [List.length_append]; omega)).mono ?_; rintro e w4 ⟨⟨v4, rfl⟩, hrd4, hb4⟩; obtain ⟨tv4, s0, s1, s2, s3, sf, so, sB⟩ := id hrd4; have k2 := sf 2; have k3 := sf 3))
        go_end0
        refine ⟨⟨_, rfl⟩, ?_⟩
        rw [HPP.out, HIF.out]
        first
          | exact ⟨_, (by rw [if_pos trivial, ← List.append_assoc]; exact (hrd4.setN _).setW _), (by rw [HX.out]; exact rl1), (((((BLX.out.trans (hb2.mono BLE.out)).trans (hb3.mono (Nat.le_succ _))).setCell (p := ⟨w0.heap.size, 1, none⟩) (Nat.le_refl _) _).trans hb4).setCell (p := ⟨w0.heap.size, 2, none⟩) (Nat.le_refl _) _).setCell (p := ⟨w0.heap.size, 3, none⟩) (Nat.le_refl _) _⟩
          | exact ⟨_, (by rw [if_neg (by decide)]; exact ((Rd.setT p0 p1 p2 p3 pf pB hb3 hown3).setN _).setW _), (by rw [HX.out]; exact rl1), ((((BLX.out.trans (hb2.mono BLE.out)).trans (hb3.mono (Nat.le_succ _))).setCell (p := ⟨w0.heap.size, 1, none⟩) (Nat.le_refl _) _).setCell (p := ⟨w0.heap.size, 2, none⟩) (Nat.le_refl _) _).setCell (p := ⟨w0.heap.size, 3, none⟩) (Nat.le_refl _) _⟩
end Go.Proofs.Ytieeafkbgmpofaa
