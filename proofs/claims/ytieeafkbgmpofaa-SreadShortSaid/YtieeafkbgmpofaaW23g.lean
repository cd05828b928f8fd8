/- Walks: what stands behind a sign that shifts. -/
import Derived.Test.YtieeafkbgmpofaaW23f
namespace Go.Proofs.Ytieeafkbgmpofaa
open Go.RowKit
set_option maxHeartbeats 2000000
theorem uread_len : ∀ (k : Nat) (xs : List Int), xs.length ≤ k → (uread xs).length ≤ xs.length
  | _, [], _ => by rw [uread_nil]; simp
  | 0, x :: r, h => by simp at h
  | k + 1, x :: r, h => by
    have hn := uone_n x r
    rw [uread_cons, List.length_cons]
    have ih := uread_len k ((x :: r).drop (uone x r).2.1.toNat) (by rw [List.length_drop]; simp only [List.length_cons] at h ⊢; omega)
    rw [List.length_drop] at ih
    simp only [List.length_cons] at ih ⊢
    omega
theorem runT_len (d : List Int) : (runT d).length ≤ d.length := by
  unfold runT
  split
  · rw [List.length_map]
    exact Nat.le_trans (uread_len _ _ (Nat.le_refl _)) (runU_len d)
  · simp
/-- What is asked of what follows. -/
def ShPost (w0 : World) (r T : List Int) (n : Int) (b : Bool) (w' : World) : Prop :=
  ∃ lv', Rd w0.heap.size w' lv' (T ++ sout 43 r) (n + srun 43 r) (b || swr 43 r) ∧ Row w0 lv' (ints .u8 (r.drop (sn 43 r))) ∧ Below w0.heap.size w0 w'
set_option maxRecDepth 100000 in
theorem shifted0_any (w0 : World) (w : World) (lv : Value) (r T : List Int) (n : Int) (b : Bool) (h : Rd w0.heap.size w lv T n b) (hr : Row w0 lv (ints .u8 r)) (hb0 : Below w0.heap.size w0 w) (hg : Rg 0 256 r) (hl : r.length ≤ 10000) (hT : T.length ≤ 60000) (hm : dl r = 0) :
    Calls Try.prog 106 #[.pointer (some ⟨w0.heap.size, 0, none⟩)] w fun e w' => (∃ v, e = .returned v) ∧ ShPost w0 r T n b w' := by
  have hdg := digits_any w0 w lv r T n b h hr hb0 hg hl
  have e1 : sout 43 r = [43] := by rw [sout, if_neg (by omega), if_pos rfl, if_pos hm]
  have e2 : srun 43 r = 0 := by simp [srun, hm]
  have e3 : swr 43 r = !decide (r[0]? = some 45) := by rw [swr, if_neg (by omega), if_pos rfl, if_pos hm, hm]
  have e4 : sn 43 r = if r[0]? = some 45 then 1 else 0 := by rw [sn, if_pos rfl, hm]
  have hP : ∀ w', ShPost w0 r T n b w' = ∃ lv', Rd w0.heap.size w' lv' (T ++ [43]) n (b || !decide (r[0]? = some 45)) ∧ Row w0 lv' (ints .u8 (r.drop (if r[0]? = some 45 then 1 else 0))) ∧ Below w0.heap.size w0 w' := fun w' => by rw [ShPost, e1, e2, e3, e4]; simp
  rw [hm] at hdg
  have HD := Lib.hid hdg
  generalize ShPost w0 r T n b = Q at *
  have HPP := Lib.hid hP
  clear hdg e1 e2 e3 e4 hm hP hg
  rcases hx : r with _ | ⟨x, r2⟩
  · subst hx
    rcases b with _ | _
    all_goals
      go_enter Try.func106, Try.ntmps106
      go_wp2_with (first | (go_at_call 119; refine (HD.out).mono ?_; rintro e w1 ⟨dv1, lv1, rfl, hrd, rd1, rl1, hb1⟩; simp only [List.take_zero, List.drop_zero] at rd1 rl1; obtain ⟨ad, bd, od, cd, rfl, _⟩ := id rd1.op; obtain ⟨al, bl, ol, cl, rfl, HCL⟩ := id rl1.op; obtain ⟨tv, q0, q1, q2, q3, qf, qo, qB⟩ := id hrd; have f0 := qf 0) | (go_at_call 105; refine (put_any _ _ _ _ _ _ _ hrd (by omega)).mono ?_; rintro e w2 ⟨⟨v2, rfl⟩, hrd2, hb2⟩; obtain ⟨tv2, p0, p1, p2, p3, pf, po, pB⟩ := id hrd2; have g3 := pf 3))
      (try simp only [Exit.inBlock, Exit.then])
      refine bodyPost_ret (results_none rfl _ _ _) rfl ?_
      refine ⟨⟨_, rfl⟩, ?_⟩
      rw [HPP.out]
      exact ⟨_, hrd2.setW _, rl1, (hb1.trans hb2).setCell (p := ⟨w0.heap.size, 3, none⟩) (Nat.le_refl _) _⟩
  · subst hx
    by_cases hx45 : x = 45
    · subst hx45
      rcases b with _ | _
      all_goals
        go_enter Try.func106, Try.ntmps106
        go_wp2_with fail
        refine (HD.out).mono ?_
        rintro e w1 ⟨dv1, lv1, rfl, hrd, rd1, rl1, hc1⟩
        have hb1 := hc1
        simp only [List.take_zero, List.drop_zero] at rd1 rl1
        obtain ⟨ad, bd, od, cd, rfl, _⟩ := id rd1.op
        obtain ⟨al, bl, ol, cl, rfl, HCL⟩ := id rl1.op
        obtain ⟨y, HY, rfl, hc⟩ := HCL.out 0 (by simp)
        have ey : (45 : Int) = y := by have h9 := HY.out; rw [List.getElem?_cons_zero] at h9; exact Option.some.inj h9
        subst ey
        replace hc := hc _ hb1
        simp only [Nat.add_zero] at hc
        obtain ⟨tv, q0, q1, q2, q3, qf, qo, qB⟩ := id hrd
        have f0 := qf 0
        go_wp2_with (first | (refine wpList_slL slT_u8 _ _ rfl rfl rfl rfl (rl1.below hb1) (by omega) (by simp [ints]; omega) ?_; intro v3 hv3; have r3 := hv3 w0 rl1; rw [show (1 : Int).toNat = 1 from rfl, ints_drop] at r3; obtain ⟨a3, b3, o3, c3, rfl, _⟩ := id r3.op) | (go_at_call 105; refine (put_any _ _ _ _ _ _ _ (hrd.setL _) (by omega)).mono ?_; rintro e w2 ⟨⟨v2, rfl⟩, hrd2, hb2⟩; obtain ⟨tv2, p0, p1, p2, p3, pf, po, pB⟩ := id hrd2; have g3 := pf 3))
        (try simp only [Exit.inBlock, Exit.then])
        refine bodyPost_ret (results_none rfl _ _ _) rfl ?_
        refine ⟨⟨_, rfl⟩, ?_⟩
        rw [HPP.out]
        exact ⟨_, hrd2.setW _, r3, ((hb1.setCell (p := ⟨w0.heap.size, 0, none⟩) (Nat.le_refl _) _).trans hb2).setCell (p := ⟨w0.heap.size, 3, none⟩) (Nat.le_refl _) _⟩
    · have hne : (x == 45) = false := beq_false_of_ne hx45
      have hdec : decide ((x :: r2)[0]? = some 45) = false := by simp [hx45]
      have hif : (if (x :: r2)[0]? = some 45 then 1 else 0) = 0 := by simp [hx45]
      rcases b with _ | _
      all_goals
        go_enter Try.func106, Try.ntmps106
        go_wp2_with fail
        refine (HD.out).mono ?_
        rintro e w1 ⟨dv1, lv1, rfl, hrd, rd1, rl1, hc1⟩
        have hb1 := hc1
        simp only [List.take_zero, List.drop_zero] at rd1 rl1
        obtain ⟨ad, bd, od, cd, rfl, _⟩ := id rd1.op
        obtain ⟨al, bl, ol, cl, rfl, HCL⟩ := id rl1.op
        obtain ⟨y, HY, rfl, hc⟩ := HCL.out 0 (by simp)
        have ey : x = y := by have h9 := HY.out; rw [List.getElem?_cons_zero] at h9; exact Option.some.inj h9
        subst ey
        replace hc := hc _ hb1
        simp only [Nat.add_zero] at hc
        obtain ⟨tv, q0, q1, q2, q3, qf, qo, qB⟩ := id hrd
        have f0 := qf 0
        go_wp2_with (first | (go_at_call 105; refine (put_any _ _ _ _ _ _ _ hrd (by omega)).mono ?_; rintro e w2 ⟨⟨v2, rfl⟩, hrd2, hb2⟩; obtain ⟨tv2, p0, p1, p2, p3, pf, po, pB⟩ := id hrd2; have g3 := pf 3))
        (try simp only [Exit.inBlock, Exit.then])
        refine bodyPost_ret (results_none rfl _ _ _) rfl ?_
        refine ⟨⟨_, rfl⟩, ?_⟩
        rw [HPP.out, hdec, hif]
        exact ⟨_, hrd2.setW _, rl1, (hb1.trans hb2).setCell (p := ⟨w0.heap.size, 3, none⟩) (Nat.le_refl _) _⟩
end Go.Proofs.Ytieeafkbgmpofaa
