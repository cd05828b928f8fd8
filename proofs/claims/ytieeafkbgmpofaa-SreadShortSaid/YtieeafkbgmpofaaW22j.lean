/- Walks: the layer's step. -/
import Derived.Test.YtieeafkbgmpofaaW22i
namespace Go.Proofs.Ytieeafkbgmpofaa
open Go.RowKit
set_option maxHeartbeats 2000000
def LyPost (w0 : World) (c : Int) (r O : List Int) (n : Int) (w' : World) : Prop :=
  ∃ lv', Ly w0.heap.size w' lv' (O ++ lo c r) (n + ln c r) ∧ Row w0 lv' (ints .i32 ((c :: r).drop (lk c r))) ∧ Below w0.heap.size w0 w'
set_option maxRecDepth 100000 in
theorem lstepN_any (w0 w : World) (lv : Value) (c : Int) (r O : List Int) (n : Int) (h : Ly w0.heap.size w lv O n) (hr : Row w0 lv (ints .i32 (c :: r))) (hb0 : Below w0.heap.size w0 w) (hg : R32 (c :: r)) (hl : (c :: r).length ≤ 5000) (hO : O.length ≤ 100000) (hn0 : 0 ≤ n) (hn1 : n ≤ 60000) (hm : 0 < rn (c :: r)) :
    Calls Try.prog 89 #[.pointer (some ⟨w0.heap.size, 0, none⟩)] w fun e w' => (∃ v, e = .returned v) ∧ LyPost w0 c r O n w' := by
  have hrun := run_any w0 w lv c r O n h hr hb0 hg (by omega)
  have hml := rn_le (c :: r)
  have e1 : lo c r = 43 :: codeL ((c :: r).take (rn (c :: r))) ++ [45] := by rw [lo, if_pos hm]
  have e2 : ln c r = 1 := by rw [ln, if_pos hm]
  have e3 : lk c r = rn (c :: r) := by rw [lk, if_pos hm]
  have hP : ∀ w', LyPost w0 c r O n w' = ∃ lv', Ly w0.heap.size w' lv' (O ++ (43 :: codeL ((c :: r).take (rn (c :: r))) ++ [45])) (n + 1) ∧ Row w0 lv' (ints .i32 ((c :: r).drop (rn (c :: r)))) ∧ Below w0.heap.size w0 w' := fun w' => by rw [LyPost, e1, e2, e3]; rfl
  have hcode := fun v w' h' => oCode_any v ((c :: r).take (rn (c :: r))) w' h' (fun x hx => hg x (List.mem_of_mem_take hx)) (by rw [List.length_take]; omega)
  have hcl := codeL_len ((c :: r).take (rn (c :: r)))
  have hdl : 0 < ((c :: r).take (rn (c :: r))).length := by rw [List.length_take]; omega
  have hdl2 : ((c :: r).take (rn (c :: r))).length ≤ 5000 := by rw [List.length_take]; omega
  generalize LyPost w0 c r O n = Q at *
  have hrun2 : Calls Try.prog 115 #[.pointer (some ⟨w0.heap.size, 0, none⟩)] w fun e w' => ∃ rv lv', e = .returned rv ∧ Ly w0.heap.size w' lv' O n ∧ Row w0 rv (ints .i32 ((c :: r).take (rn (c :: r)))) ∧ Row w0 lv' (ints .i32 ((c :: r).drop (rn (c :: r)))) ∧ Below w0.heap.size w0 w' := hrun
  generalize codeL ((c :: r).take (rn (c :: r))) = C at *
  generalize (c :: r).take (rn (c :: r)) = d at *
  generalize (c :: r).drop (rn (c :: r)) = r1 at *
  have hC : C.length ≤ 40001 := by omega
  have HP := Lib.hid hP; have HRUN := Lib.hid hrun2; have HCODE := Lib.hid hcode
  clear hP hrun hrun2 hcode e1 e2 e3 hcl hml hm hg
  go_enter Try.func89, Try.ntmps89
  go_wp2_with fail
  refine (HRUN.out).mono ?_
  rintro e w1 ⟨rv, lv1, rfl, hly, rr, rl, hc1⟩
  obtain ⟨ad, bd, od, cd, rfl, _⟩ := id rr.op
  obtain ⟨ov, q0, q1, q2, qf, qo, qB⟩ := id hly
  go_wp2_with (first | (at_builtin; refine wpList_app slT_u8 _ _ _ rfl rfl rfl rfl (qo.alloc _) (Row.ilit [43] [_] rfl (by simp)) (by simp [ints]; omega) (by simp; omega) ?_; intro t2 w2 hown2 hg2; rw [← ints_append] at hown2; have hb2 : Below (w0.heap.size + 1) w1 w2 := below_own ((Below.refl _ w1).alloc qB _) (qo.alloc _) hg2 (by simp; omega) (Nat.le_refl _); have hs2 := hb2.size) | (go_at_call 33; refine (HCODE.out _ _ (rr.below (hc1.trans (hb2.mono (Nat.le_succ _))))).mono ?_; rintro e w3 ⟨t3, rfl, ho3, hb3⟩; have hb3' : Below (w0.heap.size + 1) w1 w3 := hb2.trans (hb3.mono (by omega)); have hs3 := hb3'.size; have hown3 := hown2.below hb3) | (at_builtin; refine wpList_app slT_u8 _ _ _ rfl rfl rfl rfl hown3 ho3.row (by simp [ints]; omega) (by omega) ?_; intro t4 w4 hown4 hg4; rw [← ints_append] at hown4; have hb4 : Below (w0.heap.size + 1) w1 w4 := below_own hb3' hown3 hg4 (by omega) (Nat.le_refl _); have hs4 := hb4.size) | (at_builtin; refine wpList_app slT_u8 _ _ _ rfl rfl rfl rfl (hown4.alloc _) (Row.ilit [45] [_] rfl (by simp)) (by simp [ints]; omega) (by simp; omega) ?_; intro t5 w5 hown5 hg5; rw [← ints_append] at hown5; have hb5 : Below (w0.heap.size + 1) w1 w5 := below_own (hb4.alloc (by omega) _) (hown4.alloc _) hg5 (by simp; omega) (Nat.le_refl _); have d1 := (hb5.cell (p := ⟨w0.heap.size, 1, none⟩) (Nat.lt_succ_self _)).trans q1; have d2 := (hb5.cell (p := ⟨w0.heap.size, 2, none⟩) (Nat.lt_succ_self _)).trans q2; have f1 := (hb5.frozen (p := ⟨w0.heap.size, 1, none⟩) (Nat.lt_succ_self _)).trans (qf 1); have f2 := (hb5.frozen (p := ⟨w0.heap.size, 2, none⟩) (Nat.lt_succ_self _)).trans (qf 2); obtain ⟨a5, b5, o5, c5, rfl, _⟩ := id hown5.row.op))
  (try simp only [Exit.inBlock, Exit.then])
  refine bodyPost_ret (results_none rfl _ _ _) rfl ?_
  refine ⟨⟨_, rfl⟩, ?_⟩
  rw [HP.out]
  refine ⟨lv1, ?_, rl, (((hc1.trans (hb5.mono (Nat.le_succ _))).setCell (p := ⟨w0.heap.size, 1, none⟩) (Nat.le_refl _) _).setCell (p := ⟨w0.heap.size, 2, none⟩) (Nat.le_refl _) _)⟩
  rw [show O ++ (43 :: C ++ [45]) = O ++ [43] ++ C ++ [45] by simp]
  exact (Ly.setO q0 q1 q2 qf qB hb5 (hown5.len_eq (by simp))).setN _
set_option maxRecDepth 100000 in
theorem lstep0_any (w0 w : World) (lv : Value) (c : Int) (r O : List Int) (n : Int) (h : Ly w0.heap.size w lv O n) (hr : Row w0 lv (ints .i32 (c :: r))) (hb0 : Below w0.heap.size w0 w) (hg : R32 (c :: r)) (hl : (c :: r).length ≤ 5000) (hO : O.length ≤ 100000) (hm : rn (c :: r) = 0) :
    Calls Try.prog 89 #[.pointer (some ⟨w0.heap.size, 0, none⟩)] w fun e w' => (∃ v, e = .returned v) ∧ LyPost w0 c r O n w' := by
  have hrun := run_any w0 w lv c r O n h hr hb0 hg (by omega)
  have e1 : lo c r = if c = 43 then [43, 45] else [c] := by rw [lo, if_neg (by omega)]
  have e2 : ln c r = 0 := by rw [ln, if_neg (by omega)]
  have e3 : lk c r = 1 := by rw [lk, if_neg (by omega)]
  have hP : ∀ w', LyPost w0 c r O n w' = ∃ lv', Ly w0.heap.size w' lv' (O ++ if c = 43 then [43, 45] else [c]) n ∧ Row w0 lv' (ints .i32 r) ∧ Below w0.heap.size w0 w' := fun w' => by rw [LyPost, e1, e2, e3]; simp
  have hcc : 0 ≤ c ∧ c < 128 := by
    by_cases h43 : c = 43
    · omega
    · rw [rn, if_neg h43, dn] at hm
      split at hm
      · rename_i hd
        rw [dirB] at hd
        rcases Bool.or_eq_true _ _ |>.mp hd with h1 | h1
        · have := of_decide_eq_true h1; omega
        · have := List.contains_iff_mem.1 h1
          simp [dirL] at this
          omega
      · omega
  rw [hm] at hrun
  have hrun2 : Calls Try.prog 115 #[.pointer (some ⟨w0.heap.size, 0, none⟩)] w fun e w' => ∃ rv lv', e = .returned rv ∧ Ly w0.heap.size w' lv' O n ∧ Row w0 rv (ints .i32 []) ∧ Row w0 lv' (ints .i32 (c :: r)) ∧ Below w0.heap.size w0 w' := hrun
  generalize LyPost w0 c r O n = Q at *
  have HP := Lib.hid hP; have HRUN := Lib.hid hrun2
  have hc0 := hcc.1
  have hc1' := hcc.2
  clear hP hrun hrun2 e1 e2 e3 hm hg hcc
  rcases Decidable.em (c = 43) with rfl | h43
  case' inr => have hne : (c == 43) = false := beq_false_of_ne h43
  all_goals
    go_enter Try.func89, Try.ntmps89
    go_wp2_with fail
    refine (HRUN.out).mono ?_
    rintro e w1 ⟨rv, lv1, rfl, hly, rr, rl, hc1⟩
    obtain ⟨ad, bd, od, cd, rfl, _⟩ := id rr.op
    go_wp2_with (first | (go_at_call 116; refine (one_any w0 w1 lv1 _ r O n hly rl hc1).mono ?_; rintro e w2 ⟨lv2, rfl, hly2, rl2, hc2⟩; obtain ⟨ov, q0, q1, q2, qf, qo, qB⟩ := id hly2; have qs := qo) | (at_builtin; refine wpList_app slT_u8 _ _ _ rfl rfl rfl rfl (qo.alloc _) (Row.ilit [_] [_] rfl (by simp)) (by simp [ints]; omega) (by simp; omega) ?_; intro t3 w3 hown3 hg3; rw [← ints_append] at hown3; have hb3 : Below (w0.heap.size + 1) w2 w3 := below_own ((Below.refl _ w2).alloc qB _) (qo.alloc _) hg3 (by simp; omega) (Nat.le_refl _); have d1 := (hb3.cell (p := ⟨w0.heap.size, 1, none⟩) (Nat.lt_succ_self _)).trans q1; have f1 := (hb3.frozen (p := ⟨w0.heap.size, 1, none⟩) (Nat.lt_succ_self _)).trans (qf 1); obtain ⟨a3, b3, o3, c3, rfl, _⟩ := id hown3.row.op; replace hown3 := hown3.len_eq (m := O.length + 1) (by simp); have rlit : Row ((w3.setCell ⟨w0.heap.size, 1, none⟩ (Value.slice a3 (O.length + 1) c3)).alloc (.cells #[.int .u8 45] 5)) (.slice (some ⟨w3.heap.size, 0, none⟩) 1 1) (ints .u8 [45]) := (by have h9 := Row.ilit (w := w3.setCell ⟨w0.heap.size, 1, none⟩ (Value.slice a3 (O.length + 1) c3)) (E := 5) [45] [.int .u8 45] rfl (by simp); rw [World.size_setCell] at h9; exact h9); have hS := Ly.setO q0 q1 q2 qf qB hb3 hown3; obtain ⟨ov', s0, s1, s2, sf, so, sB⟩ := id hS; clear qo) | (at_builtin; refine wpList_app slT_u8 _ _ _ rfl rfl rfl rfl (so.alloc _) rlit (by simp [ints]; omega) (Nat.le_trans sB (by rw [World.size_alloc]; omega)) ?_; intro t4 w4 hown4 hg4; rw [← ints_append] at hown4; have hb4 : Below (w0.heap.size + 1) (w3.setCell ⟨w0.heap.size, 1, none⟩ (Value.slice a3 (O.length + 1) c3)) w4 := below_own ((Below.refl _ _).alloc sB _) (so.alloc _) hg4 (Nat.le_trans sB (by rw [World.size_alloc]; omega)) (Nat.le_refl _); have k1 := (hb4.cell (p := ⟨w0.heap.size, 1, none⟩) (Nat.lt_succ_self _)).trans s1; have g1 := (hb4.frozen (p := ⟨w0.heap.size, 1, none⟩) (Nat.lt_succ_self _)).trans (sf 1); obtain ⟨a4, b4, o4, c4, rfl, _⟩ := id hown4.row.op))
    go_end0
    refine ⟨⟨_, rfl⟩, ?_⟩
    rw [HP.out]
    first
      | (refine ⟨lv2, ?_, rl2, ((hc2.trans (hb3.mono (Nat.le_succ _))).setCell (p := ⟨w0.heap.size, 1, none⟩) (Nat.le_refl _) _).trans (hb4.mono (Nat.le_succ _)) |>.setCell (p := ⟨w0.heap.size, 1, none⟩) (Nat.le_refl _) _⟩
         rw [if_pos (by trivial), show O ++ [43, 45] = O ++ [43] ++ [45] by simp]
         exact Ly.setO s0 s1 s2 sf sB hb4 (hown4.len_eq (by simp)))
      | (refine ⟨lv2, ?_, rl2, (hc2.trans (hb3.mono (Nat.le_succ _))).setCell (p := ⟨w0.heap.size, 1, none⟩) (Nat.le_refl _) _⟩
         rw [if_neg (by assumption)]
         exact hS)
end Go.Proofs.Ytieeafkbgmpofaa
