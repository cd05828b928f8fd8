/- Walks: wide texts: reading, by the reference. -/
import Derived.Test.YtgfdebijcpdhbaaW45m
import Derived.Test.YtgfdebijcpdhbaaP45d
namespace Go.Proofs.Ytgfdebijcpdhbaa
open Go.RowKit
set_option maxHeartbeats 1000000
set_option maxRecDepth 100000 in
theorem rReadB2_any (v : Value) (xs : List Int) (w : World) (h : Row w v (ints .u8 xs)) (hg : Rg 0 256 xs) (hl : xs.length ≤ 10000) :
    Calls Try.prog 12 #[.int .i64 2, .bool true, v] w fun e w' => RdP w (readT 2 true xs) (readE 2 true xs) e w' := by
  obtain ⟨a, b, off, cp, rfl, _⟩ := id h.op
  have eT : readT 2 true xs = if overW 2 xs then textW 2 (num2 xs) ++ [65533] else textW 2 (num2 xs) := if_pos (by decide)
  have eE : readE 2 true xs = if overW 2 xs then 4 else if rightW 2 (num2 xs) then 0 else 3 := if_pos (by decide)
  have hg1 := hg
  have hl1 := hl
  generalize readT 2 true xs = RT at *
  generalize readE 2 true xs = RE at *
  have hdiv : (xs.length : Int) / 2 = ((xs.length / 2 : Nat) : Int) := by omega
  have hov : overW 2 xs = decide (2 * (xs.length / 2) < xs.length) := by
    show decide (0 < xs.length % 2) = _
    rw [decide_eq_decide]; omega
  rw [hov] at eT eE
  have hm : 2 * (xs.length / 2) ≤ xs.length := by omega
  have hfr := num2_from xs
  have hev : (xs.take (2 * (xs.length / 2))).length % 2 = 0 := by rw [List.length_take, Nat.min_eq_left hm]; omega
  have hFO := fun v w' h' => rFrom_any v (xs.take (2 * (xs.length / 2))) w' h' (hg1.take _) (by rw [List.length_take]; omega)
  rw [fromR_even hev, hfr] at hFO
  have hnl := num2_len xs
  have hRD := fun v w' h' => rread_any v (num2 xs) w' h' (num2_rng _ hg1) (by omega)
  have hTl := textW_len 2 (num2 xs)
  have e1 : textW 2 (num2 xs) = (uread (num2 xs)).map Prod.fst := rfl
  have e2 : rightW 2 (num2 xs) = (ferr ((uread (num2 xs)).map Prod.snd) == 0) := rfl
  rw [e1] at eT hTl
  rw [e2] at eE
  clear e1 e2 hfr hev hov
  generalize (uread (num2 xs)).map Prod.fst = T at *
  generalize ferr ((uread (num2 xs)).map Prod.snd) = f at *
  have HTL : Hid (T.length ≤ 10000) := by show _ ≤ _; omega
  obtain ⟨m, hmm⟩ : ∃ m, m = xs.length / 2 := ⟨_, rfl⟩
  rw [← hmm] at hdiv hm hFO eT eE
  have HFO := Lib.hid hFO; have HRD := Lib.hid hRD
  clear hFO hRD hTl hnl hmm
  have hm2 : (m : Int) * 2 ≤ xs.length := by omega
  have hm3 : ((m : Int) * 2).toNat = 2 * m := by omega
  have hlt9 : ((m : Int) * 2 < xs.length) = (2 * m < xs.length) := by rw [eq_iff_iff]; omega
  rcases Decidable.em (2 * m < xs.length) with ho | ho
  · rw [decide_eq_true ho] at eT eE
    have ET := Lib.hid eT; have EE := Lib.hid eE
    have ho2 : (m : Int) * 2 < xs.length := by omega
    clear eT eE ho hlt9
    rcases Decidable.em (f = 0) with hf | hf
    case' inl => have hff : (f != 0) = false := by rw [hf]; rfl
    case' inr => have hff : (f != 0) = true := by rw [bne, beq_false_of_ne hf]; rfl
    all_goals
      clear hf
      go_enter Try.func12, Try.ntmps12
      go_wp2_with (first | (refine wpList_slH slT_u8 _ _ rfl rfl rfl rfl h (by omega) (by simp [ints]; omega) ?_; intro v2 hv2; have r2 := hv2 w h; rw [hm3, ints_take] at r2; clear hv2) | (go_at_call 29; refine (HFO.out _ _ r2).mono ?_; rintro e w3 ⟨t3, rfl, ho3, hb3⟩) | (go_at_call 30; refine (HRD.out _ _ ho3.row).mono ?_; rintro e w4 ⟨t4, rfl, ho4, hb4⟩; have ho5 := ho4.mono hb3.size; have hb5 := below_trans hb3 hb4; have hz5 := hb5.size) | (at_builtin; refine wpList_app slT_i32 _ _ _ rfl rfl rfl rfl (ho5.alloc _) (Row.ilit [65533] [_] rfl (by simp)) (by have := HTL.out; rw [ints_length, ints_length]; simp only [List.length_cons, List.length_nil]; omega) (by simp; omega) ?_; intro t6 w6 hown6 hg6))
      have hb6 := below_app hb5 (below_alloc _ _) (ho5.alloc _) hg6
      rw [← ints_append] at hown6
      go_ret2
      exact RdP.mk ET.out EE.out hown6 hb6
  · rw [decide_eq_false ho] at eT eE
    have ho2 : ¬ ((m : Int) * 2 < xs.length) := by omega
    clear ho hlt9
    rcases Decidable.em (f = 0) with hf | hf
    case' inl => have hff : (f != 0) = false := by rw [hf]; rfl
    case' inl => rw [show (f == 0) = true from by rw [hf]; rfl] at eE
    case' inr => have hff : (f != 0) = true := by rw [bne, beq_false_of_ne hf]; rfl
    case' inr => rw [beq_false_of_ne hf] at eE
    all_goals
      have ET := Lib.hid eT; have EE := Lib.hid eE
      clear hf eT eE
      go_enter Try.func12, Try.ntmps12
      go_wp2_with (first | (refine wpList_slH slT_u8 _ _ rfl rfl rfl rfl h (by omega) (by simp [ints]; omega) ?_; intro v2 hv2; have r2 := hv2 w h; rw [hm3, ints_take] at r2; clear hv2) | (go_at_call 29; refine (HFO.out _ _ r2).mono ?_; rintro e w3 ⟨t3, rfl, ho3, hb3⟩) | (go_at_call 30; refine (HRD.out _ _ ho3.row).mono ?_; rintro e w4 ⟨t4, rfl, ho4, hb4⟩; have ho5 := ho4.mono hb3.size; have hb5 := below_trans hb3 hb4))
      go_ret2
      exact RdP.mk ET.out EE.out ho5 hb5
set_option maxRecDepth 100000 in
theorem rReadL2_any (v : Value) (xs : List Int) (w : World) (h : Row w v (ints .u8 xs)) (hg : Rg 0 256 xs) (hl : xs.length ≤ 10000) :
    Calls Try.prog 12 #[.int .i64 2, .bool false, v] w fun e w' => RdP w (readT 2 false xs) (readE 2 false xs) e w' := by
  obtain ⟨a, b, off, cp, rfl, _⟩ := id h.op
  have eT : readT 2 false xs = if overW 2 xs then textW 2 (num2 (sw2 xs)) ++ [65533] else textW 2 (num2 (sw2 xs)) := if_pos (by decide)
  have eE : readE 2 false xs = if overW 2 xs then 4 else if rightW 2 (num2 (sw2 xs)) then 0 else 3 := if_pos (by decide)
  have hsw := rSwap2_any _ xs w h (by omega)
  have hg1 := sw2_rng xs hg
  have hle := sw2_len xs
  have hl1 : (sw2 xs).length ≤ 10000 := by omega
  rw [← overW_len (wd := 2) hle] at eT eE
  generalize sw2 xs = ys at *
  have HSW := Lib.hid hsw
  clear hsw hle
  generalize readT 2 false xs = RT at *
  generalize readE 2 false xs = RE at *
  have hdiv : (ys.length : Int) / 2 = ((ys.length / 2 : Nat) : Int) := by omega
  have hov : overW 2 ys = decide (2 * (ys.length / 2) < ys.length) := by
    show decide (0 < ys.length % 2) = _
    rw [decide_eq_decide]; omega
  rw [hov] at eT eE
  have hm : 2 * (ys.length / 2) ≤ ys.length := by omega
  have hfr := num2_from ys
  have hev : (ys.take (2 * (ys.length / 2))).length % 2 = 0 := by rw [List.length_take, Nat.min_eq_left hm]; omega
  have hFO := fun v w' h' => rFrom_any v (ys.take (2 * (ys.length / 2))) w' h' (hg1.take _) (by rw [List.length_take]; omega)
  rw [fromR_even hev, hfr] at hFO
  have hnl := num2_len ys
  have hRD := fun v w' h' => rread_any v (num2 ys) w' h' (num2_rng _ hg1) (by omega)
  have hTl := textW_len 2 (num2 ys)
  have e1 : textW 2 (num2 ys) = (uread (num2 ys)).map Prod.fst := rfl
  have e2 : rightW 2 (num2 ys) = (ferr ((uread (num2 ys)).map Prod.snd) == 0) := rfl
  rw [e1] at eT hTl
  rw [e2] at eE
  clear e1 e2 hfr hev hov
  generalize (uread (num2 ys)).map Prod.fst = T at *
  generalize ferr ((uread (num2 ys)).map Prod.snd) = f at *
  have HTL : Hid (T.length ≤ 10000) := by show _ ≤ _; omega
  obtain ⟨m, hmm⟩ : ∃ m, m = ys.length / 2 := ⟨_, rfl⟩
  rw [← hmm] at hdiv hm hFO eT eE
  have HFO := Lib.hid hFO; have HRD := Lib.hid hRD
  clear hFO hRD hTl hnl hmm
  have hm2 : (m : Int) * 2 ≤ ys.length := by omega
  have hm3 : ((m : Int) * 2).toNat = 2 * m := by omega
  have hlt9 : ((m : Int) * 2 < ys.length) = (2 * m < ys.length) := by rw [eq_iff_iff]; omega
  rcases Decidable.em (2 * m < ys.length) with ho | ho
  · rw [decide_eq_true ho] at eT eE
    have ET := Lib.hid eT; have EE := Lib.hid eE
    have ho2 : (m : Int) * 2 < ys.length := by omega
    clear eT eE ho hlt9
    rcases Decidable.em (f = 0) with hf | hf
    case' inl => have hff : (f != 0) = false := by rw [hf]; rfl
    case' inr => have hff : (f != 0) = true := by rw [bne, beq_false_of_ne hf]; rfl
    all_goals
      clear hf
      go_enter Try.func12, Try.ntmps12
      go_wp2_with (first | (go_at_call 17; refine (HSW.out).mono ?_; rintro e w1 ⟨t1, rfl, ho1, hb1⟩; have h1 := ho1.row; clear ho1; obtain ⟨at1, bt1, ot1, ct1, rfl, _⟩ := id h1.op) | (refine wpList_slH slT_u8 _ _ rfl rfl rfl rfl h1 (by omega) (by simp [ints]; omega) ?_; intro v2 hv2; have r2 := hv2 w1 h1; rw [hm3, ints_take] at r2; clear hv2) | (go_at_call 29; refine (HFO.out _ _ r2).mono ?_; rintro e w3 ⟨t3, rfl, ho3, hb3⟩) | (go_at_call 30; refine (HRD.out _ _ ho3.row).mono ?_; rintro e w4 ⟨t4, rfl, ho4, hb4⟩; have ho5 := ho4.mono hb3.size; have hb5 := below_trans hb3 hb4; have hz5 := hb5.size) | (at_builtin; refine wpList_app slT_i32 _ _ _ rfl rfl rfl rfl (ho5.alloc _) (Row.ilit [65533] [_] rfl (by simp)) (by have := HTL.out; rw [ints_length, ints_length]; simp only [List.length_cons, List.length_nil]; omega) (by simp; omega) ?_; intro t6 w6 hown6 hg6))
      have hb6 := below_app hb5 (below_alloc _ _) (ho5.alloc _) hg6
      rw [← ints_append] at hown6
      go_ret2
      exact RdP.mk ET.out EE.out (hown6.mono hb1.size) (below_trans hb1 hb6)
  · rw [decide_eq_false ho] at eT eE
    have ho2 : ¬ ((m : Int) * 2 < ys.length) := by omega
    clear ho hlt9
    rcases Decidable.em (f = 0) with hf | hf
    case' inl => have hff : (f != 0) = false := by rw [hf]; rfl
    case' inl => rw [show (f == 0) = true from by rw [hf]; rfl] at eE
    case' inr => have hff : (f != 0) = true := by rw [bne, beq_false_of_ne hf]; rfl
    case' inr => rw [beq_false_of_ne hf] at eE
    all_goals
      have ET := Lib.hid eT; have EE := Lib.hid eE
      clear hf eT eE
      go_enter Try.func12, Try.ntmps12
      go_wp2_with (first | (go_at_call 17; refine (HSW.out).mono ?_; rintro e w1 ⟨t1, rfl, ho1, hb1⟩; have h1 := ho1.row; clear ho1; obtain ⟨at1, bt1, ot1, ct1, rfl, _⟩ := id h1.op) | (refine wpList_slH slT_u8 _ _ rfl rfl rfl rfl h1 (by omega) (by simp [ints]; omega) ?_; intro v2 hv2; have r2 := hv2 w1 h1; rw [hm3, ints_take] at r2; clear hv2) | (go_at_call 29; refine (HFO.out _ _ r2).mono ?_; rintro e w3 ⟨t3, rfl, ho3, hb3⟩) | (go_at_call 30; refine (HRD.out _ _ ho3.row).mono ?_; rintro e w4 ⟨t4, rfl, ho4, hb4⟩; have ho5 := ho4.mono hb3.size; have hb5 := below_trans hb3 hb4))
      go_ret2
      exact RdP.mk ET.out EE.out (ho5.mono hb1.size) (below_trans hb1 hb5)
end Go.Proofs.Ytgfdebijcpdhbaa
