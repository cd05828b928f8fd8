/- The statements of layer 5, walked: there and back; mended. -/
import Derived.Test.YthjenihaogihpaaS05
namespace Go.Proofs.Ythjenihaogihpaa
open Go.RowKit
set_option maxHeartbeats 1000000

set_option maxRecDepth 100000 in
theorem UtfallBack_walk (v0 : Value) (ts : List Int) (v1 : Value) (xs : List Int) (w : World) (h0 : Row w v0 (ints .i32 ts)) (g0 : WF .i32 ts) (h1 : Row w v1 (ints .u8 xs)) (g1 : WF .u8 xs) :
    Calls Try.prog 10 #[v0, v1] w fun e w' => e = .returned (.bool true) ∧ Below w.heap.size w w' := by
  obtain ⟨a, b, off, cap, rfl, _⟩ := id h0.op
  obtain ⟨a', b', off', cap', rfl, _⟩ := id h1.op
  have hb := Below.refl w.heap.size w
  by_cases hl : ts.length ≤ 500 ∧ xs.length ≤ 1000
  · obtain ⟨hl0, hl1⟩ := hl
    have hn1 : ¬ (500 : Int) < (ts.length : Int) := by omega
    have hn2 : ¬ (1000 : Int) < (xs.length : Int) := by omega
    have hA := fun w' h' => eLay_any (.slice a ts.length cap) ts w' h' g0.i32 (by omega)
    have hS := fun v w' h' => eStrict_any v xs w' h' g1.b (by omega)
    have hT := fun v w' h' => eRight_any v xs w' h' g1.b (by omega)
    have hsc := etext_sc g1.b
    have hxl := eread_len xs
    rw [← etext_len] at hxl
    have hY := fun v w' h' => eLay_any v (etext xs) w' h' (scB_32 hsc) (by omega)
    rw [show elayR (etext xs) = (elay (etext xs), 0) by rw [elayR, if_pos hsc]] at hY
    have hbk : eerr xs = 0 → elay (etext xs) = xs := fun h => elay_etext g1.b ((eerr_iff xs).1 h)
    have hbad : (((ebad xs : Nat) : Int) == 0) = (eerr xs == 0) := by
      rw [Bool.eq_iff_iff, beq_iff_eq, beq_iff_eq, eerr_iff, ← ebad_iff]; omega
    rw [hbad] at hT
    generalize eerr xs = q at *
    generalize etext xs = us at *
    have HS := Lib.hid hS; have HT := Lib.hid hT; have HY := Lib.hid hY; have HBK := Lib.hid hbk
    clear hS hT hY hbk hbad hsc
    rcases Bool.eq_false_or_eq_true (allSc ts) with hs | hs
    case' inl =>
      rw [show elayR ts = (elay ts, 0) by rw [elayR, if_pos hs]] at hA
      have he1 := elay_len ts
      have hr := elay_rng ts
      have hS2 := fun v w' h' => eStrict_any v (elay ts) w' h' hr (by omega)
      have hR2 := fun v w' h' => eRead_any v (elay ts) w' h' hr (by omega)
      have hC2 := fun v w' h' => eCount_any v (elay ts) w' h' hr (by omega)
      rw [eerr_elay hs, etext_elay hs, strictL, if_pos rfl] at hS2
      rw [etext_elay hs] at hR2
      rw [ecount_elay hs] at hC2
      have hL2 := fun v w' h' => eLen_any v ts w' h' g0.i32 (by omega)
      rw [elen_eq] at hL2
      generalize elay ts = os at *
      have HA := Lib.hid hA; have HS2 := Lib.hid hS2; have HR2 := Lib.hid hR2; have HC2 := Lib.hid hC2; have HL2 := Lib.hid hL2
      clear hA hS2 hR2 hC2 hL2 hs hr
      go_enter Try.func10, Try.ntmps10
      go_wp2_with fail
      refine (HA.out _ h0).mono ?_
      rintro e w1 ⟨va, rfl, ho1, hb1⟩
      replace hb := (by first | exact below_trans hb hb1 | exact below_trans (hb.alloc hb.size _) hb1 | exact below_trans ((hb.alloc hb.size _).alloc (hb.alloc hb.size _).size _) hb1 : Below w.heap.size w _)
      have r1 := ho1.row
      clear ho1 hb1
      obtain ⟨a1, b1, o1, c1, rfl, _⟩ := id r1.op
      go_wp2_with fail
      refine (HS2.out _ _ r1).mono ?_
      rintro e w2 ⟨vb, rfl, ho2, hb2⟩
      replace hb := (by first | exact below_trans hb hb2 | exact below_trans (hb.alloc hb.size _) hb2 | exact below_trans ((hb.alloc hb.size _).alloc (hb.alloc hb.size _).size _) hb2 : Below w.heap.size w _)
      replace r1 := r1.below hb2
      have r2 := ho2.row
      clear ho2 hb2
      go_wp2_with fail
      refine (like3_any _ _ ts ts _ r2 (h0.below hb) (by omega) (by omega)).mono ?_
      rintro e w3 ⟨rfl, hb3⟩
      replace hb := (by first | exact below_trans hb hb3 | exact below_trans (hb.alloc hb.size _) hb3 | exact below_trans ((hb.alloc hb.size _).alloc (hb.alloc hb.size _).size _) hb3 : Below w.heap.size w _)
      rw [decide_eq_true rfl]
      replace r1 := r1.below hb3
      clear r2 hb3
      go_wp2_with fail
      refine (HR2.out _ _ r1).mono ?_
      rintro e w4 ⟨vc, rfl, ho4, hb4⟩
      replace hb := (by first | exact below_trans hb hb4 | exact below_trans (hb.alloc hb.size _) hb4 | exact below_trans ((hb.alloc hb.size _).alloc (hb.alloc hb.size _).size _) hb4 : Below w.heap.size w _)
      replace r1 := r1.below hb4
      have r4 := ho4.row
      clear ho4 hb4
      go_wp2_with fail
      refine (like3_any _ _ ts ts _ r4 (h0.below hb) (by omega) (by omega)).mono ?_
      rintro e w5 ⟨rfl, hb5⟩
      replace hb := (by first | exact below_trans hb hb5 | exact below_trans (hb.alloc hb.size _) hb5 | exact below_trans ((hb.alloc hb.size _).alloc (hb.alloc hb.size _).size _) hb5 : Below w.heap.size w _)
      rw [decide_eq_true rfl]
      replace r1 := r1.below hb5
      clear r4 hb5
      go_wp2_with fail
      refine (HC2.out _ _ r1).mono ?_
      rintro e w6 ⟨rfl, hb6⟩
      replace hb := (by first | exact below_trans hb hb6 | exact below_trans (hb.alloc hb.size _) hb6 | exact below_trans ((hb.alloc hb.size _).alloc (hb.alloc hb.size _).size _) hb6 : Below w.heap.size w _)
      clear hb6 r1
      go_wp2_with fail
      refine (HL2.out _ _ (h0.below hb)).mono ?_
      rintro e w' ⟨rfl, rfl⟩
    case' inr =>
      rw [show elayR ts = ([], 7) by rw [elayR, if_neg (by simp [hs])]] at hA
      have HA := Lib.hid hA
      clear hA hs
      go_enter Try.func10, Try.ntmps10
      go_wp2_with fail
      refine (HA.out _ h0).mono ?_
      rintro e w6 ⟨va, rfl, ho1, hb1⟩
      replace hb := (by first | exact below_trans hb hb1 | exact below_trans (hb.alloc hb.size _) hb1 | exact below_trans ((hb.alloc hb.size _).alloc (hb.alloc hb.size _).size _) hb1 : Below w.heap.size w _)
      clear ho1 hb1
    all_goals
      go_wp2_with fail
      refine (HS.out _ _ (h1.below hb)).mono ?_
      rintro e w7 ⟨vd, rfl, ho7, hb7⟩
      replace hb := (by first | exact below_trans hb hb7 | exact below_trans (hb.alloc hb.size _) hb7 | exact below_trans ((hb.alloc hb.size _).alloc (hb.alloc hb.size _).size _) hb7 : Below w.heap.size w _)
      have r7 := ho7.row
      clear ho7 hb7
      by_cases hq : q = 0
      · subst hq
        have hbk := HBK.out (by first | trivial | rfl)
        rw [strictL, if_pos rfl] at r7
        have hY2 := HY.out
        rw [hbk] at hY2
        have HY2 := Lib.hid hY2
        clear hbk hY2 HY HBK
        go_wp2_with fail
        refine (HY2.out _ _ r7).mono ?_
        rintro e w8 ⟨ve, rfl, ho8, hb8⟩
        replace hb := (by first | exact below_trans hb hb8 | exact below_trans (hb.alloc hb.size _) hb8 | exact below_trans ((hb.alloc hb.size _).alloc (hb.alloc hb.size _).size _) hb8 : Below w.heap.size w _)
        have r8 := ho8.row
        clear ho8 hb8
        go_wp2_with fail
        refine (like1_any _ _ xs xs _ r8 (h1.below hb) (by omega) (by omega)).mono ?_
        rintro e w9 ⟨rfl, hb9⟩
        replace hb := (by first | exact below_trans hb hb9 | exact below_trans (hb.alloc hb.size _) hb9 | exact below_trans ((hb.alloc hb.size _).alloc (hb.alloc hb.size _).size _) hb9 : Below w.heap.size w _)
        rw [decide_eq_true rfl]
        clear r8 hb9
        go_wp2_with fail
        refine (alive05_any _).mono ?_
        rintro e w10 ⟨rfl, hb10⟩
        replace hb := (by first | exact below_trans hb hb10 | exact below_trans (hb.alloc hb.size _) hb10 | exact below_trans ((hb.alloc hb.size _).alloc (hb.alloc hb.size _).size _) hb10 : Below w.heap.size w _)
        clear hb10
        go_wp2
        go_ret
        exact ⟨rfl, hb⟩
      · have hq1 : (q == 0) = false := by simpa using hq
        have hq2 : (q != 0) = true := by simpa using hq
        clear r7 hq HBK
        go_wp2_with fail
        refine (HT.out _ _ (h1.below hb)).mono ?_
        rintro e w8 ⟨rfl, hb8⟩
        replace hb := (by first | exact below_trans hb hb8 | exact below_trans (hb.alloc hb.size _) hb8 | exact below_trans ((hb.alloc hb.size _).alloc (hb.alloc hb.size _).size _) hb8 : Below w.heap.size w _)
        rw [hq1]
        clear hb8
        go_wp2_with fail
        refine (alive05_any _).mono ?_
        rintro e w10 ⟨rfl, hb10⟩
        replace hb := (by first | exact below_trans hb hb10 | exact below_trans (hb.alloc hb.size _) hb10 | exact below_trans ((hb.alloc hb.size _).alloc (hb.alloc hb.size _).size _) hb10 : Below w.heap.size w _)
        clear hb10
        go_wp2
        go_ret
        exact ⟨rfl, hb⟩
  · rcases (by omega : 500 < ts.length ∨ (ts.length ≤ 500 ∧ 1000 < xs.length)) with hh | ⟨hh, hk⟩
    · have hn1 : (500 : Int) < (ts.length : Int) := by omega
      go_enter Try.func10, Try.ntmps10
      go_wp2_with fail
      refine (alive05_any _).mono ?_
      rintro e w5 ⟨rfl, hb5⟩
      replace hb := (by first | exact below_trans hb hb5 | exact below_trans (hb.alloc hb.size _) hb5 | exact below_trans ((hb.alloc hb.size _).alloc (hb.alloc hb.size _).size _) hb5 : Below w.heap.size w _)
      go_wp2
      go_ret
      exact ⟨rfl, hb⟩
    · have hn1 : ¬ (500 : Int) < (ts.length : Int) := by omega
      have hn2 : (1000 : Int) < (xs.length : Int) := by omega
      go_enter Try.func10, Try.ntmps10
      go_wp2_with fail
      refine (alive05_any _).mono ?_
      rintro e w5 ⟨rfl, hb5⟩
      replace hb := (by first | exact below_trans hb hb5 | exact below_trans (hb.alloc hb.size _) hb5 | exact below_trans ((hb.alloc hb.size _).alloc (hb.alloc hb.size _).size _) hb5 : Below w.heap.size w _)
      go_wp2
      go_ret
      exact ⟨rfl, hb⟩

set_option maxRecDepth 100000 in
theorem UtfallMends_walk (v : Value) (xs : List Int) (w : World) (h : Row w v (ints .u8 xs)) (g : WF .u8 xs) :
    Calls Try.prog 9 #[v] w fun e w' => e = .returned (.bool true) ∧ Below w.heap.size w w' := by
  obtain ⟨a, b, off, cap, rfl, _⟩ := id h.op
  have hb := Below.refl w.heap.size w
  by_cases hl : xs.length ≤ 1000
  · have hg1 : ¬ (1000 : Int) < (xs.length : Int) := by omega
    have hsc := etext_sc g.b
    have hxl := eread_len xs
    have hpos := eread_pos xs
    rw [← etext_len] at hxl hpos
    have hR := fun w' h' => eRead_any (.slice a xs.length cap) xs w' h' g.b (by omega)
    have hM := fun w' h' => eMend_any (.slice a xs.length cap) xs w' h' g.b (by omega)
    generalize etext xs = us at *
    have he1 := elay_len us
    have hr := elay_rng us
    have hF := fun v w' h' => rfirst_any v us w' h' (by omega)
    rw [idx_none_sc hsc] at hF
    have hR2 := fun v w' h' => eRead_any v (elay us) w' h' hr (by omega)
    have hT2 := fun v w' h' => eRight_any v (elay us) w' h' hr (by omega)
    have hM2 := fun v w' h' => eMend_any v (elay us) w' h' hr (by omega)
    rw [etext_elay hsc] at hR2 hM2
    rw [ebad_elay hsc] at hT2
    generalize elay us = ms at *
    have HR := Lib.hid hR; have HM := Lib.hid hM; have HF := Lib.hid hF; have HR2 := Lib.hid hR2; have HT2 := Lib.hid hT2; have HM2 := Lib.hid hM2
    clear hR hM hF hR2 hT2 hM2 hr
    have hml : ms.length ≤ 100000 := by omega
    clear he1
    have hle : (us.length : Int) ≤ (xs.length : Int) := by omega
    go_enter Try.func9, Try.ntmps9
    go_wp2_with fail
    refine (HR.out _ h).mono ?_
    rintro e w1 ⟨v1, rfl, ho1, hb1⟩
    replace hb := (by first | exact below_trans hb hb1 | exact below_trans (hb.alloc hb.size _) hb1 | exact below_trans ((hb.alloc hb.size _).alloc (hb.alloc hb.size _).size _) hb1 : Below w.heap.size w _)
    have r1 := ho1.row
    clear ho1 hb1
    go_wp2_with fail
    refine (HM.out _ (h.below hb)).mono ?_
    rintro e w2 ⟨v2, rfl, ho2, hb2⟩
    replace hb := (by first | exact below_trans hb hb2 | exact below_trans (hb.alloc hb.size _) hb2 | exact below_trans ((hb.alloc hb.size _).alloc (hb.alloc hb.size _).size _) hb2 : Below w.heap.size w _)
    replace r1 := r1.below hb2
    have r2 := ho2.row
    clear ho2 hb2
    obtain ⟨a1, b1, o1, c1, rfl, _⟩ := id r1.op
    go_wp2_with fail
    refine (HF.out _ _ r1).mono ?_
    rintro e w' ⟨rfl, rfl⟩
    rcases (by omega : (0 < us.length ∧ 0 < xs.length) ∨ (us.length = 0 ∧ xs.length = 0)) with ⟨hp1, hp2⟩ | ⟨hp1, hp2⟩
    case' inl =>
      have hp1' : (0 : Int) < (us.length : Int) := by omega
      have hp2' : (0 : Int) < (xs.length : Int) := by omega
      clear hpos
    case' inr =>
      obtain rfl : us = [] := List.eq_nil_of_length_eq_zero hp1
      obtain rfl : xs = [] := List.eq_nil_of_length_eq_zero hp2
      clear hpos hp1 hp2
    all_goals
      go_wp2_with fail
      refine (HR2.out _ _ r2).mono ?_
      rintro e w3 ⟨v3, rfl, ho3, hb3⟩
      replace hb := (by first | exact below_trans hb hb3 | exact below_trans (hb.alloc hb.size _) hb3 | exact below_trans ((hb.alloc hb.size _).alloc (hb.alloc hb.size _).size _) hb3 : Below w.heap.size w _)
      replace r1 := r1.below hb3
      replace r2 := r2.below hb3
      have r3 := ho3.row
      clear ho3 hb3
      go_wp2_with fail
      refine (like3_any _ _ _ _ _ r3 r1 (by first | omega | simp) (by first | omega | simp)).mono ?_
      rintro e w4 ⟨rfl, hb4⟩
      replace hb := (by first | exact below_trans hb hb4 | exact below_trans (hb.alloc hb.size _) hb4 | exact below_trans ((hb.alloc hb.size _).alloc (hb.alloc hb.size _).size _) hb4 : Below w.heap.size w _)
      rw [decide_eq_true rfl]
      replace r2 := r2.below hb4
      clear r3 r1 hb4
      go_wp2_with fail
      refine (HT2.out _ _ r2).mono ?_
      rintro e w5 ⟨rfl, hb5⟩
      replace hb := (by first | exact below_trans hb hb5 | exact below_trans (hb.alloc hb.size _) hb5 | exact below_trans ((hb.alloc hb.size _).alloc (hb.alloc hb.size _).size _) hb5 : Below w.heap.size w _)
      replace r2 := r2.below hb5
      clear hb5
      go_wp2_with fail
      refine (HM2.out _ _ r2).mono ?_
      rintro e w6 ⟨v6, rfl, ho6, hb6⟩
      replace hb := (by first | exact below_trans hb hb6 | exact below_trans (hb.alloc hb.size _) hb6 | exact below_trans ((hb.alloc hb.size _).alloc (hb.alloc hb.size _).size _) hb6 : Below w.heap.size w _)
      replace r2 := r2.below hb6
      have r6 := ho6.row
      clear ho6 hb6
      go_wp2_with fail
      refine (like1_any _ _ ms ms _ r6 r2 (by omega) (by omega)).mono ?_
      rintro e w7 ⟨rfl, hb7⟩
      replace hb := (by first | exact below_trans hb hb7 | exact below_trans (hb.alloc hb.size _) hb7 | exact below_trans ((hb.alloc hb.size _).alloc (hb.alloc hb.size _).size _) hb7 : Below w.heap.size w _)
      rw [decide_eq_true rfl]
      clear r6 r2 hb7
      go_wp2_with fail
      refine (alive05_any _).mono ?_
      rintro e w8 ⟨rfl, hb8⟩
      replace hb := (by first | exact below_trans hb hb8 | exact below_trans (hb.alloc hb.size _) hb8 | exact below_trans ((hb.alloc hb.size _).alloc (hb.alloc hb.size _).size _) hb8 : Below w.heap.size w _)
      clear hb8
      go_wp2
      go_ret
      exact ⟨rfl, hb⟩
  · have hg1 : (1000 : Int) < (xs.length : Int) := by omega
    go_enter Try.func9, Try.ntmps9
    go_wp2_with fail
    refine (alive05_any _).mono ?_
    rintro e w5 ⟨rfl, hb5⟩
    replace hb := (by first | exact below_trans hb hb5 | exact below_trans (hb.alloc hb.size _) hb5 | exact below_trans ((hb.alloc hb.size _).alloc (hb.alloc hb.size _).size _) hb5 : Below w.heap.size w _)
    go_wp2
    go_ret
    exact ⟨rfl, hb⟩
end Go.Proofs.Ythjenihaogihpaa
