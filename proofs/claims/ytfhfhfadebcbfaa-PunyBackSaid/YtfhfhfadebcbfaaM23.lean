/- Walks: the sort that calls itself. (Turned from the kit's worked walk of the same function at another element.) (laid together by program out of single texts). -/
import Derived.Sort.Walk13a
import Derived.Sort.AssemblyPlain
import Derived.Deep.Cut
import Derived.Test.YtfhfhfadebcbfaaM18
import Derived.Test.YtfhfhfadebcbfaaM19
import Derived.Test.YtfhfhfadebcbfaaM21
import Derived.Test.YtfhfhfadebcbfaaM22
namespace Go.Proofs.Ytfhfhfadebcbfaa
open Go.RowKit
set_option maxHeartbeats 32000000
set_option maxRecDepth 100000
theorem hintN_two {h : Sort.Hint} (e : hintN h = 2) : h = .decreasing := by cases h <;> simp [hintN] at e ⊢
theorem eighth {x y p q : Nat} (h1 : q ≤ p) (h2 : y ≤ x) : decide (((x : Int) - (y : Int)) / 8 ≤ (p : Int) - (q : Int)) = decide (p - q ≥ (x - y) / 8) :=
  decide_eq_decide.2 ⟨fun h => by omega, fun h => by omega⟩
theorem pdq_any (B g n cap : Nat) (hl : n ≤ 100) : ∀ (N a b limit : Nat) (d : Array Int) (w : World), b - a < N → SO B g n cap w d → B ≤ w.heap.size → a ≤ b → b ≤ n → limit ≤ 100 → Sort.Below Sort.ltInt a b d →
    Calls Try.prog 53 #[.slice (some ⟨g, 0, none⟩) n cap, .int .i64 a, .int .i64 b, .int .i64 limit] w fun e w' => e = .returned (.tuple #[]) ∧ SO B g n cap w' (Sort.pdq Sort.ltInt d a b limit true true) ∧ w.grownBy w' (some g) := by
  intro N
  induction N with
  | zero => intro _ _ _ _ _ h; exact absurd h (Nat.not_lt_zero _)
  | succ N ih =>
    intro a b limit d w hN hH hB hab hb hlimit hBel0
    have IH := Lib.hid ih
    clear ih
    obtain ⟨V, HV⟩ : ∃ V, Hid (Sort.pdq Sort.ltInt d a b limit true true = V) := ⟨_, rfl⟩
    rw [HV.out]
    go_enter Try.func53, Try.ntmps53
    go_wp2
    go_loopw [1, 2, 3, 8, 9] (fun s1 s2 s3 s8 s9 wr => ∃ (a' b' lim : Nat) (wb wp : Bool) (dk : Array Int), s1 = .int .i64 a' ∧ s2 = .int .i64 b' ∧ s3 = .int .i64 lim ∧ s8 = .bool wb ∧ s9 = .bool wp ∧ a' ≤ b' ∧ b' ≤ n ∧ b' - a' ≤ b - a ∧ lim ≤ limit ∧ Hid (Sort.Below Sort.ltInt a' b' dk) ∧ Hid (SO B g n cap wr dk) ∧ Hid (Sort.pdq Sort.ltInt dk a' b' lim wb wp = V) ∧ w.grownBy wr (some g)) (fun s1 s2 _ _ _ _ => (intOf s2).toNat - (intOf s1).toNat)
    case atStart => exact ⟨a, b, limit, true, true, d, rfl, rfl, rfl, rfl, rfl, hab, hb, Nat.le_refl _, Nat.le_refl _, hBel0, hH, HV.out, grown_refl w _⟩
    case round =>
      clear HV hBel0 hH
      obtain ⟨a', b', lim, wb, wp, dk, rfl, rfl, rfl, rfl, rfl, hab', hb', hkN, hlim, hBel, HO, A, hg⟩ := hrel
      have hds := HO.out.2
      have hBr := Nat.le_trans hB hg.size
      by_cases h12 : b' - a' ≤ 12
      case pos =>
        have h12z : (b' : Int) - (a' : Int) ≤ 12 := by omega
        have hc := Lib.hid (isortG_any B g n cap dk a' b' wr HO.out hab' hb' (by omega))
        rw [← Sort.pdq_small (limit := lim) (wb := wb) (wp := wp) h12, A.out] at hc
        clear hds
        go_wp2_with ((go_at_call 59; refine (hc.out).mono ?_; rintro e w1 ⟨rfl, hO1, hg1⟩))
        (try simp only [Exit.inBlock, Exit.then]); refine bodyPost_ret (results_none rfl _ _ _) rfl ?_
        exact ⟨rfl, hO1, grown_trans hg hg1⟩
      case neg =>
        have h12z : ¬ ((b' : Int) - (a' : Int) ≤ 12) := by omega
        by_cases hl0 : lim = 0
        case pos =>
          subst hl0
          have hc := Lib.hid (heap_any B g n cap dk a' b' wr HO.out (by omega) hb' (by omega))
          rw [← Sort.pdq_heap (limit := 0) (wb := wb) (wp := wp) h12 rfl, A.out] at hc
          clear hds
          go_wp2_with ((go_at_call 60; refine (hc.out).mono ?_; rintro e w1 ⟨rfl, hO1, hg1⟩))
          (try simp only [Exit.inBlock, Exit.then]); refine bodyPost_ret (results_none rfl _ _ _) rfl ?_
          exact ⟨rfl, hO1, grown_trans hg hg1⟩
        case neg =>
          have hl0z : ¬ ((lim : Int) = 0) := by omega
          have hfacts := Sort.rd_facts (limit := lim) (wb := wb) (wp := wp) Sort.swo_ltInt Sort.partialInsertionSort_holds Sort.reverseRange_holds (show a' < b' by omega) (show b' ≤ dk.size by omega) hBel.out
          obtain ⟨R, hR⟩ : ∃ R, Sort.rd Sort.ltInt dk a' b' lim wb wp = R := ⟨_, rfl⟩
          have HR := Lib.hid hR
          rw [hR] at hfacts
          obtain ⟨s1, B1, hc1, s2, B2, hpv, s3, B3⟩ := hfacts
          have hcc : R.c = Sort.choosePivot Sort.ltInt R.d1 a' b' := by rw [← hR]; rfl
          have HB3 := Lib.hid B3
          have HCC := Lib.hid hcc
          rw [hds] at s1 s2 s3
          have HDS := Lib.hid hds
          have S1 := Lib.hid s1
          have S2 := Lib.hid s2
          have S3 := Lib.hid s3
          clear B1 B2 B3 hcc hR hds s1 s2 s3
          go_upto_if 35 with fail
          go_cut [3] from 19 (fun s3 wc => s3 = .int .i64 R.lim ∧ SO B g n cap wc R.d1 ∧ w.grownBy wc (some g))
          case first =>
            cases wb
            case false =>
              have hc := Lib.hid (break_any B g n cap dk a' b' wr HO.out hBr (by omega) hb' hl)
              go_wp2_with ((go_at_call 61; refine (hc.out).mono ?_; rintro e w1 ⟨rfl, hO1, hg1⟩))
              go_meet
              case rel =>
                refine ⟨?_, by rw [← HR.out]; exact hO1, grown_trans hg hg1⟩
                rw [← HR.out]
                show Value.int .i64 ((lim : Int) - 1) = Value.int .i64 ((lim - 1 : Nat) : Int)
                congr 1
                omega
            case true =>
              go_wp2_with fail
              go_meet
              case rel => exact ⟨by rw [← HR.out]; rfl, by rw [← HR.out]; exact HO.out, hg⟩
          case rest =>
            obtain ⟨rfl, hO1, hg1⟩ := hcut
            have hll : R.lim ≤ lim := by rw [← HR.out]; exact Sort.rd_lim_le
            have HO1 := Lib.hid hO1
            have hB1 := Nat.le_trans hB hg1.size
            have hc := Lib.hid (choose_any B g n cap R.d1 a' b' wc hO1 hB1 (by omega) hb' (by omega))
            rw [← HCC.out] at hc
            clear hO1 HO hg hBr
            go_upto_if 50 with ((go_at_call 62; refine (hc.out).mono ?_; rintro e w2 ⟨rfl, hO2, hg2⟩))
            have HO2 := Lib.hid hO2
            have hg3 := grown_trans hg1 hg2
            clear hO2 hg1 hg2 hB1 HO1 hc
            go_cut [11, 12] from 19 (fun s11 s12 wc => s11 = .int .i64 R.pivot ∧ s12 = .int .i64 (hintN R.hint) ∧ SO B g n cap wc R.d2 ∧ w.grownBy wc (some g))
            case first =>
              by_cases hh : R.c.2 = .decreasing
              case pos =>
                have hcode : hintN R.c.2 = 2 := by rw [hh]; rfl
                have hd := Sort.rd_dec (lt := Sort.ltInt) (d := dk) (a := a') (b := b') (limit := lim) (wb := wb) (wp := wp) (by rw [HR.out]; exact hh)
                rw [HR.out] at hd
                have HD := Lib.hid hd
                clear hd hh
                have hc := Lib.hid (rrange_any B g n cap R.d1 a' b' w2 HO2.out hab' (by omega) hb' (by omega))
                go_wp2_with ((go_at_call 63; refine (hc.out).mono ?_; rintro e w3 ⟨rfl, hO3, hg4⟩))
                go_meet
                case rel =>
                  refine ⟨?_, by rw [HD.out.2.2]; rfl, by rw [HD.out.1]; exact hO3, grown_trans hg3 hg4⟩
                  rw [HD.out.2.1]
                  congr 1
                  omega
              case neg =>
                have hcode : ¬ (hintN R.c.2 = 2) := fun h => hh (hintN_two h)
                have hd := Sort.rd_not (lt := Sort.ltInt) (d := dk) (a := a') (b := b') (limit := lim) (wb := wb) (wp := wp) (by rw [HR.out]; exact hh)
                rw [HR.out] at hd
                have HD := Lib.hid hd
                clear hd hh
                go_wp2_with fail
                go_meet
                case rel => exact ⟨by rw [HD.out.2.1], by rw [HD.out.2.2], by rw [HD.out.1]; exact HO2.out, hg3⟩
            case rest =>
              clear HO2 hg3
              obtain ⟨rfl, rfl, hO3, hg3⟩ := hcut
              have HO3 := Lib.hid hO3
              clear hO3
              go_upto_region 15 with fail
              go_cut [12, 68] from 19 (fun s12 s68 wx => s12 = .int .i64 (hintN R.hint) ∧ s68 = .bool (wb && wp && decide (R.hint = .increasing)) ∧ wx = wc)
              case first =>
                cases wb <;> cases wp <;> cases hh3 : R.hint <;>
                  (have hcode3 := congrArg hintN hh3
                   simp only [hintN] at hcode3
                   go_wp2_with fail
                   go_meet
                   exact ⟨by simp [hh3, hintN], by simp [hh3, hintN], rfl⟩)
              case rest =>
                obtain ⟨rfl, rfl, rfl⟩ := hcut
                go_upto_if 68 with fail
                go_cut [] from 19 (fun wx => R.pi.2 = false ∧ SO B g n cap wx R.pi.1 ∧ w.grownBy wx (some g))
                case first =>
                  cases h68 : (wb && wp && decide (R.hint = .increasing))
                  case false =>
                    have epi := Sort.rd_pi_no (lt := Sort.ltInt) (d := dk) (a := a') (b := b') (limit := lim) (wb := wb) (wp := wp) (by rw [HR.out]; exact h68)
                    rw [HR.out] at epi
                    have HP := Lib.hid epi
                    clear epi
                    go_wp2_with fail
                    go_meet
                    case rel => exact ⟨by rw [HP.out], by rw [HP.out]; exact HO3.out, hg3⟩
                  case true =>
                    have epi := Sort.rd_pi_yes (lt := Sort.ltInt) (d := dk) (a := a') (b := b') (limit := lim) (wb := wb) (wp := wp) (by rw [HR.out]; exact h68)
                    rw [HR.out] at epi
                    have hc := Lib.hid (pins_any B g n cap R.d2 a' b' wc HO3.out (by omega) hb' (by omega))
                    rw [← epi] at hc
                    clear epi
                    cases hp2 : R.pi.2
                    case false =>
                      rw [hp2] at hc
                      go_wp2_with ((go_at_call 64; refine (hc.out).mono ?_; rintro e w4 ⟨rfl, hO4, hg4⟩))
                      go_meet
                      case rel => exact ⟨hp2, hO4, grown_trans hg3 hg4⟩
                    case true =>
                      rw [hp2] at hc
                      have HP2 := Lib.hid hp2
                      clear hp2
                      go_wp2_with ((go_at_call 64; refine (hc.out).mono ?_; rintro e w4 ⟨rfl, hO4, hg4⟩))
                      (try simp only [Exit.inBlock, Exit.then]); refine bodyPost_ret (results_none rfl _ _ _) rfl ?_
                      refine ⟨rfl, ?_, grown_trans hg3 hg4⟩
                      rw [← A.out, Sort.pdq_done h12 hl0 (by rw [HR.out]; exact HP2.out), HR.out]
                      exact hO4
                case rest =>
                  clear HO3 hg3
                  obtain ⟨hp2, hO5, hg5⟩ := hcut
                  have HP2 := Lib.hid hp2
                  have HO5 := Lib.hid hO5
                  clear hp2 hO5
                  go_upto_region 17 with fail
                  go_cut [87] from 19 (fun s87 wx => s87 = .bool (decide (a' > 0) && !Sort.ltInt R.pi.1[a' - 1]! R.pi.1[R.pivot]!) ∧ SO B g n cap wx R.pi.1 ∧ w.grownBy wx (some g))
                  case first =>
                    rcases Nat.eq_zero_or_pos a' with ha0 | ha0
                    case inl =>
                      have ha0z : decide ((a' : Int) > 0) = false := decide_eq_false (by omega)
                      go_quiet (first | (go_at_call 65; refine Calls.quiet_of_same (less_any 0 0 _)))
                      go_wp2_with fail
                      go_meet
                      case rel => exact ⟨by simp [ha0], HO5.out.drewN nq, grown_trans hg5 (grown_drewN _ nq _)⟩
                    case inr =>
                      have ha0z : (a' : Int) > 0 := by omega
                      obtain ⟨a1, ha1⟩ : ∃ a1 : Nat, a' - 1 = a1 := ⟨_, rfl⟩
                      have haI : (a' : Int) - 1 = (a1 : Int) := by omega
                      have k1 := HO5.out.cell a1 (by omega)
                      have k2 := HO5.out.cell R.pivot (by omega)
                      have f1 := HO5.out.frz a1
                      have f2 := HO5.out.frz R.pivot
                      have hb1 : (a1 : Int) < (n : Int) := by omega
                      have hb2 : (R.pivot : Int) < (n : Int) := by omega
                      obtain ⟨x, hx⟩ : ∃ x, R.pi.1[a1]! = x := ⟨_, rfl⟩
                      obtain ⟨y, hy⟩ : ∃ y, R.pi.1[R.pivot]! = y := ⟨_, rfl⟩
                      rw [hx] at k1
                      rw [hy] at k2
                      have HX := Lib.hid hx
                      have HY := Lib.hid hy
                      have HA1 := Lib.hid ha1
                      have h1a : 0 < a' := ha0
                      clear hx hy ha1
                      by_cases hp : x < y
                      case pos =>
                        have HL := Lib.hid (fun w => less_t hp w)
                        go_quiet (first | (go_at_call 65; refine Calls.quiet_of_same (HL.out _)))
                        go_wp2_with fail
                        go_meet
                        case rel => exact ⟨by rw [HA1.out, HX.out, HY.out]; simp [Sort.ltInt, hp], HO5.out.drewN nq, grown_trans hg5 (grown_drewN _ nq _)⟩
                      case neg =>
                        have HL := Lib.hid (fun w => less_f hp w)
                        go_quiet (first | (go_at_call 65; refine Calls.quiet_of_same (HL.out _)))
                        go_wp2_with fail
                        go_meet
                        case rel => exact ⟨by rw [HA1.out, HX.out, HY.out]; simp [Sort.ltInt, hp, h1a], HO5.out.drewN nq, grown_trans hg5 (grown_drewN _ nq _)⟩
                  case rest =>
                    clear HO5 hg5
                    obtain ⟨rfl, hO6, hg6⟩ := hcut
                    have HO6 := Lib.hid hO6
                    clear hO6
                    have hB6 := Nat.le_trans hB hg6.size
                    cases h87 : (decide (a' > 0) && !Sort.ltInt R.pi.1[a' - 1]! R.pi.1[R.pivot]!)
                    case false =>
                      obtain ⟨mid, ap, d4, hx⟩ : ∃ mid ap d4, Sort.partition Sort.ltInt R.pi.1 a' b' R.pivot = (mid, ap, d4) := ⟨(Sort.partition Sort.ltInt R.pi.1 a' b' R.pivot).1, (Sort.partition Sort.ltInt R.pi.1 a' b' R.pivot).2.1, (Sort.partition Sort.ltInt R.pi.1 a' b' R.pivot).2.2, rfl⟩
                      obtain ⟨r1, r2, r3, r4, r5, r6, r7⟩ := Sort.round_part Sort.swo_ltInt (Sort.partition_holds Sort.ltInt) hpv.1 hpv.2 (show b' ≤ R.pi.1.size by rw [S3.out]; exact hb') HB3.out hx
                      have hc := Lib.hid (part_any B g n cap R.pi.1 a' b' R.pivot wc HO6.out (by omega) hb' hpv.2 (by omega))
                      rw [hx] at hc
                      have X := Lib.hid hx
                      have H87 := Lib.hid h87
                      have R3 := Lib.hid r3
                      have R4 := Lib.hid r4
                      have R5 := Lib.hid r5
                      have R6 := Lib.hid r6
                      have R7 := Lib.hid r7
                      clear hx h87 r3 r4 r5 r6 r7
                      go_upto_if 113 with ((go_at_call 67; refine (hc.out).mono ?_; rintro e w7 ⟨rfl, hO7, hg7⟩))
                      have HO7 := Lib.hid hO7
                      have hg8 := grown_trans hg6 hg7
                      have hB7 := Nat.le_trans hB hg8.size
                      clear HO6 hO7 hg6 hg7 hc hB6
                      by_cases h4 : mid - a' < b' - mid
                      case pos =>
                        have h4z : (mid : Int) - (a' : Int) < (b' : Int) - (mid : Int) := by omega
                        have hih := Lib.hid (IH.out a' mid R.lim d4 w7 (by omega) HO7.out hB7 (by omega) (by omega) (by omega) R4.out)
                        have hpp := Lib.hid (Sort.pdq_sorts Sort.ltInt Sort.swo_ltInt d4 a' mid R.lim true true (by omega) (by rw [R3.out, S3.out]; omega) R4.out)
                        go_wp2_with ((go_at_call 53; refine (hih.out).mono ?_; rintro e w8 ⟨rfl, hO8, hg9⟩))
                        go_roundw
                        case rel =>
                          refine ⟨mid + 1, b', R.lim, decide (mid - a' ≥ (b' - a') / 8), ap, Sort.pdq Sort.ltInt d4 a' mid R.lim true true, by go_num, rfl, rfl, ?_, rfl, by omega, by omega, by omega, by omega, (R6.out _ hpp.out.1 hpp.out.2).1, hO8, ?_, grown_trans hg8 hg9⟩
                          · exact congrArg Value.bool (eighth (by omega) (by omega))
                          · show Sort.pdq _ _ _ _ _ _ _ = V
                            rw [← A.out, Sort.pdq_left h12 hl0 (by rw [HR.out]; exact HP2.out) (by rw [HR.out]; exact H87.out) (by rw [HR.out, X.out]; exact ⟨r1, r2⟩) (by rw [HR.out, X.out]; exact h4), HR.out, X.out]
                        case measure => simp [intOf]; omega
                      case neg =>
                        have h4z : ¬ ((mid : Int) - (a' : Int) < (b' : Int) - (mid : Int)) := by omega
                        have hih := Lib.hid (IH.out (mid + 1) b' R.lim d4 w7 (by omega) HO7.out hB7 (by omega) (by omega) (by omega) R5.out)
                        have hpp := Lib.hid (Sort.pdq_sorts Sort.ltInt Sort.swo_ltInt d4 (mid + 1) b' R.lim true true (by omega) (by rw [R3.out, S3.out]; omega) R5.out)
                        go_wp2_with ((go_at_call 53; refine (hih.out).mono ?_; rintro e w8 ⟨rfl, hO8, hg9⟩))
                        go_roundw
                        case rel =>
                          refine ⟨a', mid, R.lim, decide (b' - mid ≥ (b' - a') / 8), ap, Sort.pdq Sort.ltInt d4 (mid + 1) b' R.lim true true, rfl, rfl, rfl, ?_, rfl, by omega, by omega, by omega, by omega, (R7.out _ hpp.out.1 hpp.out.2).1, hO8, ?_, grown_trans hg8 hg9⟩
                          · exact congrArg Value.bool (eighth (by omega) (by omega))
                          · show Sort.pdq _ _ _ _ _ _ _ = V
                            rw [← A.out, Sort.pdq_right h12 hl0 (by rw [HR.out]; exact HP2.out) (by rw [HR.out]; exact H87.out) (by rw [HR.out, X.out]; exact ⟨r1, r2⟩) (by rw [HR.out, X.out]; exact h4), HR.out, X.out]
                        case measure => simp [intOf]; omega
                    case true =>
                      have h87' := h87
                      simp only [Bool.and_eq_true, decide_eq_true_eq, Bool.not_eq_true'] at h87'
                      obtain ⟨mid, d4, hx⟩ : ∃ mid d4, Sort.partitionEqual Sort.ltInt R.pi.1 a' b' R.pivot = (mid, d4) := ⟨(Sort.partitionEqual Sort.ltInt R.pi.1 a' b' R.pivot).1, (Sort.partitionEqual Sort.ltInt R.pi.1 a' b' R.pivot).2, rfl⟩
                      obtain ⟨r1, r2, r3, r4, _⟩ := Sort.round_eq Sort.swo_ltInt (Sort.partitionEqual_holds Sort.ltInt) h87'.1 hpv.1 hpv.2 (show b' ≤ R.pi.1.size by rw [S3.out]; exact hb') HB3.out h87'.2 hx
                      have hc := Lib.hid (partEq_any B g n cap R.pi.1 a' b' R.pivot wc HO6.out (by omega) hb' hpv.2 (by omega))
                      rw [hx] at hc
                      have X := Lib.hid hx
                      have H87 := Lib.hid h87
                      have R3 := Lib.hid r3
                      have R4 := Lib.hid r4
                      clear hx h87 h87' r3 r4
                      go_wp2_with ((go_at_call 66; refine (hc.out).mono ?_; rintro e w7 ⟨rfl, hO7, hg7⟩))
                      go_roundw
                      case rel =>
                        refine ⟨mid, b', R.lim, wb, wp, d4, rfl, rfl, rfl, rfl, rfl, r2, hb', by omega, by omega, R4.out, hO7, ?_, grown_trans hg6 hg7⟩
                        show Sort.pdq _ _ _ _ _ _ _ = V
                        rw [← A.out, Sort.pdq_eq h12 hl0 (by rw [HR.out]; exact HP2.out) (by rw [HR.out]; exact H87.out) (by rw [HR.out, X.out]; exact ⟨r1, r2⟩), HR.out, X.out]
                      case measure => simp [intOf]; omega
end Go.Proofs.Ytfhfhfadebcbfaa
