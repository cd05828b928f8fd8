/- Walks: reading, by the reference. -/
import Derived.Test.YtieeafkbgmpofaaW23j
namespace Go.Proofs.Ytieeafkbgmpofaa
open Go.RowKit
set_option maxHeartbeats 2000000
def errB (b : Bool) : Int := if b then 3 else 0
/-- What the loop of the reference's Read keeps. -/
def RRI (w : World) (xs : List Int) (u nv qv iv : Value) (wr : World) : Prop :=
  ∃ (p : Nat) (T : List Int) (n : Nat) (b : Bool) (q : Int), iv = .int .i64 p ∧ nv = .int .i64 n ∧ qv = .int .i64 q ∧ Hid (errB b = q) ∧ p ≤ xs.length ∧ T.length ≤ p ∧ n ≤ p ∧
    Hid (sread xs = (T ++ (sread (xs.drop p)).1, n + (sread (xs.drop p)).2.1, b || (sread (xs.drop p)).2.2)) ∧ Own w.heap.size 21 wr u (ints .i32 T) ∧ Below w.heap.size w wr
theorem RRI.next {w wr : World} {xs T : List Int} {u nv qv iv : Value} {p n : Nat} {b : Bool} {q : Int} {c : Int} (hxc : xs[p]? = some c) (hT : T.length ≤ p) (hn : n ≤ p)
    (HS : Hid (sread xs = (T ++ (sread (xs.drop p)).1, n + (sread (xs.drop p)).2.1, b || (sread (xs.drop p)).2.2)))
    (hi : iv = .int .i64 ((p + 1 + sn c (xs.drop (p + 1)) : Nat) : Int)) (hnv : nv = .int .i64 ((n + srun c (xs.drop (p + 1)) : Nat) : Int)) (hqv : qv = .int .i64 q) (hq : errB (b || swr c (xs.drop (p + 1))) = q)
    (ho : Own w.heap.size 21 wr u (ints .i32 (T ++ sout c (xs.drop (p + 1))))) (hb : Below w.heap.size w wr) : RRI w xs u nv qv iv wr := by
  have hpl := (List.getElem?_eq_some_iff.1 hxc).1
  have hsl := sout_len c (xs.drop (p + 1))
  have hsr := srun_le c (xs.drop (p + 1))
  have hsn := sn_le c (xs.drop (p + 1))
  rw [List.length_drop] at hsn
  refine ⟨_, _, _, b || swr c (xs.drop (p + 1)), q, hi, hnv, hqv, hq, by omega, by rw [List.length_append]; omega, by omega, ?_, ho, hb⟩
  show _ = _
  rw [HS.out, sread_at hxc]
  simp only [List.append_assoc, Nat.add_assoc, Bool.or_assoc]
set_option maxRecDepth 100000 in
theorem rRead_any (v : Value) (xs : List Int) (w : World) (h : Row w v (ints .u8 xs)) (hg : Rg 0 256 xs) (hl : xs.length ≤ 10000) :
    Calls Try.prog 15 #[v] w fun e w' => ∃ t, e = .returned (.tuple #[t, .int .i64 (sread xs).2.1, .int .i64 (errB (sread xs).2.2)]) ∧ Own w.heap.size 21 w' t (ints .i32 (sread xs).1) ∧ Below w.heap.size w w' := by
  obtain ⟨a, bb, off, cp, rfl, HC⟩ := h.op
  go_enter Try.func15, Try.ntmps15
  go_wp2
  go_loopw [5, 6, 7, 8] (fun u nv qv iv wr => RRI w xs u nv qv iv wr) (fun _ _ _ i _ => xs.length - (intOf i).toNat)
  case atStart => exact ⟨0, [], 0, false, 0, rfl, rfl, rfl, (rfl : errB false = 0), Nat.zero_le _, Nat.le_refl _, Nat.le_refl _, (by simp : sread xs = ([] ++ (sread (xs.drop 0)).1, 0 + (sread (xs.drop 0)).2.1, false || (sread (xs.drop 0)).2.2)), Own.nil _ _ _, Below.refl _ _⟩
  case round =>
    obtain ⟨p, T, n, b, q, rfl, rfl, rfl, HQ, hp, hT, hn, HS, hown, hbr⟩ := hrel
    by_cases hlt : p < xs.length
    · obtain ⟨c, HX, rfl, hc⟩ := HC.out p hlt
      replace hc := hc _ hbr
      have hcr := hg.get HX.out
      have hown0 := hown
      by_cases h1 : 127 < c
      · have e1 : ∀ r, sout c r = [65533] := fun r => by rw [sout, if_pos (by omega)]
        have e2 : ∀ r, srun c r = 0 := fun r => by rw [srun, if_neg (by omega)]
        have e3 : ∀ r, swr c r = true := fun r => by rw [swr, if_pos (by omega)]
        have e4 : ∀ r, sn c r = 0 := fun r => by rw [sn, if_neg (by omega)]
        have E1 := Lib.hid e1; have E2 := Lib.hid e2; have E3 := Lib.hid e3; have E4 := Lib.hid e4
        clear e1 e2 e3 e4
        go_wp2_with (at_builtin; refine wpList_app slT_i32 _ _ _ rfl rfl rfl rfl (hown.alloc _) (Row.ilit [_] [_] rfl (by simp)) (by simp [ints]; omega) (by have := hbr.size; simp; omega) ?_; intro t3 w3 hown3 hg3)
        have hb3 := below_app hbr (below_alloc _ _) (hown.alloc _) hg3
        rw [← ints_append] at hown3
        go_roundw
        case rel => exact RRI.next HX.out hT hn HS (by rw [E4.out]; go_num) (by rw [E2.out]; rfl) rfl (by rw [E3.out, Bool.or_true]; rfl) (by rw [E1.out]; exact hown3) hb3
        case measure => simp [intOf]; omega
      · by_cases h43 : c = 43
        · subst h43
          clear h1 hcr
          have hrr : ∀ k, (xs.drop (p + 1))[k]? = xs[p + 1 + k]? := fun k => by rw [List.getElem?_drop]
          have hdl := dl_le (xs.drop (p + 1))
          have hdin := dl_in (xs.drop (p + 1))
          have hdout := dl_out (xs.drop (p + 1))
          have hrw := h.below hbr
          rw [List.length_drop] at hdl
          rcases Nat.eq_zero_or_pos (dl (xs.drop (p + 1))) with hm | hm
          · have e1 : sout 43 (xs.drop (p + 1)) = [43] := by rw [sout, if_neg (by omega), if_pos rfl, if_pos hm]
            have e2 : srun 43 (xs.drop (p + 1)) = 0 := by simp [srun, hm]
            have e3 : swr 43 (xs.drop (p + 1)) = !decide (xs[p + 1]? = some 45) := by rw [swr, if_neg (by omega), if_pos rfl, if_pos hm, hm, hrr]
            have e4 : sn 43 (xs.drop (p + 1)) = if xs[p + 1]? = some 45 then 1 else 0 := by rw [sn, if_pos rfl, hm, hrr]
            rw [hm, hrr] at hdout
            have hd0 := rdigit_any _ xs (p + 1) wr hrw
            have hdf : digB xs[p + 1]? = false := by
              cases hx : xs[p + 1]? with
              | none => rfl
              | some y => have := hdout y hx; exact decide_eq_false (by omega)
            rw [hdf, show (((p + 1 : Nat)) : Int) = (p : Int) + 1 by omega] at hd0
            have HD0 := Lib.hid hd0; have E1 := Lib.hid e1; have E2 := Lib.hid e2; have E3 := Lib.hid e3; have E4 := Lib.hid e4
            clear hd0 hdf e1 e2 e3 e4 hm hdout hdin hrr hdl
            have HX2 := HX
            by_cases hl2 : p + 1 < xs.length
            · obtain ⟨y, HY, _, hc2⟩ := HC.out (p + 1) hl2
              have HC2 := Lib.hid hc2
              replace hc2 := hc2 _ hbr
              have hyr := hg.get HY.out
              rcases Decidable.em (y = 45) with rfl | hy
              · have e5 : decide (xs[p + 1]? = some 45) = true := by rw [HY.out]; rfl
                have e6 : (if xs[p + 1]? = some 45 then 1 else 0) = 1 := by rw [HY.out]; rfl
                have E5 := Lib.hid e5; have E6 := Lib.hid e6; clear e5 e6
                go_wp2_with (first | (go_at_call 49; refine (HD0.out).mono ?_; rintro e w' ⟨rfl, rfl⟩) | (at_builtin; refine wpList_app slT_i32 _ _ _ rfl rfl rfl rfl (hown.alloc _) (Row.ilit [_] [_] rfl (by simp)) (by simp [ints]; omega) (by have := hbr.size; simp; omega) ?_; intro t3 w3 hown3 hg3; have hb3 := below_app hbr (below_alloc _ _) (hown.alloc _) hg3; rw [← ints_append] at hown3; have hc3 := HC2.out _ hb3))
                go_roundw
                case rel => exact RRI.next HX2.out hT hn HS (by rw [E4.out, E6.out]; go_num) (by rw [E2.out]; rfl) rfl (by rw [E3.out, E5.out, Bool.not_true, Bool.or_false]; exact HQ.out) (by rw [E1.out]; exact hown3) hb3
                case measure => simp [intOf]; omega
              · have e5 : decide (xs[p + 1]? = some 45) = false := by rw [HY.out]; simp [hy]
                have e6 : (if xs[p + 1]? = some 45 then 1 else 0) = 0 := by rw [HY.out]; simp [hy]
                have E5 := Lib.hid e5; have E6 := Lib.hid e6; clear e5 e6
                have hyn : (y == 45) = false := beq_false_of_ne hy
                go_wp2_with (first | (go_at_call 49; refine (HD0.out).mono ?_; rintro e w' ⟨rfl, rfl⟩) | (at_builtin; refine wpList_app slT_i32 _ _ _ rfl rfl rfl rfl (hown.alloc _) (Row.ilit [_] [_] rfl (by simp)) (by simp [ints]; omega) (by have := hbr.size; simp; omega) ?_; intro t3 w3 hown3 hg3; have hb3 := below_app hbr (below_alloc _ _) (hown.alloc _) hg3; rw [← ints_append] at hown3; have hc3 := HC2.out _ hb3))
                go_roundw
                case rel => exact RRI.next HX2.out hT hn HS (by rw [E4.out, E6.out]; go_num) (by rw [E2.out]; rfl) rfl (by rw [E3.out, E5.out, Bool.not_false, Bool.or_true]; rfl) (by rw [E1.out]; exact hown3) hb3
                case measure => simp [intOf]; omega
            · have e5 : decide (xs[p + 1]? = some 45) = false := by rw [List.getElem?_eq_none (by omega)]; rfl
              have e6 : (if xs[p + 1]? = some 45 then 1 else 0) = 0 := by rw [List.getElem?_eq_none (by omega)]; rfl
              have E5 := Lib.hid e5; have E6 := Lib.hid e6; clear e5 e6
              go_wp2_with (first | (go_at_call 49; refine (HD0.out).mono ?_; rintro e w' ⟨rfl, rfl⟩) | (at_builtin; refine wpList_app slT_i32 _ _ _ rfl rfl rfl rfl (hown.alloc _) (Row.ilit [_] [_] rfl (by simp)) (by simp [ints]; omega) (by have := hbr.size; simp; omega) ?_; intro t3 w3 hown3 hg3; have hb3 := below_app hbr (below_alloc _ _) (hown.alloc _) hg3; rw [← ints_append] at hown3))
              go_roundw
              case rel => exact RRI.next HX2.out hT hn HS (by rw [E4.out, E6.out]; go_num) (by rw [E2.out]; rfl) rfl (by rw [E3.out, E5.out, Bool.not_false, Bool.or_true]; rfl) (by rw [E1.out]; exact hown3) hb3
              case measure => simp [intOf]; omega
          · have e1 : sout 43 (xs.drop (p + 1)) = if runO ((xs.drop (p + 1)).take (dl (xs.drop (p + 1)))) then runT ((xs.drop (p + 1)).take (dl (xs.drop (p + 1)))) ++ [65533] else runT ((xs.drop (p + 1)).take (dl (xs.drop (p + 1)))) := by rw [sout, if_neg (by omega), if_pos rfl, if_neg (by omega)]
            have e2 : srun 43 (xs.drop (p + 1)) = 1 := by rw [srun, if_pos ⟨rfl, by omega⟩]
            have e3 : swr 43 (xs.drop (p + 1)) = !runR ((xs.drop (p + 1)).take (dl (xs.drop (p + 1)))) := by rw [swr, if_neg (by omega), if_pos rfl, if_neg (by omega)]
            have e4 : sn 43 (xs.drop (p + 1)) = if xs[p + 1 + dl (xs.drop (p + 1))]? = some 45 then dl (xs.drop (p + 1)) + 1 else dl (xs.drop (p + 1)) := by rw [sn, if_pos rfl, hrr]
            have hrun := fun v w' h' => rRun_any v ((xs.drop (p + 1)).take (dl (xs.drop (p + 1)))) w' h' (by rw [List.length_take]; omega)
            have hleft := fun v w' h' => rleft_any v ((xs.drop (p + 1)).take (dl (xs.drop (p + 1)))) w' h' (by rw [List.length_take]; omega) (dl_all _)
            rw [dl_all] at hrun
            have hTd := runT_len ((xs.drop (p + 1)).take (dl (xs.drop (p + 1))))
            rw [List.length_take] at hTd
            have hdt : (xs.take (p + 1 + dl (xs.drop (p + 1)))).drop (p + 1) = (xs.drop (p + 1)).take (dl (xs.drop (p + 1))) := by rw [List.drop_take]; congr 1; omega
            have hin : ∀ k, p + 1 ≤ k → k < p + 1 + dl (xs.drop (p + 1)) → digB xs[k]? = true := fun k h1 h2 => by
              obtain ⟨y, hy1, hy2⟩ := hdin (k - (p + 1)) (by omega)
              rw [hrr, show p + 1 + (k - (p + 1)) = k by omega] at hy1
              rw [hy1]; exact decide_eq_true hy2
            have hout : digB xs[p + 1 + dl (xs.drop (p + 1))]? = false := by
              rw [hrr] at hdout
              cases hx : xs[p + 1 + dl (xs.drop (p + 1))]? with
              | none => rfl
              | some y => have := hdout y hx; exact decide_eq_false (by omega)
            generalize runT ((xs.drop (p + 1)).take (dl (xs.drop (p + 1)))) = Td at *
            generalize runO ((xs.drop (p + 1)).take (dl (xs.drop (p + 1)))) = O at *
            generalize runR ((xs.drop (p + 1)).take (dl (xs.drop (p + 1)))) = R at *
            generalize (xs.drop (p + 1)).take (dl (xs.drop (p + 1))) = d at *
            generalize dl (xs.drop (p + 1)) = m at *
            have hdg := fun k (h1 : p + 1 ≤ k) (h2 : k < p + 1 + m) => (hin k h1 h2) ▸ rdigit_any _ xs k wr hrw
            have hd0 := hdg (p + 1) (by omega) (by omega)
            have hdm := rdigit_any _ xs (p + 1 + m) wr hrw
            rw [hout] at hdm
            rw [show (((p + 1 : Nat)) : Int) = (p : Int) + 1 by omega] at hd0
            have HD0 := Lib.hid hd0; have HDG := Lib.hid hdg; have HDM := Lib.hid hdm; have HRUN := Lib.hid hrun; have HLEFT := Lib.hid hleft; have HDT := Lib.hid hdt
            have E1 := Lib.hid e1; have E2 := Lib.hid e2; have E3 := Lib.hid e3; have E4 := Lib.hid e4
            have HX2 := HX
            clear hd0 hdg hdm hrun hleft hdt e1 e2 e3 e4 hin hout hdin hdout hrr
            go_wp2_with (go_at_call 49; refine (HD0.out).mono ?_; rintro e w' ⟨rfl, hw⟩; obtain rfl := hw.symm)
            go_loopw [9] (fun kv w2 => ∃ k : Nat, kv = .int .i64 k ∧ p + 1 ≤ k ∧ k ≤ p + 1 + m ∧ w2 = wr) (fun kv _ => p + 1 + m - (intOf kv).toNat)
            case atStart => exact ⟨p + 1, by go_num, Nat.le_refl _, by omega, rfl⟩
            case round =>
              obtain ⟨k, rfl, hk1, hk2, hw0⟩ := hrel
              obtain rfl := hw0.symm
              by_cases hlk : k < p + 1 + m
              · go_wp2_with (go_at_call 49; refine (HDG.out k hk1 hlk).mono ?_; rintro e w' ⟨rfl, hw⟩; obtain rfl := hw.symm)
                go_roundw
                case rel => exact ⟨k + 1, by go_num, by omega, by omega, by first | rfl | trivial⟩
                case measure => simp [intOf]; omega
              · have hkm : k = p + 1 + m := by omega
                have hdm2 := HDM.out
                have hdt2 := HDT.out
                have e4 := E4.out
                rw [← hkm] at hdm2 hdt2 e4
                have hTd2 : Td.length ≤ m := by omega
                have hml : p + 1 + m ≤ xs.length := by omega
                have HDM2 := Lib.hid hdm2; have HDT2 := Lib.hid hdt2; have HKM := Lib.hid hkm
                clear E4
                have E4 := Lib.hid e4
                clear hdm2 hdt2 hkm e4 hlk HD0 HDG HDM HDT hTd
                have hpk : p + 1 ≤ k := hk1
                have hkl : k ≤ xs.length := by have := HKM.out; omega
                by_cases hl2 : k < xs.length
                · obtain ⟨y, HY, _, hc2⟩ := HC.out k hl2
                  have HC2 := Lib.hid hc2
                  replace hc2 := hc2 _ hbr
                  have hyr := hg.get HY.out
                  rcases Decidable.em (y = 45) with rfl | hy
                  · have e6 : (if xs[k]? = some 45 then m + 1 else m) = m + 1 := by rw [HY.out]; rfl
                    have E6 := Lib.hid e6; clear e6
                    rcases O with _ | _ <;> rcases R with _ | _
                    all_goals
                      go_wp2_with (first | (go_at_call 49; refine (HDM2.out).mono ?_; rintro e w' ⟨rfl, hw⟩; obtain rfl := hw.symm) | (refine wpList_slLH slT_u8 _ _ _ rfl rfl rfl rfl rfl (by first | exact h.below hb3 | exact h.below hbr) (by omega) (by omega) (by simp [ints]; omega) ?_; intro v2 hv2; have r2 := hv2 w h; rw [show ((p : Int) + 1).toNat = p + 1 by omega, Int.toNat_natCast, ints_take, ints_drop, HDT2.out] at r2) | (go_at_call 21; refine (HRUN.out _ _ (r2.below hbr)).mono ?_; rintro e w2 ⟨t2, rfl, ho2, hb2⟩; have hb2' := below_trans hbr hb2) | (at_builtin; refine wpList_app slT_i32 _ _ _ rfl rfl rfl rfl (hown.below hb2) ho2.row (by rw [ints_length, ints_length]; omega) hb2'.size ?_; intro t3 w3 hown3 hg3; rw [← ints_append] at hown3; have hb3 : Below w.heap.size w w3 := below_own hb2' (hown.below hb2) hg3 hb2'.size (Nat.le_refl _)) | (go_at_call 50; refine (HLEFT.out _ _ (r2.below hb3)).mono ?_; rintro e w4 ⟨rfl, hb4⟩; have hb4' := below_trans hb3 hb4; have hown4 := hown3.below hb4; have hc4 := HC2.out _ hb4') | (at_builtin; refine wpList_app slT_i32 _ _ _ rfl rfl rfl rfl (hown4.alloc _) (Row.ilit [_] [_] rfl (by simp)) (by simp [ints]; omega) (by have := hb4'.size; simp; omega) ?_; intro t5 w5 hown5 hg5; rw [← ints_append] at hown5; have hb5 : Below w.heap.size w w5 := below_own (hb4'.alloc hb4'.size _) (hown4.alloc _) hg5 (by have := hb4'.size; simp; omega) (Nat.le_refl _); have hc5 := HC2.out _ hb5))
                      go_roundw
                      case rel =>
                        first
                          | exact RRI.next HX2.out hT hn HS (by rw [E4.out, E6.out]; exact iv (by have := HKM.out; omega)) (by rw [E2.out]; go_num) rfl (by rw [E3.out]; first | (rw [Bool.not_false, Bool.or_true]; rfl) | (rw [Bool.not_true, Bool.or_false]; exact HQ.out)) (by rw [E1.out, if_pos (by trivial), ← List.append_assoc]; exact hown5) hb5
                          | exact RRI.next HX2.out hT hn HS (by rw [E4.out, E6.out]; exact iv (by have := HKM.out; omega)) (by rw [E2.out]; go_num) rfl (by rw [E3.out]; first | (rw [Bool.not_false, Bool.or_true]; rfl) | (rw [Bool.not_true, Bool.or_false]; exact HQ.out)) (by rw [E1.out, if_neg (by decide)]; exact hown4) hb4'
                      case measure => simp [intOf]; have := HKM.out; omega
                  · have e6 : (if xs[k]? = some 45 then m + 1 else m) = m := by rw [HY.out]; simp [hy]
                    have E6 := Lib.hid e6; clear e6
                    have hyn : (y == 45) = false := beq_false_of_ne hy
                    rcases O with _ | _ <;> rcases R with _ | _
                    all_goals
                      go_wp2_with (first | (go_at_call 49; refine (HDM2.out).mono ?_; rintro e w' ⟨rfl, hw⟩; obtain rfl := hw.symm) | (refine wpList_slLH slT_u8 _ _ _ rfl rfl rfl rfl rfl (by first | exact h.below hb3 | exact h.below hbr) (by omega) (by omega) (by simp [ints]; omega) ?_; intro v2 hv2; have r2 := hv2 w h; rw [show ((p : Int) + 1).toNat = p + 1 by omega, Int.toNat_natCast, ints_take, ints_drop, HDT2.out] at r2) | (go_at_call 21; refine (HRUN.out _ _ (r2.below hbr)).mono ?_; rintro e w2 ⟨t2, rfl, ho2, hb2⟩; have hb2' := below_trans hbr hb2) | (at_builtin; refine wpList_app slT_i32 _ _ _ rfl rfl rfl rfl (hown.below hb2) ho2.row (by rw [ints_length, ints_length]; omega) hb2'.size ?_; intro t3 w3 hown3 hg3; rw [← ints_append] at hown3; have hb3 : Below w.heap.size w w3 := below_own hb2' (hown.below hb2) hg3 hb2'.size (Nat.le_refl _)) | (go_at_call 50; refine (HLEFT.out _ _ (r2.below hb3)).mono ?_; rintro e w4 ⟨rfl, hb4⟩; have hb4' := below_trans hb3 hb4; have hown4 := hown3.below hb4; have hc4 := HC2.out _ hb4') | (at_builtin; refine wpList_app slT_i32 _ _ _ rfl rfl rfl rfl (hown4.alloc _) (Row.ilit [_] [_] rfl (by simp)) (by simp [ints]; omega) (by have := hb4'.size; simp; omega) ?_; intro t5 w5 hown5 hg5; rw [← ints_append] at hown5; have hb5 : Below w.heap.size w w5 := below_own (hb4'.alloc hb4'.size _) (hown4.alloc _) hg5 (by have := hb4'.size; simp; omega) (Nat.le_refl _); have hc5 := HC2.out _ hb5))
                      go_roundw
                      case rel =>
                        first
                          | exact RRI.next HX2.out hT hn HS (by rw [E4.out, E6.out]; exact iv (by have := HKM.out; omega)) (by rw [E2.out]; go_num) rfl (by rw [E3.out]; first | (rw [Bool.not_false, Bool.or_true]; rfl) | (rw [Bool.not_true, Bool.or_false]; exact HQ.out)) (by rw [E1.out, if_pos (by trivial), ← List.append_assoc]; exact hown5) hb5
                          | exact RRI.next HX2.out hT hn HS (by rw [E4.out, E6.out]; exact iv (by have := HKM.out; omega)) (by rw [E2.out]; go_num) rfl (by rw [E3.out]; first | (rw [Bool.not_false, Bool.or_true]; rfl) | (rw [Bool.not_true, Bool.or_false]; exact HQ.out)) (by rw [E1.out, if_neg (by decide)]; exact hown4) hb4'
                      case measure => simp [intOf]; have := HKM.out; omega
                · have e6 : (if xs[k]? = some 45 then m + 1 else m) = m := by rw [List.getElem?_eq_none (by omega)]; rfl
                  have E6 := Lib.hid e6; clear e6
                  rcases O with _ | _ <;> rcases R with _ | _
                  all_goals
                    go_wp2_with (first | (go_at_call 49; refine (HDM2.out).mono ?_; rintro e w' ⟨rfl, hw⟩; obtain rfl := hw.symm) | (refine wpList_slLH slT_u8 _ _ _ rfl rfl rfl rfl rfl (by first | exact h.below hb3 | exact h.below hbr) (by omega) (by omega) (by simp [ints]; omega) ?_; intro v2 hv2; have r2 := hv2 w h; rw [show ((p : Int) + 1).toNat = p + 1 by omega, Int.toNat_natCast, ints_take, ints_drop, HDT2.out] at r2) | (go_at_call 21; refine (HRUN.out _ _ (r2.below hbr)).mono ?_; rintro e w2 ⟨t2, rfl, ho2, hb2⟩; have hb2' := below_trans hbr hb2) | (at_builtin; refine wpList_app slT_i32 _ _ _ rfl rfl rfl rfl (hown.below hb2) ho2.row (by rw [ints_length, ints_length]; omega) hb2'.size ?_; intro t3 w3 hown3 hg3; rw [← ints_append] at hown3; have hb3 : Below w.heap.size w w3 := below_own hb2' (hown.below hb2) hg3 hb2'.size (Nat.le_refl _)) | (go_at_call 50; refine (HLEFT.out _ _ (r2.below hb3)).mono ?_; rintro e w4 ⟨rfl, hb4⟩; have hb4' := below_trans hb3 hb4; have hown4 := hown3.below hb4) | (at_builtin; refine wpList_app slT_i32 _ _ _ rfl rfl rfl rfl (hown4.alloc _) (Row.ilit [_] [_] rfl (by simp)) (by simp [ints]; omega) (by have := hb4'.size; simp; omega) ?_; intro t5 w5 hown5 hg5; rw [← ints_append] at hown5; have hb5 : Below w.heap.size w w5 := below_own (hb4'.alloc hb4'.size _) (hown4.alloc _) hg5 (by have := hb4'.size; simp; omega) (Nat.le_refl _)))
                    go_roundw
                    case rel =>
                      first
                        | exact RRI.next HX2.out hT hn HS (by rw [E4.out, E6.out]; exact iv (by have := HKM.out; omega)) (by rw [E2.out]; go_num) rfl (by rw [E3.out]; first | (rw [Bool.not_false, Bool.or_true]; rfl) | (rw [Bool.not_true, Bool.or_false]; exact HQ.out)) (by rw [E1.out, if_pos (by trivial), ← List.append_assoc]; exact hown5) hb5
                        | exact RRI.next HX2.out hT hn HS (by rw [E4.out, E6.out]; exact iv (by have := HKM.out; omega)) (by rw [E2.out]; go_num) rfl (by rw [E3.out]; first | (rw [Bool.not_false, Bool.or_true]; rfl) | (rw [Bool.not_true, Bool.or_false]; exact HQ.out)) (by rw [E1.out, if_neg (by decide)]; exact hown4) hb4'
                    case measure => simp [intOf]; have := HKM.out; omega
        · have e1 : ∀ r, sout c r = [c] := fun r => by rw [sout, if_neg (by omega), if_neg h43]
          have e2 : ∀ r, srun c r = 0 := fun r => by rw [srun, if_neg (by omega)]
          have e3 : ∀ r, swr c r = false := fun r => by rw [swr, if_neg (by omega), if_neg h43]
          have e4 : ∀ r, sn c r = 0 := fun r => by rw [sn, if_neg h43]
          have E1 := Lib.hid e1; have E2 := Lib.hid e2; have E3 := Lib.hid e3; have E4 := Lib.hid e4
          have hne : (c != 43) = true := by simpa using h43
          clear e1 e2 e3 e4 h43
          go_wp2_with (at_builtin; refine wpList_app slT_i32 _ _ _ rfl rfl rfl rfl (hown.alloc _) (Row.ilit [_] [_] rfl (by simp)) (by simp [ints]; omega) (by have := hbr.size; simp; omega) ?_; intro t3 w3 hown3 hg3)
          have hb3 := below_app hbr (below_alloc _ _) (hown.alloc _) hg3
          rw [← ints_append] at hown3
          go_roundw
          case rel => exact RRI.next HX.out hT hn HS (by rw [E4.out]; go_num) (by rw [E2.out]; rfl) rfl (by rw [E3.out, Bool.or_false]; exact HQ.out) (by rw [E1.out]; exact hown3) hb3
          case measure => simp [intOf]; omega
    · go_wp2
      go_ret3
      have hs := HS.out
      have hq := HQ.out
      rw [List.drop_eq_nil_of_le (by omega), sread_nil] at hs
      refine ⟨_, ret3 rfl (iv ?_) (iv ?_), ?_, hbr⟩
      · rw [hs]; simp
      · rw [hs, ← hq]; simp
      · rw [hs]; simp only [List.append_nil]; exact hown
end Go.Proofs.Ytieeafkbgmpofaa
