/- Walks: reading, by the reference. · Walks: the layer's record. · Walks: the layer's step. · Walks: laying, by the program. · Walks: how many runs, by the reference; the length of what is laid. · Toolkit: a slice that lies apart from the one that is appended to; append, and where the new slice lies. · Toolkit: writing into a row that the call owns. (laid together by program out of single texts). -/
import Derived.Deep.AppendLies
import Derived.Laws.OwnMore
import Derived.Test.YtbpjgmiedplidaaM1
import Derived.Test.YtbpjgmiedplidaaM4
import Derived.Test.YtbpjgmiedplidaaM6
namespace Go.Proofs.Ytbpjgmiedplidaa
open Go.RowKit
set_option maxHeartbeats 2000000
def errB (b : Bool) : Int := if b then 3 else 0
/-- What the loop of the reference's Read keeps. -/
def RRI (w : World) (xs : List Int) (u nv qv iv : Value) (wr : World) : Prop :=
  ∃ (p : Nat) (T : List Int) (n : Nat) (b : Bool) (q : Int), iv = .int .i64 p ∧ nv = .int .i64 n ∧ qv = .int .i64 q ∧ Hid (errB b = q) ∧ p ≤ xs.length ∧ T.length ≤ p ∧ n ≤ p ∧
    Hid (sread xs = (T ++ (sread (xs.drop p)).1, n + (sread (xs.drop p)).2.1, b || (sread (xs.drop p)).2.2)) ∧ Own w.heap.size 21 wr u (ints .i32 T) ∧ Below w.heap.size w wr
theorem RRI.next {w wr : World} {xs T : List Int} {u nv qv iv : Value} {p n : Nat} {b : Bool} {q : Int} {c : Int} (hxc : xs[p]? = some c) (hT : T.length ≤ p) (hn : n ≤ p)
    (HS : Hid (sread xs = (T ++ (sread (xs.drop p)).1, n + (sread (xs.drop p)).2.1, b || (sread (xs.drop p)).2.2)))
    (hi : iv = .int .i64 ((p + 1 + sn c (xs.drop (p + 1)) : Nat) : Int)) (hnv : nv = .int .i64 ((n + srun c (xs.drop (p + 1)) : Nat) : Int)) (hqv : qv = .int .i64 q) (hq : errB (b || swr c (xs.drop (p + 1))) = q)
    (ho : Own w.heap.size 21 wr u (ints .i32 (T ++ sout c (xs.drop (p + 1))))) (hb : Below w.heap.size w wr) : RRI w xs u nv qv iv wr := by
  have hpl := (List.getElem?_eq_some_iff.1 hxc).1
  have hsl := sout_len c (xs.drop (p + 1))
  have hsr := srun_le c (xs.drop (p + 1))
  have hsn := sn_le c (xs.drop (p + 1))
  rw [List.length_drop] at hsn
  refine ⟨_, _, _, b || swr c (xs.drop (p + 1)), q, hi, hnv, hqv, hq, by omega, by rw [List.length_append]; omega, by omega, ?_, ho, hb⟩
  show _ = _
  rw [HS.out, sread_at hxc]
  simp only [List.append_assoc, Nat.add_assoc, Bool.or_assoc]
set_option maxRecDepth 100000 in
theorem rRead_any (v : Value) (xs : List Int) (w : World) (h : Row w v (ints .u8 xs)) (hg : Rg 0 256 xs) (hl : xs.length ≤ 10000) :
    Calls Try.prog 56 #[v] w fun e w' => ∃ t, e = .returned (.tuple #[t, .int .i64 (sread xs).2.1, .int .i64 (errB (sread xs).2.2)]) ∧ Own w.heap.size 21 w' t (ints .i32 (sread xs).1) ∧ Below w.heap.size w w' := by
  obtain ⟨a, bb, off, cp, rfl, HC⟩ := h.op
  go_enter Try.func56, Try.ntmps56
  go_wp2
  go_loopw [5, 6, 7, 8] (fun u nv qv iv wr => RRI w xs u nv qv iv wr) (fun _ _ _ i _ => xs.length - (intOf i).toNat)
  case atStart => exact ⟨0, [], 0, false, 0, rfl, rfl, rfl, (rfl : errB false = 0), Nat.zero_le _, Nat.le_refl _, Nat.le_refl _, (by simp : sread xs = ([] ++ (sread (xs.drop 0)).1, 0 + (sread (xs.drop 0)).2.1, false || (sread (xs.drop 0)).2.2)), Own.nil _ _ _, Below.refl _ _⟩
  case round =>
    obtain ⟨p, T, n, b, q, rfl, rfl, rfl, HQ, hp, hT, hn, HS, hown, hbr⟩ := hrel
    by_cases hlt : p < xs.length
    · obtain ⟨c, HX, rfl, hc⟩ := HC.out p hlt
      replace hc := hc _ hbr
      have hcr := hg.get HX.out
      have hown0 := hown
      by_cases h1 : 127 < c
      · have e1 : ∀ r, sout c r = [65533] := fun r => by rw [sout, if_pos (by omega)]
        have e2 : ∀ r, srun c r = 0 := fun r => by rw [srun, if_neg (by omega)]
        have e3 : ∀ r, swr c r = true := fun r => by rw [swr, if_pos (by omega)]
        have e4 : ∀ r, sn c r = 0 := fun r => by rw [sn, if_neg (by omega)]
        have E1 := Lib.hid e1; have E2 := Lib.hid e2; have E3 := Lib.hid e3; have E4 := Lib.hid e4
        clear e1 e2 e3 e4
        go_wp2_with (at_builtin; refine wpList_app slT_i32 _ _ _ rfl rfl rfl rfl (hown.alloc _) (Row.ilit [_] [_] rfl (by simp)) (by simp [ints]; omega) (by have := hbr.size; simp; omega) ?_; intro t3 w3 hown3 hg3)
        have hb3 := below_app hbr (below_alloc _ _) (hown.alloc _) hg3
        rw [← ints_append] at hown3
        go_roundw
        case rel => exact RRI.next HX.out hT hn HS (by rw [E4.out]; go_num) (by rw [E2.out]; rfl) rfl (by rw [E3.out, Bool.or_true]; rfl) (by rw [E1.out]; exact hown3) hb3
        case measure => simp [intOf]; omega
      · by_cases h43 : c = 43
        · subst h43
          clear h1 hcr
          have hrr : ∀ k, (xs.drop (p + 1))[k]? = xs[p + 1 + k]? := fun k => by rw [List.getElem?_drop]
          have hdl := dl_le (xs.drop (p + 1))
          have hdin := dl_in (xs.drop (p + 1))
          have hdout := dl_out (xs.drop (p + 1))
          have hrw := h.below hbr
          rw [List.length_drop] at hdl
          rcases Nat.eq_zero_or_pos (dl (xs.drop (p + 1))) with hm | hm
          · have e1 : sout 43 (xs.drop (p + 1)) = [43] := by rw [sout, if_neg (by omega), if_pos rfl, if_pos hm]
            have e2 : srun 43 (xs.drop (p + 1)) = 0 := by simp [srun, hm]
            have e3 : swr 43 (xs.drop (p + 1)) = !decide (xs[p + 1]? = some 45) := by rw [swr, if_neg (by omega), if_pos rfl, if_pos hm, hm, hrr]
            have e4 : sn 43 (xs.drop (p + 1)) = if xs[p + 1]? = some 45 then 1 else 0 := by rw [sn, if_pos rfl, hm, hrr]
            rw [hm, hrr] at hdout
            have hd0 := rdigit_any _ xs (p + 1) wr hrw
            have hdf : digB xs[p + 1]? = false := by
              cases hx : xs[p + 1]? with
              | none => rfl
              | some y => have := hdout y hx; exact decide_eq_false (by omega)
            rw [hdf, show (((p + 1 : Nat)) : Int) = (p : Int) + 1 by omega] at hd0
            have HD0 := Lib.hid hd0; have E1 := Lib.hid e1; have E2 := Lib.hid e2; have E3 := Lib.hid e3; have E4 := Lib.hid e4
            clear hd0 hdf e1 e2 e3 e4 hm hdout hdin hrr hdl
            have HX2 := HX
            by_cases hl2 : p + 1 < xs.length
            · obtain ⟨y, HY, _, hc2⟩ := HC.out (p + 1) hl2
              have HC2 := Lib.hid hc2
              replace hc2 := hc2 _ hbr
              have hyr := hg.get HY.out
              rcases Decidable.em (y = 45) with rfl | hy
              · have e5 : decide (xs[p + 1]? = some 45) = true := by rw [HY.out]; rfl
                have e6 : (if xs[p + 1]? = some 45 then 1 else 0) = 1 := by rw [HY.out]; rfl
                have E5 := Lib.hid e5; have E6 := Lib.hid e6; clear e5 e6
                go_wp2_with (first | (go_at_call 79; refine (HD0.out).mono ?_; rintro e w' ⟨rfl, rfl⟩) | (at_builtin; refine wpList_app slT_i32 _ _ _ rfl rfl rfl rfl (hown.alloc _) (Row.ilit [_] [_] rfl (by simp)) (by simp [ints]; omega) (by have := hbr.size; simp; omega) ?_; intro t3 w3 hown3 hg3; have hb3 := below_app hbr (below_alloc _ _) (hown.alloc _) hg3; rw [← ints_append] at hown3; have hc3 := HC2.out _ hb3))
                go_roundw
                case rel => exact RRI.next HX2.out hT hn HS (by rw [E4.out, E6.out]; go_num) (by rw [E2.out]; rfl) rfl (by rw [E3.out, E5.out, Bool.not_true, Bool.or_false]; exact HQ.out) (by rw [E1.out]; exact hown3) hb3
                case measure => simp [intOf]; omega
              · have e5 : decide (xs[p + 1]? = some 45) = false := by rw [HY.out]; simp [hy]
                have e6 : (if xs[p + 1]? = some 45 then 1 else 0) = 0 := by rw [HY.out]; simp [hy]
                have E5 := Lib.hid e5; have E6 := Lib.hid e6; clear e5 e6
                have hyn : (y == 45) = false := beq_false_of_ne hy
                go_wp2_with (first | (go_at_call 79; refine (HD0.out).mono ?_; rintro e w' ⟨rfl, rfl⟩) | (at_builtin; refine wpList_app slT_i32 _ _ _ rfl rfl rfl rfl (hown.alloc _) (Row.ilit [_] [_] rfl (by simp)) (by simp [ints]; omega) (by have := hbr.size; simp; omega) ?_; intro t3 w3 hown3 hg3; have hb3 := below_app hbr (below_alloc _ _) (hown.alloc _) hg3; rw [← ints_append] at hown3; have hc3 := HC2.out _ hb3))
                go_roundw
                case rel => exact RRI.next HX2.out hT hn HS (by rw [E4.out, E6.out]; go_num) (by rw [E2.out]; rfl) rfl (by rw [E3.out, E5.out, Bool.not_false, Bool.or_true]; rfl) (by rw [E1.out]; exact hown3) hb3
                case measure => simp [intOf]; omega
            · have e5 : decide (xs[p + 1]? = some 45) = false := by rw [List.getElem?_eq_none (by omega)]; rfl
              have e6 : (if xs[p + 1]? = some 45 then 1 else 0) = 0 := by rw [List.getElem?_eq_none (by omega)]; rfl
              have E5 := Lib.hid e5; have E6 := Lib.hid e6; clear e5 e6
              go_wp2_with (first | (go_at_call 79; refine (HD0.out).mono ?_; rintro e w' ⟨rfl, rfl⟩) | (at_builtin; refine wpList_app slT_i32 _ _ _ rfl rfl rfl rfl (hown.alloc _) (Row.ilit [_] [_] rfl (by simp)) (by simp [ints]; omega) (by have := hbr.size; simp; omega) ?_; intro t3 w3 hown3 hg3; have hb3 := below_app hbr (below_alloc _ _) (hown.alloc _) hg3; rw [← ints_append] at hown3))
              go_roundw
              case rel => exact RRI.next HX2.out hT hn HS (by rw [E4.out, E6.out]; go_num) (by rw [E2.out]; rfl) rfl (by rw [E3.out, E5.out, Bool.not_false, Bool.or_true]; rfl) (by rw [E1.out]; exact hown3) hb3
              case measure => simp [intOf]; omega
          · have e1 : sout 43 (xs.drop (p + 1)) = if runO ((xs.drop (p + 1)).take (dl (xs.drop (p + 1)))) then runT ((xs.drop (p + 1)).take (dl (xs.drop (p + 1)))) ++ [65533] else runT ((xs.drop (p + 1)).take (dl (xs.drop (p + 1)))) := by rw [sout, if_neg (by omega), if_pos rfl, if_neg (by omega)]
            have e2 : srun 43 (xs.drop (p + 1)) = 1 := by rw [srun, if_pos ⟨rfl, by omega⟩]
            have e3 : swr 43 (xs.drop (p + 1)) = !runR ((xs.drop (p + 1)).take (dl (xs.drop (p + 1)))) := by rw [swr, if_neg (by omega), if_pos rfl, if_neg (by omega)]
            have e4 : sn 43 (xs.drop (p + 1)) = if xs[p + 1 + dl (xs.drop (p + 1))]? = some 45 then dl (xs.drop (p + 1)) + 1 else dl (xs.drop (p + 1)) := by rw [sn, if_pos rfl, hrr]
            have hrun := fun v w' h' => rRun_any v ((xs.drop (p + 1)).take (dl (xs.drop (p + 1)))) w' h' (by rw [List.length_take]; omega)
            have hleft := fun v w' h' => rleft_any v ((xs.drop (p + 1)).take (dl (xs.drop (p + 1)))) w' h' (by rw [List.length_take]; omega) (dl_all _)
            rw [dl_all] at hrun
            have hTd := runT_len ((xs.drop (p + 1)).take (dl (xs.drop (p + 1))))
            rw [List.length_take] at hTd
            have hdt : (xs.take (p + 1 + dl (xs.drop (p + 1)))).drop (p + 1) = (xs.drop (p + 1)).take (dl (xs.drop (p + 1))) := by rw [List.drop_take]; congr 1; omega
            have hin : ∀ k, p + 1 ≤ k → k < p + 1 + dl (xs.drop (p + 1)) → digB xs[k]? = true := fun k h1 h2 => by
              obtain ⟨y, hy1, hy2⟩ := hdin (k - (p + 1)) (by omega)
              rw [hrr, show p + 1 + (k - (p + 1)) = k by omega] at hy1
              rw [hy1]; exact decide_eq_true hy2
            have hout : digB xs[p + 1 + dl (xs.drop (p + 1))]? = false := by
              rw [hrr] at hdout
              cases hx : xs[p + 1 + dl (xs.drop (p + 1))]? with
              | none => rfl
              | some y => have := hdout y hx; exact decide_eq_false (by omega)
            generalize runT ((xs.drop (p + 1)).take (dl (xs.drop (p + 1)))) = Td at *
            generalize runO ((xs.drop (p + 1)).take (dl (xs.drop (p + 1)))) = O at *
            generalize runR ((xs.drop (p + 1)).take (dl (xs.drop (p + 1)))) = R at *
            generalize (xs.drop (p + 1)).take (dl (xs.drop (p + 1))) = d at *
            generalize dl (xs.drop (p + 1)) = m at *
            have hdg := fun k (h1 : p + 1 ≤ k) (h2 : k < p + 1 + m) => (hin k h1 h2) ▸ rdigit_any _ xs k wr hrw
            have hd0 := hdg (p + 1) (by omega) (by omega)
            have hdm := rdigit_any _ xs (p + 1 + m) wr hrw
            rw [hout] at hdm
            rw [show (((p + 1 : Nat)) : Int) = (p : Int) + 1 by omega] at hd0
            have HD0 := Lib.hid hd0; have HDG := Lib.hid hdg; have HDM := Lib.hid hdm; have HRUN := Lib.hid hrun; have HLEFT := Lib.hid hleft; have HDT := Lib.hid hdt
            have E1 := Lib.hid e1; have E2 := Lib.hid e2; have E3 := Lib.hid e3; have E4 := Lib.hid e4
            have HX2 := HX
            clear hd0 hdg hdm hrun hleft hdt e1 e2 e3 e4 hin hout hdin hdout hrr
            go_wp2_with (go_at_call 79; refine (HD0.out).mono ?_; rintro e w' ⟨rfl, hw⟩; obtain rfl := hw.symm)
            go_loopw [9] (fun kv w2 => ∃ k : Nat, kv = .int .i64 k ∧ p + 1 ≤ k ∧ k ≤ p + 1 + m ∧ w2 = wr) (fun kv _ => p + 1 + m - (intOf kv).toNat)
            case atStart => exact ⟨p + 1, by go_num, Nat.le_refl _, by omega, rfl⟩
            case round =>
              obtain ⟨k, rfl, hk1, hk2, hw0⟩ := hrel
              obtain rfl := hw0.symm
              by_cases hlk : k < p + 1 + m
              · go_wp2_with (go_at_call 79; refine (HDG.out k hk1 hlk).mono ?_; rintro e w' ⟨rfl, hw⟩; obtain rfl := hw.symm)
                go_roundw
                case rel => exact ⟨k + 1, by go_num, by omega, by omega, by first | rfl | trivial⟩
                case measure => simp [intOf]; omega
              · have hkm : k = p + 1 + m := by omega
                have hdm2 := HDM.out
                have hdt2 := HDT.out
                have e4 := E4.out
                rw [← hkm] at hdm2 hdt2 e4
                have hTd2 : Td.length ≤ m := by omega
                have hml : p + 1 + m ≤ xs.length := by omega
                have HDM2 := Lib.hid hdm2; have HDT2 := Lib.hid hdt2; have HKM := Lib.hid hkm
                clear E4
                have E4 := Lib.hid e4
                clear hdm2 hdt2 hkm e4 hlk HD0 HDG HDM HDT hTd
                have hpk : p + 1 ≤ k := hk1
                have hkl : k ≤ xs.length := by have := HKM.out; omega
                by_cases hl2 : k < xs.length
                · obtain ⟨y, HY, _, hc2⟩ := HC.out k hl2
                  have HC2 := Lib.hid hc2
                  replace hc2 := hc2 _ hbr
                  have hyr := hg.get HY.out
                  rcases Decidable.em (y = 45) with rfl | hy
                  · have e6 : (if xs[k]? = some 45 then m + 1 else m) = m + 1 := by rw [HY.out]; rfl
                    have E6 := Lib.hid e6; clear e6
                    rcases O with _ | _ <;> rcases R with _ | _
                    all_goals
                      go_wp2_with (first | (go_at_call 79; refine (HDM2.out).mono ?_; rintro e w' ⟨rfl, hw⟩; obtain rfl := hw.symm) | (refine wpList_slLH slT_u8 _ _ _ rfl rfl rfl rfl rfl (by first | exact h.below hb3 | exact h.below hbr) (by omega) (by omega) (by simp [ints]; omega) ?_; intro v2 hv2; have r2 := hv2 w h; rw [show ((p : Int) + 1).toNat = p + 1 by omega, Int.toNat_natCast, ints_take, ints_drop, HDT2.out] at r2) | (go_at_call 55; refine (HRUN.out _ _ (r2.below hbr)).mono ?_; rintro e w2 ⟨t2, rfl, ho2, hb2⟩; have hb2' := below_trans hbr hb2) | (at_builtin; refine wpList_app slT_i32 _ _ _ rfl rfl rfl rfl (hown.below hb2) ho2.row (by rw [ints_length, ints_length]; omega) hb2'.size ?_; intro t3 w3 hown3 hg3; rw [← ints_append] at hown3; have hb3 : Below w.heap.size w w3 := below_own hb2' (hown.below hb2) hg3 hb2'.size (Nat.le_refl _)) | (go_at_call 80; refine (HLEFT.out _ _ (r2.below hb3)).mono ?_; rintro e w4 ⟨rfl, hb4⟩; have hb4' := below_trans hb3 hb4; have hown4 := hown3.below hb4; have hc4 := HC2.out _ hb4') | (at_builtin; refine wpList_app slT_i32 _ _ _ rfl rfl rfl rfl (hown4.alloc _) (Row.ilit [_] [_] rfl (by simp)) (by simp [ints]; omega) (by have := hb4'.size; simp; omega) ?_; intro t5 w5 hown5 hg5; rw [← ints_append] at hown5; have hb5 : Below w.heap.size w w5 := below_own (hb4'.alloc hb4'.size _) (hown4.alloc _) hg5 (by have := hb4'.size; simp; omega) (Nat.le_refl _); have hc5 := HC2.out _ hb5))
                      go_roundw
                      case rel =>
                        first
                          | exact RRI.next HX2.out hT hn HS (by rw [E4.out, E6.out]; exact iv (by have := HKM.out; omega)) (by rw [E2.out]; go_num) rfl (by rw [E3.out]; first | (rw [Bool.not_false, Bool.or_true]; rfl) | (rw [Bool.not_true, Bool.or_false]; exact HQ.out)) (by rw [E1.out, if_pos (by trivial), ← List.append_assoc]; exact hown5) hb5
                          | exact RRI.next HX2.out hT hn HS (by rw [E4.out, E6.out]; exact iv (by have := HKM.out; omega)) (by rw [E2.out]; go_num) rfl (by rw [E3.out]; first | (rw [Bool.not_false, Bool.or_true]; rfl) | (rw [Bool.not_true, Bool.or_false]; exact HQ.out)) (by rw [E1.out, if_neg (by decide)]; exact hown4) hb4'
                      case measure => simp [intOf]; have := HKM.out; omega
                  · have e6 : (if xs[k]? = some 45 then m + 1 else m) = m := by rw [HY.out]; simp [hy]
                    have E6 := Lib.hid e6; clear e6
                    have hyn : (y == 45) = false := beq_false_of_ne hy
                    rcases O with _ | _ <;> rcases R with _ | _
                    all_goals
                      go_wp2_with (first | (go_at_call 79; refine (HDM2.out).mono ?_; rintro e w' ⟨rfl, hw⟩; obtain rfl := hw.symm) | (refine wpList_slLH slT_u8 _ _ _ rfl rfl rfl rfl rfl (by first | exact h.below hb3 | exact h.below hbr) (by omega) (by omega) (by simp [ints]; omega) ?_; intro v2 hv2; have r2 := hv2 w h; rw [show ((p : Int) + 1).toNat = p + 1 by omega, Int.toNat_natCast, ints_take, ints_drop, HDT2.out] at r2) | (go_at_call 55; refine (HRUN.out _ _ (r2.below hbr)).mono ?_; rintro e w2 ⟨t2, rfl, ho2, hb2⟩; have hb2' := below_trans hbr hb2) | (at_builtin; refine wpList_app slT_i32 _ _ _ rfl rfl rfl rfl (hown.below hb2) ho2.row (by rw [ints_length, ints_length]; omega) hb2'.size ?_; intro t3 w3 hown3 hg3; rw [← ints_append] at hown3; have hb3 : Below w.heap.size w w3 := below_own hb2' (hown.below hb2) hg3 hb2'.size (Nat.le_refl _)) | (go_at_call 80; refine (HLEFT.out _ _ (r2.below hb3)).mono ?_; rintro e w4 ⟨rfl, hb4⟩; have hb4' := below_trans hb3 hb4; have hown4 := hown3.below hb4; have hc4 := HC2.out _ hb4') | (at_builtin; refine wpList_app slT_i32 _ _ _ rfl rfl rfl rfl (hown4.alloc _) (Row.ilit [_] [_] rfl (by simp)) (by simp [ints]; omega) (by have := hb4'.size; simp; omega) ?_; intro t5 w5 hown5 hg5; rw [← ints_append] at hown5; have hb5 : Below w.heap.size w w5 := below_own (hb4'.alloc hb4'.size _) (hown4.alloc _) hg5 (by have := hb4'.size; simp; omega) (Nat.le_refl _); have hc5 := HC2.out _ hb5))
                      go_roundw
                      case rel =>
                        first
                          | exact RRI.next HX2.out hT hn HS (by rw [E4.out, E6.out]; exact iv (by have := HKM.out; omega)) (by rw [E2.out]; go_num) rfl (by rw [E3.out]; first | (rw [Bool.not_false, Bool.or_true]; rfl) | (rw [Bool.not_true, Bool.or_false]; exact HQ.out)) (by rw [E1.out, if_pos (by trivial), ← List.append_assoc]; exact hown5) hb5
                          | exact RRI.next HX2.out hT hn HS (by rw [E4.out, E6.out]; exact iv (by have := HKM.out; omega)) (by rw [E2.out]; go_num) rfl (by rw [E3.out]; first | (rw [Bool.not_false, Bool.or_true]; rfl) | (rw [Bool.not_true, Bool.or_false]; exact HQ.out)) (by rw [E1.out, if_neg (by decide)]; exact hown4) hb4'
                      case measure => simp [intOf]; have := HKM.out; omega
                · have e6 : (if xs[k]? = some 45 then m + 1 else m) = m := by rw [List.getElem?_eq_none (by omega)]; rfl
                  have E6 := Lib.hid e6; clear e6
                  rcases O with _ | _ <;> rcases R with _ | _
                  all_goals
                    go_wp2_with (first | (go_at_call 79; refine (HDM2.out).mono ?_; rintro e w' ⟨rfl, hw⟩; obtain rfl := hw.symm) | (refine wpList_slLH slT_u8 _ _ _ rfl rfl rfl rfl rfl (by first | exact h.below hb3 | exact h.below hbr) (by omega) (by omega) (by simp [ints]; omega) ?_; intro v2 hv2; have r2 := hv2 w h; rw [show ((p : Int) + 1).toNat = p + 1 by omega, Int.toNat_natCast, ints_take, ints_drop, HDT2.out] at r2) | (go_at_call 55; refine (HRUN.out _ _ (r2.below hbr)).mono ?_; rintro e w2 ⟨t2, rfl, ho2, hb2⟩; have hb2' := below_trans hbr hb2) | (at_builtin; refine wpList_app slT_i32 _ _ _ rfl rfl rfl rfl (hown.below hb2) ho2.row (by rw [ints_length, ints_length]; omega) hb2'.size ?_; intro t3 w3 hown3 hg3; rw [← ints_append] at hown3; have hb3 : Below w.heap.size w w3 := below_own hb2' (hown.below hb2) hg3 hb2'.size (Nat.le_refl _)) | (go_at_call 80; refine (HLEFT.out _ _ (r2.below hb3)).mono ?_; rintro e w4 ⟨rfl, hb4⟩; have hb4' := below_trans hb3 hb4; have hown4 := hown3.below hb4) | (at_builtin; refine wpList_app slT_i32 _ _ _ rfl rfl rfl rfl (hown4.alloc _) (Row.ilit [_] [_] rfl (by simp)) (by simp [ints]; omega) (by have := hb4'.size; simp; omega) ?_; intro t5 w5 hown5 hg5; rw [← ints_append] at hown5; have hb5 : Below w.heap.size w w5 := below_own (hb4'.alloc hb4'.size _) (hown4.alloc _) hg5 (by have := hb4'.size; simp; omega) (Nat.le_refl _)))
                    go_roundw
                    case rel =>
                      first
                        | exact RRI.next HX2.out hT hn HS (by rw [E4.out, E6.out]; exact iv (by have := HKM.out; omega)) (by rw [E2.out]; go_num) rfl (by rw [E3.out]; first | (rw [Bool.not_false, Bool.or_true]; rfl) | (rw [Bool.not_true, Bool.or_false]; exact HQ.out)) (by rw [E1.out, if_pos (by trivial), ← List.append_assoc]; exact hown5) hb5
                        | exact RRI.next HX2.out hT hn HS (by rw [E4.out, E6.out]; exact iv (by have := HKM.out; omega)) (by rw [E2.out]; go_num) rfl (by rw [E3.out]; first | (rw [Bool.not_false, Bool.or_true]; rfl) | (rw [Bool.not_true, Bool.or_false]; exact HQ.out)) (by rw [E1.out, if_neg (by decide)]; exact hown4) hb4'
                    case measure => simp [intOf]; have := HKM.out; omega
        · have e1 : ∀ r, sout c r = [c] := fun r => by rw [sout, if_neg (by omega), if_neg h43]
          have e2 : ∀ r, srun c r = 0 := fun r => by rw [srun, if_neg (by omega)]
          have e3 : ∀ r, swr c r = false := fun r => by rw [swr, if_neg (by omega), if_neg h43]
          have e4 : ∀ r, sn c r = 0 := fun r => by rw [sn, if_neg h43]
          have E1 := Lib.hid e1; have E2 := Lib.hid e2; have E3 := Lib.hid e3; have E4 := Lib.hid e4
          have hne : (c != 43) = true := by simpa using h43
          clear e1 e2 e3 e4 h43
          go_wp2_with (at_builtin; refine wpList_app slT_i32 _ _ _ rfl rfl rfl rfl (hown.alloc _) (Row.ilit [_] [_] rfl (by simp)) (by simp [ints]; omega) (by have := hbr.size; simp; omega) ?_; intro t3 w3 hown3 hg3)
          have hb3 := below_app hbr (below_alloc _ _) (hown.alloc _) hg3
          rw [← ints_append] at hown3
          go_roundw
          case rel => exact RRI.next HX.out hT hn HS (by rw [E4.out]; go_num) (by rw [E2.out]; rfl) rfl (by rw [E3.out, Bool.or_false]; exact HQ.out) (by rw [E1.out]; exact hown3) hb3
          case measure => simp [intOf]; omega
    · go_wp2
      go_ret3
      have hs := HS.out
      have hq := HQ.out
      rw [List.drop_eq_nil_of_le (by omega), sread_nil] at hs
      refine ⟨_, ret3 rfl (iv ?_) (iv ?_), ?_, hbr⟩
      · rw [hs]; simp
      · rw [hs, ← hq]; simp
      · rw [hs]; simp only [List.append_nil]; exact hown
end Go.Proofs.Ytbpjgmiedplidaa
namespace Go.Proofs.Ytbpjgmiedplidaa
open Go.RowKit
set_option maxHeartbeats 2000000
/-- The layer's record at block B: what is left, what is laid, how many runs. -/
def Ly (B : Nat) (w : World) (lv : Value) (O : List Int) (n : Int) : Prop :=
  ∃ ov, w.cell? ⟨B, 0, none⟩ = some lv ∧ w.cell? ⟨B, 1, none⟩ = some ov ∧ w.cell? ⟨B, 2, none⟩ = some (.int .i64 n) ∧ (∀ j, w.frozen? ⟨B, j, none⟩ = false) ∧ Own (B + 1) 5 w ov (ints .u8 O) ∧ B < w.heap.size
theorem Ly.below {B : Nat} {w w' : World} {lv : Value} {O : List Int} {n : Int} (h : Ly B w lv O n) (hb : Below w.heap.size w w') : Ly B w' lv O n := by
  obtain ⟨ov, h0, h1, h2, hf, ho, hB⟩ := h
  exact ⟨ov, (hb.cell (p := ⟨B, 0, none⟩) hB).trans h0, (hb.cell (p := ⟨B, 1, none⟩) hB).trans h1, (hb.cell (p := ⟨B, 2, none⟩) hB).trans h2, fun j => (hb.frozen (p := ⟨B, j, none⟩) hB).trans (hf j), ho.below hb, Nat.lt_of_lt_of_le hB hb.size⟩
theorem Ly.setL {B : Nat} {w : World} {lv : Value} {O : List Int} {n : Int} (h : Ly B w lv O n) (u : Value) : Ly B (w.setCell ⟨B, 0, none⟩ u) u O n := by
  obtain ⟨ov, h0, h1, h2, hf, ho, hB⟩ := h
  exact ⟨ov, World.cell?_setCell_same' _ _ _ (by rw [h0]; rfl), (cell_other (by decide)).trans h1, (cell_other (by decide)).trans h2, fun j => by rw [World.frozen?_setCell]; exact hf j, ho.kept (grownBy_set _ _ _ _) (by omega), by rw [World.size_setCell]; exact hB⟩
theorem Ly.setN {B : Nat} {w : World} {lv : Value} {O : List Int} {n : Int} (h : Ly B w lv O n) (m : Int) : Ly B (w.setCell ⟨B, 2, none⟩ (.int .i64 m)) lv O m := by
  obtain ⟨ov, h0, h1, h2, hf, ho, hB⟩ := h
  exact ⟨ov, (cell_other (by decide)).trans h0, (cell_other (by decide)).trans h1, World.cell?_setCell_same' _ _ _ (by rw [h2]; rfl), fun j => by rw [World.frozen?_setCell]; exact hf j, ho.kept (grownBy_set _ _ _ _) (by omega), by rw [World.size_setCell]; exact hB⟩
theorem Ly.setO {B : Nat} {w w' : World} {lv o2 : Value} {O2 : List Int} {n : Int} {ov : Value} (h0 : w.cell? ⟨B, 0, none⟩ = some lv) (h1 : w.cell? ⟨B, 1, none⟩ = some ov) (h2 : w.cell? ⟨B, 2, none⟩ = some (.int .i64 n)) (hf : ∀ j, w.frozen? ⟨B, j, none⟩ = false) (hB : B < w.heap.size)
    (hb : Below (B + 1) w w') (ho : Own (B + 1) 5 w' o2 (ints .u8 O2)) : Ly B (w'.setCell ⟨B, 1, none⟩ o2) lv O2 n := by
  have hs := hb.size
  have c : ∀ j, w'.cell? ⟨B, j, none⟩ = w.cell? ⟨B, j, none⟩ := fun j => hb.cell (p := ⟨B, j, none⟩) (Nat.lt_succ_self _)
  have f : ∀ j, w'.frozen? ⟨B, j, none⟩ = w.frozen? ⟨B, j, none⟩ := fun j => hb.frozen (p := ⟨B, j, none⟩) (Nat.lt_succ_self _)
  exact ⟨o2, ((cell_other (by decide)).trans (c _)).trans h0, World.cell?_setCell_same' _ _ _ (by rw [c, h1]; rfl), ((cell_other (by decide)).trans (c _)).trans h2, fun j => by rw [World.frozen?_setCell, f]; exact hf j, ho.kept (grownBy_set _ _ _ _) (by omega), by rw [World.size_setCell]; omega⟩
def RnPost (w0 : World) (xs : List Int) (m : Nat) (O : List Int) (n : Int) (e : Ending) (w' : World) : Prop :=
  ∃ rv lv', e = .returned rv ∧ Ly w0.heap.size w' lv' O n ∧ Row w0 rv (ints .i32 (xs.take m)) ∧ Row w0 lv' (ints .i32 (xs.drop m)) ∧ Below w0.heap.size w0 w'
end Go.Proofs.Ytbpjgmiedplidaa
namespace Go.Proofs.Ytbpjgmiedplidaa
open Go.RowKit
set_option maxHeartbeats 2000000
def LyPost (w0 : World) (c : Int) (r O : List Int) (n : Int) (w' : World) : Prop :=
  ∃ lv', Ly w0.heap.size w' lv' (O ++ lo c r) (n + ln c r) ∧ Row w0 lv' (ints .i32 ((c :: r).drop (lk c r))) ∧ Below w0.heap.size w0 w'
end Go.Proofs.Ytbpjgmiedplidaa
namespace Go.Proofs.Ytbpjgmiedplidaa
open Go.RowKit
set_option maxHeartbeats 2000000
/-- What the loop of all keeps. -/
def LYI (w : World) (xs : List Int) (wr : World) : Prop :=
  ∃ (p : Nat) (lv : Value) (O : List Int) (n : Nat), p ≤ xs.length ∧ Ly w.heap.size wr lv O n ∧ Row w lv (ints .i32 (xs.drop p)) ∧ Below w.heap.size w wr ∧ O.length ≤ 11 * p ∧ n ≤ p ∧
    Hid (lay xs = (O ++ (lay (xs.drop p)).1, n + (lay (xs.drop p)).2))
end Go.Proofs.Ytbpjgmiedplidaa
namespace Go.Proofs.Ytbpjgmiedplidaa
open Go.RowKit
set_option maxHeartbeats 2000000
/-- How many runs begin in a text, within a run or not. -/
def rr : Bool → List Int → Nat
  | _, [] => 0
  | inn, c :: r => if dirB c then rr false r else if inn then rr true r else if c = 43 then rr false r else rr true r + 1
theorem rr_true : ∀ xs : List Int, rr true xs = rr false (xs.drop (dn xs))
  | [] => rfl
  | c :: r => by
    rw [dn]
    by_cases hd : dirB c = true
    · rw [if_pos hd, List.drop_zero, rr, rr, if_pos hd, if_pos hd]
    · rw [if_neg hd, List.drop_succ_cons, rr, if_neg hd, if_pos rfl]; exact rr_true r
theorem rr_lay : ∀ (k : Nat) (xs : List Int), xs.length ≤ k → (lay xs).2 = rr false xs
  | _, [], _ => by rw [lay_nil]; rfl
  | 0, c :: r, h => by simp at h
  | k + 1, c :: r, h => by
    have hp := lk_pos c r
    have ih := rr_lay k ((c :: r).drop (lk c r)) (by rw [List.length_drop]; simp only [List.length_cons] at h ⊢; omega)
    rw [lay_cons, ih]
    by_cases hd : dirB c = true
    · have h0 : rn (c :: r) = 0 := by rw [rn]; split; rfl; rw [dn, if_pos hd]
      rw [ln, if_neg (by omega), lk, if_neg (by omega), Nat.zero_add, rr, if_pos hd, List.drop_succ_cons, List.drop_zero]
    · by_cases h43 : c = 43
      · have h0 : rn (c :: r) = 0 := by rw [rn, if_pos h43]
        rw [ln, if_neg (by omega), lk, if_neg (by omega), Nat.zero_add, rr, if_neg hd, if_neg (by simp), if_pos h43, List.drop_succ_cons, List.drop_zero]
      · have h0 : rn (c :: r) = dn r + 1 := by rw [rn, if_neg h43, dn, if_neg hd]
        rw [ln, if_pos (by omega), lk, if_pos (by omega), h0, rr, if_neg hd, if_neg (by simp), if_neg h43, List.drop_succ_cons, rr_true, Nat.add_comm]
end Go.Proofs.Ytbpjgmiedplidaa
namespace Go.Proofs.Ytbpjgmiedplidaa
open Go.RowKit
/-- r reads as ds, and lies apart from what v owns. -/
def Free (w : World) (v r : Value) (ds : List Value) : Prop := Row w r ds ∧ (ds = [] ∨ ∃ g, r.ownBlock = some g ∧ g < w.heap.size ∧ v.ownBlock ≠ some g)
theorem Free.row {w : World} {v r : Value} {ds : List Value} (h : Free w v r ds) : Row w r ds := h.1
theorem Own.blk {B : Nat} {E : TypeId} {w : World} {v : Value} {cs : List Value} (h : Own B E w v cs) : ∀ g, v.ownBlock = some g → g < w.heap.size := fun g hg => (h.1.lt g hg).2
theorem Free.of_own {B : Nat} {E : TypeId} {w : World} {v r : Value} {ds : List Value} (h : Own B E w r ds) (hv : ∀ g, v.ownBlock = some g → g < B) : Free w v r ds := by
  refine ⟨h.row, ?_⟩
  rcases h.1.2 with ⟨_, h0⟩ | ⟨g, cap, cur, hr, hb, hg, _⟩
  · exact .inl (List.eq_nil_of_length_eq_zero h0)
  · have hr' : r.ownBlock = some g := by rw [hr]; rfl
    exact .inr ⟨g, hr', (h.1.lt g hr').2, fun h9 => by have := hv g h9; omega⟩
theorem Free.below {w w' : World} {v r : Value} {ds : List Value} (h : Free w v r ds) (hb : Below w.heap.size w w') : Free w' v r ds := by
  refine ⟨h.1.below hb, ?_⟩
  rcases h.2 with h0 | ⟨g, h1, h2, h3⟩
  · exact .inl h0
  · exact .inr ⟨g, h1, Nat.lt_of_lt_of_le h2 hb.size, h3⟩
theorem Free.alloc {w : World} {v r : Value} {ds : List Value} (h : Free w v r ds) (o : Obj) : Free (w.alloc o) v r ds := h.below (below_alloc w o)
/-- A literal that is made now. -/
theorem Free.ilit {B : Nat} {E E' : TypeId} {w : World} {v : Value} {cs0 : List Value} {k : IntKind} (hown : Own B E w v cs0) (xs : List Int) (cs : List Value) (hx : ints k xs = cs) (hl : cs.length ≤ 1000000000) :
    Free (w.alloc (.cells cs.toArray E')) v (.slice (some ⟨w.heap.size, 0, none⟩) cs.length cs.length) (ints k xs) :=
  Free.of_own (Own.ilit (B := w.heap.size) xs cs hx (Nat.le_refl _) hl) hown.blk
/-- What stays when v is appended to. -/
theorem Free.app {w w' : World} {v v' r : Value} {ds : List Value} (h : Free w v r ds) (hg : w.grownBy w' v.ownBlock) (hl : v'.ownBlock = v.ownBlock ∨ v'.ownBlock = some w.heap.size) : Free w' v' r ds := by
  obtain ⟨⟨a, b, off, cap, rfl, hc, hm, ha, h1, hcell⟩, h2⟩ := h
  rcases h2 with rfl | ⟨g, h2, h3, h4⟩
  · exact ⟨⟨a, b, off, cap, rfl, hc, hm, ha, h1, fun i u hu => by simp at hu⟩, .inl rfl⟩
  · refine ⟨⟨a, b, off, cap, rfl, hc, hm, ha, h1, fun i u hu => ?_⟩, .inr ⟨g, h2, Nat.lt_of_lt_of_le h3 hg.size, ?_⟩⟩
    · have h5 := hcell i u hu
      rcases ha with rfl | ⟨rfl, _⟩
      · have e : b = g := by simpa [Value.ownBlock] using h2
        subst e
        rw [← h5]
        exact hg.cell_far _ h3 (fun h9 => h4 h9.symm)
      · simp at hu
    · rcases hl with hl | hl
      · rw [hl]; exact h4
      · rw [hl]; intro h9
        have : w.heap.size = g := by simpa using h9
        omega
theorem Row.far {w w' : World} {row : Option Nat} {r : Value} {ds : List Value} (h : Row w r ds) (hg : w.grownBy w' row) (hr : ∀ g, r.ownBlock = some g → g < w.heap.size → row ≠ some g) : Row w' r ds := by
  obtain ⟨a, b, off, cap, rfl, hc, hm, ha, h1, hcell⟩ := h
  refine ⟨a, b, off, cap, rfl, hc, hm, ha, h1, fun i u hu => ?_⟩
  have h5 := hcell i u hu
  rcases ha with rfl | ⟨rfl, _⟩
  · have hlt := World.block_lt_of_cell? w _ h5
    rw [← h5]
    exact hg.cell_far _ hlt (fun h9 => hr b rfl hlt h9.symm)
  · simp at hu
/-- append(s, x...): s owned, x read as a row; and where the new slice lies. -/
theorem wp_app2 {P : Program} {w : World} {o : Oper} {a : Act} {K : Act → World → Prop} {Q : Exit → Act → World → Prop} {t E : TypeId} (hT : SlT P t E) (B : Nat)
    (s x : Operand) (ho : o.op = .call { callee := .builtin .append, args := #[s, x], argTypes := #[t, t] })
    {v v2 : Value} (hs : a.eval s = v) (hx : a.eval x = v2) {cs ds : List Value} (hown : Own B E w v cs) (hrow : Row w v2 ds) (hb : cs.length + ds.length ≤ 1000000000) (hB : B ≤ w.heap.size)
    (h : ∀ v' w', Own B E w' v' (cs ++ ds) → w.grownBy w' v.ownBlock → (v'.ownBlock = v.ownBlock ∨ v'.ownBlock = some w.heap.size) → K (a.put o.dst v') w') : o.wp P a w K Q := by
  obtain ⟨ht, i, z, hi, hz, hsize, hby, hzs⟩ := hT
  obtain ⟨a2, b2, off2, cap2, rfl, hc2, hm2, ha2, h12, hcell2⟩ := hrow
  cases a2 with
  | none =>
    obtain ⟨rfl, hc⟩ : ds = [] ∧ ((none : Option Addr) = none → cap2 = 0) := by
      rcases ha2 with h | h
      · cases h
      · exact h
    obtain rfl := hc rfl
    have hrun := run_append_owned_none (P := P) (w := w) B t o.type E i 1 ht hi v cs.length cs hown.1
    unfold Oper.wp
    simp [execOp, ho, resolve, invoke, builtin, hs, hx, hrun, Result.andThen]
    have := h v w (by simpa using hown) ⟨rfl, rfl, rfl, Nat.le_refl _, fun _ _ _ => rfl⟩ (.inl rfl)
    exact this
  | some ad =>
    have hnews : ∀ j u, ds[j]? = some u → w.cell? (ad.add j) = some u := by
      intro j u hu
      rcases ha2 with h | h
      · obtain rfl : ad = ⟨b2, off2, none⟩ := by simpa using h
        rw [addr_add]; exact hcell2 j u hu
      · obtain ⟨rfl, _⟩ := h
        simp at hu
    have h3 : (cs.length + ds.length) * i.bytes ≤ 1000000000 * 64 := Nat.mul_le_mul hb hby
    obtain ⟨v', w', hr, h2, h4, _, h5⟩ := run_append_own_at (P := P) w B t o.type E i z 1 i.bytes ht hi hz hsize rfl hzs (by omega) v cs.length cs hown.1 ad ds.length cap2 ds (by simp) hnews h12
      (by simp only [maxLen]; omega) (by omega) hB
    unfold Oper.wp execOp
    simp only [ho, resolve, invoke, builtin, Sem.run_bind, Sem.run_pure, Result.andThen_ok, List.map_toArray, List.map_cons, List.map_nil, hs, hx, hr]
    exact h v' w' ⟨by simpa using h2, by
        intro u hu
        rcases List.mem_append.1 hu with hu | hu
        · exact hown.2 u hu
        · exact h12 u hu⟩ h4 h5
/-- The same at a step of a region that draws its order. -/
theorem step_app2 {P : Program} {w : World} {ops : Array Oper} {o : Oper} {a : Act} {K : Act → World → Prop} {Q : Exit → Act → World → Prop} {F : Prop} {t E : TypeId} (hT : SlT P t E) (B : Nat)
    (s x : Operand) (hg : Region.wanted o (yielded ops a.tmps) = true) (ho : o.op = .call { callee := .builtin .append, args := #[s, x], argTypes := #[t, t] })
    {v v2 : Value} (hs : a.eval s = v) (hx : a.eval x = v2) {cs ds : List Value} (hown : Own B E w v cs) (hrow : Row w v2 ds) (hb : cs.length + ds.length ≤ 1000000000) (hB : B ≤ w.heap.size)
    (h : ∀ v' w', Own B E w' v' (cs ++ ds) → w.grownBy w' v.ownBlock → (v'.ownBlock = v.ownBlock ∨ v'.ownBlock = some w.heap.size) → K (a.put o.dst v') w') : if Region.wanted o (yielded ops a.tmps) = true then Oper.wp P o a w K Q else F := by
  rw [if_pos hg]; exact wp_app2 hT B s x ho hs hx hown hrow hb hB h
theorem below_grown {B : Nat} {E : TypeId} {a w w' : World} {v : Value} {cs : List Value} (h : Below B a w) (hown : Own B E w v cs) (hg : w.grownBy w' v.ownBlock) (hB : B ≤ w.heap.size) : Below B a w' := below_own h hown hg hB (Nat.le_refl _)
end Go.Proofs.Ytbpjgmiedplidaa
namespace Go.Proofs.Ytbpjgmiedplidaa
open Go.RowKit
theorem Own.form {B : Nat} {E : TypeId} {w : World} {v : Value} {cs : List Value} (h : Own B E w v cs) (h0 : 0 < cs.length) : ∃ g cap, v = .slice (some ⟨g, 0, none⟩) cs.length cap ∧ B ≤ g ∧ g < w.heap.size := by
  obtain ⟨g, cap, hv, h1, h2⟩ := h.1.form h0
  exact ⟨g, cap, hv, h1, h2⟩
theorem Own.cell {B g n cap : Nat} {E : TypeId} {w : World} {cs : List Value} (h : Own B E w (.slice (some ⟨g, 0, none⟩) n cap) cs) {j : Nat} {u : Value} (hu : cs[j]? = some u) : w.cell? ⟨g, j, none⟩ = some u := by
  have hl : n = cs.length := by
    obtain ⟨_, _, _, _, hv, _⟩ := h.row
    simp only [Value.slice.injEq] at hv; exact hv.2.1
  subst hl
  rw [h.1.cellAt j (by have := (List.getElem?_eq_some_iff.1 hu).1; omega), hu]
theorem Own.frozen {B g n cap : Nat} {E : TypeId} {w : World} {cs : List Value} (h : Own B E w (.slice (some ⟨g, 0, none⟩) n cap) cs) (j : Nat) : w.frozen? ⟨g, j, none⟩ = false := by
  have hl : n = cs.length := by
    obtain ⟨_, _, _, _, hv, _⟩ := h.row
    simp only [Value.slice.injEq] at hv; exact hv.2.1
  subst hl
  exact h.1.frozenAt j
theorem Own.set {B g n cap : Nat} {E : TypeId} {w : World} {cs : List Value} (h : Own B E w (.slice (some ⟨g, 0, none⟩) n cap) cs) (j : Nat) (u : Value) (hu : u.oneCell' = true) : Own B E (w.setCell ⟨g, j, none⟩ u) (.slice (some ⟨g, 0, none⟩) n cap) (cs.set j u) := by
  have hl : n = cs.length := by
    obtain ⟨_, _, _, _, hv, _⟩ := h.row
    simp only [Value.slice.injEq] at hv; exact hv.2.1
  subst hl
  refine ⟨?_, fun x hx => ?_⟩
  · rw [List.length_set]; exact (h.1.stored j u).1
  · rcases List.mem_or_eq_of_mem_set hx with h1 | rfl
    · exact h.2 x h1
    · exact hu
theorem grown_set (w : World) (g j : Nat) (u : Value) : w.grownBy (w.setCell ⟨g, j, none⟩ u) (some g) := ⟨rfl, rfl, rfl, by simp, fun k _ hk => heap_setCell_other w ⟨g, j, none⟩ k u (fun e => hk (by simp [e]))⟩
theorem grown_trans {w w1 w2 : World} {r : Option Nat} (h : w.grownBy w1 r) (h2 : w1.grownBy w2 r) : w.grownBy w2 r := ⟨h2.os.trans h.os, h2.tape.trans h.tape, h2.output.trans h.output, Nat.le_trans h.size h2.size, fun k hk hr => (h2.block k (Nat.lt_of_lt_of_le hk h.size) hr).trans (h.block k hk hr)⟩
theorem grown_drew (w : World) (r : Option Nat) : w.grownBy w.drew r := ⟨rfl, rfl, rfl, Nat.le_refl _, fun _ _ _ => rfl⟩
theorem ints_set (k : IntKind) (xs : List Int) (j : Nat) (x : Int) : (ints k xs).set j (.int k x) = ints k (xs.set j x) := by simp [ints, List.map_set]
theorem wpList_app2 {P : Program} {w : World} {ops : Array Oper} {rest : List Oper} {o : Oper} {a : Act} {Q : Exit → Act → World → Prop} {t E : TypeId} (hT : SlT P t E) (B : Nat)
    (s x : Operand) (hg : Region.wanted o (yielded ops a.tmps) = true) (ho : o.op = .call { callee := .builtin .append, args := #[s, x], argTypes := #[t, t] })
    {v v2 : Value} (hs : a.eval s = v) (hx : a.eval x = v2) {cs ds : List Value} (hown : Own B E w v cs) (hrow : Row w v2 ds) (hb : cs.length + ds.length ≤ 1000000000) (hB : B ≤ w.heap.size)
    (h : ∀ v' w', Own B E w' v' (cs ++ ds) → w.grownBy w' v.ownBlock → (v'.ownBlock = v.ownBlock ∨ v'.ownBlock = some w.heap.size) → wpList P ops Q rest (a.put o.dst v') w') : wpList P ops Q (o :: rest) a w :=
  wpList_wanted hg (wp_app2 hT B s x ho hs hx hown hrow hb hB h)
end Go.Proofs.Ytbpjgmiedplidaa
