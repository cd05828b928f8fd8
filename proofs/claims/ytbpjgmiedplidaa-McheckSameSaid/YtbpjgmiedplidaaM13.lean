/- Walks: reading a name, by the reference. · The statements of layer 24, walked. (laid together by program out of single texts). -/
import Derived.Test.YtbpjgmiedplidaaM3
import Derived.Test.YtbpjgmiedplidaaM8
import Derived.Test.YtbpjgmiedplidaaM11
import Derived.Test.YtbpjgmiedplidaaM12
namespace Go.Proofs.Ytbpjgmiedplidaa
open Go.RowKit
set_option maxHeartbeats 4000000
/-- What the loop of the reference's Read keeps. -/
def MRR (w : World) (xs : List Int) (u qv iv : Value) (wr : World) : Prop :=
  ∃ (p : Nat) (T : List Int) (q : Bool), iv = .int .i64 p ∧ qv = .bool q ∧ p ≤ xs.length ∧ T.length ≤ p ∧ Hid ((mread xs).1 = T ++ (mread (xs.drop p)).1) ∧ Own w.heap.size 21 wr u (ints .i32 T) ∧ Below w.heap.size w wr
theorem MRR.next {w wr : World} {xs T : List Int} {u iv qv : Value} {p : Nat} {c : Int} {q : Bool} (hxc : xs[p]? = some c) (hT : T.length ≤ p) (HS : Hid ((mread xs).1 = T ++ (mread (xs.drop p)).1))
    (hi : iv = .int .i64 ((p + 1 + msn c (xs.drop (p + 1)) : Nat) : Int)) (hq : qv = .bool q) (ho : Own w.heap.size 21 wr u (ints .i32 (T ++ msout c (xs.drop (p + 1))))) (hb : Below w.heap.size w wr) : MRR w xs u qv iv wr := by
  have hpl := (List.getElem?_eq_some_iff.1 hxc).1
  have hsl := msout_len c (xs.drop (p + 1))
  have hsn := msn_le c (xs.drop (p + 1))
  rw [List.length_drop] at hsn
  refine ⟨_, _, q, hi, hq, by omega, by rw [List.length_append]; omega, ?_, ho, hb⟩
  show _ = _
  rw [HS.out, mread_at hxc]
  simp only [List.append_assoc]
set_option maxRecDepth 100000 in
theorem rmRead_any (v : Value) (xs : List Int) (w : World) (h : Row w v (ints .u8 xs)) (hg : Rg 0 256 xs) (hl : xs.length ≤ 9000) :
    Calls Try.prog 30 #[v] w fun e w' => ∃ t q, e = .returned (.tuple #[t, .bool q]) ∧ Own w.heap.size 21 w' t (ints .i32 (mread xs).1) ∧ Below w.heap.size w w' := by
  obtain ⟨a, bb, off, cp, rfl, HC⟩ := h.op
  go_enter Try.func30, Try.ntmps30
  go_wp2
  go_loopw [4, 5, 6] (fun u qv iv wr => MRR w xs u qv iv wr) (fun _ _ i _ => xs.length - (intOf i).toNat)
  case atStart => exact ⟨0, [], true, rfl, rfl, Nat.zero_le _, Nat.le_refl _, (by simp : (mread xs).1 = [] ++ (mread (xs.drop 0)).1), Own.nil _ _ _, Below.refl _ _⟩
  case round =>
    obtain ⟨p, T, q, rfl, rfl, hp, hT, HS, hown, hbr⟩ := hrel
    by_cases hlt : p < xs.length
    · obtain ⟨c, HX, rfl, hc⟩ := HC.out p hlt
      replace hc := hc _ hbr
      have hcr := hg.get HX.out
      have hc0 := hcr.1
      have hc1 := hcr.2
      have hD := fun w => rmDirect_any c w
      have HX2 := HX
      rcases hd : mdirB c with _ | _
      · rw [hd] at hD
        have HD := Lib.hid hD; clear hD
        rcases Decidable.em (c = 38) with rfl | h38
        · have hrr : ∀ k, (xs.drop (p + 1))[k]? = xs[p + 1 + k]? := fun k => by rw [List.getElem?_drop]
          have hdl := ml_le (xs.drop (p + 1))
          have hdin := ml_in (xs.drop (p + 1))
          have hdout := ml_out (xs.drop (p + 1))
          have hrw := h.below hbr
          rw [List.length_drop] at hdl
          rcases Nat.eq_zero_or_pos (ml (xs.drop (p + 1))) with hm | hm
          · rw [hm, hrr] at hdout
            have hd0 := rmdigit_any _ xs (p + 1) wr hrw
            have hdf : mdigB xs[p + 1]? = false := by
              cases hx : xs[p + 1]? with
              | none => rfl
              | some y => have := hdout y hx; exact decide_eq_false (by omega)
            rw [hdf, show (((p + 1 : Nat)) : Int) = (p : Int) + 1 by omega] at hd0
            have HD0 := Lib.hid hd0
            by_cases hl2 : p + 1 < xs.length
            · obtain ⟨y, HY, _, hc2⟩ := HC.out (p + 1) hl2
              replace hc2 := hc2 _ hbr
              rcases Decidable.em (y = 45) with rfl | hy
              · have h45 : (xs.drop (p + 1))[0]? = some 45 := by rw [hrr]; exact HY.out
                have e1 : msout 38 (xs.drop (p + 1)) = [38] := by rw [msout, hd, if_neg (by decide), if_pos rfl, if_pos hm, if_pos h45]
                have e4 : msn 38 (xs.drop (p + 1)) = 1 := by rw [msn, if_pos rfl, hm, if_pos h45]
                have E1 := Lib.hid e1; have E4 := Lib.hid e4
                clear hd0 hdf hm hdout hdin hrr hdl h45 e1 e4 hd
                go_wp2_with (first | (go_at_call 20; refine (HD.out _).mono ?_; rintro e w' ⟨rfl, hw⟩; obtain rfl := hw.symm) | (at_builtin; refine wpList_app slT_i32 _ _ _ rfl rfl rfl rfl (hown.alloc _) (Row.ilit [_] [_] rfl (by simp)) (by simp [ints]; omega) (by have := hbr.size; simp; omega) ?_; intro t3 w3 hown3 hg3; have hb3 := below_app hbr (below_alloc _ _) (hown.alloc _) hg3; rw [← ints_append] at hown3))
                go_roundw
                case rel => exact MRR.next HX2.out hT HS (by rw [E4.out]; go_num) rfl (by rw [E1.out]; exact hown3) hb3
                case measure => simp [intOf]; omega
              · have h45 : ¬ (xs.drop (p + 1))[0]? = some 45 := by rw [hrr, Nat.add_zero, HY.out]; simp [hy]
                have e1 : msout 38 (xs.drop (p + 1)) = [65533] := by rw [msout, hd, if_neg (by decide), if_pos rfl, if_pos hm, if_neg h45]
                have e4 : msn 38 (xs.drop (p + 1)) = 0 := by rw [msn, if_pos rfl, hm, if_neg h45]
                have E1 := Lib.hid e1; have E4 := Lib.hid e4
                have hyn : (y == 45) = false := beq_false_of_ne hy
                clear hd0 hdf hm hdout hdin hrr hdl h45 e1 e4 hd hy
                go_wp2_with (first | (go_at_call 20; refine (HD.out _).mono ?_; rintro e w' ⟨rfl, hw⟩; obtain rfl := hw.symm) | (go_at_call 49; refine (HD0.out).mono ?_; rintro e w' ⟨rfl, hw⟩; obtain rfl := hw.symm) | (at_builtin; refine wpList_app slT_i32 _ _ _ rfl rfl rfl rfl (hown.alloc _) (Row.ilit [_] [_] rfl (by simp)) (by simp [ints]; omega) (by have := hbr.size; simp; omega) ?_; intro t3 w3 hown3 hg3; have hb3 := below_app hbr (below_alloc _ _) (hown.alloc _) hg3; rw [← ints_append] at hown3))
                go_roundw
                case rel => exact MRR.next HX2.out hT HS (by rw [E4.out]; go_num) rfl (by rw [E1.out]; exact hown3) hb3
                case measure => simp [intOf]; omega
            · have h45 : ¬ (xs.drop (p + 1))[0]? = some 45 := by rw [hrr, List.getElem?_eq_none (by omega)]; simp
              have e1 : msout 38 (xs.drop (p + 1)) = [65533] := by rw [msout, hd, if_neg (by decide), if_pos rfl, if_pos hm, if_neg h45]
              have e4 : msn 38 (xs.drop (p + 1)) = 0 := by rw [msn, if_pos rfl, hm, if_neg h45]
              have E1 := Lib.hid e1; have E4 := Lib.hid e4
              clear hd0 hdf hm hdout hdin hrr hdl h45 e1 e4 hd
              go_wp2_with (first | (go_at_call 20; refine (HD.out _).mono ?_; rintro e w' ⟨rfl, hw⟩; obtain rfl := hw.symm) | (go_at_call 49; refine (HD0.out).mono ?_; rintro e w' ⟨rfl, hw⟩; obtain rfl := hw.symm) | (at_builtin; refine wpList_app slT_i32 _ _ _ rfl rfl rfl rfl (hown.alloc _) (Row.ilit [_] [_] rfl (by simp)) (by simp [ints]; omega) (by have := hbr.size; simp; omega) ?_; intro t3 w3 hown3 hg3; have hb3 := below_app hbr (below_alloc _ _) (hown.alloc _) hg3; rw [← ints_append] at hown3))
              go_roundw
              case rel => exact MRR.next HX2.out hT HS (by rw [E4.out]; go_num) rfl (by rw [E1.out]; exact hown3) hb3
              case measure => simp [intOf]; omega
          · have hd38 := hd
            have e1 : msout 38 (xs.drop (p + 1)) = mwhole ((xs.drop (p + 1)).take (ml (xs.drop (p + 1)))) := by rw [msout, hd, if_neg (by decide), if_pos rfl, if_neg (by omega)]
            have e4 : msn 38 (xs.drop (p + 1)) = if xs[p + 1 + ml (xs.drop (p + 1))]? = some 45 then ml (xs.drop (p + 1)) + 1 else ml (xs.drop (p + 1)) := by rw [msn, if_pos rfl, hrr]
            have hgd : Rg 0 256 ((xs.drop (p + 1)).take (ml (xs.drop (p + 1)))) := (hg.drop _).take _
            have hrun := fun v w' h' => rmRun_any v ((xs.drop (p + 1)).take (ml (xs.drop (p + 1)))) w' h' hgd (by rw [List.length_take]; omega)
            have hne := ml_tne (r := xs.drop (p + 1)) (by omega)
            have hA : mrunA ((xs.drop (p + 1)).take (ml (xs.drop (p + 1)))) = mwhole ((xs.drop (p + 1)).take (ml (xs.drop (p + 1)))) := by rw [mrunA, if_pos ⟨ml_all _, hne⟩]
            have hWl := mwhole_len _ (ml_dig (xs.drop (p + 1))) hne
            rw [List.length_take] at hWl
            rw [hA] at hrun
            have hdt : (xs.take (p + 1 + ml (xs.drop (p + 1)))).drop (p + 1) = (xs.drop (p + 1)).take (ml (xs.drop (p + 1))) := by rw [List.drop_take]; congr 1; omega
            have hin : ∀ k, p + 1 ≤ k → k < p + 1 + ml (xs.drop (p + 1)) → mdigB xs[k]? = true := fun k h1 h2 => by
              obtain ⟨y, hy1, hy2⟩ := hdin (k - (p + 1)) (by omega)
              rw [hrr, show p + 1 + (k - (p + 1)) = k by omega] at hy1
              rw [hy1]; exact decide_eq_true hy2
            have hout : mdigB xs[p + 1 + ml (xs.drop (p + 1))]? = false := by
              rw [hrr] at hdout
              cases hx : xs[p + 1 + ml (xs.drop (p + 1))]? with
              | none => rfl
              | some y => have := hdout y hx; exact decide_eq_false (by omega)
            have hy45 : ∃ y, xs[p + 1]? = some y ∧ (y == 45) = false := by
              obtain ⟨y, hy1, hy2⟩ := hdin 0 hm
              rw [hrr] at hy1
              exact ⟨y, hy1, beq_false_of_ne (by intro h9; subst h9; revert hy2; decide)⟩
            clear hA hne
            generalize mrunT ((xs.drop (p + 1)).take (ml (xs.drop (p + 1)))) = MT at *
            generalize mrunR ((xs.drop (p + 1)).take (ml (xs.drop (p + 1)))) = R at *
            generalize mwhole ((xs.drop (p + 1)).take (ml (xs.drop (p + 1)))) = D at *
            generalize (xs.drop (p + 1)).take (ml (xs.drop (p + 1))) = d at *
            generalize ml (xs.drop (p + 1)) = m at *
            have hDl : Hid (D.length ≤ 9001) := by show _ ≤ _; omega
            obtain ⟨y1, HY1, hyn1⟩ := hy45
            obtain ⟨y1', HY1', _, hcy1⟩ := HC.out (p + 1) (by omega)
            have e9 := HY1'.out; rw [HY1] at e9; obtain rfl := Option.some.inj e9
            have hcy1 := hcy1 _ hbr
            have hl1 : p + 1 < xs.length := by omega
            have hdg := fun k (h1 : p + 1 ≤ k) (h2 : k < p + 1 + m) => (hin k h1 h2) ▸ rmdigit_any _ xs k wr hrw
            have hd0 := hdg (p + 1) (by omega) (by omega)
            have hdm := rmdigit_any _ xs (p + 1 + m) wr hrw
            rw [hout] at hdm
            rw [show (((p + 1 : Nat)) : Int) = (p : Int) + 1 by omega] at hd0
            have HD0 := Lib.hid hd0; have HDG := Lib.hid hdg; have HDM := Lib.hid hdm; have HRUN := Lib.hid hrun; have HDT := Lib.hid hdt
            have E1 := Lib.hid e1; have E4 := Lib.hid e4
            clear hd0 hdg hdm hrun hdt e1 e4 hin hout hdin hdout hrr hd hd38 HY1 HY1' e9 hWl
            go_wp2_with (first | (go_at_call 20; refine (HD.out _).mono ?_; rintro e w' ⟨rfl, hw⟩; obtain rfl := hw.symm) | (go_at_call 49; refine (HD0.out).mono ?_; rintro e w' ⟨rfl, hw⟩; obtain rfl := hw.symm))
            go_loopw [7] (fun kv w2 => ∃ k : Nat, kv = .int .i64 k ∧ p + 1 ≤ k ∧ k ≤ p + 1 + m ∧ w2 = wr) (fun kv _ => p + 1 + m - (intOf kv).toNat)
            case atStart => exact ⟨p + 1, by go_num, Nat.le_refl _, by omega, rfl⟩
            case round =>
              obtain ⟨k, rfl, hk1, hk2, hw0⟩ := hrel
              obtain rfl := hw0.symm
              by_cases hlk : k < p + 1 + m
              · go_wp2_with (go_at_call 49; refine (HDG.out k hk1 hlk).mono ?_; rintro e w' ⟨rfl, hw⟩; obtain rfl := hw.symm)
                go_roundw
                case rel => exact ⟨k + 1, by go_num, by omega, by omega, by first | rfl | trivial⟩
                case measure => simp [intOf]; omega
              · have hkm : k = p + 1 + m := by omega
                have hdm2 := HDM.out
                have hdt2 := HDT.out
                have e4 := E4.out
                rw [← hkm] at hdm2 hdt2 e4
                have HDM2 := Lib.hid hdm2; have HDT2 := Lib.hid hdt2; have HKM := Lib.hid hkm
                clear E4
                have E4 := Lib.hid e4
                clear hdm2 hdt2 hkm e4 hlk HD0 HDG HDM HDT
                have hpk : p + 1 ≤ k := hk1
                have hkl : k ≤ xs.length := by have := HKM.out; omega
                by_cases hl2 : k < xs.length
                · obtain ⟨y, HY, _, hc2⟩ := HC.out k hl2
                  have HC2 := Lib.hid hc2
                  replace hc2 := hc2 _ hbr
                  rcases Decidable.em (y = 45) with rfl | hy
                  case' inl =>
                    have e6 : (if xs[k]? = some 45 then m + 1 else m) = m + 1 := (by rw [HY.out]; rfl)
                    have E6 := Lib.hid e6; clear e6
                  case' inr =>
                    have e6 : (if xs[k]? = some 45 then m + 1 else m) = m := (by rw [HY.out]; simp [hy])
                    have E6 := Lib.hid e6; clear e6
                    have hyn : (y == 45) = false := beq_false_of_ne hy
                    clear hy
                  all_goals
                    rcases q with _ | _
                    all_goals
                      go_wp2_with (first | (go_at_call 49; refine (HDM2.out).mono ?_; rintro e w' ⟨rfl, hw⟩; obtain rfl := hw.symm) | (refine wpList_slLH slT_u8 _ _ _ rfl rfl rfl rfl rfl (h.below hbr) (by omega) (by omega) (by simp [ints]; omega) ?_; intro v2 hv2; have r2 := hv2 w h; rw [show ((p : Int) + 1).toNat = p + 1 by omega, Int.toNat_natCast, ints_take, ints_drop, HDT2.out] at r2) | (go_at_call 32; refine (HRUN.out _ _ (r2.below hbr)).mono ?_; rintro e w2 ⟨t2, u2, rfl, _, ho2, hb2⟩; have hb2' := below_trans hbr hb2) | (at_builtin; refine wpList_app slT_i32 _ _ _ rfl rfl rfl rfl (hown.below hb2) ho2.row (by have := hDl.out; rw [ints_length, ints_length]; omega) hb2'.size ?_; intro t3 w3 hown3 hg3; rw [← ints_append] at hown3; have hb3 : Below w.heap.size w w3 := below_own hb2' (hown.below hb2) hg3 hb2'.size (Nat.le_refl _); have hc3 := HC2.out _ hb3))
                      go_roundw
                      case rel => exact MRR.next HX2.out hT HS (by rw [E4.out, E6.out]; exact iv (by have := HKM.out; omega)) rfl (by rw [E1.out]; exact hown3) hb3
                      case measure => simp [intOf]; have := HKM.out; omega
                · have e6 : (if xs[k]? = some 45 then m + 1 else m) = m := by rw [List.getElem?_eq_none (by omega)]; rfl
                  have E6 := Lib.hid e6; clear e6
                  rcases q with _ | _
                  all_goals
                    go_wp2_with (first | (go_at_call 49; refine (HDM2.out).mono ?_; rintro e w' ⟨rfl, hw⟩; obtain rfl := hw.symm) | (refine wpList_slLH slT_u8 _ _ _ rfl rfl rfl rfl rfl (h.below hbr) (by omega) (by omega) (by simp [ints]; omega) ?_; intro v2 hv2; have r2 := hv2 w h; rw [show ((p : Int) + 1).toNat = p + 1 by omega, Int.toNat_natCast, ints_take, ints_drop, HDT2.out] at r2) | (go_at_call 32; refine (HRUN.out _ _ (r2.below hbr)).mono ?_; rintro e w2 ⟨t2, u2, rfl, _, ho2, hb2⟩; have hb2' := below_trans hbr hb2) | (at_builtin; refine wpList_app slT_i32 _ _ _ rfl rfl rfl rfl (hown.below hb2) ho2.row (by have := hDl.out; rw [ints_length, ints_length]; omega) hb2'.size ?_; intro t3 w3 hown3 hg3; rw [← ints_append] at hown3; have hb3 : Below w.heap.size w w3 := below_own hb2' (hown.below hb2) hg3 hb2'.size (Nat.le_refl _)))
                    go_roundw
                    case rel => exact MRR.next HX2.out hT HS (by rw [E4.out, E6.out]; exact iv (by have := HKM.out; omega)) rfl (by rw [E1.out]; exact hown3) hb3
                    case measure => simp [intOf]; have := HKM.out; omega
        · have e1 : ∀ r, msout c r = [65533] := fun r => by rw [msout, hd, if_neg (by decide), if_neg h38]
          have e4 : ∀ r, msn c r = 0 := fun r => by rw [msn, if_neg h38]
          have E1 := Lib.hid e1; have E4 := Lib.hid e4
          have hne : (c == 38) = false := beq_false_of_ne h38
          clear e1 e4 h38 hd
          go_wp2_with (first | (go_at_call 20; refine (HD.out _).mono ?_; rintro e w' ⟨rfl, hw⟩; obtain rfl := hw.symm) | (at_builtin; refine wpList_app slT_i32 _ _ _ rfl rfl rfl rfl (hown.alloc _) (Row.ilit [_] [_] rfl (by simp)) (by simp [ints]; omega) (by have := hbr.size; simp; omega) ?_; intro t3 w3 hown3 hg3; have hb3 := below_app hbr (below_alloc _ _) (hown.alloc _) hg3; rw [← ints_append] at hown3))
          go_roundw
          case rel => exact MRR.next HX2.out hT HS (by rw [E4.out]; go_num) rfl (by rw [E1.out]; exact hown3) hb3
          case measure => simp [intOf]; omega
      · rw [hd] at hD
        have HD := Lib.hid hD; clear hD
        have h38 : c ≠ 38 := by intro h9; rw [h9] at hd; revert hd; decide
        have e1 : ∀ r, msout c r = [c] := fun r => by rw [msout, hd, if_pos rfl]
        have e4 : ∀ r, msn c r = 0 := fun r => by rw [msn, if_neg h38]
        have E1 := Lib.hid e1; have E4 := Lib.hid e4
        clear e1 e4 h38 hd
        go_wp2_with (first | (go_at_call 20; refine (HD.out _).mono ?_; rintro e w' ⟨rfl, hw⟩; obtain rfl := hw.symm) | (at_builtin; refine wpList_app slT_i32 _ _ _ rfl rfl rfl rfl (hown.alloc _) (Row.ilit [_] [_] rfl (by simp)) (by simp [ints]; omega) (by have := hbr.size; simp; omega) ?_; intro t3 w3 hown3 hg3; have hb3 := below_app hbr (below_alloc _ _) (hown.alloc _) hg3; rw [← ints_append] at hown3))
        go_roundw
        case rel => exact MRR.next HX2.out hT HS (by rw [E4.out]; go_num) rfl (by rw [E1.out]; exact hown3) hb3
        case measure => simp [intOf]; omega
    · go_wp2
      go_ret2
      have hs := HS.out
      rw [List.drop_eq_nil_of_le (by omega), mread_nil, List.append_nil] at hs
      exact ⟨_, _, ret2 rfl rfl, by rw [hs]; exact hown, hbr⟩
end Go.Proofs.Ytbpjgmiedplidaa
namespace Go.Proofs.Ytbpjgmiedplidaa
open Go.RowKit
set_option maxHeartbeats 2000000
theorem allSc_R32 {xs : List Int} (h : allSc xs = true) : R32 xs := fun x hx => by have := scB_iff.1 (List.all_eq_true.1 h x hx); omega
theorem mlayR_len (xs : List Int) : (mlayR xs).length ≤ 11 * xs.length := by
  have := (mlay_len _ xs (Nat.le_refl _)).1
  unfold mlayR; split
  · exact this
  · simp
theorem mlay_a : mlay [126, 21488, 38] = ([126, 38, 85, 44, 65, 45, 38, 45], 1) := by
  rw [mlay_cons, show mo 126 [21488, 38] = [126] from by decide, show mi [126, 21488, 38] = 0 from by decide, show mk1 [126, 21488, 38] = 1 from by decide, show ([126, 21488, 38] : List Int).drop 1 = [21488, 38] from rfl,
    mlay_cons, show mo 21488 [38] = [38, 85, 44, 65, 45] from by decide +kernel, show mi [21488, 38] = 1 from by decide, show mk1 [21488, 38] = 1 from by decide, show ([21488, 38] : List Int).drop 1 = [38] from rfl,
    mlay_cons, show mo 38 [] = [38, 45] from by decide, show mi [38] = 0 from by decide, show mk1 [38] = 1 from by decide, show ([38] : List Int).drop 1 = [] from rfl, mlay_nil]
  rfl
theorem mlay_b : (mlay [9, 10]).2 = 1 := by rw [← runsF_eq _ _ (Nat.le_refl _)]; decide
theorem mrng {l : List Int} (h : ∀ c ∈ l, 32 ≤ c ∧ c ≤ 126) : Rg 0 256 l := fun c hc => by have := h c hc; omega
set_option maxRecDepth 100000 in
theorem alive24_any (w : World) : Calls Try.prog 11 #[] w fun e w' => e = .returned (.bool true) ∧ Below w.heap.size w w' := by
  have hA := fun v w' h' => mLay_any v [126, 21488, 38] w' h' (by intro x hx; simp at hx; omega) (by simp)
  have hsc : allSc [126, 21488, 38] = true := by decide
  have hrd := (mread_mlay _ [126, 21488, 38] (Nat.le_refl _) hsc).1
  rw [show mlayR [126, 21488, 38] = (mlay [126, 21488, 38]).1 from if_pos hsc, show mlayE [126, 21488, 38] = 0 from if_pos hsc, mlay_a] at hA
  rw [mlay_a] at hrd
  have hB := fun v w' h' => omRead_any v [126, 38, 85, 44, 65, 45, 38, 45] w' h' (by intro x hx; simp at hx; omega) (by simp)
  rw [hrd] at hB
  have hC := fun v w' h' => mRuns_any v [9, 10] w' h' (by simp)
  rw [mlay_b] at hC
  have HA := Lib.hid hA; have HB := Lib.hid hB; have HC := Lib.hid hC
  clear hA hB hC hrd hsc
  have hb := Below.refl w.heap.size w
  go_enter Try.func11, Try.ntmps11
  go_wp2_with fail
  refine (HA.out _ _ (Row.ilit [126, 21488, 38] [_, _, _] rfl (by simp))).mono ?_
  rintro e w1 ⟨t1, rfl, ho1, hb1⟩
  replace hb := (by first | exact below_trans hb hb1 | exact below_trans (hb.alloc hb.size _) hb1 | exact below_trans ((hb.alloc hb.size _).alloc (hb.alloc hb.size _).size _) hb1 : Below w.heap.size w _)
  have r1 := ho1.row
  obtain ⟨a1, b1, o1, c1, rfl, _⟩ := id r1.op
  have cv1 : (convert 24 9 (.slice a1 8 c1)).run Try.prog w1 = .ok (.string ⟨#[126, 38, 85, 44, 65, 45, 38, 45]⟩) w1 := rowstr2 _ r1
  clear ho1 hb1
  go_wp2_with fail
  refine (HB.out _ _ r1).mono ?_
  rintro e w2 ⟨t2, rfl, ho2, hb2⟩
  replace hb := (by first | exact below_trans hb hb2 | exact below_trans (hb.alloc hb.size _) hb2 | exact below_trans ((hb.alloc hb.size _).alloc (hb.alloc hb.size _).size _) hb2 : Below w.heap.size w _)
  have r2 := ho2.row
  clear ho2 hb2
  go_wp2_with fail
  refine (like3_any _ _ [126, 21488, 38] [126, 21488, 38] _ (r2.alloc _) (Row.ilit [126, 21488, 38] [_, _, _] rfl (by simp)) (by simp) (by simp)).mono ?_
  rintro e w3 ⟨rfl, hb3⟩
  replace hb := (by first | exact below_trans hb hb3 | exact below_trans (hb.alloc hb.size _) hb3 | exact below_trans ((hb.alloc hb.size _).alloc (hb.alloc hb.size _).size _) hb3 : Below w.heap.size w _)
  rw [decide_eq_true rfl]
  go_wp2_with fail
  refine (HC.out _ _ (Row.ilit [9, 10] [_, _] rfl (by simp))).mono ?_
  rintro e w4 ⟨rfl, hb4⟩
  replace hb := (by first | exact below_trans hb hb4 | exact below_trans (hb.alloc hb.size _) hb4 | exact below_trans ((hb.alloc hb.size _).alloc (hb.alloc hb.size _).size _) hb4 : Below w.heap.size w _)
  go_wp2
  go_ret
  exact ⟨rfl, hb⟩
set_option maxRecDepth 100000 in
theorem MsevenLays_walk (v : Value) (xs : List Int) (c : Int) (w : World) (h : Row w v (ints .i32 xs)) (g : WF .i32 xs) (_hc : (Lit.int .i32 c).wf = true) :
    Calls Try.prog 3 #[v, .int .i32 c] w fun e w' => e = .returned (.bool true) ∧ Below w.heap.size w w' := by
  obtain ⟨a, b, off, cap, rfl, _⟩ := id h.op
  have hb := Below.refl w.heap.size w
  by_cases hl : xs.length ≤ 200
  · have hgx : R32 xs := fun x hx => wf_i32 (g x hx)
    have hA := fun w' h' => mLay_any (.slice a xs.length cap) xs w' h' hgx (by omega)
    have hB := fun w' h' => rmLay24_any (.slice a xs.length cap) xs w' h' hgx (by omega)
    have hU := fun w' h' => mRuns_any (.slice a xs.length cap) xs w' h' (by omega)
    have hV := fun w' h' => rmRuns_any (.slice a xs.length cap) xs w' h' (by omega)
    have hC := fun w' h' => omCode_any (.slice a xs.length cap) xs w' h' hgx (by omega)
    have hD := fun w' h' => rmCode_any (.slice a xs.length cap) xs w' h' hgx (by omega)
    have hE := fun w' => mDirect_any c w'
    have hF := fun w' => rmDirect_any c w'
    have hL1 := mlayR_len xs
    have hL2 := mcodeL_len xs
    generalize mlayR xs = LR at *
    generalize mlayE xs = LE at *
    generalize (mlay xs).2 = NR at *
    generalize mcodeL xs = CL at *
    generalize mdirB c = q at *
    have HL1 : Hid (LR.length ≤ 2200) := by show _ ≤ _; omega
    have HL2 : Hid (CL.length ≤ 2200) := by show _ ≤ _; omega
    have HA := Lib.hid hA; have HB := Lib.hid hB; have HU := Lib.hid hU; have HV := Lib.hid hV; have HC := Lib.hid hC; have HD := Lib.hid hD; have HE := Lib.hid hE; have HF := Lib.hid hF
    clear hA hB hU hV hC hD hE hF hL1 hL2
    have hrow := h
    go_enter Try.func3, Try.ntmps3
    go_wp2_with fail
    refine (HA.out _ hrow).mono ?_
    rintro e w1 ⟨t1, rfl, ho1, hb1⟩
    replace hb := (by first | exact below_trans hb hb1 | exact below_trans (hb.alloc hb.size _) hb1 | exact below_trans ((hb.alloc hb.size _).alloc (hb.alloc hb.size _).size _) hb1 : Below w.heap.size w _)
    replace hrow := hrow.below hb1
    have r1 := ho1.row
    go_wp2_with fail
    refine (HB.out _ hrow).mono ?_
    rintro e w2 ⟨t2, rfl, ho2, hb2⟩
    replace hb := (by first | exact below_trans hb hb2 | exact below_trans (hb.alloc hb.size _) hb2 | exact below_trans ((hb.alloc hb.size _).alloc (hb.alloc hb.size _).size _) hb2 : Below w.heap.size w _)
    replace hrow := hrow.below hb2
    replace r1 := r1.below hb2
    have r2 := ho2.row
    clear ho1 ho2 hb1 hb2
    go_wp2_with fail
    refine (like1_any _ _ LR LR _ r1 r2 (by have := HL1.out; omega) (by have := HL1.out; omega)).mono ?_
    rintro e w3 ⟨rfl, hb3⟩
    replace hb := (by first | exact below_trans hb hb3 | exact below_trans (hb.alloc hb.size _) hb3 | exact below_trans ((hb.alloc hb.size _).alloc (hb.alloc hb.size _).size _) hb3 : Below w.heap.size w _)
    rw [decide_eq_true rfl]
    replace hrow := hrow.below hb3
    clear r1 r2
    go_wp2_with fail
    refine (HU.out _ hrow).mono ?_
    rintro e w4 ⟨rfl, hb4⟩
    replace hb := (by first | exact below_trans hb hb4 | exact below_trans (hb.alloc hb.size _) hb4 | exact below_trans ((hb.alloc hb.size _).alloc (hb.alloc hb.size _).size _) hb4 : Below w.heap.size w _)
    replace hrow := hrow.below hb4
    go_wp2_with fail
    refine (HV.out _ hrow).mono ?_
    rintro e w5 ⟨rfl, hw⟩
    obtain rfl := hw.symm
    go_wp2_with fail
    refine (HC.out _ hrow).mono ?_
    rintro e w6 ⟨t6, rfl, ho6, hb6⟩
    replace hb := (by first | exact below_trans hb hb6 | exact below_trans (hb.alloc hb.size _) hb6 | exact below_trans ((hb.alloc hb.size _).alloc (hb.alloc hb.size _).size _) hb6 : Below w.heap.size w _)
    replace hrow := hrow.below hb6
    have r6 := ho6.row
    go_wp2_with fail
    refine (HD.out _ hrow).mono ?_
    rintro e w7 ⟨t7, rfl, ho7, hb7⟩
    replace hb := (by first | exact below_trans hb hb7 | exact below_trans (hb.alloc hb.size _) hb7 | exact below_trans ((hb.alloc hb.size _).alloc (hb.alloc hb.size _).size _) hb7 : Below w.heap.size w _)
    replace r6 := r6.below hb7
    have r7 := ho7.row
    clear ho6 ho7 hb6 hb7
    go_wp2_with fail
    refine (like1_any _ _ CL CL _ r6 r7 (by have := HL2.out; omega) (by have := HL2.out; omega)).mono ?_
    rintro e w8 ⟨rfl, hb8⟩
    replace hb := (by first | exact below_trans hb hb8 | exact below_trans (hb.alloc hb.size _) hb8 | exact below_trans ((hb.alloc hb.size _).alloc (hb.alloc hb.size _).size _) hb8 : Below w.heap.size w _)
    rw [decide_eq_true rfl]
    go_wp2_with fail
    refine (HE.out _).mono ?_
    rintro e w9 ⟨rfl, hw⟩
    obtain rfl := hw.symm
    go_wp2_with fail
    refine (HF.out _).mono ?_
    rintro e w9 ⟨rfl, hw⟩
    obtain rfl := hw.symm
    go_wp2_with fail
    refine (alive24_any _).mono ?_
    rintro e w10 ⟨rfl, hb10⟩
    replace hb := (by first | exact below_trans hb hb10 | exact below_trans (hb.alloc hb.size _) hb10 | exact below_trans ((hb.alloc hb.size _).alloc (hb.alloc hb.size _).size _) hb10 : Below w.heap.size w _)
    go_wp2
    go_ret
    exact ⟨rfl, hb⟩
  · go_enter Try.func3, Try.ntmps3
    go_wp2_with (go_at_call 11; refine (alive24_any _).mono ?_; rintro e w7 ⟨rfl, hb7⟩)
    go_ret
    exact ⟨rfl, hb7⟩
set_option maxRecDepth 100000 in
theorem MsevenReads_walk (v : Value) (xs : List Int) (v2 : Value) (ys : List Int) (w : World) (h : Row w v (ints .u8 xs)) (g : WF .u8 xs) (h2 : Row w v2 (ints .u8 ys)) (g2 : WF .u8 ys) :
    Calls Try.prog 9 #[v, v2] w fun e w' => e = .returned (.bool true) ∧ Below w.heap.size w w' := by
  obtain ⟨a, b, off, cap, rfl, _⟩ := id h.op
  obtain ⟨a2, b2, off2, cap2, rfl, _⟩ := id h2.op
  have hb := Below.refl w.heap.size w
  by_cases hl : xs.length ≤ 500
  · by_cases hl2 : ys.length ≤ 500
    · have hgx := g.u8
      have hgy := g2.u8
      have hA := fun w' h' => rmRead_any (.slice a xs.length cap) xs w' h' hgx (by omega)
      have hB := fun w' h' => omRead_any (.slice a xs.length cap) xs w' h' hgx (by omega)
      have hC := fun w' h' => mRun_any (.slice a2 ys.length cap2) ys w' h' hgy (by omega)
      have hD := fun w' h' => rmRun_any (.slice a2 ys.length cap2) ys w' h' hgy (by omega)
      have hT := mread_len _ xs (Nat.le_refl _)
      have hTl : (mrunT ys).length ≤ 500 := by
        unfold mrunT
        split
        · have := runT_len (usuL ys); rw [usuL, subL_len] at this; unfold usuL; omega
        · simp
      generalize (mread xs).1 = T at *
      generalize mrunT ys = U at *
      generalize mrunR ys = R at *
      have HTL : Hid (T.length ≤ 500) := by show _ ≤ _; omega
      have HUL : Hid (U.length ≤ 500) := hTl
      have HA := Lib.hid hA; have HB := Lib.hid hB; have HC := Lib.hid hC; have HD := Lib.hid hD
      clear hA hB hC hD hT hTl
      have hrow := h
      have hrow2 := h2
      go_enter Try.func9, Try.ntmps9
      go_wp2_with fail
      refine (HA.out _ hrow).mono ?_
      rintro e w1 ⟨t1, q1, rfl, ho1, hb1⟩
      replace hb := (by first | exact below_trans hb hb1 | exact below_trans (hb.alloc hb.size _) hb1 | exact below_trans ((hb.alloc hb.size _).alloc (hb.alloc hb.size _).size _) hb1 : Below w.heap.size w _)
      replace hrow := hrow.below hb1
      replace hrow2 := hrow2.below hb1
      have r1 := ho1.row
      go_wp2_with fail
      refine (HC.out _ hrow2).mono ?_
      rintro e w2 ⟨t2, rfl, ho2, hb2⟩
      replace hb := (by first | exact below_trans hb hb2 | exact below_trans (hb.alloc hb.size _) hb2 | exact below_trans ((hb.alloc hb.size _).alloc (hb.alloc hb.size _).size _) hb2 : Below w.heap.size w _)
      replace hrow := hrow.below hb2
      replace hrow2 := hrow2.below hb2
      replace r1 := r1.below hb2
      have r2 := ho2.row
      go_wp2_with fail
      refine (HD.out _ hrow2).mono ?_
      rintro e w3 ⟨t3, u3, rfl, ho3, _, hb3⟩
      replace hb := (by first | exact below_trans hb hb3 | exact below_trans (hb.alloc hb.size _) hb3 | exact below_trans ((hb.alloc hb.size _).alloc (hb.alloc hb.size _).size _) hb3 : Below w.heap.size w _)
      replace hrow := hrow.below hb3
      replace r1 := r1.below hb3
      replace r2 := r2.below hb3
      have r3 := ho3.row
      go_wp2_with fail
      refine (HB.out _ hrow).mono ?_
      rintro e w4 ⟨t4, rfl, ho4, hb4⟩
      replace hb := (by first | exact below_trans hb hb4 | exact below_trans (hb.alloc hb.size _) hb4 | exact below_trans ((hb.alloc hb.size _).alloc (hb.alloc hb.size _).size _) hb4 : Below w.heap.size w _)
      replace r1 := r1.below hb4
      replace r2 := r2.below hb4
      replace r3 := r3.below hb4
      have r4 := ho4.row
      clear ho1 ho2 ho3 ho4 hb1 hb2 hb3 hb4 hrow hrow2
      go_wp2_with fail
      refine (like3_any _ _ T T _ r4 r1 (by have := HTL.out; omega) (by have := HTL.out; omega)).mono ?_
      rintro e w5 ⟨rfl, hb5⟩
      replace hb := (by first | exact below_trans hb hb5 | exact below_trans (hb.alloc hb.size _) hb5 | exact below_trans ((hb.alloc hb.size _).alloc (hb.alloc hb.size _).size _) hb5 : Below w.heap.size w _)
      rw [decide_eq_true rfl]
      replace r2 := r2.below hb5
      replace r3 := r3.below hb5
      go_wp2_with fail
      refine (like3_any _ _ U U _ r2 r3 (by have := HUL.out; omega) (by have := HUL.out; omega)).mono ?_
      rintro e w6 ⟨rfl, hb6⟩
      replace hb := (by first | exact below_trans hb hb6 | exact below_trans (hb.alloc hb.size _) hb6 | exact below_trans ((hb.alloc hb.size _).alloc (hb.alloc hb.size _).size _) hb6 : Below w.heap.size w _)
      rw [decide_eq_true rfl]
      go_wp2_with fail
      refine (alive24_any _).mono ?_
      rintro e w7 ⟨rfl, hb7⟩
      replace hb := (by first | exact below_trans hb hb7 | exact below_trans (hb.alloc hb.size _) hb7 | exact below_trans ((hb.alloc hb.size _).alloc (hb.alloc hb.size _).size _) hb7 : Below w.heap.size w _)
      go_wp2
      go_ret
      exact ⟨rfl, hb⟩
    · go_enter Try.func9, Try.ntmps9
      go_wp2_with (go_at_call 11; refine (alive24_any _).mono ?_; rintro e w7 ⟨rfl, hb7⟩)
      go_ret
      exact ⟨rfl, hb7⟩
  · go_enter Try.func9, Try.ntmps9
    go_wp2_with (go_at_call 11; refine (alive24_any _).mono ?_; rintro e w7 ⟨rfl, hb7⟩)
    go_ret
    exact ⟨rfl, hb7⟩
set_option maxRecDepth 100000 in
theorem MsevenBack_walk (v : Value) (xs : List Int) (w : World) (h : Row w v (ints .i32 xs)) (g : WF .i32 xs) :
    Calls Try.prog 4 #[v] w fun e w' => e = .returned (.bool true) ∧ Below w.heap.size w w' := by
  obtain ⟨a, b, off, cap, rfl, _⟩ := id h.op
  have hb := Below.refl w.heap.size w
  by_cases hl : xs.length ≤ 200
  · have hgx : R32 xs := fun x hx => wf_i32 (g x hx)
    have hA := fun w' h' => mLay_any (.slice a xs.length cap) xs w' h' hgx (by omega)
    have hF := fun w' h' => rfirst_any (.slice a xs.length cap) xs w' h' (by omega)
    have hidx := allSc_idx (xs := xs)
    generalize idx (fun c => !scB c) xs = fi at *
    have HF := Lib.hid hF; clear hF
    cases ha : allSc xs with
    | false =>
      rw [ha] at hidx
      have hf0 : 0 ≤ fi := by have := of_decide_eq_false hidx.symm; omega
      rw [show mlayR xs = [] from by rw [mlayR, ha]; rfl, show mlayE xs = 7 from by rw [mlayE, ha]; rfl] at hA
      have HA := Lib.hid hA
      clear hA hidx ha
      have hrow := h
      go_enter Try.func4, Try.ntmps4
      go_wp2_with fail
      refine (HA.out _ hrow).mono ?_
      rintro e w1 ⟨t1, rfl, ho1, hb1⟩
      replace hb := (by first | exact below_trans hb hb1 | exact below_trans (hb.alloc hb.size _) hb1 | exact below_trans ((hb.alloc hb.size _).alloc (hb.alloc hb.size _).size _) hb1 : Below w.heap.size w _)
      replace hrow := hrow.below hb1
      obtain ⟨a1, b1, o1, c1, rfl, _⟩ := id ho1.row.op
      clear ho1 hb1
      go_wp2_with (go_at_call 21; refine (HF.out _ hrow).mono ?_; rintro e w2 ⟨rfl, hw2⟩; obtain rfl := hw2)
      go_wp2_with fail
      refine (alive24_any _).mono ?_
      rintro e w7 ⟨rfl, hb7⟩
      replace hb := (by first | exact below_trans hb hb7 | exact below_trans (hb.alloc hb.size _) hb7 | exact below_trans ((hb.alloc hb.size _).alloc (hb.alloc hb.size _).size _) hb7 : Below w.heap.size w _)
      go_wp2
      go_ret
      exact ⟨rfl, hb⟩
    | true =>
      rw [show mlayR xs = (mlay xs).1 from by rw [mlayR, ha]; rfl, show mlayE xs = 0 from by rw [mlayE, ha]; rfl] at hA
      have hpr := mlay_pr _ xs (Nat.le_refl _)
      have hln := (mlay_len _ xs (Nat.le_refl _)).1
      have hR := fun v w' h' => omRead_any v (mlay xs).1 w' h' (mrng hpr) (by omega)
      rw [(mread_mlay _ xs (Nat.le_refl _) ha).1] at hR
      generalize (mlay xs).1 = L at *
      have HPR := Lib.hid hpr
      have HLN : Hid (L.length ≤ 2200) := by show _ ≤ _; omega
      have HA := Lib.hid hA; have HR := Lib.hid hR
      clear hA hR hpr hln ha hidx
      have hrow := h
      go_enter Try.func4, Try.ntmps4
      go_wp2_with fail
      refine (HA.out _ hrow).mono ?_
      rintro e w1 ⟨t1, rfl, ho1, hb1⟩
      replace hb := (by first | exact below_trans hb hb1 | exact below_trans (hb.alloc hb.size _) hb1 | exact below_trans ((hb.alloc hb.size _).alloc (hb.alloc hb.size _).size _) hb1 : Below w.heap.size w _)
      replace hrow := hrow.below hb1
      have r1 := ho1.row
      obtain ⟨a1, b1, o1, c1, rfl, HC⟩ := id r1.op
      clear ho1 hb1
      have hll := HLN.out
      go_wp2_with fail
      go_loop [31] (fun i => ∃ k : Nat, i = .int .i64 k ∧ k ≤ L.length) (fun i => L.length - (intOf i).toNat)
      case atStart => exact ⟨0, rfl, Nat.zero_le _⟩
      case round =>
        obtain ⟨k, rfl, hk⟩ := hrel
        by_cases hlt : k < L.length
        · obtain ⟨c, HX, rfl, hc⟩ := HC.out k hlt
          replace hc := hc _ (Below.refl _ _)
          have hp := HPR.out c (List.mem_of_getElem? HX.out)
          have hp0 := hp.1
          have hp1 := hp.2
          clear hp
          go_wp2
          go_round
          case rel => exact ⟨k + 1, by go_num, by omega⟩
          case measure => simp [intOf]; omega
        · clear HC hk
          go_wp2_with fail
          refine (HR.out _ _ r1).mono ?_
          rintro e w2 ⟨t2, rfl, ho2, hb2⟩
          replace hb := (by first | exact below_trans hb hb2 | exact below_trans (hb.alloc hb.size _) hb2 | exact below_trans ((hb.alloc hb.size _).alloc (hb.alloc hb.size _).size _) hb2 : Below w.heap.size w _)
          replace hrow := hrow.below hb2
          have r2 := ho2.row
          clear ho2 hb2
          go_wp2_with fail
          refine (like3_any _ _ xs xs _ r2 hrow (by omega) (by omega)).mono ?_
          rintro e w3 ⟨rfl, hb3⟩
          replace hb := (by first | exact below_trans hb hb3 | exact below_trans (hb.alloc hb.size _) hb3 | exact below_trans ((hb.alloc hb.size _).alloc (hb.alloc hb.size _).size _) hb3 : Below w.heap.size w _)
          rw [decide_eq_true rfl]
          go_wp2_with fail
          refine (alive24_any _).mono ?_
          rintro e w7 ⟨rfl, hb7⟩
          replace hb := (by first | exact below_trans hb hb7 | exact below_trans (hb.alloc hb.size _) hb7 | exact below_trans ((hb.alloc hb.size _).alloc (hb.alloc hb.size _).size _) hb7 : Below w.heap.size w _)
          go_wp2
          go_ret
          exact ⟨rfl, hb⟩
  · go_enter Try.func4, Try.ntmps4
    go_wp2_with (go_at_call 11; refine (alive24_any _).mono ?_; rintro e w7 ⟨rfl, hb7⟩)
    go_ret
    exact ⟨rfl, hb7⟩
set_option maxRecDepth 100000 in
theorem MsevenShort_walk (v : Value) (xs : List Int) (w : World) (h : Row w v (ints .u8 xs)) (g : WF .u8 xs) :
    Calls Try.prog 5 #[v] w fun e w' => e = .returned (.bool true) ∧ Below w.heap.size w w' := by
  obtain ⟨a, b, off, cap, rfl, _⟩ := id h.op
  have hb := Below.refl w.heap.size w
  by_cases hl : xs.length ≤ 500
  · have hgx := g.u8
    have hO := fun w' h' => omRead_any (.slice a xs.length cap) xs w' h' hgx (by omega)
    have hsc := mread_sc _ xs (Nat.le_refl _) hgx
    have hlen := mread_len _ xs (Nat.le_refl _)
    generalize (mread xs).1 = T at *
    have hA := fun v w' h' => mLay_any v T w' h' (allSc_R32 hsc) (by omega)
    have hF := fun v w' h' => rfirst_any v T w' h' (by omega)
    have hidx := allSc_idx (xs := T)
    generalize idx (fun c => !scB c) T = fi at *
    have hf0 : fi < 0 := by rw [hsc] at hidx; exact of_decide_eq_true hidx.symm
    rw [show mlayR T = (mlay T).1 from by rw [mlayR, hsc]; rfl, show mlayE T = 0 from by rw [mlayE, hsc]; rfl] at hA
    have hpr := mlay_pr _ T (Nat.le_refl _)
    have hln := (mlay_len _ T (Nat.le_refl _)).1
    have hR := fun v w' h' => omRead_any v (mlay T).1 w' h' (mrng hpr) (by omega)
    rw [(mread_mlay _ T (Nat.le_refl _) hsc).1] at hR
    generalize (mlay T).1 = L at *
    have HTL : Hid (T.length ≤ 500) := by show _ ≤ _; omega
    have hle2 : (T.length : Int) ≤ xs.length := by omega
    have HO := Lib.hid hO; have HA := Lib.hid hA; have HF := Lib.hid hF; have HR := Lib.hid hR
    clear hO hA hF hR hsc hlen hidx hpr hln
    have hrow := h
    go_enter Try.func5, Try.ntmps5
    go_wp2_with fail
    refine (HO.out _ hrow).mono ?_
    rintro e w1 ⟨t1, rfl, ho1, hb1⟩
    replace hb := (by first | exact below_trans hb hb1 | exact below_trans (hb.alloc hb.size _) hb1 | exact below_trans ((hb.alloc hb.size _).alloc (hb.alloc hb.size _).size _) hb1 : Below w.heap.size w _)
    have r1 := ho1.row
    obtain ⟨a1, b1, o1, c1, rfl, _⟩ := id r1.op
    go_wp2_with fail
    refine (HA.out _ _ r1).mono ?_
    rintro e w2 ⟨t2, rfl, ho2, hb2⟩
    replace hb := (by first | exact below_trans hb hb2 | exact below_trans (hb.alloc hb.size _) hb2 | exact below_trans ((hb.alloc hb.size _).alloc (hb.alloc hb.size _).size _) hb2 : Below w.heap.size w _)
    replace r1 := r1.below hb2
    have r2 := ho2.row
    clear ho1 ho2 hb1 hb2 hrow
    go_wp2_with (go_at_call 21; refine (HF.out _ _ r1).mono ?_; rintro e w3 ⟨rfl, hw3⟩; obtain rfl := hw3)
    go_wp2_with fail
    refine (HR.out _ _ r2).mono ?_
    rintro e w4 ⟨t4, rfl, ho4, hb4⟩
    replace hb := (by first | exact below_trans hb hb4 | exact below_trans (hb.alloc hb.size _) hb4 | exact below_trans ((hb.alloc hb.size _).alloc (hb.alloc hb.size _).size _) hb4 : Below w.heap.size w _)
    have r4 := ho4.row
    replace r1 := r1.below hb4
    clear ho4 hb4
    go_wp2_with fail
    refine (like3_any _ _ T T _ r4 r1 (by have := HTL.out; omega) (by have := HTL.out; omega)).mono ?_
    rintro e w6 ⟨rfl, hb6⟩
    replace hb := (by first | exact below_trans hb hb6 | exact below_trans (hb.alloc hb.size _) hb6 | exact below_trans ((hb.alloc hb.size _).alloc (hb.alloc hb.size _).size _) hb6 : Below w.heap.size w _)
    rw [decide_eq_true rfl]
    go_wp2_with fail
    refine (alive24_any _).mono ?_
    rintro e w7 ⟨rfl, hb7⟩
    replace hb := (by first | exact below_trans hb hb7 | exact below_trans (hb.alloc hb.size _) hb7 | exact below_trans ((hb.alloc hb.size _).alloc (hb.alloc hb.size _).size _) hb7 : Below w.heap.size w _)
    go_wp2
    go_ret
    exact ⟨rfl, hb⟩
  · go_enter Try.func5, Try.ntmps5
    go_wp2_with (go_at_call 11; refine (alive24_any _).mono ?_; rintro e w7 ⟨rfl, hb7⟩)
    go_ret
    exact ⟨rfl, hb7⟩
end Go.Proofs.Ytbpjgmiedplidaa
