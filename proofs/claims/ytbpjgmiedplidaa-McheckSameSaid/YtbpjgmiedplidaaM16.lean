/- Walks: which names are right, by the reference. (laid together by program out of single texts). -/
import Derived.Test.YtbpjgmiedplidaaM15
namespace Go.Proofs.Ytbpjgmiedplidaa
open Go.RowKit
set_option maxHeartbeats 4000000
/-- What the loop of the reference's Why keeps. -/
def RkI (xs : List Int) (nv bv iv : Value) : Prop :=
  ∃ (p n : Nat) (b : Bool), iv = .int .i64 p ∧ nv = .int .i64 n ∧ bv = .bool b ∧ p ≤ xs.length ∧ n ≤ p ∧ Hid (cwhy false xs = ((cwhy b (xs.drop p)).1, p + (cwhy b (xs.drop p)).2.1, n + (cwhy b (xs.drop p)).2.2))
theorem RkI.next {xs : List Int} {p n m : Nat} {b q : Bool} {c : Int} {nv bv iv : Value} (hx : xs[p]? = some c) (hn : n ≤ p) (HS : Hid (cwhy false xs = ((cwhy b (xs.drop p)).1, p + (cwhy b (xs.drop p)).2.1, n + (cwhy b (xs.drop p)).2.2)))
    (hc : cpc b c (xs.drop (p + 1)) = (0, m, q)) (hi : iv = .int .i64 ((p + m : Nat) : Int)) (hnv : nv = .int .i64 ((n + 1 : Nat) : Int)) (hb : bv = .bool q) : RkI xs nv bv iv := by
  have hl := @cpc_len b c (xs.drop (p + 1)) (by rw [hc])
  rw [hc, List.length_drop] at hl
  have hpl := (List.getElem?_eq_some_iff.1 hx).1
  have h1 : 1 ≤ m := hl.1
  have h2 : m ≤ xs.length - (p + 1) + 1 := hl.2
  refine ⟨p + m, n + 1, q, hi, hnv, hb, by omega, by omega, ?_⟩
  show _ = _
  rw [HS.out, cwhy_at hx, cwhy_ok hc, List.drop_drop, show p + 1 + (m - 1) = p + m by omega]
  simp only [Nat.add_assoc]
theorem RkI.stop {xs : List Int} {p n : Nat} {b : Bool} {c W : Int} (hx : xs[p]? = some c) (HS : Hid (cwhy false xs = ((cwhy b (xs.drop p)).1, p + (cwhy b (xs.drop p)).2.1, n + (cwhy b (xs.drop p)).2.2)))
    (hc : (cpc b c (xs.drop (p + 1))).1 = W) (hW : W ≠ 0) : cwhy false xs = (W, p, n) := by
  rw [HS.out, cwhy_at hx, cwhy_bad (by rw [hc]; exact hW), hc]; rfl
set_option maxRecDepth 100000 in
theorem rWhy_any (v : Value) (xs : List Int) (w : World) (h : Row w v (ints .u8 xs)) (hg : Rg 0 256 xs) (hl : xs.length ≤ 9000) :
    Calls Try.prog 26 #[v] w fun e w' => e = .returned (.tuple #[.int .i64 (cwhy false xs).1, .int .i64 (cwhy false xs).2.1, .int .i64 (cwhy false xs).2.2]) ∧ Below w.heap.size w w' := by
  obtain ⟨a, bb, off, cp, rfl, HC⟩ := id h.op
  obtain ⟨W, pl, pn, HW⟩ : ∃ (W : Int) (pl pn : Nat), Hid (cwhy false xs = (W, pl, pn)) := ⟨_, _, _, rfl⟩
  rw [HW.out]
  go_enter Try.func26, Try.ntmps26
  go_wp2
  go_loopw [5, 6, 7] (fun nv bv iv wr => RkI xs nv bv iv ∧ Below w.heap.size w wr) (fun _ _ i _ => xs.length - (intOf i).toNat)
  case atStart => exact ⟨⟨0, 0, false, rfl, rfl, rfl, Nat.zero_le _, Nat.le_refl _, (by simp : cwhy false xs = ((cwhy false (xs.drop 0)).1, 0 + (cwhy false (xs.drop 0)).2.1, 0 + (cwhy false (xs.drop 0)).2.2))⟩, Below.refl _ _⟩
  case round =>
    obtain ⟨⟨p, n, b, rfl, rfl, rfl, hp, hn, HS⟩, hbr⟩ := hrel
    by_cases hlt : p < xs.length
    · obtain ⟨c, HX, rfl, hc⟩ := HC.out p hlt
      replace hc := hc _ hbr
      have hrr : ∀ k, (xs.drop (p + 1))[k]? = xs[p + 1 + k]? := fun k => by rw [List.getElem?_drop]
      have hgo : ∀ W, (cpc b c (xs.drop (p + 1))).1 = W → W ≠ 0 → (W, pl, pn) = (W, p, n) := fun W0 h1 h2 => by
        have h3 := RkI.stop HX.out HS h1 h2
        have h4 := HW.out.symm.trans h3
        rw [Prod.mk.injEq] at h4
        rw [h4.2]
      have hgoW : ∀ W0, (cpc b c (xs.drop (p + 1))).1 = W0 → W0 ≠ 0 → W = W0 ∧ pl = p ∧ pn = n := fun W0 h1 h2 => by
        have h4 := HW.out.symm.trans (RkI.stop HX.out HS h1 h2)
        rw [Prod.mk.injEq, Prod.mk.injEq] at h4
        exact h4
      clear hgo
      rcases hq : prB c with _ | _
      · obtain ⟨rfl, rfl, rfl⟩ := hgoW 1 (by rw [cpc, if_pos hq]) (by decide)
        have hq2 := of_decide_eq_false hq
        clear hgoW hrr hq HS
        by_cases h32 : c < 32
        · go_wp2
          go_ret3
          exact ⟨rfl, hbr⟩
        · have h126 : 126 < c := by omega
          clear hq2
          go_wp2
          go_ret3
          exact ⟨rfl, hbr⟩
      · have hq2 := of_decide_eq_true hq
        have hq3 := hq2.1
        have hq4 := hq2.2
        clear hq2
        rcases Decidable.em (c = 38) with rfl | h38
        · have hr0 := hrr 0
          rw [Nat.add_zero] at hr0
          by_cases h1 : p + 1 < xs.length
          · obtain ⟨y, HY, _, hcy⟩ := HC.out (p + 1) h1
            replace hcy := hcy _ hbr
            rcases Decidable.em (y = 45) with rfl | hy
            · have hz : (xs.drop (p + 1))[0]? = some 45 := by rw [hr0]; exact HY.out
              have HCP := Lib.hid (show cpc b 38 (xs.drop (p + 1)) = (0, 2, false) by rw [cpc, if_neg (by decide), if_neg (by decide), if_pos hz])
              clear hgoW hrr hq hr0 hz
              have HX2 := HX
              go_wp2
              go_roundw
              case rel => exact ⟨RkI.next HX2.out hn HS HCP.out (by go_num) (by go_num) rfl, hbr⟩
              case measure => simp [intOf]; omega
            · have hz : (xs.drop (p + 1))[0]? ≠ some 45 := by rw [hr0, HY.out]; exact fun h => hy (Option.some.inj h)
              have hyb : (y == 45) = false := beq_false_of_ne hy
              have hle := ml_le (xs.drop (p + 1))
              rw [List.length_drop] at hle
              have hrw := h.below hbr
              rcases Nat.eq_zero_or_pos (ml (xs.drop (p + 1))) with hm | hm
              · obtain ⟨rfl, rfl, rfl⟩ := hgoW 2 (by rw [cpc, if_neg (by decide), if_neg (by decide), if_neg hz, if_pos hm]) (by decide)
                have hdout := ml_out (xs.drop (pl + 1))
                rw [hm, hr0] at hdout
                have hd0 := rkdigit_any _ xs (pl + 1) wr hrw
                rw [HY.out, show mdigB (some y) = false from decide_eq_false (by have := hdout y HY.out; omega), show (((pl + 1 : Nat)) : Int) = (pl : Int) + 1 by omega] at hd0
                have HD0 := Lib.hid hd0
                clear hgoW hrr hq hr0 hz hdout hd0 hle hm hy HS
                go_wp2_with (go_at_call 47; refine (HD0.out).mono ?_; rintro e w' ⟨rfl, hw⟩; obtain rfl := hw.symm)
                go_ret3
                exact ⟨rfl, hbr⟩
              · have hcpr := cpc_run (b := b) hz (by omega)
                have hin : ∀ k, p + 1 ≤ k → k < p + 1 + ml (xs.drop (p + 1)) → mdigB xs[k]? = true := fun k h1 h2 => by
                  obtain ⟨y, hy1, hy2⟩ := ml_in (xs.drop (p + 1)) (k - (p + 1)) (by omega)
                  rw [hrr, show p + 1 + (k - (p + 1)) = k by omega] at hy1
                  rw [hy1]; exact decide_eq_true hy2
                have hout : mdigB xs[p + 1 + ml (xs.drop (p + 1))]? = false := by
                  have hdout := ml_out (xs.drop (p + 1))
                  rw [hrr] at hdout
                  cases hx : xs[p + 1 + ml (xs.drop (p + 1))]? with
                  | none => rfl
                  | some y => have := hdout y hx; exact decide_eq_false (by omega)
                have hdt : (xs.take (p + 1 + ml (xs.drop (p + 1)))).drop (p + 1) = (xs.drop (p + 1)).take (ml (xs.drop (p + 1))) := by rw [List.drop_take]; congr 1; omega
                have hgd : Rg 0 256 ((xs.drop (p + 1)).take (ml (xs.drop (p + 1)))) := (hg.drop _).take _
                have hrun := fun v w' h' => rkrun_any v ((xs.drop (p + 1)).take (ml (xs.drop (p + 1)))) b w' h' hgd (by rw [List.length_take, List.length_drop]; omega)
                have hcx : xs[p + 1 + ml (xs.drop (p + 1))]? ≠ some 45 → cpc b 38 (xs.drop (p + 1)) = (3, 0, true) := fun h9 => by rw [hcpr, cruns, if_pos (by rw [hrr]; exact h9)]
                have hcy2 : xs[p + 1 + ml (xs.drop (p + 1))]? = some 45 → cpc b 38 (xs.drop (p + 1)) = (rrun b ((xs.drop (p + 1)).take (ml (xs.drop (p + 1)))), if rrun b ((xs.drop (p + 1)).take (ml (xs.drop (p + 1)))) = 0 then ml (xs.drop (p + 1)) + 2 else 0, true) := fun h9 => by rw [hcpr, cruns_rrun b _ (by rw [hrr]; exact h9)]
                clear hcpr
                generalize rrun b ((xs.drop (p + 1)).take (ml (xs.drop (p + 1)))) = rv at *
                generalize (xs.drop (p + 1)).take (ml (xs.drop (p + 1))) = d at *
                generalize ml (xs.drop (p + 1)) = m at *
                have hdg := fun k (h1 : p + 1 ≤ k) (h2 : k < p + 1 + m) => (hin k h1 h2) ▸ rkdigit_any _ xs k wr hrw
                have hd0 := hdg (p + 1) (by omega) (by omega)
                have hdm := rkdigit_any _ xs (p + 1 + m) wr hrw
                rw [hout] at hdm
                rw [show (((p + 1 : Nat)) : Int) = (p : Int) + 1 by omega] at hd0
                have HD0 := Lib.hid hd0; have HDG := Lib.hid hdg; have HDM := Lib.hid hdm; have HRUN := Lib.hid hrun; have HDT := Lib.hid hdt; have HCX := Lib.hid hcx; have HCY := Lib.hid hcy2; have HGO := Lib.hid hgoW
                have HX2 := HX
                clear hd0 hdg hdm hrun hdt hcx hcy2 hgoW hin hout hrr hr0 hz hq hy hgd
                go_wp2_with (go_at_call 47; refine (HD0.out).mono ?_; rintro e w' ⟨rfl, hw⟩; obtain rfl := hw.symm)
                go_loopw [8] (fun kv w2 => ∃ k : Nat, kv = .int .i64 k ∧ p + 1 ≤ k ∧ k ≤ p + 1 + m ∧ w2 = wr) (fun kv _ => p + 1 + m - (intOf kv).toNat)
                case atStart => exact ⟨p + 1, by go_num, Nat.le_refl _, by omega, rfl⟩
                case round =>
                  obtain ⟨k, rfl, hk1, hk2, hw0⟩ := hrel
                  obtain rfl := hw0.symm
                  by_cases hlk : k < p + 1 + m
                  · go_wp2_with (go_at_call 47; refine (HDG.out k hk1 hlk).mono ?_; rintro e w' ⟨rfl, hw⟩; obtain rfl := hw.symm)
                    go_roundw
                    case rel => exact ⟨k + 1, by go_num, by omega, by omega, by first | rfl | trivial⟩
                    case measure => simp [intOf]; omega
                  · have hkm : k = p + 1 + m := by omega
                    have hdm2 := HDM.out
                    have hdt2 := HDT.out
                    have hcx2 := HCX.out
                    have hcy2 := HCY.out
                    rw [← hkm] at hdm2 hdt2 hcx2 hcy2
                    have HDM2 := Lib.hid hdm2; have HDT2 := Lib.hid hdt2; have HKM := Lib.hid hkm; have HCX2 := Lib.hid hcx2; have HCY2 := Lib.hid hcy2
                    clear hdm2 hdt2 hkm hcx2 hcy2 hlk HD0 HDG HDM HDT HCX HCY
                    have hkl : k ≤ xs.length := by have := HKM.out; omega
                    by_cases hl2 : k < xs.length
                    · obtain ⟨z, HZ, _, hcz⟩ := HC.out k hl2
                      replace hcz := hcz _ hbr
                      rcases Decidable.em (z = 45) with rfl | hz
                      · have hcp := HCY2.out HZ.out
                        rcases Decidable.em (rv = 0) with rfl | hrv
                        · rw [if_pos rfl] at hcp
                          have HCP := Lib.hid hcp
                          clear hcp HCX2 HCY2 HGO
                          go_wp2_with (first | (go_at_call 47; refine (HDM2.out).mono ?_; rintro e w' ⟨rfl, hw⟩; obtain rfl := hw.symm) | (refine wpList_slLH slT_u8 _ _ _ rfl rfl rfl rfl rfl (h.below hbr) (by omega) (by omega) (by simp [ints]; omega) ?_; intro v2 hv2; have r2 := hv2 w h; rw [show ((p : Int) + 1).toNat = p + 1 by omega, Int.toNat_natCast, ints_take, ints_drop, HDT2.out] at r2) | (go_at_call 48; refine (HRUN.out _ _ (r2.below hbr)).mono ?_; rintro e w2 ⟨rfl, hb2⟩; have hb2' := below_trans hbr hb2))
                          go_roundw
                          case rel => exact ⟨RkI.next HX2.out hn HS HCP.out (iv (by have := HKM.out; omega)) (by go_num) rfl, hb2'⟩
                          case measure => simp [intOf]; have := HKM.out; omega
                        · obtain ⟨rfl, rfl, rfl⟩ := HGO.out rv (by rw [hcp]) hrv
                          have hrvb : (W != 0) = true := by simpa using hrv
                          clear hcp HCX2 HCY2 HGO hrv HS
                          go_wp2_with (first | (go_at_call 47; refine (HDM2.out).mono ?_; rintro e w' ⟨rfl, hw⟩; obtain rfl := hw.symm) | (refine wpList_slLH slT_u8 _ _ _ rfl rfl rfl rfl rfl (h.below hbr) (by omega) (by omega) (by simp [ints]; omega) ?_; intro v2 hv2; have r2 := hv2 w h; rw [show ((pl : Int) + 1).toNat = pl + 1 by omega, Int.toNat_natCast, ints_take, ints_drop, HDT2.out] at r2) | (go_at_call 48; refine (HRUN.out _ _ (r2.below hbr)).mono ?_; rintro e w2 ⟨rfl, hb2⟩; have hb2' := below_trans hbr hb2))
                          go_ret3
                          exact ⟨rfl, hb2'⟩
                      · obtain ⟨rfl, rfl, rfl⟩ := HGO.out 3 (by rw [HCX2.out (by rw [HZ.out]; exact fun h => hz (Option.some.inj h))]) (by decide)
                        have hzb : (z != 45) = true := by simpa using hz
                        clear HCX2 HCY2 HGO hz HS
                        go_wp2_with (go_at_call 47; refine (HDM2.out).mono ?_; rintro e w' ⟨rfl, hw⟩; obtain rfl := hw.symm)
                        go_ret3
                        exact ⟨rfl, hbr⟩
                    · obtain ⟨rfl, rfl, rfl⟩ := HGO.out 3 (by rw [HCX2.out (by rw [List.getElem?_eq_none (by omega)]; simp)]) (by decide)
                      clear HCX2 HCY2 HGO HS
                      go_wp2_with (go_at_call 47; refine (HDM2.out).mono ?_; rintro e w' ⟨rfl, hw⟩; obtain rfl := hw.symm)
                      go_ret3
                      exact ⟨rfl, hbr⟩
          · have hm : ml (xs.drop (p + 1)) = 0 := by rw [List.drop_eq_nil_of_le (by omega)]; rfl
            have hz : (xs.drop (p + 1))[0]? ≠ some 45 := by rw [hr0, List.getElem?_eq_none (by omega)]; simp
            obtain ⟨rfl, rfl, rfl⟩ := hgoW 2 (by rw [cpc, if_neg (by decide), if_neg (by decide), if_neg hz, if_pos hm]) (by decide)
            have hd0 := rkdigit_any _ xs (pl + 1) wr (h.below hbr)
            rw [List.getElem?_eq_none (by omega), show mdigB none = false from rfl, show (((pl + 1 : Nat)) : Int) = (pl : Int) + 1 by omega] at hd0
            have HD0 := Lib.hid hd0
            clear hgoW hrr hq hr0 hz hd0 hm HS
            go_wp2_with (go_at_call 47; refine (HD0.out).mono ?_; rintro e w' ⟨rfl, hw⟩; obtain rfl := hw.symm)
            go_ret3
            exact ⟨rfl, hbr⟩
        · have HCP := Lib.hid (show cpc b c (xs.drop (p + 1)) = (0, 1, false) by rw [cpc, if_neg (by rw [hq]; decide), if_pos h38])
          have hne : (c != 38) = true := by simpa using h38
          have HX2 := HX
          clear hgoW hrr hq h38
          go_wp2
          go_roundw
          case rel => exact ⟨RkI.next HX2.out hn HS HCP.out (by go_num) (by go_num) rfl, hbr⟩
          case measure => simp [intOf]; omega
    · have hs := HS.out
      rw [List.drop_eq_nil_of_le (by omega), cwhy_nil, HW.out] at hs
      obtain rfl : p = xs.length := by omega
      rw [Prod.mk.injEq, Prod.mk.injEq] at hs
      obtain ⟨rfl, rfl, rfl⟩ := hs
      go_wp2
      go_ret3
      exact ⟨ret3 rfl (iv (by omega)) (iv (by omega)), hbr⟩
end Go.Proofs.Ytbpjgmiedplidaa
