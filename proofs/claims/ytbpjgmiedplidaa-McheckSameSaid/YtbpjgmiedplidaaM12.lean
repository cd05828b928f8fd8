/- Walks: reading a name, by the program. · Walks: how many runs, digits, a run, by the reference. · Walks: reading a name, by the program. (laid together by program out of single texts). -/
import Derived.Test.YtbpjgmiedplidaaM10
namespace Go.Proofs.Ytbpjgmiedplidaa
open Go.RowKit
set_option maxHeartbeats 2000000
def mrunT (d : List Int) : List Int := if allM d then runT (usuL d) else []
def mrunR (d : List Int) : Bool := allM d && runR (usuL d)
theorem mIsDig_any (v : Value) (d : List Int) (w : World) (h : Row w v (ints .u8 d)) (hg : Rg 0 256 d) (hl : d.length ≤ 1000000) :
    Calls Try.prog 50 #[v] w fun e w' => e = .returned (.bool (allM d)) ∧ w' = w := by
  obtain ⟨a, b, off, cp, rfl, HC⟩ := id h.op
  have hnone := fun k c (h : d[k]? = some c) (hn : mv c < 0) => allM_none h hn
  have hsnoc := fun k c (h : d[k]? = some c) (ha : allM (d.take k) = true) (hn : 0 ≤ mv c) => allM_snoc h ha hn
  have hall : allM (d.take d.length) = true → allM d = true := by rw [List.take_length]; exact id
  have HN := Lib.hid hnone; have HS := Lib.hid hsnoc; have HA := Lib.hid hall
  clear hnone hsnoc hall
  go_enter Try.func50, Try.ntmps50
  go_wp2
  go_loop [9] (fun i => ∃ k : Nat, i = .int .i64 k ∧ k ≤ d.length ∧ Hid (allM (d.take k) = true)) (fun i => d.length - (intOf i).toNat)
  case atStart => exact ⟨0, rfl, Nat.zero_le _, (rfl : allM (d.take 0) = true)⟩
  case round =>
    obtain ⟨k, rfl, hk, HT⟩ := hrel
    by_cases hlt : k < d.length
    · obtain ⟨c, HX, rfl, hc⟩ := HC.out k hlt
      replace hc := hc _ (Below.refl _ _)
      have hcr := hg.get HX.out
      have hv := fun w => mValue_any c w hcr.1 hcr.2
      rcases Int.lt_or_le (mv c) 0 with hn | hn
      · have hd : decide (0 ≤ mv c) = false := decide_eq_false (by omega)
        rw [hd] at hv
        have HV := Lib.hid hv
        have HNN := Lib.hid (HN.out k c HX.out hn)
        clear hv hd hn
        go_wp2_with (go_at_call 70; refine (HV.out _).mono ?_; rintro e w' ⟨rfl, hw⟩; obtain rfl := hw.symm)
        go_ret
        exact ⟨ret_bool HNN.out.symm, rfl⟩
      · have hd : decide (0 ≤ mv c) = true := decide_eq_true hn
        rw [hd] at hv
        have HV := Lib.hid hv
        have HNN := Lib.hid (HS.out k c HX.out HT.out hn)
        clear hv hd hn
        go_wp2_with (go_at_call 70; refine (HV.out _).mono ?_; rintro e w' ⟨rfl, hw⟩; obtain rfl := hw.symm)
        go_round
        case rel => exact ⟨k + 1, by go_num, by omega, HNN⟩
        case measure => simp [intOf]; omega
    · obtain rfl : k = d.length := by omega
      have hA := HA.out HT.out
      go_wp2
      go_ret
      exact ⟨ret_bool (by first | exact hA.symm | trivial), rfl⟩
theorem mRun_any (v : Value) (d : List Int) (w : World) (h : Row w v (ints .u8 d)) (hg : Rg 0 256 d) (hl : d.length ≤ 10000) :
    Calls Try.prog 31 #[v] w fun e w' => ∃ t, e = .returned (.tuple #[t, .bool (mrunR d)]) ∧ Own w.heap.size 21 w' t (ints .i32 (mrunT d)) ∧ Below w.heap.size w w' := by
  have hI := mIsDig_any v d w h hg (by omega)
  cases ha : allM d with
  | false =>
    rw [ha] at hI
    rw [show mrunT d = [] from by rw [mrunT, ha]; rfl, show mrunR d = false from by rw [mrunR, ha]; rfl]
    have HI := Lib.hid hI; clear hI ha
    go_enter Try.func31, Try.ntmps31
    go_wp2_with (go_at_call 50; refine (HI.out).mono ?_; rintro e w' ⟨rfl, hw⟩; obtain rfl := hw.symm)
    go_ret2
    exact ⟨_, rfl, Own.nil _ _ _, Below.refl _ _⟩
  | true =>
    rw [ha] at hI
    rw [show mrunT d = runT (usuL d) from by rw [mrunT, ha]; rfl, show mrunR d = runR (usuL d) from by rw [mrunR, ha]; rfl]
    have hU := oUsual_any v d w h (by omega)
    have hR := fun v w' h' => oRun_any v (usuL d) w' h' (subL_rng hg (by omega) (by omega)) (by rw [usuL, subL_len]; exact hl)
    generalize runT (usuL d) = T at *
    generalize runR (usuL d) = R at *
    have HI := Lib.hid hI; have HU := Lib.hid hU; have HR := Lib.hid hR; clear hI hU hR ha
    go_enter Try.func31, Try.ntmps31
    go_wp2_with (first | (go_at_call 50; refine (HI.out).mono ?_; rintro e w' ⟨rfl, hw⟩; obtain rfl := hw.symm) | (go_at_call 52; refine (HU.out).mono ?_; rintro e w1 ⟨t1, rfl, ho1, hb1⟩) | (go_at_call 51; refine (HR.out _ _ ho1.row).mono ?_; rintro e w2 ⟨t2, rfl, ho2, hb2⟩))
    go_ret2
    exact ⟨_, rfl, ho2.mono hb1.size, below_trans hb1 hb2⟩
theorem mwhole_any (v : Value) (d : List Int) (w : World) (h : Row w v (ints .u8 d)) (hg : Rg 0 256 d) (hl : d.length ≤ 9999) :
    Calls Try.prog 45 #[v] w fun e w' => ∃ t, e = .returned t ∧ Own w.heap.size 21 w' t (ints .i32 (mwhole d)) ∧ Below w.heap.size w w' := by
  have hU := fun w' h' => oUsual_any v d w' h' (by omega)
  have hgu : Rg 0 256 (usuL d) := subL_rng hg (by omega) (by omega)
  have hlu : (usuL d).length ≤ 9999 := by rw [usuL, subL_len]; exact hl
  have hR := fun v w' h' => oRead_any v (43 :: usuL d) w' h' (by intro x hx; rcases List.mem_cons.1 hx with rfl | hx; omega; exact hgu x hx) (by simp only [List.length_cons]; omega)
  rw [show (sread (43 :: usuL d)).1 = mwhole d from rfl] at hR
  generalize mwhole d = T at *
  generalize usuL d = u at *
  have HU := Lib.hid hU; have HR := Lib.hid hR; have HLU : Hid (u.length ≤ 9999) := hlu; clear hU hR hgu hlu
  have o43 : Own w.heap.size 5 (w.alloc (.cells #[.int .u8 43] 5)) (.slice (some ⟨w.heap.size, 0, none⟩) 1 1) (ints .u8 [43]) := Own.ilit [43] [_] rfl (Nat.le_refl _) (by simp)
  have hb0 := below_alloc w (.cells #[.int .u8 43] 5)
  go_enter Try.func45, Try.ntmps45
  go_wp2_with (first | (go_at_call 52; refine (HU.out _ (h.below hb0)).mono ?_; rintro e w1 ⟨t1, rfl, ho1, hb1⟩; have o1 := o43.below hb1; have hb01 := below_trans hb0 hb1) | (at_builtin; refine wpList_app slT_u8 _ _ _ rfl rfl rfl rfl o1 ho1.row (by have := HLU.out; simp only [ints_length, List.length_cons, List.length_nil]; omega) hb01.size ?_; intro t2 w2 ho2 hg2; rw [← ints_append] at ho2; have hb2 := below_own hb01 o1 hg2 hb01.size (Nat.le_refl _)) | (go_at_call 68; refine (HR.out _ _ ho2.row).mono ?_; rintro e w3 ⟨t3, rfl, ho3, hb3⟩))
  go_ret
  exact ⟨_, rfl, ho3.mono hb2.size, below_trans hb2 hb3⟩
theorem mdigits_any (v : Value) (s : List Int) (w : World) (h : Row w v (ints .u8 s)) (hg : Rg 0 256 s) (hl : s.length ≤ 1000000) :
    Calls Try.prog 43 #[v] w fun e w' => e = .returned (.int .i64 (ml s)) ∧ w' = w := by
  obtain ⟨a, b, off, cp, rfl, HC⟩ := id h.op
  have hin := ml_in s
  have hout := ml_out s
  have hle := ml_le s
  have hI := fun v c h (hc : 0 ≤ c ∧ c < 256) => mIsDig_any v [c] w h (by intro x hx; rw [List.mem_singleton.1 hx]; exact hc) (by simp)
  have hall : ∀ c : Int, allM [c] = decide (0 ≤ mv c) := fun c => by simp [allM]
  have hone : ∀ k c, s[k]? = some c → (s.take (k + 1)).drop k = [c] := fun k c hk => by
    obtain ⟨k1, k2⟩ := List.getElem?_eq_some_iff.1 hk
    rw [List.drop_take, show k + 1 - k = 1 by omega, List.drop_eq_getElem_cons k1, k2]; rfl
  have HIN := Lib.hid hin; have HOUT := Lib.hid hout; have HI := Lib.hid hI; have HALL := Lib.hid hall; have HONE := Lib.hid hone
  clear hin hout hI hall hone
  generalize ml s = m at *
  go_enter Try.func43, Try.ntmps43
  go_wp2
  go_loop [3] (fun i => ∃ k : Nat, i = .int .i64 k ∧ k ≤ m) (fun i => m - (intOf i).toNat)
  case atStart => exact ⟨0, rfl, Nat.zero_le _⟩
  case round =>
    obtain ⟨k, rfl, hk⟩ := hrel
    by_cases hkm : k < m
    · obtain ⟨c, hc1, hc2⟩ := HIN.out k hkm
      have hIc := fun v h => HI.out v c h (hg.get hc1)
      rw [HALL.out, decide_eq_true hc2] at hIc
      have HIC := Lib.hid hIc
      have HO := Lib.hid (HONE.out k c hc1)
      have hks : k < s.length := by omega
      clear hIc hc1 hc2
      go_wp2_with (first | (refine wpList_slLH slT_u8 _ _ _ rfl rfl rfl rfl rfl h (by omega) (by omega) (by rw [ints_length]; omega) ?_; intro v2 hv2; have r2 := hv2 w h; rw [show ((k : Int) + 1).toNat = k + 1 by omega, Int.toNat_natCast, ints_take, ints_drop, HO.out] at r2) | (go_at_call 50; refine (HIC.out _ r2).mono ?_; rintro e w' ⟨rfl, hw⟩; obtain rfl := hw.symm))
      go_round
      case rel => exact ⟨k + 1, by go_num, by omega⟩
      case measure => simp [intOf]; omega
    · obtain rfl : k = m := by omega
      by_cases hks : k < s.length
      · obtain ⟨c, HX, rfl, _⟩ := HC.out k hks
        have hc2 := HOUT.out c HX.out
        have hIc := fun v h => HI.out v c h (hg.get HX.out)
        rw [HALL.out, decide_eq_false (by omega)] at hIc
        have HIC := Lib.hid hIc
        have HO := Lib.hid (HONE.out k c HX.out)
        clear hIc hc2
        go_wp2_with (first | (refine wpList_slLH slT_u8 _ _ _ rfl rfl rfl rfl rfl h (by omega) (by omega) (by rw [ints_length]; omega) ?_; intro v2 hv2; have r2 := hv2 w h; rw [show ((k : Int) + 1).toNat = k + 1 by omega, Int.toNat_natCast, ints_take, ints_drop, HO.out] at r2) | (go_at_call 50; refine (HIC.out _ r2).mono ?_; rintro e w' ⟨rfl, hw⟩; obtain rfl := hw.symm))
        go_ret
        exact ⟨rfl, rfl⟩
      · go_wp2
        go_ret
        exact ⟨rfl, rfl⟩
end Go.Proofs.Ytbpjgmiedplidaa
namespace Go.Proofs.Ytbpjgmiedplidaa
open Go.RowKit
set_option maxHeartbeats 2000000
theorem rmRuns_any (v : Value) (xs : List Int) (w : World) (h : Row w v (ints .i32 xs)) (hl : xs.length ≤ 5000) :
    Calls Try.prog 16 #[v] w fun e w' => e = .returned (.int .i64 (mlay xs).2) ∧ w' = w := by
  obtain ⟨a, b, off, cp, rfl, HC⟩ := id h.op
  have he := runsF_eq _ xs (Nat.le_refl _)
  have hat := fun b k c (h : xs[k]? = some c) => runsF_at b h
  have hle := runsF_le false xs
  have hz : runsF false (xs.drop 0) = runsF false xs := by rw [List.drop_zero]
  rw [← he]
  have HAT := Lib.hid hat; have HZ := Lib.hid hz
  clear hat he hz
  generalize hN : runsF false xs = N at *
  clear hN
  go_enter Try.func16, Try.ntmps16
  go_wp2
  go_loop [3, 4, 5] (fun nv bv iv => ∃ (k m : Nat) (q : Bool), iv = .int .i64 k ∧ nv = .int .i64 m ∧ bv = .bool q ∧ k ≤ xs.length ∧ m ≤ k ∧ Hid (N = m + runsF q (xs.drop k))) (fun _ _ i => xs.length - (intOf i).toNat)
  case atStart => exact ⟨0, 0, false, rfl, rfl, rfl, Nat.zero_le _, Nat.le_refl _, (by rw [HZ.out]; simp : N = 0 + runsF false (xs.drop 0))⟩
  case round =>
    obtain ⟨k, m, q, rfl, rfl, rfl, hk, hm, HN⟩ := hrel
    by_cases hlt : k < xs.length
    · obtain ⟨c, HX, rfl, hc⟩ := HC.out k hlt
      replace hc := hc _ (Below.refl _ _)
      have hd := fun w => rmDirect_any c w
      have hn := HN.out
      rw [HAT.out q k c HX.out] at hn
      rcases hdd : mdirB c with _ | _
      · rw [hdd] at hd
        have HD := Lib.hid hd; clear hd
        rcases Decidable.em (c = 38) with rfl | h38
        · rw [show mtak 38 = true from by decide] at hn
          simp only [Bool.true_or, if_true, eq_self, Nat.zero_add, Bool.not_true] at hn
          have HN2 := Lib.hid hn; clear hn HN hdd
          cases q
          all_goals
            go_wp2_with (go_at_call 20; refine (HD.out _).mono ?_; rintro e w' ⟨rfl, hw⟩; obtain rfl := hw.symm)
            go_round
            case rel => exact ⟨k + 1, m, false, by go_num, rfl, rfl, by omega, by omega, HN2⟩
            case measure => simp [intOf]; omega
        · have ht : mtak c = false := by rw [mtak, hdd, decide_eq_false h38]; rfl
          rw [ht] at hn
          have h38b : (c != 38) = true := by simpa using h38
          cases q
          · have hn2 : N = (m + 1) + runsF true (xs.drop (k + 1)) := by simp at hn; omega
            have HN2 := Lib.hid hn2; clear hn2 hn HN hdd ht h38
            go_wp2_with (go_at_call 20; refine (HD.out _).mono ?_; rintro e w' ⟨rfl, hw⟩; obtain rfl := hw.symm)
            go_round
            case rel => exact ⟨k + 1, m + 1, true, by go_num, by go_num, rfl, by omega, by omega, HN2⟩
            case measure => simp [intOf]; omega
          · have hn2 : N = m + runsF true (xs.drop (k + 1)) := by simp at hn; omega
            have HN2 := Lib.hid hn2; clear hn2 hn HN hdd ht h38
            go_wp2_with (go_at_call 20; refine (HD.out _).mono ?_; rintro e w' ⟨rfl, hw⟩; obtain rfl := hw.symm)
            go_round
            case rel => exact ⟨k + 1, m, true, by go_num, rfl, rfl, by omega, by omega, HN2⟩
            case measure => simp [intOf]; omega
      · rw [hdd] at hd
        have HD := Lib.hid hd; clear hd
        have ht : mtak c = true := by rw [mtak, hdd]; rfl
        rw [ht] at hn
        simp only [Bool.true_or, if_true, eq_self, Nat.zero_add, Bool.not_true] at hn
        have HN2 := Lib.hid hn; clear hn HN hdd ht
        cases q
        all_goals
          go_wp2_with (go_at_call 20; refine (HD.out _).mono ?_; rintro e w' ⟨rfl, hw⟩; obtain rfl := hw.symm)
          go_round
          case rel => exact ⟨k + 1, m, false, by go_num, rfl, rfl, by omega, by omega, HN2⟩
          case measure => simp [intOf]; omega
    · have hn := HN.out
      rw [List.drop_eq_nil_of_le (by omega), runsF, Nat.add_zero] at hn
      subst hn
      go_wp2
      go_ret
      exact ⟨rfl, rfl⟩
def mdigB : Option Int → Bool
  | some y => decide (0 ≤ mv y)
  | none => false
theorem rmdigit_any (v : Value) (xs : List Int) (k : Nat) (w : World) (h : Row w v (ints .u8 xs)) :
    Calls Try.prog 49 #[v, .int .i64 k] w fun e w' => e = .returned (.bool (mdigB xs[k]?)) ∧ w' = w := by
  obtain ⟨a, b, off, cp, rfl, HC⟩ := h.op
  by_cases hk : k < xs.length
  · obtain ⟨c, HX, rfl, hc⟩ := HC.out k hk
    replace hc := hc _ (Below.refl _ _)
    have hb : mdigB xs[k]? = decide (0 ≤ mv c) := by rw [HX.out]; rfl
    rw [hb]
    have hv := fun w => rmValue_any c w
    generalize decide (0 ≤ mv c) = q at *
    have HV := Lib.hid hv; clear hv hb
    go_enter Try.func49, Try.ntmps49
    go_wp2_with (go_at_call 53; refine (HV.out _).mono ?_; rintro e w' ⟨rfl, rfl⟩)
    go_ret
    exact ⟨rfl, rfl⟩
  · have hb : mdigB xs[k]? = false := by rw [List.getElem?_eq_none (by omega)]; rfl
    rw [hb]
    clear hb
    go_enter Try.func49, Try.ntmps49
    go_wp2
    go_ret
    exact ⟨rfl, rfl⟩
def mrunA (d : List Int) : List Int := if allM d = true ∧ d ≠ [] then mwhole d else []
set_option maxRecDepth 100000 in
theorem rmRun_any (v : Value) (d : List Int) (w : World) (h : Row w v (ints .u8 d)) (hg : Rg 0 256 d) (hl : d.length ≤ 9000) :
    Calls Try.prog 32 #[v] w fun e w' => ∃ t u, e = .returned (.tuple #[t, .bool (mrunR d), u]) ∧ Own w.heap.size 21 w' t (ints .i32 (mrunT d)) ∧ Own w.heap.size 21 w' u (ints .i32 (mrunA d)) ∧ Below w.heap.size w w' := by
  obtain ⟨a, b, off, cp, rfl, HC⟩ := id h.op
  have hnone := fun k c (h : d[k]? = some c) (hn : mv c < 0) => allM_none h hn
  have hsnoc := fun k c (h : d[k]? = some c) (ha : allM (d.take k) = true) (hn : 0 ≤ mv c) => allM_snoc h ha hn
  have hall : allM (d.take d.length) = true → allM d = true := by rw [List.take_length]; exact id
  have hno : allM d = false → mrunT d = [] ∧ mrunR d = false ∧ mrunA d = [] := fun h => by simp [mrunT, mrunR, mrunA, h]
  have hyes : allM d = true → mrunT d = runT (usuL d) ∧ mrunR d = runR (usuL d) ∧ mrunA d = if d ≠ [] then mwhole d else [] := fun h => by simp [mrunT, mrunR, mrunA, h]
  have hw0 : mwhole d = (sread (43 :: usuL d)).1 := rfl
  have hU := fun v w' h' => rUsual_any v d w' h' (by omega)
  have hgu : Rg 0 256 (usuL d) := subL_rng hg (by omega) (by omega)
  have hlu : (usuL d).length ≤ 9000 := by rw [usuL, subL_len]; exact hl
  have hR := fun v w' h' => rRun_any v (usuL d) w' h' (by omega)
  have hRd := fun v w' h' => rRead_any v (43 :: usuL d) w' h' (by intro x hx; rcases List.mem_cons.1 hx with rfl | hx; omega; exact hgu x hx) (by simp only [List.length_cons]; omega)
  generalize mrunT d = MT at *
  generalize mrunR d = MR at *
  generalize mrunA d = MA at *
  rw [← hw0] at hRd
  generalize mwhole d = D at *
  clear hw0
  generalize (sread (43 :: usuL d)).2.1 = n1 at *
  generalize errB (sread (43 :: usuL d)).2.2 = n2 at *
  generalize runT (usuL d) = T at *
  generalize runR (usuL d) = R at *
  generalize usuL d = u at *
  have HN := Lib.hid hnone; have HS := Lib.hid hsnoc; have HA := Lib.hid hall; have HNO := Lib.hid hno; have HY := Lib.hid hyes; have HU := Lib.hid hU; have HR := Lib.hid hR; have HRD := Lib.hid hRd; have HLU : Hid (u.length ≤ 9000) := hlu
  clear hnone hsnoc hall hno hyes hU hR hRd hgu hlu
  go_enter Try.func32, Try.ntmps32
  go_wp2
  go_loop [5] (fun i => ∃ k : Nat, i = .int .i64 k ∧ k ≤ d.length ∧ Hid (allM (d.take k) = true)) (fun i => d.length - (intOf i).toNat)
  case atStart => exact ⟨0, rfl, Nat.zero_le _, (rfl : allM (d.take 0) = true)⟩
  case round =>
    obtain ⟨k, rfl, hk, HT⟩ := hrel
    by_cases hlt : k < d.length
    · obtain ⟨c, HX, rfl, hc⟩ := HC.out k hlt
      replace hc := hc _ (Below.refl _ _)
      have hv := fun w => rmValue_any c w
      rcases Int.lt_or_le (mv c) 0 with hn | hn
      · have hd : decide (0 ≤ mv c) = false := decide_eq_false (by omega)
        rw [hd] at hv
        have HV := Lib.hid hv
        obtain ⟨rfl, rfl, rfl⟩ := HNO.out (HN.out k c HX.out hn)
        clear hv hd hn
        go_wp2_with (go_at_call 53; refine (HV.out _).mono ?_; rintro e w' ⟨rfl, hw⟩; obtain rfl := hw.symm)
        go_ret3
        exact ⟨_, _, ret3 rfl rfl rfl, Own.nil _ _ _, Own.nil _ _ _, Below.refl _ _⟩
      · have hd : decide (0 ≤ mv c) = true := decide_eq_true hn
        rw [hd] at hv
        have HV := Lib.hid hv
        have HNN := Lib.hid (HS.out k c HX.out HT.out hn)
        clear hv hd hn
        go_wp2_with (go_at_call 53; refine (HV.out _).mono ?_; rintro e w' ⟨rfl, hw⟩; obtain rfl := hw.symm)
        go_round
        case rel => exact ⟨k + 1, by go_num, by omega, HNN⟩
        case measure => simp [intOf]; omega
    · obtain rfl : k = d.length := by omega
      obtain ⟨rfl, rfl, hMA⟩ := HY.out (HA.out HT.out)
      clear HT HA HY HNO HN HS
      have hcase : (d.length = 0 ∧ MA = []) ∨ (0 < d.length ∧ MA = D) := by
        cases d with
        | nil => left; exact ⟨rfl, by rw [hMA]; rfl⟩
        | cons x r => right; exact ⟨by simp, by rw [hMA]; simp⟩
      clear hMA
      rcases hcase with ⟨h0, rfl⟩ | ⟨h0, rfl⟩
      case' inl => have hr0 : Row w (.slice a 0 cp) (ints .u8 d) := (by rw [← h0]; exact h)
      case' inr => have hr0 := h
      all_goals
        go_wp2_with (first | (go_at_call 54; refine (HU.out _ _ hr0).mono ?_; rintro e w1 ⟨t1, rfl, ho1, hb1⟩; have hb1' := below_trans hb1 (below_alloc w1 (.cells #[.int .u8 43] 5))) | (go_at_call 55; refine (HR.out _ _ ho1.row).mono ?_; rintro e w2 ⟨t2, rfl, ho2, hb2⟩; have hb12 := below_trans hb1 hb2; have o43 : Own w2.heap.size 5 (w2.alloc (.cells #[.int .u8 43] 5)) (.slice (some ⟨w2.heap.size, 0, none⟩) 1 1) (ints .u8 [43]) := Own.ilit [43] [_] rfl (Nat.le_refl _) (by simp); have r1a := (ho1.row.below hb2).alloc (.cells #[.int .u8 43] 5); have hs9 : w2.heap.size ≤ (w2.alloc (.cells #[.int .u8 43] 5)).heap.size := by simp) | (at_builtin; refine wpList_app slT_u8 _ _ _ rfl rfl rfl rfl o43 r1a (by have := HLU.out; simp only [ints_length, List.length_cons, List.length_nil]; omega) hs9 ?_; intro t3 w3 ho3 hg3; rw [← ints_append] at ho3; have hb3 : Below w2.heap.size w2 w3 := below_own (below_alloc _ _) o43 hg3 hs9 (Nat.le_refl _)) | (go_at_call 56; refine (HRD.out _ _ ho3.row).mono ?_; rintro e w4 ⟨t4, rfl, ho4, hb4⟩; have hb34 := below_trans hb3 hb4))
        go_ret3
        first
          | exact ⟨_, _, ret3 rfl rfl rfl, (ho2.mono hb1.size).below hb34, Own.nil _ _ _, below_trans hb12 hb34⟩
          | exact ⟨_, _, ret3 rfl rfl rfl, (ho2.mono hb1.size).below hb34, ho4.mono (Nat.le_trans hb12.size hb3.size), below_trans hb12 hb34⟩
end Go.Proofs.Ytbpjgmiedplidaa
namespace Go.Proofs.Ytbpjgmiedplidaa
open Go.RowKit
set_option maxHeartbeats 4000000
theorem Row.formN {w : World} {v : Value} {cs : List Value} (h : Row w v cs) {n : Nat} (hn : cs.length = n) : ∃ a c, v = .slice a n c := by
  obtain ⟨a, _, _, c, hv, _⟩ := h
  exact ⟨a, c, by rw [hv, hn]⟩
/-- What the loop of Read keeps. -/
def MRI (w : World) (xs : List Int) (lv u : Value) (wr : World) : Prop :=
  ∃ (p : Nat) (T : List Int), p ≤ xs.length ∧ Row w lv (ints .u8 (xs.drop p)) ∧ T.length ≤ p ∧ Hid ((mread xs).1 = T ++ (mread (xs.drop p)).1) ∧ Own w.heap.size 21 wr u (ints .i32 T) ∧ Below w.heap.size w wr
theorem MRI.next {w wr : World} {xs T r : List Int} {lv u : Value} {p : Nat} {c : Int} (hx : xs.drop p = c :: r) (hT : T.length ≤ p) (HS : Hid ((mread xs).1 = T ++ (mread (xs.drop p)).1))
    (hrow : Row w lv (ints .u8 (r.drop (msn c r)))) (ho : Own w.heap.size 21 wr u (ints .i32 (T ++ msout c r))) (hb : Below w.heap.size w wr) : MRI w xs lv u wr := by
  have hl := congrArg List.length hx
  rw [List.length_drop, List.length_cons] at hl
  have hr1 : xs.drop (p + 1) = r := by
    have h9 := congrArg (fun l : List Int => l.drop 1) hx
    simp only [List.drop_drop, List.drop_succ_cons, List.drop_zero] at h9
    exact h9
  have hsl := msout_len c r
  have hsn := msn_le c r
  have hdr : r.drop (msn c r) = xs.drop (p + 1 + msn c r) := by rw [← hr1, List.drop_drop]
  refine ⟨p + 1 + msn c r, T ++ msout c r, by omega, by rw [← hdr]; exact hrow, by rw [List.length_append]; omega, ?_, ho, hb⟩
  show _ = _
  rw [HS.out, hx, mread_cons, ← hdr, List.append_assoc]
theorem pre45 (r : List Int) (n : Nat) : decide ((r.drop n).take 1 = [45]) = decide (r[n]? = some 45) := by
  rw [decide_eq_decide]
  cases h : r.drop n with
  | nil =>
    have : r[n]? = none := by rw [List.getElem?_eq_none]; have := congrArg List.length h; rw [List.length_drop] at this; simp at this; omega
    rw [this]; simp
  | cons x t =>
    have : r[n]? = some x := by
      have h9 := congrArg (fun l : List Int => l[0]?) h
      simpa [List.getElem?_drop] using h9
    rw [this]; simp
set_option maxRecDepth 100000 in
theorem omRead_any (v : Value) (xs : List Int) (w : World) (h : Row w v (ints .u8 xs)) (hg : Rg 0 256 xs) (hl : xs.length ≤ 9000) :
    Calls Try.prog 23 #[v] w fun e w' => ∃ t, e = .returned t ∧ Own w.heap.size 21 w' t (ints .i32 (mread xs).1) ∧ Below w.heap.size w w' := by
  obtain ⟨a0, b0, off0, cp0, rfl, _⟩ := id h.op
  go_enter Try.func23, Try.ntmps23
  go_wp2
  go_loopw [0, 3] (fun lv u wr => MRI w xs lv u wr) (fun lv _ _ => lenOf lv)
  case atStart => exact ⟨0, [], Nat.zero_le _, by rw [List.drop_zero]; exact h, Nat.le_refl _, (by rw [List.drop_zero]; rfl : (mread xs).1 = [] ++ (mread (xs.drop 0)).1), Own.nil _ _ _, Below.refl _ _⟩
  case round =>
    obtain ⟨p, T, hp, hrow, hT, HS, hown, hbr⟩ := hrel
    rcases hx : xs.drop p with _ | ⟨c, r⟩
    · have hs := HS.out
      rw [hx, mread_nil, List.append_nil] at hs
      rw [hx] at hrow
      obtain ⟨al, bl, ol, cl, rfl, _⟩ := id hrow.op
      have HS2 := Lib.hid hs
      clear hs HS hx
      go_wp2
      go_ret
      exact ⟨_, rfl, by rw [HS2.out]; exact hown, hbr⟩
    · have hNX := fun lv' u' wr' h1 h2 h3 => MRI.next (w := w) (wr := wr') (lv := lv') (u := u') hx hT HS h1 h2 h3
      have hgr : Rg 0 256 (c :: r) := by rw [← hx]; exact hg.drop p
      have hrl : (c :: r).length ≤ 9000 := by rw [← hx, List.length_drop]; omega
      have hTl : T.length ≤ 9000 := by omega
      rw [hx] at hrow
      have hcr := hgr.cons.1
      have hgr2 := hgr.cons.2
      have hc0 := hcr.1
      have hc1 := hcr.2
      have hmsl : (r.drop (msn c r)).length < (c :: r).length := by rw [List.length_drop, List.length_cons]; omega
      obtain ⟨al, bl, ol, cl, rfl, HC⟩ := id hrow.op
      obtain ⟨y, HY, rfl, hc⟩ := HC.out 0 (by simp)
      have e9 : c = y := by have h9 := HY.out; rw [List.getElem?_cons_zero] at h9; exact Option.some.inj h9
      subst e9
      replace hc := hc _ hbr
      simp only [Nat.add_zero] at hc
      have hD := fun w => mDirect_any c w
      have hne : 0 < (c :: r).length := by simp
      clear HC HY hx HS hp
      rcases hd : mdirB c with _ | _
      · rw [hd] at hD
        have HD := Lib.hid hD; clear hD
        rcases Decidable.em (c = 38) with rfl | h38
        · have hDg := fun v w' h' => mdigits_any v r w' h' hgr2 (by simp at hrl; omega)
          have hle := ml_le r
          have hrl2 : r.length ≤ 8999 := by simp at hrl; omega
          have hpre := fun v1 v2 w' h1 h2 => bpre_any v1 v2 (r.drop (ml r)) [45] w' h1 h2 (hgr2.drop _) (by intro x hx; rw [List.mem_singleton.1 hx]; omega) (by rw [List.length_drop]; omega) (by simp)
          rw [show ([45] : List Int).length = 1 from rfl, pre45] at hpre
          have hb1 := hbr.alloc hbr.size (.cells #[.int .u8 45] 5)
          have hown1 := hown.alloc (.cells #[.int .u8 45] 5)
          rcases Nat.eq_zero_or_pos (ml r) with hm | hm
          · rw [hm] at hDg hpre
            rw [show ((0 : Nat) : Int) = 0 from rfl] at hDg
            rw [List.drop_zero] at hpre
            have HDG := Lib.hid hDg
            rcases hq : decide (r[0]? = some 45) with _ | _
            · have e1 : msout 38 r = [65533] := by rw [msout, hd, if_neg (by decide), if_pos rfl, if_pos hm, if_neg (of_decide_eq_false hq)]
              have e2 : msn 38 r = 0 := by rw [msn, if_pos rfl, hm, if_neg (of_decide_eq_false hq)]
              rw [hq] at hpre
              rw [e1, e2, List.drop_zero] at hNX
              have HNX := Lib.hid hNX; have HP := Lib.hid hpre
              clear hNX e1 e2 hd hmsl hDg hpre hm hle hq
              go_wp2_with (first | (refine wpList_slL slT_u8 _ _ rfl rfl rfl rfl (hrow.below hbr) (by omega) (by rw [ints_length, List.length_cons]; omega) ?_; intro v3 hv3; have r3 := hv3 w hrow; rw [show (1 : Int).toNat = 0 + 1 from rfl, ints_drop, List.drop_succ_cons, List.drop_zero] at r3; obtain ⟨a3, b3, o3, c3, rfl, _⟩ := id r3.op) | (go_at_call 19; refine (HD.out _).mono ?_; rintro e w' ⟨rfl, hw⟩; obtain rfl := hw.symm) | (go_at_call 43; refine (HDG.out _ _ (r3.below hbr)).mono ?_; rintro e w' ⟨rfl, hw⟩; obtain rfl := hw.symm) | (refine wpList_slL slT_u8 _ _ rfl rfl rfl rfl (r3.below hbr) (by omega) (by rw [ints_length]; omega) ?_; intro v4 hv4; have r4 := hv4 w r3; rw [show (0 : Int).toNat = 0 from rfl, ints_drop, List.drop_zero] at r4; obtain ⟨a4, b4, o4, c4, rfl, _⟩ := id r4.op) | (go_at_call 44; refine (HP.out _ _ _ (r4.below hb1) (Row.ilit [45] [_] rfl (by simp))).mono ?_; rintro e w' ⟨rfl, hw⟩; obtain rfl := hw.symm; clear hw; generalize World.alloc wr (.cells #[.int .u8 45] 5) = wa at *) | (at_builtin; refine wpList_app slT_i32 _ _ _ rfl rfl rfl rfl (hown1.alloc _) (Row.ilit [_] [_] rfl (by simp)) (by simp [ints]; omega) (by have := hb1.size; simp; omega) ?_; intro t3 w3 hown3 hg3; rw [← ints_append] at hown3; have hb3 := below_own (hb1.alloc hb1.size _) (hown1.alloc _) hg3 (by have := hb1.size; simp; omega) (Nat.le_refl _)) | (refine wpList_slL slT_u8 _ _ rfl rfl rfl rfl (r3.below hb3) (by omega) (by rw [ints_length]; omega) ?_; intro v4 hv4; have r4 := hv4 w r3; rw [show (0 : Int).toNat = 0 from rfl, ints_drop, List.drop_zero] at r4; obtain ⟨a4, b4, o4, c4, rfl, _⟩ := id r4.op))
              go_roundw
              case rel => exact HNX.out _ _ _ r4 hown3 hb3
              case measure => simp [lenOf]
            · have hq1 := of_decide_eq_true hq
              have e1 : msout 38 r = [38] := by rw [msout, hd, if_neg (by decide), if_pos rfl, if_pos hm, if_pos hq1]
              have e2 : msn 38 r = 1 := by rw [msn, if_pos rfl, hm, if_pos hq1]
              rw [hq] at hpre
              rw [e1, e2] at hNX
              have hr1 := (List.getElem?_eq_some_iff.1 hq1).1
              have HNX := Lib.hid hNX; have HP := Lib.hid hpre
              clear hNX e1 e2 hd hmsl hDg hpre hm hle hq hq1
              go_wp2_with (first | (refine wpList_slL slT_u8 _ _ rfl rfl rfl rfl (hrow.below hbr) (by omega) (by rw [ints_length, List.length_cons]; omega) ?_; intro v3 hv3; have r3 := hv3 w hrow; rw [show (1 : Int).toNat = 0 + 1 from rfl, ints_drop, List.drop_succ_cons, List.drop_zero] at r3; obtain ⟨a3, b3, o3, c3, rfl, _⟩ := id r3.op) | (go_at_call 19; refine (HD.out _).mono ?_; rintro e w' ⟨rfl, hw⟩; obtain rfl := hw.symm) | (go_at_call 43; refine (HDG.out _ _ (r3.below hbr)).mono ?_; rintro e w' ⟨rfl, hw⟩; obtain rfl := hw.symm) | (refine wpList_slL slT_u8 _ _ rfl rfl rfl rfl (r3.below hbr) (by omega) (by rw [ints_length]; omega) ?_; intro v4 hv4; have r4 := hv4 w r3; rw [show (0 : Int).toNat = 0 from rfl, ints_drop, List.drop_zero] at r4; obtain ⟨a4, b4, o4, c4, rfl, _⟩ := id r4.op) | (go_at_call 44; refine (HP.out _ _ _ (r4.below hb1) (Row.ilit [45] [_] rfl (by simp))).mono ?_; rintro e w' ⟨rfl, hw⟩; obtain rfl := hw.symm; clear hw; generalize World.alloc wr (.cells #[.int .u8 45] 5) = wa at *) | (at_builtin; refine wpList_app slT_i32 _ _ _ rfl rfl rfl rfl (hown1.alloc _) (Row.ilit [_] [_] rfl (by simp)) (by simp [ints]; omega) (by have := hb1.size; simp; omega) ?_; intro t3 w3 hown3 hg3; rw [← ints_append] at hown3; have hb3 := below_own (hb1.alloc hb1.size _) (hown1.alloc _) hg3 (by have := hb1.size; simp; omega) (Nat.le_refl _)) | (refine wpList_slL slT_u8 _ _ rfl rfl rfl rfl (r3.below hb3) (by omega) (by rw [ints_length]; omega) ?_; intro v4 hv4; have r4 := hv4 w r3; rw [show (0 : Int).toNat = 0 from rfl, ints_drop, List.drop_zero] at r4; obtain ⟨a4, b4, o4, c4, rfl, _⟩ := id r4.op) | (refine wpList_slL slT_u8 _ _ rfl rfl rfl rfl (r4.below hb3) (by omega) (by rw [ints_length]; omega) ?_; intro v5 hv5; have r5 := hv5 w r4; rw [show (1 : Int).toNat = 1 from rfl, ints_drop] at r5; obtain ⟨a5, c5, rfl⟩ := r5.formN (n := r.length - 1) (by rw [ints_length, List.length_drop])))
              go_roundw
              case rel => exact HNX.out _ _ _ r5 hown3 hb3
              case measure => simp [lenOf]; omega
          · have hW := fun v w' h' => mwhole_any v (r.take (ml r)) w' h' (hgr2.take _) (by rw [List.length_take]; omega)
            have hWl := mwhole_len (r.take (ml r)) (ml_dig r) (ml_tne (by omega))
            rw [List.length_take] at hWl
            have hWl2 : (mwhole (r.take (ml r))).length ≤ 9000 := by omega
            have e1 : msout 38 r = mwhole (r.take (ml r)) := by rw [msout, hd, if_neg (by decide), if_pos rfl, if_neg (by omega)]
            rw [e1] at hNX
            have hml : ml r ≤ r.length := hle
            rcases hq : decide (r[ml r]? = some 45) with _ | _
            · have e2 : msn 38 r = ml r := by rw [msn, if_pos rfl, if_neg (of_decide_eq_false hq)]
              rw [hq] at hpre
              rw [e2] at hNX
              generalize mwhole (r.take (ml r)) = D at *
              generalize ml r = n at *
              have HNX := Lib.hid hNX; have HP := Lib.hid hpre; have HDG := Lib.hid hDg; have HW := Lib.hid hW; have HDL : Hid (D.length ≤ 9000) := hWl2
              clear hNX e1 e2 hd hmsl hDg hpre hle hq hW hWl hWl2
              go_wp2_with (first | (refine wpList_slL slT_u8 _ _ rfl rfl rfl rfl (hrow.below hbr) (by omega) (by rw [ints_length, List.length_cons]; omega) ?_; intro v3 hv3; have r3 := hv3 w hrow; rw [show (1 : Int).toNat = 0 + 1 from rfl, ints_drop, List.drop_succ_cons, List.drop_zero] at r3; obtain ⟨a3, b3, o3, c3, rfl, _⟩ := id r3.op) | (go_at_call 19; refine (HD.out _).mono ?_; rintro e w' ⟨rfl, hw⟩; obtain rfl := hw.symm) | (go_at_call 43; refine (HDG.out _ _ (r3.below hbr)).mono ?_; rintro e w' ⟨rfl, hw⟩; obtain rfl := hw.symm) | (refine wpList_slL slT_u8 _ _ rfl rfl rfl rfl (r3.below hbr) (by omega) (by rw [ints_length]; omega) ?_; intro v4 hv4; have r4 := hv4 w r3; rw [Int.toNat_natCast, ints_drop] at r4; obtain ⟨a4, c4, rfl⟩ := r4.formN (n := r.length - n) (by rw [ints_length, List.length_drop])) | (go_at_call 44; refine (HP.out _ _ _ (r4.below hb1) (Row.ilit [45] [_] rfl (by simp))).mono ?_; rintro e w' ⟨rfl, hw⟩; obtain rfl := hw.symm; clear hw; generalize World.alloc wr (.cells #[.int .u8 45] 5) = wa at *) | (refine wpList_slH slT_u8 _ _ rfl rfl rfl rfl (r3.below hb1) (by omega) (by rw [ints_length]; omega) ?_; intro v5 hv5; have r5 := hv5 w r3; rw [Int.toNat_natCast, ints_take] at r5) | (go_at_call 45; refine (HW.out _ _ (r5.below hb1)).mono ?_; rintro e w6 ⟨t6, rfl, ho6, hb6⟩; have hown6 := hown1.below hb6; have hb16 := below_trans hb1 hb6) | (at_builtin; refine wpList_app slT_i32 _ _ _ rfl rfl rfl rfl hown6 ho6.row (by have := HDL.out; rw [ints_length, ints_length]; omega) hb16.size ?_; intro t7 w7 hown7 hg7; rw [← ints_append] at hown7; have hb7 := below_own hb16 hown6 hg7 hb16.size (Nat.le_refl _)) | (refine wpList_slL slT_u8 _ _ rfl rfl rfl rfl (r3.below hb7) (by omega) (by rw [ints_length]; omega) ?_; intro v8 hv8; have r8 := hv8 w r3; rw [Int.toNat_natCast, ints_drop] at r8; obtain ⟨a8, c8, rfl⟩ := r8.formN (n := r.length - n) (by rw [ints_length, List.length_drop])))
              go_roundw
              case rel => exact HNX.out _ _ _ r8 hown7 hb7
              case measure => simp [lenOf]; omega
            · have hq1 := of_decide_eq_true hq
              have e2 : msn 38 r = ml r + 1 := by rw [msn, if_pos rfl, if_pos hq1]
              rw [hq] at hpre
              rw [e2] at hNX
              have hr1 := (List.getElem?_eq_some_iff.1 hq1).1
              generalize mwhole (r.take (ml r)) = D at *
              generalize ml r = n at *
              have HNX := Lib.hid hNX; have HP := Lib.hid hpre; have HDG := Lib.hid hDg; have HW := Lib.hid hW; have HDL : Hid (D.length ≤ 9000) := hWl2
              clear hNX e1 e2 hd hmsl hDg hpre hle hq hq1 hW hWl hWl2
              go_wp2_with (first | (refine wpList_slL slT_u8 _ _ rfl rfl rfl rfl (hrow.below hbr) (by omega) (by rw [ints_length, List.length_cons]; omega) ?_; intro v3 hv3; have r3 := hv3 w hrow; rw [show (1 : Int).toNat = 0 + 1 from rfl, ints_drop, List.drop_succ_cons, List.drop_zero] at r3; obtain ⟨a3, b3, o3, c3, rfl, _⟩ := id r3.op) | (go_at_call 19; refine (HD.out _).mono ?_; rintro e w' ⟨rfl, hw⟩; obtain rfl := hw.symm) | (go_at_call 43; refine (HDG.out _ _ (r3.below hbr)).mono ?_; rintro e w' ⟨rfl, hw⟩; obtain rfl := hw.symm) | (refine wpList_slL slT_u8 _ _ rfl rfl rfl rfl (r3.below hbr) (by omega) (by rw [ints_length]; omega) ?_; intro v4 hv4; have r4 := hv4 w r3; rw [Int.toNat_natCast, ints_drop] at r4; obtain ⟨a4, c4, rfl⟩ := r4.formN (n := r.length - n) (by rw [ints_length, List.length_drop])) | (go_at_call 44; refine (HP.out _ _ _ (r4.below hb1) (Row.ilit [45] [_] rfl (by simp))).mono ?_; rintro e w' ⟨rfl, hw⟩; obtain rfl := hw.symm; clear hw; generalize World.alloc wr (.cells #[.int .u8 45] 5) = wa at *) | (refine wpList_slH slT_u8 _ _ rfl rfl rfl rfl (r3.below hb1) (by omega) (by rw [ints_length]; omega) ?_; intro v5 hv5; have r5 := hv5 w r3; rw [Int.toNat_natCast, ints_take] at r5) | (go_at_call 45; refine (HW.out _ _ (r5.below hb1)).mono ?_; rintro e w6 ⟨t6, rfl, ho6, hb6⟩; have hown6 := hown1.below hb6; have hb16 := below_trans hb1 hb6) | (at_builtin; refine wpList_app slT_i32 _ _ _ rfl rfl rfl rfl hown6 ho6.row (by have := HDL.out; rw [ints_length, ints_length]; omega) hb16.size ?_; intro t7 w7 hown7 hg7; rw [← ints_append] at hown7; have hb7 := below_own hb16 hown6 hg7 hb16.size (Nat.le_refl _)) | (refine wpList_slL slT_u8 _ _ rfl rfl rfl rfl (r3.below hb7) (by omega) (by rw [ints_length]; omega) ?_; intro v8 hv8; have r8 := hv8 w r3; rw [Int.toNat_natCast, ints_drop] at r8; obtain ⟨a8, c8, rfl⟩ := r8.formN (n := r.length - n) (by rw [ints_length, List.length_drop])) | (refine wpList_slL slT_u8 _ _ rfl rfl rfl rfl (r8.below hb7) (by omega) (by rw [ints_length, List.length_drop]; omega) ?_; intro v9 hv9; have r9 := hv9 w r8; rw [show (1 : Int).toNat = 1 from rfl, ints_drop, List.drop_drop] at r9; obtain ⟨a9, c9, rfl⟩ := r9.formN (n := r.length - (n + 1)) (by rw [ints_length, List.length_drop])))
              go_roundw
              case rel => exact HNX.out _ _ _ r9 hown7 hb7
              case measure => simp [lenOf]; omega
        · have e1 : msout c r = [65533] := by rw [msout, hd, if_neg (by decide), if_neg h38]
          have e2 : msn c r = 0 := by rw [msn, if_neg h38]
          rw [e1, e2, List.drop_zero] at hNX
          have HNX := Lib.hid hNX
          have hne38 : (c == 38) = false := beq_false_of_ne h38
          clear hNX e1 e2 h38 hd hmsl
          go_wp2_with (first | (refine wpList_slL slT_u8 _ _ rfl rfl rfl rfl (hrow.below hbr) (by omega) (by rw [ints_length, List.length_cons]; omega) ?_; intro v3 hv3; have r3 := hv3 w hrow; rw [show (1 : Int).toNat = 0 + 1 from rfl, ints_drop, List.drop_succ_cons, List.drop_zero] at r3; obtain ⟨a3, b3, o3, c3, rfl, _⟩ := id r3.op) | (go_at_call 19; refine (HD.out _).mono ?_; rintro e w' ⟨rfl, hw⟩; obtain rfl := hw.symm) | (at_builtin; refine wpList_app slT_i32 _ _ _ rfl rfl rfl rfl (hown.alloc _) (Row.ilit [_] [_] rfl (by simp)) (by simp [ints]; omega) (by have := hbr.size; simp; omega) ?_; intro t3 w3 hown3 hg3; rw [← ints_append] at hown3; have hb3 := below_app hbr (below_alloc _ _) (hown.alloc _) hg3) | (refine wpList_slL slT_u8 _ _ rfl rfl rfl rfl (r3.below hb3) (by omega) (by rw [ints_length]; omega) ?_; intro v4 hv4; have r4 := hv4 w r3; rw [show (0 : Int).toNat = 0 from rfl, ints_drop, List.drop_zero] at r4; obtain ⟨a4, b4, o4, c4, rfl, _⟩ := id r4.op))
          go_roundw
          case rel => exact HNX.out _ _ _ r4 hown3 hb3
          case measure => simp [lenOf]
      · rw [hd] at hD
        have HD := Lib.hid hD; clear hD
        have h38 : c ≠ 38 := by intro h9; rw [h9] at hd; revert hd; decide
        have e1 : msout c r = [c] := by rw [msout, hd, if_pos rfl]
        have e2 : msn c r = 0 := by rw [msn, if_neg h38]
        rw [e1, e2, List.drop_zero] at hNX
        have HNX := Lib.hid hNX
        clear hNX e1 e2 h38 hd hmsl
        go_wp2_with (first | (refine wpList_slL slT_u8 _ _ rfl rfl rfl rfl (hrow.below hbr) (by omega) (by rw [ints_length, List.length_cons]; omega) ?_; intro v3 hv3; have r3 := hv3 w hrow; rw [show (1 : Int).toNat = 0 + 1 from rfl, ints_drop, List.drop_succ_cons, List.drop_zero] at r3; obtain ⟨a3, b3, o3, c3, rfl, _⟩ := id r3.op) | (go_at_call 19; refine (HD.out _).mono ?_; rintro e w' ⟨rfl, hw⟩; obtain rfl := hw.symm) | (at_builtin; refine wpList_app slT_i32 _ _ _ rfl rfl rfl rfl (hown.alloc _) (Row.ilit [_] [_] rfl (by simp)) (by simp [ints]; omega) (by have := hbr.size; simp; omega) ?_; intro t3 w3 hown3 hg3; rw [← ints_append] at hown3; have hb3 := below_app hbr (below_alloc _ _) (hown.alloc _) hg3))
        go_roundw
        case rel => exact HNX.out _ _ _ r3 hown3 hb3
        case measure => simp [lenOf]
end Go.Proofs.Ytbpjgmiedplidaa
