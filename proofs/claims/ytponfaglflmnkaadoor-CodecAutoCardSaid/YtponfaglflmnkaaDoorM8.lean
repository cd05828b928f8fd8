/- Walks: codecs, by the reference. · The statements of layer 13, walked. · The statement of layer 13 on Auto, walked. · The library's table as it is laid; the heap that the door's own run leaves meets the condition (turned from the kit's worked card). (laid together by program out of single texts). -/
import Derived.Test.YtponfaglflmnkaaDoorTie
import Derived.Test.YtponfaglflmnkaaDoorCards
import Derived.LaidMore
import Derived.Stop.Joined
import Derived.Stop.LaidErr
import Derived.Lib.LaidTab
import Derived.Test.YtponfaglflmnkaaDoorM1
import Derived.Test.YtponfaglflmnkaaDoorM2
import Derived.Test.YtponfaglflmnkaaDoorM4
import Derived.Test.YtponfaglflmnkaaDoorM5
import Derived.Test.YtponfaglflmnkaaDoorM6
import Derived.Test.YtponfaglflmnkaaDoorM7
namespace Go.Proofs.YtponfaglflmnkaaDoor
open Go.RowKit
set_option maxHeartbeats 2000000
theorem one_own {w : World} {B : Nat} (x : Int) (hB : B ≤ w.heap.size) : Own B 5 (w.alloc (.cells #[.int .u8 x] 5)) (.slice (some ⟨w.heap.size, 0, none⟩) 1 1) (ints .u8 [x]) := Own.ilit [x] [_] rfl hB (by simp)
theorem roct13_any (n c : Int) (w : World) (h1 : -2147483648 ≤ c) (h2 : c ≤ 2147483647) :
    Calls Tryd.prog 31 #[.int .i64 n, .int .i32 c] w fun e w' => ∃ t, e = .returned t ∧ Own w.heap.size 5 w' t (ints .u8 (coctL n c)) ∧ Below w.heap.size w w' := by
  have hH := rHas_any n c w h1 h2
  rw [coctL]
  cases hh : hasB n c with
  | false =>
    rw [hh] at hH
    have HH := Lib.hid hH; clear hH hh
    go_enter Tryd.func31, Tryd.ntmps31
    go_wp2_with (go_at_call 47; refine (HH.out).mono ?_; rintro e w1 ⟨rfl, hb1⟩)
    go_ret
    exact ⟨_, rfl, Own.nil _ _ _, hb1⟩
  | true =>
    rw [hh] at hH
    rw [if_pos rfl]
    have HH := Lib.hid hH; clear hH
    have hn : 1 ≤ n ∧ n ≤ 5 := Decidable.byContradiction fun h9 => by rw [hasB_not c h9] at hh; cases hh
    rcases (by omega : n = 1 ∨ n = 2 ∨ n = 3 ∨ n = 4 ∨ n = 5) with rfl | rfl | rfl | rfl | rfl
    · have hc := of_decide_eq_true (show decide (0 ≤ c ∧ c < 128) = true from hh)
      have hw : IntKind.u8.wrap c = c := by rw [IntKind.wrap_u8]; omega
      have hc0 := hc.1
      have hc1 : c < 256 := by omega
      rw [show coct 1 c = [c] from rfl]
      clear hh hn hc
      go_enter Tryd.func31, Tryd.ntmps31
      go_wp2_with (go_at_call 47; refine (HH.out).mono ?_; rintro e w1 ⟨rfl, hb1⟩)
      go_ret
      exact ⟨_, rfl, one_own c hb1.size, hb1.alloc hb1.size _⟩
    · have hP := fun w => rPut8V_any c w hh
      rw [show coct 2 c = [c] from rfl]
      have HP := Lib.hid hP
      clear hh hn hP
      go_enter Tryd.func31, Tryd.ntmps31
      go_wp2_with (first | (go_at_call 47; refine (HH.out).mono ?_; rintro e w1 ⟨rfl, hb1⟩) | (go_at_call 48; refine (HP.out _).mono ?_; rintro e w' ⟨rfl, hw⟩; obtain rfl := hw.symm))
      go_ret
      exact ⟨_, rfl, one_own c hb1.size, hb1.alloc hb1.size _⟩
    · have hP := fun w => rPut9V_any c w hh
      rw [show coct 3 c = [oct9 c] from rfl]
      generalize oct9 c = y at *
      have HP := Lib.hid hP
      clear hh hn hP
      go_enter Tryd.func31, Tryd.ntmps31
      go_wp2_with (first | (go_at_call 47; refine (HH.out).mono ?_; rintro e w1 ⟨rfl, hb1⟩) | (go_at_call 49; refine (HP.out _).mono ?_; rintro e w' ⟨rfl, hw⟩; obtain rfl := hw.symm))
      go_ret
      exact ⟨_, rfl, one_own y hb1.size, hb1.alloc hb1.size _⟩
    · have hP := fun w => rwPut_any c w h1 h2
      rw [show coct 4 c = [(wput c).1] from rfl]
      generalize (wput c).1 = y at *
      generalize (wput c).2 = q at *
      have HP := Lib.hid hP
      clear hh hn hP
      go_enter Tryd.func31, Tryd.ntmps31
      go_wp2_with (first | (go_at_call 47; refine (HH.out).mono ?_; rintro e w1 ⟨rfl, hb1⟩) | (go_at_call 50; refine (HP.out _).mono ?_; rintro e w2 ⟨rfl, hb2⟩; have hb12 := below_trans hb1 hb2))
      go_ret
      exact ⟨_, rfl, one_own y hb12.size, hb12.alloc hb12.size _⟩
    · have hP := fun w => roct_any c w h1 h2
      rw [show coct 5 c = octs c from rfl]
      have HP := Lib.hid hP
      clear hh hn hP
      go_enter Tryd.func31, Tryd.ntmps31
      go_wp2_with (first | (go_at_call 47; refine (HH.out).mono ?_; rintro e w1 ⟨rfl, hb1⟩) | (go_at_call 51; refine (HP.out _).mono ?_; rintro e w2 ⟨t2, rfl, ho2, hb2⟩; have hb12 := below_trans hb1 hb2))
      go_ret
      exact ⟨_, rfl, ho2.mono hb1.size, hb12⟩
theorem octs_ne {c : Int} (h : scB c = true) : 0 < (octs c).length := by
  obtain ⟨a, r, e⟩ := octs_cons h
  rw [e]; simp
theorem coct_ne {n c : Int} (h : hasB n c = true) : 0 < (coct n c).length := by
  unfold coct; split
  · rename_i h5; subst h5; exact octs_ne h
  · simp
theorem all_take {f : Int → Bool} {xs : List Int} {k : Nat} {x : Int} (h : (xs.take k).all f = true) (hx : xs[k]? = some x) (hf : f x = true) : (xs.take (k + 1)).all f = true := by
  rw [List.take_add_one, hx, List.all_append, h]; simp [hf]
set_option maxRecDepth 100000 in
theorem rLay13_any (n : Int) (v : Value) (xs : List Int) (w : World) (h : Row w v (ints .i32 xs)) (hr : R32 xs) (hl : xs.length ≤ 1000000) :
    Calls Tryd.prog 15 #[.int .i64 n, v] w fun e w' => ∃ t, e = .returned (.tuple #[t, .int .i64 (claE n xs)]) ∧ Own w.heap.size 5 w' t (ints .u8 (claY n xs)) ∧ Below w.heap.size w w' := by
  obtain ⟨a, b, off, cp, rfl, HC⟩ := id h.op
  by_cases hn : 1 ≤ n ∧ n ≤ 5
  · have hno := fun (hx : xs.all (hasB n) = false) => cla_char hn hx
    have hye := fun (hx : (xs.take xs.length).all (hasB n) = true) => cla_yes hn (t := xs) (by rwa [List.take_length] at hx)
    have hll : claL n (xs.take xs.length) = claL n xs := by rw [List.take_length]
    have hbad := fun k x (hx : xs[k]? = some x) (hh : hasB n x = false) => show xs.all (hasB n) = false from by
      cases ha : xs.all (hasB n) with
      | false => rfl
      | true => rw [all_get ha hx] at hh; cases hh
    generalize claY n xs = Y at *
    generalize claE n xs = E at *
    have hn1 := hn.1
    have hn5 := hn.2
    have HNO := Lib.hid hno; have HYE := Lib.hid hye; have HLL := Lib.hid hll; have HBAD := Lib.hid hbad
    clear hno hye hll hbad hn
    go_enter Tryd.func15, Tryd.ntmps15
    go_wp2
    go_loopw [6, 7] (fun u i wr => ∃ k : Nat, i = .int .i64 k ∧ k ≤ xs.length ∧ Hid ((xs.take k).all (hasB n) = true) ∧ Own w.heap.size 5 wr u (ints .u8 (claL n (xs.take k))) ∧ Below w.heap.size w wr) (fun _ i _ => xs.length - (intOf i).toNat)
    case atStart => exact ⟨0, rfl, Nat.zero_le _, (rfl : (xs.take 0).all (hasB n) = true), Own.nil _ _ _, Below.refl _ _⟩
    case round =>
      obtain ⟨k, rfl, hk, HT, hown, hb⟩ := hrel
      by_cases hlt : k < xs.length
      · obtain ⟨x, HX, rfl, hc⟩ := HC.out k hlt
        replace hc := hc wr hb
        have hcr := hr.get HX.out
        have hO := roct13_any n x wr hcr.1 hcr.2
        rw [coctL] at hO
        cases hh : hasB n x with
        | false =>
          rw [hh] at hO
          obtain ⟨rfl, rfl⟩ := HNO.out (HBAD.out k x HX.out hh)
          have HO := Lib.hid hO; clear hO hh
          go_wp2_with (go_at_call 31; refine (HO.out).mono ?_; rintro e w1 ⟨t1, rfl, ho1, hb1⟩; obtain ⟨a1, c1, rfl⟩ := ho1.row.formN0 (n := 0) rfl)
          go_ret2
          exact ⟨_, rfl, Own.nil _ _ _, below_trans hb hb1⟩
        | true =>
          rw [hh, if_pos rfl] at hO
          have HT2 := Lib.hid (all_take HT.out HX.out hh)
          have HSN := Lib.hid (claL_snoc (n := n) HX.out)
          have hne := coct_ne hh
          have hcl := coct_len n x
          have HLN : Hid ((ints .u8 (claL n (xs.take k))).length + (ints .u8 (coct n x)).length ≤ 1000000000) := by
            have := claL_len n (xs.take k); rw [List.length_take] at this; show _ ≤ _; simp only [ints_length]; omega
          generalize coct n x = d at *
          have hd0 : ¬ ((d.length : Int) = 0) := by omega
          have hd1 : ((d.length : Int) == 0) = false := beq_false_of_ne hd0
          have HO := Lib.hid hO; clear hO hh
          go_wp2_with (first | (go_at_call 31; refine (HO.out).mono ?_; rintro e w1 ⟨t1, rfl, ho1, hb1⟩; obtain ⟨a1, c1, rfl⟩ := ho1.row.formN0 (n := d.length) (ints_length _ _); have hb01 := below_trans hb hb1; have hown1 := hown.below hb1) | (at_builtin; refine wpList_app slT_u8 _ _ _ rfl rfl rfl rfl hown1 ho1.row HLN.out hb01.size ?_; intro t3 w3 hown3 hg3))
          have hb3 := below_own hb01 hown1 hg3 hb01.size (Nat.le_refl _)
          rw [← ints_append] at hown3
          go_roundw
          case rel => exact ⟨k + 1, by go_num, by omega, HT2, by rw [HSN.out]; exact hown3, hb3⟩
          case measure => simp [intOf]; omega
      · obtain rfl : k = xs.length := by omega
        obtain ⟨rfl, rfl⟩ := HYE.out HT.out
        rw [HLL.out] at hown
        go_wp2
        go_ret2
        exact ⟨_, rfl, hown, hb⟩
  · rw [(cla_no xs hn).1, (cla_no xs hn).2]
    by_cases h1 : n < 1
    · clear hn
      go_enter Tryd.func15, Tryd.ntmps15
      go_wp2
      go_ret2
      exact ⟨_, rfl, Own.nil _ _ _, Below.refl _ _⟩
    · have h5 : 5 < n := by omega
      clear hn
      go_enter Tryd.func15, Tryd.ntmps15
      go_wp2
      go_ret2
      exact ⟨_, rfl, Own.nil _ _ _, Below.refl _ _⟩
theorem sgn_o {n : Int} (x : Int) (h1 : n ≠ 1) (h3 : n ≠ 3) (h4 : n ≠ 4) : sgn n x = x := by rw [sgn, if_neg h1, if_neg h3, if_neg h4]
end Go.Proofs.YtponfaglflmnkaaDoor
namespace Go.Proofs.YtponfaglflmnkaaDoor
open Go.RowKit
set_option maxHeartbeats 2000000
theorem alive13_facts : creadL 1 [255] = [65533] ∧ creadL 9 [255] = [255] ∧ claE 5 (creadL 2 [233]) = 0 ∧ claY 5 (creadL 2 [233]) = [195, 169] ∧ claE 9 [] = 10 ∧ claY 9 [] = [] := by decide +kernel
theorem one_cell {w : World} {v : Value} {x : Int} (h : Row w v (ints .i32 [x])) : ∃ b off cap, v = .slice (some ⟨b, off, none⟩) 1 cap ∧ Hid (∀ w', Below w.heap.size w w' → w'.cell? ⟨b, off, none⟩ = some (.int .i32 x)) := by
  obtain ⟨a, b, off, cap, he, hc⟩ := h.op
  obtain ⟨y, hy, rfl, hc⟩ := hc.out 0 (by simp)
  obtain rfl : x = y := Option.some.inj hy.out
  exact ⟨b, off, cap, he, hc⟩
set_option maxRecDepth 100000 in
theorem alive13_any (w : World) : Calls Tryd.prog 4 #[] w fun e w' => e = .returned (.bool true) ∧ Below w.heap.size w w' := by
  obtain ⟨k1, k2, k3, k4, k5, k6⟩ := alive13_facts
  have hA := fun v w' h' => cRead_any 1 v [255] w' h' (by intro x hx; simp at hx; omega) (by simp)
  have hB := fun v w' h' => cRead_any 9 v [255] w' h' (by intro x hx; simp at hx; omega) (by simp)
  have hC := fun v w' h' => cMove_any 2 5 v [233] w' h' (by intro x hx; simp at hx; omega) (by simp)
  have hD := fun v w' h' => cLay_any 9 v [] w' h' (by intro x hx; simp at hx) (by intro x hx; simp at hx) (by simp)
  rw [k1] at hA; rw [k2] at hB; rw [k3, k4] at hC; rw [k5, k6] at hD
  clear k1 k2 k3 k4 k5 k6
  have HA := Lib.hid hA; have HB := Lib.hid hB; have HC := Lib.hid hC; have HD := Lib.hid hD
  clear hA hB hC hD
  have hb := Below.refl w.heap.size w
  go_enter Tryd.func4, Tryd.ntmps4
  go_wp2_with fail
  refine (HA.out _ _ (Row.flit _ [_] rfl (by simp))).mono ?_
  rintro e w1 ⟨t1, rfl, ho1, hb1⟩
  replace hb := (by first | exact below_trans hb hb1 | exact below_trans (hb.alloc hb.size _) hb1 | exact below_trans ((hb.alloc hb.size _).alloc (hb.alloc hb.size _).size _) hb1 : Below w.heap.size w _)
  have r1 := ho1.row
  clear ho1 hb1
  go_wp2_with fail
  refine (HB.out _ _ (Row.flit _ [_] rfl (by simp))).mono ?_
  rintro e w2 ⟨t2, rfl, ho2, hb2⟩
  replace hb := (by first | exact below_trans hb hb2 | exact below_trans (hb.alloc hb.size _) hb2 | exact below_trans ((hb.alloc hb.size _).alloc (hb.alloc hb.size _).size _) hb2 : Below w.heap.size w _)
  replace r1 := (r1.alloc _).below hb2
  have r2 := ho2.row
  clear ho2 hb2
  go_wp2_with fail
  refine (HC.out _ _ (Row.flit _ [_] rfl (by simp))).mono ?_
  rintro e w3 ⟨t3, rfl, ho3, hb3⟩
  replace hb := (by first | exact below_trans hb hb3 | exact below_trans (hb.alloc hb.size _) hb3 | exact below_trans ((hb.alloc hb.size _).alloc (hb.alloc hb.size _).size _) hb3 : Below w.heap.size w _)
  replace r1 := (r1.alloc _).below hb3
  replace r2 := (r2.alloc _).below hb3
  have r3 := ho3.row
  clear ho3 hb3
  go_wp2_with fail
  refine (HD.out _ _ (Row.nil _)).mono ?_
  rintro e w4 ⟨t4, rfl, ho4, hb4⟩
  replace hb := (by first | exact below_trans hb hb4 | exact below_trans (hb.alloc hb.size _) hb4 | exact below_trans ((hb.alloc hb.size _).alloc (hb.alloc hb.size _).size _) hb4 : Below w.heap.size w _)
  replace r1 := r1.below hb4
  replace r2 := r2.below hb4
  replace r3 := r3.below hb4
  clear ho4 hb4
  obtain ⟨b1, o1, c1, rfl, hc1⟩ := one_cell r1
  obtain ⟨b2, o2, c2, rfl, hc2⟩ := one_cell r2
  obtain ⟨a3, c3, rfl⟩ := r3.formN0 (n := 2) rfl
  have cv3 : (convert 24 9 (.slice a3 2 c3)).run Tryd.prog w4 = .ok (.string ⟨#[195, 169]⟩) w4 := rowstr2 _ r3
  have f1 := hc1.out w4 (Below.refl _ _)
  have f2 := hc2.out w4 (Below.refl _ _)
  clear r1 r2 r3 hc1 hc2
  go_wp2
  go_ret
  exact ⟨rfl, hb⟩
theorem cback {n : Int} {ts : List Int} : (claE n ts = 0 ∧ creadL n (claY n ts) = ts ∧ cexB n (claY n ts) = true) ∨ (claE n ts ≠ 0 ∧ claY n ts = []) := by
  by_cases hn : 1 ≤ n ∧ n ≤ 5
  · cases ha : ts.all (hasB n) with
    | false => rw [(cla_char hn ha).1, (cla_char hn ha).2]; exact .inr ⟨by decide, rfl⟩
    | true =>
      have h1 := cla_yes hn ha
      have h2 := cread_lay hn.1 hn.2 ha
      refine .inl ⟨h1.2, by rw [h1.1, h2], ?_⟩
      rw [cexB, h1.1, h2, h1.1, h1.2]
      simp
  · rw [(cla_no ts hn).1, (cla_no ts hn).2]; exact .inr ⟨by decide, rfl⟩
end Go.Proofs.YtponfaglflmnkaaDoor
namespace Go.Proofs.YtponfaglflmnkaaDoor
open Go.RowKit
set_option maxHeartbeats 2000000
def autN (xs : List Int) : Int := if noneL (fN xs) = 0 then lowL (fN xs) else 0
def autY (xs : List Int) : List Int := if noneL (fN xs) = 0 then claY (lowL (fN xs)) xs else []
theorem aut_case (xs : List Int) : (noneL (fN xs) = 0 ∧ claE (lowL (fN xs)) xs = 0 ∧ creadL (lowL (fN xs)) (claY (lowL (fN xs)) xs) = xs ∧ cexB (lowL (fN xs)) (claY (lowL (fN xs)) xs) = true) ∨ noneL (fN xs) ≠ 0 := by
  rcases Decidable.em (noneL (fN xs) = 0) with h | h
  · have hp : 0 < lowL (fN xs) := Decidable.byContradiction fun h9 => by
      have : lowL (fN xs) = 0 := by have := low_rng (fN xs); omega
      rw [noneL, if_pos this] at h; exact absurd h (by decide)
    have ha : xs.all (hasB (lowL (fN xs))) = true := low_at (f := fN xs) (by omega)
    have hr := low_rng (fN xs)
    have hn : 1 ≤ lowL (fN xs) ∧ lowL (fN xs) ≤ 5 := by omega
    rcases cback (n := lowL (fN xs)) (ts := xs) with ⟨h1, h2, h3⟩ | ⟨h1, h2⟩
    · exact .inl ⟨h, h1, h2, h3⟩
    · exact absurd (cla_yes hn ha).2 h1
  · exact .inr h
set_option maxRecDepth 100000 in
theorem cAuto_any (v : Value) (xs : List Int) (w : World) (hT : Tz w) (h : Row w v (ints .i32 xs)) (hg : R32 xs) (hw : WF .i32 xs) (hl : xs.length ≤ 1000000) :
    Calls Tryd.prog 5 #[v] w fun e w' => ∃ t, e = .returned (.tuple #[.int .i64 (autN xs), t, .int .i64 (noneL (fN xs))]) ∧ Own w.heap.size 5 w' t (ints .u8 (autY xs)) ∧ Below w.heap.size w w' := by
  have hS := pSelect_any v xs w hT h hg hl
  rcases aut_case xs with ⟨h0, h1, _, _⟩ | h0
  · have hL := fun w' h' => cLay_any (lowL (fN xs)) v xs w' h' hg hw hl
    rw [autN, autY, if_pos h0, if_pos h0]
    rw [h0] at hS ⊢
    rw [h1] at hL
    generalize claY (lowL (fN xs)) xs = Y at *
    generalize lowL (fN xs) = l at *
    have HS := Lib.hid hS; have HL := Lib.hid hL; clear hS hL h0 h1 hT
    have hb := Below.refl w.heap.size w
    go_enter Tryd.func5, Tryd.ntmps5
    go_wp2_with fail
    refine (HS.out).mono ?_
    rintro e w1 ⟨rfl, hb1⟩
    replace hb := (by first | exact below_trans hb hb1 | exact below_trans (hb.alloc hb.size _) hb1 | exact below_trans ((hb.alloc hb.size _).alloc (hb.alloc hb.size _).size _) hb1 : Below w.heap.size w _)
    go_wp2_with fail
    refine (HL.out _ (h.below hb1)).mono ?_
    rintro e w2 ⟨t2, rfl, ho2, hb2⟩
    replace hb := (by first | exact below_trans hb hb2 | exact below_trans (hb.alloc hb.size _) hb2 | exact below_trans ((hb.alloc hb.size _).alloc (hb.alloc hb.size _).size _) hb2 : Below w.heap.size w _)
    go_wp2
    go_ret3
    exact ⟨_, rfl, ho2.mono hb1.size, hb⟩
  · rw [autN, autY, if_neg h0, if_neg h0]
    generalize lowL (fN xs) = l at *
    generalize noneL (fN xs) = q at *
    have HS := Lib.hid hS; clear hS hT
    have hb := Below.refl w.heap.size w
    go_enter Tryd.func5, Tryd.ntmps5
    go_wp2_with fail
    refine (HS.out).mono ?_
    rintro e w1 ⟨rfl, hb1⟩
    replace hb := (by first | exact below_trans hb hb1 | exact below_trans (hb.alloc hb.size _) hb1 | exact below_trans ((hb.alloc hb.size _).alloc (hb.alloc hb.size _).size _) hb1 : Below w.heap.size w _)
    go_wp2
    go_ret3
    exact ⟨_, rfl, Own.nil _ _ _, hb⟩
set_option maxRecDepth 100000 in
theorem rAuto_any (v : Value) (xs : List Int) (w : World) (h : Row w v (ints .i32 xs)) (hg : R32 xs) (hl : xs.length ≤ 1000000) :
    Calls Tryd.prog 6 #[v] w fun e w' => ∃ t, e = .returned (.tuple #[.int .i64 (autN xs), t, .int .i64 (noneL (fN xs))]) ∧ Own w.heap.size 5 w' t (ints .u8 (autY xs)) ∧ Below w.heap.size w w' := by
  have hS := rSelect_any v xs w h hg hl
  rcases aut_case xs with ⟨h0, h1, _, _⟩ | h0
  · have hL := fun w' h' => rLay13_any (lowL (fN xs)) v xs w' h' hg hl
    rw [autN, autY, if_pos h0, if_pos h0]
    rw [h0] at hS ⊢
    rw [h1] at hL
    generalize claY (lowL (fN xs)) xs = Y at *
    generalize lowL (fN xs) = l at *
    have HS := Lib.hid hS; have HL := Lib.hid hL; clear hS hL h0 h1
    have hb := Below.refl w.heap.size w
    go_enter Tryd.func6, Tryd.ntmps6
    go_wp2_with fail
    refine (HS.out).mono ?_
    rintro e w1 ⟨rfl, hb1⟩
    replace hb := (by first | exact below_trans hb hb1 | exact below_trans (hb.alloc hb.size _) hb1 | exact below_trans ((hb.alloc hb.size _).alloc (hb.alloc hb.size _).size _) hb1 : Below w.heap.size w _)
    go_wp2_with fail
    refine (HL.out _ (h.below hb1)).mono ?_
    rintro e w2 ⟨t2, rfl, ho2, hb2⟩
    replace hb := (by first | exact below_trans hb hb2 | exact below_trans (hb.alloc hb.size _) hb2 | exact below_trans ((hb.alloc hb.size _).alloc (hb.alloc hb.size _).size _) hb2 : Below w.heap.size w _)
    go_wp2
    go_ret3
    exact ⟨_, rfl, ho2.mono hb1.size, hb⟩
  · rw [autN, autY, if_neg h0, if_neg h0]
    generalize lowL (fN xs) = l at *
    generalize noneL (fN xs) = q at *
    have HS := Lib.hid hS; clear hS
    have hb := Below.refl w.heap.size w
    go_enter Tryd.func6, Tryd.ntmps6
    go_wp2_with fail
    refine (HS.out).mono ?_
    rintro e w1 ⟨rfl, hb1⟩
    replace hb := (by first | exact below_trans hb hb1 | exact below_trans (hb.alloc hb.size _) hb1 | exact below_trans ((hb.alloc hb.size _).alloc (hb.alloc hb.size _).size _) hb1 : Below w.heap.size w _)
    go_wp2
    go_ret3
    exact ⟨_, rfl, Own.nil _ _ _, hb⟩
set_option maxRecDepth 100000 in
theorem CodecAuto_walk (v : Value) (xs : List Int) (w : World) (hT : Tz w) (h : Row w v (ints .i32 xs)) (g : WF .i32 xs) :
    Calls Tryd.prog 3 #[v] w fun e w' => e = .returned (.bool true) ∧ Below w.heap.size w w' := by
  obtain ⟨a, b, off, cap, rfl, _⟩ := id h.op
  have hb := Below.refl w.heap.size w
  by_cases hl : xs.length ≤ 100
  · have hgx : R32 xs := fun x hx => wf_i32 (g x hx)
    have hA := fun w' hT' h' => cAuto_any (.slice a xs.length cap) xs w' hT' h' hgx g (by omega)
    have hB := fun w' h' => rAuto_any (.slice a xs.length cap) xs w' h' hgx (by omega)
    have hY : (autY xs).length ≤ 400 := by
      unfold autY; split
      · have := claY_len (lowL (fN xs)) xs; omega
      · simp
    rcases aut_case xs with ⟨h0, h1, h2, h3⟩ | h0
    · have hYr := claY_rng (lowL (fN xs)) xs
      have hY2 := claY_len (lowL (fN xs)) xs
      have hC := fun v w' h' => cRead_any (lowL (fN xs)) v (claY (lowL (fN xs)) xs) w' h' hYr (by omega)
      have hD := fun v w' h' => cExact_any (lowL (fN xs)) v (claY (lowL (fN xs)) xs) w' h' hYr (by omega)
      rw [h2] at hC; rw [h3] at hD
      have e1 : autN xs = lowL (fN xs) := if_pos h0
      have e2 : autY xs = claY (lowL (fN xs)) xs := if_pos h0
      rw [e1, e2, h0] at hA hB
      rw [e2] at hY
      clear e1 e2 h0 h1 h2 h3 hYr hY2
      generalize claY (lowL (fN xs)) xs = Y at *
      generalize lowL (fN xs) = l at *
      have HA := Lib.hid hA; have HB := Lib.hid hB; have HC := Lib.hid hC; have HD := Lib.hid hD; have HY := Lib.hid hY
      clear hA hB hC hD hY
      have hrow := h
      go_enter Tryd.func3, Tryd.ntmps3
      go_wp2_with fail
      refine (HA.out _ hT hrow).mono ?_
      rintro e w1 ⟨t1, rfl, ho1, hb1⟩
      replace hb := (by first | exact below_trans hb hb1 | exact below_trans (hb.alloc hb.size _) hb1 | exact below_trans ((hb.alloc hb.size _).alloc (hb.alloc hb.size _).size _) hb1 : Below w.heap.size w _)
      replace hrow := hrow.below hb1
      have r1 := ho1.row
      clear ho1 hb1
      go_wp2_with fail
      refine (HB.out _ hrow).mono ?_
      rintro e w2 ⟨t2, rfl, ho2, hb2⟩
      replace hb := (by first | exact below_trans hb hb2 | exact below_trans (hb.alloc hb.size _) hb2 | exact below_trans ((hb.alloc hb.size _).alloc (hb.alloc hb.size _).size _) hb2 : Below w.heap.size w _)
      replace hrow := hrow.below hb2
      replace r1 := r1.below hb2
      have r2 := ho2.row
      clear ho2 hb2
      go_wp2_with fail
      refine (like1_any _ _ Y Y _ r1 r2 (by have := HY.out; omega) (by have := HY.out; omega)).mono ?_
      rintro e w3 ⟨rfl, hb3⟩
      replace hb := (by first | exact below_trans hb hb3 | exact below_trans (hb.alloc hb.size _) hb3 | exact below_trans ((hb.alloc hb.size _).alloc (hb.alloc hb.size _).size _) hb3 : Below w.heap.size w _)
      rw [decide_eq_true rfl]
      replace hrow := hrow.below hb3
      replace r1 := r1.below hb3
      clear r2 hb3
      go_wp2_with fail
      refine (HC.out _ _ r1).mono ?_
      rintro e w4 ⟨t4, rfl, ho4, hb4⟩
      replace hb := (by first | exact below_trans hb hb4 | exact below_trans (hb.alloc hb.size _) hb4 | exact below_trans ((hb.alloc hb.size _).alloc (hb.alloc hb.size _).size _) hb4 : Below w.heap.size w _)
      replace hrow := hrow.below hb4
      replace r1 := r1.below hb4
      have r4 := ho4.row
      clear ho4 hb4
      go_wp2_with fail
      refine (like3_any _ _ xs xs _ r4 hrow (by omega) (by omega)).mono ?_
      rintro e w5 ⟨rfl, hb5⟩
      replace hb := (by first | exact below_trans hb hb5 | exact below_trans (hb.alloc hb.size _) hb5 | exact below_trans ((hb.alloc hb.size _).alloc (hb.alloc hb.size _).size _) hb5 : Below w.heap.size w _)
      rw [decide_eq_true rfl]
      replace r1 := r1.below hb5
      clear r4 hb5 hrow
      go_wp2_with fail
      refine (HD.out _ _ r1).mono ?_
      rintro e w6 ⟨rfl, hb6⟩
      replace hb := (by first | exact below_trans hb hb6 | exact below_trans (hb.alloc hb.size _) hb6 | exact below_trans ((hb.alloc hb.size _).alloc (hb.alloc hb.size _).size _) hb6 : Below w.heap.size w _)
      clear r1 hb6
      go_wp2_with fail
      refine (alive13_any _).mono ?_
      rintro e w7 ⟨rfl, hb7⟩
      replace hb := (by first | exact below_trans hb hb7 | exact below_trans (hb.alloc hb.size _) hb7 | exact below_trans ((hb.alloc hb.size _).alloc (hb.alloc hb.size _).size _) hb7 : Below w.heap.size w _)
      go_wp2
      go_ret
      exact ⟨rfl, hb⟩
    · generalize autY xs = Y at *
      generalize autN xs = l at *
      generalize noneL (fN xs) = q at *
      have bq := beqs q 0 h0
      have HA := Lib.hid hA; have HB := Lib.hid hB; have HY := Lib.hid hY
      clear hA hB hY
      have hrow := h
      go_enter Tryd.func3, Tryd.ntmps3
      go_wp2_with fail
      refine (HA.out _ hT hrow).mono ?_
      rintro e w1 ⟨t1, rfl, ho1, hb1⟩
      replace hb := (by first | exact below_trans hb hb1 | exact below_trans (hb.alloc hb.size _) hb1 | exact below_trans ((hb.alloc hb.size _).alloc (hb.alloc hb.size _).size _) hb1 : Below w.heap.size w _)
      replace hrow := hrow.below hb1
      have r1 := ho1.row
      clear ho1 hb1
      go_wp2_with fail
      refine (HB.out _ hrow).mono ?_
      rintro e w2 ⟨t2, rfl, ho2, hb2⟩
      replace hb := (by first | exact below_trans hb hb2 | exact below_trans (hb.alloc hb.size _) hb2 | exact below_trans ((hb.alloc hb.size _).alloc (hb.alloc hb.size _).size _) hb2 : Below w.heap.size w _)
      replace r1 := r1.below hb2
      have r2 := ho2.row
      clear ho2 hb2 hrow
      go_wp2_with fail
      refine (like1_any _ _ Y Y _ r1 r2 (by have := HY.out; omega) (by have := HY.out; omega)).mono ?_
      rintro e w3 ⟨rfl, hb3⟩
      replace hb := (by first | exact below_trans hb hb3 | exact below_trans (hb.alloc hb.size _) hb3 | exact below_trans ((hb.alloc hb.size _).alloc (hb.alloc hb.size _).size _) hb3 : Below w.heap.size w _)
      rw [decide_eq_true rfl]
      clear r1 r2 hb3
      go_wp2_with fail
      refine (alive13_any _).mono ?_
      rintro e w7 ⟨rfl, hb7⟩
      replace hb := (by first | exact below_trans hb hb7 | exact below_trans (hb.alloc hb.size _) hb7 | exact below_trans ((hb.alloc hb.size _).alloc (hb.alloc hb.size _).size _) hb7 : Below w.heap.size w _)
      go_wp2
      go_ret
      exact ⟨rfl, hb⟩
  · go_enter Tryd.func3, Tryd.ntmps3
    go_wp2_with (go_at_call 4; refine (alive13_any _).mono ?_; rintro e w7 ⟨rfl, hb7⟩)
    go_ret
    exact ⟨rfl, hb7⟩
end Go.Proofs.YtponfaglflmnkaaDoor
namespace Go.Proofs.YtponfaglflmnkaaDoor
open Go.RowKit
set_option maxRecDepth 100000
def laid2 : List (String × DataW Unit) := [("math/bits.deBruijn32tab", Rows.laid_math_bits_deBruijn32tab), ("math/bits.deBruijn64tab", Rows.laid_math_bits_deBruijn64tab)]
theorem gT : Tryd.prog.globalNamed "math/bits.deBruijn64tab" = some 1 := by kernel_rfl
theorem gTType : (Tryd.prog.globals[1]?).map (·.type) = some 83 := by kernel_rfl
theorem door_met (os : Os) (args : Array Value) : laidMetH Tryd.prog laid2 ((World.doorLaid Tryd.prog 400 os).forCall (fun _ _ => 0) ⟨#[], args, []⟩).memory :=
  laidMetH_of_parts3 (fuel := 8) (laidMet_of_run' 8 (by kernel_rfl) (by kernel_rfl)) (by kernel_rfl) (by kernel_rfl)
theorem of_laid {W : World} (h : laidMetH Tryd.prog laid2 W) : Tz W := by
  rw [MakeChecks.laidMetH_plain _ _ _ (by kernel_rfl)] at h
  have h2 := laidMet.tail h
  have hT := Lib.tabIs_of_head (k := .u8) (zs := tab64) (rest := []) gT gTType Tryd.underlying83 Tryd.underlying5 (by kernel_rfl) (by kernel_rfl) h2
  exact fun i hi => hT.cell gT i hi
end Go.Proofs.YtponfaglflmnkaaDoor
