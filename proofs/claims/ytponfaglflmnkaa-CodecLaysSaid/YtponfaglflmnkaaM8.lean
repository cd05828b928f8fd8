/- Walks: codecs, by the reference. · The statements of layer 13, walked. (laid together by program out of single texts). -/
import Derived.Test.YtponfaglflmnkaaM1
import Derived.Test.YtponfaglflmnkaaM2
import Derived.Test.YtponfaglflmnkaaM4
import Derived.Test.YtponfaglflmnkaaM6
import Derived.Test.YtponfaglflmnkaaM7
namespace Go.Proofs.Ytponfaglflmnkaa
open Go.RowKit
set_option maxHeartbeats 2000000
theorem one_own {w : World} {B : Nat} (x : Int) (hB : B ≤ w.heap.size) : Own B 5 (w.alloc (.cells #[.int .u8 x] 5)) (.slice (some ⟨w.heap.size, 0, none⟩) 1 1) (ints .u8 [x]) := Own.ilit [x] [_] rfl hB (by simp)
theorem roct13_any (n c : Int) (w : World) (h1 : -2147483648 ≤ c) (h2 : c ≤ 2147483647) :
    Calls Try.prog 22 #[.int .i64 n, .int .i32 c] w fun e w' => ∃ t, e = .returned t ∧ Own w.heap.size 5 w' t (ints .u8 (coctL n c)) ∧ Below w.heap.size w w' := by
  have hH := rHas_any n c w h1 h2
  rw [coctL]
  cases hh : hasB n c with
  | false =>
    rw [hh] at hH
    have HH := Lib.hid hH; clear hH hh
    go_enter Try.func22, Try.ntmps22
    go_wp2_with (go_at_call 39; refine (HH.out).mono ?_; rintro e w1 ⟨rfl, hb1⟩)
    go_ret
    exact ⟨_, rfl, Own.nil _ _ _, hb1⟩
  | true =>
    rw [hh] at hH
    rw [if_pos rfl]
    have HH := Lib.hid hH; clear hH
    have hn : 1 ≤ n ∧ n ≤ 5 := Decidable.byContradiction fun h9 => by rw [hasB_not c h9] at hh; cases hh
    rcases (by omega : n = 1 ∨ n = 2 ∨ n = 3 ∨ n = 4 ∨ n = 5) with rfl | rfl | rfl | rfl | rfl
    · have hc := of_decide_eq_true (show decide (0 ≤ c ∧ c < 128) = true from hh)
      have hw : IntKind.u8.wrap c = c := by rw [IntKind.wrap_u8]; omega
      have hc0 := hc.1
      have hc1 : c < 256 := by omega
      rw [show coct 1 c = [c] from rfl]
      clear hh hn hc
      go_enter Try.func22, Try.ntmps22
      go_wp2_with (go_at_call 39; refine (HH.out).mono ?_; rintro e w1 ⟨rfl, hb1⟩)
      go_ret
      exact ⟨_, rfl, one_own c hb1.size, hb1.alloc hb1.size _⟩
    · have hP := fun w => rPut8V_any c w hh
      rw [show coct 2 c = [c] from rfl]
      have HP := Lib.hid hP
      clear hh hn hP
      go_enter Try.func22, Try.ntmps22
      go_wp2_with (first | (go_at_call 39; refine (HH.out).mono ?_; rintro e w1 ⟨rfl, hb1⟩) | (go_at_call 40; refine (HP.out _).mono ?_; rintro e w' ⟨rfl, hw⟩; obtain rfl := hw.symm))
      go_ret
      exact ⟨_, rfl, one_own c hb1.size, hb1.alloc hb1.size _⟩
    · have hP := fun w => rPut9V_any c w hh
      rw [show coct 3 c = [oct9 c] from rfl]
      generalize oct9 c = y at *
      have HP := Lib.hid hP
      clear hh hn hP
      go_enter Try.func22, Try.ntmps22
      go_wp2_with (first | (go_at_call 39; refine (HH.out).mono ?_; rintro e w1 ⟨rfl, hb1⟩) | (go_at_call 41; refine (HP.out _).mono ?_; rintro e w' ⟨rfl, hw⟩; obtain rfl := hw.symm))
      go_ret
      exact ⟨_, rfl, one_own y hb1.size, hb1.alloc hb1.size _⟩
    · have hP := fun w => rwPut_any c w h1 h2
      rw [show coct 4 c = [(wput c).1] from rfl]
      generalize (wput c).1 = y at *
      generalize (wput c).2 = q at *
      have HP := Lib.hid hP
      clear hh hn hP
      go_enter Try.func22, Try.ntmps22
      go_wp2_with (first | (go_at_call 39; refine (HH.out).mono ?_; rintro e w1 ⟨rfl, hb1⟩) | (go_at_call 42; refine (HP.out _).mono ?_; rintro e w2 ⟨rfl, hb2⟩; have hb12 := below_trans hb1 hb2))
      go_ret
      exact ⟨_, rfl, one_own y hb12.size, hb12.alloc hb12.size _⟩
    · have hP := fun w => roct_any c w h1 h2
      rw [show coct 5 c = octs c from rfl]
      have HP := Lib.hid hP
      clear hh hn hP
      go_enter Try.func22, Try.ntmps22
      go_wp2_with (first | (go_at_call 39; refine (HH.out).mono ?_; rintro e w1 ⟨rfl, hb1⟩) | (go_at_call 43; refine (HP.out _).mono ?_; rintro e w2 ⟨t2, rfl, ho2, hb2⟩; have hb12 := below_trans hb1 hb2))
      go_ret
      exact ⟨_, rfl, ho2.mono hb1.size, hb12⟩
theorem rLen13_any (n c : Int) (w : World) (h1 : -2147483648 ≤ c) (h2 : c ≤ 2147483647) :
    Calls Try.prog 18 #[.int .i64 n, .int .i32 c] w fun e w' => e = .returned (.int .i64 (clenL n c)) ∧ Below w.heap.size w w' := by
  have hO := roct13_any n c w h1 h2
  rw [clenL]
  generalize coctL n c = d at *
  have HO := Lib.hid hO; clear hO
  go_enter Try.func18, Try.ntmps18
  go_wp2_with (go_at_call 22; refine (HO.out).mono ?_; rintro e w1 ⟨t1, rfl, ho1, hb1⟩; obtain ⟨a1, b1, o1, c1, rfl, _⟩ := id ho1.row.op)
  go_ret
  exact ⟨rfl, hb1⟩
theorem octs_ne {c : Int} (h : scB c = true) : 0 < (octs c).length := by
  obtain ⟨a, r, e⟩ := octs_cons h
  rw [e]; simp
theorem coct_ne {n c : Int} (h : hasB n c = true) : 0 < (coct n c).length := by
  unfold coct; split
  · rename_i h5; subst h5; exact octs_ne h
  · simp
theorem all_take {f : Int → Bool} {xs : List Int} {k : Nat} {x : Int} (h : (xs.take k).all f = true) (hx : xs[k]? = some x) (hf : f x = true) : (xs.take (k + 1)).all f = true := by
  rw [List.take_add_one, hx, List.all_append, h]; simp [hf]
set_option maxRecDepth 100000 in
theorem rLay13_any (n : Int) (v : Value) (xs : List Int) (w : World) (h : Row w v (ints .i32 xs)) (hr : R32 xs) (hl : xs.length ≤ 1000000) :
    Calls Try.prog 9 #[.int .i64 n, v] w fun e w' => ∃ t, e = .returned (.tuple #[t, .int .i64 (claE n xs)]) ∧ Own w.heap.size 5 w' t (ints .u8 (claY n xs)) ∧ Below w.heap.size w w' := by
  obtain ⟨a, b, off, cp, rfl, HC⟩ := id h.op
  by_cases hn : 1 ≤ n ∧ n ≤ 5
  · have hno := fun (hx : xs.all (hasB n) = false) => cla_char hn hx
    have hye := fun (hx : (xs.take xs.length).all (hasB n) = true) => cla_yes hn (t := xs) (by rwa [List.take_length] at hx)
    have hll : claL n (xs.take xs.length) = claL n xs := by rw [List.take_length]
    have hbad := fun k x (hx : xs[k]? = some x) (hh : hasB n x = false) => show xs.all (hasB n) = false from by
      cases ha : xs.all (hasB n) with
      | false => rfl
      | true => rw [all_get ha hx] at hh; cases hh
    generalize claY n xs = Y at *
    generalize claE n xs = E at *
    have hn1 := hn.1
    have hn5 := hn.2
    have HNO := Lib.hid hno; have HYE := Lib.hid hye; have HLL := Lib.hid hll; have HBAD := Lib.hid hbad
    clear hno hye hll hbad hn
    go_enter Try.func9, Try.ntmps9
    go_wp2
    go_loopw [6, 7] (fun u i wr => ∃ k : Nat, i = .int .i64 k ∧ k ≤ xs.length ∧ Hid ((xs.take k).all (hasB n) = true) ∧ Own w.heap.size 5 wr u (ints .u8 (claL n (xs.take k))) ∧ Below w.heap.size w wr) (fun _ i _ => xs.length - (intOf i).toNat)
    case atStart => exact ⟨0, rfl, Nat.zero_le _, (rfl : (xs.take 0).all (hasB n) = true), Own.nil _ _ _, Below.refl _ _⟩
    case round =>
      obtain ⟨k, rfl, hk, HT, hown, hb⟩ := hrel
      by_cases hlt : k < xs.length
      · obtain ⟨x, HX, rfl, hc⟩ := HC.out k hlt
        replace hc := hc wr hb
        have hcr := hr.get HX.out
        have hO := roct13_any n x wr hcr.1 hcr.2
        rw [coctL] at hO
        cases hh : hasB n x with
        | false =>
          rw [hh] at hO
          obtain ⟨rfl, rfl⟩ := HNO.out (HBAD.out k x HX.out hh)
          have HO := Lib.hid hO; clear hO hh
          go_wp2_with (go_at_call 22; refine (HO.out).mono ?_; rintro e w1 ⟨t1, rfl, ho1, hb1⟩; obtain ⟨a1, c1, rfl⟩ := ho1.row.formN0 (n := 0) rfl)
          go_ret2
          exact ⟨_, rfl, Own.nil _ _ _, below_trans hb hb1⟩
        | true =>
          rw [hh, if_pos rfl] at hO
          have HT2 := Lib.hid (all_take HT.out HX.out hh)
          have HSN := Lib.hid (claL_snoc (n := n) HX.out)
          have hne := coct_ne hh
          have hcl := coct_len n x
          have HLN : Hid ((ints .u8 (claL n (xs.take k))).length + (ints .u8 (coct n x)).length ≤ 1000000000) := by
            have := claL_len n (xs.take k); rw [List.length_take] at this; show _ ≤ _; simp only [ints_length]; omega
          generalize coct n x = d at *
          have hd0 : ¬ ((d.length : Int) = 0) := by omega
          have hd1 : ((d.length : Int) == 0) = false := beq_false_of_ne hd0
          have HO := Lib.hid hO; clear hO hh
          go_wp2_with (first | (go_at_call 22; refine (HO.out).mono ?_; rintro e w1 ⟨t1, rfl, ho1, hb1⟩; obtain ⟨a1, c1, rfl⟩ := ho1.row.formN0 (n := d.length) (ints_length _ _); have hb01 := below_trans hb hb1; have hown1 := hown.below hb1) | (at_builtin; refine wpList_app slT_u8 _ _ _ rfl rfl rfl rfl hown1 ho1.row HLN.out hb01.size ?_; intro t3 w3 hown3 hg3))
          have hb3 := below_own hb01 hown1 hg3 hb01.size (Nat.le_refl _)
          rw [← ints_append] at hown3
          go_roundw
          case rel => exact ⟨k + 1, by go_num, by omega, HT2, by rw [HSN.out]; exact hown3, hb3⟩
          case measure => simp [intOf]; omega
      · obtain rfl : k = xs.length := by omega
        obtain ⟨rfl, rfl⟩ := HYE.out HT.out
        rw [HLL.out] at hown
        go_wp2
        go_ret2
        exact ⟨_, rfl, hown, hb⟩
  · rw [(cla_no xs hn).1, (cla_no xs hn).2]
    by_cases h1 : n < 1
    · clear hn
      go_enter Try.func9, Try.ntmps9
      go_wp2
      go_ret2
      exact ⟨_, rfl, Own.nil _ _ _, Below.refl _ _⟩
    · have h5 : 5 < n := by omega
      clear hn
      go_enter Try.func9, Try.ntmps9
      go_wp2
      go_ret2
      exact ⟨_, rfl, Own.nil _ _ _, Below.refl _ _⟩
theorem sgn_o {n : Int} (x : Int) (h1 : n ≠ 1) (h3 : n ≠ 3) (h4 : n ≠ 4) : sgn n x = x := by rw [sgn, if_neg h1, if_neg h3, if_neg h4]
set_option maxRecDepth 100000 in
theorem rRead13_any (n : Int) (v : Value) (xs : List Int) (w : World) (h : Row w v (ints .u8 xs)) (hg : Rg 0 256 xs) (hl : xs.length ≤ 1000000) :
    Calls Try.prog 7 #[.int .i64 n, v] w fun e w' => ∃ t, e = .returned t ∧ Own w.heap.size 21 w' t (ints .i32 (creadL n xs)) ∧ Below w.heap.size w w' := by
  rcases Decidable.em (n = 5) with rfl | h5
  · have H := Lib.hid (reRead_any v xs w h hg hl)
    rw [cread_5]
    go_enter Try.func7, Try.ntmps7
    go_wp2_with (go_at_call 19; refine (H.out).mono ?_; rintro e w1 ⟨t1, rfl, ho1, hb1⟩)
    go_ret
    exact ⟨_, rfl, ho1, hb1⟩
  · obtain ⟨a, b, off, cp, rfl, HC⟩ := id h.op
    have b5 := beqs n 5 h5
    rw [creadL, if_neg h5]
    have HLT : Hid ((xs.take xs.length).map (sgn n) = xs.map (sgn n)) := by show _ = _; rw [List.take_length]
    have hsg1 : n = 1 → ∀ x, sgn n x = if x < 128 then x else 65533 := fun h x => by subst h; rfl
    have hsg3 : n = 3 → ∀ x, sgn n x = sign9 x := fun h x => by subst h; rfl
    have hsg4 : n = 4 → ∀ x, sgn n x = wsign x := fun h x => by subst h; rfl
    have hsgo : n ≠ 1 → n ≠ 3 → n ≠ 4 → ∀ x, sgn n x = x := fun a b c x => sgn_o x a b c
    have HS1 := Lib.hid hsg1; have HS3 := Lib.hid hsg3; have HS4 := Lib.hid hsg4; have HSO := Lib.hid hsgo
    have HSN : Hid (∀ (k : Nat) (x : Int), xs[k]? = some x → (xs.take (k + 1)).map (sgn n) = (xs.take k).map (sgn n) ++ [sgn n x]) := fun k x hx => map_snoc (sgn n) hx
    have HLN : Hid (∀ (k : Nat) (y : Int), (ints .i32 ((xs.take k).map (sgn n))).length + (ints .i32 [y]).length ≤ 1000000000) := fun k y => by
      have := map_len (sgn n) xs k; simp only [ints_length, List.length_cons, List.length_nil]; omega
    clear hsg1 hsg3 hsg4 hsgo h5
    go_enter Try.func7, Try.ntmps7
    go_wp2
    go_loopw [8, 9] (fun u i wr => ∃ k : Nat, i = .int .i64 k ∧ k ≤ xs.length ∧ Own w.heap.size 21 wr u (ints .i32 ((xs.take k).map (sgn n))) ∧ Below w.heap.size w wr) (fun _ i _ => xs.length - (intOf i).toNat)
    case atStart => exact ⟨0, rfl, Nat.zero_le _, Own.nil _ _ _, Below.refl _ _⟩
    case round =>
      obtain ⟨k, rfl, hk, hown, hb⟩ := hrel
      by_cases hlt : k < xs.length
      · obtain ⟨x, HX, rfl, hc⟩ := HC.out k hlt
        replace hc := hc wr hb
        have hcr := hg.get HX.out
        have hx0 := hcr.1
        have hx1 := hcr.2
        have hw32 : IntKind.i32.wrap x = x := by rw [IntKind.wrap_i32]; omega
        have HSK := Lib.hid (HSN.out k x HX.out)
        rcases five n with rfl | rfl | rfl | rfl | ⟨h1, h3, h4, _⟩
        · by_cases h127 : 127 < x
          · have HE : Hid (sgn 1 x = 65533) := by show _ = _; rw [HS1.out rfl, if_neg (by omega)]
            go_wp2_with (at_builtin; refine wpList_app slT_i32 _ _ _ rfl rfl rfl rfl (hown.alloc _) (Row.ilit [_] [_] rfl (by simp)) (HLN.out k _) (by have := hb.size; simp; omega) ?_; intro t3 w3 hown3 hg3)
            have hb3 := below_app hb (below_alloc _ _) (hown.alloc _) hg3
            rw [← ints_append] at hown3
            go_roundw
            case rel => exact ⟨k + 1, by go_num, by omega, by rw [HSK.out, HE.out]; exact hown3, hb3⟩
            case measure => simp [intOf]; omega
          · have HE : Hid (sgn 1 x = x) := by show _ = _; rw [HS1.out rfl, if_pos (by omega)]
            go_wp2_with (at_builtin; refine wpList_app slT_i32 _ _ _ rfl rfl rfl rfl (hown.alloc _) (Row.ilit [_] [_] rfl (by simp)) (HLN.out k _) (by have := hb.size; simp; omega) ?_; intro t3 w3 hown3 hg3)
            have hb3 := below_app hb (below_alloc _ _) (hown.alloc _) hg3
            rw [← ints_append] at hown3
            go_roundw
            case rel => exact ⟨k + 1, by go_num, by omega, by rw [HSK.out, HE.out]; exact hown3, hb3⟩
            case measure => simp [intOf]; omega
        · have hP := fun w => rSign9_any x w hcr.1 hcr.2
          have HE := Lib.hid (HS3.out rfl x)
          generalize sign9 x = y at *
          have HP := Lib.hid hP; clear hP
          go_wp2_with (first | (go_at_call 20; refine (HP.out _).mono ?_; rintro e w' ⟨rfl, hw⟩; obtain rfl := hw.symm) | (at_builtin; refine wpList_app slT_i32 _ _ _ rfl rfl rfl rfl (hown.alloc _) (Row.ilit [_] [_] rfl (by simp)) (HLN.out k _) (by have := hb.size; simp; omega) ?_; intro t3 w3 hown3 hg3))
          have hb3 := below_app hb (below_alloc _ _) (hown.alloc _) hg3
          rw [← ints_append] at hown3
          go_roundw
          case rel => exact ⟨k + 1, by go_num, by omega, by rw [HSK.out, HE.out]; exact hown3, hb3⟩
          case measure => simp [intOf]; omega
        · have hP := fun w => rwSign_any x w hcr.1 hcr.2
          have HE := Lib.hid (HS4.out rfl x)
          generalize wsign x = y at *
          have HP := Lib.hid hP; clear hP
          go_wp2_with (first | (go_at_call 21; refine (HP.out _).mono ?_; rintro e w1 ⟨rfl, hb1⟩; have hb01 := below_trans hb hb1; have hown1 := hown.below hb1) | (at_builtin; refine wpList_app slT_i32 _ _ _ rfl rfl rfl rfl (hown1.alloc _) (Row.ilit [_] [_] rfl (by simp)) (HLN.out k _) (by have := hb01.size; simp; omega) ?_; intro t3 w3 hown3 hg3))
          have hb3 := below_own (hb01.alloc hb01.size _) (hown1.alloc _) hg3 (by have := hb01.size; simp; omega) (Nat.le_refl _)
          rw [← ints_append] at hown3
          go_roundw
          case rel => exact ⟨k + 1, by go_num, by omega, by rw [HSK.out, HE.out]; exact hown3, hb3⟩
          case measure => simp [intOf]; omega
        · exact absurd b5 (by decide)
        · have HE := Lib.hid (HSO.out h1 h3 h4 x)
          have b1 := beqs n 1 h1; have b3 := beqs n 3 h3; have b4 := beqs n 4 h4
          clear h1 h3 h4
          go_wp2_with (at_builtin; refine wpList_app slT_i32 _ _ _ rfl rfl rfl rfl (hown.alloc _) (Row.ilit [_] [_] rfl (by simp)) (HLN.out k _) (by have := hb.size; simp; omega) ?_; intro t3 w3 hown3 hg3)
          have hb3 := below_app hb (below_alloc _ _) (hown.alloc _) hg3
          rw [← ints_append] at hown3
          go_roundw
          case rel => exact ⟨k + 1, by go_num, by omega, by rw [HSK.out, HE.out]; exact hown3, hb3⟩
          case measure => simp [intOf]; omega
      · obtain rfl : k = xs.length := by omega
        rw [HLT.out] at hown
        go_wp2
        go_ret
        exact ⟨_, rfl, hown, hb⟩
theorem rExact13_any (n : Int) (v : Value) (xs : List Int) (w : World) (h : Row w v (ints .u8 xs)) (hg : Rg 0 256 xs) (hl : xs.length ≤ 200000) :
    Calls Try.prog 13 #[.int .i64 n, v] w fun e w' => e = .returned (.bool (cexB n xs)) ∧ Below w.heap.size w w' := by
  have hR := rRead13_any n v xs w h hg (by omega)
  have hLy := fun v w' h' => rLay13_any n v (creadL n xs) w' h' (cread_wf hg).1 (by have := (cread_len n xs).1; omega)
  have hE := fun v1 v2 w' h1 h2 => like1_any v1 v2 (claY n (creadL n xs)) xs w' h1 h2 (by have := claY_len n (creadL n xs); have := (cread_len n xs).1; omega) (by omega)
  rw [cexB]
  generalize claE n (creadL n xs) = E at *
  generalize claY n (creadL n xs) = Y at *
  generalize creadL n xs = T at *
  have hb := Below.refl w.heap.size w
  rcases Decidable.em (E = 0) with rfl | hne
  · have hd : ((0 : Int) == 0) = true := rfl
    rw [hd, Bool.true_and]
    generalize decide (Y = xs) = q at *
    have HR := Lib.hid hR; have HL := Lib.hid hLy; have HE := Lib.hid hE; clear hR hLy hE hd
    go_enter Try.func13, Try.ntmps13
    go_wp2_with fail
    refine (HR.out).mono ?_
    rintro e w1 ⟨t1, rfl, ho1, hb1⟩
    replace hb := (by first | exact below_trans hb hb1 | exact below_trans (hb.alloc hb.size _) hb1 | exact below_trans ((hb.alloc hb.size _).alloc (hb.alloc hb.size _).size _) hb1 : Below w.heap.size w _)
    go_wp2_with fail
    refine (HL.out _ _ ho1.row).mono ?_
    rintro e w2 ⟨t2, rfl, ho2, hb2⟩
    replace hb := (by first | exact below_trans hb hb2 | exact below_trans (hb.alloc hb.size _) hb2 | exact below_trans ((hb.alloc hb.size _).alloc (hb.alloc hb.size _).size _) hb2 : Below w.heap.size w _)
    go_wp2_with fail
    refine (HE.out _ _ _ ho2.row (h.below hb)).mono ?_
    rintro e w3 ⟨rfl, hb3⟩
    replace hb := (by first | exact below_trans hb hb3 | exact below_trans (hb.alloc hb.size _) hb3 | exact below_trans ((hb.alloc hb.size _).alloc (hb.alloc hb.size _).size _) hb3 : Below w.heap.size w _)
    go_wp2
    go_ret
    exact ⟨rfl, hb⟩
  · have hd : (E == 0) = false := beq_false_of_ne hne
    rw [hd, Bool.false_and]
    have HR := Lib.hid hR; have HL := Lib.hid hLy; clear hR hLy hE hne
    go_enter Try.func13, Try.ntmps13
    go_wp2_with fail
    refine (HR.out).mono ?_
    rintro e w1 ⟨t1, rfl, ho1, hb1⟩
    replace hb := (by first | exact below_trans hb hb1 | exact below_trans (hb.alloc hb.size _) hb1 | exact below_trans ((hb.alloc hb.size _).alloc (hb.alloc hb.size _).size _) hb1 : Below w.heap.size w _)
    go_wp2_with fail
    refine (HL.out _ _ ho1.row).mono ?_
    rintro e w2 ⟨t2, rfl, ho2, hb2⟩
    replace hb := (by first | exact below_trans hb hb2 | exact below_trans (hb.alloc hb.size _) hb2 | exact below_trans ((hb.alloc hb.size _).alloc (hb.alloc hb.size _).size _) hb2 : Below w.heap.size w _)
    go_wp2
    go_ret
    exact ⟨rfl, hb⟩
end Go.Proofs.Ytponfaglflmnkaa
namespace Go.Proofs.Ytponfaglflmnkaa
open Go.RowKit
set_option maxHeartbeats 2000000
theorem alive13_facts : creadL 1 [255] = [65533] ∧ creadL 9 [255] = [255] ∧ claE 5 (creadL 2 [233]) = 0 ∧ claY 5 (creadL 2 [233]) = [195, 169] ∧ claE 9 [] = 10 ∧ claY 9 [] = [] := by decide +kernel
theorem one_cell {w : World} {v : Value} {x : Int} (h : Row w v (ints .i32 [x])) : ∃ b off cap, v = .slice (some ⟨b, off, none⟩) 1 cap ∧ Hid (∀ w', Below w.heap.size w w' → w'.cell? ⟨b, off, none⟩ = some (.int .i32 x)) := by
  obtain ⟨a, b, off, cap, he, hc⟩ := h.op
  obtain ⟨y, hy, rfl, hc⟩ := hc.out 0 (by simp)
  obtain rfl : x = y := Option.some.inj hy.out
  exact ⟨b, off, cap, he, hc⟩
set_option maxRecDepth 100000 in
theorem alive13_any (w : World) : Calls Try.prog 6 #[] w fun e w' => e = .returned (.bool true) ∧ Below w.heap.size w w' := by
  obtain ⟨k1, k2, k3, k4, k5, k6⟩ := alive13_facts
  have hA := fun v w' h' => cRead_any 1 v [255] w' h' (by intro x hx; simp at hx; omega) (by simp)
  have hB := fun v w' h' => cRead_any 9 v [255] w' h' (by intro x hx; simp at hx; omega) (by simp)
  have hC := fun v w' h' => cMove_any 2 5 v [233] w' h' (by intro x hx; simp at hx; omega) (by simp)
  have hD := fun v w' h' => cLay_any 9 v [] w' h' (by intro x hx; simp at hx) (by intro x hx; simp at hx) (by simp)
  rw [k1] at hA; rw [k2] at hB; rw [k3, k4] at hC; rw [k5, k6] at hD
  clear k1 k2 k3 k4 k5 k6
  have HA := Lib.hid hA; have HB := Lib.hid hB; have HC := Lib.hid hC; have HD := Lib.hid hD
  clear hA hB hC hD
  have hb := Below.refl w.heap.size w
  go_enter Try.func6, Try.ntmps6
  go_wp2_with fail
  refine (HA.out _ _ (Row.flit _ [_] rfl (by simp))).mono ?_
  rintro e w1 ⟨t1, rfl, ho1, hb1⟩
  replace hb := (by first | exact below_trans hb hb1 | exact below_trans (hb.alloc hb.size _) hb1 | exact below_trans ((hb.alloc hb.size _).alloc (hb.alloc hb.size _).size _) hb1 : Below w.heap.size w _)
  have r1 := ho1.row
  clear ho1 hb1
  go_wp2_with fail
  refine (HB.out _ _ (Row.flit _ [_] rfl (by simp))).mono ?_
  rintro e w2 ⟨t2, rfl, ho2, hb2⟩
  replace hb := (by first | exact below_trans hb hb2 | exact below_trans (hb.alloc hb.size _) hb2 | exact below_trans ((hb.alloc hb.size _).alloc (hb.alloc hb.size _).size _) hb2 : Below w.heap.size w _)
  replace r1 := (r1.alloc _).below hb2
  have r2 := ho2.row
  clear ho2 hb2
  go_wp2_with fail
  refine (HC.out _ _ (Row.flit _ [_] rfl (by simp))).mono ?_
  rintro e w3 ⟨t3, rfl, ho3, hb3⟩
  replace hb := (by first | exact below_trans hb hb3 | exact below_trans (hb.alloc hb.size _) hb3 | exact below_trans ((hb.alloc hb.size _).alloc (hb.alloc hb.size _).size _) hb3 : Below w.heap.size w _)
  replace r1 := (r1.alloc _).below hb3
  replace r2 := (r2.alloc _).below hb3
  have r3 := ho3.row
  clear ho3 hb3
  go_wp2_with fail
  refine (HD.out _ _ (Row.nil _)).mono ?_
  rintro e w4 ⟨t4, rfl, ho4, hb4⟩
  replace hb := (by first | exact below_trans hb hb4 | exact below_trans (hb.alloc hb.size _) hb4 | exact below_trans ((hb.alloc hb.size _).alloc (hb.alloc hb.size _).size _) hb4 : Below w.heap.size w _)
  replace r1 := r1.below hb4
  replace r2 := r2.below hb4
  replace r3 := r3.below hb4
  clear ho4 hb4
  obtain ⟨b1, o1, c1, rfl, hc1⟩ := one_cell r1
  obtain ⟨b2, o2, c2, rfl, hc2⟩ := one_cell r2
  obtain ⟨a3, c3, rfl⟩ := r3.formN0 (n := 2) rfl
  have cv3 : (convert 22 9 (.slice a3 2 c3)).run Try.prog w4 = .ok (.string ⟨#[195, 169]⟩) w4 := rowstr2 _ r3
  have f1 := hc1.out w4 (Below.refl _ _)
  have f2 := hc2.out w4 (Below.refl _ _)
  clear r1 r2 r3 hc1 hc2
  go_wp2
  go_ret
  exact ⟨rfl, hb⟩
set_option maxRecDepth 100000 in
theorem CodecLays_walk (n : Int) (v : Value) (xs : List Int) (c : Int) (w : World) (_hn : (Lit.int .i64 n).wf = true) (h : Row w v (ints .i32 xs)) (g : WF .i32 xs) (hc : (Lit.int .i32 c).wf = true) :
    Calls Try.prog 5 #[.int .i64 n, v, .int .i32 c] w fun e w' => e = .returned (.bool true) ∧ Below w.heap.size w w' := by
  obtain ⟨a, b, off, cap, rfl, _⟩ := id h.op
  have hb := Below.refl w.heap.size w
  by_cases hl : xs.length ≤ 100
  · have hgx : R32 xs := fun x hx => wf_i32 (g x hx)
    have hcr := wf_i32 hc
    have hA := fun w' h' => cLay_any n (.slice a xs.length cap) xs w' h' hgx g (by omega)
    have hB := fun w' h' => rLay13_any n (.slice a xs.length cap) xs w' h' hgx (by omega)
    have hC := fun w' => cLen_any n c w' hcr.1 hcr.2
    have hD := fun w' => rLen13_any n c w' hcr.1 hcr.2
    have hL := claY_len n xs
    generalize claY n xs = Y at *
    generalize claE n xs = E at *
    generalize clenL n c = l at *
    have HL : Hid (Y.length ≤ 400) := by show _ ≤ _; omega
    have HA := Lib.hid hA; have HB := Lib.hid hB; have HC := Lib.hid hC; have HD := Lib.hid hD
    clear hA hB hC hD hL
    have hrow := h
    go_enter Try.func5, Try.ntmps5
    go_wp2_with fail
    refine (HA.out _ hrow).mono ?_
    rintro e w1 ⟨t1, rfl, ho1, hb1⟩
    replace hb := (by first | exact below_trans hb hb1 | exact below_trans (hb.alloc hb.size _) hb1 | exact below_trans ((hb.alloc hb.size _).alloc (hb.alloc hb.size _).size _) hb1 : Below w.heap.size w _)
    replace hrow := hrow.below hb1
    have r1 := ho1.row
    go_wp2_with fail
    refine (HB.out _ hrow).mono ?_
    rintro e w2 ⟨t2, rfl, ho2, hb2⟩
    replace hb := (by first | exact below_trans hb hb2 | exact below_trans (hb.alloc hb.size _) hb2 | exact below_trans ((hb.alloc hb.size _).alloc (hb.alloc hb.size _).size _) hb2 : Below w.heap.size w _)
    replace r1 := r1.below hb2
    have r2 := ho2.row
    clear ho1 ho2 hb1 hb2 hrow
    go_wp2_with fail
    refine (like1_any _ _ Y Y _ r1 r2 (by have := HL.out; omega) (by have := HL.out; omega)).mono ?_
    rintro e w3 ⟨rfl, hb3⟩
    replace hb := (by first | exact below_trans hb hb3 | exact below_trans (hb.alloc hb.size _) hb3 | exact below_trans ((hb.alloc hb.size _).alloc (hb.alloc hb.size _).size _) hb3 : Below w.heap.size w _)
    rw [decide_eq_true rfl]
    go_wp2_with fail
    refine (HC.out _).mono ?_
    rintro e w4 ⟨rfl, hb4⟩
    replace hb := (by first | exact below_trans hb hb4 | exact below_trans (hb.alloc hb.size _) hb4 | exact below_trans ((hb.alloc hb.size _).alloc (hb.alloc hb.size _).size _) hb4 : Below w.heap.size w _)
    go_wp2_with fail
    refine (HD.out _).mono ?_
    rintro e w5 ⟨rfl, hb5⟩
    replace hb := (by first | exact below_trans hb hb5 | exact below_trans (hb.alloc hb.size _) hb5 | exact below_trans ((hb.alloc hb.size _).alloc (hb.alloc hb.size _).size _) hb5 : Below w.heap.size w _)
    go_wp2_with fail
    refine (alive13_any _).mono ?_
    rintro e w6 ⟨rfl, hb6⟩
    replace hb := (by first | exact below_trans hb hb6 | exact below_trans (hb.alloc hb.size _) hb6 | exact below_trans ((hb.alloc hb.size _).alloc (hb.alloc hb.size _).size _) hb6 : Below w.heap.size w _)
    go_wp2
    go_ret
    exact ⟨rfl, hb⟩
  · go_enter Try.func5, Try.ntmps5
    go_wp2_with (go_at_call 6; refine (alive13_any _).mono ?_; rintro e w7 ⟨rfl, hb7⟩)
    go_ret
    exact ⟨rfl, hb7⟩
set_option maxRecDepth 100000 in
theorem CodecReads_walk (m n : Int) (v : Value) (xs : List Int) (w : World) (_hm : (Lit.int .i64 m).wf = true) (_hn : (Lit.int .i64 n).wf = true) (h : Row w v (ints .u8 xs)) (g : WF .u8 xs) :
    Calls Try.prog 3 #[.int .i64 m, .int .i64 n, v] w fun e w' => e = .returned (.bool true) ∧ Below w.heap.size w w' := by
  obtain ⟨a, b, off, cap, rfl, _⟩ := id h.op
  have hb := Below.refl w.heap.size w
  by_cases hl : xs.length ≤ 100
  · have hgx := g.u8
    have hA := fun w' h' => rRead13_any m (.slice a xs.length cap) xs w' h' hgx (by omega)
    have hB := fun w' h' => cMove_any m n (.slice a xs.length cap) xs w' h' hgx (by omega)
    have hT := (cread_len m xs).1
    have hC := fun v w' h' => rLay13_any n v (creadL m xs) w' h' (cread_wf hgx).1 (by omega)
    have hD := fun w' h' => cRead_any m (.slice a xs.length cap) xs w' h' hgx (by omega)
    have hE := fun w' h' => cExact_any m (.slice a xs.length cap) xs w' h' hgx (by omega)
    have hF := fun w' h' => rExact13_any m (.slice a xs.length cap) xs w' h' hgx (by omega)
    have hL := claY_len n (creadL m xs)
    generalize claY n (creadL m xs) = Y at *
    generalize claE n (creadL m xs) = E at *
    generalize creadL m xs = T at *
    generalize cexB m xs = q at *
    have HTL : Hid (T.length ≤ 100) := by show _ ≤ _; omega
    have HL : Hid (Y.length ≤ 400) := by show _ ≤ _; omega
    have HA := Lib.hid hA; have HB := Lib.hid hB; have HC := Lib.hid hC; have HD := Lib.hid hD; have HE := Lib.hid hE; have HF := Lib.hid hF
    clear hA hB hC hD hE hF hL hT
    have hrow := h
    go_enter Try.func3, Try.ntmps3
    go_wp2_with fail
    refine (HA.out _ hrow).mono ?_
    rintro e w1 ⟨t1, rfl, ho1, hb1⟩
    replace hb := (by first | exact below_trans hb hb1 | exact below_trans (hb.alloc hb.size _) hb1 | exact below_trans ((hb.alloc hb.size _).alloc (hb.alloc hb.size _).size _) hb1 : Below w.heap.size w _)
    replace hrow := hrow.below hb1
    have r1 := ho1.row
    go_wp2_with fail
    refine (HB.out _ hrow).mono ?_
    rintro e w2 ⟨t2, rfl, ho2, hb2⟩
    replace hb := (by first | exact below_trans hb hb2 | exact below_trans (hb.alloc hb.size _) hb2 | exact below_trans ((hb.alloc hb.size _).alloc (hb.alloc hb.size _).size _) hb2 : Below w.heap.size w _)
    replace hrow := hrow.below hb2
    replace r1 := r1.below hb2
    have r2 := ho2.row
    clear ho1 ho2 hb1 hb2
    go_wp2_with fail
    refine (HC.out _ _ r1).mono ?_
    rintro e w3 ⟨t3, rfl, ho3, hb3⟩
    replace hb := (by first | exact below_trans hb hb3 | exact below_trans (hb.alloc hb.size _) hb3 | exact below_trans ((hb.alloc hb.size _).alloc (hb.alloc hb.size _).size _) hb3 : Below w.heap.size w _)
    replace hrow := hrow.below hb3
    replace r1 := r1.below hb3
    replace r2 := r2.below hb3
    have r3 := ho3.row
    clear ho3 hb3
    go_wp2_with fail
    refine (HD.out _ hrow).mono ?_
    rintro e w4 ⟨t4, rfl, ho4, hb4⟩
    replace hb := (by first | exact below_trans hb hb4 | exact below_trans (hb.alloc hb.size _) hb4 | exact below_trans ((hb.alloc hb.size _).alloc (hb.alloc hb.size _).size _) hb4 : Below w.heap.size w _)
    replace hrow := hrow.below hb4
    replace r1 := r1.below hb4
    replace r2 := r2.below hb4
    replace r3 := r3.below hb4
    have r4 := ho4.row
    clear ho4 hb4
    go_wp2_with fail
    refine (like3_any _ _ T T _ r4 r1 (by have := HTL.out; omega) (by have := HTL.out; omega)).mono ?_
    rintro e w5 ⟨rfl, hb5⟩
    replace hb := (by first | exact below_trans hb hb5 | exact below_trans (hb.alloc hb.size _) hb5 | exact below_trans ((hb.alloc hb.size _).alloc (hb.alloc hb.size _).size _) hb5 : Below w.heap.size w _)
    rw [decide_eq_true rfl]
    replace hrow := hrow.below hb5
    replace r2 := r2.below hb5
    replace r3 := r3.below hb5
    clear r4 r1 hb5
    go_wp2_with fail
    refine (HE.out _ hrow).mono ?_
    rintro e w6 ⟨rfl, hb6⟩
    replace hb := (by first | exact below_trans hb hb6 | exact below_trans (hb.alloc hb.size _) hb6 | exact below_trans ((hb.alloc hb.size _).alloc (hb.alloc hb.size _).size _) hb6 : Below w.heap.size w _)
    replace hrow := hrow.below hb6
    replace r2 := r2.below hb6
    replace r3 := r3.below hb6
    clear hb6
    go_wp2_with fail
    refine (HF.out _ hrow).mono ?_
    rintro e w7 ⟨rfl, hb7⟩
    replace hb := (by first | exact below_trans hb hb7 | exact below_trans (hb.alloc hb.size _) hb7 | exact below_trans ((hb.alloc hb.size _).alloc (hb.alloc hb.size _).size _) hb7 : Below w.heap.size w _)
    replace r2 := r2.below hb7
    replace r3 := r3.below hb7
    clear hb7 hrow
    go_wp2_with fail
    refine (like1_any _ _ Y Y _ r2 r3 (by have := HL.out; omega) (by have := HL.out; omega)).mono ?_
    rintro e w8 ⟨rfl, hb8⟩
    replace hb := (by first | exact below_trans hb hb8 | exact below_trans (hb.alloc hb.size _) hb8 | exact below_trans ((hb.alloc hb.size _).alloc (hb.alloc hb.size _).size _) hb8 : Below w.heap.size w _)
    rw [decide_eq_true rfl]
    go_wp2_with fail
    refine (alive13_any _).mono ?_
    rintro e w9 ⟨rfl, hb9⟩
    replace hb := (by first | exact below_trans hb hb9 | exact below_trans (hb.alloc hb.size _) hb9 | exact below_trans ((hb.alloc hb.size _).alloc (hb.alloc hb.size _).size _) hb9 : Below w.heap.size w _)
    go_wp2
    go_ret
    exact ⟨rfl, hb⟩
  · go_enter Try.func3, Try.ntmps3
    go_wp2_with (go_at_call 6; refine (alive13_any _).mono ?_; rintro e w7 ⟨rfl, hb7⟩)
    go_ret
    exact ⟨rfl, hb7⟩
theorem cback {n : Int} {ts : List Int} : (claE n ts = 0 ∧ creadL n (claY n ts) = ts ∧ cexB n (claY n ts) = true) ∨ (claE n ts ≠ 0 ∧ claY n ts = []) := by
  by_cases hn : 1 ≤ n ∧ n ≤ 5
  · cases ha : ts.all (hasB n) with
    | false => rw [(cla_char hn ha).1, (cla_char hn ha).2]; exact .inr ⟨by decide, rfl⟩
    | true =>
      have h1 := cla_yes hn ha
      have h2 := cread_lay hn.1 hn.2 ha
      refine .inl ⟨h1.2, by rw [h1.1, h2], ?_⟩
      rw [cexB, h1.1, h2, h1.1, h1.2]
      simp
  · rw [(cla_no ts hn).1, (cla_no ts hn).2]; exact .inr ⟨by decide, rfl⟩
set_option maxRecDepth 100000 in
theorem CodecBack_walk (n : Int) (v : Value) (ts : List Int) (v2 : Value) (xs : List Int) (w : World) (_hn : (Lit.int .i64 n).wf = true) (h : Row w v (ints .i32 ts)) (g : WF .i32 ts) (h2 : Row w v2 (ints .u8 xs)) (g2 : WF .u8 xs) :
    Calls Try.prog 4 #[.int .i64 n, v, v2] w fun e w' => e = .returned (.bool true) ∧ Below w.heap.size w w' := by
  obtain ⟨a, b, off, cap, rfl, _⟩ := id h.op
  obtain ⟨a2, b2, off2, cap2, rfl, _⟩ := id h2.op
  have hb := Below.refl w.heap.size w
  by_cases hl : ts.length ≤ 200
  · by_cases hl2 : xs.length ≤ 300
    · have hgt : R32 ts := fun x hx => wf_i32 (g x hx)
      have hgx := g2.u8
      have hA := fun w' h' => cLay_any n (.slice a ts.length cap) ts w' h' hgt g (by omega)
      have hY := claY_len n ts
      have hYr := claY_rng n ts
      have hB := fun v w' h' => cRead_any n v (claY n ts) w' h' hYr (by omega)
      have hC := fun v w' h' => cExact_any n v (claY n ts) w' h' hYr (by omega)
      have hD := fun w' h' => cRead_any n (.slice a2 xs.length cap2) xs w' h' hgx (by omega)
      have hT := cread_len n xs
      have hF : idx (fun c => !scB c) (creadL n xs) < 0 := by have := cread_sc (n := n) hgx; rw [allSc_idx] at this; exact of_decide_eq_true this
      have hG := fun v w' h' => rfirst_any v (creadL n xs) w' h' (by have := hT.1; omega)
      generalize idx (fun c => !scB c) (creadL n xs) = f at *
      have hT1 := hT.1
      have hT2 := hT.2
      generalize creadL n xs = T at *
      rcases cback (n := n) (ts := ts) with ⟨e1, e2, e3⟩ | ⟨e1, e2⟩
      · rw [e1] at hA
        rw [e2] at hB
        rw [e3] at hC
        generalize claY n ts = Y at *
        have HA := Lib.hid hA; have HB := Lib.hid hB; have HC := Lib.hid hC; have HD := Lib.hid hD; have HG := Lib.hid hG
        clear hA hB hC hD hG hYr hY hT e1 e2 e3
        have hrow := h
        have hrow2 := h2
        go_enter Try.func4, Try.ntmps4
        go_wp2_with fail
        refine (HA.out _ hrow).mono ?_
        rintro e w1 ⟨t1, rfl, ho1, hb1⟩
        replace hb := (by first | exact below_trans hb hb1 | exact below_trans (hb.alloc hb.size _) hb1 | exact below_trans ((hb.alloc hb.size _).alloc (hb.alloc hb.size _).size _) hb1 : Below w.heap.size w _)
        replace hrow := hrow.below hb1
        replace hrow2 := hrow2.below hb1
        have r1 := ho1.row
        obtain ⟨a1, b1, o1, c1, rfl, _⟩ := id r1.op
        clear ho1 hb1
        go_wp2_with fail
        refine (HB.out _ _ r1).mono ?_
        rintro e w2 ⟨t2, rfl, ho2, hb2⟩
        replace hb := (by first | exact below_trans hb hb2 | exact below_trans (hb.alloc hb.size _) hb2 | exact below_trans ((hb.alloc hb.size _).alloc (hb.alloc hb.size _).size _) hb2 : Below w.heap.size w _)
        replace hrow := hrow.below hb2
        replace hrow2 := hrow2.below hb2
        replace r1 := r1.below hb2
        have r2 := ho2.row
        clear ho2 hb2
        go_wp2_with fail
        refine (like3_any _ _ ts ts _ r2 hrow (by omega) (by omega)).mono ?_
        rintro e w3 ⟨rfl, hb3⟩
        replace hb := (by first | exact below_trans hb hb3 | exact below_trans (hb.alloc hb.size _) hb3 | exact below_trans ((hb.alloc hb.size _).alloc (hb.alloc hb.size _).size _) hb3 : Below w.heap.size w _)
        rw [decide_eq_true rfl]
        replace hrow2 := hrow2.below hb3
        replace r1 := r1.below hb3
        clear hrow r2 hb3
        go_wp2_with fail
        refine (HC.out _ _ r1).mono ?_
        rintro e w4 ⟨rfl, hb4⟩
        replace hb := (by first | exact below_trans hb hb4 | exact below_trans (hb.alloc hb.size _) hb4 | exact below_trans ((hb.alloc hb.size _).alloc (hb.alloc hb.size _).size _) hb4 : Below w.heap.size w _)
        replace hrow2 := hrow2.below hb4
        clear hb4 r1
        go_wp2_with fail
        refine (HD.out _ hrow2).mono ?_
        rintro e w5 ⟨t5, rfl, ho5, hb5⟩
        replace hb := (by first | exact below_trans hb hb5 | exact below_trans (hb.alloc hb.size _) hb5 | exact below_trans ((hb.alloc hb.size _).alloc (hb.alloc hb.size _).size _) hb5 : Below w.heap.size w _)
        have r5 := ho5.row
        obtain ⟨a5, b5, o5, c5, rfl, _⟩ := id r5.op
        clear ho5 hb5
        go_wp2_with fail
        refine (HG.out _ _ r5).mono ?_
        rintro e w6 ⟨rfl, rfl⟩
        by_cases h5 : n = 5
        · subst h5
          go_wp2_with fail
          refine (alive13_any _).mono ?_
          rintro e w7 ⟨rfl, hb7⟩
          replace hb := (by first | exact below_trans hb hb7 | exact below_trans (hb.alloc hb.size _) hb7 | exact below_trans ((hb.alloc hb.size _).alloc (hb.alloc hb.size _).size _) hb7 : Below w.heap.size w _)
          go_wp2
          go_ret
          exact ⟨rfl, hb⟩
        · have hT3 := hT2 h5
          have b5' := beqs n 5 h5
          clear hT2
          go_wp2_with fail
          refine (alive13_any _).mono ?_
          rintro e w7 ⟨rfl, hb7⟩
          replace hb := (by first | exact below_trans hb hb7 | exact below_trans (hb.alloc hb.size _) hb7 | exact below_trans ((hb.alloc hb.size _).alloc (hb.alloc hb.size _).size _) hb7 : Below w.heap.size w _)
          go_wp2
          go_ret
          exact ⟨rfl, hb⟩
      · rw [e2] at hA
        generalize claE n ts = E at *
        have bE := beqs E 0 e1
        have HA := Lib.hid hA; have HD := Lib.hid hD; have HG := Lib.hid hG
        clear hA hB hC hD hG hYr hY hT e2
        have hrow := h
        have hrow2 := h2
        go_enter Try.func4, Try.ntmps4
        go_wp2_with fail
        refine (HA.out _ hrow).mono ?_
        rintro e w1 ⟨t1, rfl, ho1, hb1⟩
        replace hb := (by first | exact below_trans hb hb1 | exact below_trans (hb.alloc hb.size _) hb1 | exact below_trans ((hb.alloc hb.size _).alloc (hb.alloc hb.size _).size _) hb1 : Below w.heap.size w _)
        replace hrow2 := hrow2.below hb1
        have r1 := ho1.row
        obtain ⟨a1, c1, rfl⟩ := r1.formN0 (n := 0) rfl
        clear ho1 hb1 r1 hrow
        go_wp2_with fail
        refine (HD.out _ hrow2).mono ?_
        rintro e w5 ⟨t5, rfl, ho5, hb5⟩
        replace hb := (by first | exact below_trans hb hb5 | exact below_trans (hb.alloc hb.size _) hb5 | exact below_trans ((hb.alloc hb.size _).alloc (hb.alloc hb.size _).size _) hb5 : Below w.heap.size w _)
        have r5 := ho5.row
        obtain ⟨a5, b5, o5, c5, rfl, _⟩ := id r5.op
        clear ho5 hb5
        go_wp2_with fail
        refine (HG.out _ _ r5).mono ?_
        rintro e w6 ⟨rfl, rfl⟩
        by_cases h5 : n = 5
        · subst h5
          go_wp2_with fail
          refine (alive13_any _).mono ?_
          rintro e w7 ⟨rfl, hb7⟩
          replace hb := (by first | exact below_trans hb hb7 | exact below_trans (hb.alloc hb.size _) hb7 | exact below_trans ((hb.alloc hb.size _).alloc (hb.alloc hb.size _).size _) hb7 : Below w.heap.size w _)
          go_wp2
          go_ret
          exact ⟨rfl, hb⟩
        · have hT3 := hT2 h5
          have b5' := beqs n 5 h5
          clear hT2
          go_wp2_with fail
          refine (alive13_any _).mono ?_
          rintro e w7 ⟨rfl, hb7⟩
          replace hb := (by first | exact below_trans hb hb7 | exact below_trans (hb.alloc hb.size _) hb7 | exact below_trans ((hb.alloc hb.size _).alloc (hb.alloc hb.size _).size _) hb7 : Below w.heap.size w _)
          go_wp2
          go_ret
          exact ⟨rfl, hb⟩
    · go_enter Try.func4, Try.ntmps4
      go_wp2_with (go_at_call 6; refine (alive13_any _).mono ?_; rintro e w7 ⟨rfl, hb7⟩)
      go_ret
      exact ⟨rfl, hb7⟩
  · go_enter Try.func4, Try.ntmps4
    go_wp2_with (go_at_call 6; refine (alive13_any _).mono ?_; rintro e w7 ⟨rfl, hb7⟩)
    go_ret
    exact ⟨rfl, hb7⟩
end Go.Proofs.Ytponfaglflmnkaa
