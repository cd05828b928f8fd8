/- The statements of layer 12, walked. -/
import Derived.Test.YtgfdebijcpdhbaaDoorW12g
namespace Go.Proofs.YtgfdebijcpdhbaaDoor
open Go.RowKit
set_option maxHeartbeats 1000000
theorem fN_one (c : Int) : fN [c] = fun n => hasB n c := by funext n; simp [fN]
theorem fN_a : lowL (fN [233, 8364]) = 3 ∧ noneL (fN [233, 8364]) = 0 ∧ lowL (fN [233, 8220]) = 4 ∧ noneL (fN [233, 8220]) = 0 ∧ lowL (fN []) = 1 ∧ noneL (fN []) = 0 ∧ lowL (fun n => hasB n 945) = 5 := by decide +kernel
set_option maxRecDepth 100000 in
theorem alive12_any (w : World) (hT : Tz w) : Calls Tryd.prog 13 #[] w fun e w' => e = .returned (.bool true) ∧ Below w.heap.size w w' := by
  obtain ⟨f1, f2, f3, f4, f5, f6, f7⟩ := fN_a
  have hA := fun v w' ht h' => pSelect_any v [233, 8364] w' ht h' (by intro x hx; simp at hx; omega) (by simp)
  have hB := fun v w' ht h' => pSelect_any v [233, 8220] w' ht h' (by intro x hx; simp at hx; omega) (by simp)
  have hC := fun v w' ht h' => pSelect_any v [] w' ht h' (by intro x hx; simp at hx) (by simp)
  have hD := fun w' ht => pLeast_any 945 w' ht (by omega) (by omega)
  rw [f1, f2] at hA; rw [f3, f4] at hB; rw [f5, f6] at hC; rw [f7] at hD
  have hE := fun w => pSize_any 4 w
  rw [show sizeL 4 = 251 from rfl] at hE
  have HA := Lib.hid hA; have HB := Lib.hid hB; have HC := Lib.hid hC; have HD := Lib.hid hD; have HE := Lib.hid hE; have HT := Lib.hid hT
  clear hA hB hC hD hE hT f1 f2 f3 f4 f5 f6 f7
  have hb := Below.refl w.heap.size w
  go_enter Tryd.func13, Tryd.ntmps13
  go_wp2_with fail
  refine (HA.out _ _ (HT.out.below (below_alloc _ _)) (Row.ilit [233, 8364] [_, _] rfl (by simp))).mono ?_
  rintro e w1 ⟨rfl, hb1⟩
  replace hb := (by first | exact below_trans hb hb1 | exact below_trans (hb.alloc hb.size _) hb1 | exact below_trans ((hb.alloc hb.size _).alloc (hb.alloc hb.size _).size _) hb1 : Below w.heap.size w _)
  go_wp2_with fail
  refine (HB.out _ _ (HT.out.below (hb.alloc hb.size _)) (Row.ilit [233, 8220] [_, _] rfl (by simp))).mono ?_
  rintro e w2 ⟨rfl, hb2⟩
  replace hb := (by first | exact below_trans hb hb2 | exact below_trans (hb.alloc hb.size _) hb2 | exact below_trans ((hb.alloc hb.size _).alloc (hb.alloc hb.size _).size _) hb2 : Below w.heap.size w _)
  go_wp2_with fail
  refine (HC.out _ _ (HT.out.below hb) (Row.nil _)).mono ?_
  rintro e w3 ⟨rfl, hb3⟩
  replace hb := (by first | exact below_trans hb hb3 | exact below_trans (hb.alloc hb.size _) hb3 | exact below_trans ((hb.alloc hb.size _).alloc (hb.alloc hb.size _).size _) hb3 : Below w.heap.size w _)
  go_wp2_with fail
  refine (HD.out _ (HT.out.below hb)).mono ?_
  rintro e w4 ⟨rfl, hb4⟩
  replace hb := (by first | exact below_trans hb hb4 | exact below_trans (hb.alloc hb.size _) hb4 | exact below_trans ((hb.alloc hb.size _).alloc (hb.alloc hb.size _).size _) hb4 : Below w.heap.size w _)
  go_wp2_with fail
  refine (HE.out _).mono ?_
  rintro e w5 ⟨rfl, hw⟩
  obtain rfl := hw.symm
  go_wp2
  go_ret
  exact ⟨rfl, hb⟩
set_option maxRecDepth 100000 in
theorem ReperHas_walk (n c : Int) (w : World) (hT : Tz w) (_hn : (Lit.int .i64 n).wf = true) (hc : (Lit.int .i32 c).wf = true) :
    Calls Tryd.prog 3 #[.int .i64 n, .int .i32 c] w fun e w' => e = .returned (.bool true) ∧ Below w.heap.size w w' := by
  have hcw := wf_i32 hc
  have hb := Below.refl w.heap.size w
  have hS := fun v w' h' => rSelect_any v [c] w' h' (by intro x hx; simp at hx; omega) (by simp)
  rw [fN_one] at hS
  have hP := fun w => pHas_any n c w hcw.1 hcw.2
  have hR := fun w => rHas_any n c w hcw.1 hcw.2
  have hX := fun w => pSets_any c w hcw.1 hcw.2
  have hY := fun w => rSets_any c w hcw.1 hcw.2
  have hL := fun w' (h : Below w.heap.size w w') => pLeast_any c w' (hT.below h) hcw.1 hcw.2
  have hV := fun w' (h : Below w.heap.size w w') => alive12_any w' (hT.below h)
  generalize (enc fun n => hasB n c) = s at *
  generalize (lowL fun n => hasB n c) = l at *
  generalize (noneL fun n => hasB n c) = z at *
  generalize hasB n c = q at *
  have HS := Lib.hid hS; have HP := Lib.hid hP; have HR := Lib.hid hR; have HX := Lib.hid hX; have HY := Lib.hid hY; have HL := Lib.hid hL; have HV := Lib.hid hV
  clear hS hP hR hX hY hL hV hT
  have hqq : (q == q) = true := by simp
  have hss : (s == s) = true := by simp
  have hll : (l == l) = true := by simp
  go_enter Tryd.func3, Tryd.ntmps3
  go_wp2_with fail
  refine (HS.out _ _ (Row.ilit [c] [_] rfl (by simp))).mono ?_
  rintro e w1 ⟨rfl, hb1⟩
  replace hb := (by first | exact below_trans hb hb1 | exact below_trans (hb.alloc hb.size _) hb1 | exact below_trans ((hb.alloc hb.size _).alloc (hb.alloc hb.size _).size _) hb1 : Below w.heap.size w _)
  go_wp2_with fail
  refine (HP.out _).mono ?_
  rintro e w2 ⟨rfl, hb2⟩
  replace hb := (by first | exact below_trans hb hb2 | exact below_trans (hb.alloc hb.size _) hb2 | exact below_trans ((hb.alloc hb.size _).alloc (hb.alloc hb.size _).size _) hb2 : Below w.heap.size w _)
  go_wp2_with fail
  refine (HR.out _).mono ?_
  rintro e w3 ⟨rfl, hb3⟩
  replace hb := (by first | exact below_trans hb hb3 | exact below_trans (hb.alloc hb.size _) hb3 | exact below_trans ((hb.alloc hb.size _).alloc (hb.alloc hb.size _).size _) hb3 : Below w.heap.size w _)
  go_wp2_with fail
  refine (HX.out _).mono ?_
  rintro e w4 ⟨rfl, hb4⟩
  replace hb := (by first | exact below_trans hb hb4 | exact below_trans (hb.alloc hb.size _) hb4 | exact below_trans ((hb.alloc hb.size _).alloc (hb.alloc hb.size _).size _) hb4 : Below w.heap.size w _)
  go_wp2_with fail
  refine (HY.out _).mono ?_
  rintro e w5 ⟨rfl, hb5⟩
  replace hb := (by first | exact below_trans hb hb5 | exact below_trans (hb.alloc hb.size _) hb5 | exact below_trans ((hb.alloc hb.size _).alloc (hb.alloc hb.size _).size _) hb5 : Below w.heap.size w _)
  go_wp2_with fail
  refine (HL.out _ hb).mono ?_
  rintro e w6 ⟨rfl, hb6⟩
  replace hb := (by first | exact below_trans hb hb6 | exact below_trans (hb.alloc hb.size _) hb6 | exact below_trans ((hb.alloc hb.size _).alloc (hb.alloc hb.size _).size _) hb6 : Below w.heap.size w _)
  go_wp2_with fail
  refine (HV.out _ hb).mono ?_
  rintro e w7 ⟨rfl, hb7⟩
  replace hb := (by first | exact below_trans hb hb7 | exact below_trans (hb.alloc hb.size _) hb7 | exact below_trans ((hb.alloc hb.size _).alloc (hb.alloc hb.size _).size _) hb7 : Below w.heap.size w _)
  go_wp2
  go_ret
  exact ⟨rfl, hb⟩
set_option maxRecDepth 100000 in
theorem ReperSizes_walk (n : Int) (w : World) (hT : Tz w) (_hn : (Lit.int .i64 n).wf = true) :
    Calls Tryd.prog 4 #[.int .i64 n] w fun e w' => e = .returned (.bool true) ∧ Below w.heap.size w w' := by
  have hb := Below.refl w.heap.size w
  have hP := fun w => pSize_any n w
  have hR := fun w => rSize_any n w
  have hV := fun w' (h : Below w.heap.size w w') => alive12_any w' (hT.below h)
  generalize sizeL n = s at *
  have HP := Lib.hid hP; have HR := Lib.hid hR; have HV := Lib.hid hV
  clear hP hR hV hT
  have hss : (s == s) = true := by simp
  go_enter Tryd.func4, Tryd.ntmps4
  go_wp2_with fail
  refine (HP.out _).mono ?_
  rintro e w0 ⟨rfl, hw⟩
  obtain rfl := hw.symm
  go_wp2_with fail
  refine (HR.out _).mono ?_
  rintro e w1 ⟨rfl, hb1⟩
  replace hb := (by first | exact below_trans hb hb1 | exact below_trans (hb.alloc hb.size _) hb1 | exact below_trans ((hb.alloc hb.size _).alloc (hb.alloc hb.size _).size _) hb1 : Below w.heap.size w _)
  go_wp2_with fail
  refine (HV.out _ hb).mono ?_
  rintro e w7 ⟨rfl, hb7⟩
  replace hb := (by first | exact below_trans hb hb7 | exact below_trans (hb.alloc hb.size _) hb7 | exact below_trans ((hb.alloc hb.size _).alloc (hb.alloc hb.size _).size _) hb7 : Below w.heap.size w _)
  go_wp2
  go_ret
  exact ⟨rfl, hb⟩
set_option maxRecDepth 100000 in
theorem ReperSelects_walk (n : Int) (v : Value) (xs : List Int) (w : World) (hT : Tz w) (_hn : (Lit.int .i64 n).wf = true) (h : Row w v (ints .i32 xs)) (g : WF .i32 xs) :
    Calls Tryd.prog 5 #[.int .i64 n, v] w fun e w' => e = .returned (.bool true) ∧ Below w.heap.size w w' := by
  obtain ⟨a, b, off, cp, rfl, _⟩ := id h.op
  have hb := Below.refl w.heap.size w
  have hV := fun w' (h : Below w.heap.size w w') => alive12_any w' (hT.below h)
  have HV := Lib.hid hV
  by_cases hl : xs.length ≤ 100
  · have hgx : R32 xs := fun x hx => wf_i32 (g x hx)
    have hS := fun v w' (h : Below w.heap.size w w') h' => pSelect_any v xs w' (hT.below h) h' hgx (by omega)
    have hR := fun v w' h' => rSelect_any v xs w' h' hgx (by omega)
    have hA := fun v w' h' => pAll_any n v xs w' h' hgx (by omega)
    have hB := fun v w' h' => rAll_any n v xs w' h' hgx (by omega)
    have hX := fun v w' h' => pLacks_any n v xs w' h' hgx (by omega)
    have hY := fun v w' h' => rLacks_any n v xs w' h' hgx (by omega)
    generalize lowL (fN xs) = l at *
    generalize noneL (fN xs) = z at *
    generalize allN n xs = q at *
    generalize lackN n xs = s at *
    have HS := Lib.hid hS; have HR := Lib.hid hR; have HA := Lib.hid hA; have HB := Lib.hid hB; have HX := Lib.hid hX; have HY := Lib.hid hY
    clear hS hR hA hB hX hY hV hT
    have hqq : (q == q) = true := by simp
    have hss : (s == s) = true := by simp
    have hll : (l == l) = true := by simp
    have hzz : (z == z) = true := by simp
    have hrow := h
    go_enter Tryd.func5, Tryd.ntmps5
    go_wp2_with fail
    refine (HS.out _ _ hb hrow).mono ?_
    rintro e w1 ⟨rfl, hb1⟩
    replace hb := (by first | exact below_trans hb hb1 | exact below_trans (hb.alloc hb.size _) hb1 | exact below_trans ((hb.alloc hb.size _).alloc (hb.alloc hb.size _).size _) hb1 : Below w.heap.size w _)
    replace hrow := hrow.below hb1
    go_wp2_with fail
    refine (HR.out _ _ hrow).mono ?_
    rintro e w2 ⟨rfl, hb2⟩
    replace hb := (by first | exact below_trans hb hb2 | exact below_trans (hb.alloc hb.size _) hb2 | exact below_trans ((hb.alloc hb.size _).alloc (hb.alloc hb.size _).size _) hb2 : Below w.heap.size w _)
    replace hrow := hrow.below hb2
    go_wp2_with fail
    refine (HA.out _ _ hrow).mono ?_
    rintro e w3 ⟨rfl, hb3⟩
    replace hb := (by first | exact below_trans hb hb3 | exact below_trans (hb.alloc hb.size _) hb3 | exact below_trans ((hb.alloc hb.size _).alloc (hb.alloc hb.size _).size _) hb3 : Below w.heap.size w _)
    replace hrow := hrow.below hb3
    go_wp2_with fail
    refine (HB.out _ _ hrow).mono ?_
    rintro e w4 ⟨rfl, hb4⟩
    replace hb := (by first | exact below_trans hb hb4 | exact below_trans (hb.alloc hb.size _) hb4 | exact below_trans ((hb.alloc hb.size _).alloc (hb.alloc hb.size _).size _) hb4 : Below w.heap.size w _)
    replace hrow := hrow.below hb4
    go_wp2_with fail
    refine (HX.out _ _ hrow).mono ?_
    rintro e w5 ⟨rfl, hb5⟩
    replace hb := (by first | exact below_trans hb hb5 | exact below_trans (hb.alloc hb.size _) hb5 | exact below_trans ((hb.alloc hb.size _).alloc (hb.alloc hb.size _).size _) hb5 : Below w.heap.size w _)
    replace hrow := hrow.below hb5
    go_wp2_with fail
    refine (HY.out _ _ hrow).mono ?_
    rintro e w6 ⟨rfl, hb6⟩
    replace hb := (by first | exact below_trans hb hb6 | exact below_trans (hb.alloc hb.size _) hb6 | exact below_trans ((hb.alloc hb.size _).alloc (hb.alloc hb.size _).size _) hb6 : Below w.heap.size w _)
    go_wp2_with fail
    refine (HV.out _ hb).mono ?_
    rintro e w7 ⟨rfl, hb7⟩
    replace hb := (by first | exact below_trans hb hb7 | exact below_trans (hb.alloc hb.size _) hb7 | exact below_trans ((hb.alloc hb.size _).alloc (hb.alloc hb.size _).size _) hb7 : Below w.heap.size w _)
    go_wp2
    go_ret
    exact ⟨rfl, hb⟩
  · clear hV hT
    go_enter Tryd.func5, Tryd.ntmps5
    go_wp2_with (go_at_call 13; refine (HV.out _ hb).mono ?_; rintro e w7 ⟨rfl, hb7⟩)
    go_ret
    exact ⟨rfl, hb7⟩
end Go.Proofs.YtgfdebijcpdhbaaDoor
