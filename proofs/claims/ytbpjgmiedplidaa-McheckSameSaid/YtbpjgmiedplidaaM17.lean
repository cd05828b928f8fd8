/- The statements of layer 25, walked. (laid together by program out of single texts). -/
import Derived.Test.YtbpjgmiedplidaaM13
import Derived.Test.YtbpjgmiedplidaaM16
namespace Go.Proofs.Ytbpjgmiedplidaa
open Go.RowKit
set_option maxHeartbeats 2000000
theorem kaa : mread [126, 38, 85, 44, 65, 45, 38, 45] = ([126, 21488, 38], true) := by
  have h := mread_mlay _ [126, 21488, 38] (Nat.le_refl _) (by decide)
  rw [mlay_a] at h
  exact Prod.ext h.1 h.2
theorem kab : rightB [126, 38, 85, 44, 65, 45, 38, 45] = true := by
  have h := cwhy_mlay _ [126, 21488, 38] false (Nat.le_refl _) (by decide) (fun h => by cases h)
  rw [mlay_a] at h
  rw [rightB, h]; rfl
/-- A run that need not be: the letter a. -/
theorem kac : cwhy false [38, 65, 71, 69, 45] = (5, 0, 0) := by
  have hml : ml [65, 71, 69, 45] = 3 := by decide
  have hcode : codeL [97] = [65, 71, 69] := by decide +kernel
  have hrun := code_run (t := [97]) (by decide)
  rw [hcode] at hrun
  have hu : usuL ([65, 71, 69, 45].take 3) = [65, 71, 69] := by decide
  have hc : cpc false 38 [65, 71, 69, 45] = (5, 0, true) := by
    rw [cpc, hml, hu, hrun.2.2.2, hrun.2.1]; decide
  rw [cwhy_bad (by rw [hc]; decide), hc]
theorem kad : (cwhy false [97, 38, 45, 128]).2.2 = 2 := by
  rw [cwhy_ok (n := 1) (q := false) (by decide), show ([38, 45, 128] : List Int).drop (1 - 1) = [38, 45, 128] from rfl, cwhy_ok (n := 2) (q := false) (by decide), show ([45, 128] : List Int).drop (2 - 1) = [128] from rfl, cwhy_bad (by decide)]
  rfl
set_option maxRecDepth 100000 in
theorem alive25_any (w : World) : Calls Try.prog 24 #[] w fun e w' => e = .returned (.bool true) ∧ Below w.heap.size w w' := by
  have hA := fun v w' h' => oWhy_any v [38, 65, 71, 69, 45] w' h' (by intro x hx; simp at hx; omega) (by simp)
  rw [kac] at hA
  have hB := fun v w' h' => okRead_any v [126, 38, 85, 44, 65, 45, 38, 45] w' h' (by intro x hx; simp at hx; omega) (by simp)
  rw [kreadE, kreadT, kab, kaa] at hB
  simp only [if_true, eq_self] at hB
  have hC := fun v w' h' => oPieces_any v [97, 38, 45, 128] w' h' (by intro x hx; simp at hx; omega) (by simp)
  rw [kad] at hC
  have HA := Lib.hid hA; have HB := Lib.hid hB; have HC := Lib.hid hC
  clear hA hB hC
  have hb := Below.refl w.heap.size w
  have kc := fun (w : World) (C : Array Value) (n c : Nat) => Lib.run_convert_bytes_const (P := Try.prog) w 24 5 C n c Try.underlying24 Try.underlying5
  go_enter Try.func24, Try.ntmps24
  go_wp2_with fail
  refine (HA.out _ _ (Row.flit _ [_, _, _, _, _] rfl (by simp))).mono ?_
  rintro e w1 ⟨rfl, hb1⟩
  replace hb := (by first | exact below_trans hb hb1 | exact below_trans (hb.alloc hb.size _) hb1 | exact below_trans ((hb.alloc hb.size _).alloc (hb.alloc hb.size _).size _) hb1 : Below w.heap.size w _)
  go_wp2_with fail
  refine (HB.out _ _ (Row.flit _ [_, _, _, _, _, _, _, _] rfl (by simp))).mono ?_
  rintro e w2 ⟨t2, rfl, ho2, hb2⟩
  replace hb := (by first | exact below_trans hb hb2 | exact below_trans (hb.alloc hb.size _) hb2 | exact below_trans ((hb.alloc hb.size _).alloc (hb.alloc hb.size _).size _) hb2 : Below w.heap.size w _)
  have r2 := ho2.row
  clear ho2 hb1 hb2
  go_wp2_with fail
  refine (like3_any _ _ [126, 21488, 38] [126, 21488, 38] _ (r2.alloc _) (Row.ilit [126, 21488, 38] [_, _, _] rfl (by simp)) (by simp) (by simp)).mono ?_
  rintro e w3 ⟨rfl, hb3⟩
  replace hb := (by first | exact below_trans hb hb3 | exact below_trans (hb.alloc hb.size _) hb3 | exact below_trans ((hb.alloc hb.size _).alloc (hb.alloc hb.size _).size _) hb3 : Below w.heap.size w _)
  rw [decide_eq_true rfl]
  go_wp2_with fail
  refine (HC.out _ _ (Row.flit _ [_, _, _, _] rfl (by simp))).mono ?_
  rintro e w4 ⟨rfl, hb4⟩
  replace hb := (by first | exact below_trans hb hb4 | exact below_trans (hb.alloc hb.size _) hb4 | exact below_trans ((hb.alloc hb.size _).alloc (hb.alloc hb.size _).size _) hb4 : Below w.heap.size w _)
  go_wp2
  go_ret
  exact ⟨rfl, hb⟩
set_option maxRecDepth 100000 in
theorem McheckWhy_walk (v : Value) (xs : List Int) (w : World) (h : Row w v (ints .u8 xs)) (g : WF .u8 xs) :
    Calls Try.prog 6 #[v] w fun e w' => e = .returned (.bool true) ∧ Below w.heap.size w w' := by
  obtain ⟨a, b, off, cap, rfl, _⟩ := id h.op
  have hb := Below.refl w.heap.size w
  by_cases hl : xs.length ≤ 500
  · have hgx := g.u8
    have hA := fun w' h' => oWhy_any (.slice a xs.length cap) xs w' h' hgx (by omega)
    have hB := fun w' h' => rWhy_any (.slice a xs.length cap) xs w' h' hgx (by omega)
    have hC := fun w' h' => oPieces_any (.slice a xs.length cap) xs w' h' hgx (by omega)
    have hD := fun w' h' => oRight_any (.slice a xs.length cap) xs w' h' hgx (by omega)
    simp only [rightB] at hD
    generalize (cwhy false xs).1 = W at *
    generalize (cwhy false xs).2.1 = p at *
    generalize (cwhy false xs).2.2 = n at *
    have HA := Lib.hid hA; have HB := Lib.hid hB; have HC := Lib.hid hC; have HD := Lib.hid hD
    clear hA hB hC hD
    have hrow := h
    go_enter Try.func6, Try.ntmps6
    go_wp2_with fail
    refine (HA.out _ hrow).mono ?_
    rintro e w1 ⟨rfl, hb1⟩
    replace hb := (by first | exact below_trans hb hb1 | exact below_trans (hb.alloc hb.size _) hb1 | exact below_trans ((hb.alloc hb.size _).alloc (hb.alloc hb.size _).size _) hb1 : Below w.heap.size w _)
    replace hrow := hrow.below hb1
    go_wp2_with fail
    refine (HB.out _ hrow).mono ?_
    rintro e w2 ⟨rfl, hb2⟩
    replace hb := (by first | exact below_trans hb hb2 | exact below_trans (hb.alloc hb.size _) hb2 | exact below_trans ((hb.alloc hb.size _).alloc (hb.alloc hb.size _).size _) hb2 : Below w.heap.size w _)
    replace hrow := hrow.below hb2
    go_wp2_with fail
    refine (HC.out _ hrow).mono ?_
    rintro e w3 ⟨rfl, hb3⟩
    replace hb := (by first | exact below_trans hb hb3 | exact below_trans (hb.alloc hb.size _) hb3 | exact below_trans ((hb.alloc hb.size _).alloc (hb.alloc hb.size _).size _) hb3 : Below w.heap.size w _)
    replace hrow := hrow.below hb3
    go_wp2_with fail
    refine (HD.out _ hrow).mono ?_
    rintro e w4 ⟨rfl, hb4⟩
    replace hb := (by first | exact below_trans hb hb4 | exact below_trans (hb.alloc hb.size _) hb4 | exact below_trans ((hb.alloc hb.size _).alloc (hb.alloc hb.size _).size _) hb4 : Below w.heap.size w _)
    go_wp2_with fail
    refine (alive25_any _).mono ?_
    rintro e w5 ⟨rfl, hb5⟩
    replace hb := (by first | exact below_trans hb hb5 | exact below_trans (hb.alloc hb.size _) hb5 | exact below_trans ((hb.alloc hb.size _).alloc (hb.alloc hb.size _).size _) hb5 : Below w.heap.size w _)
    go_wp2
    go_ret
    exact ⟨rfl, hb⟩
  · go_enter Try.func6, Try.ntmps6
    go_wp2_with (go_at_call 24; refine (alive25_any _).mono ?_; rintro e w7 ⟨rfl, hb7⟩)
    go_ret
    exact ⟨rfl, hb7⟩
set_option maxRecDepth 100000 in
theorem McheckReads_walk (v : Value) (xs : List Int) (w : World) (h : Row w v (ints .u8 xs)) (g : WF .u8 xs) :
    Calls Try.prog 7 #[v] w fun e w' => e = .returned (.bool true) ∧ Below w.heap.size w w' := by
  obtain ⟨a, b, off, cap, rfl, _⟩ := id h.op
  have hb := Below.refl w.heap.size w
  by_cases hl : xs.length ≤ 500
  · have hgx := g.u8
    have hA := fun w' h' => okRead_any (.slice a xs.length cap) xs w' h' hgx (by omega)
    have hB := fun w' h' => rWhy_any (.slice a xs.length cap) xs w' h' hgx (by omega)
    have hC := fun w' h' => rmRead_any (.slice a xs.length cap) xs w' h' hgx (by omega)
    have hT := mread_len _ xs (Nat.le_refl _)
    simp only [kreadE, kreadT] at hA
    have hqW : rightB xs = ((cwhy false xs).1 == 0) := rfl
    generalize rightB xs = q at *
    generalize (mread xs).1 = T at *
    generalize (cwhy false xs).1 = W at *
    generalize (cwhy false xs).2.1 = p at *
    generalize (cwhy false xs).2.2 = n at *
    have HTL : Hid (T.length ≤ 500) := by show _ ≤ _; omega
    rcases Decidable.em (W = 0) with rfl | hW
    · rw [show q = true from hqW] at hA
      clear hqW
      simp only [eq_self, if_true] at hA
      have HA := Lib.hid hA; have HB := Lib.hid hB; have HC := Lib.hid hC
      clear hA hB hC hT
      have hrow := h
      go_enter Try.func7, Try.ntmps7
      go_wp2_with fail
      refine (HA.out _ hrow).mono ?_
      rintro e w1 ⟨t1, rfl, ho1, hb1⟩
      replace hb := (by first | exact below_trans hb hb1 | exact below_trans (hb.alloc hb.size _) hb1 | exact below_trans ((hb.alloc hb.size _).alloc (hb.alloc hb.size _).size _) hb1 : Below w.heap.size w _)
      replace hrow := hrow.below hb1
      have r1 := ho1.row
      go_wp2_with fail
      refine (HB.out _ hrow).mono ?_
      rintro e w2 ⟨rfl, hb2⟩
      replace hb := (by first | exact below_trans hb hb2 | exact below_trans (hb.alloc hb.size _) hb2 | exact below_trans ((hb.alloc hb.size _).alloc (hb.alloc hb.size _).size _) hb2 : Below w.heap.size w _)
      replace hrow := hrow.below hb2
      replace r1 := r1.below hb2
      go_wp2_with fail
      refine (HC.out _ hrow).mono ?_
      rintro e w3 ⟨t3, q3, rfl, ho3, hb3⟩
      replace hb := (by first | exact below_trans hb hb3 | exact below_trans (hb.alloc hb.size _) hb3 | exact below_trans ((hb.alloc hb.size _).alloc (hb.alloc hb.size _).size _) hb3 : Below w.heap.size w _)
      replace r1 := r1.below hb3
      have r3 := ho3.row
      clear ho1 ho3 hb1 hb2 hb3 hrow
      go_wp2_with fail
      refine (like3_any _ _ T T _ r1 r3 (by have := HTL.out; omega) (by have := HTL.out; omega)).mono ?_
      rintro e w4 ⟨rfl, hb4⟩
      replace hb := (by first | exact below_trans hb hb4 | exact below_trans (hb.alloc hb.size _) hb4 | exact below_trans ((hb.alloc hb.size _).alloc (hb.alloc hb.size _).size _) hb4 : Below w.heap.size w _)
      rw [decide_eq_true rfl]
      go_wp2_with fail
      refine (alive25_any _).mono ?_
      rintro e w5 ⟨rfl, hb5⟩
      replace hb := (by first | exact below_trans hb hb5 | exact below_trans (hb.alloc hb.size _) hb5 | exact below_trans ((hb.alloc hb.size _).alloc (hb.alloc hb.size _).size _) hb5 : Below w.heap.size w _)
      go_wp2
      go_ret
      exact ⟨rfl, hb⟩
    · have hWb : (W == 0) = false := beq_false_of_ne hW
      have hWn : (W != 0) = true := by simpa using hW
      rw [hWb] at hqW
      subst hqW
      simp only [Bool.false_eq_true, if_false] at hA
      have HA := Lib.hid hA; have HB := Lib.hid hB
      clear hA hB hC hT hW
      have hrow := h
      go_enter Try.func7, Try.ntmps7
      go_wp2_with fail
      refine (HA.out _ hrow).mono ?_
      rintro e w1 ⟨t1, rfl, ho1, hb1⟩
      replace hb := (by first | exact below_trans hb hb1 | exact below_trans (hb.alloc hb.size _) hb1 | exact below_trans ((hb.alloc hb.size _).alloc (hb.alloc hb.size _).size _) hb1 : Below w.heap.size w _)
      replace hrow := hrow.below hb1
      obtain ⟨a1, b1, o1, c1, rfl, _⟩ := id ho1.row.op
      clear ho1 hb1
      go_wp2_with fail
      refine (HB.out _ hrow).mono ?_
      rintro e w2 ⟨rfl, hb2⟩
      replace hb := (by first | exact below_trans hb hb2 | exact below_trans (hb.alloc hb.size _) hb2 | exact below_trans ((hb.alloc hb.size _).alloc (hb.alloc hb.size _).size _) hb2 : Below w.heap.size w _)
      go_wp2_with fail
      refine (alive25_any _).mono ?_
      rintro e w5 ⟨rfl, hb5⟩
      replace hb := (by first | exact below_trans hb hb5 | exact below_trans (hb.alloc hb.size _) hb5 | exact below_trans ((hb.alloc hb.size _).alloc (hb.alloc hb.size _).size _) hb5 : Below w.heap.size w _)
      go_wp2
      go_ret
      exact ⟨rfl, hb⟩
  · go_enter Try.func7, Try.ntmps7
    go_wp2_with (go_at_call 24; refine (alive25_any _).mono ?_; rintro e w7 ⟨rfl, hb7⟩)
    go_ret
    exact ⟨rfl, hb7⟩
theorem right_dec {s : List Int} (hg : Rg 0 256 s) : rightB s = decide ((mlay (mread s).1).1 = s) := by
  rw [rightB, Bool.eq_iff_iff, beq_iff_eq, decide_eq_true_iff]
  exact right_iff hg
set_option maxRecDepth 100000 in
theorem McheckJust_walk (v : Value) (xs : List Int) (w : World) (h : Row w v (ints .u8 xs)) (g : WF .u8 xs) :
    Calls Try.prog 8 #[v] w fun e w' => e = .returned (.bool true) ∧ Below w.heap.size w w' := by
  obtain ⟨a, b, off, cap, rfl, _⟩ := id h.op
  have hb := Below.refl w.heap.size w
  by_cases hl : xs.length ≤ 500
  · have hgx := g.u8
    have hA := fun w' h' => rmRead_any (.slice a xs.length cap) xs w' h' hgx (by omega)
    have hD := fun w' h' => oRight_any (.slice a xs.length cap) xs w' h' hgx (by omega)
    rw [right_dec hgx] at hD
    have hT := mread_len _ xs (Nat.le_refl _)
    have hsc := mread_sc _ xs (Nat.le_refl _) hgx
    generalize (mread xs).1 = T at *
    have hB := fun v w' h' => rmLay24_any v T w' h' (allSc_R32 hsc) (by omega)
    rw [show mlayR T = (mlay T).1 from by rw [mlayR, hsc]; rfl, show mlayE T = 0 from by rw [mlayE, hsc]; rfl] at hB
    have hln := (mlay_len _ T (Nat.le_refl _)).1
    generalize (mlay T).1 = L at *
    have HLN : Hid (L.length ≤ 6000) := by show _ ≤ _; omega
    have hLk := fun v1 v2 w' h1 h2 => like1_any v1 v2 L xs w' h1 h2 (by omega) (by omega)
    generalize decide (L = xs) = q at *
    have HA := Lib.hid hA; have HB := Lib.hid hB; have HD := Lib.hid hD; have HLK := Lib.hid hLk
    clear hA hB hD hT hsc hln hLk
    have hrow := h
    go_enter Try.func8, Try.ntmps8
    go_wp2_with fail
    refine (HA.out _ hrow).mono ?_
    rintro e w1 ⟨t1, q1, rfl, ho1, hb1⟩
    replace hb := (by first | exact below_trans hb hb1 | exact below_trans (hb.alloc hb.size _) hb1 | exact below_trans ((hb.alloc hb.size _).alloc (hb.alloc hb.size _).size _) hb1 : Below w.heap.size w _)
    replace hrow := hrow.below hb1
    go_wp2_with fail
    refine (HB.out _ _ ho1.row).mono ?_
    rintro e w2 ⟨t2, rfl, ho2, hb2⟩
    replace hb := (by first | exact below_trans hb hb2 | exact below_trans (hb.alloc hb.size _) hb2 | exact below_trans ((hb.alloc hb.size _).alloc (hb.alloc hb.size _).size _) hb2 : Below w.heap.size w _)
    replace hrow := hrow.below hb2
    have r2 := ho2.row
    clear ho1 ho2 hb1 hb2
    go_wp2_with fail
    refine (HD.out _ hrow).mono ?_
    rintro e w3 ⟨rfl, hb3⟩
    replace hb := (by first | exact below_trans hb hb3 | exact below_trans (hb.alloc hb.size _) hb3 | exact below_trans ((hb.alloc hb.size _).alloc (hb.alloc hb.size _).size _) hb3 : Below w.heap.size w _)
    replace hrow := hrow.below hb3
    replace r2 := r2.below hb3
    go_wp2_with fail
    refine (HLK.out _ _ _ r2 hrow).mono ?_
    rintro e w4 ⟨rfl, hb4⟩
    replace hb := (by first | exact below_trans hb hb4 | exact below_trans (hb.alloc hb.size _) hb4 | exact below_trans ((hb.alloc hb.size _).alloc (hb.alloc hb.size _).size _) hb4 : Below w.heap.size w _)
    go_wp2_with fail
    refine (alive25_any _).mono ?_
    rintro e w5 ⟨rfl, hb5⟩
    replace hb := (by first | exact below_trans hb hb5 | exact below_trans (hb.alloc hb.size _) hb5 | exact below_trans ((hb.alloc hb.size _).alloc (hb.alloc hb.size _).size _) hb5 : Below w.heap.size w _)
    go_wp2
    go_ret
    exact ⟨rfl, hb⟩
  · go_enter Try.func8, Try.ntmps8
    go_wp2_with (go_at_call 24; refine (alive25_any _).mono ?_; rintro e w7 ⟨rfl, hb7⟩)
    go_ret
    exact ⟨rfl, hb7⟩
theorem same_dec {xs ys : List Int} (hx : Rg 0 256 xs) (hy : Rg 0 256 ys) : sameB xs ys = (rightB xs && (rightB ys && decide (xs = ys))) := by
  rw [sameB]
  cases h1 : rightB xs with
  | false => rfl
  | true =>
    cases h2 : rightB ys with
    | false => rfl
    | true =>
      simp only [Bool.true_and]
      rw [decide_eq_decide]
      rw [right_dec hx] at h1
      rw [right_dec hy] at h2
      have e1 := of_decide_eq_true h1
      have e2 := of_decide_eq_true h2
      exact ⟨fun h => by rw [← e1, ← e2, h], fun h => by rw [h]⟩
set_option maxRecDepth 100000 in
theorem McheckSame_walk (v : Value) (ts : List Int) (v1 : Value) (xs : List Int) (v2 : Value) (ys : List Int) (w : World) (h : Row w v (ints .i32 ts)) (g : WF .i32 ts) (h1 : Row w v1 (ints .u8 xs)) (g1 : WF .u8 xs) (h2 : Row w v2 (ints .u8 ys)) (g2 : WF .u8 ys) :
    Calls Try.prog 10 #[v, v1, v2] w fun e w' => e = .returned (.bool true) ∧ Below w.heap.size w w' := by
  obtain ⟨a, b, off, cap, rfl, _⟩ := id h.op
  obtain ⟨a1, b1, off1, cap1, rfl, _⟩ := id h1.op
  obtain ⟨a2, b2, off2, cap2, rfl, _⟩ := id h2.op
  have hb := Below.refl w.heap.size w
  by_cases hl : ts.length ≤ 200 ∧ xs.length ≤ 500 ∧ ys.length ≤ 500
  · obtain ⟨hl0, hl1, hl2⟩ := hl
    have hgt : R32 ts := fun x hx => wf_i32 (g x hx)
    have hgx := g1.u8
    have hgy := g2.u8
    have hA := fun w' h' => rmLay24_any (.slice a ts.length cap) ts w' h' hgt (by omega)
    have hE := fun w' h1 h2 => oSame_any (.slice a1 xs.length cap1) (.slice a2 ys.length cap2) xs ys w' h1 h2 hgx hgy (by omega) (by omega)
    rw [same_dec hgx hgy] at hE
    have hF := fun w' h' => oRight_any (.slice a1 xs.length cap1) xs w' h' hgx (by omega)
    have hG := fun w' h' => oRight_any (.slice a2 ys.length cap2) ys w' h' hgy (by omega)
    have hLk := fun w' h1 h2 => like1_any (.slice a1 xs.length cap1) (.slice a2 ys.length cap2) xs ys w' h1 h2 (by omega) (by omega)
    generalize rightB xs = q at *
    generalize rightB ys = r at *
    generalize decide (xs = ys) = k at *
    have HF := Lib.hid hF; have HG := Lib.hid hG; have HLK := Lib.hid hLk
    clear hF hG hLk
    cases ha : allSc ts with
    | false =>
      rw [show mlayR ts = [] from by rw [mlayR, ha]; rfl, show mlayE ts = 7 from by rw [mlayE, ha]; rfl] at hA
      have HA := Lib.hid hA
      clear hA ha
      have hr0 := h
      have hr1 := h1
      have hr2 := h2
      rcases q with _ | _
      · simp only [Bool.false_and] at hE
        have HE := Lib.hid hE; clear hE
        go_enter Try.func10, Try.ntmps10
        go_wp2_with fail
        refine (HA.out _ hr0).mono ?_
        rintro e w1 ⟨t1, rfl, ho1, hb1⟩
        replace hb := (by first | exact below_trans hb hb1 | exact below_trans (hb.alloc hb.size _) hb1 | exact below_trans ((hb.alloc hb.size _).alloc (hb.alloc hb.size _).size _) hb1 : Below w.heap.size w _)
        replace hr0 := hr0.below hb1
        replace hr1 := hr1.below hb1
        replace hr2 := hr2.below hb1
        clear ho1 hb1
        go_wp2_with fail
        refine (HE.out _ hr1 hr2).mono ?_
        rintro e w5 ⟨rfl, hb5⟩
        replace hb := (by first | exact below_trans hb hb5 | exact below_trans (hb.alloc hb.size _) hb5 | exact below_trans ((hb.alloc hb.size _).alloc (hb.alloc hb.size _).size _) hb5 : Below w.heap.size w _)
        replace hr1 := hr1.below hb5
        replace hr2 := hr2.below hb5
        clear hb5
        go_wp2_with fail
        refine (HF.out _ hr1).mono ?_
        rintro e w11 ⟨rfl, hb11⟩
        replace hb := (by first | exact below_trans hb hb11 | exact below_trans (hb.alloc hb.size _) hb11 | exact below_trans ((hb.alloc hb.size _).alloc (hb.alloc hb.size _).size _) hb11 : Below w.heap.size w _)
        go_wp2_with fail
        refine (alive25_any _).mono ?_
        rintro e w14 ⟨rfl, hb14⟩
        replace hb := (by first | exact below_trans hb hb14 | exact below_trans (hb.alloc hb.size _) hb14 | exact below_trans ((hb.alloc hb.size _).alloc (hb.alloc hb.size _).size _) hb14 : Below w.heap.size w _)
        go_wp2
        go_ret
        exact ⟨rfl, hb⟩
      · rcases r with _ | _
        · simp only [Bool.false_and, Bool.true_and] at hE
          have HE := Lib.hid hE; clear hE
          go_enter Try.func10, Try.ntmps10
          go_wp2_with fail
          refine (HA.out _ hr0).mono ?_
          rintro e w1 ⟨t1, rfl, ho1, hb1⟩
          replace hb := (by first | exact below_trans hb hb1 | exact below_trans (hb.alloc hb.size _) hb1 | exact below_trans ((hb.alloc hb.size _).alloc (hb.alloc hb.size _).size _) hb1 : Below w.heap.size w _)
          replace hr0 := hr0.below hb1
          replace hr1 := hr1.below hb1
          replace hr2 := hr2.below hb1
          clear ho1 hb1
          go_wp2_with fail
          refine (HE.out _ hr1 hr2).mono ?_
          rintro e w5 ⟨rfl, hb5⟩
          replace hb := (by first | exact below_trans hb hb5 | exact below_trans (hb.alloc hb.size _) hb5 | exact below_trans ((hb.alloc hb.size _).alloc (hb.alloc hb.size _).size _) hb5 : Below w.heap.size w _)
          replace hr1 := hr1.below hb5
          replace hr2 := hr2.below hb5
          clear hb5
          go_wp2_with fail
          refine (HF.out _ hr1).mono ?_
          rintro e w11 ⟨rfl, hb11⟩
          replace hb := (by first | exact below_trans hb hb11 | exact below_trans (hb.alloc hb.size _) hb11 | exact below_trans ((hb.alloc hb.size _).alloc (hb.alloc hb.size _).size _) hb11 : Below w.heap.size w _)
          replace hr1 := hr1.below hb11
          replace hr2 := hr2.below hb11
          go_wp2_with fail
          refine (HG.out _ hr2).mono ?_
          rintro e w12 ⟨rfl, hb12⟩
          replace hb := (by first | exact below_trans hb hb12 | exact below_trans (hb.alloc hb.size _) hb12 | exact below_trans ((hb.alloc hb.size _).alloc (hb.alloc hb.size _).size _) hb12 : Below w.heap.size w _)
          go_wp2_with fail
          refine (alive25_any _).mono ?_
          rintro e w14 ⟨rfl, hb14⟩
          replace hb := (by first | exact below_trans hb hb14 | exact below_trans (hb.alloc hb.size _) hb14 | exact below_trans ((hb.alloc hb.size _).alloc (hb.alloc hb.size _).size _) hb14 : Below w.heap.size w _)
          go_wp2
          go_ret
          exact ⟨rfl, hb⟩
        · simp only [Bool.true_and] at hE
          have HE := Lib.hid hE; clear hE
          rcases k with _ | _
          all_goals
            go_enter Try.func10, Try.ntmps10
            go_wp2_with fail
            refine (HA.out _ hr0).mono ?_
            rintro e w1 ⟨t1, rfl, ho1, hb1⟩
            replace hb := (by first | exact below_trans hb hb1 | exact below_trans (hb.alloc hb.size _) hb1 | exact below_trans ((hb.alloc hb.size _).alloc (hb.alloc hb.size _).size _) hb1 : Below w.heap.size w _)
            replace hr0 := hr0.below hb1
            replace hr1 := hr1.below hb1
            replace hr2 := hr2.below hb1
            clear ho1 hb1
            go_wp2_with fail
            refine (HE.out _ hr1 hr2).mono ?_
            rintro e w5 ⟨rfl, hb5⟩
            replace hb := (by first | exact below_trans hb hb5 | exact below_trans (hb.alloc hb.size _) hb5 | exact below_trans ((hb.alloc hb.size _).alloc (hb.alloc hb.size _).size _) hb5 : Below w.heap.size w _)
            replace hr1 := hr1.below hb5
            replace hr2 := hr2.below hb5
            clear hb5
            go_wp2_with fail
            refine (HF.out _ hr1).mono ?_
            rintro e w11 ⟨rfl, hb11⟩
            replace hb := (by first | exact below_trans hb hb11 | exact below_trans (hb.alloc hb.size _) hb11 | exact below_trans ((hb.alloc hb.size _).alloc (hb.alloc hb.size _).size _) hb11 : Below w.heap.size w _)
            replace hr1 := hr1.below hb11
            replace hr2 := hr2.below hb11
            go_wp2_with fail
            refine (HG.out _ hr2).mono ?_
            rintro e w12 ⟨rfl, hb12⟩
            replace hb := (by first | exact below_trans hb hb12 | exact below_trans (hb.alloc hb.size _) hb12 | exact below_trans ((hb.alloc hb.size _).alloc (hb.alloc hb.size _).size _) hb12 : Below w.heap.size w _)
            replace hr1 := hr1.below hb12
            replace hr2 := hr2.below hb12
            go_wp2_with fail
            refine (HLK.out _ hr1 hr2).mono ?_
            rintro e w13 ⟨rfl, hb13⟩
            replace hb := (by first | exact below_trans hb hb13 | exact below_trans (hb.alloc hb.size _) hb13 | exact below_trans ((hb.alloc hb.size _).alloc (hb.alloc hb.size _).size _) hb13 : Below w.heap.size w _)
            go_wp2_with fail
            refine (alive25_any _).mono ?_
            rintro e w14 ⟨rfl, hb14⟩
            replace hb := (by first | exact below_trans hb hb14 | exact below_trans (hb.alloc hb.size _) hb14 | exact below_trans ((hb.alloc hb.size _).alloc (hb.alloc hb.size _).size _) hb14 : Below w.heap.size w _)
            go_wp2
            go_ret
            exact ⟨rfl, hb⟩
    | true =>
      rw [show mlayR ts = (mlay ts).1 from by rw [mlayR, ha]; rfl, show mlayE ts = 0 from by rw [mlayE, ha]; rfl] at hA
      have hpr := mlay_pr _ ts (Nat.le_refl _)
      have hln := (mlay_len _ ts (Nat.le_refl _)).1
      have hB := fun v w' h' => okRead_any v (mlay ts).1 w' h' (mrng hpr) (by omega)
      have hC := fun v1 v2 w' h1 h2 => oSame_any v1 v2 (mlay ts).1 (mlay ts).1 w' h1 h2 (mrng hpr) (mrng hpr) (by omega) (by omega)
      have hrt : rightB (mlay ts).1 = true := by
        rw [rightB, cwhy_mlay _ ts false (Nat.le_refl _) ha (fun h => by cases h)]; rfl
      simp only [kreadE, kreadT, hrt, if_true, eq_self, (mread_mlay _ ts (Nat.le_refl _) ha).1] at hB
      rw [same_dec (mrng hpr) (mrng hpr), hrt, decide_eq_true rfl] at hC
      simp only [Bool.true_and] at hC
      generalize (mlay ts).1 = L at *
      have HA := Lib.hid hA; have HB := Lib.hid hB; have HC := Lib.hid hC
      clear hA hB hC hpr hln hrt ha
      have hr0 := h
      have hr1 := h1
      have hr2 := h2
      rcases q with _ | _
      · simp only [Bool.false_and] at hE
        have HE := Lib.hid hE; clear hE
        go_enter Try.func10, Try.ntmps10
        go_wp2_with fail
        refine (HA.out _ hr0).mono ?_
        rintro e w1 ⟨t1, rfl, ho1, hb1⟩
        replace hb := (by first | exact below_trans hb hb1 | exact below_trans (hb.alloc hb.size _) hb1 | exact below_trans ((hb.alloc hb.size _).alloc (hb.alloc hb.size _).size _) hb1 : Below w.heap.size w _)
        replace hr0 := hr0.below hb1
        replace hr1 := hr1.below hb1
        replace hr2 := hr2.below hb1
        have rw1 := ho1.row
        clear ho1 hb1
        go_wp2_with fail
        refine (HB.out _ _ rw1).mono ?_
        rintro e w2 ⟨t2, rfl, ho2, hb2⟩
        replace hb := (by first | exact below_trans hb hb2 | exact below_trans (hb.alloc hb.size _) hb2 | exact below_trans ((hb.alloc hb.size _).alloc (hb.alloc hb.size _).size _) hb2 : Below w.heap.size w _)
        replace hr0 := hr0.below hb2
        replace hr1 := hr1.below hb2
        replace hr2 := hr2.below hb2
        replace rw1 := rw1.below hb2
        have rw2 := ho2.row
        clear ho2 hb2
        go_wp2_with fail
        refine (like3_any _ _ ts ts _ rw2 hr0 (by omega) (by omega)).mono ?_
        rintro e w3 ⟨rfl, hb3⟩
        replace hb := (by first | exact below_trans hb hb3 | exact below_trans (hb.alloc hb.size _) hb3 | exact below_trans ((hb.alloc hb.size _).alloc (hb.alloc hb.size _).size _) hb3 : Below w.heap.size w _)
        rw [decide_eq_true rfl]
        replace hr1 := hr1.below hb3
        replace hr2 := hr2.below hb3
        replace rw1 := rw1.below hb3
        clear rw2 hr0
        go_wp2_with fail
        refine (HC.out _ _ _ rw1 rw1).mono ?_
        rintro e w4 ⟨rfl, hb4⟩
        replace hb := (by first | exact below_trans hb hb4 | exact below_trans (hb.alloc hb.size _) hb4 | exact below_trans ((hb.alloc hb.size _).alloc (hb.alloc hb.size _).size _) hb4 : Below w.heap.size w _)
        replace hr1 := hr1.below hb4
        replace hr2 := hr2.below hb4
        clear hb3 hb4 rw1
        go_wp2_with fail
        refine (HE.out _ hr1 hr2).mono ?_
        rintro e w5 ⟨rfl, hb5⟩
        replace hb := (by first | exact below_trans hb hb5 | exact below_trans (hb.alloc hb.size _) hb5 | exact below_trans ((hb.alloc hb.size _).alloc (hb.alloc hb.size _).size _) hb5 : Below w.heap.size w _)
        replace hr1 := hr1.below hb5
        replace hr2 := hr2.below hb5
        clear hb5
        go_wp2_with fail
        refine (HF.out _ hr1).mono ?_
        rintro e w11 ⟨rfl, hb11⟩
        replace hb := (by first | exact below_trans hb hb11 | exact below_trans (hb.alloc hb.size _) hb11 | exact below_trans ((hb.alloc hb.size _).alloc (hb.alloc hb.size _).size _) hb11 : Below w.heap.size w _)
        go_wp2_with fail
        refine (alive25_any _).mono ?_
        rintro e w14 ⟨rfl, hb14⟩
        replace hb := (by first | exact below_trans hb hb14 | exact below_trans (hb.alloc hb.size _) hb14 | exact below_trans ((hb.alloc hb.size _).alloc (hb.alloc hb.size _).size _) hb14 : Below w.heap.size w _)
        go_wp2
        go_ret
        exact ⟨rfl, hb⟩
      · rcases r with _ | _
        · simp only [Bool.false_and, Bool.true_and] at hE
          have HE := Lib.hid hE; clear hE
          go_enter Try.func10, Try.ntmps10
          go_wp2_with fail
          refine (HA.out _ hr0).mono ?_
          rintro e w1 ⟨t1, rfl, ho1, hb1⟩
          replace hb := (by first | exact below_trans hb hb1 | exact below_trans (hb.alloc hb.size _) hb1 | exact below_trans ((hb.alloc hb.size _).alloc (hb.alloc hb.size _).size _) hb1 : Below w.heap.size w _)
          replace hr0 := hr0.below hb1
          replace hr1 := hr1.below hb1
          replace hr2 := hr2.below hb1
          have rw1 := ho1.row
          clear ho1 hb1
          go_wp2_with fail
          refine (HB.out _ _ rw1).mono ?_
          rintro e w2 ⟨t2, rfl, ho2, hb2⟩
          replace hb := (by first | exact below_trans hb hb2 | exact below_trans (hb.alloc hb.size _) hb2 | exact below_trans ((hb.alloc hb.size _).alloc (hb.alloc hb.size _).size _) hb2 : Below w.heap.size w _)
          replace hr0 := hr0.below hb2
          replace hr1 := hr1.below hb2
          replace hr2 := hr2.below hb2
          replace rw1 := rw1.below hb2
          have rw2 := ho2.row
          clear ho2 hb2
          go_wp2_with fail
          refine (like3_any _ _ ts ts _ rw2 hr0 (by omega) (by omega)).mono ?_
          rintro e w3 ⟨rfl, hb3⟩
          replace hb := (by first | exact below_trans hb hb3 | exact below_trans (hb.alloc hb.size _) hb3 | exact below_trans ((hb.alloc hb.size _).alloc (hb.alloc hb.size _).size _) hb3 : Below w.heap.size w _)
          rw [decide_eq_true rfl]
          replace hr1 := hr1.below hb3
          replace hr2 := hr2.below hb3
          replace rw1 := rw1.below hb3
          clear rw2 hr0
          go_wp2_with fail
          refine (HC.out _ _ _ rw1 rw1).mono ?_
          rintro e w4 ⟨rfl, hb4⟩
          replace hb := (by first | exact below_trans hb hb4 | exact below_trans (hb.alloc hb.size _) hb4 | exact below_trans ((hb.alloc hb.size _).alloc (hb.alloc hb.size _).size _) hb4 : Below w.heap.size w _)
          replace hr1 := hr1.below hb4
          replace hr2 := hr2.below hb4
          clear hb3 hb4 rw1
          go_wp2_with fail
          refine (HE.out _ hr1 hr2).mono ?_
          rintro e w5 ⟨rfl, hb5⟩
          replace hb := (by first | exact below_trans hb hb5 | exact below_trans (hb.alloc hb.size _) hb5 | exact below_trans ((hb.alloc hb.size _).alloc (hb.alloc hb.size _).size _) hb5 : Below w.heap.size w _)
          replace hr1 := hr1.below hb5
          replace hr2 := hr2.below hb5
          clear hb5
          go_wp2_with fail
          refine (HF.out _ hr1).mono ?_
          rintro e w11 ⟨rfl, hb11⟩
          replace hb := (by first | exact below_trans hb hb11 | exact below_trans (hb.alloc hb.size _) hb11 | exact below_trans ((hb.alloc hb.size _).alloc (hb.alloc hb.size _).size _) hb11 : Below w.heap.size w _)
          replace hr1 := hr1.below hb11
          replace hr2 := hr2.below hb11
          go_wp2_with fail
          refine (HG.out _ hr2).mono ?_
          rintro e w12 ⟨rfl, hb12⟩
          replace hb := (by first | exact below_trans hb hb12 | exact below_trans (hb.alloc hb.size _) hb12 | exact below_trans ((hb.alloc hb.size _).alloc (hb.alloc hb.size _).size _) hb12 : Below w.heap.size w _)
          go_wp2_with fail
          refine (alive25_any _).mono ?_
          rintro e w14 ⟨rfl, hb14⟩
          replace hb := (by first | exact below_trans hb hb14 | exact below_trans (hb.alloc hb.size _) hb14 | exact below_trans ((hb.alloc hb.size _).alloc (hb.alloc hb.size _).size _) hb14 : Below w.heap.size w _)
          go_wp2
          go_ret
          exact ⟨rfl, hb⟩
        · simp only [Bool.true_and] at hE
          have HE := Lib.hid hE; clear hE
          rcases k with _ | _
          all_goals
            go_enter Try.func10, Try.ntmps10
            go_wp2_with fail
            refine (HA.out _ hr0).mono ?_
            rintro e w1 ⟨t1, rfl, ho1, hb1⟩
            replace hb := (by first | exact below_trans hb hb1 | exact below_trans (hb.alloc hb.size _) hb1 | exact below_trans ((hb.alloc hb.size _).alloc (hb.alloc hb.size _).size _) hb1 : Below w.heap.size w _)
            replace hr0 := hr0.below hb1
            replace hr1 := hr1.below hb1
            replace hr2 := hr2.below hb1
            have rw1 := ho1.row
            clear ho1 hb1
            go_wp2_with fail
            refine (HB.out _ _ rw1).mono ?_
            rintro e w2 ⟨t2, rfl, ho2, hb2⟩
            replace hb := (by first | exact below_trans hb hb2 | exact below_trans (hb.alloc hb.size _) hb2 | exact below_trans ((hb.alloc hb.size _).alloc (hb.alloc hb.size _).size _) hb2 : Below w.heap.size w _)
            replace hr0 := hr0.below hb2
            replace hr1 := hr1.below hb2
            replace hr2 := hr2.below hb2
            replace rw1 := rw1.below hb2
            have rw2 := ho2.row
            clear ho2 hb2
            go_wp2_with fail
            refine (like3_any _ _ ts ts _ rw2 hr0 (by omega) (by omega)).mono ?_
            rintro e w3 ⟨rfl, hb3⟩
            replace hb := (by first | exact below_trans hb hb3 | exact below_trans (hb.alloc hb.size _) hb3 | exact below_trans ((hb.alloc hb.size _).alloc (hb.alloc hb.size _).size _) hb3 : Below w.heap.size w _)
            rw [decide_eq_true rfl]
            replace hr1 := hr1.below hb3
            replace hr2 := hr2.below hb3
            replace rw1 := rw1.below hb3
            clear rw2 hr0
            go_wp2_with fail
            refine (HC.out _ _ _ rw1 rw1).mono ?_
            rintro e w4 ⟨rfl, hb4⟩
            replace hb := (by first | exact below_trans hb hb4 | exact below_trans (hb.alloc hb.size _) hb4 | exact below_trans ((hb.alloc hb.size _).alloc (hb.alloc hb.size _).size _) hb4 : Below w.heap.size w _)
            replace hr1 := hr1.below hb4
            replace hr2 := hr2.below hb4
            clear hb3 hb4 rw1
            go_wp2_with fail
            refine (HE.out _ hr1 hr2).mono ?_
            rintro e w5 ⟨rfl, hb5⟩
            replace hb := (by first | exact below_trans hb hb5 | exact below_trans (hb.alloc hb.size _) hb5 | exact below_trans ((hb.alloc hb.size _).alloc (hb.alloc hb.size _).size _) hb5 : Below w.heap.size w _)
            replace hr1 := hr1.below hb5
            replace hr2 := hr2.below hb5
            clear hb5
            go_wp2_with fail
            refine (HF.out _ hr1).mono ?_
            rintro e w11 ⟨rfl, hb11⟩
            replace hb := (by first | exact below_trans hb hb11 | exact below_trans (hb.alloc hb.size _) hb11 | exact below_trans ((hb.alloc hb.size _).alloc (hb.alloc hb.size _).size _) hb11 : Below w.heap.size w _)
            replace hr1 := hr1.below hb11
            replace hr2 := hr2.below hb11
            go_wp2_with fail
            refine (HG.out _ hr2).mono ?_
            rintro e w12 ⟨rfl, hb12⟩
            replace hb := (by first | exact below_trans hb hb12 | exact below_trans (hb.alloc hb.size _) hb12 | exact below_trans ((hb.alloc hb.size _).alloc (hb.alloc hb.size _).size _) hb12 : Below w.heap.size w _)
            replace hr1 := hr1.below hb12
            replace hr2 := hr2.below hb12
            go_wp2_with fail
            refine (HLK.out _ hr1 hr2).mono ?_
            rintro e w13 ⟨rfl, hb13⟩
            replace hb := (by first | exact below_trans hb hb13 | exact below_trans (hb.alloc hb.size _) hb13 | exact below_trans ((hb.alloc hb.size _).alloc (hb.alloc hb.size _).size _) hb13 : Below w.heap.size w _)
            go_wp2_with fail
            refine (alive25_any _).mono ?_
            rintro e w14 ⟨rfl, hb14⟩
            replace hb := (by first | exact below_trans hb hb14 | exact below_trans (hb.alloc hb.size _) hb14 | exact below_trans ((hb.alloc hb.size _).alloc (hb.alloc hb.size _).size _) hb14 : Below w.heap.size w _)
            go_wp2
            go_ret
            exact ⟨rfl, hb⟩
  · by_cases hl0 : ts.length ≤ 200
    · by_cases hl1 : xs.length ≤ 500
      · have hl2 : ¬ ys.length ≤ 500 := fun h2 => hl ⟨hl0, hl1, h2⟩
        clear hl
        go_enter Try.func10, Try.ntmps10
        go_wp2_with (go_at_call 24; refine (alive25_any _).mono ?_; rintro e w7 ⟨rfl, hb7⟩)
        go_ret
        exact ⟨rfl, hb7⟩
      · clear hl
        go_enter Try.func10, Try.ntmps10
        go_wp2_with (go_at_call 24; refine (alive25_any _).mono ?_; rintro e w7 ⟨rfl, hb7⟩)
        go_ret
        exact ⟨rfl, hb7⟩
    · clear hl
      go_enter Try.func10, Try.ntmps10
      go_wp2_with (go_at_call 24; refine (alive25_any _).mono ?_; rintro e w7 ⟨rfl, hb7⟩)
      go_ret
      exact ⟨rfl, hb7⟩
end Go.Proofs.Ytbpjgmiedplidaa
