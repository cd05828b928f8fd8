/- The statements of layer 23 on reading, walked. -/
import Derived.Test.YtieeafkbgmpofaaW23k
import Derived.Test.YtieeafkbgmpofaaL0
import Derived.Test.YtieeafkbgmpofaaK2
namespace Go.Proofs.Ytieeafkbgmpofaa
open Go.RowKit
set_option maxHeartbeats 1000000
theorem sread_a : sread [65, 43, 73, 109, 73, 68, 107, 81, 46, 43, 45] = ([65, 8802, 913, 46, 43], 1, false) := by
  have hd : dl [73, 109, 73, 68, 107, 81, 46, 43, 45] = 6 := by decide
  have hu : runU [73, 109, 73, 68, 107, 81] = [8802, 913] := by decide +kernel
  have ho : runO [73, 109, 73, 68, 107, 81] = false := by decide +kernel
  have ha : allD [73, 109, 73, 68, 107, 81] = true := by decide
  have hr : uread [8802, 913] = [(8802, 0), (913, 0)] := by rw [uread_bmp _ (by decide) (by decide), uread_bmp _ (by decide) (by decide), uread_nil]
  have ht : runT [73, 109, 73, 68, 107, 81] = [8802, 913] := by rw [runT, ha, hu, hr]; rfl
  have hR : runR [73, 109, 73, 68, 107, 81] = true := by rw [runR, ha, hu, hr, ho]; rfl
  have t6 : ([73, 109, 73, 68, 107, 81, 46, 43, 45] : List Int).take 6 = [73, 109, 73, 68, 107, 81] := rfl
  have s1 : sout 43 [73, 109, 73, 68, 107, 81, 46, 43, 45] = [8802, 913] := by rw [sout, hd, t6, ho, ht]; rfl
  have s2 : swr 43 [73, 109, 73, 68, 107, 81, 46, 43, 45] = false := by rw [swr, hd, t6, hR]; rfl
  have s3 : srun 43 [73, 109, 73, 68, 107, 81, 46, 43, 45] = 1 := by rw [srun, hd]; rfl
  have s4 : sn 43 [73, 109, 73, 68, 107, 81, 46, 43, 45] = 6 := by rw [sn, hd]; rfl
  have l1 : sread [46, 43, 45] = ([46, 43], 0, false) := by
    rw [sread_cons, show sn 46 [43, 45] = 0 from by decide, show ([43, 45] : List Int).drop 0 = [43, 45] from rfl, sread_cons, show sn 43 [45] = 1 from by decide, show ([45] : List Int).drop 1 = [] from rfl, sread_nil]
    decide +kernel
  rw [sread_cons, show sn 65 [43, 73, 109, 73, 68, 107, 81, 46, 43, 45] = 0 from by decide, show ([43, 73, 109, 73, 68, 107, 81, 46, 43, 45] : List Int).drop 0 = [43, 73, 109, 73, 68, 107, 81, 46, 43, 45] from rfl, sread_cons, s1, s2, s3, s4, show ([73, 109, 73, 68, 107, 81, 46, 43, 45] : List Int).drop 6 = [46, 43, 45] from rfl, l1]
  decide +kernel
theorem sread_b : sread [43] = ([43], 0, true) := by
  rw [sread_cons, show ([] : List Int).drop (sn 43 []) = [] from by simp, sread_nil]
  decide +kernel
theorem sread_c : (sread [43, 65, 65, 65, 45]).2.1 = 1 := by
  rw [sread_cons, show sn 43 [65, 65, 65, 45] = 4 from by decide, show ([65, 65, 65, 45] : List Int).drop 4 = [] from rfl, sread_nil]
  decide +kernel
set_option maxRecDepth 100000 in
theorem alive23_any (w : World) : Calls Try.prog 14 #[] w fun e w' => e = .returned (.bool true) ∧ Below w.heap.size w w' := by
  have hA := fun v w' h' => oRead_any v [65, 43, 73, 109, 73, 68, 107, 81, 46, 43, 45] w' h' (by intro x hx; simp at hx; omega) (by simp)
  rw [sread_a] at hA
  have hB := fun v w' h' => oStrict_any v [43] w' h' (by intro x hx; simp at hx; omega) (by simp)
  rw [show errS [43] = 3 from by rw [errS, sread_b]; rfl] at hB
  have hC := fun v w' h' => oShifts_any v [43, 65, 65, 65, 45] w' h' (by intro x hx; simp at hx; omega) (by simp)
  rw [sread_c] at hC
  have HA := Lib.hid hA; have HB := Lib.hid hB; have HC := Lib.hid hC
  clear hA hB hC
  have hb := Below.refl w.heap.size w
  have kc := fun (w : World) (C : Array Value) (n c : Nat) => Lib.run_convert_bytes_const (P := Try.prog) w 22 5 C n c Try.underlying22 Try.underlying5
  go_enter Try.func14, Try.ntmps14
  go_wp2_with fail
  refine (HA.out _ _ (Row.flit _ [_, _, _, _, _, _, _, _, _, _, _] rfl (by simp))).mono ?_
  rintro e w1 ⟨t1, rfl, ho1, hb1⟩
  replace hb := (by first | exact below_trans hb hb1 | exact below_trans (hb.alloc hb.size _) hb1 | exact below_trans ((hb.alloc hb.size _).alloc (hb.alloc hb.size _).size _) hb1 : Below w.heap.size w _)
  go_wp2_with fail
  refine (HB.out _ _ (Row.flit _ [_] rfl (by simp))).mono ?_
  rintro e w2 ⟨t2, rfl, ho2, hb2⟩
  replace hb := (by first | exact below_trans hb hb2 | exact below_trans (hb.alloc hb.size _) hb2 | exact below_trans ((hb.alloc hb.size _).alloc (hb.alloc hb.size _).size _) hb2 : Below w.heap.size w _)
  have r1 := ho1.row.below (below_trans (below_alloc _ _) hb2)
  clear ho1 ho2 hb1 hb2
  go_wp2_with fail
  refine (like3_any _ _ [65, 8802, 913, 46, 43] [65, 8802, 913, 46, 43] _ (r1.alloc _) (Row.ilit [65, 8802, 913, 46, 43] [_, _, _, _, _] rfl (by simp)) (by simp) (by simp)).mono ?_
  rintro e w3 ⟨rfl, hb3⟩
  replace hb := (by first | exact below_trans hb hb3 | exact below_trans (hb.alloc hb.size _) hb3 | exact below_trans ((hb.alloc hb.size _).alloc (hb.alloc hb.size _).size _) hb3 : Below w.heap.size w _)
  rw [decide_eq_true rfl]
  go_wp2_with fail
  refine (HC.out _ _ (Row.flit _ [_, _, _, _, _] rfl (by simp))).mono ?_
  rintro e w4 ⟨rfl, hb4⟩
  replace hb := (by first | exact below_trans hb hb4 | exact below_trans (hb.alloc hb.size _) hb4 | exact below_trans ((hb.alloc hb.size _).alloc (hb.alloc hb.size _).size _) hb4 : Below w.heap.size w _)
  go_wp2
  go_ret
  exact ⟨rfl, hb⟩
theorem sread_len : ∀ (k : Nat) (xs : List Int), xs.length ≤ k → (sread xs).1.length ≤ xs.length
  | _, [], _ => by rw [sread_nil]; simp
  | 0, c :: r, h => by simp at h
  | k + 1, c :: r, h => by
    have h1 := sout_len c r
    have h2 := sn_le c r
    have ih := sread_len k (r.drop (sn c r)) (by rw [List.length_drop]; simp only [List.length_cons] at h; omega)
    rw [List.length_drop] at ih
    rw [sread_cons, List.length_append, List.length_cons]
    omega
set_option maxRecDepth 100000 in
theorem SreadReads_walk (v : Value) (xs : List Int) (w : World) (h : Row w v (ints .u8 xs)) (g : WF .u8 xs) :
    Calls Try.prog 3 #[v] w fun e w' => e = .returned (.bool true) ∧ Below w.heap.size w w' := by
  obtain ⟨a, b, off, cap, rfl, _⟩ := id h.op
  have hb := Below.refl w.heap.size w
  by_cases hl : xs.length ≤ 500
  · have hgx := g.u8
    have hlm : xs.length ≤ 10000 := by omega
    have hR := fun v w' h' => rRead_any v xs w' h' hgx hlm
    have hS := fun v w' h' => oStrict_any v xs w' h' hgx hlm
    have hO := fun v w' h' => oRead_any v xs w' h' hgx hlm
    have hN := fun v w' h' => oShifts_any v xs w' h' hgx hlm
    have hTl := sread_len _ xs (Nat.le_refl _)
    have e1 : strictS xs = if (sread xs).2.2 then [] else (sread xs).1 := rfl
    have e2 : errS xs = errB (sread xs).2.2 := rfl
    rw [e1, e2] at hS
    clear e1 e2
    generalize (sread xs).1 = T at *
    generalize (sread xs).2.1 = n at *
    generalize (sread xs).2.2 = q at *
    have HTL : Hid (T.length ≤ 500) := by show _ ≤ _; omega
    have HR := Lib.hid hR; have HS := Lib.hid hS; have HO := Lib.hid hO; have HN := Lib.hid hN
    clear hR hS hO hN hTl
    have hrow := h
    rcases q with _ | _
    · go_enter Try.func3, Try.ntmps3
      go_wp2_with fail
      refine (HR.out _ _ hrow).mono ?_
      rintro e w1 ⟨t1, rfl, ho1, hb1⟩
      replace hb := (by first | exact below_trans hb hb1 | exact below_trans (hb.alloc hb.size _) hb1 | exact below_trans ((hb.alloc hb.size _).alloc (hb.alloc hb.size _).size _) hb1 : Below w.heap.size w _)
      replace hrow := hrow.below hb1
      have r1 := ho1.row
      go_wp2_with fail
      refine (HS.out _ _ hrow).mono ?_
      rintro e w2 ⟨t2, rfl, ho2, hb2⟩
      replace hb := (by first | exact below_trans hb hb2 | exact below_trans (hb.alloc hb.size _) hb2 | exact below_trans ((hb.alloc hb.size _).alloc (hb.alloc hb.size _).size _) hb2 : Below w.heap.size w _)
      replace hrow := hrow.below hb2
      replace r1 := r1.below hb2
      have r2 := ho2.row
      go_wp2_with fail
      refine (HO.out _ _ hrow).mono ?_
      rintro e w3 ⟨t3, rfl, ho3, hb3⟩
      replace hb := (by first | exact below_trans hb hb3 | exact below_trans (hb.alloc hb.size _) hb3 | exact below_trans ((hb.alloc hb.size _).alloc (hb.alloc hb.size _).size _) hb3 : Below w.heap.size w _)
      replace hrow := hrow.below hb3
      replace r1 := r1.below hb3
      replace r2 := r2.below hb3
      have r3 := ho3.row
      go_wp2_with fail
      refine (like3_any _ _ T T _ r3 r1 (by have := HTL.out; omega) (by have := HTL.out; omega)).mono ?_
      rintro e w4 ⟨rfl, hb4⟩
      replace hb := (by first | exact below_trans hb hb4 | exact below_trans (hb.alloc hb.size _) hb4 | exact below_trans ((hb.alloc hb.size _).alloc (hb.alloc hb.size _).size _) hb4 : Below w.heap.size w _)
      rw [decide_eq_true rfl]
      replace hrow := hrow.below hb4
      replace r1 := r1.below hb4
      replace r2 := r2.below hb4
      go_wp2_with fail
      refine (HN.out _ _ hrow).mono ?_
      rintro e w5 ⟨rfl, hb5⟩
      replace hb := (by first | exact below_trans hb hb5 | exact below_trans (hb.alloc hb.size _) hb5 | exact below_trans ((hb.alloc hb.size _).alloc (hb.alloc hb.size _).size _) hb5 : Below w.heap.size w _)
      replace r1 := r1.below hb5
      replace r2 := r2.below hb5
      clear ho1 ho2 ho3 r3 hb1 hb2 hb3 hb4 hb5
      have hz : errB false = 0 := rfl
      go_wp2_with (first | (go_at_call 17; refine (like3_any _ _ T T _ r2 r1 (by have := HTL.out; omega) (by have := HTL.out; omega)).mono ?_; rintro e w6 ⟨rfl, hb6⟩; rw [decide_eq_true rfl]; replace hb := below_trans hb hb6) | (go_at_call 14; refine (alive23_any _).mono ?_; rintro e w7 ⟨rfl, hb7⟩; replace hb := below_trans hb hb7))
      go_ret
      exact ⟨rfl, hb⟩
    · go_enter Try.func3, Try.ntmps3
      go_wp2_with fail
      refine (HR.out _ _ hrow).mono ?_
      rintro e w1 ⟨t1, rfl, ho1, hb1⟩
      replace hb := (by first | exact below_trans hb hb1 | exact below_trans (hb.alloc hb.size _) hb1 | exact below_trans ((hb.alloc hb.size _).alloc (hb.alloc hb.size _).size _) hb1 : Below w.heap.size w _)
      replace hrow := hrow.below hb1
      have r1 := ho1.row
      go_wp2_with fail
      refine (HS.out _ _ hrow).mono ?_
      rintro e w2 ⟨t2, rfl, ho2, hb2⟩
      replace hb := (by first | exact below_trans hb hb2 | exact below_trans (hb.alloc hb.size _) hb2 | exact below_trans ((hb.alloc hb.size _).alloc (hb.alloc hb.size _).size _) hb2 : Below w.heap.size w _)
      replace hrow := hrow.below hb2
      replace r1 := r1.below hb2
      have r2 := ho2.row
      go_wp2_with fail
      refine (HO.out _ _ hrow).mono ?_
      rintro e w3 ⟨t3, rfl, ho3, hb3⟩
      replace hb := (by first | exact below_trans hb hb3 | exact below_trans (hb.alloc hb.size _) hb3 | exact below_trans ((hb.alloc hb.size _).alloc (hb.alloc hb.size _).size _) hb3 : Below w.heap.size w _)
      replace hrow := hrow.below hb3
      replace r1 := r1.below hb3
      have r3 := ho3.row
      rw [if_pos trivial] at r2
      obtain ⟨a2, b2, o2, c2, rfl, _⟩ := id r2.op
      go_wp2_with fail
      refine (like3_any _ _ T T _ r3 r1 (by have := HTL.out; omega) (by have := HTL.out; omega)).mono ?_
      rintro e w4 ⟨rfl, hb4⟩
      replace hb := (by first | exact below_trans hb hb4 | exact below_trans (hb.alloc hb.size _) hb4 | exact below_trans ((hb.alloc hb.size _).alloc (hb.alloc hb.size _).size _) hb4 : Below w.heap.size w _)
      rw [decide_eq_true rfl]
      replace hrow := hrow.below hb4
      go_wp2_with fail
      refine (HN.out _ _ hrow).mono ?_
      rintro e w5 ⟨rfl, hb5⟩
      replace hb := (by first | exact below_trans hb hb5 | exact below_trans (hb.alloc hb.size _) hb5 | exact below_trans ((hb.alloc hb.size _).alloc (hb.alloc hb.size _).size _) hb5 : Below w.heap.size w _)
      clear ho1 ho2 ho3 r3 hb1 hb2 hb3 hb4 hb5
      have hz : errB true = 3 := rfl
      go_wp2_with (first | (go_at_call 14; refine (alive23_any _).mono ?_; rintro e w7 ⟨rfl, hb7⟩; replace hb := below_trans hb hb7))
      go_ret
      exact ⟨rfl, hb⟩
  · go_enter Try.func3, Try.ntmps3
    go_wp2_with (go_at_call 14; refine (alive23_any _).mono ?_; rintro e w7 ⟨rfl, hb7⟩)
    go_ret
    exact ⟨rfl, hb7⟩
set_option maxRecDepth 100000 in
theorem SreadRuns_walk (v : Value) (xs : List Int) (w : World) (h : Row w v (ints .u8 xs)) (g : WF .u8 xs) :
    Calls Try.prog 4 #[v] w fun e w' => e = .returned (.bool true) ∧ Below w.heap.size w w' := by
  obtain ⟨a, b, off, cap, rfl, _⟩ := id h.op
  have hb := Below.refl w.heap.size w
  by_cases hl : xs.length ≤ 500
  · have hgx := g.u8
    have hlm : xs.length ≤ 10000 := by omega
    have hR := fun v w' h' => rRun_any v xs w' h' hlm
    have hO := fun v w' h' => oRun_any v xs w' h' hgx hlm
    have HTL : Hid ((runT xs).length ≤ 500) := Nat.le_trans (runT_len xs) hl
    generalize runT xs = T at *
    generalize runR xs = R at *
    have HR := Lib.hid hR; have HO := Lib.hid hO
    clear hR hO
    have hrow := h
    rcases R with _ | _
    all_goals
      go_enter Try.func4, Try.ntmps4
      go_wp2_with fail
      refine (HO.out _ _ hrow).mono ?_
      rintro e w1 ⟨t1, rfl, ho1, hb1⟩
      replace hb := (by first | exact below_trans hb hb1 | exact below_trans (hb.alloc hb.size _) hb1 | exact below_trans ((hb.alloc hb.size _).alloc (hb.alloc hb.size _).size _) hb1 : Below w.heap.size w _)
      replace hrow := hrow.below hb1
      have r1 := ho1.row
      go_wp2_with fail
      refine (HR.out _ _ hrow).mono ?_
      rintro e w2 ⟨t2, rfl, ho2, hb2⟩
      replace hb := (by first | exact below_trans hb hb2 | exact below_trans (hb.alloc hb.size _) hb2 | exact below_trans ((hb.alloc hb.size _).alloc (hb.alloc hb.size _).size _) hb2 : Below w.heap.size w _)
      replace r1 := r1.below hb2
      have r2 := ho2.row
      clear ho1 ho2 hb1 hb2
      go_wp2_with (first | (go_at_call 17; refine (like3_any _ _ T T _ r1 r2 (by have := HTL.out; omega) (by have := HTL.out; omega)).mono ?_; rintro e w6 ⟨rfl, hb6⟩; rw [decide_eq_true rfl]; replace hb := below_trans hb hb6) | (go_at_call 14; refine (alive23_any _).mono ?_; rintro e w7 ⟨rfl, hb7⟩; replace hb := below_trans hb hb7))
      go_ret
      exact ⟨rfl, hb⟩
  · go_enter Try.func4, Try.ntmps4
    go_wp2_with (go_at_call 14; refine (alive23_any _).mono ?_; rintro e w7 ⟨rfl, hb7⟩)
    go_ret
    exact ⟨rfl, hb7⟩
end Go.Proofs.Ytieeafkbgmpofaa
