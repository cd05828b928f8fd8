/- The statements of layer 22 on signs, walked. -/
import Derived.Test.YtieeafkbgmpofaaW22l
import Derived.Test.YtieeafkbgmpofaaP22c
import Derived.Test.YtieeafkbgmpofaaL0
import Derived.Test.YtieeafkbgmpofaaK2
namespace Go.Proofs.Ytieeafkbgmpofaa
open Go.RowKit
set_option maxHeartbeats 1000000
theorem row_conv {w : World} {a : Option Addr} {n c : Nat} (xs : List Int) (h : Row w (.slice a n c) (ints .u8 xs)) (hx : 0 < xs.length) :
    (convert 22 9 (.slice a n c)).run Try.prog w = .ok (.string (strOfNums xs)) w := by
  obtain ⟨a', b, off, cap, he, HC⟩ := h.op
  cases he
  obtain ⟨x, _, rfl, _⟩ := HC.out 0 hx
  refine run_convert_bytes_arg w 22 5 Try.underlying22 Try.underlying5 b off _ _ xs rfl (fun i hi => ?_) 9 Try.underlying9
  obtain ⟨y, HY, _, hc⟩ := HC.out i hi
  rw [hc _ (Below.refl _ _), List.getD, HY.out]; rfl
set_option maxRecDepth 100000 in
theorem alive22_any (w : World) : Calls Try.prog 22 #[] w fun e w' => e = .returned (.bool true) ∧ Below w.heap.size w w' := by
  have hA := fun v w' h' => oLay_any v [65, 8802, 913, 46] w' h' (by intro x hx; simp at hx; omega) (by simp)
  rw [lay_a, show allSc [65, 8802, 913, 46] = true from by decide] at hA
  have hB := fun v w' h' => oLay_any v [43] w' h' (by intro x hx; simp at hx; omega) (by simp)
  rw [lay_b, show allSc [43] = true from by decide] at hB
  simp only [if_true, eq_self] at hA hB
  have hD1 := fun w' => oDirect_any 63 w' (by omega) (by omega)
  have hD2 := fun w' => oDirect_any 61 w' (by omega) (by omega)
  rw [show dirB 63 = true from by decide] at hD1
  rw [show dirB 61 = false from by decide] at hD2
  have hS := fun v w' h' => oSeven_any v [65, 43, 73, 109, 73, 68, 107, 81, 45, 46] w' h' (by intro x hx; simp at hx; omega) (by simp)
  rw [show ([65, 43, 73, 109, 73, 68, 107, 81, 45, 46] : List Int).all sevB = true from by decide] at hS
  have HA := Lib.hid hA; have HB := Lib.hid hB; have HD1 := Lib.hid hD1; have HD2 := Lib.hid hD2; have HS := Lib.hid hS
  clear hA hB hD1 hD2 hS
  have hb := Below.refl w.heap.size w
  go_enter Try.func22, Try.ntmps22
  go_wp2_with fail
  refine (HA.out _ _ (Row.ilit [65, 8802, 913, 46] [_, _, _, _] rfl (by simp))).mono ?_
  rintro e w1 ⟨t1, rfl, ho1, hb1⟩
  replace hb := (by first | exact below_trans hb hb1 | exact below_trans (hb.alloc hb.size _) hb1 | exact below_trans ((hb.alloc hb.size _).alloc (hb.alloc hb.size _).size _) hb1 : Below w.heap.size w _)
  have r1 := ho1.row
  clear ho1 hb1
  go_wp2_with fail
  refine (HB.out _ _ (Row.ilit [43] [_] rfl (by simp))).mono ?_
  rintro e w2 ⟨t2, rfl, ho2, hb2⟩
  replace hb := (by first | exact below_trans hb hb2 | exact below_trans (hb.alloc hb.size _) hb2 | exact below_trans ((hb.alloc hb.size _).alloc (hb.alloc hb.size _).size _) hb2 : Below w.heap.size w _)
  replace r1 := r1.below (below_trans (below_alloc _ _) hb2)
  have r2 := ho2.row
  clear ho2 hb2
  obtain ⟨a1, b1, o1, c1, rfl, _⟩ := id r1.op
  obtain ⟨a2, b2, o2, c2, rfl, _⟩ := id r2.op
  have cv1 : (convert 22 9 (.slice a1 10 c1)).run Try.prog w2 = .ok (.string ⟨#[65, 43, 73, 109, 73, 68, 107, 81, 45, 46]⟩) w2 := row_conv _ r1 (by simp)
  have cv2 : (convert 22 9 (.slice a2 2 c2)).run Try.prog w2 = .ok (.string ⟨#[43, 45]⟩) w2 := row_conv _ r2 (by simp)
  clear r2
  go_wp2_with fail
  refine (HD1.out _).mono ?_
  rintro e w3 ⟨rfl, rfl⟩
  go_wp2_with fail
  refine (HD2.out _).mono ?_
  rintro e w4 ⟨rfl, rfl⟩
  go_wp2_with fail
  refine (HS.out _ _ r1).mono ?_
  rintro e w5 ⟨rfl, hb5⟩
  replace hb := (by first | exact below_trans hb hb5 | exact below_trans (hb.alloc hb.size _) hb5 | exact below_trans ((hb.alloc hb.size _).alloc (hb.alloc hb.size _).size _) hb5 : Below w.heap.size w _)
  go_wp2
  go_ret
  exact ⟨rfl, hb⟩
set_option maxRecDepth 100000 in
theorem UsevenSigns_walk (c : Int) (v : Value) (xs : List Int) (w : World) (hc : (Lit.int .i32 c).wf = true) (h : Row w v (ints .u8 xs)) (g : WF .u8 xs) :
    Calls Try.prog 5 #[.int .i32 c, v] w fun e w' => e = .returned (.bool true) ∧ Below w.heap.size w w' := by
  obtain ⟨a, b, off, cap, rfl, _⟩ := id h.op
  have hb := Below.refl w.heap.size w
  have hcw := wf_i32 hc
  by_cases hl : xs.length ≤ 1000
  · have hgx := g.u8
    have hD := fun w' => oDirect_any c w' hcw.1 hcw.2
    have hR := fun w' => rDirect_any c w' hcw.1 hcw.2
    have hS := fun v w' h' => oSeven_any v xs w' h' hgx (by omega)
    have hT := fun v w' h' => rSeven_any v xs w' h' hgx (by omega)
    generalize dirB c = D at *
    generalize xs.all sevB = S at *
    have HD := Lib.hid hD; have HR := Lib.hid hR; have HS := Lib.hid hS; have HT := Lib.hid hT
    clear hD hR hS hT
    have hrow := h
    rcases D with _ | _ <;> rcases S with _ | _
    all_goals
      go_enter Try.func5, Try.ntmps5
      go_wp2_with fail
      refine (HD.out _).mono ?_
      rintro e w1 ⟨rfl, hw1⟩
      obtain rfl := hw1.symm
      go_wp2_with fail
      refine (HR.out _).mono ?_
      rintro e w2 ⟨rfl, hb2⟩
      replace hb := (by first | exact below_trans hb hb2 | exact below_trans (hb.alloc hb.size _) hb2 | exact below_trans ((hb.alloc hb.size _).alloc (hb.alloc hb.size _).size _) hb2 : Below w.heap.size w _)
      replace hrow := hrow.below hb2
      go_wp2_with fail
      refine (HS.out _ _ hrow).mono ?_
      rintro e w3 ⟨rfl, hb3⟩
      replace hb := (by first | exact below_trans hb hb3 | exact below_trans (hb.alloc hb.size _) hb3 | exact below_trans ((hb.alloc hb.size _).alloc (hb.alloc hb.size _).size _) hb3 : Below w.heap.size w _)
      replace hrow := hrow.below hb3
      go_wp2_with fail
      refine (HT.out _ _ hrow).mono ?_
      rintro e w4 ⟨rfl, hb4⟩
      replace hb := (by first | exact below_trans hb hb4 | exact below_trans (hb.alloc hb.size _) hb4 | exact below_trans ((hb.alloc hb.size _).alloc (hb.alloc hb.size _).size _) hb4 : Below w.heap.size w _)
      clear hrow hb2 hb3 hb4
      go_wp2_with fail
      refine (alive22_any _).mono ?_
      rintro e w5 ⟨rfl, hb5⟩
      replace hb := (by first | exact below_trans hb hb5 | exact below_trans (hb.alloc hb.size _) hb5 | exact below_trans ((hb.alloc hb.size _).alloc (hb.alloc hb.size _).size _) hb5 : Below w.heap.size w _)
      go_wp2
      go_ret
      exact ⟨rfl, hb⟩
  · go_enter Try.func5, Try.ntmps5
    go_wp2_with (go_at_call 22; refine (alive22_any _).mono ?_; rintro e w7 ⟨rfl, hb7⟩)
    go_ret
    exact ⟨rfl, hb7⟩
end Go.Proofs.Ytieeafkbgmpofaa
