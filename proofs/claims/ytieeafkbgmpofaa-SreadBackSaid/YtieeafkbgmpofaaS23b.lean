/- The statement of layer 23 on what is laid, walked. -/
import Derived.Test.YtieeafkbgmpofaaS23c
import Derived.Test.YtieeafkbgmpofaaW22m
namespace Go.Proofs.Ytieeafkbgmpofaa
open Go.RowKit
set_option maxHeartbeats 1000000
set_option maxRecDepth 100000 in
theorem SreadBack_walk (v : Value) (xs : List Int) (w : World) (h : Row w v (ints .i32 xs)) (g : WF .i32 xs) :
    Calls Try.prog 8 #[v] w fun e w' => e = .returned (.bool true) ∧ Below w.heap.size w w' := by
  obtain ⟨a, b, off, cap, rfl, _⟩ := id h.op
  have hb := Below.refl w.heap.size w
  by_cases hl : xs.length ≤ 200
  · have hgx : R32 xs := fun x hx => wf_i32 (g x hx)
    have hF := fun w' h' => rfirst_any (.slice a xs.length cap) xs w' h' (by omega)
    have hidx := allSc_idx (xs := xs)
    generalize idx (fun c => !scB c) xs = fi at *
    have HF := Lib.hid hF
    cases ha : allSc xs with
    | false =>
      rw [ha] at hidx
      have hf0 : 0 ≤ fi := by have := of_decide_eq_false hidx.symm; omega
      clear hF hidx
      go_enter Try.func8, Try.ntmps8
      go_wp2_with (first | (go_at_call 29; refine (HF.out _ h).mono ?_; rintro e w1 ⟨rfl, hw1⟩; obtain rfl := hw1) | (go_at_call 14; refine (alive23_any _).mono ?_; rintro e w7 ⟨rfl, hb7⟩; replace hb := below_trans hb hb7))
      go_ret
      exact ⟨rfl, hb⟩
    | true =>
      rw [ha] at hidx
      have hf0 : fi < 0 := of_decide_eq_true hidx.symm
      have hL := fun v w' h' => rLay22_any v xs w' h' hgx (by omega)
      rw [show layR xs = (lay xs).1 from if_pos ha, show layE xs = 0 from if_pos ha] at hL
      have hsl := sread_lay _ xs (Nat.le_refl _) ha
      have hlen := lay_len _ xs (Nat.le_refl _)
      have hrg := sev_rng (lay_sev _ xs (Nat.le_refl _))
      have hS := fun v w' h' => oStrict_any v (lay xs).1 w' h' hrg (by omega)
      have hR := fun v w' h' => oRead_any v (lay xs).1 w' h' hrg (by omega)
      have hA := fun v w' h' => oAgain_any v (lay xs).1 w' h' hrg (by omega)
      have e1 : strictS (lay xs).1 = if (sread (lay xs).1).2.2 then [] else (sread (lay xs).1).1 := rfl
      have e2 : errS (lay xs).1 = errB (sread (lay xs).1).2.2 := rfl
      rw [e1, e2, hsl.2, hsl.1, show errB false = 0 from rfl] at hS
      rw [hsl.1] at hR hA
      generalize (lay xs).1 = L at *
      generalize (lay xs).2 = N at *
      simp only [Bool.false_eq_true, if_false] at hS
      have HL := Lib.hid hL; have HS := Lib.hid hS; have HR := Lib.hid hR; have HA := Lib.hid hA; have HLL : Hid (L.length ≤ 2200) := by show _ ≤ _; omega
      clear hF hidx hL hS hR hA hsl hlen hrg e1 e2 ha
      have hrow := h
      go_enter Try.func8, Try.ntmps8
      go_wp2_with (first | (go_at_call 29; refine (HF.out _ hrow).mono ?_; rintro e w1 ⟨rfl, hw1⟩; obtain rfl := hw1) | (go_at_call 30; refine (HL.out _ _ hrow).mono ?_; rintro e w2 ⟨t2, rfl, ho2, hb2⟩; have r2 := ho2.row; replace hrow := hrow.below hb2; replace hb := below_trans hb hb2; clear ho2 hb2) | (go_at_call 16; refine (HS.out _ _ r2).mono ?_; rintro e w3 ⟨t3, rfl, ho3, hb3⟩; have r3 := ho3.row; replace r2 := r2.below hb3; replace hrow := hrow.below hb3; replace hb := below_trans hb hb3; clear ho3 hb3) | (go_at_call 35; refine (HA.out _ _ r2).mono ?_; rintro e w4 ⟨t4, rfl, ho4, hb4⟩; have r4 := ho4.row; replace r3 := r3.below hb4; replace r2 := r2.below hb4; replace hrow := hrow.below hb4; replace hb := below_trans hb hb4; clear ho4 hb4))
      go_wp2_with fail
      refine (like3_any _ _ xs xs _ r3 hrow (by omega) (by omega)).mono ?_
      rintro e w5 ⟨rfl, hb5⟩
      replace hb := (by first | exact below_trans hb hb5 | exact below_trans (hb.alloc hb.size _) hb5 | exact below_trans ((hb.alloc hb.size _).alloc (hb.alloc hb.size _).size _) hb5 : Below w.heap.size w _)
      rw [decide_eq_true rfl]
      replace r2 := r2.below hb5
      replace r4 := r4.below hb5
      replace hrow := hrow.below hb5
      go_wp2_with fail
      refine (HR.out _ _ r2).mono ?_
      rintro e w6 ⟨t6, rfl, ho6, hb6⟩
      replace hb := (by first | exact below_trans hb hb6 | exact below_trans (hb.alloc hb.size _) hb6 | exact below_trans ((hb.alloc hb.size _).alloc (hb.alloc hb.size _).size _) hb6 : Below w.heap.size w _)
      replace r2 := r2.below hb6
      replace r4 := r4.below hb6
      replace hrow := hrow.below hb6
      go_wp2_with fail
      refine (like3_any _ _ xs xs _ ho6.row hrow (by omega) (by omega)).mono ?_
      rintro e w7 ⟨rfl, hb7⟩
      replace hb := (by first | exact below_trans hb hb7 | exact below_trans (hb.alloc hb.size _) hb7 | exact below_trans ((hb.alloc hb.size _).alloc (hb.alloc hb.size _).size _) hb7 : Below w.heap.size w _)
      rw [decide_eq_true rfl]
      replace r2 := r2.below hb7
      replace r4 := r4.below hb7
      go_wp2_with fail
      refine (like1_any _ _ L L _ r4 r2 (by have := HLL.out; omega) (by have := HLL.out; omega)).mono ?_
      rintro e w8 ⟨rfl, hb8⟩
      replace hb := (by first | exact below_trans hb hb8 | exact below_trans (hb.alloc hb.size _) hb8 | exact below_trans ((hb.alloc hb.size _).alloc (hb.alloc hb.size _).size _) hb8 : Below w.heap.size w _)
      rw [decide_eq_true rfl]
      go_wp2_with fail
      refine (alive23_any _).mono ?_
      rintro e w9 ⟨rfl, hb9⟩
      replace hb := (by first | exact below_trans hb hb9 | exact below_trans (hb.alloc hb.size _) hb9 | exact below_trans ((hb.alloc hb.size _).alloc (hb.alloc hb.size _).size _) hb9 : Below w.heap.size w _)
      go_wp2
      go_ret
      exact ⟨rfl, hb⟩
  · go_enter Try.func8, Try.ntmps8
    go_wp2_with (go_at_call 14; refine (alive23_any _).mono ?_; rintro e w7 ⟨rfl, hb7⟩)
    go_ret
    exact ⟨rfl, hb7⟩
end Go.Proofs.Ytieeafkbgmpofaa
