/- The statement of layer 23 on what is read and laid again, walked. -/
import Derived.Test.YtieeafkbgmpofaaS23
import Derived.Test.YtieeafkbgmpofaaP23d
import Derived.Test.YtieeafkbgmpofaaW22l
namespace Go.Proofs.Ytieeafkbgmpofaa
open Go.RowKit
set_option maxHeartbeats 1000000
theorem allSc_R32 {xs : List Int} (h : allSc xs = true) : R32 xs := fun x hx => by have := scB_iff.1 (List.all_eq_true.1 h x hx); omega
theorem oAgain_any (v : Value) (xs : List Int) (w : World) (h : Row w v (ints .u8 xs)) (hg : Rg 0 256 xs) (hl : xs.length ≤ 5000) :
    Calls Try.prog 35 #[v] w fun e w' => ∃ t, e = .returned (.tuple #[t, .int .i64 0]) ∧ Own w.heap.size 5 w' t (ints .u8 (lay (sread xs).1).1) ∧ Below w.heap.size w w' := by
  have hR := oRead_any v xs w h hg (by omega)
  have hsc := sread_sc _ xs (Nat.le_refl _) (fun c hc => (hg c hc).1)
  have hlen := sread_len _ xs (Nat.le_refl _)
  generalize (sread xs).1 = T at *
  have hL := fun v w' h' => oLay_any v T w' h' (allSc_R32 hsc) (by omega)
  rw [hsc] at hL
  simp only [if_true, eq_self] at hL
  generalize (lay T).1 = L at *
  have HR := Lib.hid hR; have HL := Lib.hid hL
  clear hR hL hsc hlen
  go_enter Try.func35, Try.ntmps35
  go_wp2_with (first | (go_at_call 18; refine (HR.out).mono ?_; rintro e w1 ⟨t1, rfl, ho1, hb1⟩) | (go_at_call 27; refine (HL.out _ _ ho1.row).mono ?_; rintro e w2 ⟨t2, rfl, ho2, hb2⟩))
  go_ret2
  exact ⟨_, ret2 rfl rfl, ho2.mono hb1.size, below_trans hb1 hb2⟩
set_option maxRecDepth 100000 in
theorem SreadShort_walk (v : Value) (xs : List Int) (w : World) (h : Row w v (ints .u8 xs)) (g : WF .u8 xs) :
    Calls Try.prog 9 #[v] w fun e w' => e = .returned (.bool true) ∧ Below w.heap.size w w' := by
  obtain ⟨a, b, off, cap, rfl, _⟩ := id h.op
  have hb := Below.refl w.heap.size w
  by_cases hl : xs.length ≤ 500
  · have hgx := g.u8
    have hO := fun v w' h' => oRead_any v xs w' h' hgx (by omega)
    have hA := fun v w' h' => oAgain_any v xs w' h' hgx (by omega)
    have hsc := sread_sc _ xs (Nat.le_refl _) (fun c hc => (hgx c hc).1)
    have hlen := sread_len _ xs (Nat.le_refl _)
    generalize (sread xs).1 = T at *
    have hF := fun v w' h' => rfirst_any v T w' h' (by omega)
    have hidx := allSc_idx (xs := T)
    generalize idx (fun c => !scB c) T = fi at *
    have hf0 : fi < 0 := by rw [hsc] at hidx; exact of_decide_eq_true hidx.symm
    have hsl := sread_lay _ T (Nat.le_refl _) hsc
    have hll := lay_len _ T (Nat.le_refl _)
    have hrg := sev_rng (lay_sev _ T (Nat.le_refl _))
    have hR := fun v w' h' => oRead_any v (lay T).1 w' h' hrg (by omega)
    rw [hsl.1] at hR
    generalize (lay T).1 = L at *
    have HTL : Hid (T.length ≤ 500) := by show _ ≤ _; omega
    have hle : decide ((T.length : Int) ≤ xs.length) = true := decide_eq_true (by omega)
    have hle2 : (T.length : Int) ≤ xs.length := by omega
    have HO := Lib.hid hO; have HA := Lib.hid hA; have HF := Lib.hid hF; have HR := Lib.hid hR
    clear hO hA hF hR hsc hlen hidx hsl hll hrg
    have hrow := h
    go_enter Try.func9, Try.ntmps9
    go_wp2_with fail
    refine (HO.out _ _ hrow).mono ?_
    rintro e w1 ⟨t1, rfl, ho1, hb1⟩
    replace hb := (by first | exact below_trans hb hb1 | exact below_trans (hb.alloc hb.size _) hb1 | exact below_trans ((hb.alloc hb.size _).alloc (hb.alloc hb.size _).size _) hb1 : Below w.heap.size w _)
    replace hrow := hrow.below hb1
    have r1 := ho1.row
    obtain ⟨a1, b1, o1, c1, rfl, _⟩ := id r1.op
    go_wp2_with fail
    refine (HA.out _ _ hrow).mono ?_
    rintro e w2 ⟨t2, rfl, ho2, hb2⟩
    replace hb := (by first | exact below_trans hb hb2 | exact below_trans (hb.alloc hb.size _) hb2 | exact below_trans ((hb.alloc hb.size _).alloc (hb.alloc hb.size _).size _) hb2 : Below w.heap.size w _)
    replace r1 := r1.below hb2
    have r2 := ho2.row
    clear ho1 ho2 hb1 hb2 hrow
    go_wp2_with (first | (go_at_call 29; refine (HF.out _ _ r1).mono ?_; rintro e w3 ⟨rfl, hw3⟩; obtain rfl := hw3) | (go_at_call 18; refine (HR.out _ _ r2).mono ?_; rintro e w4 ⟨t4, rfl, ho4, hb4⟩; have r4 := ho4.row; replace r1 := r1.below hb4; replace hb := below_trans hb hb4; clear ho4 hb4) | (go_at_call 17; refine (like3_any _ _ T T _ r4 r1 (by have := HTL.out; omega) (by have := HTL.out; omega)).mono ?_; rintro e w6 ⟨rfl, hb6⟩; rw [decide_eq_true rfl]; replace hb := below_trans hb hb6) | (go_at_call 14; refine (alive23_any _).mono ?_; rintro e w7 ⟨rfl, hb7⟩; replace hb := below_trans hb hb7))
    go_ret
    exact ⟨rfl, hb⟩
  · go_enter Try.func9, Try.ntmps9
    go_wp2_with (go_at_call 14; refine (alive23_any _).mono ?_; rintro e w7 ⟨rfl, hb7⟩)
    go_ret
    exact ⟨rfl, hb7⟩
end Go.Proofs.Ytieeafkbgmpofaa
