/- Walks: the code of a run. -/
import Derived.Test.YtieeafkbgmpofaaW22g
import Derived.Test.YtieeafkbgmpofaaW6
import Derived.Test.YtieeafkbgmpofaaW22c
import Derived.Test.YtieeafkbgmpofaaP2
namespace Go.Proofs.Ytieeafkbgmpofaa
open Go.RowKit
set_option maxHeartbeats 2000000
def codeL (t : List Int) : List Int := if allSc t then bare (uoct (ulayL t)) else []
theorem uoct_rng {xs : List Int} (h : Rg 0 65536 xs) : Rg 0 256 (uoct xs) := by
  intro y hy
  obtain ⟨u, hu, hc⟩ := List.mem_flatMap.1 hy
  have := h u hu
  simp only [List.mem_cons, List.not_mem_nil, or_false] at hc
  omega
theorem oCode_any (v : Value) (t : List Int) (w : World) (h : Row w v (ints .i32 t)) (hr : R32 t) (hl : t.length ≤ 5000) :
    Calls Try.prog 33 #[v] w fun e w' => ∃ r, e = .returned r ∧ Own w.heap.size 5 w' r (ints .u8 (codeL t)) ∧ Below w.heap.size w w' := by
  have hL := uLay_any v t w h hr (by omega)
  have hul := ulayL_len t
  cases ha : allSc t with
  | false =>
    rw [show ulayR t = ([], 7) from by rw [ulayR, ha]; rfl] at hL
    rw [show codeL t = [] from by rw [codeL, ha]; rfl]
    have HL := Lib.hid hL; clear hL
    go_enter Try.func33, Try.ntmps33
    go_wp2_with (go_at_call 62; refine (HL.out).mono ?_; rintro e w1 ⟨u, rfl, ho, hb⟩)
    go_ret
    exact ⟨_, rfl, Own.nil _ _ _, hb⟩
  | true =>
    rw [show ulayR t = (ulayL t, 0) from by rw [ulayR, ha]; rfl] at hL
    rw [show codeL t = bare (uoct (ulayL t)) from by rw [codeL, ha]; rfl]
    have hg := ulay_rng t
    have hO := fun v w' h' => uOctets_any v (ulayL t) w' h' hg (by omega)
    have hB := fun v w' h' => oBare_any v (uoct (ulayL t)) w' h' (uoct_rng hg) (by rw [uoct_len]; omega)
    have HL := Lib.hid hL; have HO := Lib.hid hO; have HB := Lib.hid hB; clear hL hO hB
    go_enter Try.func33, Try.ntmps33
    go_wp2_with (first | (go_at_call 62; refine (HL.out).mono ?_; rintro e w1 ⟨u, rfl, ho, hb⟩) | (go_at_call 64; refine (HO.out _ _ ho.row).mono ?_; rintro e w2 ⟨u2, rfl, ho2, hb2⟩) | (go_at_call 63; refine (HB.out _ _ ho2.row).mono ?_; rintro e w3 ⟨u3, rfl, ho3, hb3⟩))
    go_ret
    exact ⟨_, rfl, ho3.mono (Nat.le_trans hb.size hb2.size), below_trans (below_trans hb hb2) hb3⟩
theorem rCode_any (v : Value) (t : List Int) (w : World) (h : Row w v (ints .i32 t)) (hr : R32 t) (hl : t.length ≤ 5000) :
    Calls Try.prog 34 #[v] w fun e w' => ∃ r, e = .returned r ∧ Own w.heap.size 5 w' r (ints .u8 (codeL t)) ∧ Below w.heap.size w w' := by
  have hL := rLay_any v t w h hr (by omega)
  have hul := ulayL_len t
  cases ha : allSc t with
  | false =>
    rw [show ulayR t = ([], 7) from by rw [ulayR, ha]; rfl] at hL
    rw [show codeL t = [] from by rw [codeL, ha]; rfl]
    have HL := Lib.hid hL; clear hL
    go_enter Try.func34, Try.ntmps34
    go_wp2_with (go_at_call 65; refine (HL.out).mono ?_; rintro e w1 ⟨u, rfl, ho, hb⟩)
    go_ret
    exact ⟨_, rfl, Own.nil _ _ _, hb⟩
  | true =>
    rw [show ulayR t = (ulayL t, 0) from by rw [ulayR, ha]; rfl] at hL
    rw [show codeL t = bare (uoct (ulayL t)) from by rw [codeL, ha]; rfl]
    have hg := ulay_rng t
    have hO := fun v w' h' => rOctets_any v (ulayL t) w' h' hg (by omega)
    have hB := fun v w' h' => rBare_any v (uoct (ulayL t)) w' h' (uoct_rng hg) (by rw [uoct_len]; omega)
    have HL := Lib.hid hL; have HO := Lib.hid hO; have HB := Lib.hid hB; clear hL hO hB
    go_enter Try.func34, Try.ntmps34
    go_wp2_with (first | (go_at_call 65; refine (HL.out).mono ?_; rintro e w1 ⟨u, rfl, ho, hb⟩) | (go_at_call 67; refine (HO.out _ _ ho.row).mono ?_; rintro e w2 ⟨u2, rfl, ho2, hb2⟩) | (go_at_call 66; refine (HB.out _ _ ho2.row).mono ?_; rintro e w3 ⟨u3, rfl, ho3, hb3⟩))
    go_ret
    exact ⟨_, rfl, ho3.mono (Nat.le_trans hb.size hb2.size), below_trans (below_trans hb hb2) hb3⟩
end Go.Proofs.Ytieeafkbgmpofaa
