/- The statement of layer 22 on laying, walked. -/
import Derived.Test.YtieeafkbgmpofaaS22
import Derived.Test.YtieeafkbgmpofaaW22m
namespace Go.Proofs.Ytieeafkbgmpofaa
open Go.RowKit
set_option maxHeartbeats 1000000
theorem codeL_nil {xs : List Int} (h : allSc xs = false) : codeL xs = [] := by rw [codeL, h]; rfl
set_option maxRecDepth 100000 in
theorem UsevenLays_walk (v : Value) (xs : List Int) (w : World) (h : Row w v (ints .i32 xs)) (g : WF .i32 xs) :
    Calls Try.prog 7 #[v] w fun e w' => e = .returned (.bool true) ∧ Below w.heap.size w w' := by
  obtain ⟨a, b, off, cap, rfl, _⟩ := id h.op
  have hb := Below.refl w.heap.size w
  by_cases hl : xs.length ≤ 200
  · have hgx : R32 xs := fun x hx => wf_i32 (g x hx)
    have hA := fun v w' h' => oLay_any v xs w' h' hgx (by omega)
    have hB := fun v w' h' => rLay22_any v xs w' h' hgx (by omega)
    have hN := fun v w' h' => oRuns_any v xs w' h' hgx (by omega)
    have hE := fun v w' h' => oLen_any v xs w' h' hgx (by omega)
    have hC := fun v w' h' => oCode_any v xs w' h' hgx (by omega)
    have hD := fun v w' h' => rCode_any v xs w' h' hgx (by omega)
    have hcl := codeL_len xs
    have hll : (if allSc xs then (lay xs).1 else []).length ≤ 2200 := by
      have h2 := lay_len _ xs (Nat.le_refl _)
      split
      · omega
      · simp
    have e1 : layR xs = if allSc xs then (lay xs).1 else [] := rfl
    have e2 : layE xs = if allSc xs then 0 else 7 := rfl
    rw [e1, e2] at hB
    clear e1 e2
    generalize (if allSc xs then (lay xs).1 else []) = L at *
    generalize (if allSc xs then (0 : Int) else 7) = er at *
    generalize (lay xs).2 = N at *
    generalize codeL xs = cd at *
    have HA := Lib.hid hA; have HB := Lib.hid hB; have HN := Lib.hid hN; have HE := Lib.hid hE; have HC := Lib.hid hC; have HD := Lib.hid hD; have HCL : Hid (cd.length ≤ 2000) := (by show _ ≤ _; omega); have HLL := Lib.hid hll
    clear hA hB hN hE hC hD hcl hll
    have hee : (er == er) = true := by simp
    have hnn : (((N : Nat) : Int) == (N : Int)) = true := by simp
    have hqq : (((L.length : Nat) : Int) == (L.length : Int)) = true := by simp
    have hrow := h
    go_enter Try.func7, Try.ntmps7
    go_wp2_with fail
    refine (HA.out _ _ hrow).mono ?_
    rintro e w1 ⟨t1, rfl, ho1, hb1⟩
    replace hb := (by first | exact below_trans hb hb1 | exact below_trans (hb.alloc hb.size _) hb1 | exact below_trans ((hb.alloc hb.size _).alloc (hb.alloc hb.size _).size _) hb1 : Below w.heap.size w _)
    replace hrow := hrow.below hb1
    have r1 := ho1.row
    go_wp2_with fail
    refine (HB.out _ _ hrow).mono ?_
    rintro e w2 ⟨t2, rfl, ho2, hb2⟩
    replace hb := (by first | exact below_trans hb hb2 | exact below_trans (hb.alloc hb.size _) hb2 | exact below_trans ((hb.alloc hb.size _).alloc (hb.alloc hb.size _).size _) hb2 : Below w.heap.size w _)
    replace hrow := hrow.below hb2
    replace r1 := r1.below hb2
    have r2 := ho2.row
    clear ho1 ho2 hb1 hb2
    obtain ⟨a2, b2, o2, c2, rfl, _⟩ := id r2.op
    go_wp2_with fail
    refine (like1_any _ _ L L _ r1 r2 (by have := HLL.out; omega) (by have := HLL.out; omega)).mono ?_
    rintro e w3 ⟨rfl, hb3⟩
    replace hb := (by first | exact below_trans hb hb3 | exact below_trans (hb.alloc hb.size _) hb3 | exact below_trans ((hb.alloc hb.size _).alloc (hb.alloc hb.size _).size _) hb3 : Below w.heap.size w _)
    rw [decide_eq_true rfl]
    replace hrow := hrow.below hb3
    go_wp2_with fail
    refine (HN.out _ _ hrow).mono ?_
    rintro e w4 ⟨rfl, hb4⟩
    replace hb := (by first | exact below_trans hb hb4 | exact below_trans (hb.alloc hb.size _) hb4 | exact below_trans ((hb.alloc hb.size _).alloc (hb.alloc hb.size _).size _) hb4 : Below w.heap.size w _)
    replace hrow := hrow.below hb4
    go_wp2_with fail
    refine (HE.out _ _ hrow).mono ?_
    rintro e w5 ⟨rfl, hb5⟩
    replace hb := (by first | exact below_trans hb hb5 | exact below_trans (hb.alloc hb.size _) hb5 | exact below_trans ((hb.alloc hb.size _).alloc (hb.alloc hb.size _).size _) hb5 : Below w.heap.size w _)
    replace hrow := hrow.below hb5
    go_wp2_with fail
    refine (HC.out _ _ hrow).mono ?_
    rintro e w6 ⟨t6, rfl, ho6, hb6⟩
    replace hb := (by first | exact below_trans hb hb6 | exact below_trans (hb.alloc hb.size _) hb6 | exact below_trans ((hb.alloc hb.size _).alloc (hb.alloc hb.size _).size _) hb6 : Below w.heap.size w _)
    replace hrow := hrow.below hb6
    have r6 := ho6.row
    go_wp2_with fail
    refine (HD.out _ _ hrow).mono ?_
    rintro e w7 ⟨t7, rfl, ho7, hb7⟩
    replace hb := (by first | exact below_trans hb hb7 | exact below_trans (hb.alloc hb.size _) hb7 | exact below_trans ((hb.alloc hb.size _).alloc (hb.alloc hb.size _).size _) hb7 : Below w.heap.size w _)
    replace r6 := r6.below hb7
    have r7 := ho7.row
    clear ho6 ho7 hb3 hb4 hb5 hb6 hb7
    go_wp2_with fail
    refine (like1_any _ _ cd cd _ r6 r7 (by have := HCL.out; omega) (by have := HCL.out; omega)).mono ?_
    rintro e w8 ⟨rfl, hb8⟩
    replace hb := (by first | exact below_trans hb hb8 | exact below_trans (hb.alloc hb.size _) hb8 | exact below_trans ((hb.alloc hb.size _).alloc (hb.alloc hb.size _).size _) hb8 : Below w.heap.size w _)
    rw [decide_eq_true rfl]
    go_wp2_with fail
    refine (alive22_any _).mono ?_
    rintro e w9 ⟨rfl, hb9⟩
    replace hb := (by first | exact below_trans hb hb9 | exact below_trans (hb.alloc hb.size _) hb9 | exact below_trans ((hb.alloc hb.size _).alloc (hb.alloc hb.size _).size _) hb9 : Below w.heap.size w _)
    go_wp2
    go_ret
    exact ⟨rfl, hb⟩
  · go_enter Try.func7, Try.ntmps7
    go_wp2_with (go_at_call 22; refine (alive22_any _).mono ?_; rintro e w7 ⟨rfl, hb7⟩)
    go_ret
    exact ⟨rfl, hb7⟩
end Go.Proofs.Ytieeafkbgmpofaa
