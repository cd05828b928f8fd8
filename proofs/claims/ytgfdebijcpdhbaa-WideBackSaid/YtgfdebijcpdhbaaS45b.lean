/- The statement of layer 45 on reading, walked. -/
import Derived.Test.YtgfdebijcpdhbaaS45
import Derived.Test.YtgfdebijcpdhbaaW45p
namespace Go.Proofs.Ytgfdebijcpdhbaa
open Go.RowKit
set_option maxHeartbeats 1000000
theorem readT_len (wd : Int) (big : Bool) (xs : List Int) : (readT wd big xs).length ≤ xs.length + 1 := by
  have h1 := textW_len wd (numW wd (big1 wd big xs))
  have h2 := numW_len wd (big1 wd big xs)
  rw [big1_len] at h2
  unfold readT; split
  · split
    · rw [List.length_append]; simp only [List.length_cons, List.length_nil]; omega
    · omega
  · simp
set_option maxRecDepth 100000 in
theorem WideReads_walk (wd : Int) (big : Bool) (v : Value) (xs : List Int) (w : World) (_hw : (Lit.int .i64 wd).wf = true) (h : Row w v (ints .u8 xs)) (g : WF .u8 xs) :
    Calls Try.prog 4 #[.int .i64 wd, .bool big, v] w fun e w' => e = .returned (.bool true) ∧ Below w.heap.size w w' := by
  obtain ⟨a, b, off, cap, rfl, _⟩ := id h.op
  have hb := Below.refl w.heap.size w
  by_cases hl : xs.length ≤ 600
  · have hgx := g.u8
    have hA := fun v w' h' => rwRead_any wd big v xs w' h' hgx (by omega)
    have hB := fun v w' h' => wStrict_any wd big v xs w' h' hgx (by omega)
    have hC := fun v w' h' => wRead_any2 wd big v xs w' h' hgx (by omega)
    have hD := fun v w' h' => oSwap_any wd v xs w' h' (by omega)
    have hE := fun v w' h' => rSwap_any wd v xs w' h' (by omega)
    have hl1 := readT_len wd big xs
    have hl2 := sw_len wd xs
    have hst : strictT wd big xs = if readE wd big xs = 0 then readT wd big xs else [] := rfl
    unfold RdP at hA hB
    generalize readT wd big xs = T at *
    generalize readE wd big xs = er at *
    generalize strictT wd big xs = ST at *
    generalize sw wd xs = Z at *
    have HTL : Hid (T.length ≤ 1000) := by show _ ≤ _; omega
    have HZL : Hid (Z.length ≤ 1000) := by show _ ≤ _; omega
    have HA := Lib.hid hA; have HC := Lib.hid hC; have HD := Lib.hid hD; have HE := Lib.hid hE
    clear hA hC hD hE hl1 hl2
    have hee : (er != er) = false := by simp
    have hrow := h
    rcases Decidable.em (er = 0) with he | he
    · rw [hst, if_pos he] at hB
      have HB := Lib.hid hB
      subst he
      clear hB hst
      go_enter Try.func4, Try.ntmps4
      go_wp2_with fail
      refine (HA.out _ _ hrow).mono ?_
      rintro e w1 ⟨t1, rfl, ho1, hb1⟩
      replace hb := (by first | exact below_trans hb hb1 | exact below_trans (hb.alloc hb.size _) hb1 | exact below_trans ((hb.alloc hb.size _).alloc (hb.alloc hb.size _).size _) hb1 : Below w.heap.size w _)
      replace hrow := hrow.below hb1
      have r1 := ho1.row
      go_wp2_with fail
      refine (HB.out _ _ hrow).mono ?_
      rintro e w2 ⟨t2, rfl, ho2, hb2⟩
      replace hb := (by first | exact below_trans hb hb2 | exact below_trans (hb.alloc hb.size _) hb2 | exact below_trans ((hb.alloc hb.size _).alloc (hb.alloc hb.size _).size _) hb2 : Below w.heap.size w _)
      replace hrow := hrow.below hb2
      replace r1 := r1.below hb2
      have r2 := ho2.row
      clear ho1 ho2 hb1 hb2
      go_wp2_with fail
      refine (like3_any _ _ T T _ r2 r1 (by have := HTL.out; omega) (by have := HTL.out; omega)).mono ?_
      rintro e w3 ⟨rfl, hb3⟩
      replace hb := (by first | exact below_trans hb hb3 | exact below_trans (hb.alloc hb.size _) hb3 | exact below_trans ((hb.alloc hb.size _).alloc (hb.alloc hb.size _).size _) hb3 : Below w.heap.size w _)
      rw [decide_eq_true rfl]
      replace hrow := hrow.below hb3
      replace r1 := r1.below hb3
      go_wp2_with fail
      refine (HC.out _ _ hrow).mono ?_
      rintro e w4 ⟨t4, rfl, ho4, hb4⟩
      replace hb := (by first | exact below_trans hb hb4 | exact below_trans (hb.alloc hb.size _) hb4 | exact below_trans ((hb.alloc hb.size _).alloc (hb.alloc hb.size _).size _) hb4 : Below w.heap.size w _)
      replace hrow := hrow.below hb4
      replace r1 := r1.below hb4
      have r4 := ho4.row
      go_wp2_with fail
      refine (like3_any _ _ T T _ r4 r1 (by have := HTL.out; omega) (by have := HTL.out; omega)).mono ?_
      rintro e w5 ⟨rfl, hb5⟩
      replace hb := (by first | exact below_trans hb hb5 | exact below_trans (hb.alloc hb.size _) hb5 | exact below_trans ((hb.alloc hb.size _).alloc (hb.alloc hb.size _).size _) hb5 : Below w.heap.size w _)
      rw [decide_eq_true rfl]
      replace hrow := hrow.below hb5
      go_wp2_with fail
      refine (HD.out _ _ hrow).mono ?_
      rintro e w6 ⟨t6, rfl, ho6, hb6⟩
      replace hb := (by first | exact below_trans hb hb6 | exact below_trans (hb.alloc hb.size _) hb6 | exact below_trans ((hb.alloc hb.size _).alloc (hb.alloc hb.size _).size _) hb6 : Below w.heap.size w _)
      replace hrow := hrow.below hb6
      have r6 := ho6.row
      go_wp2_with fail
      refine (HE.out _ _ hrow).mono ?_
      rintro e w7 ⟨t7, rfl, ho7, hb7⟩
      replace hb := (by first | exact below_trans hb hb7 | exact below_trans (hb.alloc hb.size _) hb7 | exact below_trans ((hb.alloc hb.size _).alloc (hb.alloc hb.size _).size _) hb7 : Below w.heap.size w _)
      replace r6 := r6.below hb7
      have r7 := ho7.row
      clear ho4 ho6 ho7 r1 r2 r4 hb3 hb4 hb5 hb6 hb7
      go_wp2_with fail
      refine (like1_any _ _ Z Z _ r6 r7 (by have := HZL.out; omega) (by have := HZL.out; omega)).mono ?_
      rintro e w8 ⟨rfl, hb8⟩
      replace hb := (by first | exact below_trans hb hb8 | exact below_trans (hb.alloc hb.size _) hb8 | exact below_trans ((hb.alloc hb.size _).alloc (hb.alloc hb.size _).size _) hb8 : Below w.heap.size w _)
      rw [decide_eq_true rfl]
      go_wp2_with fail
      refine (alive45_any _).mono ?_
      rintro e w9 ⟨rfl, hb9⟩
      replace hb := (by first | exact below_trans hb hb9 | exact below_trans (hb.alloc hb.size _) hb9 | exact below_trans ((hb.alloc hb.size _).alloc (hb.alloc hb.size _).size _) hb9 : Below w.heap.size w _)
      go_wp2
      go_ret
      exact ⟨rfl, hb⟩
    · rw [hst, if_neg he] at hB
      have HB := Lib.hid hB
      have he0 : (er == 0) = false := beq_false_of_ne he
      have he1 : (er != 0) = true := by rw [bne, he0]; rfl
      clear hB hst he
      go_enter Try.func4, Try.ntmps4
      go_wp2_with fail
      refine (HA.out _ _ hrow).mono ?_
      rintro e w1 ⟨t1, rfl, ho1, hb1⟩
      replace hb := (by first | exact below_trans hb hb1 | exact below_trans (hb.alloc hb.size _) hb1 | exact below_trans ((hb.alloc hb.size _).alloc (hb.alloc hb.size _).size _) hb1 : Below w.heap.size w _)
      replace hrow := hrow.below hb1
      have r1 := ho1.row
      go_wp2_with fail
      refine (HB.out _ _ hrow).mono ?_
      rintro e w2 ⟨t2, rfl, ho2, hb2⟩
      replace hb := (by first | exact below_trans hb hb2 | exact below_trans (hb.alloc hb.size _) hb2 | exact below_trans ((hb.alloc hb.size _).alloc (hb.alloc hb.size _).size _) hb2 : Below w.heap.size w _)
      replace hrow := hrow.below hb2
      replace r1 := r1.below hb2
      have r2 := ho2.row
      obtain ⟨a2, b2, o2, c2, rfl, _⟩ := id r2.op
      clear ho1 ho2 hb1 hb2
      go_wp2_with fail
      refine (HC.out _ _ hrow).mono ?_
      rintro e w4 ⟨t4, rfl, ho4, hb4⟩
      replace hb := (by first | exact below_trans hb hb4 | exact below_trans (hb.alloc hb.size _) hb4 | exact below_trans ((hb.alloc hb.size _).alloc (hb.alloc hb.size _).size _) hb4 : Below w.heap.size w _)
      replace hrow := hrow.below hb4
      replace r1 := r1.below hb4
      have r4 := ho4.row
      go_wp2_with fail
      refine (like3_any _ _ T T _ r4 r1 (by have := HTL.out; omega) (by have := HTL.out; omega)).mono ?_
      rintro e w5 ⟨rfl, hb5⟩
      replace hb := (by first | exact below_trans hb hb5 | exact below_trans (hb.alloc hb.size _) hb5 | exact below_trans ((hb.alloc hb.size _).alloc (hb.alloc hb.size _).size _) hb5 : Below w.heap.size w _)
      rw [decide_eq_true rfl]
      replace hrow := hrow.below hb5
      go_wp2_with fail
      refine (HD.out _ _ hrow).mono ?_
      rintro e w6 ⟨t6, rfl, ho6, hb6⟩
      replace hb := (by first | exact below_trans hb hb6 | exact below_trans (hb.alloc hb.size _) hb6 | exact below_trans ((hb.alloc hb.size _).alloc (hb.alloc hb.size _).size _) hb6 : Below w.heap.size w _)
      replace hrow := hrow.below hb6
      have r6 := ho6.row
      go_wp2_with fail
      refine (HE.out _ _ hrow).mono ?_
      rintro e w7 ⟨t7, rfl, ho7, hb7⟩
      replace hb := (by first | exact below_trans hb hb7 | exact below_trans (hb.alloc hb.size _) hb7 | exact below_trans ((hb.alloc hb.size _).alloc (hb.alloc hb.size _).size _) hb7 : Below w.heap.size w _)
      replace r6 := r6.below hb7
      have r7 := ho7.row
      clear ho4 ho6 ho7 r1 r2 r4 hb4 hb5 hb6 hb7
      go_wp2_with fail
      refine (like1_any _ _ Z Z _ r6 r7 (by have := HZL.out; omega) (by have := HZL.out; omega)).mono ?_
      rintro e w8 ⟨rfl, hb8⟩
      replace hb := (by first | exact below_trans hb hb8 | exact below_trans (hb.alloc hb.size _) hb8 | exact below_trans ((hb.alloc hb.size _).alloc (hb.alloc hb.size _).size _) hb8 : Below w.heap.size w _)
      rw [decide_eq_true rfl]
      go_wp2_with fail
      refine (alive45_any _).mono ?_
      rintro e w9 ⟨rfl, hb9⟩
      replace hb := (by first | exact below_trans hb hb9 | exact below_trans (hb.alloc hb.size _) hb9 | exact below_trans ((hb.alloc hb.size _).alloc (hb.alloc hb.size _).size _) hb9 : Below w.heap.size w _)
      go_wp2
      go_ret
      exact ⟨rfl, hb⟩
  · go_enter Try.func4, Try.ntmps4
    go_wp2_with (go_at_call 7; refine (alive45_any _).mono ?_; rintro e w7 ⟨rfl, hb7⟩)
    go_ret
    exact ⟨rfl, hb7⟩
end Go.Proofs.Ytgfdebijcpdhbaa
