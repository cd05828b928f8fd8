/- The statement of layer 45 on marks, walked. -/
import Derived.Test.YtgfdebijcpdhbaaS45b
import Derived.Test.YtgfdebijcpdhbaaW45q
namespace Go.Proofs.Ytgfdebijcpdhbaa
open Go.RowKit
set_option maxHeartbeats 1000000
theorem take_eq_len {xs l : List Int} {n : Nat} (h : decide (xs.take n = l) = true) (hl : l.length = n) : n ≤ xs.length := by
  have := congrArg List.length (of_decide_eq_true h)
  rw [List.length_take, hl] at this; omega
theorem markN_len (xs : List Int) : (markN xs = 0 ∨ markN xs = 2 ∨ markN xs = 4) ∧ (markN xs).toNat ≤ xs.length := by
  unfold markN mN
  rcases Bool.eq_false_or_eq_true (mk4b xs) with h | h
  · rw [h]; exact ⟨.inr (.inr rfl), take_eq_len h rfl⟩
  · rw [h]
    rcases Bool.eq_false_or_eq_true (mk4l xs) with h | h
    · rw [h]; exact ⟨.inr (.inr rfl), take_eq_len h rfl⟩
    · rw [h]
      rcases Bool.eq_false_or_eq_true (mk2b xs) with h | h
      · rw [h]; exact ⟨.inr (.inl rfl), take_eq_len h rfl⟩
      · rw [h]
        rcases Bool.eq_false_or_eq_true (mk2l xs) with h | h
        · rw [h]; exact ⟨.inr (.inl rfl), take_eq_len h rfl⟩
        · rw [h]; exact ⟨.inl rfl, Nat.zero_le _⟩
def autoT (xs : List Int) : List Int := if markN xs = 0 then readT 2 true xs else readT (markN xs) (markB xs) (xs.drop (markN xs).toNat)
theorem autoT_len (xs : List Int) : (autoT xs).length ≤ xs.length + 1 := by
  unfold autoT; split
  · exact readT_len _ _ _
  · have := readT_len (markN xs) (markB xs) (xs.drop (markN xs).toNat)
    rw [List.length_drop] at this; omega
set_option maxRecDepth 100000 in
theorem wAuto_any (v : Value) (xs : List Int) (w : World) (h : Row w v (ints .u8 xs)) (hg : Rg 0 256 xs) (hl : xs.length ≤ 10000) :
    Calls Try.prog 20 #[v] w fun e w' => ∃ t, e = .returned t ∧ Own w.heap.size 21 w' t (ints .i32 (autoT xs)) ∧ Below w.heap.size w w' := by
  have hM := wMark_any v xs w h hg (by omega)
  obtain ⟨hn, hnl⟩ := markN_len xs
  have hau : autoT xs = if markN xs = 0 then readT 2 true xs else readT (markN xs) (markB xs) (xs.drop (markN xs).toNat) := rfl
  have hR := fun w' h' => wRead_any2 2 true v xs w' h' hg (by omega)
  have hQ := fun v2 w' h' => wRead_any2 (markN xs) (markB xs) v2 (xs.drop (markN xs).toNat) w' h' (hg.drop _) (by rw [List.length_drop]; omega)
  generalize markN xs = n at *
  generalize markB xs = b at *
  generalize autoT xs = A at *
  rcases Decidable.em (n = 0) with h0 | h0
  · rw [if_pos h0] at hau
    rw [← hau] at hR
    subst h0
    have HM := Lib.hid hM; have HR := Lib.hid hR
    clear hM hR hQ hau hn hnl
    obtain ⟨a, b2, off, cp, rfl, _⟩ := id h.op
    go_enter Try.func20, Try.ntmps20
    go_wp2_with (first | (go_at_call 18; refine (HM.out).mono ?_; rintro e w1 ⟨rfl, hb1⟩) | (go_at_call 15; refine (HR.out _ (h.below hb1)).mono ?_; rintro e w2 ⟨t2, rfl, ho2, hb2⟩))
    go_ret
    exact ⟨_, rfl, ho2.mono hb1.size, below_trans hb1 hb2⟩
  · rw [if_neg h0] at hau
    rw [← hau] at hQ
    have hn0 : (n == 0) = false := beq_false_of_ne h0
    have HM := Lib.hid hM; have HQ := Lib.hid hQ
    clear hM hR hQ hau
    have hi0 : 0 ≤ n := by omega
    have hi1 : n ≤ xs.length := by omega
    clear h0
    obtain ⟨a, b2, off, cp, rfl, _⟩ := id h.op
    go_enter Try.func20, Try.ntmps20
    go_wp2_with (first | (go_at_call 18; refine (HM.out).mono ?_; rintro e w1 ⟨rfl, hb1⟩) | (refine wpList_slL slT_u8 _ _ rfl rfl rfl rfl (h.below hb1) (by omega) (by simp [ints]; omega) ?_; intro v3 hv3; have r3 := hv3 w1 (h.below hb1); rw [ints_drop] at r3; clear hv3) | (go_at_call 15; refine (HQ.out _ _ r3).mono ?_; rintro e w2 ⟨t2, rfl, ho2, hb2⟩))
    go_ret
    exact ⟨_, rfl, ho2.mono hb1.size, below_trans hb1 hb2⟩
set_option maxRecDepth 100000 in
theorem rAuto_any (v : Value) (xs : List Int) (w : World) (h : Row w v (ints .u8 xs)) (hg : Rg 0 256 xs) (hl : xs.length ≤ 10000) :
    Calls Try.prog 21 #[v] w fun e w' => ∃ t, e = .returned t ∧ Own w.heap.size 21 w' t (ints .i32 (autoT xs)) ∧ Below w.heap.size w w' := by
  have hM := rMark_any v xs w h hg
  obtain ⟨hn, hnl⟩ := markN_len xs
  have hau : autoT xs = if markN xs = 0 then readT 2 true xs else readT (markN xs) (markB xs) (xs.drop (markN xs).toNat) := rfl
  have hR := fun v2 w' h' => rwRead_any 2 true v2 xs w' h' hg (by omega)
  have hQ := fun v2 w' h' => rwRead_any (markN xs) (markB xs) v2 (xs.drop (markN xs).toNat) w' h' (hg.drop _) (by rw [List.length_drop]; omega)
  unfold RdP at hR hQ
  generalize markN xs = n at *
  generalize markB xs = b at *
  generalize autoT xs = A at *
  rcases Decidable.em (n = 0) with h0 | h0
  · rw [if_pos h0] at hau
    rw [← hau] at hR
    generalize readE 2 true xs = er at *
    subst h0
    have HM := Lib.hid hM; have HR := Lib.hid hR
    clear hM hR hQ hau hn hnl
    obtain ⟨a, b2, off, cp, rfl, _⟩ := id h.op
    go_enter Try.func21, Try.ntmps21
    go_wp2_with (first | (go_at_call 19; refine (HM.out).mono ?_; rintro e w1 ⟨rfl, hw1⟩; obtain rfl := hw1.symm) | (refine wpList_slL slT_u8 _ _ rfl rfl rfl rfl h (by omega) (by simp [ints]) ?_; intro v3 hv3; have r3 : Row w v3 (ints .u8 xs) := hv3 w h; clear hv3) | (go_at_call 12; refine (HR.out _ _ r3).mono ?_; rintro e w2 ⟨t2, rfl, ho2, hb2⟩))
    go_ret
    exact ⟨_, rfl, ho2, hb2⟩
  · rw [if_neg h0] at hau
    rw [← hau] at hQ
    have hn0 : (n == 0) = false := beq_false_of_ne h0
    generalize readE n b (xs.drop n.toNat) = er at *
    have HM := Lib.hid hM; have HQ := Lib.hid hQ
    clear hM hR hQ hau
    have hi0 : 0 ≤ n := by omega
    have hi1 : n ≤ xs.length := by omega
    clear h0
    obtain ⟨a, b2, off, cp, rfl, _⟩ := id h.op
    go_enter Try.func21, Try.ntmps21
    go_wp2_with (first | (go_at_call 19; refine (HM.out).mono ?_; rintro e w1 ⟨rfl, hw1⟩; obtain rfl := hw1.symm) | (refine wpList_slL slT_u8 _ _ rfl rfl rfl rfl h (by omega) (by simp [ints]; omega) ?_; intro v3 hv3; have r3 := hv3 w h; rw [ints_drop] at r3; clear hv3) | (go_at_call 12; refine (HQ.out _ _ r3).mono ?_; rintro e w2 ⟨t2, rfl, ho2, hb2⟩))
    go_ret
    exact ⟨_, rfl, ho2, hb2⟩
set_option maxRecDepth 100000 in
theorem WideMarks_walk (v : Value) (xs : List Int) (w : World) (h : Row w v (ints .u8 xs)) (g : WF .u8 xs) :
    Calls Try.prog 5 #[v] w fun e w' => e = .returned (.bool true) ∧ Below w.heap.size w w' := by
  obtain ⟨a, b, off, cap, rfl, _⟩ := id h.op
  have hb := Below.refl w.heap.size w
  by_cases hl : xs.length ≤ 600
  · have hgx := g.u8
    have hA := fun v w' h' => wMark_any v xs w' h' hgx (by omega)
    have hB := fun v w' h' => rMark_any v xs w' h' hgx
    have hC := fun v w' h' => wAuto_any v xs w' h' hgx (by omega)
    have hD := fun v w' h' => rAuto_any v xs w' h' hgx (by omega)
    have hl1 := autoT_len xs
    generalize autoT xs = T at *
    generalize markN xs = n at *
    generalize markB xs = q at *
    have HTL : Hid (T.length ≤ 1000) := by show _ ≤ _; omega
    have HA := Lib.hid hA; have HB := Lib.hid hB; have HC := Lib.hid hC; have HD := Lib.hid hD
    clear hA hB hC hD hl1
    have hnn : (n == n) = true := by simp
    have hqq : (q == q) = true := by simp
    have hrow := h
    go_enter Try.func5, Try.ntmps5
    go_wp2_with fail
    refine (HA.out _ _ hrow).mono ?_
    rintro e w1 ⟨rfl, hb1⟩
    replace hb := (by first | exact below_trans hb hb1 | exact below_trans (hb.alloc hb.size _) hb1 | exact below_trans ((hb.alloc hb.size _).alloc (hb.alloc hb.size _).size _) hb1 : Below w.heap.size w _)
    replace hrow := hrow.below hb1
    go_wp2_with fail
    refine (HB.out _ _ hrow).mono ?_
    rintro e w2 ⟨rfl, hw2⟩
    obtain rfl := hw2.symm
    go_wp2_with fail
    refine (HC.out _ _ hrow).mono ?_
    rintro e w3 ⟨t3, rfl, ho3, hb3⟩
    replace hb := (by first | exact below_trans hb hb3 | exact below_trans (hb.alloc hb.size _) hb3 | exact below_trans ((hb.alloc hb.size _).alloc (hb.alloc hb.size _).size _) hb3 : Below w.heap.size w _)
    replace hrow := hrow.below hb3
    have r3 := ho3.row
    go_wp2_with fail
    refine (HD.out _ _ hrow).mono ?_
    rintro e w4 ⟨t4, rfl, ho4, hb4⟩
    replace hb := (by first | exact below_trans hb hb4 | exact below_trans (hb.alloc hb.size _) hb4 | exact below_trans ((hb.alloc hb.size _).alloc (hb.alloc hb.size _).size _) hb4 : Below w.heap.size w _)
    replace r3 := r3.below hb4
    have r4 := ho4.row
    clear ho3 ho4
    go_wp2_with fail
    refine (like3_any _ _ T T _ r3 r4 (by have := HTL.out; omega) (by have := HTL.out; omega)).mono ?_
    rintro e w5 ⟨rfl, hb5⟩
    replace hb := (by first | exact below_trans hb hb5 | exact below_trans (hb.alloc hb.size _) hb5 | exact below_trans ((hb.alloc hb.size _).alloc (hb.alloc hb.size _).size _) hb5 : Below w.heap.size w _)
    rw [decide_eq_true rfl]
    go_wp2_with fail
    refine (alive45_any _).mono ?_
    rintro e w9 ⟨rfl, hb9⟩
    replace hb := (by first | exact below_trans hb hb9 | exact below_trans (hb.alloc hb.size _) hb9 | exact below_trans ((hb.alloc hb.size _).alloc (hb.alloc hb.size _).size _) hb9 : Below w.heap.size w _)
    go_wp2
    go_ret
    exact ⟨rfl, hb⟩
  · go_enter Try.func5, Try.ntmps5
    go_wp2_with (go_at_call 7; refine (alive45_any _).mono ?_; rintro e w7 ⟨rfl, hb7⟩)
    go_ret
    exact ⟨rfl, hb7⟩
end Go.Proofs.Ytgfdebijcpdhbaa
