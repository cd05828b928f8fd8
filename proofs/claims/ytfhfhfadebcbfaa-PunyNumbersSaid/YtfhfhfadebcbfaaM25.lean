/- The statements of layer 41, walked. (laid together by program out of single texts). -/
import Derived.Test.YtfhfhfadebcbfaaM23
import Derived.Test.YtfhfhfadebcbfaaM24
namespace Go.Proofs.Ytfhfhfadebcbfaa
open Go.RowKit
set_option maxHeartbeats 8000000
set_option maxRecDepth 100000
theorem rdP_len : ∀ (f : Nat) (t : List Int) (s : Int) (b p : Nat) (c : List Int), t.length ≤ 1000 → (rdP f t s b p c).1.length ≤ 1000
  | 0, t, s, b, p, c, h => by rw [rdP]; exact h
  | f + 1, t, s, b, p, c, h => by
    rw [rdP]
    split
    · exact h
    · split
      · simp
      · split
        · simp
        · rename_i h9
          refine rdP_len f _ _ _ _ _ ?_
          have h8 : ¬ 1000 < t.length + 1 := fun h7 => h9 (.inr h7)
          simp only [List.length_append, List.length_cons, List.length_take, List.length_drop]
          omega
theorem pnR_len (xs : List Int) (h : xs.length ≤ 1000) : (pnR xs).1.length ≤ 1000 := by
  unfold pnR
  split
  · simp
  · split
    · simp
    · exact rdP_len _ _ _ _ _ _ (by rw [List.length_take]; omega)
theorem flP_len (xs : List Int) (h : xs.length ≤ 1000) : (flP xs).1.length ≤ 1000 := by
  unfold flP
  split
  · exact pnR_len _ (by rw [List.length_drop]; omega)
  · split
    · simp
    · exact h
theorem PunyReads_walk (v : Value) (xs : List Int) (w : World) (h : Row w v (ints .u8 xs)) (g : WF .u8 xs) :
    Calls Try.prog 3 #[v] w fun e w' => e = .returned (.bool true) ∧ Below w.heap.size w w' := by
  obtain ⟨a, b, off, cap, rfl, _⟩ := id h.op
  have hu : ∀ x ∈ xs, 0 ≤ x ∧ x < 256 := fun x hx => wf_u8 (g x hx)
  by_cases hl : 300 < xs.length
  · clear h g hu
    go_enter Try.func3, Try.ntmps3
    go_wp2_with (go_at_call 6; refine (alive41_any _).mono ?_; rintro e w1 ⟨rfl, hb1⟩)
    go_ret
    exact ⟨rfl, hb1⟩
  · have hA := fun w' h' => read_any (.slice a xs.length cap) xs w' h' hu (by omega)
    have hB := fun w' h' => rread_any (.slice a xs.length cap) xs w' h' hu (by omega)
    have hC := fun w' h' => flabel_any (.slice a xs.length cap) xs w' h' hu (by omega)
    have hD := fun w' h' => rflabel_any (.slice a xs.length cap) xs w' h' hu (by omega)
    have HTL : Hid ((pnR xs).1.length ≤ 1000 ∧ (flP xs).1.length ≤ 1000) := ⟨pnR_len xs (by omega), flP_len xs (by omega)⟩
    obtain ⟨⟨T, n⟩, hT⟩ : ∃ T, pnR xs = T := ⟨_, rfl⟩
    obtain ⟨⟨S, m⟩, hS⟩ : ∃ S, flP xs = S := ⟨_, rfl⟩
    rw [hT, hS] at HTL
    rw [hT] at hA hB
    rw [hS] at hC hD
    have HA := Lib.hid hA; have HB := Lib.hid hB; have HC := Lib.hid hC; have HD := Lib.hid hD
    clear hA hB hC hD hT hS hu g
    have hb := Below.refl w.heap.size w
    go_enter Try.func3, Try.ntmps3
    go_wp2_with fail
    refine (HA.out _ (h.below hb)).mono ?_
    rintro e w1 ⟨t1, rfl, ho1, hb1⟩
    replace hb := below_trans hb hb1
    have r1 := ho1.row
    go_wp2_with fail
    refine (HB.out _ (h.below hb)).mono ?_
    rintro e w2 ⟨t2, rfl, ho2, hb2⟩
    replace hb := below_trans hb hb2
    replace r1 := r1.below hb2
    have r2 := ho2.row
    go_wp2_with fail
    refine (HC.out _ (h.below hb)).mono ?_
    rintro e w3 ⟨t3, rfl, ho3, hb3⟩
    replace hb := below_trans hb hb3
    replace r1 := r1.below hb3
    replace r2 := r2.below hb3
    have r3 := ho3.row
    go_wp2_with fail
    refine (HD.out _ (h.below hb)).mono ?_
    rintro e w4 ⟨t4, rfl, ho4, hb4⟩
    replace hb := below_trans hb hb4
    replace r1 := r1.below hb4
    replace r2 := r2.below hb4
    replace r3 := r3.below hb4
    have r4 := ho4.row
    clear ho1 ho2 ho3 ho4 hb1 hb2 hb3 hb4 h
    go_wp2_with fail
    refine (like3_any _ _ T T _ r1 r2 (Nat.le_trans HTL.out.1 (by omega)) (Nat.le_trans HTL.out.1 (by omega))).mono ?_
    rintro e w5 ⟨rfl, hb5⟩
    rw [decide_eq_true rfl]
    replace hb := below_trans hb hb5
    replace r3 := r3.below hb5
    replace r4 := r4.below hb5
    go_wp2_with fail
    refine (like3_any _ _ S S _ r3 r4 (Nat.le_trans HTL.out.2 (by omega)) (Nat.le_trans HTL.out.2 (by omega))).mono ?_
    rintro e w6 ⟨rfl, hb6⟩
    rw [decide_eq_true rfl]
    replace hb := below_trans hb hb6
    go_wp2_with fail
    refine (alive41_any _).mono ?_
    rintro e w7 ⟨rfl, hb7⟩
    replace hb := below_trans hb hb7
    go_wp2
    go_ret
    exact ⟨rfl, hb⟩
theorem PunyNumbers_walk (n many : Int) (first : Bool) (c : Int) (w : World) (hc : (Lit.int .u8 c).wf = true) :
    Calls Try.prog 4 #[.agg #[.int .i64 n, .int .i64 many], .bool first, .int .u8 c] w fun e w' => e = .returned (.bool true) ∧ Below w.heap.size w w' := by
  have hcr := wf_u8 hc
  have hA := fun w => value_any c w hcr.1 hcr.2
  have hB := fun w => rvalue_any c w hcr.1 hcr.2
  have hC := fun w => digit_any n w
  have hD := fun w => rdigit_any n w
  have hE := fun w => adapt_any n many first w
  have hF := fun w => radapt_any n many first w
  have hbd := adpP_bd n many first
  have hdb := dgtP_byte n
  generalize adpP n many first = A at *
  generalize dgtP n = G at *
  generalize valP c = V at *
  obtain ⟨V, o⟩ := V
  simp only [] at hA hB
  have HA := Lib.hid hA; have HB := Lib.hid hB; have HC := Lib.hid hC; have HD := Lib.hid hD; have HE := Lib.hid hE; have HF := Lib.hid hF
  clear hA hB hC hD hE hF
  go_enter Try.func4, Try.ntmps4
  have hB1 := below_alloc w (.cells #[.int .i64 n, .int .i64 many] 32)
  have c0 : (w.alloc (.cells #[.int .i64 n, .int .i64 many] 32)).cell? ⟨w.heap.size, 0, none⟩ = some (.int .i64 n) := World.cell?_alloc_at (w := w) _ _ _ _ rfl
  have c1 : (w.alloc (.cells #[.int .i64 n, .int .i64 many] 32)).cell? ⟨w.heap.size, 1, none⟩ = some (.int .i64 many) := World.cell?_alloc_at (w := w) _ _ _ _ rfl
  go_wp2
  generalize w.alloc (.cells #[.int .i64 n, .int .i64 many] 32) = w1 at *
  go_quiet (fail)
  have hB2 := below_drewN hB1 nq
  generalize w1.drewN nq = w2 at *
  go_wp2_with (first | (go_at_call 12; refine (HA.out _).mono ?_; rintro e w3 ⟨rfl, hb3⟩; have hB3 := below_trans hB2 hb3) | (go_at_call 13; refine (HB.out _).mono ?_; rintro e w4 ⟨rfl, hw⟩; obtain rfl := hw.symm) | (go_at_call 14; refine (HC.out _).mono ?_; rintro e w4 ⟨rfl, hw⟩; obtain rfl := hw.symm) | (go_at_call 15; refine (HD.out _).mono ?_; rintro e w4 ⟨rfl, hw⟩; obtain rfl := hw.symm) | (go_at_call 16; refine (HE.out _).mono ?_; rintro e w4 ⟨rfl, hw⟩; obtain rfl := hw.symm) | (go_at_call 17; refine (HF.out _).mono ?_; rintro e w4 ⟨rfl, hw⟩; obtain rfl := hw.symm) | (go_at_call 6; refine (alive41_any _).mono ?_; rintro e w5 ⟨rfl, hb5⟩; have hB5 := below_trans hB3 hb5))
  go_ret
  exact ⟨rfl, hB5⟩
end Go.Proofs.Ytfhfhfadebcbfaa
