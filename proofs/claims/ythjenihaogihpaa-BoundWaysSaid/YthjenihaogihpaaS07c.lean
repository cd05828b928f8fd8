/- The statement of layer 7 on the ways from place to place, walked. -/
import Derived.Test.YthjenihaogihpaaS07b
import Derived.Test.YthjenihaogihpaaP07d
namespace Go.Proofs.Ythjenihaogihpaa
open Go.RowKit
set_option maxHeartbeats 1000000
set_option maxRecDepth 100000 in
theorem BoundWays_walk (v : Value) (xs : List Int) (w : World) (h : Row w v (ints .u8 xs)) (g : WF .u8 xs) :
    Calls Try.prog 7 #[v] w fun e w' => e = .returned (.bool true) ∧ Below w.heap.size w w' := by
  obtain ⟨a, b, off, cap, rfl, _⟩ := id h.op
  have hb := Below.refl w.heap.size w
  by_cases hl : xs.length ≤ 300
  · have hgx := g.u8
    have hlm : xs.length ≤ 1000000 := by omega
    have hpl := places_max hlm
    have hpos : 0 < (places xs).length := by rw [places_length]; omega
    have hP := fun v w' h' => oPlaces_any v xs w' h' hgx hlm
    have hA := fun v n w' h' => oAt_any v xs n w' h' hgx hlm
    have hN := fun v n w' h' => oNext_any v xs n w' h' hgx hlm
    have hB := fun v n w' h' => oBack_any v xs n w' h' hgx hlm
    have hM := fun v n w' h' hn => oNth_any v xs n w' h' hgx hlm hn
    have hw1 := fun k y => @pway xs k y
    have hw2 := fun k y z => @pway2 xs k y z
    have hr := fun k y (h : (places xs)[k]? = some y) => places_rng xs y (List.mem_of_getElem? h)
    have hf : (places xs)[0]? = some 0 := rfl
    have hlast := places_last xs
    have he := pends xs
    have hAe := fun v w' h' => oAt_any v xs (-1) w' h' hgx hlm
    have hBe := fun v w' h' => oBack_any v xs 0 w' h' hgx hlm
    have hNe := fun v w' h' => oNext_any v xs xs.length w' h' hgx hlm
    rw [he.1] at hAe; rw [he.2.1] at hBe; rw [he.2.2] at hNe
    clear he
    generalize pnext xs = qn at *
    generalize pback xs = qb at *
    generalize pnth xs = qm at *
    generalize places xs = l at *
    have HP := Lib.hid hP; have HA := Lib.hid hA; have HN := Lib.hid hN; have HB := Lib.hid hB; have HM := Lib.hid hM
    have HW1 := Lib.hid hw1; have HW2 := Lib.hid hw2; have HR := Lib.hid hr; have HF := Lib.hid hf; have HL := Lib.hid hlast; have HAE := Lib.hid hAe; have HBE := Lib.hid hBe; have HNE := Lib.hid hNe
    clear hP hA hN hB hM hw1 hw2 hr hf hlast hAe hBe hNe
    have hrow := h
    have hne : ((l.length : Int) == 0) = false := beq_false_of_ne (by omega)
    obtain ⟨m, HMM⟩ : ∃ m : Nat, Hid (l.length = m + 1) := ⟨l.length - 1, by show _ = _; omega⟩
    go_enter Try.func7, Try.ntmps7
    go_wp2_with fail
    refine (HP.out _ _ hrow).mono ?_
    rintro e w1 ⟨t1, rfl, ho1, hb1⟩
    replace hb := (by first | exact below_trans hb hb1 | exact below_trans (hb.alloc hb.size _) hb1 | exact below_trans ((hb.alloc hb.size _).alloc (hb.alloc hb.size _).size _) hb1 : Below w.heap.size w _)
    replace hrow := hrow.below hb1
    have hb0 := hb
    obtain ⟨a1, b1, o1, c1, rfl, C1⟩ := ho1.row.op
    clear ho1 hb1
    obtain ⟨y0, X0, rfl, d0⟩ := C1.out 0 hpos
    have e0 : y0 = 0 := by have h9 := X0.out; rw [HF.out] at h9; exact (Option.some.inj h9).symm
    subst e0
    replace d0 := d0 _ (Below.refl _ _)
    simp only [Nat.add_zero] at d0
    obtain ⟨ym, XM, _, dm⟩ := C1.out m (by have := HMM.out; omega)
    have em : ym = xs.length := by
      have h9 := XM.out
      have h8 := HL.out
      rw [show l.length - 1 = m by have := HMM.out; omega, h9] at h8
      exact Option.some.inj h8
    subst em
    replace dm := dm _ (Below.refl _ _)
    clear X0 XM
    rw [HMM.out]
    have hm2 : m ≤ 2000000 := by have := HMM.out; omega
    clear hpos hpl hne
    go_wp2_with fail
    go_loopw [34] (fun i wr => ∃ (k : Nat), i = .int .i64 k ∧ k ≤ m + 1 ∧ Below w1.heap.size w1 wr) (fun i _ => m + 1 - (intOf i).toNat)
    case atStart => exact ⟨0, rfl, Nat.zero_le _, Below.refl _ _⟩
    case round =>
      obtain ⟨k, rfl, hk, hbr⟩ := hrel
      have hrw := hrow.below hbr
      by_cases hlt : k < m + 1
      · obtain ⟨y, X, _, d⟩ := C1.out k (by have := HMM.out; omega)
        have hy := HR.out k y X.out
        have hA : ∀ w', Row w' (Value.slice a xs.length cap) (ints .u8 xs) → Calls Try.prog 27 #[Value.slice a xs.length cap, .int .i64 y] w' fun e w'' => e = .returned (.bool true) ∧ Below w'.heap.size w' w'' := fun w' h' => by
          have h9 := HA.out _ y w' h'; rw [(HW1.out k y X.out).1] at h9; exact h9
        have hM : ∀ w', Row w' (Value.slice a xs.length cap) (ints .u8 xs) → Calls Try.prog 32 #[Value.slice a xs.length cap, .int .i64 k] w' fun e w'' => e = .returned (.int .i64 y) ∧ Below w'.heap.size w' w'' := fun w' h' => by
          have h9 := HM.out _ k w' h' (by omega); rw [(HW1.out k y X.out).2] at h9; exact h9
        have d1 := d wr hbr
        have HA2 := Lib.hid hA; have HM2 := Lib.hid hM; clear hA hM
        rcases Nat.eq_zero_or_pos k with rfl | hkp
        · simp only [Nat.add_zero] at d1
          go_wp2_with fail
          have hc2 := hbr.drew
          refine wp_region_held_drew (S := fun w' => Below w1.heap.size w1 w') (by kernel_rfl) hc2 (fun hHeld => ?_)
          refine wpAnyH_take (i := 0) (v := (Value.slice a xs.length cap)) rfl (by kernel_rfl) (by kernel_rfl) (by kernel_rfl) (fun _ _ _ h => h) (Or.inl ⟨by rfl, fun _ _ => by go_simp⟩) hHeld ?_
          simp only [Act.put, List.getElem_toArray, List.getElem_cons_zero, List.setIfInBounds_toArray, List.set_cons_zero, List.set_cons_succ]
          refine wpAnyH_take (i := 1) (v := (.int .i64 y)) rfl (by kernel_rfl) (by kernel_rfl) (by kernel_rfl) (fun _ _ _ h => h) (Or.inl ⟨by rfl, fun _ _ => by go_simp⟩) hHeld ?_
          simp only [Act.put, List.getElem_toArray, List.getElem_cons_succ, List.getElem_cons_zero, List.setIfInBounds_toArray, List.set_cons_zero, List.set_cons_succ]
          refine wpAnyH_ready (rs := [2]) (by kernel_rfl) (by simp) ?_
          refine AllReadyH.cons rfl (fun K hK => ?_) AllReadyH.nil
          simp only [List.getElem_toArray, List.getElem_cons_succ, List.getElem_cons_zero]
          go_simp
          (go_at_call 27; refine (HA2.out _ (hrow.below hc2)).mono ?_; rintro e w3 ⟨rfl, hb3⟩; have hc3 := below_trans hc2 hb3)
          refine hK.out _ _ hc3 (fun hHeld => ?_)
          clear hK K
          refine wpAnyH_take (i := 3) (v := (.bool false)) rfl (by kernel_rfl) (by kernel_rfl) (by kernel_rfl) (fun _ _ _ h => h) (Or.inl ⟨by rfl, fun _ _ => by go_simp⟩) hHeld ?_
          simp only [Act.put, List.getElem_toArray, List.getElem_cons_succ, List.getElem_cons_zero, List.setIfInBounds_toArray, List.set_cons_zero, List.set_cons_succ]
          refine wpAnyH_take (i := 4) (v := (.bool false)) rfl (by kernel_rfl) (by kernel_rfl) (by kernel_rfl) (fun _ _ _ h => h) (Or.inl ⟨by rfl, fun _ _ => by go_simp⟩) hHeld ?_
          simp only [Act.put, List.getElem_toArray, List.getElem_cons_succ, List.getElem_cons_zero, List.setIfInBounds_toArray, List.set_cons_zero, List.set_cons_succ]
          refine wpAnyH_take (i := 5) (v := (Value.slice a xs.length cap)) rfl (by kernel_rfl) (by kernel_rfl) (by kernel_rfl) (fun _ _ _ h => h) (Or.inl ⟨by rfl, fun _ _ => by go_simp⟩) hHeld ?_
          simp only [Act.put, List.getElem_toArray, List.getElem_cons_succ, List.getElem_cons_zero, List.setIfInBounds_toArray, List.set_cons_zero, List.set_cons_succ]
          refine wpAnyH_take (i := 6) (v := (.int .i64 0)) rfl (by kernel_rfl) (by kernel_rfl) (by kernel_rfl) (fun _ _ _ h => h) (Or.inl ⟨by rfl, fun _ _ => by go_simp⟩) hHeld ?_
          simp only [Act.put, List.getElem_toArray, List.getElem_cons_succ, List.getElem_cons_zero, List.setIfInBounds_toArray, List.set_cons_zero, List.set_cons_succ]
          refine wpAnyH_take (i := 8) (v := (.int .i64 y)) rfl (by kernel_rfl) (by kernel_rfl) (by kernel_rfl) (fun _ _ _ h => h) (Or.inl ⟨by rfl, fun _ _ => by go_simp⟩) hHeld ?_
          simp only [Act.put, List.getElem_toArray, List.getElem_cons_succ, List.getElem_cons_zero, List.setIfInBounds_toArray, List.set_cons_zero, List.set_cons_succ]
          refine wpAnyH_ready (rs := [7]) (by kernel_rfl) (by simp) ?_
          refine AllReadyH.cons rfl (fun K hK => ?_) AllReadyH.nil
          simp only [List.getElem_toArray, List.getElem_cons_succ, List.getElem_cons_zero]
          go_simp
          (go_at_call 32; refine (HM2.out _ (hrow.below hc3)).mono ?_; rintro e w4 ⟨rfl, hb4⟩; have hc4 := below_trans hc3 hb4)
          refine hK.out _ _ hc4 (fun hHeld => ?_)
          clear hK K
          refine wpAnyH_take (i := 9) (v := (.bool false)) rfl (by kernel_rfl) (by kernel_rfl) (by kernel_rfl) (fun _ _ _ h => h) (Or.inl ⟨by rfl, fun _ _ => by go_simp⟩) hHeld ?_
          simp only [Act.put, List.getElem_toArray, List.getElem_cons_succ, List.getElem_cons_zero, List.setIfInBounds_toArray, List.set_cons_zero, List.set_cons_succ]
          refine wpAnyH_take (i := 10) (v := (.bool false)) rfl (by kernel_rfl) (by kernel_rfl) (by kernel_rfl) (fun _ _ _ h => h) (Or.inl ⟨by rfl, fun _ _ => by go_simp⟩) hHeld ?_
          simp only [Act.put, List.getElem_toArray, List.getElem_cons_succ, List.getElem_cons_zero, List.setIfInBounds_toArray, List.set_cons_zero, List.set_cons_succ]
          refine wpAnyH_take (i := 11) (v := (.bool false)) rfl (by kernel_rfl) (by kernel_rfl) (by kernel_rfl) (fun _ _ _ h => h) (Or.inl ⟨by rfl, fun _ _ => by go_simp⟩) hHeld ?_
          simp only [Act.put, List.getElem_toArray, List.getElem_cons_succ, List.getElem_cons_zero, List.setIfInBounds_toArray, List.set_cons_zero, List.set_cons_succ]
          refine wpAnyH_take (i := 12) (v := (.int .i64 0)) rfl (by kernel_rfl) (by kernel_rfl) (by kernel_rfl) (fun _ _ _ h => h) (Or.inl ⟨by rfl, fun _ _ => by go_simp⟩) hHeld ?_
          simp only [Act.put, List.getElem_toArray, List.getElem_cons_succ, List.getElem_cons_zero, List.setIfInBounds_toArray, List.set_cons_zero, List.set_cons_succ]
          refine wpAnyH_take (i := 13) (v := (.bool false)) rfl (by kernel_rfl) (by kernel_rfl) (by kernel_rfl) (fun _ _ _ h => h) (Or.inl ⟨by rfl, fun _ _ => by go_simp⟩) hHeld ?_
          simp only [Act.put, List.getElem_toArray, List.getElem_cons_succ, List.getElem_cons_zero, List.setIfInBounds_toArray, List.set_cons_zero, List.set_cons_succ]
          refine wpAnyH_take (i := 14) (v := (.bool false)) rfl (by kernel_rfl) (by kernel_rfl) (by kernel_rfl) (fun _ _ _ h => h) (Or.inl ⟨by rfl, fun _ _ => by go_simp⟩) hHeld ?_
          simp only [Act.put, List.getElem_toArray, List.getElem_cons_succ, List.getElem_cons_zero, List.setIfInBounds_toArray, List.set_cons_zero, List.set_cons_succ]
          refine wpAnyH_take (i := 15) (v := undef) rfl (by kernel_rfl) (by kernel_rfl) (by kernel_rfl) (fun _ _ _ h => h) (Or.inr ⟨by rfl, rfl⟩) hHeld ?_
          simp only [Act.put, List.getElem_toArray, List.getElem_cons_succ, List.getElem_cons_zero, List.setIfInBounds_toArray, List.set_cons_zero, List.set_cons_succ]
          refine wpAnyH_take (i := 16) (v := undef) rfl (by kernel_rfl) (by kernel_rfl) (by kernel_rfl) (fun _ _ _ h => h) (Or.inr ⟨by rfl, rfl⟩) hHeld ?_
          simp only [Act.put, List.getElem_toArray, List.getElem_cons_succ, List.getElem_cons_zero, List.setIfInBounds_toArray, List.set_cons_zero, List.set_cons_succ]
          refine wpAnyH_take (i := 17) (v := undef) rfl (by kernel_rfl) (by kernel_rfl) (by kernel_rfl) (fun _ _ _ h => h) (Or.inr ⟨by rfl, rfl⟩) hHeld ?_
          simp only [Act.put, List.getElem_toArray, List.getElem_cons_succ, List.getElem_cons_zero, List.setIfInBounds_toArray, List.set_cons_zero, List.set_cons_succ]
          refine wpAnyH_take (i := 18) (v := undef) rfl (by kernel_rfl) (by kernel_rfl) (by kernel_rfl) (fun _ _ _ h => h) (Or.inr ⟨by rfl, rfl⟩) hHeld ?_
          simp only [Act.put, List.getElem_toArray, List.getElem_cons_succ, List.getElem_cons_zero, List.setIfInBounds_toArray, List.set_cons_zero, List.set_cons_succ]
          refine wpAnyH_take (i := 19) (v := undef) rfl (by kernel_rfl) (by kernel_rfl) (by kernel_rfl) (fun _ _ _ h => h) (Or.inr ⟨by rfl, rfl⟩) hHeld ?_
          simp only [Act.put, List.getElem_toArray, List.getElem_cons_succ, List.getElem_cons_zero, List.setIfInBounds_toArray, List.set_cons_zero, List.set_cons_succ]
          refine wpAnyH_take (i := 20) (v := undef) rfl (by kernel_rfl) (by kernel_rfl) (by kernel_rfl) (fun _ _ _ h => h) (Or.inr ⟨by rfl, rfl⟩) hHeld ?_
          simp only [Act.put, List.getElem_toArray, List.getElem_cons_succ, List.getElem_cons_zero, List.setIfInBounds_toArray, List.set_cons_zero, List.set_cons_succ]
          refine wpAnyH_take (i := 21) (v := undef) rfl (by kernel_rfl) (by kernel_rfl) (by kernel_rfl) (fun _ _ _ h => h) (Or.inr ⟨by rfl, rfl⟩) hHeld ?_
          simp only [Act.put, List.getElem_toArray, List.getElem_cons_succ, List.getElem_cons_zero, List.setIfInBounds_toArray, List.set_cons_zero, List.set_cons_succ]
          refine wpAnyH_take (i := 22) (v := undef) rfl (by kernel_rfl) (by kernel_rfl) (by kernel_rfl) (fun _ _ _ h => h) (Or.inr ⟨by rfl, rfl⟩) hHeld ?_
          simp only [Act.put, List.getElem_toArray, List.getElem_cons_succ, List.getElem_cons_zero, List.setIfInBounds_toArray, List.set_cons_zero, List.set_cons_succ]
          refine wpAnyH_take (i := 23) (v := undef) rfl (by kernel_rfl) (by kernel_rfl) (by kernel_rfl) (fun _ _ _ h => h) (Or.inr ⟨by rfl, rfl⟩) hHeld ?_
          simp only [Act.put, List.getElem_toArray, List.getElem_cons_succ, List.getElem_cons_zero, List.setIfInBounds_toArray, List.set_cons_zero, List.set_cons_succ]
          refine wpAnyH_take (i := 24) (v := undef) rfl (by kernel_rfl) (by kernel_rfl) (by kernel_rfl) (fun _ _ _ h => h) (Or.inr ⟨by rfl, rfl⟩) hHeld ?_
          simp only [Act.put, List.getElem_toArray, List.getElem_cons_succ, List.getElem_cons_zero, List.setIfInBounds_toArray, List.set_cons_zero, List.set_cons_succ]
          refine wpAnyH_take (i := 25) (v := undef) rfl (by kernel_rfl) (by kernel_rfl) (by kernel_rfl) (fun _ _ _ h => h) (Or.inr ⟨by rfl, rfl⟩) hHeld ?_
          simp only [Act.put, List.getElem_toArray, List.getElem_cons_succ, List.getElem_cons_zero, List.setIfInBounds_toArray, List.set_cons_zero, List.set_cons_succ]
          refine wpAnyH_take (i := 26) (v := undef) rfl (by kernel_rfl) (by kernel_rfl) (by kernel_rfl) (fun _ _ _ h => h) (Or.inr ⟨by rfl, rfl⟩) hHeld ?_
          simp only [Act.put, List.getElem_toArray, List.getElem_cons_succ, List.getElem_cons_zero, List.setIfInBounds_toArray, List.set_cons_zero, List.set_cons_succ]
          refine wpAnyH_take (i := 27) (v := undef) rfl (by kernel_rfl) (by kernel_rfl) (by kernel_rfl) (fun _ _ _ h => h) (Or.inr ⟨by rfl, rfl⟩) hHeld ?_
          simp only [Act.put, List.getElem_toArray, List.getElem_cons_succ, List.getElem_cons_zero, List.setIfInBounds_toArray, List.set_cons_zero, List.set_cons_succ]
          refine wpAnyH_take (i := 28) (v := undef) rfl (by kernel_rfl) (by kernel_rfl) (by kernel_rfl) (fun _ _ _ h => h) (Or.inr ⟨by rfl, rfl⟩) hHeld ?_
          simp only [Act.put, List.getElem_toArray, List.getElem_cons_succ, List.getElem_cons_zero, List.setIfInBounds_toArray, List.set_cons_zero, List.set_cons_succ]
          refine wpAnyH_take (i := 29) (v := undef) rfl (by kernel_rfl) (by kernel_rfl) (by kernel_rfl) (fun _ _ _ h => h) (Or.inr ⟨by rfl, rfl⟩) hHeld ?_
          simp only [Act.put, List.getElem_toArray, List.getElem_cons_succ, List.getElem_cons_zero, List.setIfInBounds_toArray, List.set_cons_zero, List.set_cons_succ]
          refine wpAnyH_take (i := 30) (v := undef) rfl (by kernel_rfl) (by kernel_rfl) (by kernel_rfl) (fun _ _ _ h => h) (Or.inr ⟨by rfl, rfl⟩) hHeld ?_
          simp only [Act.put, List.getElem_toArray, List.getElem_cons_succ, List.getElem_cons_zero, List.setIfInBounds_toArray, List.set_cons_zero, List.set_cons_succ]
          refine wpAnyH_take (i := 31) (v := undef) rfl (by kernel_rfl) (by kernel_rfl) (by kernel_rfl) (fun _ _ _ h => h) (Or.inr ⟨by rfl, rfl⟩) hHeld ?_
          simp only [Act.put, List.getElem_toArray, List.getElem_cons_succ, List.getElem_cons_zero, List.setIfInBounds_toArray, List.set_cons_zero, List.set_cons_succ]
          refine wpAnyH_take (i := 32) (v := undef) rfl (by kernel_rfl) (by kernel_rfl) (by kernel_rfl) (fun _ _ _ h => h) (Or.inr ⟨by rfl, rfl⟩) hHeld ?_
          simp only [Act.put, List.getElem_toArray, List.getElem_cons_succ, List.getElem_cons_zero, List.setIfInBounds_toArray, List.set_cons_zero, List.set_cons_succ]
          refine wpAnyH_take (i := 33) (v := undef) rfl (by kernel_rfl) (by kernel_rfl) (by kernel_rfl) (fun _ _ _ h => h) (Or.inr ⟨by rfl, rfl⟩) hHeld ?_
          simp only [Act.put, List.getElem_toArray, List.getElem_cons_succ, List.getElem_cons_zero, List.setIfInBounds_toArray, List.set_cons_zero, List.set_cons_succ]
          refine wpAnyH_take (i := 34) (v := undef) rfl (by kernel_rfl) (by kernel_rfl) (by kernel_rfl) (fun _ _ _ h => h) (Or.inr ⟨by rfl, rfl⟩) hHeld ?_
          simp only [Act.put, List.getElem_toArray, List.getElem_cons_succ, List.getElem_cons_zero, List.setIfInBounds_toArray, List.set_cons_zero, List.set_cons_succ]
          refine wpAnyH_take (i := 35) (v := undef) rfl (by kernel_rfl) (by kernel_rfl) (by kernel_rfl) (fun _ _ _ h => h) (Or.inr ⟨by rfl, rfl⟩) hHeld ?_
          simp only [Act.put, List.getElem_toArray, List.getElem_cons_succ, List.getElem_cons_zero, List.setIfInBounds_toArray, List.set_cons_zero, List.set_cons_succ]
          refine wpAnyH_take (i := 36) (v := undef) rfl (by kernel_rfl) (by kernel_rfl) (by kernel_rfl) (fun _ _ _ h => h) (Or.inr ⟨by rfl, rfl⟩) hHeld ?_
          simp only [Act.put, List.getElem_toArray, List.getElem_cons_succ, List.getElem_cons_zero, List.setIfInBounds_toArray, List.set_cons_zero, List.set_cons_succ]
          refine wpAnyH_take (i := 37) (v := undef) rfl (by kernel_rfl) (by kernel_rfl) (by kernel_rfl) (fun _ _ _ h => h) (Or.inr ⟨by rfl, rfl⟩) hHeld ?_
          simp only [Act.put, List.getElem_toArray, List.getElem_cons_succ, List.getElem_cons_zero, List.setIfInBounds_toArray, List.set_cons_zero, List.set_cons_succ]
          refine wpAnyH_take (i := 38) (v := undef) rfl (by kernel_rfl) (by kernel_rfl) (by kernel_rfl) (fun _ _ _ h => h) (Or.inr ⟨by rfl, rfl⟩) hHeld ?_
          simp only [Act.put, List.getElem_toArray, List.getElem_cons_succ, List.getElem_cons_zero, List.setIfInBounds_toArray, List.set_cons_zero, List.set_cons_succ]
          refine wpAnyH_take (i := 39) (v := undef) rfl (by kernel_rfl) (by kernel_rfl) (by kernel_rfl) (fun _ _ _ h => h) (Or.inr ⟨by rfl, rfl⟩) hHeld ?_
          simp only [Act.put, List.getElem_toArray, List.getElem_cons_succ, List.getElem_cons_zero, List.setIfInBounds_toArray, List.set_cons_zero, List.set_cons_succ]
          refine wpAnyH_take (i := 40) (v := undef) rfl (by kernel_rfl) (by kernel_rfl) (by kernel_rfl) (fun _ _ _ h => h) (Or.inr ⟨by rfl, rfl⟩) hHeld ?_
          simp only [Act.put, List.getElem_toArray, List.getElem_cons_succ, List.getElem_cons_zero, List.setIfInBounds_toArray, List.set_cons_zero, List.set_cons_succ]
          refine wpAnyH_take (i := 41) (v := undef) rfl (by kernel_rfl) (by kernel_rfl) (by kernel_rfl) (fun _ _ _ h => h) (Or.inr ⟨by rfl, rfl⟩) hHeld ?_
          simp only [Act.put, List.getElem_toArray, List.getElem_cons_succ, List.getElem_cons_zero, List.setIfInBounds_toArray, List.set_cons_zero, List.set_cons_succ]
          refine wpAnyH_take (i := 42) (v := undef) rfl (by kernel_rfl) (by kernel_rfl) (by kernel_rfl) (fun _ _ _ h => h) (Or.inr ⟨by rfl, rfl⟩) hHeld ?_
          simp only [Act.put, List.getElem_toArray, List.getElem_cons_succ, List.getElem_cons_zero, List.setIfInBounds_toArray, List.set_cons_zero, List.set_cons_succ]
          refine wpAnyH_take (i := 43) (v := undef) rfl (by kernel_rfl) (by kernel_rfl) (by kernel_rfl) (fun _ _ _ h => h) (Or.inr ⟨by rfl, rfl⟩) hHeld ?_
          simp only [Act.put, List.getElem_toArray, List.getElem_cons_succ, List.getElem_cons_zero, List.setIfInBounds_toArray, List.set_cons_zero, List.set_cons_succ]
          refine wpAnyH_take (i := 44) (v := (.bool false)) rfl (by kernel_rfl) (by kernel_rfl) (by kernel_rfl) (fun _ _ _ h => h) (Or.inl ⟨by rfl, fun _ _ => by go_simp⟩) hHeld ?_
          simp only [Act.put, List.getElem_toArray, List.getElem_cons_succ, List.getElem_cons_zero, List.setIfInBounds_toArray, List.set_cons_zero, List.set_cons_succ]
          refine wpAnyH_take (i := 45) (v := (.bool false)) rfl (by kernel_rfl) (by kernel_rfl) (by kernel_rfl) (fun _ _ _ h => h) (Or.inl ⟨by rfl, fun _ _ => by go_simp⟩) hHeld ?_
          simp only [Act.put, List.getElem_toArray, List.getElem_cons_succ, List.getElem_cons_zero, List.setIfInBounds_toArray, List.set_cons_zero, List.set_cons_succ]
          refine wpAnyH_done (by kernel_rfl) ?_ _
          go_wp2
          go_roundw
          case rel =>
            repeat apply Exists.intro
            refine And.intro ⟨1, by go_num, by omega, hc4⟩ ?_
            repeat' apply And.intro
            all_goals rfl
          case measure => simp [intOf]
        · obtain ⟨k', rfl⟩ : ∃ k', k = k' + 1 := ⟨k - 1, by omega⟩
          obtain ⟨y0, X0, _, d0'⟩ := C1.out k' (by have := HMM.out; omega)
          have hy0 := HR.out k' y0 X0.out
          obtain ⟨hlt2, hpb, hpn⟩ := HW2.out k' y0 y X0.out X.out
          have hB : ∀ w', Row w' (Value.slice a xs.length cap) (ints .u8 xs) → Calls Try.prog 30 #[Value.slice a xs.length cap, .int .i64 y] w' fun e w'' => e = .returned (.int .i64 y0) ∧ Below w'.heap.size w' w'' := fun w' h' => by
            have h9 := HB.out _ y w' h'; rw [hpb] at h9; exact h9
          have hN : ∀ w', Row w' (Value.slice a xs.length cap) (ints .u8 xs) → Calls Try.prog 28 #[Value.slice a xs.length cap, .int .i64 y0] w' fun e w'' => e = .returned (.int .i64 y) ∧ Below w'.heap.size w' w'' := fun w' h' => by
            have h9 := HN.out _ y0 w' h'; rw [hpn] at h9; exact h9
          have HB2 := Lib.hid hB; have HN2 := Lib.hid hN; clear hB hN hpb hpn
          have hge : decide (y ≤ y0) = false := decide_eq_false (by omega)
          have D0 := Lib.hid d0'
          have e0 := d0' wr hbr
          clear d0' X0 X hy0 hkp
          have hkc : (((k' + 1 : Nat) : Int)) = (k' : Int) + 1 := by omega
          have hi1 : (k' : Int) < (m : Int) + 1 := by omega
          have hi2 : k' < m + 1 := by omega
          have hi3 : (0 : Int) ≤ k' := by omega
          have hi4 : (k' : Int) ≤ 2000000 := by omega
          have hi5 : wrap64 (k' : Int) = k' := by unfold wrap64; omega
          have hi6 : IntKind.i64.wrap (k' : Int) = k' := by rw [IntKind.wrap_i64]; omega
          go_wp2_with fail
          have hc2 := hbr.drew
          go_region_held3 (fun w' => Below w1.heap.size w1 w' ∧ w'.cell? ⟨b1, o1 + k', none⟩ = some (.int .i64 y0)) (refine ⟨?_, ?_⟩ <;> first | exact hc2 | exact hc3 | exact hc4 | exact hc5 | exact hc6 | exact D0.out _ hc2 | exact D0.out _ hc3 | exact D0.out _ hc4 | exact D0.out _ hc5 | exact D0.out _ hc6) (first | (go_at_call 27; refine (HA2.out _ (hrow.below hc2)).mono ?_; rintro e w3 ⟨rfl, hb3⟩; have hc3 := below_trans hc2 hb3) | (go_at_call 32; refine (HM2.out _ (hrow.below hc3)).mono ?_; rintro e w4 ⟨rfl, hb4⟩; have hc4 := below_trans hc3 hb4) | (go_at_call 30; refine (HB2.out _ (hrow.below hc4)).mono ?_; rintro e w5 ⟨rfl, hb5⟩; have hc5 := below_trans hc4 hb5) | (go_at_call 28; refine (HN2.out _ (hrow.below hc5)).mono ?_; rintro e w6 ⟨rfl, hb6⟩; have hc6 := below_trans hc5 hb6))
          all_goals
            go_wp2
            go_roundw
            case rel =>
              repeat apply Exists.intro
              refine And.intro ⟨k' + 1 + 1, by go_num, by omega, hc6⟩ ?_
              repeat' apply And.intro
              all_goals rfl
            case measure => simp [intOf]; omega
      · go_wp2_with (first | (go_at_call 27; refine (HAE.out _ _ hrw).mono ?_; rintro e w3 ⟨rfl, hb3⟩; have hr3 := hrw.below hb3; have hc3 := below_trans hbr hb3) | (go_at_call 30; refine (HBE.out _ _ hr3).mono ?_; rintro e w4 ⟨rfl, hb4⟩; have hr4 := hr3.below hb4; have hc4 := below_trans hc3 hb4) | (go_at_call 28; refine (HNE.out _ _ hr4).mono ?_; rintro e w5 ⟨rfl, hb5⟩; have hc5 := below_trans hc4 hb5) | (go_at_call 19; refine (alive07_any _).mono ?_; rintro e w6 ⟨rfl, hb6⟩; have hc6 := below_trans hc5 hb6))
        go_ret
        exact ⟨rfl, below_trans hb0 hc6⟩
  · go_enter Try.func7, Try.ntmps7
    go_wp2_with (go_at_call 19; refine (alive07_any _).mono ?_; rintro e w7 ⟨rfl, hb7⟩)
    go_ret
    exact ⟨rfl, hb7⟩
end Go.Proofs.Ythjenihaogihpaa
