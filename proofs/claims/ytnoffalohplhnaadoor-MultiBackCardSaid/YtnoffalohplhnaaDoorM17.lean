/- The statement of layer 50 on what is laid and split again (MultiBack), walked. (laid together by program out of single texts). -/
import Derived.Test.YtnoffalohplhnaaDoorM16
namespace Go.Proofs.YtnoffalohplhnaaDoor
open Go.RowKit
set_option maxHeartbeats 4000000
set_option maxRecDepth 100000
theorem layB_len {b : List Int} (hb : b.length ≤ 1000) : ∀ {ps : List (List Int)}, (∀ p ∈ ps, p.length ≤ 1000) → (layB b ps).length ≤ 3000 * ps.length + 1010
  | [], _ => by simp [layB]; omega
  | p :: r, h => by
    have ih := layB_len hb (ps := r) (fun q hq => h q (by simp [hq]))
    have h1 := h p (by simp)
    simp only [layB, List.length_cons, List.length_append]
    omega
theorem layB_rg {b : List Int} (hb : Rg 0 256 b) : ∀ {ps : List (List Int)}, (∀ p ∈ ps, Rg 0 256 p) → Rg 0 256 (layB b ps)
  | [], _ => by
    intro x hx
    simp only [layB, List.mem_cons, List.mem_append, List.not_mem_nil, or_false] at hx
    rcases hx with rfl | rfl | hx | rfl | rfl | rfl | rfl
    · omega
    · omega
    · exact hb x hx
    all_goals omega
  | p :: r, h => by
    have ih := layB_rg hb (ps := r) (fun q hq => h q (by simp [hq]))
    intro x hx
    simp only [layB, List.mem_cons, List.mem_append] at hx
    rcases hx with rfl | rfl | hx | rfl | rfl | hx | rfl | rfl | hx
    · omega
    · omega
    · exact hb x hx
    · omega
    · omega
    · exact h p (by simp) x hx
    · omega
    · omega
    · exact ih x hx
theorem layM_code (ps : List (List Int)) (b : List Int) : ((layM ps b).2 = 0 ∧ mayB b = true ∧ (∀ q ∈ ps, hasM q b = false) ∧ (layM ps b).1 = layB b ps) ∨ ((layM ps b).2 ≠ 0 ∧ (layM ps b).1 = []) := by
  unfold layM
  cases h : mayB b with
  | false => rw [if_pos rfl]; exact .inr ⟨by decide, rfl⟩
  | true =>
    rw [if_neg (by decide)]
    cases h2 : ps.any (fun p => hasM p b) with
    | true => rw [if_pos rfl]; exact .inr ⟨by decide, rfl⟩
    | false =>
      rw [if_neg (by decide)]
      refine .inl ⟨rfl, rfl, fun q hq => ?_, rfl⟩
      have := List.any_eq_false.1 h2 q hq
      simpa using this
theorem MultiBack_walk (v v1 v2 : Value) (vs : List Value) (ps : List (List Int)) (xs ys : List Int) (w : World) (h : Row w v vs) (hp : Pvs w vs ps) (h1 : Row w v1 (ints .u8 xs)) (h2 : Row w v2 (ints .u8 ys)) (hr : ∀ p ∈ ps, Rg 0 256 p) (g1 : Rg 0 256 xs) (g2 : Rg 0 256 ys) (hm : Tz w) :
    Calls Tryd.prog 3 #[v, v1, v2] w fun e w' => e = .returned (.bool true) ∧ Below w.heap.size w w' := by
  have HFAR := Lib.hid (far_any v vs ps w h hp)
  obtain ⟨a0, b0, o0, c0, rfl, _⟩ := id h
  obtain ⟨a1, b1, o1, c1, rfl, _⟩ := id h1.op
  obtain ⟨a2, b2, o2, c2, rfl, _⟩ := id h2.op
  have HROW := Lib.hid h; have HPV := Lib.hid hp; have HR1 := Lib.hid h1; have HR2 := Lib.hid h2; have HM := Lib.hid hm; have HRR := Lib.hid hr
  clear h hp h1 h2 hm hr
  rcases hq : farF ps with _ | _
  · rw [hq] at HFAR
    obtain ⟨hpl, hpp⟩ := farF_no hq
    by_cases hx : xs.length ≤ 100
    · by_cases hy : ys.length ≤ 200
      · clear hq
        have hvl : vs.length ≤ 10 := by rw [HPV.out.1]; exact hpl
        have HPP : Hid (∀ q ∈ ps, Rg 0 256 q ∧ q.length ≤ 200) := fun q hq => ⟨HRR.out q hq, hpp q hq⟩
        clear hpp
        go_enter Tryd.func3, Tryd.ntmps3
        go_wp2_with (go_at_call 4; refine (HFAR.out).mono ?_; rintro e w' ⟨rfl, hw⟩; obtain rfl := hw.symm)
        refine (fresh_any _ vs ps w HROW.out HPV.out HPP.out hvl HM.out).mono ?_
        rintro e w3 ⟨t3, N, rfl, hN, hmet, _, hr3, hb3⟩
        have hnb := numB_len N (by omega)
        have hmay := mayB_num N (by omega)
        have hrg : Rg 0 256 (numB N) := fun x hx => by have := numB_rng N x hx; omega
        have hno : ∀ p ∈ ps, hasM p (numB N) = false := by
          intro p hp
          have := List.any_eq_false.1 hmet p hp
          simpa using this
        generalize numB N = b at *
        have hlay : layM ps b = (layB b ps, 0) := (layM_ways ps b).2.2 hmay hno
        have hspl : splitM (layB b ps) b = (ps, true) := by
          have := split_lay hmay [] ps hno
          rwa [List.append_nil] at this
        have hln := layB_len (b := b) (by omega) (ps := ps) (fun p hp => by have := (HPP.out p hp).2; omega)
        have hlr := layB_rg hrg (ps := ps) (fun p hp => (HPP.out p hp).1)
        have hL := lay_any (.slice a0 vs.length c0) t3 vs ps b w3 (HROW.out.below hb3) (HPV.out.below hb3) hr3 (fun q hq => ⟨(HPP.out q hq).1, by have := (HPP.out q hq).2; omega⟩) hrg (by omega) (by omega) (HM.out.1.below hb3)
        rw [hlay] at hL
        obtain ⟨a3, b3, o3, c3, rfl, _⟩ := id hr3.op
        have HLL := Lib.hid hL; have HMAY := Lib.hid hmay; have HSPL := Lib.hid hspl; have HLR := Lib.hid hlr; have HRG := Lib.hid hrg; have HR3 := Lib.hid hr3; have HLN := Lib.hid hln
        clear hL hmay hspl hlr hrg hno hmet hlay hln hr3
        go_wp2_with fail
        refine HLL.out.mono ?_
        rintro e w4 ⟨t4, rfl, hr4, hb4⟩
        have hb34 := below_trans hb3 hb4
        have hS := msplit_any t4 (.slice a3 b.length c3) (layB b ps) b w4 hr4 (HR3.out.below hb4) HLR.out HRG.out (by have := HLN.out; omega) (HM.out.1.below hb34)
        rw [HSPL.out] at hS
        have HS := Lib.hid hS
        clear hS
        go_wp2_with fail
        refine HS.out.mono ?_
        rintro e w5 ⟨t5, vs5, rfl, hr5, hp5, hb5⟩
        have hb35 := below_trans hb34 hb5
        have HSM := Lib.hid (same_any t5 (.slice a0 vs.length c0) vs5 vs ps w5 hr5 hp5 (HROW.out.below hb35) (HPV.out.below hb35) (by omega) (fun p hp => by have := (HPP.out p hp).2; omega))
        clear hr5 hp5
        go_wp2_with fail
        refine HSM.out.mono ?_
        rintro e w6 ⟨rfl, hb6⟩
        have hb36 := below_trans hb35 hb6
        have hMy := may_any (.slice a3 b.length c3) b w6 (HR3.out.below (below_trans hb4 (below_trans hb5 hb6))) (by omega)
        rw [HMAY.out] at hMy
        have HMY := Lib.hid hMy
        clear hMy
        have hL2 := lay_any (.slice a0 vs.length c0) (.slice a1 xs.length c1) vs ps xs w6 (HROW.out.below hb36) (HPV.out.below hb36) (HR1.out.below hb36) (fun q hq => ⟨(HPP.out q hq).1, by have := (HPP.out q hq).2; omega⟩) g1 (by omega) (by omega) (HM.out.1.below hb36)
        have hbig := layB_len (b := xs) (by omega) (ps := ps) (fun p hp => by have := (HPP.out p hp).2; omega)
        have hlr2 := layB_rg g1 (ps := ps) (fun p hp => (HPP.out p hp).1)
        rcases layM_code ps xs with ⟨q1, q2, q3, q4⟩ | ⟨q1, q2⟩
        · have hsp2 := split_lay q2 ys ps q3
          rw [q1, q4] at hL2
          have HL2 := Lib.hid hL2; have HSP2 := Lib.hid hsp2; have HLR2 := Lib.hid hlr2
          clear q1 q2 q3 q4 hL2 hsp2 hlr2
          go_wp2_with (first | (go_at_call 10; refine (HMY.out).mono ?_; rintro e w' ⟨rfl, hw⟩; obtain rfl := hw.symm))
          refine HL2.out.mono ?_
          rintro e w7 ⟨t7, rfl, hr7, hb7⟩
          have hb37 := below_trans hb36 hb7
          obtain ⟨a7, b7, o7, c7, rfl, _⟩ := id hr7.op
          obtain ⟨n7, hn7⟩ : ∃ n, (layB xs ps).length = n := ⟨_, rfl⟩
          have hl7 : n7 ≤ 100000 := by omega
          have HN7 := Lib.hid hn7
          rw [hn7] at hr7 ⊢
          clear hn7 hbig
          have hw7 := Nat.le_refl w7.heap.size
          go_wp2_with (first | ((at_builtin; refine wpList_app slT_u8 _ _ _ rfl rfl rfl rfl (Own.nil w7.heap.size _ _) hr7 (by rw [ints_length, HN7.out]; simp; omega) hw7 ?_; intro t8 w8 ho8 hg8); have hb8 : Below w7.heap.size w7 w8 := below_own (Below.refl _ _) (Own.nil w7.heap.size 5 w7) hg8 hw7 (Nat.le_refl _); rw [List.nil_append] at ho8) | ((at_builtin; refine wpList_app slT_u8 _ _ _ rfl rfl rfl rfl ho8 (HR2.out.below (below_trans hb37 hb8)) (by rw [ints_length, ints_length, HN7.out]; omega) hb8.size ?_; intro t9 w9 ho9 hg9); have hb9 : Below w7.heap.size w7 w9 := below_own hb8 ho8 hg9 hb8.size (Nat.le_refl _); rw [← ints_append] at ho9))
          have hb39 := below_trans hb37 hb9
          have hS2 := msplit_any t9 (.slice a1 xs.length c1) (layB xs ps ++ ys) xs w9 ho9.row (HR1.out.below hb39) (HLR2.out.append g2) g1 (by rw [List.length_append, HN7.out]; omega) (HM.out.1.below hb39)
          rw [HSP2.out] at hS2
          have HS2 := Lib.hid hS2
          clear hS2
          refine HS2.out.mono ?_
          rintro e w10 ⟨t10, vs10, rfl, hr10, hp10, hb10⟩
          have hb310 := below_trans hb39 hb10
          have HSM2 := Lib.hid (same_any t10 (.slice a0 vs.length c0) vs10 vs ps w10 hr10 hp10 (HROW.out.below hb310) (HPV.out.below hb310) (by omega) (fun p hp => by have := (HPP.out p hp).2; omega))
          clear hr10 hp10
          go_wp2_with fail
          refine HSM2.out.mono ?_
          rintro e w11 ⟨rfl, hb11⟩
          have hb311 := below_trans hb310 hb11
          go_wp2_with (go_at_call 5; refine (alive50_any _ (HM.out.below hb311)).mono ?_; rintro e w12 ⟨rfl, hb12⟩)
          go_ret
          exact ⟨rfl, below_trans hb311 hb12⟩
        · rw [q2] at hL2
          obtain ⟨m, hm⟩ : ∃ m, (layM ps xs).2 = m := ⟨_, rfl⟩
          rw [hm] at hL2 q1
          have HL2 := Lib.hid hL2
          clear hm q2 hL2 hlr2
          go_wp2_with (first | (go_at_call 10; refine (HMY.out).mono ?_; rintro e w' ⟨rfl, hw⟩; obtain rfl := hw.symm))
          refine HL2.out.mono ?_
          rintro e w7 ⟨t7, rfl, hr7, hb7⟩
          have hb37 := below_trans hb36 hb7
          obtain ⟨a7, b7, o7, c7, rfl, _⟩ := id hr7.op
          have hne : (m != 0) = true := by simpa using q1
          go_wp2_with (go_at_call 5; refine (alive50_any _ (HM.out.below hb37)).mono ?_; rintro e w8 ⟨rfl, hb8⟩)
          go_ret
          exact ⟨rfl, below_trans hb37 hb8⟩
      · have hy2 : (200 : Int) < ys.length := by omega
        clear hq
        go_enter Tryd.func3, Tryd.ntmps3
        go_wp2_with (first | (go_at_call 4; refine (HFAR.out).mono ?_; rintro e w' ⟨rfl, hw⟩; obtain rfl := hw.symm) | (go_at_call 5; refine (alive50_any _ HM.out).mono ?_; rintro e w7 ⟨rfl, hb7⟩))
        go_ret
        exact ⟨rfl, hb7⟩
    · have hx2 : (100 : Int) < xs.length := by omega
      clear hq
      go_enter Tryd.func3, Tryd.ntmps3
      go_wp2_with (first | (go_at_call 4; refine (HFAR.out).mono ?_; rintro e w' ⟨rfl, hw⟩; obtain rfl := hw.symm) | (go_at_call 5; refine (alive50_any _ HM.out).mono ?_; rintro e w7 ⟨rfl, hb7⟩))
      go_ret
      exact ⟨rfl, hb7⟩
  · rw [hq] at HFAR
    clear hq
    go_enter Tryd.func3, Tryd.ntmps3
    go_wp2_with (first | (go_at_call 4; refine (HFAR.out).mono ?_; rintro e w' ⟨rfl, hw⟩; obtain rfl := hw.symm) | (go_at_call 5; refine (alive50_any _ HM.out).mono ?_; rintro e w7 ⟨rfl, hb7⟩))
    go_ret
    exact ⟨rfl, hb7⟩
end Go.Proofs.YtnoffalohplhnaaDoor
