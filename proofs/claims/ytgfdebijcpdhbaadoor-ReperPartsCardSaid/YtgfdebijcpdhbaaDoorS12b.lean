/- The statement of layer 12 on parts, walked. -/
import Derived.Test.YtgfdebijcpdhbaaDoorS12
namespace Go.Proofs.YtgfdebijcpdhbaaDoor
open Go.RowKit
set_option maxHeartbeats 1000000
theorem parts_plain {xs : List Int} (hs : allSc xs = true) : 1 ≤ lowL (fN xs) ∧ lowL (fN xs) ≤ 5 ∧ noneL (fN xs) = 0 ∧ allN (lowL (fN xs)) xs = true ∧ (∀ k : Int, 1 ≤ k → k < lowL (fN xs) → allN k xs = false) ∧
    ∀ m, lowL (fN (xs.take m)) ≤ lowL (fN xs) ∧ noneL (fN (xs.take m)) = 0 ∧ allN (lowL (fN xs)) (xs.take m) = true := by
  have h5 : fN xs 5 = true := hs
  have h1 := low_pos (by omega) (by omega) h5
  have h2 := low_at (f := fN xs) (by omega)
  have h3 : ∀ m, fN (xs.take m) (lowL (fN xs)) = true := fun m => List.all_eq_true.2 fun x hx => List.all_eq_true.1 h2 x (List.mem_of_mem_take hx)
  refine ⟨h1.1, h1.2, if_neg (by omega), ?_, fun k hk1 hk2 => ?_, fun m => ?_⟩
  · rw [allN, decide_eq_true h1]; exact h2
  · have := low_least hk1 hk2
    rw [allN, show xs.all (hasB k) = false from this, Bool.and_false]
  · have h4 := low_pos h1.1 h1.2 (h3 m)
    refine ⟨h4.2, if_neg (by omega), ?_⟩
    rw [allN, decide_eq_true h1]; exact h3 m
theorem Row.pre {w : World} {a : Option Addr} {n cp : Nat} {cs : List Value} (h : Row w (.slice a n cp) cs) (m : Nat) (hm : m ≤ cs.length) : Row w (.slice a m cp) (cs.take m) := by
  obtain ⟨a', b, off, cap, hv, hc, hM, ha, h1, hcell⟩ := h
  cases hv
  refine ⟨a, b, off, cp, by rw [List.length_take, Nat.min_eq_left hm], by rw [List.length_take]; omega, hM, ?_, fun u hu => h1 u (List.mem_of_mem_take hu), fun i u hu => ?_⟩
  · rcases ha with ha | ⟨rfl, ha⟩
    · exact .inl ha
    · exact .inr ⟨by simp, ha⟩
  · rw [List.getElem?_take] at hu
    split at hu
    · exact hcell i u hu
    · cases hu
set_option maxRecDepth 100000 in
theorem ReperParts_walk (v : Value) (xs : List Int) (n : Int) (w : World) (hT : Tz w) (h : Row w v (ints .i32 xs)) (g : WF .i32 xs) (hn : (Lit.int .i64 n).wf = true) :
    Calls Tryd.prog 6 #[v, .int .i64 n] w fun e w' => e = .returned (.bool true) ∧ Below w.heap.size w w' := by
  obtain ⟨a, b, off, cp, rfl, _⟩ := id h.op
  have hb := Below.refl w.heap.size w
  have hV := fun w' (h : Below w.heap.size w w') => alive12_any w' (hT.below h)
  have HV := Lib.hid hV
  clear hV
  by_cases hl : xs.length ≤ 200
  · have hgx : R32 xs := fun x hx => wf_i32 (g x hx)
    have hF := fun w' h' => rfirst_any (.slice a xs.length cp) xs w' h' (by omega)
    have hidx := allSc_idx (xs := xs)
    generalize idx (fun c => !scB c) xs = fi at *
    have HF := Lib.hid hF
    cases ha : allSc xs with
    | false =>
      rw [ha] at hidx
      have hf0 : 0 ≤ fi := by have := of_decide_eq_false hidx.symm; omega
      clear hF hidx hT
      go_enter Tryd.func6, Tryd.ntmps6
      go_wp2_with (first | (go_at_call 21; refine (HF.out _ h).mono ?_; rintro e w1 ⟨rfl, hw1⟩; obtain rfl := hw1) | (go_at_call 13; refine (HV.out _ hb).mono ?_; rintro e w7 ⟨rfl, hb7⟩; replace hb := below_trans hb hb7))
      go_ret
      exact ⟨rfl, hb⟩
    | true =>
      rw [ha] at hidx
      have hf0 : fi < 0 := of_decide_eq_true hidx.symm
      obtain ⟨p1, p2, p3, p4, p5, p6⟩ := parts_plain ha
      have hS := fun v w' (h : Below w.heap.size w w') h' => pSelect_any v xs w' (hT.below h) h' hgx (by omega)
      have hA := fun v w' h' => pAll_any (lowL (fN xs)) v xs w' h' hgx (by omega)
      have hK := fun (k : Int) (h1 : 1 ≤ k) (h2 : k < lowL (fN xs)) v w' h' => by have h9 := pAll_any k v xs w' h' hgx (by omega); rw [p5 k h1 h2] at h9; exact h9
      have hQ := fun (m : Nat) v w' (h : Below w.heap.size w w') h' => by have h9 := pSelect_any v (xs.take m) w' (hT.below h) h' (fun x hx => hgx x (List.mem_of_mem_take hx)) (by rw [List.length_take]; omega); rw [(p6 m).2.1] at h9; exact h9
      have hB := fun (m : Nat) v w' h' => by have h9 := pAll_any (lowL (fN xs)) v (xs.take m) w' h' (fun x hx => hgx x (List.mem_of_mem_take hx)) (by rw [List.length_take]; omega); rw [(p6 m).2.2] at h9; exact h9
      have hlow := fun m => (p6 m).1
      rw [p4] at hA; rw [p3] at hS
      clear p3 p4 p5 p6
      generalize lowL (fN xs) = l at *
      have HS := Lib.hid hS; have HA := Lib.hid hA; have HK := Lib.hid hK; have HQ := Lib.hid hQ; have HB := Lib.hid hB; have HLOW := Lib.hid hlow
      clear hF hidx hT hS hA hK hQ hB hlow ha
      have hrow := h
      have hnw := wf_i64 hn
      obtain ⟨m, hm⟩ : ∃ m : Nat, m = (min (max n 0) xs.length).toNat := ⟨_, rfl⟩
      go_enter Tryd.func6, Tryd.ntmps6
      go_wp2_with (first | (go_at_call 21; refine (HF.out _ hrow).mono ?_; rintro e w1 ⟨rfl, hw1⟩; obtain rfl := hw1) | (go_at_call 16; refine (HS.out _ _ hb hrow).mono ?_; rintro e w2 ⟨rfl, hb2⟩; replace hrow := hrow.below hb2; replace hb := below_trans hb hb2; clear hb2) | (go_at_call 17; refine (HA.out _ _ hrow).mono ?_; rintro e w3 ⟨rfl, hb3⟩; replace hrow := hrow.below hb3; replace hb := below_trans hb hb3; clear hb3))
      go_loopw [7] (fun i wr => ∃ k : Nat, i = .int .i64 ((k : Int) + 1) ∧ (k : Int) + 1 ≤ l ∧ Below w3.heap.size w3 wr) (fun i _ => 6 - (intOf i).toNat)
      case atStart => exact ⟨0, rfl, by omega, Below.refl _ _⟩
      case round =>
        obtain ⟨k, rfl, hk, hbr⟩ := hrel
        replace hrow := hrow.below hbr
        by_cases hlt : (k : Int) + 1 < l
        · have H2 := Lib.hid (HK.out ((k : Int) + 1) (by omega) hlt _ _ hrow)
          go_wp2_with (go_at_call 17; refine (H2.out).mono ?_; rintro e w4 ⟨rfl, hb4⟩)
          go_roundw
          case rel => exact ⟨k + 1, by go_num, by omega, below_trans hbr hb4⟩
          case measure => simp [intOf]; omega
        · replace hb := below_trans hb hbr
          clear hbr
          have hcap : xs.length ≤ cp := by
            obtain ⟨_, _, _, _, hv, hc9, _⟩ := hrow.int
            cases hv
            exact hc9
          rcases (by omega : n < 0 ∨ (0 ≤ n ∧ n ≤ xs.length) ∨ ((xs.length : Int) < n)) with hz | hz | hz
          case' inl => obtain ⟨q, hq⟩ : ∃ q, q = 0 := ⟨_, rfl⟩
          case' inr.inl => obtain ⟨q, hq⟩ : ∃ q : Nat, n = q := ⟨n.toNat, by omega⟩; subst hq; have hz0 := hz.1; have hz1 := hz.2; have hz2 : ¬ ((q : Int) < 0) := by omega
          case' inr.inr => obtain ⟨q, hq⟩ : ∃ q, q = xs.length := ⟨_, rfl⟩; have hz2 : ¬ (n < 0) := (by omega); have hz3 : ¬ (n ≤ (xs.length : Int)) := by omega
          all_goals
            have hql : q ≤ xs.length := by omega
            have hqc : q ≤ cp := by omega
            have rp := Row.pre hrow q (by rw [ints_length]; exact hql)
            rw [ints_take] at rp
            have hQ := HQ.out q (.slice a q cp) wr hb rp
            have hB := fun w' h' => HB.out q (.slice a q cp) w' h'
            have hL := HLOW.out q
            generalize lowL (fN (xs.take q)) = l2 at *
            have HQ2 := Lib.hid hQ
            have HB2 := Lib.hid hB
            clear hQ hB HQ HB HLOW HK hm
            try subst hq
            go_wp2_with (first | (go_at_call 16; refine (HQ2.out).mono ?_; rintro e w5 ⟨rfl, hb5⟩; replace rp := rp.below hb5; replace hb := below_trans hb hb5; clear hb5) | (go_at_call 17; refine (HB2.out _ rp).mono ?_; rintro e w6 ⟨rfl, hb6⟩; replace hb := below_trans hb hb6; clear hb6) | (go_at_call 13; refine (HV.out _ hb).mono ?_; rintro e w7 ⟨rfl, hb7⟩; replace hb := below_trans hb hb7))
            go_ret
            exact ⟨rfl, hb⟩
  · clear hT
    go_enter Tryd.func6, Tryd.ntmps6
    go_wp2_with (go_at_call 13; refine (HV.out _ hb).mono ?_; rintro e w7 ⟨rfl, hb7⟩)
    go_ret
    exact ⟨rfl, hb7⟩
end Go.Proofs.YtgfdebijcpdhbaaDoor
