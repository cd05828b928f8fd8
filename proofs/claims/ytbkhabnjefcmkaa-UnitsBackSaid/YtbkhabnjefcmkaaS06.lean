/- The statements of layer 6, walked. -/
import Derived.Test.YtbkhabnjefcmkaaA06
namespace Go.Proofs.Ytbkhabnjefcmkaa
open Go.RowKit
set_option maxHeartbeats 400000

theorem WF.u16 {xs : List Int} (h : WF .u16 xs) : Rg 0 65536 xs := fun x hx => wf_u16 (h x hx)
theorem WF.u8 {xs : List Int} (h : WF .u8 xs) : Rg 0 256 xs := fun x hx => wf_u8 (h x hx)
theorem WF.i32 {xs : List Int} (h : WF .i32 xs) : R32 xs := fun x hx => wf_i32 (h x hx)
theorem uread_len (n : Nat) : ∀ xs : List Int, xs.length ≤ n → (uread xs).length ≤ xs.length := by
  induction n with
  | zero => intro xs h; obtain rfl : xs = [] := List.eq_nil_of_length_eq_zero (by omega); simp [uread_nil]
  | succ n ih =>
    intro xs h
    cases xs with
    | nil => simp [uread_nil]
    | cons x r =>
      rw [uread_cons]
      have hn := uone_n x r
      have := ih ((x :: r).drop (uone x r).2.1.toNat) (by simp at h ⊢; omega)
      simp only [List.length_cons, List.length_drop] at this ⊢; omega

set_option maxRecDepth 100000 in
theorem UnitsReads_walk (v : Value) (xs : List Int) (w : World) (h : Row w v (ints .u16 xs)) (g : WF .u16 xs) :
    Calls Try.prog 3 #[v] w fun e w' => e = .returned (.bool true) ∧ Below w.heap.size w w' := by
  obtain ⟨a, b, off, cap, rfl, HC⟩ := id h.op
  by_cases hl : xs.length ≤ 500
  · have hg := g.u16
    have hlt := uread_len _ xs (Nat.le_refl _)
    have hA := fun w' h' => rread_any (.slice a xs.length cap) xs w' h' hg (by omega)
    have hB := fun w' h' => uStrict_any (.slice a xs.length cap) xs w' h' hg (by omega)
    have hC := fun w' h' => uRead_any (.slice a xs.length cap) xs w' h' hg (by omega)
    have hD := fun w' h' => uRight_any (.slice a xs.length cap) xs w' h' hg (by omega)
    obtain ⟨q, hq⟩ : ∃ q, ferr ((uread xs).map Prod.snd) = q := ⟨_, rfl⟩
    obtain ⟨ts, ht⟩ : ∃ ts, (uread xs).map Prod.fst = ts := ⟨_, rfl⟩
    have htl : ts.length ≤ 1000000000 := by rw [← ht]; simp; omega
    rw [hq, ht] at hA hB
    rw [ht] at hC
    rw [hq] at hD
    have HA := Lib.hid hA; have HB := Lib.hid hB; have HCC := Lib.hid hC; have HDD := Lib.hid hD
    have HT := Lib.hid htl
    clear hA hB hC hD hq ht hlt htl
    have hg500 : ¬ (500 : Int) < (xs.length : Int) := by omega
    rcases (by omega : q = 0 ∨ q ≠ 0) with hq | hq
    case' inl =>
      subst hq
      go_enter Try.func3, Try.ntmps3
      go_wp2_with fail
      refine (HA.out _ h).mono ?_
      rintro e w1 ⟨v1, rfl, ho1, hb1⟩
      go_wp2_with fail
      refine (HB.out _ (h.below hb1)).mono ?_
      rintro e w2 ⟨v2, rfl, ho2, hb2⟩
      rw [strictL, if_pos rfl] at ho2
      have r1 := ho1.row.below hb2
      have r2 := ho2.row
      have hb := below_trans hb1 hb2
      clear ho1 ho2 hb1 hb2
      go_wp2_with fail
      refine (like3_any _ _ ts ts _ r2 r1 HT.out HT.out).mono ?_
      rintro e w3 ⟨rfl, hb3⟩
      rw [decide_eq_true rfl]
      replace r1 := r1.below hb3
      replace hb := below_trans hb hb3
      clear hb3 r2
    case' inr =>
      have hq1 : (q == 0) = false := by simpa using hq
      have hq2 : (q != 0) = true := by simpa using hq
      have HQ := Lib.hid hq; clear hq
      go_enter Try.func3, Try.ntmps3
      go_wp2_with fail
      refine (HA.out _ h).mono ?_
      rintro e w1 ⟨v1, rfl, ho1, hb1⟩
      go_wp2_with fail
      refine (HB.out _ (h.below hb1)).mono ?_
      rintro e w3 ⟨v2, rfl, ho2, hb2⟩
      rw [strictL, if_neg HQ.out] at ho2
      have r1 := ho1.row.below hb2
      have r2 := ho2.row
      have hb := below_trans hb1 hb2
      clear ho1 ho2 hb1 hb2
      obtain ⟨a2, b2, o2, c2, rfl, _⟩ := r2.op
      clear r2
    all_goals
      go_wp2
      go_loop [47] (fun i => ∃ k : Nat, i = .int .i64 k ∧ k ≤ xs.length) (fun i => xs.length - (intOf i).toNat)
      case atStart => exact ⟨0, rfl, Nat.zero_le _⟩
      case round =>
        obtain ⟨k, rfl, hk⟩ := hrel
        by_cases hlt : k < xs.length
        · obtain ⟨x, HX, rfl, hc⟩ := HC.out k hlt
          replace hc := hc w3 hb
          have hxr := hg.get HX.out
          go_wp2_with (first | (go_at_call 18; refine (uHigh_any _ _ hxr.1 hxr.2).mono ?_; rintro e' w' ⟨rfl, rfl⟩) | (go_at_call 19; refine (rHigh_any _ _).mono ?_; rintro e' w' ⟨rfl, rfl⟩) | (go_at_call 20; refine (uLow_any _ _ hxr.1 hxr.2).mono ?_; rintro e' w' ⟨rfl, rfl⟩) | (go_at_call 21; refine (rLow_any _ _).mono ?_; rintro e' w' ⟨rfl, rfl⟩))
          go_round
          case rel => exact ⟨k + 1, by go_num, by omega⟩
          case measure => simp [intOf]; omega
        · clear HC
          go_wp2_with fail
          refine (HCC.out _ (h.below hb)).mono ?_
          rintro e w4 ⟨v4, rfl, ho4, hb4⟩
          replace r1 := r1.below hb4
          replace hb := below_trans hb hb4
          go_wp2_with fail
          refine (like3_any _ _ ts ts _ ho4.row r1 HT.out HT.out).mono ?_
          rintro e w5 ⟨rfl, hb5⟩
          replace hb := below_trans hb hb5
          clear hb4 hb5 ho4 r1
          rw [decide_eq_true rfl]
          go_wp2_with fail
          refine (HDD.out _ (h.below hb)).mono ?_
          rintro e w6 ⟨rfl, hb6⟩
          replace hb := below_trans hb hb6
          clear hb6
          go_wp2_with fail
          refine (alive06_any _).mono ?_
          rintro e w7 ⟨rfl, hb7⟩
          replace hb := below_trans hb hb7
          go_wp2
          go_ret
          exact ⟨rfl, hb⟩
  · have hg500 : (500 : Int) < (xs.length : Int) := by omega
    go_enter Try.func3, Try.ntmps3
    go_wp2_with fail
    refine (alive06_any _).mono ?_
    rintro e w7 ⟨rfl, hb7⟩
    go_wp2
    go_ret
    exact ⟨rfl, hb7⟩
end Go.Proofs.Ytbkhabnjefcmkaa
