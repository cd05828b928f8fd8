/- Walks: repertoires: sets, sizes. -/
import Derived.Test.YtgfdebijcpdhbaaDoorW12d
namespace Go.Proofs.YtgfdebijcpdhbaaDoor
open Go.RowKit
set_option maxHeartbeats 1000000
/-- The first k of five answers as one number. -/
def encR (k : Nat) (f : Int → Bool) : Int := enc5 (decide (1 ≤ k) && f 1) (decide (2 ≤ k) && f 2) (decide (3 ≤ k) && f 3) (decide (4 ≤ k) && f 4) (decide (5 ≤ k) && f 5)
theorem encR_or0 {f : Int → Bool} (h : f 1 = true) : bits .or .i64 (encR 0 f) 2 = encR 1 f ∧ encR 0 f + 2 = encR 1 f := by
  simp only [encR, h]; generalize f 2 = b; generalize f 3 = c; generalize f 4 = d; generalize f 5 = e; revert b c d e; decide
theorem encR_or1 {f : Int → Bool} (h : f 2 = true) : bits .or .i64 (encR 1 f) 4 = encR 2 f ∧ encR 1 f + 4 = encR 2 f := by
  simp only [encR, h]; generalize f 1 = b; generalize f 3 = c; generalize f 4 = d; generalize f 5 = e; revert b c d e; decide
theorem encR_or2 {f : Int → Bool} (h : f 3 = true) : bits .or .i64 (encR 2 f) 8 = encR 3 f ∧ encR 2 f + 8 = encR 3 f := by
  simp only [encR, h]; generalize f 1 = b; generalize f 2 = c; generalize f 4 = d; generalize f 5 = e; revert b c d e; decide
theorem encR_or3 {f : Int → Bool} (h : f 4 = true) : bits .or .i64 (encR 3 f) 16 = encR 4 f ∧ encR 3 f + 16 = encR 4 f := by
  simp only [encR, h]; generalize f 1 = b; generalize f 2 = c; generalize f 3 = d; generalize f 5 = e; revert b c d e; decide
theorem encR_or4 {f : Int → Bool} (h : f 5 = true) : bits .or .i64 (encR 4 f) 32 = encR 5 f ∧ encR 4 f + 32 = encR 5 f := by
  simp only [encR, h]; generalize f 1 = b; generalize f 2 = c; generalize f 3 = d; generalize f 4 = e; revert b c d e; decide
theorem encR_no {f : Int → Bool} {k : Nat} (hk : k < 5) (h : f ((k : Int) + 1) = false) : encR k f = encR (k + 1) f := by
  rcases (by omega : k = 0 ∨ k = 1 ∨ k = 2 ∨ k = 3 ∨ k = 4) with rfl | rfl | rfl | rfl | rfl
  · have h : f 1 = false := h
    simp only [encR, h]; rfl
  · have h : f 2 = false := h
    simp only [encR, h]; rfl
  · have h : f 3 = false := h
    simp only [encR, h]; rfl
  · have h : f 4 = false := h
    simp only [encR, h]; rfl
  · have h : f 5 = false := h
    simp only [encR, h]; rfl
theorem encR_rng (k : Nat) (f : Int → Bool) : 0 ≤ encR k f ∧ encR k f ≤ 62 := by
  unfold encR enc5; constructor <;> (repeat' split) <;> omega
theorem encR_all (f : Int → Bool) : encR 5 f = enc f := by rw [enc_eq]; rfl
theorem encR_0 (f : Int → Bool) : encR 0 f = 0 := rfl
set_option maxRecDepth 100000 in
theorem pSets_any (c : Int) (w : World) (h1 : -2147483648 ≤ c) (h2 : c ≤ 2147483647) :
    Calls Tryd.prog 10 #[.int .i32 c] w fun e w' => e = .returned (.int .i64 (enc fun n => hasB n c)) ∧ Below w.heap.size w w' := by
  have H := fun n w => pHas_any n c w h1 h2
  obtain ⟨f, hf⟩ : ∃ f : Int → Bool, f = fun n => hasB n c := ⟨_, rfl⟩
  have hH : ∀ n w, Calls Tryd.prog 8 #[.int .i64 n, .int .i32 c] w fun e w' => e = .returned (.bool (f n)) ∧ Below w.heap.size w w' := by rw [hf]; exact H
  rw [← hf]
  have HH := Lib.hid hH; clear hH H hf
  go_enter Tryd.func10, Tryd.ntmps10
  go_wp2
  go_loopw [3, 5] (fun s i wr => ∃ k : Nat, i = .int .i64 k ∧ k ≤ 5 ∧ s = .int .i64 (encR k f) ∧ Below w.heap.size w wr) (fun _ i _ => 5 - (intOf i).toNat)
  case atStart => exact ⟨0, rfl, by omega, rfl, Below.refl _ _⟩
  case round =>
    obtain ⟨k, rfl, hk, rfl, hb⟩ := hrel
    by_cases hlt : k < 5
    · have hno := @encR_no f k hlt
      obtain ⟨m, hm⟩ : ∃ m : Nat, m = k + 1 := ⟨_, rfl⟩
      rcases (by omega : k = 0 ∨ k = 1 ∨ k = 2 ∨ k = 3 ∨ k = 4) with rfl | rfl | rfl | rfl | rfl
      case' inl => have hor := @encR_or0 f; obtain ⟨q, hq⟩ : ∃ q, f 1 = q := ⟨_, rfl⟩; have hH := HH.out 1
      case' inr.inl => have hor := @encR_or1 f; obtain ⟨q, hq⟩ : ∃ q, f 2 = q := ⟨_, rfl⟩; have hH := HH.out 2
      case' inr.inr.inl => have hor := @encR_or2 f; obtain ⟨q, hq⟩ : ∃ q, f 3 = q := ⟨_, rfl⟩; have hH := HH.out 3
      case' inr.inr.inr.inl => have hor := @encR_or3 f; obtain ⟨q, hq⟩ : ∃ q, f 4 = q := ⟨_, rfl⟩; have hH := HH.out 4
      case' inr.inr.inr.inr => have hor := @encR_or4 f; obtain ⟨q, hq⟩ : ∃ q, f 5 = q := ⟨_, rfl⟩; have hH := HH.out 5
      all_goals
        rw [hq] at hH hor
        rcases q with _ | _
        · have HN := Lib.hid (hno hq)
          have H2 := Lib.hid hH
          clear hno hor hq hH
          go_wp2_with (go_at_call 8; refine (H2.out _).mono ?_; rintro e w1 ⟨rfl, hb1⟩)
          go_roundw
          case rel => exact ⟨m, by subst hm; first | exact iv (by rfl) | go_num, by omega, by subst hm; rw [HN.out], below_trans hb hb1⟩
          case measure => simp [intOf]
        · have ho := (hor rfl).1
          have H2 := Lib.hid hH
          clear hno hor hq hH
          go_wp2_with (go_at_call 8; refine (H2.out _).mono ?_; rintro e w1 ⟨rfl, hb1⟩)
          go_roundw
          case rel => exact ⟨m, by subst hm; first | exact iv (by rfl) | go_num, by omega, by subst hm; rfl, below_trans hb hb1⟩
          case measure => simp [intOf]
    · obtain rfl : k = 5 := by omega
      go_wp2
      go_ret
      exact ⟨ret_int (encR_all f), hb⟩
set_option maxRecDepth 100000 in
theorem rSets_any (c : Int) (w : World) (h1 : -2147483648 ≤ c) (h2 : c ≤ 2147483647) :
    Calls Tryd.prog 11 #[.int .i32 c] w fun e w' => e = .returned (.int .i64 (enc fun n => hasB n c)) ∧ Below w.heap.size w w' := by
  have H := fun n w => rHas_any n c w h1 h2
  obtain ⟨f, hf⟩ : ∃ f : Int → Bool, f = fun n => hasB n c := ⟨_, rfl⟩
  have hH : ∀ n w, Calls Tryd.prog 9 #[.int .i64 n, .int .i32 c] w fun e w' => e = .returned (.bool (f n)) ∧ Below w.heap.size w w' := by rw [hf]; exact H
  rw [← hf]
  have HH := Lib.hid hH; clear hH H hf
  go_enter Tryd.func11, Tryd.ntmps11
  go_wp2
  go_loopw [3, 4] (fun s i wr => ∃ k : Nat, i = .int .i64 ((k : Int) + 1) ∧ k ≤ 5 ∧ s = .int .i64 (encR k f) ∧ Below w.heap.size w wr) (fun _ i _ => 6 - (intOf i).toNat)
  case atStart => exact ⟨0, rfl, by omega, rfl, Below.refl _ _⟩
  case round =>
    obtain ⟨k, rfl, hk, rfl, hb⟩ := hrel
    by_cases hlt : k < 5
    · have hno := @encR_no f k hlt
      have hrg := encR_rng k f
      have hrg0 := hrg.1
      have hrg1 := hrg.2
      obtain ⟨m, hm⟩ : ∃ m : Nat, m = k + 1 := ⟨_, rfl⟩
      rcases (by omega : k = 0 ∨ k = 1 ∨ k = 2 ∨ k = 3 ∨ k = 4) with rfl | rfl | rfl | rfl | rfl
      case' inl => have hor := @encR_or0 f; obtain ⟨q, hq⟩ : ∃ q, f 1 = q := ⟨_, rfl⟩; have hH := HH.out 1
      case' inr.inl => have hor := @encR_or1 f; obtain ⟨q, hq⟩ : ∃ q, f 2 = q := ⟨_, rfl⟩; have hH := HH.out 2
      case' inr.inr.inl => have hor := @encR_or2 f; obtain ⟨q, hq⟩ : ∃ q, f 3 = q := ⟨_, rfl⟩; have hH := HH.out 3
      case' inr.inr.inr.inl => have hor := @encR_or3 f; obtain ⟨q, hq⟩ : ∃ q, f 4 = q := ⟨_, rfl⟩; have hH := HH.out 4
      case' inr.inr.inr.inr => have hor := @encR_or4 f; obtain ⟨q, hq⟩ : ∃ q, f 5 = q := ⟨_, rfl⟩; have hH := HH.out 5
      all_goals
        rw [hq] at hH hor
        clear hrg
        rcases q with _ | _
        · have HN := Lib.hid (hno hq)
          have H2 := Lib.hid hH
          clear hno hor hq hH
          go_wp2_with (go_at_call 9; refine (H2.out _).mono ?_; rintro e w1 ⟨rfl, hb1⟩)
          go_roundw
          case rel => exact ⟨m, by subst hm; first | exact iv (by rfl) | go_num, by omega, by subst hm; rw [HN.out], below_trans hb hb1⟩
          case measure => simp [intOf]
        · have HO := Lib.hid (hor rfl).2
          have H2 := Lib.hid hH
          clear hno hor hq hH
          go_wp2_with (go_at_call 9; refine (H2.out _).mono ?_; rintro e w1 ⟨rfl, hb1⟩)
          go_roundw
          case rel => exact ⟨m, by subst hm; first | exact iv (by rfl) | go_num, by omega, by subst hm; refine iv ?_; rw [← HO.out], below_trans hb hb1⟩
          case measure => simp [intOf]
    · obtain rfl : k = 5 := by omega
      go_wp2
      go_ret
      exact ⟨ret_int (encR_all f), hb⟩
theorem pLeast_any (c : Int) (w : World) (hT : Tz w) (h1 : -2147483648 ≤ c) (h2 : c ≤ 2147483647) :
    Calls Tryd.prog 12 #[.int .i32 c] w fun e w' => e = .returned (.int .i64 (lowL fun n => hasB n c)) ∧ Below w.heap.size w w' := by
  have HS := Lib.hid (pSets_any c w h1 h2)
  have HL := Lib.hid fun w' (h : Below w.heap.size w w') => lowest_any (fun n => hasB n c) w' (hT.below h)
  generalize (enc fun n => hasB n c) = s at *
  generalize (lowL fun n => hasB n c) = r at *
  go_enter Tryd.func12, Tryd.ntmps12
  go_wp2_with (first | (go_at_call 10; refine (HS.out).mono ?_; rintro e w1 ⟨rfl, hb1⟩) | (go_at_call 30; refine (HL.out _ hb1).mono ?_; rintro e w2 ⟨rfl, hw⟩; obtain rfl := hw.symm))
  go_ret
  exact ⟨rfl, hb1⟩
set_option maxRecDepth 100000 in
theorem pSize_any (n : Int) (w : World) :
    Calls Tryd.prog 14 #[.int .i64 n] w fun e w' => e = .returned (.int .i64 (sizeL n)) ∧ w' = w := by
  rcases (by omega : n = 1 ∨ n = 2 ∨ n = 3 ∨ n = 4 ∨ n = 5 ∨ ¬ (1 ≤ n ∧ n ≤ 5)) with rfl | rfl | rfl | rfl | rfl | hn
  case inr.inr.inr.inr.inr =>
    have e : sizeL n = 0 := by rw [sizeL, if_neg (by omega), if_neg (by omega), if_neg (by omega), if_neg (by omega), if_neg (by omega)]
    have e1 := beqs n 1 (by omega); have e2 := beqs n 2 (by omega); have e3 := beqs n 3 (by omega); have e4 := beqs n 4 (by omega); have e5 := beqs n 5 (by omega)
    rw [e]
    clear e hn
    go_enter Tryd.func14, Tryd.ntmps14
    go_wp2
    go_ret
    exact ⟨rfl, rfl⟩
  all_goals
    go_enter Tryd.func14, Tryd.ntmps14
    go_wp2
    go_ret
    exact ⟨rfl, rfl⟩
end Go.Proofs.YtgfdebijcpdhbaaDoor
