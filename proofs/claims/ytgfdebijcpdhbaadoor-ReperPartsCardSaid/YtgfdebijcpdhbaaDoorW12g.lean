/- Walks: repertoires: the sufficient one. -/
import Derived.Test.YtgfdebijcpdhbaaDoorW12f
namespace Go.Proofs.YtgfdebijcpdhbaaDoor
open Go.RowKit
set_option maxHeartbeats 1000000
def allN (n : Int) (xs : List Int) : Bool := decide (1 ≤ n ∧ n ≤ 5) && xs.all (hasB n)
def fN (xs : List Int) : Int → Bool := fun n => xs.all (hasB n)
theorem size_pos {n : Int} (h : 1 ≤ n ∧ n ≤ 5) : 0 < sizeL n := by
  rcases (by omega : n = 1 ∨ n = 2 ∨ n = 3 ∨ n = 4 ∨ n = 5) with rfl | rfl | rfl | rfl | rfl <;> decide
theorem size_none {n : Int} (h : ¬ (1 ≤ n ∧ n ≤ 5)) : sizeL n = 0 := by rw [sizeL, if_neg (by omega), if_neg (by omega), if_neg (by omega), if_neg (by omega), if_neg (by omega)]
theorem pAll_any (n : Int) (v : Value) (xs : List Int) (w : World) (h : Row w v (ints .i32 xs)) (hg : R32 xs) (hl : xs.length ≤ 1000000) :
    Calls Tryd.prog 17 #[.int .i64 n, v] w fun e w' => e = .returned (.bool (allN n xs)) ∧ Below w.heap.size w w' := by
  have hb := Below.refl w.heap.size w
  have hS := fun w => pSize_any n w
  have hL := pLacks_any n v xs w h hg hl
  have hneg := lackN_neg n xs
  obtain ⟨a, b, off, cp, rfl, _⟩ := id h.op
  rcases Decidable.em (1 ≤ n ∧ n ≤ 5) with hn | hn
  · have hp := size_pos hn
    have e : allN n xs = xs.all (hasB n) := by rw [allN, decide_eq_true hn]; rfl
    rw [e]
    generalize sizeL n = s at *
    generalize lackN n xs = l at *
    rw [← hneg]
    have HS := Lib.hid hS; have HL := Lib.hid hL
    clear hS hL e hneg hn
    go_enter Tryd.func17, Tryd.ntmps17
    go_wp2_with (first | (go_at_call 14; refine (HS.out _).mono ?_; rintro e w1 ⟨rfl, hw⟩; obtain rfl := hw.symm) | (go_at_call 19; refine (HL.out).mono ?_; rintro e w2 ⟨rfl, hb2⟩))
    go_ret
    exact ⟨rfl, hb2⟩
  · have hp := size_none hn
    have e : allN n xs = false := by rw [allN, decide_eq_false hn]; rfl
    rw [e]
    rw [hp] at hS
    have HS := Lib.hid hS
    clear hS hL e hneg hn
    go_enter Tryd.func17, Tryd.ntmps17
    go_wp2_with (first | (go_at_call 14; refine (HS.out _).mono ?_; rintro e w1 ⟨rfl, hw⟩; obtain rfl := hw.symm))
    go_ret
    exact ⟨rfl, hb⟩
theorem rAll_any (n : Int) (v : Value) (xs : List Int) (w : World) (h : Row w v (ints .i32 xs)) (hg : R32 xs) (hl : xs.length ≤ 1000000) :
    Calls Tryd.prog 18 #[.int .i64 n, v] w fun e w' => e = .returned (.bool (allN n xs)) ∧ Below w.heap.size w w' := by
  have hb := Below.refl w.heap.size w
  have hL := rLacks_any n v xs w h hg hl
  have hneg := lackN_lt n xs
  obtain ⟨a, b, off, cp, rfl, _⟩ := id h.op
  rcases Decidable.em (1 ≤ n ∧ n ≤ 5) with hn | hn
  · have e : allN n xs = xs.all (hasB n) := by rw [allN, decide_eq_true hn]; rfl
    rw [e]
    have hn1 := hn.1
    have hn2 := hn.2
    generalize lackN n xs = l at *
    rw [← hneg]
    have HL := Lib.hid hL
    clear hL e hneg hn
    go_enter Tryd.func18, Tryd.ntmps18
    go_wp2_with ((go_at_call 20; refine (HL.out).mono ?_; rintro e w2 ⟨rfl, hb2⟩))
    go_ret
    exact ⟨rfl, hb2⟩
  · have e : allN n xs = false := by rw [allN, decide_eq_false hn]; rfl
    rw [e]
    clear hL e hneg
    rcases Decidable.em (1 ≤ n) with h1 | h1
    · have h2 : ¬ n ≤ 5 := by omega
      clear hn
      go_enter Tryd.func18, Tryd.ntmps18
      go_wp2
      go_ret
      exact ⟨rfl, hb⟩
    · clear hn
      go_enter Tryd.func18, Tryd.ntmps18
      go_wp2
      go_ret
      exact ⟨rfl, hb⟩
theorem enc_congr {f g : Int → Bool} (h : ∀ n, f n = g n) : enc f = enc g := by rw [show f = g from funext h]
set_option maxRecDepth 100000 in
theorem pSelect_any (v : Value) (xs : List Int) (w : World) (hT : Tz w) (h : Row w v (ints .i32 xs)) (hg : R32 xs) (hl : xs.length ≤ 1000000) :
    Calls Tryd.prog 16 #[v] w fun e w' => e = .returned (.tuple #[.int .i64 (lowL (fN xs)), .int .i64 (noneL (fN xs))]) ∧ Below w.heap.size w w' := by
  obtain ⟨a, b, off, cp, rfl, HC⟩ := h.op
  have HT := Lib.hid hT; clear hT
  go_enter Tryd.func16, Tryd.ntmps16
  go_wp2
  go_loopw [4, 9] (fun s i wr => ∃ k : Nat, i = .int .i64 k ∧ k ≤ xs.length ∧ s = .int .i64 (enc (fN (xs.take k))) ∧ Below w.heap.size w wr) (fun _ i _ => xs.length - (intOf i).toNat)
  case atStart => exact ⟨0, rfl, Nat.zero_le _, rfl, Below.refl _ _⟩
  case round =>
    obtain ⟨k, rfl, hk, rfl, hb⟩ := hrel
    by_cases hlt : k < xs.length
    · obtain ⟨x, HX, rfl, hc⟩ := HC.out k hlt
      replace hc := hc _ hb
      have hxr := hg.get HX.out
      have H2 := Lib.hid (pSets_any x wr hxr.1 hxr.2)
      have hand : bits .and .i64 (enc (fN (xs.take k))) (enc fun n => hasB n x) = enc (fN (xs.take (k + 1))) := by
        rw [enc_and]
        refine enc_congr fun n => ?_
        rw [fN, fN, List.take_add_one, HX.out, List.all_append]
        simp
      generalize enc (fN (xs.take k)) = s0 at *
      generalize (enc fun n => hasB n x) = s1 at *
      generalize hq : enc (fN (xs.take (k + 1))) = s2 at *
      have HQ := Lib.hid hq; clear hq
      go_wp2_with (go_at_call 10; refine (H2.out).mono ?_; rintro e w1 ⟨rfl, hb1⟩)
      go_roundw
      case rel => exact ⟨k + 1, by go_num, by omega, by rw [HQ.out], below_trans hb hb1⟩
      case measure => simp [intOf]; omega
    · obtain rfl : k = xs.length := by omega
      rw [List.take_length]
      have hz := @enc_pos (fN xs)
      have H2 := Lib.hid (lowest_any (fN xs) wr (HT.out.below hb))
      rcases Decidable.em (lowL (fN xs) = 0) with h0 | h0
      · have he : enc (fN xs) = 0 := hz.2 h0
        have HN : Hid (noneL (fN xs) = 7) := if_pos h0
        have H0 := Lib.hid h0
        clear h0 H2 hz
        rw [he]
        clear he
        go_wp2
        go_ret2
        exact ⟨by rw [HN.out, H0.out]; rfl, hb⟩
      · have he : (enc (fN xs) == 0) = false := beq_false_of_ne fun h9 => h0 (hz.1 h9)
        have HN : Hid (noneL (fN xs) = 0) := if_neg h0
        clear h0 hz
        generalize enc (fN xs) = s at *
        go_wp2_with (go_at_call 30; refine (H2.out).mono ?_; rintro e w1 ⟨rfl, hw⟩; obtain rfl := hw.symm)
        go_ret2
        exact ⟨by rw [HN.out]; rfl, hb⟩
theorem low_first {f : Int → Bool} {n : Int} (h1 : 1 ≤ n) (h2 : n ≤ 5) (hf : f n = true) (hm : ∀ m : Int, 1 ≤ m → m < n → f m = false) : lowL f = n := by
  have h3 := low_pos h1 h2 hf
  rcases Int.lt_or_le (lowL f) n with h4 | h4
  · have h5 := low_at (f := f) (by omega)
    rw [hm _ h3.1 h4] at h5; cases h5
  · omega
theorem low_none {f : Int → Bool} (hm : ∀ m : Int, 1 ≤ m → m < 6 → f m = false) : lowL f = 0 := by
  rcases Decidable.em (lowL f = 0) with h | h
  · exact h
  · have h1 := low_rng f
    have h5 := low_at h
    rw [hm _ (by omega) (by omega)] at h5; cases h5
set_option maxRecDepth 100000 in
theorem rSelect_any (v : Value) (xs : List Int) (w : World) (h : Row w v (ints .i32 xs)) (hg : R32 xs) (hl : xs.length ≤ 1000000) :
    Calls Tryd.prog 7 #[v] w fun e w' => e = .returned (.tuple #[.int .i64 (lowL (fN xs)), .int .i64 (noneL (fN xs))]) ∧ Below w.heap.size w w' := by
  obtain ⟨a, b, off, cp, rfl, _⟩ := id h.op
  have HA := Lib.hid fun n w' h' => rAll_any n (.slice a xs.length cp) xs w' h' hg hl
  go_enter Tryd.func7, Tryd.ntmps7
  go_wp2
  go_loopw [4] (fun i wr => ∃ k : Nat, i = .int .i64 ((k : Int) + 1) ∧ k ≤ 5 ∧ Hid (∀ m : Int, 1 ≤ m → m < (k : Int) + 1 → fN xs m = false) ∧ Below w.heap.size w wr) (fun i _ => 6 - (intOf i).toNat)
  case atStart => exact ⟨0, rfl, Nat.zero_le _, fun m h1 h2 => by omega, Below.refl _ _⟩
  case round =>
    obtain ⟨k, rfl, hk, HM, hb⟩ := hrel
    by_cases hlt : k < 5
    · have H := HA.out ((k : Int) + 1) wr (h.below hb)
      obtain ⟨q, hq⟩ : ∃ q, allN ((k : Int) + 1) xs = q := ⟨_, rfl⟩
      rw [hq] at H
      have hq2 : fN xs ((k : Int) + 1) = q := by rw [← hq, allN, decide_eq_true (by omega)]; rfl
      have H2 := Lib.hid H; have HQ := Lib.hid hq2
      clear H hq hq2
      rcases q with _ | _
      · go_wp2_with (go_at_call 18; refine (H2.out).mono ?_; rintro e w1 ⟨rfl, hb1⟩)
        go_roundw
        case rel => exact ⟨k + 1, by go_num, by omega, fun m h1 h2 => (by
          rcases (by omega : m < (k : Int) + 1 ∨ m = (k : Int) + 1) with h9 | rfl
          · exact HM.out m h1 h9
          · exact HQ.out), below_trans hb hb1⟩
        case measure => simp [intOf]; omega
      · have hlow := low_first (by omega) (by omega) HQ.out HM.out
        have HF : Hid (lowL (fN xs) = (k : Int) + 1 ∧ noneL (fN xs) = 0) := ⟨hlow, if_neg (by omega)⟩
        clear hlow
        go_wp2_with (go_at_call 18; refine (H2.out).mono ?_; rintro e w1 ⟨rfl, hb1⟩)
        go_ret2
        exact ⟨by rw [HF.out.1, HF.out.2]; rfl, below_trans hb hb1⟩
    · obtain rfl : k = 5 := by omega
      have hlow := low_none fun m h1 h2 => HM.out m h1 (by omega)
      have HF : Hid (lowL (fN xs) = 0 ∧ noneL (fN xs) = 7) := ⟨hlow, if_pos hlow⟩
      clear hlow
      go_wp2
      go_ret2
      exact ⟨by rw [HF.out.1, HF.out.2]; rfl, hb⟩
end Go.Proofs.YtgfdebijcpdhbaaDoor
