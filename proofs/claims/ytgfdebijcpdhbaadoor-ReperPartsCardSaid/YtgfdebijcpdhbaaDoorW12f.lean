/- Walks: repertoires: texts. -/
import Derived.Test.YtgfdebijcpdhbaaDoorW12e
import Derived.Test.YtgfdebijcpdhbaaDoorP12b
namespace Go.Proofs.YtgfdebijcpdhbaaDoor
open Go.RowKit
set_option maxHeartbeats 1000000
set_option maxRecDepth 100000 in
theorem rSize_any (n : Int) (w : World) :
    Calls Tryd.prog 15 #[.int .i64 n] w fun e w' => e = .returned (.int .i64 (sizeL n)) ∧ Below w.heap.size w w' := by
  by_cases h5 : n = 5
  · subst h5
    go_enter Tryd.func15, Tryd.ntmps15
    go_wp2
    go_ret
    exact ⟨rfl, Below.refl _ _⟩
  · have HC := Lib.hid (cnt_size h5)
    have e5 := beqs n 5 h5
    have hH := fun c w h1 h2 => rHas_any n c w h1 h2
    have hcs := cnt_succ n
    have hcl := cnt_le n
    have h0 : cnt n 0 = 0 := rfl
    clear h5
    have HH := Lib.hid hH; have HS := Lib.hid hcs; have HL := Lib.hid hcl; have H0 := Lib.hid h0
    clear hH hcs hcl h0
    generalize cnt n = cn at *
    go_enter Tryd.func15, Tryd.ntmps15
    go_wp2
    go_loopw [3, 4] (fun s i wr => ∃ k : Nat, i = .int .i32 k ∧ k ≤ 8704 ∧ s = .int .i64 (cn k) ∧ Below w.heap.size w wr) (fun _ i _ => 8704 - (intOf i).toNat)
    case atStart => exact ⟨0, rfl, by omega, by rw [H0.out]; rfl, Below.refl _ _⟩
    case round =>
      obtain ⟨k, rfl, hk, rfl, hb⟩ := hrel
      have hl := HL.out k
      by_cases hlt : k < 8704
      · have hs := HS.out k
        have H := HH.out (k : Int)
        obtain ⟨q, hq⟩ : ∃ q, hasB n (k : Int) = q := ⟨_, rfl⟩
        rw [hq] at H hs
        have H2 := Lib.hid H
        clear H hq
        rcases q with _ | _
        · have HN : Hid (cn (k + 1) = cn k) := hs
          clear hs
          go_wp2_with (go_at_call 9; refine (H2.out _ (by omega) (by omega)).mono ?_; rintro e w1 ⟨rfl, hb1⟩)
          go_roundw
          case rel => exact ⟨k + 1, by go_num, by omega, by rw [HN.out], below_trans hb hb1⟩
          case measure => simp [intOf]; omega
        · have HN : Hid (cn (k + 1) = cn k + 1) := hs
          clear hs
          go_wp2_with (go_at_call 9; refine (H2.out _ (by omega) (by omega)).mono ?_; rintro e w1 ⟨rfl, hb1⟩)
          go_roundw
          case rel => exact ⟨k + 1, by go_num, by omega, by rw [HN.out]; go_num, below_trans hb hb1⟩
          case measure => simp [intOf]; omega
      · obtain rfl : k = 8704 := by omega
        go_wp2
        go_ret
        exact ⟨ret_int HC.out, hb⟩
/-- The first that a charset has not. -/
def lackN (n : Int) (xs : List Int) : Int := idx (fun c => !hasB n c) xs
theorem lackN_neg (n : Int) (xs : List Int) : (lackN n xs == -1) = xs.all (hasB n) := by
  cases h : xs.all (hasB n) with
  | true =>
    have : lackN n xs = -1 := idx_none fun y hy => by simp [List.all_eq_true.1 h y hy]
    rw [this]; rfl
  | false =>
    rcases idx_spec (fun c => !hasB n c) xs with h1 | ⟨i, x, h1, h2, h3⟩
    · exfalso
      obtain ⟨x, hx, hn⟩ := List.all_eq_false.1 h
      have h1' : xs.findIdx? (fun c => !hasB n c) = none := by
        unfold idx at h1
        split at h1
        · omega
        · assumption
      have := List.findIdx?_eq_none_iff.1 h1' x hx
      simp at this
      exact hn this
    · have : lackN n xs = i := h1
      rw [this]; exact beq_false_of_ne (by omega)
theorem lackN_lt (n : Int) (xs : List Int) : decide (lackN n xs < 0) = xs.all (hasB n) := by
  rw [← lackN_neg]
  rcases idx_spec (fun c => !hasB n c) xs with h1 | ⟨i, x, h1, _⟩
  · have : lackN n xs = -1 := h1
    rw [this]; rfl
  · have : lackN n xs = i := h1
    rw [this, decide_eq_false (by omega), beq_false_of_ne (by omega)]
set_option maxRecDepth 100000 in
theorem pLacks_any (n : Int) (v : Value) (xs : List Int) (w : World) (h : Row w v (ints .i32 xs)) (hg : R32 xs) (hl : xs.length ≤ 1000000) :
    Calls Tryd.prog 19 #[.int .i64 n, v] w fun e w' => e = .returned (.int .i64 (lackN n xs)) ∧ Below w.heap.size w w' := by
  obtain ⟨a, b, off, cp, rfl, HC⟩ := h.op
  go_enter Tryd.func19, Tryd.ntmps19
  go_wp2
  go_loopw [9] (fun i wr => ∃ k : Nat, i = .int .i64 k ∧ k ≤ xs.length ∧ Hid (∀ y ∈ xs.take k, hasB n y = true) ∧ Below w.heap.size w wr) (fun i _ => xs.length - (intOf i).toNat)
  case atStart => exact ⟨0, rfl, Nat.zero_le _, fun y hy => by simp at hy, Below.refl _ _⟩
  case round =>
    obtain ⟨k, rfl, hk, HT, hb⟩ := hrel
    by_cases hlt : k < xs.length
    · obtain ⟨x, HX, rfl, hc⟩ := HC.out k hlt
      replace hc := hc _ hb
      have hxr := hg.get HX.out
      have H := pHas_any n x wr hxr.1 hxr.2
      obtain ⟨q, hq⟩ : ∃ q, hasB n x = q := ⟨_, rfl⟩
      rw [hq] at H
      have HQ := Lib.hid hq; have H2 := Lib.hid H
      clear hq H
      rcases q with _ | _
      · have HF : Hid (lackN n xs = k) := idx_at (p := fun c => !hasB n c) (k := k) (fun y hy => by simp [HT.out y hy]) HX.out (by simp [HQ.out])
        go_wp2_with (go_at_call 8; refine (H2.out).mono ?_; rintro e w1 ⟨rfl, hb1⟩)
        go_ret
        exact ⟨ret_int HF.out.symm, below_trans hb hb1⟩
      · go_wp2_with (go_at_call 8; refine (H2.out).mono ?_; rintro e w1 ⟨rfl, hb1⟩)
        go_roundw
        case rel => exact ⟨k + 1, by go_num, by omega, take_succ_all HT.out HX.out HQ.out, below_trans hb hb1⟩
        case measure => simp [intOf]; omega
    · have HF : Hid (lackN n xs = -1) := idx_none fun y hy => by
        have := HT.out y (by rw [List.take_of_length_le (by omega)]; exact hy)
        simp [this]
      go_wp2
      go_ret
      exact ⟨ret_int HF.out.symm, hb⟩
set_option maxRecDepth 100000 in
theorem rLacks_any (n : Int) (v : Value) (xs : List Int) (w : World) (h : Row w v (ints .i32 xs)) (hg : R32 xs) (hl : xs.length ≤ 1000000) :
    Calls Tryd.prog 20 #[.int .i64 n, v] w fun e w' => e = .returned (.int .i64 (lackN n xs)) ∧ Below w.heap.size w w' := by
  obtain ⟨a, b, off, cp, rfl, HC⟩ := h.op
  go_enter Tryd.func20, Tryd.ntmps20
  go_wp2
  go_loopw [5] (fun i wr => ∃ k : Nat, i = .int .i64 k ∧ k ≤ xs.length ∧ Hid (∀ y ∈ xs.take k, hasB n y = true) ∧ Below w.heap.size w wr) (fun i _ => xs.length - (intOf i).toNat)
  case atStart => exact ⟨0, rfl, Nat.zero_le _, fun y hy => by simp at hy, Below.refl _ _⟩
  case round =>
    obtain ⟨k, rfl, hk, HT, hb⟩ := hrel
    by_cases hlt : k < xs.length
    · obtain ⟨x, HX, rfl, hc⟩ := HC.out k hlt
      replace hc := hc _ hb
      have hxr := hg.get HX.out
      have H := fun w => rHas_any n x w hxr.1 hxr.2
      obtain ⟨q, hq⟩ : ∃ q, hasB n x = q := ⟨_, rfl⟩
      rw [hq] at H
      have HQ := Lib.hid hq; have H2 := Lib.hid H
      clear hq H
      rcases q with _ | _
      · have HF : Hid (lackN n xs = k) := idx_at (p := fun c => !hasB n c) (k := k) (fun y hy => by simp [HT.out y hy]) HX.out (by simp [HQ.out])
        go_wp2_with (go_at_call 9; refine (H2.out _).mono ?_; rintro e w1 ⟨rfl, hb1⟩)
        go_ret
        exact ⟨ret_int HF.out.symm, below_trans hb hb1⟩
      · go_wp2_with (go_at_call 9; refine (H2.out _).mono ?_; rintro e w1 ⟨rfl, hb1⟩)
        go_roundw
        case rel => exact ⟨k + 1, by go_num, by omega, take_succ_all HT.out HX.out HQ.out, below_trans hb hb1⟩
        case measure => simp [intOf]; omega
    · have HF : Hid (lackN n xs = -1) := idx_none fun y hy => by
        have := HT.out y (by rw [List.take_of_length_le (by omega)]; exact hy)
        simp [this]
      go_wp2
      go_ret
      exact ⟨ret_int HF.out.symm, hb⟩
end Go.Proofs.YtgfdebijcpdhbaaDoor
