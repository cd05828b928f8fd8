/- Walks: repertoires: the sufficient one. · Walks: windows-1252, reading; the statements' own examples. · Plain laws on bits. · Walks: UTF-8, one sign. · Walks: UTF-8, putting one sign. · Walks: UTF-8, one sign: the reference's octets; how far octets are well formed. (laid together by program out of single texts). -/
import Derived.WalkKit
import Derived.Test.YtponfaglflmnkaaDoorM1
import Derived.Test.YtponfaglflmnkaaDoorM2
import Derived.Test.YtponfaglflmnkaaDoorM3
import Derived.Test.YtponfaglflmnkaaDoorM5
namespace Go.Proofs.YtponfaglflmnkaaDoor
open Go.RowKit
set_option maxHeartbeats 1000000
def allN (n : Int) (xs : List Int) : Bool := decide (1 ≤ n ∧ n ≤ 5) && xs.all (hasB n)
def fN (xs : List Int) : Int → Bool := fun n => xs.all (hasB n)
theorem size_pos {n : Int} (h : 1 ≤ n ∧ n ≤ 5) : 0 < sizeL n := by
  rcases (by omega : n = 1 ∨ n = 2 ∨ n = 3 ∨ n = 4 ∨ n = 5) with rfl | rfl | rfl | rfl | rfl <;> decide
theorem size_none {n : Int} (h : ¬ (1 ≤ n ∧ n ≤ 5)) : sizeL n = 0 := by rw [sizeL, if_neg (by omega), if_neg (by omega), if_neg (by omega), if_neg (by omega), if_neg (by omega)]
theorem pAll_any (n : Int) (v : Value) (xs : List Int) (w : World) (h : Row w v (ints .i32 xs)) (hg : R32 xs) (hl : xs.length ≤ 1000000) :
    Calls Tryd.prog 23 #[.int .i64 n, v] w fun e w' => e = .returned (.bool (allN n xs)) ∧ Below w.heap.size w w' := by
  have hb := Below.refl w.heap.size w
  have hS := fun w => pSize_any n w
  have hL := pLacks_any n v xs w h hg hl
  have hneg := lackN_neg n xs
  obtain ⟨a, b, off, cp, rfl, _⟩ := id h.op
  rcases Decidable.em (1 ≤ n ∧ n ≤ 5) with hn | hn
  · have hp := size_pos hn
    have e : allN n xs = xs.all (hasB n) := by rw [allN, decide_eq_true hn]; rfl
    rw [e]
    generalize sizeL n = s at *
    generalize lackN n xs = l at *
    rw [← hneg]
    have HS := Lib.hid hS; have HL := Lib.hid hL
    clear hS hL e hneg hn
    go_enter Tryd.func23, Tryd.ntmps23
    go_wp2_with (first | (go_at_call 22; refine (HS.out _).mono ?_; rintro e w1 ⟨rfl, hw⟩; obtain rfl := hw.symm) | (go_at_call 37; refine (HL.out).mono ?_; rintro e w2 ⟨rfl, hb2⟩))
    go_ret
    exact ⟨rfl, hb2⟩
  · have hp := size_none hn
    have e : allN n xs = false := by rw [allN, decide_eq_false hn]; rfl
    rw [e]
    rw [hp] at hS
    have HS := Lib.hid hS
    clear hS hL e hneg hn
    go_enter Tryd.func23, Tryd.ntmps23
    go_wp2_with (first | (go_at_call 22; refine (HS.out _).mono ?_; rintro e w1 ⟨rfl, hw⟩; obtain rfl := hw.symm))
    go_ret
    exact ⟨rfl, hb⟩
theorem rAll_any (n : Int) (v : Value) (xs : List Int) (w : World) (h : Row w v (ints .i32 xs)) (hg : R32 xs) (hl : xs.length ≤ 1000000) :
    Calls Tryd.prog 30 #[.int .i64 n, v] w fun e w' => e = .returned (.bool (allN n xs)) ∧ Below w.heap.size w w' := by
  have hb := Below.refl w.heap.size w
  have hL := rLacks_any n v xs w h hg hl
  have hneg := lackN_lt n xs
  obtain ⟨a, b, off, cp, rfl, _⟩ := id h.op
  rcases Decidable.em (1 ≤ n ∧ n ≤ 5) with hn | hn
  · have e : allN n xs = xs.all (hasB n) := by rw [allN, decide_eq_true hn]; rfl
    rw [e]
    have hn1 := hn.1
    have hn2 := hn.2
    generalize lackN n xs = l at *
    rw [← hneg]
    have HL := Lib.hid hL
    clear hL e hneg hn
    go_enter Tryd.func30, Tryd.ntmps30
    go_wp2_with ((go_at_call 46; refine (HL.out).mono ?_; rintro e w2 ⟨rfl, hb2⟩))
    go_ret
    exact ⟨rfl, hb2⟩
  · have e : allN n xs = false := by rw [allN, decide_eq_false hn]; rfl
    rw [e]
    clear hL e hneg
    rcases Decidable.em (1 ≤ n) with h1 | h1
    · have h2 : ¬ n ≤ 5 := by omega
      clear hn
      go_enter Tryd.func30, Tryd.ntmps30
      go_wp2
      go_ret
      exact ⟨rfl, hb⟩
    · clear hn
      go_enter Tryd.func30, Tryd.ntmps30
      go_wp2
      go_ret
      exact ⟨rfl, hb⟩
theorem enc_congr {f g : Int → Bool} (h : ∀ n, f n = g n) : enc f = enc g := by rw [show f = g from funext h]
set_option maxRecDepth 100000 in
theorem pSelect_any (v : Value) (xs : List Int) (w : World) (hT : Tz w) (h : Row w v (ints .i32 xs)) (hg : R32 xs) (hl : xs.length ≤ 1000000) :
    Calls Tryd.prog 13 #[v] w fun e w' => e = .returned (.tuple #[.int .i64 (lowL (fN xs)), .int .i64 (noneL (fN xs))]) ∧ Below w.heap.size w w' := by
  obtain ⟨a, b, off, cp, rfl, HC⟩ := h.op
  have HT := Lib.hid hT; clear hT
  go_enter Tryd.func13, Tryd.ntmps13
  go_wp2
  go_loopw [4, 9] (fun s i wr => ∃ k : Nat, i = .int .i64 k ∧ k ≤ xs.length ∧ s = .int .i64 (enc (fN (xs.take k))) ∧ Below w.heap.size w wr) (fun _ i _ => xs.length - (intOf i).toNat)
  case atStart => exact ⟨0, rfl, Nat.zero_le _, rfl, Below.refl _ _⟩
  case round =>
    obtain ⟨k, rfl, hk, rfl, hb⟩ := hrel
    by_cases hlt : k < xs.length
    · obtain ⟨x, HX, rfl, hc⟩ := HC.out k hlt
      replace hc := hc _ hb
      have hxr := hg.get HX.out
      have H2 := Lib.hid (pSets_any x wr hxr.1 hxr.2)
      have hand : bits .and .i64 (enc (fN (xs.take k))) (enc fun n => hasB n x) = enc (fN (xs.take (k + 1))) := by
        rw [enc_and]
        refine enc_congr fun n => ?_
        rw [fN, fN, List.take_add_one, HX.out, List.all_append]
        simp
      generalize enc (fN (xs.take k)) = s0 at *
      generalize (enc fun n => hasB n x) = s1 at *
      generalize hq : enc (fN (xs.take (k + 1))) = s2 at *
      have HQ := Lib.hid hq; clear hq
      go_wp2_with (go_at_call 28; refine (H2.out).mono ?_; rintro e w1 ⟨rfl, hb1⟩)
      go_roundw
      case rel => exact ⟨k + 1, by go_num, by omega, by rw [HQ.out], below_trans hb hb1⟩
      case measure => simp [intOf]; omega
    · obtain rfl : k = xs.length := by omega
      rw [List.take_length]
      have hz := @enc_pos (fN xs)
      have H2 := Lib.hid (lowest_any (fN xs) wr (HT.out.below hb))
      rcases Decidable.em (lowL (fN xs) = 0) with h0 | h0
      · have he : enc (fN xs) = 0 := hz.2 h0
        have HN : Hid (noneL (fN xs) = 7) := if_pos h0
        have H0 := Lib.hid h0
        clear h0 H2 hz
        rw [he]
        clear he
        go_wp2
        go_ret2
        exact ⟨by rw [HN.out, H0.out]; rfl, hb⟩
      · have he : (enc (fN xs) == 0) = false := beq_false_of_ne fun h9 => h0 (hz.1 h9)
        have HN : Hid (noneL (fN xs) = 0) := if_neg h0
        clear h0 hz
        generalize enc (fN xs) = s at *
        go_wp2_with (go_at_call 29; refine (H2.out).mono ?_; rintro e w1 ⟨rfl, hw⟩; obtain rfl := hw.symm)
        go_ret2
        exact ⟨by rw [HN.out]; rfl, hb⟩
theorem low_first {f : Int → Bool} {n : Int} (h1 : 1 ≤ n) (h2 : n ≤ 5) (hf : f n = true) (hm : ∀ m : Int, 1 ≤ m → m < n → f m = false) : lowL f = n := by
  have h3 := low_pos h1 h2 hf
  rcases Int.lt_or_le (lowL f) n with h4 | h4
  · have h5 := low_at (f := f) (by omega)
    rw [hm _ h3.1 h4] at h5; cases h5
  · omega
theorem low_none {f : Int → Bool} (hm : ∀ m : Int, 1 ≤ m → m < 6 → f m = false) : lowL f = 0 := by
  rcases Decidable.em (lowL f = 0) with h | h
  · exact h
  · have h1 := low_rng f
    have h5 := low_at h
    rw [hm _ (by omega) (by omega)] at h5; cases h5
set_option maxRecDepth 100000 in
theorem rSelect_any (v : Value) (xs : List Int) (w : World) (h : Row w v (ints .i32 xs)) (hg : R32 xs) (hl : xs.length ≤ 1000000) :
    Calls Tryd.prog 14 #[v] w fun e w' => e = .returned (.tuple #[.int .i64 (lowL (fN xs)), .int .i64 (noneL (fN xs))]) ∧ Below w.heap.size w w' := by
  obtain ⟨a, b, off, cp, rfl, _⟩ := id h.op
  have HA := Lib.hid fun n w' h' => rAll_any n (.slice a xs.length cp) xs w' h' hg hl
  go_enter Tryd.func14, Tryd.ntmps14
  go_wp2
  go_loopw [4] (fun i wr => ∃ k : Nat, i = .int .i64 ((k : Int) + 1) ∧ k ≤ 5 ∧ Hid (∀ m : Int, 1 ≤ m → m < (k : Int) + 1 → fN xs m = false) ∧ Below w.heap.size w wr) (fun i _ => 6 - (intOf i).toNat)
  case atStart => exact ⟨0, rfl, Nat.zero_le _, fun m h1 h2 => by omega, Below.refl _ _⟩
  case round =>
    obtain ⟨k, rfl, hk, HM, hb⟩ := hrel
    by_cases hlt : k < 5
    · have H := HA.out ((k : Int) + 1) wr (h.below hb)
      obtain ⟨q, hq⟩ : ∃ q, allN ((k : Int) + 1) xs = q := ⟨_, rfl⟩
      rw [hq] at H
      have hq2 : fN xs ((k : Int) + 1) = q := by rw [← hq, allN, decide_eq_true (by omega)]; rfl
      have H2 := Lib.hid H; have HQ := Lib.hid hq2
      clear H hq hq2
      rcases q with _ | _
      · go_wp2_with (go_at_call 30; refine (H2.out).mono ?_; rintro e w1 ⟨rfl, hb1⟩)
        go_roundw
        case rel => exact ⟨k + 1, by go_num, by omega, fun m h1 h2 => (by
          rcases (by omega : m < (k : Int) + 1 ∨ m = (k : Int) + 1) with h9 | rfl
          · exact HM.out m h1 h9
          · exact HQ.out), below_trans hb hb1⟩
        case measure => simp [intOf]; omega
      · have hlow := low_first (by omega) (by omega) HQ.out HM.out
        have HF : Hid (lowL (fN xs) = (k : Int) + 1 ∧ noneL (fN xs) = 0) := ⟨hlow, if_neg (by omega)⟩
        clear hlow
        go_wp2_with (go_at_call 30; refine (H2.out).mono ?_; rintro e w1 ⟨rfl, hb1⟩)
        go_ret2
        exact ⟨by rw [HF.out.1, HF.out.2]; rfl, below_trans hb hb1⟩
    · obtain rfl : k = 5 := by omega
      have hlow := low_none fun m h1 h2 => HM.out m h1 (by omega)
      have HF : Hid (lowL (fN xs) = 0 ∧ noneL (fN xs) = 7) := ⟨hlow, if_pos hlow⟩
      clear hlow
      go_wp2
      go_ret2
      exact ⟨by rw [HF.out.1, HF.out.2]; rfl, hb⟩
end Go.Proofs.YtponfaglflmnkaaDoor
namespace Go.Proofs.YtponfaglflmnkaaDoor
open Go.RowKit
set_option maxHeartbeats 400000

def wreadL (xs : List Int) : List Int := xs.map wsign
theorem wreadL_snoc {xs : List Int} {k : Nat} {x : Int} (h : xs[k]? = some x) : wreadL (xs.take (k + 1)) = wreadL (xs.take k) ++ [wsign x] := by
  simp [wreadL, List.take_add_one, h]
theorem wreadL_len (xs : List Int) : (wreadL xs).length = xs.length := by simp [wreadL]
theorem wRead_any (v : Value) (xs : List Int) (w : World) (h : Row w v (ints .u8 xs)) (hr : Rg 0 256 xs) (hl : xs.length ≤ 1000000) :
    Calls Tryd.prog 18 #[v] w fun e w' => ∃ t, e = .returned t ∧ Own w.heap.size 21 w' t (ints .i32 (wreadL xs)) ∧ Below w.heap.size w w' := by
  obtain ⟨a, b, off, cap, rfl, HC⟩ := h.op
  clear h
  go_enter Tryd.func18, Tryd.ntmps18
  go_wp2_with (at_make; refine wpList_mk slT_i32 w.heap.size _ _ rfl rfl rfl rfl (by omega) (Nat.le_refl _) ?_; intro v2 w2 hown2 hb)
  go_loopw [3, 11] (fun u i wr => ∃ k : Nat, i = .int .i64 k ∧ k ≤ xs.length ∧ Own w.heap.size 21 wr u (ints .i32 (wreadL (xs.take k))) ∧ Below w.heap.size w wr) (fun _ i _ => xs.length - (intOf i).toNat)
  case atStart => exact ⟨0, rfl, Nat.zero_le _, hown2, hb⟩
  case round =>
    clear hown2 hb
    obtain ⟨k, rfl, hk, hown, hb⟩ := hrel
    by_cases hlt : k < xs.length
    · obtain ⟨x, HX, rfl, hc⟩ := HC.out k hlt
      replace hc := hc wr hb
      have hxr := hr.get HX.out
      have HU := Lib.hid (wreadL_snoc HX.out)
      have HLb : Hid ((ints .i32 (wreadL (xs.take k))).length + (ints .i32 [wsign x]).length ≤ 1000000000) := by
        have h1 := wreadL_len (xs.take k); rw [List.length_take] at h1; show _ ≤ _; simp only [ints_length, List.length_cons, List.length_nil]; omega
      go_wp2_with (first | (go_at_call 34; refine (wSign_any _ _ hxr.1 hxr.2).mono ?_; rintro e w1 ⟨rfl, hb1⟩) | (go_at_call 69; refine (rwSign_any _ _ hxr.1 hxr.2).mono ?_; rintro e w1 ⟨rfl, hb1⟩) | (at_builtin; refine wpList_app slT_i32 _ _ _ rfl rfl rfl rfl ((hown.below hb1).alloc _) (Row.ilit [_] [_] rfl (by simp)) HLb.out (by have := below_size2 hb hb1; simp; omega) ?_; intro t2 w2 hown2 hg2))
      go_roundw
      case rel => exact ⟨k + 1, by go_num, by omega, by rw [HU.out, ints_append]; exact hown2, below_app hb (hb1.alloc hb1.size _) ((hown.below hb1).alloc _) hg2⟩
      case measure => simp [intOf]; omega
    · go_wp2
      go_ret
      rw [List.take_of_length_le (by omega)] at hown
      exact ⟨_, rfl, hown, hb⟩
theorem wlayR_len (xs : List Int) : (wlayR xs).1.length ≤ xs.length := by unfold wlayR; split <;> simp
end Go.Proofs.YtponfaglflmnkaaDoor
namespace Go.Proofs.YtponfaglflmnkaaDoor
/-- n & (the bits from m on, below m + j). -/
theorem nat_and_high (n m j : Nat) : n &&& ((2 ^ j - 1) * 2 ^ m) = n / 2 ^ m % 2 ^ j * 2 ^ m := by
  have h1 : (n &&& ((2 ^ j - 1) * 2 ^ m)) % 2 ^ m = 0 := by rw [Nat.and_mod_two_pow, Nat.mul_mod_left, Nat.and_zero]
  have h2 : (n &&& ((2 ^ j - 1) * 2 ^ m)) / 2 ^ m = n / 2 ^ m % 2 ^ j := by
    rw [Nat.and_div_two_pow, Nat.mul_div_cancel _ (Nat.two_pow_pos m), Nat.and_two_pow_sub_one_eq_mod]
  have h3 := Nat.div_add_mod (n &&& ((2 ^ j - 1) * 2 ^ m)) (2 ^ m)
  rw [h1, h2, Nat.add_zero] at h3
  rw [← h3, Nat.mul_comm]
theorem u16_and_fc00 (u : Int) (h0 : 0 ≤ u) (h1 : u < 65536) : bits .and .u16 u 64512 = u / 1024 * 1024 := by
  rw [u16_and u 64512 h0 h1 (by omega) (by omega), show ((64512 : Int).toNat) = (2 ^ 6 - 1) * 2 ^ 10 from rfl, nat_and_high]
  show ((u.toNat / 1024 % 64 * 1024 : Nat) : Int) = _
  omega
theorem i32_mask10 (x : Int) (h0 : 0 ≤ x) (h1 : x < 2147483648) : bits .and .i32 x 1023 = x % 1024 := bits_mask .i32 31 (by decide) wraps_i32 10 (by decide) x h0 h1
theorem i32_join10 (x y : Int) (hx0 : 0 ≤ x) (hx : x % 1024 = 0) (hx1 : x < 2147483648) (hy0 : 0 ≤ y) (hy : y < 1024) : bits .or .i32 x y = x + y := bits_join .i32 31 (by decide) wraps_i32 10 x y hx0 hx hx1 hy0 hy (by omega)
theorem u16_join8 (x y : Int) (hx0 : 0 ≤ x) (hx : x % 256 = 0) (hx1 : x < 65536) (hy0 : 0 ≤ y) (hy : y < 256) : bits .or .u16 x y = x + y := bits_join .u16 16 (by decide) (fun n h0 h1 => IntWalk.u16_in n (by omega)) 8 x y hx0 hx hx1 hy0 hy (by omega)
theorem i32_join6 (x y : Int) (hx0 : 0 ≤ x) (hx : x % 64 = 0) (hx1 : x < 2147483648) (hy0 : 0 ≤ y) (hy : y < 64) : bits .or .i32 x y = x + y := bits_join .i32 31 (by decide) wraps_i32 6 x y hx0 hx hx1 hy0 hy (by omega)
end Go.Proofs.YtponfaglflmnkaaDoor
namespace Go.Proofs.YtponfaglflmnkaaDoor
open Go.RowKit
set_option maxHeartbeats 400000

theorem oLen_any (c : Int) (w : World) (h0 : -2147483648 ≤ c) (h1 : c ≤ 2147483647) :
    Calls Tryd.prog 56 #[.int .i32 c] w fun e w' => e = .returned (.int .i64 (ulenI c)) ∧ w = w' := by
  unfold ulenI
  by_cases hs : scB c = true
  · rw [if_pos hs]
    have hb := scB_iff.1 hs
    have HS := Lib.hid hs
    by_cases h2 : c < 128
    · rw [if_pos h2]
      go_enter Tryd.func56, Tryd.ntmps56
      go_wp2_with (go_at_call 63; refine (is_any _ _ h0 h1).mono ?_; rintro e w' ⟨rfl, rfl⟩)
      go_ret
      exact ⟨rfl, rfl⟩
    · rw [if_neg h2]
      by_cases h3 : c < 2048
      · rw [if_pos h3]
        go_enter Tryd.func56, Tryd.ntmps56
        go_wp2_with (go_at_call 63; refine (is_any _ _ h0 h1).mono ?_; rintro e w' ⟨rfl, rfl⟩)
        go_ret
        exact ⟨rfl, rfl⟩
      · rw [if_neg h3]
        by_cases h4 : c < 65536
        · rw [if_pos h4]
          go_enter Tryd.func56, Tryd.ntmps56
          go_wp2_with (go_at_call 63; refine (is_any _ _ h0 h1).mono ?_; rintro e w' ⟨rfl, rfl⟩)
          go_ret
          exact ⟨rfl, rfl⟩
        · rw [if_neg h4]
          go_enter Tryd.func56, Tryd.ntmps56
          go_wp2_with (go_at_call 63; refine (is_any _ _ h0 h1).mono ?_; rintro e w' ⟨rfl, rfl⟩)
          go_ret
          exact ⟨rfl, rfl⟩
  · rw [if_neg hs]
    replace hs : scB c = false := by simpa using hs
    go_enter Tryd.func56, Tryd.ntmps56
    go_wp2_with (go_at_call 63; refine (is_any _ _ h0 h1).mono ?_; rintro e w' ⟨rfl, rfl⟩)
    go_ret
    exact ⟨rfl, rfl⟩
theorem olead_any (n : Int) (w : World) :
    Calls Tryd.prog 58 #[.int .i64 n] w fun e w' => e = .returned (.int .u8 (leadI n)) ∧ w = w' := by
  unfold leadI
  rcases (by omega : n = 2 ∨ n = 3 ∨ n = 4 ∨ (n ≠ 2 ∧ n ≠ 3 ∧ n ≠ 4)) with rfl | rfl | rfl | ⟨h2, h3, h4⟩
  · go_enter Tryd.func58, Tryd.ntmps58
    go_wp2
    go_ret
    exact ⟨rfl, rfl⟩
  · go_enter Tryd.func58, Tryd.ntmps58
    go_wp2
    go_ret
    exact ⟨rfl, rfl⟩
  · go_enter Tryd.func58, Tryd.ntmps58
    go_wp2
    go_ret
    exact ⟨rfl, rfl⟩
  · rw [if_neg h2, if_neg h3, if_neg h4]
    have e2 : (n == 2) = false := by simpa using h2
    have e3 : (n == 3) = false := by simpa using h3
    have e4 : (n == 4) = false := by simpa using h4
    clear h2 h3 h4
    go_enter Tryd.func58, Tryd.ntmps58
    go_wp2
    go_ret
    exact ⟨rfl, rfl⟩
theorem oStarts_any (x : Int) (w : World) (h0 : 0 ≤ x) (h1 : x < 256) :
    Calls Tryd.prog 71 #[.int .u8 x] w fun e w' => e = .returned (.int .i64 (wideI x)) ∧ w = w' := by
  go_enter Tryd.func71, Tryd.ntmps71
  go_wp2
  all_goals
    go_ret
    refine ⟨ret_int ?_, rfl⟩
    unfold wideI
    repeat (first | rw [if_pos (by omega)] | rw [if_neg (by omega)])
theorem oFollows_any (x : Int) (w : World) (h0 : 0 ≤ x) (h1 : x < 256) :
    Calls Tryd.prog 76 #[.int .u8 x] w fun e w' => e = .returned (.bool (folB x)) ∧ w = w' := by
  go_enter Tryd.func76, Tryd.ntmps76
  go_wp2
  go_ret
  exact ⟨ret_bool (fol_bits h0 h1), rfl⟩
theorem osecond_any (a y : Int) (w : World) (_h0 : 0 ≤ a) (_h1 : a < 256) (h2 : 0 ≤ y) (h3 : y < 256) :
    Calls Tryd.prog 77 #[.int .u8 a, .int .u8 y] w fun e w' => e = .returned (.bool (secB a y && folB y)) ∧ w = w' := by
  go_enter Tryd.func77, Tryd.ntmps77
  go_wp2_with (go_at_call 76; refine (oFollows_any _ _ h2 h3).mono ?_; rintro e w' ⟨rfl, rfl⟩)
  all_goals
    go_ret
    refine ⟨ret_bool ?_, rfl⟩
    simp only [beq_iff_eq, beq_eq_false_iff_ne, ne_eq] at *
    rw [Bool.eq_iff_iff]
    simp only [Bool.and_eq_true, secB_iff, folB_iff, loI, hiI, Bool.false_eq_true]
    repeat (first | rw [if_pos (by omega)] | rw [if_neg (by omega)])
    refine ⟨fun h => ?_, fun h => ?_⟩ <;> first | omega | exact h.elim
theorem oclone_any (v : Value) (xs : List Int) (w : World) (h : Row w v (ints .u8 xs)) (hl : xs.length ≤ 1000000) :
    Calls Tryd.prog 57 #[v] w fun e w' => ∃ t, e = .returned t ∧ Own w.heap.size 5 w' t (ints .u8 xs) ∧ Below w.heap.size w w' := by
  obtain ⟨a, b, off, cap, rfl, hlc, hm, ha, _⟩ := id h
  have hnil := fun w a n c n' c' => Lib.run_eql_slice_nil (P := Tryd.prog) w 24 5 a n c n' c' Tryd.underlying24
  cases a with
  | none =>
    obtain ⟨hn, hz⟩ : ints .u8 xs = [] ∧ ((none : Option Addr) = none → cap = 0) := by
      rcases ha with h | h
      · cases h
      · exact h
    obtain rfl : xs = [] := by simpa [ints] using hn
    obtain rfl := hz rfl
    go_enter Tryd.func57, Tryd.ntmps57
    go_wp2
    go_ret
    exact ⟨_, rfl, Own.nil _ _ _, Below.refl _ _⟩
  | some ad =>
    go_enter Tryd.func57, Tryd.ntmps57
    go_wp2_with (at_builtin; refine wpList_app slT_u8 _ _ _ rfl rfl rfl rfl (Own.ilit (k := .u8) [] [] rfl (Nat.le_refl _) (by simp)) (h.alloc _) (by simp [ints]; omega) (by simp) ?_; intro t2 w2 hown2 hg2)
    go_ret
    exact ⟨_, rfl, hown2, below_app (Below.refl _ _) (below_alloc _ _) (Own.ilit (k := .u8) [] [] rfl (Nat.le_refl _) (by simp)) hg2⟩
end Go.Proofs.YtponfaglflmnkaaDoor
namespace Go.Proofs.YtponfaglflmnkaaDoor
open Go.RowKit
set_option maxHeartbeats 1000000

def putR (bs : List Int) (c : Int) : List Int × Int := if scB c then (bs ++ octs c, 0) else ([], 7)
def lowI (z : Int) : Int := bits .or .u8 128 (bits .and .u8 z 63)
theorem lowI_eq {z : Int} (h0 : 0 ≤ z) (h1 : z < 256) : lowI z = 128 + z % 64 :=
  byte_all (P := fun z => bits .or .u8 128 (bits .and .u8 z 63) = 128 + z % 64) (by decide +kernel) h0 h1
theorem lead2 {z : Int} (h0 : 0 ≤ z) (h1 : z < 32) : bits .or .u8 192 z = 192 + z :=
  byte_all (P := fun z => z < 32 → bits .or .u8 192 z = 192 + z) (by decide +kernel) h0 (by omega) h1
theorem lead3 {z : Int} (h0 : 0 ≤ z) (h1 : z < 16) : bits .or .u8 224 z = 224 + z :=
  byte_all (P := fun z => z < 16 → bits .or .u8 224 z = 224 + z) (by decide +kernel) h0 (by omega) h1
theorem lead4 {z : Int} (h0 : 0 ≤ z) (h1 : z < 8) : bits .or .u8 240 z = 240 + z :=
  byte_all (P := fun z => z < 8 → bits .or .u8 240 z = 240 + z) (by decide +kernel) h0 (by omega) h1
theorem lead1 {z : Int} (h0 : 0 ≤ z) (h1 : z < 128) : bits .or .u8 0 z = z :=
  byte_all (P := fun z => z < 128 → bits .or .u8 0 z = z) (by decide +kernel) h0 (by omega) h1

theorem low_wrap {z : Int} (_h0 : 0 ≤ z) : bits .or .u8 128 (bits .and .u8 (IntKind.u8.wrap z) 63) = 128 + z % 64 := by
  have h1 : IntKind.u8.wrap z = z % 256 := by rw [IntKind.wrap_u8]
  rw [h1, show bits .or .u8 128 (bits .and .u8 (z % 256) 63) = lowI (z % 256) from rfl, lowI_eq (by omega) (by omega)]
  omega
theorem oPut_any (v : Value) (bs : List Int) (c : Int) (w : World) (h : Row w v (ints .u8 bs)) (hl : bs.length ≤ 1000000) (h0 : -2147483648 ≤ c) (h1 : c ≤ 2147483647) :
    Calls Tryd.prog 39 #[v, .int .i32 c] w fun e w' => ∃ t, e = .returned (.tuple #[t, .int .i64 (putR bs c).2]) ∧ Own w.heap.size 5 w' t (ints .u8 (putR bs c).1) ∧ Below w.heap.size w w' := by
  by_cases hs : scB c = true
  · rw [show putR bs c = (bs ++ octs c, 0) by rw [putR, if_pos hs]]
    have hb := scB_iff.1 hs
    by_cases h2 : c < 128
    · have hlen := fun w => oLen_any c w h0 h1
      rw [show ulenI c = 1 by rw [ulenI, if_pos hs, if_pos h2]] at hlen
      have ho : octs c = [c] := by rw [octs, if_pos hs, if_pos h2]
      have HO := Lib.hid ho; have HL := Lib.hid hlen; clear ho hlen hs
      have hw0 : IntKind.i64.wrap 0 = 0 := by decide
      go_enter Tryd.func39, Tryd.ntmps39
      go_wp2_with (go_at_call 56; refine (HL.out _).mono ?_; rintro e w' ⟨rfl, rfl⟩)
      go_region_held3 (fun _ => True) (trivial) (first | (go_at_call 57; refine (oclone_any _ _ _ (by first | exact h | exact h.drew) hl).mono ?_; rintro e w1 ⟨v1, rfl, ho1, hb1⟩) | (go_at_call 58; refine (olead_any _ _).mono ?_; rintro e w' ⟨rfl, rfl⟩) | (refine step_app slT_u8 w.heap.size _ _ (by rfl) (by rfl) (by rfl) (by rfl) (ho1.alloc _) (Row.ilit [_] [_] rfl (by simp)) (by simp only [ints_length, List.length_cons, List.length_nil]; omega) (by have := hb1.size; simp at this ⊢; omega) ?_; intro t2 w2 hown2 hg2; have hb1' : Below w.heap.size w w1 := (by first | exact hb1 | exact (Below.refl w.heap.size w).drew.trans hb1); have hb2 : Below w.heap.size w w2 := below_own (hb1'.alloc hb1'.size _) (ho1.alloc _) hg2 (by have := hb1.size; simp at this ⊢; omega) (Nat.le_refl _)))
      clear hg2 ho1 hb1 hb1'
      go_wp2_with (at_builtin; refine wpList_app slT_u8 _ _ _ rfl rfl rfl rfl (hown2.alloc _) (Row.ilit [_] [_] rfl (by simp)) (by simp only [List.length_append, ints_length, List.length_cons, List.length_nil]; omega) (by have := hb2.size; simp; omega) ?_; intro t3 w3 hown3 hg3; have hb3 := below_app hb2 (below_alloc _ _) (hown2.alloc _) hg3; replace hown2 := hown3; replace hb2 := hb3; clear hown3 hb3 hg3)
      go_ret2
      refine ⟨_, rfl, ?_, hb2⟩
      have hf : IntKind.u8.wrap (c) = c := IntWalk.u8_in _ (by omega)
      have hld : leadI 1 = 0 := rfl
      rw [hf, hld] at hown2
      rw [HO.out]
      rw [(lead1 (z := c) hb.1 h2)] at hown2
      simpa [ints] using hown2
    · by_cases h3 : c < 2048
      · have hlen := fun w => oLen_any c w h0 h1
        rw [show ulenI c = 2 by rw [ulenI, if_pos hs, if_neg h2, if_pos h3]] at hlen
        have ho : octs c = [192 + c / 64, 128 + c % 64] := by rw [octs, if_pos hs, if_neg h2, if_pos h3]
        have HO := Lib.hid ho; have HL := Lib.hid hlen; clear ho hlen hs
        have hw1 : IntKind.i64.wrap 1 = 1 := by decide
        have hw6 : IntKind.i64.wrap 6 = 6 := by decide
        go_enter Tryd.func39, Tryd.ntmps39
        go_wp2_with (go_at_call 56; refine (HL.out _).mono ?_; rintro e w' ⟨rfl, rfl⟩)
        go_region_held3 (fun _ => True) (trivial) (first | (go_at_call 57; refine (oclone_any _ _ _ (by first | exact h | exact h.drew) hl).mono ?_; rintro e w1 ⟨v1, rfl, ho1, hb1⟩) | (go_at_call 58; refine (olead_any _ _).mono ?_; rintro e w' ⟨rfl, rfl⟩) | (refine step_app slT_u8 w.heap.size _ _ (by rfl) (by rfl) (by rfl) (by rfl) (ho1.alloc _) (Row.ilit [_] [_] rfl (by simp)) (by simp only [ints_length, List.length_cons, List.length_nil]; omega) (by have := hb1.size; simp at this ⊢; omega) ?_; intro t2 w2 hown2 hg2; have hb1' : Below w.heap.size w w1 := (by first | exact hb1 | exact (Below.refl w.heap.size w).drew.trans hb1); have hb2 : Below w.heap.size w w2 := below_own (hb1'.alloc hb1'.size _) (ho1.alloc _) hg2 (by have := hb1.size; simp at this ⊢; omega) (Nat.le_refl _)))
        clear hg2 ho1 hb1 hb1'
        go_wp2_with (at_builtin; refine wpList_app slT_u8 _ _ _ rfl rfl rfl rfl (hown2.alloc _) (Row.ilit [_] [_] rfl (by simp)) (by simp only [List.length_append, ints_length, List.length_cons, List.length_nil]; omega) (by have := hb2.size; simp; omega) ?_; intro t3 w3 hown3 hg3; have hb3 := below_app hb2 (below_alloc _ _) (hown2.alloc _) hg3; replace hown2 := hown3; replace hb2 := hb3; clear hown3 hb3 hg3)
        go_ret2
        refine ⟨_, rfl, ?_, hb2⟩
        have hf : IntKind.u8.wrap (c / 64) = c / 64 := IntWalk.u8_in _ (by omega)
        have hld : leadI 2 = 192 := rfl
        rw [hf, hld] at hown2
        rw [HO.out]
        rw [(lead2 (z := c / 64) (by omega) (by omega))] at hown2
        simpa [ints] using hown2
      · by_cases h4 : c < 65536
        · have hlen := fun w => oLen_any c w h0 h1
          rw [show ulenI c = 3 by rw [ulenI, if_pos hs, if_neg h2, if_neg h3, if_pos h4]] at hlen
          have ho : octs c = [224 + c / 4096, 128 + c / 64 % 64, 128 + c % 64] := by rw [octs, if_pos hs, if_neg h2, if_neg h3, if_pos h4]
          have HO := Lib.hid ho; have HL := Lib.hid hlen; clear ho hlen hs
          have hw2 : IntKind.i64.wrap 2 = 2 := by decide
          have hw12 : IntKind.i64.wrap 12 = 12 := by decide
          go_enter Tryd.func39, Tryd.ntmps39
          go_wp2_with (go_at_call 56; refine (HL.out _).mono ?_; rintro e w' ⟨rfl, rfl⟩)
          go_region_held3 (fun _ => True) (trivial) (first | (go_at_call 57; refine (oclone_any _ _ _ (by first | exact h | exact h.drew) hl).mono ?_; rintro e w1 ⟨v1, rfl, ho1, hb1⟩) | (go_at_call 58; refine (olead_any _ _).mono ?_; rintro e w' ⟨rfl, rfl⟩) | (refine step_app slT_u8 w.heap.size _ _ (by rfl) (by rfl) (by rfl) (by rfl) (ho1.alloc _) (Row.ilit [_] [_] rfl (by simp)) (by simp only [ints_length, List.length_cons, List.length_nil]; omega) (by have := hb1.size; simp at this ⊢; omega) ?_; intro t2 w2 hown2 hg2; have hb1' : Below w.heap.size w w1 := (by first | exact hb1 | exact (Below.refl w.heap.size w).drew.trans hb1); have hb2 : Below w.heap.size w w2 := below_own (hb1'.alloc hb1'.size _) (ho1.alloc _) hg2 (by have := hb1.size; simp at this ⊢; omega) (Nat.le_refl _)))
          clear hg2 ho1 hb1 hb1'
          go_wp2_with (at_builtin; refine wpList_app slT_u8 _ _ _ rfl rfl rfl rfl (hown2.alloc _) (Row.ilit [_] [_] rfl (by simp)) (by simp only [List.length_append, ints_length, List.length_cons, List.length_nil]; omega) (by have := hb2.size; simp; omega) ?_; intro t3 w3 hown3 hg3; have hb3 := below_app hb2 (below_alloc _ _) (hown2.alloc _) hg3; replace hown2 := hown3; replace hb2 := hb3; clear hown3 hb3 hg3)
          go_ret2
          refine ⟨_, rfl, ?_, hb2⟩
          have hf : IntKind.u8.wrap (c / 4096) = c / 4096 := IntWalk.u8_in _ (by omega)
          have hld : leadI 3 = 224 := rfl
          rw [hf, hld] at hown2
          rw [HO.out]
          rw [(lead3 (z := c / 4096) (by omega) (by omega))] at hown2
          simpa [ints] using hown2
        · have hlen := fun w => oLen_any c w h0 h1
          rw [show ulenI c = 4 by rw [ulenI, if_pos hs, if_neg h2, if_neg h3, if_neg h4]] at hlen
          have ho : octs c = [240 + c / 262144, 128 + c / 4096 % 64, 128 + c / 64 % 64, 128 + c % 64] := by rw [octs, if_pos hs, if_neg h2, if_neg h3, if_neg h4]
          have HO := Lib.hid ho; have HL := Lib.hid hlen; clear ho hlen hs
          have hw3 : IntKind.i64.wrap 3 = 3 := by decide
          have hw18 : IntKind.i64.wrap 18 = 18 := by decide
          go_enter Tryd.func39, Tryd.ntmps39
          go_wp2_with (go_at_call 56; refine (HL.out _).mono ?_; rintro e w' ⟨rfl, rfl⟩)
          go_region_held3 (fun _ => True) (trivial) (first | (go_at_call 57; refine (oclone_any _ _ _ (by first | exact h | exact h.drew) hl).mono ?_; rintro e w1 ⟨v1, rfl, ho1, hb1⟩) | (go_at_call 58; refine (olead_any _ _).mono ?_; rintro e w' ⟨rfl, rfl⟩) | (refine step_app slT_u8 w.heap.size _ _ (by rfl) (by rfl) (by rfl) (by rfl) (ho1.alloc _) (Row.ilit [_] [_] rfl (by simp)) (by simp only [ints_length, List.length_cons, List.length_nil]; omega) (by have := hb1.size; simp at this ⊢; omega) ?_; intro t2 w2 hown2 hg2; have hb1' : Below w.heap.size w w1 := (by first | exact hb1 | exact (Below.refl w.heap.size w).drew.trans hb1); have hb2 : Below w.heap.size w w2 := below_own (hb1'.alloc hb1'.size _) (ho1.alloc _) hg2 (by have := hb1.size; simp at this ⊢; omega) (Nat.le_refl _)))
          clear hg2 ho1 hb1 hb1'
          go_wp2_with (at_builtin; refine wpList_app slT_u8 _ _ _ rfl rfl rfl rfl (hown2.alloc _) (Row.ilit [_] [_] rfl (by simp)) (by simp only [List.length_append, ints_length, List.length_cons, List.length_nil]; omega) (by have := hb2.size; simp; omega) ?_; intro t3 w3 hown3 hg3; have hb3 := below_app hb2 (below_alloc _ _) (hown2.alloc _) hg3; replace hown2 := hown3; replace hb2 := hb3; clear hown3 hb3 hg3)
          go_ret2
          refine ⟨_, rfl, ?_, hb2⟩
          have hf : IntKind.u8.wrap (c / 262144) = c / 262144 := IntWalk.u8_in _ (by omega)
          have hld : leadI 4 = 240 := rfl
          rw [hf, hld] at hown2
          rw [HO.out]
          rw [(lead4 (z := c / 262144) (by omega) (by omega))] at hown2
          simpa [ints] using hown2
  · rw [show putR bs c = ([], 7) by rw [putR, if_neg hs]]
    have hlen := fun w => oLen_any c w h0 h1
    rw [show ulenI c = 0 by rw [ulenI, if_neg hs]] at hlen
    have HL := Lib.hid hlen; clear hlen hs
    go_enter Tryd.func39, Tryd.ntmps39
    go_wp2_with (go_at_call 56; refine (HL.out _).mono ?_; rintro e w' ⟨rfl, rfl⟩)
    go_ret2
    exact ⟨_, rfl, Own.nil _ _ _, Below.refl _ _⟩
end Go.Proofs.YtponfaglflmnkaaDoor
namespace Go.Proofs.YtponfaglflmnkaaDoor
open Go.RowKit
set_option maxHeartbeats 1000000

theorem roct_any (c : Int) (w : World) (h0 : -2147483648 ≤ c) (h1 : c ≤ 2147483647) :
    Calls Tryd.prog 51 #[.int .i32 c] w fun e w' => ∃ v, e = .returned v ∧ Own w.heap.size 5 w' v (ints .u8 (octs c)) ∧ Below w.heap.size w w' := by
  by_cases hs : scB c = true
  · have hb := scB_iff.1 hs
    by_cases h2 : c < 128
    · have ho : octs c = [c] := by rw [octs, if_pos hs, if_pos h2]
      have HO := Lib.hid ho; clear ho
      go_enter Tryd.func51, Tryd.ntmps51
      go_wp2_with (go_at_call 66; refine (ris_any _ _).mono ?_; rintro e w' ⟨rfl, rfl⟩)
      go_ret
      exact ⟨_, rfl, Own.ilit _ [_] (by rw [HO.out]; rfl) (Nat.le_refl _) (by simp), below_alloc _ _⟩
    · by_cases h3 : c < 2048
      · have ho : octs c = [192 + c / 64, 128 + c % 64] := by rw [octs, if_pos hs, if_neg h2, if_pos h3]
        have HO := Lib.hid ho; clear ho
        go_enter Tryd.func51, Tryd.ntmps51
        go_wp2_with (go_at_call 66; refine (ris_any _ _).mono ?_; rintro e w' ⟨rfl, rfl⟩)
        go_ret
        exact ⟨_, rfl, Own.ilit _ [_, _] (by rw [HO.out]; rfl) (Nat.le_refl _) (by simp), below_alloc _ _⟩
      · by_cases h4 : c < 65536
        · have ho : octs c = [224 + c / 4096, 128 + c / 64 % 64, 128 + c % 64] := by rw [octs, if_pos hs, if_neg h2, if_neg h3, if_pos h4]
          have HO := Lib.hid ho; clear ho
          go_enter Tryd.func51, Tryd.ntmps51
          go_wp2_with (go_at_call 66; refine (ris_any _ _).mono ?_; rintro e w' ⟨rfl, rfl⟩)
          go_ret
          exact ⟨_, rfl, Own.ilit _ [_, _, _] (by rw [HO.out]; rfl) (Nat.le_refl _) (by simp), below_alloc _ _⟩
        · have ho : octs c = [240 + c / 262144, 128 + c / 4096 % 64, 128 + c / 64 % 64, 128 + c % 64] := by rw [octs, if_pos hs, if_neg h2, if_neg h3, if_neg h4]
          have HO := Lib.hid ho; clear ho
          go_enter Tryd.func51, Tryd.ntmps51
          go_wp2_with (go_at_call 66; refine (ris_any _ _).mono ?_; rintro e w' ⟨rfl, rfl⟩)
          go_ret
          exact ⟨_, rfl, Own.ilit _ [_, _, _, _] (by rw [HO.out]; rfl) (Nat.le_refl _) (by simp), below_alloc _ _⟩
  · have ho : octs c = [] := by rw [octs, if_neg hs]
    rw [ho]
    replace hs : scB c = false := by simpa using hs
    clear ho
    go_enter Tryd.func51, Tryd.ntmps51
    go_wp2_with (go_at_call 66; refine (ris_any _ _).mono ?_; rintro e w' ⟨rfl, rfl⟩)
    go_ret
    exact ⟨_, rfl, Own.nil _ _ _, Below.refl _ _⟩

theorem farL_go {a y : Int} {j : Nat} {r : List Int} (h1 : (j : Int) < wideI a) (h2 : okAt a j y = true) : farL a j (y :: r) = farL a (j + 1) r := by
  rw [farL, if_pos ⟨h1, h2⟩]
theorem farL_stop {a : Int} {j : Nat} {r : List Int} (h1 : ¬ (j : Int) < wideI a) : farL a j r = j := by
  cases r with
  | nil => rfl
  | cons y r => rw [farL, if_neg (by omega)]
theorem farL_bad {a y : Int} {j : Nat} {r : List Int} (h2 : okAt a j y = false) : farL a j (y :: r) = j := by
  rw [farL, if_neg (by simp [h2])]
/-- Places in a row behind its first. -/
theorem drop_cons {a : Int} {r : List Int} {j : Nat} (hj : 1 ≤ j) {y : Int} (h : (a :: r)[j]? = some y) : r.drop (j - 1) = y :: r.drop j := by
  obtain ⟨k, rfl⟩ : ∃ k, j = k + 1 := ⟨j - 1, by omega⟩
  rw [List.getElem?_cons_succ] at h
  obtain ⟨hk, rfl⟩ := List.getElem?_eq_some_iff.1 h
  rw [Nat.add_sub_cancel, List.drop_eq_getElem_cons hk]

set_option maxRecDepth 100000 in
theorem ofar_any (v : Value) (a : Int) (r : List Int) (w : World) (h : Row w v (ints .u8 (a :: r))) (hg : Rg 0 256 (a :: r)) (hl : (a :: r).length ≤ 1000000) :
    Calls Tryd.prog 70 #[v] w fun e w' => e = .returned (.int .i64 (far (a :: r))) ∧ Below w.heap.size w w' := by
  obtain ⟨ad, b, off, cap, rfl, HC⟩ := h.op
  clear h
  obtain ⟨⟨ha0, ha1⟩, _⟩ := hg.cons
  obtain ⟨a', HA, rfl, hca⟩ := HC.out 0 (by simp)
  obtain rfl : a = a' := by simpa using HA.out
  have HCA := Lib.hid hca; clear hca HA
  have hwr := wideI_rng a
  have hfb := farL_bounds a r 1
  by_cases hw0 : wideI a = 0
  · have hf : far (a :: r) = 0 := by simp [far, hw0]
    rw [hf]
    have hc0 : w.cell? ⟨b, off, none⟩ = some (.int .u8 a) := by simpa using HCA.out w (Below.refl _ _)
    have hst := fun w => oStarts_any a w ha0 ha1
    rw [hw0] at hst
    have HS := Lib.hid hst; clear hst hw0 hwr hfb hf
    go_enter Tryd.func70, Tryd.ntmps70
    go_wp2
    go_loopw [3] (fun n wr => n = .int .i64 1 ∧ wr = w) (fun _ _ => 0)
    case atStart => exact ⟨rfl, rfl⟩
    case round =>
      obtain ⟨rfl, rfl⟩ := hrel
      go_wp2_with (go_at_call 71; refine (HS.out _).mono ?_; rintro e w' ⟨rfl, rfl⟩)
      go_ret
      exact ⟨ret_int rfl, Below.refl _ _⟩
  · have hf : far (a :: r) = farL a 1 r := by simp [far, hw0]
    rw [hf]
    have hmin : (farL a 1 r : Int) ≤ wideI a := hfb.2.2 (by omega)
    obtain ⟨q, hq⟩ : ∃ q, wideI a = q := ⟨_, rfl⟩
    have hst := fun w => oStarts_any a w ha0 ha1
    rw [hq] at hst hmin hwr hw0
    have hq1 : 1 ≤ q := by omega
    have HS := Lib.hid hst; have HQ := Lib.hid hq; have HM := Lib.hid hmin; clear hst hq hmin hf hfb hw0
    go_enter Tryd.func70, Tryd.ntmps70
    go_wp2
    go_loopw [3] (fun n wr => ∃ k : Nat, n = .int .i64 k ∧ 1 ≤ k ∧ k ≤ (a :: r).length ∧ (k : Int) ≤ q ∧ Hid (farL a 1 r = farL a k (r.drop (k - 1))) ∧ Below w.heap.size w wr) (fun n _ => (a :: r).length - (intOf n).toNat)
    case atStart => exact ⟨1, rfl, Nat.le_refl _, by simp, by omega, rfl, Below.refl _ _⟩
    case round =>
      obtain ⟨k, rfl, hk1, hk2, hk3, HF, hb⟩ := hrel
      have hc0 : wr.cell? ⟨b, off, none⟩ = some (.int .u8 a) := by simpa using HCA.out wr hb
      by_cases hlt : (k : Int) < q
      · by_cases hll : k < (a :: r).length
        · obtain ⟨y, HY, _, hcy⟩ := HC.out k hll
          have hc1 := hcy wr hb
          have hyr := hg.get HY.out
          have HD := Lib.hid (drop_cons hk1 HY.out)
          have hlt' : (k : Int) < (r.length : Int) + 1 := by simp only [List.length_cons] at hll; omega
          by_cases hfy : folB y = true
          · by_cases hk : k = 1
            · subst hk
              by_cases hsy : secB a y = true
              · go_wp2_with (go_at_call 71; refine (HS.out _).mono ?_; rintro e w' ⟨rfl, rfl⟩)
                go_quiet ((first | (go_at_call 76; exact quiet_same (oFollows_any _ _ hyr.1 hyr.2)) | (go_at_call 77; exact quiet_same (osecond_any _ _ _ ha0 ha1 hyr.1 hyr.2))))
                go_wp2
                go_roundw
                case rel => exact ⟨2, rfl, by omega, by omega, by omega, by rw [show Hid (farL a 1 r = farL a 2 (r.drop (2 - 1))) = (farL a 1 r = farL a 2 (r.drop (2 - 1))) from rfl, HF.out, HD.out, farL_go (by rw [HQ.out]; exact hlt) (by simp [okAt, hsy])], below_drewN hb _⟩
                case measure => simp [intOf]; omega
              · replace hsy : secB a y = false := by simpa using hsy
                go_wp2_with (go_at_call 71; refine (HS.out _).mono ?_; rintro e w' ⟨rfl, rfl⟩)
                go_quiet ((first | (go_at_call 76; exact quiet_same (oFollows_any _ _ hyr.1 hyr.2)) | (go_at_call 77; exact quiet_same (osecond_any _ _ _ ha0 ha1 hyr.1 hyr.2))))
                go_wp2
                go_ret
                exact ⟨ret_int (by rw [HF.out, HD.out, farL_bad (by simp [okAt, hsy])]; rfl), below_drewN hb _⟩
            · have hk1' : ((k : Int) == 1) = false := by rw [beq_eq_false_iff_ne]; omega
              have HK := Lib.hid hk; clear hk
              go_wp2_with (go_at_call 71; refine (HS.out _).mono ?_; rintro e w' ⟨rfl, rfl⟩)
              go_quiet ((first | (go_at_call 76; exact quiet_same (oFollows_any _ _ hyr.1 hyr.2)) | (go_at_call 77; exact quiet_same (osecond_any _ _ _ ha0 ha1 hyr.1 hyr.2))))
              go_wp2
              go_roundw
              case rel => exact ⟨k + 1, by go_num, by omega, by omega, by omega, by rw [show Hid (farL a 1 r = farL a (k + 1) (r.drop (k + 1 - 1))) = (farL a 1 r = farL a (k + 1) (r.drop (k + 1 - 1))) from rfl, HF.out, HD.out, farL_go (by rw [HQ.out]; exact hlt) (by simp [okAt, HK.out, hfy])]; rfl, below_drewN hb _⟩
              case measure => simp [intOf]; omega
          · replace hfy : folB y = false := by simpa using hfy
            have hok : okAt a k y = false := by
              unfold okAt
              split
              · cases hs : secB a y with
                | true => rw [secB_fol hs] at hfy; cases hfy
                | false => rfl
              · exact hfy
            have HOK := Lib.hid hok; clear hok
            go_wp2_with (go_at_call 71; refine (HS.out _).mono ?_; rintro e w' ⟨rfl, rfl⟩)
            go_quiet ((first | (go_at_call 76; exact quiet_same (oFollows_any _ _ hyr.1 hyr.2)) | (go_at_call 77; exact quiet_same (osecond_any _ _ _ ha0 ha1 hyr.1 hyr.2))))
            go_wp2
            go_ret
            exact ⟨ret_int (by rw [HF.out, HD.out, farL_bad HOK.out]), below_drewN hb _⟩
        · have hd : r.drop (k - 1) = [] := by rw [List.drop_eq_nil_iff]; simp at hll; omega
          have HD := Lib.hid hd; clear hd
          have hlt' : ¬ (k : Int) < (r.length : Int) + 1 := by simp only [List.length_cons] at hll; omega
          go_wp2_with (go_at_call 71; refine (HS.out _).mono ?_; rintro e w' ⟨rfl, rfl⟩)
          go_ret
          exact ⟨ret_int (by rw [HF.out, HD.out]; rfl), hb⟩
      · have HE := Lib.hid (farL_stop (r := r.drop (k - 1)) (by rw [HQ.out]; exact hlt))
        go_wp2_with (go_at_call 71; refine (HS.out _).mono ?_; rintro e w' ⟨rfl, rfl⟩)
        go_ret
        exact ⟨ret_int (by rw [HF.out, HE.out]), hb⟩

end Go.Proofs.YtponfaglflmnkaaDoor
