/- Walks: Nth; the reference's Back. -/
import Derived.Test.YthjenihaogihpaaW07f
namespace Go.Proofs.Ythjenihaogihpaa
open Go.RowKit
set_option maxHeartbeats 1000000
def pnth (xs : List Int) (n : Int) : Int := ((places xs)[(min (max n 0) ((places xs).length - 1)).toNat]?).getD 0
def lback (n : Int) (l : List Int) : Int := l.foldl (fun o y => if y < n then y else o) 0
def pback (xs : List Int) (n : Int) : Int := lback n (places xs)
theorem lback_snoc {n : Int} {l : List Int} {k : Nat} {y : Int} (h : l[k]? = some y) : lback n (l.take (k + 1)) = if y < n then y else lback n (l.take k) := by
  rw [List.take_add_one, h, lback, List.foldl_append]; rfl
theorem oNth_any (v : Value) (xs : List Int) (n : Int) (w : World) (h : Row w v (ints .u8 xs)) (hg : Rg 0 256 xs) (hl : xs.length ≤ 1000000) (hn : -9223372036854775808 ≤ n ∧ n ≤ 9223372036854775807) :
    Calls Try.prog 32 #[v, .int .i64 n] w fun e w' => e = .returned (.int .i64 (pnth xs n)) ∧ Below w.heap.size w w' := by
  obtain ⟨q, HQ⟩ : ∃ q, Hid (pnth xs n = q) := ⟨_, rfl⟩
  rw [HQ.out]
  have hpl := places_max hl
  have hpos : 0 < (places xs).length := by rw [places_length]; omega
  have key : ∀ (m : Nat) (y : Int), min (max n 0) (((places xs).length : Int) - 1) = m → (places xs)[m]? = some y → q = y := by
    intro m y h1 h2
    have h3 := HQ.out
    rw [pnth, h1, Int.toNat_natCast, h2] at h3; exact h3.symm
  have HK := Lib.hid key; clear key HQ
  generalize hL : places xs = l at *
  have h' := fun (w : World) (v : Value) (h : Row w v (ints .u8 xs)) => oPlaces_any v xs w h hg hl
  rw [hL] at h'
  have HP := Lib.hid h'; clear h' hL
  rcases (by omega : n < 0 ∨ n = 0 ∨ (0 < n ∧ n ≤ (l.length : Int) - 1) ∨ (0 ≤ n ∧ (l.length : Int) - 1 < n)) with hc1 | rfl | hc1 | hc1
  · go_enter Try.func32, Try.ntmps32
    go_wp2_with ((go_at_call 21; refine (HP.out _ _ h).mono ?_; rintro e w1 ⟨t, rfl, ho, hb⟩; obtain ⟨a2, b2, o2, c2, rfl, HC⟩ := ho.row.op; obtain ⟨y, HX, rfl, hc⟩ := HC.out 0 (by omega); replace hc := hc _ (Below.refl _ _); simp only [Nat.add_zero] at hc))
    all_goals
      go_ret
      exact ⟨ret_int (HK.out 0 y (by omega) HX.out).symm, hb⟩
  · go_enter Try.func32, Try.ntmps32
    go_wp2_with ((go_at_call 21; refine (HP.out _ _ h).mono ?_; rintro e w1 ⟨t, rfl, ho, hb⟩; obtain ⟨a2, b2, o2, c2, rfl, HC⟩ := ho.row.op; obtain ⟨y, HX, rfl, hc⟩ := HC.out 0 (by omega); replace hc := hc _ (Below.refl _ _); simp only [Nat.add_zero] at hc))
    all_goals
      go_ret
      exact ⟨ret_int (HK.out 0 y (by omega) HX.out).symm, hb⟩
  · obtain ⟨m, rfl⟩ : ∃ m : Nat, n = m := ⟨n.toNat, by omega⟩
    go_enter Try.func32, Try.ntmps32
    go_wp2_with ((go_at_call 21; refine (HP.out _ _ h).mono ?_; rintro e w1 ⟨t, rfl, ho, hb⟩; obtain ⟨a2, b2, o2, c2, rfl, HC⟩ := ho.row.op; obtain ⟨y, HX, rfl, hc⟩ := HC.out m (by omega); replace hc := hc _ (Below.refl _ _)))
    all_goals
      go_ret
      exact ⟨ret_int (HK.out m y (by omega) HX.out).symm, hb⟩
  · obtain ⟨m, hm⟩ : ∃ m : Nat, l.length = m + 1 := ⟨l.length - 1, by omega⟩
    go_enter Try.func32, Try.ntmps32
    go_wp2_with ((go_at_call 21; refine (HP.out _ _ h).mono ?_; rintro e w1 ⟨t, rfl, ho, hb⟩; obtain ⟨a2, b2, o2, c2, rfl, HC⟩ := ho.row.op; obtain ⟨y, HX, rfl, hc⟩ := HC.out m (by omega); replace hc := hc _ (Below.refl _ _)))
    all_goals
      go_ret
      exact ⟨ret_int (HK.out m y (by omega) HX.out).symm, hb⟩
theorem rBack_any (v : Value) (xs : List Int) (n : Int) (w : World) (h : Row w v (ints .u8 xs)) (hg : Rg 0 256 xs) (hl : xs.length ≤ 1000000) :
    Calls Try.prog 31 #[v, .int .i64 n] w fun e w' => e = .returned (.int .i64 (pback xs n)) ∧ Below w.heap.size w w' := by
  obtain ⟨q, HQ⟩ : ∃ q, Hid (pback xs n = q) := ⟨_, rfl⟩
  rw [HQ.out]
  have hpl := places_max hl
  have HQ2 : Hid (lback n (places xs) = q) := HQ
  clear HQ
  go_enter Try.func31, Try.ntmps31
  go_wp2_with (go_at_call 26; refine (rPlaces_any _ _ _ h hg hl).mono ?_; rintro e w1 ⟨t, rfl, ho, hb⟩; generalize places xs = l at *; obtain ⟨a2, b2, o2, c2, rfl, HC⟩ := ho.row.op)
  go_loopw [6, 7] (fun o i wr => ∃ (k : Nat) (z : Int), i = .int .i64 k ∧ k ≤ l.length ∧ o = .int .i64 z ∧ Hid (lback n (l.take k) = z) ∧ Below w1.heap.size w1 wr) (fun _ i _ => l.length - (intOf i).toNat)
  case atStart => exact ⟨0, 0, rfl, Nat.zero_le _, rfl, (rfl : lback n [] = 0), Below.refl _ _⟩
  case round =>
    obtain ⟨k, z, rfl, hk, rfl, HZ, hbr⟩ := hrel
    by_cases hlt : k < l.length
    · obtain ⟨y, HX, rfl, hc⟩ := HC.out k hlt
      replace hc := hc wr hbr
      have h2 := lback_snoc (n := n) HX.out
      rw [HZ.out] at h2
      by_cases hy : y < n
      case' pos => rw [if_pos hy] at h2
      case' neg => rw [if_neg hy] at h2
      all_goals
        have H2 := Lib.hid h2; clear h2
        go_wp2
        go_roundw
        case rel => exact ⟨k + 1, _, by go_num, by omega, rfl, H2, hbr⟩
        case measure => simp [intOf]; omega
    · go_wp2
      go_ret
      have h2 := HZ.out
      rw [List.take_of_length_le (by omega), HQ2.out] at h2
      exact ⟨ret_int h2.symm, below_trans hb hbr⟩
theorem rNth_any (v : Value) (xs : List Int) (n : Int) (w : World) (h : Row w v (ints .u8 xs)) (hg : Rg 0 256 xs) (hl : xs.length ≤ 1000000) (hn : -9223372036854775808 ≤ n ∧ n ≤ 9223372036854775807) :
    Calls Try.prog 33 #[v, .int .i64 n] w fun e w' => e = .returned (.int .i64 (pnth xs n)) ∧ Below w.heap.size w w' := by
  obtain ⟨q, HQ⟩ : ∃ q, Hid (pnth xs n = q) := ⟨_, rfl⟩
  rw [HQ.out]
  have hpl := places_max hl
  have hpos : 0 < (places xs).length := by rw [places_length]; omega
  have key : ∀ (m : Nat) (y : Int), min (max n 0) (((places xs).length : Int) - 1) = m → (places xs)[m]? = some y → q = y := by
    intro m y h1 h2
    have h3 := HQ.out
    rw [pnth, h1, Int.toNat_natCast, h2] at h3; exact h3.symm
  have HK := Lib.hid key; clear key HQ
  generalize hL : places xs = l at *
  have h' := fun (w : World) (v : Value) (h : Row w v (ints .u8 xs)) => rPlaces_any v xs w h hg hl
  rw [hL] at h'
  have HP := Lib.hid h'; clear h' hL
  rcases (by omega : n < 0 ∨ n = 0 ∨ (0 < n ∧ n ≤ (l.length : Int) - 1) ∨ (0 ≤ n ∧ (l.length : Int) - 1 < n)) with hc1 | rfl | hc1 | hc1
  · go_enter Try.func33, Try.ntmps33
    go_wp2_with ((go_at_call 26; refine (HP.out _ _ h).mono ?_; rintro e w1 ⟨t, rfl, ho, hb⟩; obtain ⟨a2, b2, o2, c2, rfl, HC⟩ := ho.row.op; obtain ⟨y, HX, rfl, hc⟩ := HC.out 0 (by omega); replace hc := hc _ (Below.refl _ _); simp only [Nat.add_zero] at hc))
    all_goals
      go_ret
      exact ⟨ret_int (HK.out 0 y (by omega) HX.out).symm, hb⟩
  · go_enter Try.func33, Try.ntmps33
    go_wp2_with ((go_at_call 26; refine (HP.out _ _ h).mono ?_; rintro e w1 ⟨t, rfl, ho, hb⟩; obtain ⟨a2, b2, o2, c2, rfl, HC⟩ := ho.row.op; obtain ⟨y, HX, rfl, hc⟩ := HC.out 0 (by omega); replace hc := hc _ (Below.refl _ _); simp only [Nat.add_zero] at hc))
    all_goals
      go_ret
      exact ⟨ret_int (HK.out 0 y (by omega) HX.out).symm, hb⟩
  · obtain ⟨m, rfl⟩ : ∃ m : Nat, n = m := ⟨n.toNat, by omega⟩
    go_enter Try.func33, Try.ntmps33
    go_wp2_with ((go_at_call 26; refine (HP.out _ _ h).mono ?_; rintro e w1 ⟨t, rfl, ho, hb⟩; obtain ⟨a2, b2, o2, c2, rfl, HC⟩ := ho.row.op; obtain ⟨y, HX, rfl, hc⟩ := HC.out m (by omega); replace hc := hc _ (Below.refl _ _)))
    all_goals
      go_ret
      exact ⟨ret_int (HK.out m y (by omega) HX.out).symm, hb⟩
  · obtain ⟨m, hm⟩ : ∃ m : Nat, l.length = m + 1 := ⟨l.length - 1, by omega⟩
    go_enter Try.func33, Try.ntmps33
    go_wp2_with ((go_at_call 26; refine (HP.out _ _ h).mono ?_; rintro e w1 ⟨t, rfl, ho, hb⟩; obtain ⟨a2, b2, o2, c2, rfl, HC⟩ := ho.row.op; obtain ⟨y, HX, rfl, hc⟩ := HC.out m (by omega); replace hc := hc _ (Below.refl _ _)))
    all_goals
      go_ret
      exact ⟨ret_int (HK.out m y (by omega) HX.out).symm, hb⟩
end Go.Proofs.Ythjenihaogihpaa
