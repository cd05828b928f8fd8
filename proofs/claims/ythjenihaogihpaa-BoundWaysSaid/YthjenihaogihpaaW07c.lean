/- Walks: At, Next, Split. -/
import Derived.Test.YthjenihaogihpaaW07b
namespace Go.Proofs.Ythjenihaogihpaa
open Go.RowKit
set_option maxHeartbeats 1000000
theorem places_max {xs : List Int} (hl : xs.length ≤ 1000000) : (places xs).length ≤ 2000000 := by
  have := places_length xs; have := esg_len xs; omega
theorem oAt_any (v : Value) (xs : List Int) (n : Int) (w : World) (h : Row w v (ints .u8 xs)) (hg : Rg 0 256 xs) (hl : xs.length ≤ 1000000) :
    Calls Try.prog 27 #[v, .int .i64 n] w fun e w' => e = .returned (.bool ((places xs).contains n)) ∧ Below w.heap.size w w' := by
  have HQ : ∃ q, Hid ((places xs).contains n = q) := ⟨_, rfl⟩
  obtain ⟨q, HQ⟩ := HQ
  have hs := fun (v : Value) w' h => search_any v (places xs) n w' h (places_sorted xs) (places_max hl)
  rw [HQ.out] at hs ⊢
  have HS := Lib.hid hs; clear hs
  go_enter Try.func27, Try.ntmps27
  go_wp2_with (first | (go_at_call 21; refine (oPlaces_any _ _ _ h hg hl).mono ?_; rintro e w1 ⟨t, rfl, ho, hb⟩) | (go_at_call 49; refine (HS.out _ _ ho.row).mono ?_; rintro e w2 ⟨i, rfl, hb2⟩))
  go_ret
  exact ⟨rfl, below_trans hb hb2⟩
theorem pnext_go (xs : List Int) (n : Int) (k : Nat) (y : Int) (hk : (places xs)[k]? = some y) (h : pnext xs n = (((places xs).drop k).find? (fun p => decide (p > n))).getD xs.length) :
    if y > n then pnext xs n = y else pnext xs n = (((places xs).drop (k + 1)).find? (fun p => decide (p > n))).getD xs.length := by
  obtain ⟨k1, k2⟩ := List.getElem?_eq_some_iff.1 hk
  rw [List.drop_eq_getElem_cons k1, k2, List.find?_cons] at h
  split
  · rename_i hy; rw [show decide (y > n) = true by simpa using hy] at h; exact h
  · rename_i hy; rw [show decide (y > n) = false by simpa using hy] at h; exact h
theorem oNext_any (v : Value) (xs : List Int) (n : Int) (w : World) (h : Row w v (ints .u8 xs)) (hg : Rg 0 256 xs) (hl : xs.length ≤ 1000000) :
    Calls Try.prog 28 #[v, .int .i64 n] w fun e w' => e = .returned (.int .i64 (pnext xs n)) ∧ Below w.heap.size w w' := by
  obtain ⟨a, b, off, cp, rfl, _⟩ := id h.op
  obtain ⟨q, HQ⟩ : ∃ q, Hid (pnext xs n = q) := ⟨_, rfl⟩
  rw [HQ.out]
  have hpl := places_max hl
  have HST := Lib.hid (pnext_go xs n)
  have H0 : Hid (q = (((places xs).drop 0).find? (fun p => decide (p > n))).getD xs.length) := HQ.out.symm
  have HST2 : Hid (∀ k y, (places xs)[k]? = some y → q = (((places xs).drop k).find? (fun p => decide (p > n))).getD xs.length → if y > n then q = y else q = (((places xs).drop (k + 1)).find? (fun p => decide (p > n))).getD xs.length) := by
    intro k y h1 h2; have := HST.out k y h1 (HQ.out.trans h2); rw [HQ.out] at this; exact this
  clear HST HQ
  go_enter Try.func28, Try.ntmps28
  go_wp2_with (go_at_call 21; refine (oPlaces_any _ _ _ h hg hl).mono ?_; rintro e w1 ⟨t, rfl, ho, hb⟩; generalize places xs = l at *; obtain ⟨a2, b2, o2, c2, rfl, HC⟩ := ho.row.op)
  go_loopw [10] (fun i wr => ∃ k : Nat, i = .int .i64 k ∧ k ≤ l.length ∧ Hid (q = ((l.drop k).find? (fun p => decide (p > n))).getD xs.length) ∧ Below w1.heap.size w1 wr) (fun i _ => l.length - (intOf i).toNat)
  case atStart => exact ⟨0, rfl, Nat.zero_le _, H0, Below.refl _ _⟩
  case round =>
    obtain ⟨k, rfl, hk, HK, hbr⟩ := hrel
    by_cases hlt : k < l.length
    · obtain ⟨y, HX, rfl, hc⟩ := HC.out k hlt
      replace hc := hc wr hbr
      have h2 := HST2.out k y HX.out HK.out
      by_cases hy : y > n
      · rw [if_pos hy] at h2
        have H2 := Lib.hid h2; clear h2
        go_wp2
        go_ret
        exact ⟨ret_int H2.out.symm, below_trans hb hbr⟩
      · rw [if_neg hy] at h2
        have H2 := Lib.hid h2; clear h2
        go_wp2
        go_roundw
        case rel => exact ⟨k + 1, by go_num, by omega, H2, hbr⟩
        case measure => simp [intOf]; omega
    · go_wp2
      go_ret
      have h2 := HK.out
      rw [List.drop_eq_nil_of_le (by omega)] at h2
      exact ⟨ret_int (by rw [h2]; simp), below_trans hb hbr⟩
end Go.Proofs.Ythjenihaogihpaa
