/- Walks: repertoires: the first of a set. -/
import Derived.Test.YtgfdebijcpdhbaaDoorW12c
namespace Go.Proofs.YtgfdebijcpdhbaaDoor
open Go.RowKit
set_option maxHeartbeats 1000000
def tab64 : List Int := [0, 1, 56, 2, 57, 49, 28, 3, 61, 58, 42, 50, 38, 29, 17, 4, 62, 47, 59, 36, 45, 43, 51, 22, 53, 39, 33, 30, 24, 18, 12, 5, 63, 55, 48, 27, 60, 41, 37, 16, 46, 35, 44, 21, 52, 32, 23, 11, 54, 26, 40, 15, 34, 20, 31, 10, 25, 14, 19, 9, 13, 8, 7, 6]
/-- The library's table, as it is laid. -/
def Tz (w : World) : Prop := ∀ i : Nat, i < 64 → w.cell? ⟨1, i, none⟩ = some (.int .u8 (tab64.getD i 0))
theorem Tz.below {w w' : World} (h : Tz w) (hb : Below w.heap.size w w') : Tz w' := fun i hi => by
  rw [← h i hi]; exact hb.cell (World.block_lt_of_cell? w _ (h i hi))
/-- Where the table tells of s. -/
def tzAt (s : Int) : Int := IntKind.u64.wrap (bits .and .u64 s (IntKind.u64.wrap (-s)) * 285870213051353865) / 288230376151711744
set_option maxRecDepth 100000 in
theorem tz64_any (s : Int) (j : Nat) (r : Int) (w : World) (hT : Tz w) (h0 : s ≠ 0) (hx : tzAt s = j) (hj : j < 64) (hr : tab64.getD j 0 = r) (hr0 : 0 ≤ r) (hr1 : r < 64) :
    Calls Tryd.prog 43 #[.int .u64 s] w fun e w' => e = .returned (.int .i64 r) ∧ w' = w := by
  have hc := hT j hj
  rw [hr] at hc
  have hs0 : (s == 0) = false := beq_false_of_ne h0
  have hw : IntKind.i64.wrap r = r := by rw [IntKind.wrap_i64]; omega
  have hx2 : IntKind.u64.wrap (bits .and .u64 s (IntKind.u64.wrap (-s)) * 285870213051353865) / 288230376151711744 = j := hx
  clear hr hT h0 hx
  go_enter Tryd.func43, Tryd.ntmps43
  go_wp2
  go_ret
  exact ⟨ret_int (by first | rfl | exact hw), rfl⟩
theorem tz_any (s : Int) (j : Nat) (r : Int) (w : World) (hT : Tz w) (h0 : s ≠ 0) (hx : tzAt s = j) (hj : j < 64) (hr : tab64.getD j 0 = r) (hr0 : 0 ≤ r) (hr1 : r < 64) :
    Calls Tryd.prog 38 #[.int .u64 s] w fun e w' => e = .returned (.int .i64 r) ∧ w' = w := by
  have H := Lib.hid (tz64_any s j r w hT h0 hx hj hr hr0 hr1)
  clear hx hr hT
  go_enter Tryd.func38, Tryd.ntmps38
  go_wp2_with (go_at_call 43; refine (H.out).mono ?_; rintro e w' ⟨rfl, hw'⟩; obtain rfl := hw'.symm)
  go_ret
  exact ⟨rfl, rfl⟩
theorem low_tz : ∀ a b c d e : Bool, enc5 a b c d e = 0 ∨ (0 < enc5 a b c d e ∧ enc5 a b c d e < 64 ∧ tzAt (enc5 a b c d e) = ((tzAt (enc5 a b c d e)).toNat : Int) ∧ (tzAt (enc5 a b c d e)).toNat < 64 ∧ tab64.getD (tzAt (enc5 a b c d e)).toNat 0 = low5 a b c d e) := by decide +kernel
theorem enc_pos {f : Int → Bool} : enc f = 0 ↔ lowL f = 0 := by
  have h := enc5_zero (f 1) (f 2) (f 3) (f 4) (f 5)
  rw [← enc_eq] at h
  have h2 : (enc f == 0) = (lowL f == 0) := h
  rw [Bool.eq_iff_iff] at h2
  simpa using h2
theorem lowest_any (f : Int → Bool) (w : World) (hT : Tz w) :
    Calls Tryd.prog 30 #[.int .i64 (enc f)] w fun e w' => e = .returned (.int .i64 (lowL f)) ∧ w' = w := by
  rcases low_tz (f 1) (f 2) (f 3) (f 4) (f 5) with h | ⟨h1, h2, h3, h4, h5⟩
  · have h0 : enc f = 0 := h
    rw [enc_pos.1 h0, h0]
    go_enter Tryd.func30, Tryd.ntmps30
    go_wp2
    go_ret
    exact ⟨rfl, rfl⟩
  · rw [← enc_eq] at h1 h2 h3 h4 h5
    have hr := low_rng f
    have H := Lib.hid (tz_any (enc f) _ (lowL f) w hT (by omega) h3 h4 h5 hr.1 (by omega))
    clear h3 h4 h5 hr hT
    generalize enc f = s at *
    have hw : IntKind.u64.wrap s = s := by simp only [IntKind.wrap_u64]; omega
    have hs0 : (s == 0) = false := beq_false_of_ne (by omega)
    go_enter Tryd.func30, Tryd.ntmps30
    go_wp2_with (go_at_call 38; refine (H.out).mono ?_; rintro e w' ⟨rfl, hw'⟩; obtain rfl := hw'.symm)
    go_ret
    exact ⟨rfl, rfl⟩
end Go.Proofs.YtgfdebijcpdhbaaDoor
