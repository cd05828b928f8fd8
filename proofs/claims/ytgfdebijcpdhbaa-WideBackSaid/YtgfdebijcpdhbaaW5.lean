/- Walks: UTF-16, laying; octets. -/
import Derived.Test.YtgfdebijcpdhbaaW4
import Derived.Test.YtgfdebijcpdhbaaL0
namespace Go.Proofs.Ytgfdebijcpdhbaa
open Go.RowKit
set_option maxHeartbeats 400000

/-- The units of a text, or the error. -/
def ulayR (xs : List Int) : List Int × Int := if allSc xs then (ulayL xs, 0) else ([], 7)

theorem rLay_any (v : Value) (xs : List Int) (w : World) (h : Row w v (ints .i32 xs)) (hr : R32 xs) (hl : xs.length ≤ 1000000) :
    Calls Try.prog 27 #[v] w fun e w' => ∃ t, e = .returned (.tuple #[t, .int .i64 (ulayR xs).2]) ∧ Own w.heap.size 66 w' t (ints .u16 (ulayR xs).1) ∧ Below w.heap.size w w' := by
  have hf := fun w' h' => rfirst_any v xs w' h' (by omega)
  obtain ⟨q, HQ⟩ : ∃ q, Hid (idx (fun c => !scB c) xs = q) := ⟨_, rfl⟩
  rw [HQ.out] at hf
  have HF := Lib.hid hf; clear hf
  by_cases ha : q < 0
  · rw [show ulayR xs = (ulayL xs, 0) by rw [ulayR, if_pos (by rw [allSc_idx, HQ.out]; simpa using ha)]]
    have ha' : ¬ 0 ≤ q := by omega
    obtain ⟨a, b, off, cap, rfl, HC⟩ := id h.op
    go_enter Try.func27, Try.ntmps27
    go_wp2_with (go_at_call 26; refine (HF.out _ h).mono ?_; rintro e w' ⟨rfl, rfl⟩)
    clear h ha ha'
    go_loopw [4, 5] (fun u i wr => ∃ k : Nat, i = .int .i64 k ∧ k ≤ xs.length ∧ Own w.heap.size 66 wr u (ints .u16 (ulayL (xs.take k))) ∧ Below w.heap.size w wr) (fun _ i _ => xs.length - (intOf i).toNat)
    case atStart => exact ⟨0, rfl, Nat.zero_le _, Own.nil _ _ _, Below.refl _ _⟩
    case round =>
      obtain ⟨k, rfl, hk, hown, hb⟩ := hrel
      by_cases hlt : k < xs.length
      · obtain ⟨x, HX, rfl, hc⟩ := HC.out k hlt
        replace hc := hc wr hb
        have hxr := hr.get HX.out
        have HU := Lib.hid (ulayL_snoc HX.out)
        have HLb : Hid ((ints .u16 (ulayL (xs.take k))).length + (ints .u16 (uof x)).length ≤ 1000000000) := by
          have h1 := ulayL_len (xs.take k); have h2 := uof_len x; rw [List.length_take] at h1; show _ ≤ _; simp only [ints_length]; omega
        go_wp2_with (first | (go_at_call 39; refine (ruof_any _ _ hxr.1 hxr.2).mono ?_; rintro e' w1 ⟨v2, rfl, ho1, hb1⟩) | (at_builtin; refine wpList_app slT_u16 _ _ _ rfl rfl rfl rfl (hown.below hb1) ho1.row HLb.out (below_size2 hb hb1) ?_; intro t2 w2 hown2 hg2))
        go_roundw
        case rel => exact ⟨k + 1, by go_num, by omega, by rw [HU.out, ints_append]; exact hown2, below_app hb hb1 (hown.below hb1) hg2⟩
        case measure => simp [intOf]; omega
      · go_wp2
        go_ret2
        rw [List.take_of_length_le (by omega)] at hown
        exact ⟨_, rfl, hown, hb⟩
  · rw [show ulayR xs = ([], 7) by rw [ulayR, if_neg (by rw [allSc_idx, HQ.out]; simpa using ha)]]
    have ha' : 0 ≤ q := by omega
    go_enter Try.func27, Try.ntmps27
    go_wp2_with (go_at_call 26; refine (HF.out _ h).mono ?_; rintro e w' ⟨rfl, rfl⟩)
    go_ret2
    exact ⟨_, rfl, Own.nil _ _ _, Below.refl _ _⟩
end Go.Proofs.Ytgfdebijcpdhbaa
