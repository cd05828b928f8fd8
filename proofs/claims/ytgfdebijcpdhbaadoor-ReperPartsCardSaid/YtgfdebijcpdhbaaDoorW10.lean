/- Walks: windows-1252. -/
import Derived.Test.YtgfdebijcpdhbaaDoorP10
import Derived.Test.YtgfdebijcpdhbaaDoorW0
import Derived.Test.YtgfdebijcpdhbaaDoorT0
import Derived.Test.YtgfdebijcpdhbaaDoorL0
import Derived.Test.YtgfdebijcpdhbaaDoorW0b
import Derived.Test.YtgfdebijcpdhbaaDoorK2
namespace Go.Proofs.YtgfdebijcpdhbaaDoor
open Go.RowKit
set_option maxHeartbeats 400000

theorem others_any (w : World) : Calls Tryd.prog 41 #[] w fun e w' => ∃ v, e = .returned v ∧ Row w' v (ints .i32 othersL) ∧ Below w.heap.size w w' := by
  go_enter Tryd.func41, Tryd.ntmps41
  go_wp2_with (first | (refine wpList_build rfl _ _ rfl (.agg (ints .i32 othersL).toArray) (by kernel_rfl) ?_) | (refine wpList_store_new rfl _ _ _ _ rfl (ints .i32 othersL) (List.replicate 32 (.int .i32 0)) (by rfl) (by rfl) (by kernel_rfl) (ints_one _ _) (by rfl) ?_))
  go_ret
  exact ⟨_, rfl, Row.ilit othersL (ints .i32 othersL) rfl (by simp [ints, othersL]), below_alloc _ _⟩

theorem indexI_any (v : Value) (xs : List Int) (c : Int) (w : World) (h : Row w v (ints .i32 xs)) (hl : xs.length ≤ 1000000000) :
    Calls Tryd.prog 40 #[v, .int .i32 c] w fun e w' => e = .returned (.int .i64 (idx (fun y => c == y) xs)) ∧ w = w' := by
  obtain ⟨a, b, off, cap, rfl, HC⟩ := h.op
  clear h
  go_enter Tryd.func40, Tryd.ntmps40
  go_wp2
  go_loop [8] (fun i => ∃ k : Nat, k ≤ xs.length ∧ i = .int .i64 k ∧ Hid (∀ y ∈ xs.take k, (c == y) = false)) (fun i => xs.length - (intOf i).toNat)
  case atStart => exact ⟨0, Nat.zero_le _, rfl, fun y hy => by simp at hy⟩
  case round =>
    obtain ⟨k, hk, rfl, hall⟩ := hrel
    by_cases hlt : k < xs.length
    · obtain ⟨x, HX, rfl, hc⟩ := HC.out k hlt
      replace hc := hc w (Below.refl _ _)
      by_cases hs : (c == x) = true
      · go_wp2
        go_ret
        exact ⟨ret_int (by rw [idx_at hall.out HX.out hs]), rfl⟩
      · replace hs : (c == x) = false := by simpa using hs
        go_wp2
        go_round
        case rel => exact ⟨k + 1, by omega, by go_num, take_succ_all hall.out HX.out hs⟩
        case measure => simp [intOf]; omega
    · go_wp2
      go_ret
      exact ⟨ret_int (by rw [idx_none (fun y hy => hall.out y (by rw [List.take_of_length_le (by omega)]; exact hy))]), rfl⟩

theorem wPut_any (c : Int) (w : World) (h1 : -2147483648 ≤ c) (h2 : c ≤ 2147483647) :
    Calls Tryd.prog 32 #[.int .i32 c] w fun e w' => e = .returned (.tuple #[.int .u8 (wput c).1, .bool (wput c).2]) ∧ Below w.heap.size w w' := by
  by_cases ha : (0 ≤ c ∧ c < 128) ∨ (160 ≤ c ∧ c < 256)
  · rw [show wput c = (c, true) by rw [wput, if_pos ha]]
    rcases ha with ha | ha
    · go_enter Tryd.func32, Tryd.ntmps32
      go_wp2
      go_ret2
      exact ⟨rfl, Below.refl _ _⟩
    · go_enter Tryd.func32, Tryd.ntmps32
      go_wp2
      go_ret2
      exact ⟨rfl, Below.refl _ _⟩
  · by_cases hb : c < 256
    · rw [show wput c = (0, false) by rw [wput, if_neg ha, if_pos hb]]
      rcases (by omega : c < 0 ∨ (128 ≤ c ∧ c < 160)) with hc | hc
      · clear ha
        go_enter Tryd.func32, Tryd.ntmps32
        go_wp2
        go_ret2
        exact ⟨rfl, Below.refl _ _⟩
      · clear ha
        go_enter Tryd.func32, Tryd.ntmps32
        go_wp2
        go_ret2
        exact ⟨rfl, Below.refl _ _⟩
    · have hw : wput c = if idx (fun y => c == y) othersL < 0 then (0, false) else (128 + idx (fun y => c == y) othersL, true) := by rw [wput, if_neg ha, if_neg hb]
      rw [hw]
      have hi : idx (fun y => c == y) othersL < 32 := by
        rcases idx_spec (fun y => c == y) othersL with h4 | ⟨i, x, h4, h5, h6⟩
        · omega
        · have : i < 32 := (List.getElem?_eq_some_iff.1 h5).1
          omega
      have hI := fun v w' h' => indexI_any v othersL c w' h' (by simp [othersL])
      obtain ⟨q, hq⟩ : ∃ q, idx (fun y => c == y) othersL = q := ⟨_, rfl⟩
      rw [hq] at hI hi ⊢
      have HI := Lib.hid hI
      clear hI hq hw ha
      by_cases h0 : q < 0
      · rw [if_pos h0]
        go_enter Tryd.func32, Tryd.ntmps32
        go_wp2_with fail
        refine (others_any _).mono ?_
        rintro e w1 ⟨v, rfl, r, hb1⟩
        go_wp2_with fail
        refine (HI.out _ _ r).mono ?_
        rintro e w' ⟨rfl, rfl⟩
        go_wp2
        go_ret2
        exact ⟨rfl, hb1⟩
      · rw [if_neg h0]
        go_enter Tryd.func32, Tryd.ntmps32
        go_wp2_with fail
        refine (others_any _).mono ?_
        rintro e w1 ⟨v, rfl, r, hb1⟩
        go_wp2_with fail
        refine (HI.out _ _ r).mono ?_
        rintro e w' ⟨rfl, rfl⟩
        go_wp2
        go_ret2
        exact ⟨rfl, hb1⟩
theorem wHas_any (c : Int) (w : World) (h1 : -2147483648 ≤ c) (h2 : c ≤ 2147483647) :
    Calls Tryd.prog 24 #[.int .i32 c] w fun e w' => e = .returned (.bool (wput c).2) ∧ Below w.heap.size w w' := by
  go_enter Tryd.func24, Tryd.ntmps24
  go_wp2_with (go_at_call 32; refine (wPut_any _ _ h1 h2).mono ?_; rintro e w' ⟨rfl, hb⟩)
  go_ret
  exact ⟨rfl, hb⟩
end Go.Proofs.YtgfdebijcpdhbaaDoor
