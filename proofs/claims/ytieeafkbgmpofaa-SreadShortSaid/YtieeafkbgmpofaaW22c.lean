/- Walks: seven bits. -/
import Derived.Test.YtieeafkbgmpofaaW22b
namespace Go.Proofs.Ytieeafkbgmpofaa
open Go.RowKit
set_option maxHeartbeats 2000000
theorem oSeven_any (v : Value) (xs : List Int) (w : World) (h : Row w v (ints .u8 xs)) (hg : Rg 0 256 xs) (hl : xs.length ≤ 1000000) :
    Calls Try.prog 25 #[v] w fun e w' => e = .returned (.bool (xs.all sevB)) ∧ Below w.heap.size w w' := by
  obtain ⟨a, b, off, cp, rfl, HC⟩ := h.op
  obtain ⟨q, HQ⟩ : ∃ q, Hid (xs.all sevB = q) := ⟨_, rfl⟩
  rw [HQ.out]
  go_enter Try.func25, Try.ntmps25
  go_wp2
  go_loopw [7] (fun i wr => ∃ k : Nat, i = .int .i64 k ∧ k ≤ xs.length ∧ Hid (∀ y ∈ xs.take k, sevB y = true) ∧ wr = w) (fun i _ => xs.length - (intOf i).toNat)
  case atStart => exact ⟨0, rfl, Nat.zero_le _, (fun y hy => by simp at hy : ∀ y ∈ xs.take 0, sevB y = true), rfl⟩
  case round =>
    obtain ⟨k, rfl, hk, HK, hw0⟩ := hrel
    obtain rfl := hw0.symm
    by_cases hlt : k < xs.length
    · obtain ⟨c, HX, rfl, hc⟩ := HC.out k hlt
      replace hc := hc _ (Below.refl _ _)
      have hcr := hg.get HX.out
      have hse := sev_eq hcr.1 hcr.2
      have hil := idx_lines hcr.1 hcr.2
      have hi1 := fun w => is1_any c w hcr.1 hcr.2
      have hs : ∀ w, Calls Try.prog 57 #[.string ⟨#[9, 13, 10]⟩, .int .u8 c] w fun e w' => e = .returned (.int .i64 (Lib.indexByte [9, 13, 10] c.toNat.toUInt8)) ∧ w' = w := fun w => sIndexByte_any ⟨#[9, 13, 10]⟩ c w
      rw [← hil] at hse
      clear hil
      generalize isCtl c = C at *
      generalize Lib.indexByte [9, 13, 10] c.toNat.toUInt8 = n at *
      have HSE := Lib.hid hse; have HI := Lib.hid hi1; have HS := Lib.hid hs
      clear hse hi1 hs
      have no : sevB c = false → q = false := fun hf => by
        rw [← HQ.out]
        cases hx : xs.all sevB with
        | false => rfl
        | true => have := List.all_eq_true.1 hx c (List.mem_of_getElem? HX.out); rw [hf] at this; cases this
      have NO := Lib.hid no; clear no
      by_cases h1 : 128 ≤ c
      · have hf : sevB c = false := by rw [HSE.out, decide_eq_true h1]; rfl
        obtain rfl := NO.out hf
        go_wp2
        go_ret
        exact ⟨rfl, Below.refl _ _⟩
      · have hlt2 : c < 128 := by omega
        have HD := Lib.hid (decide_eq_false h1)
        clear h1
        rcases C with _ | _
        · have ht : sevB c = true := by rw [HSE.out, HD.out]; rfl
          go_wp2_with (first | (go_at_call 56; refine (HI.out _).mono ?_; rintro e w' ⟨rfl, hw⟩; obtain rfl := hw.symm))
          go_roundw
          case rel => exact ⟨k + 1, by go_num, by omega, take_succ_all HK.out HX.out ht, by first | rfl | trivial⟩
          case measure => simp [intOf]; omega
        · by_cases hn : n < 0
          · have hf : sevB c = false := by rw [HSE.out, HD.out, decide_eq_true hn]; rfl
            obtain rfl := NO.out hf
            go_wp2_with (first | (go_at_call 56; refine (HI.out _).mono ?_; rintro e w' ⟨rfl, hw⟩; obtain rfl := hw.symm) | (go_at_call 57; refine (HS.out _).mono ?_; rintro e w' ⟨rfl, hw⟩; obtain rfl := hw.symm))
            go_ret
            exact ⟨rfl, Below.refl _ _⟩
          · have ht : sevB c = true := by rw [HSE.out, HD.out, decide_eq_false hn]; rfl
            have hn0 : 0 ≤ n := by omega
            clear hn
            go_wp2_with (first | (go_at_call 56; refine (HI.out _).mono ?_; rintro e w' ⟨rfl, hw⟩; obtain rfl := hw.symm) | (go_at_call 57; refine (HS.out _).mono ?_; rintro e w' ⟨rfl, hw⟩; obtain rfl := hw.symm))
            go_roundw
            case rel => exact ⟨k + 1, by go_num, by omega, take_succ_all HK.out HX.out ht, by first | rfl | trivial⟩
            case measure => simp [intOf]; omega
    · have hq : q = true := by
        rw [← HQ.out]
        have := HK.out
        rw [List.take_of_length_le (by omega)] at this
        exact List.all_eq_true.2 this
      subst hq
      go_wp2
      go_ret
      exact ⟨rfl, Below.refl _ _⟩
theorem rSeven_any (v : Value) (xs : List Int) (w : World) (h : Row w v (ints .u8 xs)) (hg : Rg 0 256 xs) (hl : xs.length ≤ 1000000) :
    Calls Try.prog 26 #[v] w fun e w' => e = .returned (.bool (xs.all sevB)) ∧ Below w.heap.size w w' := by
  obtain ⟨a, b, off, cp, rfl, HC⟩ := h.op
  obtain ⟨q, HQ⟩ : ∃ q, Hid (xs.all sevB = q) := ⟨_, rfl⟩
  rw [HQ.out]
  go_enter Try.func26, Try.ntmps26
  go_wp2
  go_loopw [3] (fun i wr => ∃ k : Nat, i = .int .i64 k ∧ k ≤ xs.length ∧ Hid (∀ y ∈ xs.take k, sevB y = true) ∧ wr = w) (fun i _ => xs.length - (intOf i).toNat)
  case atStart => exact ⟨0, rfl, Nat.zero_le _, (fun y hy => by simp at hy : ∀ y ∈ xs.take 0, sevB y = true), rfl⟩
  case round =>
    obtain ⟨k, rfl, hk, HK, hw0⟩ := hrel
    obtain rfl := hw0.symm
    by_cases hlt : k < xs.length
    · obtain ⟨c, HX, rfl, hc⟩ := HC.out k hlt
      replace hc := hc _ (Below.refl _ _)
      have hcr := hg.get HX.out
      have no : sevB c = false → q = false := fun hf => by
        rw [← HQ.out]
        cases hx : xs.all sevB with
        | false => rfl
        | true => have := List.all_eq_true.1 hx c (List.mem_of_getElem? HX.out); rw [hf] at this; cases this
      have NO := Lib.hid no; clear no
      rcases (by omega : 126 < c ∨ (32 ≤ c ∧ c ≤ 126) ∨ (c < 32 ∧ c ≠ 9 ∧ c ≠ 10 ∧ c ≠ 13) ∨ c = 9 ∨ c = 10 ∨ c = 13) with h1 | h1 | h1 | rfl | rfl | rfl
      · obtain rfl := NO.out (decide_eq_false (by omega))
        go_wp2
        go_ret
        exact ⟨rfl, Below.refl _ _⟩
      · have ht : sevB c = true := decide_eq_true (by omega)
        go_wp2
        go_roundw
        case rel => exact ⟨k + 1, by go_num, by omega, take_succ_all HK.out HX.out ht, by first | rfl | trivial⟩
        case measure => simp [intOf]; omega
      · obtain rfl := NO.out (decide_eq_false (by omega))
        have b9 : (c != 9) = true := by simpa using h1.2.1
        have b10 : (c != 10) = true := by simpa using h1.2.2.1
        have b13 : (c != 13) = true := by simpa using h1.2.2.2
        have h32 := h1.1
        clear h1
        go_wp2
        go_ret
        exact ⟨rfl, Below.refl _ _⟩
      all_goals
        go_wp2
        go_roundw
        case rel => exact ⟨k + 1, by go_num, by omega, take_succ_all HK.out HX.out (by decide), by first | rfl | trivial⟩
        case measure => simp [intOf]; omega
    · have hq : q = true := by
        rw [← HQ.out]
        have := HK.out
        rw [List.take_of_length_le (by omega)] at this
        exact List.all_eq_true.2 this
      subst hq
      go_wp2
      go_ret
      exact ⟨rfl, Below.refl _ _⟩
end Go.Proofs.Ytieeafkbgmpofaa
