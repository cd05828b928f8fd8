/- Walks: direct signs, seven bits. -/
import Derived.Test.YtieeafkbgmpofaaW22
import Derived.Test.YtieeafkbgmpofaaK2
import Derived.Test.YtieeafkbgmpofaaP0
namespace Go.Proofs.Ytieeafkbgmpofaa
open Go.RowKit
set_option maxHeartbeats 2000000
theorem is24_any (c : Int) (w : World) (h0 : 0 ≤ c) (h1 : c < 256) :
    Calls Try.prog 56 #[.int .u8 c, .int .i64 24] w fun e w' => e = .returned (.bool (isAl c)) ∧ w' = w := by
  have hk := kinds_any c w h0 h1
  generalize isAl c = A at *
  have HK := Lib.hid hk; clear hk
  go_enter Try.func56, Try.ntmps56
  go_wp2_with (go_at_call 86; refine (HK.out).mono ?_; rintro e w' ⟨n, rfl, rfl, hA, _⟩)
  go_ret
  exact ⟨rfl, rfl⟩
theorem is1_any (c : Int) (w : World) (h0 : 0 ≤ c) (h1 : c < 256) :
    Calls Try.prog 56 #[.int .u8 c, .int .i64 1] w fun e w' => e = .returned (.bool (isCtl c)) ∧ w' = w := by
  have hk := kinds_any c w h0 h1
  generalize isCtl c = A at *
  have HK := Lib.hid hk; clear hk
  go_enter Try.func56, Try.ntmps56
  go_wp2_with (go_at_call 86; refine (HK.out).mono ?_; rintro e w' ⟨n, rfl, rfl, _, hA⟩)
  go_ret
  exact ⟨rfl, rfl⟩
def dirL : List Int := [39, 40, 41, 44, 45, 46, 47, 58, 63, 32, 9, 13, 10]
def dirB (c : Int) : Bool := isAl c || dirL.contains c
def sevB (c : Int) : Bool := decide (c ≤ 126 ∧ (32 ≤ c ∨ c = 9 ∨ c = 10 ∨ c = 13))
theorem idx_dir {c : Int} (h0 : 0 ≤ c) (h1 : c < 256) : decide (0 ≤ Lib.indexByte [39, 40, 41, 44, 45, 46, 47, 58, 63, 32, 9, 13, 10] c.toNat.toUInt8) = dirL.contains c := by
  have key : ∀ n : Nat, n < 256 → decide (0 ≤ Lib.indexByte [39, 40, 41, 44, 45, 46, 47, 58, 63, 32, 9, 13, 10] n.toUInt8) = dirL.contains (n : Int) := by decide +kernel
  have := key c.toNat (by omega)
  rwa [Int.toNat_of_nonneg h0] at this
theorem idx_lines {c : Int} (h0 : 0 ≤ c) (h1 : c < 256) : decide (Lib.indexByte [9, 13, 10] c.toNat.toUInt8 < 0) = !decide (c = 9 ∨ c = 10 ∨ c = 13) := by
  have key : ∀ n : Nat, n < 256 → decide (Lib.indexByte [9, 13, 10] n.toUInt8 < 0) = !decide ((n : Int) = 9 ∨ (n : Int) = 10 ∨ (n : Int) = 13) := by decide +kernel
  have := key c.toNat (by omega)
  rwa [Int.toNat_of_nonneg h0] at this
theorem oDirect_any (c : Int) (w : World) (h0 : -2147483648 ≤ c) (h1 : c ≤ 2147483647) :
    Calls Try.prog 23 #[.int .i32 c] w fun e w' => e = .returned (.bool (dirB c)) ∧ w' = w := by
  by_cases hc : 0 ≤ c ∧ c < 128
  · have hi := idx_dir hc.1 (by omega)
    have hs := fun w => sIndexByte_any ⟨#[39, 40, 41, 44, 45, 46, 47, 58, 63, 32, 9, 13, 10]⟩ c w
    have ha := fun w => is24_any c w hc.1 (by omega)
    have hd : dirB c = (isAl c || dirL.contains c) := rfl
    rw [hd, ← hi]
    clear hd hi
    have hs2 : ∀ w, Calls Try.prog 57 #[.string ⟨#[39, 40, 41, 44, 45, 46, 47, 58, 63, 32, 9, 13, 10]⟩, .int .u8 c] w fun e w' => e = .returned (.int .i64 (Lib.indexByte [39, 40, 41, 44, 45, 46, 47, 58, 63, 32, 9, 13, 10] c.toNat.toUInt8)) ∧ w' = w := hs
    generalize Lib.indexByte [39, 40, 41, 44, 45, 46, 47, 58, 63, 32, 9, 13, 10] c.toNat.toUInt8 = n at *
    generalize isAl c = A at *
    have HS := Lib.hid hs2; have HA := Lib.hid ha
    clear hs hs2 ha
    have hc0 := hc.1
    have hc1 := hc.2
    clear hc
    rcases A with _ | _
    all_goals
      go_enter Try.func23, Try.ntmps23
      go_wp2_with (first | (go_at_call 56; refine (HA.out _).mono ?_; rintro e w' ⟨rfl, rfl⟩) | (go_at_call 57; refine (HS.out _).mono ?_; rintro e w' ⟨rfl, rfl⟩))
      go_ret
      exact ⟨rfl, rfl⟩
  · have hd : dirB c = false := by
      have h2 : isAl c = false := decide_eq_false (by omega)
      have h3 : dirL.contains c = false := by
        cases hx : dirL.contains c with
        | false => rfl
        | true =>
          have := List.contains_iff_mem.1 hx
          simp [dirL] at this
          omega
      rw [dirB, h2, h3]; rfl
    rw [hd]
    clear hd
    rcases (by omega : c < 0 ∨ 128 ≤ c) with hc2 | hc2
    all_goals
      clear hc
      go_enter Try.func23, Try.ntmps23
      go_wp2
      go_ret
      exact ⟨rfl, rfl⟩
theorem rDirect_any (c : Int) (w : World) (h0 : -2147483648 ≤ c) (h1 : c ≤ 2147483647) :
    Calls Try.prog 24 #[.int .i32 c] w fun e w' => e = .returned (.bool (dirB c)) ∧ Below w.heap.size w w' := by
  cases ha : isAl c with
  | true =>
    have hd : dirB c = true := by rw [dirB, ha]; rfl
    rw [hd]
    have hr := of_decide_eq_true ha
    clear hd ha
    rcases hr with h | h | h
    all_goals
      go_enter Try.func24, Try.ntmps24
      go_wp2
      all_goals
        go_ret
        exact ⟨rfl, Below.refl _ _⟩
  | false =>
    have hd : dirB c = dirL.contains c := by rw [dirB, ha]; rfl
    rw [hd]
    have hr := of_decide_eq_false ha
    have h48 : c < 48 ∨ 57 < c := by omega
    have h65 : c < 65 ∨ 90 < c := by omega
    have h97 : c < 97 ∨ 122 < c := by omega
    clear hd ha hr
    obtain ⟨q, HQ⟩ : ∃ q, Hid (dirL.contains c = q) := ⟨_, rfl⟩
    rw [HQ.out]
    rcases h48 with a | a <;> rcases h65 with b | b <;> rcases h97 with d | d
    all_goals first
      | (exfalso; omega)
      | (go_enter Try.func24, Try.ntmps24
         go_wp2
         go_loopw [4] (fun i wr => ∃ k : Nat, i = .int .i64 k ∧ k ≤ 13 ∧ Hid (∀ y ∈ dirL.take k, y ≠ c) ∧ Row wr (.slice (some ⟨w.heap.size, 0, none⟩) 13 13) (ints .i32 dirL) ∧ Below w.heap.size w wr) (fun i _ => 13 - (intOf i).toNat)
         case atStart => exact ⟨0, rfl, by omega, (fun y hy => by simp at hy : ∀ y ∈ dirL.take 0, y ≠ c), Row.ilit (w := w) dirL [_, _, _, _, _, _, _, _, _, _, _, _, _] rfl (by simp), (Below.refl _ _).alloc (Nat.le_refl _) _⟩
         case round =>
           obtain ⟨k, rfl, hk, HK, hrow, hb⟩ := hrel
           by_cases hlt : k < 13
           · obtain ⟨_, bb, oo, _, e0, HCL⟩ := hrow.op
             obtain ⟨y, HY, e1, hc⟩ := HCL.out k (by simp [dirL]; omega)
             replace hc := hc _ (Below.refl _ _)
             cases e1
             cases e0
             simp only [Nat.zero_add] at hc
             by_cases hyc : y = c
             · have hbq : (y == c) = true := beq_iff_eq.2 hyc
               have hq : q = true := by rw [← HQ.out, ← hyc]; exact List.contains_iff_mem.2 (List.mem_of_getElem? HY.out)
               subst hq
               clear hyc
               go_wp2
               go_ret
               exact ⟨rfl, hb⟩
             · have hbq : (y == c) = false := beq_false_of_ne hyc
               go_wp2
               go_roundw
               case rel => exact ⟨k + 1, by go_num, by omega, take_succ_all HK.out HY.out hyc, hrow, hb⟩
               case measure => simp [intOf]; omega
           · have hq : q = false := by
               rw [← HQ.out]
               cases hx : dirL.contains c with
               | false => rfl
               | true =>
                 have hm := List.contains_iff_mem.1 hx
                 exact absurd rfl (HK.out c (by rw [List.take_of_length_le (by simp [dirL]; omega)]; exact hm))
             subst hq
             go_wp2
             go_ret
             exact ⟨rfl, hb⟩)
theorem sev_eq {c : Int} (h0 : 0 ≤ c) (h1 : c < 256) : sevB c = !(decide (128 ≤ c) || (isCtl c && !decide (c = 9 ∨ c = 10 ∨ c = 13))) := by
  rw [sevB, isCtl]
  by_cases a : c ≤ 126 ∧ (32 ≤ c ∨ c = 9 ∨ c = 10 ∨ c = 13)
  · rw [decide_eq_true a]
    by_cases b : c < 32 ∨ c = 127
    · rw [decide_eq_true b, decide_eq_false (show ¬ 128 ≤ c by omega), decide_eq_true (show c = 9 ∨ c = 10 ∨ c = 13 by omega)]; rfl
    · rw [decide_eq_false b, decide_eq_false (show ¬ 128 ≤ c by omega)]; rfl
  · rw [decide_eq_false a]
    by_cases b : 128 ≤ c
    · rw [decide_eq_true b]; rfl
    · rw [decide_eq_true (show c < 32 ∨ c = 127 by omega), decide_eq_false (show ¬ (c = 9 ∨ c = 10 ∨ c = 13) by omega), decide_eq_false b]; rfl
end Go.Proofs.Ytieeafkbgmpofaa
