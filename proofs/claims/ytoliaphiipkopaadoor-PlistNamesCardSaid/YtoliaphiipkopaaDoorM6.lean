/- Walks: kinds of octets: letters, digits and controls. (laid together by program out of single texts). -/
import Derived.Test.YtoliaphiipkopaaDoorM3
import Derived.Test.YtoliaphiipkopaaDoorM5
namespace Go.Proofs.YtoliaphiipkopaaDoor
open Go.RowKit
set_option maxHeartbeats 2000000
def isAl (c : Int) : Bool := decide (48 ≤ c ∧ c ≤ 57 ∨ 65 ≤ c ∧ c ≤ 90 ∨ 97 ≤ c ∧ c ≤ 122)
def isCtl (c : Int) : Bool := decide (c < 32 ∨ c = 127)
theorem in_any (s : ByteArray) (c : Int) (w : World) :
    Calls Tryd.prog 59 #[.string s, .int .u8 c] w fun e w' => ∃ b, e = .returned (.bool b) ∧ w' = w := by
  go_enter Tryd.func59, Tryd.ntmps59
  go_wp2_with (go_at_call 65; refine (sIndexByte_any _ _ _).mono ?_; rintro e w' ⟨rfl, rfl⟩)
  go_ret
  exact ⟨_, rfl, rfl⟩
theorem kinds_any (c : Int) (w : World) (h0 : 0 ≤ c) (h1 : c < 256) :
    Calls Tryd.prog 52 #[.int .u8 c] w fun e w' => ∃ n, e = .returned (.int .i64 n) ∧ w' = w ∧ (bits .and .i64 n 24 != 0) = isAl c ∧ (bits .and .i64 n 1 != 0) = isCtl c := by
  obtain ⟨A, HA⟩ : ∃ A, Hid (isAl c = A) := ⟨_, rfl⟩
  obtain ⟨C, HC⟩ : ∃ C, Hid (isCtl c = C) := ⟨_, rfl⟩
  rw [HA.out, HC.out]
  rcases (by omega : c = 9 ∨ c = 32 ∨ (c < 32 ∧ c ≠ 9) ∨ c = 127 ∨ (48 ≤ c ∧ c ≤ 57) ∨ ((65 ≤ c ∧ c ≤ 90) ∨ (97 ≤ c ∧ c ≤ 122)) ∨ 127 < c ∨ (32 < c ∧ c < 127 ∧ ¬ (48 ≤ c ∧ c ≤ 57) ∧ ¬ (65 ≤ c ∧ c ≤ 90) ∧ ¬ (97 ≤ c ∧ c ≤ 122))) with rfl | rfl | hc | rfl | hc | hc | hc | hc
  case' inl => have ha := (show isAl 9 = false from by decide).symm.trans HA.out; have hk := (show isCtl 9 = true from by decide).symm.trans HC.out
  case' inr.inl => have ha := (show isAl 32 = false from by decide).symm.trans HA.out; have hk := (show isCtl 32 = false from by decide).symm.trans HC.out
  case' inr.inr.inl => have ha := (show isAl c = false from decide_eq_false (by omega)).symm.trans HA.out; have hk := (show isCtl c = true from decide_eq_true (by omega)).symm.trans HC.out; have b9 : (c == 9) = false := beq_false_of_ne (by omega); have b32 : (c == 32) = false := beq_false_of_ne (by omega); have b127 : (c == 127) = false := beq_false_of_ne (by omega)
  case' inr.inr.inr.inl => have ha := (show isAl 127 = false from by decide).symm.trans HA.out; have hk := (show isCtl 127 = true from by decide).symm.trans HC.out
  case' inr.inr.inr.inr.inl => have ha := (show isAl c = true from decide_eq_true (by omega)).symm.trans HA.out; have hk := (show isCtl c = false from decide_eq_false (by omega)).symm.trans HC.out; have b9 : (c == 9) = false := beq_false_of_ne (by omega); have b32 : (c == 32) = false := beq_false_of_ne (by omega); have b127 : (c == 127) = false := beq_false_of_ne (by omega)
  case' inr.inr.inr.inr.inr.inl => have ha := (show isAl c = true from decide_eq_true (by omega)).symm.trans HA.out; have hk := (show isCtl c = false from decide_eq_false (by omega)).symm.trans HC.out; have b9 : (c == 9) = false := beq_false_of_ne (by omega); have b32 : (c == 32) = false := beq_false_of_ne (by omega); have b127 : (c == 127) = false := beq_false_of_ne (by omega)
  case' inr.inr.inr.inr.inr.inr.inl => have ha := (show isAl c = false from decide_eq_false (by omega)).symm.trans HA.out; have hk := (show isCtl c = false from decide_eq_false (by omega)).symm.trans HC.out; have b9 : (c == 9) = false := beq_false_of_ne (by omega); have b32 : (c == 32) = false := beq_false_of_ne (by omega); have b127 : (c == 127) = false := beq_false_of_ne (by omega)
  case' inr.inr.inr.inr.inr.inr.inr => have ha := (show isAl c = false from decide_eq_false (by omega)).symm.trans HA.out; have hk := (show isCtl c = false from decide_eq_false (by omega)).symm.trans HC.out; have b9 : (c == 9) = false := beq_false_of_ne (by omega); have b32 : (c == 32) = false := beq_false_of_ne (by omega); have b127 : (c == 127) = false := beq_false_of_ne (by omega)
  all_goals
    subst ha hk
    clear HA HC
    go_enter Tryd.func52, Tryd.ntmps52
    go_wp2_with (first | (go_at_call 59; refine (in_any _ _ _).mono ?_; rintro e w' ⟨b, rfl, rfl⟩) | go_in)
    all_goals
      go_ret
      refine ⟨_, rfl, rfl, ?_, ?_⟩ <;> decide
end Go.Proofs.YtoliaphiipkopaaDoor
