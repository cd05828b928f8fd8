/- Walks: repertoires: has a charset a number? -/
import Derived.Test.YtgfdebijcpdhbaaDoorP12
import Derived.Test.YtgfdebijcpdhbaaDoorW10b
import Derived.Test.YtgfdebijcpdhbaaDoorW0b
namespace Go.Proofs.YtgfdebijcpdhbaaDoor
open Go.RowKit
set_option maxHeartbeats 1000000
/-- An octet, and whether there is one. -/
def PutP (b : Bool) (e : Ending) : Prop := ∃ x, e = .returned (.tuple #[.int .u8 x, .bool b])
theorem PutP.mk {b b' : Bool} {x : Int} (h : b = b') : PutP b (.returned (.tuple #[.int .u8 x, .bool b'])) := ⟨x, by rw [h]⟩
theorem laHas_any (c : Int) (w : World) (h1 : -2147483648 ≤ c) (h2 : c ≤ 2147483647) :
    Calls Tryd.prog 22 #[.int .i32 c] w fun e w' => e = .returned (.bool (oneB c)) ∧ w' = w := by
  have hw : IntKind.u32.wrap c = if c < 0 then c + 4294967296 else c := by simp only [IntKind.wrap_u32]; split <;> omega
  rcases Int.lt_or_le c 0 with hc | hc
  · rw [if_pos hc] at hw
    go_enter Tryd.func22, Tryd.ntmps22
    go_wp2
    go_ret
    exact ⟨ret_bool (by rw [oneB, decide_eq_decide]; omega), rfl⟩
  · rw [if_neg (by omega)] at hw
    go_enter Tryd.func22, Tryd.ntmps22
    go_wp2
    go_ret
    exact ⟨ret_bool (by rw [oneB, decide_eq_decide]; omega), rfl⟩
theorem rSign8_any (x : Int) (w : World) (h1 : 0 ≤ x) (h2 : x < 256) :
    Calls Tryd.prog 34 #[.int .u8 x] w fun e w' => e = .returned (.int .i32 x) ∧ w' = w := by
  have hw : IntKind.i32.wrap x = x := by rw [IntKind.wrap_i32]; omega
  go_enter Tryd.func34, Tryd.ntmps34
  go_wp2
  go_ret
  exact ⟨ret_int (by first | rfl | exact hw), rfl⟩
set_option maxRecDepth 100000 in
theorem rPut8_any (c : Int) (w : World) (_h1 : -2147483648 ≤ c) (_h2 : c ≤ 2147483647) :
    Calls Tryd.prog 26 #[.int .i32 c] w fun e w' => PutP (oneB c) e ∧ w' = w := by
  go_enter Tryd.func26, Tryd.ntmps26
  go_wp2
  go_loop [4] (fun i => ∃ k : Nat, i = .int .i64 k ∧ k ≤ 256 ∧ Hid (∀ n : Nat, n < k → (n : Int) ≠ c)) (fun i => 256 - (intOf i).toNat)
  case atStart => exact ⟨0, rfl, by omega, fun n hn => by omega⟩
  case round =>
    obtain ⟨k, rfl, hk, HP⟩ := hrel
    by_cases hlt : k < 256
    · by_cases hs : (k : Int) = c
      · subst hs
        have hs' : ((k : Int) == k) = true := by simp
        have hc' : ((k : Int) != 65533) = true := by simp; omega
        have hF : oneB (k : Int) = true := decide_eq_true (by omega)
        have HF := Lib.hid hF; clear hF
        go_wp2_with (go_at_call 34; refine (rSign8_any _ _ (by omega) (by omega)).mono ?_; rintro e w' ⟨rfl, hw⟩; obtain rfl := hw.symm)
        go_ret2
        exact ⟨PutP.mk HF.out, rfl⟩
      · have hs' : ((k : Int) == c) = false := by simpa using hs
        have HS := Lib.hid hs; clear hs
        go_wp2_with (go_at_call 34; refine (rSign8_any _ _ (by omega) (by omega)).mono ?_; rintro e w' ⟨rfl, hw⟩; obtain rfl := hw.symm)
        go_round
        case rel => exact ⟨k + 1, by go_num, by omega, fun n hn => (by
          rcases (by omega : n < k ∨ n = k) with h | rfl
          · exact HP.out n h
          · exact HS.out)⟩
        case measure => simp [intOf]; omega
    · have hF : oneB c = false := decide_eq_false fun h => by
        have := HP.out c.toNat (by omega)
        omega
      have HF := Lib.hid hF; clear hF
      go_wp2
      go_ret2
      exact ⟨PutP.mk HF.out, rfl⟩
set_option maxRecDepth 100000 in
theorem rSign9_any (x : Int) (w : World) (h1 : 0 ≤ x) (h2 : x < 256) :
    Calls Tryd.prog 35 #[.int .u8 x] w fun e w' => e = .returned (.int .i32 (sign9 x)) ∧ w' = w := by
  have hw : IntKind.i32.wrap x = x := by rw [IntKind.wrap_i32]; omega
  rcases Decidable.em (x = 164 ∨ x = 166 ∨ x = 168 ∨ x = 180 ∨ x = 184 ∨ x = 188 ∨ x = 189 ∨ x = 190) with h | h
  · rcases h with rfl | rfl | rfl | rfl | rfl | rfl | rfl | rfl
    all_goals
      go_enter Tryd.func35, Tryd.ntmps35
      go_wp2
      go_ret
      exact ⟨rfl, rfl⟩
  · have e : sign9 x = x := by
      rw [sign9, if_neg (by omega), if_neg (by omega), if_neg (by omega), if_neg (by omega), if_neg (by omega), if_neg (by omega), if_neg (by omega), if_neg (by omega)]
    rw [e]
    have e1 : (x == 164) = false := beq_false_of_ne (by omega)
    have e2 : (x == 166) = false := beq_false_of_ne (by omega)
    have e3 : (x == 168) = false := beq_false_of_ne (by omega)
    have e4 : (x == 180) = false := beq_false_of_ne (by omega)
    have e5 : (x == 184) = false := beq_false_of_ne (by omega)
    have e6 : (x == 188) = false := beq_false_of_ne (by omega)
    have e7 : (x == 189) = false := beq_false_of_ne (by omega)
    have e8 : (x == 190) = false := beq_false_of_ne (by omega)
    clear h e
    go_enter Tryd.func35, Tryd.ntmps35
    go_wp2
    go_ret
    exact ⟨ret_int (by first | rfl | exact hw), rfl⟩
set_option maxRecDepth 100000 in
theorem rPut9_any (c : Int) (w : World) (_h1 : -2147483648 ≤ c) (_h2 : c ≤ 2147483647) :
    Calls Tryd.prog 27 #[.int .i32 c] w fun e w' => PutP (nineB c) e ∧ w' = w := by
  go_enter Tryd.func27, Tryd.ntmps27
  go_wp2
  go_loop [4] (fun i => ∃ k : Nat, i = .int .i64 k ∧ k ≤ 256 ∧ Hid (∀ n : Nat, n < k → sign9 n ≠ c)) (fun i => 256 - (intOf i).toNat)
  case atStart => exact ⟨0, rfl, by omega, fun n hn => by omega⟩
  case round =>
    obtain ⟨k, rfl, hk, HP⟩ := hrel
    by_cases hlt : k < 256
    · by_cases hs : sign9 k = c
      · have hn := nine_sign ⟨k, hlt⟩
        have hF : nineB c = true := by rw [← hs]; exact hn.1
        have hs' : (sign9 k == c) = true := by simpa using hs
        have hc' : (c != 65533) = true := by rw [← hs]; simpa using hn.2
        have HF := Lib.hid hF
        clear hF hn hs
        go_wp2_with (go_at_call 35; refine (rSign9_any _ _ (by omega) (by omega)).mono ?_; rintro e w' ⟨rfl, hw⟩; obtain rfl := hw.symm)
        go_ret2
        exact ⟨PutP.mk HF.out, rfl⟩
      · have hs' : (sign9 k == c) = false := by simpa using hs
        have HS := Lib.hid hs; clear hs
        go_wp2_with (go_at_call 35; refine (rSign9_any _ _ (by omega) (by omega)).mono ?_; rintro e w' ⟨rfl, hw⟩; obtain rfl := hw.symm)
        go_round
        case rel => exact ⟨k + 1, by go_num, by omega, fun n hn => (by
          rcases (by omega : n < k ∨ n = k) with h | rfl
          · exact HP.out n h
          · exact HS.out)⟩
        case measure => simp [intOf]; omega
    · have hF : nineB c = false := nine_none fun n hn => HP.out n (by omega)
      have HF := Lib.hid hF; clear hF
      go_wp2
      go_ret2
      exact ⟨PutP.mk HF.out, rfl⟩
end Go.Proofs.YtgfdebijcpdhbaaDoor
