/- Walks: repertoires: latin nine by the program. · Walks: repertoires: has a charset a number; all that have one. · Walks: repertoires: the first of a set. · Walks: repertoires: sets, sizes. · Walks: repertoires: texts. · Walks: repertoires: the sufficient one. (laid together by program out of single texts). -/
import Derived.Deep.WholeRow
import Derived.Test.YtponfaglflmnkaaGreatM4
import Derived.Test.YtponfaglflmnkaaGreatM21
namespace Go.Proofs.YtponfaglflmnkaaGreat
open Go.RowKit
set_option maxHeartbeats 1000000
set_option maxRecDepth 100000 in
theorem others9_any (w : World) :
    Calls Tryz.prog 101 #[] w fun e w' => e = .returned (.agg (#[.int .u8 164, .int .i32 8364, .int .u8 166, .int .i32 352, .int .u8 168, .int .i32 353, .int .u8 180, .int .i32 381, .int .u8 184, .int .i32 382, .int .u8 188, .int .i32 338, .int .u8 189, .int .i32 339, .int .u8 190, .int .i32 376] : Array Value)) ∧ Below w.heap.size w w' := by
  go_enter Tryz.func101, Tryz.ntmps101
  go_wp2
  refine bodyPost_ret (results_cell_row rfl _ _ _ _ _ _ (.array 8 97) rfl (heap_alloc_last _ _) (by kernel_rfl) (by rfl) (by kernel_rfl)) rfl ?_
  exact ⟨rfl, below_alloc _ _⟩
/-- None of the first k. -/
def NoK (c : Int) (k : Nat) : Prop := ∀ j, j < k → nineO.getD j 0 ≠ c ∧ nineS.getD j 0 ≠ c
theorem NoK.succ {c : Int} {k : Nat} (h : NoK c k) (h1 : nineO.getD k 0 ≠ c) (h2 : nineS.getD k 0 ≠ c) : NoK c (k + 1) := fun j hj => by
  rcases (by omega : j < k ∨ j = k) with h9 | rfl
  · exact h j h9
  · exact ⟨h1, h2⟩
theorem NoK.all {c : Int} (h : NoK c 8) : nineB c = oneB c := by
  have e1 : nineS.contains c = false := by
    cases hc : nineS.contains c with
    | false => rfl
    | true =>
      have h2 := List.contains_iff_mem.1 hc
      obtain ⟨j, hj, he⟩ := List.getElem_of_mem h2
      have hj8 : j < 8 := hj
      have := (h j hj8).2
      rw [List.getD, List.getElem?_eq_getElem hj] at this
      exact absurd he this
  have e2 : nineO.contains c = false := by
    cases hc : nineO.contains c with
    | false => rfl
    | true =>
      have h2 := List.contains_iff_mem.1 hc
      obtain ⟨j, hj, he⟩ := List.getElem_of_mem h2
      have hj8 : j < 8 := hj
      have := (h j hj8).1
      rw [List.getD, List.getElem?_eq_getElem hj] at this
      exact absurd he this
  rw [nineB, e1, e2, oneB]; simp
theorem em3 (c a b : Int) (h1 : nineB b = true) (h2 : nineB a = false) : (c = b ∧ Hid (nineB c = true)) ∨ (c = a ∧ Hid (nineB c = false)) ∨ (a ≠ c ∧ b ≠ c) := by
  rcases (by omega : c = b ∨ c = a ∨ (a ≠ c ∧ b ≠ c)) with rfl | rfl | h
  · exact .inl ⟨rfl, h1⟩
  · exact .inr (.inl ⟨rfl, h2⟩)
  · exact .inr (.inr h)
set_option maxRecDepth 100000 in
theorem latPut_any (c : Int) (w : World) (h1 : -2147483648 ≤ c) (h2 : c ≤ 2147483647) :
    Calls Tryz.prog 130 #[.int .i32 c] w fun e w' => PutP (nineB c) e ∧ Below w.heap.size w w' := by
  go_enter Tryz.func130, Tryz.ntmps130
  go_wp2_with (go_at_call 101; refine (others9_any _).mono ?_; rintro e w1 ⟨rfl, hb1⟩)
  go_loopw [7] (fun i wr => ∃ k : Nat, i = .int .i64 k ∧ k ≤ 8 ∧ NoK c k ∧ Below w.heap.size w wr) (fun i _ => 8 - (intOf i).toNat)
  case atStart => exact ⟨0, rfl, by omega, fun n hn => by omega, hb1⟩
  case round =>
    obtain ⟨k, rfl, hk, HP, hb⟩ := hrel
    by_cases hlt : k < 8
    · rcases (by omega : k = 0 ∨ k = 1 ∨ k = 2 ∨ k = 3 ∨ k = 4 ∨ k = 5 ∨ k = 6 ∨ k = 7) with rfl | rfl | rfl | rfl | rfl | rfl | rfl | rfl
      case' inl => have hcs := em3 c 164 8364 (by decide) (by decide); have hx : ∀ w, (Instr.index 98 (.agg (#[.int .u8 164, .int .i32 8364, .int .u8 166, .int .i32 352, .int .u8 168, .int .i32 353, .int .u8 180, .int .i32 381, .int .u8 184, .int .i32 382, .int .u8 188, .int .i32 338, .int .u8 189, .int .i32 339, .int .u8 190, .int .i32 376] : Array Value)) (.int .i64 0)).run Tryz.prog w = .ok (.agg #[.int .u8 164, .int .i32 8364]) w := fun _ => by kernel_rfl
      case' inr.inl => have hcs := em3 c 166 352 (by decide) (by decide); have hx : ∀ w, (Instr.index 98 (.agg (#[.int .u8 164, .int .i32 8364, .int .u8 166, .int .i32 352, .int .u8 168, .int .i32 353, .int .u8 180, .int .i32 381, .int .u8 184, .int .i32 382, .int .u8 188, .int .i32 338, .int .u8 189, .int .i32 339, .int .u8 190, .int .i32 376] : Array Value)) (.int .i64 1)).run Tryz.prog w = .ok (.agg #[.int .u8 166, .int .i32 352]) w := fun _ => by kernel_rfl
      case' inr.inr.inl => have hcs := em3 c 168 353 (by decide) (by decide); have hx : ∀ w, (Instr.index 98 (.agg (#[.int .u8 164, .int .i32 8364, .int .u8 166, .int .i32 352, .int .u8 168, .int .i32 353, .int .u8 180, .int .i32 381, .int .u8 184, .int .i32 382, .int .u8 188, .int .i32 338, .int .u8 189, .int .i32 339, .int .u8 190, .int .i32 376] : Array Value)) (.int .i64 2)).run Tryz.prog w = .ok (.agg #[.int .u8 168, .int .i32 353]) w := fun _ => by kernel_rfl
      case' inr.inr.inr.inl => have hcs := em3 c 180 381 (by decide) (by decide); have hx : ∀ w, (Instr.index 98 (.agg (#[.int .u8 164, .int .i32 8364, .int .u8 166, .int .i32 352, .int .u8 168, .int .i32 353, .int .u8 180, .int .i32 381, .int .u8 184, .int .i32 382, .int .u8 188, .int .i32 338, .int .u8 189, .int .i32 339, .int .u8 190, .int .i32 376] : Array Value)) (.int .i64 3)).run Tryz.prog w = .ok (.agg #[.int .u8 180, .int .i32 381]) w := fun _ => by kernel_rfl
      case' inr.inr.inr.inr.inl => have hcs := em3 c 184 382 (by decide) (by decide); have hx : ∀ w, (Instr.index 98 (.agg (#[.int .u8 164, .int .i32 8364, .int .u8 166, .int .i32 352, .int .u8 168, .int .i32 353, .int .u8 180, .int .i32 381, .int .u8 184, .int .i32 382, .int .u8 188, .int .i32 338, .int .u8 189, .int .i32 339, .int .u8 190, .int .i32 376] : Array Value)) (.int .i64 4)).run Tryz.prog w = .ok (.agg #[.int .u8 184, .int .i32 382]) w := fun _ => by kernel_rfl
      case' inr.inr.inr.inr.inr.inl => have hcs := em3 c 188 338 (by decide) (by decide); have hx : ∀ w, (Instr.index 98 (.agg (#[.int .u8 164, .int .i32 8364, .int .u8 166, .int .i32 352, .int .u8 168, .int .i32 353, .int .u8 180, .int .i32 381, .int .u8 184, .int .i32 382, .int .u8 188, .int .i32 338, .int .u8 189, .int .i32 339, .int .u8 190, .int .i32 376] : Array Value)) (.int .i64 5)).run Tryz.prog w = .ok (.agg #[.int .u8 188, .int .i32 338]) w := fun _ => by kernel_rfl
      case' inr.inr.inr.inr.inr.inr.inl => have hcs := em3 c 189 339 (by decide) (by decide); have hx : ∀ w, (Instr.index 98 (.agg (#[.int .u8 164, .int .i32 8364, .int .u8 166, .int .i32 352, .int .u8 168, .int .i32 353, .int .u8 180, .int .i32 381, .int .u8 184, .int .i32 382, .int .u8 188, .int .i32 338, .int .u8 189, .int .i32 339, .int .u8 190, .int .i32 376] : Array Value)) (.int .i64 6)).run Tryz.prog w = .ok (.agg #[.int .u8 189, .int .i32 339]) w := fun _ => by kernel_rfl
      case' inr.inr.inr.inr.inr.inr.inr => have hcs := em3 c 190 376 (by decide) (by decide); have hx : ∀ w, (Instr.index 98 (.agg (#[.int .u8 164, .int .i32 8364, .int .u8 166, .int .i32 352, .int .u8 168, .int .i32 353, .int .u8 180, .int .i32 381, .int .u8 184, .int .i32 382, .int .u8 188, .int .i32 338, .int .u8 189, .int .i32 339, .int .u8 190, .int .i32 376] : Array Value)) (.int .i64 7)).run Tryz.prog w = .ok (.agg #[.int .u8 190, .int .i32 376]) w := fun _ => by kernel_rfl
      all_goals
        rcases hcs with ⟨rfl, HF⟩ | ⟨rfl, HF⟩ | ⟨ho, hs⟩
        · go_wp2
          go_ret2
          exact ⟨PutP.mk HF.out, by first | exact hb | exact hb.alloc hb.size _⟩
        · go_wp2
          go_ret2
          exact ⟨PutP.mk HF.out, by first | exact hb | exact hb.alloc hb.size _⟩
        · have hs1 := beq_false_of_ne (Ne.symm hs)
          have ho1 := beq_false_of_ne (Ne.symm ho)
          have HP2 := Lib.hid (NoK.succ HP ho hs)
          clear ho hs HP
          go_wp2_with fail
          go_roundw
          case rel => exact ⟨_, by first | exact iv (by rfl) | go_num, by omega, HP2.out, by first | exact hb | exact hb.alloc hb.size _⟩
          case measure => simp [intOf]
    · obtain rfl : k = 8 := by omega
      have HN := Lib.hid HP.all
      clear HP
      rcases Decidable.em (c < 0) with h3 | h3
      · have HF : Hid (nineB c = false) := by rw [HN.out, oneB]; exact decide_eq_false (by omega)
        go_wp2
        go_ret2
        exact ⟨PutP.mk HF.out, hb⟩
      · rcases Decidable.em (256 ≤ c) with h4 | h4
        · have HF : Hid (nineB c = false) := by rw [HN.out, oneB]; exact decide_eq_false (by omega)
          go_wp2
          go_ret2
          exact ⟨PutP.mk HF.out, hb⟩
        · have HF : Hid (nineB c = true) := by rw [HN.out, oneB]; exact decide_eq_true (by omega)
          go_wp2
          go_ret2
          exact ⟨PutP.mk HF.out, hb⟩
theorem latHas_any (c : Int) (w : World) (h1 : -2147483648 ≤ c) (h2 : c ≤ 2147483647) :
    Calls Tryz.prog 143 #[.int .i32 c] w fun e w' => e = .returned (.bool (nineB c)) ∧ Below w.heap.size w w' := by
  go_enter Tryz.func143, Tryz.ntmps143
  go_wp2_with (go_at_call 130; refine (latPut_any c _ h1 h2).mono ?_; rintro e w1 ⟨⟨x, rfl⟩, hb1⟩)
  go_ret
  exact ⟨rfl, hb1⟩
end Go.Proofs.YtponfaglflmnkaaGreat
namespace Go.Proofs.YtponfaglflmnkaaGreat
open Go.RowKit
set_option maxHeartbeats 1000000
theorem beqs (n k : Int) (h : n ≠ k) : (n == k) = false := beq_false_of_ne h
set_option maxRecDepth 100000 in
theorem pHas_any (n c : Int) (w : World) (h1 : -2147483648 ≤ c) (h2 : c ≤ 2147483647) :
    Calls Tryz.prog 137 #[.int .i64 n, .int .i32 c] w fun e w' => e = .returned (.bool (hasB n c)) ∧ Below w.heap.size w w' := by
  have hb := Below.refl w.heap.size w
  have hlat := fun w => laHas_any c w h1 h2
  have hnine := fun w => latHas_any c w h1 h2
  have hwin := fun w => wHas_any c w h1 h2
  have hsc := fun w => is_any c w h1 h2
  rcases (by omega : n = 1 ∨ n = 2 ∨ n = 3 ∨ n = 4 ∨ n = 5 ∨ ¬ (1 ≤ n ∧ n ≤ 5)) with rfl | rfl | rfl | rfl | rfl | hn
  · have e : hasB 1 c = decide (0 ≤ c ∧ c < 128) := rfl
    rcases Decidable.em (0 ≤ c) with h3 | h3
    · have HF : Hid (hasB 1 c = decide (c < 128)) := by rw [e]; show _ = _; rw [decide_eq_decide]; omega
      clear e
      go_enter Tryz.func137, Tryz.ntmps137
      go_wp2
      go_ret
      exact ⟨ret_bool HF.out.symm, hb⟩
    · have HF : Hid (hasB 1 c = false) := by rw [e]; exact decide_eq_false (by omega)
      clear e
      go_enter Tryz.func137, Tryz.ntmps137
      go_wp2
      go_ret
      exact ⟨ret_bool HF.out.symm, hb⟩
  · rw [show hasB 2 c = oneB c from rfl]
    have H := Lib.hid hlat; clear hlat hnine hwin hsc
    go_enter Tryz.func137, Tryz.ntmps137
    go_wp2_with (go_at_call 141; refine (H.out _).mono ?_; rintro e w' ⟨rfl, hw⟩; obtain rfl := hw.symm)
    go_ret
    exact ⟨rfl, hb⟩
  · rw [show hasB 3 c = nineB c from rfl]
    have H := Lib.hid hnine; clear hlat hnine hwin hsc
    go_enter Tryz.func137, Tryz.ntmps137
    go_wp2_with (go_at_call 143; refine (H.out _).mono ?_; rintro e w' ⟨rfl, hb1⟩)
    go_ret
    exact ⟨rfl, hb1⟩
  · rw [show hasB 4 c = (wput c).2 from rfl]
    have H := Lib.hid hwin; clear hlat hnine hwin hsc
    go_enter Tryz.func137, Tryz.ntmps137
    go_wp2_with (go_at_call 139; refine (H.out _).mono ?_; rintro e w' ⟨rfl, hb1⟩)
    go_ret
    exact ⟨rfl, hb1⟩
  · rw [show hasB 5 c = scB c from rfl]
    have H := Lib.hid hsc; clear hlat hnine hwin hsc
    go_enter Tryz.func137, Tryz.ntmps137
    go_wp2_with (go_at_call 122; refine (H.out _).mono ?_; rintro e w' ⟨rfl, hw⟩; obtain rfl := hw)
    go_ret
    exact ⟨rfl, hb⟩
  · rw [hasB_not c hn]
    have e1 := beqs n 1 (by omega); have e2 := beqs n 2 (by omega); have e3 := beqs n 3 (by omega); have e4 := beqs n 4 (by omega); have e5 := beqs n 5 (by omega)
    clear hlat hnine hwin hsc hn
    go_enter Tryz.func137, Tryz.ntmps137
    go_wp2
    go_ret
    exact ⟨rfl, hb⟩
end Go.Proofs.YtponfaglflmnkaaGreat
namespace Go.Proofs.YtponfaglflmnkaaGreat
open Go.RowKit
set_option maxHeartbeats 1000000
def tab64 : List Int := [0, 1, 56, 2, 57, 49, 28, 3, 61, 58, 42, 50, 38, 29, 17, 4, 62, 47, 59, 36, 45, 43, 51, 22, 53, 39, 33, 30, 24, 18, 12, 5, 63, 55, 48, 27, 60, 41, 37, 16, 46, 35, 44, 21, 52, 32, 23, 11, 54, 26, 40, 15, 34, 20, 31, 10, 25, 14, 19, 9, 13, 8, 7, 6]
/-- Where the table tells of s. -/
def tzAt (s : Int) : Int := IntKind.u64.wrap (bits .and .u64 s (IntKind.u64.wrap (-s)) * 285870213051353865) / 288230376151711744
theorem low_tz : ∀ a b c d e : Bool, enc5 a b c d e = 0 ∨ (0 < enc5 a b c d e ∧ enc5 a b c d e < 64 ∧ tzAt (enc5 a b c d e) = ((tzAt (enc5 a b c d e)).toNat : Int) ∧ (tzAt (enc5 a b c d e)).toNat < 64 ∧ tab64.getD (tzAt (enc5 a b c d e)).toNat 0 = low5 a b c d e) := by decide +kernel
theorem enc_pos {f : Int → Bool} : enc f = 0 ↔ lowL f = 0 := by
  have h := enc5_zero (f 1) (f 2) (f 3) (f 4) (f 5)
  rw [← enc_eq] at h
  have h2 : (enc f == 0) = (lowL f == 0) := h
  rw [Bool.eq_iff_iff] at h2
  simpa using h2
end Go.Proofs.YtponfaglflmnkaaGreat
namespace Go.Proofs.YtponfaglflmnkaaGreat
open Go.RowKit
set_option maxHeartbeats 1000000
/-- The first k of five answers as one number. -/
def encR (k : Nat) (f : Int → Bool) : Int := enc5 (decide (1 ≤ k) && f 1) (decide (2 ≤ k) && f 2) (decide (3 ≤ k) && f 3) (decide (4 ≤ k) && f 4) (decide (5 ≤ k) && f 5)
theorem encR_or0 {f : Int → Bool} (h : f 1 = true) : bits .or .i64 (encR 0 f) 2 = encR 1 f ∧ encR 0 f + 2 = encR 1 f := by
  simp only [encR, h]; generalize f 2 = b; generalize f 3 = c; generalize f 4 = d; generalize f 5 = e; revert b c d e; decide
theorem encR_or1 {f : Int → Bool} (h : f 2 = true) : bits .or .i64 (encR 1 f) 4 = encR 2 f ∧ encR 1 f + 4 = encR 2 f := by
  simp only [encR, h]; generalize f 1 = b; generalize f 3 = c; generalize f 4 = d; generalize f 5 = e; revert b c d e; decide
theorem encR_or2 {f : Int → Bool} (h : f 3 = true) : bits .or .i64 (encR 2 f) 8 = encR 3 f ∧ encR 2 f + 8 = encR 3 f := by
  simp only [encR, h]; generalize f 1 = b; generalize f 2 = c; generalize f 4 = d; generalize f 5 = e; revert b c d e; decide
theorem encR_or3 {f : Int → Bool} (h : f 4 = true) : bits .or .i64 (encR 3 f) 16 = encR 4 f ∧ encR 3 f + 16 = encR 4 f := by
  simp only [encR, h]; generalize f 1 = b; generalize f 2 = c; generalize f 3 = d; generalize f 5 = e; revert b c d e; decide
theorem encR_or4 {f : Int → Bool} (h : f 5 = true) : bits .or .i64 (encR 4 f) 32 = encR 5 f ∧ encR 4 f + 32 = encR 5 f := by
  simp only [encR, h]; generalize f 1 = b; generalize f 2 = c; generalize f 3 = d; generalize f 4 = e; revert b c d e; decide
theorem encR_no {f : Int → Bool} {k : Nat} (hk : k < 5) (h : f ((k : Int) + 1) = false) : encR k f = encR (k + 1) f := by
  rcases (by omega : k = 0 ∨ k = 1 ∨ k = 2 ∨ k = 3 ∨ k = 4) with rfl | rfl | rfl | rfl | rfl
  · have h : f 1 = false := h
    simp only [encR, h]; rfl
  · have h : f 2 = false := h
    simp only [encR, h]; rfl
  · have h : f 3 = false := h
    simp only [encR, h]; rfl
  · have h : f 4 = false := h
    simp only [encR, h]; rfl
  · have h : f 5 = false := h
    simp only [encR, h]; rfl
theorem encR_rng (k : Nat) (f : Int → Bool) : 0 ≤ encR k f ∧ encR k f ≤ 62 := by
  unfold encR enc5; constructor <;> (repeat' split) <;> omega
theorem encR_all (f : Int → Bool) : encR 5 f = enc f := by rw [enc_eq]; rfl
theorem encR_0 (f : Int → Bool) : encR 0 f = 0 := rfl
set_option maxRecDepth 100000 in
theorem pSize_any (n : Int) (w : World) :
    Calls Tryz.prog 113 #[.int .i64 n] w fun e w' => e = .returned (.int .i64 (sizeL n)) ∧ w' = w := by
  rcases (by omega : n = 1 ∨ n = 2 ∨ n = 3 ∨ n = 4 ∨ n = 5 ∨ ¬ (1 ≤ n ∧ n ≤ 5)) with rfl | rfl | rfl | rfl | rfl | hn
  case inr.inr.inr.inr.inr =>
    have e : sizeL n = 0 := by rw [sizeL, if_neg (by omega), if_neg (by omega), if_neg (by omega), if_neg (by omega), if_neg (by omega)]
    have e1 := beqs n 1 (by omega); have e2 := beqs n 2 (by omega); have e3 := beqs n 3 (by omega); have e4 := beqs n 4 (by omega); have e5 := beqs n 5 (by omega)
    rw [e]
    clear e hn
    go_enter Tryz.func113, Tryz.ntmps113
    go_wp2
    go_ret
    exact ⟨rfl, rfl⟩
  all_goals
    go_enter Tryz.func113, Tryz.ntmps113
    go_wp2
    go_ret
    exact ⟨rfl, rfl⟩
end Go.Proofs.YtponfaglflmnkaaGreat
namespace Go.Proofs.YtponfaglflmnkaaGreat
open Go.RowKit
set_option maxHeartbeats 1000000
/-- The first that a charset has not. -/
def lackN (n : Int) (xs : List Int) : Int := idx (fun c => !hasB n c) xs
theorem lackN_neg (n : Int) (xs : List Int) : (lackN n xs == -1) = xs.all (hasB n) := by
  cases h : xs.all (hasB n) with
  | true =>
    have : lackN n xs = -1 := idx_none fun y hy => by simp [List.all_eq_true.1 h y hy]
    rw [this]; rfl
  | false =>
    rcases idx_spec (fun c => !hasB n c) xs with h1 | ⟨i, x, h1, h2, h3⟩
    · exfalso
      obtain ⟨x, hx, hn⟩ := List.all_eq_false.1 h
      have h1' : xs.findIdx? (fun c => !hasB n c) = none := by
        unfold idx at h1
        split at h1
        · omega
        · assumption
      have := List.findIdx?_eq_none_iff.1 h1' x hx
      simp at this
      exact hn this
    · have : lackN n xs = i := h1
      rw [this]; exact beq_false_of_ne (by omega)
theorem lackN_lt (n : Int) (xs : List Int) : decide (lackN n xs < 0) = xs.all (hasB n) := by
  rw [← lackN_neg]
  rcases idx_spec (fun c => !hasB n c) xs with h1 | ⟨i, x, h1, _⟩
  · have : lackN n xs = -1 := h1
    rw [this]; rfl
  · have : lackN n xs = i := h1
    rw [this, decide_eq_false (by omega), beq_false_of_ne (by omega)]
set_option maxRecDepth 100000 in
theorem pLacks_any (n : Int) (v : Value) (xs : List Int) (w : World) (h : Row w v (ints .i32 xs)) (hg : R32 xs) (hl : xs.length ≤ 1000000) :
    Calls Tryz.prog 128 #[.int .i64 n, v] w fun e w' => e = .returned (.int .i64 (lackN n xs)) ∧ Below w.heap.size w w' := by
  obtain ⟨a, b, off, cp, rfl, HC⟩ := h.op
  go_enter Tryz.func128, Tryz.ntmps128
  go_wp2
  go_loopw [9] (fun i wr => ∃ k : Nat, i = .int .i64 k ∧ k ≤ xs.length ∧ Hid (∀ y ∈ xs.take k, hasB n y = true) ∧ Below w.heap.size w wr) (fun i _ => xs.length - (intOf i).toNat)
  case atStart => exact ⟨0, rfl, Nat.zero_le _, fun y hy => by simp at hy, Below.refl _ _⟩
  case round =>
    obtain ⟨k, rfl, hk, HT, hb⟩ := hrel
    by_cases hlt : k < xs.length
    · obtain ⟨x, HX, rfl, hc⟩ := HC.out k hlt
      replace hc := hc _ hb
      have hxr := hg.get HX.out
      have H := pHas_any n x wr hxr.1 hxr.2
      obtain ⟨q, hq⟩ : ∃ q, hasB n x = q := ⟨_, rfl⟩
      rw [hq] at H
      have HQ := Lib.hid hq; have H2 := Lib.hid H
      clear hq H
      rcases q with _ | _
      · have HF : Hid (lackN n xs = k) := idx_at (p := fun c => !hasB n c) (k := k) (fun y hy => by simp [HT.out y hy]) HX.out (by simp [HQ.out])
        go_wp2_with (go_at_call 137; refine (H2.out).mono ?_; rintro e w1 ⟨rfl, hb1⟩)
        go_ret
        exact ⟨ret_int HF.out.symm, below_trans hb hb1⟩
      · go_wp2_with (go_at_call 137; refine (H2.out).mono ?_; rintro e w1 ⟨rfl, hb1⟩)
        go_roundw
        case rel => exact ⟨k + 1, by go_num, by omega, take_succ_all HT.out HX.out HQ.out, below_trans hb hb1⟩
        case measure => simp [intOf]; omega
    · have HF : Hid (lackN n xs = -1) := idx_none fun y hy => by
        have := HT.out y (by rw [List.take_of_length_le (by omega)]; exact hy)
        simp [this]
      go_wp2
      go_ret
      exact ⟨ret_int HF.out.symm, hb⟩
end Go.Proofs.YtponfaglflmnkaaGreat
namespace Go.Proofs.YtponfaglflmnkaaGreat
open Go.RowKit
set_option maxHeartbeats 1000000
def allN (n : Int) (xs : List Int) : Bool := decide (1 ≤ n ∧ n ≤ 5) && xs.all (hasB n)
def fN (xs : List Int) : Int → Bool := fun n => xs.all (hasB n)
theorem size_pos {n : Int} (h : 1 ≤ n ∧ n ≤ 5) : 0 < sizeL n := by
  rcases (by omega : n = 1 ∨ n = 2 ∨ n = 3 ∨ n = 4 ∨ n = 5) with rfl | rfl | rfl | rfl | rfl <;> decide
theorem size_none {n : Int} (h : ¬ (1 ≤ n ∧ n ≤ 5)) : sizeL n = 0 := by rw [sizeL, if_neg (by omega), if_neg (by omega), if_neg (by omega), if_neg (by omega), if_neg (by omega)]
theorem pAll_any (n : Int) (v : Value) (xs : List Int) (w : World) (h : Row w v (ints .i32 xs)) (hg : R32 xs) (hl : xs.length ≤ 1000000) :
    Calls Tryz.prog 114 #[.int .i64 n, v] w fun e w' => e = .returned (.bool (allN n xs)) ∧ Below w.heap.size w w' := by
  have hb := Below.refl w.heap.size w
  have hS := fun w => pSize_any n w
  have hL := pLacks_any n v xs w h hg hl
  have hneg := lackN_neg n xs
  obtain ⟨a, b, off, cp, rfl, _⟩ := id h.op
  rcases Decidable.em (1 ≤ n ∧ n ≤ 5) with hn | hn
  · have hp := size_pos hn
    have e : allN n xs = xs.all (hasB n) := by rw [allN, decide_eq_true hn]; rfl
    rw [e]
    generalize sizeL n = s at *
    generalize lackN n xs = l at *
    rw [← hneg]
    have HS := Lib.hid hS; have HL := Lib.hid hL
    clear hS hL e hneg hn
    go_enter Tryz.func114, Tryz.ntmps114
    go_wp2_with (first | (go_at_call 113; refine (HS.out _).mono ?_; rintro e w1 ⟨rfl, hw⟩; obtain rfl := hw.symm) | (go_at_call 128; refine (HL.out).mono ?_; rintro e w2 ⟨rfl, hb2⟩))
    go_ret
    exact ⟨rfl, hb2⟩
  · have hp := size_none hn
    have e : allN n xs = false := by rw [allN, decide_eq_false hn]; rfl
    rw [e]
    rw [hp] at hS
    have HS := Lib.hid hS
    clear hS hL e hneg hn
    go_enter Tryz.func114, Tryz.ntmps114
    go_wp2_with (first | (go_at_call 113; refine (HS.out _).mono ?_; rintro e w1 ⟨rfl, hw⟩; obtain rfl := hw.symm))
    go_ret
    exact ⟨rfl, hb⟩
theorem enc_congr {f g : Int → Bool} (h : ∀ n, f n = g n) : enc f = enc g := by rw [show f = g from funext h]
theorem low_first {f : Int → Bool} {n : Int} (h1 : 1 ≤ n) (h2 : n ≤ 5) (hf : f n = true) (hm : ∀ m : Int, 1 ≤ m → m < n → f m = false) : lowL f = n := by
  have h3 := low_pos h1 h2 hf
  rcases Int.lt_or_le (lowL f) n with h4 | h4
  · have h5 := low_at (f := f) (by omega)
    rw [hm _ h3.1 h4] at h5; cases h5
  · omega
theorem low_none {f : Int → Bool} (hm : ∀ m : Int, 1 ≤ m → m < 6 → f m = false) : lowL f = 0 := by
  rcases Decidable.em (lowL f = 0) with h | h
  · exact h
  · have h1 := low_rng f
    have h5 := low_at h
    rw [hm _ (by omega) (by omega)] at h5; cases h5
end Go.Proofs.YtponfaglflmnkaaGreat
