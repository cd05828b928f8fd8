/- Walks: repertoires: has a charset a number; all that have one. -/
import Derived.Test.YtgfdebijcpdhbaaDoorW12b
namespace Go.Proofs.YtgfdebijcpdhbaaDoor
open Go.RowKit
set_option maxHeartbeats 1000000
theorem beqs (n k : Int) (h : n ≠ k) : (n == k) = false := beq_false_of_ne h
set_option maxRecDepth 100000 in
theorem pHas_any (n c : Int) (w : World) (h1 : -2147483648 ≤ c) (h2 : c ≤ 2147483647) :
    Calls Tryd.prog 8 #[.int .i64 n, .int .i32 c] w fun e w' => e = .returned (.bool (hasB n c)) ∧ Below w.heap.size w w' := by
  have hb := Below.refl w.heap.size w
  have hlat := fun w => laHas_any c w h1 h2
  have hnine := fun w => latHas_any c w h1 h2
  have hwin := fun w => wHas_any c w h1 h2
  have hsc := fun w => is_any c w h1 h2
  rcases (by omega : n = 1 ∨ n = 2 ∨ n = 3 ∨ n = 4 ∨ n = 5 ∨ ¬ (1 ≤ n ∧ n ≤ 5)) with rfl | rfl | rfl | rfl | rfl | hn
  · have e : hasB 1 c = decide (0 ≤ c ∧ c < 128) := rfl
    rcases Decidable.em (0 ≤ c) with h3 | h3
    · have HF : Hid (hasB 1 c = decide (c < 128)) := by rw [e]; show _ = _; rw [decide_eq_decide]; omega
      clear e
      go_enter Tryd.func8, Tryd.ntmps8
      go_wp2
      go_ret
      exact ⟨ret_bool HF.out.symm, hb⟩
    · have HF : Hid (hasB 1 c = false) := by rw [e]; exact decide_eq_false (by omega)
      clear e
      go_enter Tryd.func8, Tryd.ntmps8
      go_wp2
      go_ret
      exact ⟨ret_bool HF.out.symm, hb⟩
  · rw [show hasB 2 c = oneB c from rfl]
    have H := Lib.hid hlat; clear hlat hnine hwin hsc
    go_enter Tryd.func8, Tryd.ntmps8
    go_wp2_with (go_at_call 22; refine (H.out _).mono ?_; rintro e w' ⟨rfl, hw⟩; obtain rfl := hw.symm)
    go_ret
    exact ⟨rfl, hb⟩
  · rw [show hasB 3 c = nineB c from rfl]
    have H := Lib.hid hnine; clear hlat hnine hwin hsc
    go_enter Tryd.func8, Tryd.ntmps8
    go_wp2_with (go_at_call 23; refine (H.out _).mono ?_; rintro e w' ⟨rfl, hb1⟩)
    go_ret
    exact ⟨rfl, hb1⟩
  · rw [show hasB 4 c = (wput c).2 from rfl]
    have H := Lib.hid hwin; clear hlat hnine hwin hsc
    go_enter Tryd.func8, Tryd.ntmps8
    go_wp2_with (go_at_call 24; refine (H.out _).mono ?_; rintro e w' ⟨rfl, hb1⟩)
    go_ret
    exact ⟨rfl, hb1⟩
  · rw [show hasB 5 c = scB c from rfl]
    have H := Lib.hid hsc; clear hlat hnine hwin hsc
    go_enter Tryd.func8, Tryd.ntmps8
    go_wp2_with (go_at_call 25; refine (H.out _).mono ?_; rintro e w' ⟨rfl, hw⟩; obtain rfl := hw)
    go_ret
    exact ⟨rfl, hb⟩
  · rw [hasB_not c hn]
    have e1 := beqs n 1 (by omega); have e2 := beqs n 2 (by omega); have e3 := beqs n 3 (by omega); have e4 := beqs n 4 (by omega); have e5 := beqs n 5 (by omega)
    clear hlat hnine hwin hsc hn
    go_enter Tryd.func8, Tryd.ntmps8
    go_wp2
    go_ret
    exact ⟨rfl, hb⟩
set_option maxRecDepth 100000 in
theorem rHas_any (n c : Int) (w : World) (h1 : -2147483648 ≤ c) (h2 : c ≤ 2147483647) :
    Calls Tryd.prog 9 #[.int .i64 n, .int .i32 c] w fun e w' => e = .returned (.bool (hasB n c)) ∧ Below w.heap.size w w' := by
  have hb := Below.refl w.heap.size w
  have hlat := fun w => rPut8_any c w h1 h2
  have hnine := fun w => rPut9_any c w h1 h2
  have hwin := fun w => rwPut_any c w h1 h2
  have hsc := fun w => ris_any c w
  rcases (by omega : n = 1 ∨ n = 2 ∨ n = 3 ∨ n = 4 ∨ n = 5 ∨ ¬ (1 ≤ n ∧ n ≤ 5)) with rfl | rfl | rfl | rfl | rfl | hn
  · have e : hasB 1 c = decide (0 ≤ c ∧ c < 128) := rfl
    rcases Decidable.em (0 ≤ c) with h3 | h3
    · have HF : Hid (hasB 1 c = decide (c < 128)) := by rw [e]; show _ = _; rw [decide_eq_decide]; omega
      clear e
      go_enter Tryd.func9, Tryd.ntmps9
      go_wp2
      go_ret
      exact ⟨ret_bool HF.out.symm, hb⟩
    · have HF : Hid (hasB 1 c = false) := by rw [e]; exact decide_eq_false (by omega)
      clear e
      go_enter Tryd.func9, Tryd.ntmps9
      go_wp2
      go_ret
      exact ⟨ret_bool HF.out.symm, hb⟩
  · rw [show hasB 2 c = oneB c from rfl]
    have H := Lib.hid hlat; clear hlat hnine hwin hsc
    go_enter Tryd.func9, Tryd.ntmps9
    go_wp2_with (go_at_call 26; refine (H.out _).mono ?_; rintro e w' ⟨⟨x, rfl⟩, hw⟩; obtain rfl := hw.symm)
    go_ret
    exact ⟨rfl, hb⟩
  · rw [show hasB 3 c = nineB c from rfl]
    have H := Lib.hid hnine; clear hlat hnine hwin hsc
    go_enter Tryd.func9, Tryd.ntmps9
    go_wp2_with (go_at_call 27; refine (H.out _).mono ?_; rintro e w' ⟨⟨x, rfl⟩, hw⟩; obtain rfl := hw.symm)
    go_ret
    exact ⟨rfl, hb⟩
  · rw [show hasB 4 c = (wput c).2 from rfl]
    have H := Lib.hid hwin; clear hlat hnine hwin hsc
    go_enter Tryd.func9, Tryd.ntmps9
    go_wp2_with (go_at_call 28; refine (H.out _).mono ?_; rintro e w' ⟨rfl, hb1⟩)
    go_ret
    exact ⟨rfl, hb1⟩
  · rw [show hasB 5 c = scB c from rfl]
    have H := Lib.hid hsc; clear hlat hnine hwin hsc
    go_enter Tryd.func9, Tryd.ntmps9
    go_wp2_with (go_at_call 29; refine (H.out _).mono ?_; rintro e w' ⟨rfl, hw⟩; obtain rfl := hw)
    go_ret
    exact ⟨rfl, hb⟩
  · rw [hasB_not c hn]
    have e1 := beqs n 1 (by omega); have e2 := beqs n 2 (by omega); have e3 := beqs n 3 (by omega); have e4 := beqs n 4 (by omega); have e5 := beqs n 5 (by omega)
    clear hlat hnine hwin hsc hn
    go_enter Tryd.func9, Tryd.ntmps9
    go_wp2
    go_ret
    exact ⟨rfl, hb⟩
end Go.Proofs.YtgfdebijcpdhbaaDoor
