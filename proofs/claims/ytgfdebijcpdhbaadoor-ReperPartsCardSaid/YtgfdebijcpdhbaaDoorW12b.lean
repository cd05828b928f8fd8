/- Walks: repertoires: latin nine by the program. -/
import Derived.Test.YtgfdebijcpdhbaaDoorW12
import Derived.Deep.WholeRow
namespace Go.Proofs.YtgfdebijcpdhbaaDoor
open Go.RowKit
set_option maxHeartbeats 1000000
set_option maxRecDepth 100000 in
theorem others9_any (w : World) :
    Calls Tryd.prog 39 #[] w fun e w' => e = .returned (.agg (#[.int .u8 164, .int .i32 8364, .int .u8 166, .int .i32 352, .int .u8 168, .int .i32 353, .int .u8 180, .int .i32 381, .int .u8 184, .int .i32 382, .int .u8 188, .int .i32 338, .int .u8 189, .int .i32 339, .int .u8 190, .int .i32 376] : Array Value)) ∧ Below w.heap.size w w' := by
  go_enter Tryd.func39, Tryd.ntmps39
  go_wp2
  refine bodyPost_ret (results_cell_row rfl _ _ _ _ _ _ (.array 8 45) rfl (heap_alloc_last _ _) (by kernel_rfl) (by rfl) (by kernel_rfl)) rfl ?_
  exact ⟨rfl, below_alloc _ _⟩
/-- None of the first k. -/
def NoK (c : Int) (k : Nat) : Prop := ∀ j, j < k → nineO.getD j 0 ≠ c ∧ nineS.getD j 0 ≠ c
theorem NoK.succ {c : Int} {k : Nat} (h : NoK c k) (h1 : nineO.getD k 0 ≠ c) (h2 : nineS.getD k 0 ≠ c) : NoK c (k + 1) := fun j hj => by
  rcases (by omega : j < k ∨ j = k) with h9 | rfl
  · exact h j h9
  · exact ⟨h1, h2⟩
theorem NoK.all {c : Int} (h : NoK c 8) : nineB c = oneB c := by
  have e1 : nineS.contains c = false := by
    cases hc : nineS.contains c with
    | false => rfl
    | true =>
      have h2 := List.contains_iff_mem.1 hc
      obtain ⟨j, hj, he⟩ := List.getElem_of_mem h2
      have hj8 : j < 8 := hj
      have := (h j hj8).2
      rw [List.getD, List.getElem?_eq_getElem hj] at this
      exact absurd he this
  have e2 : nineO.contains c = false := by
    cases hc : nineO.contains c with
    | false => rfl
    | true =>
      have h2 := List.contains_iff_mem.1 hc
      obtain ⟨j, hj, he⟩ := List.getElem_of_mem h2
      have hj8 : j < 8 := hj
      have := (h j hj8).1
      rw [List.getD, List.getElem?_eq_getElem hj] at this
      exact absurd he this
  rw [nineB, e1, e2, oneB]; simp
theorem em3 (c a b : Int) (h1 : nineB b = true) (h2 : nineB a = false) : (c = b ∧ Hid (nineB c = true)) ∨ (c = a ∧ Hid (nineB c = false)) ∨ (a ≠ c ∧ b ≠ c) := by
  rcases (by omega : c = b ∨ c = a ∨ (a ≠ c ∧ b ≠ c)) with rfl | rfl | h
  · exact .inl ⟨rfl, h1⟩
  · exact .inr (.inl ⟨rfl, h2⟩)
  · exact .inr (.inr h)
set_option maxRecDepth 100000 in
theorem latPut_any (c : Int) (w : World) (h1 : -2147483648 ≤ c) (h2 : c ≤ 2147483647) :
    Calls Tryd.prog 31 #[.int .i32 c] w fun e w' => PutP (nineB c) e ∧ Below w.heap.size w w' := by
  go_enter Tryd.func31, Tryd.ntmps31
  go_wp2_with (go_at_call 39; refine (others9_any _).mono ?_; rintro e w1 ⟨rfl, hb1⟩)
  go_loopw [7] (fun i wr => ∃ k : Nat, i = .int .i64 k ∧ k ≤ 8 ∧ NoK c k ∧ Below w.heap.size w wr) (fun i _ => 8 - (intOf i).toNat)
  case atStart => exact ⟨0, rfl, by omega, fun n hn => by omega, hb1⟩
  case round =>
    obtain ⟨k, rfl, hk, HP, hb⟩ := hrel
    by_cases hlt : k < 8
    · rcases (by omega : k = 0 ∨ k = 1 ∨ k = 2 ∨ k = 3 ∨ k = 4 ∨ k = 5 ∨ k = 6 ∨ k = 7) with rfl | rfl | rfl | rfl | rfl | rfl | rfl | rfl
      case' inl => have hcs := em3 c 164 8364 (by decide) (by decide); have hx : ∀ w, (Instr.index 46 (.agg (#[.int .u8 164, .int .i32 8364, .int .u8 166, .int .i32 352, .int .u8 168, .int .i32 353, .int .u8 180, .int .i32 381, .int .u8 184, .int .i32 382, .int .u8 188, .int .i32 338, .int .u8 189, .int .i32 339, .int .u8 190, .int .i32 376] : Array Value)) (.int .i64 0)).run Tryd.prog w = .ok (.agg #[.int .u8 164, .int .i32 8364]) w := fun _ => by kernel_rfl
      case' inr.inl => have hcs := em3 c 166 352 (by decide) (by decide); have hx : ∀ w, (Instr.index 46 (.agg (#[.int .u8 164, .int .i32 8364, .int .u8 166, .int .i32 352, .int .u8 168, .int .i32 353, .int .u8 180, .int .i32 381, .int .u8 184, .int .i32 382, .int .u8 188, .int .i32 338, .int .u8 189, .int .i32 339, .int .u8 190, .int .i32 376] : Array Value)) (.int .i64 1)).run Tryd.prog w = .ok (.agg #[.int .u8 166, .int .i32 352]) w := fun _ => by kernel_rfl
      case' inr.inr.inl => have hcs := em3 c 168 353 (by decide) (by decide); have hx : ∀ w, (Instr.index 46 (.agg (#[.int .u8 164, .int .i32 8364, .int .u8 166, .int .i32 352, .int .u8 168, .int .i32 353, .int .u8 180, .int .i32 381, .int .u8 184, .int .i32 382, .int .u8 188, .int .i32 338, .int .u8 189, .int .i32 339, .int .u8 190, .int .i32 376] : Array Value)) (.int .i64 2)).run Tryd.prog w = .ok (.agg #[.int .u8 168, .int .i32 353]) w := fun _ => by kernel_rfl
      case' inr.inr.inr.inl => have hcs := em3 c 180 381 (by decide) (by decide); have hx : ∀ w, (Instr.index 46 (.agg (#[.int .u8 164, .int .i32 8364, .int .u8 166, .int .i32 352, .int .u8 168, .int .i32 353, .int .u8 180, .int .i32 381, .int .u8 184, .int .i32 382, .int .u8 188, .int .i32 338, .int .u8 189, .int .i32 339, .int .u8 190, .int .i32 376] : Array Value)) (.int .i64 3)).run Tryd.prog w = .ok (.agg #[.int .u8 180, .int .i32 381]) w := fun _ => by kernel_rfl
      case' inr.inr.inr.inr.inl => have hcs := em3 c 184 382 (by decide) (by decide); have hx : ∀ w, (Instr.index 46 (.agg (#[.int .u8 164, .int .i32 8364, .int .u8 166, .int .i32 352, .int .u8 168, .int .i32 353, .int .u8 180, .int .i32 381, .int .u8 184, .int .i32 382, .int .u8 188, .int .i32 338, .int .u8 189, .int .i32 339, .int .u8 190, .int .i32 376] : Array Value)) (.int .i64 4)).run Tryd.prog w = .ok (.agg #[.int .u8 184, .int .i32 382]) w := fun _ => by kernel_rfl
      case' inr.inr.inr.inr.inr.inl => have hcs := em3 c 188 338 (by decide) (by decide); have hx : ∀ w, (Instr.index 46 (.agg (#[.int .u8 164, .int .i32 8364, .int .u8 166, .int .i32 352, .int .u8 168, .int .i32 353, .int .u8 180, .int .i32 381, .int .u8 184, .int .i32 382, .int .u8 188, .int .i32 338, .int .u8 189, .int .i32 339, .int .u8 190, .int .i32 376] : Array Value)) (.int .i64 5)).run Tryd.prog w = .ok (.agg #[.int .u8 188, .int .i32 338]) w := fun _ => by kernel_rfl
      case' inr.inr.inr.inr.inr.inr.inl => have hcs := em3 c 189 339 (by decide) (by decide); have hx : ∀ w, (Instr.index 46 (.agg (#[.int .u8 164, .int .i32 8364, .int .u8 166, .int .i32 352, .int .u8 168, .int .i32 353, .int .u8 180, .int .i32 381, .int .u8 184, .int .i32 382, .int .u8 188, .int .i32 338, .int .u8 189, .int .i32 339, .int .u8 190, .int .i32 376] : Array Value)) (.int .i64 6)).run Tryd.prog w = .ok (.agg #[.int .u8 189, .int .i32 339]) w := fun _ => by kernel_rfl
      case' inr.inr.inr.inr.inr.inr.inr => have hcs := em3 c 190 376 (by decide) (by decide); have hx : ∀ w, (Instr.index 46 (.agg (#[.int .u8 164, .int .i32 8364, .int .u8 166, .int .i32 352, .int .u8 168, .int .i32 353, .int .u8 180, .int .i32 381, .int .u8 184, .int .i32 382, .int .u8 188, .int .i32 338, .int .u8 189, .int .i32 339, .int .u8 190, .int .i32 376] : Array Value)) (.int .i64 7)).run Tryd.prog w = .ok (.agg #[.int .u8 190, .int .i32 376]) w := fun _ => by kernel_rfl
      all_goals
        rcases hcs with ⟨rfl, HF⟩ | ⟨rfl, HF⟩ | ⟨ho, hs⟩
        · go_wp2
          go_ret2
          exact ⟨PutP.mk HF.out, by first | exact hb | exact hb.alloc hb.size _⟩
        · go_wp2
          go_ret2
          exact ⟨PutP.mk HF.out, by first | exact hb | exact hb.alloc hb.size _⟩
        · have hs1 := beq_false_of_ne (Ne.symm hs)
          have ho1 := beq_false_of_ne (Ne.symm ho)
          have HP2 := Lib.hid (NoK.succ HP ho hs)
          clear ho hs HP
          go_wp2_with fail
          go_roundw
          case rel => exact ⟨_, by first | exact iv (by rfl) | go_num, by omega, HP2.out, by first | exact hb | exact hb.alloc hb.size _⟩
          case measure => simp [intOf]
    · obtain rfl : k = 8 := by omega
      have HN := Lib.hid HP.all
      clear HP
      rcases Decidable.em (c < 0) with h3 | h3
      · have HF : Hid (nineB c = false) := by rw [HN.out, oneB]; exact decide_eq_false (by omega)
        go_wp2
        go_ret2
        exact ⟨PutP.mk HF.out, hb⟩
      · rcases Decidable.em (256 ≤ c) with h4 | h4
        · have HF : Hid (nineB c = false) := by rw [HN.out, oneB]; exact decide_eq_false (by omega)
          go_wp2
          go_ret2
          exact ⟨PutP.mk HF.out, hb⟩
        · have HF : Hid (nineB c = true) := by rw [HN.out, oneB]; exact decide_eq_true (by omega)
          go_wp2
          go_ret2
          exact ⟨PutP.mk HF.out, hb⟩
theorem latHas_any (c : Int) (w : World) (h1 : -2147483648 ≤ c) (h2 : c ≤ 2147483647) :
    Calls Tryd.prog 23 #[.int .i32 c] w fun e w' => e = .returned (.bool (nineB c)) ∧ Below w.heap.size w w' := by
  go_enter Tryd.func23, Tryd.ntmps23
  go_wp2_with (go_at_call 31; refine (latPut_any c _ h1 h2).mono ?_; rintro e w1 ⟨⟨x, rfl⟩, hb1⟩)
  go_ret
  exact ⟨rfl, hb1⟩
end Go.Proofs.YtgfdebijcpdhbaaDoor
