/- Walks: latin nine and latin one, with what they give. · Walks: latin one and latin nine: laying and reading. (laid together by program out of single texts). -/
import Derived.Test.YtponfaglflmnkaaGreatM12
import Derived.Test.YtponfaglflmnkaaGreatM22
import Derived.Test.YtponfaglflmnkaaGreatM23
namespace Go.Proofs.YtponfaglflmnkaaGreat
open Go.RowKit
set_option maxHeartbeats 2000000
set_option linter.unusedSimpArgs false
def put9 (c : Int) : Int := if nineB c then oct9 c else 0
theorem em3V (c a b : Int) (h1 : nineB b = true ∧ put9 b = a) (h2 : nineB a = false ∧ put9 a = 0) : (c = b ∧ Hid (nineB c = true ∧ put9 c = a)) ∨ (c = a ∧ Hid (nineB c = false ∧ put9 c = 0)) ∨ (a ≠ c ∧ b ≠ c) := by
  rcases (by omega : c = b ∨ c = a ∨ (a ≠ c ∧ b ≠ c)) with rfl | rfl | h
  · exact .inl ⟨rfl, h1⟩
  · exact .inr (.inl ⟨rfl, h2⟩)
  · exact .inr (.inr h)
theorem NoK.oct {c : Int} (h : NoK c 8) : oct9 c = c := by
  have k := fun (j : Nat) (hj : j < 8) => (h j hj).2
  have k0 := k 0 (by omega); have k1 := k 1 (by omega); have k2 := k 2 (by omega); have k3 := k 3 (by omega); have k4 := k 4 (by omega); have k5 := k 5 (by omega); have k6 := k 6 (by omega); have k7 := k 7 (by omega)
  simp only [nineS, List.getD_cons_zero, List.getD_cons_succ] at k0 k1 k2 k3 k4 k5 k6 k7
  unfold oct9
  rw [if_neg (Ne.symm k0), if_neg (Ne.symm k1), if_neg (Ne.symm k2), if_neg (Ne.symm k3), if_neg (Ne.symm k4), if_neg (Ne.symm k5), if_neg (Ne.symm k6), if_neg (Ne.symm k7)]
set_option maxRecDepth 100000 in
theorem latPutV_any (c : Int) (w : World) (h1 : -2147483648 ≤ c) (h2 : c ≤ 2147483647) :
    Calls Tryz.prog 130 #[.int .i32 c] w fun e w' => e = .returned (.tuple #[.int .u8 (put9 c), .bool (nineB c)]) ∧ Below w.heap.size w w' := by
  go_enter Tryz.func130, Tryz.ntmps130
  go_wp2_with (go_at_call 101; refine (others9_any _).mono ?_; rintro e w1 ⟨rfl, hb1⟩)
  go_loopw [7] (fun i wr => ∃ k : Nat, i = .int .i64 k ∧ k ≤ 8 ∧ NoK c k ∧ Below w.heap.size w wr) (fun i _ => 8 - (intOf i).toNat)
  case atStart => exact ⟨0, rfl, by omega, fun n hn => by omega, hb1⟩
  case round =>
    obtain ⟨k, rfl, hk, HP, hb⟩ := hrel
    by_cases hlt : k < 8
    · rcases (by omega : k = 0 ∨ k = 1 ∨ k = 2 ∨ k = 3 ∨ k = 4 ∨ k = 5 ∨ k = 6 ∨ k = 7) with rfl | rfl | rfl | rfl | rfl | rfl | rfl | rfl
      case' inl => have hcs := em3V c 164 8364 (by decide) (by decide); have hx : ∀ w, (Instr.index 98 (.agg (#[.int .u8 164, .int .i32 8364, .int .u8 166, .int .i32 352, .int .u8 168, .int .i32 353, .int .u8 180, .int .i32 381, .int .u8 184, .int .i32 382, .int .u8 188, .int .i32 338, .int .u8 189, .int .i32 339, .int .u8 190, .int .i32 376] : Array Value)) (.int .i64 0)).run Tryz.prog w = .ok (.agg #[.int .u8 164, .int .i32 8364]) w := fun _ => by kernel_rfl
      case' inr.inl => have hcs := em3V c 166 352 (by decide) (by decide); have hx : ∀ w, (Instr.index 98 (.agg (#[.int .u8 164, .int .i32 8364, .int .u8 166, .int .i32 352, .int .u8 168, .int .i32 353, .int .u8 180, .int .i32 381, .int .u8 184, .int .i32 382, .int .u8 188, .int .i32 338, .int .u8 189, .int .i32 339, .int .u8 190, .int .i32 376] : Array Value)) (.int .i64 1)).run Tryz.prog w = .ok (.agg #[.int .u8 166, .int .i32 352]) w := fun _ => by kernel_rfl
      case' inr.inr.inl => have hcs := em3V c 168 353 (by decide) (by decide); have hx : ∀ w, (Instr.index 98 (.agg (#[.int .u8 164, .int .i32 8364, .int .u8 166, .int .i32 352, .int .u8 168, .int .i32 353, .int .u8 180, .int .i32 381, .int .u8 184, .int .i32 382, .int .u8 188, .int .i32 338, .int .u8 189, .int .i32 339, .int .u8 190, .int .i32 376] : Array Value)) (.int .i64 2)).run Tryz.prog w = .ok (.agg #[.int .u8 168, .int .i32 353]) w := fun _ => by kernel_rfl
      case' inr.inr.inr.inl => have hcs := em3V c 180 381 (by decide) (by decide); have hx : ∀ w, (Instr.index 98 (.agg (#[.int .u8 164, .int .i32 8364, .int .u8 166, .int .i32 352, .int .u8 168, .int .i32 353, .int .u8 180, .int .i32 381, .int .u8 184, .int .i32 382, .int .u8 188, .int .i32 338, .int .u8 189, .int .i32 339, .int .u8 190, .int .i32 376] : Array Value)) (.int .i64 3)).run Tryz.prog w = .ok (.agg #[.int .u8 180, .int .i32 381]) w := fun _ => by kernel_rfl
      case' inr.inr.inr.inr.inl => have hcs := em3V c 184 382 (by decide) (by decide); have hx : ∀ w, (Instr.index 98 (.agg (#[.int .u8 164, .int .i32 8364, .int .u8 166, .int .i32 352, .int .u8 168, .int .i32 353, .int .u8 180, .int .i32 381, .int .u8 184, .int .i32 382, .int .u8 188, .int .i32 338, .int .u8 189, .int .i32 339, .int .u8 190, .int .i32 376] : Array Value)) (.int .i64 4)).run Tryz.prog w = .ok (.agg #[.int .u8 184, .int .i32 382]) w := fun _ => by kernel_rfl
      case' inr.inr.inr.inr.inr.inl => have hcs := em3V c 188 338 (by decide) (by decide); have hx : ∀ w, (Instr.index 98 (.agg (#[.int .u8 164, .int .i32 8364, .int .u8 166, .int .i32 352, .int .u8 168, .int .i32 353, .int .u8 180, .int .i32 381, .int .u8 184, .int .i32 382, .int .u8 188, .int .i32 338, .int .u8 189, .int .i32 339, .int .u8 190, .int .i32 376] : Array Value)) (.int .i64 5)).run Tryz.prog w = .ok (.agg #[.int .u8 188, .int .i32 338]) w := fun _ => by kernel_rfl
      case' inr.inr.inr.inr.inr.inr.inl => have hcs := em3V c 189 339 (by decide) (by decide); have hx : ∀ w, (Instr.index 98 (.agg (#[.int .u8 164, .int .i32 8364, .int .u8 166, .int .i32 352, .int .u8 168, .int .i32 353, .int .u8 180, .int .i32 381, .int .u8 184, .int .i32 382, .int .u8 188, .int .i32 338, .int .u8 189, .int .i32 339, .int .u8 190, .int .i32 376] : Array Value)) (.int .i64 6)).run Tryz.prog w = .ok (.agg #[.int .u8 189, .int .i32 339]) w := fun _ => by kernel_rfl
      case' inr.inr.inr.inr.inr.inr.inr => have hcs := em3V c 190 376 (by decide) (by decide); have hx : ∀ w, (Instr.index 98 (.agg (#[.int .u8 164, .int .i32 8364, .int .u8 166, .int .i32 352, .int .u8 168, .int .i32 353, .int .u8 180, .int .i32 381, .int .u8 184, .int .i32 382, .int .u8 188, .int .i32 338, .int .u8 189, .int .i32 339, .int .u8 190, .int .i32 376] : Array Value)) (.int .i64 7)).run Tryz.prog w = .ok (.agg #[.int .u8 190, .int .i32 376]) w := fun _ => by kernel_rfl
      all_goals
        rcases hcs with ⟨rfl, HF⟩ | ⟨rfl, HF⟩ | ⟨ho, hs⟩
        · go_wp2
          go_ret2
          exact ⟨ret2 (iv (by rw [HF.out.2])) (bv (by rw [HF.out.1])), by first | exact hb | exact hb.alloc hb.size _⟩
        · go_wp2
          go_ret2
          exact ⟨ret2 (iv (by rw [HF.out.2])) (bv (by rw [HF.out.1])), by first | exact hb | exact hb.alloc hb.size _⟩
        · have hs1 := beq_false_of_ne (Ne.symm hs)
          have ho1 := beq_false_of_ne (Ne.symm ho)
          have HP2 := Lib.hid (NoK.succ HP ho hs)
          clear ho hs HP
          go_wp2_with fail
          go_roundw
          case rel => exact ⟨_, by first | exact iv (by rfl) | go_num, by omega, HP2.out, by first | exact hb | exact hb.alloc hb.size _⟩
          case measure => simp [intOf]
    · obtain rfl : k = 8 := by omega
      have HN := Lib.hid HP.all
      have HO := Lib.hid HP.oct
      clear HP
      rcases Decidable.em (0 ≤ c ∧ c < 256) with h3 | h3
      · have HF : Hid (nineB c = true ∧ put9 c = c) := by
          have h9 : nineB c = true := by rw [HN.out, oneB]; exact decide_eq_true h3
          exact ⟨h9, by rw [put9, if_pos h9, HO.out]⟩
        have h4 := h3.1
        have h5 := h3.2
        clear h3
        go_wp2
        go_ret2
        exact ⟨ret2 (iv (by rw [HF.out.2])) (bv (by rw [HF.out.1])), hb⟩
      · have HF : Hid (nineB c = false ∧ put9 c = 0) := by
          have h9 : nineB c = false := by rw [HN.out, oneB]; exact decide_eq_false h3
          exact ⟨h9, by rw [put9, if_neg (by rw [h9]; decide)]⟩
        rcases Decidable.em (c < 0) with h4 | h4
        · clear h3
          go_wp2
          go_ret2
          exact ⟨ret2 (iv (by rw [HF.out.2])) (bv (by rw [HF.out.1])), hb⟩
        · have h5 : 256 ≤ c := by omega
          clear h3
          go_wp2
          go_ret2
          exact ⟨ret2 (iv (by rw [HF.out.2])) (bv (by rw [HF.out.1])), hb⟩
/-- None of the first k octets. -/
def NoX (x : Int) (k : Nat) : Prop := ∀ j, j < k → nineO.getD j 0 ≠ x
theorem NoX.succ {x : Int} {k : Nat} (h : NoX x k) (h1 : nineO.getD k 0 ≠ x) : NoX x (k + 1) := fun j hj => by
  rcases (by omega : j < k ∨ j = k) with h9 | rfl
  · exact h j h9
  · exact h1
theorem NoX.sign {x : Int} (h : NoX x 8) : sign9 x = x := by
  have k0 := h 0 (by omega); have k1 := h 1 (by omega); have k2 := h 2 (by omega); have k3 := h 3 (by omega); have k4 := h 4 (by omega); have k5 := h 5 (by omega); have k6 := h 6 (by omega); have k7 := h 7 (by omega)
  simp only [nineO, List.getD_cons_zero, List.getD_cons_succ] at k0 k1 k2 k3 k4 k5 k6 k7
  unfold sign9
  rw [if_neg (Ne.symm k0), if_neg (Ne.symm k1), if_neg (Ne.symm k2), if_neg (Ne.symm k3), if_neg (Ne.symm k4), if_neg (Ne.symm k5), if_neg (Ne.symm k6), if_neg (Ne.symm k7)]
theorem em2V (x a b : Int) (h1 : sign9 a = b) : (x = a ∧ Hid (sign9 x = b)) ∨ a ≠ x := by
  rcases Decidable.em (x = a) with rfl | h
  · exact .inl ⟨rfl, h1⟩
  · exact .inr (Ne.symm h)
set_option maxRecDepth 100000 in
theorem latSign_any (x : Int) (w : World) (h1 : 0 ≤ x) (h2 : x < 256) :
    Calls Tryz.prog 76 #[.int .u8 x] w fun e w' => e = .returned (.int .i32 (sign9 x)) ∧ Below w.heap.size w w' := by
  go_enter Tryz.func76, Tryz.ntmps76
  go_wp2_with (go_at_call 101; refine (others9_any _).mono ?_; rintro e w1 ⟨rfl, hb1⟩)
  go_loopw [6] (fun i wr => ∃ k : Nat, i = .int .i64 k ∧ k ≤ 8 ∧ NoX x k ∧ Below w.heap.size w wr) (fun i _ => 8 - (intOf i).toNat)
  case atStart => exact ⟨0, rfl, by omega, fun n hn => by omega, hb1⟩
  case round =>
    obtain ⟨k, rfl, hk, HP, hb⟩ := hrel
    by_cases hlt : k < 8
    · rcases (by omega : k = 0 ∨ k = 1 ∨ k = 2 ∨ k = 3 ∨ k = 4 ∨ k = 5 ∨ k = 6 ∨ k = 7) with rfl | rfl | rfl | rfl | rfl | rfl | rfl | rfl
      case' inl => have hcs := em2V x 164 8364 (by decide); have hx : ∀ w, (Instr.index 98 (.agg (#[.int .u8 164, .int .i32 8364, .int .u8 166, .int .i32 352, .int .u8 168, .int .i32 353, .int .u8 180, .int .i32 381, .int .u8 184, .int .i32 382, .int .u8 188, .int .i32 338, .int .u8 189, .int .i32 339, .int .u8 190, .int .i32 376] : Array Value)) (.int .i64 0)).run Tryz.prog w = .ok (.agg #[.int .u8 164, .int .i32 8364]) w := fun _ => by kernel_rfl
      case' inr.inl => have hcs := em2V x 166 352 (by decide); have hx : ∀ w, (Instr.index 98 (.agg (#[.int .u8 164, .int .i32 8364, .int .u8 166, .int .i32 352, .int .u8 168, .int .i32 353, .int .u8 180, .int .i32 381, .int .u8 184, .int .i32 382, .int .u8 188, .int .i32 338, .int .u8 189, .int .i32 339, .int .u8 190, .int .i32 376] : Array Value)) (.int .i64 1)).run Tryz.prog w = .ok (.agg #[.int .u8 166, .int .i32 352]) w := fun _ => by kernel_rfl
      case' inr.inr.inl => have hcs := em2V x 168 353 (by decide); have hx : ∀ w, (Instr.index 98 (.agg (#[.int .u8 164, .int .i32 8364, .int .u8 166, .int .i32 352, .int .u8 168, .int .i32 353, .int .u8 180, .int .i32 381, .int .u8 184, .int .i32 382, .int .u8 188, .int .i32 338, .int .u8 189, .int .i32 339, .int .u8 190, .int .i32 376] : Array Value)) (.int .i64 2)).run Tryz.prog w = .ok (.agg #[.int .u8 168, .int .i32 353]) w := fun _ => by kernel_rfl
      case' inr.inr.inr.inl => have hcs := em2V x 180 381 (by decide); have hx : ∀ w, (Instr.index 98 (.agg (#[.int .u8 164, .int .i32 8364, .int .u8 166, .int .i32 352, .int .u8 168, .int .i32 353, .int .u8 180, .int .i32 381, .int .u8 184, .int .i32 382, .int .u8 188, .int .i32 338, .int .u8 189, .int .i32 339, .int .u8 190, .int .i32 376] : Array Value)) (.int .i64 3)).run Tryz.prog w = .ok (.agg #[.int .u8 180, .int .i32 381]) w := fun _ => by kernel_rfl
      case' inr.inr.inr.inr.inl => have hcs := em2V x 184 382 (by decide); have hx : ∀ w, (Instr.index 98 (.agg (#[.int .u8 164, .int .i32 8364, .int .u8 166, .int .i32 352, .int .u8 168, .int .i32 353, .int .u8 180, .int .i32 381, .int .u8 184, .int .i32 382, .int .u8 188, .int .i32 338, .int .u8 189, .int .i32 339, .int .u8 190, .int .i32 376] : Array Value)) (.int .i64 4)).run Tryz.prog w = .ok (.agg #[.int .u8 184, .int .i32 382]) w := fun _ => by kernel_rfl
      case' inr.inr.inr.inr.inr.inl => have hcs := em2V x 188 338 (by decide); have hx : ∀ w, (Instr.index 98 (.agg (#[.int .u8 164, .int .i32 8364, .int .u8 166, .int .i32 352, .int .u8 168, .int .i32 353, .int .u8 180, .int .i32 381, .int .u8 184, .int .i32 382, .int .u8 188, .int .i32 338, .int .u8 189, .int .i32 339, .int .u8 190, .int .i32 376] : Array Value)) (.int .i64 5)).run Tryz.prog w = .ok (.agg #[.int .u8 188, .int .i32 338]) w := fun _ => by kernel_rfl
      case' inr.inr.inr.inr.inr.inr.inl => have hcs := em2V x 189 339 (by decide); have hx : ∀ w, (Instr.index 98 (.agg (#[.int .u8 164, .int .i32 8364, .int .u8 166, .int .i32 352, .int .u8 168, .int .i32 353, .int .u8 180, .int .i32 381, .int .u8 184, .int .i32 382, .int .u8 188, .int .i32 338, .int .u8 189, .int .i32 339, .int .u8 190, .int .i32 376] : Array Value)) (.int .i64 6)).run Tryz.prog w = .ok (.agg #[.int .u8 189, .int .i32 339]) w := fun _ => by kernel_rfl
      case' inr.inr.inr.inr.inr.inr.inr => have hcs := em2V x 190 376 (by decide); have hx : ∀ w, (Instr.index 98 (.agg (#[.int .u8 164, .int .i32 8364, .int .u8 166, .int .i32 352, .int .u8 168, .int .i32 353, .int .u8 180, .int .i32 381, .int .u8 184, .int .i32 382, .int .u8 188, .int .i32 338, .int .u8 189, .int .i32 339, .int .u8 190, .int .i32 376] : Array Value)) (.int .i64 7)).run Tryz.prog w = .ok (.agg #[.int .u8 190, .int .i32 376]) w := fun _ => by kernel_rfl
      all_goals
        rcases hcs with ⟨rfl, HF⟩ | ho
        · go_wp2
          go_ret
          exact ⟨ret_int HF.out.symm, by first | exact hb | exact hb.alloc hb.size _⟩
        · have ho1 := beq_false_of_ne ho
          have HP2 := Lib.hid (NoX.succ HP ho)
          clear ho HP
          go_wp2_with fail
          go_roundw
          case rel => exact ⟨_, by first | exact iv (by rfl) | go_num, by omega, HP2.out, by first | exact hb | exact hb.alloc hb.size _⟩
          case measure => simp [intOf]
    · obtain rfl : k = 8 := by omega
      have HN := Lib.hid HP.sign
      clear HP
      have hw : IntKind.i32.wrap x = x := by rw [IntKind.wrap_i32]; omega
      go_wp2
      go_ret
      exact ⟨ret_int (by rw [HN.out]), hb⟩
end Go.Proofs.YtponfaglflmnkaaGreat
namespace Go.Proofs.YtponfaglflmnkaaGreat
open Go.RowKit
set_option maxHeartbeats 2000000
theorem infoU8 : (Tryz.prog.info? 5).map (fun i => (i.zero, i.size, i.bytes)) = some (some (.int .u8 0), 1, 1) := by kernel_rfl
theorem infoI32 : (Tryz.prog.info? 21).map (fun i => (i.zero, i.size, i.bytes)) = some (some (.int .i32 0), 1, 4) := by kernel_rfl
theorem all_get {f : Int → Bool} {xs : List Int} (h : xs.all f = true) {k : Nat} {x : Int} (hx : xs[k]? = some x) : f x = true := List.all_eq_true.1 h x (List.mem_of_getElem? hx)
theorem laLacks_yes (v : Value) (xs : List Int) (w : World) (h : Row w v (ints .i32 xs)) (hr : R32 xs) (ho : xs.all oneB = true) (hl : xs.length ≤ 1000000) :
    Calls Tryz.prog 133 #[v] w fun e w' => e = .returned (.int .i64 (-1)) ∧ w' = w := by
  obtain ⟨a, b, off, cp, rfl, HC⟩ := h.op
  have HO := Lib.hid ho; clear ho
  go_enter Tryz.func133, Tryz.ntmps133
  go_wp2
  go_loop [6] (fun i => ∃ k : Nat, i = .int .i64 k ∧ k ≤ xs.length) (fun i => xs.length - (intOf i).toNat)
  case atStart => exact ⟨0, rfl, Nat.zero_le _⟩
  case round =>
    obtain ⟨k, rfl, hk⟩ := hrel
    by_cases hlt : k < xs.length
    · obtain ⟨c, HX, rfl, hc⟩ := HC.out k hlt
      replace hc := hc _ (Below.refl _ _)
      have hcr := hr.get HX.out
      have hv := fun w => laHas_any c w hcr.1 hcr.2
      rw [all_get HO.out HX.out] at hv
      have HV := Lib.hid hv
      clear hv
      go_wp2_with (go_at_call 141; refine (HV.out _).mono ?_; rintro e w' ⟨rfl, hw⟩; obtain rfl := hw.symm)
      go_round
      case rel => exact ⟨k + 1, by go_num, by omega⟩
      case measure => simp [intOf]; omega
    · go_wp2
      go_ret
      exact ⟨rfl, rfl⟩
set_option maxRecDepth 100000 in
theorem laLay_any (v : Value) (xs : List Int) (w : World) (h : Row w v (ints .i32 xs)) (hr : R32 xs) (ho : xs.all oneB = true) (hl : xs.length ≤ 1000000) :
    Calls Tryz.prog 118 #[v] w fun e w' => ∃ t, e = .returned (.tuple #[t, .int .i64 0]) ∧ Own w.heap.size 5 w' t (ints .u8 xs) ∧ Below w.heap.size w w' := by
  obtain ⟨a, b, off, cp, rfl, HC⟩ := id h.op
  have hL := laLacks_yes _ xs w h hr ho hl
  have HL := Lib.hid hL; have HO := Lib.hid ho
  clear hL ho
  have hz : (List.replicate xs.length (0 : Int)).length = xs.length := List.length_replicate
  have hst := fun k x (hx : xs[k]? = some x) => fill_step (ys := List.replicate xs.length 0) id hx hz
  have hgt := fun k (hk : k < xs.length) => fill_get (ys := List.replicate xs.length 0) id hk hz
  have hal := (fill_all (xs := xs) (ys := List.replicate xs.length 0) id hz).trans (List.map_id _)
  have HST := Lib.hid hst; have HGT := Lib.hid hgt; have HAL := Lib.hid hal
  clear hst hgt hal
  have HRP := Lib.hid (ints_replicate .u8 xs.length 0)
  generalize List.replicate xs.length (0 : Int) = zs at *
  clear hz
  go_enter Tryz.func118, Tryz.ntmps118
  go_wp2_with (first | (go_at_call 133; refine (HL.out).mono ?_; rintro e w' ⟨rfl, hw⟩; obtain rfl := hw.symm) | (at_make; refine wpList_mkn 22 5 (.int .u8 0) 1 Tryz.underlying22 infoU8 rfl rfl (by omega) _ _ rfl rfl rfl rfl hl ?_; intro w1 ho1 hb1; rw [← HRP.out] at ho1; have HQ0 : Hid (SetQ .u8 5 w.heap.size w.heap.size xs.length xs.length w1 ((xs.take 0).map id ++ zs.drop 0) w1) := ⟨by rw [List.take_zero, List.drop_zero]; exact ho1, ⟨rfl, rfl, rfl, Nat.le_refl _, fun _ _ _ => rfl⟩⟩; clear ho1))
  go_loopw [15] (fun i wr => ∃ k : Nat, i = .int .i64 k ∧ k ≤ xs.length ∧ SetQ .u8 5 w.heap.size w.heap.size xs.length xs.length w1 ((xs.take k).map id ++ zs.drop k) wr ∧ Below w.heap.size w wr) (fun i _ => xs.length - (intOf i).toNat)
  case atStart => exact ⟨0, rfl, Nat.zero_le _, HQ0.out, hb1⟩
  case round =>
    obtain ⟨k, rfl, hk, hq, hb⟩ := hrel
    by_cases hlt : k < xs.length
    · obtain ⟨x, HX, rfl, hc⟩ := HC.out k hlt
      replace hc := hc wr hb
      have hx1 := of_decide_eq_true (all_get HO.out HX.out)
      obtain ⟨y, hy, _⟩ := HGT.out k hlt
      have f := fun j => hq.1.frozen j
      have c := hq.cell hy
      have hs := hq.set k x
      have hst := HST.out k x HX.out
      rw [id] at hst
      rw [hst] at hs
      have hbs : Below w.heap.size w (wr.setCell ⟨w.heap.size, k, none⟩ (.int .u8 x)) := hb.setCell (p := ⟨w.heap.size, k, none⟩) (Nat.le_refl _) _
      have hw8 : IntKind.u8.wrap x = x := by rw [IntKind.wrap_u8]; omega
      have hx0 := hx1.1
      have hx2 := hx1.2
      have HS := Lib.hid hs; have HBS := Lib.hid hbs
      clear hs hbs hst hq hy hx1
      go_wp2
      go_roundw
      case rel => exact ⟨k + 1, by go_num, by omega, HS.out, HBS.out⟩
      case measure => simp [intOf]; omega
    · obtain rfl : k = xs.length := by omega
      have hq1 := hq.1
      rw [HAL.out] at hq1
      clear hq
      go_wp2
      go_ret2
      exact ⟨_, rfl, hq1, hb⟩
set_option maxRecDepth 100000 in
theorem laRead_any (v : Value) (xs : List Int) (w : World) (h : Row w v (ints .u8 xs)) (hg : Rg 0 256 xs) (hl : xs.length ≤ 1000000) :
    Calls Tryz.prog 53 #[v] w fun e w' => ∃ t, e = .returned t ∧ Own w.heap.size 21 w' t (ints .i32 xs) ∧ Below w.heap.size w w' := by
  obtain ⟨a, b, off, cp, rfl, HC⟩ := id h.op
  have hz : (List.replicate xs.length (0 : Int)).length = xs.length := List.length_replicate
  have hst := fun k x (hx : xs[k]? = some x) => fill_step (ys := List.replicate xs.length 0) id hx hz
  have hgt := fun k (hk : k < xs.length) => fill_get (ys := List.replicate xs.length 0) id hk hz
  have hal := (fill_all (xs := xs) (ys := List.replicate xs.length 0) id hz).trans (List.map_id _)
  have HST := Lib.hid hst; have HGT := Lib.hid hgt; have HAL := Lib.hid hal
  clear hst hgt hal
  have HRP := Lib.hid (ints_replicate .i32 xs.length 0)
  generalize List.replicate xs.length (0 : Int) = zs at *
  clear hz
  go_enter Tryz.func53, Tryz.ntmps53
  go_wp2_with (at_make; refine wpList_mkn 26 21 (.int .i32 0) 4 Tryz.underlying26 infoI32 rfl rfl (by omega) _ _ rfl rfl rfl rfl hl ?_; intro w1 ho1 hb1; rw [← HRP.out] at ho1; have HQ0 : Hid (SetQ .i32 21 w.heap.size w.heap.size xs.length xs.length w1 ((xs.take 0).map id ++ zs.drop 0) w1) := ⟨by rw [List.take_zero, List.drop_zero]; exact ho1, ⟨rfl, rfl, rfl, Nat.le_refl _, fun _ _ _ => rfl⟩⟩; clear ho1)
  go_loopw [11] (fun i wr => ∃ k : Nat, i = .int .i64 k ∧ k ≤ xs.length ∧ SetQ .i32 21 w.heap.size w.heap.size xs.length xs.length w1 ((xs.take k).map id ++ zs.drop k) wr ∧ Below w.heap.size w wr) (fun i _ => xs.length - (intOf i).toNat)
  case atStart => exact ⟨0, rfl, Nat.zero_le _, HQ0.out, hb1⟩
  case round =>
    obtain ⟨k, rfl, hk, hq, hb⟩ := hrel
    by_cases hlt : k < xs.length
    · obtain ⟨x, HX, rfl, hc⟩ := HC.out k hlt
      replace hc := hc wr hb
      have hx1 := hg.get HX.out
      obtain ⟨y, hy, _⟩ := HGT.out k hlt
      have f := fun j => hq.1.frozen j
      have c := hq.cell hy
      have hs := hq.set k x
      have hst := HST.out k x HX.out
      rw [id] at hst
      rw [hst] at hs
      have hbs : Below w.heap.size w (wr.setCell ⟨w.heap.size, k, none⟩ (.int .i32 x)) := hb.setCell (p := ⟨w.heap.size, k, none⟩) (Nat.le_refl _) _
      have hw8 : IntKind.i32.wrap x = x := by rw [IntKind.wrap_i32]; omega
      have hx0 := hx1.1
      have hx2 := hx1.2
      have HS := Lib.hid hs; have HBS := Lib.hid hbs
      clear hs hbs hst hq hy hx1
      go_wp2
      go_roundw
      case rel => exact ⟨k + 1, by go_num, by omega, HS.out, HBS.out⟩
      case measure => simp [intOf]; omega
    · obtain rfl : k = xs.length := by omega
      have hq1 := hq.1
      rw [HAL.out] at hq1
      clear hq
      go_wp2
      go_ret
      exact ⟨_, rfl, hq1, hb⟩
theorem map_snoc (f : Int → Int) {xs : List Int} {k : Nat} {x : Int} (h : xs[k]? = some x) : (xs.take (k + 1)).map f = (xs.take k).map f ++ [f x] := by
  rw [List.take_add_one, h, List.map_append]; rfl
theorem map_len (f : Int → Int) (xs : List Int) (k : Nat) : ((xs.take k).map f).length ≤ xs.length := by rw [List.length_map, List.length_take]; omega
theorem latLay_any (v : Value) (xs : List Int) (w : World) (h : Row w v (ints .i32 xs)) (hr : R32 xs) (ho : xs.all nineB = true) (hl : xs.length ≤ 1000000) :
    Calls Tryz.prog 116 #[v] w fun e w' => ∃ t, e = .returned (.tuple #[t, .int .i64 0]) ∧ Own w.heap.size 5 w' t (ints .u8 (xs.map oct9)) ∧ Below w.heap.size w w' := by
  obtain ⟨a, b, off, cp, rfl, HC⟩ := id h.op
  have HO := Lib.hid ho; clear ho
  go_enter Tryz.func116, Tryz.ntmps116
  go_wp2
  go_loopw [4, 11] (fun u i wr => ∃ k : Nat, i = .int .i64 k ∧ k ≤ xs.length ∧ Own w.heap.size 5 wr u (ints .u8 ((xs.take k).map oct9)) ∧ Below w.heap.size w wr) (fun _ i _ => xs.length - (intOf i).toNat)
  case atStart => exact ⟨0, rfl, Nat.zero_le _, Own.nil _ _ _, Below.refl _ _⟩
  case round =>
    obtain ⟨k, rfl, hk, hown, hb⟩ := hrel
    by_cases hlt : k < xs.length
    · obtain ⟨x, HX, rfl, hc⟩ := HC.out k hlt
      replace hc := hc wr hb
      have hcr := hr.get HX.out
      have h9 := all_get HO.out HX.out
      have hP := fun w => latPutV_any x w hcr.1 hcr.2
      rw [h9, show put9 x = oct9 x from if_pos h9] at hP
      have HSN := Lib.hid (map_snoc oct9 HX.out)
      have HLN : Hid ((ints .u8 ((xs.take k).map oct9)).length + (ints .u8 [oct9 x]).length ≤ 1000000000) := by
        have := map_len oct9 xs k; show _ ≤ _; simp only [ints_length, List.length_cons, List.length_nil]; omega
      have HP := Lib.hid hP
      clear hP h9
      generalize oct9 x = y at *
      go_wp2_with (first | (go_at_call 130; refine (HP.out _).mono ?_; rintro e w1 ⟨rfl, hb1⟩; have hb01 := below_trans hb hb1; have hown1 := hown.below hb1) | (at_builtin; refine wpList_app slT_u8 _ _ _ rfl rfl rfl rfl (hown1.alloc _) (Row.ilit [_] [_] rfl (by simp)) HLN.out (by have := hb01.size; simp; omega) ?_; intro t3 w3 hown3 hg3))
      have hb3 := below_own (hb01.alloc hb01.size _) (hown1.alloc _) hg3 (by have := hb01.size; simp; omega) (Nat.le_refl _)
      rw [← ints_append] at hown3
      go_roundw
      case rel => exact ⟨k + 1, by go_num, by omega, by rw [HSN.out]; exact hown3, hb3⟩
      case measure => simp [intOf]; omega
    · obtain rfl : k = xs.length := by omega
      rw [List.take_length] at hown
      go_wp2
      go_ret2
      exact ⟨_, rfl, hown, hb⟩
theorem latRead_any (v : Value) (xs : List Int) (w : World) (h : Row w v (ints .u8 xs)) (hg : Rg 0 256 xs) (hl : xs.length ≤ 1000000) :
    Calls Tryz.prog 51 #[v] w fun e w' => ∃ t, e = .returned t ∧ Own w.heap.size 21 w' t (ints .i32 (xs.map sign9)) ∧ Below w.heap.size w w' := by
  obtain ⟨a, b, off, cp, rfl, HC⟩ := id h.op
  go_enter Tryz.func51, Tryz.ntmps51
  go_wp2
  go_loopw [3, 8] (fun u i wr => ∃ k : Nat, i = .int .i64 k ∧ k ≤ xs.length ∧ Own w.heap.size 21 wr u (ints .i32 ((xs.take k).map sign9)) ∧ Below w.heap.size w wr) (fun _ i _ => xs.length - (intOf i).toNat)
  case atStart => exact ⟨0, rfl, Nat.zero_le _, Own.nil _ _ _, Below.refl _ _⟩
  case round =>
    obtain ⟨k, rfl, hk, hown, hb⟩ := hrel
    by_cases hlt : k < xs.length
    · obtain ⟨x, HX, rfl, hc⟩ := HC.out k hlt
      replace hc := hc wr hb
      have hcr := hg.get HX.out
      have hP := fun w => latSign_any x w hcr.1 hcr.2
      have HSN := Lib.hid (map_snoc sign9 HX.out)
      have HLN : Hid ((ints .i32 ((xs.take k).map sign9)).length + (ints .i32 [sign9 x]).length ≤ 1000000000) := by
        have := map_len sign9 xs k; show _ ≤ _; simp only [ints_length, List.length_cons, List.length_nil]; omega
      have HP := Lib.hid hP
      clear hP
      generalize sign9 x = y at *
      go_wp2_with (first | (go_at_call 76; refine (HP.out _).mono ?_; rintro e w1 ⟨rfl, hb1⟩; have hb01 := below_trans hb hb1; have hown1 := hown.below hb1) | (at_builtin; refine wpList_app slT_i32 _ _ _ rfl rfl rfl rfl (hown1.alloc _) (Row.ilit [_] [_] rfl (by simp)) HLN.out (by have := hb01.size; simp; omega) ?_; intro t3 w3 hown3 hg3))
      have hb3 := below_own (hb01.alloc hb01.size _) (hown1.alloc _) hg3 (by have := hb01.size; simp; omega) (Nat.le_refl _)
      rw [← ints_append] at hown3
      go_roundw
      case rel => exact ⟨k + 1, by go_num, by omega, by rw [HSN.out]; exact hown3, hb3⟩
      case measure => simp [intOf]; omega
    · obtain rfl : k = xs.length := by omega
      rw [List.take_length] at hown
      go_wp2
      go_ret
      exact ⟨_, rfl, hown, hb⟩
end Go.Proofs.YtponfaglflmnkaaGreat
