/- Walks: scalar values. · Walks: the first that is no scalar value. (laid together by program out of single texts). -/
import Derived.Test.YtfhfhfadebcbfaaRows
import Derived.Test.YtfhfhfadebcbfaaM1
import Derived.Test.YtfhfhfadebcbfaaM2
import Derived.Test.YtfhfhfadebcbfaaM6
namespace Go.Proofs.Ytfhfhfadebcbfaa
open Go.RowKit
set_option maxHeartbeats 400000

theorem surrogate_any (c : Int) (w : World) :
    Calls Try.prog 45 #[.int .i32 c] w fun e w' => e = .returned (.bool (surB c)) ∧ w = w' := by
  go_enter Try.func45, Try.ntmps45
  go_wp2
  all_goals (go_ret; exact ⟨ret_bool (by rw [surB, eq_comm]; simp; try omega), rfl⟩)
theorem is_any (c : Int) (w : World) (h1 : -2147483648 ≤ c) (h2 : c ≤ 2147483647) :
    Calls Try.prog 24 #[.int .i32 c] w fun e w' => e = .returned (.bool (scB c)) ∧ w = w' := by
  go_enter Try.func24, Try.ntmps24
  go_wp2_with (go_at_call 45; refine (surrogate_any _ _).mono ?_; rintro e w' ⟨rfl, rfl⟩)
  all_goals (go_ret; exact ⟨ret_bool (by rw [Bool.eq_iff_iff]; simp [scB, surB]; omega), rfl⟩)
theorem rsur_any (c : Int) (w : World) :
    Calls Try.prog 48 #[.int .i32 c] w fun e w' => e = .returned (.bool (surB c)) ∧ w = w' := by
  go_enter Try.func48, Try.ntmps48
  go_wp2
  all_goals (go_ret; exact ⟨ret_bool (by rw [Bool.eq_iff_iff]; simp [surB]; try omega), rfl⟩)
theorem ris_any (c : Int) (w : World) :
    Calls Try.prog 27 #[.int .i32 c] w fun e w' => e = .returned (.bool (scB c)) ∧ w = w' := by
  go_enter Try.func27, Try.ntmps27
  go_wp2_with (go_at_call 48; refine (rsur_any _ _).mono ?_; rintro e w' ⟨rfl, rfl⟩)
  all_goals (go_ret; exact ⟨ret_bool (by rw [Bool.eq_iff_iff]; simp [scB, surB]; omega), rfl⟩)

theorem rfirst_any (v : Value) (xs : List Int) (w : World) (h : Row w v (ints .i32 xs)) (hl : xs.length ≤ 1000000000) :
    Calls Try.prog 19 #[v] w fun e w' => e = .returned (.int .i64 (idx (fun c => !scB c) xs)) ∧ w = w' := by
  obtain ⟨a, b, off, cap, rfl, hc, hm, ha, hcell⟩ := h.int
  clear hc hm
  have HC := Lib.hid hcell; clear hcell
  go_enter Try.func19, Try.ntmps19
  go_wp2
  go_loop [3] (fun i => ∃ k : Nat, k ≤ xs.length ∧ i = .int .i64 k ∧ Hid (∀ y ∈ xs.take k, scB y = true)) (fun i => xs.length - (intOf i).toNat)
  case atStart => exact ⟨0, Nat.zero_le _, rfl, fun y hy => by simp at hy⟩
  case round =>
    obtain ⟨k, hk, rfl, hall⟩ := hrel
    by_cases hlt : k < xs.length
    · obtain ⟨x, hx⟩ : ∃ x, xs[k]? = some x := ⟨_, List.getElem?_eq_getElem hlt⟩
      have HX := Lib.hid hx; clear hx
      have hc := HC.out k x HX.out
      obtain rfl : a = some ⟨b, off, none⟩ := by
        rcases ha with h | ⟨h, _⟩
        · exact h
        · subst h; simp at hlt
      clear ha
      by_cases hs : scB x = true
      · go_wp2_with (go_at_call 27; refine (ris_any _ _).mono ?_; rintro e w' ⟨rfl, rfl⟩)
        go_round
        case rel => exact ⟨k + 1, by omega, by go_num, take_succ_all hall.out HX.out hs⟩
        case measure => simp [intOf]; omega
      · have hs' : scB x = false := by simpa using hs
        clear hs
        go_wp2_with (go_at_call 27; refine (ris_any _ _).mono ?_; rintro e w' ⟨rfl, rfl⟩)
        go_ret
        exact ⟨ret_int (by rw [idx_at (p := fun c => !scB c) (k := k) (fun y hy => by simp [hall.out y hy]) HX.out (by simp [hs'])]), rfl⟩
    · go_wp2
      go_ret
      exact ⟨ret_int (by rw [idx_none (fun y hy => by simp [hall.out y (by rw [List.take_of_length_le (by omega)]; exact hy)])]), rfl⟩
end Go.Proofs.Ytfhfhfadebcbfaa
namespace Go.Proofs.Ytfhfhfadebcbfaa
open Go.RowKit
set_option maxHeartbeats 400000

/-- int32. -/
def R32 (xs : List Int) : Prop := ∀ x ∈ xs, -2147483648 ≤ x ∧ x ≤ 2147483647
theorem R32.get {xs : List Int} (h : R32 xs) {i : Nat} {x : Int} (hx : xs[i]? = some x) : -2147483648 ≤ x ∧ x ≤ 2147483647 := h x (List.mem_of_getElem? hx)

/-- A call of f enters f. -/
def Fnc (f : Nat) : Prop := ∀ args w, Sem.run Try.prog (callFunc f args) w = .ok (.enter f args) w
theorem indexFunc_any (f : Nat) (hf : Fnc f) (p : Int → Bool) (hp : Hid (∀ c w, -2147483648 ≤ c → c ≤ 2147483647 → Calls Try.prog f #[.int .i32 c] w fun e w' => e = .returned (.bool (p c)) ∧ w = w'))
    (v : Value) (xs : List Int) (w : World) (h : Row w v (ints .i32 xs)) (hr : R32 xs) (hl : xs.length ≤ 1000000000) :
    Calls Try.prog 55 #[v, .func (Fn.func f) #[] #[]] w fun e w' => e = .returned (.int .i64 (idx p xs)) ∧ w = w' := by
  obtain ⟨a, b, off, cap, rfl, HC⟩ := h.op
  clear h
  unfold Fnc at hf
  go_enter Try.func55, Try.ntmps55
  go_wp2
  go_loop [8] (fun i => ∃ k : Nat, k ≤ xs.length ∧ i = .int .i64 k ∧ Hid (∀ y ∈ xs.take k, p y = false)) (fun i => xs.length - (intOf i).toNat)
  case atStart => exact ⟨0, Nat.zero_le _, rfl, fun y hy => by simp at hy⟩
  case round =>
    obtain ⟨k, hk, rfl, hall⟩ := hrel
    by_cases hlt : k < xs.length
    · obtain ⟨x, HX, rfl, hc⟩ := HC.out k hlt
      replace hc := hc w (Below.refl _ _)
      have hxr := hr.get HX.out
      by_cases hs : p x = true
      · go_wp2_with (refine (hp.out _ _ hxr.1 hxr.2).mono ?_; rintro e w' ⟨rfl, rfl⟩)
        go_ret
        exact ⟨ret_int (by rw [idx_at hall.out HX.out hs]), rfl⟩
      · replace hs : p x = false := by simpa using hs
        go_wp2_with (refine (hp.out _ _ hxr.1 hxr.2).mono ?_; rintro e w' ⟨rfl, rfl⟩)
        go_round
        case rel => exact ⟨k + 1, by omega, by go_num, take_succ_all hall.out HX.out hs⟩
        case measure => simp [intOf]; omega
    · go_wp2
      go_ret
      exact ⟨ret_int (by rw [idx_none (fun y hy => hall.out y (by rw [List.take_of_length_le (by omega)]; exact hy))]), rfl⟩

theorem first1_fnc : Fnc 58 := fun args w => by kernel_rfl
theorem first1_any (c : Int) (w : World) (h1 : -2147483648 ≤ c) (h2 : c ≤ 2147483647) :
    Calls Try.prog 58 #[.int .i32 c] w fun e w' => e = .returned (.bool (!scB c)) ∧ w = w' := by
  go_enter Try.func58, Try.ntmps58
  go_wp2_with (go_at_call 24; refine (is_any _ _ h1 h2).mono ?_; rintro e w' ⟨rfl, rfl⟩)
  go_ret
  exact ⟨rfl, rfl⟩
theorem first_any (v : Value) (xs : List Int) (w : World) (h : Row w v (ints .i32 xs)) (hr : R32 xs) (hl : xs.length ≤ 1000000000) :
    Calls Try.prog 52 #[v] w fun e w' => e = .returned (.int .i64 (idx (fun c => !scB c) xs)) ∧ w = w' := by
  go_enter Try.func52, Try.ntmps52
  go_wp2_with (go_at_call 55; refine (indexFunc_any _ first1_fnc _ (fun c w h1 h2 => first1_any c w h1 h2) _ _ _ h hr hl).mono ?_; rintro e w' ⟨rfl, rfl⟩)
  go_ret
  exact ⟨rfl, rfl⟩
/-- All scalar values. -/
def allSc (xs : List Int) : Bool := xs.all scB
theorem idx_allSc (xs : List Int) : (idx (fun c => !scB c) xs == -1) = allSc xs := by
  by_cases h : allSc xs = true
  · rw [idx_none (fun y hy => by simp [List.all_eq_true.1 h y hy]), h]; rfl
  · have hf : allSc xs = false := by simpa using h
    obtain ⟨y, hy, hny⟩ := List.all_eq_false.1 hf
    have : ∃ i, xs.findIdx? (fun c => !scB c) = some i := by
      cases hc : xs.findIdx? (fun c => !scB c) with
      | some i => exact ⟨i, rfl⟩
      | none => rw [List.findIdx?_eq_none_iff] at hc; have := hc y hy; simp at this; exact absurd this hny
    obtain ⟨i, hi⟩ := this
    rw [hf, idx, hi]
    simp
theorem right_any (v : Value) (xs : List Int) (w : World) (h : Row w v (ints .i32 xs)) (hr : R32 xs) (hl : xs.length ≤ 1000000000) :
    Calls Try.prog 33 #[v] w fun e w' => e = .returned (.bool (allSc xs)) ∧ w = w' := by
  go_enter Try.func33, Try.ntmps33
  go_wp2_with (go_at_call 52; refine (first_any _ _ _ h hr hl).mono ?_; rintro e w' ⟨rfl, rfl⟩)
  go_ret
  exact ⟨ret_bool (idx_allSc xs), rfl⟩

theorem idx_neg (xs : List Int) (p : Int → Bool) : -1 ≤ idx p xs := by unfold idx; split <;> omega
theorem allSc_idx {xs : List Int} : allSc xs = decide (idx (fun c => !scB c) xs < 0) := by
  rw [← idx_allSc]; have := idx_neg xs (fun c => !scB c)
  rw [Bool.eq_iff_iff, beq_iff_eq, decide_eq_true_iff]; omega

theorem scB_32 {xs : List Int} (h : allSc xs = true) : R32 xs := fun x hx => by
  have := scB_iff.1 (List.all_eq_true.1 h x hx); omega
theorem idx_none_sc {xs : List Int} (h : allSc xs = true) : idx (fun c => !scB c) xs = -1 := idx_none (fun y hy => by simp [List.all_eq_true.1 h y hy])

theorem WF.u16 {xs : List Int} (h : WF .u16 xs) : Rg 0 65536 xs := fun x hx => wf_u16 (h x hx)
theorem WF.u8 {xs : List Int} (h : WF .u8 xs) : Rg 0 256 xs := fun x hx => wf_u8 (h x hx)
theorem WF.i32 {xs : List Int} (h : WF .i32 xs) : R32 xs := fun x hx => wf_i32 (h x hx)
theorem WF.b {xs : List Int} (h : WF .u8 xs) : Rg 0 256 xs := fun x hx => wf_u8 (h x hx)
theorem WF.get {k : IntKind} {xs : List Int} (h : WF k xs) {i : Nat} {x : Int} (hx : xs[i]? = some x) : (Lit.int k x).wf = true := h x (List.mem_of_getElem? hx)
end Go.Proofs.Ytfhfhfadebcbfaa
