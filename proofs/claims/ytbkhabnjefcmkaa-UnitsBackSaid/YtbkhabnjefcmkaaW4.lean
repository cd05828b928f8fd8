/- Walks: the first that is no scalar value; UTF-16, laying. -/
import Derived.Test.YtbkhabnjefcmkaaW3
namespace Go.Proofs.Ytbkhabnjefcmkaa
open Go.RowKit
set_option maxHeartbeats 400000

/-- int32. -/
def R32 (xs : List Int) : Prop := ∀ x ∈ xs, -2147483648 ≤ x ∧ x ≤ 2147483647
theorem R32.get {xs : List Int} (h : R32 xs) {i : Nat} {x : Int} (hx : xs[i]? = some x) : -2147483648 ≤ x ∧ x ≤ 2147483647 := h x (List.mem_of_getElem? hx)

/-- A call of f enters f. -/
def Fnc (f : Nat) : Prop := ∀ args w, Sem.run Try.prog (callFunc f args) w = .ok (.enter f args) w
theorem indexFunc_any (f : Nat) (hf : Fnc f) (p : Int → Bool) (hp : Hid (∀ c w, -2147483648 ≤ c → c ≤ 2147483647 → Calls Try.prog f #[.int .i32 c] w fun e w' => e = .returned (.bool (p c)) ∧ w = w'))
    (v : Value) (xs : List Int) (w : World) (h : Row w v (ints .i32 xs)) (hr : R32 xs) (hl : xs.length ≤ 1000000000) :
    Calls Try.prog 77 #[v, .func (Fn.func f) #[] #[]] w fun e w' => e = .returned (.int .i64 (idx p xs)) ∧ w = w' := by
  obtain ⟨a, b, off, cap, rfl, HC⟩ := h.op
  clear h
  unfold Fnc at hf
  go_enter Try.func77, Try.ntmps77
  go_wp2
  go_loop [8] (fun i => ∃ k : Nat, k ≤ xs.length ∧ i = .int .i64 k ∧ Hid (∀ y ∈ xs.take k, p y = false)) (fun i => xs.length - (intOf i).toNat)
  case atStart => exact ⟨0, Nat.zero_le _, rfl, fun y hy => by simp at hy⟩
  case round =>
    obtain ⟨k, hk, rfl, hall⟩ := hrel
    by_cases hlt : k < xs.length
    · obtain ⟨x, HX, rfl, hc⟩ := HC.out k hlt
      replace hc := hc w (Below.refl _ _)
      have hxr := hr.get HX.out
      by_cases hs : p x = true
      · go_wp2_with (refine (hp.out _ _ hxr.1 hxr.2).mono ?_; rintro e w' ⟨rfl, rfl⟩)
        go_ret
        exact ⟨ret_int (by rw [idx_at hall.out HX.out hs]), rfl⟩
      · replace hs : p x = false := by simpa using hs
        go_wp2_with (refine (hp.out _ _ hxr.1 hxr.2).mono ?_; rintro e w' ⟨rfl, rfl⟩)
        go_round
        case rel => exact ⟨k + 1, by omega, by go_num, take_succ_all hall.out HX.out hs⟩
        case measure => simp [intOf]; omega
    · go_wp2
      go_ret
      exact ⟨ret_int (by rw [idx_none (fun y hy => hall.out y (by rw [List.take_of_length_le (by omega)]; exact hy))]), rfl⟩

theorem first1_fnc : Fnc 78 := fun args w => by kernel_rfl
theorem first1_any (c : Int) (w : World) (h1 : -2147483648 ≤ c) (h2 : c ≤ 2147483647) :
    Calls Try.prog 78 #[.int .i32 c] w fun e w' => e = .returned (.bool (!scB c)) ∧ w = w' := by
  go_enter Try.func78, Try.ntmps78
  go_wp2_with (go_at_call 65; refine (is_any _ _ h1 h2).mono ?_; rintro e w' ⟨rfl, rfl⟩)
  go_ret
  exact ⟨rfl, rfl⟩
theorem first_any (v : Value) (xs : List Int) (w : World) (h : Row w v (ints .i32 xs)) (hr : R32 xs) (hl : xs.length ≤ 1000000000) :
    Calls Try.prog 73 #[v] w fun e w' => e = .returned (.int .i64 (idx (fun c => !scB c) xs)) ∧ w = w' := by
  go_enter Try.func73, Try.ntmps73
  go_wp2_with (go_at_call 77; refine (indexFunc_any _ first1_fnc _ (fun c w h1 h2 => first1_any c w h1 h2) _ _ _ h hr hl).mono ?_; rintro e w' ⟨rfl, rfl⟩)
  go_ret
  exact ⟨rfl, rfl⟩
/-- All scalar values. -/
def allSc (xs : List Int) : Bool := xs.all scB
theorem idx_allSc (xs : List Int) : (idx (fun c => !scB c) xs == -1) = allSc xs := by
  by_cases h : allSc xs = true
  · rw [idx_none (fun y hy => by simp [List.all_eq_true.1 h y hy]), h]; rfl
  · have hf : allSc xs = false := by simpa using h
    obtain ⟨y, hy, hny⟩ := List.all_eq_false.1 hf
    have : ∃ i, xs.findIdx? (fun c => !scB c) = some i := by
      cases hc : xs.findIdx? (fun c => !scB c) with
      | some i => exact ⟨i, rfl⟩
      | none => rw [List.findIdx?_eq_none_iff] at hc; have := hc y hy; simp at this; exact absurd this hny
    obtain ⟨i, hi⟩ := this
    rw [hf, idx, hi]
    simp
theorem right_any (v : Value) (xs : List Int) (w : World) (h : Row w v (ints .i32 xs)) (hr : R32 xs) (hl : xs.length ≤ 1000000000) :
    Calls Try.prog 64 #[v] w fun e w' => e = .returned (.bool (allSc xs)) ∧ w = w' := by
  go_enter Try.func64, Try.ntmps64
  go_wp2_with (go_at_call 73; refine (first_any _ _ _ h hr hl).mono ?_; rintro e w' ⟨rfl, rfl⟩)
  go_ret
  exact ⟨ret_bool (idx_allSc xs), rfl⟩

theorem uRead_any (v : Value) (xs : List Int) (w : World) (h : Row w v (ints .u16 xs)) (hg : Rg 0 65536 xs) (hl : xs.length ≤ 1000000) :
    Calls Try.prog 22 #[v] w fun e w' => ∃ t, e = .returned t ∧ Own w.heap.size 21 w' t (ints .i32 ((uread xs).map Prod.fst)) ∧ Below w.heap.size w w' := by
  go_enter Try.func22, Try.ntmps22
  go_wp2_with (go_at_call 59; refine (uread_any _ _ _ h hg hl).mono ?_; rintro e w' ⟨t, rfl, ho, hb⟩)
  go_ret
  exact ⟨_, rfl, ho, hb⟩
theorem uRight_any (v : Value) (xs : List Int) (w : World) (h : Row w v (ints .u16 xs)) (hg : Rg 0 65536 xs) (hl : xs.length ≤ 1000000) :
    Calls Try.prog 23 #[v] w fun e w' => e = .returned (.bool (ferr ((uread xs).map Prod.snd) == 0)) ∧ Below w.heap.size w w' := by
  go_enter Try.func23, Try.ntmps23
  go_wp2_with (go_at_call 59; refine (uread_any _ _ _ h hg hl).mono ?_; rintro e w' ⟨t, rfl, ho, hb⟩)
  go_ret
  exact ⟨rfl, hb⟩
/-- Strictly: the text, if there is no error. -/
def strictL (q : Int) (t : List Int) : List Int := if q = 0 then t else []
theorem uStrict_any (v : Value) (xs : List Int) (w : World) (h : Row w v (ints .u16 xs)) (hg : Rg 0 65536 xs) (hl : xs.length ≤ 1000000) :
    Calls Try.prog 16 #[v] w fun e w' => ∃ t, e = .returned (.tuple #[t, .int .i64 (ferr ((uread xs).map Prod.snd))]) ∧
      Own w.heap.size 21 w' t (ints .i32 (strictL (ferr ((uread xs).map Prod.snd)) ((uread xs).map Prod.fst))) ∧ Below w.heap.size w w' := by
  have hx := fun w h => uread_any v xs w h hg hl
  obtain ⟨q, hq⟩ : ∃ q, ferr ((uread xs).map Prod.snd) = q := ⟨_, rfl⟩
  rw [hq] at hx ⊢
  have HX := Lib.hid hx; clear hx hq
  by_cases h0 : q = 0
  · subst h0
    go_enter Try.func16, Try.ntmps16
    go_wp2_with (go_at_call 59; refine (HX.out _ h).mono ?_; rintro e w' ⟨t, rfl, ho, hb⟩)
    go_ret2
    exact ⟨_, rfl, by rw [strictL, if_pos rfl]; exact ho, hb⟩
  · have h1 : (q != 0) = true := by simpa using h0
    have H0 := Lib.hid h0; clear h0
    go_enter Try.func16, Try.ntmps16
    go_wp2_with (go_at_call 59; refine (HX.out _ h).mono ?_; rintro e w' ⟨t, rfl, ho, hb⟩)
    go_ret2
    exact ⟨_, rfl, by rw [strictL, if_neg H0.out]; exact Own.nil _ _ _, hb⟩

/-- The units of a text. -/
def ulayL (xs : List Int) : List Int := xs.flatMap uof
theorem uof_len (c : Int) : (uof c).length ≤ 2 := by unfold uof; split <;> (try split) <;> simp
theorem ulayL_snoc {xs : List Int} {k : Nat} {x : Int} (h : xs[k]? = some x) : ulayL (xs.take (k + 1)) = ulayL (xs.take k) ++ uof x := by
  simp [ulayL, List.take_add_one, h]
theorem ulayL_len (xs : List Int) : (ulayL xs).length ≤ 2 * xs.length := by
  induction xs with
  | nil => simp [ulayL]
  | cons x xs ih => have := uof_len x; simp only [ulayL, List.flatMap_cons, List.length_append, List.length_cons] at ih ⊢; omega
end Go.Proofs.Ytbkhabnjefcmkaa
