/- Walks: Sort; a text laid, of any signs up to a hundred. · Walks: an empty text laid; any text laid, up to a hundred signs. (laid together by program out of single texts). -/
import Derived.Test.YtfhfhfadebcbfaaM23
import Derived.Test.YtfhfhfadebcbfaaM25
namespace Go.Proofs.Ytfhfhfadebcbfaa
open Go.RowKit
set_option maxHeartbeats 16000000
set_option maxRecDepth 100000
theorem sort_any (xs : List Int) (hl : xs.length ≤ 100) : SortTo xs (xs.mergeSort (fun x y => decide (x ≤ y))) := by
  intro B g cap w h
  obtain ⟨n, hn⟩ : ∃ n, xs.length = n := ⟨_, rfl⟩
  have hlt := h.1.lt g rfl
  have hS : SO B g n cap w xs.toArray := by
    refine ⟨?_, by simpa using hn⟩
    rw [← hn]
    simpa using h
  have hlim : Sort.bitsLen n ≤ 62 := (Sort.bitsLen_le_iff n 62).2 (by omega)
  have hp := pdq_any B g n cap (by omega) (n + 1) 0 n (Sort.bitsLen n) xs.toArray w (by omega) hS (by omega) (by omega) (Nat.le_refl _) (by omega) (.inl rfl)
  have e : (Sort.pdq Sort.ltInt xs.toArray 0 n (Sort.bitsLen n) true true).toList = xs.mergeSort (fun x y => decide (x ≤ y)) := by
    rw [← Sort.sortInt xs]
    unfold Sort.sort
    rw [show xs.toArray.size = n by simpa using hn]
  rw [hn] at h ⊢
  have HP := Lib.hid hp
  have HE := Lib.hid e
  have HB := Lib.hid (fun w => len_any n (by omega) w)
  have hwu : IntKind.u64.wrap (n : Int) = (n : Int) := by rw [IntKind.wrap_u64]; omega
  generalize Sort.bitsLen n = lim at *
  clear hp e hS hlim
  go_enter Try.func36, Try.ntmps36
  go_wp2_with (first | ((go_at_call 54; refine (HB.out _).mono ?_; rintro e w' ⟨rfl, hw⟩; obtain rfl := hw.symm)) | ((go_at_call 53; refine (HP.out).mono ?_; rintro e w1 ⟨rfl, hO1, hg1⟩)))
  go_end0
  refine ⟨rfl, ?_, hg1⟩
  have := hO1.1
  rwa [HE.out] at this
end Go.Proofs.Ytfhfhfadebcbfaa
namespace Go.Proofs.Ytfhfhfadebcbfaa
open Go.RowKit
set_option maxHeartbeats 16000000
set_option maxRecDepth 100000
theorem rclone0_any (v : Value) (w : World) (h : Row w v (ints .i32 [])) :
    Calls Try.prog 35 #[v] w fun e w' => ∃ t, e = .returned t ∧ Own w.heap.size 21 w' t (ints .i32 []) ∧ Below w.heap.size w w' := by
  obtain ⟨a, b, off, cap, rfl, hlc, hm, ha, _⟩ := id h
  have hnil := fun w a n c n' c' => Lib.run_eql_slice_nil (P := Try.prog) w 24 21 a n c n' c' Try.underlying24
  cases a with
  | none =>
    go_enter Try.func35, Try.ntmps35
    go_wp2
    go_ret
    exact ⟨_, rfl, Own.nil _ _ _, Below.refl _ _⟩
  | some a =>
    go_enter Try.func35, Try.ntmps35
    go_wp2_with (at_builtin; refine wpList_app slT_i32 _ _ _ rfl rfl rfl rfl (Own.ilit (k := .i32) [] [] rfl (Nat.le_refl _) (by simp)) (h.alloc _) (by simp [ints]) (by simp) ?_; intro t2 w2 hown2 hg2)
    go_ret
    exact ⟨_, rfl, hown2, below_app (Below.refl _ _) (below_alloc _ _) (Own.ilit (k := .i32) [] [] rfl (Nat.le_refl _) (by simp)) hg2⟩
theorem isort0 (a : Option Addr) (c : Nat) (w : World) : Calls Try.prog 59 #[.slice a 0 c, .int .i64 0, .int .i64 0] w fun e w' => e = .returned (.tuple #[]) ∧ w' = w := by
  go_enter Try.func59, Try.ntmps59
  go_wp2
  go_loopw [6] (fun iv wr => iv = .int .i64 1 ∧ wr = w) (fun _ _ => 0)
  case atStart => exact ⟨rfl, rfl⟩
  case round =>
    obtain ⟨rfl, rfl⟩ := hrel
    go_wp2
    go_end0
    exact ⟨rfl, rfl⟩
theorem pdq0 (a : Option Addr) (c : Nat) (l : Int) (w : World) : Calls Try.prog 53 #[.slice a 0 c, .int .i64 0, .int .i64 0, .int .i64 l] w fun e w' => e = .returned (.tuple #[]) ∧ w' = w := by
  go_enter Try.func53, Try.ntmps53
  go_wp2
  go_loopw [1, 2, 3, 8, 9] (fun s1 s2 s3 s8 s9 wr => s1 = .int .i64 0 ∧ s2 = .int .i64 0 ∧ s3 = .int .i64 l ∧ s8 = .bool true ∧ s9 = .bool true ∧ wr = w) (fun _ _ _ _ _ _ => 0)
  case atStart => exact ⟨rfl, rfl, rfl, rfl, rfl, rfl⟩
  case round =>
    obtain ⟨rfl, rfl, rfl, rfl, rfl, rfl⟩ := hrel
    go_wp2_with ((go_at_call 59; refine (isort0 _ _ _).mono ?_; rintro e w1 ⟨rfl, hw⟩; obtain rfl := hw.symm))
    (try simp only [Exit.inBlock, Exit.then]); refine bodyPost_ret (results_none rfl _ _ _) rfl ?_
    exact ⟨rfl, rfl⟩
theorem sort0 (a : Option Addr) (c : Nat) (w : World) : Calls Try.prog 36 #[.slice a 0 c] w fun e w' => e = .returned (.tuple #[]) ∧ w' = w := by
  have HB := Lib.hid (fun w => len_any 0 (by omega) w)
  go_enter Try.func36, Try.ntmps36
  go_wp2_with (first | ((go_at_call 54; refine (HB.out _).mono ?_; rintro e w' ⟨rfl, hw⟩; obtain rfl := hw.symm)) | ((go_at_call 53; refine (pdq0 _ _ _ _).mono ?_; rintro e w1 ⟨rfl, hw⟩; obtain rfl := hw.symm)))
  go_end0
  exact ⟨rfl, rfl⟩
theorem comp0 (a : Option Addr) (c : Nat) (w : World) : Calls Try.prog 38 #[.slice a 0 c] w fun e w' => e = .returned (.slice a 0 c) ∧ w' = w := by
  go_enter Try.func38, Try.ntmps38
  go_wp2
  go_ret
  exact ⟨rfl, rfl⟩
theorem delf0 (a : Option Addr) (c : Nat) (w : World) (h : Row w (.slice a 0 c) (ints .i32 [])) : Calls Try.prog 37 #[.slice a 0 c, .func (Fn.func 39) #[] #[]] w fun e w' => e = .returned (.slice a 0 c) ∧ w' = w := by
  have hI := indexFunc_any _ lay1_fnc _ (fun c w _ _ => lay1_any c w) (.slice a 0 c) [] w h (by intro x hx; cases hx) (by simp)
  have hq : idx (fun c => decide (c < 128)) [] = -1 := rfl
  rw [hq] at hI
  have HI := Lib.hid hI
  clear hI hq
  go_enter Try.func37, Try.ntmps37
  go_wp2_with (go_at_call 55; refine (HI.out).mono ?_; rintro e w' ⟨rfl, hw⟩; obtain rfl := hw)
  go_ret
  exact ⟨rfl, rfl⟩
theorem lay_bad (v : Value) (xs : List Int) (w : World) (h : Row w v (ints .i32 xs)) (hr : R32 xs) (hl : xs.length ≤ 1000) (ho : allSc xs = false) :
    Calls Try.prog 18 #[v] w fun e w' => e = .returned (.tuple #[.slice none 0 0, .int .i64 7]) ∧ w' = w := by
  obtain ⟨a, b, off, cap, rfl, HC⟩ := h.op
  have hlong : ¬ ((1000 : Int) < xs.length) := by omega
  have hright := right_any (.slice a xs.length cap) xs w h hr (by omega)
  rw [ho] at hright
  have HRT := Lib.hid hright
  clear hright ho
  go_enter Try.func18, Try.ntmps18
  go_wp2_with ((go_at_call 33; refine (HRT.out).mono ?_; rintro e w' ⟨rfl, hw⟩; obtain rfl := hw))
  go_ret2
  exact ⟨rfl, rfl⟩
theorem lay_nil (v : Value) (w : World) (h : Row w v (ints .i32 [])) :
    Calls Try.prog 18 #[v] w fun e w' => ∃ t, e = .returned (.tuple #[t, .int .i64 0]) ∧ Own w.heap.size 5 w' t (ints .u8 []) ∧ Below w.heap.size w w' := by
  obtain ⟨a, b, off, cap, rfl, HC⟩ := h.op
  have hright := right_any (.slice a 0 cap) [] w h (by intro x hx; cases hx) (by simp)
  rw [show allSc [] = true from rfl] at hright
  have HRT := Lib.hid hright
  have hpl := fun wx h9 => plain_any (.slice a 0 cap) [] wx h9 (by intro x hx; cases hx) (by simp)
  rw [show plP [] = [] from rfl] at hpl
  have HPL := Lib.hid hpl
  have HCL := Lib.hid (fun wx h9 => rclone0_any (.slice a 0 cap) wx h9)
  clear hright hpl
  go_enter Try.func18, Try.ntmps18
  go_wp2_with (first | (go_at_call 33; refine (HRT.out).mono ?_; rintro e w' ⟨rfl, hw⟩; obtain rfl := hw) | (go_at_call 34; refine (HPL.out _ h).mono ?_; rintro e w1 ⟨t1, rfl, ho1, hb1⟩; obtain ⟨a1, b1, o1, c1, rfl, _⟩ := Row.op ho1.row))
  have hb2 := hb1.alloc hb1.size (.cells #[.int .i64 128, .int .i64 72, .int .i64 0, .bool false] 45)
  have ho2 := ho1.alloc (.cells #[.int .i64 128, .int .i64 72, .int .i64 0, .bool false] 45)
  have hst2 := Own.mono (Rq.new 45 w1 (.int .i64 128) (.int .i64 72) (.int .i64 0) (.bool false) ⟨rfl, rfl, rfl, rfl⟩) hb1.size
  generalize w1.alloc (.cells #[.int .i64 128, .int .i64 72, .int .i64 0, .bool false] 45) = W2 at hst2 ho2 hb2 ⊢
  refine (HCL.out _ (h.below hb2)).mono ?_
  rintro e W3 ⟨t3, rfl, ho3, hb3⟩
  obtain ⟨a3, b3, o3, c3, rfl, _⟩ := Row.op ho3.row
  have hr3 := ho3.row
  have HDF := Lib.hid (delf0 a3 c3 W3 hr3)
  go_wp2_with (first | ((go_at_call 36; refine (sort0 _ _ _).mono ?_; rintro e w' ⟨rfl, hw⟩; obtain rfl := hw.symm)) | ((go_at_call 38; refine (comp0 _ _ _).mono ?_; rintro e w' ⟨rfl, hw⟩; obtain rfl := hw.symm)) | ((go_at_call 37; refine (HDF.out).mono ?_; rintro e w' ⟨rfl, hw⟩; obtain rfl := hw.symm)))
  go_loopw [4, 41] (fun ov iv wr => ov = .slice a1 0 c1 ∧ iv = .int .i64 0 ∧ wr = W3) (fun _ _ _ => 0)
  case atStart => exact ⟨rfl, rfl, rfl⟩
  case round =>
    obtain ⟨rfl, rfl, rfl⟩ := hrel
    go_wp2
    go_ret2
    exact ⟨_, rfl, ho2.below hb3, below_trans hb2 hb3⟩
theorem layP_nil : layP [] (sgP []) = ([], 0) := by
  unfold sgP
  simp [ddL]
  decide +kernel
theorem lay_all (v : Value) (xs : List Int) (w : World) (h : Row w v (ints .i32 xs)) (hr : R32 xs) (hl : xs.length ≤ 100) :
    Calls Try.prog 18 #[v] w fun e w' => ∃ t, e = .returned (.tuple #[t, .int .i64 (layP xs (sgP xs)).2]) ∧ Own w.heap.size 5 w' t (ints .u8 (layP xs (sgP xs)).1) ∧ Below w.heap.size w w' := by
  by_cases hn : xs = []
  · subst hn
    rw [layP_nil]
    exact lay_nil v w h
  cases ho : allSc xs with
  | false =>
    have e : layP xs (sgP xs) = ([], 7) := by unfold layP; rw [if_neg (by omega), if_pos ho]
    rw [e]
    refine (lay_bad v xs w h hr (by omega) ho).mono ?_
    rintro e w' ⟨rfl, rfl⟩
    exact ⟨_, rfl, Own.nil _ _ _, Below.refl _ _⟩
  | true =>
    have hm : ∀ x, x ∈ ddL (xs.mergeSort (fun x y => decide (x ≤ y))) ↔ x ∈ xs := fun x => by rw [(ddL_sorted _ (srt_pw xs)).2 x, List.mem_mergeSort]
    have hml : (xs.mergeSort (fun x y => decide (x ≤ y))).length = xs.length := List.length_mergeSort _
    refine lay_any v xs _ _ w h hr hn (by omega) (sort_any xs hl) (comp_any _ (by omega)) hml (Nat.le_trans (ddL_len _) (by omega)) fun x hx => ?_
    have := scB_iff.1 (List.all_eq_true.1 ho x ((hm x).1 hx))
    omega
end Go.Proofs.Ytfhfhfadebcbfaa
