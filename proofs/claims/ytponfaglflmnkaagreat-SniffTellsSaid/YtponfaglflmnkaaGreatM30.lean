/- Walks: guesses, by the program: controls, the mark, what might be. (laid together by program out of single texts). -/
import Derived.Deep.MidRow
import Derived.Laws.Cover3
import Derived.Test.YtponfaglflmnkaaGreatM29
namespace Go.Proofs.YtponfaglflmnkaaGreat
open Go.RowKit
set_option maxHeartbeats 4000000
set_option maxRecDepth 100000
theorem sControls_any (v : Value) (xs : List Int) (w : World) (h : Row w v (ints .u8 xs)) (hg : Rg 0 256 xs) (hl : xs.length ≤ 1000000) :
    Calls Tryz.prog 11 #[v] w fun e w' => e = .returned (.int .i64 (ctN xs : Nat)) ∧ Below w.heap.size w w' := by
  have hC := fun w' h' => ocount1_any v xs w' h' hg hl
  have h9 := fun v2 w' h1 h2 => bcount_any v v2 xs 9 w' h1 h2 hg (by omega) (by omega)
  have h13 := fun v2 w' h1 h2 => bcount_any v v2 xs 13 w' h1 h2 hg (by omega) (by omega)
  have h10 := fun v2 w' h1 h2 => bcount_any v v2 xs 10 w' h1 h2 hg (by omega) (by omega)
  have hs := ctl_split xs
  have hb0 : xs.countP isCtl ≤ xs.length := List.countP_le_length
  rw [hs] at hC hb0
  clear hs
  generalize ctN xs = N at *
  generalize xs.count 9 = n9 at *
  generalize xs.count 13 = n13 at *
  generalize xs.count 10 = n10 at *
  have HC := Lib.hid hC; have H9 := Lib.hid h9; have H13 := Lib.hid h13; have H10 := Lib.hid h10
  clear hC h9 h13 h10
  have kc := fun (w : World) (C : Array Value) (n c : Nat) => Lib.run_convert_bytes_const (P := Tryz.prog) w 22 5 C n c Tryz.underlying22 Tryz.underlying5
  go_enter Tryz.func11, Tryz.ntmps11
  go_wp2_with (go_at_call 32; refine (HC.out _ h).mono ?_; rintro e w0 ⟨rfl, hw⟩; obtain rfl := hw.symm)
  go_loopw [3, 11] (fun n i wr => ((i = .int .i64 0 ∧ n = .int .i64 ((N + n9 + n13 + n10 : Nat) : Int)) ∨ (i = .int .i64 1 ∧ n = .int .i64 ((N + n13 + n10 : Nat) : Int)) ∨ (i = .int .i64 2 ∧ n = .int .i64 ((N + n10 : Nat) : Int)) ∨ (i = .int .i64 3 ∧ n = .int .i64 ((N : Nat) : Int))) ∧ Hid (Row wr (.slice (some ⟨w.heap.size, 0, none⟩) 3 3) (ints .u8 [9, 13, 10])) ∧ Below w.heap.size w wr) (fun _ i _ => 3 - (intOf i).toNat)
  case atStart => exact ⟨.inl ⟨rfl, rfl⟩, Row.flit [9, 13, 10] _ rfl (by simp), below_alloc _ _⟩
  case round =>
    obtain ⟨hk, HR, hb⟩ := hrel
    have hrow := h.below hb
    rcases hk with ⟨rfl, rfl⟩ | ⟨rfl, rfl⟩ | ⟨rfl, rfl⟩ | ⟨rfl, rfl⟩
    · have hc := (hidC HR.out 0 (by simp) (x := 9) rfl).out
      go_wp2_with (go_at_call 33; refine (H9.out _ _ (hrow.alloc _) (by first | exact Row.ilit [_] [_] rfl (by simp) | exact Row.flit [_] [_] rfl (by simp))).mono ?_; rintro e w' ⟨rfl, hw⟩; obtain rfl := hw.symm)
      go_roundw
      case rel => exact ⟨.inr (.inl ⟨by go_num, by go_num⟩), HR.out.alloc _, hb.alloc hb.size _⟩
      case measure => simp [intOf]
    · have hc := (hidC HR.out 1 (by simp) (x := 13) rfl).out
      go_wp2_with (go_at_call 33; refine (H13.out _ _ (hrow.alloc _) (by first | exact Row.ilit [_] [_] rfl (by simp) | exact Row.flit [_] [_] rfl (by simp))).mono ?_; rintro e w' ⟨rfl, hw⟩; obtain rfl := hw.symm)
      go_roundw
      case rel => exact ⟨.inr (.inr (.inl ⟨by go_num, by go_num⟩)), HR.out.alloc _, hb.alloc hb.size _⟩
      case measure => simp [intOf]
    · have hc := (hidC HR.out 2 (by simp) (x := 10) rfl).out
      go_wp2_with (go_at_call 33; refine (H10.out _ _ (hrow.alloc _) (by first | exact Row.ilit [_] [_] rfl (by simp) | exact Row.flit [_] [_] rfl (by simp))).mono ?_; rintro e w' ⟨rfl, hw⟩; obtain rfl := hw.symm)
      go_roundw
      case rel => exact ⟨.inr (.inr (.inr ⟨by go_num, by go_num⟩)), HR.out.alloc _, hb.alloc hb.size _⟩
      case measure => simp [intOf]
    · go_wp2
      go_ret
      exact ⟨rfl, hb⟩
theorem sMid_any (c : Int) (w : World) :
    Calls Tryz.prog 44 #[.int .u8 c] w fun e w' => e = .returned (.bool (midB c)) ∧ w' = w := by
  unfold midB
  by_cases h1 : 128 ≤ c
  · by_cases h2 : c < 160
    · rw [decide_eq_true ⟨h1, h2⟩]
      go_enter Tryz.func44, Tryz.ntmps44
      go_wp2
      go_ret
      exact ⟨rfl, rfl⟩
    · rw [decide_eq_false (by omega)]
      have h3 : 160 ≤ c := by omega
      go_enter Tryz.func44, Tryz.ntmps44
      go_wp2
      go_ret
      exact ⟨rfl, rfl⟩
  · rw [decide_eq_false (by omega)]
    have h3 : c < 128 := by omega
    go_enter Tryz.func44, Tryz.ntmps44
    go_wp2
    go_ret
    exact ⟨rfl, rfl⟩
theorem sLatin_any (v : Value) (xs : List Int) (w : World) (h : Row w v (ints .u8 xs)) (hl : xs.length ≤ 1000000) :
    Calls Tryz.prog 22 #[v] w fun e w' => e = .returned (.bool (xs.all latB)) ∧ w' = w := by
  obtain ⟨a, b, off, cp, rfl, HC⟩ := h.op
  obtain ⟨q, HQ⟩ : ∃ q, Hid (xs.all latB = q) := ⟨_, rfl⟩
  rw [HQ.out]
  go_enter Tryz.func22, Tryz.ntmps22
  go_wp2
  go_loopw [7] (fun i wr => ∃ k : Nat, i = .int .i64 k ∧ k ≤ xs.length ∧ Hid (∀ y ∈ xs.take k, latB y = true) ∧ wr = w) (fun i _ => xs.length - (intOf i).toNat)
  case atStart => exact ⟨0, rfl, Nat.zero_le _, (fun y hy => by simp at hy : ∀ y ∈ xs.take 0, latB y = true), rfl⟩
  case round =>
    obtain ⟨k, rfl, hk, HK, hw0⟩ := hrel
    obtain rfl := hw0.symm
    by_cases hlt : k < xs.length
    · obtain ⟨c, HX, rfl, hc⟩ := HC.out k hlt
      replace hc := hc _ (Below.refl _ _)
      have no : latB c = false → q = false := fun hf => by
        rw [← HQ.out]
        cases hx : xs.all latB with
        | false => rfl
        | true => have := List.all_eq_true.1 hx c (List.mem_of_getElem? HX.out); rw [hf] at this; cases this
      have NO := Lib.hid no; clear no
      have hm := fun w => sMid_any c w
      obtain ⟨M, HM⟩ : ∃ M, Hid (midB c = M) := ⟨_, rfl⟩
      rw [HM.out] at hm
      have HI := Lib.hid hm; clear hm
      by_cases h0 : c = 0
      · obtain rfl := NO.out (by subst h0; decide)
        subst h0
        go_wp2
        go_ret
        exact ⟨rfl, rfl⟩
      · have b0 : (c == 0) = false := beq_false_of_ne h0
        clear h0
        rcases M with _ | _
        · have ht : Hid (latB c = true) := by show _ = _; rw [latB, b0, HM.out]; rfl
          go_wp2_with (first | (go_at_call 44; refine (HI.out _).mono ?_; rintro e w' ⟨rfl, hw⟩; obtain rfl := hw.symm))
          go_roundw
          case rel => exact ⟨k + 1, by go_num, by omega, take_succ_all HK.out HX.out ht.out, by first | rfl | trivial⟩
          case measure => simp [intOf]; omega
        · obtain rfl := NO.out (by rw [latB, b0, HM.out]; rfl)
          go_wp2_with (first | (go_at_call 44; refine (HI.out _).mono ?_; rintro e w' ⟨rfl, hw⟩; obtain rfl := hw.symm))
          go_ret
          exact ⟨rfl, rfl⟩
    · have hq : q = true := by
        rw [← HQ.out]
        have := HK.out
        rw [List.take_of_length_le (by omega)] at this
        exact List.all_eq_true.2 this
      subst hq
      go_wp2
      go_ret
      exact ⟨rfl, rfl⟩
theorem sWindows_any (v : Value) (xs : List Int) (w : World) (h : Row w v (ints .u8 xs)) (hg : Rg 0 256 xs) (hl : xs.length ≤ 1000000) :
    Calls Tryz.prog 23 #[v] w fun e w' => e = .returned (.bool (xs.all winB)) ∧ Below w.heap.size w w' := by
  obtain ⟨a, b, off, cp, rfl, HC⟩ := h.op
  obtain ⟨q, HQ⟩ : ∃ q, Hid (xs.all winB = q) := ⟨_, rfl⟩
  rw [HQ.out]
  go_enter Tryz.func23, Tryz.ntmps23
  go_wp2
  go_loopw [7] (fun i wr => ∃ k : Nat, i = .int .i64 k ∧ k ≤ xs.length ∧ Hid (∀ y ∈ xs.take k, winB y = true) ∧ Below w.heap.size w wr) (fun i _ => xs.length - (intOf i).toNat)
  case atStart => exact ⟨0, rfl, Nat.zero_le _, (fun y hy => by simp at hy : ∀ y ∈ xs.take 0, winB y = true), Below.refl _ _⟩
  case round =>
    obtain ⟨k, rfl, hk, HK, hb⟩ := hrel
    by_cases hlt : k < xs.length
    · obtain ⟨c, HX, rfl, hc⟩ := HC.out k hlt
      replace hc := hc _ hb
      have no : winB c = false → q = false := fun hf => by
        rw [← HQ.out]
        cases hx : xs.all winB with
        | false => rfl
        | true => have := List.all_eq_true.1 hx c (List.mem_of_getElem? HX.out); rw [hf] at this; cases this
      have NO := Lib.hid no; clear no
      have hm := fun w => sMid_any c w
      have hcr := hg.get HX.out
      have hx := fun v w' h' => cExact_any 4 v [c] w' h' (by intro y hy; simp at hy; omega) (by simp)
      obtain ⟨M, HM⟩ : ∃ M, Hid (midB c = M) := ⟨_, rfl⟩
      obtain ⟨X, HX4⟩ : ∃ X, Hid (cexB 4 [c] = X) := ⟨_, rfl⟩
      rw [HM.out] at hm
      rw [HX4.out] at hx
      have HI := Lib.hid hm; have HE := Lib.hid hx; clear hm hx
      by_cases h0 : c = 0
      · obtain rfl := NO.out (by subst h0; rfl)
        subst h0
        go_wp2
        go_ret
        exact ⟨rfl, hb⟩
      · have b0 : (c == 0) = false := beq_false_of_ne h0
        clear h0
        rcases M with _ | _
        · have ht : Hid (winB c = true) := by show _ = _; rw [winB, b0, HM.out]; rfl
          go_wp2_with (first | (go_at_call 44; refine (HI.out _).mono ?_; rintro e w' ⟨rfl, hw⟩; obtain rfl := hw.symm))
          go_roundw
          case rel => exact ⟨k + 1, by go_num, by omega, take_succ_all HK.out HX.out ht.out, by first | exact hb | trivial⟩
          case measure => simp [intOf]; omega
        · rcases X with _ | _
          · obtain rfl := NO.out (by rw [winB, b0, HM.out, HX4.out]; rfl)
            go_wp2_with (first | (go_at_call 44; refine (HI.out _).mono ?_; rintro e w' ⟨rfl, hw⟩; obtain rfl := hw.symm) | (go_at_call 45; refine (HE.out _ _ (by first | exact Row.ilit [_] [_] rfl (by simp) | exact Row.flit [_] [_] rfl (by simp))).mono ?_; rintro e w' ⟨rfl, hb2⟩))
            go_ret
            exact ⟨rfl, below_trans (hb.alloc hb.size _) hb2⟩
          · have ht : Hid (winB c = true) := by show _ = _; rw [winB, b0, HM.out, HX4.out]; rfl
            go_wp2_with (first | (go_at_call 44; refine (HI.out _).mono ?_; rintro e w' ⟨rfl, hw⟩; obtain rfl := hw.symm) | (go_at_call 45; refine (HE.out _ _ (by first | exact Row.ilit [_] [_] rfl (by simp) | exact Row.flit [_] [_] rfl (by simp))).mono ?_; rintro e w' ⟨rfl, hb2⟩))
            go_roundw
            case rel => exact ⟨k + 1, by go_num, by omega, take_succ_all HK.out HX.out ht.out, below_trans (hb.alloc hb.size _) hb2⟩
            case measure => simp [intOf]; omega
    · have hq : q = true := by
        rw [← HQ.out]
        have := HK.out
        rw [List.take_of_length_le (by omega)] at this
        exact List.all_eq_true.2 this
      subst hq
      go_wp2
      go_ret
      exact ⟨rfl, hb⟩
end Go.Proofs.YtponfaglflmnkaaGreat
