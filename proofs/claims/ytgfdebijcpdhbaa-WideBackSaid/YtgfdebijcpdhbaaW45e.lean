/- Walks: wide texts: the other order, by the program. -/
import Derived.Test.YtgfdebijcpdhbaaW45d
import Derived.Test.YtgfdebijcpdhbaaP45b
namespace Go.Proofs.Ytgfdebijcpdhbaa
open Go.RowKit
set_option maxHeartbeats 1000000
theorem len2 {S : List Int} (h : 2 ≤ S.length) : ∃ x y S', S = x :: y :: S' := by
  match S, h with
  | x :: y :: S', _ => exact ⟨x, y, S', rfl⟩
set_option maxRecDepth 100000 in
theorem oSwap2_any (v : Value) (xs : List Int) (w : World) (h : Row w v (ints .u8 xs)) (hl : xs.length ≤ 1000000) :
    Calls Try.prog 16 #[.int .i64 2, v] w fun e w' => ∃ t, e = .returned t ∧ Own w.heap.size 5 w' t (ints .u8 (sw2 xs)) ∧ Below w.heap.size w w' := by
  obtain ⟨a, b, off, cp, rfl, _⟩ := id h.op
  have HCL := Lib.hid (oclone_any _ xs w h hl)
  have hI := fun w => is_two 2 w
  rw [show (((2 : Int) == 2) || ((2 : Int) == 4)) = true from rfl] at hI
  have HI := Lib.hid hI; clear hI
  cases xs with
  | nil =>
    go_enter Try.func16, Try.ntmps16
    go_wp2_with (first | (go_at_call 33; refine (HCL.out).mono ?_; rintro e w1 ⟨t1, rfl, ho1, hb1⟩; have r1 := ho1.row; obtain ⟨a1, b1, o1, c1, rfl, _⟩ := id r1.op) | (go_at_call 22; refine (HI.out _).mono ?_; rintro e w2 ⟨rfl, hw2⟩; obtain rfl := hw2.symm))
    go_loopw [6] (fun i wr => i = .int .i64 0 ∧ wr = w1) (fun _ _ => 0)
    case atStart => exact ⟨rfl, rfl⟩
    case round =>
      obtain ⟨rfl, hw9⟩ := hrel
      obtain rfl := hw9.symm
      go_wp2
      go_ret
      exact ⟨_, rfl, ho1, hb1⟩
  | cons x0 r0 =>
    have hne : 0 < (ints .u8 (x0 :: r0)).length := by simp [ints]
    generalize x0 :: r0 = xs at *
    go_enter Try.func16, Try.ntmps16
    go_wp2_with fail
    refine HCL.out.mono ?_
    rintro e w1 ⟨t1, rfl, ho1, hb1⟩
    obtain ⟨g, cap, rfl, hgB, hgl⟩ := ho1.form hne
    rw [ints_length] at ho1 ⊢
    go_wp2_with ((go_at_call 22; refine (HI.out _).mono ?_; rintro e w2 ⟨rfl, hw2⟩; obtain rfl := hw2.symm))
    go_loopw [6] (fun i wr => ∃ P S : List Int, i = .int .i64 P.length ∧ Hid (sw2 xs = P ++ sw2 S) ∧ Hid (P.length + S.length = xs.length) ∧ RevQ w.heap.size g xs.length cap w1 (P ++ S) wr) (fun i _ => xs.length - (intOf i).toNat)
    case atStart => exact ⟨[], xs, rfl, rfl, Nat.zero_add _, ⟨ho1, ⟨rfl, rfl, rfl, Nat.le_refl _, fun _ _ _ => rfl⟩⟩⟩
    case round =>
      obtain ⟨P, S, rfl, HS, HLEN, hq⟩ := hrel
      have hlen := HLEN.out
      rcases Nat.lt_or_ge S.length 2 with hS | hS
      · have HF : Hid (sw2 xs = P ++ S) := (by show _ = _; rw [HS.out, sw2_short hS])
        have hout : ¬ ((P.length : Int) + 2 ≤ xs.length) := by omega
        have HB : Hid (Below w.heap.size w wr) := hb1.grown hq.2 hb1.size (fun k hk => by cases hk; exact hgB)
        have HQ := Lib.hid hq.1
        clear hq hS
        go_wp2
        go_ret
        exact ⟨_, rfl, by rw [HF.out]; exact HQ.out, HB.out⟩
      · obtain ⟨x, y, S', rfl⟩ : ∃ x y S', S = x :: y :: S' := len2 hS
        simp only [List.length_cons] at hlen hS
        have hin : (P.length : Int) + 2 ≤ xs.length := by omega
        have hin2 : (P.length : Int) ≤ (P.length : Int) + 2 := by omega
        have hin3 : (P.length : Int) + 2 ≤ cap := by
          obtain ⟨_, _, _, _, hv, hc9, _⟩ := hq.1.row.int
          simp only [Value.slice.injEq] at hv
          have h8 := hv.2.1
          have h9 := hv.2.2
          omega
        have hin4 : ((P.length : Int) + 2).toNat = P.length + 2 := by omega
        have hin5 : ¬ (cap = P.length) := by omega
        have hin6 : P.length + 2 - P.length = 2 := by omega
        have HREV := Lib.hid (rev2_any wr w.heap.size g xs.length cap P.length (cap - P.length) P S' x y hq.1 rfl)
        have HQ := Lib.hid hq
        clear hq hS
        go_wp2_with fail
        refine HREV.out.mono ?_
        rintro e w5 ⟨⟨_, rfl⟩, hq5⟩
        have HQ5 : Hid (RevQ w.heap.size g xs.length cap w1 ((P ++ [y, x]) ++ S') w5) := by
          refine ⟨?_, grown_trans HQ.out.2 hq5.2⟩
          rw [List.append_assoc]; exact hq5.1
        clear hq5
        go_wp2
        go_roundw
        case rel => exact ⟨P ++ [y, x], S', iv (by rw [List.length_append]; simp), (by show _ = _; rw [HS.out, sw2, List.append_assoc]; rfl), (by show _ = _; rw [List.length_append]; simp; omega), HQ5.out⟩
        case measure => simp [intOf]; omega
theorem len4 {S : List Int} (h : 4 ≤ S.length) : ∃ x y z t S', S = x :: y :: z :: t :: S' := by
  match S, h with
  | x :: y :: z :: t :: S', _ => exact ⟨x, y, z, t, S', rfl⟩
set_option maxRecDepth 100000 in
theorem oSwap4_any (v : Value) (xs : List Int) (w : World) (h : Row w v (ints .u8 xs)) (hl : xs.length ≤ 1000000) :
    Calls Try.prog 16 #[.int .i64 4, v] w fun e w' => ∃ t, e = .returned t ∧ Own w.heap.size 5 w' t (ints .u8 (sw4 xs)) ∧ Below w.heap.size w w' := by
  obtain ⟨a, b, off, cp, rfl, _⟩ := id h.op
  have HCL := Lib.hid (oclone_any _ xs w h hl)
  have hI := fun w => is_two 4 w
  rw [show (((4 : Int) == 2) || ((4 : Int) == 4)) = true from rfl] at hI
  have HI := Lib.hid hI; clear hI
  cases xs with
  | nil =>
    go_enter Try.func16, Try.ntmps16
    go_wp2_with (first | (go_at_call 33; refine (HCL.out).mono ?_; rintro e w1 ⟨t1, rfl, ho1, hb1⟩; have r1 := ho1.row; obtain ⟨a1, b1, o1, c1, rfl, _⟩ := id r1.op) | (go_at_call 22; refine (HI.out _).mono ?_; rintro e w2 ⟨rfl, hw2⟩; obtain rfl := hw2.symm))
    go_loopw [6] (fun i wr => i = .int .i64 0 ∧ wr = w1) (fun _ _ => 0)
    case atStart => exact ⟨rfl, rfl⟩
    case round =>
      obtain ⟨rfl, hw9⟩ := hrel
      obtain rfl := hw9.symm
      go_wp2
      go_ret
      exact ⟨_, rfl, ho1, hb1⟩
  | cons x0 r0 =>
    have hne : 0 < (ints .u8 (x0 :: r0)).length := by simp [ints]
    generalize x0 :: r0 = xs at *
    go_enter Try.func16, Try.ntmps16
    go_wp2_with fail
    refine HCL.out.mono ?_
    rintro e w1 ⟨t1, rfl, ho1, hb1⟩
    obtain ⟨g, cap, rfl, hgB, hgl⟩ := ho1.form hne
    rw [ints_length] at ho1 ⊢
    go_wp2_with ((go_at_call 22; refine (HI.out _).mono ?_; rintro e w2 ⟨rfl, hw2⟩; obtain rfl := hw2.symm))
    go_loopw [6] (fun i wr => ∃ P S : List Int, i = .int .i64 P.length ∧ Hid (sw4 xs = P ++ sw4 S) ∧ Hid (P.length + S.length = xs.length) ∧ RevQ w.heap.size g xs.length cap w1 (P ++ S) wr) (fun i _ => xs.length - (intOf i).toNat)
    case atStart => exact ⟨[], xs, rfl, rfl, Nat.zero_add _, ⟨ho1, ⟨rfl, rfl, rfl, Nat.le_refl _, fun _ _ _ => rfl⟩⟩⟩
    case round =>
      obtain ⟨P, S, rfl, HS, HLEN, hq⟩ := hrel
      have hlen := HLEN.out
      rcases Nat.lt_or_ge S.length 4 with hS | hS
      · have HF : Hid (sw4 xs = P ++ S) := (by show _ = _; rw [HS.out, sw4_short hS])
        have hout : ¬ ((P.length : Int) + 4 ≤ xs.length) := by omega
        have HB : Hid (Below w.heap.size w wr) := hb1.grown hq.2 hb1.size (fun k hk => by cases hk; exact hgB)
        have HQ := Lib.hid hq.1
        clear hq hS
        go_wp2
        go_ret
        exact ⟨_, rfl, by rw [HF.out]; exact HQ.out, HB.out⟩
      · obtain ⟨x, y, z, t, S', rfl⟩ : ∃ x y z t S', S = x :: y :: z :: t :: S' := len4 hS
        simp only [List.length_cons] at hlen hS
        have hin : (P.length : Int) + 4 ≤ xs.length := by omega
        have hin2 : (P.length : Int) ≤ (P.length : Int) + 4 := by omega
        have hin3 : (P.length : Int) + 4 ≤ cap := by
          obtain ⟨_, _, _, _, hv, hc9, _⟩ := hq.1.row.int
          simp only [Value.slice.injEq] at hv
          have h8 := hv.2.1
          have h9 := hv.2.2
          omega
        have hin4 : ((P.length : Int) + 4).toNat = P.length + 4 := by omega
        have hin5 : ¬ (cap = P.length) := by omega
        have hin6 : P.length + 4 - P.length = 4 := by omega
        have HREV := Lib.hid (rev4_any wr w.heap.size g xs.length cap P.length (cap - P.length) P S' x y z t hq.1 rfl)
        have HQ := Lib.hid hq
        clear hq hS
        go_wp2_with fail
        refine HREV.out.mono ?_
        rintro e w5 ⟨⟨_, rfl⟩, hq5⟩
        have HQ5 : Hid (RevQ w.heap.size g xs.length cap w1 ((P ++ [t, z, y, x]) ++ S') w5) := by
          refine ⟨?_, grown_trans HQ.out.2 hq5.2⟩
          rw [List.append_assoc]; exact hq5.1
        clear hq5
        go_wp2
        go_roundw
        case rel => exact ⟨P ++ [t, z, y, x], S', iv (by rw [List.length_append]; simp), (by show _ = _; rw [HS.out, sw4, List.append_assoc]; rfl), (by show _ = _; rw [List.length_append]; simp; omega), HQ5.out⟩
        case measure => simp [intOf]; omega
end Go.Proofs.Ytgfdebijcpdhbaa
