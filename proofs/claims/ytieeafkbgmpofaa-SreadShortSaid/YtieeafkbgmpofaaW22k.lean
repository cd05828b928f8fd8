/- Walks: laying, by the program. -/
import Derived.Test.YtieeafkbgmpofaaW22j
namespace Go.Proofs.Ytieeafkbgmpofaa
open Go.RowKit
set_option maxHeartbeats 2000000
theorem lstep_any (w0 w : World) (lv : Value) (c : Int) (r O : List Int) (n : Int) (h : Ly w0.heap.size w lv O n) (hr : Row w0 lv (ints .i32 (c :: r))) (hb0 : Below w0.heap.size w0 w) (hg : R32 (c :: r)) (hl : (c :: r).length ≤ 5000) (hO : O.length ≤ 100000) (hn0 : 0 ≤ n) (hn1 : n ≤ 60000) :
    Calls Try.prog 89 #[.pointer (some ⟨w0.heap.size, 0, none⟩)] w fun e w' => (∃ v, e = .returned v) ∧ LyPost w0 c r O n w' := by
  rcases Nat.eq_zero_or_pos (rn (c :: r)) with hm | hm
  · exact lstep0_any w0 w lv c r O n h hr hb0 hg hl hO hm
  · exact lstepN_any w0 w lv c r O n h hr hb0 hg hl hO hn0 hn1 hm
/-- What the loop of all keeps. -/
def LYI (w : World) (xs : List Int) (wr : World) : Prop :=
  ∃ (p : Nat) (lv : Value) (O : List Int) (n : Nat), p ≤ xs.length ∧ Ly w.heap.size wr lv O n ∧ Row w lv (ints .i32 (xs.drop p)) ∧ Below w.heap.size w wr ∧ O.length ≤ 11 * p ∧ n ≤ p ∧
    Hid (lay xs = (O ++ (lay (xs.drop p)).1, n + (lay (xs.drop p)).2))
set_option maxRecDepth 100000 in
theorem oall_any (v : Value) (xs : List Int) (w : World) (h : Row w v (ints .i32 xs)) (hg : R32 xs) (hl : xs.length ≤ 5000) :
    Calls Try.prog 59 #[v] w fun e w' => e = .returned (.pointer (some ⟨w.heap.size, 0, none⟩)) ∧ (∃ lv, Ly w.heap.size w' lv (lay xs).1 (lay xs).2) ∧ Below w.heap.size w w' := by
  obtain ⟨a, bb, off, cp, rfl, _⟩ := id h.op
  go_enter Try.func59, Try.ntmps59
  go_wp2
  go_loopw [] (fun wr => LYI w xs wr) (fun wr => leftOf w.heap.size wr)
  case atStart =>
    refine ⟨0, .slice a xs.length cp, [], 0, Nat.zero_le _, ⟨.slice none 0 0, ?_, ?_, ?_, ?_, Own.nil _ _ _, by simp⟩, h, (Below.refl _ _).alloc (Nat.le_refl _) _, Nat.le_refl _, Nat.le_refl _, ?_⟩
    · rw [cell_new]; rfl
    · rw [cell_new]; rfl
    · rw [cell_new]; rfl
    · intro j; exact frozen_new _ _ _ j
    · show _ = _
      simp
  case round =>
    obtain ⟨p, lv, O, n, hp, hly, hrow, hbr, hO, hn, HS⟩ := hrel
    obtain ⟨ov, q0, q1, q2, qf, qo, qB⟩ := id hly
    rcases hx : xs.drop p with _ | ⟨c, r⟩
    · have hs := HS.out
      rw [hx, lay_nil] at hs
      rw [hx] at hrow
      obtain ⟨al, bl, ol, cl, rfl, _⟩ := id hrow.op
      have HS2 := Lib.hid hs
      clear hs HS hx
      go_wp2
      go_ret
      refine ⟨rfl, ⟨.slice al ([] : List Int).length cl, ?_⟩, hbr⟩
      rw [HS2.out]
      simp only [List.append_nil, Nat.add_zero]
      exact hly
    · have hs := HS.out
      rw [hx, lay_cons, ← hx, List.drop_drop] at hs
      have hlx := congrArg List.length hx
      rw [List.length_drop, List.length_cons] at hlx
      rw [hx] at hrow
      have hsl := lo_len c r
      have hsr := ln_le c r
      have hsn := lk_le c r
      have hpos := lk_pos c r
      rw [List.length_cons] at hsn
      have hgr : R32 (c :: r) := by rw [← hx]; exact fun x hx => hg x (List.mem_of_mem_drop hx)
      have hdr : (c :: r).drop (lk c r) = xs.drop (p + lk c r) := by rw [← hx, List.drop_drop]
      obtain ⟨al, bl, ol, cl, rfl, _⟩ := id hrow.op
      have hst := lstep_any w wr _ c r O n hly hrow hbr hgr (by rw [List.length_cons]; omega) (by omega) (by omega) (by omega)
      have hQ : ∀ w', LyPost w c r O n w' → LYI w xs w' ∧ leftOf w.heap.size w' < leftOf w.heap.size wr := by
        rintro w' ⟨lv', z1, z2, z3⟩
        rw [hdr] at z2
        refine ⟨⟨p + lk c r, lv', _, n + ln c r, by omega, (by rw [Int.natCast_add]; exact z1), z2, z3, by rw [List.length_append]; omega, by omega, ?_⟩, ?_⟩
        · show _ = _
          rw [hs]
          simp only [List.append_assoc, Nat.add_assoc]
        · obtain ⟨_, y0, _⟩ := z1
          rw [leftOf, leftOf, y0, q0, Option.getD_some, Option.getD_some, z2.len, ints_length, List.length_drop]
          simp only [lenOf, List.length_cons]; omega
      generalize LyPost w c r O n = Q at *
      have HST := Lib.hid hst; have HQ := Lib.hid hQ
      have hlen : 0 < (c :: r).length := by simp
      clear hst hQ hs HS hsl hsr hsn hdr hx hlx hpos
      go_wp2_with (go_at_call 89; refine (HST.out).mono ?_; rintro e w2 ⟨⟨v2, rfl⟩, hq2⟩)
      go_roundw
      case rel => exact (HQ.out _ hq2).1
      case measure => exact (HQ.out _ hq2).2
theorem oLay_any (v : Value) (xs : List Int) (w : World) (h : Row w v (ints .i32 xs)) (hg : R32 xs) (hl : xs.length ≤ 5000) :
    Calls Try.prog 27 #[v] w fun e w' => ∃ t, e = .returned (.tuple #[t, .int .i64 (if allSc xs then 0 else 7)]) ∧ Own w.heap.size 5 w' t (ints .u8 (if allSc xs then (lay xs).1 else [])) ∧ Below w.heap.size w w' := by
  have hr := right_any v xs w h hg (by omega)
  cases ha : allSc xs with
  | false =>
    rw [ha] at hr
    have HR := Lib.hid hr; clear hr
    go_enter Try.func27, Try.ntmps27
    go_wp2_with (go_at_call 58; refine (HR.out).mono ?_; rintro e w1 ⟨rfl, hw⟩; obtain rfl := hw)
    go_ret2
    exact ⟨_, ret2 rfl rfl, Own.nil _ _ _, Below.refl _ _⟩
  | true =>
    rw [ha] at hr
    have HR := Lib.hid hr; clear hr
    have hall := fun w' h' => oall_any v xs w' h' hg hl
    rw [if_pos rfl, if_pos rfl]
    generalize (lay xs).1 = L at *
    have HALL := Lib.hid hall; clear hall
    go_enter Try.func27, Try.ntmps27
    go_wp2_with (first | (go_at_call 58; refine (HR.out).mono ?_; rintro e w1 ⟨rfl, hw⟩; obtain rfl := hw) | (go_at_call 59; refine (HALL.out _ h).mono ?_; rintro e w2 ⟨rfl, ⟨lv, ov, q0, q1, q2, qf, qo, qB⟩, hb2⟩))
    go_ret2
    exact ⟨_, ret2 rfl rfl, qo.mono (Nat.le_succ _), hb2⟩
theorem oRuns_any (v : Value) (xs : List Int) (w : World) (h : Row w v (ints .i32 xs)) (hg : R32 xs) (hl : xs.length ≤ 5000) :
    Calls Try.prog 28 #[v] w fun e w' => e = .returned (.int .i64 (lay xs).2) ∧ Below w.heap.size w w' := by
  go_enter Try.func28, Try.ntmps28
  go_wp2_with (go_at_call 59; refine (oall_any _ _ _ h hg hl).mono ?_; rintro e w2 ⟨rfl, ⟨lv, ov, q0, q1, q2, qf, qo, qB⟩, hb2⟩)
  go_ret
  exact ⟨rfl, hb2⟩
end Go.Proofs.Ytieeafkbgmpofaa
