/- Walks: wide texts: laying, by the program. -/
import Derived.Test.YtgfdebijcpdhbaaW45c
namespace Go.Proofs.Ytgfdebijcpdhbaa
open Go.RowKit
set_option maxHeartbeats 1000000
theorem putc_any (wd : Int) (hw : wd = 2 ∨ wd = 4) (big : Bool) (p q : Nat) (w : World) (B : Nat) (v : Value) (O : List Int) (n : Int) (hp : w.cell? ⟨p, 0, none⟩ = some (.int .i64 wd)) (hq : w.cell? ⟨q, 0, none⟩ = some (.bool big)) (ho : Own B 5 w v (ints .u8 O)) (hB : B ≤ w.heap.size) (h0 : 0 ≤ n) (h1 : n < 4294967296) (hl : O.length ≤ 1000000) :
    Calls Try.prog 37 #[v, .int .u32 n, .pointer (some ⟨p, 0, none⟩), .pointer (some ⟨q, 0, none⟩)] w fun e w' => ∃ t, e = .returned t ∧ Own B 5 w' t (ints .u8 (O ++ grp wd big n)) ∧ Below B w w' := by
  rcases hw with rfl | rfl
  · exact putc2_any big p q w B v O n hp hq ho hB h0 h1 hl
  · exact putc4_any big p q w B v O n hp hq ho hB h0 h1 hl
set_option maxRecDepth 100000 in
theorem wideLayY_any (wd : Int) (big : Bool) (v : Value) (xs : List Int) (w : World) (hw : wd = 2 ∨ wd = 4) (h : Row w v (ints .i32 xs)) (hg : R32 xs) (hs : allSc xs = true) (hl : xs.length ≤ 10000) :
    Calls Try.prog 8 #[.int .i64 wd, .bool big, v] w fun e w' => ∃ t, e = .returned (.tuple #[t, .int .i64 0]) ∧ Own w.heap.size 5 w' t (ints .u8 (wideL wd big xs)) ∧ Below w.heap.size w w' := by
  have hN := fun w' (hb : Below w.heap.size w w') => numbers_any wd v xs w' hw (h.below hb) hs (by omega)
  have hR := fun w' (hb : Below w.heap.size w w') => right_any v xs w' (h.below hb) hg (by omega)
  rw [hs] at hR
  have hwb : (wd == 2 || wd == 4) = true := by rcases hw with rfl | rfl <;> rfl
  have hI := fun w => is_two wd w
  rw [hwb] at hI
  have hnr := (wnum_rng (wd := wd) hs).1
  have hnl := wnum_len wd xs
  have hP := fun p q w' B v O n => putc_any wd hw big p q w' B v O n
  have hPUT := put_any wd big w
  rw [wideL]
  generalize wnum wd xs = L at *
  have HN := Lib.hid hN; have HR := Lib.hid hR; have HI := Lib.hid hI; have HNR := Lib.hid hnr; have HP := Lib.hid hP; have HPUT := Lib.hid hPUT
  have HLL : Hid (L.length ≤ 20000) := by show _ ≤ _; omega
  clear hN hR hI hwb hnr hnl hP hPUT hs
  have hb := Below.refl w.heap.size w
  obtain ⟨a, b, off, cp, rfl, _⟩ := id h.op
  go_enter Try.func8, Try.ntmps8
  go_wp2_with (first | (go_at_call 22; refine (HI.out _).mono ?_; rintro e w1 ⟨rfl, hw1⟩; obtain rfl := hw1.symm) | (go_at_call 23; refine (HR.out _ hb).mono ?_; rintro e w2 ⟨rfl, hw2⟩; obtain rfl := hw2) | (go_at_call 24; refine (HPUT.out).mono ?_; rintro e w3 ⟨rfl, hcp, hcq, hb3⟩) | (go_at_call 25; refine (HN.out _ hb3).mono ?_; rintro e w4 ⟨t4, rfl, ho4, hb4⟩; have r4 := ho4.row; clear ho4; obtain ⟨a4, b4, o4, c4, rfl, C4⟩ := r4.op))
  have hcp4 : w4.cell? ⟨w.heap.size, 0, none⟩ = some (.int .i64 wd) := by rw [← hcp]; exact hb4.cell (World.block_lt_of_cell? _ _ hcp)
  have hcq4 : w4.cell? ⟨w.heap.size + 1, 0, none⟩ = some (.bool big) := by rw [← hcq]; exact hb4.cell (World.block_lt_of_cell? _ _ hcq)
  have hb34 := below_trans hb3 hb4
  clear hcp hcq r4
  go_loopw [8, 27] (fun u i wr => ∃ k : Nat, i = .int .i64 k ∧ k ≤ L.length ∧ Own w4.heap.size 5 wr u (ints .u8 ((L.take k).flatMap (grp wd big))) ∧ Below w4.heap.size w4 wr) (fun _ i _ => L.length - (intOf i).toNat)
  case atStart => exact ⟨0, rfl, Nat.zero_le _, Own.nil _ _ _, Below.refl _ _⟩
  case round =>
    obtain ⟨k, rfl, hk, hown, hbr⟩ := hrel
    have hll := HLL.out
    by_cases hlt : k < L.length
    · obtain ⟨n, HX, rfl, hc⟩ := C4.out k hlt
      replace hc := hc _ hbr
      have hnr := HNR.out n (List.mem_of_getElem? HX.out)
      have hcp5 : wr.cell? ⟨w.heap.size, 0, none⟩ = some (.int .i64 wd) := by rw [← hcp4]; exact hbr.cell (World.block_lt_of_cell? _ _ hcp4)
      have hcq5 : wr.cell? ⟨w.heap.size + 1, 0, none⟩ = some (.bool big) := by rw [← hcq4]; exact hbr.cell (World.block_lt_of_cell? _ _ hcq4)
      have hfl := flat_len (grp wd big) (grp_len wd big) (L.take k)
      rw [List.length_take] at hfl
      have hcall := HP.out w.heap.size (w.heap.size + 1) wr w4.heap.size _ _ n hcp5 hcq5 hown hbr.size hnr.1 hnr.2 (by omega)
      have hsn := flat_snoc (f := grp wd big) HX.out
      rw [← hsn] at hcall
      have HC := Lib.hid hcall
      clear hcp5 hcq5 hfl hcall hsn hnr
      go_wp2_with (go_at_call 37; refine (HC.out).mono ?_; rintro e w5 ⟨t5, rfl, ho5, hb5⟩)
      go_roundw
      case rel => exact ⟨k + 1, by go_num, by omega, ho5, hbr.trans hb5⟩
      case measure => simp [intOf]; omega
    · obtain rfl : k = L.length := by omega
      rw [List.take_length] at hown
      have HO := Lib.hid (hown.mono hb34.size)
      have HB := Lib.hid (below_trans hb34 hbr)
      clear hown
      go_wp2
      go_ret2
      exact ⟨_, ret2 rfl rfl, HO.out, HB.out⟩
def wideE (wd : Int) (xs : List Int) : Int := if wd = 2 ∨ wd = 4 then (if allSc xs then 0 else 7) else 1
def wideO (wd : Int) (big : Bool) (xs : List Int) : List Int := if wd = 2 ∨ wd = 4 then (if allSc xs then wideL wd big xs else []) else []
set_option maxRecDepth 100000 in
theorem wideLay_any (wd : Int) (big : Bool) (v : Value) (xs : List Int) (w : World) (h : Row w v (ints .i32 xs)) (hg : R32 xs) (hl : xs.length ≤ 10000) :
    Calls Try.prog 8 #[.int .i64 wd, .bool big, v] w fun e w' => ∃ t, e = .returned (.tuple #[t, .int .i64 (wideE wd xs)]) ∧ Own w.heap.size 5 w' t (ints .u8 (wideO wd big xs)) ∧ Below w.heap.size w w' := by
  have hb := Below.refl w.heap.size w
  rcases Decidable.em (wd = 2 ∨ wd = 4) with hw | hw
  · cases hs : allSc xs with
    | true =>
      rw [wideE, wideO, if_pos hw, if_pos hw, hs, if_pos rfl, if_pos rfl]
      exact wideLayY_any wd big v xs w hw h hg hs hl
    | false =>
      rw [wideE, wideO, if_pos hw, if_pos hw, hs]
      have hR := right_any v xs w h hg (by omega)
      rw [hs] at hR
      have hwb : (wd == 2 || wd == 4) = true := by rcases hw with rfl | rfl <;> rfl
      have hI := fun w => is_two wd w
      rw [hwb] at hI
      have HR := Lib.hid hR; have HI := Lib.hid hI
      clear hR hI hwb hw hs
      go_enter Try.func8, Try.ntmps8
      go_wp2_with (first | (go_at_call 22; refine (HI.out _).mono ?_; rintro e w1 ⟨rfl, hw1⟩; obtain rfl := hw1.symm) | (go_at_call 23; refine (HR.out).mono ?_; rintro e w2 ⟨rfl, hw2⟩; obtain rfl := hw2))
      go_ret2
      exact ⟨_, ret2 rfl rfl, Own.nil _ _ _, hb⟩
  · rw [wideE, wideO, if_neg hw, if_neg hw]
    have hwb : (wd == 2 || wd == 4) = false := by
      rw [beq_false_of_ne (by omega), beq_false_of_ne (by omega)]; rfl
    have hI := fun w => is_two wd w
    rw [hwb] at hI
    have HI := Lib.hid hI
    clear hI hwb hw
    go_enter Try.func8, Try.ntmps8
    go_wp2_with (first | (go_at_call 22; refine (HI.out _).mono ?_; rintro e w1 ⟨rfl, hw1⟩; obtain rfl := hw1.symm))
    go_ret2
    exact ⟨_, ret2 rfl rfl, Own.nil _ _ _, hb⟩
end Go.Proofs.Ytgfdebijcpdhbaa
