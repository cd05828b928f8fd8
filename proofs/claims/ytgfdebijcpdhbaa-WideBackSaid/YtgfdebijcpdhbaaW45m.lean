/- Walks: wide texts: which mark, by the program. -/
import Derived.Test.YtgfdebijcpdhbaaW45l
namespace Go.Proofs.Ytgfdebijcpdhbaa
open Go.RowKit
set_option maxHeartbeats 1000000
theorem mark_lists : wideO 4 true [65279] = [0, 0, 254, 255] ∧ wideO 4 false [65279] = [255, 254, 0, 0] ∧ wideO 2 true [65279] = [254, 255] ∧ wideO 2 false [65279] = [255, 254] ∧ wideE 4 [65279] = 0 ∧ wideE 2 [65279] = 0 := by decide +kernel
/-- One trial: the mark is laid, and the octets begin with it, or not. -/
def MkC (wd : Int) (big : Bool) (m : List Int) : Prop := ∀ w : World, Calls Try.prog 10 #[.int .i64 wd, .bool big, .slice none 0 0] w fun e w' => ∃ t, e = .returned (.tuple #[t, .int .i64 0]) ∧ Row w' t (ints .u8 m) ∧ Below w.heap.size w w'
theorem mkc (wd : Int) (big : Bool) (m : List Int) (h1 : wideO wd big [65279] = m) (h2 : wideE wd [65279] = 0) : MkC wd big m := fun w => by
  have h := marked_any wd big _ [] w (Row.nil w) (fun x hx => by cases hx) (by simp)
  rw [h1, h2] at h
  refine h.mono ?_
  rintro e w' ⟨t, rfl, ho, hb⟩
  exact ⟨t, rfl, ho.row, hb⟩
def HpC (v : Value) (xs m : List Int) (q : Bool) : Prop := ∀ (v2 : Value) (w : World), Row w v (ints .u8 xs) → Row w v2 (ints .u8 m) → Calls Try.prog 35 #[v, v2] w fun e w' => e = .returned (.bool q) ∧ w' = w
/-- The inner loop's two trials. -/
def MIn (w wr : World) (qa qb : Bool) (j : Nat) (wq : World) : Prop := j ≤ 2 ∧ (1 ≤ j → qa = false) ∧ (2 ≤ j → qb = false) ∧ Below wr.heap.size wr wq ∧ Below w.heap.size w wq
set_option maxRecDepth 100000 in
theorem wMark_any (v : Value) (xs : List Int) (w : World) (h : Row w v (ints .u8 xs)) (hg : Rg 0 256 xs) (hl : xs.length ≤ 100000) :
    Calls Try.prog 18 #[v] w fun e w' => e = .returned (.tuple #[.int .i64 (markN xs), .bool (markB xs), .int .i64 (markN xs)]) ∧ Below w.heap.size w w' := by
  obtain ⟨l1, l2, l3, l4, l5, l6⟩ := mark_lists
  have M1 : MkC 4 true [0, 0, 254, 255] := mkc _ _ _ l1 l5
  have M2 : MkC 4 false [255, 254, 0, 0] := mkc _ _ _ l2 l5
  have M3 : MkC 2 true [254, 255] := mkc _ _ _ l3 l6
  have M4 : MkC 2 false [255, 254] := mkc _ _ _ l4 l6
  have r1 : Rg 0 256 [0, 0, 254, 255] := by intro x hx; simp at hx; omega
  have r2 : Rg 0 256 [255, 254, 0, 0] := by intro x hx; simp at hx; omega
  have r3 : Rg 0 256 [254, 255] := by intro x hx; simp at hx; omega
  have r4 : Rg 0 256 [255, 254] := by intro x hx; simp at hx; omega
  have H1 : HpC v xs [0, 0, 254, 255] (mk4b xs) := fun v2 w a b => hasPre_any v v2 xs _ w a b hg r1 (by omega) (by simp)
  have H2 : HpC v xs [255, 254, 0, 0] (mk4l xs) := fun v2 w a b => hasPre_any v v2 xs _ w a b hg r2 (by omega) (by simp)
  have H3 : HpC v xs [254, 255] (mk2b xs) := fun v2 w a b => hasPre_any v v2 xs _ w a b hg r3 (by omega) (by simp)
  have H4 : HpC v xs [255, 254] (mk2l xs) := fun v2 w a b => hasPre_any v v2 xs _ w a b hg r4 (by omega) (by simp)
  rw [markN, markB]
  generalize mk4b xs = q1 at *
  generalize mk4l xs = q2 at *
  generalize mk2b xs = q3 at *
  generalize mk2l xs = q4 at *
  clear r1 r2 r3 r4 l1 l2 l3 l4 l5 l6
  obtain ⟨a, b, off, cp, rfl, _⟩ := id h.op
  have c40 : (w.alloc (.cells #[.int .i64 4, .int .i64 2] 3)).cell? ⟨w.heap.size, 0, none⟩ = some (.int .i64 4) := by rw [cell_of_row _ _ 0 _ _ (0, 0) (heap_alloc_new w _)]; rfl
  have c41 : (w.alloc (.cells #[.int .i64 4, .int .i64 2] 3)).cell? ⟨w.heap.size, 1, none⟩ = some (.int .i64 2) := by rw [cell_of_row _ _ 1 _ _ (0, 0) (heap_alloc_new w _)]; rfl
  have hb0 := below_alloc w (.cells #[.int .i64 4, .int .i64 2] 3)
  have C40 := Lib.hid c40; have C41 := Lib.hid c41; have HB0 := Lib.hid hb0
  clear c40 c41 hb0
  go_enter Try.func18, Try.ntmps18
  go_wp2_with fail
  generalize w.alloc (.cells #[.int .i64 4, .int .i64 2] 3) = w1 at *
  have hb0 := HB0.out
  go_loopw [13] (fun i wr => ∃ k : Nat, i = .int .i64 k ∧ k ≤ 2 ∧ Hid (1 ≤ k → q1 = false ∧ q2 = false) ∧ Hid (2 ≤ k → q3 = false ∧ q4 = false) ∧ Below w1.heap.size w1 wr) (fun i _ => 2 - (intOf i).toNat)
  case atStart => exact ⟨0, rfl, by omega, fun h => by omega, fun h => by omega, Below.refl _ _⟩
  case round =>
    obtain ⟨k, rfl, hk, HQ1, HQ2, hbr⟩ := hrel
    have hbw := below_trans hb0 hbr
    by_cases hlt : k < 2
    · have hbt : (wr.alloc (.cells #[.bool true, .bool false] 4)).cell? ⟨wr.heap.size, 0, none⟩ = some (.bool true) := by rw [cell_of_row _ _ 0 _ _ (0, 0) (heap_alloc_new wr _)]; rfl
      have hbf : (wr.alloc (.cells #[.bool true, .bool false] 4)).cell? ⟨wr.heap.size, 1, none⟩ = some (.bool false) := by rw [cell_of_row _ _ 1 _ _ (0, 0) (heap_alloc_new wr _)]; rfl
      have hb2 := below_alloc wr (.cells #[.bool true, .bool false] 4)
      have BT := Lib.hid hbt; have BF := Lib.hid hbf; have HB2 := Lib.hid hb2
      clear hbt hbf hb2
      rcases (by omega : k = 0 ∨ k = 1) with rfl | rfl
      · rw [show ((0 : Nat) : Int) = 0 from rfl]
        have c : wr.cell? ⟨w.heap.size, 0, none⟩ = some (.int .i64 4) := by rw [← C40.out]; exact hbr.cell (World.block_lt_of_cell? _ _ C40.out)
        obtain ⟨bk, hbk⟩ : ∃ bk, bk = wr.heap.size := ⟨_, rfl⟩
        rw [← hbk] at BT BF
        go_wp2_with fail
        rw [← hbk]
        clear hbk
        generalize wr.alloc (.cells #[.bool true, .bool false] 4) = w2 at *
        go_loopw [19] (fun i wq => ∃ j : Nat, i = .int .i64 j ∧ j ≤ 2 ∧ Hid (1 ≤ j → q1 = false) ∧ Hid (2 ≤ j → q2 = false) ∧ Below w2.heap.size w2 wq) (fun i _ => 2 - (intOf i).toNat)
        case atStart => exact ⟨0, rfl, by omega, fun h => by omega, fun h => by omega, Below.refl _ _⟩
        case round =>
          obtain ⟨j, rfl, hj, HJ1, HJ2, hbq⟩ := hrel
          have hbb := below_trans hbw (below_trans HB2.out hbq)
          have hrow := h.below hbb
          by_cases hlj : j < 2
          · rcases (by omega : j = 0 ∨ j = 1) with rfl | rfl
            · have d : wr.cell? ⟨bk, 0, none⟩ = some (.bool true) := by rw [← BT.out]; exact hbq.cell (World.block_lt_of_cell? _ _ BT.out)
              rcases Bool.eq_false_or_eq_true q1 with hq | hq
              · have HR : Hid (mN q1 q2 q3 q4 = 4 ∧ mB q1 q2 q3 = true) := by
                  show _ ∧ _
                  rw [hq]; exact ⟨rfl, rfl⟩
                have hH := H1
                rw [hq] at hH
                have HM := Lib.hid M1; have HH := Lib.hid hH
                clear hH hq
                go_wp2_with (first | (go_at_call 10; refine (HM.out _).mono ?_; rintro e w5 ⟨t5, rfl, r5, hb5⟩; replace hrow := hrow.below hb5; replace hbb := below_trans hbb hb5) | (go_at_call 35; refine (HH.out _ _ hrow r5).mono ?_; rintro e w6 ⟨rfl, hw6⟩; obtain rfl := hw6.symm))
                go_ret3
                exact ⟨ret3 (iv HR.out.1.symm) (bv HR.out.2.symm) (iv HR.out.1.symm), hbb⟩
              · have hH := H1
                rw [hq] at hH
                have HM := Lib.hid M1; have HH := Lib.hid hH; have HQ := Lib.hid hq
                clear hH hq
                go_wp2_with (first | (go_at_call 10; refine (HM.out _).mono ?_; rintro e w5 ⟨t5, rfl, r5, hb5⟩; replace hrow := hrow.below hb5; replace hbq := below_trans hbq hb5) | (go_at_call 35; refine (HH.out _ _ hrow r5).mono ?_; rintro e w6 ⟨rfl, hw6⟩; obtain rfl := hw6.symm))
                go_roundw
                case rel => exact ⟨1, by first | exact iv (by rfl) | go_num, by omega, fun _ => HQ.out, fun h9 => by omega, hbq⟩
                case measure => simp [intOf]
            · have d : wr.cell? ⟨bk, 1, none⟩ = some (.bool false) := by rw [← BF.out]; exact hbq.cell (World.block_lt_of_cell? _ _ BF.out)
              have HJQ := Lib.hid (HJ1.out (by omega))
              rcases Bool.eq_false_or_eq_true q2 with hq | hq
              · have HR : Hid (mN q1 q2 q3 q4 = 4 ∧ mB q1 q2 q3 = false) := by
                  show _ ∧ _
                  rw [HJQ.out, hq]; exact ⟨rfl, rfl⟩
                have hH := H2
                rw [hq] at hH
                have HM := Lib.hid M2; have HH := Lib.hid hH
                clear hH hq
                go_wp2_with (first | (go_at_call 10; refine (HM.out _).mono ?_; rintro e w5 ⟨t5, rfl, r5, hb5⟩; replace hrow := hrow.below hb5; replace hbb := below_trans hbb hb5) | (go_at_call 35; refine (HH.out _ _ hrow r5).mono ?_; rintro e w6 ⟨rfl, hw6⟩; obtain rfl := hw6.symm))
                go_ret3
                exact ⟨ret3 (iv HR.out.1.symm) (bv HR.out.2.symm) (iv HR.out.1.symm), hbb⟩
              · have hH := H2
                rw [hq] at hH
                have HM := Lib.hid M2; have HH := Lib.hid hH; have HQ := Lib.hid hq
                clear hH hq
                go_wp2_with (first | (go_at_call 10; refine (HM.out _).mono ?_; rintro e w5 ⟨t5, rfl, r5, hb5⟩; replace hrow := hrow.below hb5; replace hbq := below_trans hbq hb5) | (go_at_call 35; refine (HH.out _ _ hrow r5).mono ?_; rintro e w6 ⟨rfl, hw6⟩; obtain rfl := hw6.symm))
                go_roundw
                case rel => exact ⟨2, by first | exact iv (by rfl) | go_num, by omega, fun _ => HJQ.out, fun _ => HQ.out, hbq⟩
                case measure => simp [intOf]
          · obtain rfl : j = 2 := by omega
            have HA := Lib.hid (HJ1.out (by omega)); have HC := Lib.hid (HJ2.out (by omega))
            have hbx := below_trans HB2.out hbq
            go_wp2
            go_roundw
            case rel => exact ⟨1, by first | exact iv (by rfl) | go_num, by omega, fun _ => ⟨HA.out, HC.out⟩, fun h9 => by omega, below_trans hbr hbx⟩
            case measure => simp [intOf]
      · rw [show ((1 : Nat) : Int) = 1 from rfl]
        have c : wr.cell? ⟨w.heap.size, 1, none⟩ = some (.int .i64 2) := by rw [← C41.out]; exact hbr.cell (World.block_lt_of_cell? _ _ C41.out)
        have hp := HQ1.out (by omega)
        have HP1 := Lib.hid hp.1; have HP2 := Lib.hid hp.2; clear hp
        obtain ⟨bk, hbk⟩ : ∃ bk, bk = wr.heap.size := ⟨_, rfl⟩
        rw [← hbk] at BT BF
        go_wp2_with fail
        rw [← hbk]
        clear hbk
        generalize wr.alloc (.cells #[.bool true, .bool false] 4) = w2 at *
        go_loopw [19] (fun i wq => ∃ j : Nat, i = .int .i64 j ∧ j ≤ 2 ∧ Hid (1 ≤ j → q3 = false) ∧ Hid (2 ≤ j → q4 = false) ∧ Below w2.heap.size w2 wq) (fun i _ => 2 - (intOf i).toNat)
        case atStart => exact ⟨0, rfl, by omega, fun h => by omega, fun h => by omega, Below.refl _ _⟩
        case round =>
          obtain ⟨j, rfl, hj, HJ1, HJ2, hbq⟩ := hrel
          have hbb := below_trans hbw (below_trans HB2.out hbq)
          have hrow := h.below hbb
          by_cases hlj : j < 2
          · rcases (by omega : j = 0 ∨ j = 1) with rfl | rfl
            · have d : wr.cell? ⟨bk, 0, none⟩ = some (.bool true) := by rw [← BT.out]; exact hbq.cell (World.block_lt_of_cell? _ _ BT.out)
              rcases Bool.eq_false_or_eq_true q3 with hq | hq
              · have HR : Hid (mN q1 q2 q3 q4 = 2 ∧ mB q1 q2 q3 = true) := by
                  show _ ∧ _
                  rw [HP1.out, HP2.out, hq]; exact ⟨rfl, rfl⟩
                have hH := H3
                rw [hq] at hH
                have HM := Lib.hid M3; have HH := Lib.hid hH
                clear hH hq
                go_wp2_with (first | (go_at_call 10; refine (HM.out _).mono ?_; rintro e w5 ⟨t5, rfl, r5, hb5⟩; replace hrow := hrow.below hb5; replace hbb := below_trans hbb hb5) | (go_at_call 35; refine (HH.out _ _ hrow r5).mono ?_; rintro e w6 ⟨rfl, hw6⟩; obtain rfl := hw6.symm))
                go_ret3
                exact ⟨ret3 (iv HR.out.1.symm) (bv HR.out.2.symm) (iv HR.out.1.symm), hbb⟩
              · have hH := H3
                rw [hq] at hH
                have HM := Lib.hid M3; have HH := Lib.hid hH; have HQ := Lib.hid hq
                clear hH hq
                go_wp2_with (first | (go_at_call 10; refine (HM.out _).mono ?_; rintro e w5 ⟨t5, rfl, r5, hb5⟩; replace hrow := hrow.below hb5; replace hbq := below_trans hbq hb5) | (go_at_call 35; refine (HH.out _ _ hrow r5).mono ?_; rintro e w6 ⟨rfl, hw6⟩; obtain rfl := hw6.symm))
                go_roundw
                case rel => exact ⟨1, by first | exact iv (by rfl) | go_num, by omega, fun _ => HQ.out, fun h9 => by omega, hbq⟩
                case measure => simp [intOf]
            · have d : wr.cell? ⟨bk, 1, none⟩ = some (.bool false) := by rw [← BF.out]; exact hbq.cell (World.block_lt_of_cell? _ _ BF.out)
              have HJQ := Lib.hid (HJ1.out (by omega))
              rcases Bool.eq_false_or_eq_true q4 with hq | hq
              · have HR : Hid (mN q1 q2 q3 q4 = 2 ∧ mB q1 q2 q3 = false) := by
                  show _ ∧ _
                  rw [HP1.out, HP2.out, HJQ.out, hq]; exact ⟨rfl, rfl⟩
                have hH := H4
                rw [hq] at hH
                have HM := Lib.hid M4; have HH := Lib.hid hH
                clear hH hq
                go_wp2_with (first | (go_at_call 10; refine (HM.out _).mono ?_; rintro e w5 ⟨t5, rfl, r5, hb5⟩; replace hrow := hrow.below hb5; replace hbb := below_trans hbb hb5) | (go_at_call 35; refine (HH.out _ _ hrow r5).mono ?_; rintro e w6 ⟨rfl, hw6⟩; obtain rfl := hw6.symm))
                go_ret3
                exact ⟨ret3 (iv HR.out.1.symm) (bv HR.out.2.symm) (iv HR.out.1.symm), hbb⟩
              · have hH := H4
                rw [hq] at hH
                have HM := Lib.hid M4; have HH := Lib.hid hH; have HQ := Lib.hid hq
                clear hH hq
                go_wp2_with (first | (go_at_call 10; refine (HM.out _).mono ?_; rintro e w5 ⟨t5, rfl, r5, hb5⟩; replace hrow := hrow.below hb5; replace hbq := below_trans hbq hb5) | (go_at_call 35; refine (HH.out _ _ hrow r5).mono ?_; rintro e w6 ⟨rfl, hw6⟩; obtain rfl := hw6.symm))
                go_roundw
                case rel => exact ⟨2, by first | exact iv (by rfl) | go_num, by omega, fun _ => HJQ.out, fun _ => HQ.out, hbq⟩
                case measure => simp [intOf]
          · obtain rfl : j = 2 := by omega
            have HA := Lib.hid (HJ1.out (by omega)); have HC := Lib.hid (HJ2.out (by omega))
            have hbx := below_trans HB2.out hbq
            go_wp2
            go_roundw
            case rel => exact ⟨2, by first | exact iv (by rfl) | go_num, by omega, fun _ => ⟨HP1.out, HP2.out⟩, fun _ => ⟨HA.out, HC.out⟩, below_trans hbr hbx⟩
            case measure => simp [intOf]
    · obtain rfl : k = 2 := by omega
      have hp := HQ1.out (by omega)
      have hp2 := HQ2.out (by omega)
      have HR : Hid (mN q1 q2 q3 q4 = 0 ∧ mB q1 q2 q3 = false) := by
        show _ ∧ _
        rw [hp.1, hp.2, hp2.1, hp2.2]; exact ⟨rfl, rfl⟩
      clear hp hp2
      go_wp2
      go_ret3
      exact ⟨ret3 (iv HR.out.1.symm) (bv HR.out.2.symm) (iv HR.out.1.symm), hbw⟩
end Go.Proofs.Ytgfdebijcpdhbaa
