/- Walks: wide texts: which mark, by the program. · The statements of layer 45 on laying, walked. · Walks: wide texts: reading, by the reference. · Walks: wide texts: reading four octets each, by the reference. (laid together by program out of single texts). -/
import Derived.Test.YtponfaglflmnkaaGreatM2
import Derived.Test.YtponfaglflmnkaaGreatM16
import Derived.Test.YtponfaglflmnkaaGreatM18
namespace Go.Proofs.YtponfaglflmnkaaGreat
open Go.RowKit
set_option maxHeartbeats 1000000
theorem mark_lists : wideO 4 true [65279] = [0, 0, 254, 255] ∧ wideO 4 false [65279] = [255, 254, 0, 0] ∧ wideO 2 true [65279] = [254, 255] ∧ wideO 2 false [65279] = [255, 254] ∧ wideE 4 [65279] = 0 ∧ wideE 2 [65279] = 0 := by decide +kernel
/-- One trial: the mark is laid, and the octets begin with it, or not. -/
def MkC (wd : Int) (big : Bool) (m : List Int) : Prop := ∀ w : World, Calls Tryz.prog 41 #[.int .i64 wd, .bool big, .slice none 0 0] w fun e w' => ∃ t, e = .returned (.tuple #[t, .int .i64 0]) ∧ Row w' t (ints .u8 m) ∧ Below w.heap.size w w'
theorem mkc (wd : Int) (big : Bool) (m : List Int) (h1 : wideO wd big [65279] = m) (h2 : wideE wd [65279] = 0) : MkC wd big m := fun w => by
  have h := marked_any wd big _ [] w (Row.nil w) (fun x hx => by cases hx) (by simp)
  rw [h1, h2] at h
  refine h.mono ?_
  rintro e w' ⟨t, rfl, ho, hb⟩
  exact ⟨t, rfl, ho.row, hb⟩
def HpC (v : Value) (xs m : List Int) (q : Bool) : Prop := ∀ (v2 : Value) (w : World), Row w v (ints .u8 xs) → Row w v2 (ints .u8 m) → Calls Tryz.prog 42 #[v, v2] w fun e w' => e = .returned (.bool q) ∧ w' = w
/-- The inner loop's two trials. -/
def MIn (w wr : World) (qa qb : Bool) (j : Nat) (wq : World) : Prop := j ≤ 2 ∧ (1 ≤ j → qa = false) ∧ (2 ≤ j → qb = false) ∧ Below wr.heap.size wr wq ∧ Below w.heap.size w wq
set_option maxRecDepth 100000 in
theorem wMark_any (v : Value) (xs : List Int) (w : World) (h : Row w v (ints .u8 xs)) (hg : Rg 0 256 xs) (hl : xs.length ≤ 100000) :
    Calls Tryz.prog 19 #[v] w fun e w' => e = .returned (.tuple #[.int .i64 (markN xs), .bool (markB xs), .int .i64 (markN xs)]) ∧ Below w.heap.size w w' := by
  obtain ⟨l1, l2, l3, l4, l5, l6⟩ := mark_lists
  have M1 : MkC 4 true [0, 0, 254, 255] := mkc _ _ _ l1 l5
  have M2 : MkC 4 false [255, 254, 0, 0] := mkc _ _ _ l2 l5
  have M3 : MkC 2 true [254, 255] := mkc _ _ _ l3 l6
  have M4 : MkC 2 false [255, 254] := mkc _ _ _ l4 l6
  have r1 : Rg 0 256 [0, 0, 254, 255] := by intro x hx; simp at hx; omega
  have r2 : Rg 0 256 [255, 254, 0, 0] := by intro x hx; simp at hx; omega
  have r3 : Rg 0 256 [254, 255] := by intro x hx; simp at hx; omega
  have r4 : Rg 0 256 [255, 254] := by intro x hx; simp at hx; omega
  have H1 : HpC v xs [0, 0, 254, 255] (mk4b xs) := fun v2 w a b => hasPre_any v v2 xs _ w a b hg r1 (by omega) (by simp)
  have H2 : HpC v xs [255, 254, 0, 0] (mk4l xs) := fun v2 w a b => hasPre_any v v2 xs _ w a b hg r2 (by omega) (by simp)
  have H3 : HpC v xs [254, 255] (mk2b xs) := fun v2 w a b => hasPre_any v v2 xs _ w a b hg r3 (by omega) (by simp)
  have H4 : HpC v xs [255, 254] (mk2l xs) := fun v2 w a b => hasPre_any v v2 xs _ w a b hg r4 (by omega) (by simp)
  rw [markN, markB]
  generalize mk4b xs = q1 at *
  generalize mk4l xs = q2 at *
  generalize mk2b xs = q3 at *
  generalize mk2l xs = q4 at *
  clear r1 r2 r3 r4 l1 l2 l3 l4 l5 l6
  obtain ⟨a, b, off, cp, rfl, _⟩ := id h.op
  have c40 : (w.alloc (.cells #[.int .i64 4, .int .i64 2] 3)).cell? ⟨w.heap.size, 0, none⟩ = some (.int .i64 4) := by rw [cell_of_row _ _ 0 _ _ (0, 0) (heap_alloc_new w _)]; rfl
  have c41 : (w.alloc (.cells #[.int .i64 4, .int .i64 2] 3)).cell? ⟨w.heap.size, 1, none⟩ = some (.int .i64 2) := by rw [cell_of_row _ _ 1 _ _ (0, 0) (heap_alloc_new w _)]; rfl
  have hb0 := below_alloc w (.cells #[.int .i64 4, .int .i64 2] 3)
  have C40 := Lib.hid c40; have C41 := Lib.hid c41; have HB0 := Lib.hid hb0
  clear c40 c41 hb0
  go_enter Tryz.func19, Tryz.ntmps19
  go_wp2_with fail
  generalize w.alloc (.cells #[.int .i64 4, .int .i64 2] 3) = w1 at *
  have hb0 := HB0.out
  go_loopw [13] (fun i wr => ∃ k : Nat, i = .int .i64 k ∧ k ≤ 2 ∧ Hid (1 ≤ k → q1 = false ∧ q2 = false) ∧ Hid (2 ≤ k → q3 = false ∧ q4 = false) ∧ Below w1.heap.size w1 wr) (fun i _ => 2 - (intOf i).toNat)
  case atStart => exact ⟨0, rfl, by omega, fun h => by omega, fun h => by omega, Below.refl _ _⟩
  case round =>
    obtain ⟨k, rfl, hk, HQ1, HQ2, hbr⟩ := hrel
    have hbw := below_trans hb0 hbr
    by_cases hlt : k < 2
    · have hbt : (wr.alloc (.cells #[.bool true, .bool false] 4)).cell? ⟨wr.heap.size, 0, none⟩ = some (.bool true) := by rw [cell_of_row _ _ 0 _ _ (0, 0) (heap_alloc_new wr _)]; rfl
      have hbf : (wr.alloc (.cells #[.bool true, .bool false] 4)).cell? ⟨wr.heap.size, 1, none⟩ = some (.bool false) := by rw [cell_of_row _ _ 1 _ _ (0, 0) (heap_alloc_new wr _)]; rfl
      have hb2 := below_alloc wr (.cells #[.bool true, .bool false] 4)
      have BT := Lib.hid hbt; have BF := Lib.hid hbf; have HB2 := Lib.hid hb2
      clear hbt hbf hb2
      rcases (by omega : k = 0 ∨ k = 1) with rfl | rfl
      · rw [show ((0 : Nat) : Int) = 0 from rfl]
        have c : wr.cell? ⟨w.heap.size, 0, none⟩ = some (.int .i64 4) := by rw [← C40.out]; exact hbr.cell (World.block_lt_of_cell? _ _ C40.out)
        obtain ⟨bk, hbk⟩ : ∃ bk, bk = wr.heap.size := ⟨_, rfl⟩
        rw [← hbk] at BT BF
        go_wp2_with fail
        rw [← hbk]
        clear hbk
        generalize wr.alloc (.cells #[.bool true, .bool false] 4) = w2 at *
        go_loopw [19] (fun i wq => ∃ j : Nat, i = .int .i64 j ∧ j ≤ 2 ∧ Hid (1 ≤ j → q1 = false) ∧ Hid (2 ≤ j → q2 = false) ∧ Below w2.heap.size w2 wq) (fun i _ => 2 - (intOf i).toNat)
        case atStart => exact ⟨0, rfl, by omega, fun h => by omega, fun h => by omega, Below.refl _ _⟩
        case round =>
          obtain ⟨j, rfl, hj, HJ1, HJ2, hbq⟩ := hrel
          have hbb := below_trans hbw (below_trans HB2.out hbq)
          have hrow := h.below hbb
          by_cases hlj : j < 2
          · rcases (by omega : j = 0 ∨ j = 1) with rfl | rfl
            · have d : wr.cell? ⟨bk, 0, none⟩ = some (.bool true) := by rw [← BT.out]; exact hbq.cell (World.block_lt_of_cell? _ _ BT.out)
              rcases Bool.eq_false_or_eq_true q1 with hq | hq
              · have HR : Hid (mN q1 q2 q3 q4 = 4 ∧ mB q1 q2 q3 = true) := by
                  show _ ∧ _
                  rw [hq]; exact ⟨rfl, rfl⟩
                have hH := H1
                rw [hq] at hH
                have HM := Lib.hid M1; have HH := Lib.hid hH
                clear hH hq
                go_wp2_with (first | (go_at_call 41; refine (HM.out _).mono ?_; rintro e w5 ⟨t5, rfl, r5, hb5⟩; replace hrow := hrow.below hb5; replace hbb := below_trans hbb hb5) | (go_at_call 42; refine (HH.out _ _ hrow r5).mono ?_; rintro e w6 ⟨rfl, hw6⟩; obtain rfl := hw6.symm))
                go_ret3
                exact ⟨ret3 (iv HR.out.1.symm) (bv HR.out.2.symm) (iv HR.out.1.symm), hbb⟩
              · have hH := H1
                rw [hq] at hH
                have HM := Lib.hid M1; have HH := Lib.hid hH; have HQ := Lib.hid hq
                clear hH hq
                go_wp2_with (first | (go_at_call 41; refine (HM.out _).mono ?_; rintro e w5 ⟨t5, rfl, r5, hb5⟩; replace hrow := hrow.below hb5; replace hbq := below_trans hbq hb5) | (go_at_call 42; refine (HH.out _ _ hrow r5).mono ?_; rintro e w6 ⟨rfl, hw6⟩; obtain rfl := hw6.symm))
                go_roundw
                case rel => exact ⟨1, by first | exact iv (by rfl) | go_num, by omega, fun _ => HQ.out, fun h9 => by omega, hbq⟩
                case measure => simp [intOf]
            · have d : wr.cell? ⟨bk, 1, none⟩ = some (.bool false) := by rw [← BF.out]; exact hbq.cell (World.block_lt_of_cell? _ _ BF.out)
              have HJQ := Lib.hid (HJ1.out (by omega))
              rcases Bool.eq_false_or_eq_true q2 with hq | hq
              · have HR : Hid (mN q1 q2 q3 q4 = 4 ∧ mB q1 q2 q3 = false) := by
                  show _ ∧ _
                  rw [HJQ.out, hq]; exact ⟨rfl, rfl⟩
                have hH := H2
                rw [hq] at hH
                have HM := Lib.hid M2; have HH := Lib.hid hH
                clear hH hq
                go_wp2_with (first | (go_at_call 41; refine (HM.out _).mono ?_; rintro e w5 ⟨t5, rfl, r5, hb5⟩; replace hrow := hrow.below hb5; replace hbb := below_trans hbb hb5) | (go_at_call 42; refine (HH.out _ _ hrow r5).mono ?_; rintro e w6 ⟨rfl, hw6⟩; obtain rfl := hw6.symm))
                go_ret3
                exact ⟨ret3 (iv HR.out.1.symm) (bv HR.out.2.symm) (iv HR.out.1.symm), hbb⟩
              · have hH := H2
                rw [hq] at hH
                have HM := Lib.hid M2; have HH := Lib.hid hH; have HQ := Lib.hid hq
                clear hH hq
                go_wp2_with (first | (go_at_call 41; refine (HM.out _).mono ?_; rintro e w5 ⟨t5, rfl, r5, hb5⟩; replace hrow := hrow.below hb5; replace hbq := below_trans hbq hb5) | (go_at_call 42; refine (HH.out _ _ hrow r5).mono ?_; rintro e w6 ⟨rfl, hw6⟩; obtain rfl := hw6.symm))
                go_roundw
                case rel => exact ⟨2, by first | exact iv (by rfl) | go_num, by omega, fun _ => HJQ.out, fun _ => HQ.out, hbq⟩
                case measure => simp [intOf]
          · obtain rfl : j = 2 := by omega
            have HA := Lib.hid (HJ1.out (by omega)); have HC := Lib.hid (HJ2.out (by omega))
            have hbx := below_trans HB2.out hbq
            go_wp2
            go_roundw
            case rel => exact ⟨1, by first | exact iv (by rfl) | go_num, by omega, fun _ => ⟨HA.out, HC.out⟩, fun h9 => by omega, below_trans hbr hbx⟩
            case measure => simp [intOf]
      · rw [show ((1 : Nat) : Int) = 1 from rfl]
        have c : wr.cell? ⟨w.heap.size, 1, none⟩ = some (.int .i64 2) := by rw [← C41.out]; exact hbr.cell (World.block_lt_of_cell? _ _ C41.out)
        have hp := HQ1.out (by omega)
        have HP1 := Lib.hid hp.1; have HP2 := Lib.hid hp.2; clear hp
        obtain ⟨bk, hbk⟩ : ∃ bk, bk = wr.heap.size := ⟨_, rfl⟩
        rw [← hbk] at BT BF
        go_wp2_with fail
        rw [← hbk]
        clear hbk
        generalize wr.alloc (.cells #[.bool true, .bool false] 4) = w2 at *
        go_loopw [19] (fun i wq => ∃ j : Nat, i = .int .i64 j ∧ j ≤ 2 ∧ Hid (1 ≤ j → q3 = false) ∧ Hid (2 ≤ j → q4 = false) ∧ Below w2.heap.size w2 wq) (fun i _ => 2 - (intOf i).toNat)
        case atStart => exact ⟨0, rfl, by omega, fun h => by omega, fun h => by omega, Below.refl _ _⟩
        case round =>
          obtain ⟨j, rfl, hj, HJ1, HJ2, hbq⟩ := hrel
          have hbb := below_trans hbw (below_trans HB2.out hbq)
          have hrow := h.below hbb
          by_cases hlj : j < 2
          · rcases (by omega : j = 0 ∨ j = 1) with rfl | rfl
            · have d : wr.cell? ⟨bk, 0, none⟩ = some (.bool true) := by rw [← BT.out]; exact hbq.cell (World.block_lt_of_cell? _ _ BT.out)
              rcases Bool.eq_false_or_eq_true q3 with hq | hq
              · have HR : Hid (mN q1 q2 q3 q4 = 2 ∧ mB q1 q2 q3 = true) := by
                  show _ ∧ _
                  rw [HP1.out, HP2.out, hq]; exact ⟨rfl, rfl⟩
                have hH := H3
                rw [hq] at hH
                have HM := Lib.hid M3; have HH := Lib.hid hH
                clear hH hq
                go_wp2_with (first | (go_at_call 41; refine (HM.out _).mono ?_; rintro e w5 ⟨t5, rfl, r5, hb5⟩; replace hrow := hrow.below hb5; replace hbb := below_trans hbb hb5) | (go_at_call 42; refine (HH.out _ _ hrow r5).mono ?_; rintro e w6 ⟨rfl, hw6⟩; obtain rfl := hw6.symm))
                go_ret3
                exact ⟨ret3 (iv HR.out.1.symm) (bv HR.out.2.symm) (iv HR.out.1.symm), hbb⟩
              · have hH := H3
                rw [hq] at hH
                have HM := Lib.hid M3; have HH := Lib.hid hH; have HQ := Lib.hid hq
                clear hH hq
                go_wp2_with (first | (go_at_call 41; refine (HM.out _).mono ?_; rintro e w5 ⟨t5, rfl, r5, hb5⟩; replace hrow := hrow.below hb5; replace hbq := below_trans hbq hb5) | (go_at_call 42; refine (HH.out _ _ hrow r5).mono ?_; rintro e w6 ⟨rfl, hw6⟩; obtain rfl := hw6.symm))
                go_roundw
                case rel => exact ⟨1, by first | exact iv (by rfl) | go_num, by omega, fun _ => HQ.out, fun h9 => by omega, hbq⟩
                case measure => simp [intOf]
            · have d : wr.cell? ⟨bk, 1, none⟩ = some (.bool false) := by rw [← BF.out]; exact hbq.cell (World.block_lt_of_cell? _ _ BF.out)
              have HJQ := Lib.hid (HJ1.out (by omega))
              rcases Bool.eq_false_or_eq_true q4 with hq | hq
              · have HR : Hid (mN q1 q2 q3 q4 = 2 ∧ mB q1 q2 q3 = false) := by
                  show _ ∧ _
                  rw [HP1.out, HP2.out, HJQ.out, hq]; exact ⟨rfl, rfl⟩
                have hH := H4
                rw [hq] at hH
                have HM := Lib.hid M4; have HH := Lib.hid hH
                clear hH hq
                go_wp2_with (first | (go_at_call 41; refine (HM.out _).mono ?_; rintro e w5 ⟨t5, rfl, r5, hb5⟩; replace hrow := hrow.below hb5; replace hbb := below_trans hbb hb5) | (go_at_call 42; refine (HH.out _ _ hrow r5).mono ?_; rintro e w6 ⟨rfl, hw6⟩; obtain rfl := hw6.symm))
                go_ret3
                exact ⟨ret3 (iv HR.out.1.symm) (bv HR.out.2.symm) (iv HR.out.1.symm), hbb⟩
              · have hH := H4
                rw [hq] at hH
                have HM := Lib.hid M4; have HH := Lib.hid hH; have HQ := Lib.hid hq
                clear hH hq
                go_wp2_with (first | (go_at_call 41; refine (HM.out _).mono ?_; rintro e w5 ⟨t5, rfl, r5, hb5⟩; replace hrow := hrow.below hb5; replace hbq := below_trans hbq hb5) | (go_at_call 42; refine (HH.out _ _ hrow r5).mono ?_; rintro e w6 ⟨rfl, hw6⟩; obtain rfl := hw6.symm))
                go_roundw
                case rel => exact ⟨2, by first | exact iv (by rfl) | go_num, by omega, fun _ => HJQ.out, fun _ => HQ.out, hbq⟩
                case measure => simp [intOf]
          · obtain rfl : j = 2 := by omega
            have HA := Lib.hid (HJ1.out (by omega)); have HC := Lib.hid (HJ2.out (by omega))
            have hbx := below_trans HB2.out hbq
            go_wp2
            go_roundw
            case rel => exact ⟨2, by first | exact iv (by rfl) | go_num, by omega, fun _ => ⟨HP1.out, HP2.out⟩, fun _ => ⟨HA.out, HC.out⟩, below_trans hbr hbx⟩
            case measure => simp [intOf]
    · obtain rfl : k = 2 := by omega
      have hp := HQ1.out (by omega)
      have hp2 := HQ2.out (by omega)
      have HR : Hid (mN q1 q2 q3 q4 = 0 ∧ mB q1 q2 q3 = false) := by
        show _ ∧ _
        rw [hp.1, hp.2, hp2.1, hp2.2]; exact ⟨rfl, rfl⟩
      clear hp hp2
      go_wp2
      go_ret3
      exact ⟨ret3 (iv HR.out.1.symm) (bv HR.out.2.symm) (iv HR.out.1.symm), hbw⟩
end Go.Proofs.YtponfaglflmnkaaGreat
namespace Go.Proofs.YtponfaglflmnkaaGreat
open Go.RowKit
set_option maxHeartbeats 1000000
theorem alive45_facts : wideO 2 false [65] = [65, 0] ∧ wideE 2 [65] = 0 ∧ markN [254, 255, 0] = 2 ∧ markB [254, 255, 0] = true ∧ readT 4 true [1] = [65533] := by decide +kernel
theorem wideO_len (wd : Int) (big : Bool) (xs : List Int) : (wideO wd big xs).length ≤ 8 * xs.length := by
  unfold wideO; split
  · split
    · exact wideL_len wd big xs
    · simp
  · simp
end Go.Proofs.YtponfaglflmnkaaGreat
namespace Go.Proofs.YtponfaglflmnkaaGreat
open Go.RowKit
set_option maxHeartbeats 1000000
set_option maxRecDepth 100000 in
theorem rReadB2_any (v : Value) (xs : List Int) (w : World) (h : Row w v (ints .u8 xs)) (hg : Rg 0 256 xs) (hl : xs.length ≤ 10000) :
    Calls Tryz.prog 54 #[.int .i64 2, .bool true, v] w fun e w' => RdP w (readT 2 true xs) (readE 2 true xs) e w' := by
  obtain ⟨a, b, off, cp, rfl, _⟩ := id h.op
  have eT : readT 2 true xs = if overW 2 xs then textW 2 (num2 xs) ++ [65533] else textW 2 (num2 xs) := if_pos (by decide)
  have eE : readE 2 true xs = if overW 2 xs then 4 else if rightW 2 (num2 xs) then 0 else 3 := if_pos (by decide)
  have hg1 := hg
  have hl1 := hl
  generalize readT 2 true xs = RT at *
  generalize readE 2 true xs = RE at *
  have hdiv : (xs.length : Int) / 2 = ((xs.length / 2 : Nat) : Int) := by omega
  have hov : overW 2 xs = decide (2 * (xs.length / 2) < xs.length) := by
    show decide (0 < xs.length % 2) = _
    rw [decide_eq_decide]; omega
  rw [hov] at eT eE
  have hm : 2 * (xs.length / 2) ≤ xs.length := by omega
  have hfr := num2_from xs
  have hev : (xs.take (2 * (xs.length / 2))).length % 2 = 0 := by rw [List.length_take, Nat.min_eq_left hm]; omega
  have hFO := fun v w' h' => rFrom_any v (xs.take (2 * (xs.length / 2))) w' h' (hg1.take _) (by rw [List.length_take]; omega)
  rw [fromR_even hev, hfr] at hFO
  have hnl := num2_len xs
  have hRD := fun v w' h' => rread_any v (num2 xs) w' h' (num2_rng _ hg1) (by omega)
  have hTl := textW_len 2 (num2 xs)
  have e1 : textW 2 (num2 xs) = (uread (num2 xs)).map Prod.fst := rfl
  have e2 : rightW 2 (num2 xs) = (ferr ((uread (num2 xs)).map Prod.snd) == 0) := rfl
  rw [e1] at eT hTl
  rw [e2] at eE
  clear e1 e2 hfr hev hov
  generalize (uread (num2 xs)).map Prod.fst = T at *
  generalize ferr ((uread (num2 xs)).map Prod.snd) = f at *
  have HTL : Hid (T.length ≤ 10000) := by show _ ≤ _; omega
  obtain ⟨m, hmm⟩ : ∃ m, m = xs.length / 2 := ⟨_, rfl⟩
  rw [← hmm] at hdiv hm hFO eT eE
  have HFO := Lib.hid hFO; have HRD := Lib.hid hRD
  clear hFO hRD hTl hnl hmm
  have hm2 : (m : Int) * 2 ≤ xs.length := by omega
  have hm3 : ((m : Int) * 2).toNat = 2 * m := by omega
  have hlt9 : ((m : Int) * 2 < xs.length) = (2 * m < xs.length) := by rw [eq_iff_iff]; omega
  rcases Decidable.em (2 * m < xs.length) with ho | ho
  · rw [decide_eq_true ho] at eT eE
    have ET := Lib.hid eT; have EE := Lib.hid eE
    have ho2 : (m : Int) * 2 < xs.length := by omega
    clear eT eE ho hlt9
    rcases Decidable.em (f = 0) with hf | hf
    case' inl => have hff : (f != 0) = false := by rw [hf]; rfl
    case' inr => have hff : (f != 0) = true := by rw [bne, beq_false_of_ne hf]; rfl
    all_goals
      clear hf
      go_enter Tryz.func54, Tryz.ntmps54
      go_wp2_with (first | (refine wpList_slH slT_u8 _ _ rfl rfl rfl rfl h (by omega) (by simp [ints]; omega) ?_; intro v2 hv2; have r2 := hv2 w h; rw [hm3, ints_take] at r2; clear hv2) | (go_at_call 79; refine (HFO.out _ _ r2).mono ?_; rintro e w3 ⟨t3, rfl, ho3, hb3⟩) | (go_at_call 80; refine (HRD.out _ _ ho3.row).mono ?_; rintro e w4 ⟨t4, rfl, ho4, hb4⟩; have ho5 := ho4.mono hb3.size; have hb5 := below_trans hb3 hb4; have hz5 := hb5.size) | (at_builtin; refine wpList_app slT_i32 _ _ _ rfl rfl rfl rfl (ho5.alloc _) (Row.ilit [65533] [_] rfl (by simp)) (by have := HTL.out; rw [ints_length, ints_length]; simp only [List.length_cons, List.length_nil]; omega) (by simp; omega) ?_; intro t6 w6 hown6 hg6))
      have hb6 := below_app hb5 (below_alloc _ _) (ho5.alloc _) hg6
      rw [← ints_append] at hown6
      go_ret2
      exact RdP.mk ET.out EE.out hown6 hb6
  · rw [decide_eq_false ho] at eT eE
    have ho2 : ¬ ((m : Int) * 2 < xs.length) := by omega
    clear ho hlt9
    rcases Decidable.em (f = 0) with hf | hf
    case' inl => have hff : (f != 0) = false := by rw [hf]; rfl
    case' inl => rw [show (f == 0) = true from by rw [hf]; rfl] at eE
    case' inr => have hff : (f != 0) = true := by rw [bne, beq_false_of_ne hf]; rfl
    case' inr => rw [beq_false_of_ne hf] at eE
    all_goals
      have ET := Lib.hid eT; have EE := Lib.hid eE
      clear hf eT eE
      go_enter Tryz.func54, Tryz.ntmps54
      go_wp2_with (first | (refine wpList_slH slT_u8 _ _ rfl rfl rfl rfl h (by omega) (by simp [ints]; omega) ?_; intro v2 hv2; have r2 := hv2 w h; rw [hm3, ints_take] at r2; clear hv2) | (go_at_call 79; refine (HFO.out _ _ r2).mono ?_; rintro e w3 ⟨t3, rfl, ho3, hb3⟩) | (go_at_call 80; refine (HRD.out _ _ ho3.row).mono ?_; rintro e w4 ⟨t4, rfl, ho4, hb4⟩; have ho5 := ho4.mono hb3.size; have hb5 := below_trans hb3 hb4))
      go_ret2
      exact RdP.mk ET.out EE.out ho5 hb5
set_option maxRecDepth 100000 in
theorem rReadL2_any (v : Value) (xs : List Int) (w : World) (h : Row w v (ints .u8 xs)) (hg : Rg 0 256 xs) (hl : xs.length ≤ 10000) :
    Calls Tryz.prog 54 #[.int .i64 2, .bool false, v] w fun e w' => RdP w (readT 2 false xs) (readE 2 false xs) e w' := by
  obtain ⟨a, b, off, cp, rfl, _⟩ := id h.op
  have eT : readT 2 false xs = if overW 2 xs then textW 2 (num2 (sw2 xs)) ++ [65533] else textW 2 (num2 (sw2 xs)) := if_pos (by decide)
  have eE : readE 2 false xs = if overW 2 xs then 4 else if rightW 2 (num2 (sw2 xs)) then 0 else 3 := if_pos (by decide)
  have hsw := rSwap2_any _ xs w h (by omega)
  have hg1 := sw2_rng xs hg
  have hle := sw2_len xs
  have hl1 : (sw2 xs).length ≤ 10000 := by omega
  rw [← overW_len (wd := 2) hle] at eT eE
  generalize sw2 xs = ys at *
  have HSW := Lib.hid hsw
  clear hsw hle
  generalize readT 2 false xs = RT at *
  generalize readE 2 false xs = RE at *
  have hdiv : (ys.length : Int) / 2 = ((ys.length / 2 : Nat) : Int) := by omega
  have hov : overW 2 ys = decide (2 * (ys.length / 2) < ys.length) := by
    show decide (0 < ys.length % 2) = _
    rw [decide_eq_decide]; omega
  rw [hov] at eT eE
  have hm : 2 * (ys.length / 2) ≤ ys.length := by omega
  have hfr := num2_from ys
  have hev : (ys.take (2 * (ys.length / 2))).length % 2 = 0 := by rw [List.length_take, Nat.min_eq_left hm]; omega
  have hFO := fun v w' h' => rFrom_any v (ys.take (2 * (ys.length / 2))) w' h' (hg1.take _) (by rw [List.length_take]; omega)
  rw [fromR_even hev, hfr] at hFO
  have hnl := num2_len ys
  have hRD := fun v w' h' => rread_any v (num2 ys) w' h' (num2_rng _ hg1) (by omega)
  have hTl := textW_len 2 (num2 ys)
  have e1 : textW 2 (num2 ys) = (uread (num2 ys)).map Prod.fst := rfl
  have e2 : rightW 2 (num2 ys) = (ferr ((uread (num2 ys)).map Prod.snd) == 0) := rfl
  rw [e1] at eT hTl
  rw [e2] at eE
  clear e1 e2 hfr hev hov
  generalize (uread (num2 ys)).map Prod.fst = T at *
  generalize ferr ((uread (num2 ys)).map Prod.snd) = f at *
  have HTL : Hid (T.length ≤ 10000) := by show _ ≤ _; omega
  obtain ⟨m, hmm⟩ : ∃ m, m = ys.length / 2 := ⟨_, rfl⟩
  rw [← hmm] at hdiv hm hFO eT eE
  have HFO := Lib.hid hFO; have HRD := Lib.hid hRD
  clear hFO hRD hTl hnl hmm
  have hm2 : (m : Int) * 2 ≤ ys.length := by omega
  have hm3 : ((m : Int) * 2).toNat = 2 * m := by omega
  have hlt9 : ((m : Int) * 2 < ys.length) = (2 * m < ys.length) := by rw [eq_iff_iff]; omega
  rcases Decidable.em (2 * m < ys.length) with ho | ho
  · rw [decide_eq_true ho] at eT eE
    have ET := Lib.hid eT; have EE := Lib.hid eE
    have ho2 : (m : Int) * 2 < ys.length := by omega
    clear eT eE ho hlt9
    rcases Decidable.em (f = 0) with hf | hf
    case' inl => have hff : (f != 0) = false := by rw [hf]; rfl
    case' inr => have hff : (f != 0) = true := by rw [bne, beq_false_of_ne hf]; rfl
    all_goals
      clear hf
      go_enter Tryz.func54, Tryz.ntmps54
      go_wp2_with (first | (go_at_call 78; refine (HSW.out).mono ?_; rintro e w1 ⟨t1, rfl, ho1, hb1⟩; have h1 := ho1.row; clear ho1; obtain ⟨at1, bt1, ot1, ct1, rfl, _⟩ := id h1.op) | (refine wpList_slH slT_u8 _ _ rfl rfl rfl rfl h1 (by omega) (by simp [ints]; omega) ?_; intro v2 hv2; have r2 := hv2 w1 h1; rw [hm3, ints_take] at r2; clear hv2) | (go_at_call 79; refine (HFO.out _ _ r2).mono ?_; rintro e w3 ⟨t3, rfl, ho3, hb3⟩) | (go_at_call 80; refine (HRD.out _ _ ho3.row).mono ?_; rintro e w4 ⟨t4, rfl, ho4, hb4⟩; have ho5 := ho4.mono hb3.size; have hb5 := below_trans hb3 hb4; have hz5 := hb5.size) | (at_builtin; refine wpList_app slT_i32 _ _ _ rfl rfl rfl rfl (ho5.alloc _) (Row.ilit [65533] [_] rfl (by simp)) (by have := HTL.out; rw [ints_length, ints_length]; simp only [List.length_cons, List.length_nil]; omega) (by simp; omega) ?_; intro t6 w6 hown6 hg6))
      have hb6 := below_app hb5 (below_alloc _ _) (ho5.alloc _) hg6
      rw [← ints_append] at hown6
      go_ret2
      exact RdP.mk ET.out EE.out (hown6.mono hb1.size) (below_trans hb1 hb6)
  · rw [decide_eq_false ho] at eT eE
    have ho2 : ¬ ((m : Int) * 2 < ys.length) := by omega
    clear ho hlt9
    rcases Decidable.em (f = 0) with hf | hf
    case' inl => have hff : (f != 0) = false := by rw [hf]; rfl
    case' inl => rw [show (f == 0) = true from by rw [hf]; rfl] at eE
    case' inr => have hff : (f != 0) = true := by rw [bne, beq_false_of_ne hf]; rfl
    case' inr => rw [beq_false_of_ne hf] at eE
    all_goals
      have ET := Lib.hid eT; have EE := Lib.hid eE
      clear hf eT eE
      go_enter Tryz.func54, Tryz.ntmps54
      go_wp2_with (first | (go_at_call 78; refine (HSW.out).mono ?_; rintro e w1 ⟨t1, rfl, ho1, hb1⟩; have h1 := ho1.row; clear ho1; obtain ⟨at1, bt1, ot1, ct1, rfl, _⟩ := id h1.op) | (refine wpList_slH slT_u8 _ _ rfl rfl rfl rfl h1 (by omega) (by simp [ints]; omega) ?_; intro v2 hv2; have r2 := hv2 w1 h1; rw [hm3, ints_take] at r2; clear hv2) | (go_at_call 79; refine (HFO.out _ _ r2).mono ?_; rintro e w3 ⟨t3, rfl, ho3, hb3⟩) | (go_at_call 80; refine (HRD.out _ _ ho3.row).mono ?_; rintro e w4 ⟨t4, rfl, ho4, hb4⟩; have ho5 := ho4.mono hb3.size; have hb5 := below_trans hb3 hb4))
      go_ret2
      exact RdP.mk ET.out EE.out (ho5.mono hb1.size) (below_trans hb1 hb5)
end Go.Proofs.YtponfaglflmnkaaGreat
namespace Go.Proofs.YtponfaglflmnkaaGreat
open Go.RowKit
set_option maxHeartbeats 2000000
set_option maxRecDepth 100000 in
theorem rReadB4_any (v : Value) (xs : List Int) (w : World) (h : Row w v (ints .u8 xs)) (hg : Rg 0 256 xs) (hl : xs.length ≤ 10000) :
    Calls Tryz.prog 54 #[.int .i64 4, .bool true, v] w fun e w' => RdP w (readT 4 true xs) (readE 4 true xs) e w' := by
  obtain ⟨a, b, off, cp, rfl, HC0⟩ := id h.op
  have eT : readT 4 true xs = if overW 4 xs then textW 4 (num4 xs) ++ [65533] else textW 4 (num4 xs) := if_pos (by decide)
  have eE : readE 4 true xs = if overW 4 xs then 4 else if rightW 4 (num4 xs) then 0 else 3 := if_pos (by decide)
  have hg1 := hg
  have hl1 := hl
  generalize readT 4 true xs = RT at *
  generalize readE 4 true xs = RE at *
  have hdiv : (xs.length : Int) / 4 = ((xs.length / 4 : Nat) : Int) := by omega
  have hov : overW 4 xs = decide (4 * (xs.length / 4) < xs.length) := by
    show decide (0 < xs.length % 4) = _
    rw [decide_eq_decide]; omega
  rw [hov] at eT eE
  have hm : 4 * (xs.length / 4) ≤ xs.length := by omega
  have hm9 : xs.length < 4 * (xs.length / 4) + 4 := by omega
  have e1 : textW 4 (num4 xs) = (num4 xs).map fix4 := rfl
  have e2 : rightW 4 (num4 xs) = (num4 xs).all scB := rfl
  rw [e1] at eT
  rw [e2] at eE
  clear e1 e2 hov
  obtain ⟨m, hmm⟩ : ∃ m, m = xs.length / 4 := ⟨_, rfl⟩
  rw [← hmm] at hdiv hm hm9 eT eE
  clear hmm
  have ET := Lib.hid eT; have EE := Lib.hid eE
  clear eT eE
  go_enter Tryz.func54, Tryz.ntmps54
  have HC := HC0
  go_wp2
  go_loopw [9, 10, 15] (fun u ev i wr => ∃ (D S : List Int) (p : Nat), i = .int .i64 p ∧ Hid (xs.drop p = S) ∧ Hid (p + S.length = xs.length) ∧ Hid (num4 xs = D ++ num4 S) ∧ Hid (4 * D.length = p) ∧ ev = .int .i64 (if D.all scB then 0 else 3) ∧ Own w.heap.size 21 wr u (ints .i32 (D.map fix4)) ∧ Below w.heap.size w wr) (fun _ _ i _ => xs.length - (intOf i).toNat)
  case atStart => exact ⟨[], xs, 0, rfl, rfl, Nat.zero_add _, rfl, rfl, rfl, Own.nil _ _ _, Below.refl _ _⟩
  case round =>
    obtain ⟨D, S, p, rfl, HD, HLEN, HN, HDL, rfl, hown, hb⟩ := hrel
    have hlen := HLEN.out
    have hdl := HDL.out
    have hz := hb.size
    have HLL : Hid ((D.map fix4).length ≤ 10000) := by show _ ≤ _; rw [List.length_map]; omega
    obtain ⟨ev, hev⟩ : ∃ ev : Int, ev = if D.all scB then 0 else 3 := ⟨_, rfl⟩
    rw [← hev]
    have HEV := Lib.hid hev
    clear hev
    rcases Nat.lt_or_ge S.length 4 with hS | hS
    · have HF : Hid (num4 xs = D) := num4_all HN.out hS
      have hpm : p = 4 * m := by omega
      have hn9 : ¬ ((p : Int) < (m : Int) * 4) := by omega
      rcases Decidable.em (4 * m < xs.length) with ho | ho
      · have hT := ET.out; have hE := EE.out
        rw [decide_eq_true ho, if_pos rfl, HF.out] at hT
        rw [decide_eq_true ho, if_pos rfl] at hE
        have HT := Lib.hid hT; have HE := Lib.hid hE
        have ho2 : (m : Int) * 4 < xs.length := by omega
        clear hT hE ho hS
        go_wp2_with (first | (at_builtin; refine wpList_app slT_i32 _ _ _ rfl rfl rfl rfl (hown.alloc _) (Row.ilit [65533] [_] rfl (by simp)) (by have := HLL.out; rw [ints_length, ints_length]; simp only [List.length_cons, List.length_nil]; omega) (by simp; omega) ?_; intro t6 w6 hown6 hg6))
        have hb6 := below_app hb (below_alloc _ _) (hown.alloc _) hg6
        rw [← ints_append] at hown6
        go_ret2
        exact RdP.mk HT.out HE.out hown6 hb6
      · have hT := ET.out; have hE := EE.out
        rw [decide_eq_false ho, if_neg (by decide), HF.out] at hT
        rw [decide_eq_false ho, if_neg (by decide), HF.out, ← HEV.out] at hE
        have HT := Lib.hid hT; have HE := Lib.hid hE
        have ho2 : ¬ ((m : Int) * 4 < xs.length) := by omega
        clear hT hE ho hS
        go_wp2
        go_ret2
        exact RdP.mk HT.out HE.out hown hb
    · obtain ⟨x, y, z, t, S', rfl⟩ := len4 hS
      have hx0 : xs[p]? = some x := by have h9 := List.getElem?_drop (xs := xs) (i := p) (j := 0); rw [HD.out, Nat.add_zero] at h9; exact h9.symm
      have hx1 : xs[p + 1]? = some y := by rw [← List.getElem?_drop, HD.out]; rfl
      have hx2 : xs[p + 2]? = some z := by rw [← List.getElem?_drop, HD.out]; rfl
      have hx3 : xs[p + 3]? = some t := by rw [← List.getElem?_drop, HD.out]; rfl
      simp only [List.length_cons] at hlen hS
      have hp9 : (p : Int) < (m : Int) * 4 := by omega
      obtain ⟨q0, HX0, rfl, hc0⟩ := HC.out (p) (by omega)
      have e0 := HX0.out; rw [hx0] at e0; obtain rfl := Option.some.inj e0
      replace hc0 := hc0 _ hb
      have hx := hg1.get hx0
      obtain ⟨q1, HX1, _, hc1⟩ := HC.out (p + 1) (by omega)
      have e1 := HX1.out; rw [hx1] at e1; obtain rfl := Option.some.inj e1
      replace hc1 := hc1 _ hb
      have hy := hg1.get hx1
      obtain ⟨q2, HX2, _, hc2⟩ := HC.out (p + 2) (by omega)
      have e2 := HX2.out; rw [hx2] at e2; obtain rfl := Option.some.inj e2
      replace hc2 := hc2 _ hb
      have hz2 := hg1.get hx2
      obtain ⟨q3, HX3, _, hc3⟩ := HC.out (p + 3) (by omega)
      have e3 := HX3.out; rw [hx3] at e3; obtain rfl := Option.some.inj e3
      replace hc3 := hc3 _ hb
      have ht := hg1.get hx3
      have hx8 := hx.1; have hx9 := hx.2; have hy8 := hy.1; have hy9 := hy.2; have hz8 := hz2.1; have hz9 := hz2.2; have ht8 := ht.1; have ht9 := ht.2
      clear hx hy hz2 ht e0 e1 e2 e3 hx0 hx1 hx2 hx3
      have hnum : num4 xs = (D ++ [16777216 * x + 65536 * y + 256 * z + t]) ++ num4 S' := by
        rw [HN.out, num4, List.append_assoc]
        congr 2
        omega
      have HN2 := Lib.hid hnum
      have HD2 : Hid (xs.drop (p + 4) = S') := by show _ = _; rw [← List.drop_drop, HD.out]; rfl
      clear hnum
      have hs0 : 0 ≤ 16777216 * x + 65536 * y + 256 * z + t := by omega
      have hs1 : 16777216 * x + 65536 * y + 256 * z + t < 4294967296 := by omega
      go_wp2_with fail
      go_quiet (fail)
      have hb2 := below_drewN hb nq
      have hown2 := hown.below (below_drewN (Below.refl wr.heap.size wr) nq)
      have hz2 := hb2.size
      generalize wr.drewN nq = w9 at *
      clear hb hown hz hc0 hc1 hc2 hc3
      generalize 16777216 * x + 65536 * y + 256 * z + t = c at *
      have hall : (D ++ [c]).all scB = (D.all scB && scB c) := by rw [List.all_append]; simp
      have HMAP : Hid ((D ++ [c]).map fix4 = D.map fix4 ++ [fix4 c]) := by show _ = _; rw [List.map_append]; rfl
      have HLEN2 : Hid (p + 4 + S'.length = xs.length) := by show _ = _; omega
      have HDL2 : Hid (4 * (D ++ [c]).length = p + 4) := by show _ = _; rw [List.length_append]; simp only [List.length_cons, List.length_nil]; omega
      have hcase : (c ≤ 1114111 ∧ scB c = true ∧ Hid (fix4 c = c) ∧ Hid (ev = if (D ++ [c]).all scB then 0 else 3)) ∨ (c ≤ 1114111 ∧ scB c = false ∧ Hid (fix4 c = 65533) ∧ Hid ((3 : Int) = if (D ++ [c]).all scB then 0 else 3)) ∨ (1114111 < c ∧ scB c = false ∧ Hid (fix4 c = 65533) ∧ Hid ((3 : Int) = if (D ++ [c]).all scB then 0 else 3)) := by
        rcases Bool.eq_false_or_eq_true (scB c) with hq | hq
        · have := scB_iff.1 hq
          refine .inl ⟨by omega, hq, (by show _ = _; rw [fix4, hq]; rfl), ?_⟩
          show _ = _
          rw [hall, hq, Bool.and_true, HEV.out]
        · have h3 : (3 : Int) = if (D ++ [c]).all scB then 0 else 3 := by rw [hall, hq, Bool.and_false]; rfl
          rcases Int.lt_or_le 1114111 c with h9 | h9
          · exact .inr (.inr ⟨h9, hq, (by show _ = _; rw [fix4, hq]; rfl), h3⟩)
          · exact .inr (.inl ⟨h9, hq, (by show _ = _; rw [fix4, hq]; rfl), h3⟩)
      clear hall
      rcases hcase with ⟨h9, hq, HFX, HE2⟩ | ⟨h9, hq, HFX, HE2⟩ | ⟨h9, hq, HFX, HE2⟩
      · have hwr : IntKind.i32.wrap c = c := by rw [IntKind.wrap_i32]; omega
        have hsc := fun w => ris_any c w
        rw [hq] at hsc
        have HSC := Lib.hid hsc
        clear hsc hq
        go_wp2_with (first | (go_at_call 35; refine (HSC.out _).mono ?_; rintro e w2 ⟨rfl, hw2⟩; obtain rfl := hw2) | (at_builtin; refine wpList_app slT_i32 _ _ _ rfl rfl rfl rfl (hown2.alloc _) (Row.ilit [c] [_] rfl (by simp)) (by have := HLL.out; rw [ints_length, ints_length]; simp only [List.length_cons, List.length_nil]; omega) (by simp; omega) ?_; intro t6 w6 hown6 hg6))
        have hb6 := below_app hb2 (below_alloc _ _) (hown2.alloc _) hg6
        have HO6 : Hid (Own w.heap.size 21 w6 t6 (ints .i32 ((D ++ [c]).map fix4))) := by
          rw [← ints_append] at hown6
          show Own _ _ _ _ _
          rw [HMAP.out, HFX.out]; exact hown6
        clear hown6
        go_roundw
        case rel => exact ⟨D ++ [c], S', p + 4, by go_num, HD2, HLEN2, HN2, HDL2, iv HE2.out, HO6.out, hb6⟩
        case measure => simp [intOf]; omega
      · have hwr : IntKind.i32.wrap c = c := by rw [IntKind.wrap_i32]; omega
        have hsc := fun w => ris_any c w
        rw [hq] at hsc
        have HSC := Lib.hid hsc
        clear hsc hq
        go_wp2_with (first | (go_at_call 35; refine (HSC.out _).mono ?_; rintro e w2 ⟨rfl, hw2⟩; obtain rfl := hw2) | (at_builtin; refine wpList_app slT_i32 _ _ _ rfl rfl rfl rfl (hown2.alloc _) (Row.ilit [65533] [_] rfl (by simp)) (by have := HLL.out; rw [ints_length, ints_length]; simp only [List.length_cons, List.length_nil]; omega) (by simp; omega) ?_; intro t6 w6 hown6 hg6))
        have hb6 := below_app hb2 (below_alloc _ _) (hown2.alloc _) hg6
        have HO6 : Hid (Own w.heap.size 21 w6 t6 (ints .i32 ((D ++ [c]).map fix4))) := by
          rw [← ints_append] at hown6
          show Own _ _ _ _ _
          rw [HMAP.out, HFX.out]; exact hown6
        clear hown6
        go_roundw
        case rel => exact ⟨D ++ [c], S', p + 4, by go_num, HD2, HLEN2, HN2, HDL2, iv HE2.out, HO6.out, hb6⟩
        case measure => simp [intOf]; omega
      · clear hq
        go_wp2_with (first | (at_builtin; refine wpList_app slT_i32 _ _ _ rfl rfl rfl rfl (hown2.alloc _) (Row.ilit [65533] [_] rfl (by simp)) (by have := HLL.out; rw [ints_length, ints_length]; simp only [List.length_cons, List.length_nil]; omega) (by simp; omega) ?_; intro t6 w6 hown6 hg6))
        have hb6 := below_app hb2 (below_alloc _ _) (hown2.alloc _) hg6
        have HO6 : Hid (Own w.heap.size 21 w6 t6 (ints .i32 ((D ++ [c]).map fix4))) := by
          rw [← ints_append] at hown6
          show Own _ _ _ _ _
          rw [HMAP.out, HFX.out]; exact hown6
        clear hown6
        go_roundw
        case rel => exact ⟨D ++ [c], S', p + 4, by go_num, HD2, HLEN2, HN2, HDL2, iv HE2.out, HO6.out, hb6⟩
        case measure => simp [intOf]; omega
end Go.Proofs.YtponfaglflmnkaaGreat
