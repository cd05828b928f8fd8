/- Walks: wide texts: the numbers of octets, little. -/
import Derived.Test.YtgfdebijcpdhbaaW45h
namespace Go.Proofs.Ytgfdebijcpdhbaa
open Go.RowKit
set_option maxHeartbeats 1000000
theorem TkP.up {wd : Int} {w w1 w' : World} {xs : List Int} {e : Ending} (h : TkP wd w1 xs e w') (hb : Below w.heap.size w w1) : TkP wd w xs e w' := by
  obtain ⟨t, h1, h2, h3⟩ := h
  exact ⟨t, h1, h2.mono hb.size, below_trans hb h3⟩
set_option maxRecDepth 100000 in
theorem takeL2_any (v : Value) (xs : List Int) (w : World) (h : Row w v (ints .u8 xs)) (hg : Rg 0 256 xs) (hl : xs.length ≤ 100000) :
    Calls Try.prog 43 #[.int .i64 2, .bool false, v] w fun e w' => TkP 2 w (sw2 xs) e w' := by
  obtain ⟨a, b, off, cp, rfl, _⟩ := id h.op
  have hsw := oSwap2_any _ xs w h (by omega)
  have hg := sw2_rng xs hg
  have hle := sw2_len xs
  have hl : (sw2 xs).length ≤ 100000 := by omega
  generalize sw2 xs = ys at *
  have HSW := Lib.hid hsw
  clear hsw hle
  go_enter Try.func43, Try.ntmps43
  go_wp2_with (go_at_call 16; refine (HSW.out).mono ?_; rintro e w1 ⟨t1, rfl, ho1, hb0⟩; have h1 := ho1.row; clear ho1; obtain ⟨at1, bt1, ot1, ct1, rfl, _⟩ := id h1.op)
  go_loopw [2, 8] (fun sv u wr => ∃ S D : List Int, Row w1 sv (ints .u8 S) ∧ Own w1.heap.size 52 wr u (ints .u32 D) ∧ Below w1.heap.size w1 wr ∧ Hid (num2 ys = D ++ num2 S) ∧ Hid (D.length + S.length ≤ ys.length) ∧ Hid (S.length % 2 = ys.length % 2) ∧ Hid (Rg 0 256 S)) (fun sv _ _ => lenOf sv)
  case atStart => exact ⟨ys, [], h1, Own.nil _ _ _, Below.refl _ _, rfl, by show _ ≤ _; simp, rfl, hg⟩
  case round =>
    obtain ⟨S, D, hrow, hown, hb, HN, HLEN, HMOD, HG⟩ := hrel
    have hlen := HLEN.out
    obtain ⟨a1, b1, o1, c1, rfl, C1⟩ := id hrow.op
    rcases Nat.lt_or_ge S.length 2 with hS | hS
    · have HF : Hid (num2 ys = D) := (by show _ = _; rw [HN.out, num2_short hS, List.append_nil])
      have HO : Hid (overW 2 ys = decide (0 < S.length)) := by
        show decide (0 < ys.length % 2) = _
        rw [← HMOD.out, Nat.mod_eq_of_lt hS]
      go_wp2
      go_ret2
      exact (TkP.mk (wd := 2) HF.out HO.out hown hb).up hb0
    · obtain ⟨x, y, S', rfl⟩ := len2 hS
      have hrng := HG.out
      have hx := hrng.cons.1
      have hy := hrng.cons.2.cons.1
      have HG2 : Hid (Rg 0 256 S') := hrng.cons.2.cons.2
      have hj0 : bits .or .u32 (0) x = x := by have := u32_join8 0 x (by omega) (by omega) (by omega) hx.1 hx.2; rwa [Int.zero_add] at this
      have hj1 : bits .or .u32 (x * 256) y = x * 256 + y := u32_join8 _ _ (by omega) (by omega) (by omega) hy.1 hy.2
      clear hrng
      go_wp2_with (refine wpList_slH slT_u8 _ _ rfl rfl rfl rfl (hrow.below hb) (by omega) (by simp [ints]; omega) ?_; intro v2 hv2; have r2 : Row w1 v2 (ints .u8 [x, y]) := hv2 w1 hrow; clear hv2; obtain ⟨a2, b2, o2, c2, rfl, C2⟩ := r2.op)
      go_loopw [9, 25] (fun nv i wq => ∃ j : Nat, i = .int .i64 j ∧ j ≤ 2 ∧ nv = .int .u32 (([0, x, x * 256 + y] : List Int).getD j 0) ∧ wq = wr) (fun _ i _ => 2 - (intOf i).toNat)
      case atStart => exact ⟨0, rfl, Nat.zero_le _, rfl, rfl⟩
      case round =>
        obtain ⟨j, rfl, hj, rfl, hw9⟩ := hrel
        obtain rfl := hw9.symm
        by_cases hlj : j < 2
        · obtain ⟨m, hm⟩ : ∃ m : Nat, m = j + 1 := ⟨_, rfl⟩
          rcases (by omega : j = 0 ∨ j = 1) with rfl | rfl
          · obtain ⟨q, HX, rfl, hc⟩ := C2.out 0 (by simp)
            have e9 := HX.out; obtain rfl := Option.some.inj e9
            have hc2 : wr.cell? ⟨b2, o2, none⟩ = some (.int .u8 x) := hc _ hb
            clear hc
            go_wp2
            go_roundw
            case rel => exact ⟨m, by subst hm; first | exact iv (by rfl) | go_num, by omega, by subst hm; first | rfl | exact iv (by first | exact hj0 | rfl), by first | rfl | trivial⟩
            case measure => simp [intOf]
          · obtain ⟨q, HX, rfl, hc⟩ := C2.out 1 (by simp)
            have e9 := HX.out; obtain rfl := Option.some.inj e9
            have hc2 : wr.cell? ⟨b2, o2 + 1, none⟩ = some (.int .u8 y) := hc _ hb
            clear hc
            go_wp2
            go_roundw
            case rel => exact ⟨m, by subst hm; first | exact iv (by rfl) | go_num, by omega, by subst hm; first | rfl | exact iv (by first | exact hj1 | rfl), by first | rfl | trivial⟩
            case measure => simp [intOf]
        · obtain rfl : j = 2 := by omega
          have hN2 : num2 ys = (D ++ [x * 256 + y]) ++ num2 S' := by rw [HN.out, num2, List.append_assoc]; rfl
          have HN2 := Lib.hid hN2
          clear hN2 hj0
          simp only [List.length_cons] at hlen hS
          have HLEN2 : Hid ((D ++ [x * 256 + y]).length + S'.length ≤ ys.length) := by show _ ≤ _; rw [List.length_append]; simp only [List.length_cons, List.length_nil]; omega
          have HMOD2 : Hid (S'.length % 2 = ys.length % 2) := by
            show _ = _
            rw [← HMOD.out]
            simp only [List.length_cons]
            omega
          go_wp2_with (first | (at_builtin; refine wpList_app slT_u32 _ _ _ rfl rfl rfl rfl (hown.alloc _) (Row.ilit [x * 256 + y] [_] rfl (by simp)) (by rw [ints_length, ints_length]; simp only [List.length_cons, List.length_nil]; omega) (by have := hb.size; simp; omega) ?_; intro t3 w3 hown3 hg3) | (refine wpList_slL slT_u8 _ _ rfl rfl rfl rfl (hrow.below (below_app hb (below_alloc _ _) (hown.alloc _) hg3)) (by omega) (by simp [ints]; omega) ?_; intro v4 hv4; have r4 : Row w1 v4 (ints .u8 S') := hv4 w1 hrow; clear hv4))
          have hb3 := below_app hb (below_alloc _ _) (hown.alloc _) hg3
          rw [← ints_append] at hown3
          obtain ⟨a4, b4, o4, c4, rfl, _⟩ := id r4.op
          go_roundw
          case rel => exact ⟨S', _, r4, hown3, hb3, HN2, HLEN2, HMOD2, HG2⟩
          case measure => simp only [lenOf, List.length_cons]; omega
set_option maxRecDepth 100000 in
theorem takeL4_any (v : Value) (xs : List Int) (w : World) (h : Row w v (ints .u8 xs)) (hg : Rg 0 256 xs) (hl : xs.length ≤ 100000) :
    Calls Try.prog 43 #[.int .i64 4, .bool false, v] w fun e w' => TkP 4 w (sw4 xs) e w' := by
  obtain ⟨a, b, off, cp, rfl, _⟩ := id h.op
  have hsw := oSwap4_any _ xs w h (by omega)
  have hg := sw4_rng xs hg
  have hle := sw4_len xs
  have hl : (sw4 xs).length ≤ 100000 := by omega
  generalize sw4 xs = ys at *
  have HSW := Lib.hid hsw
  clear hsw hle
  go_enter Try.func43, Try.ntmps43
  go_wp2_with (go_at_call 16; refine (HSW.out).mono ?_; rintro e w1 ⟨t1, rfl, ho1, hb0⟩; have h1 := ho1.row; clear ho1; obtain ⟨at1, bt1, ot1, ct1, rfl, _⟩ := id h1.op)
  go_loopw [2, 8] (fun sv u wr => ∃ S D : List Int, Row w1 sv (ints .u8 S) ∧ Own w1.heap.size 52 wr u (ints .u32 D) ∧ Below w1.heap.size w1 wr ∧ Hid (num4 ys = D ++ num4 S) ∧ Hid (D.length + S.length ≤ ys.length) ∧ Hid (S.length % 4 = ys.length % 4) ∧ Hid (Rg 0 256 S)) (fun sv _ _ => lenOf sv)
  case atStart => exact ⟨ys, [], h1, Own.nil _ _ _, Below.refl _ _, rfl, by show _ ≤ _; simp, rfl, hg⟩
  case round =>
    obtain ⟨S, D, hrow, hown, hb, HN, HLEN, HMOD, HG⟩ := hrel
    have hlen := HLEN.out
    obtain ⟨a1, b1, o1, c1, rfl, C1⟩ := id hrow.op
    rcases Nat.lt_or_ge S.length 4 with hS | hS
    · have HF : Hid (num4 ys = D) := (by show _ = _; rw [HN.out, num4_short hS, List.append_nil])
      have HO : Hid (overW 4 ys = decide (0 < S.length)) := by
        show decide (0 < ys.length % 4) = _
        rw [← HMOD.out, Nat.mod_eq_of_lt hS]
      go_wp2
      go_ret2
      exact (TkP.mk (wd := 4) HF.out HO.out hown hb).up hb0
    · obtain ⟨x, y, z, t, S', rfl⟩ := len4 hS
      have hrng := HG.out
      have hx := hrng.cons.1
      have hy := hrng.cons.2.cons.1
      have hz := hrng.cons.2.cons.2.cons.1
      have ht := hrng.cons.2.cons.2.cons.2.cons.1
      have HG2 : Hid (Rg 0 256 S') := hrng.cons.2.cons.2.cons.2.cons.2
      have hj0 : bits .or .u32 (0) x = x := by have := u32_join8 0 x (by omega) (by omega) (by omega) hx.1 hx.2; rwa [Int.zero_add] at this
      have hj1 : bits .or .u32 (x * 256) y = x * 256 + y := u32_join8 _ _ (by omega) (by omega) (by omega) hy.1 hy.2
      have hj2 : bits .or .u32 ((x * 256 + y) * 256) z = (x * 256 + y) * 256 + z := u32_join8 _ _ (by omega) (by omega) (by omega) hz.1 hz.2
      have hj3 : bits .or .u32 (((x * 256 + y) * 256 + z) * 256) t = ((x * 256 + y) * 256 + z) * 256 + t := u32_join8 _ _ (by omega) (by omega) (by omega) ht.1 ht.2
      clear hrng
      go_wp2_with (refine wpList_slH slT_u8 _ _ rfl rfl rfl rfl (hrow.below hb) (by omega) (by simp [ints]; omega) ?_; intro v2 hv2; have r2 : Row w1 v2 (ints .u8 [x, y, z, t]) := hv2 w1 hrow; clear hv2; obtain ⟨a2, b2, o2, c2, rfl, C2⟩ := r2.op)
      go_loopw [9, 25] (fun nv i wq => ∃ j : Nat, i = .int .i64 j ∧ j ≤ 4 ∧ nv = .int .u32 (([0, x, x * 256 + y, (x * 256 + y) * 256 + z, ((x * 256 + y) * 256 + z) * 256 + t] : List Int).getD j 0) ∧ wq = wr) (fun _ i _ => 4 - (intOf i).toNat)
      case atStart => exact ⟨0, rfl, Nat.zero_le _, rfl, rfl⟩
      case round =>
        obtain ⟨j, rfl, hj, rfl, hw9⟩ := hrel
        obtain rfl := hw9.symm
        by_cases hlj : j < 4
        · obtain ⟨m, hm⟩ : ∃ m : Nat, m = j + 1 := ⟨_, rfl⟩
          rcases (by omega : j = 0 ∨ j = 1 ∨ j = 2 ∨ j = 3) with rfl | rfl | rfl | rfl
          · obtain ⟨q, HX, rfl, hc⟩ := C2.out 0 (by simp)
            have e9 := HX.out; obtain rfl := Option.some.inj e9
            have hc2 : wr.cell? ⟨b2, o2, none⟩ = some (.int .u8 x) := hc _ hb
            clear hc
            go_wp2
            go_roundw
            case rel => exact ⟨m, by subst hm; first | exact iv (by rfl) | go_num, by omega, by subst hm; first | rfl | exact iv (by first | exact hj0 | rfl), by first | rfl | trivial⟩
            case measure => simp [intOf]
          · obtain ⟨q, HX, rfl, hc⟩ := C2.out 1 (by simp)
            have e9 := HX.out; obtain rfl := Option.some.inj e9
            have hc2 : wr.cell? ⟨b2, o2 + 1, none⟩ = some (.int .u8 y) := hc _ hb
            clear hc
            go_wp2
            go_roundw
            case rel => exact ⟨m, by subst hm; first | exact iv (by rfl) | go_num, by omega, by subst hm; first | rfl | exact iv (by first | exact hj1 | rfl), by first | rfl | trivial⟩
            case measure => simp [intOf]
          · obtain ⟨q, HX, rfl, hc⟩ := C2.out 2 (by simp)
            have e9 := HX.out; obtain rfl := Option.some.inj e9
            have hc2 : wr.cell? ⟨b2, o2 + 2, none⟩ = some (.int .u8 z) := hc _ hb
            clear hc
            go_wp2
            go_roundw
            case rel => exact ⟨m, by subst hm; first | exact iv (by rfl) | go_num, by omega, by subst hm; first | rfl | exact iv (by first | exact hj2 | rfl), by first | rfl | trivial⟩
            case measure => simp [intOf]
          · obtain ⟨q, HX, rfl, hc⟩ := C2.out 3 (by simp)
            have e9 := HX.out; obtain rfl := Option.some.inj e9
            have hc2 : wr.cell? ⟨b2, o2 + 3, none⟩ = some (.int .u8 t) := hc _ hb
            clear hc
            go_wp2
            go_roundw
            case rel => exact ⟨m, by subst hm; first | exact iv (by rfl) | go_num, by omega, by subst hm; first | rfl | exact iv (by first | exact hj3 | rfl), by first | rfl | trivial⟩
            case measure => simp [intOf]
        · obtain rfl : j = 4 := by omega
          have hN2 : num4 ys = (D ++ [((x * 256 + y) * 256 + z) * 256 + t]) ++ num4 S' := by rw [HN.out, num4, List.append_assoc]; rfl
          have HN2 := Lib.hid hN2
          clear hN2 hj0
          simp only [List.length_cons] at hlen hS
          have HLEN2 : Hid ((D ++ [((x * 256 + y) * 256 + z) * 256 + t]).length + S'.length ≤ ys.length) := by show _ ≤ _; rw [List.length_append]; simp only [List.length_cons, List.length_nil]; omega
          have HMOD2 : Hid (S'.length % 4 = ys.length % 4) := by
            show _ = _
            rw [← HMOD.out]
            simp only [List.length_cons]
            omega
          go_wp2_with (first | (at_builtin; refine wpList_app slT_u32 _ _ _ rfl rfl rfl rfl (hown.alloc _) (Row.ilit [((x * 256 + y) * 256 + z) * 256 + t] [_] rfl (by simp)) (by rw [ints_length, ints_length]; simp only [List.length_cons, List.length_nil]; omega) (by have := hb.size; simp; omega) ?_; intro t3 w3 hown3 hg3) | (refine wpList_slL slT_u8 _ _ rfl rfl rfl rfl (hrow.below (below_app hb (below_alloc _ _) (hown.alloc _) hg3)) (by omega) (by simp [ints]; omega) ?_; intro v4 hv4; have r4 : Row w1 v4 (ints .u8 S') := hv4 w1 hrow; clear hv4))
          have hb3 := below_app hb (below_alloc _ _) (hown.alloc _) hg3
          rw [← ints_append] at hown3
          obtain ⟨a4, b4, o4, c4, rfl, _⟩ := id r4.op
          go_roundw
          case rel => exact ⟨S', _, r4, hown3, hb3, HN2, HLEN2, HMOD2, HG2⟩
          case measure => simp only [lenOf, List.length_cons]; omega
theorem take_any (wd : Int) (big : Bool) (hw : wd = 2 ∨ wd = 4) (v : Value) (xs : List Int) (w : World) (h : Row w v (ints .u8 xs)) (hg : Rg 0 256 xs) (hl : xs.length ≤ 100000) :
    Calls Try.prog 43 #[.int .i64 wd, .bool big, v] w fun e w' => TkP wd w (big1 wd big xs) e w' := by
  rcases hw with rfl | rfl <;> cases big
  · exact takeL2_any v xs w h hg hl
  · exact takeB2_any v xs w h hg hl
  · exact takeL4_any v xs w h hg hl
  · exact takeB4_any v xs w h hg hl
end Go.Proofs.Ytgfdebijcpdhbaa
