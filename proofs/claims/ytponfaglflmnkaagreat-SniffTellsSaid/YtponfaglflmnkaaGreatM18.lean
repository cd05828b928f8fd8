/- Walks: wide texts: the numbers of octets, little. · Walks: wide texts: the signs of numbers. · Walks: wide texts: reading, by the program. · Walks: wide texts: marks, by the program. (laid together by program out of single texts). -/
import Derived.Test.YtponfaglflmnkaaGreatM17
namespace Go.Proofs.YtponfaglflmnkaaGreat
open Go.RowKit
set_option maxHeartbeats 1000000
theorem TkP.up {wd : Int} {w w1 w' : World} {xs : List Int} {e : Ending} (h : TkP wd w1 xs e w') (hb : Below w.heap.size w w1) : TkP wd w xs e w' := by
  obtain ⟨t, h1, h2, h3⟩ := h
  exact ⟨t, h1, h2.mono hb.size, below_trans hb h3⟩
set_option maxRecDepth 100000 in
theorem takeL2_any (v : Value) (xs : List Int) (w : World) (h : Row w v (ints .u8 xs)) (hg : Rg 0 256 xs) (hl : xs.length ≤ 100000) :
    Calls Tryz.prog 96 #[.int .i64 2, .bool false, v] w fun e w' => TkP 2 w (sw2 xs) e w' := by
  obtain ⟨a, b, off, cp, rfl, _⟩ := id h.op
  have hsw := oSwap2_any _ xs w h (by omega)
  have hg := sw2_rng xs hg
  have hle := sw2_len xs
  have hl : (sw2 xs).length ≤ 100000 := by omega
  generalize sw2 xs = ys at *
  have HSW := Lib.hid hsw
  clear hsw hle
  go_enter Tryz.func96, Tryz.ntmps96
  go_wp2_with (go_at_call 119; refine (HSW.out).mono ?_; rintro e w1 ⟨t1, rfl, ho1, hb0⟩; have h1 := ho1.row; clear ho1; obtain ⟨at1, bt1, ot1, ct1, rfl, _⟩ := id h1.op)
  go_loopw [2, 8] (fun sv u wr => ∃ S D : List Int, Row w1 sv (ints .u8 S) ∧ Own w1.heap.size 87 wr u (ints .u32 D) ∧ Below w1.heap.size w1 wr ∧ Hid (num2 ys = D ++ num2 S) ∧ Hid (D.length + S.length ≤ ys.length) ∧ Hid (S.length % 2 = ys.length % 2) ∧ Hid (Rg 0 256 S)) (fun sv _ _ => lenOf sv)
  case atStart => exact ⟨ys, [], h1, Own.nil _ _ _, Below.refl _ _, rfl, by show _ ≤ _; simp, rfl, hg⟩
  case round =>
    obtain ⟨S, D, hrow, hown, hb, HN, HLEN, HMOD, HG⟩ := hrel
    have hlen := HLEN.out
    obtain ⟨a1, b1, o1, c1, rfl, C1⟩ := id hrow.op
    rcases Nat.lt_or_ge S.length 2 with hS | hS
    · have HF : Hid (num2 ys = D) := (by show _ = _; rw [HN.out, num2_short hS, List.append_nil])
      have HO : Hid (overW 2 ys = decide (0 < S.length)) := by
        show decide (0 < ys.length % 2) = _
        rw [← HMOD.out, Nat.mod_eq_of_lt hS]
      go_wp2
      go_ret2
      exact (TkP.mk (wd := 2) HF.out HO.out hown hb).up hb0
    · obtain ⟨x, y, S', rfl⟩ := len2 hS
      have hrng := HG.out
      have hx := hrng.cons.1
      have hy := hrng.cons.2.cons.1
      have HG2 : Hid (Rg 0 256 S') := hrng.cons.2.cons.2
      have hj0 : bits .or .u32 (0) x = x := by have := u32_join8 0 x (by omega) (by omega) (by omega) hx.1 hx.2; rwa [Int.zero_add] at this
      have hj1 : bits .or .u32 (x * 256) y = x * 256 + y := u32_join8 _ _ (by omega) (by omega) (by omega) hy.1 hy.2
      clear hrng
      go_wp2_with (refine wpList_slH slT_u8 _ _ rfl rfl rfl rfl (hrow.below hb) (by omega) (by simp [ints]; omega) ?_; intro v2 hv2; have r2 : Row w1 v2 (ints .u8 [x, y]) := hv2 w1 hrow; clear hv2; obtain ⟨a2, b2, o2, c2, rfl, C2⟩ := r2.op)
      go_loopw [9, 25] (fun nv i wq => ∃ j : Nat, i = .int .i64 j ∧ j ≤ 2 ∧ nv = .int .u32 (([0, x, x * 256 + y] : List Int).getD j 0) ∧ wq = wr) (fun _ i _ => 2 - (intOf i).toNat)
      case atStart => exact ⟨0, rfl, Nat.zero_le _, rfl, rfl⟩
      case round =>
        obtain ⟨j, rfl, hj, rfl, hw9⟩ := hrel
        obtain rfl := hw9.symm
        by_cases hlj : j < 2
        · obtain ⟨m, hm⟩ : ∃ m : Nat, m = j + 1 := ⟨_, rfl⟩
          rcases (by omega : j = 0 ∨ j = 1) with rfl | rfl
          · obtain ⟨q, HX, rfl, hc⟩ := C2.out 0 (by simp)
            have e9 := HX.out; obtain rfl := Option.some.inj e9
            have hc2 : wr.cell? ⟨b2, o2, none⟩ = some (.int .u8 x) := hc _ hb
            clear hc
            go_wp2
            go_roundw
            case rel => exact ⟨m, by subst hm; first | exact iv (by rfl) | go_num, by omega, by subst hm; first | rfl | exact iv (by first | exact hj0 | rfl), by first | rfl | trivial⟩
            case measure => simp [intOf]
          · obtain ⟨q, HX, rfl, hc⟩ := C2.out 1 (by simp)
            have e9 := HX.out; obtain rfl := Option.some.inj e9
            have hc2 : wr.cell? ⟨b2, o2 + 1, none⟩ = some (.int .u8 y) := hc _ hb
            clear hc
            go_wp2
            go_roundw
            case rel => exact ⟨m, by subst hm; first | exact iv (by rfl) | go_num, by omega, by subst hm; first | rfl | exact iv (by first | exact hj1 | rfl), by first | rfl | trivial⟩
            case measure => simp [intOf]
        · obtain rfl : j = 2 := by omega
          have hN2 : num2 ys = (D ++ [x * 256 + y]) ++ num2 S' := by rw [HN.out, num2, List.append_assoc]; rfl
          have HN2 := Lib.hid hN2
          clear hN2 hj0
          simp only [List.length_cons] at hlen hS
          have HLEN2 : Hid ((D ++ [x * 256 + y]).length + S'.length ≤ ys.length) := by show _ ≤ _; rw [List.length_append]; simp only [List.length_cons, List.length_nil]; omega
          have HMOD2 : Hid (S'.length % 2 = ys.length % 2) := by
            show _ = _
            rw [← HMOD.out]
            simp only [List.length_cons]
            omega
          go_wp2_with (first | (at_builtin; refine wpList_app slT_u32 _ _ _ rfl rfl rfl rfl (hown.alloc _) (Row.ilit [x * 256 + y] [_] rfl (by simp)) (by rw [ints_length, ints_length]; simp only [List.length_cons, List.length_nil]; omega) (by have := hb.size; simp; omega) ?_; intro t3 w3 hown3 hg3) | (refine wpList_slL slT_u8 _ _ rfl rfl rfl rfl (hrow.below (below_app hb (below_alloc _ _) (hown.alloc _) hg3)) (by omega) (by simp [ints]; omega) ?_; intro v4 hv4; have r4 : Row w1 v4 (ints .u8 S') := hv4 w1 hrow; clear hv4))
          have hb3 := below_app hb (below_alloc _ _) (hown.alloc _) hg3
          rw [← ints_append] at hown3
          obtain ⟨a4, b4, o4, c4, rfl, _⟩ := id r4.op
          go_roundw
          case rel => exact ⟨S', _, r4, hown3, hb3, HN2, HLEN2, HMOD2, HG2⟩
          case measure => simp only [lenOf, List.length_cons]; omega
set_option maxRecDepth 100000 in
theorem takeL4_any (v : Value) (xs : List Int) (w : World) (h : Row w v (ints .u8 xs)) (hg : Rg 0 256 xs) (hl : xs.length ≤ 100000) :
    Calls Tryz.prog 96 #[.int .i64 4, .bool false, v] w fun e w' => TkP 4 w (sw4 xs) e w' := by
  obtain ⟨a, b, off, cp, rfl, _⟩ := id h.op
  have hsw := oSwap4_any _ xs w h (by omega)
  have hg := sw4_rng xs hg
  have hle := sw4_len xs
  have hl : (sw4 xs).length ≤ 100000 := by omega
  generalize sw4 xs = ys at *
  have HSW := Lib.hid hsw
  clear hsw hle
  go_enter Tryz.func96, Tryz.ntmps96
  go_wp2_with (go_at_call 119; refine (HSW.out).mono ?_; rintro e w1 ⟨t1, rfl, ho1, hb0⟩; have h1 := ho1.row; clear ho1; obtain ⟨at1, bt1, ot1, ct1, rfl, _⟩ := id h1.op)
  go_loopw [2, 8] (fun sv u wr => ∃ S D : List Int, Row w1 sv (ints .u8 S) ∧ Own w1.heap.size 87 wr u (ints .u32 D) ∧ Below w1.heap.size w1 wr ∧ Hid (num4 ys = D ++ num4 S) ∧ Hid (D.length + S.length ≤ ys.length) ∧ Hid (S.length % 4 = ys.length % 4) ∧ Hid (Rg 0 256 S)) (fun sv _ _ => lenOf sv)
  case atStart => exact ⟨ys, [], h1, Own.nil _ _ _, Below.refl _ _, rfl, by show _ ≤ _; simp, rfl, hg⟩
  case round =>
    obtain ⟨S, D, hrow, hown, hb, HN, HLEN, HMOD, HG⟩ := hrel
    have hlen := HLEN.out
    obtain ⟨a1, b1, o1, c1, rfl, C1⟩ := id hrow.op
    rcases Nat.lt_or_ge S.length 4 with hS | hS
    · have HF : Hid (num4 ys = D) := (by show _ = _; rw [HN.out, num4_short hS, List.append_nil])
      have HO : Hid (overW 4 ys = decide (0 < S.length)) := by
        show decide (0 < ys.length % 4) = _
        rw [← HMOD.out, Nat.mod_eq_of_lt hS]
      go_wp2
      go_ret2
      exact (TkP.mk (wd := 4) HF.out HO.out hown hb).up hb0
    · obtain ⟨x, y, z, t, S', rfl⟩ := len4 hS
      have hrng := HG.out
      have hx := hrng.cons.1
      have hy := hrng.cons.2.cons.1
      have hz := hrng.cons.2.cons.2.cons.1
      have ht := hrng.cons.2.cons.2.cons.2.cons.1
      have HG2 : Hid (Rg 0 256 S') := hrng.cons.2.cons.2.cons.2.cons.2
      have hj0 : bits .or .u32 (0) x = x := by have := u32_join8 0 x (by omega) (by omega) (by omega) hx.1 hx.2; rwa [Int.zero_add] at this
      have hj1 : bits .or .u32 (x * 256) y = x * 256 + y := u32_join8 _ _ (by omega) (by omega) (by omega) hy.1 hy.2
      have hj2 : bits .or .u32 ((x * 256 + y) * 256) z = (x * 256 + y) * 256 + z := u32_join8 _ _ (by omega) (by omega) (by omega) hz.1 hz.2
      have hj3 : bits .or .u32 (((x * 256 + y) * 256 + z) * 256) t = ((x * 256 + y) * 256 + z) * 256 + t := u32_join8 _ _ (by omega) (by omega) (by omega) ht.1 ht.2
      clear hrng
      go_wp2_with (refine wpList_slH slT_u8 _ _ rfl rfl rfl rfl (hrow.below hb) (by omega) (by simp [ints]; omega) ?_; intro v2 hv2; have r2 : Row w1 v2 (ints .u8 [x, y, z, t]) := hv2 w1 hrow; clear hv2; obtain ⟨a2, b2, o2, c2, rfl, C2⟩ := r2.op)
      go_loopw [9, 25] (fun nv i wq => ∃ j : Nat, i = .int .i64 j ∧ j ≤ 4 ∧ nv = .int .u32 (([0, x, x * 256 + y, (x * 256 + y) * 256 + z, ((x * 256 + y) * 256 + z) * 256 + t] : List Int).getD j 0) ∧ wq = wr) (fun _ i _ => 4 - (intOf i).toNat)
      case atStart => exact ⟨0, rfl, Nat.zero_le _, rfl, rfl⟩
      case round =>
        obtain ⟨j, rfl, hj, rfl, hw9⟩ := hrel
        obtain rfl := hw9.symm
        by_cases hlj : j < 4
        · obtain ⟨m, hm⟩ : ∃ m : Nat, m = j + 1 := ⟨_, rfl⟩
          rcases (by omega : j = 0 ∨ j = 1 ∨ j = 2 ∨ j = 3) with rfl | rfl | rfl | rfl
          · obtain ⟨q, HX, rfl, hc⟩ := C2.out 0 (by simp)
            have e9 := HX.out; obtain rfl := Option.some.inj e9
            have hc2 : wr.cell? ⟨b2, o2, none⟩ = some (.int .u8 x) := hc _ hb
            clear hc
            go_wp2
            go_roundw
            case rel => exact ⟨m, by subst hm; first | exact iv (by rfl) | go_num, by omega, by subst hm; first | rfl | exact iv (by first | exact hj0 | rfl), by first | rfl | trivial⟩
            case measure => simp [intOf]
          · obtain ⟨q, HX, rfl, hc⟩ := C2.out 1 (by simp)
            have e9 := HX.out; obtain rfl := Option.some.inj e9
            have hc2 : wr.cell? ⟨b2, o2 + 1, none⟩ = some (.int .u8 y) := hc _ hb
            clear hc
            go_wp2
            go_roundw
            case rel => exact ⟨m, by subst hm; first | exact iv (by rfl) | go_num, by omega, by subst hm; first | rfl | exact iv (by first | exact hj1 | rfl), by first | rfl | trivial⟩
            case measure => simp [intOf]
          · obtain ⟨q, HX, rfl, hc⟩ := C2.out 2 (by simp)
            have e9 := HX.out; obtain rfl := Option.some.inj e9
            have hc2 : wr.cell? ⟨b2, o2 + 2, none⟩ = some (.int .u8 z) := hc _ hb
            clear hc
            go_wp2
            go_roundw
            case rel => exact ⟨m, by subst hm; first | exact iv (by rfl) | go_num, by omega, by subst hm; first | rfl | exact iv (by first | exact hj2 | rfl), by first | rfl | trivial⟩
            case measure => simp [intOf]
          · obtain ⟨q, HX, rfl, hc⟩ := C2.out 3 (by simp)
            have e9 := HX.out; obtain rfl := Option.some.inj e9
            have hc2 : wr.cell? ⟨b2, o2 + 3, none⟩ = some (.int .u8 t) := hc _ hb
            clear hc
            go_wp2
            go_roundw
            case rel => exact ⟨m, by subst hm; first | exact iv (by rfl) | go_num, by omega, by subst hm; first | rfl | exact iv (by first | exact hj3 | rfl), by first | rfl | trivial⟩
            case measure => simp [intOf]
        · obtain rfl : j = 4 := by omega
          have hN2 : num4 ys = (D ++ [((x * 256 + y) * 256 + z) * 256 + t]) ++ num4 S' := by rw [HN.out, num4, List.append_assoc]; rfl
          have HN2 := Lib.hid hN2
          clear hN2 hj0
          simp only [List.length_cons] at hlen hS
          have HLEN2 : Hid ((D ++ [((x * 256 + y) * 256 + z) * 256 + t]).length + S'.length ≤ ys.length) := by show _ ≤ _; rw [List.length_append]; simp only [List.length_cons, List.length_nil]; omega
          have HMOD2 : Hid (S'.length % 4 = ys.length % 4) := by
            show _ = _
            rw [← HMOD.out]
            simp only [List.length_cons]
            omega
          go_wp2_with (first | (at_builtin; refine wpList_app slT_u32 _ _ _ rfl rfl rfl rfl (hown.alloc _) (Row.ilit [((x * 256 + y) * 256 + z) * 256 + t] [_] rfl (by simp)) (by rw [ints_length, ints_length]; simp only [List.length_cons, List.length_nil]; omega) (by have := hb.size; simp; omega) ?_; intro t3 w3 hown3 hg3) | (refine wpList_slL slT_u8 _ _ rfl rfl rfl rfl (hrow.below (below_app hb (below_alloc _ _) (hown.alloc _) hg3)) (by omega) (by simp [ints]; omega) ?_; intro v4 hv4; have r4 : Row w1 v4 (ints .u8 S') := hv4 w1 hrow; clear hv4))
          have hb3 := below_app hb (below_alloc _ _) (hown.alloc _) hg3
          rw [← ints_append] at hown3
          obtain ⟨a4, b4, o4, c4, rfl, _⟩ := id r4.op
          go_roundw
          case rel => exact ⟨S', _, r4, hown3, hb3, HN2, HLEN2, HMOD2, HG2⟩
          case measure => simp only [lenOf, List.length_cons]; omega
theorem take_any (wd : Int) (big : Bool) (hw : wd = 2 ∨ wd = 4) (v : Value) (xs : List Int) (w : World) (h : Row w v (ints .u8 xs)) (hg : Rg 0 256 xs) (hl : xs.length ≤ 100000) :
    Calls Tryz.prog 96 #[.int .i64 wd, .bool big, v] w fun e w' => TkP wd w (big1 wd big xs) e w' := by
  rcases hw with rfl | rfl <;> cases big
  · exact takeL2_any v xs w h hg hl
  · exact takeB2_any v xs w h hg hl
  · exact takeL4_any v xs w h hg hl
  · exact takeB4_any v xs w h hg hl
end Go.Proofs.YtponfaglflmnkaaGreat
namespace Go.Proofs.YtponfaglflmnkaaGreat
open Go.RowKit
set_option maxHeartbeats 1000000
def TxP (wd : Int) (w : World) (L : List Int) (e : Ending) (w' : World) : Prop := ∃ t, e = .returned (.tuple #[t, .bool (rightW wd L)]) ∧ Own w.heap.size 21 w' t (ints .i32 (textW wd L)) ∧ Below w.heap.size w w'
theorem TxP.mk {wd : Int} {w w' : World} {L D : List Int} {t : Value} {o : Bool} (h1 : textW wd L = D) (h2 : rightW wd L = o) (h3 : Own w.heap.size 21 w' t (ints .i32 D)) (h4 : Below w.heap.size w w') : TxP wd w L (.returned (.tuple #[t, .bool o])) w' := ⟨t, by rw [h2], by rw [h1]; exact h3, h4⟩
set_option maxRecDepth 100000 in
theorem text2_any (v : Value) (L : List Int) (w : World) (h : Row w v (ints .u32 L)) (hg : Rg 0 65536 L) (hl : L.length ≤ 100000) :
    Calls Tryz.prog 97 #[.int .i64 2, v] w fun e w' => TxP 2 w L e w' := by
  obtain ⟨a, b, off, cp, rfl, HC⟩ := id h.op
  have hR := fun v w' h' => uRead_any v L w' h' hg (by omega)
  have hT := fun v w' h' => uRight_any v L w' h' hg (by omega)
  have HR := Lib.hid hR; have HT := Lib.hid hT
  clear hR hT
  go_enter Tryz.func97, Tryz.ntmps97
  go_wp2
  go_loopw [6, 18] (fun u i wr => ∃ k : Nat, i = .int .i64 k ∧ k ≤ L.length ∧ Own w.heap.size 101 wr u (ints .u16 (L.take k)) ∧ Below w.heap.size w wr) (fun _ i _ => L.length - (intOf i).toNat)
  case atStart => exact ⟨0, rfl, Nat.zero_le _, Own.nil _ _ _, Below.refl _ _⟩
  case round =>
    obtain ⟨k, rfl, hk, hown, hb⟩ := hrel
    by_cases hlt : k < L.length
    · obtain ⟨x, HX, rfl, hc⟩ := HC.out k hlt
      replace hc := hc _ hb
      have hxr := hg.get HX.out
      have hwr : IntKind.u16.wrap x = x := by simp only [IntKind.wrap_u16]; omega
      have HT9 : Hid (L.take (k + 1) = L.take k ++ [x]) := by show _ = _; rw [List.take_add_one, HX.out]; rfl
      clear hxr
      go_wp2_with (at_builtin; refine wpList_app slT_u16 _ _ _ rfl rfl rfl rfl (hown.alloc _) (Row.ilit [x] [_] rfl (by simp)) (by rw [ints_length, ints_length, List.length_take]; simp only [List.length_cons, List.length_nil]; omega) (by have := hb.size; simp; omega) ?_; intro t3 w3 hown3 hg3)
      have hb3 := below_app hb (below_alloc _ _) (hown.alloc _) hg3
      rw [← ints_append, ← HT9.out] at hown3
      go_roundw
      case rel => exact ⟨k + 1, by go_num, by omega, hown3, hb3⟩
      case measure => simp [intOf]; omega
    · obtain rfl : k = L.length := by omega
      rw [List.take_length] at hown
      have r1 := hown.row
      clear hown
      go_wp2_with (first | (go_at_call 120; refine (HR.out _ _ r1).mono ?_; rintro e w2 ⟨t2, rfl, ho2, hb2⟩) | (go_at_call 121; refine (HT.out _ _ (r1.below hb2)).mono ?_; rintro e w3 ⟨rfl, hb3⟩))
      go_ret2
      exact TxP.mk (wd := 2) rfl rfl ((ho2.below hb3).mono hb.size) (below_trans (below_trans hb hb2) hb3)
set_option maxRecDepth 100000 in
theorem text4_any (v : Value) (L : List Int) (w : World) (h : Row w v (ints .u32 L)) (hg : Rg 0 4294967296 L) (hl : L.length ≤ 100000) :
    Calls Tryz.prog 97 #[.int .i64 4, v] w fun e w' => TxP 4 w L e w' := by
  obtain ⟨a, b, off, cp, rfl, HC⟩ := id h.op
  go_enter Tryz.func97, Tryz.ntmps97
  go_wp2
  go_loopw [9, 10, 34] (fun u r i wr => ∃ k : Nat, i = .int .i64 k ∧ k ≤ L.length ∧ r = .bool ((L.take k).all scB) ∧ Own w.heap.size 21 wr u (ints .i32 ((L.take k).map fix4)) ∧ Below w.heap.size w wr) (fun _ _ i _ => L.length - (intOf i).toNat)
  case atStart => exact ⟨0, rfl, Nat.zero_le _, rfl, Own.nil _ _ _, Below.refl _ _⟩
  case round =>
    obtain ⟨k, rfl, hk, rfl, hown, hb⟩ := hrel
    by_cases hlt : k < L.length
    · obtain ⟨x, HX, rfl, hc⟩ := HC.out k hlt
      replace hc := hc _ hb
      have hxr := hg.get HX.out
      have HT9 : Hid ((L.take (k + 1)).map fix4 = (L.take k).map fix4 ++ [fix4 x]) := by show _ = _; rw [List.take_add_one, HX.out, List.map_append]; rfl
      have HA9 : Hid ((L.take (k + 1)).all scB = ((L.take k).all scB && scB x)) := by show _ = _; rw [List.take_add_one, HX.out, List.all_append]; simp
      have HLL : Hid (((L.take k).map fix4).length ≤ 100000) := by show _ ≤ _; rw [List.length_map, List.length_take]; omega
      generalize (L.take k).map fix4 = D at *
      generalize (L.take k).all scB = q at *
      rcases Decidable.em (x ≤ 1114111) with hx | hx
      · have hwr : IntKind.i32.wrap x = x := by rw [IntKind.wrap_i32]; omega
        have hsc := fun w => is_any x w (by omega) (by omega)
        obtain ⟨z, hz⟩ : ∃ z, scB x = z := ⟨_, rfl⟩
        rw [hz] at hsc HA9
        have HSC := Lib.hid hsc
        clear hsc
        rcases z with _ | _
        · have HF : Hid (fix4 x = 65533) := by show _ = _; rw [fix4, hz]; rfl
          have HQ : Hid ((L.take (k + 1)).all scB = false) := by show _ = _; rw [HA9.out, Bool.and_false]
          clear hz hxr HA9
          go_wp2_with (first | (go_at_call 122; refine (HSC.out _).mono ?_; rintro e w2 ⟨rfl, hw2⟩; obtain rfl := hw2) | (at_builtin; refine wpList_app slT_i32 _ _ _ rfl rfl rfl rfl (hown.alloc _) (Row.ilit [65533] [_] rfl (by simp)) (by have := HLL.out; rw [ints_length, ints_length]; simp only [List.length_cons, List.length_nil]; omega) (by have := hb.size; simp; omega) ?_; intro t3 w3 hown3 hg3))
          have hb3 := below_app hb (below_alloc _ _) (hown.alloc _) hg3
          rw [← ints_append, ← HF.out, ← HT9.out] at hown3
          go_roundw
          case rel => exact ⟨k + 1, by go_num, by omega, by rw [HQ.out], hown3, hb3⟩
          case measure => simp [intOf]; omega
        · have HF : Hid (fix4 x = x) := by show _ = _; rw [fix4, hz]; rfl
          have HQ : Hid ((L.take (k + 1)).all scB = q) := by show _ = _; rw [HA9.out, Bool.and_true]
          clear hz hxr HA9
          go_wp2_with (first | (go_at_call 122; refine (HSC.out _).mono ?_; rintro e w2 ⟨rfl, hw2⟩; obtain rfl := hw2) | (at_builtin; refine wpList_app slT_i32 _ _ _ rfl rfl rfl rfl (hown.alloc _) (Row.ilit [x] [_] rfl (by simp)) (by have := HLL.out; rw [ints_length, ints_length]; simp only [List.length_cons, List.length_nil]; omega) (by have := hb.size; simp; omega) ?_; intro t3 w3 hown3 hg3))
          have hb3 := below_app hb (below_alloc _ _) (hown.alloc _) hg3
          have HO3 : Hid (Own w.heap.size 21 w3 t3 (ints .i32 ((L.take (k + 1)).map fix4))) := by
            rw [← ints_append] at hown3
            show Own _ _ _ _ _
            rw [HT9.out, HF.out]; exact hown3
          clear hown3
          go_roundw
          case rel => exact ⟨k + 1, by go_num, by omega, by rw [HQ.out], HO3.out, hb3⟩
          case measure => simp [intOf]; omega
      · have hz : scB x = false := decide_eq_false (by omega)
        rw [hz] at HA9
        have HF : Hid (fix4 x = 65533) := by show _ = _; rw [fix4, hz]; rfl
        have HQ : Hid ((L.take (k + 1)).all scB = false) := by show _ = _; rw [HA9.out, Bool.and_false]
        clear hz hxr HA9
        go_wp2_with (first | (at_builtin; refine wpList_app slT_i32 _ _ _ rfl rfl rfl rfl (hown.alloc _) (Row.ilit [65533] [_] rfl (by simp)) (by have := HLL.out; rw [ints_length, ints_length]; simp only [List.length_cons, List.length_nil]; omega) (by have := hb.size; simp; omega) ?_; intro t3 w3 hown3 hg3))
        have hb3 := below_app hb (below_alloc _ _) (hown.alloc _) hg3
        rw [← ints_append, ← HF.out, ← HT9.out] at hown3
        go_roundw
        case rel => exact ⟨k + 1, by go_num, by omega, by rw [HQ.out], hown3, hb3⟩
        case measure => simp [intOf]; omega
    · obtain rfl : k = L.length := by omega
      rw [List.take_length] at hown ⊢
      have HO := Lib.hid hown
      generalize hq : L.all scB = q at *
      have HQ := Lib.hid hq
      clear hown hq
      go_wp2
      go_ret2
      exact TxP.mk (wd := 4) rfl HQ.out HO.out hb
end Go.Proofs.YtponfaglflmnkaaGreat
namespace Go.Proofs.YtponfaglflmnkaaGreat
open Go.RowKit
set_option maxHeartbeats 1000000
theorem big1_rng {wd : Int} {big : Bool} {xs : List Int} (h : Rg 0 256 xs) : Rg 0 256 (big1 wd big xs) := by
  unfold big1; split
  · exact h
  · exact sw_rng h
theorem big1_len (wd : Int) (big : Bool) (xs : List Int) : (big1 wd big xs).length = xs.length := by
  unfold big1; split
  · rfl
  · exact sw_len wd xs
theorem numW_rng {wd : Int} {xs : List Int} (h : Rg 0 256 xs) : Rg 0 4294967296 (numW wd xs) ∧ (wd = 2 → Rg 0 65536 (numW wd xs)) := by
  refine ⟨?_, fun h2 => ?_⟩
  · unfold numW; split
    · exact num4_rng xs h
    · intro x hx; have := num2_rng xs h x hx; omega
  · unfold numW; rw [if_neg (by omega)]; exact num2_rng xs h
theorem numW_len (wd : Int) (xs : List Int) : (numW wd xs).length ≤ xs.length := by
  unfold numW; split
  · rw [num4_len]; omega
  · rw [num2_len]; omega
theorem text_any (wd : Int) (hw : wd = 2 ∨ wd = 4) (v : Value) (L : List Int) (w : World) (h : Row w v (ints .u32 L)) (hg : Rg 0 4294967296 L ∧ (wd = 2 → Rg 0 65536 L)) (hl : L.length ≤ 100000) :
    Calls Tryz.prog 97 #[.int .i64 wd, v] w fun e w' => TxP wd w L e w' := by
  rcases hw with rfl | rfl
  · exact text2_any v L w h (hg.2 rfl) hl
  · exact text4_any v L w h hg.1 hl
theorem uread_len : ∀ (k : Nat) (xs : List Int), xs.length ≤ k → (uread xs).length ≤ xs.length
  | _, [], _ => by rw [uread_nil]; simp
  | 0, x :: r, h => by simp at h
  | k + 1, x :: r, h => by
    have hn := uone_n x r
    rw [uread_cons, List.length_cons]
    have ih := uread_len k ((x :: r).drop (uone x r).2.1.toNat) (by rw [List.length_drop]; simp only [List.length_cons] at h ⊢; omega)
    rw [List.length_drop] at ih
    simp only [List.length_cons] at ih ⊢
    omega
theorem textW_len (wd : Int) (L : List Int) : (textW wd L).length ≤ L.length := by
  unfold textW; split
  · rw [List.length_map]; exact Nat.le_refl _
  · rw [List.length_map]; exact uread_len _ _ (Nat.le_refl _)
theorem overW_len {wd : Int} {xs ys : List Int} (h : xs.length = ys.length) : overW wd xs = overW wd ys := by rw [overW, overW, h]
def RdP (w : World) (T : List Int) (er : Int) (e : Ending) (w' : World) : Prop := ∃ t, e = .returned (.tuple #[t, .int .i64 er]) ∧ Own w.heap.size 21 w' t (ints .i32 T) ∧ Below w.heap.size w w'
theorem RdP.mk {w w' : World} {T D : List Int} {t : Value} {er er' : Int} (h1 : T = D) (h2 : er = er') (h3 : Own w.heap.size 21 w' t (ints .i32 D)) (h4 : Below w.heap.size w w') : RdP w T er (.returned (.tuple #[t, .int .i64 er'])) w' := ⟨t, by rw [h2], by rw [h1]; exact h3, h4⟩
set_option maxRecDepth 100000 in
theorem wread_any (wd : Int) (big : Bool) (v : Value) (xs : List Int) (w : World) (h : Row w v (ints .u8 xs)) (hg : Rg 0 256 xs) (hl : xs.length ≤ 10000) :
    Calls Tryz.prog 73 #[.int .i64 wd, .bool big, v] w fun e w' => RdP w (readT wd big xs) (readE wd big xs) e w' := by
  have hb := Below.refl w.heap.size w
  obtain ⟨a, b, off, cp, rfl, _⟩ := id h.op
  rcases Decidable.em (wd = 2 ∨ wd = 4) with hw | hw
  · have hwb : (wd == 2 || wd == 4) = true := by rcases hw with rfl | rfl <;> rfl
    have hI := fun w => is_two wd w
    rw [hwb] at hI
    have hT := take_any wd big hw _ xs w h hg (by omega)
    have hXl := numW_len wd (big1 wd big xs)
    rw [big1_len] at hXl
    have hX := fun v w' h' => text_any wd hw v (numW wd (big1 wd big xs)) w' h' (numW_rng (big1_rng hg)) (by omega)
    have hov := overW_len (wd := wd) (big1_len wd big xs)
    have hTl := textW_len wd (numW wd (big1 wd big xs))
    have eT : readT wd big xs = if overW wd xs then textW wd (numW wd (big1 wd big xs)) ++ [65533] else textW wd (numW wd (big1 wd big xs)) := if_pos hw
    have eE : readE wd big xs = if overW wd xs then 4 else if rightW wd (numW wd (big1 wd big xs)) then 0 else 3 := if_pos hw
    rw [← hov] at eT eE
    generalize big1 wd big xs = ys at *
    unfold TkP at hT
    unfold TxP at hX
    generalize numW wd ys = L at *
    have HTL : Hid ((textW wd L).length ≤ 10000) := by show _ ≤ _; omega
    generalize textW wd L = T at *
    generalize rightW wd L = r at *
    generalize overW wd ys = o at *
    generalize readT wd big xs = RT at *
    generalize readE wd big xs = RE at *
    have HI := Lib.hid hI; have HT := Lib.hid hT; have HX := Lib.hid hX
    clear hI hT hX hXl hov hTl hwb hw
    rcases o with _ | _
    · rcases r with _ | _
      all_goals
        have ET := Lib.hid eT; have EE := Lib.hid eE
        clear eT eE
        go_enter Tryz.func73, Tryz.ntmps73
        go_wp2_with (first | (go_at_call 90; refine (HI.out _).mono ?_; rintro e w1 ⟨rfl, hw1⟩; obtain rfl := hw1.symm) | (go_at_call 96; refine (HT.out).mono ?_; rintro e w2 ⟨t2, rfl, ho2, hb2⟩) | (go_at_call 97; refine (HX.out _ _ ho2.row).mono ?_; rintro e w3 ⟨t3, rfl, ho3, hb3⟩))
        go_ret2
        exact RdP.mk ET.out EE.out (ho3.mono hb2.size) (below_trans hb2 hb3)
    · have ET := Lib.hid eT; have EE := Lib.hid eE
      clear eT eE
      go_enter Tryz.func73, Tryz.ntmps73
      go_wp2_with (first | (go_at_call 90; refine (HI.out _).mono ?_; rintro e w1 ⟨rfl, hw1⟩; obtain rfl := hw1.symm) | (go_at_call 96; refine (HT.out).mono ?_; rintro e w2 ⟨t2, rfl, ho2, hb2⟩) | (go_at_call 97; refine (HX.out _ _ ho2.row).mono ?_; rintro e w3 ⟨t3, rfl, ho3, hb3⟩; have ho4 := ho3.mono hb2.size; have hb4 := below_trans hb2 hb3; have hz4 := hb4.size) | (at_builtin; refine wpList_app slT_i32 _ _ _ rfl rfl rfl rfl (ho4.alloc _) (Row.ilit [65533] [_] rfl (by simp)) (by have := HTL.out; rw [ints_length, ints_length]; simp only [List.length_cons, List.length_nil]; omega) (by simp; omega) ?_; intro t5 w5 hown5 hg5))
      have hb5 := below_app hb4 (below_alloc _ _) (ho4.alloc _) hg5
      rw [← ints_append] at hown5
      go_ret2
      exact RdP.mk ET.out EE.out hown5 hb5
  · have hwb : (wd == 2 || wd == 4) = false := by
      rw [beq_false_of_ne (by omega), beq_false_of_ne (by omega)]; rfl
    have hI := fun w => is_two wd w
    rw [hwb] at hI
    have HI := Lib.hid hI
    have ET : Hid (readT wd big xs = []) := if_neg hw
    have EE : Hid (readE wd big xs = 1) := if_neg hw
    clear hI hwb hw
    go_enter Tryz.func73, Tryz.ntmps73
    go_wp2_with (first | (go_at_call 90; refine (HI.out _).mono ?_; rintro e w1 ⟨rfl, hw1⟩; obtain rfl := hw1.symm))
    go_ret2
    exact RdP.mk ET.out EE.out (Own.nil _ _ _) hb
theorem wRead_any2 (wd : Int) (big : Bool) (v : Value) (xs : List Int) (w : World) (h : Row w v (ints .u8 xs)) (hg : Rg 0 256 xs) (hl : xs.length ≤ 10000) :
    Calls Tryz.prog 47 #[.int .i64 wd, .bool big, v] w fun e w' => ∃ t, e = .returned t ∧ Own w.heap.size 21 w' t (ints .i32 (readT wd big xs)) ∧ Below w.heap.size w w' := by
  have hr := wread_any wd big v xs w h hg hl
  generalize readT wd big xs = T at *
  generalize readE wd big xs = er at *
  unfold RdP at hr
  have HR := Lib.hid hr; clear hr
  go_enter Tryz.func47, Tryz.ntmps47
  go_wp2_with (go_at_call 73; refine (HR.out).mono ?_; rintro e w1 ⟨t1, rfl, ho1, hb1⟩)
  go_ret
  exact ⟨_, rfl, ho1, hb1⟩
def strictT (wd : Int) (big : Bool) (xs : List Int) : List Int := if readE wd big xs = 0 then readT wd big xs else []
end Go.Proofs.YtponfaglflmnkaaGreat
namespace Go.Proofs.YtponfaglflmnkaaGreat
open Go.RowKit
set_option maxHeartbeats 1000000
theorem row_str {w : World} {a : Option Addr} {n c : Nat} (xs : List Int) (h : Row w (.slice a n c) (ints .u8 xs)) :
    (convert 22 9 (.slice a n c)).run Tryz.prog w = .ok (.string (strOfNums xs)) w := by
  obtain ⟨a', b, off, cap, he, hc, hm, ha, hcell⟩ := h.int
  cases he
  cases a with
  | none =>
    have h0 : xs = [] := by
      rcases ha with h9 | ⟨h9, _⟩
      · cases h9
      · exact h9
    subst h0
    exact run_convert_bytes_nil w 22 5 Tryz.underlying22 Tryz.underlying5 _ _ 9 Tryz.underlying9
  | some ad =>
    rcases ha with h9 | ⟨h9, _⟩
    · obtain rfl := Option.some.inj h9
      exact run_convert_bytes_arg w 22 5 Tryz.underlying22 Tryz.underlying5 b off _ _ xs rfl (fun i hi => by
        rw [hcell i xs[i] (List.getElem?_eq_getElem hi)]; simp [List.getD, hi]) 9 Tryz.underlying9
    · subst h9
      have hl : (loadCells ad 0).run Tryz.prog w = .ok #[] w := by
        have := run_loadCells_list (P := Tryz.prog) w ad [] (fun j v hj => by simp at hj)
        simpa using this
      show (convert 22 9 (.slice (some ad) 0 c)).run Tryz.prog w = _
      rw [run_convert_bytes_string w 22 9 5 _ 0 c Tryz.underlying22 Tryz.underlying5 Tryz.underlying9, run_bytesToString w _ 0 c [] hl, foldl_push_bytes]
      rfl
theorem str_inj {xs ys : List Int} (hx : Rg 0 256 xs) (hy : Rg 0 256 ys) (h : strOfNums xs = strOfNums ys) : xs = ys := by
  have h1 : xs.map (fun n => UInt8.ofNat n.toNat) = ys.map (fun n => UInt8.ofNat n.toNat) := by
    rw [← strOfNums_data, ← strOfNums_data, h]
  have h2 : ∀ zs : List Int, Rg 0 256 zs → (zs.map (fun n => UInt8.ofNat n.toNat)).map (fun u => (u.toNat : Int)) = zs := fun zs hz => by
    rw [List.map_map]
    have : zs.map ((fun u : UInt8 => (u.toNat : Int)) ∘ fun n => UInt8.ofNat n.toNat) = zs.map id := List.map_congr_left fun z hz2 => by
      have := hz z hz2
      simp only [Function.comp, id, UInt8.toNat_ofNat']
      omega
    rw [this, List.map_id]
  rw [← h2 xs hx, h1, h2 ys hy]
set_option maxRecDepth 100000 in
theorem bEqual_any (v1 v2 : Value) (xs ys : List Int) (w : World) (h1 : Row w v1 (ints .u8 xs)) (h2 : Row w v2 (ints .u8 ys)) (g1 : Rg 0 256 xs) (g2 : Rg 0 256 ys) :
    Calls Tryz.prog 68 #[v1, v2] w fun e w' => e = .returned (.bool (decide (xs = ys))) ∧ w' = w := by
  obtain ⟨a1, b1, o1, c1, rfl, _⟩ := id h1.op
  obtain ⟨a2, b2, o2, c2, rfl, _⟩ := id h2.op
  have s1 := row_str xs h1
  have s2 := row_str ys h2
  have HF : Hid (decide (strOfNums xs = strOfNums ys) = decide (xs = ys)) := by
    show _ = _
    rw [decide_eq_decide]
    exact ⟨str_inj g1 g2, fun h => by rw [h]⟩
  generalize strOfNums xs = sx at *
  generalize strOfNums ys = sy at *
  clear h1 h2
  go_enter Tryz.func68, Tryz.ntmps68
  go_wp2
  go_ret
  refine ⟨ret_bool ?_, rfl⟩
  rw [← HF.out]
  have e : ∀ s t : ByteArray, (s.toList == t.toList) = decide (s = t) := fun s t => by
    rw [Bool.eq_iff_iff, beq_iff_eq, decide_eq_true_iff, ByteArray.toList_eq, ByteArray.toList_eq]
    exact ⟨fun h => ByteArray.ext (Array.toList_inj.1 h), fun h => by rw [h]⟩
  exact e sx sy
set_option maxRecDepth 100000 in
theorem hasPre_any (v1 v2 : Value) (xs ys : List Int) (w : World) (h1 : Row w v1 (ints .u8 xs)) (h2 : Row w v2 (ints .u8 ys)) (g1 : Rg 0 256 xs) (g2 : Rg 0 256 ys) (_hl : xs.length ≤ 1000000) (hl2 : ys.length ≤ 1000000) :
    Calls Tryz.prog 42 #[v1, v2] w fun e w' => e = .returned (.bool (decide (xs.take ys.length = ys))) ∧ w' = w := by
  obtain ⟨a1, b1, o1, c1, rfl, _⟩ := id h1.op
  obtain ⟨a2, b2, o2, c2, rfl, _⟩ := id h2.op
  rcases Nat.lt_or_ge xs.length ys.length with hlt | hge
  · have HF : Hid (decide (xs.take ys.length = ys) = false) := decide_eq_false fun h => by
      have := congrArg List.length h
      rw [List.length_take] at this; omega
    go_enter Tryz.func42, Tryz.ntmps42
    go_wp2
    go_ret
    exact ⟨ret_bool HF.out.symm, rfl⟩
  · have hE := fun v h => bEqual_any v (.slice a2 ys.length c2) (xs.take ys.length) ys w h h2 (fun x hx => g1 x (List.mem_of_mem_take hx)) g2
    have HE := Lib.hid hE; clear hE
    generalize decide (xs.take ys.length = ys) = q at *
    go_enter Tryz.func42, Tryz.ntmps42
    go_wp2_with (first | (refine wpList_slH slT_u8 _ _ rfl rfl rfl rfl h1 (by omega) (by simp [ints]; omega) ?_; intro u3 hu3; have r3 := hu3 w h1; rw [Int.toNat_natCast, ints_take] at r3) | (go_at_call 68; refine (HE.out _ r3).mono ?_; rintro e w1 ⟨rfl, hw⟩; obtain rfl := hw.symm))
    go_ret
    exact ⟨rfl, rfl⟩
theorem marked_any (wd : Int) (big : Bool) (v : Value) (xs : List Int) (w : World) (h : Row w v (ints .i32 xs)) (hg : R32 xs) (hl : xs.length ≤ 5000) :
    Calls Tryz.prog 41 #[.int .i64 wd, .bool big, v] w fun e w' => ∃ t, e = .returned (.tuple #[t, .int .i64 (wideE wd (65279 :: xs))]) ∧ Own w.heap.size 5 w' t (ints .u8 (wideO wd big (65279 :: xs))) ∧ Below w.heap.size w w' := by
  have hg2 : R32 (65279 :: xs) := fun x hx => by
    rcases List.mem_cons.1 hx with rfl | hx
    · omega
    · exact hg x hx
  have hL := fun v w' h' => wideLay_any wd big v (65279 :: xs) w' h' hg2 (by simp only [List.length_cons]; omega)
  have hl2 : xs.length ≤ 5000 := hl
  generalize wideE wd (65279 :: xs) = er at *
  generalize wideO wd big (65279 :: xs) = O at *
  have HL := Lib.hid hL; clear hL hg2
  obtain ⟨a, b, off, cp, rfl, _⟩ := id h.op
  have ho := Own.ilit (k := .i32) (E := 21) (w := w) (B := w.heap.size) [65279] [_] rfl (Nat.le_refl _) (by simp)
  go_enter Tryz.func41, Tryz.ntmps41
  go_wp2_with (first | (at_builtin; refine wpList_app slT_i32 _ _ _ rfl rfl rfl rfl ho (h.alloc _) (by rw [ints_length, ints_length]; simp only [List.length_cons, List.length_nil]; omega) (by simp) ?_; intro t3 w3 hown3 hg3) | (go_at_call 67; refine (HL.out _ _ hown3.row).mono ?_; rintro e w4 ⟨t4, rfl, ho4, hb4⟩))
  have hb3 := below_app (Below.refl w.heap.size w) (below_alloc _ _) ho hg3
  go_ret2
  exact ⟨_, ret2 rfl rfl, ho4.mono hb3.size, below_trans hb3 hb4⟩
/-- By which mark octets begin. -/
def mk4b (xs : List Int) : Bool := decide (xs.take 4 = [0, 0, 254, 255])
def mk4l (xs : List Int) : Bool := decide (xs.take 4 = [255, 254, 0, 0])
def mk2b (xs : List Int) : Bool := decide (xs.take 2 = [254, 255])
def mk2l (xs : List Int) : Bool := decide (xs.take 2 = [255, 254])
def mN (a b c d : Bool) : Int := if a then 4 else if b then 4 else if c then 2 else if d then 2 else 0
def mB (a b c : Bool) : Bool := if a then true else if b then false else c
def markN (xs : List Int) : Int := mN (mk4b xs) (mk4l xs) (mk2b xs) (mk2l xs)
def markB (xs : List Int) : Bool := mB (mk4b xs) (mk4l xs) (mk2b xs)
end Go.Proofs.YtponfaglflmnkaaGreat
