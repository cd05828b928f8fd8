/- Walks: wide texts: the numbers of octets. -/
import Derived.Test.YtgfdebijcpdhbaaW45g
import Derived.Test.YtgfdebijcpdhbaaP45c
namespace Go.Proofs.Ytgfdebijcpdhbaa
open Go.RowKit
set_option maxHeartbeats 1000000
theorem u32_join8 (x y : Int) (hx0 : 0 ≤ x) (hx : x % 256 = 0) (hx1 : x < 4294967296) (hy0 : 0 ≤ y) (hy : y < 256) : bits .or .u32 x y = x + y :=
  bits_join .u32 32 (by decide) (fun n h0 h1 => by simp only [IntKind.wrap_u32]; omega) 8 x y hx0 hx hx1 hy0 hy (by omega)
def TkP (wd : Int) (w : World) (xs : List Int) (e : Ending) (w' : World) : Prop := ∃ t, e = .returned (.tuple #[t, .bool (overW wd xs)]) ∧ Own w.heap.size 52 w' t (ints .u32 (numW wd xs)) ∧ Below w.heap.size w w'
theorem TkP.mk {wd : Int} {w w' : World} {xs D : List Int} {t : Value} {o : Bool} (h1 : numW wd xs = D) (h2 : overW wd xs = o) (h3 : Own w.heap.size 52 w' t (ints .u32 D)) (h4 : Below w.heap.size w w') : TkP wd w xs (.returned (.tuple #[t, .bool o])) w' := ⟨t, by rw [h2], by rw [h1]; exact h3, h4⟩
set_option maxRecDepth 100000 in
theorem takeB2_any (v : Value) (xs : List Int) (w : World) (h : Row w v (ints .u8 xs)) (hg : Rg 0 256 xs) (hl : xs.length ≤ 100000) :
    Calls Try.prog 43 #[.int .i64 2, .bool true, v] w fun e w' => TkP 2 w xs e w' := by
  obtain ⟨a, b, off, cp, rfl, _⟩ := id h.op
  go_enter Try.func43, Try.ntmps43
  go_wp2
  go_loopw [2, 8] (fun sv u wr => ∃ S D : List Int, Row w sv (ints .u8 S) ∧ Own w.heap.size 52 wr u (ints .u32 D) ∧ Below w.heap.size w wr ∧ Hid (num2 xs = D ++ num2 S) ∧ Hid (D.length + S.length ≤ xs.length) ∧ Hid (S.length % 2 = xs.length % 2) ∧ Hid (Rg 0 256 S)) (fun sv _ _ => lenOf sv)
  case atStart => exact ⟨xs, [], h, Own.nil _ _ _, Below.refl _ _, rfl, by show _ ≤ _; simp, rfl, hg⟩
  case round =>
    obtain ⟨S, D, hrow, hown, hb, HN, HLEN, HMOD, HG⟩ := hrel
    have hlen := HLEN.out
    obtain ⟨a1, b1, o1, c1, rfl, C1⟩ := id hrow.op
    rcases Nat.lt_or_ge S.length 2 with hS | hS
    · have HF : Hid (num2 xs = D) := (by show _ = _; rw [HN.out, num2_short hS, List.append_nil])
      have HO : Hid (overW 2 xs = decide (0 < S.length)) := by
        show decide (0 < xs.length % 2) = _
        rw [← HMOD.out, Nat.mod_eq_of_lt hS]
      go_wp2
      go_ret2
      exact TkP.mk HF.out HO.out hown hb
    · obtain ⟨x, y, S', rfl⟩ := len2 hS
      have hrng := HG.out
      have hx := hrng.cons.1
      have hy := hrng.cons.2.cons.1
      have HG2 : Hid (Rg 0 256 S') := hrng.cons.2.cons.2
      have hj0 : bits .or .u32 (0) x = x := by have := u32_join8 0 x (by omega) (by omega) (by omega) hx.1 hx.2; rwa [Int.zero_add] at this
      have hj1 : bits .or .u32 (x * 256) y = x * 256 + y := u32_join8 _ _ (by omega) (by omega) (by omega) hy.1 hy.2
      clear hrng
      go_wp2_with (refine wpList_slH slT_u8 _ _ rfl rfl rfl rfl (hrow.below hb) (by omega) (by simp [ints]; omega) ?_; intro v2 hv2; have r2 : Row w v2 (ints .u8 [x, y]) := hv2 w hrow; clear hv2; obtain ⟨a2, b2, o2, c2, rfl, C2⟩ := r2.op)
      go_loopw [9, 25] (fun nv i wq => ∃ j : Nat, i = .int .i64 j ∧ j ≤ 2 ∧ nv = .int .u32 (([0, x, x * 256 + y] : List Int).getD j 0) ∧ wq = wr) (fun _ i _ => 2 - (intOf i).toNat)
      case atStart => exact ⟨0, rfl, Nat.zero_le _, rfl, rfl⟩
      case round =>
        obtain ⟨j, rfl, hj, rfl, hw9⟩ := hrel
        obtain rfl := hw9.symm
        by_cases hlj : j < 2
        · obtain ⟨m, hm⟩ : ∃ m : Nat, m = j + 1 := ⟨_, rfl⟩
          rcases (by omega : j = 0 ∨ j = 1) with rfl | rfl
          · obtain ⟨q, HX, rfl, hc⟩ := C2.out 0 (by simp)
            have e9 := HX.out; obtain rfl := Option.some.inj e9
            have hc2 : wr.cell? ⟨b2, o2, none⟩ = some (.int .u8 x) := hc _ hb
            clear hc
            go_wp2
            go_roundw
            case rel => exact ⟨m, by subst hm; first | exact iv (by rfl) | go_num, by omega, by subst hm; first | rfl | exact iv (by first | exact hj0 | rfl), by first | rfl | trivial⟩
            case measure => simp [intOf]
          · obtain ⟨q, HX, rfl, hc⟩ := C2.out 1 (by simp)
            have e9 := HX.out; obtain rfl := Option.some.inj e9
            have hc2 : wr.cell? ⟨b2, o2 + 1, none⟩ = some (.int .u8 y) := hc _ hb
            clear hc
            go_wp2
            go_roundw
            case rel => exact ⟨m, by subst hm; first | exact iv (by rfl) | go_num, by omega, by subst hm; first | rfl | exact iv (by first | exact hj1 | rfl), by first | rfl | trivial⟩
            case measure => simp [intOf]
        · obtain rfl : j = 2 := by omega
          have hN2 : num2 xs = (D ++ [x * 256 + y]) ++ num2 S' := by rw [HN.out, num2, List.append_assoc]; rfl
          have HN2 := Lib.hid hN2
          clear hN2 hj0
          simp only [List.length_cons] at hlen hS
          have HLEN2 : Hid ((D ++ [x * 256 + y]).length + S'.length ≤ xs.length) := by show _ ≤ _; rw [List.length_append]; simp only [List.length_cons, List.length_nil]; omega
          have HMOD2 : Hid (S'.length % 2 = xs.length % 2) := by
            show _ = _
            rw [← HMOD.out]
            simp only [List.length_cons]
            omega
          go_wp2_with (first | (at_builtin; refine wpList_app slT_u32 _ _ _ rfl rfl rfl rfl (hown.alloc _) (Row.ilit [x * 256 + y] [_] rfl (by simp)) (by rw [ints_length, ints_length]; simp only [List.length_cons, List.length_nil]; omega) (by have := hb.size; simp; omega) ?_; intro t3 w3 hown3 hg3) | (refine wpList_slL slT_u8 _ _ rfl rfl rfl rfl (hrow.below (below_app hb (below_alloc _ _) (hown.alloc _) hg3)) (by omega) (by simp [ints]; omega) ?_; intro v4 hv4; have r4 : Row w v4 (ints .u8 S') := hv4 w hrow; clear hv4))
          have hb3 := below_app hb (below_alloc _ _) (hown.alloc _) hg3
          rw [← ints_append] at hown3
          obtain ⟨a4, b4, o4, c4, rfl, _⟩ := id r4.op
          go_roundw
          case rel => exact ⟨S', _, r4, hown3, hb3, HN2, HLEN2, HMOD2, HG2⟩
          case measure => simp only [lenOf, List.length_cons]; omega
set_option maxRecDepth 100000 in
theorem takeB4_any (v : Value) (xs : List Int) (w : World) (h : Row w v (ints .u8 xs)) (hg : Rg 0 256 xs) (hl : xs.length ≤ 100000) :
    Calls Try.prog 43 #[.int .i64 4, .bool true, v] w fun e w' => TkP 4 w xs e w' := by
  obtain ⟨a, b, off, cp, rfl, _⟩ := id h.op
  go_enter Try.func43, Try.ntmps43
  go_wp2
  go_loopw [2, 8] (fun sv u wr => ∃ S D : List Int, Row w sv (ints .u8 S) ∧ Own w.heap.size 52 wr u (ints .u32 D) ∧ Below w.heap.size w wr ∧ Hid (num4 xs = D ++ num4 S) ∧ Hid (D.length + S.length ≤ xs.length) ∧ Hid (S.length % 4 = xs.length % 4) ∧ Hid (Rg 0 256 S)) (fun sv _ _ => lenOf sv)
  case atStart => exact ⟨xs, [], h, Own.nil _ _ _, Below.refl _ _, rfl, by show _ ≤ _; simp, rfl, hg⟩
  case round =>
    obtain ⟨S, D, hrow, hown, hb, HN, HLEN, HMOD, HG⟩ := hrel
    have hlen := HLEN.out
    obtain ⟨a1, b1, o1, c1, rfl, C1⟩ := id hrow.op
    rcases Nat.lt_or_ge S.length 4 with hS | hS
    · have HF : Hid (num4 xs = D) := (by show _ = _; rw [HN.out, num4_short hS, List.append_nil])
      have HO : Hid (overW 4 xs = decide (0 < S.length)) := by
        show decide (0 < xs.length % 4) = _
        rw [← HMOD.out, Nat.mod_eq_of_lt hS]
      go_wp2
      go_ret2
      exact TkP.mk HF.out HO.out hown hb
    · obtain ⟨x, y, z, t, S', rfl⟩ := len4 hS
      have hrng := HG.out
      have hx := hrng.cons.1
      have hy := hrng.cons.2.cons.1
      have hz := hrng.cons.2.cons.2.cons.1
      have ht := hrng.cons.2.cons.2.cons.2.cons.1
      have HG2 : Hid (Rg 0 256 S') := hrng.cons.2.cons.2.cons.2.cons.2
      have hj0 : bits .or .u32 (0) x = x := by have := u32_join8 0 x (by omega) (by omega) (by omega) hx.1 hx.2; rwa [Int.zero_add] at this
      have hj1 : bits .or .u32 (x * 256) y = x * 256 + y := u32_join8 _ _ (by omega) (by omega) (by omega) hy.1 hy.2
      have hj2 : bits .or .u32 ((x * 256 + y) * 256) z = (x * 256 + y) * 256 + z := u32_join8 _ _ (by omega) (by omega) (by omega) hz.1 hz.2
      have hj3 : bits .or .u32 (((x * 256 + y) * 256 + z) * 256) t = ((x * 256 + y) * 256 + z) * 256 + t := u32_join8 _ _ (by omega) (by omega) (by omega) ht.1 ht.2
      clear hrng
      go_wp2_with (refine wpList_slH slT_u8 _ _ rfl rfl rfl rfl (hrow.below hb) (by omega) (by simp [ints]; omega) ?_; intro v2 hv2; have r2 : Row w v2 (ints .u8 [x, y, z, t]) := hv2 w hrow; clear hv2; obtain ⟨a2, b2, o2, c2, rfl, C2⟩ := r2.op)
      go_loopw [9, 25] (fun nv i wq => ∃ j : Nat, i = .int .i64 j ∧ j ≤ 4 ∧ nv = .int .u32 (([0, x, x * 256 + y, (x * 256 + y) * 256 + z, ((x * 256 + y) * 256 + z) * 256 + t] : List Int).getD j 0) ∧ wq = wr) (fun _ i _ => 4 - (intOf i).toNat)
      case atStart => exact ⟨0, rfl, Nat.zero_le _, rfl, rfl⟩
      case round =>
        obtain ⟨j, rfl, hj, rfl, hw9⟩ := hrel
        obtain rfl := hw9.symm
        by_cases hlj : j < 4
        · obtain ⟨m, hm⟩ : ∃ m : Nat, m = j + 1 := ⟨_, rfl⟩
          rcases (by omega : j = 0 ∨ j = 1 ∨ j = 2 ∨ j = 3) with rfl | rfl | rfl | rfl
          · obtain ⟨q, HX, rfl, hc⟩ := C2.out 0 (by simp)
            have e9 := HX.out; obtain rfl := Option.some.inj e9
            have hc2 : wr.cell? ⟨b2, o2, none⟩ = some (.int .u8 x) := hc _ hb
            clear hc
            go_wp2
            go_roundw
            case rel => exact ⟨m, by subst hm; first | exact iv (by rfl) | go_num, by omega, by subst hm; first | rfl | exact iv (by first | exact hj0 | rfl), by first | rfl | trivial⟩
            case measure => simp [intOf]
          · obtain ⟨q, HX, rfl, hc⟩ := C2.out 1 (by simp)
            have e9 := HX.out; obtain rfl := Option.some.inj e9
            have hc2 : wr.cell? ⟨b2, o2 + 1, none⟩ = some (.int .u8 y) := hc _ hb
            clear hc
            go_wp2
            go_roundw
            case rel => exact ⟨m, by subst hm; first | exact iv (by rfl) | go_num, by omega, by subst hm; first | rfl | exact iv (by first | exact hj1 | rfl), by first | rfl | trivial⟩
            case measure => simp [intOf]
          · obtain ⟨q, HX, rfl, hc⟩ := C2.out 2 (by simp)
            have e9 := HX.out; obtain rfl := Option.some.inj e9
            have hc2 : wr.cell? ⟨b2, o2 + 2, none⟩ = some (.int .u8 z) := hc _ hb
            clear hc
            go_wp2
            go_roundw
            case rel => exact ⟨m, by subst hm; first | exact iv (by rfl) | go_num, by omega, by subst hm; first | rfl | exact iv (by first | exact hj2 | rfl), by first | rfl | trivial⟩
            case measure => simp [intOf]
          · obtain ⟨q, HX, rfl, hc⟩ := C2.out 3 (by simp)
            have e9 := HX.out; obtain rfl := Option.some.inj e9
            have hc2 : wr.cell? ⟨b2, o2 + 3, none⟩ = some (.int .u8 t) := hc _ hb
            clear hc
            go_wp2
            go_roundw
            case rel => exact ⟨m, by subst hm; first | exact iv (by rfl) | go_num, by omega, by subst hm; first | rfl | exact iv (by first | exact hj3 | rfl), by first | rfl | trivial⟩
            case measure => simp [intOf]
        · obtain rfl : j = 4 := by omega
          have hN2 : num4 xs = (D ++ [((x * 256 + y) * 256 + z) * 256 + t]) ++ num4 S' := by rw [HN.out, num4, List.append_assoc]; rfl
          have HN2 := Lib.hid hN2
          clear hN2 hj0
          simp only [List.length_cons] at hlen hS
          have HLEN2 : Hid ((D ++ [((x * 256 + y) * 256 + z) * 256 + t]).length + S'.length ≤ xs.length) := by show _ ≤ _; rw [List.length_append]; simp only [List.length_cons, List.length_nil]; omega
          have HMOD2 : Hid (S'.length % 4 = xs.length % 4) := by
            show _ = _
            rw [← HMOD.out]
            simp only [List.length_cons]
            omega
          go_wp2_with (first | (at_builtin; refine wpList_app slT_u32 _ _ _ rfl rfl rfl rfl (hown.alloc _) (Row.ilit [((x * 256 + y) * 256 + z) * 256 + t] [_] rfl (by simp)) (by rw [ints_length, ints_length]; simp only [List.length_cons, List.length_nil]; omega) (by have := hb.size; simp; omega) ?_; intro t3 w3 hown3 hg3) | (refine wpList_slL slT_u8 _ _ rfl rfl rfl rfl (hrow.below (below_app hb (below_alloc _ _) (hown.alloc _) hg3)) (by omega) (by simp [ints]; omega) ?_; intro v4 hv4; have r4 : Row w v4 (ints .u8 S') := hv4 w hrow; clear hv4))
          have hb3 := below_app hb (below_alloc _ _) (hown.alloc _) hg3
          rw [← ints_append] at hown3
          obtain ⟨a4, b4, o4, c4, rfl, _⟩ := id r4.op
          go_roundw
          case rel => exact ⟨S', _, r4, hown3, hb3, HN2, HLEN2, HMOD2, HG2⟩
          case measure => simp only [lenOf, List.length_cons]; omega
end Go.Proofs.Ytgfdebijcpdhbaa
