/- Walks: wide texts: the signs of numbers. -/
import Derived.Test.YtgfdebijcpdhbaaW45i
namespace Go.Proofs.Ytgfdebijcpdhbaa
open Go.RowKit
set_option maxHeartbeats 1000000
def TxP (wd : Int) (w : World) (L : List Int) (e : Ending) (w' : World) : Prop := ∃ t, e = .returned (.tuple #[t, .bool (rightW wd L)]) ∧ Own w.heap.size 21 w' t (ints .i32 (textW wd L)) ∧ Below w.heap.size w w'
theorem TxP.mk {wd : Int} {w w' : World} {L D : List Int} {t : Value} {o : Bool} (h1 : textW wd L = D) (h2 : rightW wd L = o) (h3 : Own w.heap.size 21 w' t (ints .i32 D)) (h4 : Below w.heap.size w w') : TxP wd w L (.returned (.tuple #[t, .bool o])) w' := ⟨t, by rw [h2], by rw [h1]; exact h3, h4⟩
set_option maxRecDepth 100000 in
theorem text2_any (v : Value) (L : List Int) (w : World) (h : Row w v (ints .u32 L)) (hg : Rg 0 65536 L) (hl : L.length ≤ 100000) :
    Calls Try.prog 44 #[.int .i64 2, v] w fun e w' => TxP 2 w L e w' := by
  obtain ⟨a, b, off, cp, rfl, HC⟩ := id h.op
  have hR := fun v w' h' => uRead_any v L w' h' hg (by omega)
  have hT := fun v w' h' => uRight_any v L w' h' hg (by omega)
  have HR := Lib.hid hR; have HT := Lib.hid hT
  clear hR hT
  go_enter Try.func44, Try.ntmps44
  go_wp2
  go_loopw [6, 18] (fun u i wr => ∃ k : Nat, i = .int .i64 k ∧ k ≤ L.length ∧ Own w.heap.size 66 wr u (ints .u16 (L.take k)) ∧ Below w.heap.size w wr) (fun _ i _ => L.length - (intOf i).toNat)
  case atStart => exact ⟨0, rfl, Nat.zero_le _, Own.nil _ _ _, Below.refl _ _⟩
  case round =>
    obtain ⟨k, rfl, hk, hown, hb⟩ := hrel
    by_cases hlt : k < L.length
    · obtain ⟨x, HX, rfl, hc⟩ := HC.out k hlt
      replace hc := hc _ hb
      have hxr := hg.get HX.out
      have hwr : IntKind.u16.wrap x = x := by simp only [IntKind.wrap_u16]; omega
      have HT9 : Hid (L.take (k + 1) = L.take k ++ [x]) := by show _ = _; rw [List.take_add_one, HX.out]; rfl
      clear hxr
      go_wp2_with (at_builtin; refine wpList_app slT_u16 _ _ _ rfl rfl rfl rfl (hown.alloc _) (Row.ilit [x] [_] rfl (by simp)) (by rw [ints_length, ints_length, List.length_take]; simp only [List.length_cons, List.length_nil]; omega) (by have := hb.size; simp; omega) ?_; intro t3 w3 hown3 hg3)
      have hb3 := below_app hb (below_alloc _ _) (hown.alloc _) hg3
      rw [← ints_append, ← HT9.out] at hown3
      go_roundw
      case rel => exact ⟨k + 1, by go_num, by omega, hown3, hb3⟩
      case measure => simp [intOf]; omega
    · obtain rfl : k = L.length := by omega
      rw [List.take_length] at hown
      have r1 := hown.row
      clear hown
      go_wp2_with (first | (go_at_call 49; refine (HR.out _ _ r1).mono ?_; rintro e w2 ⟨t2, rfl, ho2, hb2⟩) | (go_at_call 50; refine (HT.out _ _ (r1.below hb2)).mono ?_; rintro e w3 ⟨rfl, hb3⟩))
      go_ret2
      exact TxP.mk (wd := 2) rfl rfl ((ho2.below hb3).mono hb.size) (below_trans (below_trans hb hb2) hb3)
set_option maxRecDepth 100000 in
theorem text4_any (v : Value) (L : List Int) (w : World) (h : Row w v (ints .u32 L)) (hg : Rg 0 4294967296 L) (hl : L.length ≤ 100000) :
    Calls Try.prog 44 #[.int .i64 4, v] w fun e w' => TxP 4 w L e w' := by
  obtain ⟨a, b, off, cp, rfl, HC⟩ := id h.op
  go_enter Try.func44, Try.ntmps44
  go_wp2
  go_loopw [9, 10, 34] (fun u r i wr => ∃ k : Nat, i = .int .i64 k ∧ k ≤ L.length ∧ r = .bool ((L.take k).all scB) ∧ Own w.heap.size 21 wr u (ints .i32 ((L.take k).map fix4)) ∧ Below w.heap.size w wr) (fun _ _ i _ => L.length - (intOf i).toNat)
  case atStart => exact ⟨0, rfl, Nat.zero_le _, rfl, Own.nil _ _ _, Below.refl _ _⟩
  case round =>
    obtain ⟨k, rfl, hk, rfl, hown, hb⟩ := hrel
    by_cases hlt : k < L.length
    · obtain ⟨x, HX, rfl, hc⟩ := HC.out k hlt
      replace hc := hc _ hb
      have hxr := hg.get HX.out
      have HT9 : Hid ((L.take (k + 1)).map fix4 = (L.take k).map fix4 ++ [fix4 x]) := by show _ = _; rw [List.take_add_one, HX.out, List.map_append]; rfl
      have HA9 : Hid ((L.take (k + 1)).all scB = ((L.take k).all scB && scB x)) := by show _ = _; rw [List.take_add_one, HX.out, List.all_append]; simp
      have HLL : Hid (((L.take k).map fix4).length ≤ 100000) := by show _ ≤ _; rw [List.length_map, List.length_take]; omega
      generalize (L.take k).map fix4 = D at *
      generalize (L.take k).all scB = q at *
      rcases Decidable.em (x ≤ 1114111) with hx | hx
      · have hwr : IntKind.i32.wrap x = x := by rw [IntKind.wrap_i32]; omega
        have hsc := fun w => is_any x w (by omega) (by omega)
        obtain ⟨z, hz⟩ : ∃ z, scB x = z := ⟨_, rfl⟩
        rw [hz] at hsc HA9
        have HSC := Lib.hid hsc
        clear hsc
        rcases z with _ | _
        · have HF : Hid (fix4 x = 65533) := by show _ = _; rw [fix4, hz]; rfl
          have HQ : Hid ((L.take (k + 1)).all scB = false) := by show _ = _; rw [HA9.out, Bool.and_false]
          clear hz hxr HA9
          go_wp2_with (first | (go_at_call 48; refine (HSC.out _).mono ?_; rintro e w2 ⟨rfl, hw2⟩; obtain rfl := hw2) | (at_builtin; refine wpList_app slT_i32 _ _ _ rfl rfl rfl rfl (hown.alloc _) (Row.ilit [65533] [_] rfl (by simp)) (by have := HLL.out; rw [ints_length, ints_length]; simp only [List.length_cons, List.length_nil]; omega) (by have := hb.size; simp; omega) ?_; intro t3 w3 hown3 hg3))
          have hb3 := below_app hb (below_alloc _ _) (hown.alloc _) hg3
          rw [← ints_append, ← HF.out, ← HT9.out] at hown3
          go_roundw
          case rel => exact ⟨k + 1, by go_num, by omega, by rw [HQ.out], hown3, hb3⟩
          case measure => simp [intOf]; omega
        · have HF : Hid (fix4 x = x) := by show _ = _; rw [fix4, hz]; rfl
          have HQ : Hid ((L.take (k + 1)).all scB = q) := by show _ = _; rw [HA9.out, Bool.and_true]
          clear hz hxr HA9
          go_wp2_with (first | (go_at_call 48; refine (HSC.out _).mono ?_; rintro e w2 ⟨rfl, hw2⟩; obtain rfl := hw2) | (at_builtin; refine wpList_app slT_i32 _ _ _ rfl rfl rfl rfl (hown.alloc _) (Row.ilit [x] [_] rfl (by simp)) (by have := HLL.out; rw [ints_length, ints_length]; simp only [List.length_cons, List.length_nil]; omega) (by have := hb.size; simp; omega) ?_; intro t3 w3 hown3 hg3))
          have hb3 := below_app hb (below_alloc _ _) (hown.alloc _) hg3
          have HO3 : Hid (Own w.heap.size 21 w3 t3 (ints .i32 ((L.take (k + 1)).map fix4))) := by
            rw [← ints_append] at hown3
            show Own _ _ _ _ _
            rw [HT9.out, HF.out]; exact hown3
          clear hown3
          go_roundw
          case rel => exact ⟨k + 1, by go_num, by omega, by rw [HQ.out], HO3.out, hb3⟩
          case measure => simp [intOf]; omega
      · have hz : scB x = false := decide_eq_false (by omega)
        rw [hz] at HA9
        have HF : Hid (fix4 x = 65533) := by show _ = _; rw [fix4, hz]; rfl
        have HQ : Hid ((L.take (k + 1)).all scB = false) := by show _ = _; rw [HA9.out, Bool.and_false]
        clear hz hxr HA9
        go_wp2_with (first | (at_builtin; refine wpList_app slT_i32 _ _ _ rfl rfl rfl rfl (hown.alloc _) (Row.ilit [65533] [_] rfl (by simp)) (by have := HLL.out; rw [ints_length, ints_length]; simp only [List.length_cons, List.length_nil]; omega) (by have := hb.size; simp; omega) ?_; intro t3 w3 hown3 hg3))
        have hb3 := below_app hb (below_alloc _ _) (hown.alloc _) hg3
        rw [← ints_append, ← HF.out, ← HT9.out] at hown3
        go_roundw
        case rel => exact ⟨k + 1, by go_num, by omega, by rw [HQ.out], hown3, hb3⟩
        case measure => simp [intOf]; omega
    · obtain rfl : k = L.length := by omega
      rw [List.take_length] at hown ⊢
      have HO := Lib.hid hown
      generalize hq : L.all scB = q at *
      have HQ := Lib.hid hq
      clear hown hq
      go_wp2
      go_ret2
      exact TxP.mk (wd := 4) rfl HQ.out HO.out hb
end Go.Proofs.Ytgfdebijcpdhbaa
