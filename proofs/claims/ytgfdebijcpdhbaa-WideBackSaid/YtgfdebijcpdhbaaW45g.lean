/- Walks: wide texts: laying, by the reference. -/
import Derived.Test.YtgfdebijcpdhbaaW45f
namespace Go.Proofs.Ytgfdebijcpdhbaa
open Go.RowKit
set_option maxHeartbeats 1000000
set_option maxRecDepth 100000 in
theorem rSwap_any (wd : Int) (v : Value) (xs : List Int) (w : World) (h : Row w v (ints .u8 xs)) (hl : xs.length ≤ 1000000) :
    Calls Try.prog 17 #[.int .i64 wd, v] w fun e w' => ∃ t, e = .returned t ∧ Own w.heap.size 5 w' t (ints .u8 (sw wd xs)) ∧ Below w.heap.size w w' := by
  rcases Decidable.em (wd = 2) with rfl | h2
  · exact rSwap2_any v xs w h hl
  · rcases Decidable.em (wd = 4) with rfl | h4
    · exact rSwap4_any v xs w h hl
    · rw [sw, if_neg h4, if_neg h2]
      obtain ⟨a, b, off, cp, rfl, _⟩ := id h.op
      have e2 := beq_false_of_ne h2
      have e4 := beq_false_of_ne h4
      have n2 : (wd != 2) = true := by rw [bne, e2]; rfl
      have n4 : (wd != 4) = true := by rw [bne, e4]; rfl
      clear h2 h4 e2 e4
      go_enter Try.func17, Try.ntmps17
      go_wp2_with (at_builtin; refine wpList_app slT_u8 _ _ _ rfl rfl rfl rfl (Own.nil w.heap.size _ _) h (by rw [ints_length]; simp; omega) (Nat.le_refl _) ?_; intro t1 w1 ho1 hg1)
      have hb1 := below_own (E := 5) (Below.refl _ _) (Own.nil w.heap.size _ _) hg1 (Nat.le_refl _) (Nat.le_refl _)
      go_ret
      exact ⟨_, rfl, ho1, hb1⟩
set_option maxRecDepth 100000 in
theorem rwideLay4_any (big : Bool) (v : Value) (xs : List Int) (w : World) (h : Row w v (ints .i32 xs)) (hs : allSc xs = true) (hl : xs.length ≤ 10000) :
    Calls Try.prog 9 #[.int .i64 4, .bool big, v] w fun e w' => ∃ t, e = .returned (.tuple #[t, .int .i64 0]) ∧ Own w.heap.size 5 w' t (ints .u8 (wideL 4 big xs)) ∧ Below w.heap.size w w' := by
  obtain ⟨a, b, off, cp, rfl, HC⟩ := id h.op
  have hx4 := fun x (hx : x ∈ xs) => scB_iff.1 (List.all_eq_true.1 hs x hx)
  have hF := rfirst_any (.slice a xs.length cp) xs w h (by omega)
  have hidx := allSc_idx (xs := xs)
  rw [hs] at hidx
  generalize idx (fun c => !scB c) xs = fi at *
  have hf0 : fi < 0 := of_decide_eq_true hidx.symm
  have HF := Lib.hid hF
  clear hF hidx hs
  go_enter Try.func9, Try.ntmps9
  go_wp2_with (first | (go_at_call 26; refine (HF.out).mono ?_; rintro e w1 ⟨rfl, hw1⟩; obtain rfl := hw1))
  go_loopw [8, 11] (fun u i wr => ∃ k : Nat, i = .int .i64 k ∧ k ≤ xs.length ∧ Own w.heap.size 5 wr u (ints .u8 ((xs.take k).flatMap (grp 4 true))) ∧ Below w.heap.size w wr) (fun _ i _ => xs.length - (intOf i).toNat)
  case atStart => exact ⟨0, rfl, Nat.zero_le _, Own.nil _ _ _, Below.refl _ _⟩
  case round =>
    obtain ⟨k, rfl, hk, hown, hb⟩ := hrel
    by_cases hlt : k < xs.length
    · obtain ⟨x, HX, rfl, hc⟩ := HC.out k hlt
      replace hc := hc _ hb
      have hxr := hx4 x (List.mem_of_getElem? HX.out)
      have hx0 := hxr.1
      have hx1 := hxr.2.1
      have hfl := flat_len (grp 4 true) (grp_len 4 true) (xs.take k)
      rw [List.length_take] at hfl
      have HFL : Hid (((xs.take k).flatMap (grp 4 true)).length ≤ 40000) := by show _ ≤ _; omega
      have hsn := flat_snoc (f := grp 4 true) HX.out
      have hgx : grp 4 true x = [x / 16777216, x / 65536 % 256, x / 256 % 256, x % 256] := by
        have : x / 16777216 % 256 = x / 16777216 := by omega
        show [x / 16777216 % 256, x / 65536 % 256, x / 256 % 256, x % 256] = _
        rw [this]
      rw [hgx] at hsn
      have HSN := Lib.hid hsn
      clear hfl hxr hsn hgx
      go_wp2_with (at_builtin; refine wpList_app slT_u8 _ _ _ rfl rfl rfl rfl (hown.alloc _) (Row.ilit [x / 16777216, x / 65536 % 256, x / 256 % 256, x % 256] [_, _, _, _] rfl (by simp)) (by have := HFL.out; rw [ints_length, ints_length]; simp only [List.length_cons, List.length_nil]; omega) (by have := hb.size; simp; omega) ?_; intro t3 w3 hown3 hg3)
      have hb3 := below_app hb (below_alloc _ _) (hown.alloc _) hg3
      rw [← ints_append, ← HSN.out] at hown3
      go_roundw
      case rel => exact ⟨k + 1, by go_num, by omega, hown3, hb3⟩
      case measure => simp [intOf]; omega
    · obtain rfl : k = xs.length := by omega
      rw [List.take_length] at hown
      have hlen := wideL_len 4 true xs
      have e : xs.flatMap (grp 4 true) = wideL 4 true xs := rfl
      rw [e] at hown
      cases big with
      | true =>
        clear e hlen
        go_wp2
        go_ret2
        exact ⟨_, ret2 rfl rfl, hown, hb⟩
      | false =>
        have hsw := rSwap_any 4 u8 (wideL 4 true xs) wr hown.row (by omega)
        rw [sw_wide (Or.inr rfl)] at hsw
        have HSW := Lib.hid hsw
        clear hsw e hlen
        go_wp2_with (go_at_call 17; refine (HSW.out).mono ?_; rintro e w5 ⟨t5, rfl, ho5, hb5⟩)
        go_ret2
        exact ⟨_, ret2 rfl rfl, ho5.mono hb.size, below_trans hb hb5⟩
set_option maxRecDepth 100000 in
theorem rwideLay2_any (big : Bool) (v : Value) (xs : List Int) (w : World) (h : Row w v (ints .i32 xs)) (hg : R32 xs) (hs : allSc xs = true) (hl : xs.length ≤ 10000) :
    Calls Try.prog 9 #[.int .i64 2, .bool big, v] w fun e w' => ∃ t, e = .returned (.tuple #[t, .int .i64 0]) ∧ Own w.heap.size 5 w' t (ints .u8 (wideL 2 big xs)) ∧ Below w.heap.size w w' := by
  obtain ⟨a, b, off, cp, rfl, HC⟩ := id h.op
  have hF := rfirst_any (.slice a xs.length cp) xs w h (by omega)
  have hidx := allSc_idx (xs := xs)
  have hL := rLay_any (.slice a xs.length cp) xs w h hg (by omega)
  rw [show ulayR xs = (ulayL xs, 0) from by rw [ulayR, hs]; rfl] at hL
  have hul := ulayL_len xs
  have hO := fun v w' h' => rOctets_any v (ulayL xs) w' h' (ulay_rng xs) (by omega)
  rw [uoct_grp (ulay_rng xs)] at hO
  have hlen := wideL_len 2 true xs
  rw [show (ulayL xs).flatMap (grp 2 true) = wideL 2 true xs from rfl] at hO
  have hsw := fun v w' h' => rSwap_any 2 v (wideL 2 true xs) w' h' (by omega)
  rw [sw_wide (Or.inl rfl)] at hsw
  rw [hs] at hidx
  generalize idx (fun c => !scB c) xs = fi at *
  have hf0 : fi < 0 := of_decide_eq_true hidx.symm
  have HF := Lib.hid hF; have HL := Lib.hid hL; have HO := Lib.hid hO; have HSW := Lib.hid hsw
  clear hF hidx hs hL hO hsw hul hlen
  cases big with
  | true =>
    go_enter Try.func9, Try.ntmps9
    go_wp2_with (first | (go_at_call 26; refine (HF.out).mono ?_; rintro e w1 ⟨rfl, hw1⟩; obtain rfl := hw1) | (go_at_call 27; refine (HL.out).mono ?_; rintro e w2 ⟨t2, rfl, ho2, hb2⟩) | (go_at_call 28; refine (HO.out _ _ ho2.row).mono ?_; rintro e w3 ⟨t3, rfl, ho3, hb3⟩))
    go_ret2
    exact ⟨_, ret2 rfl rfl, ho3.mono hb2.size, below_trans hb2 hb3⟩
  | false =>
    go_enter Try.func9, Try.ntmps9
    go_wp2_with (first | (go_at_call 26; refine (HF.out).mono ?_; rintro e w1 ⟨rfl, hw1⟩; obtain rfl := hw1) | (go_at_call 27; refine (HL.out).mono ?_; rintro e w2 ⟨t2, rfl, ho2, hb2⟩) | (go_at_call 28; refine (HO.out _ _ ho2.row).mono ?_; rintro e w3 ⟨t3, rfl, ho3, hb3⟩) | (go_at_call 17; refine (HSW.out _ _ ho3.row).mono ?_; rintro e w5 ⟨t5, rfl, ho5, hb5⟩))
    go_ret2
    exact ⟨_, ret2 rfl rfl, ho5.mono (below_trans hb2 hb3).size, below_trans (below_trans hb2 hb3) hb5⟩
set_option maxRecDepth 100000 in
theorem rwideLay_any (wd : Int) (big : Bool) (v : Value) (xs : List Int) (w : World) (h : Row w v (ints .i32 xs)) (hg : R32 xs) (hl : xs.length ≤ 10000) :
    Calls Try.prog 9 #[.int .i64 wd, .bool big, v] w fun e w' => ∃ t, e = .returned (.tuple #[t, .int .i64 (wideE wd xs)]) ∧ Own w.heap.size 5 w' t (ints .u8 (wideO wd big xs)) ∧ Below w.heap.size w w' := by
  have hb := Below.refl w.heap.size w
  rcases Decidable.em (wd = 2 ∨ wd = 4) with hw | hw
  · cases hs : allSc xs with
    | true =>
      rw [wideE, wideO, if_pos hw, if_pos hw, hs, if_pos rfl, if_pos rfl]
      rcases hw with rfl | rfl
      · exact rwideLay2_any big v xs w h hg hs hl
      · exact rwideLay4_any big v xs w h hs hl
    | false =>
      rw [wideE, wideO, if_pos hw, if_pos hw, hs]
      have hF := rfirst_any v xs w h (by omega)
      have hidx := allSc_idx (xs := xs)
      rw [hs] at hidx
      generalize idx (fun c => !scB c) xs = fi at *
      have hf0 : 0 ≤ fi := by have := of_decide_eq_false hidx.symm; omega
      have HF := Lib.hid hF
      clear hF hidx hs
      rcases hw with rfl | rfl
      all_goals
        go_enter Try.func9, Try.ntmps9
        go_wp2_with (first | (go_at_call 26; refine (HF.out).mono ?_; rintro e w1 ⟨rfl, hw1⟩; obtain rfl := hw1))
        go_ret2
        exact ⟨_, ret2 rfl rfl, Own.nil _ _ _, hb⟩
  · rw [wideE, wideO, if_neg hw, if_neg hw]
    have n2 : (wd != 2) = true := by rw [bne, beq_false_of_ne (by omega)]; rfl
    have n4 : (wd != 4) = true := by rw [bne, beq_false_of_ne (by omega)]; rfl
    clear hw
    go_enter Try.func9, Try.ntmps9
    go_wp2
    go_ret2
    exact ⟨_, ret2 rfl rfl, Own.nil _ _ _, hb⟩
end Go.Proofs.Ytgfdebijcpdhbaa
