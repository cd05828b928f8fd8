/- Walks: latin one and latin nine: laying and reading. · Walks: repertoires: has a charset a number; all that have one. · Walks: repertoires: the first of a set. · Walks: repertoires: sets, sizes. · Plain: how many numbers the charsets have. · Walks: repertoires: texts. (laid together by program out of single texts). -/
import Derived.Test.YtponfaglflmnkaaDoorM1
import Derived.Test.YtponfaglflmnkaaDoorM2
import Derived.Test.YtponfaglflmnkaaDoorM3
import Derived.Test.YtponfaglflmnkaaDoorM4
namespace Go.Proofs.YtponfaglflmnkaaDoor
open Go.RowKit
set_option maxHeartbeats 2000000
theorem infoU8 : (Tryd.prog.info? 5).map (fun i => (i.zero, i.size, i.bytes)) = some (some (.int .u8 0), 1, 1) := by kernel_rfl
theorem infoI32 : (Tryd.prog.info? 21).map (fun i => (i.zero, i.size, i.bytes)) = some (some (.int .i32 0), 1, 4) := by kernel_rfl
theorem all_get {f : Int → Bool} {xs : List Int} (h : xs.all f = true) {k : Nat} {x : Int} (hx : xs[k]? = some x) : f x = true := List.all_eq_true.1 h x (List.mem_of_getElem? hx)
theorem laLacks_yes (v : Value) (xs : List Int) (w : World) (h : Row w v (ints .i32 xs)) (hr : R32 xs) (ho : xs.all oneB = true) (hl : xs.length ≤ 1000000) :
    Calls Tryd.prog 43 #[v] w fun e w' => e = .returned (.int .i64 (-1)) ∧ w' = w := by
  obtain ⟨a, b, off, cp, rfl, HC⟩ := h.op
  have HO := Lib.hid ho; clear ho
  go_enter Tryd.func43, Tryd.ntmps43
  go_wp2
  go_loop [6] (fun i => ∃ k : Nat, i = .int .i64 k ∧ k ≤ xs.length) (fun i => xs.length - (intOf i).toNat)
  case atStart => exact ⟨0, rfl, Nat.zero_le _⟩
  case round =>
    obtain ⟨k, rfl, hk⟩ := hrel
    by_cases hlt : k < xs.length
    · obtain ⟨c, HX, rfl, hc⟩ := HC.out k hlt
      replace hc := hc _ (Below.refl _ _)
      have hcr := hr.get HX.out
      have hv := fun w => laHas_any c w hcr.1 hcr.2
      rw [all_get HO.out HX.out] at hv
      have HV := Lib.hid hv
      clear hv
      go_wp2_with (go_at_call 61; refine (HV.out _).mono ?_; rintro e w' ⟨rfl, hw⟩; obtain rfl := hw.symm)
      go_round
      case rel => exact ⟨k + 1, by go_num, by omega⟩
      case measure => simp [intOf]; omega
    · go_wp2
      go_ret
      exact ⟨rfl, rfl⟩
set_option maxRecDepth 100000 in
theorem laLay_any (v : Value) (xs : List Int) (w : World) (h : Row w v (ints .i32 xs)) (hr : R32 xs) (ho : xs.all oneB = true) (hl : xs.length ≤ 1000000) :
    Calls Tryd.prog 27 #[v] w fun e w' => ∃ t, e = .returned (.tuple #[t, .int .i64 0]) ∧ Own w.heap.size 5 w' t (ints .u8 xs) ∧ Below w.heap.size w w' := by
  obtain ⟨a, b, off, cp, rfl, HC⟩ := id h.op
  have hL := laLacks_yes _ xs w h hr ho hl
  have HL := Lib.hid hL; have HO := Lib.hid ho
  clear hL ho
  have hz : (List.replicate xs.length (0 : Int)).length = xs.length := List.length_replicate
  have hst := fun k x (hx : xs[k]? = some x) => fill_step (ys := List.replicate xs.length 0) id hx hz
  have hgt := fun k (hk : k < xs.length) => fill_get (ys := List.replicate xs.length 0) id hk hz
  have hal := (fill_all (xs := xs) (ys := List.replicate xs.length 0) id hz).trans (List.map_id _)
  have HST := Lib.hid hst; have HGT := Lib.hid hgt; have HAL := Lib.hid hal
  clear hst hgt hal
  have HRP := Lib.hid (ints_replicate .u8 xs.length 0)
  generalize List.replicate xs.length (0 : Int) = zs at *
  clear hz
  go_enter Tryd.func27, Tryd.ntmps27
  go_wp2_with (first | (go_at_call 43; refine (HL.out).mono ?_; rintro e w' ⟨rfl, hw⟩; obtain rfl := hw.symm) | (at_make; refine wpList_mkn 24 5 (.int .u8 0) 1 Tryd.underlying24 infoU8 rfl rfl (by omega) _ _ rfl rfl rfl rfl hl ?_; intro w1 ho1 hb1; rw [← HRP.out] at ho1; have HQ0 : Hid (SetQ .u8 5 w.heap.size w.heap.size xs.length xs.length w1 ((xs.take 0).map id ++ zs.drop 0) w1) := ⟨by rw [List.take_zero, List.drop_zero]; exact ho1, ⟨rfl, rfl, rfl, Nat.le_refl _, fun _ _ _ => rfl⟩⟩; clear ho1))
  go_loopw [15] (fun i wr => ∃ k : Nat, i = .int .i64 k ∧ k ≤ xs.length ∧ SetQ .u8 5 w.heap.size w.heap.size xs.length xs.length w1 ((xs.take k).map id ++ zs.drop k) wr ∧ Below w.heap.size w wr) (fun i _ => xs.length - (intOf i).toNat)
  case atStart => exact ⟨0, rfl, Nat.zero_le _, HQ0.out, hb1⟩
  case round =>
    obtain ⟨k, rfl, hk, hq, hb⟩ := hrel
    by_cases hlt : k < xs.length
    · obtain ⟨x, HX, rfl, hc⟩ := HC.out k hlt
      replace hc := hc wr hb
      have hx1 := of_decide_eq_true (all_get HO.out HX.out)
      obtain ⟨y, hy, _⟩ := HGT.out k hlt
      have f := fun j => hq.1.frozen j
      have c := hq.cell hy
      have hs := hq.set k x
      have hst := HST.out k x HX.out
      rw [id] at hst
      rw [hst] at hs
      have hbs : Below w.heap.size w (wr.setCell ⟨w.heap.size, k, none⟩ (.int .u8 x)) := hb.setCell (p := ⟨w.heap.size, k, none⟩) (Nat.le_refl _) _
      have hw8 : IntKind.u8.wrap x = x := by rw [IntKind.wrap_u8]; omega
      have hx0 := hx1.1
      have hx2 := hx1.2
      have HS := Lib.hid hs; have HBS := Lib.hid hbs
      clear hs hbs hst hq hy hx1
      go_wp2
      go_roundw
      case rel => exact ⟨k + 1, by go_num, by omega, HS.out, HBS.out⟩
      case measure => simp [intOf]; omega
    · obtain rfl : k = xs.length := by omega
      have hq1 := hq.1
      rw [HAL.out] at hq1
      clear hq
      go_wp2
      go_ret2
      exact ⟨_, rfl, hq1, hb⟩
set_option maxRecDepth 100000 in
theorem laRead_any (v : Value) (xs : List Int) (w : World) (h : Row w v (ints .u8 xs)) (hg : Rg 0 256 xs) (hl : xs.length ≤ 1000000) :
    Calls Tryd.prog 20 #[v] w fun e w' => ∃ t, e = .returned t ∧ Own w.heap.size 21 w' t (ints .i32 xs) ∧ Below w.heap.size w w' := by
  obtain ⟨a, b, off, cp, rfl, HC⟩ := id h.op
  have hz : (List.replicate xs.length (0 : Int)).length = xs.length := List.length_replicate
  have hst := fun k x (hx : xs[k]? = some x) => fill_step (ys := List.replicate xs.length 0) id hx hz
  have hgt := fun k (hk : k < xs.length) => fill_get (ys := List.replicate xs.length 0) id hk hz
  have hal := (fill_all (xs := xs) (ys := List.replicate xs.length 0) id hz).trans (List.map_id _)
  have HST := Lib.hid hst; have HGT := Lib.hid hgt; have HAL := Lib.hid hal
  clear hst hgt hal
  have HRP := Lib.hid (ints_replicate .i32 xs.length 0)
  generalize List.replicate xs.length (0 : Int) = zs at *
  clear hz
  go_enter Tryd.func20, Tryd.ntmps20
  go_wp2_with (at_make; refine wpList_mkn 22 21 (.int .i32 0) 4 Tryd.underlying22 infoI32 rfl rfl (by omega) _ _ rfl rfl rfl rfl hl ?_; intro w1 ho1 hb1; rw [← HRP.out] at ho1; have HQ0 : Hid (SetQ .i32 21 w.heap.size w.heap.size xs.length xs.length w1 ((xs.take 0).map id ++ zs.drop 0) w1) := ⟨by rw [List.take_zero, List.drop_zero]; exact ho1, ⟨rfl, rfl, rfl, Nat.le_refl _, fun _ _ _ => rfl⟩⟩; clear ho1)
  go_loopw [11] (fun i wr => ∃ k : Nat, i = .int .i64 k ∧ k ≤ xs.length ∧ SetQ .i32 21 w.heap.size w.heap.size xs.length xs.length w1 ((xs.take k).map id ++ zs.drop k) wr ∧ Below w.heap.size w wr) (fun i _ => xs.length - (intOf i).toNat)
  case atStart => exact ⟨0, rfl, Nat.zero_le _, HQ0.out, hb1⟩
  case round =>
    obtain ⟨k, rfl, hk, hq, hb⟩ := hrel
    by_cases hlt : k < xs.length
    · obtain ⟨x, HX, rfl, hc⟩ := HC.out k hlt
      replace hc := hc wr hb
      have hx1 := hg.get HX.out
      obtain ⟨y, hy, _⟩ := HGT.out k hlt
      have f := fun j => hq.1.frozen j
      have c := hq.cell hy
      have hs := hq.set k x
      have hst := HST.out k x HX.out
      rw [id] at hst
      rw [hst] at hs
      have hbs : Below w.heap.size w (wr.setCell ⟨w.heap.size, k, none⟩ (.int .i32 x)) := hb.setCell (p := ⟨w.heap.size, k, none⟩) (Nat.le_refl _) _
      have hw8 : IntKind.i32.wrap x = x := by rw [IntKind.wrap_i32]; omega
      have hx0 := hx1.1
      have hx2 := hx1.2
      have HS := Lib.hid hs; have HBS := Lib.hid hbs
      clear hs hbs hst hq hy hx1
      go_wp2
      go_roundw
      case rel => exact ⟨k + 1, by go_num, by omega, HS.out, HBS.out⟩
      case measure => simp [intOf]; omega
    · obtain rfl : k = xs.length := by omega
      have hq1 := hq.1
      rw [HAL.out] at hq1
      clear hq
      go_wp2
      go_ret
      exact ⟨_, rfl, hq1, hb⟩
theorem map_snoc (f : Int → Int) {xs : List Int} {k : Nat} {x : Int} (h : xs[k]? = some x) : (xs.take (k + 1)).map f = (xs.take k).map f ++ [f x] := by
  rw [List.take_add_one, h, List.map_append]; rfl
theorem map_len (f : Int → Int) (xs : List Int) (k : Nat) : ((xs.take k).map f).length ≤ xs.length := by rw [List.length_map, List.length_take]; omega
theorem latLay_any (v : Value) (xs : List Int) (w : World) (h : Row w v (ints .i32 xs)) (hr : R32 xs) (ho : xs.all nineB = true) (hl : xs.length ≤ 1000000) :
    Calls Tryd.prog 25 #[v] w fun e w' => ∃ t, e = .returned (.tuple #[t, .int .i64 0]) ∧ Own w.heap.size 5 w' t (ints .u8 (xs.map oct9)) ∧ Below w.heap.size w w' := by
  obtain ⟨a, b, off, cp, rfl, HC⟩ := id h.op
  have HO := Lib.hid ho; clear ho
  go_enter Tryd.func25, Tryd.ntmps25
  go_wp2
  go_loopw [4, 11] (fun u i wr => ∃ k : Nat, i = .int .i64 k ∧ k ≤ xs.length ∧ Own w.heap.size 5 wr u (ints .u8 ((xs.take k).map oct9)) ∧ Below w.heap.size w wr) (fun _ i _ => xs.length - (intOf i).toNat)
  case atStart => exact ⟨0, rfl, Nat.zero_le _, Own.nil _ _ _, Below.refl _ _⟩
  case round =>
    obtain ⟨k, rfl, hk, hown, hb⟩ := hrel
    by_cases hlt : k < xs.length
    · obtain ⟨x, HX, rfl, hc⟩ := HC.out k hlt
      replace hc := hc wr hb
      have hcr := hr.get HX.out
      have h9 := all_get HO.out HX.out
      have hP := fun w => latPutV_any x w hcr.1 hcr.2
      rw [h9, show put9 x = oct9 x from if_pos h9] at hP
      have HSN := Lib.hid (map_snoc oct9 HX.out)
      have HLN : Hid ((ints .u8 ((xs.take k).map oct9)).length + (ints .u8 [oct9 x]).length ≤ 1000000000) := by
        have := map_len oct9 xs k; show _ ≤ _; simp only [ints_length, List.length_cons, List.length_nil]; omega
      have HP := Lib.hid hP
      clear hP h9
      generalize oct9 x = y at *
      go_wp2_with (first | (go_at_call 40; refine (HP.out _).mono ?_; rintro e w1 ⟨rfl, hb1⟩; have hb01 := below_trans hb hb1; have hown1 := hown.below hb1) | (at_builtin; refine wpList_app slT_u8 _ _ _ rfl rfl rfl rfl (hown1.alloc _) (Row.ilit [_] [_] rfl (by simp)) HLN.out (by have := hb01.size; simp; omega) ?_; intro t3 w3 hown3 hg3))
      have hb3 := below_own (hb01.alloc hb01.size _) (hown1.alloc _) hg3 (by have := hb01.size; simp; omega) (Nat.le_refl _)
      rw [← ints_append] at hown3
      go_roundw
      case rel => exact ⟨k + 1, by go_num, by omega, by rw [HSN.out]; exact hown3, hb3⟩
      case measure => simp [intOf]; omega
    · obtain rfl : k = xs.length := by omega
      rw [List.take_length] at hown
      go_wp2
      go_ret2
      exact ⟨_, rfl, hown, hb⟩
theorem latRead_any (v : Value) (xs : List Int) (w : World) (h : Row w v (ints .u8 xs)) (hg : Rg 0 256 xs) (hl : xs.length ≤ 1000000) :
    Calls Tryd.prog 17 #[v] w fun e w' => ∃ t, e = .returned t ∧ Own w.heap.size 21 w' t (ints .i32 (xs.map sign9)) ∧ Below w.heap.size w w' := by
  obtain ⟨a, b, off, cp, rfl, HC⟩ := id h.op
  go_enter Tryd.func17, Tryd.ntmps17
  go_wp2
  go_loopw [3, 8] (fun u i wr => ∃ k : Nat, i = .int .i64 k ∧ k ≤ xs.length ∧ Own w.heap.size 21 wr u (ints .i32 ((xs.take k).map sign9)) ∧ Below w.heap.size w wr) (fun _ i _ => xs.length - (intOf i).toNat)
  case atStart => exact ⟨0, rfl, Nat.zero_le _, Own.nil _ _ _, Below.refl _ _⟩
  case round =>
    obtain ⟨k, rfl, hk, hown, hb⟩ := hrel
    by_cases hlt : k < xs.length
    · obtain ⟨x, HX, rfl, hc⟩ := HC.out k hlt
      replace hc := hc wr hb
      have hcr := hg.get HX.out
      have hP := fun w => latSign_any x w hcr.1 hcr.2
      have HSN := Lib.hid (map_snoc sign9 HX.out)
      have HLN : Hid ((ints .i32 ((xs.take k).map sign9)).length + (ints .i32 [sign9 x]).length ≤ 1000000000) := by
        have := map_len sign9 xs k; show _ ≤ _; simp only [ints_length, List.length_cons, List.length_nil]; omega
      have HP := Lib.hid hP
      clear hP
      generalize sign9 x = y at *
      go_wp2_with (first | (go_at_call 33; refine (HP.out _).mono ?_; rintro e w1 ⟨rfl, hb1⟩; have hb01 := below_trans hb hb1; have hown1 := hown.below hb1) | (at_builtin; refine wpList_app slT_i32 _ _ _ rfl rfl rfl rfl (hown1.alloc _) (Row.ilit [_] [_] rfl (by simp)) HLN.out (by have := hb01.size; simp; omega) ?_; intro t3 w3 hown3 hg3))
      have hb3 := below_own (hb01.alloc hb01.size _) (hown1.alloc _) hg3 (by have := hb01.size; simp; omega) (Nat.le_refl _)
      rw [← ints_append] at hown3
      go_roundw
      case rel => exact ⟨k + 1, by go_num, by omega, by rw [HSN.out]; exact hown3, hb3⟩
      case measure => simp [intOf]; omega
    · obtain rfl : k = xs.length := by omega
      rw [List.take_length] at hown
      go_wp2
      go_ret
      exact ⟨_, rfl, hown, hb⟩
set_option maxRecDepth 100000 in
theorem rPut8V_any (c : Int) (w : World) (ho : oneB c = true) :
    Calls Tryd.prog 48 #[.int .i32 c] w fun e w' => e = .returned (.tuple #[.int .u8 c, .bool true]) ∧ w' = w := by
  have hc := of_decide_eq_true ho
  have hc0 := hc.1
  have hc1 := hc.2
  clear ho hc
  go_enter Tryd.func48, Tryd.ntmps48
  go_wp2
  go_loop [4] (fun i => ∃ k : Nat, i = .int .i64 k ∧ (k : Int) ≤ c) (fun i => 256 - (intOf i).toNat)
  case atStart => exact ⟨0, rfl, by omega⟩
  case round =>
    obtain ⟨k, rfl, hk⟩ := hrel
    by_cases hs : (k : Int) = c
    · subst hs
      have hs' : ((k : Int) == k) = true := by simp
      have hc' : ((k : Int) != 65533) = true := by simp; omega
      go_wp2_with (go_at_call 67; refine (rSign8_any _ _ (by omega) (by omega)).mono ?_; rintro e w' ⟨rfl, hw⟩; obtain rfl := hw.symm)
      go_ret2
      exact ⟨rfl, rfl⟩
    · have hs' : ((k : Int) == c) = false := by simpa using hs
      have HS : Hid ((k : Int) + 1 ≤ c) := by show _ ≤ _; omega
      have hk2 : (k : Int) < 256 := by omega
      clear hs
      go_wp2_with (go_at_call 67; refine (rSign8_any _ _ (by omega) (by omega)).mono ?_; rintro e w' ⟨rfl, hw⟩; obtain rfl := hw.symm)
      go_round
      case rel => exact ⟨k + 1, by go_num, by have := HS.out; omega⟩
      case measure => simp [intOf]; omega
set_option maxRecDepth 100000 in
theorem rPut9V_any (c : Int) (w : World) (ho : nineB c = true) :
    Calls Tryd.prog 49 #[.int .i32 c] w fun e w' => e = .returned (.tuple #[.int .u8 (oct9 c), .bool true]) ∧ w' = w := by
  have h9 := oct9_of ho
  have hcn : c ≠ 65533 := by
    obtain ⟨n, hn, rfl⟩ := nine_back ho
    exact (nine_sign ⟨n, hn⟩).2
  have hat := fun (n : Nat) (hn : n < 256) => oct9_at hn
  obtain ⟨y, HYE⟩ : ∃ y : Nat, Hid (oct9 c = y) := ⟨(oct9 c).toNat, (by omega : oct9 c = ((oct9 c).toNat : Int))⟩
  have hy1 := HYE.out
  rw [hy1] at h9
  have hy0 : y < 256 := by have := h9.2.1; omega
  have HSY := Lib.hid h9.2.2
  have HNE : Hid (∀ k : Nat, k < y → (sign9 k == c) = false) := fun k hk => beq_false_of_ne (fun h => by
    have := hat k (by omega)
    rw [h, hy1] at this; omega)
  rw [hy1]
  have hcb : (c != 65533) = true := by simpa using hcn
  clear h9 hat ho hcn hy1
  go_enter Tryd.func49, Tryd.ntmps49
  go_wp2
  go_loop [4] (fun i => ∃ k : Nat, i = .int .i64 k ∧ k ≤ y) (fun i => 256 - (intOf i).toNat)
  case atStart => exact ⟨0, rfl, by omega⟩
  case round =>
    obtain ⟨k, rfl, hk⟩ := hrel
    have hSg := fun w => rSign9_any (k : Int) w (by omega) (by omega)
    by_cases hs : k = y
    · subst hs
      rw [HSY.out] at hSg
      have HSG := Lib.hid hSg
      clear hSg
      go_wp2_with (go_at_call 68; refine (HSG.out _).mono ?_; rintro e w' ⟨rfl, hw⟩; obtain rfl := hw.symm)
      go_ret2
      exact ⟨rfl, rfl⟩
    · have hne := HNE.out k (by omega)
      have HSG := Lib.hid hSg
      clear hSg
      generalize sign9 (k : Int) = z at *
      have hk2 : k < 256 := by omega
      have hk3 : k + 1 ≤ y := by omega
      go_wp2_with (go_at_call 68; refine (HSG.out _).mono ?_; rintro e w' ⟨rfl, hw⟩; obtain rfl := hw.symm)
      go_round
      case rel => exact ⟨k + 1, by go_num, by omega⟩
      case measure => simp [intOf]; omega
end Go.Proofs.YtponfaglflmnkaaDoor
namespace Go.Proofs.YtponfaglflmnkaaDoor
open Go.RowKit
set_option maxHeartbeats 1000000
theorem beqs (n k : Int) (h : n ≠ k) : (n == k) = false := beq_false_of_ne h
set_option maxRecDepth 100000 in
theorem pHas_any (n c : Int) (w : World) (h1 : -2147483648 ≤ c) (h2 : c ≤ 2147483647) :
    Calls Tryd.prog 44 #[.int .i64 n, .int .i32 c] w fun e w' => e = .returned (.bool (hasB n c)) ∧ Below w.heap.size w w' := by
  have hb := Below.refl w.heap.size w
  have hlat := fun w => laHas_any c w h1 h2
  have hnine := fun w => latHas_any c w h1 h2
  have hwin := fun w => wHas_any c w h1 h2
  have hsc := fun w => is_any c w h1 h2
  rcases (by omega : n = 1 ∨ n = 2 ∨ n = 3 ∨ n = 4 ∨ n = 5 ∨ ¬ (1 ≤ n ∧ n ≤ 5)) with rfl | rfl | rfl | rfl | rfl | hn
  · have e : hasB 1 c = decide (0 ≤ c ∧ c < 128) := rfl
    rcases Decidable.em (0 ≤ c) with h3 | h3
    · have HF : Hid (hasB 1 c = decide (c < 128)) := by rw [e]; show _ = _; rw [decide_eq_decide]; omega
      clear e
      go_enter Tryd.func44, Tryd.ntmps44
      go_wp2
      go_ret
      exact ⟨ret_bool HF.out.symm, hb⟩
    · have HF : Hid (hasB 1 c = false) := by rw [e]; exact decide_eq_false (by omega)
      clear e
      go_enter Tryd.func44, Tryd.ntmps44
      go_wp2
      go_ret
      exact ⟨ret_bool HF.out.symm, hb⟩
  · rw [show hasB 2 c = oneB c from rfl]
    have H := Lib.hid hlat; clear hlat hnine hwin hsc
    go_enter Tryd.func44, Tryd.ntmps44
    go_wp2_with (go_at_call 61; refine (H.out _).mono ?_; rintro e w' ⟨rfl, hw⟩; obtain rfl := hw.symm)
    go_ret
    exact ⟨rfl, hb⟩
  · rw [show hasB 3 c = nineB c from rfl]
    have H := Lib.hid hnine; clear hlat hnine hwin hsc
    go_enter Tryd.func44, Tryd.ntmps44
    go_wp2_with (go_at_call 62; refine (H.out _).mono ?_; rintro e w' ⟨rfl, hb1⟩)
    go_ret
    exact ⟨rfl, hb1⟩
  · rw [show hasB 4 c = (wput c).2 from rfl]
    have H := Lib.hid hwin; clear hlat hnine hwin hsc
    go_enter Tryd.func44, Tryd.ntmps44
    go_wp2_with (go_at_call 59; refine (H.out _).mono ?_; rintro e w' ⟨rfl, hb1⟩)
    go_ret
    exact ⟨rfl, hb1⟩
  · rw [show hasB 5 c = scB c from rfl]
    have H := Lib.hid hsc; clear hlat hnine hwin hsc
    go_enter Tryd.func44, Tryd.ntmps44
    go_wp2_with (go_at_call 63; refine (H.out _).mono ?_; rintro e w' ⟨rfl, hw⟩; obtain rfl := hw)
    go_ret
    exact ⟨rfl, hb⟩
  · rw [hasB_not c hn]
    have e1 := beqs n 1 (by omega); have e2 := beqs n 2 (by omega); have e3 := beqs n 3 (by omega); have e4 := beqs n 4 (by omega); have e5 := beqs n 5 (by omega)
    clear hlat hnine hwin hsc hn
    go_enter Tryd.func44, Tryd.ntmps44
    go_wp2
    go_ret
    exact ⟨rfl, hb⟩
set_option maxRecDepth 100000 in
theorem rHas_any (n c : Int) (w : World) (h1 : -2147483648 ≤ c) (h2 : c ≤ 2147483647) :
    Calls Tryd.prog 47 #[.int .i64 n, .int .i32 c] w fun e w' => e = .returned (.bool (hasB n c)) ∧ Below w.heap.size w w' := by
  have hb := Below.refl w.heap.size w
  have hlat := fun w => rPut8_any c w h1 h2
  have hnine := fun w => rPut9_any c w h1 h2
  have hwin := fun w => rwPut_any c w h1 h2
  have hsc := fun w => ris_any c w
  rcases (by omega : n = 1 ∨ n = 2 ∨ n = 3 ∨ n = 4 ∨ n = 5 ∨ ¬ (1 ≤ n ∧ n ≤ 5)) with rfl | rfl | rfl | rfl | rfl | hn
  · have e : hasB 1 c = decide (0 ≤ c ∧ c < 128) := rfl
    rcases Decidable.em (0 ≤ c) with h3 | h3
    · have HF : Hid (hasB 1 c = decide (c < 128)) := by rw [e]; show _ = _; rw [decide_eq_decide]; omega
      clear e
      go_enter Tryd.func47, Tryd.ntmps47
      go_wp2
      go_ret
      exact ⟨ret_bool HF.out.symm, hb⟩
    · have HF : Hid (hasB 1 c = false) := by rw [e]; exact decide_eq_false (by omega)
      clear e
      go_enter Tryd.func47, Tryd.ntmps47
      go_wp2
      go_ret
      exact ⟨ret_bool HF.out.symm, hb⟩
  · rw [show hasB 2 c = oneB c from rfl]
    have H := Lib.hid hlat; clear hlat hnine hwin hsc
    go_enter Tryd.func47, Tryd.ntmps47
    go_wp2_with (go_at_call 48; refine (H.out _).mono ?_; rintro e w' ⟨⟨x, rfl⟩, hw⟩; obtain rfl := hw.symm)
    go_ret
    exact ⟨rfl, hb⟩
  · rw [show hasB 3 c = nineB c from rfl]
    have H := Lib.hid hnine; clear hlat hnine hwin hsc
    go_enter Tryd.func47, Tryd.ntmps47
    go_wp2_with (go_at_call 49; refine (H.out _).mono ?_; rintro e w' ⟨⟨x, rfl⟩, hw⟩; obtain rfl := hw.symm)
    go_ret
    exact ⟨rfl, hb⟩
  · rw [show hasB 4 c = (wput c).2 from rfl]
    have H := Lib.hid hwin; clear hlat hnine hwin hsc
    go_enter Tryd.func47, Tryd.ntmps47
    go_wp2_with (go_at_call 50; refine (H.out _).mono ?_; rintro e w' ⟨rfl, hb1⟩)
    go_ret
    exact ⟨rfl, hb1⟩
  · rw [show hasB 5 c = scB c from rfl]
    have H := Lib.hid hsc; clear hlat hnine hwin hsc
    go_enter Tryd.func47, Tryd.ntmps47
    go_wp2_with (go_at_call 66; refine (H.out _).mono ?_; rintro e w' ⟨rfl, hw⟩; obtain rfl := hw)
    go_ret
    exact ⟨rfl, hb⟩
  · rw [hasB_not c hn]
    have e1 := beqs n 1 (by omega); have e2 := beqs n 2 (by omega); have e3 := beqs n 3 (by omega); have e4 := beqs n 4 (by omega); have e5 := beqs n 5 (by omega)
    clear hlat hnine hwin hsc hn
    go_enter Tryd.func47, Tryd.ntmps47
    go_wp2
    go_ret
    exact ⟨rfl, hb⟩
end Go.Proofs.YtponfaglflmnkaaDoor
namespace Go.Proofs.YtponfaglflmnkaaDoor
open Go.RowKit
set_option maxHeartbeats 1000000
def tab64 : List Int := [0, 1, 56, 2, 57, 49, 28, 3, 61, 58, 42, 50, 38, 29, 17, 4, 62, 47, 59, 36, 45, 43, 51, 22, 53, 39, 33, 30, 24, 18, 12, 5, 63, 55, 48, 27, 60, 41, 37, 16, 46, 35, 44, 21, 52, 32, 23, 11, 54, 26, 40, 15, 34, 20, 31, 10, 25, 14, 19, 9, 13, 8, 7, 6]
/-- The library's table, as it is laid. -/
def Tz (w : World) : Prop := ∀ i : Nat, i < 64 → w.cell? ⟨1, i, none⟩ = some (.int .u8 (tab64.getD i 0))
theorem Tz.below {w w' : World} (h : Tz w) (hb : Below w.heap.size w w') : Tz w' := fun i hi => by
  rw [← h i hi]; exact hb.cell (World.block_lt_of_cell? w _ (h i hi))
/-- Where the table tells of s. -/
def tzAt (s : Int) : Int := IntKind.u64.wrap (bits .and .u64 s (IntKind.u64.wrap (-s)) * 285870213051353865) / 288230376151711744
set_option maxRecDepth 100000 in
theorem tz64_any (s : Int) (j : Nat) (r : Int) (w : World) (hT : Tz w) (h0 : s ≠ 0) (hx : tzAt s = j) (hj : j < 64) (hr : tab64.getD j 0 = r) (hr0 : 0 ≤ r) (hr1 : r < 64) :
    Calls Tryd.prog 65 #[.int .u64 s] w fun e w' => e = .returned (.int .i64 r) ∧ w' = w := by
  have hc := hT j hj
  rw [hr] at hc
  have hs0 : (s == 0) = false := beq_false_of_ne h0
  have hw : IntKind.i64.wrap r = r := by rw [IntKind.wrap_i64]; omega
  have hx2 : IntKind.u64.wrap (bits .and .u64 s (IntKind.u64.wrap (-s)) * 285870213051353865) / 288230376151711744 = j := hx
  clear hr hT h0 hx
  go_enter Tryd.func65, Tryd.ntmps65
  go_wp2
  go_ret
  exact ⟨ret_int (by first | rfl | exact hw), rfl⟩
theorem tz_any (s : Int) (j : Nat) (r : Int) (w : World) (hT : Tz w) (h0 : s ≠ 0) (hx : tzAt s = j) (hj : j < 64) (hr : tab64.getD j 0 = r) (hr0 : 0 ≤ r) (hr1 : r < 64) :
    Calls Tryd.prog 45 #[.int .u64 s] w fun e w' => e = .returned (.int .i64 r) ∧ w' = w := by
  have H := Lib.hid (tz64_any s j r w hT h0 hx hj hr hr0 hr1)
  clear hx hr hT
  go_enter Tryd.func45, Tryd.ntmps45
  go_wp2_with (go_at_call 65; refine (H.out).mono ?_; rintro e w' ⟨rfl, hw'⟩; obtain rfl := hw'.symm)
  go_ret
  exact ⟨rfl, rfl⟩
theorem low_tz : ∀ a b c d e : Bool, enc5 a b c d e = 0 ∨ (0 < enc5 a b c d e ∧ enc5 a b c d e < 64 ∧ tzAt (enc5 a b c d e) = ((tzAt (enc5 a b c d e)).toNat : Int) ∧ (tzAt (enc5 a b c d e)).toNat < 64 ∧ tab64.getD (tzAt (enc5 a b c d e)).toNat 0 = low5 a b c d e) := by decide +kernel
theorem enc_pos {f : Int → Bool} : enc f = 0 ↔ lowL f = 0 := by
  have h := enc5_zero (f 1) (f 2) (f 3) (f 4) (f 5)
  rw [← enc_eq] at h
  have h2 : (enc f == 0) = (lowL f == 0) := h
  rw [Bool.eq_iff_iff] at h2
  simpa using h2
theorem lowest_any (f : Int → Bool) (w : World) (hT : Tz w) :
    Calls Tryd.prog 29 #[.int .i64 (enc f)] w fun e w' => e = .returned (.int .i64 (lowL f)) ∧ w' = w := by
  rcases low_tz (f 1) (f 2) (f 3) (f 4) (f 5) with h | ⟨h1, h2, h3, h4, h5⟩
  · have h0 : enc f = 0 := h
    rw [enc_pos.1 h0, h0]
    go_enter Tryd.func29, Tryd.ntmps29
    go_wp2
    go_ret
    exact ⟨rfl, rfl⟩
  · rw [← enc_eq] at h1 h2 h3 h4 h5
    have hr := low_rng f
    have H := Lib.hid (tz_any (enc f) _ (lowL f) w hT (by omega) h3 h4 h5 hr.1 (by omega))
    clear h3 h4 h5 hr hT
    generalize enc f = s at *
    have hw : IntKind.u64.wrap s = s := by simp only [IntKind.wrap_u64]; omega
    have hs0 : (s == 0) = false := beq_false_of_ne (by omega)
    go_enter Tryd.func29, Tryd.ntmps29
    go_wp2_with (go_at_call 45; refine (H.out).mono ?_; rintro e w' ⟨rfl, hw'⟩; obtain rfl := hw'.symm)
    go_ret
    exact ⟨rfl, rfl⟩
end Go.Proofs.YtponfaglflmnkaaDoor
namespace Go.Proofs.YtponfaglflmnkaaDoor
open Go.RowKit
set_option maxHeartbeats 1000000
/-- The first k of five answers as one number. -/
def encR (k : Nat) (f : Int → Bool) : Int := enc5 (decide (1 ≤ k) && f 1) (decide (2 ≤ k) && f 2) (decide (3 ≤ k) && f 3) (decide (4 ≤ k) && f 4) (decide (5 ≤ k) && f 5)
theorem encR_or0 {f : Int → Bool} (h : f 1 = true) : bits .or .i64 (encR 0 f) 2 = encR 1 f ∧ encR 0 f + 2 = encR 1 f := by
  simp only [encR, h]; generalize f 2 = b; generalize f 3 = c; generalize f 4 = d; generalize f 5 = e; revert b c d e; decide
theorem encR_or1 {f : Int → Bool} (h : f 2 = true) : bits .or .i64 (encR 1 f) 4 = encR 2 f ∧ encR 1 f + 4 = encR 2 f := by
  simp only [encR, h]; generalize f 1 = b; generalize f 3 = c; generalize f 4 = d; generalize f 5 = e; revert b c d e; decide
theorem encR_or2 {f : Int → Bool} (h : f 3 = true) : bits .or .i64 (encR 2 f) 8 = encR 3 f ∧ encR 2 f + 8 = encR 3 f := by
  simp only [encR, h]; generalize f 1 = b; generalize f 2 = c; generalize f 4 = d; generalize f 5 = e; revert b c d e; decide
theorem encR_or3 {f : Int → Bool} (h : f 4 = true) : bits .or .i64 (encR 3 f) 16 = encR 4 f ∧ encR 3 f + 16 = encR 4 f := by
  simp only [encR, h]; generalize f 1 = b; generalize f 2 = c; generalize f 3 = d; generalize f 5 = e; revert b c d e; decide
theorem encR_or4 {f : Int → Bool} (h : f 5 = true) : bits .or .i64 (encR 4 f) 32 = encR 5 f ∧ encR 4 f + 32 = encR 5 f := by
  simp only [encR, h]; generalize f 1 = b; generalize f 2 = c; generalize f 3 = d; generalize f 4 = e; revert b c d e; decide
theorem encR_no {f : Int → Bool} {k : Nat} (hk : k < 5) (h : f ((k : Int) + 1) = false) : encR k f = encR (k + 1) f := by
  rcases (by omega : k = 0 ∨ k = 1 ∨ k = 2 ∨ k = 3 ∨ k = 4) with rfl | rfl | rfl | rfl | rfl
  · have h : f 1 = false := h
    simp only [encR, h]; rfl
  · have h : f 2 = false := h
    simp only [encR, h]; rfl
  · have h : f 3 = false := h
    simp only [encR, h]; rfl
  · have h : f 4 = false := h
    simp only [encR, h]; rfl
  · have h : f 5 = false := h
    simp only [encR, h]; rfl
theorem encR_rng (k : Nat) (f : Int → Bool) : 0 ≤ encR k f ∧ encR k f ≤ 62 := by
  unfold encR enc5; constructor <;> (repeat' split) <;> omega
theorem encR_all (f : Int → Bool) : encR 5 f = enc f := by rw [enc_eq]; rfl
theorem encR_0 (f : Int → Bool) : encR 0 f = 0 := rfl
set_option maxRecDepth 100000 in
theorem pSets_any (c : Int) (w : World) (h1 : -2147483648 ≤ c) (h2 : c ≤ 2147483647) :
    Calls Tryd.prog 28 #[.int .i32 c] w fun e w' => e = .returned (.int .i64 (enc fun n => hasB n c)) ∧ Below w.heap.size w w' := by
  have H := fun n w => pHas_any n c w h1 h2
  obtain ⟨f, hf⟩ : ∃ f : Int → Bool, f = fun n => hasB n c := ⟨_, rfl⟩
  have hH : ∀ n w, Calls Tryd.prog 44 #[.int .i64 n, .int .i32 c] w fun e w' => e = .returned (.bool (f n)) ∧ Below w.heap.size w w' := by rw [hf]; exact H
  rw [← hf]
  have HH := Lib.hid hH; clear hH H hf
  go_enter Tryd.func28, Tryd.ntmps28
  go_wp2
  go_loopw [3, 5] (fun s i wr => ∃ k : Nat, i = .int .i64 k ∧ k ≤ 5 ∧ s = .int .i64 (encR k f) ∧ Below w.heap.size w wr) (fun _ i _ => 5 - (intOf i).toNat)
  case atStart => exact ⟨0, rfl, by omega, rfl, Below.refl _ _⟩
  case round =>
    obtain ⟨k, rfl, hk, rfl, hb⟩ := hrel
    by_cases hlt : k < 5
    · have hno := @encR_no f k hlt
      obtain ⟨m, hm⟩ : ∃ m : Nat, m = k + 1 := ⟨_, rfl⟩
      rcases (by omega : k = 0 ∨ k = 1 ∨ k = 2 ∨ k = 3 ∨ k = 4) with rfl | rfl | rfl | rfl | rfl
      case' inl => have hor := @encR_or0 f; obtain ⟨q, hq⟩ : ∃ q, f 1 = q := ⟨_, rfl⟩; have hH := HH.out 1
      case' inr.inl => have hor := @encR_or1 f; obtain ⟨q, hq⟩ : ∃ q, f 2 = q := ⟨_, rfl⟩; have hH := HH.out 2
      case' inr.inr.inl => have hor := @encR_or2 f; obtain ⟨q, hq⟩ : ∃ q, f 3 = q := ⟨_, rfl⟩; have hH := HH.out 3
      case' inr.inr.inr.inl => have hor := @encR_or3 f; obtain ⟨q, hq⟩ : ∃ q, f 4 = q := ⟨_, rfl⟩; have hH := HH.out 4
      case' inr.inr.inr.inr => have hor := @encR_or4 f; obtain ⟨q, hq⟩ : ∃ q, f 5 = q := ⟨_, rfl⟩; have hH := HH.out 5
      all_goals
        rw [hq] at hH hor
        rcases q with _ | _
        · have HN := Lib.hid (hno hq)
          have H2 := Lib.hid hH
          clear hno hor hq hH
          go_wp2_with (go_at_call 44; refine (H2.out _).mono ?_; rintro e w1 ⟨rfl, hb1⟩)
          go_roundw
          case rel => exact ⟨m, by subst hm; first | exact iv (by rfl) | go_num, by omega, by subst hm; rw [HN.out], below_trans hb hb1⟩
          case measure => simp [intOf]
        · have ho := (hor rfl).1
          have H2 := Lib.hid hH
          clear hno hor hq hH
          go_wp2_with (go_at_call 44; refine (H2.out _).mono ?_; rintro e w1 ⟨rfl, hb1⟩)
          go_roundw
          case rel => exact ⟨m, by subst hm; first | exact iv (by rfl) | go_num, by omega, by subst hm; rfl, below_trans hb hb1⟩
          case measure => simp [intOf]
    · obtain rfl : k = 5 := by omega
      go_wp2
      go_ret
      exact ⟨ret_int (encR_all f), hb⟩
set_option maxRecDepth 100000 in
theorem pSize_any (n : Int) (w : World) :
    Calls Tryd.prog 22 #[.int .i64 n] w fun e w' => e = .returned (.int .i64 (sizeL n)) ∧ w' = w := by
  rcases (by omega : n = 1 ∨ n = 2 ∨ n = 3 ∨ n = 4 ∨ n = 5 ∨ ¬ (1 ≤ n ∧ n ≤ 5)) with rfl | rfl | rfl | rfl | rfl | hn
  case inr.inr.inr.inr.inr =>
    have e : sizeL n = 0 := by rw [sizeL, if_neg (by omega), if_neg (by omega), if_neg (by omega), if_neg (by omega), if_neg (by omega)]
    have e1 := beqs n 1 (by omega); have e2 := beqs n 2 (by omega); have e3 := beqs n 3 (by omega); have e4 := beqs n 4 (by omega); have e5 := beqs n 5 (by omega)
    rw [e]
    clear e hn
    go_enter Tryd.func22, Tryd.ntmps22
    go_wp2
    go_ret
    exact ⟨rfl, rfl⟩
  all_goals
    go_enter Tryd.func22, Tryd.ntmps22
    go_wp2
    go_ret
    exact ⟨rfl, rfl⟩
end Go.Proofs.YtponfaglflmnkaaDoor
namespace Go.Proofs.YtponfaglflmnkaaDoor
theorem cnt_fin : cnt 1 8704 = 128 ∧ cnt 2 8704 = 256 ∧ cnt 3 8704 = 256 ∧ cnt 4 8704 = 251 := by decide +kernel
theorem cnt_size {n : Int} (h : n ≠ 5) : (cnt n 8704 : Int) = sizeL n := by
  rcases (by omega : n = 1 ∨ n = 2 ∨ n = 3 ∨ n = 4 ∨ ¬ (1 ≤ n ∧ n ≤ 5)) with rfl | rfl | rfl | rfl | hn
  · rw [cnt_fin.1]; rfl
  · rw [cnt_fin.2.1]; rfl
  · rw [cnt_fin.2.2.1]; rfl
  · rw [cnt_fin.2.2.2]; rfl
  · rw [cnt_no hn, sizeL, if_neg (by omega), if_neg (by omega), if_neg (by omega), if_neg (by omega), if_neg (by omega)]; rfl
end Go.Proofs.YtponfaglflmnkaaDoor
namespace Go.Proofs.YtponfaglflmnkaaDoor
open Go.RowKit
set_option maxHeartbeats 1000000
/-- The first that a charset has not. -/
def lackN (n : Int) (xs : List Int) : Int := idx (fun c => !hasB n c) xs
theorem lackN_neg (n : Int) (xs : List Int) : (lackN n xs == -1) = xs.all (hasB n) := by
  cases h : xs.all (hasB n) with
  | true =>
    have : lackN n xs = -1 := idx_none fun y hy => by simp [List.all_eq_true.1 h y hy]
    rw [this]; rfl
  | false =>
    rcases idx_spec (fun c => !hasB n c) xs with h1 | ⟨i, x, h1, h2, h3⟩
    · exfalso
      obtain ⟨x, hx, hn⟩ := List.all_eq_false.1 h
      have h1' : xs.findIdx? (fun c => !hasB n c) = none := by
        unfold idx at h1
        split at h1
        · omega
        · assumption
      have := List.findIdx?_eq_none_iff.1 h1' x hx
      simp at this
      exact hn this
    · have : lackN n xs = i := h1
      rw [this]; exact beq_false_of_ne (by omega)
theorem lackN_lt (n : Int) (xs : List Int) : decide (lackN n xs < 0) = xs.all (hasB n) := by
  rw [← lackN_neg]
  rcases idx_spec (fun c => !hasB n c) xs with h1 | ⟨i, x, h1, _⟩
  · have : lackN n xs = -1 := h1
    rw [this]; rfl
  · have : lackN n xs = i := h1
    rw [this, decide_eq_false (by omega), beq_false_of_ne (by omega)]
set_option maxRecDepth 100000 in
theorem pLacks_any (n : Int) (v : Value) (xs : List Int) (w : World) (h : Row w v (ints .i32 xs)) (hg : R32 xs) (hl : xs.length ≤ 1000000) :
    Calls Tryd.prog 37 #[.int .i64 n, v] w fun e w' => e = .returned (.int .i64 (lackN n xs)) ∧ Below w.heap.size w w' := by
  obtain ⟨a, b, off, cp, rfl, HC⟩ := h.op
  go_enter Tryd.func37, Tryd.ntmps37
  go_wp2
  go_loopw [9] (fun i wr => ∃ k : Nat, i = .int .i64 k ∧ k ≤ xs.length ∧ Hid (∀ y ∈ xs.take k, hasB n y = true) ∧ Below w.heap.size w wr) (fun i _ => xs.length - (intOf i).toNat)
  case atStart => exact ⟨0, rfl, Nat.zero_le _, fun y hy => by simp at hy, Below.refl _ _⟩
  case round =>
    obtain ⟨k, rfl, hk, HT, hb⟩ := hrel
    by_cases hlt : k < xs.length
    · obtain ⟨x, HX, rfl, hc⟩ := HC.out k hlt
      replace hc := hc _ hb
      have hxr := hg.get HX.out
      have H := pHas_any n x wr hxr.1 hxr.2
      obtain ⟨q, hq⟩ : ∃ q, hasB n x = q := ⟨_, rfl⟩
      rw [hq] at H
      have HQ := Lib.hid hq; have H2 := Lib.hid H
      clear hq H
      rcases q with _ | _
      · have HF : Hid (lackN n xs = k) := idx_at (p := fun c => !hasB n c) (k := k) (fun y hy => by simp [HT.out y hy]) HX.out (by simp [HQ.out])
        go_wp2_with (go_at_call 44; refine (H2.out).mono ?_; rintro e w1 ⟨rfl, hb1⟩)
        go_ret
        exact ⟨ret_int HF.out.symm, below_trans hb hb1⟩
      · go_wp2_with (go_at_call 44; refine (H2.out).mono ?_; rintro e w1 ⟨rfl, hb1⟩)
        go_roundw
        case rel => exact ⟨k + 1, by go_num, by omega, take_succ_all HT.out HX.out HQ.out, below_trans hb hb1⟩
        case measure => simp [intOf]; omega
    · have HF : Hid (lackN n xs = -1) := idx_none fun y hy => by
        have := HT.out y (by rw [List.take_of_length_le (by omega)]; exact hy)
        simp [this]
      go_wp2
      go_ret
      exact ⟨ret_int HF.out.symm, hb⟩
set_option maxRecDepth 100000 in
theorem rLacks_any (n : Int) (v : Value) (xs : List Int) (w : World) (h : Row w v (ints .i32 xs)) (hg : R32 xs) (hl : xs.length ≤ 1000000) :
    Calls Tryd.prog 46 #[.int .i64 n, v] w fun e w' => e = .returned (.int .i64 (lackN n xs)) ∧ Below w.heap.size w w' := by
  obtain ⟨a, b, off, cp, rfl, HC⟩ := h.op
  go_enter Tryd.func46, Tryd.ntmps46
  go_wp2
  go_loopw [5] (fun i wr => ∃ k : Nat, i = .int .i64 k ∧ k ≤ xs.length ∧ Hid (∀ y ∈ xs.take k, hasB n y = true) ∧ Below w.heap.size w wr) (fun i _ => xs.length - (intOf i).toNat)
  case atStart => exact ⟨0, rfl, Nat.zero_le _, fun y hy => by simp at hy, Below.refl _ _⟩
  case round =>
    obtain ⟨k, rfl, hk, HT, hb⟩ := hrel
    by_cases hlt : k < xs.length
    · obtain ⟨x, HX, rfl, hc⟩ := HC.out k hlt
      replace hc := hc _ hb
      have hxr := hg.get HX.out
      have H := fun w => rHas_any n x w hxr.1 hxr.2
      obtain ⟨q, hq⟩ : ∃ q, hasB n x = q := ⟨_, rfl⟩
      rw [hq] at H
      have HQ := Lib.hid hq; have H2 := Lib.hid H
      clear hq H
      rcases q with _ | _
      · have HF : Hid (lackN n xs = k) := idx_at (p := fun c => !hasB n c) (k := k) (fun y hy => by simp [HT.out y hy]) HX.out (by simp [HQ.out])
        go_wp2_with (go_at_call 47; refine (H2.out _).mono ?_; rintro e w1 ⟨rfl, hb1⟩)
        go_ret
        exact ⟨ret_int HF.out.symm, below_trans hb hb1⟩
      · go_wp2_with (go_at_call 47; refine (H2.out _).mono ?_; rintro e w1 ⟨rfl, hb1⟩)
        go_roundw
        case rel => exact ⟨k + 1, by go_num, by omega, take_succ_all HT.out HX.out HQ.out, below_trans hb hb1⟩
        case measure => simp [intOf]; omega
    · have HF : Hid (lackN n xs = -1) := idx_none fun y hy => by
        have := HT.out y (by rw [List.take_of_length_le (by omega)]; exact hy)
        simp [this]
      go_wp2
      go_ret
      exact ⟨ret_int HF.out.symm, hb⟩
end Go.Proofs.YtponfaglflmnkaaDoor
