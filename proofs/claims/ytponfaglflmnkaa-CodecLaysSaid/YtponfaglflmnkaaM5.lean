/- Walks: latin one and latin nine: laying and reading. · Walks: repertoires: has a charset a number; all that have one. · Walks: repertoires: the first of a set. · Walks: repertoires: sets, sizes. · Plain: how many numbers the charsets have. · Walks: repertoires: texts. · Walks: repertoires: the sufficient one. · Walks: windows-1252, reading; the statements' own examples. · Plain laws on bits. · Walks: UTF-8, one sign. (laid together by program out of single texts). -/
import Derived.WalkKit
import Derived.Test.YtponfaglflmnkaaM1
import Derived.Test.YtponfaglflmnkaaM2
import Derived.Test.YtponfaglflmnkaaM3
import Derived.Test.YtponfaglflmnkaaM4
namespace Go.Proofs.Ytponfaglflmnkaa
open Go.RowKit
set_option maxHeartbeats 2000000
theorem infoU8 : (Try.prog.info? 5).map (fun i => (i.zero, i.size, i.bytes)) = some (some (.int .u8 0), 1, 1) := by kernel_rfl
theorem infoI32 : (Try.prog.info? 21).map (fun i => (i.zero, i.size, i.bytes)) = some (some (.int .i32 0), 1, 4) := by kernel_rfl
theorem all_get {f : Int → Bool} {xs : List Int} (h : xs.all f = true) {k : Nat} {x : Int} (hx : xs[k]? = some x) : f x = true := List.all_eq_true.1 h x (List.mem_of_getElem? hx)
theorem laLacks_yes (v : Value) (xs : List Int) (w : World) (h : Row w v (ints .i32 xs)) (hr : R32 xs) (ho : xs.all oneB = true) (hl : xs.length ≤ 1000000) :
    Calls Try.prog 55 #[v] w fun e w' => e = .returned (.int .i64 (-1)) ∧ w' = w := by
  obtain ⟨a, b, off, cp, rfl, HC⟩ := h.op
  have HO := Lib.hid ho; clear ho
  go_enter Try.func55, Try.ntmps55
  go_wp2
  go_loop [6] (fun i => ∃ k : Nat, i = .int .i64 k ∧ k ≤ xs.length) (fun i => xs.length - (intOf i).toNat)
  case atStart => exact ⟨0, rfl, Nat.zero_le _⟩
  case round =>
    obtain ⟨k, rfl, hk⟩ := hrel
    by_cases hlt : k < xs.length
    · obtain ⟨c, HX, rfl, hc⟩ := HC.out k hlt
      replace hc := hc _ (Below.refl _ _)
      have hcr := hr.get HX.out
      have hv := fun w => laHas_any c w hcr.1 hcr.2
      rw [all_get HO.out HX.out] at hv
      have HV := Lib.hid hv
      clear hv
      go_wp2_with (go_at_call 57; refine (HV.out _).mono ?_; rintro e w' ⟨rfl, hw⟩; obtain rfl := hw.symm)
      go_round
      case rel => exact ⟨k + 1, by go_num, by omega⟩
      case measure => simp [intOf]; omega
    · go_wp2
      go_ret
      exact ⟨rfl, rfl⟩
set_option maxRecDepth 100000 in
theorem laLay_any (v : Value) (xs : List Int) (w : World) (h : Row w v (ints .i32 xs)) (hr : R32 xs) (ho : xs.all oneB = true) (hl : xs.length ≤ 1000000) :
    Calls Try.prog 34 #[v] w fun e w' => ∃ t, e = .returned (.tuple #[t, .int .i64 0]) ∧ Own w.heap.size 5 w' t (ints .u8 xs) ∧ Below w.heap.size w w' := by
  obtain ⟨a, b, off, cp, rfl, HC⟩ := id h.op
  have hL := laLacks_yes _ xs w h hr ho hl
  have HL := Lib.hid hL; have HO := Lib.hid ho
  clear hL ho
  have hz : (List.replicate xs.length (0 : Int)).length = xs.length := List.length_replicate
  have hst := fun k x (hx : xs[k]? = some x) => fill_step (ys := List.replicate xs.length 0) id hx hz
  have hgt := fun k (hk : k < xs.length) => fill_get (ys := List.replicate xs.length 0) id hk hz
  have hal := (fill_all (xs := xs) (ys := List.replicate xs.length 0) id hz).trans (List.map_id _)
  have HST := Lib.hid hst; have HGT := Lib.hid hgt; have HAL := Lib.hid hal
  clear hst hgt hal
  have HRP := Lib.hid (ints_replicate .u8 xs.length 0)
  generalize List.replicate xs.length (0 : Int) = zs at *
  clear hz
  go_enter Try.func34, Try.ntmps34
  go_wp2_with (first | (go_at_call 55; refine (HL.out).mono ?_; rintro e w' ⟨rfl, hw⟩; obtain rfl := hw.symm) | (at_make; refine wpList_mkn 22 5 (.int .u8 0) 1 Try.underlying22 infoU8 rfl rfl (by omega) _ _ rfl rfl rfl rfl hl ?_; intro w1 ho1 hb1; rw [← HRP.out] at ho1; have HQ0 : Hid (SetQ .u8 5 w.heap.size w.heap.size xs.length xs.length w1 ((xs.take 0).map id ++ zs.drop 0) w1) := ⟨by rw [List.take_zero, List.drop_zero]; exact ho1, ⟨rfl, rfl, rfl, Nat.le_refl _, fun _ _ _ => rfl⟩⟩; clear ho1))
  go_loopw [15] (fun i wr => ∃ k : Nat, i = .int .i64 k ∧ k ≤ xs.length ∧ SetQ .u8 5 w.heap.size w.heap.size xs.length xs.length w1 ((xs.take k).map id ++ zs.drop k) wr ∧ Below w.heap.size w wr) (fun i _ => xs.length - (intOf i).toNat)
  case atStart => exact ⟨0, rfl, Nat.zero_le _, HQ0.out, hb1⟩
  case round =>
    obtain ⟨k, rfl, hk, hq, hb⟩ := hrel
    by_cases hlt : k < xs.length
    · obtain ⟨x, HX, rfl, hc⟩ := HC.out k hlt
      replace hc := hc wr hb
      have hx1 := of_decide_eq_true (all_get HO.out HX.out)
      obtain ⟨y, hy, _⟩ := HGT.out k hlt
      have f := fun j => hq.1.frozen j
      have c := hq.cell hy
      have hs := hq.set k x
      have hst := HST.out k x HX.out
      rw [id] at hst
      rw [hst] at hs
      have hbs : Below w.heap.size w (wr.setCell ⟨w.heap.size, k, none⟩ (.int .u8 x)) := hb.setCell (p := ⟨w.heap.size, k, none⟩) (Nat.le_refl _) _
      have hw8 : IntKind.u8.wrap x = x := by rw [IntKind.wrap_u8]; omega
      have hx0 := hx1.1
      have hx2 := hx1.2
      have HS := Lib.hid hs; have HBS := Lib.hid hbs
      clear hs hbs hst hq hy hx1
      go_wp2
      go_roundw
      case rel => exact ⟨k + 1, by go_num, by omega, HS.out, HBS.out⟩
      case measure => simp [intOf]; omega
    · obtain rfl : k = xs.length := by omega
      have hq1 := hq.1
      rw [HAL.out] at hq1
      clear hq
      go_wp2
      go_ret2
      exact ⟨_, rfl, hq1, hb⟩
set_option maxRecDepth 100000 in
theorem laRead_any (v : Value) (xs : List Int) (w : World) (h : Row w v (ints .u8 xs)) (hg : Rg 0 256 xs) (hl : xs.length ≤ 1000000) :
    Calls Try.prog 27 #[v] w fun e w' => ∃ t, e = .returned t ∧ Own w.heap.size 21 w' t (ints .i32 xs) ∧ Below w.heap.size w w' := by
  obtain ⟨a, b, off, cp, rfl, HC⟩ := id h.op
  have hz : (List.replicate xs.length (0 : Int)).length = xs.length := List.length_replicate
  have hst := fun k x (hx : xs[k]? = some x) => fill_step (ys := List.replicate xs.length 0) id hx hz
  have hgt := fun k (hk : k < xs.length) => fill_get (ys := List.replicate xs.length 0) id hk hz
  have hal := (fill_all (xs := xs) (ys := List.replicate xs.length 0) id hz).trans (List.map_id _)
  have HST := Lib.hid hst; have HGT := Lib.hid hgt; have HAL := Lib.hid hal
  clear hst hgt hal
  have HRP := Lib.hid (ints_replicate .i32 xs.length 0)
  generalize List.replicate xs.length (0 : Int) = zs at *
  clear hz
  go_enter Try.func27, Try.ntmps27
  go_wp2_with (at_make; refine wpList_mkn 24 21 (.int .i32 0) 4 Try.underlying24 infoI32 rfl rfl (by omega) _ _ rfl rfl rfl rfl hl ?_; intro w1 ho1 hb1; rw [← HRP.out] at ho1; have HQ0 : Hid (SetQ .i32 21 w.heap.size w.heap.size xs.length xs.length w1 ((xs.take 0).map id ++ zs.drop 0) w1) := ⟨by rw [List.take_zero, List.drop_zero]; exact ho1, ⟨rfl, rfl, rfl, Nat.le_refl _, fun _ _ _ => rfl⟩⟩; clear ho1)
  go_loopw [11] (fun i wr => ∃ k : Nat, i = .int .i64 k ∧ k ≤ xs.length ∧ SetQ .i32 21 w.heap.size w.heap.size xs.length xs.length w1 ((xs.take k).map id ++ zs.drop k) wr ∧ Below w.heap.size w wr) (fun i _ => xs.length - (intOf i).toNat)
  case atStart => exact ⟨0, rfl, Nat.zero_le _, HQ0.out, hb1⟩
  case round =>
    obtain ⟨k, rfl, hk, hq, hb⟩ := hrel
    by_cases hlt : k < xs.length
    · obtain ⟨x, HX, rfl, hc⟩ := HC.out k hlt
      replace hc := hc wr hb
      have hx1 := hg.get HX.out
      obtain ⟨y, hy, _⟩ := HGT.out k hlt
      have f := fun j => hq.1.frozen j
      have c := hq.cell hy
      have hs := hq.set k x
      have hst := HST.out k x HX.out
      rw [id] at hst
      rw [hst] at hs
      have hbs : Below w.heap.size w (wr.setCell ⟨w.heap.size, k, none⟩ (.int .i32 x)) := hb.setCell (p := ⟨w.heap.size, k, none⟩) (Nat.le_refl _) _
      have hw8 : IntKind.i32.wrap x = x := by rw [IntKind.wrap_i32]; omega
      have hx0 := hx1.1
      have hx2 := hx1.2
      have HS := Lib.hid hs; have HBS := Lib.hid hbs
      clear hs hbs hst hq hy hx1
      go_wp2
      go_roundw
      case rel => exact ⟨k + 1, by go_num, by omega, HS.out, HBS.out⟩
      case measure => simp [intOf]; omega
    · obtain rfl : k = xs.length := by omega
      have hq1 := hq.1
      rw [HAL.out] at hq1
      clear hq
      go_wp2
      go_ret
      exact ⟨_, rfl, hq1, hb⟩
theorem map_snoc (f : Int → Int) {xs : List Int} {k : Nat} {x : Int} (h : xs[k]? = some x) : (xs.take (k + 1)).map f = (xs.take k).map f ++ [f x] := by
  rw [List.take_add_one, h, List.map_append]; rfl
theorem map_len (f : Int → Int) (xs : List Int) (k : Nat) : ((xs.take k).map f).length ≤ xs.length := by rw [List.length_map, List.length_take]; omega
theorem latLay_any (v : Value) (xs : List Int) (w : World) (h : Row w v (ints .i32 xs)) (hr : R32 xs) (ho : xs.all nineB = true) (hl : xs.length ≤ 1000000) :
    Calls Try.prog 32 #[v] w fun e w' => ∃ t, e = .returned (.tuple #[t, .int .i64 0]) ∧ Own w.heap.size 5 w' t (ints .u8 (xs.map oct9)) ∧ Below w.heap.size w w' := by
  obtain ⟨a, b, off, cp, rfl, HC⟩ := id h.op
  have HO := Lib.hid ho; clear ho
  go_enter Try.func32, Try.ntmps32
  go_wp2
  go_loopw [4, 11] (fun u i wr => ∃ k : Nat, i = .int .i64 k ∧ k ≤ xs.length ∧ Own w.heap.size 5 wr u (ints .u8 ((xs.take k).map oct9)) ∧ Below w.heap.size w wr) (fun _ i _ => xs.length - (intOf i).toNat)
  case atStart => exact ⟨0, rfl, Nat.zero_le _, Own.nil _ _ _, Below.refl _ _⟩
  case round =>
    obtain ⟨k, rfl, hk, hown, hb⟩ := hrel
    by_cases hlt : k < xs.length
    · obtain ⟨x, HX, rfl, hc⟩ := HC.out k hlt
      replace hc := hc wr hb
      have hcr := hr.get HX.out
      have h9 := all_get HO.out HX.out
      have hP := fun w => latPutV_any x w hcr.1 hcr.2
      rw [h9, show put9 x = oct9 x from if_pos h9] at hP
      have HSN := Lib.hid (map_snoc oct9 HX.out)
      have HLN : Hid ((ints .u8 ((xs.take k).map oct9)).length + (ints .u8 [oct9 x]).length ≤ 1000000000) := by
        have := map_len oct9 xs k; show _ ≤ _; simp only [ints_length, List.length_cons, List.length_nil]; omega
      have HP := Lib.hid hP
      clear hP h9
      generalize oct9 x = y at *
      go_wp2_with (first | (go_at_call 52; refine (HP.out _).mono ?_; rintro e w1 ⟨rfl, hb1⟩; have hb01 := below_trans hb hb1; have hown1 := hown.below hb1) | (at_builtin; refine wpList_app slT_u8 _ _ _ rfl rfl rfl rfl (hown1.alloc _) (Row.ilit [_] [_] rfl (by simp)) HLN.out (by have := hb01.size; simp; omega) ?_; intro t3 w3 hown3 hg3))
      have hb3 := below_own (hb01.alloc hb01.size _) (hown1.alloc _) hg3 (by have := hb01.size; simp; omega) (Nat.le_refl _)
      rw [← ints_append] at hown3
      go_roundw
      case rel => exact ⟨k + 1, by go_num, by omega, by rw [HSN.out]; exact hown3, hb3⟩
      case measure => simp [intOf]; omega
    · obtain rfl : k = xs.length := by omega
      rw [List.take_length] at hown
      go_wp2
      go_ret2
      exact ⟨_, rfl, hown, hb⟩
theorem latRead_any (v : Value) (xs : List Int) (w : World) (h : Row w v (ints .u8 xs)) (hg : Rg 0 256 xs) (hl : xs.length ≤ 1000000) :
    Calls Try.prog 24 #[v] w fun e w' => ∃ t, e = .returned t ∧ Own w.heap.size 21 w' t (ints .i32 (xs.map sign9)) ∧ Below w.heap.size w w' := by
  obtain ⟨a, b, off, cp, rfl, HC⟩ := id h.op
  go_enter Try.func24, Try.ntmps24
  go_wp2
  go_loopw [3, 8] (fun u i wr => ∃ k : Nat, i = .int .i64 k ∧ k ≤ xs.length ∧ Own w.heap.size 21 wr u (ints .i32 ((xs.take k).map sign9)) ∧ Below w.heap.size w wr) (fun _ i _ => xs.length - (intOf i).toNat)
  case atStart => exact ⟨0, rfl, Nat.zero_le _, Own.nil _ _ _, Below.refl _ _⟩
  case round =>
    obtain ⟨k, rfl, hk, hown, hb⟩ := hrel
    by_cases hlt : k < xs.length
    · obtain ⟨x, HX, rfl, hc⟩ := HC.out k hlt
      replace hc := hc wr hb
      have hcr := hg.get HX.out
      have hP := fun w => latSign_any x w hcr.1 hcr.2
      have HSN := Lib.hid (map_snoc sign9 HX.out)
      have HLN : Hid ((ints .i32 ((xs.take k).map sign9)).length + (ints .i32 [sign9 x]).length ≤ 1000000000) := by
        have := map_len sign9 xs k; show _ ≤ _; simp only [ints_length, List.length_cons, List.length_nil]; omega
      have HP := Lib.hid hP
      clear hP
      generalize sign9 x = y at *
      go_wp2_with (first | (go_at_call 45; refine (HP.out _).mono ?_; rintro e w1 ⟨rfl, hb1⟩; have hb01 := below_trans hb hb1; have hown1 := hown.below hb1) | (at_builtin; refine wpList_app slT_i32 _ _ _ rfl rfl rfl rfl (hown1.alloc _) (Row.ilit [_] [_] rfl (by simp)) HLN.out (by have := hb01.size; simp; omega) ?_; intro t3 w3 hown3 hg3))
      have hb3 := below_own (hb01.alloc hb01.size _) (hown1.alloc _) hg3 (by have := hb01.size; simp; omega) (Nat.le_refl _)
      rw [← ints_append] at hown3
      go_roundw
      case rel => exact ⟨k + 1, by go_num, by omega, by rw [HSN.out]; exact hown3, hb3⟩
      case measure => simp [intOf]; omega
    · obtain rfl : k = xs.length := by omega
      rw [List.take_length] at hown
      go_wp2
      go_ret
      exact ⟨_, rfl, hown, hb⟩
set_option maxRecDepth 100000 in
theorem rPut8V_any (c : Int) (w : World) (ho : oneB c = true) :
    Calls Try.prog 40 #[.int .i32 c] w fun e w' => e = .returned (.tuple #[.int .u8 c, .bool true]) ∧ w' = w := by
  have hc := of_decide_eq_true ho
  have hc0 := hc.1
  have hc1 := hc.2
  clear ho hc
  go_enter Try.func40, Try.ntmps40
  go_wp2
  go_loop [4] (fun i => ∃ k : Nat, i = .int .i64 k ∧ (k : Int) ≤ c) (fun i => 256 - (intOf i).toNat)
  case atStart => exact ⟨0, rfl, by omega⟩
  case round =>
    obtain ⟨k, rfl, hk⟩ := hrel
    by_cases hs : (k : Int) = c
    · subst hs
      have hs' : ((k : Int) == k) = true := by simp
      have hc' : ((k : Int) != 65533) = true := by simp; omega
      go_wp2_with (go_at_call 63; refine (rSign8_any _ _ (by omega) (by omega)).mono ?_; rintro e w' ⟨rfl, hw⟩; obtain rfl := hw.symm)
      go_ret2
      exact ⟨rfl, rfl⟩
    · have hs' : ((k : Int) == c) = false := by simpa using hs
      have HS : Hid ((k : Int) + 1 ≤ c) := by show _ ≤ _; omega
      have hk2 : (k : Int) < 256 := by omega
      clear hs
      go_wp2_with (go_at_call 63; refine (rSign8_any _ _ (by omega) (by omega)).mono ?_; rintro e w' ⟨rfl, hw⟩; obtain rfl := hw.symm)
      go_round
      case rel => exact ⟨k + 1, by go_num, by have := HS.out; omega⟩
      case measure => simp [intOf]; omega
set_option maxRecDepth 100000 in
theorem rPut9V_any (c : Int) (w : World) (ho : nineB c = true) :
    Calls Try.prog 41 #[.int .i32 c] w fun e w' => e = .returned (.tuple #[.int .u8 (oct9 c), .bool true]) ∧ w' = w := by
  have h9 := oct9_of ho
  have hcn : c ≠ 65533 := by
    obtain ⟨n, hn, rfl⟩ := nine_back ho
    exact (nine_sign ⟨n, hn⟩).2
  have hat := fun (n : Nat) (hn : n < 256) => oct9_at hn
  obtain ⟨y, HYE⟩ : ∃ y : Nat, Hid (oct9 c = y) := ⟨(oct9 c).toNat, (by omega : oct9 c = ((oct9 c).toNat : Int))⟩
  have hy1 := HYE.out
  rw [hy1] at h9
  have hy0 : y < 256 := by have := h9.2.1; omega
  have HSY := Lib.hid h9.2.2
  have HNE : Hid (∀ k : Nat, k < y → (sign9 k == c) = false) := fun k hk => beq_false_of_ne (fun h => by
    have := hat k (by omega)
    rw [h, hy1] at this; omega)
  rw [hy1]
  have hcb : (c != 65533) = true := by simpa using hcn
  clear h9 hat ho hcn hy1
  go_enter Try.func41, Try.ntmps41
  go_wp2
  go_loop [4] (fun i => ∃ k : Nat, i = .int .i64 k ∧ k ≤ y) (fun i => 256 - (intOf i).toNat)
  case atStart => exact ⟨0, rfl, by omega⟩
  case round =>
    obtain ⟨k, rfl, hk⟩ := hrel
    have hSg := fun w => rSign9_any (k : Int) w (by omega) (by omega)
    by_cases hs : k = y
    · subst hs
      rw [HSY.out] at hSg
      have HSG := Lib.hid hSg
      clear hSg
      go_wp2_with (go_at_call 20; refine (HSG.out _).mono ?_; rintro e w' ⟨rfl, hw⟩; obtain rfl := hw.symm)
      go_ret2
      exact ⟨rfl, rfl⟩
    · have hne := HNE.out k (by omega)
      have HSG := Lib.hid hSg
      clear hSg
      generalize sign9 (k : Int) = z at *
      have hk2 : k < 256 := by omega
      have hk3 : k + 1 ≤ y := by omega
      go_wp2_with (go_at_call 20; refine (HSG.out _).mono ?_; rintro e w' ⟨rfl, hw⟩; obtain rfl := hw.symm)
      go_round
      case rel => exact ⟨k + 1, by go_num, by omega⟩
      case measure => simp [intOf]; omega
end Go.Proofs.Ytponfaglflmnkaa
namespace Go.Proofs.Ytponfaglflmnkaa
open Go.RowKit
set_option maxHeartbeats 1000000
theorem beqs (n k : Int) (h : n ≠ k) : (n == k) = false := beq_false_of_ne h
set_option maxRecDepth 100000 in
theorem pHas_any (n c : Int) (w : World) (h1 : -2147483648 ≤ c) (h2 : c ≤ 2147483647) :
    Calls Try.prog 36 #[.int .i64 n, .int .i32 c] w fun e w' => e = .returned (.bool (hasB n c)) ∧ Below w.heap.size w w' := by
  have hb := Below.refl w.heap.size w
  have hlat := fun w => laHas_any c w h1 h2
  have hnine := fun w => latHas_any c w h1 h2
  have hwin := fun w => wHas_any c w h1 h2
  have hsc := fun w => is_any c w h1 h2
  rcases (by omega : n = 1 ∨ n = 2 ∨ n = 3 ∨ n = 4 ∨ n = 5 ∨ ¬ (1 ≤ n ∧ n ≤ 5)) with rfl | rfl | rfl | rfl | rfl | hn
  · have e : hasB 1 c = decide (0 ≤ c ∧ c < 128) := rfl
    rcases Decidable.em (0 ≤ c) with h3 | h3
    · have HF : Hid (hasB 1 c = decide (c < 128)) := by rw [e]; show _ = _; rw [decide_eq_decide]; omega
      clear e
      go_enter Try.func36, Try.ntmps36
      go_wp2
      go_ret
      exact ⟨ret_bool HF.out.symm, hb⟩
    · have HF : Hid (hasB 1 c = false) := by rw [e]; exact decide_eq_false (by omega)
      clear e
      go_enter Try.func36, Try.ntmps36
      go_wp2
      go_ret
      exact ⟨ret_bool HF.out.symm, hb⟩
  · rw [show hasB 2 c = oneB c from rfl]
    have H := Lib.hid hlat; clear hlat hnine hwin hsc
    go_enter Try.func36, Try.ntmps36
    go_wp2_with (go_at_call 57; refine (H.out _).mono ?_; rintro e w' ⟨rfl, hw⟩; obtain rfl := hw.symm)
    go_ret
    exact ⟨rfl, hb⟩
  · rw [show hasB 3 c = nineB c from rfl]
    have H := Lib.hid hnine; clear hlat hnine hwin hsc
    go_enter Try.func36, Try.ntmps36
    go_wp2_with (go_at_call 58; refine (H.out _).mono ?_; rintro e w' ⟨rfl, hb1⟩)
    go_ret
    exact ⟨rfl, hb1⟩
  · rw [show hasB 4 c = (wput c).2 from rfl]
    have H := Lib.hid hwin; clear hlat hnine hwin hsc
    go_enter Try.func36, Try.ntmps36
    go_wp2_with (go_at_call 59; refine (H.out _).mono ?_; rintro e w' ⟨rfl, hb1⟩)
    go_ret
    exact ⟨rfl, hb1⟩
  · rw [show hasB 5 c = scB c from rfl]
    have H := Lib.hid hsc; clear hlat hnine hwin hsc
    go_enter Try.func36, Try.ntmps36
    go_wp2_with (go_at_call 60; refine (H.out _).mono ?_; rintro e w' ⟨rfl, hw⟩; obtain rfl := hw)
    go_ret
    exact ⟨rfl, hb⟩
  · rw [hasB_not c hn]
    have e1 := beqs n 1 (by omega); have e2 := beqs n 2 (by omega); have e3 := beqs n 3 (by omega); have e4 := beqs n 4 (by omega); have e5 := beqs n 5 (by omega)
    clear hlat hnine hwin hsc hn
    go_enter Try.func36, Try.ntmps36
    go_wp2
    go_ret
    exact ⟨rfl, hb⟩
set_option maxRecDepth 100000 in
theorem rHas_any (n c : Int) (w : World) (h1 : -2147483648 ≤ c) (h2 : c ≤ 2147483647) :
    Calls Try.prog 39 #[.int .i64 n, .int .i32 c] w fun e w' => e = .returned (.bool (hasB n c)) ∧ Below w.heap.size w w' := by
  have hb := Below.refl w.heap.size w
  have hlat := fun w => rPut8_any c w h1 h2
  have hnine := fun w => rPut9_any c w h1 h2
  have hwin := fun w => rwPut_any c w h1 h2
  have hsc := fun w => ris_any c w
  rcases (by omega : n = 1 ∨ n = 2 ∨ n = 3 ∨ n = 4 ∨ n = 5 ∨ ¬ (1 ≤ n ∧ n ≤ 5)) with rfl | rfl | rfl | rfl | rfl | hn
  · have e : hasB 1 c = decide (0 ≤ c ∧ c < 128) := rfl
    rcases Decidable.em (0 ≤ c) with h3 | h3
    · have HF : Hid (hasB 1 c = decide (c < 128)) := by rw [e]; show _ = _; rw [decide_eq_decide]; omega
      clear e
      go_enter Try.func39, Try.ntmps39
      go_wp2
      go_ret
      exact ⟨ret_bool HF.out.symm, hb⟩
    · have HF : Hid (hasB 1 c = false) := by rw [e]; exact decide_eq_false (by omega)
      clear e
      go_enter Try.func39, Try.ntmps39
      go_wp2
      go_ret
      exact ⟨ret_bool HF.out.symm, hb⟩
  · rw [show hasB 2 c = oneB c from rfl]
    have H := Lib.hid hlat; clear hlat hnine hwin hsc
    go_enter Try.func39, Try.ntmps39
    go_wp2_with (go_at_call 40; refine (H.out _).mono ?_; rintro e w' ⟨⟨x, rfl⟩, hw⟩; obtain rfl := hw.symm)
    go_ret
    exact ⟨rfl, hb⟩
  · rw [show hasB 3 c = nineB c from rfl]
    have H := Lib.hid hnine; clear hlat hnine hwin hsc
    go_enter Try.func39, Try.ntmps39
    go_wp2_with (go_at_call 41; refine (H.out _).mono ?_; rintro e w' ⟨⟨x, rfl⟩, hw⟩; obtain rfl := hw.symm)
    go_ret
    exact ⟨rfl, hb⟩
  · rw [show hasB 4 c = (wput c).2 from rfl]
    have H := Lib.hid hwin; clear hlat hnine hwin hsc
    go_enter Try.func39, Try.ntmps39
    go_wp2_with (go_at_call 42; refine (H.out _).mono ?_; rintro e w' ⟨rfl, hb1⟩)
    go_ret
    exact ⟨rfl, hb1⟩
  · rw [show hasB 5 c = scB c from rfl]
    have H := Lib.hid hsc; clear hlat hnine hwin hsc
    go_enter Try.func39, Try.ntmps39
    go_wp2_with (go_at_call 35; refine (H.out _).mono ?_; rintro e w' ⟨rfl, hw⟩; obtain rfl := hw)
    go_ret
    exact ⟨rfl, hb⟩
  · rw [hasB_not c hn]
    have e1 := beqs n 1 (by omega); have e2 := beqs n 2 (by omega); have e3 := beqs n 3 (by omega); have e4 := beqs n 4 (by omega); have e5 := beqs n 5 (by omega)
    clear hlat hnine hwin hsc hn
    go_enter Try.func39, Try.ntmps39
    go_wp2
    go_ret
    exact ⟨rfl, hb⟩
end Go.Proofs.Ytponfaglflmnkaa
namespace Go.Proofs.Ytponfaglflmnkaa
open Go.RowKit
set_option maxHeartbeats 1000000
def tab64 : List Int := [0, 1, 56, 2, 57, 49, 28, 3, 61, 58, 42, 50, 38, 29, 17, 4, 62, 47, 59, 36, 45, 43, 51, 22, 53, 39, 33, 30, 24, 18, 12, 5, 63, 55, 48, 27, 60, 41, 37, 16, 46, 35, 44, 21, 52, 32, 23, 11, 54, 26, 40, 15, 34, 20, 31, 10, 25, 14, 19, 9, 13, 8, 7, 6]
/-- Where the table tells of s. -/
def tzAt (s : Int) : Int := IntKind.u64.wrap (bits .and .u64 s (IntKind.u64.wrap (-s)) * 285870213051353865) / 288230376151711744
theorem low_tz : ∀ a b c d e : Bool, enc5 a b c d e = 0 ∨ (0 < enc5 a b c d e ∧ enc5 a b c d e < 64 ∧ tzAt (enc5 a b c d e) = ((tzAt (enc5 a b c d e)).toNat : Int) ∧ (tzAt (enc5 a b c d e)).toNat < 64 ∧ tab64.getD (tzAt (enc5 a b c d e)).toNat 0 = low5 a b c d e) := by decide +kernel
theorem enc_pos {f : Int → Bool} : enc f = 0 ↔ lowL f = 0 := by
  have h := enc5_zero (f 1) (f 2) (f 3) (f 4) (f 5)
  rw [← enc_eq] at h
  have h2 : (enc f == 0) = (lowL f == 0) := h
  rw [Bool.eq_iff_iff] at h2
  simpa using h2
end Go.Proofs.Ytponfaglflmnkaa
namespace Go.Proofs.Ytponfaglflmnkaa
open Go.RowKit
set_option maxHeartbeats 1000000
/-- The first k of five answers as one number. -/
def encR (k : Nat) (f : Int → Bool) : Int := enc5 (decide (1 ≤ k) && f 1) (decide (2 ≤ k) && f 2) (decide (3 ≤ k) && f 3) (decide (4 ≤ k) && f 4) (decide (5 ≤ k) && f 5)
theorem encR_or0 {f : Int → Bool} (h : f 1 = true) : bits .or .i64 (encR 0 f) 2 = encR 1 f ∧ encR 0 f + 2 = encR 1 f := by
  simp only [encR, h]; generalize f 2 = b; generalize f 3 = c; generalize f 4 = d; generalize f 5 = e; revert b c d e; decide
theorem encR_or1 {f : Int → Bool} (h : f 2 = true) : bits .or .i64 (encR 1 f) 4 = encR 2 f ∧ encR 1 f + 4 = encR 2 f := by
  simp only [encR, h]; generalize f 1 = b; generalize f 3 = c; generalize f 4 = d; generalize f 5 = e; revert b c d e; decide
theorem encR_or2 {f : Int → Bool} (h : f 3 = true) : bits .or .i64 (encR 2 f) 8 = encR 3 f ∧ encR 2 f + 8 = encR 3 f := by
  simp only [encR, h]; generalize f 1 = b; generalize f 2 = c; generalize f 4 = d; generalize f 5 = e; revert b c d e; decide
theorem encR_or3 {f : Int → Bool} (h : f 4 = true) : bits .or .i64 (encR 3 f) 16 = encR 4 f ∧ encR 3 f + 16 = encR 4 f := by
  simp only [encR, h]; generalize f 1 = b; generalize f 2 = c; generalize f 3 = d; generalize f 5 = e; revert b c d e; decide
theorem encR_or4 {f : Int → Bool} (h : f 5 = true) : bits .or .i64 (encR 4 f) 32 = encR 5 f ∧ encR 4 f + 32 = encR 5 f := by
  simp only [encR, h]; generalize f 1 = b; generalize f 2 = c; generalize f 3 = d; generalize f 4 = e; revert b c d e; decide
theorem encR_no {f : Int → Bool} {k : Nat} (hk : k < 5) (h : f ((k : Int) + 1) = false) : encR k f = encR (k + 1) f := by
  rcases (by omega : k = 0 ∨ k = 1 ∨ k = 2 ∨ k = 3 ∨ k = 4) with rfl | rfl | rfl | rfl | rfl
  · have h : f 1 = false := h
    simp only [encR, h]; rfl
  · have h : f 2 = false := h
    simp only [encR, h]; rfl
  · have h : f 3 = false := h
    simp only [encR, h]; rfl
  · have h : f 4 = false := h
    simp only [encR, h]; rfl
  · have h : f 5 = false := h
    simp only [encR, h]; rfl
theorem encR_rng (k : Nat) (f : Int → Bool) : 0 ≤ encR k f ∧ encR k f ≤ 62 := by
  unfold encR enc5; constructor <;> (repeat' split) <;> omega
theorem encR_all (f : Int → Bool) : encR 5 f = enc f := by rw [enc_eq]; rfl
theorem encR_0 (f : Int → Bool) : encR 0 f = 0 := rfl
set_option maxRecDepth 100000 in
theorem pSize_any (n : Int) (w : World) :
    Calls Try.prog 29 #[.int .i64 n] w fun e w' => e = .returned (.int .i64 (sizeL n)) ∧ w' = w := by
  rcases (by omega : n = 1 ∨ n = 2 ∨ n = 3 ∨ n = 4 ∨ n = 5 ∨ ¬ (1 ≤ n ∧ n ≤ 5)) with rfl | rfl | rfl | rfl | rfl | hn
  case inr.inr.inr.inr.inr =>
    have e : sizeL n = 0 := by rw [sizeL, if_neg (by omega), if_neg (by omega), if_neg (by omega), if_neg (by omega), if_neg (by omega)]
    have e1 := beqs n 1 (by omega); have e2 := beqs n 2 (by omega); have e3 := beqs n 3 (by omega); have e4 := beqs n 4 (by omega); have e5 := beqs n 5 (by omega)
    rw [e]
    clear e hn
    go_enter Try.func29, Try.ntmps29
    go_wp2
    go_ret
    exact ⟨rfl, rfl⟩
  all_goals
    go_enter Try.func29, Try.ntmps29
    go_wp2
    go_ret
    exact ⟨rfl, rfl⟩
end Go.Proofs.Ytponfaglflmnkaa
namespace Go.Proofs.Ytponfaglflmnkaa
theorem cnt_fin : cnt 1 8704 = 128 ∧ cnt 2 8704 = 256 ∧ cnt 3 8704 = 256 ∧ cnt 4 8704 = 251 := by decide +kernel
theorem cnt_size {n : Int} (h : n ≠ 5) : (cnt n 8704 : Int) = sizeL n := by
  rcases (by omega : n = 1 ∨ n = 2 ∨ n = 3 ∨ n = 4 ∨ ¬ (1 ≤ n ∧ n ≤ 5)) with rfl | rfl | rfl | rfl | hn
  · rw [cnt_fin.1]; rfl
  · rw [cnt_fin.2.1]; rfl
  · rw [cnt_fin.2.2.1]; rfl
  · rw [cnt_fin.2.2.2]; rfl
  · rw [cnt_no hn, sizeL, if_neg (by omega), if_neg (by omega), if_neg (by omega), if_neg (by omega), if_neg (by omega)]; rfl
end Go.Proofs.Ytponfaglflmnkaa
namespace Go.Proofs.Ytponfaglflmnkaa
open Go.RowKit
set_option maxHeartbeats 1000000
/-- The first that a charset has not. -/
def lackN (n : Int) (xs : List Int) : Int := idx (fun c => !hasB n c) xs
theorem lackN_neg (n : Int) (xs : List Int) : (lackN n xs == -1) = xs.all (hasB n) := by
  cases h : xs.all (hasB n) with
  | true =>
    have : lackN n xs = -1 := idx_none fun y hy => by simp [List.all_eq_true.1 h y hy]
    rw [this]; rfl
  | false =>
    rcases idx_spec (fun c => !hasB n c) xs with h1 | ⟨i, x, h1, h2, h3⟩
    · exfalso
      obtain ⟨x, hx, hn⟩ := List.all_eq_false.1 h
      have h1' : xs.findIdx? (fun c => !hasB n c) = none := by
        unfold idx at h1
        split at h1
        · omega
        · assumption
      have := List.findIdx?_eq_none_iff.1 h1' x hx
      simp at this
      exact hn this
    · have : lackN n xs = i := h1
      rw [this]; exact beq_false_of_ne (by omega)
theorem lackN_lt (n : Int) (xs : List Int) : decide (lackN n xs < 0) = xs.all (hasB n) := by
  rw [← lackN_neg]
  rcases idx_spec (fun c => !hasB n c) xs with h1 | ⟨i, x, h1, _⟩
  · have : lackN n xs = -1 := h1
    rw [this]; rfl
  · have : lackN n xs = i := h1
    rw [this, decide_eq_false (by omega), beq_false_of_ne (by omega)]
set_option maxRecDepth 100000 in
theorem pLacks_any (n : Int) (v : Value) (xs : List Int) (w : World) (h : Row w v (ints .i32 xs)) (hg : R32 xs) (hl : xs.length ≤ 1000000) :
    Calls Try.prog 49 #[.int .i64 n, v] w fun e w' => e = .returned (.int .i64 (lackN n xs)) ∧ Below w.heap.size w w' := by
  obtain ⟨a, b, off, cp, rfl, HC⟩ := h.op
  go_enter Try.func49, Try.ntmps49
  go_wp2
  go_loopw [9] (fun i wr => ∃ k : Nat, i = .int .i64 k ∧ k ≤ xs.length ∧ Hid (∀ y ∈ xs.take k, hasB n y = true) ∧ Below w.heap.size w wr) (fun i _ => xs.length - (intOf i).toNat)
  case atStart => exact ⟨0, rfl, Nat.zero_le _, fun y hy => by simp at hy, Below.refl _ _⟩
  case round =>
    obtain ⟨k, rfl, hk, HT, hb⟩ := hrel
    by_cases hlt : k < xs.length
    · obtain ⟨x, HX, rfl, hc⟩ := HC.out k hlt
      replace hc := hc _ hb
      have hxr := hg.get HX.out
      have H := pHas_any n x wr hxr.1 hxr.2
      obtain ⟨q, hq⟩ : ∃ q, hasB n x = q := ⟨_, rfl⟩
      rw [hq] at H
      have HQ := Lib.hid hq; have H2 := Lib.hid H
      clear hq H
      rcases q with _ | _
      · have HF : Hid (lackN n xs = k) := idx_at (p := fun c => !hasB n c) (k := k) (fun y hy => by simp [HT.out y hy]) HX.out (by simp [HQ.out])
        go_wp2_with (go_at_call 36; refine (H2.out).mono ?_; rintro e w1 ⟨rfl, hb1⟩)
        go_ret
        exact ⟨ret_int HF.out.symm, below_trans hb hb1⟩
      · go_wp2_with (go_at_call 36; refine (H2.out).mono ?_; rintro e w1 ⟨rfl, hb1⟩)
        go_roundw
        case rel => exact ⟨k + 1, by go_num, by omega, take_succ_all HT.out HX.out HQ.out, below_trans hb hb1⟩
        case measure => simp [intOf]; omega
    · have HF : Hid (lackN n xs = -1) := idx_none fun y hy => by
        have := HT.out y (by rw [List.take_of_length_le (by omega)]; exact hy)
        simp [this]
      go_wp2
      go_ret
      exact ⟨ret_int HF.out.symm, hb⟩
end Go.Proofs.Ytponfaglflmnkaa
namespace Go.Proofs.Ytponfaglflmnkaa
open Go.RowKit
set_option maxHeartbeats 1000000
def allN (n : Int) (xs : List Int) : Bool := decide (1 ≤ n ∧ n ≤ 5) && xs.all (hasB n)
def fN (xs : List Int) : Int → Bool := fun n => xs.all (hasB n)
theorem size_pos {n : Int} (h : 1 ≤ n ∧ n ≤ 5) : 0 < sizeL n := by
  rcases (by omega : n = 1 ∨ n = 2 ∨ n = 3 ∨ n = 4 ∨ n = 5) with rfl | rfl | rfl | rfl | rfl <;> decide
theorem size_none {n : Int} (h : ¬ (1 ≤ n ∧ n ≤ 5)) : sizeL n = 0 := by rw [sizeL, if_neg (by omega), if_neg (by omega), if_neg (by omega), if_neg (by omega), if_neg (by omega)]
theorem pAll_any (n : Int) (v : Value) (xs : List Int) (w : World) (h : Row w v (ints .i32 xs)) (hg : R32 xs) (hl : xs.length ≤ 1000000) :
    Calls Try.prog 30 #[.int .i64 n, v] w fun e w' => e = .returned (.bool (allN n xs)) ∧ Below w.heap.size w w' := by
  have hb := Below.refl w.heap.size w
  have hS := fun w => pSize_any n w
  have hL := pLacks_any n v xs w h hg hl
  have hneg := lackN_neg n xs
  obtain ⟨a, b, off, cp, rfl, _⟩ := id h.op
  rcases Decidable.em (1 ≤ n ∧ n ≤ 5) with hn | hn
  · have hp := size_pos hn
    have e : allN n xs = xs.all (hasB n) := by rw [allN, decide_eq_true hn]; rfl
    rw [e]
    generalize sizeL n = s at *
    generalize lackN n xs = l at *
    rw [← hneg]
    have HS := Lib.hid hS; have HL := Lib.hid hL
    clear hS hL e hneg hn
    go_enter Try.func30, Try.ntmps30
    go_wp2_with (first | (go_at_call 29; refine (HS.out _).mono ?_; rintro e w1 ⟨rfl, hw⟩; obtain rfl := hw.symm) | (go_at_call 49; refine (HL.out).mono ?_; rintro e w2 ⟨rfl, hb2⟩))
    go_ret
    exact ⟨rfl, hb2⟩
  · have hp := size_none hn
    have e : allN n xs = false := by rw [allN, decide_eq_false hn]; rfl
    rw [e]
    rw [hp] at hS
    have HS := Lib.hid hS
    clear hS hL e hneg hn
    go_enter Try.func30, Try.ntmps30
    go_wp2_with (first | (go_at_call 29; refine (HS.out _).mono ?_; rintro e w1 ⟨rfl, hw⟩; obtain rfl := hw.symm))
    go_ret
    exact ⟨rfl, hb⟩
theorem enc_congr {f g : Int → Bool} (h : ∀ n, f n = g n) : enc f = enc g := by rw [show f = g from funext h]
theorem low_first {f : Int → Bool} {n : Int} (h1 : 1 ≤ n) (h2 : n ≤ 5) (hf : f n = true) (hm : ∀ m : Int, 1 ≤ m → m < n → f m = false) : lowL f = n := by
  have h3 := low_pos h1 h2 hf
  rcases Int.lt_or_le (lowL f) n with h4 | h4
  · have h5 := low_at (f := f) (by omega)
    rw [hm _ h3.1 h4] at h5; cases h5
  · omega
theorem low_none {f : Int → Bool} (hm : ∀ m : Int, 1 ≤ m → m < 6 → f m = false) : lowL f = 0 := by
  rcases Decidable.em (lowL f = 0) with h | h
  · exact h
  · have h1 := low_rng f
    have h5 := low_at h
    rw [hm _ (by omega) (by omega)] at h5; cases h5
end Go.Proofs.Ytponfaglflmnkaa
namespace Go.Proofs.Ytponfaglflmnkaa
open Go.RowKit
set_option maxHeartbeats 400000

def wreadL (xs : List Int) : List Int := xs.map wsign
theorem wreadL_snoc {xs : List Int} {k : Nat} {x : Int} (h : xs[k]? = some x) : wreadL (xs.take (k + 1)) = wreadL (xs.take k) ++ [wsign x] := by
  simp [wreadL, List.take_add_one, h]
theorem wreadL_len (xs : List Int) : (wreadL xs).length = xs.length := by simp [wreadL]
theorem wRead_any (v : Value) (xs : List Int) (w : World) (h : Row w v (ints .u8 xs)) (hr : Rg 0 256 xs) (hl : xs.length ≤ 1000000) :
    Calls Try.prog 25 #[v] w fun e w' => ∃ t, e = .returned t ∧ Own w.heap.size 21 w' t (ints .i32 (wreadL xs)) ∧ Below w.heap.size w w' := by
  obtain ⟨a, b, off, cap, rfl, HC⟩ := h.op
  clear h
  go_enter Try.func25, Try.ntmps25
  go_wp2_with (at_make; refine wpList_mk slT_i32 w.heap.size _ _ rfl rfl rfl rfl (by omega) (Nat.le_refl _) ?_; intro v2 w2 hown2 hb)
  go_loopw [3, 11] (fun u i wr => ∃ k : Nat, i = .int .i64 k ∧ k ≤ xs.length ∧ Own w.heap.size 21 wr u (ints .i32 (wreadL (xs.take k))) ∧ Below w.heap.size w wr) (fun _ i _ => xs.length - (intOf i).toNat)
  case atStart => exact ⟨0, rfl, Nat.zero_le _, hown2, hb⟩
  case round =>
    clear hown2 hb
    obtain ⟨k, rfl, hk, hown, hb⟩ := hrel
    by_cases hlt : k < xs.length
    · obtain ⟨x, HX, rfl, hc⟩ := HC.out k hlt
      replace hc := hc wr hb
      have hxr := hr.get HX.out
      have HU := Lib.hid (wreadL_snoc HX.out)
      have HLb : Hid ((ints .i32 (wreadL (xs.take k))).length + (ints .i32 [wsign x]).length ≤ 1000000000) := by
        have h1 := wreadL_len (xs.take k); rw [List.length_take] at h1; show _ ≤ _; simp only [ints_length, List.length_cons, List.length_nil]; omega
      go_wp2_with (first | (go_at_call 46; refine (wSign_any _ _ hxr.1 hxr.2).mono ?_; rintro e w1 ⟨rfl, hb1⟩) | (go_at_call 21; refine (rwSign_any _ _ hxr.1 hxr.2).mono ?_; rintro e w1 ⟨rfl, hb1⟩) | (at_builtin; refine wpList_app slT_i32 _ _ _ rfl rfl rfl rfl ((hown.below hb1).alloc _) (Row.ilit [_] [_] rfl (by simp)) HLb.out (by have := below_size2 hb hb1; simp; omega) ?_; intro t2 w2 hown2 hg2))
      go_roundw
      case rel => exact ⟨k + 1, by go_num, by omega, by rw [HU.out, ints_append]; exact hown2, below_app hb (hb1.alloc hb1.size _) ((hown.below hb1).alloc _) hg2⟩
      case measure => simp [intOf]; omega
    · go_wp2
      go_ret
      rw [List.take_of_length_le (by omega)] at hown
      exact ⟨_, rfl, hown, hb⟩
theorem wlayR_len (xs : List Int) : (wlayR xs).1.length ≤ xs.length := by unfold wlayR; split <;> simp
end Go.Proofs.Ytponfaglflmnkaa
namespace Go.Proofs.Ytponfaglflmnkaa
/-- n & (the bits from m on, below m + j). -/
theorem nat_and_high (n m j : Nat) : n &&& ((2 ^ j - 1) * 2 ^ m) = n / 2 ^ m % 2 ^ j * 2 ^ m := by
  have h1 : (n &&& ((2 ^ j - 1) * 2 ^ m)) % 2 ^ m = 0 := by rw [Nat.and_mod_two_pow, Nat.mul_mod_left, Nat.and_zero]
  have h2 : (n &&& ((2 ^ j - 1) * 2 ^ m)) / 2 ^ m = n / 2 ^ m % 2 ^ j := by
    rw [Nat.and_div_two_pow, Nat.mul_div_cancel _ (Nat.two_pow_pos m), Nat.and_two_pow_sub_one_eq_mod]
  have h3 := Nat.div_add_mod (n &&& ((2 ^ j - 1) * 2 ^ m)) (2 ^ m)
  rw [h1, h2, Nat.add_zero] at h3
  rw [← h3, Nat.mul_comm]
theorem u16_and_fc00 (u : Int) (h0 : 0 ≤ u) (h1 : u < 65536) : bits .and .u16 u 64512 = u / 1024 * 1024 := by
  rw [u16_and u 64512 h0 h1 (by omega) (by omega), show ((64512 : Int).toNat) = (2 ^ 6 - 1) * 2 ^ 10 from rfl, nat_and_high]
  show ((u.toNat / 1024 % 64 * 1024 : Nat) : Int) = _
  omega
theorem i32_mask10 (x : Int) (h0 : 0 ≤ x) (h1 : x < 2147483648) : bits .and .i32 x 1023 = x % 1024 := bits_mask .i32 31 (by decide) wraps_i32 10 (by decide) x h0 h1
theorem i32_join10 (x y : Int) (hx0 : 0 ≤ x) (hx : x % 1024 = 0) (hx1 : x < 2147483648) (hy0 : 0 ≤ y) (hy : y < 1024) : bits .or .i32 x y = x + y := bits_join .i32 31 (by decide) wraps_i32 10 x y hx0 hx hx1 hy0 hy (by omega)
theorem u16_join8 (x y : Int) (hx0 : 0 ≤ x) (hx : x % 256 = 0) (hx1 : x < 65536) (hy0 : 0 ≤ y) (hy : y < 256) : bits .or .u16 x y = x + y := bits_join .u16 16 (by decide) (fun n h0 h1 => IntWalk.u16_in n (by omega)) 8 x y hx0 hx hx1 hy0 hy (by omega)
theorem i32_join6 (x y : Int) (hx0 : 0 ≤ x) (hx : x % 64 = 0) (hx1 : x < 2147483648) (hy0 : 0 ≤ y) (hy : y < 64) : bits .or .i32 x y = x + y := bits_join .i32 31 (by decide) wraps_i32 6 x y hx0 hx hx1 hy0 hy (by omega)
end Go.Proofs.Ytponfaglflmnkaa
namespace Go.Proofs.Ytponfaglflmnkaa
open Go.RowKit
set_option maxHeartbeats 400000

theorem oLen_any (c : Int) (w : World) (h0 : -2147483648 ≤ c) (h1 : c ≤ 2147483647) :
    Calls Try.prog 37 #[.int .i32 c] w fun e w' => e = .returned (.int .i64 (ulenI c)) ∧ w = w' := by
  unfold ulenI
  by_cases hs : scB c = true
  · rw [if_pos hs]
    have hb := scB_iff.1 hs
    have HS := Lib.hid hs
    by_cases h2 : c < 128
    · rw [if_pos h2]
      go_enter Try.func37, Try.ntmps37
      go_wp2_with (go_at_call 60; refine (is_any _ _ h0 h1).mono ?_; rintro e w' ⟨rfl, rfl⟩)
      go_ret
      exact ⟨rfl, rfl⟩
    · rw [if_neg h2]
      by_cases h3 : c < 2048
      · rw [if_pos h3]
        go_enter Try.func37, Try.ntmps37
        go_wp2_with (go_at_call 60; refine (is_any _ _ h0 h1).mono ?_; rintro e w' ⟨rfl, rfl⟩)
        go_ret
        exact ⟨rfl, rfl⟩
      · rw [if_neg h3]
        by_cases h4 : c < 65536
        · rw [if_pos h4]
          go_enter Try.func37, Try.ntmps37
          go_wp2_with (go_at_call 60; refine (is_any _ _ h0 h1).mono ?_; rintro e w' ⟨rfl, rfl⟩)
          go_ret
          exact ⟨rfl, rfl⟩
        · rw [if_neg h4]
          go_enter Try.func37, Try.ntmps37
          go_wp2_with (go_at_call 60; refine (is_any _ _ h0 h1).mono ?_; rintro e w' ⟨rfl, rfl⟩)
          go_ret
          exact ⟨rfl, rfl⟩
  · rw [if_neg hs]
    replace hs : scB c = false := by simpa using hs
    go_enter Try.func37, Try.ntmps37
    go_wp2_with (go_at_call 60; refine (is_any _ _ h0 h1).mono ?_; rintro e w' ⟨rfl, rfl⟩)
    go_ret
    exact ⟨rfl, rfl⟩
theorem olead_any (n : Int) (w : World) :
    Calls Try.prog 69 #[.int .i64 n] w fun e w' => e = .returned (.int .u8 (leadI n)) ∧ w = w' := by
  unfold leadI
  rcases (by omega : n = 2 ∨ n = 3 ∨ n = 4 ∨ (n ≠ 2 ∧ n ≠ 3 ∧ n ≠ 4)) with rfl | rfl | rfl | ⟨h2, h3, h4⟩
  · go_enter Try.func69, Try.ntmps69
    go_wp2
    go_ret
    exact ⟨rfl, rfl⟩
  · go_enter Try.func69, Try.ntmps69
    go_wp2
    go_ret
    exact ⟨rfl, rfl⟩
  · go_enter Try.func69, Try.ntmps69
    go_wp2
    go_ret
    exact ⟨rfl, rfl⟩
  · rw [if_neg h2, if_neg h3, if_neg h4]
    have e2 : (n == 2) = false := by simpa using h2
    have e3 : (n == 3) = false := by simpa using h3
    have e4 : (n == 4) = false := by simpa using h4
    clear h2 h3 h4
    go_enter Try.func69, Try.ntmps69
    go_wp2
    go_ret
    exact ⟨rfl, rfl⟩
theorem oStarts_any (x : Int) (w : World) (h0 : 0 ≤ x) (h1 : x < 256) :
    Calls Try.prog 74 #[.int .u8 x] w fun e w' => e = .returned (.int .i64 (wideI x)) ∧ w = w' := by
  go_enter Try.func74, Try.ntmps74
  go_wp2
  all_goals
    go_ret
    refine ⟨ret_int ?_, rfl⟩
    unfold wideI
    repeat (first | rw [if_pos (by omega)] | rw [if_neg (by omega)])
theorem rwide_any (x : Int) (w : World) (h0 : 0 ≤ x) (h1 : x < 256) :
    Calls Try.prog 62 #[.int .u8 x] w fun e w' => e = .returned (.int .i64 (wideI x)) ∧ w = w' := by
  go_enter Try.func62, Try.ntmps62
  go_wp2
  all_goals
    go_ret
    refine ⟨ret_int ?_, rfl⟩
    unfold wideI
    repeat (first | rw [if_pos (by omega)] | rw [if_neg (by omega)])
theorem oFollows_any (x : Int) (w : World) (h0 : 0 ≤ x) (h1 : x < 256) :
    Calls Try.prog 77 #[.int .u8 x] w fun e w' => e = .returned (.bool (folB x)) ∧ w = w' := by
  go_enter Try.func77, Try.ntmps77
  go_wp2
  go_ret
  exact ⟨ret_bool (fol_bits h0 h1), rfl⟩
theorem rrange_any (a : Int) (w : World) (_h0 : 0 ≤ a) (_h1 : a < 256) :
    Calls Try.prog 72 #[.int .u8 a] w fun e w' => e = .returned (.tuple #[.int .u8 (loI a), .int .u8 (hiI a)]) ∧ w = w' := by
  go_enter Try.func72, Try.ntmps72
  go_wp2
  all_goals
    go_ret2
    refine ⟨ret2 (iv ?_) (iv ?_), rfl⟩
    all_goals
      simp only [beq_iff_eq, beq_eq_false_iff_ne, ne_eq] at *
      simp only [loI, hiI]
      repeat (first | rw [if_pos (by omega)] | rw [if_neg (by omega)])
theorem osecond_any (a y : Int) (w : World) (_h0 : 0 ≤ a) (_h1 : a < 256) (h2 : 0 ≤ y) (h3 : y < 256) :
    Calls Try.prog 78 #[.int .u8 a, .int .u8 y] w fun e w' => e = .returned (.bool (secB a y && folB y)) ∧ w = w' := by
  go_enter Try.func78, Try.ntmps78
  go_wp2_with (go_at_call 77; refine (oFollows_any _ _ h2 h3).mono ?_; rintro e w' ⟨rfl, rfl⟩)
  all_goals
    go_ret
    refine ⟨ret_bool ?_, rfl⟩
    simp only [beq_iff_eq, beq_eq_false_iff_ne, ne_eq] at *
    rw [Bool.eq_iff_iff]
    simp only [Bool.and_eq_true, secB_iff, folB_iff, loI, hiI, Bool.false_eq_true]
    repeat (first | rw [if_pos (by omega)] | rw [if_neg (by omega)])
    refine ⟨fun h => ?_, fun h => ?_⟩ <;> first | omega | exact h.elim
theorem oclone_any (v : Value) (xs : List Int) (w : World) (h : Row w v (ints .u8 xs)) (hl : xs.length ≤ 1000000) :
    Calls Try.prog 68 #[v] w fun e w' => ∃ t, e = .returned t ∧ Own w.heap.size 5 w' t (ints .u8 xs) ∧ Below w.heap.size w w' := by
  obtain ⟨a, b, off, cap, rfl, hlc, hm, ha, _⟩ := id h
  have hnil := fun w a n c n' c' => Lib.run_eql_slice_nil (P := Try.prog) w 22 5 a n c n' c' Try.underlying22
  cases a with
  | none =>
    obtain ⟨hn, hz⟩ : ints .u8 xs = [] ∧ ((none : Option Addr) = none → cap = 0) := by
      rcases ha with h | h
      · cases h
      · exact h
    obtain rfl : xs = [] := by simpa [ints] using hn
    obtain rfl := hz rfl
    go_enter Try.func68, Try.ntmps68
    go_wp2
    go_ret
    exact ⟨_, rfl, Own.nil _ _ _, Below.refl _ _⟩
  | some ad =>
    go_enter Try.func68, Try.ntmps68
    go_wp2_with (at_builtin; refine wpList_app slT_u8 _ _ _ rfl rfl rfl rfl (Own.ilit (k := .u8) [] [] rfl (Nat.le_refl _) (by simp)) (h.alloc _) (by simp [ints]; omega) (by simp) ?_; intro t2 w2 hown2 hg2)
    go_ret
    exact ⟨_, rfl, hown2, below_app (Below.refl _ _) (below_alloc _ _) (Own.ilit (k := .u8) [] [] rfl (Nat.le_refl _) (by simp)) hg2⟩
end Go.Proofs.Ytponfaglflmnkaa
