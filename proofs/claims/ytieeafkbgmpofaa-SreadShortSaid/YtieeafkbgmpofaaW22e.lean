/- Walks: Base64 of octets, without what fills up: the program's. -/
import Derived.Test.YtieeafkbgmpofaaW22d
namespace Go.Proofs.Ytieeafkbgmpofaa
open Go.RowKit
set_option maxHeartbeats 2000000
/-- What the loop of Bare keeps. -/
def BBI (w : World) (xs : List Int) (u hv mv iv : Value) (wr : World) : Prop :=
  ∃ (k m : Nat) (z : Int), iv = .int .i64 k ∧ k ≤ xs.length ∧ hv = .int .i64 z ∧ mv = .int .i64 m ∧ Hid (num (left 6 (obits (xs.take k))) = z) ∧ Hid ((left 6 (obits (xs.take k))).length = m) ∧
    Own w.heap.size 5 wr u (ints .u8 ((wholes 6 (obits (xs.take k))).map dg)) ∧ Below w.heap.size w wr
set_option maxRecDepth 100000 in
theorem oBare_any (v : Value) (xs : List Int) (w : World) (h : Row w v (ints .u8 xs)) (hg : Rg 0 256 xs) (hl : xs.length ≤ 100000) :
    Calls Try.prog 63 #[v] w fun e w' => ∃ t, e = .returned t ∧ Own w.heap.size 5 w' t (ints .u8 (bare xs)) ∧ Below w.heap.size w w' := by
  obtain ⟨a, b, off, cp, rfl, HC⟩ := h.op
  obtain ⟨BB, HBB⟩ : ∃ BB, Hid (bare xs = BB) := ⟨_, rfl⟩
  rw [HBB.out]
  go_enter Try.func63, Try.ntmps63
  go_wp2
  go_loopw [3, 4, 5, 10] (fun u hv mv iv wr => BBI w xs u hv mv iv wr) (fun _ _ _ i _ => xs.length - (intOf i).toNat)
  case atStart => exact ⟨0, 0, 0, rfl, Nat.zero_le _, rfl, rfl, (rfl : num (left 6 []) = 0), (rfl : (left 6 []).length = 0), by rw [show wholes 6 (obits (xs.take 0)) = [] by simp [wholes, chunk, obits]]; exact Own.nil _ _ _, Below.refl _ _⟩
  case round =>
    obtain ⟨k, m, z, rfl, hk, rfl, rfl, HZ, HM, hown, hbr⟩ := hrel
    have hmk : m = (8 * k) % 6 := by rw [← HM.out, left_len, obits_len, List.length_take]; congr 2; omega
    have hm3 : m = 0 ∨ m = 2 ∨ m = 4 := by omega
    clear hmk
    have hLb := obits_bit (xs.take k)
    have hzr := num_rng (hLb.drop (6 * ((obits (xs.take k)).length / 6)))
    have hzr2 : 0 ≤ num (left 6 (obits (xs.take k))) ∧ num (left 6 (obits (xs.take k))) < 2 ^ (left 6 (obits (xs.take k))).length := hzr
    rw [HZ.out, HM.out] at hzr2
    have hz0 := hzr2.1
    have hz1 := hzr2.2
    clear hzr hzr2
    by_cases hlt : k < xs.length
    · obtain ⟨x, HX, rfl, hc⟩ := HC.out k hlt
      replace hc := hc _ hbr
      have hxr := hg.get HX.out
      have hx0 := hxr.1
      have hx1 := hxr.2
      have hsn := obits_snoc HX.out
      have hcl : (ints .u8 ((wholes 6 (obits (xs.take k))).map dg)).length ≤ 200000 := by
        rw [ints_length, List.length_map, wholes, chunk_len, obits_len, List.length_take]; omega
      have hwa := wholes_app 6 (by omega) (obits (xs.take k)) (bits8 x)
      rw [← hsn] at hwa
      have hPb : Bit (left 6 (obits (xs.take k)) ++ bits8 x) := fun y hy => (List.mem_append.1 hy).elim (hLb.drop _ y) (bits8_bit x y)
      have hPn : num (left 6 (obits (xs.take k)) ++ bits8 x) = z * 256 + x := by rw [num_append, HZ.out, bits8_num hx0 hx1]; rfl
      have hPl : (left 6 (obits (xs.take k)) ++ bits8 x).length = m + 8 := by rw [List.length_append, HM.out]; rfl
      generalize left 6 (obits (xs.take k)) ++ bits8 x = P at *
      have HWA := Lib.hid hwa; have HCL := Lib.hid hcl
      clear hwa hcl hsn hxr hLb
      rcases hm3 with rfl | rfl | rfl
      · have hz2 : z < 1 := hz1
        obtain ⟨q1, q2⟩ := wholes_one hPb (by rw [hPl])
        have q3 := (num_cut hPb 6).2
        rw [← q2, hPn, hPl] at q3
        have q4 : (left 6 P).length = 2 := by rw [q2, List.length_drop, hPl]
        rw [hPn, hPl] at q1
        have Q1 : Hid (((wholes 6 (obits (xs.take (k + 1)))).map dg) = (wholes 6 (obits (xs.take k))).map dg ++ [dg ((z * 256 + x) / 2 ^ (8 - 6) % 64)]) := by
          show _ = _
          rw [HWA.out.1, q1, List.map_append]; rfl
        have Q3 : Hid (num (left 6 (obits (xs.take (k + 1)))) = (z * 256 + x) % 4) := by
          show _ = _
          rw [HWA.out.2]; exact q3.symm
        have Q4 : Hid ((left 6 (obits (xs.take (k + 1)))).length = 2) := by
          show _ = _
          rw [HWA.out.2]; exact q4
        clear q1 q2 q3 q4 hPb hPn hPl hz1
        have eo := i64_join8 (z * 256) x (by omega) (by omega) (by omega) hx0 hx1
        have em := i64_mask 2 (by omega) (z * 256 + x) (by omega) (by omega)
        generalize hD : (wholes 6 (obits (xs.take k))).map dg = D at *
        have HDD := Lib.hid hD; clear hD
        have hN0 : 0 ≤ z * 256 + x := by omega
        have hN1 : z * 256 + x < 1048576 := by omega
        generalize z * 256 + x = N at *
        go_wp2
        go_loopw [3, 5] (fun u mv w2 => ∃ j : Nat, j ≤ 1 ∧ mv = .int .i64 (8 - 6 * (j : Int)) ∧ Own w.heap.size 5 w2 u (ints .u8 (D ++ ([dg (N / 2 ^ (8 - 6) % 64)] : List Int).take j)) ∧ Below w.heap.size w w2) (fun _ mv _ => (intOf mv).toNat)
        case atStart => exact ⟨0, by omega, rfl, by rw [List.take_zero, List.append_nil]; exact hown, hbr⟩
        case round =>
          obtain ⟨j, hj, rfl, hown2, hb2⟩ := hrel
          rcases (by omega : j = 0 ∨ j = 1) with rfl | rfl
          · go_wp2_with (first | (go_at_call 92; refine (bDigit_any _ _ (by omega) (by omega)).mono ?_; rintro e w' ⟨rfl, hw⟩; obtain rfl := hw.symm) | (at_builtin; refine wpList_app slT_u8 _ _ _ rfl rfl rfl rfl (hown2.alloc _) (Row.ilit [_] [_] rfl (by simp)) (by have h9 := HCL.out; simp [ints] at h9 ⊢; omega) (by have := hb2.size; simp; omega) ?_; intro t3 w3 hown3 hg3))
            have hb3 := below_app hb2 (below_alloc _ _) (hown2.alloc _) hg3
            rw [← ints_append, List.append_assoc] at hown3
            go_roundw
            case rel => exact ⟨1, by omega, rfl, hown3, hb3⟩
            case measure => simp [intOf]
          · go_wp2
            go_roundw
            case rel => exact ⟨k + 1, 2, N % 4, by go_num, by omega, by first | exact iv em | exact iv (Int.emod_one _).symm, rfl, Q3, Q4, by rw [Q1.out]; exact hown2, hb2⟩
            case measure => simp [intOf]; omega
      · have hz2 : z < 4 := hz1
        obtain ⟨q1, q2⟩ := wholes_one hPb (by rw [hPl])
        have q3 := (num_cut hPb 6).2
        rw [← q2, hPn, hPl] at q3
        have q4 : (left 6 P).length = 4 := by rw [q2, List.length_drop, hPl]
        rw [hPn, hPl] at q1
        have Q1 : Hid (((wholes 6 (obits (xs.take (k + 1)))).map dg) = (wholes 6 (obits (xs.take k))).map dg ++ [dg ((z * 256 + x) / 2 ^ (10 - 6) % 64)]) := by
          show _ = _
          rw [HWA.out.1, q1, List.map_append]; rfl
        have Q3 : Hid (num (left 6 (obits (xs.take (k + 1)))) = (z * 256 + x) % 16) := by
          show _ = _
          rw [HWA.out.2]; exact q3.symm
        have Q4 : Hid ((left 6 (obits (xs.take (k + 1)))).length = 4) := by
          show _ = _
          rw [HWA.out.2]; exact q4
        clear q1 q2 q3 q4 hPb hPn hPl hz1
        have eo := i64_join8 (z * 256) x (by omega) (by omega) (by omega) hx0 hx1
        have em := i64_mask 4 (by omega) (z * 256 + x) (by omega) (by omega)
        generalize hD : (wholes 6 (obits (xs.take k))).map dg = D at *
        have HDD := Lib.hid hD; clear hD
        have hN0 : 0 ≤ z * 256 + x := by omega
        have hN1 : z * 256 + x < 1048576 := by omega
        generalize z * 256 + x = N at *
        go_wp2
        go_loopw [3, 5] (fun u mv w2 => ∃ j : Nat, j ≤ 1 ∧ mv = .int .i64 (10 - 6 * (j : Int)) ∧ Own w.heap.size 5 w2 u (ints .u8 (D ++ ([dg (N / 2 ^ (10 - 6) % 64)] : List Int).take j)) ∧ Below w.heap.size w w2) (fun _ mv _ => (intOf mv).toNat)
        case atStart => exact ⟨0, by omega, rfl, by rw [List.take_zero, List.append_nil]; exact hown, hbr⟩
        case round =>
          obtain ⟨j, hj, rfl, hown2, hb2⟩ := hrel
          rcases (by omega : j = 0 ∨ j = 1) with rfl | rfl
          · go_wp2_with (first | (go_at_call 92; refine (bDigit_any _ _ (by omega) (by omega)).mono ?_; rintro e w' ⟨rfl, hw⟩; obtain rfl := hw.symm) | (at_builtin; refine wpList_app slT_u8 _ _ _ rfl rfl rfl rfl (hown2.alloc _) (Row.ilit [_] [_] rfl (by simp)) (by have h9 := HCL.out; simp [ints] at h9 ⊢; omega) (by have := hb2.size; simp; omega) ?_; intro t3 w3 hown3 hg3))
            have hb3 := below_app hb2 (below_alloc _ _) (hown2.alloc _) hg3
            rw [← ints_append, List.append_assoc] at hown3
            go_roundw
            case rel => exact ⟨1, by omega, rfl, hown3, hb3⟩
            case measure => simp [intOf]
          · go_wp2
            go_roundw
            case rel => exact ⟨k + 1, 4, N % 16, by go_num, by omega, by first | exact iv em | exact iv (Int.emod_one _).symm, rfl, Q3, Q4, by rw [Q1.out]; exact hown2, hb2⟩
            case measure => simp [intOf]; omega
      · have hz2 : z < 16 := hz1
        obtain ⟨q1, q2⟩ := wholes_two hPb (by rw [hPl])
        have q3 := (num_cut hPb 12).2
        rw [← q2, hPn, hPl] at q3
        have q4 : (left 6 P).length = 0 := by rw [q2, List.length_drop, hPl]
        rw [hPn, hPl] at q1
        have Q1 : Hid (((wholes 6 (obits (xs.take (k + 1)))).map dg) = (wholes 6 (obits (xs.take k))).map dg ++ [dg ((z * 256 + x) / 2 ^ (12 - 6) % 64), dg ((z * 256 + x) / 2 ^ (12 - 12) % 64)]) := by
          show _ = _
          rw [HWA.out.1, q1, List.map_append]; rfl
        have Q3 : Hid (num (left 6 (obits (xs.take (k + 1)))) = (z * 256 + x) % 1) := by
          show _ = _
          rw [HWA.out.2]; exact q3.symm
        have Q4 : Hid ((left 6 (obits (xs.take (k + 1)))).length = 0) := by
          show _ = _
          rw [HWA.out.2]; exact q4
        clear q1 q2 q3 q4 hPb hPn hPl hz1
        have eo := i64_join8 (z * 256) x (by omega) (by omega) (by omega) hx0 hx1
        have em := i64_mask 0 (by omega) (z * 256 + x) (by omega) (by omega)
        generalize hD : (wholes 6 (obits (xs.take k))).map dg = D at *
        have HDD := Lib.hid hD; clear hD
        have hN0 : 0 ≤ z * 256 + x := by omega
        have hN1 : z * 256 + x < 1048576 := by omega
        generalize z * 256 + x = N at *
        go_wp2
        go_loopw [3, 5] (fun u mv w2 => ∃ j : Nat, j ≤ 2 ∧ mv = .int .i64 (12 - 6 * (j : Int)) ∧ Own w.heap.size 5 w2 u (ints .u8 (D ++ ([dg (N / 2 ^ (12 - 6) % 64), dg (N / 2 ^ (12 - 12) % 64)] : List Int).take j)) ∧ Below w.heap.size w w2) (fun _ mv _ => (intOf mv).toNat)
        case atStart => exact ⟨0, by omega, rfl, by rw [List.take_zero, List.append_nil]; exact hown, hbr⟩
        case round =>
          obtain ⟨j, hj, rfl, hown2, hb2⟩ := hrel
          rcases (by omega : j = 0 ∨ j = 1 ∨ j = 2) with rfl | rfl | rfl
          · go_wp2_with (first | (go_at_call 92; refine (bDigit_any _ _ (by omega) (by omega)).mono ?_; rintro e w' ⟨rfl, hw⟩; obtain rfl := hw.symm) | (at_builtin; refine wpList_app slT_u8 _ _ _ rfl rfl rfl rfl (hown2.alloc _) (Row.ilit [_] [_] rfl (by simp)) (by have h9 := HCL.out; simp [ints] at h9 ⊢; omega) (by have := hb2.size; simp; omega) ?_; intro t3 w3 hown3 hg3))
            have hb3 := below_app hb2 (below_alloc _ _) (hown2.alloc _) hg3
            rw [← ints_append, List.append_assoc] at hown3
            go_roundw
            case rel => exact ⟨1, by omega, rfl, hown3, hb3⟩
            case measure => simp [intOf]
          · go_wp2_with (first | (go_at_call 92; refine (bDigit_any _ _ (by omega) (by omega)).mono ?_; rintro e w' ⟨rfl, hw⟩; obtain rfl := hw.symm) | (at_builtin; refine wpList_app slT_u8 _ _ _ rfl rfl rfl rfl (hown2.alloc _) (Row.ilit [_] [_] rfl (by simp)) (by have h9 := HCL.out; simp [ints] at h9 ⊢; omega) (by have := hb2.size; simp; omega) ?_; intro t3 w3 hown3 hg3))
            have hb3 := below_app hb2 (below_alloc _ _) (hown2.alloc _) hg3
            rw [← ints_append, List.append_assoc] at hown3
            go_roundw
            case rel => exact ⟨2, by omega, rfl, (by rw [show dg (N / 2 ^ (12 - 12) % 64) = dg (N % 64) from by rw [show N / 2 ^ (12 - 12) = N from Int.ediv_one N]]; exact hown3), hb3⟩
            case measure => simp [intOf]
          · go_wp2
            go_roundw
            case rel => exact ⟨k + 1, 0, N % 1, by go_num, by omega, by first | exact iv em | exact iv (Int.emod_one _).symm, rfl, Q3, Q4, by rw [Q1.out]; exact hown2, hb2⟩
            case measure => simp [intOf]; omega
    · have hkx : xs.take k = xs := List.take_of_length_le (by omega)
      have hbe := bare_eq xs
      rw [hkx] at hown
      have hz := HZ.out
      have hmm := HM.out
      rw [hkx] at hz hmm
      rw [HBB.out, tail6, hz, hmm] at hbe
      have hcl : (ints .u8 ((wholes 6 (obits xs)).map dg)).length ≤ 200000 := by
        rw [ints_length, List.length_map, wholes, chunk_len, obits_len]; omega
      generalize (wholes 6 (obits xs)).map dg = D at *
      have HBE := Lib.hid hbe; have HCL := Lib.hid hcl
      clear hbe hcl hz hmm hkx
      rcases hm3 with rfl | rfl | rfl
      · go_wp2
        go_ret
        refine ⟨_, rfl, ?_, hbr⟩
        rw [HBE.out, if_pos (by trivial), List.append_nil]; exact hown
      · have hz2 : z < 4 := hz1
        have e : dg (z * 2 ^ (6 - 2)) = dg (z * 16 % 64) := by rw [show z * 2 ^ (6 - 2) = z * 16 from rfl, Int.emod_eq_of_lt (by omega) (by omega)]
        clear hz1
        go_wp2_with (first | (go_at_call 92; refine (bDigit_any _ _ (by omega) (by omega)).mono ?_; rintro e w' ⟨rfl, hw⟩; obtain rfl := hw.symm) | (at_builtin; refine wpList_app slT_u8 _ _ _ rfl rfl rfl rfl (hown.alloc _) (Row.ilit [_] [_] rfl (by simp)) (by have h9 := HCL.out; simp [ints] at h9 ⊢; omega) (by have := hbr.size; simp; omega) ?_; intro t3 w3 hown3 hg3))
        have hb3 := below_app hbr (below_alloc _ _) (hown.alloc _) hg3
        rw [← ints_append] at hown3
        go_ret
        refine ⟨_, rfl, ?_, hb3⟩
        rw [HBE.out, if_neg (by omega), e]; exact hown3
      · have hz2 : z < 16 := hz1
        have e : dg (z * 2 ^ (6 - 4)) = dg (z * 4 % 64) := by rw [show z * 2 ^ (6 - 4) = z * 4 from rfl, Int.emod_eq_of_lt (by omega) (by omega)]
        clear hz1
        go_wp2_with (first | (go_at_call 92; refine (bDigit_any _ _ (by omega) (by omega)).mono ?_; rintro e w' ⟨rfl, hw⟩; obtain rfl := hw.symm) | (at_builtin; refine wpList_app slT_u8 _ _ _ rfl rfl rfl rfl (hown.alloc _) (Row.ilit [_] [_] rfl (by simp)) (by have h9 := HCL.out; simp [ints] at h9 ⊢; omega) (by have := hbr.size; simp; omega) ?_; intro t3 w3 hown3 hg3))
        have hb3 := below_app hbr (below_alloc _ _) (hown.alloc _) hg3
        rw [← ints_append] at hown3
        go_ret
        refine ⟨_, rfl, ?_, hb3⟩
        rw [HBE.out, if_neg (by omega), e]; exact hown3
end Go.Proofs.Ytieeafkbgmpofaa
