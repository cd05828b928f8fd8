/- Walks: Base64 of octets, without what fills up: the reference's. -/
import Derived.Test.YtieeafkbgmpofaaW22f
namespace Go.Proofs.Ytieeafkbgmpofaa
open Go.RowKit
set_option maxHeartbeats 2000000
set_option maxRecDepth 100000 in
theorem rBare_any (v : Value) (d : List Int) (w : World) (h : Row w v (ints .u8 d)) (hg : Rg 0 256 d) (hl : d.length ≤ 50000) :
    Calls Try.prog 66 #[v] w fun e w' => ∃ t, e = .returned t ∧ Own w.heap.size 5 w' t (ints .u8 (bare d)) ∧ Below w.heap.size w w' := by
  have hbits := rBits_any v d w h hg (by omega)
  have hB : bare d = (wholes 6 (pad6 (obits d))).map dg := rfl
  have hlen := obits_len d
  have hbit := obits_bit d
  generalize bare d = BB at *
  have hpad : pad6 (obits d) = obits d ++ List.replicate ((6 - (obits d).length % 6) % 6) 0 := rfl
  have hPb : Bit (pad6 (obits d)) := fun y hy => by
    rw [hpad] at hy
    rcases List.mem_append.1 hy with h1 | h1
    · exact hbit y h1
    · exact .inl (List.eq_of_mem_replicate h1)
  generalize pad6 (obits d) = P at *
  generalize obits d = L at *
  obtain ⟨J, HJ⟩ : ∃ J, Hid ((6 - L.length % 6) % 6 = J) := ⟨_, rfl⟩
  rw [HJ.out] at hpad
  have hJ6 : J < 6 := by have := HJ.out; omega
  have hPl : P.length = L.length + J := by rw [hpad, List.length_append, List.length_replicate]
  have hP6 : (L.length + J) % 6 = 0 := by have := HJ.out; omega
  have hLl : L.length ≤ 400000 := by omega
  have HBITS := Lib.hid hbits; have HPAD := Lib.hid hpad; have HB := Lib.hid hB
  clear hbits hpad hB hbit hlen
  go_enter Try.func66, Try.ntmps66
  go_wp2_with (go_at_call 94; refine (HBITS.out).mono ?_; rintro e w1 ⟨t, rfl, ho, hb⟩)
  go_loopw [3] (fun u wr => ∃ j : Nat, j ≤ J ∧ Own w.heap.size 3 wr u (ints .i64 (L ++ List.replicate j 0)) ∧ Below w.heap.size w wr) (fun u _ => L.length + J - lenOf u)
  case atStart => exact ⟨0, Nat.zero_le _, by rw [List.replicate_zero, List.append_nil]; exact ho, hb⟩
  case round =>
    obtain ⟨j, hj, hown, hbr⟩ := hrel
    have hnl : (ints .i64 (L ++ List.replicate j 0)).length = L.length + j := by rw [ints_length, List.length_append, List.length_replicate]
    have hlenOf := hown.row.len
    obtain ⟨a, b, off, cp, rfl, _⟩ := id hown.row.op
    have hnl2 : (L ++ List.replicate j (0 : Int)).length = L.length + j := by rw [List.length_append, List.length_replicate]
    rw [hnl2] at hown
    rw [hnl2]
    obtain ⟨n, hn⟩ : ∃ n, n = L.length + j := ⟨_, rfl⟩
    rw [← hn] at hown hnl
    rw [← hn]
    have HN := Lib.hid hn
    have HNL := Lib.hid hnl
    clear hlenOf hnl2 hnl
    by_cases hjJ : j < J
    · have hg6 : ((n : Int) % 6 != 0) = true := by rw [bne_iff_ne]; have := HJ.out; omega
      have hnb : n ≤ 500000 := by omega
      clear hn
      go_wp2_with (at_builtin; refine wpList_app slT_int _ _ _ rfl rfl rfl rfl (hown.alloc _) (Row.ilit [_] [_] rfl (by simp)) (by have h9 := HNL.out; rw [h9]; simp [ints]; omega) (by have := hbr.size; simp; omega) ?_; intro t3 w3 hown3 hg3)
      have hb3 := below_app hbr (below_alloc _ _) (hown.alloc _) hg3
      rw [← ints_append, List.append_assoc, show List.replicate j (0 : Int) ++ [0] = List.replicate (j + 1) 0 from (List.replicate_succ' (n := j)).symm] at hown3
      go_roundw
      case rel => exact ⟨j + 1, by omega, hown3, hb3⟩
      case measure =>
        rw [hown3.row.len, ints_length, List.length_append, List.length_replicate]
        have := HN.out
        simp only [lenOf]; omega
    · obtain rfl : j = J := by omega
      have hg6 : ((n : Int) % 6 != 0) = false := by
        cases hx : ((n : Int) % 6 != 0) with
        | false => rfl
        | true => rw [bne_iff_ne] at hx; omega
      rw [← HPAD.out] at hown
      have hnP : n = P.length := by omega
      clear hn
      have rL := hown.row
      obtain ⟨K, hK⟩ : ∃ K, P.length = 6 * K := ⟨P.length / 6, by omega⟩
      have hPn : P.length ≤ 500000 := by omega
      subst hnP
      have HKK := Lib.hid hK
      have hKl : K ≤ 100000 := by omega
      clear hPl hP6 hK
      go_wp2
      go_loopw [4, 5] (fun u iv w2 => ∃ k i : Nat, iv = .int .i64 i ∧ Hid (i = 6 * k) ∧ k ≤ K ∧ Own wr.heap.size 5 w2 u (ints .u8 ((chunk 6 P k).map dg)) ∧ Below wr.heap.size wr w2) (fun _ i _ => P.length - (intOf i).toNat)
      case atStart => exact ⟨0, 0, rfl, (rfl : 0 = 6 * 0), Nat.zero_le _, Own.nil _ _ _, Below.refl _ _⟩
      case round =>
        obtain ⟨k, i, rfl, HI, hk, hown2, hb2⟩ := hrel
        have hk6 : i ≤ P.length := by have := HKK.out; have := HI.out; omega
        by_cases hlt : k < K
        · have h66 : i + 6 ≤ P.length := by have := HKK.out; have := HI.out; omega
          have h1 := num_rng ((hPb.drop i).take 6)
          have hlen2 : ((P.drop i).take 6).length = 6 := by rw [List.length_take, List.length_drop]; omega
          have hcs := chunk_succ 6 P k
          rw [← HI.out] at hcs
          have hcl : (ints .u8 ((chunk 6 P k).map dg)).length ≤ 100000 := by rw [ints_length, List.length_map, chunk_len]; omega
          have hnum := fun v w' h' => rnumber14_any v ((P.drop i).take 6) w' h' ((hPb.drop _).take _) (by omega)
          have hdt : (P.take (i + 6)).drop i = (P.drop i).take 6 := by rw [List.drop_take]; congr 1; omega
          rw [hlen2] at h1
          generalize num ((P.drop i).take 6) = z at *
          generalize (P.drop i).take 6 = C at *
          have hz1 : 0 ≤ z := h1.1
          have hz2 : z < 64 := h1.2
          have HCS := Lib.hid hcs; have HCL := Lib.hid hcl; have HNUM := Lib.hid hnum; have HDT := Lib.hid hdt
          clear hcs hcl hnum hdt h1 hlen2
          go_wp2_with (first | (refine wpList_slLH slT_int _ _ _ rfl rfl rfl rfl rfl (rL.below hb2) (by omega) (by omega) (by simp [ints]; omega) ?_; intro v2 hv2; have r2 := hv2 _ rL; rw [show ((i : Int) + 6).toNat = i + 6 by omega, Int.toNat_natCast, ints_take, ints_drop, HDT.out] at r2) | (go_at_call 96; refine (HNUM.out _ _ (r2.below hb2)).mono ?_; rintro e w' ⟨rfl, hw⟩; obtain rfl := hw.symm) | (go_at_call 95; refine (rDigit_any _ _ hz1 hz2).mono ?_; rintro e w' ⟨rfl, hw⟩; obtain rfl := hw.symm) | (at_builtin; refine wpList_app slT_u8 _ _ _ rfl rfl rfl rfl (hown2.alloc _) (Row.ilit [_] [_] rfl (by simp)) (by have h9 := HCL.out; simp [ints] at h9 ⊢; omega) (by have := hb2.size; simp; omega) ?_; intro t3 w3 hown3 hg3))
          have hb3 := below_app hb2 (below_alloc _ _) (hown2.alloc _) hg3
          rw [← ints_append, show (chunk 6 P k).map dg ++ [dg z] = (chunk 6 P (k + 1)).map dg from by rw [HCS.out, List.map_append]; rfl] at hown3
          go_roundw
          case rel => exact ⟨k + 1, i + 6, by go_num, (by have := HI.out; omega : i + 6 = 6 * (k + 1)), by omega, hown3, hb3⟩
          case measure => simp [intOf]; omega
        · obtain rfl : k = K := by omega
          have hb := HB.out
          rw [wholes, HKK.out, Nat.mul_div_cancel_left _ (by omega)] at hb
          rw [← hb] at hown2
          have hge : P.length ≤ i := by have := HKK.out; have := HI.out; omega
          go_wp2
          go_ret
          exact ⟨_, rfl, hown2.mono hbr.size, below_trans hbr hb2⟩
end Go.Proofs.Ytieeafkbgmpofaa
