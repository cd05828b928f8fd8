/- Walks: Base64 of octets, without what fills up: the reference's. -/
import Derived.Test.YtieeafkbgmpofaaW22e
namespace Go.Proofs.Ytieeafkbgmpofaa
open Go.RowKit
set_option maxHeartbeats 2000000
theorem rnumber14_any (v : Value) (l : List Int) (w : World) (h : Row w v (ints .i64 l)) (hb : Bit l) (hl : l.length ≤ 60) :
    Calls Try.prog 96 #[v] w fun e w' => e = .returned (.int .i64 (num l)) ∧ w' = w := by
  obtain ⟨a, b, off, cp, rfl, HC⟩ := h.op
  go_enter Try.func96, Try.ntmps96
  go_wp2
  go_loopw [3, 4] (fun u i wr => ∃ (k : Nat) (z : Int), i = .int .i64 k ∧ k ≤ l.length ∧ u = .int .i64 z ∧ Hid (num (l.take k) = z) ∧ wr = w) (fun _ i _ => l.length - (intOf i).toNat)
  case atStart => exact ⟨0, 0, rfl, Nat.zero_le _, rfl, (rfl : num [] = 0), rfl⟩
  case round =>
    obtain ⟨k, z, rfl, hk, rfl, HZ, rfl⟩ := hrel
    by_cases hlt : k < l.length
    · obtain ⟨x, HX, rfl, hc⟩ := HC.out k hlt
      replace hc := hc _ (Below.refl _ _)
      have hs := num_small hb (k := k) (by omega)
      rw [HZ.out] at hs
      have hx := hb x (List.mem_of_getElem? HX.out)
      have hx2 : 0 ≤ x ∧ x ≤ 1 := by omega
      clear hx
      have h2 := num_snoc HX.out
      rw [HZ.out] at h2
      have H2 := Lib.hid h2; clear h2
      go_wp2
      go_roundw
      case rel => exact ⟨k + 1, _, by go_num, by omega, rfl, H2, by first | rfl | trivial⟩
      case measure => simp [intOf]; omega
    · go_wp2
      go_ret
      have h2 := HZ.out
      rw [List.take_of_length_le (by omega)] at h2
      exact ⟨ret_int h2.symm, rfl⟩
set_option maxRecDepth 100000 in
theorem rBits_any (v : Value) (d : List Int) (w : World) (h : Row w v (ints .u8 d)) (hg : Rg 0 256 d) (hl : d.length ≤ 100000) :
    Calls Try.prog 94 #[v] w fun e w' => ∃ t, e = .returned t ∧ Own w.heap.size 3 w' t (ints .i64 (obits d)) ∧ Below w.heap.size w w' := by
  obtain ⟨a, b, off, cp, rfl, HC⟩ := h.op
  go_enter Try.func94, Try.ntmps94
  go_wp2
  go_loopw [3, 4] (fun u i wr => ∃ k : Nat, i = .int .i64 k ∧ k ≤ d.length ∧ Own w.heap.size 3 wr u (ints .i64 (obits (d.take k))) ∧ Below w.heap.size w wr) (fun _ i _ => d.length - (intOf i).toNat)
  case atStart => exact ⟨0, rfl, Nat.zero_le _, Own.nil _ _ _, Below.refl _ _⟩
  case round =>
    obtain ⟨k, rfl, hk, hown, hbr⟩ := hrel
    by_cases hlt : k < d.length
    · obtain ⟨x, HX, rfl, hc⟩ := HC.out k hlt
      have HCF := Lib.hid hc
      have hxr := hg.get HX.out
      have hx0 := hxr.1
      have hx1 := hxr.2
      have h2 := obits_snoc HX.out
      have HL : Hid ((obits (d.take k)).length = 8 * k) := by show _ = _; rw [obits_len, List.length_take]; omega
      generalize obits (d.take k) = l at *
      have H2 := Lib.hid h2
      clear h2 hxr hc
      go_wp2
      go_loopw [3, 5] (fun u kv w2 => ∃ j : Nat, j ≤ 8 ∧ kv = .int .i64 (7 - (j : Int)) ∧ Own w.heap.size 3 w2 u (ints .i64 (l ++ (bits8 x).take j)) ∧ Below w.heap.size w w2) (fun _ kv _ => (intOf kv + 1).toNat)
      case atStart => exact ⟨0, by omega, rfl, by rw [List.take_zero, List.append_nil]; exact hown, hbr⟩
      case round =>
        obtain ⟨j, hj, rfl, hown2, hb2⟩ := hrel
        have hc := HCF.out _ hb2
        by_cases hj6 : j < 8
        · have HLb : Hid ((ints .i64 (l ++ (bits8 x).take j)).length ≤ 900000) := by
            show _ ≤ _
            rw [ints_length, List.length_append, List.length_take, HL.out]; simp only [bits8, List.length_cons, List.length_nil]; omega
          obtain ⟨j', HJ⟩ : ∃ j', Hid (j' = j + 1) := ⟨_, rfl⟩
          rcases (by omega : j = 0 ∨ j = 1 ∨ j = 2 ∨ j = 3 ∨ j = 4 ∨ j = 5 ∨ j = 6 ∨ j = 7) with rfl | rfl | rfl | rfl | rfl | rfl | rfl | rfl
          all_goals
            go_wp2_with (at_builtin; refine wpList_app slT_int _ _ _ rfl rfl rfl rfl (hown2.alloc _) (Row.ilit [_] [_] rfl (by simp)) (by have h9 := HLb.out; simp only [ints_length, List.length_cons, List.length_nil] at h9 ⊢; omega) (by have := hb2.size; simp; omega) ?_; intro t3 w3 hown3 hg3)
            have hb3 := below_app hb2 (below_alloc _ _) (hown2.alloc _) hg3
            rw [← ints_append, List.append_assoc] at hown3
            go_roundw
            case rel => exact ⟨j', by rw [HJ.out]; omega, by rw [HJ.out]; rfl, by rw [HJ.out]; exact hown3, hb3⟩
            case measure => simp [intOf]
        · obtain rfl : j = 8 := by omega
          have hown4 := hown2
          rw [show (bits8 x).take 8 = bits8 x from rfl, ← H2.out] at hown4
          go_wp2
          go_roundw
          case rel => exact ⟨k + 1, by go_num, by omega, hown4, hb2⟩
          case measure => simp [intOf]; omega
    · rw [List.take_of_length_le (by omega)] at hown
      go_wp2
      go_ret
      exact ⟨_, rfl, hown, hbr⟩
end Go.Proofs.Ytieeafkbgmpofaa
