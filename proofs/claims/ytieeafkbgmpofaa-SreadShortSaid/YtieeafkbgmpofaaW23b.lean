/- Walks: the bits of digits, and the number of bits. -/
import Derived.Test.YtieeafkbgmpofaaW23
namespace Go.Proofs.Ytieeafkbgmpofaa
open Go.RowKit
set_option maxHeartbeats 1000000
def allD (d : List Int) : Bool := d.all fun c => decide (0 ≤ dv c)
def valsL (d : List Int) : List Int := if allD d then dbits d else []
theorem allD_none {d : List Int} {k : Nat} {c : Int} (h : d[k]? = some c) (hn : dv c < 0) : allD d = false := by
  cases ha : allD d with
  | false => rfl
  | true => have := List.all_eq_true.1 ha c (List.mem_of_getElem? h); simp at this; omega
theorem num_small {l : List Int} (h : Bit l) {k : Nat} (hk : k ≤ 60) : 0 ≤ num (l.take k) ∧ num (l.take k) ≤ 1152921504606846975 := by
  have h1 := num_rng (h.take k)
  have h2 : (2 : Nat) ^ (l.take k).length ≤ 2 ^ 60 := Nat.pow_le_pow_right (by omega) (by rw [List.length_take]; omega)
  have h3 : ((2 : Int) ^ (l.take k).length) ≤ 1152921504606846976 := by
    have := Int.ofNat_le.2 h2
    simpa using this
  omega
theorem num_snoc {l : List Int} {k : Nat} {x : Int} (h : l[k]? = some x) : num (l.take (k + 1)) = 2 * num (l.take k) + x := by
  rw [List.take_add_one, h, num_append]
  simp [num]; omega
theorem rnumber_any (v : Value) (l : List Int) (w : World) (h : Row w v (ints .i64 l)) (hb : Bit l) (hl : l.length ≤ 60) :
    Calls Try.prog 54 #[v] w fun e w' => e = .returned (.int .i64 (num l)) ∧ w' = w := by
  obtain ⟨a, b, off, cp, rfl, HC⟩ := h.op
  go_enter Try.func54, Try.ntmps54
  go_wp2
  go_loopw [3, 4] (fun u i wr => ∃ (k : Nat) (z : Int), i = .int .i64 k ∧ k ≤ l.length ∧ u = .int .i64 z ∧ Hid (num (l.take k) = z) ∧ wr = w) (fun _ i _ => l.length - (intOf i).toNat)
  case atStart => exact ⟨0, 0, rfl, Nat.zero_le _, rfl, (rfl : num [] = 0), rfl⟩
  case round =>
    obtain ⟨k, z, rfl, hk, rfl, HZ, rfl⟩ := hrel
    by_cases hlt : k < l.length
    · obtain ⟨x, HX, rfl, hc⟩ := HC.out k hlt
      replace hc := hc _ (Below.refl _ _)
      have hs := num_small hb (k := k) (by omega)
      rw [HZ.out] at hs
      have hx := hb x (List.mem_of_getElem? HX.out)
      have hx2 : 0 ≤ x ∧ x ≤ 1 := by omega
      clear hx
      have h2 := num_snoc HX.out
      rw [HZ.out] at h2
      have H2 := Lib.hid h2; clear h2
      go_wp2
      go_roundw
      case rel => exact ⟨k + 1, _, by go_num, by omega, rfl, H2, by first | rfl | trivial⟩
      case measure => simp [intOf]; omega
    · go_wp2
      go_ret
      have h2 := HZ.out
      rw [List.take_of_length_le (by omega)] at h2
      exact ⟨ret_int h2.symm, rfl⟩
set_option maxRecDepth 100000 in
theorem rValues_any (v : Value) (d : List Int) (w : World) (h : Row w v (ints .u8 d)) (hl : d.length ≤ 100000) :
    Calls Try.prog 53 #[v] w fun e w' => ∃ t, e = .returned (.tuple #[t, .bool (allD d)]) ∧ Own w.heap.size 3 w' t (ints .i64 (valsL d)) ∧ Below w.heap.size w w' := by
  obtain ⟨a, b, off, cp, rfl, HC⟩ := h.op
  go_enter Try.func53, Try.ntmps53
  go_wp2
  go_loopw [4, 5] (fun u i wr => ∃ k : Nat, i = .int .i64 k ∧ k ≤ d.length ∧ Hid (allD (d.take k) = true) ∧ Own w.heap.size 3 wr u (ints .i64 (dbits (d.take k))) ∧ Below w.heap.size w wr) (fun _ i _ => d.length - (intOf i).toNat)
  case atStart => exact ⟨0, rfl, Nat.zero_le _, (rfl : allD [] = true), Own.nil _ _ _, Below.refl _ _⟩
  case round =>
    obtain ⟨k, rfl, hk, HA, hown, hbr⟩ := hrel
    by_cases hlt : k < d.length
    · obtain ⟨c, HX, rfl, hc⟩ := HC.out k hlt
      replace hc := hc _ hbr
      have hr := dv_rng c
      by_cases hn : 0 ≤ dv c
      · have h2 := dbits_snoc HX.out
        have HA2 : Hid (allD (d.take (k + 1)) = true) := by
          have h9 := HA.out
          show _ = _
          rw [List.take_add_one, HX.out]
          simp only [allD, List.all_append] at h9 ⊢
          rw [h9]; simp [hn]
        have hv := rValue_any c
        rw [Int.max_eq_left hn, decide_eq_true hn] at hv
        have HL : Hid ((dbits (d.take k)).length = 6 * k) := by show _ = _; rw [dbits_len, List.length_take]; omega
        generalize dbits (d.take k) = l at *
        generalize dv c = n at *
        have HV := Lib.hid hv; clear hv
        have H2 := Lib.hid h2; clear h2
        go_wp2_with (go_at_call 79; refine (HV.out _).mono ?_; rintro e w' ⟨rfl, rfl⟩)
        go_loopw [4, 8] (fun u kv w2 => ∃ j : Nat, j ≤ 6 ∧ kv = .int .i64 (5 - (j : Int)) ∧ Own w.heap.size 3 w2 u (ints .i64 (l ++ (bits6 n).take j)) ∧ Below w.heap.size w w2) (fun _ kv _ => (intOf kv + 1).toNat)
        case atStart => exact ⟨0, by omega, rfl, by rw [List.take_zero, List.append_nil]; exact hown, hbr⟩
        case round =>
          obtain ⟨j, hj, rfl, hown2, hb2⟩ := hrel
          by_cases hj6 : j < 6
          · have HLb : Hid ((ints .i64 (l ++ (bits6 n).take j)).length ≤ 700000) := by
              show _ ≤ _
              rw [ints_length, List.length_append, List.length_take, HL.out]; simp only [bits6, List.length_cons, List.length_nil]; omega
            obtain ⟨j', HJ⟩ : ∃ j', Hid (j' = j + 1) := ⟨_, rfl⟩
            rcases (by omega : j = 0 ∨ j = 1 ∨ j = 2 ∨ j = 3 ∨ j = 4 ∨ j = 5) with rfl | rfl | rfl | rfl | rfl | rfl
            all_goals
              go_wp2_with (at_builtin; refine wpList_app slT_int _ _ _ rfl rfl rfl rfl (hown2.alloc _) (Row.ilit [_] [_] rfl (by simp)) (by have h9 := HLb.out; simp only [ints_length, List.length_cons, List.length_nil] at h9 ⊢; omega) (by have := hb2.size; simp; omega) ?_; intro t3 w3 hown3 hg3)
              have hb3 := below_app hb2 (below_alloc _ _) (hown2.alloc _) hg3
              rw [← ints_append, List.append_assoc] at hown3
              go_roundw
              case rel => exact ⟨j', by rw [HJ.out]; omega, by rw [HJ.out]; rfl, by rw [HJ.out]; exact hown3, hb3⟩
              case measure => simp [intOf]
          · obtain rfl : j = 6 := by omega
            have hown4 := hown2
            rw [show (bits6 n).take 6 = bits6 n from rfl, ← H2.out] at hown4
            go_wp2
            go_roundw
            case rel => exact ⟨k + 1, by go_num, by omega, HA2, hown4, hb2⟩
            case measure => simp [intOf]; omega
      · have hv := rValue_any c
        rw [Int.max_eq_right (by omega), decide_eq_false hn] at hv
        have HV := Lib.hid hv; clear hv
        have hall := allD_none HX.out (by omega)
        go_wp2_with (go_at_call 79; refine (HV.out _).mono ?_; rintro e w' ⟨rfl, rfl⟩)
        go_ret2
        exact ⟨_, ret2 rfl (bv hall.symm), by rw [valsL, hall]; exact Own.nil _ _ _, hbr⟩
    · have hall := HA.out
      rw [List.take_of_length_le (by omega)] at hall hown
      go_wp2
      go_ret2
      exact ⟨_, ret2 rfl (bv hall.symm), by rw [valsL, hall]; exact hown, hbr⟩
end Go.Proofs.Ytieeafkbgmpofaa
