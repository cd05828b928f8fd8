/- Walks: the bits of digits, and the number of bits. · Plain: six bits more. · Plain: Base64 of octets, without what fills up. · Walks: Base64 of octets, without what fills up. · Walks: Base64 of octets, without what fills up: the program's. · Walks: Base64 of octets, without what fills up: the reference's. · Walks: Base64 of octets, without what fills up: the reference's. (laid together by program out of single texts). -/
import Derived.WalkKit
import Derived.Test.YtbpjgmiedplidaaM1
namespace Go.Proofs.Ytbpjgmiedplidaa
open Go.RowKit
set_option maxHeartbeats 1000000
def allD (d : List Int) : Bool := d.all fun c => decide (0 ≤ dv c)
def valsL (d : List Int) : List Int := if allD d then dbits d else []
theorem allD_none {d : List Int} {k : Nat} {c : Int} (h : d[k]? = some c) (hn : dv c < 0) : allD d = false := by
  cases ha : allD d with
  | false => rfl
  | true => have := List.all_eq_true.1 ha c (List.mem_of_getElem? h); simp at this; omega
theorem num_small {l : List Int} (h : Bit l) {k : Nat} (hk : k ≤ 60) : 0 ≤ num (l.take k) ∧ num (l.take k) ≤ 1152921504606846975 := by
  have h1 := num_rng (h.take k)
  have h2 : (2 : Nat) ^ (l.take k).length ≤ 2 ^ 60 := Nat.pow_le_pow_right (by omega) (by rw [List.length_take]; omega)
  have h3 : ((2 : Int) ^ (l.take k).length) ≤ 1152921504606846976 := by
    have := Int.ofNat_le.2 h2
    simpa using this
  omega
theorem num_snoc {l : List Int} {k : Nat} {x : Int} (h : l[k]? = some x) : num (l.take (k + 1)) = 2 * num (l.take k) + x := by
  rw [List.take_add_one, h, num_append]
  simp [num]; omega
theorem rnumber_any (v : Value) (l : List Int) (w : World) (h : Row w v (ints .i64 l)) (hb : Bit l) (hl : l.length ≤ 60) :
    Calls Try.prog 77 #[v] w fun e w' => e = .returned (.int .i64 (num l)) ∧ w' = w := by
  obtain ⟨a, b, off, cp, rfl, HC⟩ := h.op
  go_enter Try.func77, Try.ntmps77
  go_wp2
  go_loopw [3, 4] (fun u i wr => ∃ (k : Nat) (z : Int), i = .int .i64 k ∧ k ≤ l.length ∧ u = .int .i64 z ∧ Hid (num (l.take k) = z) ∧ wr = w) (fun _ i _ => l.length - (intOf i).toNat)
  case atStart => exact ⟨0, 0, rfl, Nat.zero_le _, rfl, (rfl : num [] = 0), rfl⟩
  case round =>
    obtain ⟨k, z, rfl, hk, rfl, HZ, rfl⟩ := hrel
    by_cases hlt : k < l.length
    · obtain ⟨x, HX, rfl, hc⟩ := HC.out k hlt
      replace hc := hc _ (Below.refl _ _)
      have hs := num_small hb (k := k) (by omega)
      rw [HZ.out] at hs
      have hx := hb x (List.mem_of_getElem? HX.out)
      have hx2 : 0 ≤ x ∧ x ≤ 1 := by omega
      clear hx
      have h2 := num_snoc HX.out
      rw [HZ.out] at h2
      have H2 := Lib.hid h2; clear h2
      go_wp2
      go_roundw
      case rel => exact ⟨k + 1, _, by go_num, by omega, rfl, H2, by first | rfl | trivial⟩
      case measure => simp [intOf]; omega
    · go_wp2
      go_ret
      have h2 := HZ.out
      rw [List.take_of_length_le (by omega)] at h2
      exact ⟨ret_int h2.symm, rfl⟩
set_option maxRecDepth 100000 in
theorem rValues_any (v : Value) (d : List Int) (w : World) (h : Row w v (ints .u8 d)) (hl : d.length ≤ 100000) :
    Calls Try.prog 76 #[v] w fun e w' => ∃ t, e = .returned (.tuple #[t, .bool (allD d)]) ∧ Own w.heap.size 3 w' t (ints .i64 (valsL d)) ∧ Below w.heap.size w w' := by
  obtain ⟨a, b, off, cp, rfl, HC⟩ := h.op
  go_enter Try.func76, Try.ntmps76
  go_wp2
  go_loopw [4, 5] (fun u i wr => ∃ k : Nat, i = .int .i64 k ∧ k ≤ d.length ∧ Hid (allD (d.take k) = true) ∧ Own w.heap.size 3 wr u (ints .i64 (dbits (d.take k))) ∧ Below w.heap.size w wr) (fun _ i _ => d.length - (intOf i).toNat)
  case atStart => exact ⟨0, rfl, Nat.zero_le _, (rfl : allD [] = true), Own.nil _ _ _, Below.refl _ _⟩
  case round =>
    obtain ⟨k, rfl, hk, HA, hown, hbr⟩ := hrel
    by_cases hlt : k < d.length
    · obtain ⟨c, HX, rfl, hc⟩ := HC.out k hlt
      replace hc := hc _ hbr
      have hr := dv_rng c
      by_cases hn : 0 ≤ dv c
      · have h2 := dbits_snoc HX.out
        have HA2 : Hid (allD (d.take (k + 1)) = true) := by
          have h9 := HA.out
          show _ = _
          rw [List.take_add_one, HX.out]
          simp only [allD, List.all_append] at h9 ⊢
          rw [h9]; simp [hn]
        have hv := rValue_any c
        rw [Int.max_eq_left hn, decide_eq_true hn] at hv
        have HL : Hid ((dbits (d.take k)).length = 6 * k) := by show _ = _; rw [dbits_len, List.length_take]; omega
        generalize dbits (d.take k) = l at *
        generalize dv c = n at *
        have HV := Lib.hid hv; clear hv
        have H2 := Lib.hid h2; clear h2
        go_wp2_with (go_at_call 74; refine (HV.out _).mono ?_; rintro e w' ⟨rfl, rfl⟩)
        go_loopw [4, 8] (fun u kv w2 => ∃ j : Nat, j ≤ 6 ∧ kv = .int .i64 (5 - (j : Int)) ∧ Own w.heap.size 3 w2 u (ints .i64 (l ++ (bits6 n).take j)) ∧ Below w.heap.size w w2) (fun _ kv _ => (intOf kv + 1).toNat)
        case atStart => exact ⟨0, by omega, rfl, by rw [List.take_zero, List.append_nil]; exact hown, hbr⟩
        case round =>
          obtain ⟨j, hj, rfl, hown2, hb2⟩ := hrel
          by_cases hj6 : j < 6
          · have HLb : Hid ((ints .i64 (l ++ (bits6 n).take j)).length ≤ 700000) := by
              show _ ≤ _
              rw [ints_length, List.length_append, List.length_take, HL.out]; simp only [bits6, List.length_cons, List.length_nil]; omega
            obtain ⟨j', HJ⟩ : ∃ j', Hid (j' = j + 1) := ⟨_, rfl⟩
            rcases (by omega : j = 0 ∨ j = 1 ∨ j = 2 ∨ j = 3 ∨ j = 4 ∨ j = 5) with rfl | rfl | rfl | rfl | rfl | rfl
            all_goals
              go_wp2_with (at_builtin; refine wpList_app slT_int _ _ _ rfl rfl rfl rfl (hown2.alloc _) (Row.ilit [_] [_] rfl (by simp)) (by have h9 := HLb.out; simp only [ints_length, List.length_cons, List.length_nil] at h9 ⊢; omega) (by have := hb2.size; simp; omega) ?_; intro t3 w3 hown3 hg3)
              have hb3 := below_app hb2 (below_alloc _ _) (hown2.alloc _) hg3
              rw [← ints_append, List.append_assoc] at hown3
              go_roundw
              case rel => exact ⟨j', by rw [HJ.out]; omega, by rw [HJ.out]; rfl, by rw [HJ.out]; exact hown3, hb3⟩
              case measure => simp [intOf]
          · obtain rfl : j = 6 := by omega
            have hown4 := hown2
            rw [show (bits6 n).take 6 = bits6 n from rfl, ← H2.out] at hown4
            go_wp2
            go_roundw
            case rel => exact ⟨k + 1, by go_num, by omega, HA2, hown4, hb2⟩
            case measure => simp [intOf]; omega
      · have hv := rValue_any c
        rw [Int.max_eq_right (by omega), decide_eq_false hn] at hv
        have HV := Lib.hid hv; clear hv
        have hall := allD_none HX.out (by omega)
        go_wp2_with (go_at_call 74; refine (HV.out _).mono ?_; rintro e w' ⟨rfl, rfl⟩)
        go_ret2
        exact ⟨_, ret2 rfl (bv hall.symm), by rw [valsL, hall]; exact Own.nil _ _ _, hbr⟩
    · have hall := HA.out
      rw [List.take_of_length_le (by omega)] at hall hown
      go_wp2
      go_ret2
      exact ⟨_, ret2 rfl (bv hall.symm), by rw [valsL, hall]; exact hown, hbr⟩
end Go.Proofs.Ytbpjgmiedplidaa
namespace Go.Proofs.Ytbpjgmiedplidaa
theorem left_small {L b : List Int} (h : (left 16 L).length + b.length < 16) : wholes 16 (L ++ b) = wholes 16 L ∧ left 16 (L ++ b) = left 16 L ++ b := by
  have h1 := left_len 16 L
  have h2 := Nat.div_add_mod L.length 16
  have e : (L ++ b).length / 16 = L.length / 16 := by rw [List.length_append]; omega
  refine ⟨?_, ?_⟩
  · rw [wholes, e, chunk_app (by omega)]; rfl
  · rw [left, e, List.drop_append_of_le_length (by omega)]; rfl
theorem left_big {L b : List Int} (h : 16 ≤ (left 16 L).length + b.length) (hb : b.length < 16) :
    wholes 16 (L ++ b) = wholes 16 L ++ [num ((left 16 L ++ b).take 16)] ∧ left 16 (L ++ b) = (left 16 L ++ b).drop 16 := by
  have h1 := left_len 16 L
  have h2 := Nat.div_add_mod L.length 16
  have e : (L ++ b).length / 16 = L.length / 16 + 1 := by rw [List.length_append]; omega
  have hd : (L ++ b).drop (16 * (L.length / 16)) = left 16 L ++ b := by rw [List.drop_append_of_le_length (by omega)]; rfl
  refine ⟨?_, ?_⟩
  · rw [wholes, e, chunk_succ, chunk_app (by omega), hd]; rfl
  · rw [left, e, Nat.mul_add, Nat.mul_one, ← List.drop_drop, hd]
theorem num_cut {P : List Int} (h : Bit P) (k : Nat) : num P / 2 ^ (P.length - k) = num (P.take k) ∧ num P % 2 ^ (P.length - k) = num (P.drop k) := by
  have e : num P = num (P.take k) * 2 ^ (P.drop k).length + num (P.drop k) := by rw [← num_append, List.take_append_drop]
  have hr := num_rng (h.drop k)
  rw [List.length_drop] at e hr
  have hp : (0 : Int) < 2 ^ (P.length - k) := Int.pow_pos (by omega)
  refine ⟨?_, ?_⟩
  · rw [e, Int.add_comm, Int.add_mul_ediv_right _ _ (by omega), Int.ediv_eq_zero_of_lt hr.1 hr.2, Int.zero_add]
  · rw [e, Int.add_comm, Int.add_mul_emod_self_right, Int.emod_eq_of_lt hr.1 hr.2]
theorem wraps_i64 (n : Int) (h0 : 0 ≤ n) (h1 : n < 2 ^ 62) : IntKind.i64.wrap n = n := by
  have h2 : (2 : Int) ^ 62 = 4611686018427387904 := rfl
  rw [IntKind.wrap_i64]; omega
theorem i64_join6 (x y : Int) (hx0 : 0 ≤ x) (hx : x % 64 = 0) (hx1 : x < 4611686018427387904) (hy0 : 0 ≤ y) (hy : y < 64) : bits .or .i64 x y = x + y := bits_join .i64 62 (by decide) wraps_i64 6 x y hx0 hx hx1 hy0 hy (by omega)
theorem i64_join8 (x y : Int) (hx0 : 0 ≤ x) (hx : x % 256 = 0) (hx1 : x < 4611686018427387904) (hy0 : 0 ≤ y) (hy : y < 256) : bits .or .i64 x y = x + y := bits_join .i64 62 (by decide) wraps_i64 8 x y hx0 hx hx1 hy0 hy (by omega)
theorem i64_mask (i : Nat) (hi : i ≤ 62) (x : Int) (h0 : 0 ≤ x) (h1 : x < 4611686018427387904) : bits .and .i64 x (2 ^ i - 1) = x % 2 ^ i := bits_mask .i64 62 (by decide) wraps_i64 i hi x h0 h1
end Go.Proofs.Ytbpjgmiedplidaa
namespace Go.Proofs.Ytbpjgmiedplidaa
def bits8 (x : Int) : List Int := [x / 128 % 2, x / 64 % 2, x / 32 % 2, x / 16 % 2, x / 8 % 2, x / 4 % 2, x / 2 % 2, x % 2]
def obits (xs : List Int) : List Int := xs.flatMap bits8
theorem bits8_bit (x : Int) : Bit (bits8 x) := by
  intro y hy
  simp only [bits8, List.mem_cons, List.not_mem_nil, or_false] at hy
  omega
theorem bits8_num {x : Int} (h0 : 0 ≤ x) (h1 : x < 256) : num (bits8 x) = x := by
  simp only [num, bits8, List.foldl_cons, List.foldl_nil]; omega
theorem obits_snoc {xs : List Int} {k : Nat} {x : Int} (h : xs[k]? = some x) : obits (xs.take (k + 1)) = obits (xs.take k) ++ bits8 x := by
  rw [List.take_add_one, h, obits, List.flatMap_append]; simp [obits]
theorem obits_len (xs : List Int) : (obits xs).length = 8 * xs.length := by
  induction xs with
  | nil => rfl
  | cons x r ih => rw [obits, List.flatMap_cons, List.length_append]; rw [obits] at ih; rw [ih]; simp [bits8]; omega
theorem obits_bit (xs : List Int) : Bit (obits xs) := by
  intro x hx
  obtain ⟨c, _, hc⟩ := List.mem_flatMap.1 hx
  exact bits8_bit _ x hc
theorem chunk_add (n : Nat) (l : List Int) (k j : Nat) : chunk n l (k + j) = chunk n l k ++ chunk n (l.drop (n * k)) j := by
  induction j with
  | zero => simp [chunk]
  | succ j ih => rw [← Nat.add_assoc, chunk_succ, ih, chunk_succ, List.append_assoc, List.drop_drop, Nat.mul_add]
/-- The whole numbers and what is left, when more bits come. -/
theorem wholes_app (n : Nat) (hn : 0 < n) (L b : List Int) : wholes n (L ++ b) = wholes n L ++ wholes n (left n L ++ b) ∧ left n (L ++ b) = left n (left n L ++ b) := by
  have h1 := left_len n L
  have h2 := Nat.div_add_mod L.length n
  have hd : (L ++ b).drop (n * (L.length / n)) = left n L ++ b := by rw [List.drop_append_of_le_length (by omega)]; rfl
  have e : (L ++ b).length / n = L.length / n + (left n L ++ b).length / n := by
    rw [List.length_append, List.length_append, h1]
    conv => lhs; rw [← h2, Nat.add_assoc, Nat.mul_add_div hn]
  refine ⟨?_, ?_⟩
  · rw [wholes, e, chunk_add, chunk_app (by omega), hd]; rfl
  · rw [left, e, Nat.mul_add, ← List.drop_drop, hd]; rfl
/-- What is left, filled up with 0. -/
def pad6 (l : List Int) : List Int := l ++ List.replicate ((6 - l.length % 6) % 6) 0
def bare (xs : List Int) : List Int := (wholes 6 (pad6 (obits xs))).map dg
/-- The digit of what is left over. -/
def tail6 (P : List Int) : List Int := if P.length = 0 then [] else [dg (num P * 2 ^ (6 - P.length))]
theorem num_zeros (k : Nat) : num (List.replicate k 0) = 0 := by
  induction k with
  | zero => rfl
  | succ k ih => rw [List.replicate_succ', num_append, ih]; simp [num]
theorem bare_eq (xs : List Int) : bare xs = (wholes 6 (obits xs)).map dg ++ tail6 (left 6 (obits xs)) := by
  have hl := left_len 6 (obits xs)
  obtain ⟨w1, _⟩ := wholes_app 6 (by omega) (obits xs) (List.replicate ((6 - (obits xs).length % 6) % 6) 0)
  rw [bare, pad6, w1, List.map_append]
  congr 1
  rw [← hl]
  generalize left 6 (obits xs) = P at *
  have hP : P.length < 6 := by omega
  rw [tail6]
  split
  · rename_i h0
    obtain rfl := List.eq_nil_of_length_eq_zero h0
    simp [wholes, chunk]
  · rename_i h0
    have e : (6 - P.length) % 6 = 6 - P.length := Nat.mod_eq_of_lt (by omega)
    rw [e]
    have hlen : (P ++ List.replicate (6 - P.length) (0 : Int)).length = 6 := by rw [List.length_append, List.length_replicate]; omega
    rw [wholes, hlen, show 6 / 6 = 0 + 1 from rfl, chunk_succ, show chunk 6 (P ++ List.replicate (6 - P.length) (0 : Int)) 0 = [] from rfl, Nat.mul_zero, List.drop_zero, List.take_of_length_le (by omega), num_append, num_zeros, List.length_replicate, Int.add_zero]
    rfl
theorem digit_at {P : List Int} (hb : Bit P) (a : Nat) (h : a + 6 ≤ P.length) : num ((P.drop a).take 6) = num P / 2 ^ (P.length - (a + 6)) % 64 := by
  rw [(num_cut hb (a + 6)).1, List.take_add, num_append]
  have h1 := num_rng ((hb.drop a).take 6)
  have h2 : ((P.drop a).take 6).length = 6 := by rw [List.length_take, List.length_drop]; omega
  rw [h2] at h1 ⊢
  have h3 : (2 : Int) ^ 6 = 64 := rfl
  rw [h3] at h1 ⊢
  rw [Int.add_comm, Int.add_mul_emod_self_right, Int.emod_eq_of_lt h1.1 h1.2]
theorem wholes_one {P : List Int} (hb : Bit P) (h : P.length / 6 = 1) : wholes 6 P = [num P / 2 ^ (P.length - 6) % 64] ∧ left 6 P = P.drop 6 := by
  refine ⟨?_, ?_⟩
  · have := digit_at hb 0 (by omega)
    rw [List.drop_zero, Nat.zero_add] at this
    rw [wholes, h, show 1 = 0 + 1 from rfl, chunk_succ, show chunk 6 P 0 = [] from rfl, Nat.mul_zero, List.drop_zero, this]; rfl
  · rw [left, h]
theorem wholes_two {P : List Int} (hb : Bit P) (h : P.length / 6 = 2) : wholes 6 P = [num P / 2 ^ (P.length - 6) % 64, num P / 2 ^ (P.length - 12) % 64] ∧ left 6 P = P.drop 12 := by
  refine ⟨?_, ?_⟩
  · have h1 := digit_at hb 0 (by omega)
    have h2 := digit_at hb 6 (by omega)
    rw [List.drop_zero, Nat.zero_add] at h1
    rw [wholes, h, show 2 = 0 + 1 + 1 from rfl, chunk_succ, chunk_succ, show chunk 6 P 0 = [] from rfl, Nat.mul_zero, List.drop_zero, h1, show 6 * (0 + 1) = 6 from rfl, h2]; rfl
  · rw [left, h]
end Go.Proofs.Ytbpjgmiedplidaa
namespace Go.Proofs.Ytbpjgmiedplidaa
open Go.RowKit
set_option maxHeartbeats 2000000
theorem b64_at (k : Nat) (h : k < (ByteArray.mk b64.toArray).size) : (((ByteArray.mk b64.toArray)[k]'h).toNat : Int) = dg (k : Int) := by
  have key : ∀ j : Fin 64, ((b64[j.val]'(by have := j.isLt; simp [b64])).toNat : Int) = dg (j.val : Int) := by decide +kernel
  have hk : k < 64 := h
  exact key ⟨k, hk⟩
theorem bDigit_any (n : Int) (w : World) (h0 : 0 ≤ n) (h1 : n < 4611686018427387904) :
    Calls Try.prog 84 #[.int .i64 n] w fun e w' => e = .returned (.int .u8 (dg (n % 64))) ∧ w' = w := by
  have hm := i64_mask 6 (by omega) n h0 h1
  have hm2 : bits .and .i64 n 63 = n % 64 := hm
  clear hm
  have hr : 0 ≤ n % 64 ∧ n % 64 < 64 := by omega
  generalize n % 64 = m at *
  have hr0 := hr.1
  have hr1 := hr.2
  go_enter Try.func84, Try.ntmps84
  go_wp2
  go_ret
  refine ⟨ret_int ?_, rfl⟩
  have h9 := b64_at m.toNat (by show m.toNat < 64; omega)
  rw [Int.toNat_of_nonneg hr0] at h9
  exact h9
end Go.Proofs.Ytbpjgmiedplidaa
namespace Go.Proofs.Ytbpjgmiedplidaa
open Go.RowKit
set_option maxHeartbeats 2000000
/-- What the loop of Bare keeps. -/
def BBI (w : World) (xs : List Int) (u hv mv iv : Value) (wr : World) : Prop :=
  ∃ (k m : Nat) (z : Int), iv = .int .i64 k ∧ k ≤ xs.length ∧ hv = .int .i64 z ∧ mv = .int .i64 m ∧ Hid (num (left 6 (obits (xs.take k))) = z) ∧ Hid ((left 6 (obits (xs.take k))).length = m) ∧
    Own w.heap.size 5 wr u (ints .u8 ((wholes 6 (obits (xs.take k))).map dg)) ∧ Below w.heap.size w wr
set_option maxRecDepth 100000 in
theorem oBare_any (v : Value) (xs : List Int) (w : World) (h : Row w v (ints .u8 xs)) (hg : Rg 0 256 xs) (hl : xs.length ≤ 100000) :
    Calls Try.prog 62 #[v] w fun e w' => ∃ t, e = .returned t ∧ Own w.heap.size 5 w' t (ints .u8 (bare xs)) ∧ Below w.heap.size w w' := by
  obtain ⟨a, b, off, cp, rfl, HC⟩ := h.op
  obtain ⟨BB, HBB⟩ : ∃ BB, Hid (bare xs = BB) := ⟨_, rfl⟩
  rw [HBB.out]
  go_enter Try.func62, Try.ntmps62
  go_wp2
  go_loopw [3, 4, 5, 10] (fun u hv mv iv wr => BBI w xs u hv mv iv wr) (fun _ _ _ i _ => xs.length - (intOf i).toNat)
  case atStart => exact ⟨0, 0, 0, rfl, Nat.zero_le _, rfl, rfl, (rfl : num (left 6 []) = 0), (rfl : (left 6 []).length = 0), by rw [show wholes 6 (obits (xs.take 0)) = [] by simp [wholes, chunk, obits]]; exact Own.nil _ _ _, Below.refl _ _⟩
  case round =>
    obtain ⟨k, m, z, rfl, hk, rfl, rfl, HZ, HM, hown, hbr⟩ := hrel
    have hmk : m = (8 * k) % 6 := by rw [← HM.out, left_len, obits_len, List.length_take]; congr 2; omega
    have hm3 : m = 0 ∨ m = 2 ∨ m = 4 := by omega
    clear hmk
    have hLb := obits_bit (xs.take k)
    have hzr := num_rng (hLb.drop (6 * ((obits (xs.take k)).length / 6)))
    have hzr2 : 0 ≤ num (left 6 (obits (xs.take k))) ∧ num (left 6 (obits (xs.take k))) < 2 ^ (left 6 (obits (xs.take k))).length := hzr
    rw [HZ.out, HM.out] at hzr2
    have hz0 := hzr2.1
    have hz1 := hzr2.2
    clear hzr hzr2
    by_cases hlt : k < xs.length
    · obtain ⟨x, HX, rfl, hc⟩ := HC.out k hlt
      replace hc := hc _ hbr
      have hxr := hg.get HX.out
      have hx0 := hxr.1
      have hx1 := hxr.2
      have hsn := obits_snoc HX.out
      have hcl : (ints .u8 ((wholes 6 (obits (xs.take k))).map dg)).length ≤ 200000 := by
        rw [ints_length, List.length_map, wholes, chunk_len, obits_len, List.length_take]; omega
      have hwa := wholes_app 6 (by omega) (obits (xs.take k)) (bits8 x)
      rw [← hsn] at hwa
      have hPb : Bit (left 6 (obits (xs.take k)) ++ bits8 x) := fun y hy => (List.mem_append.1 hy).elim (hLb.drop _ y) (bits8_bit x y)
      have hPn : num (left 6 (obits (xs.take k)) ++ bits8 x) = z * 256 + x := by rw [num_append, HZ.out, bits8_num hx0 hx1]; rfl
      have hPl : (left 6 (obits (xs.take k)) ++ bits8 x).length = m + 8 := by rw [List.length_append, HM.out]; rfl
      generalize left 6 (obits (xs.take k)) ++ bits8 x = P at *
      have HWA := Lib.hid hwa; have HCL := Lib.hid hcl
      clear hwa hcl hsn hxr hLb
      rcases hm3 with rfl | rfl | rfl
      · have hz2 : z < 1 := hz1
        obtain ⟨q1, q2⟩ := wholes_one hPb (by rw [hPl])
        have q3 := (num_cut hPb 6).2
        rw [← q2, hPn, hPl] at q3
        have q4 : (left 6 P).length = 2 := by rw [q2, List.length_drop, hPl]
        rw [hPn, hPl] at q1
        have Q1 : Hid (((wholes 6 (obits (xs.take (k + 1)))).map dg) = (wholes 6 (obits (xs.take k))).map dg ++ [dg ((z * 256 + x) / 2 ^ (8 - 6) % 64)]) := by
          show _ = _
          rw [HWA.out.1, q1, List.map_append]; rfl
        have Q3 : Hid (num (left 6 (obits (xs.take (k + 1)))) = (z * 256 + x) % 4) := by
          show _ = _
          rw [HWA.out.2]; exact q3.symm
        have Q4 : Hid ((left 6 (obits (xs.take (k + 1)))).length = 2) := by
          show _ = _
          rw [HWA.out.2]; exact q4
        clear q1 q2 q3 q4 hPb hPn hPl hz1
        have eo := i64_join8 (z * 256) x (by omega) (by omega) (by omega) hx0 hx1
        have em := i64_mask 2 (by omega) (z * 256 + x) (by omega) (by omega)
        generalize hD : (wholes 6 (obits (xs.take k))).map dg = D at *
        have HDD := Lib.hid hD; clear hD
        have hN0 : 0 ≤ z * 256 + x := by omega
        have hN1 : z * 256 + x < 1048576 := by omega
        generalize z * 256 + x = N at *
        go_wp2
        go_loopw [3, 5] (fun u mv w2 => ∃ j : Nat, j ≤ 1 ∧ mv = .int .i64 (8 - 6 * (j : Int)) ∧ Own w.heap.size 5 w2 u (ints .u8 (D ++ ([dg (N / 2 ^ (8 - 6) % 64)] : List Int).take j)) ∧ Below w.heap.size w w2) (fun _ mv _ => (intOf mv).toNat)
        case atStart => exact ⟨0, by omega, rfl, by rw [List.take_zero, List.append_nil]; exact hown, hbr⟩
        case round =>
          obtain ⟨j, hj, rfl, hown2, hb2⟩ := hrel
          rcases (by omega : j = 0 ∨ j = 1) with rfl | rfl
          · go_wp2_with (first | (go_at_call 84; refine (bDigit_any _ _ (by omega) (by omega)).mono ?_; rintro e w' ⟨rfl, hw⟩; obtain rfl := hw.symm) | (at_builtin; refine wpList_app slT_u8 _ _ _ rfl rfl rfl rfl (hown2.alloc _) (Row.ilit [_] [_] rfl (by simp)) (by have h9 := HCL.out; simp [ints] at h9 ⊢; omega) (by have := hb2.size; simp; omega) ?_; intro t3 w3 hown3 hg3))
            have hb3 := below_app hb2 (below_alloc _ _) (hown2.alloc _) hg3
            rw [← ints_append, List.append_assoc] at hown3
            go_roundw
            case rel => exact ⟨1, by omega, rfl, hown3, hb3⟩
            case measure => simp [intOf]
          · go_wp2
            go_roundw
            case rel => exact ⟨k + 1, 2, N % 4, by go_num, by omega, by first | exact iv em | exact iv (Int.emod_one _).symm, rfl, Q3, Q4, by rw [Q1.out]; exact hown2, hb2⟩
            case measure => simp [intOf]; omega
      · have hz2 : z < 4 := hz1
        obtain ⟨q1, q2⟩ := wholes_one hPb (by rw [hPl])
        have q3 := (num_cut hPb 6).2
        rw [← q2, hPn, hPl] at q3
        have q4 : (left 6 P).length = 4 := by rw [q2, List.length_drop, hPl]
        rw [hPn, hPl] at q1
        have Q1 : Hid (((wholes 6 (obits (xs.take (k + 1)))).map dg) = (wholes 6 (obits (xs.take k))).map dg ++ [dg ((z * 256 + x) / 2 ^ (10 - 6) % 64)]) := by
          show _ = _
          rw [HWA.out.1, q1, List.map_append]; rfl
        have Q3 : Hid (num (left 6 (obits (xs.take (k + 1)))) = (z * 256 + x) % 16) := by
          show _ = _
          rw [HWA.out.2]; exact q3.symm
        have Q4 : Hid ((left 6 (obits (xs.take (k + 1)))).length = 4) := by
          show _ = _
          rw [HWA.out.2]; exact q4
        clear q1 q2 q3 q4 hPb hPn hPl hz1
        have eo := i64_join8 (z * 256) x (by omega) (by omega) (by omega) hx0 hx1
        have em := i64_mask 4 (by omega) (z * 256 + x) (by omega) (by omega)
        generalize hD : (wholes 6 (obits (xs.take k))).map dg = D at *
        have HDD := Lib.hid hD; clear hD
        have hN0 : 0 ≤ z * 256 + x := by omega
        have hN1 : z * 256 + x < 1048576 := by omega
        generalize z * 256 + x = N at *
        go_wp2
        go_loopw [3, 5] (fun u mv w2 => ∃ j : Nat, j ≤ 1 ∧ mv = .int .i64 (10 - 6 * (j : Int)) ∧ Own w.heap.size 5 w2 u (ints .u8 (D ++ ([dg (N / 2 ^ (10 - 6) % 64)] : List Int).take j)) ∧ Below w.heap.size w w2) (fun _ mv _ => (intOf mv).toNat)
        case atStart => exact ⟨0, by omega, rfl, by rw [List.take_zero, List.append_nil]; exact hown, hbr⟩
        case round =>
          obtain ⟨j, hj, rfl, hown2, hb2⟩ := hrel
          rcases (by omega : j = 0 ∨ j = 1) with rfl | rfl
          · go_wp2_with (first | (go_at_call 84; refine (bDigit_any _ _ (by omega) (by omega)).mono ?_; rintro e w' ⟨rfl, hw⟩; obtain rfl := hw.symm) | (at_builtin; refine wpList_app slT_u8 _ _ _ rfl rfl rfl rfl (hown2.alloc _) (Row.ilit [_] [_] rfl (by simp)) (by have h9 := HCL.out; simp [ints] at h9 ⊢; omega) (by have := hb2.size; simp; omega) ?_; intro t3 w3 hown3 hg3))
            have hb3 := below_app hb2 (below_alloc _ _) (hown2.alloc _) hg3
            rw [← ints_append, List.append_assoc] at hown3
            go_roundw
            case rel => exact ⟨1, by omega, rfl, hown3, hb3⟩
            case measure => simp [intOf]
          · go_wp2
            go_roundw
            case rel => exact ⟨k + 1, 4, N % 16, by go_num, by omega, by first | exact iv em | exact iv (Int.emod_one _).symm, rfl, Q3, Q4, by rw [Q1.out]; exact hown2, hb2⟩
            case measure => simp [intOf]; omega
      · have hz2 : z < 16 := hz1
        obtain ⟨q1, q2⟩ := wholes_two hPb (by rw [hPl])
        have q3 := (num_cut hPb 12).2
        rw [← q2, hPn, hPl] at q3
        have q4 : (left 6 P).length = 0 := by rw [q2, List.length_drop, hPl]
        rw [hPn, hPl] at q1
        have Q1 : Hid (((wholes 6 (obits (xs.take (k + 1)))).map dg) = (wholes 6 (obits (xs.take k))).map dg ++ [dg ((z * 256 + x) / 2 ^ (12 - 6) % 64), dg ((z * 256 + x) / 2 ^ (12 - 12) % 64)]) := by
          show _ = _
          rw [HWA.out.1, q1, List.map_append]; rfl
        have Q3 : Hid (num (left 6 (obits (xs.take (k + 1)))) = (z * 256 + x) % 1) := by
          show _ = _
          rw [HWA.out.2]; exact q3.symm
        have Q4 : Hid ((left 6 (obits (xs.take (k + 1)))).length = 0) := by
          show _ = _
          rw [HWA.out.2]; exact q4
        clear q1 q2 q3 q4 hPb hPn hPl hz1
        have eo := i64_join8 (z * 256) x (by omega) (by omega) (by omega) hx0 hx1
        have em := i64_mask 0 (by omega) (z * 256 + x) (by omega) (by omega)
        generalize hD : (wholes 6 (obits (xs.take k))).map dg = D at *
        have HDD := Lib.hid hD; clear hD
        have hN0 : 0 ≤ z * 256 + x := by omega
        have hN1 : z * 256 + x < 1048576 := by omega
        generalize z * 256 + x = N at *
        go_wp2
        go_loopw [3, 5] (fun u mv w2 => ∃ j : Nat, j ≤ 2 ∧ mv = .int .i64 (12 - 6 * (j : Int)) ∧ Own w.heap.size 5 w2 u (ints .u8 (D ++ ([dg (N / 2 ^ (12 - 6) % 64), dg (N / 2 ^ (12 - 12) % 64)] : List Int).take j)) ∧ Below w.heap.size w w2) (fun _ mv _ => (intOf mv).toNat)
        case atStart => exact ⟨0, by omega, rfl, by rw [List.take_zero, List.append_nil]; exact hown, hbr⟩
        case round =>
          obtain ⟨j, hj, rfl, hown2, hb2⟩ := hrel
          rcases (by omega : j = 0 ∨ j = 1 ∨ j = 2) with rfl | rfl | rfl
          · go_wp2_with (first | (go_at_call 84; refine (bDigit_any _ _ (by omega) (by omega)).mono ?_; rintro e w' ⟨rfl, hw⟩; obtain rfl := hw.symm) | (at_builtin; refine wpList_app slT_u8 _ _ _ rfl rfl rfl rfl (hown2.alloc _) (Row.ilit [_] [_] rfl (by simp)) (by have h9 := HCL.out; simp [ints] at h9 ⊢; omega) (by have := hb2.size; simp; omega) ?_; intro t3 w3 hown3 hg3))
            have hb3 := below_app hb2 (below_alloc _ _) (hown2.alloc _) hg3
            rw [← ints_append, List.append_assoc] at hown3
            go_roundw
            case rel => exact ⟨1, by omega, rfl, hown3, hb3⟩
            case measure => simp [intOf]
          · go_wp2_with (first | (go_at_call 84; refine (bDigit_any _ _ (by omega) (by omega)).mono ?_; rintro e w' ⟨rfl, hw⟩; obtain rfl := hw.symm) | (at_builtin; refine wpList_app slT_u8 _ _ _ rfl rfl rfl rfl (hown2.alloc _) (Row.ilit [_] [_] rfl (by simp)) (by have h9 := HCL.out; simp [ints] at h9 ⊢; omega) (by have := hb2.size; simp; omega) ?_; intro t3 w3 hown3 hg3))
            have hb3 := below_app hb2 (below_alloc _ _) (hown2.alloc _) hg3
            rw [← ints_append, List.append_assoc] at hown3
            go_roundw
            case rel => exact ⟨2, by omega, rfl, (by rw [show dg (N / 2 ^ (12 - 12) % 64) = dg (N % 64) from by rw [show N / 2 ^ (12 - 12) = N from Int.ediv_one N]]; exact hown3), hb3⟩
            case measure => simp [intOf]
          · go_wp2
            go_roundw
            case rel => exact ⟨k + 1, 0, N % 1, by go_num, by omega, by first | exact iv em | exact iv (Int.emod_one _).symm, rfl, Q3, Q4, by rw [Q1.out]; exact hown2, hb2⟩
            case measure => simp [intOf]; omega
    · have hkx : xs.take k = xs := List.take_of_length_le (by omega)
      have hbe := bare_eq xs
      rw [hkx] at hown
      have hz := HZ.out
      have hmm := HM.out
      rw [hkx] at hz hmm
      rw [HBB.out, tail6, hz, hmm] at hbe
      have hcl : (ints .u8 ((wholes 6 (obits xs)).map dg)).length ≤ 200000 := by
        rw [ints_length, List.length_map, wholes, chunk_len, obits_len]; omega
      generalize (wholes 6 (obits xs)).map dg = D at *
      have HBE := Lib.hid hbe; have HCL := Lib.hid hcl
      clear hbe hcl hz hmm hkx
      rcases hm3 with rfl | rfl | rfl
      · go_wp2
        go_ret
        refine ⟨_, rfl, ?_, hbr⟩
        rw [HBE.out, if_pos (by trivial), List.append_nil]; exact hown
      · have hz2 : z < 4 := hz1
        have e : dg (z * 2 ^ (6 - 2)) = dg (z * 16 % 64) := by rw [show z * 2 ^ (6 - 2) = z * 16 from rfl, Int.emod_eq_of_lt (by omega) (by omega)]
        clear hz1
        go_wp2_with (first | (go_at_call 84; refine (bDigit_any _ _ (by omega) (by omega)).mono ?_; rintro e w' ⟨rfl, hw⟩; obtain rfl := hw.symm) | (at_builtin; refine wpList_app slT_u8 _ _ _ rfl rfl rfl rfl (hown.alloc _) (Row.ilit [_] [_] rfl (by simp)) (by have h9 := HCL.out; simp [ints] at h9 ⊢; omega) (by have := hbr.size; simp; omega) ?_; intro t3 w3 hown3 hg3))
        have hb3 := below_app hbr (below_alloc _ _) (hown.alloc _) hg3
        rw [← ints_append] at hown3
        go_ret
        refine ⟨_, rfl, ?_, hb3⟩
        rw [HBE.out, if_neg (by omega), e]; exact hown3
      · have hz2 : z < 16 := hz1
        have e : dg (z * 2 ^ (6 - 4)) = dg (z * 4 % 64) := by rw [show z * 2 ^ (6 - 4) = z * 4 from rfl, Int.emod_eq_of_lt (by omega) (by omega)]
        clear hz1
        go_wp2_with (first | (go_at_call 84; refine (bDigit_any _ _ (by omega) (by omega)).mono ?_; rintro e w' ⟨rfl, hw⟩; obtain rfl := hw.symm) | (at_builtin; refine wpList_app slT_u8 _ _ _ rfl rfl rfl rfl (hown.alloc _) (Row.ilit [_] [_] rfl (by simp)) (by have h9 := HCL.out; simp [ints] at h9 ⊢; omega) (by have := hbr.size; simp; omega) ?_; intro t3 w3 hown3 hg3))
        have hb3 := below_app hbr (below_alloc _ _) (hown.alloc _) hg3
        rw [← ints_append] at hown3
        go_ret
        refine ⟨_, rfl, ?_, hb3⟩
        rw [HBE.out, if_neg (by omega), e]; exact hown3
end Go.Proofs.Ytbpjgmiedplidaa
namespace Go.Proofs.Ytbpjgmiedplidaa
open Go.RowKit
set_option maxHeartbeats 2000000
theorem rnumber14_any (v : Value) (l : List Int) (w : World) (h : Row w v (ints .i64 l)) (hb : Bit l) (hl : l.length ≤ 60) :
    Calls Try.prog 87 #[v] w fun e w' => e = .returned (.int .i64 (num l)) ∧ w' = w := by
  obtain ⟨a, b, off, cp, rfl, HC⟩ := h.op
  go_enter Try.func87, Try.ntmps87
  go_wp2
  go_loopw [3, 4] (fun u i wr => ∃ (k : Nat) (z : Int), i = .int .i64 k ∧ k ≤ l.length ∧ u = .int .i64 z ∧ Hid (num (l.take k) = z) ∧ wr = w) (fun _ i _ => l.length - (intOf i).toNat)
  case atStart => exact ⟨0, 0, rfl, Nat.zero_le _, rfl, (rfl : num [] = 0), rfl⟩
  case round =>
    obtain ⟨k, z, rfl, hk, rfl, HZ, rfl⟩ := hrel
    by_cases hlt : k < l.length
    · obtain ⟨x, HX, rfl, hc⟩ := HC.out k hlt
      replace hc := hc _ (Below.refl _ _)
      have hs := num_small hb (k := k) (by omega)
      rw [HZ.out] at hs
      have hx := hb x (List.mem_of_getElem? HX.out)
      have hx2 : 0 ≤ x ∧ x ≤ 1 := by omega
      clear hx
      have h2 := num_snoc HX.out
      rw [HZ.out] at h2
      have H2 := Lib.hid h2; clear h2
      go_wp2
      go_roundw
      case rel => exact ⟨k + 1, _, by go_num, by omega, rfl, H2, by first | rfl | trivial⟩
      case measure => simp [intOf]; omega
    · go_wp2
      go_ret
      have h2 := HZ.out
      rw [List.take_of_length_le (by omega)] at h2
      exact ⟨ret_int h2.symm, rfl⟩
set_option maxRecDepth 100000 in
theorem rBits_any (v : Value) (d : List Int) (w : World) (h : Row w v (ints .u8 d)) (hg : Rg 0 256 d) (hl : d.length ≤ 100000) :
    Calls Try.prog 85 #[v] w fun e w' => ∃ t, e = .returned t ∧ Own w.heap.size 3 w' t (ints .i64 (obits d)) ∧ Below w.heap.size w w' := by
  obtain ⟨a, b, off, cp, rfl, HC⟩ := h.op
  go_enter Try.func85, Try.ntmps85
  go_wp2
  go_loopw [3, 4] (fun u i wr => ∃ k : Nat, i = .int .i64 k ∧ k ≤ d.length ∧ Own w.heap.size 3 wr u (ints .i64 (obits (d.take k))) ∧ Below w.heap.size w wr) (fun _ i _ => d.length - (intOf i).toNat)
  case atStart => exact ⟨0, rfl, Nat.zero_le _, Own.nil _ _ _, Below.refl _ _⟩
  case round =>
    obtain ⟨k, rfl, hk, hown, hbr⟩ := hrel
    by_cases hlt : k < d.length
    · obtain ⟨x, HX, rfl, hc⟩ := HC.out k hlt
      have HCF := Lib.hid hc
      have hxr := hg.get HX.out
      have hx0 := hxr.1
      have hx1 := hxr.2
      have h2 := obits_snoc HX.out
      have HL : Hid ((obits (d.take k)).length = 8 * k) := by show _ = _; rw [obits_len, List.length_take]; omega
      generalize obits (d.take k) = l at *
      have H2 := Lib.hid h2
      clear h2 hxr hc
      go_wp2
      go_loopw [3, 5] (fun u kv w2 => ∃ j : Nat, j ≤ 8 ∧ kv = .int .i64 (7 - (j : Int)) ∧ Own w.heap.size 3 w2 u (ints .i64 (l ++ (bits8 x).take j)) ∧ Below w.heap.size w w2) (fun _ kv _ => (intOf kv + 1).toNat)
      case atStart => exact ⟨0, by omega, rfl, by rw [List.take_zero, List.append_nil]; exact hown, hbr⟩
      case round =>
        obtain ⟨j, hj, rfl, hown2, hb2⟩ := hrel
        have hc := HCF.out _ hb2
        by_cases hj6 : j < 8
        · have HLb : Hid ((ints .i64 (l ++ (bits8 x).take j)).length ≤ 900000) := by
            show _ ≤ _
            rw [ints_length, List.length_append, List.length_take, HL.out]; simp only [bits8, List.length_cons, List.length_nil]; omega
          obtain ⟨j', HJ⟩ : ∃ j', Hid (j' = j + 1) := ⟨_, rfl⟩
          rcases (by omega : j = 0 ∨ j = 1 ∨ j = 2 ∨ j = 3 ∨ j = 4 ∨ j = 5 ∨ j = 6 ∨ j = 7) with rfl | rfl | rfl | rfl | rfl | rfl | rfl | rfl
          all_goals
            go_wp2_with (at_builtin; refine wpList_app slT_int _ _ _ rfl rfl rfl rfl (hown2.alloc _) (Row.ilit [_] [_] rfl (by simp)) (by have h9 := HLb.out; simp only [ints_length, List.length_cons, List.length_nil] at h9 ⊢; omega) (by have := hb2.size; simp; omega) ?_; intro t3 w3 hown3 hg3)
            have hb3 := below_app hb2 (below_alloc _ _) (hown2.alloc _) hg3
            rw [← ints_append, List.append_assoc] at hown3
            go_roundw
            case rel => exact ⟨j', by rw [HJ.out]; omega, by rw [HJ.out]; rfl, by rw [HJ.out]; exact hown3, hb3⟩
            case measure => simp [intOf]
        · obtain rfl : j = 8 := by omega
          have hown4 := hown2
          rw [show (bits8 x).take 8 = bits8 x from rfl, ← H2.out] at hown4
          go_wp2
          go_roundw
          case rel => exact ⟨k + 1, by go_num, by omega, hown4, hb2⟩
          case measure => simp [intOf]; omega
    · rw [List.take_of_length_le (by omega)] at hown
      go_wp2
      go_ret
      exact ⟨_, rfl, hown, hbr⟩
end Go.Proofs.Ytbpjgmiedplidaa
namespace Go.Proofs.Ytbpjgmiedplidaa
open Go.RowKit
set_option maxHeartbeats 2000000
set_option maxRecDepth 100000 in
theorem rBare_any (v : Value) (d : List Int) (w : World) (h : Row w v (ints .u8 d)) (hg : Rg 0 256 d) (hl : d.length ≤ 50000) :
    Calls Try.prog 65 #[v] w fun e w' => ∃ t, e = .returned t ∧ Own w.heap.size 5 w' t (ints .u8 (bare d)) ∧ Below w.heap.size w w' := by
  have hbits := rBits_any v d w h hg (by omega)
  have hB : bare d = (wholes 6 (pad6 (obits d))).map dg := rfl
  have hlen := obits_len d
  have hbit := obits_bit d
  generalize bare d = BB at *
  have hpad : pad6 (obits d) = obits d ++ List.replicate ((6 - (obits d).length % 6) % 6) 0 := rfl
  have hPb : Bit (pad6 (obits d)) := fun y hy => by
    rw [hpad] at hy
    rcases List.mem_append.1 hy with h1 | h1
    · exact hbit y h1
    · exact .inl (List.eq_of_mem_replicate h1)
  generalize pad6 (obits d) = P at *
  generalize obits d = L at *
  obtain ⟨J, HJ⟩ : ∃ J, Hid ((6 - L.length % 6) % 6 = J) := ⟨_, rfl⟩
  rw [HJ.out] at hpad
  have hJ6 : J < 6 := by have := HJ.out; omega
  have hPl : P.length = L.length + J := by rw [hpad, List.length_append, List.length_replicate]
  have hP6 : (L.length + J) % 6 = 0 := by have := HJ.out; omega
  have hLl : L.length ≤ 400000 := by omega
  have HBITS := Lib.hid hbits; have HPAD := Lib.hid hpad; have HB := Lib.hid hB
  clear hbits hpad hB hbit hlen
  go_enter Try.func65, Try.ntmps65
  go_wp2_with (go_at_call 85; refine (HBITS.out).mono ?_; rintro e w1 ⟨t, rfl, ho, hb⟩)
  go_loopw [3] (fun u wr => ∃ j : Nat, j ≤ J ∧ Own w.heap.size 3 wr u (ints .i64 (L ++ List.replicate j 0)) ∧ Below w.heap.size w wr) (fun u _ => L.length + J - lenOf u)
  case atStart => exact ⟨0, Nat.zero_le _, by rw [List.replicate_zero, List.append_nil]; exact ho, hb⟩
  case round =>
    obtain ⟨j, hj, hown, hbr⟩ := hrel
    have hnl : (ints .i64 (L ++ List.replicate j 0)).length = L.length + j := by rw [ints_length, List.length_append, List.length_replicate]
    have hlenOf := hown.row.len
    obtain ⟨a, b, off, cp, rfl, _⟩ := id hown.row.op
    have hnl2 : (L ++ List.replicate j (0 : Int)).length = L.length + j := by rw [List.length_append, List.length_replicate]
    rw [hnl2] at hown
    rw [hnl2]
    obtain ⟨n, hn⟩ : ∃ n, n = L.length + j := ⟨_, rfl⟩
    rw [← hn] at hown hnl
    rw [← hn]
    have HN := Lib.hid hn
    have HNL := Lib.hid hnl
    clear hlenOf hnl2 hnl
    by_cases hjJ : j < J
    · have hg6 : ((n : Int) % 6 != 0) = true := by rw [bne_iff_ne]; have := HJ.out; omega
      have hnb : n ≤ 500000 := by omega
      clear hn
      go_wp2_with (at_builtin; refine wpList_app slT_int _ _ _ rfl rfl rfl rfl (hown.alloc _) (Row.ilit [_] [_] rfl (by simp)) (by have h9 := HNL.out; rw [h9]; simp [ints]; omega) (by have := hbr.size; simp; omega) ?_; intro t3 w3 hown3 hg3)
      have hb3 := below_app hbr (below_alloc _ _) (hown.alloc _) hg3
      rw [← ints_append, List.append_assoc, show List.replicate j (0 : Int) ++ [0] = List.replicate (j + 1) 0 from (List.replicate_succ' (n := j)).symm] at hown3
      go_roundw
      case rel => exact ⟨j + 1, by omega, hown3, hb3⟩
      case measure =>
        rw [hown3.row.len, ints_length, List.length_append, List.length_replicate]
        have := HN.out
        simp only [lenOf]; omega
    · obtain rfl : j = J := by omega
      have hg6 : ((n : Int) % 6 != 0) = false := by
        cases hx : ((n : Int) % 6 != 0) with
        | false => rfl
        | true => rw [bne_iff_ne] at hx; omega
      rw [← HPAD.out] at hown
      have hnP : n = P.length := by omega
      clear hn
      have rL := hown.row
      obtain ⟨K, hK⟩ : ∃ K, P.length = 6 * K := ⟨P.length / 6, by omega⟩
      have hPn : P.length ≤ 500000 := by omega
      subst hnP
      have HKK := Lib.hid hK
      have hKl : K ≤ 100000 := by omega
      clear hPl hP6 hK
      go_wp2
      go_loopw [4, 5] (fun u iv w2 => ∃ k i : Nat, iv = .int .i64 i ∧ Hid (i = 6 * k) ∧ k ≤ K ∧ Own wr.heap.size 5 w2 u (ints .u8 ((chunk 6 P k).map dg)) ∧ Below wr.heap.size wr w2) (fun _ i _ => P.length - (intOf i).toNat)
      case atStart => exact ⟨0, 0, rfl, (rfl : 0 = 6 * 0), Nat.zero_le _, Own.nil _ _ _, Below.refl _ _⟩
      case round =>
        obtain ⟨k, i, rfl, HI, hk, hown2, hb2⟩ := hrel
        have hk6 : i ≤ P.length := by have := HKK.out; have := HI.out; omega
        by_cases hlt : k < K
        · have h66 : i + 6 ≤ P.length := by have := HKK.out; have := HI.out; omega
          have h1 := num_rng ((hPb.drop i).take 6)
          have hlen2 : ((P.drop i).take 6).length = 6 := by rw [List.length_take, List.length_drop]; omega
          have hcs := chunk_succ 6 P k
          rw [← HI.out] at hcs
          have hcl : (ints .u8 ((chunk 6 P k).map dg)).length ≤ 100000 := by rw [ints_length, List.length_map, chunk_len]; omega
          have hnum := fun v w' h' => rnumber14_any v ((P.drop i).take 6) w' h' ((hPb.drop _).take _) (by omega)
          have hdt : (P.take (i + 6)).drop i = (P.drop i).take 6 := by rw [List.drop_take]; congr 1; omega
          rw [hlen2] at h1
          generalize num ((P.drop i).take 6) = z at *
          generalize (P.drop i).take 6 = C at *
          have hz1 : 0 ≤ z := h1.1
          have hz2 : z < 64 := h1.2
          have HCS := Lib.hid hcs; have HCL := Lib.hid hcl; have HNUM := Lib.hid hnum; have HDT := Lib.hid hdt
          clear hcs hcl hnum hdt h1 hlen2
          go_wp2_with (first | (refine wpList_slLH slT_int _ _ _ rfl rfl rfl rfl rfl (rL.below hb2) (by omega) (by omega) (by simp [ints]; omega) ?_; intro v2 hv2; have r2 := hv2 _ rL; rw [show ((i : Int) + 6).toNat = i + 6 by omega, Int.toNat_natCast, ints_take, ints_drop, HDT.out] at r2) | (go_at_call 87; refine (HNUM.out _ _ (r2.below hb2)).mono ?_; rintro e w' ⟨rfl, hw⟩; obtain rfl := hw.symm) | (go_at_call 86; refine (rDigit_any _ _ hz1 hz2).mono ?_; rintro e w' ⟨rfl, hw⟩; obtain rfl := hw.symm) | (at_builtin; refine wpList_app slT_u8 _ _ _ rfl rfl rfl rfl (hown2.alloc _) (Row.ilit [_] [_] rfl (by simp)) (by have h9 := HCL.out; simp [ints] at h9 ⊢; omega) (by have := hb2.size; simp; omega) ?_; intro t3 w3 hown3 hg3))
          have hb3 := below_app hb2 (below_alloc _ _) (hown2.alloc _) hg3
          rw [← ints_append, show (chunk 6 P k).map dg ++ [dg z] = (chunk 6 P (k + 1)).map dg from by rw [HCS.out, List.map_append]; rfl] at hown3
          go_roundw
          case rel => exact ⟨k + 1, i + 6, by go_num, (by have := HI.out; omega : i + 6 = 6 * (k + 1)), by omega, hown3, hb3⟩
          case measure => simp [intOf]; omega
        · obtain rfl : k = K := by omega
          have hb := HB.out
          rw [wholes, HKK.out, Nat.mul_div_cancel_left _ (by omega)] at hb
          rw [← hb] at hown2
          have hge : P.length ≤ i := by have := HKK.out; have := HI.out; omega
          go_wp2
          go_ret
          exact ⟨_, rfl, hown2.mono hbr.size, below_trans hbr hb2⟩
end Go.Proofs.Ytbpjgmiedplidaa
