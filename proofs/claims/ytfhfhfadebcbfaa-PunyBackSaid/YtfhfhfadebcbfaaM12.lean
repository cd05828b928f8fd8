/- Plain: Punycode: a number's digits, a text laid. · Walks: Punycode's digits and their numbers. · Plain: Punycode: what is laid is read. · Plain: Punycode: the one that lays and the one that reads, side by side. · Plain: Punycode: no two alike; where the mark is; what is laid is read. (laid together by program out of single texts). -/
import Derived.Test.YtfhfhfadebcbfaaM10
import Derived.Test.YtfhfhfadebcbfaaM11
namespace Go.Proofs.Ytfhfhfadebcbfaa
/-- A number's digits. -/
def numP (b : Int) : Nat → Int → Int → List Int
  | 0, n, _ => [dgtP n]
  | f + 1, n, k => if n < edgP k b then [dgtP n] else dgtP (edgP k b + (n - edgP k b) % (36 - edgP k b)) :: numP b f ((n - edgP k b) / (36 - edgP k b)) (k + 36)
/-- What is laid so far: the octets, the number that grows, the bias, how many signs, is one met. -/
structure LS where
  out : List Int
  g : Int
  b : Nat
  m : Nat
  z : Bool
/-- One sign of the text against one that is laid. -/
def inP (c : Int) (S : LS) (x : Int) : LS := if x < c then ⟨S.out, S.g + 1, S.b, S.m, S.z⟩ else if x = c then ⟨S.out ++ numP S.b (S.g.toNat + 1) S.g 36, 0, adpP S.g ((S.m : Int) + 1) (!S.z), S.m + 1, true⟩ else S
/-- One sign laid. -/
def ouP (xs : List Int) (T : LS × Int) (c : Int) : LS × Int :=
  let S2 := xs.foldl (inP c) ⟨T.1.out, T.1.g + (c - T.2) * ((T.1.m : Int) + 1), T.1.b, T.1.m, T.1.z⟩
  (⟨S2.out, S2.g + 1, S2.b, S2.m, S2.z⟩, c + 1)
def plP (xs : List Int) : List Int := xs.filter (fun c => decide (c < 128))
/-- A text laid, its other signs in order given. -/
def layP (xs ys : List Int) : List Int × Int :=
  if 1000 < xs.length then ([], 12) else if allSc xs = false then ([], 7)
  else ((ys.foldl (ouP xs) (⟨plP xs ++ (if (plP xs).length = 0 then [] else [45]), 0, 72, (plP xs).length, false⟩, 128)).1.out, 0)
/-- Down to its place. -/
def bub : Nat → List Int → List Int
  | 0, xs => xs
  | j + 1, xs => if xs.getD (j + 1) 0 < xs.getD j 0 then bub j ((xs.set (j + 1) (xs.getD j 0)).set j (xs.getD (j + 1) 0)) else xs
theorem bub_len : ∀ (j : Nat) (xs : List Int), (bub j xs).length = xs.length
  | 0, _ => rfl
  | j + 1, xs => by
    rw [bub]
    split
    · rw [bub_len]; simp
    · rfl
def isrP : Nat → Nat → List Int → List Int
  | 0, _, xs => xs
  | f + 1, i, xs => isrP f (i + 1) (bub i xs)
end Go.Proofs.Ytfhfhfadebcbfaa
namespace Go.Proofs.Ytfhfhfadebcbfaa
open Go.RowKit
set_option maxHeartbeats 2000000
set_option maxRecDepth 100000
def dgTab : ByteArray := ⟨#[97, 98, 99, 100, 101, 102, 103, 104, 105, 106, 107, 108, 109, 110, 111, 112, 113, 114, 115, 116, 117, 118, 119, 120, 121, 122, 48, 49, 50, 51, 52, 53, 54, 55, 56, 57]⟩
theorem dgTab_size : dgTab.size = 36 := by decide
theorem dgTab_at : ∀ n : Fin 36, (((dgTab[n.val]'(by rw [dgTab_size]; exact n.2)).toNat : Nat) : Int) = if (n.val : Int) < 26 then 97 + (n.val : Int) else 22 + (n.val : Int) := by decide +kernel
theorem digit_any (n : Int) (w : World) :
    Calls Try.prog 14 #[.int .i64 n] w fun e w' => e = .returned (.int .u8 (dgtP n)) ∧ w' = w := by
  unfold dgtP
  by_cases h0 : n < 0
  · rw [if_pos (.inl h0)]
    go_enter Try.func14, Try.ntmps14
    go_wp2
    go_ret
    exact ⟨rfl, rfl⟩
  by_cases h1 : 36 ≤ n
  · rw [if_pos (.inr h1)]
    go_enter Try.func14, Try.ntmps14
    go_wp2
    go_ret
    exact ⟨rfl, rfl⟩
  rw [if_neg (by omega)]
  obtain ⟨N, rfl⟩ : ∃ N : Nat, n = (N : Int) := ⟨n.toNat, by omega⟩
  go_enter Try.func14, Try.ntmps14
  have k := dgTab_at ⟨N, by omega⟩
  go_wp2
  case inl =>
    rw [if_pos (by assumption)] at k
    go_ret
    exact ⟨ret_int k, rfl⟩
  case inr =>
    rw [if_neg (by omega)] at k
    go_ret
    exact ⟨ret_int k, rfl⟩
theorem dgtP_val : ∀ (n : Fin 36) (c : Fin 256), dgtP (n.val : Int) = lowC (c.val : Int) → valP (c.val : Int) = ((n.val : Int), true) := by decide +kernel
theorem dgtP_no : ∀ c : Fin 256, (∀ n : Fin 36, dgtP (n.val : Int) ≠ lowC (c.val : Int)) → valP (c.val : Int) = (0, false) := by decide +kernel
theorem dgtP_byte (n : Int) : 0 ≤ dgtP n ∧ dgtP n < 256 := by
  unfold dgtP
  split
  · omega
  · split <;> omega
theorem r41low_any (c : Int) (w : World) (_h0 : 0 ≤ c) (_h1 : c < 256) :
    Calls Try.prog 32 #[.int .u8 c] w fun e w' => e = .returned (.int .u8 (lowC c)) ∧ w' = w := by
  unfold lowC
  by_cases h : 65 ≤ c ∧ c ≤ 90
  · rw [if_pos h]
    obtain ⟨ha, hb⟩ := h
    have hw : IntKind.u8.wrap (c + 32) = c + 32 := IntWalk.u8_in _ (by omega)
    go_enter Try.func32, Try.ntmps32
    go_wp2
    go_ret
    first | exact ⟨rfl, rfl⟩ | exact ⟨congrArg Ending.returned (congrArg (Value.int .u8) hw), rfl⟩
  · rw [if_neg h]
    by_cases ha : 65 ≤ c
    · have hb : 90 < c := by omega
      clear h
      go_enter Try.func32, Try.ntmps32
      go_wp2
      go_ret
      exact ⟨rfl, rfl⟩
    · have hb : c < 65 := by omega
      clear h ha
      go_enter Try.func32, Try.ntmps32
      go_wp2
      go_ret
      exact ⟨rfl, rfl⟩
theorem rvalue_any (c : Int) (w : World) (h0 : 0 ≤ c) (h1 : c < 256) :
    Calls Try.prog 13 #[.int .u8 c] w fun e w' => e = .returned (.tuple #[.int .i64 (valP c).1, .bool (valP c).2]) ∧ w' = w := by
  have hy : ∀ n : Nat, n < 36 → dgtP (n : Int) = lowC c → valP c = ((n : Int), true) := fun n hn he => by
    have := dgtP_val ⟨n, hn⟩ ⟨c.toNat, by omega⟩
    simp only [Int.toNat_of_nonneg h0] at this
    exact this he
  have hno : (∀ n : Nat, n < 36 → dgtP (n : Int) ≠ lowC c) → valP c = (0, false) := fun he => by
    have := dgtP_no ⟨c.toNat, by omega⟩
    simp only [Int.toNat_of_nonneg h0] at this
    exact this (fun n => he n.val n.2)
  have hl := fun w => r41low_any c w h0 h1
  obtain ⟨V, hV⟩ : ∃ V, valP c = V := ⟨_, rfl⟩
  rw [hV] at hy hno ⊢
  generalize lowC c = L at *
  have HY := Lib.hid hy; have HN := Lib.hid hno; have HL := Lib.hid hl
  clear hy hno hl hV
  go_enter Try.func13, Try.ntmps13
  go_wp2
  go_loopw [4] (fun nv wr => ∃ n : Nat, nv = .int .i64 n ∧ n ≤ 36 ∧ Hid (∀ m : Nat, m < n → dgtP (m : Int) ≠ L) ∧ wr = w) (fun nv _ => 36 - (intOf nv).toNat)
  case atStart => exact ⟨0, rfl, by omega, (fun m hm => by omega), rfl⟩
  case round =>
    obtain ⟨n, rfl, hn, HM, hw⟩ := hrel
    obtain rfl := hw.symm
    by_cases hlt : (n : Int) < 36
    · have hd := fun w => rdigit_any (n : Int) w
      by_cases he : dgtP (n : Int) = L
      · have hv := HY.out n (by omega) he
        obtain rfl : V = ((n : Int), true) := hv
        rw [he] at hd
        have HD := Lib.hid hd
        clear hd he
        go_wp2_with (first | (go_at_call 15; refine (HD.out _).mono ?_; rintro e w' ⟨rfl, hw⟩; obtain rfl := hw.symm) | (go_at_call 32; refine (HL.out _).mono ?_; rintro e w' ⟨rfl, hw⟩; obtain rfl := hw.symm))
        go_ret2
        exact ⟨rfl, rfl⟩
      · have HM2 : Hid (∀ m : Nat, m < n + 1 → dgtP (m : Int) ≠ L) := fun m hm => by
          rcases (by omega : m < n ∨ m = n) with h9 | rfl
          · exact HM.out m h9
          · exact he
        obtain ⟨D, hD⟩ : ∃ D, dgtP (n : Int) = D := ⟨_, rfl⟩
        rw [hD] at he hd
        have heb : (D == L) = false := beq_false_of_ne he
        have HD := Lib.hid hd
        clear hd he hD
        go_wp2_with (first | (go_at_call 15; refine (HD.out _).mono ?_; rintro e w' ⟨rfl, hw⟩; obtain rfl := hw.symm) | (go_at_call 32; refine (HL.out _).mono ?_; rintro e w' ⟨rfl, hw⟩; obtain rfl := hw.symm))
        go_roundw
        case rel => exact ⟨n + 1, by go_num, by omega, HM2.out, by first | rfl | trivial⟩
        case measure => simp [intOf]; omega
    · obtain rfl : n = 36 := by omega
      obtain rfl : V = (0, false) := HN.out HM.out
      go_wp2
      go_ret2
      exact ⟨rfl, rfl⟩
end Go.Proofs.Ytfhfhfadebcbfaa
namespace Go.Proofs.Ytfhfhfadebcbfaa
theorem dgt_val : ∀ n : Fin 36, valP (dgtP (n.val : Int)) = ((n.val : Int), true) := by decide +kernel
theorem dgt_rng : ∀ n : Fin 36, 48 ≤ dgtP (n.val : Int) ∧ dgtP (n.val : Int) ≤ 122 := by decide +kernel
theorem dgt_int (n : Int) (h0 : 0 ≤ n) (h1 : n < 36) : valP (dgtP n) = (n, true) ∧ 48 ≤ dgtP n ∧ dgtP n ≤ 122 := by
  obtain ⟨k, rfl⟩ : ∃ k : Nat, n = k := ⟨n.toNat, by omega⟩
  exact ⟨dgt_val ⟨k, by omega⟩, dgt_rng ⟨k, by omega⟩⟩
/-- One digit taken off a number. -/
theorem dig_split (n E : Int) (hE1 : 1 ≤ E) (hE2 : E ≤ 26) (h : E ≤ n) :
    ∃ r q, (n - E) % (36 - E) = r ∧ (n - E) / (36 - E) = q ∧ 0 ≤ r ∧ r < 36 - E ∧ 0 ≤ q ∧ q * (36 - E) + r = n - E ∧ q * 10 ≤ n - E := by
  have h1 := Int.emod_nonneg (n - E) (show 36 - E ≠ 0 by omega)
  have h2 := Int.emod_lt_of_pos (n - E) (show 0 < 36 - E by omega)
  have h3 : 0 ≤ (n - E) / (36 - E) := Int.ediv_nonneg (by omega) (by omega)
  have h4 := Int.mul_ediv_add_emod (n - E) (36 - E)
  refine ⟨_, _, rfl, rfl, h1, h2, h3, by rw [Int.mul_comm]; exact h4, ?_⟩
  generalize (n - E) % (36 - E) = r at *
  generalize (n - E) / (36 - E) = q at *
  have h5 : 0 ≤ q * (26 - E) := Int.mul_nonneg h3 (by omega)
  grind
theorem tk_num (b : Int) (rest : List Int) : ∀ (f : Nat) (n k w p : Int), 0 ≤ n → n ≤ f → 1 ≤ w → 0 ≤ p → p + n * w ≤ 1099511627776 → tkP b (numP b f n k ++ rest) k w p = (p + n * w, rest, 0)
  | 0, n, k, w, p, h0, hf, hw, hp, hb => by
    obtain rfl : n = 0 := by omega
    have he := edgP_rng k b
    rw [numP, List.singleton_append, tkP, (dgt_int 0 (by omega) (by omega)).1]
    rw [if_neg (by simp; omega), if_pos (by simp only []; omega)]
  | f + 1, n, k, w, p, h0, hf, hw, hp, hb => by
    have he := edgP_rng k b
    obtain ⟨E, hE⟩ : ∃ E, edgP k b = E := ⟨_, rfl⟩
    rw [numP, hE]
    rw [hE] at he
    by_cases hlt : n < E
    · rw [if_pos hlt, List.singleton_append, tkP, (dgt_int n h0 (by omega)).1, hE]
      rw [if_neg (by simp; omega), if_pos hlt]
    · obtain ⟨r, q, hr, hq, hr0, hr1, hq0, hs, hq9⟩ := dig_split n E he.1 he.2 (by omega)
      rw [if_neg hlt, List.cons_append, tkP, hr, hq, (dgt_int (E + r) (by omega) (by omega)).1, hE]
      have hn : n = E + r + q * (36 - E) := by omega
      have hqw : 0 ≤ q * (36 - E) * w := Int.mul_nonneg (Int.mul_nonneg hq0 (by omega)) (by omega)
      have hrw : 0 ≤ (E + r) * w := Int.mul_nonneg (by omega) (by omega)
      have hall : p + (E + r) * w + q * (w * (36 - E)) = p + n * w := by rw [hn]; grind
      have hb2 : p + (E + r) * w + q * (36 - E) * w = p + n * w := by rw [hn]; grind
      simp only []
      rw [if_neg (by simp; omega), if_neg (by omega)]
      have hw2 : 1 ≤ w * (36 - E) := by
        have : 0 ≤ (w - 1) * (36 - E) := Int.mul_nonneg (by omega) (by omega)
        grind
      rw [tk_num b rest f q (k + 36) (w * (36 - E)) (p + (E + r) * w) hq0 (by omega) hw2 (by omega) (by omega), hall]
/-- A number's digits are digits, and few. -/
theorem num_dig (b : Int) : ∀ (f : Nat) (n k : Int), 0 ≤ n → n ≤ f → ∀ x ∈ numP b f n k, 48 ≤ x ∧ x ≤ 122
  | 0, n, k, h0, hf, x, hx => by
    obtain rfl : n = 0 := by omega
    rw [numP, List.mem_singleton] at hx
    subst hx
    exact (dgt_int 0 (by omega) (by omega)).2
  | f + 1, n, k, h0, hf, x, hx => by
    have he := edgP_rng k b
    obtain ⟨E, hE⟩ : ∃ E, edgP k b = E := ⟨_, rfl⟩
    rw [numP, hE] at hx
    rw [hE] at he
    by_cases hlt : n < E
    · rw [if_pos hlt, List.mem_singleton] at hx
      subst hx
      exact (dgt_int n (by omega) (by omega)).2
    · obtain ⟨r, q, hr, hq, hr0, hr1, hq0, hs, hq9⟩ := dig_split n E he.1 he.2 (by omega)
      rw [if_neg hlt, hr, hq] at hx
      rcases List.mem_cons.1 hx with rfl | hx
      · exact (dgt_int (E + r) (by omega) (by omega)).2
      · exact num_dig b f q (k + 36) hq0 (by omega) x hx
theorem num_len (b : Int) : ∀ (l f : Nat) (n k : Int), 0 ≤ n → n ≤ f → n < (10 : Int) ^ l → (numP b f n k).length ≤ l + 1
  | l, 0, n, k, h0, hf, hl => by rw [numP]; simp
  | 0, f + 1, n, k, h0, hf, hl => by
    have he := edgP_rng k b
    rw [numP, if_pos (by simp at hl; omega)]; simp
  | l + 1, f + 1, n, k, h0, hf, hl => by
    have he := edgP_rng k b
    obtain ⟨E, hE⟩ : ∃ E, edgP k b = E := ⟨_, rfl⟩
    rw [numP, hE]
    rw [hE] at he
    by_cases hlt : n < E
    · rw [if_pos hlt]; simp
    · obtain ⟨r, q, hr, hq, hr0, hr1, hq0, hs, hq9⟩ := dig_split n E he.1 he.2 (by omega)
      rw [if_neg hlt, hr, hq, List.length_cons]
      have h9 : q < (10 : Int) ^ l := by rw [Int.pow_succ] at hl; omega
      have := num_len b l f q (k + 36) hq0 (by omega) h9
      omega
end Go.Proofs.Ytfhfhfadebcbfaa
namespace Go.Proofs.Ytfhfhfadebcbfaa
/-- What a reader holds when it has read what is laid so far. -/
structure Rk (T0 pre : List Int) (S : LS) (t : List Int) (s0 : Int) (p0 : Nat) : Prop where
  code : ∃ (code : List Int) (cnt : Nat), S.out = pre ++ code ∧ cnt ≤ code.length ∧ code.length ≤ 61 * cnt ∧ S.m = T0.length + cnt ∧ (∀ x ∈ code, 48 ≤ x ∧ x ≤ 122) ∧ ∀ (F : Nat) (rest : List Int), rdP (F + cnt) T0 128 72 0 (code ++ rest) = rdP F t s0 S.b p0 rest
  len : t.length = S.m
  met : decide (p0 = 0) = !S.z
theorem num_ne (b : Int) (f : Nat) (n k : Int) : 1 ≤ (numP b f n k).length := by
  cases f with
  | zero => rw [numP]; simp
  | succ f => rw [numP]; split <;> simp
theorem div_mod_at (A M pos : Int) (_hM : 0 < M) (h0 : 0 ≤ pos) (h1 : pos < M) : (A * M + pos) / M = A ∧ (A * M + pos) % M = pos := by
  rw [Int.add_comm]
  constructor
  · rw [Int.add_mul_ediv_right _ _ (by omega), Int.ediv_eq_zero_of_lt h0 h1, Int.zero_add]
  · rw [Int.add_mul_emod_self_right, Int.emod_eq_of_lt h0 h1]
/-- A number laid is a sign read. -/
theorem Rk.emit {T0 pre : List Int} {S : LS} {t : List Int} {s0 : Int} {p0 : Nat} (h : Rk T0 pre S t s0 p0) (c : Int) (pos : Nat) (hc : scB c = true) (hm : S.m ≤ 100) (hp : pos ≤ S.m) (h0 : 0 ≤ s0) (_h1 : s0 ≤ c)
    (hg : 0 ≤ S.g) (he : (p0 : Int) + S.g = (c - s0) * ((S.m : Int) + 1) + pos) :
    Rk T0 pre ⟨S.out ++ numP S.b (S.g.toNat + 1) S.g 36, 0, adpP S.g ((S.m : Int) + 1) (!S.z), S.m + 1, true⟩ (t.take pos ++ c :: t.drop pos) c (pos + 1) := by
  obtain ⟨code, cnt, ho, hcl, hcu, hcm, hcd, hrd⟩ := h.code
  have hlen := h.len
  have hmet := h.met
  have hsc := scB_iff.1 hc
  have hb1 : (c - s0) * ((S.m : Int) + 1) ≤ 1114111 * 101 := Int.mul_le_mul (by omega) (by omega) (by omega) (by omega)
  have hp60 : (200000000 : Int) < (10 : Int) ^ 60 := by decide +kernel
  have hnl := num_len S.b 60 (S.g.toNat + 1) S.g 36 hg (by omega) (by omega)
  have hn1 := num_ne S.b (S.g.toNat + 1) S.g 36
  have hnd := num_dig S.b (S.g.toNat + 1) S.g 36 hg (by omega)
  have htk := fun rest => tk_num S.b rest (S.g.toNat + 1) S.g 36 1 p0 hg (by omega) (by omega) (by omega) (by omega)
  obtain ⟨N, hN⟩ : ∃ N, numP S.b (S.g.toNat + 1) S.g 36 = N := ⟨_, rfl⟩
  rw [hN] at hnl hn1 hnd htk ⊢
  refine ⟨⟨code ++ N, cnt + 1, by simp [ho], by simp; omega, by simp; omega, by simp only []; omega, fun x hx => ?_, fun F rest => ?_⟩, ?_, ?_⟩
  · rcases List.mem_append.1 hx with hx | hx
    · exact hcd x hx
    · exact hnd x hx
  · rw [List.append_assoc, show F + (cnt + 1) = (F + 1) + cnt by omega, hrd (F + 1) (N ++ rest), rdP, htk rest]
    have hdm := div_mod_at (c - s0) ((S.m : Int) + 1) pos (by omega) (by omega) (by omega)
    have e1 : ((p0 : Int) + S.g * 1) / ((t.length + 1 : Nat) : Int) = c - s0 := by
      rw [Int.mul_one, he, hlen]; exact hdm.1
    have e2 : ((p0 : Int) + S.g * 1) % ((t.length + 1 : Nat) : Int) = pos := by
      rw [Int.mul_one, he, hlen]; exact hdm.2
    have e3 : s0 + (c - s0) = c := by omega
    have e4 : (p0 : Int) + S.g * 1 - p0 = S.g := by omega
    have e5 : ((t.length + 1 : Nat) : Int) = (S.m : Int) + 1 := by rw [hlen]; rfl
    simp only [e1, e2, e3, e4]
    rw [e5, if_neg (by simp only [List.length_append]; omega), if_neg (by simp), if_neg (by rw [hc]; simp; omega), hmet]
    rfl
  · simp only [List.length_append, List.length_cons, List.length_take, List.length_drop]; omega
  · simp
/-- At a sign of the text, for the sign c. -/
def Inn (T0 pre : List Int) (c : Int) (a r : List Int) (S : LS) : Prop :=
  ∃ (t : List Int) (s0 : Int) (p0 : Nat), Rk T0 pre S t s0 p0 ∧ t = a.filter (fun x => decide (x ≤ c)) ++ r.filter (fun x => decide (x < c)) ∧ (p0 : Int) + S.g = (c - s0) * ((S.m : Int) + 1) + (a.filter (fun x => decide (x ≤ c))).length ∧ 0 ≤ S.g ∧ 0 ≤ s0 ∧ s0 ≤ c
theorem Inn.step {T0 pre : List Int} {c : Int} {a r : List Int} {x : Int} {S : LS} (h : Inn T0 pre c a (x :: r) S) (hc : scB c = true) (hl : (a ++ x :: r).length ≤ 100) : Inn T0 pre c (a ++ [x]) r (inP c S x) := by
  obtain ⟨t, s0, p0, hR, ht, he, hg, h0, h1⟩ := h
  unfold inP
  have hf : (a ++ [x]).filter (fun x => decide (x ≤ c)) = a.filter (fun x => decide (x ≤ c)) ++ (if x ≤ c then [x] else []) := by
    rw [List.filter_append]
    congr 1
    by_cases hx : x ≤ c <;> simp [hx]
  by_cases hlt : x < c
  · rw [if_pos hlt]
    refine ⟨t, s0, p0, ⟨hR.code, hR.len, hR.met⟩, ?_, ?_, by simp only []; omega, h0, h1⟩
    · rw [ht, hf, if_pos (by omega), List.filter_cons, if_pos (by simp [hlt])]
      simp
    · rw [hf, if_pos (by omega), List.length_append, List.length_singleton]
      simp only []
      omega
  · rw [if_neg hlt]
    have hr : (x :: r).filter (fun x => decide (x < c)) = r.filter (fun x => decide (x < c)) := by rw [List.filter_cons, if_neg (by simp; omega)]
    rw [hr] at ht
    by_cases hxc : x = c
    · rw [if_pos hxc]
      have hle := List.length_filter_le (fun x => decide (x ≤ c)) a
      have hle2 := List.length_filter_le (fun x => decide (x < c)) r
      have htl : t.length = (a.filter (fun x => decide (x ≤ c))).length + (r.filter (fun x => decide (x < c))).length := by rw [ht, List.length_append]
      have hm := hR.len
      simp only [List.length_append, List.length_cons] at hl
      have hE := hR.emit c (a.filter (fun x => decide (x ≤ c))).length hc (by omega) (by omega) h0 h1 hg he
      refine ⟨_, _, _, hE, ?_, ?_, by simp, by omega, by omega⟩
      · rw [ht, List.take_left, List.drop_left, hf, if_pos (by omega), hxc]
        simp
      · rw [hf, if_pos (by omega), List.length_append, List.length_singleton]
        simp
    · rw [if_neg hxc]
      refine ⟨t, s0, p0, hR, ?_, ?_, hg, h0, h1⟩
      · rw [ht, hf, if_neg (by omega), List.append_nil]
      · rw [hf, if_neg (by omega), List.append_nil]; exact he
theorem Inn.fold {T0 pre : List Int} {c : Int} (hc : scB c = true) : ∀ (r a : List Int) (S : LS), Inn T0 pre c a r S → (a ++ r).length ≤ 100 → Inn T0 pre c (a ++ r) [] (r.foldl (inP c) S)
  | [], a, S, h, _ => by simpa using h
  | x :: r, a, S, h, hl => by
    have h9 := Inn.fold hc r (a ++ [x]) _ (h.step hc hl) (by simpa using hl)
    simpa using h9
/-- Between signs: all below sg are laid. -/
def Ou (T0 pre xs : List Int) (sg : Int) (S : LS) : Prop :=
  ∃ (t : List Int) (s0 : Int) (p0 : Nat), Rk T0 pre S t s0 p0 ∧ t = xs.filter (fun x => decide (x < sg)) ∧ (p0 : Int) + S.g = (sg - s0) * ((S.m : Int) + 1) ∧ 0 ≤ S.g ∧ 0 ≤ s0 ∧ s0 ≤ sg
theorem Ou.step {T0 pre xs : List Int} {sg : Int} {S : LS} (h : Ou T0 pre xs sg S) (c : Int) (hc : scB c = true) (hl : xs.length ≤ 100) (hsg : sg ≤ c) (hno : ∀ x ∈ xs, ¬ (sg ≤ x ∧ x < c)) :
    Ou T0 pre xs (c + 1) (ouP xs (S, sg) c).1 := by
  obtain ⟨t, s0, p0, hR, ht, he, hg, h0, h1⟩ := h
  have hst : Inn T0 pre c [] xs ⟨S.out, S.g + (c - sg) * ((S.m : Int) + 1), S.b, S.m, S.z⟩ := by
    refine ⟨t, s0, p0, ⟨hR.code, hR.len, hR.met⟩, ?_, ?_, ?_, h0, by omega⟩
    · rw [ht, List.filter_nil, List.nil_append]
      refine List.filter_congr fun x hx => ?_
      have := hno x hx
      rw [decide_eq_decide]
      omega
    · simp only [List.filter_nil, List.length_nil]
      rw [← Int.add_assoc, he, ← Int.add_mul]
      simp
      congr 1
      omega
    · exact Int.add_nonneg hg (Int.mul_nonneg (by omega) (by omega))
  obtain ⟨t2, s2, p2, hR2, ht2, he2, hg2, h02, h12⟩ := Inn.fold hc xs [] _ hst (by simpa using hl)
  unfold ouP
  simp only []
  obtain ⟨S2, hS2⟩ : ∃ S2, xs.foldl (inP c) ⟨S.out, S.g + (c - sg) * ((S.m : Int) + 1), S.b, S.m, S.z⟩ = S2 := ⟨_, rfl⟩
  rw [hS2] at hR2 he2 hg2 ⊢
  simp only [List.nil_append, List.filter_nil, List.append_nil] at ht2 he2
  have hm := hR2.len
  refine ⟨t2, s2, p2, ⟨hR2.code, hR2.len, hR2.met⟩, ?_, ?_, by simp only []; omega, h02, by omega⟩
  · rw [ht2]
    refine List.filter_congr fun x hx => ?_
    rw [decide_eq_decide]
    omega
  · simp only []
    rw [← ht2, hm] at he2
    rw [← Int.add_assoc, he2, show c + 1 - s2 = (c - s2) + 1 by omega, Int.add_mul]
    omega
/-- The signs left, in order, none twice, none left out. -/
def Left (xs : List Int) : Int → List Int → Prop
  | sg, [] => ∀ x ∈ xs, x < sg
  | sg, c :: r => sg ≤ c ∧ scB c = true ∧ (∀ x ∈ xs, ¬ (sg ≤ x ∧ x < c)) ∧ Left xs (c + 1) r
theorem Ou.fold {T0 pre xs : List Int} (hl : xs.length ≤ 100) : ∀ (ds : List Int) (sg : Int) (S : LS), Ou T0 pre xs sg S → Left xs sg ds → ∃ s0 p0, Rk T0 pre (ds.foldl (ouP xs) (S, sg)).1 xs s0 p0
  | [], sg, S, h, hd => by
    obtain ⟨t, s0, p0, hR, ht, he, hg, h0, h1⟩ := h
    have e : xs.filter (fun x => decide (x < sg)) = xs := List.filter_eq_self.2 fun x hx => by simpa using hd x hx
    rw [e] at ht
    subst ht
    exact ⟨s0, p0, hR⟩
  | c :: r, sg, S, h, hd => by
    obtain ⟨h1, h2, h3, h4⟩ := hd
    have h9 := Ou.fold hl r (c + 1) _ (h.step c h2 hl h1 h3) h4
    exact h9
theorem left_of {xs : List Int} (hs : ∀ x ∈ xs, scB x = true) : ∀ (ds : List Int) (sg : Int), ds.Pairwise (· < ·) → (∀ x, x ∈ ds ↔ x ∈ xs ∧ sg ≤ x) → Left xs sg ds
  | [], sg, _, hm => fun x hx => by
    have := hm x
    simp [hx] at this
    omega
  | c :: r, sg, hp, hm => by
    obtain ⟨hp1, hp2⟩ := List.pairwise_cons.1 hp
    have hc := (hm c).1 (by simp)
    refine ⟨hc.2, hs c hc.1, fun x hx h9 => ?_, left_of hs r (c + 1) hp2 fun x => ⟨fun hx => ?_, fun hx => ?_⟩⟩
    · rcases List.mem_cons.1 ((hm x).2 ⟨hx, h9.1⟩) with rfl | h8
      · omega
      · have := hp1 x h8; omega
    · have := hp1 x hx
      exact ⟨((hm x).1 (by simp [hx])).1, by omega⟩
    · rcases List.mem_cons.1 ((hm x).2 ⟨hx.1, by omega⟩) with rfl | h8
      · omega
      · exact h8
end Go.Proofs.Ytfhfhfadebcbfaa
namespace Go.Proofs.Ytfhfhfadebcbfaa
/-- No two alike side by side: what follows the sign p. -/
def ddP (p : Int) : List Int → List Int
  | [] => []
  | y :: r => if y = p then ddP p r else y :: ddP y r
def ddL : List Int → List Int
  | [] => []
  | y :: r => y :: ddP y r
theorem ddP_eq (ys : List Int) (k : Nat) (p y : Int) (hy : ys[k]? = some y) (h : y = p) : ddP p (ys.drop k) = ddP y (ys.drop (k + 1)) := by
  obtain ⟨hk, rfl⟩ := List.getElem?_eq_some_iff.1 hy
  rw [List.drop_eq_getElem_cons hk, ddP, if_pos h, h]
theorem ddP_ne (ys : List Int) (k : Nat) (p y : Int) (hy : ys[k]? = some y) (h : ¬ y = p) : ddP p (ys.drop k) = y :: ddP y (ys.drop (k + 1)) := by
  obtain ⟨hk, rfl⟩ := List.getElem?_eq_some_iff.1 hy
  rw [List.drop_eq_getElem_cons hk, ddP, if_neg h]
/-- A row in order, no two alike kept: in order, each once. -/
theorem ddP_sorted : ∀ (ys : List Int) (p : Int), (p :: ys).Pairwise (· ≤ ·) → (ddP p ys).Pairwise (· < ·) ∧ ∀ x, x ∈ ddP p ys ↔ x ∈ ys ∧ p < x
  | [], p, _ => by simp [ddP]
  | y :: r, p, h => by
    obtain ⟨h1, h2⟩ := List.pairwise_cons.1 h
    obtain ⟨h3, h4⟩ := List.pairwise_cons.1 h2
    have hpy := h1 y (by simp)
    rw [ddP]
    by_cases he : y = p
    · rw [if_pos he]
      subst he
      obtain ⟨g1, g2⟩ := ddP_sorted r y h2
      refine ⟨g1, fun x => ?_⟩
      rw [g2 x, List.mem_cons]
      constructor
      · rintro ⟨a, b⟩; exact ⟨.inr a, b⟩
      · rintro ⟨rfl | a, b⟩
        · omega
        · exact ⟨a, b⟩
    · rw [if_neg he]
      obtain ⟨g1, g2⟩ := ddP_sorted r y h2
      refine ⟨List.pairwise_cons.2 ⟨fun x hx => ((g2 x).1 hx).2, g1⟩, fun x => ?_⟩
      rw [List.mem_cons, g2 x, List.mem_cons]
      constructor
      · rintro (rfl | ⟨a, b⟩)
        · exact ⟨.inl rfl, by omega⟩
        · exact ⟨.inr a, by omega⟩
      · rintro ⟨rfl | a, b⟩
        · exact .inl rfl
        · have := h3 x a
          by_cases hx : x = y
          · exact .inl hx
          · exact .inr ⟨a, by omega⟩
theorem ddL_sorted (ys : List Int) (h : ys.Pairwise (· ≤ ·)) : (ddL ys).Pairwise (· < ·) ∧ ∀ x, x ∈ ddL ys ↔ x ∈ ys := by
  cases ys with
  | nil => simp [ddL]
  | cons y r =>
    obtain ⟨g1, g2⟩ := ddP_sorted r y h
    have h3 := (List.pairwise_cons.1 h).1
    refine ⟨List.pairwise_cons.2 ⟨fun x hx => ((g2 x).1 hx).2, g1⟩, fun x => ?_⟩
    rw [ddL, List.mem_cons, g2 x, List.mem_cons]
    constructor
    · rintro (rfl | ⟨a, b⟩)
      · exact .inl rfl
      · exact .inr a
    · rintro (rfl | a)
      · exact .inl rfl
      · by_cases hx : x = y
        · exact .inl hx
        · exact .inr ⟨a, by have := h3 x a; omega⟩
theorem ddP_len : ∀ (ys : List Int) (p : Int), (ddP p ys).length ≤ ys.length
  | [], _ => Nat.le_refl _
  | y :: r, p => by
    rw [ddP]
    split
    · have := ddP_len r p; simp only [List.length_cons]; omega
    · have := ddP_len r y; simp only [List.length_cons]; omega
theorem ddL_len (ys : List Int) : (ddL ys).length ≤ ys.length := by
  cases ys with
  | nil => exact Nat.le_refl _
  | cons y r => have := ddP_len r y; simp only [ddL, List.length_cons]; omega
/-- The signs that a text's laying goes through. -/
def sgP (xs : List Int) : List Int := (ddL (xs.mergeSort (fun x y => decide (x ≤ y)))).filter (fun c => !decide (c < 128))
theorem srt_pw (xs : List Int) : (xs.mergeSort (fun x y => decide (x ≤ y))).Pairwise (· ≤ ·) := by
  have h := List.pairwise_mergeSort (le := fun x y : Int => decide (x ≤ y)) (by intro a b c h1 h2; simp at h1 h2 ⊢; omega) (by intro a b; simp; omega) xs
  exact h.imp (by intro a b h; simpa using h)
theorem sgP_left (xs : List Int) (hs : ∀ x ∈ xs, scB x = true) : Left xs 128 (sgP xs) := by
  obtain ⟨h1, h2⟩ := ddL_sorted _ (srt_pw xs)
  refine left_of hs _ _ (h1.filter _) fun x => ?_
  unfold sgP
  rw [List.mem_filter, h2 x, List.mem_mergeSort]
  simp
/-- Where the mark is. -/
theorem lstF_no (s : List Int) : ∀ n, (∀ j, j < n → s[j]? ≠ some 45) → lstF s n = 0
  | 0, _ => rfl
  | n + 1, h => by
    rw [lstF, if_neg (h n (by omega))]
    exact lstF_no s n fun j hj => h j (by omega)
theorem lstF_at (s : List Int) (k : Nat) (hk : s[k]? = some 45) : ∀ n, k < n → (∀ j, k < j → j < n → s[j]? ≠ some 45) → lstF s n = k
  | 0, h, _ => by omega
  | n + 1, h, h2 => by
    rw [lstF]
    by_cases hn : n = k
    · subst hn; rw [if_pos hk]
    · rw [if_neg (h2 n (by omega) (by omega))]
      exact lstF_at s k hk n (by omega) fun j hj hj2 => h2 j hj (by omega)
/-- What is laid is read; its octets are below 128. -/
theorem back_P (xs : List Int) (hs : ∀ x ∈ xs, scB x = true) (hl : xs.length ≤ 100) :
    (layP xs (sgP xs)).2 = 0 ∧ pnR (layP xs (sgP xs)).1 = (xs, 0) ∧ (∀ c ∈ (layP xs (sgP xs)).1, 0 ≤ c ∧ c ≤ 127) ∧ (layP xs (sgP xs)).1.length ≤ 10000 := by
  have hall : allSc xs = true := List.all_eq_true.2 hs
  obtain ⟨T0, hT0⟩ : ∃ T0, plP xs = T0 := ⟨_, rfl⟩
  have hT0l : T0.length ≤ 100 := by rw [← hT0]; exact Nat.le_trans (List.length_filter_le _ _) hl
  have hT0r : ∀ c ∈ T0, 0 ≤ c ∧ c ≤ 127 := fun c hc => by
    rw [← hT0] at hc
    obtain ⟨h1, h2⟩ := List.mem_filter.1 hc
    have h3 := scB_iff.1 (hs c h1)
    simp at h2
    omega
  obtain ⟨pre, hpre⟩ : ∃ pre, T0 ++ (if T0.length = 0 then [] else [45]) = pre := ⟨_, rfl⟩
  have hst : Ou T0 pre xs 128 ⟨pre, 0, 72, T0.length, false⟩ := by
    refine ⟨T0, 128, 0, ⟨⟨[], 0, by simp, Nat.le_refl _, Nat.le_refl _, by simp, by simp, fun F rest => rfl⟩, rfl, rfl⟩, hT0.symm, by simp, by simp, by omega, by omega⟩
  obtain ⟨s0, p0, hR⟩ := Ou.fold hl (sgP xs) 128 _ hst (sgP_left xs hs)
  have hlay : layP xs (sgP xs) = (((sgP xs).foldl (ouP xs) (⟨pre, 0, 72, T0.length, false⟩, 128)).1.out, 0) := by
    unfold layP
    rw [if_neg (by omega), if_neg (by simp [hall]), hT0, hpre]
  generalize ((sgP xs).foldl (ouP xs) (⟨pre, 0, 72, T0.length, false⟩, 128)).1 = S at *
  obtain ⟨code, cnt, ho, hcl, hcu, hcm, hcd, hrd⟩ := hR.code
  have hm := hR.len
  have hprl : pre.length ≤ 101 := by
    rw [← hpre, List.length_append]
    split <;> simp <;> omega
  rw [hlay]
  have hout : S.out.length ≤ 10000 := by rw [ho, List.length_append]; omega
  have hcn : ∀ j : Nat, code[j]? ≠ some 45 := fun j h9 => by
    obtain ⟨hj, h8⟩ := List.getElem?_eq_some_iff.1 h9
    have h7 := hcd (code[j]) (List.getElem_mem hj)
    rw [h8] at h7
    omega
  have hread : rdP S.out.length T0 128 72 0 code = (xs, 0) := by
    have h9 := hrd (S.out.length - cnt) []
    rw [List.append_nil, show S.out.length - cnt + cnt = S.out.length by rw [ho, List.length_append]; omega, rdP_nil] at h9
    exact h9
  refine ⟨rfl, ?_, fun c hc => ?_, hout⟩
  · unfold pnR
    simp only []
    rw [if_neg (by omega)]
    by_cases hz : T0.length = 0
    · have hT : T0 = [] := List.length_eq_zero_iff.1 hz
      subst hT
      have hp : pre = [] := by rw [← hpre]; rfl
      rw [hp, List.nil_append] at ho
      have hk : lstP S.out = 0 := lstF_no _ _ fun j _ => by rw [ho]; exact hcn j
      rw [hk, if_neg (by simp), if_pos rfl, List.take_zero, hread.symm, ho]
    · have hp : pre = T0 ++ [45] := by rw [← hpre, if_neg hz]
      have ho2 : S.out = T0 ++ 45 :: code := by rw [ho, hp]; simp
      have hk : lstP S.out = T0.length := by
        refine lstF_at _ _ (by rw [ho2]; simp) _ (by rw [ho2]; simp) fun j hj _ => ?_
        rw [ho2, List.getElem?_append_right (by omega)]
        obtain ⟨i, hi⟩ : ∃ i, j - T0.length = i + 1 := ⟨j - T0.length - 1, by omega⟩
        rw [hi, List.getElem?_cons_succ]
        exact hcn i
      have htk : S.out.take T0.length = T0 := by rw [ho2, List.take_left]
      have hdr : S.out.drop (T0.length + 1) = code := by rw [ho2, ← List.drop_drop, List.drop_left]; rfl
      rw [hk, htk, if_neg (by
        rw [Bool.not_eq_true, List.any_eq_false]
        intro c hc
        have := hT0r c hc
        simp; omega), if_neg hz, hdr, hread]
  · rw [show (S.out, (0 : Int)).1 = S.out from rfl, ho] at hc
    rcases List.mem_append.1 hc with hc | hc
    · rw [← hpre] at hc
      rcases List.mem_append.1 hc with hc | hc
      · exact hT0r c hc
      · split at hc
        · simp at hc
        · simp at hc; omega
    · have := hcd c hc; omega
end Go.Proofs.Ytfhfhfadebcbfaa
