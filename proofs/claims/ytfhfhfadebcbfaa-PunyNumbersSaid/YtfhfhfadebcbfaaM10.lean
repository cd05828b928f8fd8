/- Plain: Punycode: a number's digits, a text laid. · Walks: Punycode's digits and their numbers. (laid together by program out of single texts). -/
import Derived.Test.YtfhfhfadebcbfaaM8
import Derived.Test.YtfhfhfadebcbfaaM9
namespace Go.Proofs.Ytfhfhfadebcbfaa
/-- A number's digits. -/
def numP (b : Int) : Nat → Int → Int → List Int
  | 0, n, _ => [dgtP n]
  | f + 1, n, k => if n < edgP k b then [dgtP n] else dgtP (edgP k b + (n - edgP k b) % (36 - edgP k b)) :: numP b f ((n - edgP k b) / (36 - edgP k b)) (k + 36)
/-- What is laid so far: the octets, the number that grows, the bias, how many signs, is one met. -/
structure LS where
  out : List Int
  g : Int
  b : Nat
  m : Nat
  z : Bool
/-- One sign of the text against one that is laid. -/
def inP (c : Int) (S : LS) (x : Int) : LS := if x < c then ⟨S.out, S.g + 1, S.b, S.m, S.z⟩ else if x = c then ⟨S.out ++ numP S.b (S.g.toNat + 1) S.g 36, 0, adpP S.g ((S.m : Int) + 1) (!S.z), S.m + 1, true⟩ else S
/-- One sign laid. -/
def ouP (xs : List Int) (T : LS × Int) (c : Int) : LS × Int :=
  let S2 := xs.foldl (inP c) ⟨T.1.out, T.1.g + (c - T.2) * ((T.1.m : Int) + 1), T.1.b, T.1.m, T.1.z⟩
  (⟨S2.out, S2.g + 1, S2.b, S2.m, S2.z⟩, c + 1)
def plP (xs : List Int) : List Int := xs.filter (fun c => decide (c < 128))
/-- A text laid, its other signs in order given. -/
def layP (xs ys : List Int) : List Int × Int :=
  if 1000 < xs.length then ([], 12) else if allSc xs = false then ([], 7)
  else ((ys.foldl (ouP xs) (⟨plP xs ++ (if (plP xs).length = 0 then [] else [45]), 0, 72, (plP xs).length, false⟩, 128)).1.out, 0)
/-- Down to its place. -/
def bub : Nat → List Int → List Int
  | 0, xs => xs
  | j + 1, xs => if xs.getD (j + 1) 0 < xs.getD j 0 then bub j ((xs.set (j + 1) (xs.getD j 0)).set j (xs.getD (j + 1) 0)) else xs
theorem bub_len : ∀ (j : Nat) (xs : List Int), (bub j xs).length = xs.length
  | 0, _ => rfl
  | j + 1, xs => by
    rw [bub]
    split
    · rw [bub_len]; simp
    · rfl
def isrP : Nat → Nat → List Int → List Int
  | 0, _, xs => xs
  | f + 1, i, xs => isrP f (i + 1) (bub i xs)
end Go.Proofs.Ytfhfhfadebcbfaa
namespace Go.Proofs.Ytfhfhfadebcbfaa
open Go.RowKit
set_option maxHeartbeats 2000000
set_option maxRecDepth 100000
def dgTab : ByteArray := ⟨#[97, 98, 99, 100, 101, 102, 103, 104, 105, 106, 107, 108, 109, 110, 111, 112, 113, 114, 115, 116, 117, 118, 119, 120, 121, 122, 48, 49, 50, 51, 52, 53, 54, 55, 56, 57]⟩
theorem dgTab_size : dgTab.size = 36 := by decide
theorem dgTab_at : ∀ n : Fin 36, (((dgTab[n.val]'(by rw [dgTab_size]; exact n.2)).toNat : Nat) : Int) = if (n.val : Int) < 26 then 97 + (n.val : Int) else 22 + (n.val : Int) := by decide +kernel
theorem digit_any (n : Int) (w : World) :
    Calls Try.prog 14 #[.int .i64 n] w fun e w' => e = .returned (.int .u8 (dgtP n)) ∧ w' = w := by
  unfold dgtP
  by_cases h0 : n < 0
  · rw [if_pos (.inl h0)]
    go_enter Try.func14, Try.ntmps14
    go_wp2
    go_ret
    exact ⟨rfl, rfl⟩
  by_cases h1 : 36 ≤ n
  · rw [if_pos (.inr h1)]
    go_enter Try.func14, Try.ntmps14
    go_wp2
    go_ret
    exact ⟨rfl, rfl⟩
  rw [if_neg (by omega)]
  obtain ⟨N, rfl⟩ : ∃ N : Nat, n = (N : Int) := ⟨n.toNat, by omega⟩
  go_enter Try.func14, Try.ntmps14
  have k := dgTab_at ⟨N, by omega⟩
  go_wp2
  case inl =>
    rw [if_pos (by assumption)] at k
    go_ret
    exact ⟨ret_int k, rfl⟩
  case inr =>
    rw [if_neg (by omega)] at k
    go_ret
    exact ⟨ret_int k, rfl⟩
theorem dgtP_val : ∀ (n : Fin 36) (c : Fin 256), dgtP (n.val : Int) = lowC (c.val : Int) → valP (c.val : Int) = ((n.val : Int), true) := by decide +kernel
theorem dgtP_no : ∀ c : Fin 256, (∀ n : Fin 36, dgtP (n.val : Int) ≠ lowC (c.val : Int)) → valP (c.val : Int) = (0, false) := by decide +kernel
theorem dgtP_byte (n : Int) : 0 ≤ dgtP n ∧ dgtP n < 256 := by
  unfold dgtP
  split
  · omega
  · split <;> omega
theorem r41low_any (c : Int) (w : World) (_h0 : 0 ≤ c) (_h1 : c < 256) :
    Calls Try.prog 32 #[.int .u8 c] w fun e w' => e = .returned (.int .u8 (lowC c)) ∧ w' = w := by
  unfold lowC
  by_cases h : 65 ≤ c ∧ c ≤ 90
  · rw [if_pos h]
    obtain ⟨ha, hb⟩ := h
    have hw : IntKind.u8.wrap (c + 32) = c + 32 := IntWalk.u8_in _ (by omega)
    go_enter Try.func32, Try.ntmps32
    go_wp2
    go_ret
    first | exact ⟨rfl, rfl⟩ | exact ⟨congrArg Ending.returned (congrArg (Value.int .u8) hw), rfl⟩
  · rw [if_neg h]
    by_cases ha : 65 ≤ c
    · have hb : 90 < c := by omega
      clear h
      go_enter Try.func32, Try.ntmps32
      go_wp2
      go_ret
      exact ⟨rfl, rfl⟩
    · have hb : c < 65 := by omega
      clear h ha
      go_enter Try.func32, Try.ntmps32
      go_wp2
      go_ret
      exact ⟨rfl, rfl⟩
theorem rvalue_any (c : Int) (w : World) (h0 : 0 ≤ c) (h1 : c < 256) :
    Calls Try.prog 13 #[.int .u8 c] w fun e w' => e = .returned (.tuple #[.int .i64 (valP c).1, .bool (valP c).2]) ∧ w' = w := by
  have hy : ∀ n : Nat, n < 36 → dgtP (n : Int) = lowC c → valP c = ((n : Int), true) := fun n hn he => by
    have := dgtP_val ⟨n, hn⟩ ⟨c.toNat, by omega⟩
    simp only [Int.toNat_of_nonneg h0] at this
    exact this he
  have hno : (∀ n : Nat, n < 36 → dgtP (n : Int) ≠ lowC c) → valP c = (0, false) := fun he => by
    have := dgtP_no ⟨c.toNat, by omega⟩
    simp only [Int.toNat_of_nonneg h0] at this
    exact this (fun n => he n.val n.2)
  have hl := fun w => r41low_any c w h0 h1
  obtain ⟨V, hV⟩ : ∃ V, valP c = V := ⟨_, rfl⟩
  rw [hV] at hy hno ⊢
  generalize lowC c = L at *
  have HY := Lib.hid hy; have HN := Lib.hid hno; have HL := Lib.hid hl
  clear hy hno hl hV
  go_enter Try.func13, Try.ntmps13
  go_wp2
  go_loopw [4] (fun nv wr => ∃ n : Nat, nv = .int .i64 n ∧ n ≤ 36 ∧ Hid (∀ m : Nat, m < n → dgtP (m : Int) ≠ L) ∧ wr = w) (fun nv _ => 36 - (intOf nv).toNat)
  case atStart => exact ⟨0, rfl, by omega, (fun m hm => by omega), rfl⟩
  case round =>
    obtain ⟨n, rfl, hn, HM, hw⟩ := hrel
    obtain rfl := hw.symm
    by_cases hlt : (n : Int) < 36
    · have hd := fun w => rdigit_any (n : Int) w
      by_cases he : dgtP (n : Int) = L
      · have hv := HY.out n (by omega) he
        obtain rfl : V = ((n : Int), true) := hv
        rw [he] at hd
        have HD := Lib.hid hd
        clear hd he
        go_wp2_with (first | (go_at_call 15; refine (HD.out _).mono ?_; rintro e w' ⟨rfl, hw⟩; obtain rfl := hw.symm) | (go_at_call 32; refine (HL.out _).mono ?_; rintro e w' ⟨rfl, hw⟩; obtain rfl := hw.symm))
        go_ret2
        exact ⟨rfl, rfl⟩
      · have HM2 : Hid (∀ m : Nat, m < n + 1 → dgtP (m : Int) ≠ L) := fun m hm => by
          rcases (by omega : m < n ∨ m = n) with h9 | rfl
          · exact HM.out m h9
          · exact he
        obtain ⟨D, hD⟩ : ∃ D, dgtP (n : Int) = D := ⟨_, rfl⟩
        rw [hD] at he hd
        have heb : (D == L) = false := beq_false_of_ne he
        have HD := Lib.hid hd
        clear hd he hD
        go_wp2_with (first | (go_at_call 15; refine (HD.out _).mono ?_; rintro e w' ⟨rfl, hw⟩; obtain rfl := hw.symm) | (go_at_call 32; refine (HL.out _).mono ?_; rintro e w' ⟨rfl, hw⟩; obtain rfl := hw.symm))
        go_roundw
        case rel => exact ⟨n + 1, by go_num, by omega, HM2.out, by first | rfl | trivial⟩
        case measure => simp [intOf]; omega
    · obtain rfl : n = 36 := by omega
      obtain rfl : V = (0, false) := HN.out HM.out
      go_wp2
      go_ret2
      exact ⟨rfl, rfl⟩
end Go.Proofs.Ytfhfhfadebcbfaa
