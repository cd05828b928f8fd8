/- Plain definitions and laws: scalar values, searches. No program in sight. · Plain definitions and laws: UTF-16. · Plain laws on bits. · Plain definitions and laws: windows-1252. · Plain: repertoires. · Plain definitions and laws: UTF-8, one sign. · Plain laws: UTF-8, one sign, there and back. · Plain definitions and laws: UTF-8, texts. · Plain: how many numbers the charsets have. (laid together by program out of single texts). -/
import Derived.WalkKit
namespace Go.Proofs.YtponfaglflmnkaaGreat

def surB (c : Int) : Bool := decide (55296 ≤ c ∧ c ≤ 57343)
def scB (c : Int) : Bool := decide (0 ≤ c ∧ c ≤ 1114111 ∧ ¬ (55296 ≤ c ∧ c ≤ 57343))
theorem surB_iff {c : Int} : surB c = true ↔ (55296 ≤ c ∧ c ≤ 57343) := decide_eq_true_iff
theorem scB_iff {c : Int} : scB c = true ↔ (0 ≤ c ∧ c ≤ 1114111 ∧ ¬ (55296 ≤ c ∧ c ≤ 57343)) := decide_eq_true_iff

/-- The place of the first that p takes, or -1. -/
def idx (p : Int → Bool) (xs : List Int) : Int := match xs.findIdx? p with | some i => i | none => -1
theorem idx_at {p : Int → Bool} {xs : List Int} {k : Nat} {x : Int} (h : ∀ y ∈ xs.take k, p y = false) (hx : xs[k]? = some x) (hp : p x = true) : idx p xs = k := by
  obtain ⟨hk, rfl⟩ := List.getElem?_eq_some_iff.1 hx
  have : xs.findIdx? p = some k := by
    rw [List.findIdx?_eq_some_iff_getElem]
    refine ⟨hk, hp, fun j hj => ?_⟩
    have := h xs[j] (by rw [List.mem_iff_getElem]; exact ⟨j, by simp; omega, by simp⟩)
    simp [this]
  simp [idx, this]
theorem idx_none {p : Int → Bool} {xs : List Int} (h : ∀ y ∈ xs, p y = false) : idx p xs = -1 := by
  have : xs.findIdx? p = none := by rw [List.findIdx?_eq_none_iff]; exact h
  simp [idx, this]
theorem take_succ_all {q : Int → Prop} {xs : List Int} {k : Nat} {x : Int} (h : ∀ y ∈ xs.take k, q y) (hx : xs[k]? = some x) (hq : q x) : ∀ y ∈ xs.take (k + 1), q y := by
  intro y hy
  rw [List.take_add_one, hx] at hy
  rcases List.mem_append.1 hy with hy | hy
  · exact h y hy
  · simp at hy; subst hy; exact hq

end Go.Proofs.YtponfaglflmnkaaGreat
namespace Go.Proofs.YtponfaglflmnkaaGreat
def Rg (a b : Int) (xs : List Int) : Prop := ∀ x ∈ xs, a ≤ x ∧ x < b
theorem Rg.nil (a b : Int) : Rg a b [] := fun x hx => by simp at hx
theorem Rg.cons {a b : Int} {x : Int} {xs : List Int} (h : Rg a b (x :: xs)) : (a ≤ x ∧ x < b) ∧ Rg a b xs := ⟨h x (by simp), fun y hy => h y (by simp [hy])⟩
theorem Rg.drop {a b : Int} {xs : List Int} (h : Rg a b xs) (n : Nat) : Rg a b (xs.drop n) := fun x hx => h x (List.mem_of_mem_drop hx)
theorem Rg.take {a b : Int} {xs : List Int} (h : Rg a b xs) (n : Nat) : Rg a b (xs.take n) := fun x hx => h x (List.mem_of_mem_take hx)
theorem Rg.get {a b : Int} {xs : List Int} (h : Rg a b xs) {i : Nat} {x : Int} (hx : xs[i]? = some x) : a ≤ x ∧ x < b := h x (List.mem_of_getElem? hx)
theorem Rg.append {a b : Int} {xs ys : List Int} (h : Rg a b xs) (h' : Rg a b ys) : Rg a b (xs ++ ys) := fun x hx => (List.mem_append.1 hx).elim (h x) (h' x)

/-- Strictly: the text, if there is no error. -/
def strictL (q : Int) (t : List Int) : List Int := if q = 0 then t else []
/-- The first error of some. -/
def ferr (es : List Int) : Int := (es.find? (· != 0)).getD 0
theorem ferr_nil : ferr [] = 0 := rfl
theorem ferr_zero {es : List Int} (h : ferr es = 0) : ∀ e ∈ es, e = 0 := by
  unfold ferr at h
  intro e he
  cases hf : es.find? (· != 0) with
  | none => simpa using List.find?_eq_none.1 hf e he
  | some y =>
    rw [hf] at h
    have := List.find?_some hf
    simp at h; subst h; simp at this
theorem ferr_snoc (es : List Int) (e : Int) : ferr (es ++ [e]) = if ferr es = 0 then e else ferr es := by
  split
  · rename_i h
    have h0 := ferr_zero h
    have : es.find? (· != 0) = none := by rw [List.find?_eq_none]; intro x hx; simp [h0 x hx]
    by_cases he : e = 0
    · simp [ferr, List.find?_append, this, he]
    · have hb : (e != 0) = true := by simp [he]
      simp [ferr, List.find?_append, this, hb]
  · rename_i h
    cases hf : es.find? (· != 0) with
    | none => simp [ferr, hf] at h
    | some y => simp [ferr, List.find?_append, hf]
theorem ferr_all {es : List Int} (h : ∀ e ∈ es, e = 0) : ferr es = 0 := by
  have : es.find? (· != 0) = none := by rw [List.find?_eq_none]; intro x hx; simp [h x hx]
  simp [ferr, this]

def hiB (u : Int) : Bool := decide (55296 ≤ u ∧ u ≤ 56319)
def loB (u : Int) : Bool := decide (56320 ≤ u ∧ u ≤ 57343)
theorem hiB_iff {u : Int} : hiB u = true ↔ (55296 ≤ u ∧ u ≤ 56319) := decide_eq_true_iff
theorem loB_iff {u : Int} : loB u = true ↔ (56320 ≤ u ∧ u ≤ 57343) := decide_eq_true_iff
def uof (c : Int) : List Int := if scB c then (if c < 65536 then [c] else [55296 + (c - 65536) / 1024, 56320 + (c - 65536) % 1024]) else []

/-- The first sign, of how many units, and its error. -/
def uone (x : Int) (r : List Int) : Int × Int × Int :=
  if loB x then (65533, 1, 3) else if hiB x then
    (match r with
      | [] => (65533, 1, 4)
      | y :: _ => if loB y then (65536 + ((x - 55296) * 1024 + (y - 56320)), 2, 0) else (65533, 1, 3))
  else (x, 1, 0)
/-- The signs and their errors. -/
def uread : List Int → List (Int × Int)
  | [] => []
  | x :: r => ((uone x r).1, (uone x r).2.2) :: uread ((x :: r).drop (uone x r).2.1.toNat)
termination_by xs => xs.length
decreasing_by
  have : 1 ≤ (uone x r).2.1 := by
    unfold uone
    split
    · simp
    · split
      · split
        · simp
        · split <;> simp
      · simp
  simp only [List.length_drop, List.length_cons]; omega
theorem uone_n (x : Int) (r : List Int) : (uone x r).2.1 = 1 ∨ ((uone x r).2.1 = 2 ∧ r ≠ []) := by
  unfold uone
  split
  · simp
  · split
    · split
      · simp
      · split <;> simp
    · simp

theorem uread_nil : uread [] = [] := by rw [uread]
theorem uread_cons (x : Int) (r : List Int) : uread (x :: r) = ((uone x r).1, (uone x r).2.2) :: uread ((x :: r).drop (uone x r).2.1.toNat) := by rw [uread]
theorem uone_rng {x : Int} {r : List Int} (h : Rg 0 65536 (x :: r)) : 0 ≤ (uone x r).1 ∧ (uone x r).1 ≤ 1114111 := by
  obtain ⟨hx, hr⟩ := h.cons
  unfold uone
  split
  · simp
  · split
    · rename_i h1
      have h1 := hiB_iff.1 h1
      split
      · simp
      · split
        · rename_i h2
          have h2 := loB_iff.1 h2
          simp only []; omega
        · simp
    · simp only []; omega

theorem hiB_not_lo {x : Int} (h : loB x = true) : hiB x = false := by
  have h1 := loB_iff.1 h
  have : ¬ hiB x = true := fun h2 => by have := hiB_iff.1 h2; omega
  simpa using this
theorem uread_lo {x : Int} (r : List Int) (h : loB x = true) : uread (x :: r) = (65533, 3) :: uread r := by
  rw [uread_cons]; simp [uone, h]
theorem uread_bmp {x : Int} (r : List Int) (h : loB x = false) (h' : hiB x = false) : uread (x :: r) = (x, 0) :: uread r := by
  rw [uread_cons]; simp [uone, h, h']
theorem uread_end {x : Int} (h : loB x = false) (h' : hiB x = true) : uread [x] = (65533, 4) :: uread [] := by
  rw [uread_cons]; simp [uone, h, h']
theorem uread_pair {x y : Int} (r : List Int) (h : loB x = false) (h' : hiB x = true) (hy : loB y = true) : uread (x :: y :: r) = (65536 + ((x - 55296) * 1024 + (y - 56320)), 0) :: uread r := by
  rw [uread_cons]; simp [uone, h, h', hy]
theorem uread_bad {x y : Int} (r : List Int) (h : loB x = false) (h' : hiB x = true) (hy : loB y = false) : uread (x :: y :: r) = (65533, 3) :: uread (y :: r) := by
  rw [uread_cons]; simp [uone, h, h', hy]
end Go.Proofs.YtponfaglflmnkaaGreat
namespace Go.Proofs.YtponfaglflmnkaaGreat
/-- n & (the bits from m on, below m + j). -/
theorem nat_and_high (n m j : Nat) : n &&& ((2 ^ j - 1) * 2 ^ m) = n / 2 ^ m % 2 ^ j * 2 ^ m := by
  have h1 : (n &&& ((2 ^ j - 1) * 2 ^ m)) % 2 ^ m = 0 := by rw [Nat.and_mod_two_pow, Nat.mul_mod_left, Nat.and_zero]
  have h2 : (n &&& ((2 ^ j - 1) * 2 ^ m)) / 2 ^ m = n / 2 ^ m % 2 ^ j := by
    rw [Nat.and_div_two_pow, Nat.mul_div_cancel _ (Nat.two_pow_pos m), Nat.and_two_pow_sub_one_eq_mod]
  have h3 := Nat.div_add_mod (n &&& ((2 ^ j - 1) * 2 ^ m)) (2 ^ m)
  rw [h1, h2, Nat.add_zero] at h3
  rw [← h3, Nat.mul_comm]
theorem u16_and_fc00 (u : Int) (h0 : 0 ≤ u) (h1 : u < 65536) : bits .and .u16 u 64512 = u / 1024 * 1024 := by
  rw [u16_and u 64512 h0 h1 (by omega) (by omega), show ((64512 : Int).toNat) = (2 ^ 6 - 1) * 2 ^ 10 from rfl, nat_and_high]
  show ((u.toNat / 1024 % 64 * 1024 : Nat) : Int) = _
  omega
theorem i32_mask10 (x : Int) (h0 : 0 ≤ x) (h1 : x < 2147483648) : bits .and .i32 x 1023 = x % 1024 := bits_mask .i32 31 (by decide) wraps_i32 10 (by decide) x h0 h1
theorem i32_join10 (x y : Int) (hx0 : 0 ≤ x) (hx : x % 1024 = 0) (hx1 : x < 2147483648) (hy0 : 0 ≤ y) (hy : y < 1024) : bits .or .i32 x y = x + y := bits_join .i32 31 (by decide) wraps_i32 10 x y hx0 hx hx1 hy0 hy (by omega)
theorem u16_join8 (x y : Int) (hx0 : 0 ≤ x) (hx : x % 256 = 0) (hx1 : x < 65536) (hy0 : 0 ≤ y) (hy : y < 256) : bits .or .u16 x y = x + y := bits_join .u16 16 (by decide) (fun n h0 h1 => IntWalk.u16_in n (by omega)) 8 x y hx0 hx hx1 hy0 hy (by omega)
theorem i32_join6 (x y : Int) (hx0 : 0 ≤ x) (hx : x % 64 = 0) (hx1 : x < 2147483648) (hy0 : 0 ≤ y) (hy : y < 64) : bits .or .i32 x y = x + y := bits_join .i32 31 (by decide) wraps_i32 6 x y hx0 hx hx1 hy0 hy (by omega)
end Go.Proofs.YtponfaglflmnkaaGreat
namespace Go.Proofs.YtponfaglflmnkaaGreat
def othersL : List Int := [8364, 0, 8218, 402, 8222, 8230, 8224, 8225, 710, 8240, 352, 8249, 338, 0, 381, 0, 0, 8216, 8217, 8220, 8221, 8226, 8211, 8212, 732, 8482, 353, 8250, 339, 0, 382, 376]
def othersR : List Int := [8364, 65533, 8218, 402, 8222, 8230, 8224, 8225, 710, 8240, 352, 8249, 338, 65533, 381, 65533, 65533, 8216, 8217, 8220, 8221, 8226, 8211, 8212, 732, 8482, 353, 8250, 339, 65533, 382, 376]
def wsign (x : Int) : Int := if x < 128 ∨ 160 ≤ x then x else othersR.getD (x - 128).toNat 0
def wput (c : Int) : Int × Bool :=
  if (0 ≤ c ∧ c < 128) ∨ (160 ≤ c ∧ c < 256) then (c, true) else if c < 256 then (0, false)
  else if idx (fun y => c == y) othersL < 0 then (0, false) else (128 + idx (fun y => c == y) othersL, true)
theorem others_sign : ∀ i : Fin 32, othersR.getD i.val 0 = if othersL.getD i.val 0 = 0 then 65533 else othersL.getD i.val 0 := by decide
theorem wput_sign : ∀ n : Fin 256, wsign n.val = 65533 ∨ wput (wsign n.val) = ((n.val : Int), true) := by decide +kernel
theorem idx_spec (p : Int → Bool) (xs : List Int) : idx p xs = -1 ∨ ∃ (i : Nat) (x : Int), idx p xs = i ∧ xs[i]? = some x ∧ p x = true := by
  unfold idx
  cases h : xs.findIdx? p with
  | none => exact .inl rfl
  | some i =>
    obtain ⟨hi, hp, _⟩ := List.findIdx?_eq_some_iff_getElem.1 h
    exact .inr ⟨i, xs[i], rfl, List.getElem?_eq_getElem hi, hp⟩
theorem othersL_mem : ∀ x ∈ othersL, x ≠ 65533 := by decide
/-- What is put has just that sign. -/
theorem wput_true {c : Int} (h : (wput c).2 = true) : 0 ≤ (wput c).1 ∧ (wput c).1 < 256 ∧ wsign (wput c).1 = c ∧ c ≠ 65533 := by
  unfold wput at h ⊢
  split
  · rename_i h1
    simp only [wsign]
    rw [if_pos (by omega)]
    omega
  · rename_i h1
    rw [if_neg h1] at h
    split at h
    · simp at h
    · rename_i h2
      split at h
      · simp at h
      · rename_i h3
        rw [if_neg h2, if_neg h3]
        rcases idx_spec (fun y => c == y) othersL with h4 | ⟨i, x, h4, h5, h6⟩
        · omega
        · obtain rfl : c = x := by simpa using h6
          have hi : i < 32 := (List.getElem?_eq_some_iff.1 h5).1
          have hm := othersL_mem c (List.mem_of_getElem? h5)
          have hs := others_sign ⟨i, hi⟩
          simp only [List.getD, h5, Option.getD_some] at hs
          rw [if_neg (by omega : ¬ c = 0)] at hs
          rw [h4]
          refine ⟨by simp only []; omega, by simp only []; omega, ?_, hm⟩
          simp only [wsign]
          rw [if_neg (by omega), show (128 + (i : Int) - 128).toNat = i by omega]
          exact hs
theorem wput_false {c : Int} (h : (wput c).2 = false) : (wput c).1 = 0 := by
  unfold wput at h ⊢
  split
  · rename_i h1; rw [if_pos h1] at h; cases h
  · split
    · rfl
    · split
      · rfl
      · rename_i h1 h2 h3; rw [if_neg h1, if_neg h2, if_neg h3] at h; cases h
theorem wput_found {c : Int} {n : Nat} (hn : n < 256) (h : wsign n = c) (hc : c ≠ 65533) : wput c = ((n : Int), true) := by
  rcases wput_sign ⟨n, hn⟩ with h1 | h1
  · simp only [] at h1; rw [h] at h1; exact absurd h1 hc
  · simp only [] at h1; rw [h] at h1; exact h1
theorem wput_none {c : Int} (h : ∀ n : Nat, n < 256 → wsign n ≠ c ∨ c = 65533) : wput c = (0, false) := by
  cases h2 : (wput c).2 with
  | true =>
    obtain ⟨h3, h4, h5, h6⟩ := wput_true h2
    rcases h (wput c).1.toNat (by omega) with h7 | h7
    · rw [Int.toNat_of_nonneg h3] at h7; exact absurd h5 h7
    · exact absurd h7 h6
  | false => exact Prod.ext (wput_false h2) h2
end Go.Proofs.YtponfaglflmnkaaGreat
namespace Go.Proofs.YtponfaglflmnkaaGreat
/-- latin nine: its octets and signs that part from latin one's. -/
def nineO : List Int := [164, 166, 168, 180, 184, 188, 189, 190]
def nineS : List Int := [8364, 352, 353, 381, 382, 338, 339, 376]
def sign9 (x : Int) : Int :=
  if x = 164 then 8364 else if x = 166 then 352 else if x = 168 then 353 else if x = 180 then 381 else if x = 184 then 382 else if x = 188 then 338 else if x = 189 then 339 else if x = 190 then 376 else x
def nineB (c : Int) : Bool := nineS.contains c || (decide (0 ≤ c ∧ c < 256) && !nineO.contains c)
theorem nine_sign : ∀ n : Fin 256, nineB (sign9 n.val) = true ∧ sign9 n.val ≠ 65533 := by decide +kernel
theorem nine_of : ∀ n : Fin 256, nineO.contains (n.val : Int) = true ∨ sign9 n.val = n.val := by decide +kernel
theorem nine_back {c : Int} (h : nineB c = true) : ∃ n : Nat, n < 256 ∧ sign9 n = c := by
  rw [nineB] at h
  rcases Bool.or_eq_true _ _ |>.mp h with h1 | h1
  · have h2 := List.contains_iff_mem.1 h1
    simp only [nineS, List.mem_cons, List.not_mem_nil, or_false] at h2
    rcases h2 with rfl | rfl | rfl | rfl | rfl | rfl | rfl | rfl
    · exact ⟨164, by omega, by decide⟩
    · exact ⟨166, by omega, by decide⟩
    · exact ⟨168, by omega, by decide⟩
    · exact ⟨180, by omega, by decide⟩
    · exact ⟨184, by omega, by decide⟩
    · exact ⟨188, by omega, by decide⟩
    · exact ⟨189, by omega, by decide⟩
    · exact ⟨190, by omega, by decide⟩
  · obtain ⟨h2, h3⟩ := Bool.and_eq_true _ _ |>.mp h1
    have h4 := of_decide_eq_true h2
    obtain ⟨n, rfl⟩ : ∃ n : Nat, c = n := ⟨c.toNat, by omega⟩
    have h5 := nine_of ⟨n, by omega⟩
    rcases h5 with h5 | h5
    · have h6 : nineO.contains (n : Int) = true := h5
      rw [h6] at h3; cases h3
    · exact ⟨n, by omega, h5⟩
theorem nine_none {c : Int} (h : ∀ n : Nat, n < 256 → sign9 n ≠ c) : nineB c = false := by
  cases hb : nineB c with
  | false => rfl
  | true => obtain ⟨n, h1, h2⟩ := nine_back hb; exact absurd h2 (h n h1)
def oneB (c : Int) : Bool := decide (0 ≤ c ∧ c < 256)
/-- Has a charset a number? -/
def hasB (n c : Int) : Bool :=
  if n = 1 then decide (0 ≤ c ∧ c < 128) else if n = 2 then oneB c else if n = 3 then nineB c else if n = 4 then (wput c).2 else if n = 5 then scB c else false
theorem hasB_not {n : Int} (c : Int) (h : ¬ (1 ≤ n ∧ n ≤ 5)) : hasB n c = false := by
  rw [hasB, if_neg (by omega), if_neg (by omega), if_neg (by omega), if_neg (by omega), if_neg (by omega)]
/-- Five answers as one number. -/
def enc (f : Int → Bool) : Int := (if f 1 then 2 else 0) + (if f 2 then 4 else 0) + (if f 3 then 8 else 0) + (if f 4 then 16 else 0) + (if f 5 then 32 else 0)
def enc5 (a b c d e : Bool) : Int := (if a then 2 else 0) + (if b then 4 else 0) + (if c then 8 else 0) + (if d then 16 else 0) + (if e then 32 else 0)
theorem enc_eq (f : Int → Bool) : enc f = enc5 (f 1) (f 2) (f 3) (f 4) (f 5) := rfl
theorem enc5_and : ∀ a b c d e a' b' c' d' e' : Bool, bits .and .i64 (enc5 a b c d e) (enc5 a' b' c' d' e') = enc5 (a && a') (b && b') (c && c') (d && d') (e && e') := by decide +kernel
theorem enc_and (f g : Int → Bool) : bits .and .i64 (enc f) (enc g) = enc fun n => f n && g n := by rw [enc_eq, enc_eq, enc_eq]; exact enc5_and _ _ _ _ _ _ _ _ _ _
theorem enc_rng (f : Int → Bool) : 0 ≤ enc f ∧ enc f ≤ 62 := by unfold enc; constructor <;> (repeat' split) <;> omega
/-- The first of them. -/
def low5 (a b c d e : Bool) : Int := if a then 1 else if b then 2 else if c then 3 else if d then 4 else if e then 5 else 0
def lowL (f : Int → Bool) : Int := low5 (f 1) (f 2) (f 3) (f 4) (f 5)
def noneL (f : Int → Bool) : Int := if lowL f = 0 then 7 else 0
theorem enc5_zero : ∀ a b c d e : Bool, (enc5 a b c d e == 0) = (low5 a b c d e == 0) := by decide
theorem low_rng (f : Int → Bool) : 0 ≤ lowL f ∧ lowL f ≤ 5 := by unfold lowL low5; constructor <;> (repeat' split) <;> omega
theorem low_at {f : Int → Bool} (h : lowL f ≠ 0) : f (lowL f) = true := by
  unfold lowL low5 at *
  repeat' split
  all_goals first | assumption | (exfalso; simp_all)
theorem low_least {f : Int → Bool} {k : Int} (h1 : 1 ≤ k) (h2 : k < lowL f) : f k = false := by
  have h5 := (low_rng f).2
  have h3 : k = 1 ∨ k = 2 ∨ k = 3 ∨ k = 4 := by omega
  unfold lowL low5 at h2
  rcases h3 with rfl | rfl | rfl | rfl
  all_goals
    cases hk : f _ with
    | false => rfl
    | true =>
      exfalso
      rw [hk] at h2
      revert h2
      repeat' split
      all_goals (intro h2; first | omega | simp_all)
theorem low_pos {f : Int → Bool} {k : Int} (h1 : 1 ≤ k) (h2 : k ≤ 5) (h : f k = true) : 1 ≤ lowL f ∧ lowL f ≤ k := by
  have h3 := (low_rng f).1
  have hne : lowL f ≠ 0 := by
    intro h0
    unfold lowL low5 at h0
    have h4 : k = 1 ∨ k = 2 ∨ k = 3 ∨ k = 4 ∨ k = 5 := by omega
    revert h0
    rcases h4 with rfl | rfl | rfl | rfl | rfl <;> rw [h] <;> (repeat' split) <;> (intro h0; first | omega | simp_all)
  refine ⟨by omega, ?_⟩
  rcases Int.lt_or_le k (lowL f) with hlt | hle
  · have := low_least h1 hlt
    rw [h] at this; cases this
  · exact hle
def cnt (n : Int) (k : Nat) : Nat := ((List.range k).filter fun c : Nat => hasB n (c : Int)).length
theorem cnt_succ (n : Int) (k : Nat) : cnt n (k + 1) = cnt n k + (if hasB n (k : Int) then 1 else 0) := by
  rw [cnt, cnt, List.range_succ, List.filter_append, List.length_append]
  congr 1
  cases h : hasB n (k : Int) <;> simp [h]
theorem cnt_le (n : Int) (k : Nat) : cnt n k ≤ k := by
  have := List.length_filter_le (fun c : Nat => hasB n (c : Int)) (List.range k)
  rw [List.length_range] at this; exact this
def sizeL (n : Int) : Int := if n = 5 then 1112064 else if n = 1 then 128 else if n = 2 then 256 else if n = 3 then 256 else if n = 4 then 251 else 0
theorem cnt_no {n : Int} (h : ¬ (1 ≤ n ∧ n ≤ 5)) (k : Nat) : cnt n k = 0 := by
  rw [cnt, List.length_eq_zero_iff, List.filter_eq_nil_iff]
  intro c _; rw [hasB_not _ h]; simp
end Go.Proofs.YtponfaglflmnkaaGreat
namespace Go.Proofs.YtponfaglflmnkaaGreat
def wideI (x : Int) : Int := if x < 128 then 1 else if 194 ≤ x ∧ x ≤ 223 then 2 else if 224 ≤ x ∧ x ≤ 239 then 3 else if 240 ≤ x ∧ x ≤ 244 then 4 else 0
def folB (x : Int) : Bool := decide (128 ≤ x ∧ x ≤ 191)
theorem folB_iff {x : Int} : folB x = true ↔ (128 ≤ x ∧ x ≤ 191) := decide_eq_true_iff
def loI (a : Int) : Int := if a = 224 then 160 else if a = 240 then 144 else 128
def hiI (a : Int) : Int := if a = 237 then 159 else if a = 244 then 143 else 191
def secB (a y : Int) : Bool := decide (loI a ≤ y ∧ y ≤ hiI a)
theorem secB_iff {a y : Int} : secB a y = true ↔ (loI a ≤ y ∧ y ≤ hiI a) := decide_eq_true_iff
def ulenI (c : Int) : Int := if scB c then (if c < 128 then 1 else if c < 2048 then 2 else if c < 65536 then 3 else 4) else 0
def octs (c : Int) : List Int :=
  if scB c then (if c < 128 then [c] else if c < 2048 then [192 + c / 64, 128 + c % 64]
    else if c < 65536 then [224 + c / 4096, 128 + c / 64 % 64, 128 + c % 64]
    else [240 + c / 262144, 128 + c / 4096 % 64, 128 + c / 64 % 64, 128 + c % 64]) else []
theorem octs_len (c : Int) : ((octs c).length : Int) = ulenI c := by
  unfold octs ulenI; split
  · split
    · rfl
    · split
      · rfl
      · split <;> rfl
  · rfl
theorem octs_len4 (c : Int) : (octs c).length ≤ 4 := by
  have := octs_len c; unfold ulenI at this; split at this <;> (try split at this) <;> (try split at this) <;> (try split at this) <;> omega
theorem octs_rng (c : Int) : Rg 0 256 (octs c) := by
  unfold octs
  split
  · rename_i h
    have := scB_iff.1 h
    split
    · intro y hy; simp at hy; omega
    · split
      · intro y hy; simp at hy; omega
      · split
        · intro y hy; simp at hy; omega
        · intro y hy; simp at hy; omega
  · exact Rg.nil _ _
/-- May the octet y stand at place j of a sign that a begins? -/
def okAt (a : Int) (j : Nat) (y : Int) : Bool := if j = 1 then secB a y else folB y
/-- How many octets are well formed, j so far. -/
def farL (a : Int) : Nat → List Int → Nat
  | j, [] => j
  | j, y :: r => if (j : Int) < wideI a ∧ okAt a j y = true then farL a (j + 1) r else j
def far : List Int → Nat
  | [] => 0
  | a :: r => if wideI a = 0 then 0 else farL a 1 r
theorem wideI_rng (x : Int) : 0 ≤ wideI x ∧ wideI x ≤ 4 := by unfold wideI; split <;> (try split) <;> (try split) <;> (try split) <;> omega
theorem farL_bounds (a : Int) : ∀ (r : List Int) (j : Nat), j ≤ farL a j r ∧ farL a j r ≤ j + r.length ∧ ((j : Int) ≤ wideI a → (farL a j r : Int) ≤ wideI a)
  | [], j => by simp [farL]
  | y :: r, j => by
    unfold farL
    split
    · rename_i h
      have := farL_bounds a r (j + 1)
      simp only [List.length_cons]
      refine ⟨by omega, by omega, fun _ => this.2.2 (by omega)⟩
    · simp
def leadI (n : Int) : Int := if n = 2 then 192 else if n = 3 then 224 else if n = 4 then 240 else 0
/-- The number that the octets behind the first one make. -/
def valL (c : Int) : List Int → Int
  | [] => c
  | y :: r => valL (64 * c + (y - 128)) r
theorem valL_snoc (c : Int) : ∀ (r : List Int) (y : Int), valL c (r ++ [y]) = 64 * valL c r + (y - 128)
  | [], y => rfl
  | x :: r, y => by simp only [List.cons_append, valL]; exact valL_snoc _ r y
/-- What is taken: the sign, of how many octets, the error. -/
def takeR : List Int → Int × Int × Int
  | [] => (0, 0, 4)
  | a :: r =>
    if wideI a = 0 then (0, 1, 3)
    else if (farL a 1 r : Int) = wideI a then (valL (a - leadI (wideI a)) (r.take (farL a 1 r - 1)), farL a 1 r, 0)
    else if farL a 1 r = r.length + 1 then (0, farL a 1 r, 4)
    else (0, farL a 1 r, 3)

theorem byte_all {P : Int → Prop} (h : ∀ n : Fin 256, P (n.val : Int)) {x : Int} (h0 : 0 ≤ x) (h1 : x < 256) : P x := by
  have := h ⟨x.toNat, by omega⟩
  simp only [] at this
  rwa [Int.toNat_of_nonneg h0] at this
theorem fol_bits {x : Int} (h0 : 0 ≤ x) (h1 : x < 256) : (bits .andNot .u8 x 63 == 128) = folB x :=
  byte_all (P := fun x => (bits .andNot .u8 x 63 == 128) = folB x) (by decide +kernel) h0 h1
theorem secB_fol {a y : Int} (h : secB a y = true) : folB y = true := by
  rw [secB_iff] at h; rw [folB_iff]; unfold loI hiI at h
  split at h <;> (try split at h) <;> (try split at h) <;> (try split at h) <;> omega

theorem farL_ok (a : Int) : ∀ (r : List Int) (j : Nat), 1 ≤ j → ∀ y ∈ r.take (farL a j r - j), folB y = true
  | [], j, _ => by simp
  | x :: r, j, hj => by
    unfold farL
    split
    · rename_i h
      have hb := (farL_bounds a r (j + 1)).1
      intro y hy
      rw [show farL a (j + 1) r - j = (farL a (j + 1) r - (j + 1)) + 1 by omega, List.take_succ_cons] at hy
      rcases List.mem_cons.1 hy with rfl | hy
      · have h2 := h.2
        unfold okAt at h2
        split at h2
        · exact secB_fol h2
        · exact h2
      · exact farL_ok a r (j + 1) (by omega) y hy
    · intro y hy; simp at hy
theorem andNot_lead {a : Int} (h0 : 0 ≤ a) (h1 : a < 256) : wideI a = 0 ∨ (bits .andNot .u8 a (leadI (wideI a)) = a - leadI (wideI a) ∧ 0 ≤ a - leadI (wideI a) ∧ a - leadI (wideI a) < 128 ∧ 0 ≤ leadI (wideI a)) :=
  byte_all (P := fun a => wideI a = 0 ∨ (bits .andNot .u8 a (leadI (wideI a)) = a - leadI (wideI a) ∧ 0 ≤ a - leadI (wideI a) ∧ a - leadI (wideI a) < 128 ∧ 0 ≤ leadI (wideI a))) (by decide +kernel) h0 h1
def bnd (k : Nat) : Int := if k = 0 then 128 else if k = 1 then 8192 else if k = 2 then 524288 else 33554432
theorem bnd_succ {k : Nat} (hk : k < 3) {m : Int} (h0 : 0 ≤ m) (h : m < bnd k) {y : Int} (hy : folB y = true) : 0 ≤ 64 * m + (y - 128) ∧ 64 * m + (y - 128) < bnd (k + 1) := by
  rw [folB_iff] at hy
  rcases (by omega : k = 0 ∨ k = 1 ∨ k = 2) with rfl | rfl | rfl <;> simp [bnd] at h ⊢ <;> omega
theorem bnd_le (k : Nat) : bnd k ≤ 33554432 := by unfold bnd; split <;> (try split) <;> (try split) <;> omega
theorem takeR_bad {a : Int} {r : List Int} (h : wideI a = 0) : takeR (a :: r) = (0, 1, 3) := by simp [takeR, h]
theorem takeR_ok {a : Int} {r : List Int} (h : wideI a ≠ 0) (h1 : (farL a 1 r : Int) = wideI a) : takeR (a :: r) = (valL (a - leadI (wideI a)) (r.take (farL a 1 r - 1)), ((farL a 1 r : Nat) : Int), 0) := by rw [takeR, if_neg h, if_pos h1]
theorem takeR_end {a : Int} {r : List Int} (h : wideI a ≠ 0) (h1 : (farL a 1 r : Int) ≠ wideI a) (h2 : farL a 1 r = r.length + 1) : takeR (a :: r) = (0, ((farL a 1 r : Nat) : Int), 4) := by
  rw [takeR, if_neg h, if_neg h1, if_pos h2]
theorem takeR_form {a : Int} {r : List Int} (h : wideI a ≠ 0) (h1 : (farL a 1 r : Int) ≠ wideI a) (h2 : farL a 1 r ≠ r.length + 1) : takeR (a :: r) = (0, ((farL a 1 r : Nat) : Int), 3) := by
  rw [takeR, if_neg h, if_neg h1, if_neg h2]
end Go.Proofs.YtponfaglflmnkaaGreat
namespace Go.Proofs.YtponfaglflmnkaaGreat
theorem wide_cases (a : Int) : (wideI a = 1 ∧ a < 128) ∨ (wideI a = 2 ∧ 194 ≤ a ∧ a ≤ 223) ∨ (wideI a = 3 ∧ 224 ≤ a ∧ a ≤ 239) ∨ (wideI a = 4 ∧ 240 ≤ a ∧ a ≤ 244) ∨ wideI a = 0 := by
  unfold wideI; split
  · omega
  · split
    · omega
    · split
      · omega
      · split <;> omega
theorem farL_step {a y : Int} {j : Nat} {r : List Int} (h1 : (j : Int) < wideI a) (h2 : okAt a j y = true) : farL a j (y :: r) = farL a (j + 1) r := by rw [farL, if_pos ⟨h1, h2⟩]
theorem farL_end {a : Int} {j : Nat} {r : List Int} (h1 : ¬ (j : Int) < wideI a) : farL a j r = j := by
  cases r with
  | nil => rfl
  | cons y r => rw [farL, if_neg (by omega)]
theorem farL_inv {a : Int} {j : Nat} {r : List Int} (h : j < farL a j r) : ∃ y r', r = y :: r' ∧ okAt a j y = true ∧ farL a j r = farL a (j + 1) r' := by
  cases r with
  | nil => simp [farL] at h
  | cons y r =>
    by_cases hc : (j : Int) < wideI a ∧ okAt a j y = true
    · exact ⟨y, r, rfl, hc.2, by rw [farL, if_pos hc]⟩
    · rw [farL, if_neg hc] at h; omega
theorem takeR_octs {c : Int} (h : scB c = true) (s : List Int) : takeR (octs c ++ s) = (c, ulenI c, 0) := by
  have hc := scB_iff.1 h
  by_cases h1 : c < 128
  · have hw : wideI c = 1 := by unfold wideI; rw [if_pos h1]
    have hf : farL c 1 s = 1 := farL_end (by rw [hw]; omega)
    rw [show octs c = [c] by rw [octs, if_pos h, if_pos h1], show ulenI c = 1 by rw [ulenI, if_pos h, if_pos h1]]
    rw [List.singleton_append, takeR_ok (by omega) (by rw [hf, hw]; rfl), hf, hw]
    simp [valL, leadI]
  · by_cases h2 : c < 2048
    · have hw : wideI (192 + c / 64) = 2 := by unfold wideI; rw [if_neg (by omega), if_pos (by omega)]
      have hf : farL (192 + c / 64) 1 ((128 + c % 64) :: s) = 2 := by
        rw [farL_step (by rw [hw]; omega) (by simp only [okAt, if_true, secB_iff, loI, hiI]; rw [if_neg (by omega), if_neg (by omega), if_neg (by omega), if_neg (by omega)]; omega), farL_end (by rw [hw]; omega)]
      rw [show octs c = [192 + c / 64, 128 + c % 64] by rw [octs, if_pos h, if_neg h1, if_pos h2], show ulenI c = 2 by rw [ulenI, if_pos h, if_neg h1, if_pos h2]]
      rw [show [192 + c / 64, 128 + c % 64] ++ s = (192 + c / 64) :: (128 + c % 64) :: s from rfl, takeR_ok (by omega) (by rw [hf, hw]; rfl), hf, hw]
      simp [valL, leadI]; omega
    · by_cases h3 : c < 65536
      · have hw : wideI (224 + c / 4096) = 3 := by unfold wideI; rw [if_neg (by omega), if_neg (by omega), if_pos (by omega)]
        have hs : secB (224 + c / 4096) (128 + c / 64 % 64) = true := by
          rw [secB_iff]; unfold loI hiI
          split <;> split <;> (try split) <;> (try split) <;> omega
        have hf : farL (224 + c / 4096) 1 ((128 + c / 64 % 64) :: (128 + c % 64) :: s) = 3 := by
          rw [farL_step (by rw [hw]; omega) (by simp only [okAt, if_true]; exact hs), farL_step (by rw [hw]; omega) (by simp only [okAt]; rw [if_neg (by omega), folB_iff]; omega), farL_end (by rw [hw]; omega)]
        rw [show octs c = [224 + c / 4096, 128 + c / 64 % 64, 128 + c % 64] by rw [octs, if_pos h, if_neg h1, if_neg h2, if_pos h3], show ulenI c = 3 by rw [ulenI, if_pos h, if_neg h1, if_neg h2, if_pos h3]]
        rw [show [224 + c / 4096, 128 + c / 64 % 64, 128 + c % 64] ++ s = (224 + c / 4096) :: (128 + c / 64 % 64) :: (128 + c % 64) :: s from rfl, takeR_ok (by omega) (by rw [hf, hw]; rfl), hf, hw]
        simp [valL, leadI]; omega
      · have hw : wideI (240 + c / 262144) = 4 := by unfold wideI; rw [if_neg (by omega), if_neg (by omega), if_neg (by omega), if_pos (by omega)]
        have hs : secB (240 + c / 262144) (128 + c / 4096 % 64) = true := by
          rw [secB_iff]; unfold loI hiI
          split <;> (try split) <;> (try split) <;> (try split) <;> omega
        have hf : farL (240 + c / 262144) 1 ((128 + c / 4096 % 64) :: (128 + c / 64 % 64) :: (128 + c % 64) :: s) = 4 := by
          rw [farL_step (by rw [hw]; omega) (by simp only [okAt, if_true]; exact hs), farL_step (by rw [hw]; omega) (by simp only [okAt]; rw [if_neg (by omega), folB_iff]; omega), farL_step (by rw [hw]; omega) (by simp only [okAt]; rw [if_neg (by omega), folB_iff]; omega), farL_end (by rw [hw]; omega)]
        rw [show octs c = [240 + c / 262144, 128 + c / 4096 % 64, 128 + c / 64 % 64, 128 + c % 64] by rw [octs, if_pos h, if_neg h1, if_neg h2, if_neg h3], show ulenI c = 4 by rw [ulenI, if_pos h, if_neg h1, if_neg h2, if_neg h3]]
        rw [show [240 + c / 262144, 128 + c / 4096 % 64, 128 + c / 64 % 64, 128 + c % 64] ++ s = (240 + c / 262144) :: (128 + c / 4096 % 64) :: (128 + c / 64 % 64) :: (128 + c % 64) :: s from rfl, takeR_ok (by omega) (by rw [hf, hw]; rfl), hf, hw]
        simp [valL, leadI]; omega
/-- What is taken is a scalar value, and its octets stand there. -/
theorem takeR_good {xs : List Int} (hg : Rg 0 256 xs) (h : (takeR xs).2.2 = 0) : scB (takeR xs).1 = true ∧ octs (takeR xs).1 = xs.take (takeR xs).2.1.toNat ∧ (takeR xs).2.1 ≤ xs.length ∧ (takeR xs).2.1 = (octs (takeR xs).1).length := by
  cases xs with
  | nil => simp [takeR] at h
  | cons a r =>
    obtain ⟨⟨ha0, _⟩, _⟩ := hg.cons
    have hb := farL_bounds a r 1
    by_cases hw : wideI a = 0
    · rw [takeR_bad hw] at h; simp at h
    · by_cases hN : (farL a 1 r : Int) = wideI a
      · rw [takeR_ok hw hN] at h ⊢
        simp only []
        rcases wide_cases a with ⟨h1, h2⟩ | ⟨h1, h2, h2'⟩ | ⟨h1, h2, h2'⟩ | ⟨h1, h2, h2'⟩ | h1
        · have hf : farL a 1 r = 1 := by omega
          rw [hf, h1]
          have hs : scB a = true := by rw [scB_iff]; omega
          simp only [Nat.sub_self, List.take_zero, valL, leadI]
          simp [hs, octs, h2]; omega
        · have hf : farL a 1 r = 2 := by omega
          obtain ⟨y, r', rfl, hy, _⟩ := farL_inv (a := a) (j := 1) (r := r) (by omega)
          simp only [okAt, if_true, secB_iff, loI, hiI] at hy
          rw [if_neg (by omega), if_neg (by omega), if_neg (by omega), if_neg (by omega)] at hy
          rw [hf, h1]
          simp only [leadI, valL, List.take_succ_cons, List.take_zero, if_true, show 2 - 1 = 1 from rfl]
          have hs : scB (64 * (a - 192) + (y - 128)) = true := by rw [scB_iff]; omega
          have ho : octs (64 * (a - 192) + (y - 128)) = [a, y] := by
            rw [octs, if_pos hs, if_neg (by omega), if_pos (by omega)]; congr 1
            · omega
            · congr 1; omega
          rw [ho]
          refine ⟨hs, by simp, by simp; omega, by simp⟩
        · have hf : farL a 1 r = 3 := by omega
          obtain ⟨y, r', rfl, hy, e1⟩ := farL_inv (a := a) (j := 1) (r := r) (by omega)
          rw [hf] at e1
          replace e1 : _ = farL a 2 r' := e1
          obtain ⟨z, r'', rfl, hz, _⟩ := farL_inv (a := a) (j := 2) (r := r') (by omega)
          simp only [okAt, if_true, secB_iff] at hy
          simp only [okAt] at hz
          rw [if_neg (by omega), folB_iff] at hz
          rw [hf, h1, show leadI 3 = 224 from rfl]
          simp only [valL, List.take_succ_cons, List.take_zero, show 3 - 1 = 2 from rfl]
          have hy2 : (a = 224 → 160 ≤ y) ∧ (a = 237 → y ≤ 159) ∧ 128 ≤ y ∧ y ≤ 191 := by
            unfold loI hiI at hy
            split at hy <;> split at hy <;> (try split at hy) <;> (try split at hy) <;> omega
          have hs : scB (64 * (64 * (a - 224) + (y - 128)) + (z - 128)) = true := by rw [scB_iff]; omega
          have ho : octs (64 * (64 * (a - 224) + (y - 128)) + (z - 128)) = [a, y, z] := by
            rw [octs, if_pos hs, if_neg (by omega), if_neg (by omega), if_pos (by omega)]; congr 1
            · omega
            · congr 1
              · omega
              · congr 1; omega
          rw [ho]
          refine ⟨hs, by simp, by simp; omega, by simp⟩
        · have hf : farL a 1 r = 4 := by omega
          obtain ⟨y, r', rfl, hy, e1⟩ := farL_inv (a := a) (j := 1) (r := r) (by omega)
          rw [hf] at e1
          replace e1 : _ = farL a 2 r' := e1
          obtain ⟨z, r'', rfl, hz, e2⟩ := farL_inv (a := a) (j := 2) (r := r') (by omega)
          rw [← e1] at e2
          replace e2 : _ = farL a 3 r'' := e2
          obtain ⟨u, r3, rfl, hu, _⟩ := farL_inv (a := a) (j := 3) (r := r'') (by omega)
          simp only [okAt, if_true, secB_iff] at hy
          simp only [okAt] at hz hu
          rw [if_neg (by omega), folB_iff] at hz hu
          rw [hf, h1, show leadI 4 = 240 from rfl]
          simp only [valL, List.take_succ_cons, List.take_zero, show 4 - 1 = 3 from rfl]
          have hy2 : (a = 240 → 144 ≤ y) ∧ (a = 244 → y ≤ 143) ∧ 128 ≤ y ∧ y ≤ 191 := by
            unfold loI hiI at hy
            split at hy <;> (try split at hy) <;> (try split at hy) <;> (try split at hy) <;> omega
          have hs : scB (64 * (64 * (64 * (a - 240) + (y - 128)) + (z - 128)) + (u - 128)) = true := by rw [scB_iff]; omega
          have ho : octs (64 * (64 * (64 * (a - 240) + (y - 128)) + (z - 128)) + (u - 128)) = [a, y, z, u] := by
            rw [octs, if_pos hs, if_neg (by omega), if_neg (by omega), if_neg (by omega)]; congr 1
            · omega
            · congr 1
              · omega
              · congr 1
                · omega
                · congr 1; omega
          rw [ho]
          refine ⟨hs, by simp, by simp; omega, by simp⟩
        · exact absurd h1 hw
      · by_cases hE : farL a 1 r = r.length + 1
        · rw [takeR_end hw hN hE] at h; simp at h
        · rw [takeR_form hw hN hE] at h; simp at h
theorem takeR_n (xs : List Int) : 0 ≤ (takeR xs).2.1 ∧ (takeR xs).2.1 ≤ xs.length ∧ ((takeR xs).2.1 > 0 ↔ xs.length > 0) := by
  cases xs with
  | nil => simp [takeR]
  | cons a r =>
    have hb := farL_bounds a r 1
    by_cases hw : wideI a = 0
    · rw [takeR_bad hw]; simp; omega
    · by_cases hN : (farL a 1 r : Int) = wideI a
      · rw [takeR_ok hw hN]; simp; omega
      · by_cases hE : farL a 1 r = r.length + 1
        · rw [takeR_end hw hN hE]; simp; omega
        · rw [takeR_form hw hN hE]; simp; omega
theorem takeR_32 {xs : List Int} (hg : Rg 0 256 xs) : -2147483648 ≤ (takeR xs).1 ∧ (takeR xs).1 ≤ 2147483647 := by
  by_cases h : (takeR xs).2.2 = 0
  · have := scB_iff.1 (takeR_good hg h).1; omega
  · cases xs with
    | nil => simp [takeR]
    | cons a r =>
      by_cases hw : wideI a = 0
      · rw [takeR_bad hw]; simp
      · by_cases hN : (farL a 1 r : Int) = wideI a
        · rw [takeR_ok hw hN] at h; simp at h
        · by_cases hE : farL a 1 r = r.length + 1
          · rw [takeR_end hw hN hE]; simp
          · rw [takeR_form hw hN hE]; simp
theorem octs_inj {a b : Int} (ha : scB a = true) (hb : scB b = true) {s : List Int} (h : octs b = octs a ++ s) : a = b := by
  have h1 := takeR_octs ha s
  have h2 := takeR_octs hb []
  rw [List.append_nil, h, h1] at h2
  exact (Prod.ext_iff.1 h2).1
end Go.Proofs.YtponfaglflmnkaaGreat
namespace Go.Proofs.YtponfaglflmnkaaGreat
theorem takeR_pos (x : Int) (r : List Int) : 1 ≤ (takeR (x :: r)).2.1 := by
  have := (takeR_n (x :: r)).2.2
  simp only [List.length_cons] at this; omega
/-- The signs that octets begin with, one behind the other, and their errors. -/
def eread : List Int → List (Int × Int)
  | [] => []
  | x :: r => ((takeR (x :: r)).1, (takeR (x :: r)).2.2) :: eread ((x :: r).drop (takeR (x :: r)).2.1.toNat)
termination_by xs => xs.length
decreasing_by
  have := takeR_pos x r
  simp only [List.length_drop, List.length_cons]; omega
theorem eread_nil : eread [] = [] := by rw [eread]
theorem eread_cons (x : Int) (r : List Int) : eread (x :: r) = ((takeR (x :: r)).1, (takeR (x :: r)).2.2) :: eread ((x :: r).drop (takeR (x :: r)).2.1.toNat) := by rw [eread]
/-- What is read of a sign. -/
def rd (p : Int × Int) : Int := if p.2 = 0 then p.1 else 65533
def bad (p : Int × Int) : Bool := p.2 != 0
def etext (xs : List Int) : List Int := (eread xs).map rd
def eerr (xs : List Int) : Int := ferr ((eread xs).map Prod.snd)
def ebad (xs : List Int) : Nat := ((eread xs).filter bad).length
theorem eread_ind (P : List Int → Prop) (h0 : P []) (hs : ∀ x r, P ((x :: r).drop (takeR (x :: r)).2.1.toNat) → P (x :: r)) (n : Nat) : ∀ xs : List Int, xs.length ≤ n → P xs := by
  induction n with
  | zero => intro xs h; obtain rfl : xs = [] := List.eq_nil_of_length_eq_zero (by omega); exact h0
  | succ n ih =>
    intro xs h
    cases xs with
    | nil => exact h0
    | cons x r =>
      have := takeR_pos x r
      exact hs x r (ih _ (by simp at h ⊢; omega))
theorem eread_len (xs : List Int) : (eread xs).length ≤ xs.length := by
  refine eread_ind (fun xs => (eread xs).length ≤ xs.length) (by simp [eread_nil]) ?_ _ xs (Nat.le_refl _)
  intro x r ih
  have := takeR_pos x r
  rw [eread_cons]
  simp only [List.length_cons, List.length_drop] at ih ⊢; omega
/-- The octets of a text. -/
def elay (xs : List Int) : List Int := xs.flatMap octs
theorem elay_cons (x : Int) (xs : List Int) : elay (x :: xs) = octs x ++ elay xs := by simp [elay]
theorem elay_snoc {xs : List Int} {k : Nat} {x : Int} (h : xs[k]? = some x) : elay (xs.take (k + 1)) = elay (xs.take k) ++ octs x := by
  simp [elay, List.take_add_one, h]
theorem elay_len (xs : List Int) : (elay xs).length ≤ 4 * xs.length := by
  induction xs with
  | nil => simp [elay]
  | cons x xs ih => have := octs_len4 x; rw [elay_cons]; simp only [List.length_append, List.length_cons] at ih ⊢; omega
theorem elay_rng : ∀ xs : List Int, Rg 0 256 (elay xs)
  | [] => Rg.nil _ _
  | x :: xs => by rw [elay_cons]; exact (octs_rng x).append (elay_rng xs)
/-- How many octets a text has. -/
def elen (xs : List Int) : Int := (xs.map ulenI).sum
theorem elen_eq (xs : List Int) : elen xs = (elay xs).length := by
  induction xs with
  | nil => simp [elen, elay]
  | cons x xs ih => rw [elay_cons]; simp only [elen, List.map_cons, List.sum_cons, List.length_append] at ih ⊢; rw [ih, ← octs_len x]; simp
theorem elen_snoc {xs : List Int} {k : Nat} {x : Int} (h : xs[k]? = some x) : elen (xs.take (k + 1)) = elen (xs.take k) + ulenI x := by
  simp [elen, List.take_add_one, h]
end Go.Proofs.YtponfaglflmnkaaGreat
namespace Go.Proofs.YtponfaglflmnkaaGreat
theorem cnt_fin : cnt 1 8704 = 128 ∧ cnt 2 8704 = 256 ∧ cnt 3 8704 = 256 ∧ cnt 4 8704 = 251 := by decide +kernel
theorem cnt_size {n : Int} (h : n ≠ 5) : (cnt n 8704 : Int) = sizeL n := by
  rcases (by omega : n = 1 ∨ n = 2 ∨ n = 3 ∨ n = 4 ∨ ¬ (1 ≤ n ∧ n ≤ 5)) with rfl | rfl | rfl | rfl | hn
  · rw [cnt_fin.1]; rfl
  · rw [cnt_fin.2.1]; rfl
  · rw [cnt_fin.2.2.1]; rfl
  · rw [cnt_fin.2.2.2]; rfl
  · rw [cnt_no hn, sizeL, if_neg (by omega), if_neg (by omega), if_neg (by omega), if_neg (by omega), if_neg (by omega)]; rfl
end Go.Proofs.YtponfaglflmnkaaGreat
