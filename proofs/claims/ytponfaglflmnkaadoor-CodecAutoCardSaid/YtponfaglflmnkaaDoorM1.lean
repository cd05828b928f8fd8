/- Plain definitions and laws: scalar values, searches. No program in sight. · Plain definitions and laws: UTF-16. · Plain definitions and laws: windows-1252. · Plain: repertoires. · The toolkit: what a slice reads as in a world (Row), what a call owns (Own), how both are kept; an append of a row to an owned row. · Walks: scalar values. · Facts on the slice types of this translation. (laid together by program out of single texts). -/
import Derived.WalkKit
import Derived.WalkSpells
import Derived.WalkLawsBesides
import Derived.BigQuiet
import Derived.Deep.QuietTactic
import Derived.Lib.Hide
import Derived.Laws.AppendOwnNone
import Derived.Deep.RegionHeld3
import Derived.Test.YtponfaglflmnkaaDoorRows
namespace Go.Proofs.YtponfaglflmnkaaDoor

def surB (c : Int) : Bool := decide (55296 ≤ c ∧ c ≤ 57343)
def scB (c : Int) : Bool := decide (0 ≤ c ∧ c ≤ 1114111 ∧ ¬ (55296 ≤ c ∧ c ≤ 57343))
theorem surB_iff {c : Int} : surB c = true ↔ (55296 ≤ c ∧ c ≤ 57343) := decide_eq_true_iff
theorem scB_iff {c : Int} : scB c = true ↔ (0 ≤ c ∧ c ≤ 1114111 ∧ ¬ (55296 ≤ c ∧ c ≤ 57343)) := decide_eq_true_iff

/-- The place of the first that p takes, or -1. -/
def idx (p : Int → Bool) (xs : List Int) : Int := match xs.findIdx? p with | some i => i | none => -1
theorem idx_at {p : Int → Bool} {xs : List Int} {k : Nat} {x : Int} (h : ∀ y ∈ xs.take k, p y = false) (hx : xs[k]? = some x) (hp : p x = true) : idx p xs = k := by
  obtain ⟨hk, rfl⟩ := List.getElem?_eq_some_iff.1 hx
  have : xs.findIdx? p = some k := by
    rw [List.findIdx?_eq_some_iff_getElem]
    refine ⟨hk, hp, fun j hj => ?_⟩
    have := h xs[j] (by rw [List.mem_iff_getElem]; exact ⟨j, by simp; omega, by simp⟩)
    simp [this]
  simp [idx, this]
theorem idx_none {p : Int → Bool} {xs : List Int} (h : ∀ y ∈ xs, p y = false) : idx p xs = -1 := by
  have : xs.findIdx? p = none := by rw [List.findIdx?_eq_none_iff]; exact h
  simp [idx, this]
theorem take_succ_all {q : Int → Prop} {xs : List Int} {k : Nat} {x : Int} (h : ∀ y ∈ xs.take k, q y) (hx : xs[k]? = some x) (hq : q x) : ∀ y ∈ xs.take (k + 1), q y := by
  intro y hy
  rw [List.take_add_one, hx] at hy
  rcases List.mem_append.1 hy with hy | hy
  · exact h y hy
  · simp at hy; subst hy; exact hq

end Go.Proofs.YtponfaglflmnkaaDoor
namespace Go.Proofs.YtponfaglflmnkaaDoor
def Rg (a b : Int) (xs : List Int) : Prop := ∀ x ∈ xs, a ≤ x ∧ x < b
theorem Rg.nil (a b : Int) : Rg a b [] := fun x hx => by simp at hx
theorem Rg.cons {a b : Int} {x : Int} {xs : List Int} (h : Rg a b (x :: xs)) : (a ≤ x ∧ x < b) ∧ Rg a b xs := ⟨h x (by simp), fun y hy => h y (by simp [hy])⟩
theorem Rg.drop {a b : Int} {xs : List Int} (h : Rg a b xs) (n : Nat) : Rg a b (xs.drop n) := fun x hx => h x (List.mem_of_mem_drop hx)
theorem Rg.take {a b : Int} {xs : List Int} (h : Rg a b xs) (n : Nat) : Rg a b (xs.take n) := fun x hx => h x (List.mem_of_mem_take hx)
theorem Rg.get {a b : Int} {xs : List Int} (h : Rg a b xs) {i : Nat} {x : Int} (hx : xs[i]? = some x) : a ≤ x ∧ x < b := h x (List.mem_of_getElem? hx)
theorem Rg.append {a b : Int} {xs ys : List Int} (h : Rg a b xs) (h' : Rg a b ys) : Rg a b (xs ++ ys) := fun x hx => (List.mem_append.1 hx).elim (h x) (h' x)

/-- Strictly: the text, if there is no error. -/
def strictL (q : Int) (t : List Int) : List Int := if q = 0 then t else []
/-- The first error of some. -/
def ferr (es : List Int) : Int := (es.find? (· != 0)).getD 0
theorem ferr_nil : ferr [] = 0 := rfl
theorem ferr_zero {es : List Int} (h : ferr es = 0) : ∀ e ∈ es, e = 0 := by
  unfold ferr at h
  intro e he
  cases hf : es.find? (· != 0) with
  | none => simpa using List.find?_eq_none.1 hf e he
  | some y =>
    rw [hf] at h
    have := List.find?_some hf
    simp at h; subst h; simp at this
theorem ferr_snoc (es : List Int) (e : Int) : ferr (es ++ [e]) = if ferr es = 0 then e else ferr es := by
  split
  · rename_i h
    have h0 := ferr_zero h
    have : es.find? (· != 0) = none := by rw [List.find?_eq_none]; intro x hx; simp [h0 x hx]
    by_cases he : e = 0
    · simp [ferr, List.find?_append, this, he]
    · have hb : (e != 0) = true := by simp [he]
      simp [ferr, List.find?_append, this, hb]
  · rename_i h
    cases hf : es.find? (· != 0) with
    | none => simp [ferr, hf] at h
    | some y => simp [ferr, List.find?_append, hf]
theorem ferr_all {es : List Int} (h : ∀ e ∈ es, e = 0) : ferr es = 0 := by
  have : es.find? (· != 0) = none := by rw [List.find?_eq_none]; intro x hx; simp [h x hx]
  simp [ferr, this]

def hiB (u : Int) : Bool := decide (55296 ≤ u ∧ u ≤ 56319)
def loB (u : Int) : Bool := decide (56320 ≤ u ∧ u ≤ 57343)
theorem hiB_iff {u : Int} : hiB u = true ↔ (55296 ≤ u ∧ u ≤ 56319) := decide_eq_true_iff
theorem loB_iff {u : Int} : loB u = true ↔ (56320 ≤ u ∧ u ≤ 57343) := decide_eq_true_iff
def uof (c : Int) : List Int := if scB c then (if c < 65536 then [c] else [55296 + (c - 65536) / 1024, 56320 + (c - 65536) % 1024]) else []

/-- The first sign, of how many units, and its error. -/
def uone (x : Int) (r : List Int) : Int × Int × Int :=
  if loB x then (65533, 1, 3) else if hiB x then
    (match r with
      | [] => (65533, 1, 4)
      | y :: _ => if loB y then (65536 + ((x - 55296) * 1024 + (y - 56320)), 2, 0) else (65533, 1, 3))
  else (x, 1, 0)
/-- The signs and their errors. -/
def uread : List Int → List (Int × Int)
  | [] => []
  | x :: r => ((uone x r).1, (uone x r).2.2) :: uread ((x :: r).drop (uone x r).2.1.toNat)
termination_by xs => xs.length
decreasing_by
  have : 1 ≤ (uone x r).2.1 := by
    unfold uone
    split
    · simp
    · split
      · split
        · simp
        · split <;> simp
      · simp
  simp only [List.length_drop, List.length_cons]; omega
theorem uone_n (x : Int) (r : List Int) : (uone x r).2.1 = 1 ∨ ((uone x r).2.1 = 2 ∧ r ≠ []) := by
  unfold uone
  split
  · simp
  · split
    · split
      · simp
      · split <;> simp
    · simp

theorem uread_nil : uread [] = [] := by rw [uread]
theorem uread_cons (x : Int) (r : List Int) : uread (x :: r) = ((uone x r).1, (uone x r).2.2) :: uread ((x :: r).drop (uone x r).2.1.toNat) := by rw [uread]
theorem uone_rng {x : Int} {r : List Int} (h : Rg 0 65536 (x :: r)) : 0 ≤ (uone x r).1 ∧ (uone x r).1 ≤ 1114111 := by
  obtain ⟨hx, hr⟩ := h.cons
  unfold uone
  split
  · simp
  · split
    · rename_i h1
      have h1 := hiB_iff.1 h1
      split
      · simp
      · split
        · rename_i h2
          have h2 := loB_iff.1 h2
          simp only []; omega
        · simp
    · simp only []; omega

theorem hiB_not_lo {x : Int} (h : loB x = true) : hiB x = false := by
  have h1 := loB_iff.1 h
  have : ¬ hiB x = true := fun h2 => by have := hiB_iff.1 h2; omega
  simpa using this
theorem uread_lo {x : Int} (r : List Int) (h : loB x = true) : uread (x :: r) = (65533, 3) :: uread r := by
  rw [uread_cons]; simp [uone, h]
theorem uread_bmp {x : Int} (r : List Int) (h : loB x = false) (h' : hiB x = false) : uread (x :: r) = (x, 0) :: uread r := by
  rw [uread_cons]; simp [uone, h, h']
theorem uread_end {x : Int} (h : loB x = false) (h' : hiB x = true) : uread [x] = (65533, 4) :: uread [] := by
  rw [uread_cons]; simp [uone, h, h']
theorem uread_pair {x y : Int} (r : List Int) (h : loB x = false) (h' : hiB x = true) (hy : loB y = true) : uread (x :: y :: r) = (65536 + ((x - 55296) * 1024 + (y - 56320)), 0) :: uread r := by
  rw [uread_cons]; simp [uone, h, h', hy]
theorem uread_bad {x y : Int} (r : List Int) (h : loB x = false) (h' : hiB x = true) (hy : loB y = false) : uread (x :: y :: r) = (65533, 3) :: uread (y :: r) := by
  rw [uread_cons]; simp [uone, h, h', hy]
end Go.Proofs.YtponfaglflmnkaaDoor
namespace Go.Proofs.YtponfaglflmnkaaDoor
def othersL : List Int := [8364, 0, 8218, 402, 8222, 8230, 8224, 8225, 710, 8240, 352, 8249, 338, 0, 381, 0, 0, 8216, 8217, 8220, 8221, 8226, 8211, 8212, 732, 8482, 353, 8250, 339, 0, 382, 376]
def othersR : List Int := [8364, 65533, 8218, 402, 8222, 8230, 8224, 8225, 710, 8240, 352, 8249, 338, 65533, 381, 65533, 65533, 8216, 8217, 8220, 8221, 8226, 8211, 8212, 732, 8482, 353, 8250, 339, 65533, 382, 376]
def wsign (x : Int) : Int := if x < 128 ∨ 160 ≤ x then x else othersR.getD (x - 128).toNat 0
def wput (c : Int) : Int × Bool :=
  if (0 ≤ c ∧ c < 128) ∨ (160 ≤ c ∧ c < 256) then (c, true) else if c < 256 then (0, false)
  else if idx (fun y => c == y) othersL < 0 then (0, false) else (128 + idx (fun y => c == y) othersL, true)
theorem others_sign : ∀ i : Fin 32, othersR.getD i.val 0 = if othersL.getD i.val 0 = 0 then 65533 else othersL.getD i.val 0 := by decide
theorem wput_sign : ∀ n : Fin 256, wsign n.val = 65533 ∨ wput (wsign n.val) = ((n.val : Int), true) := by decide +kernel
theorem idx_spec (p : Int → Bool) (xs : List Int) : idx p xs = -1 ∨ ∃ (i : Nat) (x : Int), idx p xs = i ∧ xs[i]? = some x ∧ p x = true := by
  unfold idx
  cases h : xs.findIdx? p with
  | none => exact .inl rfl
  | some i =>
    obtain ⟨hi, hp, _⟩ := List.findIdx?_eq_some_iff_getElem.1 h
    exact .inr ⟨i, xs[i], rfl, List.getElem?_eq_getElem hi, hp⟩
theorem othersL_mem : ∀ x ∈ othersL, x ≠ 65533 := by decide
/-- What is put has just that sign. -/
theorem wput_true {c : Int} (h : (wput c).2 = true) : 0 ≤ (wput c).1 ∧ (wput c).1 < 256 ∧ wsign (wput c).1 = c ∧ c ≠ 65533 := by
  unfold wput at h ⊢
  split
  · rename_i h1
    simp only [wsign]
    rw [if_pos (by omega)]
    omega
  · rename_i h1
    rw [if_neg h1] at h
    split at h
    · simp at h
    · rename_i h2
      split at h
      · simp at h
      · rename_i h3
        rw [if_neg h2, if_neg h3]
        rcases idx_spec (fun y => c == y) othersL with h4 | ⟨i, x, h4, h5, h6⟩
        · omega
        · obtain rfl : c = x := by simpa using h6
          have hi : i < 32 := (List.getElem?_eq_some_iff.1 h5).1
          have hm := othersL_mem c (List.mem_of_getElem? h5)
          have hs := others_sign ⟨i, hi⟩
          simp only [List.getD, h5, Option.getD_some] at hs
          rw [if_neg (by omega : ¬ c = 0)] at hs
          rw [h4]
          refine ⟨by simp only []; omega, by simp only []; omega, ?_, hm⟩
          simp only [wsign]
          rw [if_neg (by omega), show (128 + (i : Int) - 128).toNat = i by omega]
          exact hs
theorem wput_false {c : Int} (h : (wput c).2 = false) : (wput c).1 = 0 := by
  unfold wput at h ⊢
  split
  · rename_i h1; rw [if_pos h1] at h; cases h
  · split
    · rfl
    · split
      · rfl
      · rename_i h1 h2 h3; rw [if_neg h1, if_neg h2, if_neg h3] at h; cases h
theorem wput_found {c : Int} {n : Nat} (hn : n < 256) (h : wsign n = c) (hc : c ≠ 65533) : wput c = ((n : Int), true) := by
  rcases wput_sign ⟨n, hn⟩ with h1 | h1
  · simp only [] at h1; rw [h] at h1; exact absurd h1 hc
  · simp only [] at h1; rw [h] at h1; exact h1
theorem wput_none {c : Int} (h : ∀ n : Nat, n < 256 → wsign n ≠ c ∨ c = 65533) : wput c = (0, false) := by
  cases h2 : (wput c).2 with
  | true =>
    obtain ⟨h3, h4, h5, h6⟩ := wput_true h2
    rcases h (wput c).1.toNat (by omega) with h7 | h7
    · rw [Int.toNat_of_nonneg h3] at h7; exact absurd h5 h7
    · exact absurd h7 h6
  | false => exact Prod.ext (wput_false h2) h2
end Go.Proofs.YtponfaglflmnkaaDoor
namespace Go.Proofs.YtponfaglflmnkaaDoor
/-- latin nine: its octets and signs that part from latin one's. -/
def nineO : List Int := [164, 166, 168, 180, 184, 188, 189, 190]
def nineS : List Int := [8364, 352, 353, 381, 382, 338, 339, 376]
def sign9 (x : Int) : Int :=
  if x = 164 then 8364 else if x = 166 then 352 else if x = 168 then 353 else if x = 180 then 381 else if x = 184 then 382 else if x = 188 then 338 else if x = 189 then 339 else if x = 190 then 376 else x
def nineB (c : Int) : Bool := nineS.contains c || (decide (0 ≤ c ∧ c < 256) && !nineO.contains c)
theorem nine_sign : ∀ n : Fin 256, nineB (sign9 n.val) = true ∧ sign9 n.val ≠ 65533 := by decide +kernel
theorem nine_of : ∀ n : Fin 256, nineO.contains (n.val : Int) = true ∨ sign9 n.val = n.val := by decide +kernel
theorem nine_back {c : Int} (h : nineB c = true) : ∃ n : Nat, n < 256 ∧ sign9 n = c := by
  rw [nineB] at h
  rcases Bool.or_eq_true _ _ |>.mp h with h1 | h1
  · have h2 := List.contains_iff_mem.1 h1
    simp only [nineS, List.mem_cons, List.not_mem_nil, or_false] at h2
    rcases h2 with rfl | rfl | rfl | rfl | rfl | rfl | rfl | rfl
    · exact ⟨164, by omega, by decide⟩
    · exact ⟨166, by omega, by decide⟩
    · exact ⟨168, by omega, by decide⟩
    · exact ⟨180, by omega, by decide⟩
    · exact ⟨184, by omega, by decide⟩
    · exact ⟨188, by omega, by decide⟩
    · exact ⟨189, by omega, by decide⟩
    · exact ⟨190, by omega, by decide⟩
  · obtain ⟨h2, h3⟩ := Bool.and_eq_true _ _ |>.mp h1
    have h4 := of_decide_eq_true h2
    obtain ⟨n, rfl⟩ : ∃ n : Nat, c = n := ⟨c.toNat, by omega⟩
    have h5 := nine_of ⟨n, by omega⟩
    rcases h5 with h5 | h5
    · have h6 : nineO.contains (n : Int) = true := h5
      rw [h6] at h3; cases h3
    · exact ⟨n, by omega, h5⟩
theorem nine_none {c : Int} (h : ∀ n : Nat, n < 256 → sign9 n ≠ c) : nineB c = false := by
  cases hb : nineB c with
  | false => rfl
  | true => obtain ⟨n, h1, h2⟩ := nine_back hb; exact absurd h2 (h n h1)
def oneB (c : Int) : Bool := decide (0 ≤ c ∧ c < 256)
/-- Has a charset a number? -/
def hasB (n c : Int) : Bool :=
  if n = 1 then decide (0 ≤ c ∧ c < 128) else if n = 2 then oneB c else if n = 3 then nineB c else if n = 4 then (wput c).2 else if n = 5 then scB c else false
theorem hasB_not {n : Int} (c : Int) (h : ¬ (1 ≤ n ∧ n ≤ 5)) : hasB n c = false := by
  rw [hasB, if_neg (by omega), if_neg (by omega), if_neg (by omega), if_neg (by omega), if_neg (by omega)]
/-- Five answers as one number. -/
def enc (f : Int → Bool) : Int := (if f 1 then 2 else 0) + (if f 2 then 4 else 0) + (if f 3 then 8 else 0) + (if f 4 then 16 else 0) + (if f 5 then 32 else 0)
def enc5 (a b c d e : Bool) : Int := (if a then 2 else 0) + (if b then 4 else 0) + (if c then 8 else 0) + (if d then 16 else 0) + (if e then 32 else 0)
theorem enc_eq (f : Int → Bool) : enc f = enc5 (f 1) (f 2) (f 3) (f 4) (f 5) := rfl
theorem enc5_and : ∀ a b c d e a' b' c' d' e' : Bool, bits .and .i64 (enc5 a b c d e) (enc5 a' b' c' d' e') = enc5 (a && a') (b && b') (c && c') (d && d') (e && e') := by decide +kernel
theorem enc_and (f g : Int → Bool) : bits .and .i64 (enc f) (enc g) = enc fun n => f n && g n := by rw [enc_eq, enc_eq, enc_eq]; exact enc5_and _ _ _ _ _ _ _ _ _ _
theorem enc_rng (f : Int → Bool) : 0 ≤ enc f ∧ enc f ≤ 62 := by unfold enc; constructor <;> (repeat' split) <;> omega
/-- The first of them. -/
def low5 (a b c d e : Bool) : Int := if a then 1 else if b then 2 else if c then 3 else if d then 4 else if e then 5 else 0
def lowL (f : Int → Bool) : Int := low5 (f 1) (f 2) (f 3) (f 4) (f 5)
def noneL (f : Int → Bool) : Int := if lowL f = 0 then 7 else 0
theorem enc5_zero : ∀ a b c d e : Bool, (enc5 a b c d e == 0) = (low5 a b c d e == 0) := by decide
theorem low_rng (f : Int → Bool) : 0 ≤ lowL f ∧ lowL f ≤ 5 := by unfold lowL low5; constructor <;> (repeat' split) <;> omega
theorem low_at {f : Int → Bool} (h : lowL f ≠ 0) : f (lowL f) = true := by
  unfold lowL low5 at *
  repeat' split
  all_goals first | assumption | (exfalso; simp_all)
theorem low_least {f : Int → Bool} {k : Int} (h1 : 1 ≤ k) (h2 : k < lowL f) : f k = false := by
  have h5 := (low_rng f).2
  have h3 : k = 1 ∨ k = 2 ∨ k = 3 ∨ k = 4 := by omega
  unfold lowL low5 at h2
  rcases h3 with rfl | rfl | rfl | rfl
  all_goals
    cases hk : f _ with
    | false => rfl
    | true =>
      exfalso
      rw [hk] at h2
      revert h2
      repeat' split
      all_goals (intro h2; first | omega | simp_all)
theorem low_pos {f : Int → Bool} {k : Int} (h1 : 1 ≤ k) (h2 : k ≤ 5) (h : f k = true) : 1 ≤ lowL f ∧ lowL f ≤ k := by
  have h3 := (low_rng f).1
  have hne : lowL f ≠ 0 := by
    intro h0
    unfold lowL low5 at h0
    have h4 : k = 1 ∨ k = 2 ∨ k = 3 ∨ k = 4 ∨ k = 5 := by omega
    revert h0
    rcases h4 with rfl | rfl | rfl | rfl | rfl <;> rw [h] <;> (repeat' split) <;> (intro h0; first | omega | simp_all)
  refine ⟨by omega, ?_⟩
  rcases Int.lt_or_le k (lowL f) with hlt | hle
  · have := low_least h1 hlt
    rw [h] at this; cases this
  · exact hle
def cnt (n : Int) (k : Nat) : Nat := ((List.range k).filter fun c : Nat => hasB n (c : Int)).length
theorem cnt_succ (n : Int) (k : Nat) : cnt n (k + 1) = cnt n k + (if hasB n (k : Int) then 1 else 0) := by
  rw [cnt, cnt, List.range_succ, List.filter_append, List.length_append]
  congr 1
  cases h : hasB n (k : Int) <;> simp [h]
theorem cnt_le (n : Int) (k : Nat) : cnt n k ≤ k := by
  have := List.length_filter_le (fun c : Nat => hasB n (c : Int)) (List.range k)
  rw [List.length_range] at this; exact this
def sizeL (n : Int) : Int := if n = 5 then 1112064 else if n = 1 then 128 else if n = 2 then 256 else if n = 3 then 256 else if n = 4 then 251 else 0
theorem cnt_no {n : Int} (h : ¬ (1 ≤ n ∧ n ≤ 5)) (k : Nat) : cnt n k = 0 := by
  rw [cnt, List.length_eq_zero_iff, List.filter_eq_nil_iff]
  intro c _; rw [hasB_not _ h]; simp
end Go.Proofs.YtponfaglflmnkaaDoor
namespace Go.Proofs.YtponfaglflmnkaaDoor
open Go.RowKit

/-- In the world w the slice v reads as the cells cs. -/
def Row (w : World) (v : Value) (cs : List Value) : Prop :=
  ∃ a b off cap, v = .slice a cs.length cap ∧ cs.length ≤ cap ∧ cap ≤ maxLen ∧ (a = some ⟨b, off, none⟩ ∨ (cs = [] ∧ (a = none → cap = 0))) ∧
    (∀ u ∈ cs, u.oneCell' = true) ∧ ∀ i u, cs[i]? = some u → w.cell? ⟨b, off + i, none⟩ = some u

/-- The slice v is nil, or heads a block from B on, and its elements are cs. -/
def Own (B : Nat) (E : TypeId) (w : World) (v : Value) (cs : List Value) : Prop := w.ownsRow B E 1 v cs.length cs ∧ ∀ u ∈ cs, u.oneCell' = true

theorem Row.nil (w : World) : Row w (.slice none 0 0) [] := ⟨none, 0, 0, 0, rfl, by simp, by simp, .inr ⟨rfl, fun _ => rfl⟩, by simp, by simp⟩
theorem Own.nil (B : Nat) (E : TypeId) (w : World) : Own B E w (.slice none 0 0) [] := ⟨World.ownsRow_nil _ _ _ _, by simp⟩

theorem Own.row {B : Nat} {E : TypeId} {w : World} {v : Value} {cs : List Value} (h : Own B E w v cs) : Row w v cs := by
  obtain ⟨⟨h0, h⟩, h1⟩ := h
  rcases h with ⟨rfl, hn⟩ | ⟨g, cap, cur, rfl, _, hg, hc, hm, hs, ht⟩
  · obtain rfl : cs = [] := List.eq_nil_of_length_eq_zero hn
    exact Row.nil w
  · refine ⟨some ⟨g, 0, none⟩, g, 0, cap, rfl, hc, hm, .inl rfl, h1, fun i u hu => ?_⟩
    have := World.ownsRow.cells (w := w) (base := g) (e := E) (size := 1) (v := .slice (some ⟨g, 0, none⟩) cs.length cap) (n := cs.length) (xs := cs)
      ⟨by simp, .inr ⟨g, cap, cur, rfl, Nat.le_refl _, hg, hc, hm, hs, ht⟩⟩ (g := g) rfl i u hu
    have hadd : (⟨g, 0, none⟩ : Addr).add i = ⟨g, 0 + i, none⟩ := by unfold Addr.add; split <;> simp_all
    rwa [hadd] at this

theorem Row.below {w w' : World} {v : Value} {cs : List Value} (h : Row w v cs) (hb : Below w.heap.size w w') : Row w' v cs := by
  obtain ⟨a, b, off, cap, hv, hc, hm, ha, h1, hcell⟩ := h
  refine ⟨a, b, off, cap, hv, hc, hm, ha, h1, fun i u hu => ?_⟩
  have := hcell i u hu
  rw [← this]
  exact hb.cell (World.block_lt_of_cell? w _ this)

theorem Row.drew {w : World} {v : Value} {cs : List Value} (h : Row w v cs) : Row w.drew v cs := h.below ((Below.refl _ _).drew)
theorem Row.drewN {w : World} {v : Value} {cs : List Value} (h : Row w v cs) (n : Nat) : Row (w.drewN n) v cs := h.below ⟨rfl, rfl, rfl, Nat.le_refl _, fun _ _ => rfl⟩
theorem Row.alloc {w : World} {v : Value} {cs : List Value} (h : Row w v cs) (o : Obj) : Row (w.alloc o) v cs := h.below ((Below.refl _ _).alloc (Nat.le_refl _) o)

theorem Own.below {B : Nat} {E : TypeId} {w w' : World} {v : Value} {cs : List Value} (h : Own B E w v cs) (hb : Below w.heap.size w w') : Own B E w' v cs := by
  obtain ⟨h, h1⟩ := h
  refine ⟨h.kept (row := none) ⟨hb.os, hb.tape, hb.output, hb.size, fun k hk _ => hb.block k hk⟩ ?_, h1⟩
  cases v.ownBlock <;> simp
theorem Own.alloc {B : Nat} {E : TypeId} {w : World} {v : Value} {cs : List Value} (h : Own B E w v cs) (o : Obj) : Own B E (w.alloc o) v cs := h.below ((Below.refl _ _).alloc (Nat.le_refl _) o)
theorem Own.drew {B : Nat} {E : TypeId} {w : World} {v : Value} {cs : List Value} (h : Own B E w v cs) : Own B E w.drew v cs := h.below ((Below.refl _ _).drew)
theorem Own.mono {B B' : Nat} {E : TypeId} {w : World} {v : Value} {cs : List Value} (h : Own B E w v cs) (hB : B' ≤ B) : Own B' E w v cs := by
  obtain ⟨⟨h0, h⟩, h1⟩ := h
  refine ⟨⟨h0, ?_⟩, h1⟩
  rcases h with h | ⟨g, cap, cur, hv, hb, r⟩
  · exact .inl h
  · exact .inr ⟨g, cap, cur, hv, by omega, r⟩

theorem below_drewN {B : Nat} {a w : World} (h : Below B a w) (n : Nat) : Below B a (w.drewN n) := ⟨h.os, h.tape, h.output, h.size, h.block⟩

theorem below_own {B B' : Nat} {E : TypeId} {a w w' : World} {v : Value} {cs : List Value} (h : Below B a w) (hown : Own B' E w v cs) (hg : w.grownBy w' v.ownBlock) (hB : B ≤ w.heap.size) (hB' : B ≤ B') : Below B a w' :=
  h.grown hg hB (fun k hk => Nat.le_trans hB' (hown.1.lt k hk).1)

/-- What an append needs to know of a slice type t with elements e: one cell each. -/
def SlT (P : Program) (t e : TypeId) : Prop := P.underlying t = some (.slice e) ∧ ∃ i z, P.info? e = some i ∧ i.zero = some z ∧ i.size = 1 ∧ i.bytes ≤ 64 ∧ z.cells.size = 1
theorem SlT.mk {P : Program} {t e : TypeId} {z : Value} {bytes : Nat} (ht : P.underlying t = some (.slice e)) (h : (P.info? e).map (fun i => (i.zero, i.size, i.bytes)) = some (some z, 1, bytes)) (hb : bytes ≤ 64) (hz : z.cells.size = 1) : SlT P t e := by
  obtain ⟨i, h1, h2, h3, h4⟩ := info_parts h
  exact ⟨ht, i, z, h1, h2, h3, by omega, hz⟩

theorem wpList_wanted {P : Program} {w : World} {ops : Array Oper} {rest : List Oper} {o : Oper} {a : Act} {Q : Exit → Act → World → Prop}
    (hg : Region.wanted o (yielded ops a.tmps) = true) (h : o.wp P a w (wpList P ops Q rest) Q) : wpList P ops Q (o :: rest) a w := by
  unfold wpList; rw [if_pos hg]; exact .inl h

theorem addr_add (b off i : Nat) : (⟨b, off, none⟩ : Addr).add i = ⟨b, off + i, none⟩ := by unfold Addr.add; split <;> simp_all

/-- append(s, x...): s owned, x read as a row. -/
theorem wp_app {P : Program} {w : World} {o : Oper} {a : Act} {K : Act → World → Prop} {Q : Exit → Act → World → Prop} {t E : TypeId} (hT : SlT P t E) (B : Nat)
    (s x : Operand) (ho : o.op = .call { callee := .builtin .append, args := #[s, x], argTypes := #[t, t] })
    {v v2 : Value} (hs : a.eval s = v) (hx : a.eval x = v2) {cs ds : List Value} (hown : Own B E w v cs) (hrow : Row w v2 ds) (hb : cs.length + ds.length ≤ 1000000000) (hB : B ≤ w.heap.size)
    (h : ∀ v' w', Own B E w' v' (cs ++ ds) → w.grownBy w' v.ownBlock → K (a.put o.dst v') w') : o.wp P a w K Q := by
  obtain ⟨ht, i, z, hi, hz, hsize, hby, hzs⟩ := hT
  obtain ⟨a2, b2, off2, cap2, rfl, hc2, hm2, ha2, h12, hcell2⟩ := hrow
  cases a2 with
  | none =>
    obtain ⟨rfl, hc⟩ : ds = [] ∧ ((none : Option Addr) = none → cap2 = 0) := by
      rcases ha2 with h | h
      · cases h
      · exact h
    obtain rfl := hc rfl
    have hrun := run_append_owned_none (P := P) (w := w) B t o.type E i 1 ht hi v cs.length cs hown.1
    unfold Oper.wp
    simp [execOp, ho, resolve, invoke, builtin, hs, hx, hrun, Result.andThen]
    have := h v w (by simpa using hown) ⟨rfl, rfl, rfl, Nat.le_refl _, fun _ _ _ => rfl⟩
    exact this
  | some ad =>
    have hnews : ∀ j u, ds[j]? = some u → w.cell? (ad.add j) = some u := by
      intro j u hu
      rcases ha2 with h | h
      · obtain rfl : ad = ⟨b2, off2, none⟩ := by simpa using h
        rw [addr_add]; exact hcell2 j u hu
      · obtain ⟨rfl, _⟩ := h
        simp at hu
    have h3 : (cs.length + ds.length) * i.bytes ≤ 1000000000 * 64 := Nat.mul_le_mul hb hby
    exact wp_append_own w s x t ho B E i z 1 i.bytes ht hi hz hsize rfl hzs (by omega) v cs.length cs hs hown.1 ad ds.length cap2 ds (by simpa using hx) (by simp) hnews h12
      (by simp only [maxLen]; omega) (by omega) hB
      (fun v' w' h5 h6 _ => h v' w' ⟨by simpa using h5, by
        intro u hu
        rcases List.mem_append.1 hu with hu | hu
        · exact hown.2 u hu
        · exact h12 u hu⟩ h6)
theorem wpList_app {P : Program} {w : World} {ops : Array Oper} {rest : List Oper} {o : Oper} {a : Act} {Q : Exit → Act → World → Prop} {t E : TypeId} (hT : SlT P t E) (B : Nat)
    (s x : Operand) (hg : Region.wanted o (yielded ops a.tmps) = true) (ho : o.op = .call { callee := .builtin .append, args := #[s, x], argTypes := #[t, t] })
    {v v2 : Value} (hs : a.eval s = v) (hx : a.eval x = v2) {cs ds : List Value} (hown : Own B E w v cs) (hrow : Row w v2 ds) (hb : cs.length + ds.length ≤ 1000000000) (hB : B ≤ w.heap.size)
    (h : ∀ v' w', Own B E w' v' (cs ++ ds) → w.grownBy w' v.ownBlock → wpList P ops Q rest (a.put o.dst v') w') : wpList P ops Q (o :: rest) a w :=
  wpList_wanted hg (wp_app hT B s x ho hs hx hown hrow hb hB h)
/-- The same at a step of a region that draws its order. -/
theorem step_app {P : Program} {w : World} {ops : Array Oper} {o : Oper} {a : Act} {K : Act → World → Prop} {Q : Exit → Act → World → Prop} {F : Prop} {t E : TypeId} (hT : SlT P t E) (B : Nat)
    (s x : Operand) (hg : Region.wanted o (yielded ops a.tmps) = true) (ho : o.op = .call { callee := .builtin .append, args := #[s, x], argTypes := #[t, t] })
    {v v2 : Value} (hs : a.eval s = v) (hx : a.eval x = v2) {cs ds : List Value} (hown : Own B E w v cs) (hrow : Row w v2 ds) (hb : cs.length + ds.length ≤ 1000000000) (hB : B ≤ w.heap.size)
    (h : ∀ v' w', Own B E w' v' (cs ++ ds) → w.grownBy w' v.ownBlock → K (a.put o.dst v') w') : if Region.wanted o (yielded ops a.tmps) = true then Oper.wp P o a w K Q else F := by
  rw [if_pos hg]; exact wp_app hT B s x ho hs hx hown hrow hb hB h

theorem ret_bool {a b : Bool} (h : a = b) : Ending.returned (.bool a) = .returned (.bool b) := by rw [h]
theorem ret_int {k : IntKind} {a b : Int} (h : a = b) : Ending.returned (.int k a) = .returned (.int k b) := by rw [h]

/-- The cells of integers of one kind. -/
def ints (k : IntKind) (xs : List Int) : List Value := xs.map (.int k)
theorem ints_length (k : IntKind) (xs : List Int) : (ints k xs).length = xs.length := by simp [ints]
theorem ints_one (k : IntKind) (xs : List Int) : ∀ u ∈ ints k xs, u.oneCell' = true := by
  intro u hu; simp only [ints, List.mem_map] at hu; obtain ⟨x, _, rfl⟩ := hu; rfl
theorem ints_append (k : IntKind) (xs ys : List Int) : ints k (xs ++ ys) = ints k xs ++ ints k ys := by simp [ints]
theorem ints_get (k : IntKind) (xs : List Int) (i : Nat) : (ints k xs)[i]? = xs[i]?.map (.int k) := by simp [ints]

/-- The slice v reads as the integers xs. -/
theorem Row.int {k : IntKind} {w : World} {v : Value} {xs : List Int} (h : Row w v (ints k xs)) :
    ∃ a b off cap, v = .slice a xs.length cap ∧ xs.length ≤ cap ∧ cap ≤ maxLen ∧ (a = some ⟨b, off, none⟩ ∨ (xs = [] ∧ (a = none → cap = 0))) ∧
      ∀ i x, xs[i]? = some x → w.cell? ⟨b, off + i, none⟩ = some (.int k x) := by
  obtain ⟨a, b, off, cap, hv, hc, hm, ha, _, hcell⟩ := h
  simp only [ints_length] at hv hc
  refine ⟨a, b, off, cap, hv, hc, hm, ?_, fun i x hx => hcell i _ (by rw [ints_get, hx]; rfl)⟩
  rcases ha with h | ⟨h, h'⟩
  · exact .inl h
  · exact .inr ⟨by simpa [ints] using h, h'⟩

theorem Row.sub {w : World} {v : Value} {cs : List Value} (h : Row w v cs) (a : Option Addr) (cap : Nat) (hv : v = .slice a cs.length cap) (l hh : Nat) (h1 : l ≤ hh) (h2 : hh ≤ cs.length) :
    Row w (sliced a l hh cap 1) ((cs.take hh).drop l) := by
  obtain ⟨a', b, off, cap', hv', hc, hm, ha, hone, hcell⟩ := h
  rw [hv] at hv'
  simp only [Value.slice.injEq] at hv'
  obtain ⟨rfl, _, rfl⟩ := hv'
  have hlen : ((cs.take hh).drop l).length = hh - l := by simp; omega
  have hone' : ∀ u ∈ (cs.take hh).drop l, u.oneCell' = true := fun u hu => hone u (List.mem_of_mem_take (List.mem_of_mem_drop hu))
  have hget : ∀ i u, ((cs.take hh).drop l)[i]? = some u → cs[l + i]? = some u := by
    intro i u hu
    rw [List.getElem?_drop, List.getElem?_take] at hu
    split at hu
    · exact hu
    · cases hu
  unfold sliced
  by_cases hcl : cap = l
  · rw [if_pos hcl]
    have h0 : hh - l = 0 := by omega
    have hnil : (cs.take hh).drop l = [] := List.eq_nil_of_length_eq_zero (by omega)
    refine ⟨a, b, off, cap - l, by rw [hlen], by omega, by omega, ?_, hone', fun i u hu => by rw [hnil] at hu; simp at hu⟩
    rcases ha with rfl | ⟨hn, hz⟩
    · exact .inl rfl
    · exact .inr ⟨hnil, fun hh => by omega⟩
  · rw [if_neg hcl]
    refine ⟨_, b, off + l, cap - l, by rw [hlen], by omega, by omega, ?_, hone', fun i u hu => ?_⟩
    · rcases ha with rfl | ⟨rfl, hz⟩
      · exact .inl (by simp [addr_add])
      · refine .inr ⟨by simp, fun hn => ?_⟩
        have : a = none := by simpa using hn
        have := hz this
        omega
    · have := hcell (l + i) u (hget i u hu)
      rwa [Nat.add_assoc]

section
variable {P : Program} {w : World} {ops : Array Oper} {rest : List Oper} {o : Oper} {a : Act} {Q : Exit → Act → World → Prop} {t E : TypeId} (hT : SlT P t E)
include hT
theorem SlT.run : P.underlying t = some (.slice (P.elem t)) ∧ ∀ w : World, (sizeOf (P.elem t)).run P w = .ok 1 w := by
  obtain ⟨ht, i, z, hi, hz, hsize, hby, hzs⟩ := hT
  have he : P.elem t = E := by simp [Program.elem, ht]
  exact ⟨by rw [he]; exact ht, fun w => by rw [he]; simp [sizeOf, typeInfo, hi, hsize]⟩

/-- x[l:] -/
theorem wpList_slL (x l : Operand) (hg : Region.wanted o (yielded ops a.tmps) = true) (ho : o.op = .slice t x (some l) none none)
    {v : Value} {cs : List Value} {kl : IntKind} {k : Int} (hx : a.eval x = v) (hl : a.eval l = .int kl k) (hrow : Row w v cs) (h0 : 0 ≤ k) (h1 : k ≤ cs.length)
    (h : ∀ v', (∀ w' : World, Row w' v cs → Row w' v' (cs.drop k.toNat)) → wpList P ops Q rest (a.put o.dst v') w) : wpList P ops Q (o :: rest) a w := by
  obtain ⟨ht, hs⟩ := SlT.run hT
  obtain ⟨aa, b, off, cap, hv, hc, _⟩ := id hrow
  have := h _ (fun w' hr => by
    have hsub := Row.sub hr aa cap hv k.toNat cs.length (by omega) (Nat.le_refl _)
    rw [List.take_length] at hsub; exact hsub)
  refine wpList_wanted hg ?_
  unfold Oper.wp
  simp only [execOp, ho, Option.map_some, Option.map_none, hx, hl, hv]
  simp [run_sliceAt_slice w t _ _ _ _ ht, run_slice_l w t aa cs.length cap ht kl k h0 (by omega), hs, Result.andThen]
  exact this

/-- x[:h] -/
theorem wpList_slH (x l : Operand) (hg : Region.wanted o (yielded ops a.tmps) = true) (ho : o.op = .slice t x none (some l) none)
    {v : Value} {cs : List Value} {kl : IntKind} {k : Int} (hx : a.eval x = v) (hl : a.eval l = .int kl k) (hrow : Row w v cs) (h0 : 0 ≤ k) (h1 : k ≤ cs.length)
    (h : ∀ v', (∀ w' : World, Row w' v cs → Row w' v' (cs.take k.toNat)) → wpList P ops Q rest (a.put o.dst v') w) : wpList P ops Q (o :: rest) a w := by
  obtain ⟨ht, hs⟩ := SlT.run hT
  obtain ⟨aa, b, off, cap, hv, hc, _⟩ := id hrow
  have := h _ (fun w' hr => by
    have hsub := Row.sub hr aa cap hv 0 k.toNat (Nat.zero_le _) (by omega)
    rw [List.drop_zero] at hsub; exact hsub)
  refine wpList_wanted hg ?_
  unfold Oper.wp
  simp only [execOp, ho, Option.map_some, Option.map_none, hx, hl, hv]
  simp [run_sliceAt_slice w t _ _ _ _ ht, run_slice_h w t aa cs.length cap ht kl k h0 (by omega), hs, Result.andThen]
  exact this

/-- x[l:h] -/
theorem wpList_slLH (x l hh : Operand) (hg : Region.wanted o (yielded ops a.tmps) = true) (ho : o.op = .slice t x (some l) (some hh) none)
    {v : Value} {cs : List Value} {kl kh : IntKind} {k j : Int} (hx : a.eval x = v) (hl : a.eval l = .int kl k) (hh : a.eval hh = .int kh j) (hrow : Row w v cs) (h0 : 0 ≤ k) (h1 : k ≤ j) (h2 : j ≤ cs.length)
    (h : ∀ v', (∀ w' : World, Row w' v cs → Row w' v' ((cs.take j.toNat).drop k.toNat)) → wpList P ops Q rest (a.put o.dst v') w) : wpList P ops Q (o :: rest) a w := by
  obtain ⟨ht, hs⟩ := SlT.run hT
  obtain ⟨aa, b, off, cap, hv, hc, _⟩ := id hrow
  have := h _ (fun w' hr => Row.sub hr aa cap hv k.toNat j.toNat (by omega) (by omega))
  refine wpList_wanted hg ?_
  unfold Oper.wp
  simp only [execOp, ho, Option.map_some, Option.map_none, hx, hl, hh, hv]
  simp [run_sliceAt_slice w t _ _ _ _ ht, run_slice_lh w t aa cs.length cap ht kl kh k j h0 h1 (by omega), hs, Result.andThen]
  exact this
end

/-- The slice v reads as the integers xs: its form, and each cell, now and later. -/
theorem Row.op {k : IntKind} {w : World} {v : Value} {xs : List Int} (h : Row w v (ints k xs)) :
    ∃ a b off cap, v = .slice a xs.length cap ∧ Hid (∀ i, i < xs.length → ∃ x, Hid (xs[i]? = some x) ∧ a = some ⟨b, off, none⟩ ∧ ∀ w', Below w.heap.size w w' → w'.cell? ⟨b, off + i, none⟩ = some (.int k x)) := by
  obtain ⟨a, b, off, cap, rfl, hc, hm, ha, hcell⟩ := h.int
  refine ⟨a, b, off, cap, rfl, fun i hi => ⟨xs[i], List.getElem?_eq_getElem hi, ?_, fun w' hb => ?_⟩⟩
  · rcases ha with h | ⟨h, _⟩
    · exact h
    · subst h; simp at hi
  · have := hcell i xs[i] (List.getElem?_eq_getElem hi)
    rw [← this]; exact hb.cell (World.block_lt_of_cell? w _ this)

theorem Own.lit {w : World} {E : TypeId} {B : Nat} (cs : List Value) (hone : ∀ u ∈ cs, u.oneCell' = true) (hB : B ≤ w.heap.size) (hl : cs.length ≤ 1000000000) :
    Own B E (w.alloc (.cells cs.toArray E)) (.slice (some ⟨w.heap.size, 0, none⟩) cs.length cs.length) cs :=
  ⟨⟨by simp, .inr ⟨w.heap.size, cs.length, cs.toArray, rfl, hB, heap_alloc_new w _, Nat.le_refl _, by simp only [maxLen]; omega, by simp, by simp⟩⟩, hone⟩
/-- A literal of integers. -/
theorem Own.ilit {w : World} {E : TypeId} {B : Nat} {k : IntKind} (xs : List Int) (cs : List Value) (hx : ints k xs = cs) (hB : B ≤ w.heap.size) (hl : cs.length ≤ 1000000000) :
    Own B E (w.alloc (.cells cs.toArray E)) (.slice (some ⟨w.heap.size, 0, none⟩) cs.length cs.length) (ints k xs) := by
  subst hx; exact Own.lit _ (ints_one _ _) hB hl
theorem Row.lit {w : World} {E : TypeId} (cs : List Value) (hone : ∀ u ∈ cs, u.oneCell' = true) (hl : cs.length ≤ 1000000000) :
    Row (w.alloc (.cells cs.toArray E)) (.slice (some ⟨w.heap.size, 0, none⟩) cs.length cs.length) cs := (Own.lit (B := 0) cs hone (Nat.zero_le _) hl).row
theorem Row.ilit {w : World} {E : TypeId} {k : IntKind} (xs : List Int) (cs : List Value) (hx : ints k xs = cs) (hl : cs.length ≤ 1000000000) :
    Row (w.alloc (.cells cs.toArray E)) (.slice (some ⟨w.heap.size, 0, none⟩) cs.length cs.length) (ints k xs) := (Own.ilit (B := 0) xs cs hx (Nat.zero_le _) hl).row
theorem below_alloc (w : World) (o : Obj) : Below w.heap.size w (w.alloc o) := (Below.refl _ _).alloc (Nat.le_refl _) o
theorem ret_val {a b : Value} (h : a = b) : Ending.returned a = .returned b := by rw [h]

theorem iv {k : IntKind} {a b : Int} (h : a = b) : Value.int k a = Value.int k b := by rw [h]
theorem bv {a b : Bool} (h : a = b) : Value.bool a = Value.bool b := by rw [h]
theorem ret2 {a a' b b' : Value} (h1 : a = a') (h2 : b = b') : Ending.returned (.tuple #[a, b]) = .returned (.tuple #[a', b']) := by rw [h1, h2]
theorem ret3 {a a' b b' c c' : Value} (h1 : a = a') (h2 : b = b') (h3 : c = c') : Ending.returned (.tuple #[a, b, c]) = .returned (.tuple #[a', b', c']) := by rw [h1, h2, h3]

/-- The length in a slot: for a loop's measure. -/
def lenOf : Value → Nat | .slice _ n _ => n | _ => 0
theorem Row.len {w : World} {v : Value} {cs : List Value} (h : Row w v cs) : lenOf v = cs.length := by
  obtain ⟨a, b, off, cap, rfl, _⟩ := h; rfl
theorem ints_drop (k : IntKind) (xs : List Int) (n : Nat) : (ints k xs).drop n = ints k (xs.drop n) := by simp [ints]
theorem ints_take (k : IntKind) (xs : List Int) (n : Nat) : (ints k xs).take n = ints k (xs.take n) := by simp [ints]

theorem below_app {E : TypeId} {w wr w1 w2 : World} {v : Value} {cs : List Value} (hb : Below w.heap.size w wr) (hb1 : Below wr.heap.size wr w1) (hown : Own w.heap.size E w1 v cs) (hg : w1.grownBy w2 v.ownBlock) : Below w.heap.size w w2 :=
  below_own (hb.trans (hb1.mono hb.size)) hown hg (Nat.le_trans hb.size hb1.size) (Nat.le_refl _)
theorem below_size2 {w wr w1 : World} (hb : Below w.heap.size w wr) (hb1 : Below wr.heap.size wr w1) : w.heap.size ≤ w1.heap.size := Nat.le_trans hb.size hb1.size
theorem below_trans {w wr w1 : World} (hb : Below w.heap.size w wr) (hb1 : Below wr.heap.size wr w1) : Below w.heap.size w w1 := hb.trans (hb1.mono hb.size)

/-- All fit their kind. -/
def WF (k : IntKind) (xs : List Int) : Prop := ∀ x ∈ xs, (Lit.int k x).wf = true
theorem Row.ofIs {k : IntKind} {w : World} {a : Option Addr} {len cap : Nat} {zs : List Int}
    (h : (a = none ∧ len = 0 ∧ cap = 0 ∧ zs = []) ∨
      ∃ x, a = some x ∧ len ≤ cap ∧ cap ≤ maxLen ∧ zs.length = cap ∧ (∀ i, i < zs.length → w.cell? (x.add i) = some (.int k (zs.getD i 0))) ∧ ∀ n ∈ zs, (Lit.int k n).wf = true) :
    ∃ xs, Row w (.slice a len cap) (ints k xs) ∧ WF k xs := by
  rcases h with ⟨rfl, rfl, rfl, rfl⟩ | ⟨x, rfl, hl, hm, hz, hcell, hwf⟩
  · exact ⟨[], Row.nil w, fun x hx => by simp at hx⟩
  · have hlen : (ints k (zs.take len)).length = len := by simp [ints]; omega
    refine ⟨zs.take len, ?_, fun y hy => hwf y (List.mem_of_mem_take hy)⟩
    by_cases hc0 : cap = 0
    · obtain rfl : len = 0 := by omega
      exact ⟨some x, 0, 0, cap, by rw [hlen], by omega, hm, .inr ⟨by simp [ints], fun h => by cases h⟩, ints_one _ _, fun i u hu => by simp [ints] at hu⟩
    · obtain ⟨b, off, spot⟩ := x
      have h0 := hcell 0 (by omega)
      have hspot : spot = none := by simpa [Addr.add] using World.cell?_spot h0
      subst hspot
      refine ⟨some ⟨b, off, none⟩, b, off, cap, by rw [hlen], by omega, hm, .inl rfl, ints_one _ _, fun i u hu => ?_⟩
      rw [ints_get, List.getElem?_take] at hu
      split at hu
      · rename_i hi
        have := hcell i (by omega)
        rw [addr_add] at this
        rw [this]
        rw [List.getElem?_eq_getElem (by omega : i < zs.length)] at hu
        simp only [Option.map_some, Option.some.injEq] at hu
        rw [← hu]
        simp [List.getD, List.getElem?_eq_getElem (by omega : i < zs.length)]
      · simp at hu
theorem wf_u8 {x : Int} (h : (Lit.int .u8 x).wf = true) : 0 ≤ x ∧ x < 256 := by simp [Lit.wf, IntKind.min, IntKind.max, IntKind.bits, IntKind.signed] at h; omega
theorem wf_u16 {x : Int} (h : (Lit.int .u16 x).wf = true) : 0 ≤ x ∧ x < 65536 := by simp [Lit.wf, IntKind.min, IntKind.max, IntKind.bits, IntKind.signed] at h; omega
theorem wf_i32 {x : Int} (h : (Lit.int .i32 x).wf = true) : -2147483648 ≤ x ∧ x ≤ 2147483647 := by simp [Lit.wf, IntKind.min, IntKind.max, IntKind.bits, IntKind.signed] at h; omega
theorem wf_i64 {x : Int} (h : (Lit.int .i64 x).wf = true) : -9223372036854775808 ≤ x ∧ x ≤ 9223372036854775807 := by simp [Lit.wf, IntKind.min, IntKind.max, IntKind.bits, IntKind.signed] at h; omega
end Go.Proofs.YtponfaglflmnkaaDoor
namespace Go.Proofs.YtponfaglflmnkaaDoor
open Go.RowKit
set_option maxHeartbeats 400000

theorem surrogate_any (c : Int) (w : World) :
    Calls Tryd.prog 74 #[.int .i32 c] w fun e w' => e = .returned (.bool (surB c)) ∧ w = w' := by
  go_enter Tryd.func74, Tryd.ntmps74
  go_wp2
  all_goals (go_ret; exact ⟨ret_bool (by rw [surB, eq_comm]; simp; try omega), rfl⟩)
theorem is_any (c : Int) (w : World) (h1 : -2147483648 ≤ c) (h2 : c ≤ 2147483647) :
    Calls Tryd.prog 63 #[.int .i32 c] w fun e w' => e = .returned (.bool (scB c)) ∧ w = w' := by
  go_enter Tryd.func63, Tryd.ntmps63
  go_wp2_with (go_at_call 74; refine (surrogate_any _ _).mono ?_; rintro e w' ⟨rfl, rfl⟩)
  all_goals (go_ret; exact ⟨ret_bool (by rw [Bool.eq_iff_iff]; simp [scB, surB]; omega), rfl⟩)
theorem rsur_any (c : Int) (w : World) :
    Calls Tryd.prog 75 #[.int .i32 c] w fun e w' => e = .returned (.bool (surB c)) ∧ w = w' := by
  go_enter Tryd.func75, Tryd.ntmps75
  go_wp2
  all_goals (go_ret; exact ⟨ret_bool (by rw [Bool.eq_iff_iff]; simp [surB]; try omega), rfl⟩)
theorem ris_any (c : Int) (w : World) :
    Calls Tryd.prog 66 #[.int .i32 c] w fun e w' => e = .returned (.bool (scB c)) ∧ w = w' := by
  go_enter Tryd.func66, Tryd.ntmps66
  go_wp2_with (go_at_call 75; refine (rsur_any _ _).mono ?_; rintro e w' ⟨rfl, rfl⟩)
  all_goals (go_ret; exact ⟨ret_bool (by rw [Bool.eq_iff_iff]; simp [scB, surB]; omega), rfl⟩)

end Go.Proofs.YtponfaglflmnkaaDoor
namespace Go.Proofs.YtponfaglflmnkaaDoor
theorem slT_i32 : SlT Tryd.prog 22 21 := SlT.mk (z := .int .i32 0) (bytes := 4) (by kernel_rfl) (by kernel_rfl) (by omega) rfl
theorem slT_u8 : SlT Tryd.prog 24 5 := SlT.mk (z := .int .u8 0) (bytes := 1) (by kernel_rfl) (by kernel_rfl) (by omega) rfl
end Go.Proofs.YtponfaglflmnkaaDoor
