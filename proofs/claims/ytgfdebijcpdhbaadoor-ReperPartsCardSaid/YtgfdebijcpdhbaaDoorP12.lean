/- Plain: repertoires. -/
import Derived.Test.YtgfdebijcpdhbaaDoorP10
import Derived.WalkKit
namespace Go.Proofs.YtgfdebijcpdhbaaDoor
/-- latin nine: its octets and signs that part from latin one's. -/
def nineO : List Int := [164, 166, 168, 180, 184, 188, 189, 190]
def nineS : List Int := [8364, 352, 353, 381, 382, 338, 339, 376]
def sign9 (x : Int) : Int :=
  if x = 164 then 8364 else if x = 166 then 352 else if x = 168 then 353 else if x = 180 then 381 else if x = 184 then 382 else if x = 188 then 338 else if x = 189 then 339 else if x = 190 then 376 else x
def nineB (c : Int) : Bool := nineS.contains c || (decide (0 ≤ c ∧ c < 256) && !nineO.contains c)
theorem nine_sign : ∀ n : Fin 256, nineB (sign9 n.val) = true ∧ sign9 n.val ≠ 65533 := by decide +kernel
theorem nine_of : ∀ n : Fin 256, nineO.contains (n.val : Int) = true ∨ sign9 n.val = n.val := by decide +kernel
theorem nine_back {c : Int} (h : nineB c = true) : ∃ n : Nat, n < 256 ∧ sign9 n = c := by
  rw [nineB] at h
  rcases Bool.or_eq_true _ _ |>.mp h with h1 | h1
  · have h2 := List.contains_iff_mem.1 h1
    simp only [nineS, List.mem_cons, List.not_mem_nil, or_false] at h2
    rcases h2 with rfl | rfl | rfl | rfl | rfl | rfl | rfl | rfl
    · exact ⟨164, by omega, by decide⟩
    · exact ⟨166, by omega, by decide⟩
    · exact ⟨168, by omega, by decide⟩
    · exact ⟨180, by omega, by decide⟩
    · exact ⟨184, by omega, by decide⟩
    · exact ⟨188, by omega, by decide⟩
    · exact ⟨189, by omega, by decide⟩
    · exact ⟨190, by omega, by decide⟩
  · obtain ⟨h2, h3⟩ := Bool.and_eq_true _ _ |>.mp h1
    have h4 := of_decide_eq_true h2
    obtain ⟨n, rfl⟩ : ∃ n : Nat, c = n := ⟨c.toNat, by omega⟩
    have h5 := nine_of ⟨n, by omega⟩
    rcases h5 with h5 | h5
    · have h6 : nineO.contains (n : Int) = true := h5
      rw [h6] at h3; cases h3
    · exact ⟨n, by omega, h5⟩
theorem nine_none {c : Int} (h : ∀ n : Nat, n < 256 → sign9 n ≠ c) : nineB c = false := by
  cases hb : nineB c with
  | false => rfl
  | true => obtain ⟨n, h1, h2⟩ := nine_back hb; exact absurd h2 (h n h1)
def oneB (c : Int) : Bool := decide (0 ≤ c ∧ c < 256)
/-- Has a charset a number? -/
def hasB (n c : Int) : Bool :=
  if n = 1 then decide (0 ≤ c ∧ c < 128) else if n = 2 then oneB c else if n = 3 then nineB c else if n = 4 then (wput c).2 else if n = 5 then scB c else false
theorem hasB_not {n : Int} (c : Int) (h : ¬ (1 ≤ n ∧ n ≤ 5)) : hasB n c = false := by
  rw [hasB, if_neg (by omega), if_neg (by omega), if_neg (by omega), if_neg (by omega), if_neg (by omega)]
/-- Five answers as one number. -/
def enc (f : Int → Bool) : Int := (if f 1 then 2 else 0) + (if f 2 then 4 else 0) + (if f 3 then 8 else 0) + (if f 4 then 16 else 0) + (if f 5 then 32 else 0)
def enc5 (a b c d e : Bool) : Int := (if a then 2 else 0) + (if b then 4 else 0) + (if c then 8 else 0) + (if d then 16 else 0) + (if e then 32 else 0)
theorem enc_eq (f : Int → Bool) : enc f = enc5 (f 1) (f 2) (f 3) (f 4) (f 5) := rfl
theorem enc5_and : ∀ a b c d e a' b' c' d' e' : Bool, bits .and .i64 (enc5 a b c d e) (enc5 a' b' c' d' e') = enc5 (a && a') (b && b') (c && c') (d && d') (e && e') := by decide +kernel
theorem enc_and (f g : Int → Bool) : bits .and .i64 (enc f) (enc g) = enc fun n => f n && g n := by rw [enc_eq, enc_eq, enc_eq]; exact enc5_and _ _ _ _ _ _ _ _ _ _
theorem enc_rng (f : Int → Bool) : 0 ≤ enc f ∧ enc f ≤ 62 := by unfold enc; constructor <;> (repeat' split) <;> omega
/-- The first of them. -/
def low5 (a b c d e : Bool) : Int := if a then 1 else if b then 2 else if c then 3 else if d then 4 else if e then 5 else 0
def lowL (f : Int → Bool) : Int := low5 (f 1) (f 2) (f 3) (f 4) (f 5)
def noneL (f : Int → Bool) : Int := if lowL f = 0 then 7 else 0
theorem enc5_zero : ∀ a b c d e : Bool, (enc5 a b c d e == 0) = (low5 a b c d e == 0) := by decide
theorem low_rng (f : Int → Bool) : 0 ≤ lowL f ∧ lowL f ≤ 5 := by unfold lowL low5; constructor <;> (repeat' split) <;> omega
theorem low_at {f : Int → Bool} (h : lowL f ≠ 0) : f (lowL f) = true := by
  unfold lowL low5 at *
  repeat' split
  all_goals first | assumption | (exfalso; simp_all)
theorem low_least {f : Int → Bool} {k : Int} (h1 : 1 ≤ k) (h2 : k < lowL f) : f k = false := by
  have h5 := (low_rng f).2
  have h3 : k = 1 ∨ k = 2 ∨ k = 3 ∨ k = 4 := by omega
  unfold lowL low5 at h2
  rcases h3 with rfl | rfl | rfl | rfl
  all_goals
    cases hk : f _ with
    | false => rfl
    | true =>
      exfalso
      rw [hk] at h2
      revert h2
      repeat' split
      all_goals (intro h2; first | omega | simp_all)
theorem low_pos {f : Int → Bool} {k : Int} (h1 : 1 ≤ k) (h2 : k ≤ 5) (h : f k = true) : 1 ≤ lowL f ∧ lowL f ≤ k := by
  have h3 := (low_rng f).1
  have hne : lowL f ≠ 0 := by
    intro h0
    unfold lowL low5 at h0
    have h4 : k = 1 ∨ k = 2 ∨ k = 3 ∨ k = 4 ∨ k = 5 := by omega
    revert h0
    rcases h4 with rfl | rfl | rfl | rfl | rfl <;> rw [h] <;> (repeat' split) <;> (intro h0; first | omega | simp_all)
  refine ⟨by omega, ?_⟩
  rcases Int.lt_or_le k (lowL f) with hlt | hle
  · have := low_least h1 hlt
    rw [h] at this; cases this
  · exact hle
def cnt (n : Int) (k : Nat) : Nat := ((List.range k).filter fun c : Nat => hasB n (c : Int)).length
theorem cnt_succ (n : Int) (k : Nat) : cnt n (k + 1) = cnt n k + (if hasB n (k : Int) then 1 else 0) := by
  rw [cnt, cnt, List.range_succ, List.filter_append, List.length_append]
  congr 1
  cases h : hasB n (k : Int) <;> simp [h]
theorem cnt_le (n : Int) (k : Nat) : cnt n k ≤ k := by
  have := List.length_filter_le (fun c : Nat => hasB n (c : Int)) (List.range k)
  rw [List.length_range] at this; exact this
def sizeL (n : Int) : Int := if n = 5 then 1112064 else if n = 1 then 128 else if n = 2 then 256 else if n = 3 then 256 else if n = 4 then 251 else 0
theorem cnt_no {n : Int} (h : ¬ (1 ≤ n ∧ n ≤ 5)) (k : Nat) : cnt n k = 0 := by
  rw [cnt, List.length_eq_zero_iff, List.filter_eq_nil_iff]
  intro c _; rw [hasB_not _ h]; simp
end Go.Proofs.YtgfdebijcpdhbaaDoor
