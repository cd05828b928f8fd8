/- Walks: direct signs, seven bits. · Walks: kinds of octets, whole: the program's and the reference's. · Plain: gaps, comments, dotted words, messages' names. · Plain: words between dots, cut one behind the other. · Plain: a message's name, laid and read. · Plain: a thread of messages' names. · Plain: Punycode's numbers, and how a text is read. · Plain: Punycode: where the plain octets end, a text read, a host's name. · Walks: Punycode's bias. · Walks: Punycode's bias by the reference; digits; edges. · Walks: tokens and blanks, told and counted. (laid together by program out of single texts). -/
import Derived.Test.YtfhfhfadebcbfaaM2
import Derived.Test.YtfhfhfadebcbfaaM6
import Derived.Test.YtfhfhfadebcbfaaM8
import Derived.Test.YtfhfhfadebcbfaaM9
namespace Go.Proofs.Ytfhfhfadebcbfaa
open Go.RowKit
set_option maxHeartbeats 2000000
def dirL : List Int := [39, 40, 41, 44, 45, 46, 47, 58, 63, 32, 9, 13, 10]
def dirB (c : Int) : Bool := isAl c || dirL.contains c
def sevB (c : Int) : Bool := decide (c ≤ 126 ∧ (32 ≤ c ∨ c = 9 ∨ c = 10 ∨ c = 13))
theorem idx_dir {c : Int} (h0 : 0 ≤ c) (h1 : c < 256) : decide (0 ≤ Lib.indexByte [39, 40, 41, 44, 45, 46, 47, 58, 63, 32, 9, 13, 10] c.toNat.toUInt8) = dirL.contains c := by
  have key : ∀ n : Nat, n < 256 → decide (0 ≤ Lib.indexByte [39, 40, 41, 44, 45, 46, 47, 58, 63, 32, 9, 13, 10] n.toUInt8) = dirL.contains (n : Int) := by decide +kernel
  have := key c.toNat (by omega)
  rwa [Int.toNat_of_nonneg h0] at this
theorem idx_lines {c : Int} (h0 : 0 ≤ c) (h1 : c < 256) : decide (Lib.indexByte [9, 13, 10] c.toNat.toUInt8 < 0) = !decide (c = 9 ∨ c = 10 ∨ c = 13) := by
  have key : ∀ n : Nat, n < 256 → decide (Lib.indexByte [9, 13, 10] n.toUInt8 < 0) = !decide ((n : Int) = 9 ∨ (n : Int) = 10 ∨ (n : Int) = 13) := by decide +kernel
  have := key c.toNat (by omega)
  rwa [Int.toNat_of_nonneg h0] at this
theorem sev_eq {c : Int} (h0 : 0 ≤ c) (h1 : c < 256) : sevB c = !(decide (128 ≤ c) || (isCtl c && !decide (c = 9 ∨ c = 10 ∨ c = 13))) := by
  rw [sevB, isCtl]
  by_cases a : c ≤ 126 ∧ (32 ≤ c ∨ c = 9 ∨ c = 10 ∨ c = 13)
  · rw [decide_eq_true a]
    by_cases b : c < 32 ∨ c = 127
    · rw [decide_eq_true b, decide_eq_false (show ¬ 128 ≤ c by omega), decide_eq_true (show c = 9 ∨ c = 10 ∨ c = 13 by omega)]; rfl
    · rw [decide_eq_false b, decide_eq_false (show ¬ 128 ≤ c by omega)]; rfl
  · rw [decide_eq_false a]
    by_cases b : 128 ≤ c
    · rw [decide_eq_true b]; rfl
    · rw [decide_eq_true (show c < 32 ∨ c = 127 by omega), decide_eq_false (show ¬ (c = 9 ∨ c = 10 ∨ c = 13) by omega), decide_eq_false b]; rfl
end Go.Proofs.Ytfhfhfadebcbfaa
namespace Go.Proofs.Ytfhfhfadebcbfaa
open Go.RowKit
set_option maxHeartbeats 4000000
set_option maxRecDepth 100000
def blB (c : Int) : Bool := decide (c = 32 ∨ c = 9)
def dgB (c : Int) : Bool := decide (48 ≤ c ∧ c ≤ 57)
def ltB (c : Int) : Bool := decide ((65 ≤ c ∧ c ≤ 90) ∨ (97 ≤ c ∧ c ≤ 122))
def prB (c : Int) : Bool := decide (33 ≤ c ∧ c ≤ 126)
def spB (c : Int) : Bool := [40, 41, 60, 62, 64, 44, 59, 58, 92, 34, 47, 91, 93, 63, 61].contains c
def wdB (c : Int) : Bool := [33, 42, 43, 45, 47].contains c
def naB (c : Int) : Bool := [42, 39, 37].contains c
def bsB (c : Int) : Bool := [43, 47].contains c
def b2i (b : Bool) (n : Int) : Int := if b then n else 0
def kindS (ct bl dg lt pr sp wd na bs : Bool) : Int :=
  b2i ct 1 + b2i bl 2 + b2i pr 4 + b2i dg 8 + b2i lt 16 + b2i sp 32 + b2i (pr && !sp) 64 + b2i (lt || (dg || wd)) 128 + b2i (pr && (!sp && !na)) 256 + b2i (lt || (dg || bs)) 512
def kindN (c : Int) : Int := kindS (isCtl c) (blB c) (dgB c) (ltB c) (prB c) (spB c) (wdB c) (naB c) (bsB c)
theorem kcl (c : Int) : (c = 9 ∨ c = 32 ∨ (c < 32 ∧ c ≠ 9) ∨ c = 127 ∨ (48 ≤ c ∧ c ≤ 57) ∨ (65 ≤ c ∧ c ≤ 90) ∨ (97 ≤ c ∧ c ≤ 122) ∨ 127 < c ∨ (32 < c ∧ c < 127 ∧ ¬ (48 ≤ c ∧ c ≤ 57) ∧ ¬ (65 ≤ c ∧ c ≤ 90) ∧ ¬ (97 ≤ c ∧ c ≤ 122))) := by
  omega
theorem sp_al {c : Int} (h : (48 ≤ c ∧ c ≤ 57) ∨ (65 ≤ c ∧ c ≤ 90) ∨ (97 ≤ c ∧ c ≤ 122)) : spB c = false ∧ wdB c = false ∧ naB c = false ∧ bsB c = false := by
  refine ⟨?_, ?_, ?_, ?_⟩ <;> (simp only [spB, wdB, naB, bsB, List.contains_eq_mem, decide_eq_false_iff_not, List.mem_cons, List.not_mem_nil, or_false]; omega)
theorem sp_out {c : Int} (h : c < 33 ∨ 126 < c) : spB c = false ∧ wdB c = false ∧ naB c = false ∧ bsB c = false := by
  refine ⟨?_, ?_, ?_, ?_⟩ <;> (simp only [spB, wdB, naB, bsB, List.contains_eq_mem, decide_eq_false_iff_not, List.mem_cons, List.not_mem_nil, or_false]; omega)
theorem idx_in (l : List UInt8) (zs : List Int) (h : ∀ n : Nat, n < 256 → decide (0 ≤ Lib.indexByte l n.toUInt8) = zs.contains (n : Int)) {c : Int} (h0 : 0 ≤ c) (h1 : c < 256) : decide (0 ≤ Lib.indexByte l c.toNat.toUInt8) = zs.contains c := by
  have := h c.toNat (by omega)
  rwa [Int.toNat_of_nonneg h0] at this
def inV (s : ByteArray) (c : Int) : Bool := decide (0 ≤ Lib.indexByte s.data.toList c.toNat.toUInt8)
theorem keyS : ∀ n : Nat, n < 256 → decide (0 ≤ Lib.indexByte [40, 41, 60, 62, 64, 44, 59, 58, 92, 34, 47, 91, 93, 63, 61] n.toUInt8) = ([40, 41, 60, 62, 64, 44, 59, 58, 92, 34, 47, 91, 93, 63, 61] : List Int).contains (n : Int) := by decide +kernel
theorem keyW : ∀ n : Nat, n < 256 → decide (0 ≤ Lib.indexByte [33, 42, 43, 45, 47] n.toUInt8) = ([33, 42, 43, 45, 47] : List Int).contains (n : Int) := by decide +kernel
theorem keyA : ∀ n : Nat, n < 256 → decide (0 ≤ Lib.indexByte [42, 39, 37] n.toUInt8) = ([42, 39, 37] : List Int).contains (n : Int) := by decide +kernel
theorem keyB : ∀ n : Nat, n < 256 → decide (0 ≤ Lib.indexByte [43, 47] n.toUInt8) = ([43, 47] : List Int).contains (n : Int) := by decide +kernel
end Go.Proofs.Ytfhfhfadebcbfaa
namespace Go.Proofs.Ytfhfhfadebcbfaa
def tokB (c : Int) : Bool := prB c && !spB c
/-- How many octets a comment has, so deep, the next octet taken or not. -/
def cmt : Int → Bool → List Int → Nat
  | _, _, [] => 0
  | d, t, c :: r => if t = true then 1 + cmt d false r else if c = 92 then 1 + cmt d true r else if c = 40 then 1 + cmt (d + 1) false r else if c = 41 then (if d - 1 = 0 then 1 else 1 + cmt (d - 1) false r) else 1 + cmt d false r
theorem cmt_len : ∀ (xs : List Int) (d : Int) (t : Bool), cmt d t xs ≤ xs.length
  | [], _, _ => Nat.le_refl _
  | c :: r, d, t => by
    have h := fun d t => cmt_len r d t
    rw [cmt, List.length_cons]
    split
    · have := h d false; omega
    · split
      · have := h d true; omega
      · split
        · have := h (d + 1) false; omega
        · split
          · split
            · omega
            · have := h (d - 1) false; omega
          · have := h d false; omega
theorem cmt_pos (c : Int) (r : List Int) (d : Int) (t : Bool) : 1 ≤ cmt d t (c :: r) := by
  rw [cmt]
  split
  · omega
  · split
    · omega
    · split
      · omega
      · split
        · split <;> omega
        · omega
/-- How many octets a gap has. -/
def gp : List Int → Nat
  | [] => 0
  | c :: r => if c = 40 then cmt 0 false (c :: r) + gp ((c :: r).drop (cmt 0 false (c :: r))) else if c = 13 ∨ c = 10 ∨ blB c = true then 1 + gp r else 0
termination_by xs => xs.length
decreasing_by
  · have := cmt_pos c r 0 false
    simp only [List.length_drop, List.length_cons]; omega
  · simp
theorem gp_nil : gp [] = 0 := by rw [gp]
theorem gp_cons (c : Int) (r : List Int) : gp (c :: r) = if c = 40 then cmt 0 false (c :: r) + gp ((c :: r).drop (cmt 0 false (c :: r))) else if c = 13 ∨ c = 10 ∨ blB c = true then 1 + gp r else 0 := by rw [gp]
theorem gp_le : ∀ (n : Nat) (xs : List Int), xs.length ≤ n → gp xs ≤ xs.length
  | 0, xs, h => by obtain rfl : xs = [] := List.eq_nil_of_length_eq_zero (by omega); rw [gp_nil]; omega
  | n + 1, [], _ => by rw [gp_nil]; omega
  | n + 1, c :: r, h => by
    rw [gp_cons]
    have h1 := cmt_len (c :: r) 0 false
    have h2 := cmt_pos c r 0 false
    simp only [List.length_cons] at h h1 ⊢
    split
    · have := gp_le n ((c :: r).drop (cmt 0 false (c :: r))) (by simp only [List.length_drop, List.length_cons]; omega)
      simp only [List.length_drop, List.length_cons] at this
      omega
    · split
      · have := gp_le n r (by omega); omega
      · omega
theorem gp_len (xs : List Int) : gp xs ≤ xs.length := gp_le _ xs (Nat.le_refl _)
/-- Words between dots. -/
def pcs : List Int → List (List Int)
  | [] => [[]]
  | c :: r => if c = 46 then [] :: pcs r else match pcs r with
    | [] => [[c]]
    | p :: l => (c :: p) :: l
def okP (p : List Int) : Bool := decide (0 < p.length) && p.all tokB
def dotB (xs : List Int) : Bool := (pcs xs).all okP
def dotR : Nat → List Int → Bool
  | n, [] => decide (0 < n)
  | n, c :: r => if c = 46 then decide (0 < n) && dotR 0 r else tokB c && dotR (n + 1) r
theorem pcs_ne (xs : List Int) : ∃ p l, pcs xs = p :: l := by
  cases xs with
  | nil => exact ⟨_, _, rfl⟩
  | cons c r =>
    rw [pcs]; split
    · exact ⟨_, _, rfl⟩
    · split <;> exact ⟨_, _, rfl⟩
theorem dotR_eq : ∀ (xs : List Int) (n : Nat) (p : List Int) (l : List (List Int)), pcs xs = p :: l → dotR n xs = (decide (0 < n + p.length) && (p.all tokB && l.all okP))
  | [], n, p, l, h => by
    rw [pcs] at h
    cases h
    simp [dotR]
  | c :: r, n, p, l, h => by
    obtain ⟨p2, l2, h2⟩ := pcs_ne r
    rw [pcs] at h
    rw [dotR]
    split
    · rename_i hc
      rw [if_pos hc, h2] at h
      cases h
      rw [dotR_eq r 0 p2 l2 h2]
      simp [okP, Bool.and_assoc]
    · rename_i hc
      rw [if_neg hc, h2] at h
      simp only at h
      cases h
      rw [dotR_eq r (n + 1) _ _ h2]
      have e1 : decide (0 < n + 1 + p2.length) = true := decide_eq_true (by omega)
      have e2 : decide (0 < n + (c :: p2).length) = true := decide_eq_true (by simp only [List.length_cons]; omega)
      rw [e1, e2, Bool.true_and, Bool.true_and, List.all_cons, Bool.and_assoc]
theorem dotR_dot (xs : List Int) : dotR 0 xs = dotB xs := by
  obtain ⟨p, l, h⟩ := pcs_ne xs
  rw [dotR_eq xs 0 p l h, dotB, h, List.all_cons, okP, Nat.zero_add, Bool.and_assoc]
/-- What stands ahead of an octet. -/
def tw (c : Int) (xs : List Int) : List Int := xs.takeWhile (fun y => y != c)
theorem tw_len (c : Int) (xs : List Int) : (tw c xs).length ≤ xs.length := by
  rw [tw]; exact (List.takeWhile_sublist _).length_le
theorem tw_lt {c : Int} : ∀ {xs : List Int}, xs.contains c = true → (tw c xs).length < xs.length
  | [], h => by simp at h
  | y :: r, h => by
    rw [tw, List.takeWhile_cons]
    split
    · rename_i hy
      have hc : r.contains c = true := by
        simp only [List.contains_cons, Bool.or_eq_true] at h
        rcases h with h | h
        · simp at h hy; exact absurd h.symm hy
        · exact h
      have := tw_lt hc
      rw [tw] at this
      simp only [List.length_cons]; omega
    · simp
theorem tw_take {c : Int} : ∀ (xs : List Int), tw c xs = xs.take (tw c xs).length
  | [] => rfl
  | y :: r => by
    rw [tw, List.takeWhile_cons]
    split
    · have := tw_take (c := c) r
      rw [tw] at this
      rw [List.length_cons, List.take_succ_cons, ← this]
    · rfl
/-- A message's name that octets are: its parts, and the error. -/
def readM (xs : List Int) : List Int × List Int × Int :=
  let y := xs.drop (gp xs)
  if y.length = 0 then ([], [], 4)
  else if y.contains 62 = false then ([], [], 3)
  else match tw 62 y with
    | [] => ([], [], 3)
    | c :: i =>
      if c ≠ 60 ∨ i.contains 64 = false then ([], [], 3)
      else if gp (y.drop ((tw 62 y).length + 1)) ≠ (y.drop ((tw 62 y).length + 1)).length then ([], [], 3)
      else if (dotB (tw 64 i) && dotB (i.drop ((tw 64 i).length + 1))) = false then ([], [], 3)
      else if 250 < (tw 64 i).length + (i.drop ((tw 64 i).length + 1)).length + 3 then ([], [], 12)
      else (tw 64 i, i.drop ((tw 64 i).length + 1), 0)
/-- How many octets of a list stand up to a name's end. -/
def ndM (y : List Int) : Nat := if y.contains 62 = true then (tw 62 y).length + 1 else y.length
theorem ndM_pos {y : List Int} (h : y.length ≠ 0) : 1 ≤ ndM y := by
  unfold ndM; split <;> omega
theorem ndM_le (y : List Int) : ndM y ≤ y.length := by
  unfold ndM; split
  · rename_i h; have := tw_lt h; omega
  · omega
/-- The names of a list, and how many are odd. -/
def listM (xs : List Int) : List (List Int × List Int) × Nat :=
  if h : (xs.drop (gp xs)).length = 0 then ([], 0)
  else
    let t := listM ((xs.drop (gp xs)).drop (ndM (xs.drop (gp xs))))
    let x := readM ((xs.drop (gp xs)).take (ndM (xs.drop (gp xs))))
    if x.2.2 = 0 then ((x.1, x.2.1) :: t.1, t.2) else (t.1, t.2 + 1)
termination_by xs.length
decreasing_by
  have := ndM_pos h
  simp only [List.length_drop] at h this ⊢; omega
end Go.Proofs.Ytfhfhfadebcbfaa
namespace Go.Proofs.Ytfhfhfadebcbfaa
theorem pcs_yes : ∀ {xs : List Int}, xs.contains 46 = true → pcs xs = tw 46 xs :: pcs (xs.drop ((tw 46 xs).length + 1))
  | [], h => by simp at h
  | y :: r, h => by
    rw [pcs]
    by_cases hy : y = 46
    · subst hy
      rw [if_pos rfl]
      simp [tw]
    · rw [if_neg hy]
      have hc : r.contains 46 = true := by
        simp only [List.contains_cons, Bool.or_eq_true] at h
        rcases h with h | h
        · simp at h; exact absurd h.symm hy
        · exact h
      have e2 : tw 46 (y :: r) = y :: tw 46 r := by simp [tw, hy]
      rw [pcs_yes hc, e2]
      simp
theorem pcs_no : ∀ {xs : List Int}, xs.contains 46 = false → pcs xs = [xs]
  | [], _ => rfl
  | y :: r, h => by
    simp only [List.contains_cons, Bool.or_eq_false_iff] at h
    have hy : ¬ y = 46 := fun h9 => by subst h9; simp at h
    rw [pcs, if_neg hy, pcs_no h.2]
theorem count_yes {c : Int} : ∀ {xs : List Int}, xs.contains c = true → xs.count c = 1 + (xs.drop ((tw c xs).length + 1)).count c
  | [], h => by simp at h
  | y :: r, h => by
    by_cases hy : y = c
    · subst hy
      simp [tw]; omega
    · have hc : r.contains c = true := by
        simp only [List.contains_cons, Bool.or_eq_true] at h
        rcases h with h | h
        · simp at h; exact absurd h.symm hy
        · exact h
      have e2 : tw c (y :: r) = y :: tw c r := by simp [tw, hy]
      rw [e2, List.count_cons_of_ne hy, count_yes hc]
      simp
theorem count_has {c : Int} {xs : List Int} : xs.contains c = decide (0 < xs.count c) := by
  rw [Bool.eq_iff_iff]
  simp [List.count_pos_iff]
theorem pcs_len (xs : List Int) : (pcs xs).length = xs.count 46 + 1 := by
  induction xs with
  | nil => rfl
  | cons y r ih =>
    rw [pcs]
    by_cases hy : y = 46
    · subst hy
      rw [if_pos rfl]
      simp [ih]
    · rw [if_neg hy]
      obtain ⟨p, l, h⟩ := pcs_ne r
      rw [h] at ih ⊢
      simp [hy] at ih ⊢
      exact ih
end Go.Proofs.Ytfhfhfadebcbfaa
namespace Go.Proofs.Ytfhfhfadebcbfaa
def textM (L R : List Int) : List Int := 60 :: (L ++ 64 :: (R ++ [62]))
def layM (L R : List Int) : List Int × Int := if (dotB L && dotB R) = false then ([], 3) else if 250 < (textM L R).length then ([], 12) else (textM L R, 0)
theorem textM_len (L R : List Int) : (textM L R).length = L.length + R.length + 3 := by simp [textM]; omega
theorem dotR_tok : ∀ (xs : List Int) (n : Nat), dotR n xs = true → ∀ x ∈ xs, tokB x = true
  | [], _, _, x, hx => by simp at hx
  | c :: r, n, h, x, hx => by
    rw [dotR] at h
    by_cases hc : c = 46
    · subst hc
      rw [if_pos rfl, Bool.and_eq_true] at h
      rcases List.mem_cons.1 hx with rfl | hx
      · decide
      · exact dotR_tok r 0 h.2 x hx
    · rw [if_neg hc, Bool.and_eq_true] at h
      rcases List.mem_cons.1 hx with rfl | hx
      · exact h.1
      · exact dotR_tok r (n + 1) h.2 x hx
theorem dotB_tok {xs : List Int} (h : dotB xs = true) : ∀ x ∈ xs, tokB x = true := dotR_tok xs 0 (by rw [dotR_dot]; exact h)
theorem dotB_not {xs : List Int} (h : dotB xs = true) {c : Int} (hc : tokB c = false) : ∀ x ∈ xs, x ≠ c := fun x hx h9 => by
  have := dotB_tok h x hx
  rw [h9, hc] at this; cases this
theorem tw_app {c : Int} {B : List Int} : ∀ {A : List Int}, (∀ x ∈ A, x ≠ c) → tw c (A ++ c :: B) = A
  | [], _ => by simp [tw]
  | y :: A, h => by
    have hy := h y (by simp)
    have ih := tw_app (c := c) (B := B) (A := A) (fun x hx => h x (by simp [hx]))
    rw [tw] at ih ⊢
    rw [List.cons_append, List.takeWhile_cons, if_pos (by simpa using hy), ih]
theorem gp_60 (r : List Int) : gp (60 :: r) = 0 := by
  rw [gp_cons, if_neg (by decide), if_neg (by decide)]
theorem text_tw62 {L R : List Int} (hL : dotB L = true) (hR : dotB R = true) (B : List Int) : tw 62 (60 :: (L ++ 64 :: (R ++ 62 :: B))) = 60 :: (L ++ 64 :: R) := by
  have : (60 : Int) :: (L ++ 64 :: (R ++ 62 :: B)) = (60 :: (L ++ 64 :: R)) ++ 62 :: B := by simp
  rw [this]
  refine tw_app fun x hx => ?_
  simp only [List.mem_cons, List.mem_append] at hx
  rcases hx with rfl | hx | rfl | hx
  · decide
  · exact dotB_not hL (by decide) x hx
  · decide
  · exact dotB_not hR (by decide) x hx
theorem read_text {L R : List Int} (hL : dotB L = true) (hR : dotB R = true) (hl : L.length + R.length + 3 ≤ 250) : readM (textM L R) = (L, R, 0) := by
  have h62 := text_tw62 hL hR []
  have h64 : tw 64 (L ++ 64 :: R) = L := tw_app (dotB_not hL (by decide))
  have hd : (L ++ 64 :: R).drop (L.length + 1) = R := by
    rw [List.drop_append]; simp
  have hc : (60 :: (L ++ 64 :: (R ++ [62]))).contains (62 : Int) = true := by simp
  have hc4 : (L ++ 64 :: R).contains (64 : Int) = true := by simp
  have hrest : (60 :: (L ++ 64 :: (R ++ [(62 : Int)]))).drop ((60 :: (L ++ 64 :: R) : List Int).length + 1) = [] := by
    apply List.drop_eq_nil_of_le
    simp; omega
  unfold readM
  simp only [textM, gp_60, List.drop_zero]
  rw [if_neg (by simp), if_neg (by rw [hc]; decide), h62]
  simp only []
  rw [if_neg (by rw [hc4]; decide), hrest, if_neg (by rw [gp_nil]; decide), h64, hd, if_neg (by rw [hL, hR]; decide), if_neg (by omega)]
theorem nd_text {L R : List Int} (hL : dotB L = true) (hR : dotB R = true) (B : List Int) : ndM (textM L R ++ B) = (textM L R).length := by
  have e : textM L R ++ B = 60 :: (L ++ 64 :: (R ++ 62 :: B)) := by simp [textM]
  rw [e, ndM, if_pos (by simp), text_tw62 hL hR B]
  simp [textM]; omega
theorem list_text {L R : List Int} (hL : dotB L = true) (hR : dotB R = true) (hl : L.length + R.length + 3 ≤ 250) (B : List Int) : listM (textM L R ++ B) = ((L, R) :: (listM B).1, (listM B).2) := by
  have hg : gp (textM L R ++ B) = 0 := by
    have e : textM L R ++ B = 60 :: (L ++ 64 :: (R ++ 62 :: B)) := by simp [textM]
    rw [e, gp_60]
  have hn := nd_text hL hR B
  rw [listM]
  rw [hg, List.drop_zero, hn]
  rw [dif_neg (by simp [textM])]
  simp only [List.take_left, List.drop_left, read_text hL hR hl, if_pos]
theorem list_nil : listM [] = ([], 0) := by
  rw [listM, gp_nil, dif_pos (by simp)]
theorem list_gap (xs : List Int) : listM (32 :: xs) = listM xs := by
  have h : gp (32 :: xs) = 1 + gp xs := by rw [gp_cons, if_neg (by decide), if_pos (by decide)]
  have e : (32 :: xs).drop (1 + gp xs) = xs.drop (gp xs) := by rw [Nat.add_comm]; rfl
  rw [listM, h, e]
  conv => rhs; rw [listM]
theorem list_two {L R : List Int} (hL : dotB L = true) (hR : dotB R = true) (hl : L.length + R.length + 3 ≤ 250) : listM (textM L R ++ 32 :: textM L R) = ([(L, R), (L, R)], 0) := by
  rw [list_text hL hR hl, list_gap]
  have h := list_text hL hR hl []
  rw [List.append_nil, list_nil] at h
  rw [h]
end Go.Proofs.Ytfhfhfadebcbfaa
namespace Go.Proofs.Ytfhfhfadebcbfaa
def lowC (c : Int) : Int := if 65 ≤ c ∧ c ≤ 90 then c + 32 else c
def samM (a b : List Int × List Int) : Bool := decide (a.1 = b.1) && decide (a.2.map lowC = b.2.map lowC)
theorem samM_comm (a b : List Int × List Int) : samM a b = samM b a := by
  rw [samM, samM, Bool.eq_iff_iff]
  simp only [Bool.and_eq_true, decide_eq_true_eq]
  exact ⟨fun h => ⟨h.1.symm, h.2.symm⟩, fun h => ⟨h.1.symm, h.2.symm⟩⟩
theorem samM_refl (a : List Int × List Int) : samM a a = true := by simp [samM]
theorem samM_trans {a b c : List Int × List Int} (h1 : samM a b = true) (h2 : samM b c = true) : samM a c = true := by
  simp only [samM, Bool.and_eq_true, decide_eq_true_eq] at *
  exact ⟨h1.1.trans h2.1, h1.2.trans h2.2⟩
theorem samM_left {a b c : List Int × List Int} (h : samM a b = true) : samM a c = samM b c := by
  cases hc : samM b c with
  | true => exact samM_trans h hc
  | false =>
    cases ha : samM a c with
    | false => rfl
    | true =>
      have := samM_trans ((samM_comm b a).trans h) ha
      rw [hc] at this; exact this.symm
def stepT (out : List (List Int × List Int)) (y : List Int × List Int) : List (List Int × List Int) := out.filter (fun z => !samM y z) ++ [y]
/-- The names that are no more there behind. -/
def thR : List (List Int × List Int) → List (List Int × List Int)
  | [] => []
  | a :: r => if r.any (samM a) = true then thR r else a :: thR r
theorem thR_sub : ∀ (l : List (List Int × List Int)) (z : List Int × List Int), z ∈ thR l → z ∈ l
  | [], _, h => by simp [thR] at h
  | a :: r, z, h => by
    rw [thR] at h
    split at h
    · exact List.mem_cons_of_mem _ (thR_sub r z h)
    · rcases List.mem_cons.1 h with rfl | h
      · exact List.mem_cons_self
      · exact List.mem_cons_of_mem _ (thR_sub r z h)
theorem thR_snoc (y : List Int × List Int) : ∀ l : List (List Int × List Int), thR (l ++ [y]) = stepT (thR l) y
  | [] => by simp [thR, stepT]
  | a :: r => by
    have ih := thR_snoc y r
    rw [List.cons_append, thR, thR, ih, List.any_append]
    have e : [y].any (samM a) = samM a y := by simp
    rw [e]
    cases h1 : r.any (samM a) with
    | true => simp [stepT]
    | false =>
      cases h2 : samM a y with
      | true =>
        have h3 : samM y a = true := (samM_comm y a).trans h2
        simp [stepT, h3]
      | false =>
        have h3 : samM y a = false := (samM_comm y a).trans h2
        simp [stepT, h3]
theorem thR_fold (l : List (List Int × List Int)) : ∀ (m : List (List Int × List Int)), l.foldl stepT (thR m) = thR (m ++ l) := by
  induction l with
  | nil => intro m; simp
  | cons y l ih =>
    intro m
    rw [List.foldl_cons, ← thR_snoc, ih]
    simp
theorem thR_distinct : ∀ (l : List (List Int × List Int)), (thR l).Pairwise (fun a b => samM a b = false)
  | [] => List.Pairwise.nil
  | a :: r => by
    have ih := thR_distinct r
    rw [thR]
    split
    · exact ih
    · rename_i h
      refine List.Pairwise.cons (fun b hb => ?_) ih
      cases hs : samM a b with
      | false => rfl
      | true => exact absurd (List.any_eq_true.2 ⟨b, thR_sub r b hb, hs⟩) h
/-- The last ones, at most so many. -/
def lastN (most : Int) (l : List (List Int × List Int)) : List (List Int × List Int) := l.drop (l.length - min l.length (max most 0).toNat)
theorem lastN_last (most : Int) (hm : 0 < most) (l : List (List Int × List Int)) (x : List Int × List Int) : ∃ m, lastN most (l ++ [x]) = m ++ [x] := by
  refine ⟨l.drop ((l ++ [x]).length - min (l ++ [x]).length (max most 0).toNat), ?_⟩
  rw [lastN, List.drop_append_of_le_length]
  simp only [List.length_append, List.length_cons, List.length_nil]
  omega
end Go.Proofs.Ytfhfhfadebcbfaa
namespace Go.Proofs.Ytfhfhfadebcbfaa
/-- A digit's octet. -/
def dgtP (n : Int) : Int := if n < 0 ∨ 36 ≤ n then 0 else if n < 26 then 97 + n else 22 + n
/-- An octet's digit, and is it one. -/
def valP (c : Int) : Int × Bool := if 97 ≤ lowC c ∧ lowC c ≤ 122 then (lowC c - 97, true) else if 48 ≤ c ∧ c ≤ 57 then (c - 22, true) else (0, false)
theorem valP_rng (c : Int) : 0 ≤ (valP c).1 ∧ (valP c).1 ≤ 35 := by
  unfold valP
  split
  · simp only []; omega
  · split
    · simp only []; omega
    · simp
/-- Where the last digit of a number ends. -/
def edgP (k b : Int) : Int := if k ≤ b then 1 else if b + 26 ≤ k then 26 else k - b
theorem edgP_rng (k b : Int) : 1 ≤ edgP k b ∧ edgP k b ≤ 26 := by
  unfold edgP
  split
  · omega
  · split <;> omega
/-- A bias' second part. -/
def adpL (n : Nat) (k : Nat) : Nat := if 455 < n then adpL (n / 35) (k + 36) else k + 36 * n / (n + 38)
termination_by n
decreasing_by omega
theorem adpL_big {n k : Nat} (h : 455 < n) : adpL n k = adpL (n / 35) (k + 36) := by rw [adpL, if_pos h]
theorem adpL_small {n k : Nat} (h : ¬ 455 < n) : adpL n k = k + 36 * n / (n + 38) := by rw [adpL, if_neg h]
theorem adpL_bd : ∀ (m n k : Nat), n ≤ m → adpL n k ≤ k + 36 + 36 * n
  | 0, n, k, h => by
    rw [adpL_small (by omega)]
    have : 36 * n / (n + 38) ≤ 36 * n := Nat.div_le_self _ _
    omega
  | m + 1, n, k, h => by
    by_cases h9 : 455 < n
    · rw [adpL_big h9]
      have := adpL_bd m (n / 35) (k + 36) (by omega)
      omega
    · rw [adpL_small h9]
      have : 36 * n / (n + 38) ≤ 36 * n := Nat.div_le_self _ _
      omega
def adpP (n many : Int) (first : Bool) : Nat := if n < 0 ∨ 1099511627776 < n ∨ many < 1 then 0 else adpL (n.toNat / (if first = true then 700 else 2) + n.toNat / (if first = true then 700 else 2) / many.toNat) 0
/-- A number that octets begin with, on top of another one: it, what is left, and what was wrong. -/
def tkP (b : Int) : List Int → Int → Int → Int → Int × List Int × Int
  | [], _, _, _ => (0, [], 4)
  | c :: r, k, w, n => if (valP c).2 = false ∨ 1099511627776 - n < (valP c).1 * w then (0, [], 3) else if (valP c).1 < edgP k b then (n + (valP c).1 * w, r, 0) else tkP b r (k + 36) (w * (36 - edgP k b)) (n + (valP c).1 * w)
theorem tkP_len (b : Int) : ∀ (l : List Int) (k w n : Int), (tkP b l k w n).2.2 = 0 → (tkP b l k w n).2.1.length < l.length
  | [], k, w, n, h => by rw [tkP] at h; simp at h
  | c :: r, k, w, n, h => by
    rw [tkP] at h ⊢
    split
    · rename_i h9; rw [if_pos h9] at h; simp at h
    · rename_i h9
      rw [if_neg h9] at h
      split
      · simp
      · rename_i h8
        rw [if_neg h8] at h
        have := tkP_len b r _ _ _ h
        simp only [List.length_cons]; omega
/-- Octets read, on top of a text: the text, and what was wrong. -/
def rdP : Nat → List Int → Int → Nat → Nat → List Int → List Int × Int
  | 0, t, _, _, _, _ => (t, 0)
  | f + 1, t, s, b, p, code =>
    if code.length = 0 then (t, 0)
    else if (tkP b code 36 1 p).2.2 ≠ 0 then ([], (tkP b code 36 1 p).2.2)
    else if scB (s + (tkP b code 36 1 p).1 / (t.length + 1 : Nat)) = false ∨ 1000 < t.length + 1 then ([], 3)
    else rdP f (t.take ((tkP b code 36 1 p).1 % (t.length + 1 : Nat)).toNat ++ (s + (tkP b code 36 1 p).1 / (t.length + 1 : Nat)) :: t.drop ((tkP b code 36 1 p).1 % (t.length + 1 : Nat)).toNat)
      (s + (tkP b code 36 1 p).1 / (t.length + 1 : Nat)) (adpP ((tkP b code 36 1 p).1 - p) (t.length + 1 : Nat) (decide (p = 0))) (((tkP b code 36 1 p).1 % (t.length + 1 : Nat)).toNat + 1) (tkP b code 36 1 p).2.1
end Go.Proofs.Ytfhfhfadebcbfaa
namespace Go.Proofs.Ytfhfhfadebcbfaa
/-- The last place below n of octet 45, or 0. -/
def lstF (s : List Int) : Nat → Nat
  | 0 => 0
  | n + 1 => if s[n]? = some 45 then n else lstF s n
theorem lstF_le (s : List Int) : ∀ n, lstF s n ≤ n
  | 0 => Nat.le_refl _
  | n + 1 => by
    rw [lstF]
    have := lstF_le s n
    split <;> omega
theorem lstF_lt (s : List Int) : ∀ n, n ≤ s.length → lstF s n = 0 ∨ lstF s n < s.length
  | 0, _ => .inl rfl
  | n + 1, h => by
    rw [lstF]
    split
    · exact .inr (by omega)
    · exact lstF_lt s n (by omega)
def lstP (s : List Int) : Nat := lstF s s.length
/-- A Punycode read: the text, and what was wrong. -/
def pnR (s : List Int) : List Int × Int :=
  if 10000 < s.length then ([], 12) else if (s.take (lstP s)).any (fun c => decide (127 < c)) = true then ([], 3)
  else rdP s.length (s.take (lstP s)) 128 72 0 (if lstP s = 0 then s else s.drop (lstP s + 1))
/-- A host's name read. -/
def flP (s : List Int) : List Int × Int :=
  if 4 ≤ s.length ∧ (s.take 4).map lowC = [120, 110, 45, 45] then pnR (s.drop 4) else if s.any (fun c => decide (127 < c)) = true then ([], 3) else (s, 0)
theorem tkP_rng (b : Int) : ∀ (l : List Int) (k w n : Int), 0 ≤ w → 0 ≤ n → n ≤ 1099511627776 → 0 ≤ (tkP b l k w n).1 ∧ (tkP b l k w n).1 ≤ 1099511627776
  | [], k, w, n, hw, h0, h1 => by rw [tkP]; simp
  | c :: r, k, w, n, hw, h0, h1 => by
    rw [tkP]
    have hv := valP_rng c
    have hm : 0 ≤ (valP c).1 * w := Int.mul_nonneg hv.1 hw
    have he := edgP_rng k b
    split
    · simp
    · rename_i h
      have h2 : ¬ (1099511627776 - n < (valP c).1 * w) := fun h9 => h (.inr h9)
      split
      · simp only []; omega
      · exact tkP_rng b r _ _ _ (Int.mul_nonneg hw (by omega)) (by omega) (by omega)
theorem tkP_mem (b : Int) : ∀ (l : List Int) (k w n : Int), ∀ x ∈ (tkP b l k w n).2.1, x ∈ l
  | [], k, w, n, x, hx => by rw [tkP] at hx; simp at hx
  | c :: r, k, w, n, x, hx => by
    rw [tkP] at hx
    split at hx
    · simp at hx
    · split at hx
      · exact List.mem_cons_of_mem _ hx
      · exact List.mem_cons_of_mem _ (tkP_mem b r _ _ _ x hx)
theorem adpP_bd (n m : Int) (f : Bool) : (adpP n m f : Int) ≤ 100000000000000 := by
  unfold adpP
  split
  · simp
  · rename_i h
    have hd : ∀ d : Nat, 2 ≤ d → adpL (n.toNat / d + n.toNat / d / m.toNat) 0 ≤ 100000000000000 := fun d hd => by
      have h1 := adpL_bd _ (n.toNat / d + n.toNat / d / m.toNat) 0 (Nat.le_refl _)
      have h2 : n.toNat / d ≤ n.toNat / 2 := Nat.div_le_div_left hd (by omega)
      have h3 : n.toNat / d / m.toNat ≤ n.toNat / d := Nat.div_le_self _ _
      omega
    have := hd (if f = true then 700 else 2) (by split <;> omega)
    omega
theorem rdP_nil (f : Nat) (t : List Int) (s : Int) (b p : Nat) : rdP f t s b p [] = (t, 0) := by
  cases f <;> simp [rdP]
end Go.Proofs.Ytfhfhfadebcbfaa
namespace Go.Proofs.Ytfhfhfadebcbfaa
open Go.RowKit
set_option maxHeartbeats 2000000
set_option maxRecDepth 100000
theorem adpL_ge : ∀ (m n k : Nat), n ≤ m → k ≤ adpL n k
  | 0, n, k, h => by rw [adpL_small (by omega)]; exact Nat.le_add_right _ _
  | m + 1, n, k, h => by
    by_cases h9 : 455 < n
    · rw [adpL_big h9]
      have := adpL_ge m (n / 35) (k + 36) (by omega)
      omega
    · rw [adpL_small h9]; exact Nat.le_add_right _ _
theorem adapt_any (n many : Int) (f : Bool) (w : World) :
    Calls Try.prog 16 #[.int .i64 n, .int .i64 many, .bool f] w fun e w' => e = .returned (.int .i64 (adpP n many f : Nat)) ∧ w' = w := by
  unfold adpP
  by_cases h0 : n < 0
  · rw [if_pos (.inl h0)]
    go_enter Try.func16, Try.ntmps16
    go_wp2
    go_ret
    exact ⟨rfl, rfl⟩
  by_cases h1 : 1099511627776 < n
  · rw [if_pos (.inr (.inl h1))]
    go_enter Try.func16, Try.ntmps16
    go_wp2
    go_ret
    exact ⟨rfl, rfl⟩
  by_cases h2 : many < 1
  · rw [if_pos (.inr (.inr h2))]
    go_enter Try.func16, Try.ntmps16
    go_wp2
    go_ret
    exact ⟨rfl, rfl⟩
  rw [if_neg (by omega)]
  obtain ⟨N, rfl⟩ : ∃ N : Nat, n = (N : Int) := ⟨n.toNat, by omega⟩
  obtain ⟨M, rfl⟩ : ∃ M : Nat, many = (M : Int) := ⟨many.toNat, by omega⟩
  rw [Int.toNat_natCast, Int.toNat_natCast]
  have hM0 : ¬ (M : Int) = 0 := by omega
  have hN : N ≤ 1099511627776 := by omega
  rcases f with _ | _
  case' false => obtain ⟨D, hD⟩ : ∃ D, N / 2 = D := ⟨_, rfl⟩
  case' true => obtain ⟨D, hD⟩ : ∃ D, N / 700 = D := ⟨_, rfl⟩
  all_goals
    simp only [Bool.false_eq_true, if_true, if_false]
    rw [hD]
    have hDM : D / M ≤ D := Nat.div_le_self _ _
    have hDN : D ≤ N := by omega
    have hbd := adpL_bd (D + D / M) (D + D / M) 0 (Nat.le_refl _)
    obtain ⟨V, hV⟩ : ∃ V, adpL (D + D / M) 0 = V := ⟨_, rfl⟩
    rw [hV] at hbd ⊢
    obtain ⟨C, hC⟩ : ∃ C, D / M = C := ⟨_, rfl⟩
    rw [hC] at hV hbd hDM
    have e2 : ((D : Nat) : Int) / (M : Int) = (C : Int) := by rw [← hC]; rfl
    have hVB : V ≤ 100000000000000 := by omega
    have HV := Lib.hid hV
    clear hbd hV
  case false =>
    have e1 : (N : Int) / 2 = (D : Int) := by rw [← hD]; rfl
    clear hD hC
    go_enter Try.func16, Try.ntmps16
    go_wp2
    go_loopw [0, 8] (fun nv kv wr => ∃ a k : Nat, nv = .int .i64 a ∧ kv = .int .i64 k ∧ a ≤ 2199023255552 ∧ k ≤ 100000000000000 ∧ Hid (adpL a k = V) ∧ wr = w) (fun nv _ _ => (intOf nv).toNat)
    case atStart => exact ⟨D + C, 0, by go_num, rfl, by omega, by omega, HV.out, rfl⟩
    case round =>
      obtain ⟨a, k, rfl, rfl, ha, hk, HA, hw⟩ := hrel
      obtain rfl := hw.symm
      by_cases h9 : 455 < a
      · have HA2 : Hid (adpL (a / 35) (k + 36) = V) := by show _ = _; rw [← HA.out, adpL_big h9]
        have hk2 := adpL_ge _ (a / 35) (k + 36) (Nat.le_refl _)
        rw [HA2.out] at hk2
        have h9i : (455 : Int) < a := by omega
        go_wp2
        go_roundw
        case rel => exact ⟨a / 35, k + 36, by first | rfl | go_num, by first | rfl | go_num, by omega, by omega, HA2.out, by first | rfl | trivial⟩
        case measure => simp [intOf]; omega
      · have hf := HA.out
        rw [adpL_small h9] at hf
        have hq : 36 * (a : Int) / ((a : Int) + 38) = ((36 * a / (a + 38) : Nat) : Int) := rfl
        generalize 36 * a / (a + 38) = Q at *
        subst hf
        have h9i : ¬ (455 : Int) < a := by omega
        go_wp2
        go_ret
        exact ⟨rfl, rfl⟩
  case true =>
    have e1 : (N : Int) / 700 = (D : Int) := by rw [← hD]; rfl
    clear hD hC
    go_enter Try.func16, Try.ntmps16
    go_wp2
    go_loopw [0, 8] (fun nv kv wr => ∃ a k : Nat, nv = .int .i64 a ∧ kv = .int .i64 k ∧ a ≤ 2199023255552 ∧ k ≤ 100000000000000 ∧ Hid (adpL a k = V) ∧ wr = w) (fun nv _ _ => (intOf nv).toNat)
    case atStart => exact ⟨D + C, 0, by go_num, rfl, by omega, by omega, HV.out, rfl⟩
    case round =>
      obtain ⟨a, k, rfl, rfl, ha, hk, HA, hw⟩ := hrel
      obtain rfl := hw.symm
      by_cases h9 : 455 < a
      · have HA2 : Hid (adpL (a / 35) (k + 36) = V) := by show _ = _; rw [← HA.out, adpL_big h9]
        have hk2 := adpL_ge _ (a / 35) (k + 36) (Nat.le_refl _)
        rw [HA2.out] at hk2
        have h9i : (455 : Int) < a := by omega
        go_wp2
        go_roundw
        case rel => exact ⟨a / 35, k + 36, by first | rfl | go_num, by first | rfl | go_num, by omega, by omega, HA2.out, by first | rfl | trivial⟩
        case measure => simp [intOf]; omega
      · have hf := HA.out
        rw [adpL_small h9] at hf
        have hq : 36 * (a : Int) / ((a : Int) + 38) = ((36 * a / (a + 38) : Nat) : Int) := rfl
        generalize 36 * a / (a + 38) = Q at *
        subst hf
        have h9i : ¬ (455 : Int) < a := by omega
        go_wp2
        go_ret
        exact ⟨rfl, rfl⟩
end Go.Proofs.Ytfhfhfadebcbfaa
namespace Go.Proofs.Ytfhfhfadebcbfaa
open Go.RowKit
set_option maxHeartbeats 2000000
set_option maxRecDepth 100000
theorem radapt_any (n many : Int) (f : Bool) (w : World) :
    Calls Try.prog 17 #[.int .i64 n, .int .i64 many, .bool f] w fun e w' => e = .returned (.int .i64 (adpP n many f : Nat)) ∧ w' = w := by
  unfold adpP
  by_cases h0 : n < 0
  · rw [if_pos (.inl h0)]
    go_enter Try.func17, Try.ntmps17
    go_wp2
    go_ret
    exact ⟨rfl, rfl⟩
  by_cases h1 : 1099511627776 < n
  · rw [if_pos (.inr (.inl h1))]
    go_enter Try.func17, Try.ntmps17
    go_wp2
    go_ret
    exact ⟨rfl, rfl⟩
  by_cases h2 : many < 1
  · rw [if_pos (.inr (.inr h2))]
    go_enter Try.func17, Try.ntmps17
    go_wp2
    go_ret
    exact ⟨rfl, rfl⟩
  rw [if_neg (by omega)]
  obtain ⟨N, rfl⟩ : ∃ N : Nat, n = (N : Int) := ⟨n.toNat, by omega⟩
  obtain ⟨M, rfl⟩ : ∃ M : Nat, many = (M : Int) := ⟨many.toNat, by omega⟩
  rw [Int.toNat_natCast, Int.toNat_natCast]
  have hM0 : ¬ (M : Int) = 0 := by omega
  have hN : N ≤ 1099511627776 := by omega
  rcases f with _ | _
  case' false => obtain ⟨D, hD⟩ : ∃ D, N / 2 = D := ⟨_, rfl⟩
  case' true => obtain ⟨D, hD⟩ : ∃ D, N / 700 = D := ⟨_, rfl⟩
  all_goals
    simp only [Bool.false_eq_true, if_true, if_false]
    rw [hD]
    have hDM : D / M ≤ D := Nat.div_le_self _ _
    have hDN : D ≤ N := by omega
    have hbd := adpL_bd (D + D / M) (D + D / M) 0 (Nat.le_refl _)
    obtain ⟨V, hV⟩ : ∃ V, adpL (D + D / M) 0 = V := ⟨_, rfl⟩
    rw [hV] at hbd ⊢
    obtain ⟨C, hC⟩ : ∃ C, D / M = C := ⟨_, rfl⟩
    rw [hC] at hV hbd hDM
    have e2 : ((D : Nat) : Int) / (M : Int) = (C : Int) := by rw [← hC]; rfl
    have hVB : V ≤ 100000000000000 := by omega
    have HV := Lib.hid hV
    clear hbd hV
  case false =>
    have e1 : (N : Int) / 2 = (D : Int) := by rw [← hD]; rfl
    clear hD hC
    go_enter Try.func17, Try.ntmps17
    go_wp2
    go_loopw [0, 7] (fun nv kv wr => ∃ a k : Nat, nv = .int .i64 a ∧ kv = .int .i64 k ∧ a ≤ 2199023255552 ∧ k ≤ 100000000000000 ∧ Hid (adpL a k = V) ∧ wr = w) (fun nv _ _ => (intOf nv).toNat)
    case atStart => exact ⟨D + C, 0, by go_num, rfl, by omega, by omega, HV.out, rfl⟩
    case round =>
      obtain ⟨a, k, rfl, rfl, ha, hk, HA, hw⟩ := hrel
      obtain rfl := hw.symm
      by_cases h9 : 455 < a
      · have HA2 : Hid (adpL (a / 35) (k + 36) = V) := by show _ = _; rw [← HA.out, adpL_big h9]
        have hk2 := adpL_ge _ (a / 35) (k + 36) (Nat.le_refl _)
        rw [HA2.out] at hk2
        have h9i : (455 : Int) < a := by omega
        go_wp2
        go_roundw
        case rel => exact ⟨a / 35, k + 36, by first | rfl | go_num, by first | rfl | go_num, by omega, by omega, HA2.out, by first | rfl | trivial⟩
        case measure => simp [intOf]; omega
      · have hf := HA.out
        rw [adpL_small h9] at hf
        have hq : 36 * (a : Int) / ((a : Int) + 38) = ((36 * a / (a + 38) : Nat) : Int) := rfl
        generalize 36 * a / (a + 38) = Q at *
        subst hf
        have h9i : ¬ (455 : Int) < a := by omega
        go_wp2
        go_ret
        exact ⟨rfl, rfl⟩
  case true =>
    have e1 : (N : Int) / 700 = (D : Int) := by rw [← hD]; rfl
    clear hD hC
    go_enter Try.func17, Try.ntmps17
    go_wp2
    go_loopw [0, 7] (fun nv kv wr => ∃ a k : Nat, nv = .int .i64 a ∧ kv = .int .i64 k ∧ a ≤ 2199023255552 ∧ k ≤ 100000000000000 ∧ Hid (adpL a k = V) ∧ wr = w) (fun nv _ _ => (intOf nv).toNat)
    case atStart => exact ⟨D + C, 0, by go_num, rfl, by omega, by omega, HV.out, rfl⟩
    case round =>
      obtain ⟨a, k, rfl, rfl, ha, hk, HA, hw⟩ := hrel
      obtain rfl := hw.symm
      by_cases h9 : 455 < a
      · have HA2 : Hid (adpL (a / 35) (k + 36) = V) := by show _ = _; rw [← HA.out, adpL_big h9]
        have hk2 := adpL_ge _ (a / 35) (k + 36) (Nat.le_refl _)
        rw [HA2.out] at hk2
        have h9i : (455 : Int) < a := by omega
        go_wp2
        go_roundw
        case rel => exact ⟨a / 35, k + 36, by first | rfl | go_num, by first | rfl | go_num, by omega, by omega, HA2.out, by first | rfl | trivial⟩
        case measure => simp [intOf]; omega
      · have hf := HA.out
        rw [adpL_small h9] at hf
        have hq : 36 * (a : Int) / ((a : Int) + 38) = ((36 * a / (a + 38) : Nat) : Int) := rfl
        generalize 36 * a / (a + 38) = Q at *
        subst hf
        have h9i : ¬ (455 : Int) < a := by omega
        go_wp2
        go_ret
        exact ⟨rfl, rfl⟩
theorem rdigit_any (n : Int) (w : World) :
    Calls Try.prog 15 #[.int .i64 n] w fun e w' => e = .returned (.int .u8 (dgtP n)) ∧ w' = w := by
  unfold dgtP
  by_cases h0 : n < 0
  · rw [if_pos (.inl h0)]
    go_enter Try.func15, Try.ntmps15
    go_wp2
    go_ret
    exact ⟨rfl, rfl⟩
  by_cases h1 : 36 ≤ n
  · rw [if_pos (.inr h1)]
    have h1' : 35 < n := by omega
    go_enter Try.func15, Try.ntmps15
    go_wp2
    go_ret
    exact ⟨rfl, rfl⟩
  rw [if_neg (by omega)]
  have h1' : ¬ 35 < n := by omega
  by_cases h2 : n < 26
  · rw [if_pos h2]
    have hw1 : IntKind.i64.wrap (97 + n) = 97 + n := IntWalk.i64_in _ (by omega)
    have hw2 : IntKind.u8.wrap (97 + n) = 97 + n := IntWalk.u8_in _ (by omega)
    go_enter Try.func15, Try.ntmps15
    go_wp2
    go_ret
    first | exact ⟨rfl, rfl⟩ | exact ⟨ret_int hw2, rfl⟩
  · rw [if_neg h2]
    have hw1 : IntKind.i64.wrap (48 + n) = 48 + n := IntWalk.i64_in _ (by omega)
    have hw3 : IntKind.i64.wrap (48 + n - 26) = 48 + n - 26 := IntWalk.i64_in _ (by omega)
    have hw2 : IntKind.u8.wrap (48 + n - 26) = 22 + n := by rw [IntWalk.u8_in _ (by omega)]; omega
    go_enter Try.func15, Try.ntmps15
    go_wp2
    go_ret
    first | exact ⟨rfl, rfl⟩ | exact ⟨ret_int hw2, rfl⟩ | exact ⟨ret_int (by omega), rfl⟩
theorem edge_any (k b : Int) (w : World) (h0 : 0 ≤ k) (h1 : k ≤ 1000000000) (h2 : 0 ≤ b) (h3 : b ≤ 1000000000000000) :
    Calls Try.prog 44 #[.int .i64 k, .int .i64 b] w fun e w' => e = .returned (.int .i64 (edgP k b)) ∧ w' = w := by
  have hw1 : IntKind.i64.wrap (k - b) = k - b := IntWalk.i64_in _ (by omega)
  have he : min (max (k - b) 1) 26 = edgP k b := by
    unfold edgP
    split
    · omega
    · split <;> omega
  go_enter Try.func44, Try.ntmps44
  go_wp2
  go_ret
  exact ⟨rfl, rfl⟩
theorem redge_any (k b : Int) (w : World) (h0 : 0 ≤ k) (h1 : k ≤ 1000000000) (h2 : 0 ≤ b) (h3 : b ≤ 1000000000000000) :
    Calls Try.prog 26 #[.int .i64 k, .int .i64 b] w fun e w' => e = .returned (.int .i64 (edgP k b)) ∧ w' = w := by
  have hw1 : IntKind.i64.wrap (k - b) = k - b := IntWalk.i64_in _ (by omega)
  have hw2 : IntKind.i64.wrap (b + 26) = b + 26 := IntWalk.i64_in _ (by omega)
  unfold edgP
  by_cases h4 : k ≤ b
  · rw [if_pos h4]
    go_enter Try.func26, Try.ntmps26
    go_wp2
    go_ret
    exact ⟨rfl, rfl⟩
  · rw [if_neg h4]
    by_cases h5 : b + 26 ≤ k
    · rw [if_pos h5]
      go_enter Try.func26, Try.ntmps26
      go_wp2
      go_ret
      exact ⟨rfl, rfl⟩
    · rw [if_neg h5]
      go_enter Try.func26, Try.ntmps26
      go_wp2
      go_ret
      first | exact ⟨rfl, rfl⟩ | exact ⟨ret_int hw1, rfl⟩
end Go.Proofs.Ytfhfhfadebcbfaa
namespace Go.Proofs.Ytfhfhfadebcbfaa
open Go.RowKit
set_option maxHeartbeats 4000000
set_option maxRecDepth 100000
theorem cnt_snoc2 {p : Int → Bool} {xs : List Int} {k : Nat} {x : Int} (h : xs[k]? = some x) : (xs.take (k + 1)).countP p = (xs.take k).countP p + (if p x then 1 else 0) := by
  rw [List.take_add_one, h]
  simp [List.countP_append, List.countP_cons]
theorem kind_tok : ∀ n : Fin 256, (bits .and .i64 (kindN (n.val : Int)) 64 != 0) = tokB (n.val : Int) := by decide +kernel
theorem kind_bl : ∀ n : Fin 256, (bits .and .i64 (kindN (n.val : Int)) 2 != 0) = blB (n.val : Int) := by decide +kernel
theorem kind_of {p : Int → Bool} {k : Int} (h : ∀ n : Fin 256, (bits .and .i64 (kindN (n.val : Int)) k != 0) = p (n.val : Int)) {c : Int} (h0 : 0 ≤ c) (h1 : c < 256) : (bits .and .i64 (kindN c) k != 0) = p c := by
  have := h ⟨c.toNat, by omega⟩
  simp only [Int.toNat_of_nonneg h0] at this
  exact this
theorem countP_all (p : Int → Bool) (xs : List Int) : decide (xs.countP p = xs.length) = xs.all p := by
  rw [Bool.eq_iff_iff, decide_eq_true_eq, List.countP_eq_length, List.all_eq_true]
end Go.Proofs.Ytfhfhfadebcbfaa
