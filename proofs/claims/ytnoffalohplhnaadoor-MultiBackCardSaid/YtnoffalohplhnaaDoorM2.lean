/- Plain: lines, pieces between the ends of lines, marks, parts split and laid, and a boundary that no part has. · Plain definitions and laws: scalar values, searches. No program in sight. · Plain definitions and laws: UTF-16. (laid together by program out of single texts). -/
import Derived.WalkKit
namespace Go.Proofs.YtnoffalohplhnaaDoor
/-- The pieces between 13, 10. -/
def pc2 : List Int → List (List Int)
  | [] => [[]]
  | 13 :: 10 :: r => [] :: pc2 r
  | c :: r => match pc2 r with | [] => [[c]] | p :: l => (c :: p) :: l
/-- The lines. -/
def lnS : List Int → List (List Int)
  | [] => []
  | 13 :: 10 :: r => [] :: lnS r
  | c :: r => match lnS r with | [] => [[c]] | p :: l => (c :: p) :: l
/-- Where 13, 10 first stands. -/
def idx2 : List Int → Option Nat
  | [] => none
  | 13 :: 10 :: _ => some 0
  | _ :: r => (idx2 r).map (· + 1)
def joinC : List (List Int) → List Int
  | [] => []
  | [x] => x
  | x :: y :: r => x ++ 13 :: 10 :: joinC (y :: r)
def blk2 (c : Int) : Bool := decide (c = 32) || decide (c = 9)
def trimR (l : List Int) : List Int := (l.reverse.dropWhile blk2).reverse
/-- The kind of a mark. -/
def markN (l b : List Int) : Nat := if trimR l = 45 :: 45 :: b then 1 else if trimR l = 45 :: 45 :: (b ++ [45, 45]) then 2 else 0
def isM (b x : List Int) : Bool := decide (markN x b ≠ 0)
/-- The lines ahead of the first mark, its kind, and the lines behind. -/
def cutF (b : List Int) : List (List Int) → List (List Int) × Nat × List (List Int)
  | [] => ([], 0, [])
  | x :: r => if isM b x then ([], markN x b, r) else (x :: (cutF b r).1, (cutF b r).2.1, (cutF b r).2.2)
/-- The parts behind a first mark, and whether there is a last one; acc: the lines of the part that is open. -/
def partsF (b : List Int) : List (List Int) → List (List Int) → List (List Int) × Bool
  | [], acc => ([joinC acc], false)
  | x :: r, acc => if isM b x then (if markN x b = 1 then (joinC acc :: (partsF b r []).1, (partsF b r []).2) else ([joinC acc], true)) else partsF b r (acc ++ [x])
/-- What stands behind a mark of this kind. -/
def kindF (b : List Int) (k : Nat) (l : List (List Int)) : List (List Int) × Bool := if k = 1 then partsF b l [] else ([], decide (k = 2))
def splitM (s b : List Int) : List (List Int) × Bool := kindF b (cutF b (lnS s)).2.1 (cutF b (lnS s)).2.2
def hasM (p b : List Int) : Bool := (pc2 p).any (isM b)
def mayB (b : List Int) : Bool := decide (0 < b.length) && decide (b.length ≤ 70) && b.all (fun c => decide (32 ≤ c) && decide (c ≤ 126)) && decide (b.getLast? ≠ some 32)
def layB (b : List Int) : List (List Int) → List Int
  | [] => 45 :: 45 :: (b ++ [45, 45, 13, 10])
  | p :: r => 45 :: 45 :: (b ++ 13 :: 10 :: (p ++ 13 :: 10 :: layB b r))
def layM (ps : List (List Int)) (b : List Int) : List Int × Int :=
  if mayB b = false then ([], 13) else if ps.any (fun p => hasM p b) then ([], 3) else (layB b ps, 0)

theorem pc2_cons {c : Int} {r : List Int} (h : ∀ r', c = 13 → r = 10 :: r' → False) : pc2 (c :: r) = match pc2 r with | [] => [[c]] | p :: l => (c :: p) :: l := by
  rw [pc2]
  intro r' h1 h2; exact h r' h1 h2
theorem lnS_cons {c : Int} {r : List Int} (h : ∀ r', c = 13 → r = 10 :: r' → False) : lnS (c :: r) = match lnS r with | [] => [[c]] | p :: l => (c :: p) :: l := by
  rw [lnS]
  intro r' h1 h2; exact h r' h1 h2
theorem idx2_cons {c : Int} {r : List Int} (h : ∀ r', c = 13 → r = 10 :: r' → False) : idx2 (c :: r) = (idx2 r).map (· + 1) := by
  rw [idx2]
  intro r' h1 h2; exact h r' h1 h2
theorem idx2_here (r : List Int) : idx2 (13 :: 10 :: r) = some 0 := by rw [idx2]
theorem pc2_here (r : List Int) : pc2 (13 :: 10 :: r) = [] :: pc2 r := by rw [pc2]
theorem lnS_here (r : List Int) : lnS (13 :: 10 :: r) = [] :: lnS r := by rw [lnS]
/-- Either 13, 10 stands ahead, or not. -/
theorem crlf_cases (c : Int) (r : List Int) : (∃ r', c = 13 ∧ r = 10 :: r') ∨ ∀ r', c = 13 → r = 10 :: r' → False := by
  by_cases h : ∃ r', c = 13 ∧ r = 10 :: r'
  · exact .inl h
  · exact .inr fun r' h1 h2 => h ⟨r', h1, h2⟩
theorem pc2_ne (xs : List Int) : ∃ p l, pc2 xs = p :: l := by
  cases xs with
  | nil => exact ⟨_, _, rfl⟩
  | cons c r =>
    rcases crlf_cases c r with ⟨r', rfl, rfl⟩ | h
    · exact ⟨_, _, pc2_here r'⟩
    · rw [pc2_cons h]
      cases pc2 r with
      | nil => exact ⟨_, _, rfl⟩
      | cons p l => exact ⟨_, _, rfl⟩
theorem idx2_spec : ∀ (xs : List Int), (idx2 xs = none → pc2 xs = [xs] ∧ (xs ≠ [] → lnS xs = [xs])) ∧ ∀ i, idx2 xs = some i → i + 2 ≤ xs.length ∧ pc2 xs = xs.take i :: pc2 (xs.drop (i + 2)) ∧ lnS xs = xs.take i :: lnS (xs.drop (i + 2))
  | [] => ⟨fun _ => ⟨by rw [pc2], fun h => absurd rfl h⟩, fun i h => by rw [idx2] at h; cases h⟩
  | c :: r => by
    rcases crlf_cases c r with ⟨r', rfl, rfl⟩ | h
    · refine ⟨fun h => (by rw [idx2_here] at h; cases h), fun i h => ?_⟩
      rw [idx2_here] at h
      cases h
      exact ⟨by simp, by rw [pc2_here]; rfl, by rw [lnS_here]; rfl⟩
    · obtain ⟨ih1, ih2⟩ := idx2_spec r
      refine ⟨fun h0 => ?_, fun i h0 => ?_⟩
      · rw [idx2_cons h] at h0
        have hr : idx2 r = none := by cases hx : idx2 r with | none => rfl | some j => rw [hx] at h0; cases h0
        obtain ⟨h1, h2⟩ := ih1 hr
        refine ⟨by rw [pc2_cons h, h1], fun _ => ?_⟩
        rw [lnS_cons h]
        cases r with
        | nil => rfl
        | cons d r => rw [h2 (by simp)]
      · rw [idx2_cons h] at h0
        cases hx : idx2 r with
        | none => rw [hx] at h0; cases h0
        | some j =>
          rw [hx] at h0
          obtain rfl : j + 1 = i := by simpa using h0
          obtain ⟨h1, h2, h3⟩ := ih2 j hx
          exact ⟨by simp only [List.length_cons]; omega, by rw [pc2_cons h, h2]; rfl, by rw [lnS_cons h, h3]; rfl⟩
/-- A piece, ended, ahead of more. -/
theorem lnS_app : ∀ (p s : List Int), lnS (p ++ 13 :: 10 :: s) = pc2 p ++ lnS s
  | [], s => by rw [List.nil_append, lnS_here, pc2]; rfl
  | c :: r, s => by
    rcases crlf_cases c r with ⟨r', rfl, rfl⟩ | h
    · rw [pc2_here]
      show lnS (13 :: 10 :: (r' ++ 13 :: 10 :: s)) = _
      rw [lnS_here, lnS_app r' s]; rfl
    · have h' : ∀ r', c = 13 → (r ++ 13 :: 10 :: s) = 10 :: r' → False := fun r' h1 h2 => by
        cases r with
        | nil => simp at h2
        | cons d r => simp only [List.cons_append, List.cons.injEq] at h2; exact h r h1 (by rw [h2.1])
      show lnS (c :: (r ++ 13 :: 10 :: s)) = _
      rw [lnS_cons h', lnS_app r s, pc2_cons h]
      obtain ⟨p, l, hp⟩ := pc2_ne r
      rw [hp]; rfl
theorem pc2_no13 : ∀ (xs : List Int), (∀ x ∈ xs, x ≠ 13) → pc2 xs = [xs]
  | [], _ => by rw [pc2]
  | c :: r, h => by
    rw [pc2_cons (fun _ h1 _ => h c (by simp) h1), pc2_no13 r (fun x hx => h x (by simp [hx]))]
theorem joinC_pc2 : ∀ (xs : List Int), joinC (pc2 xs) = xs
  | [] => by rw [pc2]; rfl
  | c :: r => by
    rcases crlf_cases c r with ⟨r', rfl, rfl⟩ | h
    · have ih := joinC_pc2 r'
      obtain ⟨p, l, hp⟩ := pc2_ne r'
      rw [pc2_here]
      rw [hp] at ih ⊢
      rw [joinC, ih]; rfl
    · have ih := joinC_pc2 r
      obtain ⟨p, l, hp⟩ := pc2_ne r
      rw [pc2_cons h]
      rw [hp] at ih ⊢
      cases l with
      | nil => simp only [joinC] at ih ⊢; rw [ih]
      | cons q l => simp only [joinC] at ih ⊢; rw [List.cons_append, ih]
theorem pc2_len : ∀ (xs : List Int), (pc2 xs).length ≤ xs.length + 1
  | [] => by rw [pc2]; simp
  | c :: r => by
    rcases crlf_cases c r with ⟨r', rfl, rfl⟩ | h
    · have := pc2_len r'
      rw [pc2_here]; simp only [List.length_cons]; omega
    · have ih := pc2_len r
      rw [pc2_cons h]
      obtain ⟨p, l, hp⟩ := pc2_ne r
      rw [hp] at ih ⊢
      simp only [List.length_cons] at ih ⊢; omega
theorem pc2_sub : ∀ (xs : List Int) (p : List Int), p ∈ pc2 xs → (∀ x ∈ p, x ∈ xs) ∧ p.length ≤ xs.length
  | [], p, h => by rw [pc2] at h; simp at h; subst h; simp
  | c :: r, p, hp => by
    rcases crlf_cases c r with ⟨r', rfl, rfl⟩ | h
    · rw [pc2_here] at hp
      rcases List.mem_cons.1 hp with rfl | hp
      · simp
      · obtain ⟨h1, h2⟩ := pc2_sub r' p hp
        exact ⟨fun x hx => by simp [h1 x hx], by simp only [List.length_cons]; omega⟩
    · obtain ⟨q, l, hq⟩ := pc2_ne r
      rw [pc2_cons h, hq] at hp
      rcases List.mem_cons.1 hp with rfl | hp
      · obtain ⟨h1, h2⟩ := pc2_sub r q (by rw [hq]; simp)
        exact ⟨fun x hx => by rcases List.mem_cons.1 hx with rfl | hx; simp; simp [h1 x hx], by simp only [List.length_cons]; omega⟩
      · obtain ⟨h1, h2⟩ := pc2_sub r p (by rw [hq]; simp [hp])
        exact ⟨fun x hx => by simp [h1 x hx], by simp only [List.length_cons]; omega⟩
theorem lnS_sub : ∀ (xs : List Int) (p : List Int), p ∈ lnS xs → (∀ x ∈ p, x ∈ xs) ∧ p.length ≤ xs.length
  | [], p, h => by rw [lnS] at h; simp at h
  | c :: r, p, hp => by
    rcases crlf_cases c r with ⟨r', rfl, rfl⟩ | h
    · rw [lnS_here] at hp
      rcases List.mem_cons.1 hp with rfl | hp
      · simp
      · obtain ⟨h1, h2⟩ := lnS_sub r' p hp
        exact ⟨fun x hx => by simp [h1 x hx], by simp only [List.length_cons]; omega⟩
    · rw [lnS_cons h] at hp
      cases hq : lnS r with
      | nil =>
        rw [hq] at hp
        simp at hp; subst hp; simp
      | cons q l =>
        rw [hq] at hp
        rcases List.mem_cons.1 hp with rfl | hp
        · obtain ⟨h1, h2⟩ := lnS_sub r q (by rw [hq]; simp)
          exact ⟨fun x hx => by rcases List.mem_cons.1 hx with rfl | hx; simp; simp [h1 x hx], by simp only [List.length_cons]; omega⟩
        · obtain ⟨h1, h2⟩ := lnS_sub r p (by rw [hq]; simp [hp])
          exact ⟨fun x hx => by simp [h1 x hx], by simp only [List.length_cons]; omega⟩
theorem lnS_len : ∀ (xs : List Int), (lnS xs).length ≤ xs.length
  | [] => by rw [lnS]; simp
  | c :: r => by
    rcases crlf_cases c r with ⟨r', rfl, rfl⟩ | h
    · have := lnS_len r'
      rw [lnS_here]; simp only [List.length_cons]; omega
    · have ih := lnS_len r
      rw [lnS_cons h]
      cases hq : lnS r with
      | nil => simp
      | cons q l => rw [hq] at ih; simp only [List.length_cons] at ih ⊢; omega
/-- The octets of lines joined. -/
def lensC (l : List (List Int)) : Nat := (l.map (fun p => p.length + 2)).sum
theorem lnS_sum : ∀ (xs : List Int), lensC (lnS xs) ≤ xs.length + 2 ∧ (lnS xs = [] → xs = [])
  | [] => by rw [lnS]; simp [lensC]
  | c :: r => by
    rcases crlf_cases c r with ⟨r', rfl, rfl⟩ | h
    · have := (lnS_sum r').1
      rw [lnS_here]
      simp only [lensC, List.map_cons, List.sum_cons, List.length_cons, List.length_nil] at this ⊢
      exact ⟨by omega, by simp⟩
    · have ih := lnS_sum r
      rw [lnS_cons h]
      cases hq : lnS r with
      | nil => simp [lensC, ih.2 hq]
      | cons q l => rw [hq] at ih; simp only [lensC, List.map_cons, List.sum_cons, List.length_cons] at ih ⊢; exact ⟨by omega, by simp⟩
end Go.Proofs.YtnoffalohplhnaaDoor
namespace Go.Proofs.YtnoffalohplhnaaDoor

def surB (c : Int) : Bool := decide (55296 ≤ c ∧ c ≤ 57343)
def scB (c : Int) : Bool := decide (0 ≤ c ∧ c ≤ 1114111 ∧ ¬ (55296 ≤ c ∧ c ≤ 57343))
theorem surB_iff {c : Int} : surB c = true ↔ (55296 ≤ c ∧ c ≤ 57343) := decide_eq_true_iff
theorem scB_iff {c : Int} : scB c = true ↔ (0 ≤ c ∧ c ≤ 1114111 ∧ ¬ (55296 ≤ c ∧ c ≤ 57343)) := decide_eq_true_iff

/-- The place of the first that p takes, or -1. -/
def idx (p : Int → Bool) (xs : List Int) : Int := match xs.findIdx? p with | some i => i | none => -1
theorem idx_at {p : Int → Bool} {xs : List Int} {k : Nat} {x : Int} (h : ∀ y ∈ xs.take k, p y = false) (hx : xs[k]? = some x) (hp : p x = true) : idx p xs = k := by
  obtain ⟨hk, rfl⟩ := List.getElem?_eq_some_iff.1 hx
  have : xs.findIdx? p = some k := by
    rw [List.findIdx?_eq_some_iff_getElem]
    refine ⟨hk, hp, fun j hj => ?_⟩
    have := h xs[j] (by rw [List.mem_iff_getElem]; exact ⟨j, by simp; omega, by simp⟩)
    simp [this]
  simp [idx, this]
theorem idx_none {p : Int → Bool} {xs : List Int} (h : ∀ y ∈ xs, p y = false) : idx p xs = -1 := by
  have : xs.findIdx? p = none := by rw [List.findIdx?_eq_none_iff]; exact h
  simp [idx, this]
theorem take_succ_all {q : Int → Prop} {xs : List Int} {k : Nat} {x : Int} (h : ∀ y ∈ xs.take k, q y) (hx : xs[k]? = some x) (hq : q x) : ∀ y ∈ xs.take (k + 1), q y := by
  intro y hy
  rw [List.take_add_one, hx] at hy
  rcases List.mem_append.1 hy with hy | hy
  · exact h y hy
  · simp at hy; subst hy; exact hq

end Go.Proofs.YtnoffalohplhnaaDoor
namespace Go.Proofs.YtnoffalohplhnaaDoor
def Rg (a b : Int) (xs : List Int) : Prop := ∀ x ∈ xs, a ≤ x ∧ x < b
theorem Rg.nil (a b : Int) : Rg a b [] := fun x hx => by simp at hx
theorem Rg.cons {a b : Int} {x : Int} {xs : List Int} (h : Rg a b (x :: xs)) : (a ≤ x ∧ x < b) ∧ Rg a b xs := ⟨h x (by simp), fun y hy => h y (by simp [hy])⟩
theorem Rg.drop {a b : Int} {xs : List Int} (h : Rg a b xs) (n : Nat) : Rg a b (xs.drop n) := fun x hx => h x (List.mem_of_mem_drop hx)
theorem Rg.take {a b : Int} {xs : List Int} (h : Rg a b xs) (n : Nat) : Rg a b (xs.take n) := fun x hx => h x (List.mem_of_mem_take hx)
theorem Rg.get {a b : Int} {xs : List Int} (h : Rg a b xs) {i : Nat} {x : Int} (hx : xs[i]? = some x) : a ≤ x ∧ x < b := h x (List.mem_of_getElem? hx)
theorem Rg.append {a b : Int} {xs ys : List Int} (h : Rg a b xs) (h' : Rg a b ys) : Rg a b (xs ++ ys) := fun x hx => (List.mem_append.1 hx).elim (h x) (h' x)

/-- Strictly: the text, if there is no error. -/
def strictL (q : Int) (t : List Int) : List Int := if q = 0 then t else []
/-- The first error of some. -/
def ferr (es : List Int) : Int := (es.find? (· != 0)).getD 0
theorem ferr_nil : ferr [] = 0 := rfl
theorem ferr_zero {es : List Int} (h : ferr es = 0) : ∀ e ∈ es, e = 0 := by
  unfold ferr at h
  intro e he
  cases hf : es.find? (· != 0) with
  | none => simpa using List.find?_eq_none.1 hf e he
  | some y =>
    rw [hf] at h
    have := List.find?_some hf
    simp at h; subst h; simp at this
theorem ferr_snoc (es : List Int) (e : Int) : ferr (es ++ [e]) = if ferr es = 0 then e else ferr es := by
  split
  · rename_i h
    have h0 := ferr_zero h
    have : es.find? (· != 0) = none := by rw [List.find?_eq_none]; intro x hx; simp [h0 x hx]
    by_cases he : e = 0
    · simp [ferr, List.find?_append, this, he]
    · have hb : (e != 0) = true := by simp [he]
      simp [ferr, List.find?_append, this, hb]
  · rename_i h
    cases hf : es.find? (· != 0) with
    | none => simp [ferr, hf] at h
    | some y => simp [ferr, List.find?_append, hf]
theorem ferr_all {es : List Int} (h : ∀ e ∈ es, e = 0) : ferr es = 0 := by
  have : es.find? (· != 0) = none := by rw [List.find?_eq_none]; intro x hx; simp [h x hx]
  simp [ferr, this]

def hiB (u : Int) : Bool := decide (55296 ≤ u ∧ u ≤ 56319)
def loB (u : Int) : Bool := decide (56320 ≤ u ∧ u ≤ 57343)
theorem hiB_iff {u : Int} : hiB u = true ↔ (55296 ≤ u ∧ u ≤ 56319) := decide_eq_true_iff
theorem loB_iff {u : Int} : loB u = true ↔ (56320 ≤ u ∧ u ≤ 57343) := decide_eq_true_iff
def uof (c : Int) : List Int := if scB c then (if c < 65536 then [c] else [55296 + (c - 65536) / 1024, 56320 + (c - 65536) % 1024]) else []

/-- The first sign, of how many units, and its error. -/
def uone (x : Int) (r : List Int) : Int × Int × Int :=
  if loB x then (65533, 1, 3) else if hiB x then
    (match r with
      | [] => (65533, 1, 4)
      | y :: _ => if loB y then (65536 + ((x - 55296) * 1024 + (y - 56320)), 2, 0) else (65533, 1, 3))
  else (x, 1, 0)
/-- The signs and their errors. -/
def uread : List Int → List (Int × Int)
  | [] => []
  | x :: r => ((uone x r).1, (uone x r).2.2) :: uread ((x :: r).drop (uone x r).2.1.toNat)
termination_by xs => xs.length
decreasing_by
  have : 1 ≤ (uone x r).2.1 := by
    unfold uone
    split
    · simp
    · split
      · split
        · simp
        · split <;> simp
      · simp
  simp only [List.length_drop, List.length_cons]; omega
theorem uone_n (x : Int) (r : List Int) : (uone x r).2.1 = 1 ∨ ((uone x r).2.1 = 2 ∧ r ≠ []) := by
  unfold uone
  split
  · simp
  · split
    · split
      · simp
      · split <;> simp
    · simp

theorem uread_nil : uread [] = [] := by rw [uread]
theorem uread_cons (x : Int) (r : List Int) : uread (x :: r) = ((uone x r).1, (uone x r).2.2) :: uread ((x :: r).drop (uone x r).2.1.toNat) := by rw [uread]
theorem uone_rng {x : Int} {r : List Int} (h : Rg 0 65536 (x :: r)) : 0 ≤ (uone x r).1 ∧ (uone x r).1 ≤ 1114111 := by
  obtain ⟨hx, hr⟩ := h.cons
  unfold uone
  split
  · simp
  · split
    · rename_i h1
      have h1 := hiB_iff.1 h1
      split
      · simp
      · split
        · rename_i h2
          have h2 := loB_iff.1 h2
          simp only []; omega
        · simp
    · simp only []; omega

theorem hiB_not_lo {x : Int} (h : loB x = true) : hiB x = false := by
  have h1 := loB_iff.1 h
  have : ¬ hiB x = true := fun h2 => by have := hiB_iff.1 h2; omega
  simpa using this
theorem uread_lo {x : Int} (r : List Int) (h : loB x = true) : uread (x :: r) = (65533, 3) :: uread r := by
  rw [uread_cons]; simp [uone, h]
theorem uread_bmp {x : Int} (r : List Int) (h : loB x = false) (h' : hiB x = false) : uread (x :: r) = (x, 0) :: uread r := by
  rw [uread_cons]; simp [uone, h, h']
theorem uread_end {x : Int} (h : loB x = false) (h' : hiB x = true) : uread [x] = (65533, 4) :: uread [] := by
  rw [uread_cons]; simp [uone, h, h']
theorem uread_pair {x y : Int} (r : List Int) (h : loB x = false) (h' : hiB x = true) (hy : loB y = true) : uread (x :: y :: r) = (65536 + ((x - 55296) * 1024 + (y - 56320)), 0) :: uread r := by
  rw [uread_cons]; simp [uone, h, h', hy]
theorem uread_bad {x y : Int} (r : List Int) (h : loB x = false) (h' : hiB x = true) (hy : loB y = false) : uread (x :: y :: r) = (65533, 3) :: uread (y :: r) := by
  rw [uread_cons]; simp [uone, h, h', hy]
end Go.Proofs.YtnoffalohplhnaaDoor
