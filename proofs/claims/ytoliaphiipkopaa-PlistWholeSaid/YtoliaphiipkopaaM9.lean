/- Plain: quoted texts, lists of parameters, attributes. (laid together by program out of single texts). -/
import Derived.Test.YtoliaphiipkopaaM8
namespace Go.Proofs.Ytoliaphiipkopaa
/-- What a quoted text holds, behind its first quote: what was read so far, and how many octets it has. -/
def uqG : Bool → Nat → List Int → List Int → Option (List Int × Nat)
  | _, _, _, [] => none
  | t, i, acc, c :: r => if t = true then uqG false (i + 1) (acc ++ [c]) r else if c = 34 then some (acc, i + 2) else if c = 92 then uqG true (i + 1) acc r else uqG false (i + 1) (acc ++ [c]) r
theorem uqG_len : ∀ (r : List Int) (t : Bool) (i : Nat) (acc : List Int) (o : List Int) (n : Nat), uqG t i acc r = some (o, n) → i + 2 ≤ n ∧ n ≤ i + 1 + r.length ∧ o.length ≤ acc.length + r.length
  | [], t, i, acc, o, n, h => by rw [uqG] at h; cases h
  | c :: r, t, i, acc, o, n, h => by
    have ih := fun t acc h => uqG_len r t (i + 1) acc o n h
    simp only [List.length_cons]
    rw [uqG] at h
    split at h
    · have := ih _ _ h; simp only [List.length_append, List.length_cons, List.length_nil] at this; omega
    · split at h
      · cases h; omega
      · split at h
        · have := ih _ _ h; omega
        · have := ih _ _ h; simp only [List.length_append, List.length_cons, List.length_nil] at this; omega
theorem uqG_mem : ∀ (r : List Int) (t : Bool) (i : Nat) (acc : List Int) (o : List Int) (n : Nat), uqG t i acc r = some (o, n) → ∀ x ∈ o, x ∈ acc ∨ x ∈ r
  | [], t, i, acc, o, n, h => by rw [uqG] at h; cases h
  | c :: r, t, i, acc, o, n, h => by
    have ih := fun t acc h => uqG_mem r t (i + 1) acc o n h
    intro x hx
    have fin : ∀ acc' : List Int, (∀ y ∈ acc', y ∈ acc ∨ y = c) → (x ∈ acc' ∨ x ∈ r) → x ∈ acc ∨ x ∈ c :: r := fun acc' ha hh => by
      rcases hh with h1 | h1
      · rcases ha x h1 with h2 | h2
        · exact .inl h2
        · exact .inr (by simp [h2])
      · exact .inr (by simp [h1])
    rw [uqG] at h
    split at h
    · exact fin _ (fun y hy => by simpa using hy) (ih _ _ h x hx)
    · split at h
      · cases h; exact .inl hx
      · split at h
        · exact fin _ (fun y hy => .inl hy) (ih _ _ h x hx)
        · exact fin _ (fun y hy => by simpa using hy) (ih _ _ h x hx)
def uqE : Option (List Int × Nat) → List Int × Nat × Int
  | some (o, n) => (o, n, 0)
  | none => ([], 0, 4)
def uqM : List Int → List Int × Nat × Int
  | [] => ([], 0, 3)
  | c :: r => if c = 34 then uqE (uqG false 0 [] r) else ([], 0, 3)
/-- How many octets are gone over. -/
def ovM (s : List Int) : Nat := match s with
  | [] => 1
  | c :: _ => if c = 34 then (if (uqM s).2.2 = 0 then (uqM s).2.1 else s.length) else if c = 40 then gp s else 1
theorem gp_pos40 (r : List Int) : 1 ≤ gp (40 :: r) := by
  rw [gp_cons, if_pos rfl]
  have := cmt_pos 40 r 0 false
  omega
theorem ovM_rng (c : Int) (r : List Int) : 1 ≤ ovM (c :: r) ∧ ovM (c :: r) ≤ (c :: r).length := by
  unfold ovM
  simp only []
  split
  · rename_i h
    subst h
    split
    · rename_i h0
      rw [uqM, if_pos rfl] at h0 ⊢
      cases hu : uqG false 0 [] r with
      | none => rw [hu] at h0; simp [uqE] at h0
      | some p =>
        obtain ⟨o, n⟩ := p
        have := uqG_len r false 0 [] o n hu
        simp only [List.length_cons, uqE]
        omega
    · simp only [List.length_cons]; omega
  · split
    · rename_i h
      subst h
      exact ⟨gp_pos40 r, gp_len _⟩
    · simp only [List.length_cons]; omega
/-- The parts of a list: 'cur' stands ahead of what is left. -/
def ptG (cur : List Int) : List Int → List (List Int)
  | [] => [cur]
  | c :: r => if c = 59 then cur :: ptG [] r else ptG (cur ++ (c :: r).take (ovM (c :: r))) ((c :: r).drop (ovM (c :: r)))
termination_by rest => rest.length
decreasing_by
  · simp
  · have := ovM_rng c r
    simp only [List.length_drop, List.length_cons]; omega
def ptsM (s : List Int) : List (List Int) := ptG [] s
theorem ptG_nil (cur : List Int) : ptG cur [] = [cur] := by rw [ptG]
theorem ptG_cons (cur : List Int) (c : Int) (r : List Int) : ptG cur (c :: r) = if c = 59 then cur :: ptG [] r else ptG (cur ++ (c :: r).take (ovM (c :: r))) ((c :: r).drop (ovM (c :: r))) := by rw [ptG]
/-- Parts, with ; between. -/
def joinP : List (List Int) → List Int
  | [] => []
  | [p] => p
  | p :: q :: l => p ++ 59 :: joinP (q :: l)
theorem ptG_ne : ∀ (n : Nat) (rest cur : List Int), rest.length ≤ n → ∃ p l, ptG cur rest = p :: l
  | 0, rest, cur, h => by obtain rfl : rest = [] := List.eq_nil_of_length_eq_zero (by omega); exact ⟨_, _, ptG_nil cur⟩
  | n + 1, [], cur, _ => ⟨_, _, ptG_nil cur⟩
  | n + 1, c :: r, cur, h => by
    rw [ptG_cons]
    have h1 := ovM_rng c r
    simp only [List.length_cons] at h
    split
    · exact ⟨_, _, rfl⟩
    · exact ptG_ne n _ _ (by simp only [List.length_drop, List.length_cons]; omega)
theorem ptG_join : ∀ (n : Nat) (rest cur : List Int), rest.length ≤ n → joinP (ptG cur rest) = cur ++ rest
  | 0, rest, cur, h => by obtain rfl : rest = [] := List.eq_nil_of_length_eq_zero (by omega); rw [ptG_nil]; simp [joinP]
  | n + 1, [], cur, _ => by rw [ptG_nil]; simp [joinP]
  | n + 1, c :: r, cur, h => by
    rw [ptG_cons]
    have h1 := ovM_rng c r
    simp only [List.length_cons] at h
    split
    · rename_i hc
      subst hc
      obtain ⟨p, l, hp⟩ := ptG_ne r.length r [] (Nat.le_refl _)
      have ih := ptG_join n r [] (by omega)
      rw [hp] at ih ⊢
      rw [joinP, ih]
      simp
    · rw [ptG_join n _ _ (by simp only [List.length_drop, List.length_cons]; omega), List.append_assoc, List.take_append_drop]
theorem ptsM_join (s : List Int) : joinP (ptsM s) = s := by rw [ptsM, ptG_join s.length s [] (Nat.le_refl _), List.nil_append]
theorem ptG_len : ∀ (n : Nat) (rest cur : List Int), rest.length ≤ n → (ptG cur rest).length ≤ rest.length + 1
  | 0, rest, cur, h => by obtain rfl : rest = [] := List.eq_nil_of_length_eq_zero (by omega); rw [ptG_nil]; simp
  | n + 1, [], cur, _ => by rw [ptG_nil]; simp
  | n + 1, c :: r, cur, h => by
    rw [ptG_cons]
    have h1 := ovM_rng c r
    simp only [List.length_cons] at h ⊢
    split
    · have := ptG_len n r [] (by omega)
      simp only [List.length_cons]; omega
    · have := ptG_len n ((c :: r).drop (ovM (c :: r))) (cur ++ (c :: r).take (ovM (c :: r))) (by simp only [List.length_drop, List.length_cons]; omega)
      simp only [List.length_drop, List.length_cons] at this
      omega
theorem joinP_snoc : ∀ (l : List (List Int)) (p : List Int), l ≠ [] → joinP (l ++ [p]) = joinP l ++ 59 :: p
  | [], p, h => absurd rfl h
  | [q], p, _ => rfl
  | q :: q2 :: l, p, _ => by
    have := joinP_snoc (q2 :: l) p (by simp)
    show q ++ 59 :: joinP (q2 :: l ++ [p]) = _
    rw [this]
    simp [joinP]
theorem joinP_mem : ∀ (l : List (List Int)) (p : List Int), p ∈ l → (∀ x ∈ p, x ∈ joinP l) ∧ p.length ≤ (joinP l).length
  | [], p, h => by simp at h
  | [q], p, h => by
    simp at h; subst h
    exact ⟨fun x hx => hx, Nat.le_refl _⟩
  | q :: q2 :: l, p, h => by
    have e : joinP (q :: q2 :: l) = q ++ 59 :: joinP (q2 :: l) := rfl
    rw [e]
    rcases List.mem_cons.1 h with rfl | h
    · exact ⟨fun x hx => by simp [hx], by simp⟩
    · have ih := joinP_mem (q2 :: l) p h
      exact ⟨fun x hx => by simp [ih.1 x hx], by simp only [List.length_append, List.length_cons]; omega⟩
/-- How many octets of a token stand ahead. -/
def tkN : List Int → Nat
  | [] => 0
  | c :: r => if tokB c = true then 1 + tkN r else 0
theorem tkN_len : ∀ y : List Int, tkN y ≤ y.length
  | [] => Nat.le_refl _
  | c :: r => by
    have := tkN_len r
    rw [tkN, List.length_cons]
    split <;> omega
/-- A token at 'k', of which 'y' stands behind: it, where it ends, the error. -/
def tokM (k : Nat) (y : List Int) : List Int × Nat × Int := if y.length = 0 then ([], 0, 4) else if tkN y = 0 then ([], 0, 3) else (y.take (tkN y), k + tkN y, 0)
def valM (k : Nat) (y : List Int) : List Int × Nat × Int := match y with
  | [] => tokM k []
  | c :: r => if c = 34 then (if (uqM (c :: r)).2.2 = 0 then ((uqM (c :: r)).1, k + (uqM (c :: r)).2.1, 0) else ([], 0, (uqM (c :: r)).2.2)) else tokM k (c :: r)
def skpM (s : List Int) (k : Nat) (c : Int) : Nat × Bool := if s[k + gp (s.drop k)]? = some c then (k + gp (s.drop k) + 1, true) else (k, false)
theorem tokM_rng (k : Nat) (y : List Int) : (tokM k y).2.1 ≤ k + y.length ∧ (tokM k y).1.length ≤ y.length ∧ ∀ x ∈ (tokM k y).1, x ∈ y := by
  have := tkN_len y
  unfold tokM
  split
  · exact ⟨by simp only []; omega, by simp, by simp⟩
  · split
    · exact ⟨by simp only []; omega, by simp, by simp⟩
    · exact ⟨by simp only []; omega, by simp only [List.length_take]; omega, fun x hx => List.mem_of_mem_take hx⟩
theorem uqM_rng (y : List Int) : (uqM y).2.1 ≤ y.length ∧ (uqM y).1.length ≤ y.length ∧ ∀ x ∈ (uqM y).1, x ∈ y := by
  cases y with
  | nil => exact ⟨by simp [uqM], by simp [uqM], by simp [uqM]⟩
  | cons c r =>
    rw [uqM]
    split
    · cases hu : uqG false 0 [] r with
      | none => exact ⟨by simp [uqE], by simp [uqE], by simp [uqE]⟩
      | some p =>
        obtain ⟨o, n⟩ := p
        have h1 := uqG_len r false 0 [] o n hu
        have h2 := uqG_mem r false 0 [] o n hu
        simp only [List.length_nil] at h1
        refine ⟨by simp only [uqE, List.length_cons]; omega, by simp only [uqE, List.length_cons]; omega, fun x hx => ?_⟩
        rcases h2 x hx with h | h
        · simp at h
        · exact List.mem_cons_of_mem _ h
    · exact ⟨by simp, by simp, by simp⟩
theorem valM_rng (k : Nat) (y : List Int) : (valM k y).2.1 ≤ k + y.length ∧ (valM k y).1.length ≤ y.length ∧ ∀ x ∈ (valM k y).1, x ∈ y := by
  cases y with
  | nil => exact tokM_rng k []
  | cons c r =>
    have h1 := uqM_rng (c :: r)
    have h2 := tokM_rng k (c :: r)
    unfold valM
    simp only []
    split
    · split
      · exact ⟨by simp only []; omega, h1.2.1, h1.2.2⟩
      · exact ⟨by simp, by simp, by simp⟩
    · exact h2
theorem skpM_rng (s : List Int) (k : Nat) (c : Int) (hk : k ≤ s.length) : (skpM s k c).1 ≤ s.length := by
  unfold skpM
  split
  · rename_i h
    have := (List.getElem?_eq_some_iff.1 h).1
    simp only []; omega
  · exact hk
/-- The number of digits, -1 if they are none. -/
def numV : Int → List Int → Int
  | n, [] => n
  | n, c :: r => numV (10 * n + (c - 48)) r
def numM (s : List Int) : Int := if s.length = 0 ∨ 3 < s.length ∨ s.all dgB = false ∨ (s[0]? = some 48 ∧ 1 < s.length) then -1 else numV 0 s
/-- What an attribute's octets are. -/
def attB (c : Int) : Bool := tokB c && !naB c
def lowS (xs : List Int) : List Int := xs.map lowC
/-- The name, the number, whether it is extended: of an attribute in small letters. -/
def atrL (a : List Int) : List Int × Int × Bool :=
  if a.contains 42 = false ∨ (tw 42 a).length = 0 ∨ (tw 42 a).all attB = false then (a, -1, false)
  else if (a.drop ((tw 42 a).length + 1)).length = 0 then (tw 42 a, -1, true)
  else if numM (csS (a.drop ((tw 42 a).length + 1))).1 = -1 then (a, -1, false)
  else (tw 42 a, numM (csS (a.drop ((tw 42 a).length + 1))).1, (csS (a.drop ((tw 42 a).length + 1))).2)
where csS (r : List Int) : List Int × Bool := if r[r.length - 1]? = some 42 then (r.take (r.length - 1), true) else (r, false)
def atrM (a : List Int) : List Int × Int × Bool := atrL (lowS a)
/-- A parameter: name, number, extended, value; the error. -/
def oneM (s : List Int) : (List Int × Int × Bool × List Int) × Int :=
  if (tokM (gp s) (s.drop (gp s))).2.2 ≠ 0 then (([], 0, false, []), 3)
  else if (skpM s (tokM (gp s) (s.drop (gp s))).2.1 61).2 = false then (([], 0, false, []), 3)
  else oneV (atrM (tokM (gp s) (s.drop (gp s))).1) s ((skpM s (tokM (gp s) (s.drop (gp s))).2.1 61).1 + gp (s.drop (skpM s (tokM (gp s) (s.drop (gp s))).2.1 61).1))
where oneV (a : List Int × Int × Bool) (s : List Int) (k : Nat) : (List Int × Int × Bool × List Int) × Int :=
  if (valM k (s.drop k)).2.2 ≠ 0 then (([], 0, false, []), 3)
  else if gp (s.drop (valM k (s.drop k)).2.1) ≠ (s.drop (valM k (s.drop k)).2.1).length then (([], 0, false, []), 3)
  else ((a.1, a.2.1, a.2.2, (valM k (s.drop k)).1), 0)
def emtB (s : List Int) : Bool := decide (gp s = s.length)
def readP (s : List Int) : List (List Int × Int × Bool × List Int) := (ptsM s).filterMap fun p => if (oneM p).2 = 0 then some (oneM p).1 else none
def badP (s : List Int) : Nat := (ptsM s).countP fun p => decide ((oneM p).2 ≠ 0) && !emtB p
theorem alive35_facts : readP [59, 32, 65, 42, 49, 42, 61, 120, 59, 32, 98, 61, 34, 99, 59, 100, 34, 59, 32, 61] = [([97], 1, true, [120]), ([98], -1, false, [99, 59, 100])] ∧ badP [97, 59, 98, 61, 99] = 1 := by decide +kernel
end Go.Proofs.Ytoliaphiipkopaa
