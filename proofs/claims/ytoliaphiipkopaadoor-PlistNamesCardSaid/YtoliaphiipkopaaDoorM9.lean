/- Plain: quoted texts, lists of parameters, attributes. · Plain: attributes' names laid and read; the document's own of an attribute. · Walks: kinds of octets, by the reference. · Walks: kinds of octets, asked of the reference. (laid together by program out of single texts). -/
import Derived.Test.YtoliaphiipkopaaDoorM8
namespace Go.Proofs.YtoliaphiipkopaaDoor
/-- What a quoted text holds, behind its first quote: what was read so far, and how many octets it has. -/
def uqG : Bool → Nat → List Int → List Int → Option (List Int × Nat)
  | _, _, _, [] => none
  | t, i, acc, c :: r => if t = true then uqG false (i + 1) (acc ++ [c]) r else if c = 34 then some (acc, i + 2) else if c = 92 then uqG true (i + 1) acc r else uqG false (i + 1) (acc ++ [c]) r
theorem uqG_len : ∀ (r : List Int) (t : Bool) (i : Nat) (acc : List Int) (o : List Int) (n : Nat), uqG t i acc r = some (o, n) → i + 2 ≤ n ∧ n ≤ i + 1 + r.length ∧ o.length ≤ acc.length + r.length
  | [], t, i, acc, o, n, h => by rw [uqG] at h; cases h
  | c :: r, t, i, acc, o, n, h => by
    have ih := fun t acc h => uqG_len r t (i + 1) acc o n h
    simp only [List.length_cons]
    rw [uqG] at h
    split at h
    · have := ih _ _ h; simp only [List.length_append, List.length_cons, List.length_nil] at this; omega
    · split at h
      · cases h; omega
      · split at h
        · have := ih _ _ h; omega
        · have := ih _ _ h; simp only [List.length_append, List.length_cons, List.length_nil] at this; omega
theorem uqG_mem : ∀ (r : List Int) (t : Bool) (i : Nat) (acc : List Int) (o : List Int) (n : Nat), uqG t i acc r = some (o, n) → ∀ x ∈ o, x ∈ acc ∨ x ∈ r
  | [], t, i, acc, o, n, h => by rw [uqG] at h; cases h
  | c :: r, t, i, acc, o, n, h => by
    have ih := fun t acc h => uqG_mem r t (i + 1) acc o n h
    intro x hx
    have fin : ∀ acc' : List Int, (∀ y ∈ acc', y ∈ acc ∨ y = c) → (x ∈ acc' ∨ x ∈ r) → x ∈ acc ∨ x ∈ c :: r := fun acc' ha hh => by
      rcases hh with h1 | h1
      · rcases ha x h1 with h2 | h2
        · exact .inl h2
        · exact .inr (by simp [h2])
      · exact .inr (by simp [h1])
    rw [uqG] at h
    split at h
    · exact fin _ (fun y hy => by simpa using hy) (ih _ _ h x hx)
    · split at h
      · cases h; exact .inl hx
      · split at h
        · exact fin _ (fun y hy => .inl hy) (ih _ _ h x hx)
        · exact fin _ (fun y hy => by simpa using hy) (ih _ _ h x hx)
def uqE : Option (List Int × Nat) → List Int × Nat × Int
  | some (o, n) => (o, n, 0)
  | none => ([], 0, 4)
def uqM : List Int → List Int × Nat × Int
  | [] => ([], 0, 3)
  | c :: r => if c = 34 then uqE (uqG false 0 [] r) else ([], 0, 3)
/-- How many octets are gone over. -/
def ovM (s : List Int) : Nat := match s with
  | [] => 1
  | c :: _ => if c = 34 then (if (uqM s).2.2 = 0 then (uqM s).2.1 else s.length) else if c = 40 then gp s else 1
theorem gp_pos40 (r : List Int) : 1 ≤ gp (40 :: r) := by
  rw [gp_cons, if_pos rfl]
  have := cmt_pos 40 r 0 false
  omega
theorem ovM_rng (c : Int) (r : List Int) : 1 ≤ ovM (c :: r) ∧ ovM (c :: r) ≤ (c :: r).length := by
  unfold ovM
  simp only []
  split
  · rename_i h
    subst h
    split
    · rename_i h0
      rw [uqM, if_pos rfl] at h0 ⊢
      cases hu : uqG false 0 [] r with
      | none => rw [hu] at h0; simp [uqE] at h0
      | some p =>
        obtain ⟨o, n⟩ := p
        have := uqG_len r false 0 [] o n hu
        simp only [List.length_cons, uqE]
        omega
    · simp only [List.length_cons]; omega
  · split
    · rename_i h
      subst h
      exact ⟨gp_pos40 r, gp_len _⟩
    · simp only [List.length_cons]; omega
/-- The parts of a list: 'cur' stands ahead of what is left. -/
def ptG (cur : List Int) : List Int → List (List Int)
  | [] => [cur]
  | c :: r => if c = 59 then cur :: ptG [] r else ptG (cur ++ (c :: r).take (ovM (c :: r))) ((c :: r).drop (ovM (c :: r)))
termination_by rest => rest.length
decreasing_by
  · simp
  · have := ovM_rng c r
    simp only [List.length_drop, List.length_cons]; omega
def ptsM (s : List Int) : List (List Int) := ptG [] s
theorem ptG_nil (cur : List Int) : ptG cur [] = [cur] := by rw [ptG]
theorem ptG_cons (cur : List Int) (c : Int) (r : List Int) : ptG cur (c :: r) = if c = 59 then cur :: ptG [] r else ptG (cur ++ (c :: r).take (ovM (c :: r))) ((c :: r).drop (ovM (c :: r))) := by rw [ptG]
/-- Parts, with ; between. -/
def joinP : List (List Int) → List Int
  | [] => []
  | [p] => p
  | p :: q :: l => p ++ 59 :: joinP (q :: l)
theorem ptG_ne : ∀ (n : Nat) (rest cur : List Int), rest.length ≤ n → ∃ p l, ptG cur rest = p :: l
  | 0, rest, cur, h => by obtain rfl : rest = [] := List.eq_nil_of_length_eq_zero (by omega); exact ⟨_, _, ptG_nil cur⟩
  | n + 1, [], cur, _ => ⟨_, _, ptG_nil cur⟩
  | n + 1, c :: r, cur, h => by
    rw [ptG_cons]
    have h1 := ovM_rng c r
    simp only [List.length_cons] at h
    split
    · exact ⟨_, _, rfl⟩
    · exact ptG_ne n _ _ (by simp only [List.length_drop, List.length_cons]; omega)
theorem ptG_join : ∀ (n : Nat) (rest cur : List Int), rest.length ≤ n → joinP (ptG cur rest) = cur ++ rest
  | 0, rest, cur, h => by obtain rfl : rest = [] := List.eq_nil_of_length_eq_zero (by omega); rw [ptG_nil]; simp [joinP]
  | n + 1, [], cur, _ => by rw [ptG_nil]; simp [joinP]
  | n + 1, c :: r, cur, h => by
    rw [ptG_cons]
    have h1 := ovM_rng c r
    simp only [List.length_cons] at h
    split
    · rename_i hc
      subst hc
      obtain ⟨p, l, hp⟩ := ptG_ne r.length r [] (Nat.le_refl _)
      have ih := ptG_join n r [] (by omega)
      rw [hp] at ih ⊢
      rw [joinP, ih]
      simp
    · rw [ptG_join n _ _ (by simp only [List.length_drop, List.length_cons]; omega), List.append_assoc, List.take_append_drop]
theorem ptsM_join (s : List Int) : joinP (ptsM s) = s := by rw [ptsM, ptG_join s.length s [] (Nat.le_refl _), List.nil_append]
theorem ptG_len : ∀ (n : Nat) (rest cur : List Int), rest.length ≤ n → (ptG cur rest).length ≤ rest.length + 1
  | 0, rest, cur, h => by obtain rfl : rest = [] := List.eq_nil_of_length_eq_zero (by omega); rw [ptG_nil]; simp
  | n + 1, [], cur, _ => by rw [ptG_nil]; simp
  | n + 1, c :: r, cur, h => by
    rw [ptG_cons]
    have h1 := ovM_rng c r
    simp only [List.length_cons] at h ⊢
    split
    · have := ptG_len n r [] (by omega)
      simp only [List.length_cons]; omega
    · have := ptG_len n ((c :: r).drop (ovM (c :: r))) (cur ++ (c :: r).take (ovM (c :: r))) (by simp only [List.length_drop, List.length_cons]; omega)
      simp only [List.length_drop, List.length_cons] at this
      omega
theorem joinP_snoc : ∀ (l : List (List Int)) (p : List Int), l ≠ [] → joinP (l ++ [p]) = joinP l ++ 59 :: p
  | [], p, h => absurd rfl h
  | [q], p, _ => rfl
  | q :: q2 :: l, p, _ => by
    have := joinP_snoc (q2 :: l) p (by simp)
    show q ++ 59 :: joinP (q2 :: l ++ [p]) = _
    rw [this]
    simp [joinP]
theorem joinP_mem : ∀ (l : List (List Int)) (p : List Int), p ∈ l → (∀ x ∈ p, x ∈ joinP l) ∧ p.length ≤ (joinP l).length
  | [], p, h => by simp at h
  | [q], p, h => by
    simp at h; subst h
    exact ⟨fun x hx => hx, Nat.le_refl _⟩
  | q :: q2 :: l, p, h => by
    have e : joinP (q :: q2 :: l) = q ++ 59 :: joinP (q2 :: l) := rfl
    rw [e]
    rcases List.mem_cons.1 h with rfl | h
    · exact ⟨fun x hx => by simp [hx], by simp⟩
    · have ih := joinP_mem (q2 :: l) p h
      exact ⟨fun x hx => by simp [ih.1 x hx], by simp only [List.length_append, List.length_cons]; omega⟩
/-- How many octets of a token stand ahead. -/
def tkN : List Int → Nat
  | [] => 0
  | c :: r => if tokB c = true then 1 + tkN r else 0
theorem tkN_len : ∀ y : List Int, tkN y ≤ y.length
  | [] => Nat.le_refl _
  | c :: r => by
    have := tkN_len r
    rw [tkN, List.length_cons]
    split <;> omega
/-- A token at 'k', of which 'y' stands behind: it, where it ends, the error. -/
def tokM (k : Nat) (y : List Int) : List Int × Nat × Int := if y.length = 0 then ([], 0, 4) else if tkN y = 0 then ([], 0, 3) else (y.take (tkN y), k + tkN y, 0)
def valM (k : Nat) (y : List Int) : List Int × Nat × Int := match y with
  | [] => tokM k []
  | c :: r => if c = 34 then (if (uqM (c :: r)).2.2 = 0 then ((uqM (c :: r)).1, k + (uqM (c :: r)).2.1, 0) else ([], 0, (uqM (c :: r)).2.2)) else tokM k (c :: r)
def skpM (s : List Int) (k : Nat) (c : Int) : Nat × Bool := if s[k + gp (s.drop k)]? = some c then (k + gp (s.drop k) + 1, true) else (k, false)
theorem tokM_rng (k : Nat) (y : List Int) : (tokM k y).2.1 ≤ k + y.length ∧ (tokM k y).1.length ≤ y.length ∧ ∀ x ∈ (tokM k y).1, x ∈ y := by
  have := tkN_len y
  unfold tokM
  split
  · exact ⟨by simp only []; omega, by simp, by simp⟩
  · split
    · exact ⟨by simp only []; omega, by simp, by simp⟩
    · exact ⟨by simp only []; omega, by simp only [List.length_take]; omega, fun x hx => List.mem_of_mem_take hx⟩
theorem uqM_rng (y : List Int) : (uqM y).2.1 ≤ y.length ∧ (uqM y).1.length ≤ y.length ∧ ∀ x ∈ (uqM y).1, x ∈ y := by
  cases y with
  | nil => exact ⟨by simp [uqM], by simp [uqM], by simp [uqM]⟩
  | cons c r =>
    rw [uqM]
    split
    · cases hu : uqG false 0 [] r with
      | none => exact ⟨by simp [uqE], by simp [uqE], by simp [uqE]⟩
      | some p =>
        obtain ⟨o, n⟩ := p
        have h1 := uqG_len r false 0 [] o n hu
        have h2 := uqG_mem r false 0 [] o n hu
        simp only [List.length_nil] at h1
        refine ⟨by simp only [uqE, List.length_cons]; omega, by simp only [uqE, List.length_cons]; omega, fun x hx => ?_⟩
        rcases h2 x hx with h | h
        · simp at h
        · exact List.mem_cons_of_mem _ h
    · exact ⟨by simp, by simp, by simp⟩
theorem valM_rng (k : Nat) (y : List Int) : (valM k y).2.1 ≤ k + y.length ∧ (valM k y).1.length ≤ y.length ∧ ∀ x ∈ (valM k y).1, x ∈ y := by
  cases y with
  | nil => exact tokM_rng k []
  | cons c r =>
    have h1 := uqM_rng (c :: r)
    have h2 := tokM_rng k (c :: r)
    unfold valM
    simp only []
    split
    · split
      · exact ⟨by simp only []; omega, h1.2.1, h1.2.2⟩
      · exact ⟨by simp, by simp, by simp⟩
    · exact h2
theorem skpM_rng (s : List Int) (k : Nat) (c : Int) (hk : k ≤ s.length) : (skpM s k c).1 ≤ s.length := by
  unfold skpM
  split
  · rename_i h
    have := (List.getElem?_eq_some_iff.1 h).1
    simp only []; omega
  · exact hk
/-- The number of digits, -1 if they are none. -/
def numV : Int → List Int → Int
  | n, [] => n
  | n, c :: r => numV (10 * n + (c - 48)) r
def numM (s : List Int) : Int := if s.length = 0 ∨ 3 < s.length ∨ s.all dgB = false ∨ (s[0]? = some 48 ∧ 1 < s.length) then -1 else numV 0 s
/-- What an attribute's octets are. -/
def attB (c : Int) : Bool := tokB c && !naB c
def lowS (xs : List Int) : List Int := xs.map lowC
/-- The name, the number, whether it is extended: of an attribute in small letters. -/
def atrL (a : List Int) : List Int × Int × Bool :=
  if a.contains 42 = false ∨ (tw 42 a).length = 0 ∨ (tw 42 a).all attB = false then (a, -1, false)
  else if (a.drop ((tw 42 a).length + 1)).length = 0 then (tw 42 a, -1, true)
  else if numM (csS (a.drop ((tw 42 a).length + 1))).1 = -1 then (a, -1, false)
  else (tw 42 a, numM (csS (a.drop ((tw 42 a).length + 1))).1, (csS (a.drop ((tw 42 a).length + 1))).2)
where csS (r : List Int) : List Int × Bool := if r[r.length - 1]? = some 42 then (r.take (r.length - 1), true) else (r, false)
def atrM (a : List Int) : List Int × Int × Bool := atrL (lowS a)
/-- A parameter: name, number, extended, value; the error. -/
def oneM (s : List Int) : (List Int × Int × Bool × List Int) × Int :=
  if (tokM (gp s) (s.drop (gp s))).2.2 ≠ 0 then (([], 0, false, []), 3)
  else if (skpM s (tokM (gp s) (s.drop (gp s))).2.1 61).2 = false then (([], 0, false, []), 3)
  else oneV (atrM (tokM (gp s) (s.drop (gp s))).1) s ((skpM s (tokM (gp s) (s.drop (gp s))).2.1 61).1 + gp (s.drop (skpM s (tokM (gp s) (s.drop (gp s))).2.1 61).1))
where oneV (a : List Int × Int × Bool) (s : List Int) (k : Nat) : (List Int × Int × Bool × List Int) × Int :=
  if (valM k (s.drop k)).2.2 ≠ 0 then (([], 0, false, []), 3)
  else if gp (s.drop (valM k (s.drop k)).2.1) ≠ (s.drop (valM k (s.drop k)).2.1).length then (([], 0, false, []), 3)
  else ((a.1, a.2.1, a.2.2, (valM k (s.drop k)).1), 0)
def emtB (s : List Int) : Bool := decide (gp s = s.length)
def readP (s : List Int) : List (List Int × Int × Bool × List Int) := (ptsM s).filterMap fun p => if (oneM p).2 = 0 then some (oneM p).1 else none
def badP (s : List Int) : Nat := (ptsM s).countP fun p => decide ((oneM p).2 ≠ 0) && !emtB p
theorem alive35_facts : readP [59, 32, 65, 42, 49, 42, 61, 120, 59, 32, 98, 61, 34, 99, 59, 100, 34, 59, 32, 61] = [([97], 1, true, [120]), ([98], -1, false, [99, 59, 100])] ∧ badP [97, 59, 98, 61, 99] = 1 := by decide +kernel
end Go.Proofs.YtoliaphiipkopaaDoor
namespace Go.Proofs.YtoliaphiipkopaaDoor
/-- A number's digits. -/
def dgs (n : Nat) : List Int := if n < 10 then [48 + (n : Int)] else dgs (n / 10) ++ [48 + ((n % 10 : Nat) : Int)]
termination_by n
decreasing_by omega
theorem dgs_small {n : Nat} (h : n < 10) : dgs n = [48 + (n : Int)] := by rw [dgs, if_pos h]
theorem dgs_big {n : Nat} (h : ¬ n < 10) : dgs n = dgs (n / 10) ++ dgs (n % 10) := by
  rw [dgs, if_neg h, dgs_small (Nat.mod_lt _ (by omega))]
theorem dgs_dg : ∀ (k n : Nat), n ≤ k → dgs n ≠ [] ∧ ∀ x ∈ dgs n, 48 ≤ x ∧ x ≤ 57
  | k, n, h => by
    by_cases h9 : n < 10
    · rw [dgs_small h9]
      exact ⟨by simp, fun x hx => by simp at hx; omega⟩
    · rw [dgs, if_neg h9]
      cases k with
      | zero => omega
      | succ k =>
        have ih := dgs_dg k (n / 10) (by omega)
        refine ⟨by simp, fun x hx => ?_⟩
        rcases List.mem_append.1 hx with hx | hx
        · exact ih.2 x hx
        · simp at hx
          have := Nat.mod_lt n (show 0 < 10 by omega)
          omega
/-- An attribute of a name, a number, extended or not. -/
def namM (nm : List Int) (n : Int) (x : Bool) : List Int := nm ++ (if 0 ≤ n then 42 :: dgs n.toNat else []) ++ (if x = true then [42] else [])
theorem lowC_dg {c : Int} (h : c ≤ 64) : lowC c = c := by unfold lowC; rw [if_neg (by omega)]
theorem lowS_dg {l : List Int} (h : ∀ x ∈ l, x ≤ 64) : lowS l = l := by
  rw [lowS]
  conv => rhs; rw [← List.map_id l]
  exact List.map_congr_left fun x hx => by rw [lowC_dg (h x hx)]; rfl
theorem att_low : ∀ n : Fin 256, attB (lowC (n.val : Int)) = attB (n.val : Int) := by decide +kernel
theorem dg_low : ∀ n : Fin 256, dgB (lowC (n.val : Int)) = dgB (n.val : Int) := by decide +kernel
theorem st_low : ∀ n : Fin 256, decide (lowC (n.val : Int) = 42) = decide ((n.val : Int) = 42) := by decide +kernel
theorem by_byte {P : Int → Prop} (h : ∀ n : Fin 256, P (n.val : Int)) {c : Int} (h0 : 0 ≤ c) (h1 : c < 256) : P c := by
  have := h ⟨c.toNat, by omega⟩
  simp only [Int.toNat_of_nonneg h0] at this
  exact this
theorem att_low1 {c : Int} (h0 : 0 ≤ c) (h1 : c < 256) : attB (lowC c) = attB c := by_byte (P := fun c => attB (lowC c) = attB c) att_low h0 h1
theorem dg_low1 {c : Int} (h0 : 0 ≤ c) (h1 : c < 256) : dgB (lowC c) = dgB c := by_byte (P := fun c => dgB (lowC c) = dgB c) dg_low h0 h1
theorem st_low1 {c : Int} (h0 : 0 ≤ c) (h1 : c < 256) : decide (lowC c = 42) = decide (c = 42) := by_byte (P := fun c => decide (lowC c = 42) = decide (c = 42)) st_low h0 h1
theorem all_att_low {l : List Int} (h : Rg 0 256 l) : (lowS l).all attB = l.all attB := by
  rw [lowS, List.all_map, Bool.eq_iff_iff, List.all_eq_true, List.all_eq_true]
  exact ⟨fun h9 x hx => by have := h9 x hx; simpa [Function.comp, att_low1 (h x hx).1 (h x hx).2] using this, fun h9 x hx => by simpa [Function.comp, att_low1 (h x hx).1 (h x hx).2] using h9 x hx⟩
theorem att42 : attB 42 = false := by decide
theorem all_no42 {l : List Int} (h : l.all attB = true) : ∀ x ∈ l, x ≠ 42 := fun x hx e => by
  have := List.all_eq_true.1 h x hx
  rw [e, att42] at this; cases this
theorem num_dgs : ∀ n : Fin 1000, numM (dgs n.val) = (n.val : Int) := by decide +kernel
theorem tw_none {l : List Int} (h : ∀ x ∈ l, x ≠ 42) : l.contains 42 = false := by
  rw [List.contains_eq_mem, decide_eq_false_iff_not]
  exact fun hm => h 42 hm rfl
/-- What is laid is read. -/
theorem atr_nam (nm : List Int) (n : Int) (x : Bool) (hg : Rg 0 256 nm) (h0 : 0 < nm.length) (ha : nm.all attB = true) (h1 : -1 ≤ n) (h2 : n ≤ 999) : atrM (namM nm n x) = (lowS nm, n, x) := by
  have hla : (lowS nm).all attB = true := by rw [all_att_low hg]; exact ha
  have hln := all_no42 hla
  have hl0 : 0 < (lowS nm).length := by rw [lowS, List.length_map]; exact h0
  have hx42 : lowS (if x = true then [42] else []) = (if x = true then [(42 : Int)] else []) := lowS_dg (fun y hy => by cases x <;> simp at hy; omega)
  have happ : ∀ a b : List Int, lowS (a ++ b) = lowS a ++ lowS b := fun a b => by simp [lowS]
  rw [atrM, namM, happ, happ, hx42]
  generalize lowS nm = A at *
  by_cases hn : 0 ≤ n
  · rw [if_pos hn]
    have hd : lowS (42 :: dgs n.toNat) = 42 :: dgs n.toNat := lowS_dg (fun y hy => by
      rcases List.mem_cons.1 hy with rfl | hy
      · omega
      · have := (dgs_dg _ n.toNat (Nat.le_refl _)).2 y hy; omega)
    rw [hd]
    have hdd := dgs_dg _ n.toNat (Nat.le_refl _)
    have hnum : numM (dgs n.toNat) = n := by
      have := num_dgs ⟨n.toNat, by omega⟩
      simp only at this
      rw [this]; omega
    generalize dgs n.toNat = D at *
    have hC : ∀ B : List Int, tw 42 (A ++ 42 :: B) = A := fun B => tw_appN hln
    have hcs : atrL.csS (D ++ if x = true then [42] else []) = (D, x) := by
      cases x with
      | true =>
        simp only [if_true]
        rw [atrL.csS, List.length_append, List.length_singleton, Nat.add_sub_cancel, List.getElem?_append_right (Nat.le_refl _), Nat.sub_self, if_pos (by rfl)]
        simp
      | false =>
        simp only [Bool.false_eq_true, if_false, List.append_nil]
        rw [atrL.csS, if_neg]
        intro h9
        have := hdd.2 42 (List.mem_of_getElem? h9)
        omega
    have e : A ++ 42 :: D ++ (if x = true then [(42 : Int)] else []) = A ++ 42 :: (D ++ if x = true then [42] else []) := by simp
    rw [e]
    generalize hR : (D ++ if x = true then [(42 : Int)] else []) = R at *
    have hR0 : 0 < R.length := by
      rw [← hR, List.length_append]
      have : 0 < D.length := List.length_pos_iff.2 hdd.1
      omega
    have hdr : (A ++ 42 :: R).drop (A.length + 1) = R := by rw [List.drop_append]; simp
    have hcc : (A ++ 42 :: R).contains (42 : Int) = true := by simp
    rw [atrL, hC, hdr, hcs, if_neg (by rintro (h9 | h9 | h9); rw [hcc] at h9; cases h9; omega; rw [hla] at h9; cases h9), if_neg (by omega), if_neg (by simp only []; rw [hnum]; omega)]
    simp only []
    rw [hnum]
  · rw [if_neg hn]
    obtain rfl : n = -1 := by omega
    have e0 : lowS ([] : List Int) = [] := rfl
    rw [e0, List.append_nil]
    cases x with
    | true =>
      simp only [if_true]
      have hC : tw 42 (A ++ [42]) = A := tw_appN hln
      have hcc : (A ++ [42]).contains (42 : Int) = true := by simp
      rw [atrL, hC, if_neg (by rintro (h9 | h9 | h9); rw [hcc] at h9; cases h9; omega; rw [hla] at h9; cases h9), if_pos (by simp)]
    | false =>
      simp only [Bool.false_eq_true, if_false, List.append_nil]
      rw [atrL, if_pos (.inl (tw_none hln))]
where tw_appN {c : Int} {B : List Int} : ∀ {A : List Int}, (∀ x ∈ A, x ≠ c) → tw c (A ++ c :: B) = A
  | [], _ => by simp [tw]
  | y :: A, h => by
    have hy := h y (by simp)
    have ih := atr_nam.tw_appN (c := c) (B := B) (A := A) (fun x hx => h x (by simp [hx]))
    rw [tw] at ih ⊢
    rw [List.cons_append, List.takeWhile_cons, if_pos (by simpa using hy), ih]
end Go.Proofs.YtoliaphiipkopaaDoor
namespace Go.Proofs.YtoliaphiipkopaaDoor
open Go.RowKit
set_option maxHeartbeats 4000000
set_option maxRecDepth 100000
theorem rhas_any (s : ByteArray) (xs : List Int) (c : Int) (w : World) (hxs : s.data.toList.map (fun u => ((u.toNat : Nat) : Int)) = xs) (hsz : s.size ≤ 1000) :
    Calls Tryd.prog 46 #[.string s, .int .u8 c] w fun e w' => e = .returned (.bool (xs.contains c)) ∧ w' = w := by
  have hlen : xs.length = s.size := by rw [← hxs, List.length_map]; exact Array.length_toList
  have HG : Hid (∀ k : Nat, k < s.size → ∃ x, Hid (xs[k]? = some x) ∧ (Instr.index 9 (.string s) (.int .i64 (k : Nat))).run Tryd.prog w = .ok (.int .u8 x) w) := fun k hk => by
    refine ⟨((s[k]'hk).toNat : Nat), ?_, ?_⟩
    · show _ = _
      rw [← hxs, List.getElem?_map, Array.getElem?_toList, Array.getElem?_eq_getElem (show k < s.data.size from hk)]
      rfl
    · rw [run_index_string _ _ _ _ _ Tryd.underlying9, dif_pos ⟨by omega, by omega⟩]
      rfl
  obtain ⟨q, HQ⟩ : ∃ q, Hid (xs.contains c = q) := ⟨_, rfl⟩
  rw [HQ.out]
  have HL := Lib.hid hlen
  clear hxs hlen
  generalize hn : s.size = n at *
  have HN := Lib.hid hn; clear hn
  have hlen2 : (Builtin.len_ #[9] 3 #[.string s]).run Tryd.prog w = .ok (.int .i64 (n : Nat)) w := by
    rw [run_len_string _ _ _ _ Tryd.underlying9, HN.out]; rfl
  go_enter Tryd.func46, Tryd.ntmps46
  go_wp2
  go_loopw [5] (fun i wr => ∃ k : Nat, i = .int .i64 k ∧ k ≤ n ∧ Hid (∀ y ∈ xs.take k, (y == c) = false) ∧ wr = w) (fun i _ => n - (intOf i).toNat)
  case atStart => exact ⟨0, rfl, Nat.zero_le _, (fun y hy => by simp at hy : ∀ y ∈ xs.take 0, (y == c) = false), rfl⟩
  case round =>
    obtain ⟨k, rfl, hk, HK, hw0⟩ := hrel
    obtain rfl := hw0.symm
    by_cases hlt : k < n
    · obtain ⟨x, HX, hx⟩ := HG.out k hlt
      have hno : (x == c) = true → q = true := fun hf => by
        rw [← HQ.out]
        have := List.mem_of_getElem? HX.out
        rw [eq_of_beq hf] at this
        simpa using this
      have NO := Lib.hid hno; clear hno
      obtain ⟨e, he⟩ : ∃ e, (x == c) = e := ⟨_, rfl⟩
      rcases e with _ | _
      · go_wp2
        go_roundw
        case rel => exact ⟨k + 1, by go_num, by omega, (by show ∀ y ∈ xs.take (k + 1), (y == c) = false; intro y hy; rw [List.take_add_one, HX.out] at hy; rcases List.mem_append.1 hy with h9 | h9; exact HK.out y h9; simp at h9; subst h9; exact he), by first | rfl | trivial⟩
        case measure => simp [intOf]; omega
      · obtain rfl := NO.out he
        go_wp2
        go_ret
        exact ⟨rfl, rfl⟩
    · have hq : q = false := by
        rw [← HQ.out]
        have := HK.out
        rw [List.take_of_length_le (by rw [HL.out]; omega)] at this
        cases hx : xs.contains c with
        | false => rfl
        | true =>
          have h8 := this c (by simpa using hx)
          simp at h8
      subst hq
      go_wp2
      go_ret
      exact ⟨rfl, rfl⟩
def hasV (s : ByteArray) (c : Int) : Bool := (s.data.toList.map (fun u => ((u.toNat : Nat) : Int))).contains c
theorem hasV_any (s : ByteArray) (c : Int) (w : World) (hs : s.size ≤ 1000) :
    Calls Tryd.prog 46 #[.string s, .int .u8 c] w fun e w' => e = .returned (.bool (hasV s c)) ∧ w' = w := rhas_any s _ c w rfl hs
theorem rkinds_any (c : Int) (w : World) (h0 : 0 ≤ c) (h1 : c < 256) :
    Calls Tryd.prog 33 #[.int .u8 c] w fun e w' => e = .returned (.int .i64 (kindN c)) ∧ w' = w := by
  have hS : hasV ⟨#[40, 41, 60, 62, 64, 44, 59, 58, 92, 34, 47, 91, 93, 63, 61]⟩ c = spB c := rfl
  have hW : hasV ⟨#[33, 42, 43, 45, 47]⟩ c = wdB c := rfl
  have hA : hasV ⟨#[42, 39, 37]⟩ c = naB c := rfl
  have hB : hasV ⟨#[43, 47]⟩ c = bsB c := rfl
  rcases kcl c with rfl | rfl | hc | rfl | hc | hc | hc | hc | hc
  · -- c9
    have e_isCtl : isCtl 9 = true := by decide
    have e_blB : blB 9 = true := by decide
    have e_dgB : dgB 9 = false := by decide
    have e_ltB : ltB 9 = false := by decide
    have e_prB : prB 9 = false := by decide
    obtain ⟨s1, s2, s3, s4⟩ := sp_out (c := 9) (by omega)
    rw [kindN, e_isCtl, e_blB, e_dgB, e_ltB, e_prB, s1, s2, s3, s4]
    rw [s1] at hS; rw [s2] at hW; rw [s3] at hA; rw [s4] at hB
    clear s1 s2 s3 s4
    clear e_isCtl e_blB e_dgB e_ltB e_prB
    go_enter Tryd.func33, Tryd.ntmps33
    go_wp2_with (first | (go_at_call 46; refine (hasV_any _ _ _ (by decide)).mono ?_; rintro e w' ⟨rfl, hw⟩; obtain rfl := hw.symm) | go_in)
    all_goals
      go_ret
      exact ⟨rfl, rfl⟩
  · -- c32
    have e_isCtl : isCtl 32 = false := by decide
    have e_blB : blB 32 = true := by decide
    have e_dgB : dgB 32 = false := by decide
    have e_ltB : ltB 32 = false := by decide
    have e_prB : prB 32 = false := by decide
    obtain ⟨s1, s2, s3, s4⟩ := sp_out (c := 32) (by omega)
    rw [kindN, e_isCtl, e_blB, e_dgB, e_ltB, e_prB, s1, s2, s3, s4]
    rw [s1] at hS; rw [s2] at hW; rw [s3] at hA; rw [s4] at hB
    clear s1 s2 s3 s4
    clear e_isCtl e_blB e_dgB e_ltB e_prB
    go_enter Tryd.func33, Tryd.ntmps33
    go_wp2_with (first | (go_at_call 46; refine (hasV_any _ _ _ (by decide)).mono ?_; rintro e w' ⟨rfl, hw⟩; obtain rfl := hw.symm) | go_in)
    all_goals
      go_ret
      exact ⟨rfl, rfl⟩
  · -- lo
    have e_isCtl : isCtl c = true := decide_eq_true (by omega)
    have e_blB : blB c = false := decide_eq_false (by omega)
    have e_dgB : dgB c = false := decide_eq_false (by omega)
    have e_ltB : ltB c = false := decide_eq_false (by omega)
    have e_prB : prB c = false := decide_eq_false (by omega)
    obtain ⟨s1, s2, s3, s4⟩ := sp_out (c := c) (by omega)
    rw [kindN, e_isCtl, e_blB, e_dgB, e_ltB, e_prB, s1, s2, s3, s4]
    rw [s1] at hS; rw [s2] at hW; rw [s3] at hA; rw [s4] at hB
    clear s1 s2 s3 s4
    have b9 : (c == 9) = false := beq_false_of_ne (by omega); have b32 : (c == 32) = false := beq_false_of_ne (by omega); have b127 : (c == 127) = false := beq_false_of_ne (by omega)
    clear e_isCtl e_blB e_dgB e_ltB e_prB
    go_enter Tryd.func33, Tryd.ntmps33
    go_wp2_with (first | (go_at_call 46; refine (hasV_any _ _ _ (by decide)).mono ?_; rintro e w' ⟨rfl, hw⟩; obtain rfl := hw.symm) | go_in)
    all_goals
      go_ret
      exact ⟨rfl, rfl⟩
  · -- c127
    have e_isCtl : isCtl 127 = true := by decide
    have e_blB : blB 127 = false := by decide
    have e_dgB : dgB 127 = false := by decide
    have e_ltB : ltB 127 = false := by decide
    have e_prB : prB 127 = false := by decide
    obtain ⟨s1, s2, s3, s4⟩ := sp_out (c := 127) (by omega)
    rw [kindN, e_isCtl, e_blB, e_dgB, e_ltB, e_prB, s1, s2, s3, s4]
    rw [s1] at hS; rw [s2] at hW; rw [s3] at hA; rw [s4] at hB
    clear s1 s2 s3 s4
    clear e_isCtl e_blB e_dgB e_ltB e_prB
    go_enter Tryd.func33, Tryd.ntmps33
    go_wp2_with (first | (go_at_call 46; refine (hasV_any _ _ _ (by decide)).mono ?_; rintro e w' ⟨rfl, hw⟩; obtain rfl := hw.symm) | go_in)
    all_goals
      go_ret
      exact ⟨rfl, rfl⟩
  · -- dg
    have e_isCtl : isCtl c = false := decide_eq_false (by omega)
    have e_blB : blB c = false := decide_eq_false (by omega)
    have e_dgB : dgB c = true := decide_eq_true (by omega)
    have e_ltB : ltB c = false := decide_eq_false (by omega)
    have e_prB : prB c = true := decide_eq_true (by omega)
    obtain ⟨s1, s2, s3, s4⟩ := sp_al (c := c) (by omega)
    rw [kindN, e_isCtl, e_blB, e_dgB, e_ltB, e_prB, s1, s2, s3, s4]
    rw [s1] at hS; rw [s2] at hW; rw [s3] at hA; rw [s4] at hB
    clear s1 s2 s3 s4
    have b9 : (c == 9) = false := beq_false_of_ne (by omega); have b32 : (c == 32) = false := beq_false_of_ne (by omega); have b127 : (c == 127) = false := beq_false_of_ne (by omega)
    clear e_isCtl e_blB e_dgB e_ltB e_prB
    go_enter Tryd.func33, Tryd.ntmps33
    go_wp2_with (first | (go_at_call 46; refine (hasV_any _ _ _ (by decide)).mono ?_; rintro e w' ⟨rfl, hw⟩; obtain rfl := hw.symm) | go_in)
    all_goals
      go_ret
      exact ⟨rfl, rfl⟩
  · -- up
    have e_isCtl : isCtl c = false := decide_eq_false (by omega)
    have e_blB : blB c = false := decide_eq_false (by omega)
    have e_dgB : dgB c = false := decide_eq_false (by omega)
    have e_ltB : ltB c = true := decide_eq_true (by omega)
    have e_prB : prB c = true := decide_eq_true (by omega)
    obtain ⟨s1, s2, s3, s4⟩ := sp_al (c := c) (by omega)
    rw [kindN, e_isCtl, e_blB, e_dgB, e_ltB, e_prB, s1, s2, s3, s4]
    rw [s1] at hS; rw [s2] at hW; rw [s3] at hA; rw [s4] at hB
    clear s1 s2 s3 s4
    have b9 : (c == 9) = false := beq_false_of_ne (by omega); have b32 : (c == 32) = false := beq_false_of_ne (by omega); have b127 : (c == 127) = false := beq_false_of_ne (by omega)
    clear e_isCtl e_blB e_dgB e_ltB e_prB
    go_enter Tryd.func33, Tryd.ntmps33
    go_wp2_with (first | (go_at_call 46; refine (hasV_any _ _ _ (by decide)).mono ?_; rintro e w' ⟨rfl, hw⟩; obtain rfl := hw.symm) | go_in)
    all_goals
      go_ret
      exact ⟨rfl, rfl⟩
  · -- lw
    have e_isCtl : isCtl c = false := decide_eq_false (by omega)
    have e_blB : blB c = false := decide_eq_false (by omega)
    have e_dgB : dgB c = false := decide_eq_false (by omega)
    have e_ltB : ltB c = true := decide_eq_true (by omega)
    have e_prB : prB c = true := decide_eq_true (by omega)
    obtain ⟨s1, s2, s3, s4⟩ := sp_al (c := c) (by omega)
    rw [kindN, e_isCtl, e_blB, e_dgB, e_ltB, e_prB, s1, s2, s3, s4]
    rw [s1] at hS; rw [s2] at hW; rw [s3] at hA; rw [s4] at hB
    clear s1 s2 s3 s4
    have b9 : (c == 9) = false := beq_false_of_ne (by omega); have b32 : (c == 32) = false := beq_false_of_ne (by omega); have b127 : (c == 127) = false := beq_false_of_ne (by omega)
    clear e_isCtl e_blB e_dgB e_ltB e_prB
    go_enter Tryd.func33, Tryd.ntmps33
    go_wp2_with (first | (go_at_call 46; refine (hasV_any _ _ _ (by decide)).mono ?_; rintro e w' ⟨rfl, hw⟩; obtain rfl := hw.symm) | go_in)
    all_goals
      go_ret
      exact ⟨rfl, rfl⟩
  · -- hi
    have e_isCtl : isCtl c = false := decide_eq_false (by omega)
    have e_blB : blB c = false := decide_eq_false (by omega)
    have e_dgB : dgB c = false := decide_eq_false (by omega)
    have e_ltB : ltB c = false := decide_eq_false (by omega)
    have e_prB : prB c = false := decide_eq_false (by omega)
    obtain ⟨s1, s2, s3, s4⟩ := sp_out (c := c) (by omega)
    rw [kindN, e_isCtl, e_blB, e_dgB, e_ltB, e_prB, s1, s2, s3, s4]
    rw [s1] at hS; rw [s2] at hW; rw [s3] at hA; rw [s4] at hB
    clear s1 s2 s3 s4
    have b9 : (c == 9) = false := beq_false_of_ne (by omega); have b32 : (c == 32) = false := beq_false_of_ne (by omega); have b127 : (c == 127) = false := beq_false_of_ne (by omega)
    clear e_isCtl e_blB e_dgB e_ltB e_prB
    go_enter Tryd.func33, Tryd.ntmps33
    go_wp2_with (first | (go_at_call 46; refine (hasV_any _ _ _ (by decide)).mono ?_; rintro e w' ⟨rfl, hw⟩; obtain rfl := hw.symm) | go_in)
    all_goals
      go_ret
      exact ⟨rfl, rfl⟩
  · -- pr
    have e_isCtl : isCtl c = false := decide_eq_false (by omega)
    have e_blB : blB c = false := decide_eq_false (by omega)
    have e_dgB : dgB c = false := decide_eq_false (by omega)
    have e_ltB : ltB c = false := decide_eq_false (by omega)
    have e_prB : prB c = true := decide_eq_true (by omega)
    rw [kindN, e_isCtl, e_blB, e_dgB, e_ltB, e_prB]
    generalize spB c = S at *; generalize wdB c = W at *; generalize naB c = A at *; generalize bsB c = B at *
    have b9 : (c == 9) = false := beq_false_of_ne (by omega); have b32 : (c == 32) = false := beq_false_of_ne (by omega); have b127 : (c == 127) = false := beq_false_of_ne (by omega)
    clear e_isCtl e_blB e_dgB e_ltB e_prB
    rcases S with _ | _ <;> rcases W with _ | _ <;> rcases A with _ | _ <;> rcases B with _ | _
    all_goals
      go_enter Tryd.func33, Tryd.ntmps33
      go_wp2_with (first | (go_at_call 46; refine (hasV_any _ _ _ (by decide)).mono ?_; rintro e w' ⟨rfl, hw⟩; obtain rfl := hw.symm) | go_in)
      all_goals
        go_ret
        exact ⟨rfl, rfl⟩
end Go.Proofs.YtoliaphiipkopaaDoor
namespace Go.Proofs.YtoliaphiipkopaaDoor
open Go.RowKit
set_option maxHeartbeats 4000000
set_option maxRecDepth 100000
theorem ris_any (c k : Int) (q : Bool) (w : World) (h0 : 0 ≤ c) (h1 : c < 256) (hq : (bits .and .i64 (kindN c) k != 0) = q) :
    Calls Tryd.prog 23 #[.int .u8 c, .int .i64 k] w fun e w' => e = .returned (.bool q) ∧ w' = w := by
  have hk := rkinds_any c w h0 h1
  generalize kindN c = K at *
  have HK := Lib.hid hk; have HQ := Lib.hid hq
  clear hk hq
  go_enter Tryd.func23, Tryd.ntmps23
  go_wp2_with (go_at_call 33; refine (HK.out).mono ?_; rintro e w' ⟨rfl, hw⟩; obtain rfl := hw.symm)
  go_ret
  exact ⟨ret_bool HQ.out, rfl⟩
end Go.Proofs.YtoliaphiipkopaaDoor
