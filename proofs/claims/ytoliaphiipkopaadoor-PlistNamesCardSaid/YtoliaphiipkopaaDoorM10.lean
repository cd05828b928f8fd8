/- Plain: attributes' names, as the reference reads them; digits. (laid together by program out of single texts). -/
import Derived.Lib.ItoaNum
import Derived.Test.YtoliaphiipkopaaDoorM9
namespace Go.Proofs.YtoliaphiipkopaaDoor
theorem dgs_dec (n : Nat) : (Lib.decDigits n).map (fun b => (b.toNat : Int)) = dgs n := by
  rw [Lib.decDigits, dgs]
  by_cases h : n < 10
  · rw [dif_pos h, if_pos h]
    simp
    omega
  · rw [dif_neg h, if_neg h, List.map_append, dgs_dec (n / 10)]
    simp
    omega
termination_by n
decreasing_by omega
theorem dec_bytes (n : Nat) : (Lib.decDigits n).map (fun b => Value.int .u8 (b.toNat : Int)) = ints .u8 (dgs n) := by
  rw [← dgs_dec, ints, List.map_map]; rfl
theorem st_b {c : Int} (h0 : 0 ≤ c) (h1 : c < 256) : (lowC c == 42) = (c == 42) := by
  have := st_low1 h0 h1
  rw [Bool.eq_iff_iff] at this ⊢
  simpa using this
theorem tw_low : ∀ {a : List Int}, Rg 0 256 a → tw 42 (lowS a) = lowS (tw 42 a)
  | [], _ => rfl
  | c :: r, h => by
    have ih := tw_low (a := r) (fun x hx => h x (by simp [hx]))
    have hc := st_b (h c (by simp)).1 (h c (by simp)).2
    show (lowC c :: lowS r).takeWhile _ = lowS ((c :: r).takeWhile _)
    rw [List.takeWhile_cons, List.takeWhile_cons]
    simp only [bne, hc]
    cases (c == 42) with
    | true => rfl
    | false =>
      show lowC c :: tw 42 (lowS r) = lowS (c :: tw 42 r)
      rw [ih]; rfl
theorem has_low : ∀ {a : List Int}, Rg 0 256 a → (lowS a).contains 42 = a.contains 42
  | [], _ => rfl
  | c :: r, h => by
    have ih := has_low (a := r) (fun x hx => h x (by simp [hx]))
    have hc := st_b (h c (by simp)).1 (h c (by simp)).2
    have e : ∀ (x : Int) (l : List Int), (x :: l).contains 42 = ((x == 42) || l.contains 42) := fun x l => by
      rw [List.contains_cons, Bool.beq_comm]
    show (lowC c :: lowS r).contains 42 = _
    rw [e, e, hc, ih]
theorem all_dg_low {l : List Int} (h : Rg 0 256 l) : (lowS l).all dgB = l.all dgB := by
  rw [lowS, List.all_map, Bool.eq_iff_iff, List.all_eq_true, List.all_eq_true]
  exact ⟨fun h9 x hx => by have := h9 x hx; simpa [Function.comp, dg_low1 (h x hx).1 (h x hx).2] using this, fun h9 x hx => by simpa [Function.comp, dg_low1 (h x hx).1 (h x hx).2] using h9 x hx⟩
theorem len_low (l : List Int) : (lowS l).length = l.length := by rw [lowS, List.length_map]
theorem numM_low {r : List Int} (h : Rg 0 256 r) : numM (lowS r) = numM r := by
  cases hd : r.all dgB with
  | true =>
    rw [lowS_dg (fun x hx => by have := List.all_eq_true.1 hd x hx; simp [dgB] at this; omega)]
  | false =>
    unfold numM
    rw [if_pos (.inr (.inr (.inl (by rw [all_dg_low h, hd])))), if_pos (.inr (.inr (.inl hd)))]
theorem csS_low {r : List Int} (h : Rg 0 256 r) : atrL.csS (lowS r) = (lowS (atrL.csS r).1, (atrL.csS r).2) := by
  have e : ((lowS r)[r.length - 1]? = some 42) ↔ (r[r.length - 1]? = some 42) := by
    rw [lowS, List.getElem?_map]
    cases hx : r[r.length - 1]? with
    | none => simp
    | some c =>
      have hc := st_b (h c (List.mem_of_getElem? hx)).1 (h c (List.mem_of_getElem? hx)).2
      rw [Bool.eq_iff_iff] at hc
      simpa using hc
  unfold atrL.csS
  rw [len_low]
  by_cases h9 : r[r.length - 1]? = some 42
  · rw [if_pos (e.2 h9), if_pos h9]
    simp [lowS, List.map_take]
  · rw [if_neg (fun h8 => h9 (e.1 h8)), if_neg h9]
/-- An attribute, read ahead of the folding. -/
theorem atrM_raw {a : List Int} (h : Rg 0 256 a) : atrM a =
    if a.contains 42 = false ∨ (tw 42 a).length = 0 ∨ (tw 42 a).all attB = false then (lowS a, -1, false)
    else if (a.drop ((tw 42 a).length + 1)).length = 0 then (lowS (tw 42 a), -1, true)
    else if numM (atrL.csS (a.drop ((tw 42 a).length + 1))).1 = -1 then (lowS a, -1, false)
    else (lowS (tw 42 a), numM (atrL.csS (a.drop ((tw 42 a).length + 1))).1, (atrL.csS (a.drop ((tw 42 a).length + 1))).2) := by
  have hT : Rg 0 256 (tw 42 a) := fun x hx => h x (by rw [tw_take a] at hx; exact List.mem_of_mem_take hx)
  have hR : Rg 0 256 (a.drop ((tw 42 a).length + 1)) := h.drop _
  have hD : Rg 0 256 (atrL.csS (a.drop ((tw 42 a).length + 1))).1 := by
    unfold atrL.csS
    split
    · exact hR.take _
    · exact hR
  have e2 : (lowS a).drop ((tw 42 a).length + 1) = lowS (a.drop ((tw 42 a).length + 1)) := by rw [lowS, lowS, List.map_drop]
  rw [atrM, atrL, has_low h, tw_low h, len_low, all_att_low hT, e2, len_low, csS_low hR]
  simp only [numM_low hD]
theorem numV_nn : ∀ (l : List Int) (n : Int), 0 ≤ n → (∀ c ∈ l, 48 ≤ c ∧ c ≤ 57) → 0 ≤ numV n l
  | [], n, h, _ => by rw [numV]; exact h
  | c :: r, n, h, hl => by
    rw [numV]
    have := hl c (by simp)
    exact numV_nn r _ (by omega) (fun x hx => hl x (by simp [hx]))
theorem numM_nn (r : List Int) : numM r = -1 ∨ 0 ≤ numM r := by
  unfold numM
  split
  · exact .inl rfl
  · rename_i h9
    right
    refine numV_nn _ _ (Int.le_refl _) (fun c hc => ?_)
    have hd : r.all dgB = true := by
      cases hq : r.all dgB with
      | true => rfl
      | false => exact absurd (.inr (.inr (.inl hq))) h9
    have := List.all_eq_true.1 hd c hc
    simp [dgB] at this; omega
/-- Where the first star stands; -1: nowhere. -/
def stI : List Int → Nat → Int
  | [], _ => -1
  | c :: r, o => if c = 42 then (o : Int) else stI r (o + 1)
theorem stI_yes : ∀ {a : List Int} (o : Nat), a.contains 42 = true → stI a o = ((tw 42 a).length + o : Nat)
  | [], o, h => by simp at h
  | c :: r, o, h => by
    rw [stI, tw, List.takeWhile_cons]
    by_cases h9 : c = 42
    · rw [if_pos h9, if_neg (by simp [h9])]
      simp
    · rw [if_neg h9, if_pos (by simp [h9])]
      have hr : r.contains 42 = true := by
        simp at h ⊢
        rcases h with h | h
        · exact absurd h.symm h9
        · exact h
      rw [stI_yes (o + 1) hr, List.length_cons]
      show (((tw 42 r).length + (o + 1) : Nat) : Int) = (((tw 42 r).length + 1 + o : Nat) : Int)
      omega
theorem stI_no : ∀ {a : List Int} (o : Nat), a.contains 42 = false → stI a o = -1
  | [], _, _ => rfl
  | c :: r, o, h => by
    simp at h
    rw [stI, if_neg (fun e => h.1 e.symm)]
    exact stI_no (o + 1) (by simpa using h.2)
theorem att_count {l : List Int} : ((l.countP attB : Nat) : Int) = (l.length : Int) ↔ l.all attB = true := by
  rw [List.all_eq_true, ← List.countP_eq_length]
  omega
end Go.Proofs.YtoliaphiipkopaaDoor
