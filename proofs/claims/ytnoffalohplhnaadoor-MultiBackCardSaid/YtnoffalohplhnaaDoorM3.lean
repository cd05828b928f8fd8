/- Plain: parts laid are split again; a boundary that no part has. (laid together by program out of single texts). -/
import Derived.Lib.ItoaNum
import Derived.Test.YtnoffalohplhnaaDoorM2
namespace Go.Proofs.YtnoffalohplhnaaDoor
theorem partsF_none {b : List Int} : ∀ (A l acc : List (List Int)), A.any (isM b) = false → partsF b (A ++ l) acc = partsF b l (acc ++ A)
  | [], l, acc, _ => by simp
  | x :: r, l, acc, h => by
    simp only [List.any_cons, Bool.or_eq_false_iff] at h
    rw [List.cons_append, partsF, if_neg (by rw [h.1]; decide), partsF_none r l (acc ++ [x]) h.2, List.append_assoc]; rfl
theorem cutF_none {b : List Int} : ∀ (A l : List (List Int)), A.any (isM b) = false → cutF b (A ++ l) = (A ++ (cutF b l).1, (cutF b l).2.1, (cutF b l).2.2)
  | [], l, _ => by simp
  | x :: r, l, h => by
    simp only [List.any_cons, Bool.or_eq_false_iff] at h
    rw [List.cons_append, cutF, if_neg (by rw [h.1]; decide), cutF_none r l h.2]; rfl
/-- The program's way through the parts: one cut after the other. -/
theorem partsF_cut {b : List Int} : ∀ (l acc : List (List Int)), partsF b l acc = (joinC (acc ++ (cutF b l).1) :: (kindF b (cutF b l).2.1 (cutF b l).2.2).1, (kindF b (cutF b l).2.1 (cutF b l).2.2).2)
  | [], acc => by simp [partsF, cutF, kindF]
  | x :: r, acc => by
    rw [partsF, cutF]
    by_cases h : isM b x = true
    · rw [if_pos h, if_pos h]
      by_cases h1 : markN x b = 1
      · rw [if_pos h1]; simp [kindF, h1]
      · rw [if_neg h1]
        have h2 : markN x b = 2 := by
          have := of_decide_eq_true h
          have h3 : markN x b = 0 ∨ markN x b = 1 ∨ markN x b = 2 := by
            unfold markN
            split
            · simp
            · split <;> simp
          omega
        simp [kindF, h2]
    · rw [if_neg h, if_neg h, partsF_cut r (acc ++ [x])]; simp
theorem trimR_last (l : List Int) (c : Int) (h : blk2 c = false) : trimR (l ++ [c]) = l ++ [c] := by
  unfold trimR
  rw [List.reverse_append]
  simp [h]
theorem mayB_spec {b : List Int} (h : mayB b = true) : 0 < b.length ∧ b.length ≤ 70 ∧ (∀ c ∈ b, 32 ≤ c ∧ c ≤ 126) ∧ b.getLast? ≠ some 32 := by
  simp only [mayB, Bool.and_eq_true, decide_eq_true_eq, List.all_eq_true] at h
  obtain ⟨⟨⟨h1, h2⟩, h3⟩, h4⟩ := h
  exact ⟨h1, h2, h3, h4⟩
theorem markN_one {b : List Int} (h : mayB b = true) : markN (45 :: 45 :: b) b = 1 := by
  obtain ⟨h1, _, h3, h4⟩ := mayB_spec h
  have hne : b ≠ [] := by intro e; subst e; simp at h1
  have e := List.dropLast_concat_getLast hne
  have hl : b.getLast hne ≠ 32 := fun e9 => h4 (by rw [List.getLast?_eq_some_getLast hne, e9])
  have hb : blk2 (b.getLast hne) = false := by
    have := h3 _ (List.getLast_mem hne)
    simp only [blk2, Bool.or_eq_false_iff, decide_eq_false_iff_not]
    exact ⟨hl, by omega⟩
  have ht : trimR (45 :: 45 :: b) = 45 :: 45 :: b := by
    have := trimR_last (45 :: 45 :: b.dropLast) _ hb
    rwa [show 45 :: 45 :: b.dropLast ++ [b.getLast hne] = 45 :: 45 :: b by rw [List.cons_append, List.cons_append, e]] at this
  unfold markN
  rw [ht, if_pos rfl]
theorem markN_two (b : List Int) : markN (45 :: 45 :: (b ++ [45, 45])) b = 2 := by
  have ht : trimR (45 :: 45 :: (b ++ [45, 45])) = 45 :: 45 :: (b ++ [45, 45]) := by
    have := trimR_last (45 :: 45 :: (b ++ [45])) 45 rfl
    rwa [show 45 :: 45 :: (b ++ [45]) ++ [45] = 45 :: 45 :: (b ++ [45, 45]) by simp] at this
  unfold markN
  rw [ht, if_neg (fun e => by have := congrArg List.length e; simp at this), if_pos rfl]
theorem lnS_layB {b : List Int} (h : mayB b = true) (t : List Int) : ∀ (ps : List (List Int)), lnS (layB b ps ++ t) = ps.flatMap (fun p => (45 :: 45 :: b) :: pc2 p) ++ (45 :: 45 :: (b ++ [45, 45])) :: lnS t
  | [] => by
    have h3 := (mayB_spec h).2.2.1
    have e : layB b [] ++ t = (45 :: 45 :: (b ++ [45, 45])) ++ 13 :: 10 :: t := by simp [layB]
    rw [e, lnS_app, pc2_no13 _ (by
      intro x hx
      simp only [List.mem_cons, List.mem_append, List.not_mem_nil, or_false] at hx
      rcases hx with rfl | rfl | hx | rfl | rfl
      · decide
      · decide
      · have := h3 x hx; omega
      · decide
      · decide)]
    rfl
  | p :: r => by
    have h3 := (mayB_spec h).2.2.1
    have e : layB b (p :: r) ++ t = (45 :: 45 :: b) ++ 13 :: 10 :: (p ++ 13 :: 10 :: (layB b r ++ t)) := by simp [layB]
    rw [e, lnS_app, lnS_app, lnS_layB h t r, pc2_no13 _ (by
      intro x hx
      simp only [List.mem_cons] at hx
      rcases hx with rfl | rfl | hx
      · decide
      · decide
      · have := h3 x hx; omega)]
    simp
theorem isM_one {b : List Int} (h : mayB b = true) : isM b (45 :: 45 :: b) = true := by unfold isM; rw [markN_one h]; decide
theorem isM_two (b : List Int) : isM b (45 :: 45 :: (b ++ [45, 45])) = true := by unfold isM; rw [markN_two]; decide
theorem parts_layB {b : List Int} (h : mayB b = true) (t : List (List Int)) : ∀ (p : List Int) (ps : List (List Int)), (∀ q ∈ p :: ps, hasM q b = false) →
    partsF b (pc2 p ++ (ps.flatMap (fun p => (45 :: 45 :: b) :: pc2 p) ++ (45 :: 45 :: (b ++ [45, 45])) :: t)) [] = (p :: ps, true)
  | p, [], hp => by
    rw [partsF_none _ _ _ (hp p (by simp)), List.nil_append, List.flatMap_nil, List.nil_append, partsF, if_pos (isM_two b), if_neg (by rw [markN_two]; decide), joinC_pc2]
  | p, q :: ps, hp => by
    have ih := parts_layB h t q ps (fun x hx => hp x (by simp [hx]))
    rw [partsF_none _ _ _ (hp p (by simp)), List.nil_append, List.flatMap_cons, List.cons_append, List.cons_append, partsF, if_pos (isM_one h), if_pos (markN_one h), joinC_pc2, List.append_assoc, ih]
/-- What is laid is split, whatever stands behind. -/
theorem split_lay {b : List Int} (h : mayB b = true) (t : List Int) (ps : List (List Int)) (hp : ∀ p ∈ ps, hasM p b = false) : splitM (layB b ps ++ t) b = (ps, true) := by
  unfold splitM
  rw [lnS_layB h t ps]
  cases ps with
  | nil => rw [List.flatMap_nil, List.nil_append, cutF, if_pos (isM_two b)]; simp [kindF, markN_two]
  | cons p r =>
    rw [List.flatMap_cons, List.cons_append, List.cons_append, cutF, if_pos (isM_one h)]
    simp only [kindF, markN_one h, if_true]
    rw [List.append_assoc]
    exact parts_layB h (lnS t) p r hp
/-- The boundary of a number. -/
def numB (n : Nat) : List Int := 98 :: (Lib.decDigits n).map (fun c => (c.toNat : Int))
theorem lacks : ∀ (k : Nat) (l : List Nat), (∀ n, n < k → n ∈ l) → k ≤ l.length
  | 0, _, _ => Nat.zero_le _
  | k + 1, l, h => by
    have hk := h k (by omega)
    have := lacks k (l.erase k) (fun n hn => (List.mem_erase_of_ne (by omega)).2 (h n (by omega)))
    have h2 := List.length_erase_of_mem hk
    have h3 : 0 < l.length := List.length_pos_of_mem hk
    omega
theorem digs_rng (n : Nat) : ∀ c ∈ (Lib.decDigits n).map (fun c => (c.toNat : Int)), 48 ≤ c ∧ c ≤ 57 := by
  induction n using Nat.strongRecOn with
  | _ n ih =>
    intro c hc
    rw [Lib.decDigits] at hc
    split at hc
    · rename_i h
      simp only [List.map_cons, List.map_nil, List.mem_singleton, UInt8.toNat_ofNat'] at hc
      omega
    · rename_i h
      rw [List.map_append] at hc
      rcases List.mem_append.1 hc with hc | hc
      · exact ih (n / 10) (by omega) c hc
      · simp only [List.map_cons, List.map_nil, List.mem_singleton, UInt8.toNat_ofNat'] at hc
        omega
def valD (l : List Int) : Int := l.foldl (fun a c => 10 * a + (c - 48)) 0
theorem digs_val (n : Nat) : valD ((Lib.decDigits n).map (fun c => (c.toNat : Int))) = n := by
  induction n using Nat.strongRecOn with
  | _ n ih =>
    rw [Lib.decDigits]
    split
    · rename_i h
      simp only [valD, List.map_cons, List.map_nil, List.foldl_cons, List.foldl_nil, UInt8.toNat_ofNat']
      omega
    · rename_i h
      have := ih (n / 10) (by omega)
      unfold valD at this ⊢
      rw [List.map_append, List.foldl_append, this]
      simp only [List.map_cons, List.map_nil, List.foldl_cons, List.foldl_nil, UInt8.toNat_ofNat']
      omega
theorem numB_inj {n m : Nat} (h : numB n = numB m) : n = m := by
  unfold numB at h
  have h2 := congrArg valD (List.cons.inj h).2
  rw [digs_val, digs_val] at h2
  omega
theorem numB_dash (n : Nat) : ∀ c ∈ numB n, c ≠ 45 := by
  intro c hc
  rcases List.mem_cons.1 hc with rfl | hc
  · decide
  · have := digs_rng n c hc; omega
theorem isM_num {x : List Int} {n m : Nat} (h1 : isM (numB n) x = true) (h2 : isM (numB m) x = true) : n = m := by
  have key : ∀ {k : Nat}, isM (numB k) x = true → trimR x = 45 :: 45 :: numB k ∨ trimR x = 45 :: 45 :: (numB k ++ [45, 45]) := by
    intro k h
    have h := of_decide_eq_true h
    unfold markN at h
    split at h
    · rename_i h9; exact .inl h9
    · split at h
      · rename_i h9; exact .inr h9
      · exact absurd rfl h
  rcases key h1 with h1 | h1 <;> rcases key h2 with h2 | h2
  · rw [h1] at h2; exact numB_inj (List.cons.inj (List.cons.inj h2).2).2
  · rw [h1] at h2
    have e := (List.cons.inj (List.cons.inj h2).2).2
    exact absurd rfl (numB_dash n 45 (by rw [e]; simp))
  · rw [h1] at h2
    have e := (List.cons.inj (List.cons.inj h2).2).2
    exact absurd rfl (numB_dash m 45 (by rw [← e]; simp))
  · rw [h1] at h2
    have e := (List.cons.inj (List.cons.inj h2).2).2
    exact numB_inj (List.append_cancel_right e)
/-- Some part has a mark of this number's boundary. -/
def metN (ps : List (List Int)) (n : Nat) : Bool := ps.any (fun p => hasM p (numB n))
open Classical in
theorem fresh_ex (ps : List (List Int)) : ∃ N, N ≤ (ps.flatMap pc2).length ∧ metN ps N = false := by
  apply Classical.byContradiction
  intro hno
  have hall : ∀ n, n < (ps.flatMap pc2).length + 1 → ∃ x ∈ ps.flatMap pc2, isM (numB n) x = true := by
    intro n hn
    cases hm : metN ps n with
    | false => exact absurd ⟨n, by omega, hm⟩ hno
    | true =>
      obtain ⟨p, hp, h⟩ := List.any_eq_true.1 hm
      obtain ⟨x, hx, h⟩ := List.any_eq_true.1 h
      exact ⟨x, List.mem_flatMap.2 ⟨p, hp, hx⟩, h⟩
  let g : List Int → Option Nat := fun x => if h : ∃ n, isM (numB n) x = true then some h.choose else none
  have := lacks _ ((ps.flatMap pc2).filterMap g) (fun n hn => by
    obtain ⟨x, hx, h⟩ := hall n hn
    refine List.mem_filterMap.2 ⟨x, hx, ?_⟩
    have he : ∃ n, isM (numB n) x = true := ⟨n, h⟩
    show (if h : ∃ n, isM (numB n) x = true then some h.choose else none) = some n
    rw [dif_pos he, isM_num he.choose_spec h])
  have h2 := List.length_filterMap_le g (ps.flatMap pc2)
  omega
theorem flat_len : ∀ (ps : List (List Int)), (∀ p ∈ ps, p.length ≤ 200) → (ps.flatMap pc2).length ≤ 201 * ps.length
  | [], _ => by simp
  | p :: r, h => by
    have := flat_len r (fun q hq => h q (by simp [hq]))
    have h1 := pc2_len p
    have h2 := h p (by simp)
    rw [List.flatMap_cons, List.length_append, List.length_cons]
    omega
theorem nDigits_small4 (n : Nat) (h : n < 10000) : Lib.nDigits n ≤ 4 := by
  have step : ∀ u, ¬ u < 10 → Lib.nDigits u = Lib.nDigits (u / 10) + 1 := fun u h => Lib.nDigits_big h
  have sm : ∀ u, u < 10 → Lib.nDigits u = 1 := fun u h => Lib.nDigits_small h
  by_cases h1 : n < 10
  · rw [sm n h1]; omega
  · rw [step n h1]
    by_cases h2 : n / 10 < 10
    · rw [sm _ h2]; omega
    · rw [step _ h2]
      by_cases h3 : n / 10 / 10 < 10
      · rw [sm _ h3]; omega
      · rw [step _ h3, sm _ (by omega)]; omega
theorem numB_len (n : Nat) (h : n < 10000) : (numB n).length ≤ 5 := by
  unfold numB
  rw [List.length_cons, List.length_map, Lib.decDigits_length]
  have := nDigits_small4 n h
  omega
theorem numB_rng (n : Nat) : ∀ c ∈ numB n, 48 ≤ c ∧ c ≤ 98 := by
  intro c hc
  rcases List.mem_cons.1 hc with rfl | hc
  · decide
  · have := digs_rng n c hc; omega
theorem mayB_num (n : Nat) (h : n < 10000) : mayB (numB n) = true := by
  have h1 := numB_len n h
  have h2 := numB_rng n
  have h0 : 0 < (numB n).length := by unfold numB; simp
  simp only [mayB, Bool.and_eq_true, decide_eq_true_eq, List.all_eq_true]
  refine ⟨⟨⟨h0, by omega⟩, fun c hc => ?_⟩, fun e => ?_⟩
  · have := h2 c hc; omega
  · have := h2 32 (List.mem_of_getLast? e); omega
end Go.Proofs.YtnoffalohplhnaaDoor
