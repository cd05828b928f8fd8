/- Plain: what is laid is read; what is read is scalar. -/
import Derived.Test.YtieeafkbgmpofaaP22c
import Derived.Test.YtieeafkbgmpofaaP23c
namespace Go.Proofs.Ytieeafkbgmpofaa
theorem bits6_of {l : List Int} (h : Bit l) (hl : l.length = 6) : bits6 (num l) = l := by
  match l, hl with
  | [a, b, c, d, e, f], _ =>
    have ha := h a (by simp); have hb := h b (by simp); have hc := h c (by simp); have hd := h d (by simp); have he := h e (by simp); have hf := h f (by simp)
    simp only [bits6, num, List.foldl_cons, List.foldl_nil, List.cons.injEq, and_true]
    omega
/-- The digits' bits are the bits that were laid. -/
theorem dbits_chunk {l : List Int} (h : Bit l) : ∀ k : Nat, 6 * k ≤ l.length → dbits ((chunk 6 l k).map dg) = l.take (6 * k)
  | 0, _ => by simp [chunk, dbits]
  | k + 1, hk => by
    have ih := dbits_chunk h k (by omega)
    have hl : ((l.drop (6 * k)).take 6).length = 6 := by rw [List.length_take, List.length_drop]; omega
    have hr := num_rng ((h.drop (6 * k)).take 6)
    rw [hl] at hr
    have e1 : dv (dg (num ((l.drop (6 * k)).take 6))) = num ((l.drop (6 * k)).take 6) := dv_dg hr.1 (by have := hr.2; omega)
    have e2 : dbits [dg (num ((l.drop (6 * k)).take 6))] = (l.drop (6 * k)).take 6 := by
      simp only [dbits, List.flatMap_cons, List.flatMap_nil, List.append_nil, e1]
      exact bits6_of ((h.drop (6 * k)).take 6) hl
    have e3 : dbits ((chunk 6 l k).map dg ++ [dg (num ((l.drop (6 * k)).take 6))]) = dbits ((chunk 6 l k).map dg) ++ dbits [dg (num ((l.drop (6 * k)).take 6))] := by simp only [dbits, List.flatMap_append]
    rw [chunk_succ, List.map_append, List.map_cons, List.map_nil, e3, ih, e2, Nat.mul_succ, List.take_add]
theorem pad6_len (l : List Int) : (pad6 l).length % 6 = 0 := by
  rw [pad6, List.length_append, List.length_replicate]; omega
theorem dbits_bare (xs : List Int) : dbits (bare xs) = pad6 (obits xs) := by
  have h0 := pad6_len (obits xs)
  rw [bare, wholes, dbits_chunk (pad6_bit (obits_bit xs)) _ (by omega)]
  exact List.take_of_length_le (by omega)
theorem dg_dig {n : Int} (h0 : 0 ≤ n) (h1 : n < 64) : 0 ≤ dv (dg n) := by rw [dv_dg h0 h1]; exact h0
theorem bare_dig (xs : List Int) : ∀ c ∈ bare xs, 0 ≤ dv c := by
  intro c hc
  rw [bare] at hc
  obtain ⟨n, hn, rfl⟩ := List.mem_map.1 hc
  have h1 := wholes6_rng (pad6_bit (obits_bit xs)) n hn
  exact dg_dig h1.1 h1.2
theorem bare_allD (xs : List Int) : allD (bare xs) = true := List.all_eq_true.2 fun c hc => decide_eq_true (bare_dig xs c hc)
/-- The bits of a unit's octets. -/
theorem bits16_num {u : Int} (h0 : 0 ≤ u) (h1 : u < 65536) : num (bits8 (u / 256) ++ bits8 (u % 256)) = u := by
  rw [num_append, bits8_num (by omega) (by omega), bits8_num (by omega) (by omega)]
  have h8 : (bits8 (u % 256)).length = 8 := rfl
  rw [h8, show (2 : Int) ^ 8 = 256 from by decide]; omega
theorem obits_uoct_cons (u : Int) (us : List Int) : obits (uoct (u :: us)) = (bits8 (u / 256) ++ bits8 (u % 256)) ++ obits (uoct us) := by
  simp [obits, uoct]
theorem chunk_obits : ∀ us : List Int, Rg 0 65536 us → ∀ z, chunk 16 (obits (uoct us) ++ z) us.length = us
  | [], _, z => by simp [chunk]
  | u :: us, h, z => by
    have ih := chunk_obits us h.cons.2 z
    have h16 : (bits8 (u / 256) ++ bits8 (u % 256)).length = 16 := rfl
    have e1 : chunk 16 (obits (uoct (u :: us)) ++ z) (1 + us.length) = chunk 16 (obits (uoct (u :: us)) ++ z) 1 ++ chunk 16 ((obits (uoct (u :: us)) ++ z).drop (16 * 1)) us.length := chunk_add 16 _ 1 us.length
    rw [obits_uoct_cons, List.append_assoc] at e1
    rw [List.length_cons, Nat.add_comm, obits_uoct_cons, List.append_assoc, e1, List.drop_append_of_le_length (by rw [h16]; omega), List.drop_eq_nil_of_le (by rw [h16]; omega), List.nil_append, ih, show (1 : Nat) = 0 + 1 from rfl, chunk_succ, show chunk 16 ((bits8 (u / 256) ++ bits8 (u % 256)) ++ (obits (uoct us) ++ z)) 0 = [] from rfl, Nat.mul_zero, List.drop_zero, List.take_append_of_le_length (by rw [h16]; exact Nat.le_refl _), List.take_of_length_le (by rw [h16]; exact Nat.le_refl _), bits16_num h.cons.1.1 h.cons.1.2]
    rfl
theorem runU_bare {us : List Int} (h : Rg 0 65536 us) : runU (bare (uoct us)) = us ∧ left 16 (dbits (bare (uoct us))) = List.replicate ((6 - (obits (uoct us)).length % 6) % 6) 0 := by
  have h1 : (obits (uoct us)).length = 16 * us.length := by rw [obits_len, uoct_len]; omega
  have h2 : (pad6 (obits (uoct us))).length / 16 = us.length := by rw [pad6, List.length_append, List.length_replicate]; omega
  refine ⟨?_, ?_⟩
  · rw [runU, dbits_bare, wholes, h2, pad6, chunk_obits us h]
  · rw [left, dbits_bare, h2, pad6, List.drop_append_of_le_length (by omega), List.drop_eq_nil_of_le (by omega), List.nil_append]
theorem code_run {t : List Int} (h : allSc t = true) : allD (codeL t) = true ∧ runT (codeL t) = t ∧ runO (codeL t) = false ∧ runR (codeL t) = true := by
  have e : codeL t = bare (uoct (ulayL t)) := by rw [codeL, if_pos h]
  have hu := runU_bare (ulay_rng t)
  have ha := bare_allD (uoct (ulayL t))
  have ht : (uread (ulayL t)).map Prod.fst = t := by rw [uread_ulay t h, List.map_map]; exact (List.map_congr_left fun _ _ => rfl).trans (List.map_id _)
  have hs : ferr ((uread (ulayL t)).map Prod.snd) = 0 := by
    rw [uread_ulay t h, List.map_map]
    exact ferr_all (fun y hy => by obtain ⟨c, _, rfl⟩ := List.mem_map.1 hy; rfl)
  have ho : runO (bare (uoct (ulayL t))) = false := by
    rw [runO, hu.2, num_zeros, List.length_replicate]
    simp
    omega
  rw [e]
  refine ⟨ha, ?_, ho, ?_⟩
  · rw [runT, ha, if_pos rfl, hu.1, ht]
  · rw [runR, ha, hu.1, hs, ho]; rfl
theorem dl_app : ∀ (d r : List Int), (∀ c ∈ d, 0 ≤ dv c) → (∀ c, r[0]? = some c → dv c < 0) → dl (d ++ r) = d.length
  | [], [], _, _ => rfl
  | [], x :: r, _, h => by
    have := h x rfl
    rw [List.nil_append, dl, if_neg (by omega)]; rfl
  | c :: d, r, h, hr => by
    have h1 := h c List.mem_cons_self
    have ih := dl_app d r (fun x hx => h x (List.mem_cons_of_mem _ hx)) hr
    rw [List.cons_append, dl, if_pos h1, ih]; rfl
theorem sread_run {d r : List Int} (hd : ∀ c ∈ d, 0 ≤ dv c) (h0 : d ≠ []) (ho : runO d = false) (hR : runR d = true) :
    (sread (43 :: (d ++ [45]) ++ r)).1 = runT d ++ (sread r).1 ∧ (sread (43 :: (d ++ [45]) ++ r)).2.2 = (sread r).2.2 := by
  have e : 43 :: (d ++ [45]) ++ r = 43 :: (d ++ (45 :: r)) := by simp
  have hl : dl (d ++ 45 :: r) = d.length := dl_app d _ hd (fun c hc => by simp at hc; subst hc; decide)
  have hlp : d.length ≠ 0 := fun h => h0 (List.eq_nil_of_length_eq_zero h)
  have ht : (d ++ 45 :: r).take d.length = d := by rw [List.take_append_of_le_length (Nat.le_refl _), List.take_length]
  have hg : (d ++ 45 :: r)[d.length]? = some 45 := by rw [List.getElem?_append_right (Nat.le_refl _), Nat.sub_self]; rfl
  have h1 : sn 43 (d ++ 45 :: r) = d.length + 1 := by rw [sn, if_pos rfl, hl, if_pos hg]
  have h2 : sout 43 (d ++ 45 :: r) = runT d := by rw [sout, if_neg (by omega), if_pos rfl, hl, if_neg hlp, ht, ho]; rfl
  have h3 : swr 43 (d ++ 45 :: r) = false := by rw [swr, if_neg (by omega), if_pos rfl, hl, if_neg hlp, ht, hR]; rfl
  have h4 : (d ++ 45 :: r).drop (d.length + 1) = r := by
    rw [← List.drop_drop, List.drop_append_of_le_length (Nat.le_refl _), List.drop_length]; rfl
  rw [e, sread_cons, h1, h2, h3, h4]
  exact ⟨rfl, rfl⟩
theorem sread_dir {c : Int} (r : List Int) (h : dirB c = true) : (sread (c :: r)).1 = c :: (sread r).1 ∧ (sread (c :: r)).2.2 = (sread r).2.2 := by
  have h1 := dir_ne h
  have h2 := dir_cases h
  have e1 : sn c r = 0 := by rw [sn, if_neg h1]
  have e2 : sout c r = [c] := by rw [sout, if_neg (by omega), if_neg h1]
  have e3 : swr c r = false := by rw [swr, if_neg (by omega), if_neg h1]
  rw [sread_cons, e1, e2, e3, List.drop_zero]
  exact ⟨rfl, rfl⟩
theorem sread_plus (r : List Int) : (sread (43 :: 45 :: r)).1 = 43 :: (sread r).1 ∧ (sread (43 :: 45 :: r)).2.2 = (sread r).2.2 := by
  have e0 : dl (45 :: r) = 0 := by rw [dl, if_neg (by decide)]
  have e1 : sn 43 (45 :: r) = 1 := by rw [sn, if_pos rfl, e0]; rfl
  have e2 : sout 43 (45 :: r) = [43] := by rw [sout, if_neg (by omega), if_pos rfl, e0, if_pos rfl]
  have e3 : swr 43 (45 :: r) = false := by rw [swr, if_neg (by omega), if_pos rfl, e0, if_pos rfl]; rfl
  rw [sread_cons, e1, e2, e3]
  exact ⟨rfl, rfl⟩
theorem allSc_sub {xs ys : List Int} (h : allSc xs = true) (hs : ∀ y ∈ ys, y ∈ xs) : allSc ys = true := List.all_eq_true.2 fun y hy => List.all_eq_true.1 h y (hs y hy)
theorem code_ne {c : Int} {t : List Int} (h : allSc (c :: t) = true) : codeL (c :: t) ≠ [] := by
  intro h0
  have h1 := (code_run h).2.1
  rw [h0] at h1
  have : runT [] = [] := by rw [runT, if_pos (by rfl : allD [] = true), show runU [] = [] from rfl, uread_nil]; rfl
  rw [this] at h1; cases h1
/-- What is laid is read. -/
theorem sread_lay : ∀ (k : Nat) (xs : List Int), xs.length ≤ k → allSc xs = true → (sread (lay xs).1).1 = xs ∧ (sread (lay xs).1).2.2 = false
  | _, [], _, _ => by rw [lay_nil, sread_nil]; exact ⟨rfl, rfl⟩
  | 0, c :: r, h, _ => by simp at h
  | k + 1, c :: r, h, hs => by
    have h1 := lk_pos c r
    have ih := sread_lay k ((c :: r).drop (lk c r)) (by rw [List.length_drop]; simp only [List.length_cons] at *; omega) (allSc_sub hs fun y hy => List.mem_of_mem_drop hy)
    rw [lay_cons]
    show (sread (lo c r ++ (lay ((c :: r).drop (lk c r))).1)).1 = c :: r ∧ (sread (lo c r ++ (lay ((c :: r).drop (lk c r))).1)).2.2 = false
    generalize (lay ((c :: r).drop (lk c r))).1 = L at *
    by_cases hn : 0 < rn (c :: r)
    · have e1 : lo c r = 43 :: (codeL ((c :: r).take (rn (c :: r))) ++ [45]) := by rw [lo, if_pos hn]; rfl
      have e2 : lk c r = rn (c :: r) := by rw [lk, if_pos hn]
      have hsc : allSc ((c :: r).take (rn (c :: r))) = true := allSc_sub hs fun y hy => List.mem_of_mem_take hy
      have hc := code_run hsc
      have hne : codeL ((c :: r).take (rn (c :: r))) ≠ [] := by
        obtain ⟨m, hm⟩ : ∃ m, rn (c :: r) = m + 1 := ⟨rn (c :: r) - 1, by omega⟩
        rw [hm, List.take_succ_cons] at hsc ⊢
        exact code_ne hsc
      have hs2 := sread_run (r := L) (d := codeL ((c :: r).take (rn (c :: r)))) (fun x hx => of_decide_eq_true (List.all_eq_true.1 hc.1 x hx)) hne hc.2.2.1 hc.2.2.2
      rw [e1]
      rw [e2] at ih
      refine ⟨hs2.1.trans ?_, hs2.2.trans ih.2⟩
      rw [hc.2.1, ih.1, List.take_append_drop]
    · have e2 : lk c r = 1 := by rw [lk, if_neg hn]
      rw [e2, List.drop_succ_cons, List.drop_zero] at ih
      by_cases hc : c = 43
      · subst hc
        have e1 : lo 43 r = [43, 45] := by rw [lo, if_neg hn, if_pos rfl]
        have hp := sread_plus L
        rw [e1]
        exact ⟨hp.1.trans (by rw [ih.1]), hp.2.trans ih.2⟩
      · have e1 : lo c r = [c] := by rw [lo, if_neg hn, if_neg hc]
        have hp := sread_dir L (dir_of_rn hn hc)
        rw [e1]
        exact ⟨hp.1.trans (by rw [ih.1]), hp.2.trans ih.2⟩
theorem allSc_app {a b : List Int} (ha : allSc a = true) (hb : allSc b = true) : allSc (a ++ b) = true := by rw [allSc, List.all_append]; exact Bool.and_eq_true _ _ |>.mpr ⟨ha, hb⟩
theorem runT_sc (d : List Int) : allSc (runT d) = true := by
  unfold runT
  split
  · exact uread_sc (runU_rng d)
  · rfl
theorem sout_sc {c : Int} (r : List Int) (h0 : 0 ≤ c) : allSc (sout c r) = true := by
  have hb : allSc [65533] = true := by decide
  rw [sout]
  split
  · exact hb
  · split
    · split
      · decide
      · split
        · exact allSc_app (runT_sc _) hb
        · exact runT_sc _
    · rw [allSc, List.all_cons, List.all_nil, Bool.and_true]; exact decide_eq_true (by omega)
/-- What is read is scalar. -/
theorem sread_sc : ∀ (k : Nat) (xs : List Int), xs.length ≤ k → (∀ c ∈ xs, 0 ≤ c) → allSc (sread xs).1 = true
  | _, [], _, _ => by rw [sread_nil]; rfl
  | 0, c :: r, h, _ => by simp at h
  | k + 1, c :: r, h, hg => by
    rw [sread_cons]
    exact allSc_app (sout_sc r (hg c List.mem_cons_self)) (sread_sc k _ (by rw [List.length_drop]; simp only [List.length_cons] at h; omega) fun x hx => hg x (List.mem_cons_of_mem _ (List.mem_of_mem_drop hx)))
end Go.Proofs.Ytieeafkbgmpofaa
