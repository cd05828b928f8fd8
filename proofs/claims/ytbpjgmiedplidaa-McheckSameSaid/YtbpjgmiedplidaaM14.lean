/- Plain: the digits of a run that is right are those of what is read of it. · Plain: which names are right; these are those that are laid of what is read. · Walks: the checker of names: its record, an octet, digits, a run's signs. · Walks: the checker of names: a run's digits. (laid together by program out of single texts). -/
import Derived.IntWalk
import Derived.Test.YtbpjgmiedplidaaM9
import Derived.Test.YtbpjgmiedplidaaM13
namespace Go.Proofs.Ytbpjgmiedplidaa
theorem bits8_of {l : List Int} (h : Bit l) (hl : l.length = 8) : bits8 (num l) = l := by
  match l, hl with
  | a :: b :: r, hl =>
    have ha := h a (by simp); have hb := h b (by simp)
    have hr : Bit r := fun x hx => h x (by simp [hx])
    have h6 : r.length = 6 := by simpa using hl
    have e := num_append [a, b] r
    have e2 : num [a, b] = 2 * a + b := by simp [num]
    have r6 := num_rng hr
    rw [h6, show (2 : Int) ^ 6 = 64 from by decide] at e r6
    rw [e2] at e
    have hq := bits6_of hr h6
    have e3 : num (a :: b :: r) = (2 * a + b) * 64 + num r := e
    have e4 : bits8 (num (a :: b :: r)) = a :: b :: bits6 (num r) := by
      rw [e3]
      generalize num r = y at *
      simp only [bits8, bits6, List.cons.injEq, and_true]
      exact ⟨by omega, by omega, by omega, by omega, by omega, by omega, by omega, by omega⟩
    rw [e4, hq]
theorem bits16_of {l : List Int} (h : Bit l) (hl : l.length = 16) : bits8 (num l / 256) ++ bits8 (num l % 256) = l := by
  have h1 : (l.take 8).length = 8 := by rw [List.length_take]; omega
  have h2 : (l.drop 8).length = 8 := by rw [List.length_drop]; omega
  have e := num_append (l.take 8) (l.drop 8)
  rw [List.take_append_drop, h2, show (2 : Int) ^ 8 = 256 from by decide] at e
  have r2 := num_rng (h.drop 8)
  rw [h2, show (2 : Int) ^ 8 = 256 from by decide] at r2
  have e1 : num l / 256 = num (l.take 8) := by omega
  have e2 : num l % 256 = num (l.drop 8) := by omega
  rw [e1, e2, bits8_of (h.take 8) h1, bits8_of (h.drop 8) h2, List.take_append_drop]
theorem obits_chunk {l : List Int} (h : Bit l) : ∀ k : Nat, 16 * k ≤ l.length → obits (uoct (chunk 16 l k)) = l.take (16 * k)
  | 0, _ => by simp [chunk, obits, uoct]
  | k + 1, hk => by
    have ih := obits_chunk h k (by omega)
    have hl : ((l.drop (16 * k)).take 16).length = 16 := by rw [List.length_take, List.length_drop]; omega
    have e3 : obits (uoct (chunk 16 l k ++ [num ((l.drop (16 * k)).take 16)])) = obits (uoct (chunk 16 l k)) ++ (bits8 (num ((l.drop (16 * k)).take 16) / 256) ++ bits8 (num ((l.drop (16 * k)).take 16) % 256)) := by simp [obits, uoct, List.flatMap_append]
    rw [chunk_succ, e3, ih, bits16_of ((h.drop (16 * k)).take 16) hl, Nat.mul_succ, List.take_add]
theorem num_nn : ∀ {l : List Int}, Bit l → num l = 0 → l = List.replicate l.length 0
  | [], _, _ => rfl
  | x :: l, h, h0 => by
    have hx := h x (by simp)
    have hl : Bit l := fun y hy => h y (List.mem_cons_of_mem _ hy)
    have h1 := num_rng hl
    have e : num (x :: l) = x * 2 ^ l.length + num l := by
      have h2 := num_append [x] l
      have h3 : num [x] = x := by simp [num]
      rw [h3] at h2; exact h2
    have hp : (0 : Int) < 2 ^ l.length := by
      have : (0 : Nat) < 2 ^ l.length := Nat.pow_pos (by omega)
      exact_mod_cast this
    rcases hx with rfl | rfl
    · rw [Int.zero_mul, Int.zero_add] at e
      rw [e] at h0
      have := num_nn hl h0
      rw [List.length_cons, List.replicate_succ, ← this]
    · rw [Int.one_mul] at e; omega
theorem chunk_dbits : ∀ u : List Int, (∀ c ∈ u, 0 ≤ dv c) → chunk 6 (dbits u) u.length = u.map dv
  | [], _ => rfl
  | c :: u, h => by
    have ih := chunk_dbits u (fun x hx => h x (List.mem_cons_of_mem _ hx))
    have h6 : (bits6 (dv c)).length = 6 := rfl
    have hd : dbits (c :: u) = bits6 (dv c) ++ dbits u := by simp [dbits]
    have e1 := chunk_add 6 (dbits (c :: u)) 1 u.length
    have e2 : chunk 6 (dbits (c :: u)) 1 = [num (bits6 (dv c))] := by
      rw [show (1 : Nat) = 0 + 1 from rfl, chunk_succ, hd, Nat.mul_zero, List.drop_zero, List.take_append_of_le_length (by rw [h6]; omega), List.take_of_length_le (by rw [h6]; omega)]; rfl
    have e3 : (dbits (c :: u)).drop (6 * 1) = dbits u := by rw [hd, List.drop_append_of_le_length (by rw [h6]; omega), List.drop_eq_nil_of_le (by rw [h6]; omega), List.nil_append]
    rw [e2, e3, ih] at e1
    have hr := dv_rng c
    rw [List.length_cons, Nat.add_comm, e1, List.map_cons, bits6_num (h c List.mem_cons_self) (by omega)]; rfl
/-- The digits of the units that a run's digits are. -/
theorem bare_runU {u : List Int} (h : ∀ c ∈ u, 0 ≤ dv c) (ho : runO u = false) : bare (uoct (runU u)) = u := by
  have hb := dbits_bit u
  have hl := dbits_len u
  have hL := left_len 16 (dbits u)
  rw [runO, Bool.or_eq_false_iff] at ho
  have hL6 : (left 16 (dbits u)).length < 6 := by have := of_decide_eq_false ho.1; omega
  have hz : left 16 (dbits u) = List.replicate (left 16 (dbits u)).length 0 := num_nn (hb.drop _) (by have := ho.2; simpa using this)
  have h1 := obits_chunk hb ((dbits u).length / 16) (by omega)
  have h2 : obits (uoct (runU u)) = (dbits u).take (16 * ((dbits u).length / 16)) := h1
  have h3 : ((dbits u).take (16 * ((dbits u).length / 16))).length = 16 * ((dbits u).length / 16) := by rw [List.length_take]; omega
  have h4 : pad6 (obits (uoct (runU u))) = dbits u := by
    rw [pad6, h2, h3]
    have h5 : (6 - 16 * ((dbits u).length / 16) % 6) % 6 = (left 16 (dbits u)).length := by omega
    rw [h5, ← hz, left, List.take_append_drop]
  rw [bare, h4, wholes, hl, show 6 * u.length / 6 = u.length by omega, chunk_dbits u h, List.map_map]
  have h6 : u.map (dg ∘ dv) = u.map id := List.map_congr_left fun c hc => dg_dv (h c hc)
  rw [h6, List.map_id]
theorem code_of_run {u : List Int} (hR : runR u = true) : codeL (runT u) = u := by
  rw [runR, Bool.and_eq_true, Bool.and_eq_true] at hR
  obtain ⟨ha, hf, ho⟩ := hR
  have hd : ∀ c ∈ u, 0 ≤ dv c := fun c hc => of_decide_eq_true (List.all_eq_true.1 ha c hc)
  have hT : runT u = (uread (runU u)).map Prod.fst := by rw [runT, ha]; rfl
  have hr := runU_rng u
  have hu := (uread_right hr).1 (by simpa using hf)
  have hsc : allSc (runT u) = true := runT_sc u
  rw [codeL, hsc, if_pos rfl, hT, hu]
  exact bare_runU hd (by simpa using ho)
end Go.Proofs.Ytbpjgmiedplidaa
namespace Go.Proofs.Ytbpjgmiedplidaa
def prB (c : Int) : Bool := decide (32 ≤ c ∧ c ≤ 126)
theorem mtak_pr (c : Int) : mtak c = prB c := by
  rw [mtak, mdirB, prB, Bool.eq_iff_iff]; simp; omega
/-- A piece: why it may not be, how many octets it has, whether it is a run. -/
def cpc (b : Bool) (c : Int) (r : List Int) : Int × Nat × Bool :=
  if prB c = false then (1, 0, false)
  else if c ≠ 38 then (0, 1, false)
  else if r[0]? = some 45 then (0, 2, false)
  else if ml r = 0 then (2, 0, false)
  else if r[ml r]? ≠ some 45 then (3, 0, true)
  else if runR (usuL (r.take (ml r))) = false ∨ runT (usuL (r.take (ml r))) = [] then (4, 0, true)
  else if (runT (usuL (r.take (ml r)))).any prB = true then (5, 0, true)
  else if b = true then (6, 0, true)
  else (0, ml r + 2, true)
/-- Why a name is not right, how many octets stand ahead of the piece, how many pieces. -/
def cwhy : Bool → List Int → Int × Nat × Nat
  | _, [] => (0, 0, 0)
  | b, c :: r => if (cpc b c r).1 ≠ 0 then ((cpc b c r).1, 0, 0) else
    ((cwhy (cpc b c r).2.2 (r.drop ((cpc b c r).2.1 - 1))).1, (cpc b c r).2.1 + (cwhy (cpc b c r).2.2 (r.drop ((cpc b c r).2.1 - 1))).2.1, 1 + (cwhy (cpc b c r).2.2 (r.drop ((cpc b c r).2.1 - 1))).2.2)
termination_by _ l => l.length
decreasing_by all_goals (simp only [List.length_drop, List.length_cons]; omega)
theorem cwhy_nil (b : Bool) : cwhy b [] = (0, 0, 0) := by rw [cwhy]
theorem cpc_ok {b : Bool} {c : Int} {r : List Int} (h : (cpc b c r).1 = 0) :
    (prB c = true ∧ c ≠ 38 ∧ cpc b c r = (0, 1, false)) ∨ (c = 38 ∧ r[0]? = some 45 ∧ cpc b c r = (0, 2, false)) ∨
    (c = 38 ∧ ml r ≠ 0 ∧ r[ml r]? = some 45 ∧ runR (usuL (r.take (ml r))) = true ∧ runT (usuL (r.take (ml r))) ≠ [] ∧ (runT (usuL (r.take (ml r)))).any prB = false ∧ b = false ∧ cpc b c r = (0, ml r + 2, true)) := by
  by_cases h1 : prB c = false
  · rw [cpc, if_pos h1] at h; exact absurd h (by decide)
  by_cases h2 : c ≠ 38
  · exact .inl ⟨by simpa using h1, h2, by rw [cpc, if_neg h1, if_pos h2]⟩
  have h2' : c = 38 := Decidable.of_not_not h2
  by_cases h3 : r[0]? = some 45
  · exact .inr (.inl ⟨h2', h3, by rw [cpc, if_neg h1, if_neg h2, if_pos h3]⟩)
  by_cases h4 : ml r = 0
  · rw [cpc, if_neg h1, if_neg h2, if_neg h3, if_pos h4] at h; exact absurd h (by decide)
  by_cases h5 : r[ml r]? ≠ some 45
  · rw [cpc, if_neg h1, if_neg h2, if_neg h3, if_neg h4, if_pos h5] at h; exact absurd h (by decide)
  by_cases h6 : runR (usuL (r.take (ml r))) = false ∨ runT (usuL (r.take (ml r))) = []
  · rw [cpc, if_neg h1, if_neg h2, if_neg h3, if_neg h4, if_neg h5, if_pos h6] at h; exact absurd h (by decide)
  by_cases h7 : (runT (usuL (r.take (ml r)))).any prB = true
  · rw [cpc, if_neg h1, if_neg h2, if_neg h3, if_neg h4, if_neg h5, if_neg h6, if_pos h7] at h; exact absurd h (by decide)
  by_cases h8 : b = true
  · rw [cpc, if_neg h1, if_neg h2, if_neg h3, if_neg h4, if_neg h5, if_neg h6, if_neg h7, if_pos h8] at h; exact absurd h (by decide)
  rw [not_or] at h6
  exact .inr (.inr ⟨h2', h4, Decidable.of_not_not h5, by simpa using h6.1, h6.2, by simpa using h7, by simpa using h8, by rw [cpc, if_neg h1, if_neg h2, if_neg h3, if_neg h4, if_neg h5, if_neg (by rw [not_or]; exact h6), if_neg h7, if_neg h8]⟩)
theorem cpc_len {b : Bool} {c : Int} {r : List Int} (h : (cpc b c r).1 = 0) : 1 ≤ (cpc b c r).2.1 ∧ (cpc b c r).2.1 ≤ r.length + 1 := by
  rcases cpc_ok h with ⟨_, _, e⟩ | ⟨_, h0, e⟩ | ⟨_, _, h0, _, _, _, _, e⟩
  · rw [e]; simp
  · have := (List.getElem?_eq_some_iff.1 h0).1
    rw [e]; simp; omega
  · have := (List.getElem?_eq_some_iff.1 h0).1
    rw [e]; simp; omega
theorem cwhy_bad {b : Bool} {c : Int} {r : List Int} (h : (cpc b c r).1 ≠ 0) : cwhy b (c :: r) = ((cpc b c r).1, 0, 0) := by rw [cwhy, if_pos h]
theorem cwhy_ok {b : Bool} {c : Int} {r : List Int} {n : Nat} {q : Bool} (h : cpc b c r = (0, n, q)) :
    cwhy b (c :: r) = ((cwhy q (r.drop (n - 1))).1, n + (cwhy q (r.drop (n - 1))).2.1, 1 + (cwhy q (r.drop (n - 1))).2.2) := by
  rw [cwhy, h]; simp
theorem cwhy_lo {b : Bool} {c : Int} {r : List Int} (h : (cwhy b (c :: r)).1 = 0) : (cpc b c r).1 = 0 := by
  by_cases h1 : (cpc b c r).1 = 0
  · exact h1
  · rw [cwhy_bad h1] at h; exact absurd h h1
theorem mn_drop : ∀ t : List Int, mn (t.drop (mn t)) = 0
  | [] => rfl
  | c :: r => by
    rw [mn]
    cases h : mtak c with
    | true => simp only [if_true, eq_self, List.drop_zero]; rw [mn, h]; rfl
    | false => simp only [Bool.false_eq_true, if_false, List.drop_succ_cons]; exact mn_drop r
theorem mn_take_no (t : List Int) : ∀ c ∈ t.take (mn t), mtak c = false := by
  intro c hc
  obtain ⟨k, hk⟩ := List.getElem?_of_mem hc
  rw [List.getElem?_take] at hk
  split at hk
  · rename_i hlt
    obtain ⟨y, hy1, hy2⟩ := mn_in t k hlt
    rw [hk] at hy1; cases hy1; exact hy2
  · cases hk
theorem mn_app : ∀ (T t : List Int), (∀ c ∈ T, mtak c = false) → mn t = 0 → mn (T ++ t) = T.length
  | [], t, _, h => h
  | c :: T, t, h, h0 => by
    have ih := mn_app T t (fun x hx => h x (List.mem_cons_of_mem _ hx)) h0
    rw [List.cons_append, mn, h c List.mem_cons_self, ih]; rfl
/-- What is laid is right. -/
theorem cwhy_mlay : ∀ (k : Nat) (t : List Int) (b : Bool), t.length ≤ k → allSc t = true → (b = true → mn t = 0) → (cwhy b (mlay t).1).1 = 0
  | _, [], b, _, _, _ => by rw [mlay_nil, cwhy_nil]
  | 0, c :: r, b, h, _, _ => by simp at h
  | k + 1, c :: r, b, h, hs, hb => by
    have h1 := mk1_pos (c :: r)
    have ih := fun q => cwhy_mlay k ((c :: r).drop (mk1 (c :: r))) q (by rw [List.length_drop]; simp only [List.length_cons] at *; omega) (allSc_sub hs fun y hy => List.mem_of_mem_drop hy)
    rw [mlay_cons]
    show (cwhy b (mo c r ++ (mlay ((c :: r).drop (mk1 (c :: r)))).1)).1 = 0
    have hd := mn_drop (c :: r)
    generalize hL : (mlay ((c :: r).drop (mk1 (c :: r)))).1 = L at *
    by_cases hn : 0 < mn (c :: r)
    · have hb0 : b = false := by
        cases b with
        | false => rfl
        | true => have := hb rfl; omega
      have e1 : mo c r = 38 :: mcodeL ((c :: r).take (mn (c :: r))) ++ [45] := by rw [mo, if_pos hn]
      have e2 : mk1 (c :: r) = mn (c :: r) := by unfold mk1; omega
      have hno := mn_take_no (c :: r)
      have hsc : allSc ((c :: r).take (mn (c :: r))) = true := allSc_sub hs fun y hy => List.mem_of_mem_take hy
      have hne : mcodeL ((c :: r).take (mn (c :: r))) ≠ [] ∧ (c :: r).take (mn (c :: r)) ≠ [] := by
        obtain ⟨m, hm⟩ : ∃ m, mn (c :: r) = m + 1 := ⟨mn (c :: r) - 1, by omega⟩
        rw [hm, List.take_succ_cons] at hsc ⊢
        exact ⟨mcode_ne hsc, by simp⟩
      rw [e2] at ih
      have ih1 := ih true (fun _ => hd)
      rw [e1]
      generalize (c :: r).take (mn (c :: r)) = T at *
      have hc := code_run hsc
      have hdg := mcode_dig T
      have hu := usu_mcode T
      generalize mcodeL T = d at *
      have e : 38 :: d ++ [45] ++ L = 38 :: (d ++ (45 :: L)) := by simp
      have hl : ml (d ++ 45 :: L) = d.length := ml_app d _ hdg (fun c hc => by simp at hc; subst hc; decide)
      have hlp : d.length ≠ 0 := fun h => hne.1 (List.eq_nil_of_length_eq_zero h)
      have ht : (d ++ 45 :: L).take d.length = d := by rw [List.take_append_of_le_length (Nat.le_refl _), List.take_length]
      have hg : (d ++ 45 :: L)[d.length]? = some 45 := by rw [List.getElem?_append_right (Nat.le_refl _), Nat.sub_self]; rfl
      have h4 : (d ++ 45 :: L).drop (d.length + 1) = L := by
        rw [← List.drop_drop, List.drop_append_of_le_length (Nat.le_refl _), List.drop_length]; rfl
      have h0 : (d ++ 45 :: L)[0]? ≠ some 45 := by
        cases d with
        | nil => exact absurd rfl hne.1
        | cons x d =>
          intro h9
          simp at h9
          have := hdg x List.mem_cons_self
          rw [h9] at this; revert this; decide
      have ec : cpc b 38 (d ++ 45 :: L) = (0, d.length + 2, true) := by
        rw [cpc, if_neg (by decide), if_neg (by decide), if_neg h0, hl, if_neg hlp, if_neg (by rw [hg]; simp), ht, hu, if_neg, if_neg, hb0, if_neg (by decide)]
        · rw [hc.2.1]
          simp only [Bool.not_eq_true]
          rw [List.any_eq_false]
          intro x hx
          rw [← mtak_pr, hno x hx]; decide
        · rw [not_or, hc.2.2.2, hc.2.1]
          exact ⟨by decide, hne.2⟩
      rw [e, cwhy_ok ec, show d.length + 2 - 1 = d.length + 1 from rfl, h4]
      exact ih1
    · have e0 : mn (c :: r) = 0 := by omega
      have e2 : mk1 (c :: r) = 1 := by unfold mk1; omega
      have ih0 := ih false (fun h => by cases h)
      by_cases hc : c = 38
      · subst hc
        have e1 : mo 38 r = [38, 45] := by rw [mo, if_neg hn, if_pos rfl]
        have ec : cpc b 38 (45 :: L) = (0, 2, false) := by rw [cpc, if_neg (by decide), if_neg (by decide), if_pos (by rfl)]
        rw [e1, show [38, 45] ++ L = (38 : Int) :: (45 :: L) from rfl, cwhy_ok ec]
        exact ih0
      · have e1 : mo c r = [c] := by rw [mo, if_neg hn, if_neg hc]
        have hm := mtak_of_mn hn hc
        have hp : prB c = true := by rw [← mtak_pr, mtak, hm]; rfl
        have ec : cpc b c L = (0, 1, false) := by rw [cpc, if_neg (by rw [hp]; decide), if_pos hc]
        rw [e1, show [c] ++ L = c :: L from rfl, cwhy_ok ec]
        exact ih0
theorem modL_usuL {d : List Int} (h : ∀ c ∈ d, 0 ≤ mv c) : modL (usuL d) = d := by
  rw [usuL, modL, subL, subL, List.map_map]
  refine (List.map_congr_left fun c hc => ?_).trans (List.map_id _)
  have := h c hc
  unfold sub1 Function.comp
  by_cases h1 : c = 44
  · subst h1; rfl
  · simp only [if_neg h1, id]
    rw [if_neg (by intro h2; subst h2; revert this; decide)]
/-- A name that is right is what is laid of what is read of it. -/
theorem mlay_right : ∀ (k : Nat) (s : List Int) (b : Bool), s.length ≤ k → Rg 0 256 s → (cwhy b s).1 = 0 → (mlay (mread s).1).1 = s ∧ (b = true → mn (mread s).1 = 0)
  | _, [], b, _, _, _ => by rw [mread_nil, mlay_nil]; exact ⟨rfl, fun _ => rfl⟩
  | 0, c :: r, b, h, _, _ => by simp at h
  | k + 1, c :: r, b, h, hg, hw => by
    have hk : r.length ≤ k := by simp only [List.length_cons] at h; omega
    have hgr := hg.cons.2
    rcases cpc_ok (cwhy_lo hw) with ⟨hp, hc, e⟩ | ⟨rfl, h0, e⟩ | ⟨rfl, h4, h5, h6, h7, h8, hb, e⟩
    · rw [cwhy_ok e, show r.drop (1 - 1) = r from by simp] at hw
      have ih := mlay_right k r false hk hgr hw
      have hm : mdirB c = true := by rw [← mtak_pr, mtak, decide_eq_false hc, Bool.or_false] at hp; exact hp
      have hr := (mread_dir r hm).1
      have hn : mn (c :: (mread r).1) = 0 := by rw [mn, mtak, hm]; rfl
      rw [hr]
      refine ⟨?_, fun _ => hn⟩
      rw [mlay_cons, mk1, hn, mo, hn, if_neg (by omega), if_neg hc, show max 0 1 = 1 from rfl, List.drop_succ_cons, List.drop_zero, ih.1]; rfl
    · cases r with
      | nil => simp at h0
      | cons x r =>
        simp at h0; subst h0
        rw [cwhy_ok e, show (45 :: r).drop (2 - 1) = r from rfl] at hw
        have ih := mlay_right k r false (by simp only [List.length_cons] at hk; omega) hgr.cons.2 hw
        have hr := (mread_amp r).1
        have hn : mn (38 :: (mread r).1) = 0 := by rw [mn, show mtak 38 = true from by decide]; rfl
        rw [hr]
        refine ⟨?_, fun _ => hn⟩
        rw [mlay_cons, mk1, hn, mo, hn, if_neg (by omega), if_pos rfl, show max 0 1 = 1 from rfl, List.drop_succ_cons, List.drop_zero, ih.1]; rfl
    · have hdg := ml_dig r
      have hne := ml_tne h4
      have hlt := (List.getElem?_eq_some_iff.1 h5).1
      have hr2 : r = r.take (ml r) ++ [45] ++ r.drop (ml r + 1) := by
        obtain ⟨k1, k2⟩ := List.getElem?_eq_some_iff.1 h5
        rw [List.append_assoc, List.singleton_append, ← k2, ← List.drop_eq_getElem_cons k1, List.take_append_drop]
      rw [cwhy_ok e, show ml r + 2 - 1 = ml r + 1 from rfl] at hw
      have ih := mlay_right k (r.drop (ml r + 1)) true (by rw [List.length_drop]; omega) (hgr.drop _) hw
      have hm0 := ih.2 rfl
      have hrd := (mread_run (r := r.drop (ml r + 1)) hdg hne).1
      have hO : runO (usuL (r.take (ml r))) = false := by
        rw [runR, Bool.and_eq_true, Bool.and_eq_true] at h6
        simpa using h6.2.2
      rw [mwhole_eq hdg hne, hO] at hrd
      have e0 : 38 :: r = 38 :: (r.take (ml r)) ++ [45] ++ r.drop (ml r + 1) := by
        conv => lhs; rw [hr2]
        simp
      have hcd := code_of_run h6
      have hmu := modL_usuL hdg
      rw [e0]
      generalize r.take (ml r) = d at *
      generalize r.drop (ml r + 1) = r' at *
      simp only [Bool.false_eq_true, if_false] at hrd
      have hTn : ∀ c ∈ runT (usuL d), mtak c = false := fun c hc => by
        rw [mtak_pr]
        have := List.any_eq_false.1 h8 c hc
        simpa using this
      have hmn := mn_app (runT (usuL d)) (mread r').1 hTn hm0
      have hmc : mcodeL (runT (usuL d)) = d := by rw [mcodeL, hcd, hmu]
      refine ⟨?_, fun hb2 => by rw [hb] at hb2; cases hb2⟩
      rw [hrd]
      obtain ⟨x, T, hT⟩ : ∃ x T, runT (usuL d) = x :: T := by
        cases hx : runT (usuL d) with
        | nil => exact absurd hx h7
        | cons x T => exact ⟨x, T, rfl⟩
      rw [hT] at hmn hmc ⊢
      rw [List.cons_append] at hmn ⊢
      have hpos : 0 < (x :: T).length := by simp
      have hk1 : mk1 (x :: (T ++ (mread r').1)) = (x :: T).length := by rw [mk1, hmn]; omega
      have hmo : mo x (T ++ (mread r').1) = 38 :: d ++ [45] := by
        rw [mo, hmn, if_pos hpos, ← List.cons_append, List.take_append_of_le_length (Nat.le_refl _), List.take_length, hmc]
      rw [mlay_cons, hk1, hmo, ← List.cons_append, List.drop_append_of_le_length (Nat.le_refl _), List.drop_length, List.nil_append, ih.1]
theorem right_iff {s : List Int} (hg : Rg 0 256 s) : (cwhy false s).1 = 0 ↔ (mlay (mread s).1).1 = s := by
  constructor
  · exact fun h => (mlay_right _ s false (Nat.le_refl _) hg h).1
  · intro h
    rw [← h]
    exact cwhy_mlay _ _ false (Nat.le_refl _) (mread_sc _ s (Nat.le_refl _) hg) (fun h => by cases h)
end Go.Proofs.Ytbpjgmiedplidaa
namespace Go.Proofs.Ytbpjgmiedplidaa
open Go.RowKit
set_option maxHeartbeats 2000000
/-- The checker's record at block P: the octets, the place, how many pieces, whether the last one was a run. -/
def Ck (P : Nat) (w : World) (v : Value) (p n : Nat) (b : Bool) : Prop :=
  w.cell? ⟨P, 0, none⟩ = some v ∧ w.cell? ⟨P, 1, none⟩ = some (.int .i64 p) ∧ w.cell? ⟨P, 2, none⟩ = some (.int .i64 n) ∧ w.cell? ⟨P, 3, none⟩ = some (.bool b) ∧ (∀ j, w.frozen? ⟨P, j, none⟩ = false) ∧ P < w.heap.size
section
variable {P : Nat} {w w' : World} {v : Value} {p n : Nat} {b : Bool}
theorem Ck.below (h : Ck P w v p n b) (hb : Below w.heap.size w w') : Ck P w' v p n b := by
  obtain ⟨h0, h1, h2, h3, hf, hP⟩ := h
  exact ⟨(hb.cell (p := ⟨P, 0, none⟩) hP).trans h0, (hb.cell (p := ⟨P, 1, none⟩) hP).trans h1, (hb.cell (p := ⟨P, 2, none⟩) hP).trans h2, (hb.cell (p := ⟨P, 3, none⟩) hP).trans h3, fun j => (hb.frozen (p := ⟨P, j, none⟩) hP).trans (hf j), Nat.lt_of_lt_of_le hP hb.size⟩
theorem ck_other {B i j : Nat} {u : Value} (h : i ≠ j) : (w.setCell ⟨B, i, none⟩ u).cell? ⟨B, j, none⟩ = w.cell? ⟨B, j, none⟩ := World.cell?_setCell_other _ _ _ _ (fun e => h (by cases e; rfl))
theorem Ck.setP (h : Ck P w v p n b) (q : Nat) (u : Int) (hu : u = q) : Ck P (w.setCell ⟨P, 1, none⟩ (.int .i64 u)) v q n b := by
  subst hu
  obtain ⟨h0, h1, h2, h3, hf, hP⟩ := h
  exact ⟨(ck_other (by decide)).trans h0, World.cell?_setCell_same' _ _ _ (by rw [h1]; rfl), (ck_other (by decide)).trans h2, (ck_other (by decide)).trans h3, fun j => by rw [World.frozen?_setCell]; exact hf j, by rw [World.size_setCell]; exact hP⟩
theorem Ck.setB (h : Ck P w v p n b) (q : Bool) : Ck P (w.setCell ⟨P, 3, none⟩ (.bool q)) v p n q := by
  obtain ⟨h0, h1, h2, h3, hf, hP⟩ := h
  exact ⟨(ck_other (by decide)).trans h0, (ck_other (by decide)).trans h1, (ck_other (by decide)).trans h2, World.cell?_setCell_same' _ _ _ (by rw [h3]; rfl), fun j => by rw [World.frozen?_setCell]; exact hf j, by rw [World.size_setCell]; exact hP⟩
theorem Ck.setN (h : Ck P w v p n b) (q : Nat) (u : Int) (hu : u = q) : Ck P (w.setCell ⟨P, 2, none⟩ (.int .i64 u)) v p q b := by
  subst hu
  obtain ⟨h0, h1, h2, h3, hf, hP⟩ := h
  exact ⟨(ck_other (by decide)).trans h0, (ck_other (by decide)).trans h1, World.cell?_setCell_same' _ _ _ (by rw [h2]; rfl), (ck_other (by decide)).trans h3, fun j => by rw [World.frozen?_setCell]; exact hf j, by rw [World.size_setCell]; exact hP⟩
end
theorem exec_slLH {P : Program} {o : Oper} {a : Act} {t E : TypeId} (hT : SlT P t E) {x l hh : Operand} (ho : o.op = .slice t x (some l) (some hh) none) {aa : Option Addr} {n cap : Nat} {kl kh : IntKind} {k j : Int}
    (hx : a.eval x = .slice aa n cap) (hl : a.eval l = .int kl k) (hh : a.eval hh = .int kh j) (h0 : 0 ≤ k) (h1 : k ≤ j) (h2 : j ≤ cap) (w : World) : (execOp a.eval o).run P w = .ok (.value (sliced aa k.toNat j.toNat cap 1)) w := by
  obtain ⟨ht, hs⟩ := SlT.run hT
  simp only [execOp, ho, Option.map_some, Option.map_none, hx, hl, hh]
  simp [run_sliceAt_slice w t _ _ _ _ ht, run_slice_lh w t aa n cap ht kl kh k j h0 h1 h2, hs, Result.andThen]
theorem now_yes (P : Nat) (w : World) (v : Value) (xs : List Int) (p n on : Nat) (b : Bool) (c : Int) (hk : Ck P w v p n b) (h : Row w v (ints .u8 xs)) (hl : xs.length ≤ 1000000) (hx : xs[p + on]? = some c) :
    Calls Try.prog 89 #[.pointer (some ⟨P, 0, none⟩), .int .i64 on] w fun e w' => e = .returned (.tuple #[.int .u8 c, .bool true]) ∧ Below w.heap.size w w' := by
  obtain ⟨h0, h1, _, _, _, _⟩ := hk
  obtain ⟨a, bb, off, cp, rfl, HC⟩ := h.op
  have hlt := (List.getElem?_eq_some_iff.1 hx).1
  obtain ⟨c', HX, rfl, hc⟩ := HC.out (p + on) hlt
  have e9 := HX.out
  rw [hx] at e9
  obtain rfl := Option.some.inj e9
  replace hc := hc _ (Below.refl _ _)
  clear HC HX e9 hx
  have hs : IntKind.i64.wrap ((p : Int) + (on : Int)) = (p : Int) + on := IntWalk.i64_in _ (by omega)
  have hn0 : (0 : Int) ≤ (p : Int) + on := by omega
  have hnt : ((p : Int) + on).toNat = p + on := by omega
  have hlt' : (p : Int) + on < xs.length := by omega
  have hge : ¬ ((xs.length : Int) ≤ (p : Int) + on) := by omega
  go_enter Try.func89, Try.ntmps89
  go_wp2_with fail
  go_quiet (fail)
  go_wp2_with fail
  go_quiet (fail)
  go_wp2
  go_ret2
  exact ⟨rfl, below_drewN (below_drewN (Below.refl _ _) _) _⟩
theorem now_no (P : Nat) (w : World) (v : Value) (xs : List Int) (p n on : Nat) (b : Bool) (hk : Ck P w v p n b) (h : Row w v (ints .u8 xs)) (hl : xs.length ≤ 1000000) (hon : on ≤ 2000000) (hp : p ≤ xs.length) (hx : xs.length ≤ p + on) :
    Calls Try.prog 89 #[.pointer (some ⟨P, 0, none⟩), .int .i64 on] w fun e w' => e = .returned (.tuple #[.int .u8 0, .bool false]) ∧ Below w.heap.size w w' := by
  obtain ⟨h0, h1, _, _, _, _⟩ := hk
  obtain ⟨a, bb, off, cp, rfl, _⟩ := h.op
  have hs : IntKind.i64.wrap ((p : Int) + (on : Int)) = (p : Int) + on := IntWalk.i64_in _ (by omega)
  have hge : (xs.length : Int) ≤ (p : Int) + on := by omega
  go_enter Try.func89, Try.ntmps89
  go_wp2_with fail
  go_quiet (fail)
  go_wp2
  go_ret2
  exact ⟨rfl, below_drewN (Below.refl _ _) _⟩
theorem prin_any (c : Int) (w : World) :
    Calls Try.prog 90 #[.int .i32 c] w fun e w' => e = .returned (.bool (prB c)) ∧ w' = w := by
  have e : prB c = (decide (32 ≤ c) && decide (c ≤ 126)) := by rw [prB, Bool.eq_iff_iff]; simp
  rw [e]
  by_cases h1 : 32 ≤ c
  · go_enter Try.func90, Try.ntmps90
    go_wp2
    go_ret
    exact ⟨ret_bool (by rw [decide_eq_true h1]; rfl), rfl⟩
  · go_enter Try.func90, Try.ntmps90
    go_wp2
    go_ret
    exact ⟨ret_bool (by rw [decide_eq_false (p := 32 ≤ c) (by omega)]; rfl), rfl⟩
theorem any_none {f : Int → Bool} {t : List Int} (h : ∀ (k : Nat) (c : Int), t[k]? = some c → f c = false) : t.any f = false := by
  rw [List.any_eq_false]
  intro x hx
  obtain ⟨k, hk⟩ := List.getElem?_of_mem hx
  rw [h k x hk]; decide
theorem idxF_any (v : Value) (t : List Int) (w : World) (h : Row w v (ints .i32 t)) (hl : t.length ≤ 1000000) :
    Calls Try.prog 81 #[v, .func (.func 90) #[] #[]] w fun e w' => (∃ i : Int, e = .returned (.int .i64 i) ∧ decide (0 ≤ i) = t.any prB) ∧ w' = w := by
  obtain ⟨a, b, off, cp, rfl, HC⟩ := h.op
  have HY : Hid (∀ (k : Nat) (c : Int), t[k]? = some c → prB c = true → t.any prB = true) := fun k c h1 h2 => List.any_eq_true.2 ⟨c, List.mem_of_getElem? h1, h2⟩
  have HNO : Hid ((∀ (k : Nat) (c : Int), t[k]? = some c → prB c = false) → t.any prB = false) := any_none
  generalize t.any prB = q at *
  go_enter Try.func81, Try.ntmps81
  go_wp2
  go_loop [8] (fun i => ∃ k : Nat, i = .int .i64 k ∧ k ≤ t.length ∧ Hid (∀ (j : Nat) (c : Int), j < k → t[j]? = some c → prB c = false)) (fun i => t.length - (intOf i).toNat)
  case atStart => exact ⟨0, rfl, Nat.zero_le _, fun j c hj => absurd hj (Nat.not_lt_zero _)⟩
  case round =>
    obtain ⟨k, rfl, hk, HB⟩ := hrel
    by_cases hlt : k < t.length
    · obtain ⟨c, HX, rfl, hc⟩ := HC.out k hlt
      replace hc := hc _ (Below.refl _ _)
      have hv := fun w => prin_any c w
      rcases hp : prB c with _ | _
      · rw [hp] at hv
        have HV := Lib.hid hv
        have HB2 : Hid (∀ (j : Nat) (c : Int), j < k + 1 → t[j]? = some c → prB c = false) := fun j d hj hd => by
          by_cases hjk : j < k
          · exact HB.out j d hjk hd
          · obtain rfl : j = k := by omega
            rw [HX.out] at hd; cases hd; exact hp
        clear hv hp
        go_wp2_with (go_at_call 90; refine (HV.out _).mono ?_; rintro e w' ⟨rfl, hw⟩; obtain rfl := hw.symm)
        go_round
        case rel => exact ⟨k + 1, by go_num, by omega, HB2⟩
        case measure => simp [intOf]; omega
      · rw [hp] at hv
        have HV := Lib.hid hv
        have HQ := Lib.hid (HY.out k c HX.out hp)
        clear hv hp
        go_wp2_with (go_at_call 90; refine (HV.out _).mono ?_; rintro e w' ⟨rfl, hw⟩; obtain rfl := hw.symm)
        go_ret
        exact ⟨⟨k, rfl, by rw [HQ.out]; exact decide_eq_true (by omega)⟩, rfl⟩
    · have HQ := Lib.hid (HNO.out fun j c hj => HB.out j c (by have := (List.getElem?_eq_some_iff.1 hj).1; omega) hj)
      go_wp2
      go_ret
      exact ⟨⟨-1, rfl, by rw [HQ.out]; rfl⟩, rfl⟩
theorem conF_any (v : Value) (t : List Int) (w : World) (h : Row w v (ints .i32 t)) (hl : t.length ≤ 1000000) :
    Calls Try.prog 103 #[v, .func (.func 90) #[] #[]] w fun e w' => e = .returned (.bool (t.any prB)) ∧ w' = w := by
  have hI := idxF_any v t w h hl
  generalize t.any prB = q at *
  have HI := Lib.hid hI; clear hI
  go_enter Try.func103, Try.ntmps103
  go_wp2_with (go_at_call 81; refine (HI.out).mono ?_; rintro e w' ⟨⟨i, rfl, hi⟩, hw⟩; obtain rfl := hw.symm; have HQ := Lib.hid hi; clear hi hw)
  go_ret
  exact ⟨ret_bool HQ.out, rfl⟩
end Go.Proofs.Ytbpjgmiedplidaa
namespace Go.Proofs.Ytbpjgmiedplidaa
set_option linter.unusedSimpArgs false
open Go.RowKit
set_option maxHeartbeats 2000000
set_option maxRecDepth 100000 in
theorem cdigits_any (P : Nat) (w : World) (v : Value) (xs : List Int) (p n : Nat) (b : Bool) (hk : Ck P w v p n b) (h : Row w v (ints .u8 xs)) (hg : Rg 0 256 xs) (hl : xs.length ≤ 1000000) (hp : p < xs.length) :
    Calls Try.prog 91 #[.pointer (some ⟨P, 0, none⟩)] w fun e w' => ∃ t, e = .returned t ∧ Row w' t (ints .u8 ((xs.drop (p + 1)).take (ml (xs.drop (p + 1))))) ∧ Below w.heap.size w w' := by
  obtain ⟨a, bb, off, cp, rfl, HC⟩ := id h.op
  have hcap : xs.length ≤ cp := by obtain ⟨_, _, _, _, hv, hc, _⟩ := h.int; cases hv; exact hc
  have hle := ml_le (xs.drop (p + 1))
  rw [List.length_drop] at hle
  have hin : ∀ k, k < ml (xs.drop (p + 1)) → ∃ c, xs[p + (k + 1)]? = some c ∧ 0 ≤ mv c := fun k hk => by
    obtain ⟨c, h1, h2⟩ := ml_in _ k hk
    rw [List.getElem?_drop] at h1
    exact ⟨c, by rw [show p + (k + 1) = p + 1 + k by omega]; exact h1, h2⟩
  have hout : ∀ c, xs[p + (ml (xs.drop (p + 1)) + 1)]? = some c → mv c < 0 := fun c hc => ml_out _ c (by rw [List.getElem?_drop, show p + 1 + ml (xs.drop (p + 1)) = p + (ml (xs.drop (p + 1)) + 1) by omega]; exact hc)
  have hsub := Row.sub h a cp (by rw [ints_length]) (p + 1) (p + 1 + ml (xs.drop (p + 1))) (by omega) (by rw [ints_length]; omega)
  rw [ints_take, ints_drop, List.drop_take, show p + 1 + ml (xs.drop (p + 1)) - (p + 1) = ml (xs.drop (p + 1)) by omega] at hsub
  generalize (xs.drop (p + 1)).take (ml (xs.drop (p + 1))) = d at *
  generalize ml (xs.drop (p + 1)) = m at *
  have HIN := Lib.hid hin; have HOUT := Lib.hid hout; have HSUB := Lib.hid hsub
  clear hin hout hsub
  have hy := fun w1 on c (hb : Below w.heap.size w w1) hx => now_yes P w1 _ xs p n on b c (hk.below hb) (h.below hb) hl hx
  have hn := fun w1 on (hb : Below w.heap.size w w1) ho hx => now_no P w1 _ xs p n on b (hk.below hb) (h.below hb) hl ho (by omega) hx
  have HYS := Lib.hid hy; have HNS := Lib.hid hn
  clear hy hn
  go_enter Try.func91, Try.ntmps91
  go_wp2
  go_loopw [3] (fun i wr => ∃ k : Nat, i = .int .i64 ((k + 1 : Nat) : Int) ∧ k ≤ m ∧ Below w.heap.size w wr) (fun i _ => m + 1 - (intOf i).toNat)
  case atStart => exact ⟨0, by go_num, Nat.zero_le _, Below.refl _ _⟩
  case round =>
    obtain ⟨k, rfl, hkm, hb⟩ := hrel
    by_cases hlt : k < m
    · obtain ⟨c, hc1, hc2⟩ := HIN.out k hlt
      have hcr := hg.get hc1
      have hv := fun w => mValue_any c w hcr.1 hcr.2
      rw [decide_eq_true hc2] at hv
      have HV := Lib.hid hv
      have HN1 := Lib.hid (HYS.out wr (k + 1) c hb hc1)
      clear hv hc1 hc2 hcr
      go_wp2_with (first | (go_at_call 89; refine (HN1.out).mono ?_; rintro e w1 ⟨rfl, hb1⟩) | (go_at_call 70; refine (HV.out _).mono ?_; rintro e w' ⟨rfl, hw⟩; obtain rfl := hw.symm))
      go_roundw
      case rel => exact ⟨k + 1, by go_num, by omega, below_trans hb hb1⟩
      case measure => simp [intOf]; omega
    · obtain rfl : k = m := by omega
      have hkk := hk
      by_cases hxs : p + (k + 1) < xs.length
      case' pos =>
        obtain ⟨c, HX, _, _⟩ := HC.out (p + (k + 1)) hxs
        have hc2 := HOUT.out c HX.out
        have hcr := hg.get HX.out
        have hv := fun w => mValue_any c w hcr.1 hcr.2
        rw [decide_eq_false (show ¬ 0 ≤ mv c from (by omega))] at hv
        have HV := Lib.hid hv
        have HN1 := Lib.hid (HYS.out wr (k + 1) c hb HX.out)
        clear hv hc2 hcr
        go_wp2_with (first | (go_at_call 89; refine (HN1.out).mono ?_; rintro e w1 ⟨rfl, hb1⟩) | (go_at_call 70; refine (HV.out _).mono ?_; rintro e w' ⟨rfl, hw⟩; obtain rfl := hw.symm))
      case' neg =>
        have HN1 := Lib.hid (HNS.out wr (k + 1) hb (by omega) (by omega))
        go_wp2_with (go_at_call 89; refine (HN1.out).mono ?_; rintro e w1 ⟨rfl, hb1⟩)
      all_goals
        have hbw := below_trans hb hb1
        have hkw := hk.below hbw
        obtain ⟨k0, k1, _, _, _, _⟩ := id hkw
        have hs1 : IntKind.i64.wrap ((p : Int) + 1) = (p : Int) + 1 := IntWalk.i64_in _ (by omega)
        have hs2 : IntKind.i64.wrap ((p : Int) + ((k : Int) + 1)) = (p : Int) + ((k : Int) + 1) := IntWalk.i64_in _ (by omega)
        have hn0 : (0 : Int) ≤ (p : Int) + 1 := by omega
        have hn1 : ((p : Int) + 1).toNat = p + 1 := by omega
        have hn2 : ((p : Int) + ((k : Int) + 1)).toNat = p + (k + 1) := by omega
        have hn3 : (p : Int) + 1 ≤ (p : Int) + ((k : Int) + 1) := by omega
        have hn4 : (p : Int) + ((k : Int) + 1) ≤ cp := by omega
        have hn5 : p + (k + 1) - (p + 1) = k := by omega
        have hrow := HSUB.out.below hbw
        refine wp_region_held_drew (S := fun w' => w'.cell? ⟨P, 0, none⟩ = some (.slice a xs.length cp) ∧ w'.cell? ⟨P, 1, none⟩ = some (.int .i64 p)) (by kernel_rfl) ⟨k0, k1⟩ (fun hHeld => ?_)
        clear k0 k1
        refine wpAnyH_take (i := 0) (v := (.pointer (some ⟨P, 0, none⟩))) rfl (by kernel_rfl) (by kernel_rfl) (by kernel_rfl) (fun _ _ _ h => h) (Or.inl ⟨by rfl, fun w9 hw9 => by (obtain ⟨h91, h92⟩ := hw9; go_simp)⟩) hHeld ?_
        simp only [Act.put, List.getElem_toArray, List.getElem_cons_succ, List.getElem_cons_zero, List.setIfInBounds_toArray, List.set_cons_zero, List.set_cons_succ]
        refine wpAnyH_take (i := 1) (v := (.pointer (some ⟨P, 0, none⟩))) rfl (by kernel_rfl) (by kernel_rfl) (by kernel_rfl) (fun _ _ _ h => h) (Or.inl ⟨by rfl, fun w9 hw9 => by (obtain ⟨h91, h92⟩ := hw9; go_simp)⟩) hHeld ?_
        simp only [Act.put, List.getElem_toArray, List.getElem_cons_succ, List.getElem_cons_zero, List.setIfInBounds_toArray, List.set_cons_zero, List.set_cons_succ]
        refine wpAnyH_take (i := 2) (v := (.pointer (some ⟨P, 0, none⟩))) rfl (by kernel_rfl) (by kernel_rfl) (by kernel_rfl) (fun _ _ _ h => h) (Or.inl ⟨by rfl, fun w9 hw9 => by (obtain ⟨h91, h92⟩ := hw9; go_simp)⟩) hHeld ?_
        simp only [Act.put, List.getElem_toArray, List.getElem_cons_succ, List.getElem_cons_zero, List.setIfInBounds_toArray, List.set_cons_zero, List.set_cons_succ]
        refine wpAnyH_take (i := 3) (v := (.slice a xs.length cp)) rfl (by kernel_rfl) (by kernel_rfl) (by kernel_rfl) (fun _ _ _ h => h) (Or.inl ⟨by rfl, fun w9 hw9 => by (obtain ⟨h91, h92⟩ := hw9; go_simp)⟩) hHeld ?_
        simp only [Act.put, List.getElem_toArray, List.getElem_cons_succ, List.getElem_cons_zero, List.setIfInBounds_toArray, List.set_cons_zero, List.set_cons_succ]
        refine wpAnyH_take (i := 4) (v := (.pointer (some ⟨P, 0, none⟩))) rfl (by kernel_rfl) (by kernel_rfl) (by kernel_rfl) (fun _ _ _ h => h) (Or.inl ⟨by rfl, fun w9 hw9 => by (obtain ⟨h91, h92⟩ := hw9; go_simp)⟩) hHeld ?_
        simp only [Act.put, List.getElem_toArray, List.getElem_cons_succ, List.getElem_cons_zero, List.setIfInBounds_toArray, List.set_cons_zero, List.set_cons_succ]
        refine wpAnyH_take (i := 5) (v := (.pointer (some ⟨P, 0, none⟩))) rfl (by kernel_rfl) (by kernel_rfl) (by kernel_rfl) (fun _ _ _ h => h) (Or.inl ⟨by rfl, fun w9 hw9 => by (obtain ⟨h91, h92⟩ := hw9; go_simp)⟩) hHeld ?_
        simp only [Act.put, List.getElem_toArray, List.getElem_cons_succ, List.getElem_cons_zero, List.setIfInBounds_toArray, List.set_cons_zero, List.set_cons_succ]
        refine wpAnyH_take (i := 6) (v := (.pointer (some ⟨P, 1, none⟩))) rfl (by kernel_rfl) (by kernel_rfl) (by kernel_rfl) (fun _ _ _ h => h) (Or.inl ⟨by rfl, fun w9 hw9 => by (obtain ⟨h91, h92⟩ := hw9; go_simp)⟩) hHeld ?_
        simp only [Act.put, List.getElem_toArray, List.getElem_cons_succ, List.getElem_cons_zero, List.setIfInBounds_toArray, List.set_cons_zero, List.set_cons_succ]
        refine wpAnyH_take (i := 7) (v := (.int .i64 p)) rfl (by kernel_rfl) (by kernel_rfl) (by kernel_rfl) (fun _ _ _ h => h) (Or.inl ⟨by rfl, fun w9 hw9 => by (obtain ⟨h91, h92⟩ := hw9; go_simp)⟩) hHeld ?_
        simp only [Act.put, List.getElem_toArray, List.getElem_cons_succ, List.getElem_cons_zero, List.setIfInBounds_toArray, List.set_cons_zero, List.set_cons_succ]
        refine wpAnyH_take (i := 8) (v := (.int .i64 ((p : Int) + 1))) rfl (by kernel_rfl) (by kernel_rfl) (by kernel_rfl) (fun _ _ _ h => h) (Or.inl ⟨by rfl, fun w9 hw9 => by (obtain ⟨h91, h92⟩ := hw9; go_simp)⟩) hHeld ?_
        simp only [Act.put, List.getElem_toArray, List.getElem_cons_succ, List.getElem_cons_zero, List.setIfInBounds_toArray, List.set_cons_zero, List.set_cons_succ]
        refine wpAnyH_take (i := 9) (v := (.pointer (some ⟨P, 0, none⟩))) rfl (by kernel_rfl) (by kernel_rfl) (by kernel_rfl) (fun _ _ _ h => h) (Or.inl ⟨by rfl, fun w9 hw9 => by (obtain ⟨h91, h92⟩ := hw9; go_simp)⟩) hHeld ?_
        simp only [Act.put, List.getElem_toArray, List.getElem_cons_succ, List.getElem_cons_zero, List.setIfInBounds_toArray, List.set_cons_zero, List.set_cons_succ]
        refine wpAnyH_take (i := 10) (v := (.pointer (some ⟨P, 0, none⟩))) rfl (by kernel_rfl) (by kernel_rfl) (by kernel_rfl) (fun _ _ _ h => h) (Or.inl ⟨by rfl, fun w9 hw9 => by (obtain ⟨h91, h92⟩ := hw9; go_simp)⟩) hHeld ?_
        simp only [Act.put, List.getElem_toArray, List.getElem_cons_succ, List.getElem_cons_zero, List.setIfInBounds_toArray, List.set_cons_zero, List.set_cons_succ]
        refine wpAnyH_take (i := 11) (v := (.pointer (some ⟨P, 1, none⟩))) rfl (by kernel_rfl) (by kernel_rfl) (by kernel_rfl) (fun _ _ _ h => h) (Or.inl ⟨by rfl, fun w9 hw9 => by (obtain ⟨h91, h92⟩ := hw9; go_simp)⟩) hHeld ?_
        simp only [Act.put, List.getElem_toArray, List.getElem_cons_succ, List.getElem_cons_zero, List.setIfInBounds_toArray, List.set_cons_zero, List.set_cons_succ]
        refine wpAnyH_take (i := 12) (v := (.int .i64 p)) rfl (by kernel_rfl) (by kernel_rfl) (by kernel_rfl) (fun _ _ _ h => h) (Or.inl ⟨by rfl, fun w9 hw9 => by (obtain ⟨h91, h92⟩ := hw9; go_simp)⟩) hHeld ?_
        simp only [Act.put, List.getElem_toArray, List.getElem_cons_succ, List.getElem_cons_zero, List.setIfInBounds_toArray, List.set_cons_zero, List.set_cons_succ]
        refine wpAnyH_take (i := 13) (v := (.int .i64 ((k : Int) + 1))) rfl (by kernel_rfl) (by kernel_rfl) (by kernel_rfl) (fun _ _ _ h => h) (Or.inl ⟨by rfl, fun w9 hw9 => by (obtain ⟨h91, h92⟩ := hw9; go_simp)⟩) hHeld ?_
        simp only [Act.put, List.getElem_toArray, List.getElem_cons_succ, List.getElem_cons_zero, List.setIfInBounds_toArray, List.set_cons_zero, List.set_cons_succ]
        refine wpAnyH_take (i := 14) (v := (.int .i64 ((p : Int) + ((k : Int) + 1)))) rfl (by kernel_rfl) (by kernel_rfl) (by kernel_rfl) (fun _ _ _ h => h) (Or.inl ⟨by rfl, fun w9 hw9 => by (obtain ⟨h91, h92⟩ := hw9; go_simp)⟩) hHeld ?_
        simp only [Act.put, List.getElem_toArray, List.getElem_cons_succ, List.getElem_cons_zero, List.setIfInBounds_toArray, List.set_cons_zero, List.set_cons_succ]
        refine wpAnyH_take (i := 15) (v := sliced a (p + 1) (p + (k + 1)) cp 1) rfl (by kernel_rfl) (by kernel_rfl) (by kernel_rfl) (fun _ _ _ h => h) (Or.inl ⟨by rfl, fun w9 hw9 => ?slice⟩) hHeld ?_
        case slice =>
          refine Eq.trans (exec_slLH slT_u8 (aa := a) (n := xs.length) (cap := cp) (k := (p : Int) + 1) (j := (p : Int) + ((k : Int) + 1)) rfl rfl rfl rfl hn0 hn3 hn4 w9) ?_
          rw [hn1, hn2]
        simp only [Act.put, List.getElem_toArray, List.getElem_cons_succ, List.getElem_cons_zero, List.setIfInBounds_toArray, List.set_cons_zero, List.set_cons_succ]
        refine wpAnyH_take (i := 16) (v := sliced a (p + 1) (p + (k + 1)) cp 1) rfl (by kernel_rfl) (by kernel_rfl) (by kernel_rfl) (fun _ _ _ h => h) (Or.inl ⟨by rfl, fun w9 hw9 => by go_simp⟩) hHeld ?_
        simp only [Act.put, List.getElem_toArray, List.getElem_cons_succ, List.getElem_cons_zero, List.setIfInBounds_toArray, List.set_cons_zero, List.set_cons_succ]
        refine wpAnyH_done (by kernel_rfl) ?_ _
        rw [show p + 1 + k = p + (k + 1) by omega] at hrow
        generalize sliced a (p + 1) (p + (k + 1)) cp 1 = sv at *
        go_wp2
        go_ret
        exact ⟨_, rfl, hrow.drew, hbw.drew⟩
end Go.Proofs.Ytbpjgmiedplidaa
