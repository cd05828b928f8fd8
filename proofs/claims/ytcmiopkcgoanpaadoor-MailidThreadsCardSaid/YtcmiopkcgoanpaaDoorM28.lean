/- The statement of layer 51 on threads, walked. (laid together by program out of single texts). -/
import Derived.Test.YtcmiopkcgoanpaaDoorM23
import Derived.Test.YtcmiopkcgoanpaaDoorM27
namespace Go.Proofs.YtcmiopkcgoanpaaDoor
open Go.RowKit
set_option maxHeartbeats 8000000
set_option maxRecDepth 100000
/-- What the loop that lays the program's names keeps. -/
def ThI (a : World) (la : List (Value × Value)) (La : List (List Int × List Int)) (kv iv : Value) (wr : World) : Prop :=
  ∃ c : Nat, iv = .int .i64 c ∧ c ≤ La.length ∧ Hid (Own2 a.heap.size 25 wr kv (la.take c)) ∧ Hid (∀ q ∈ La.take c, q.1.length ≤ 100 ∧ q.2.length ≤ 100) ∧ Below a.heap.size a wr
theorem Own2.drew2 {B : Nat} {E : TypeId} {w : World} {v : Value} {l : List (Value × Value)} (h : Own2 B E w v l) : Own2 B E w.drew v l := h.below ((Below.refl _ _).drew)
theorem MailidThreads_walk (v : Value) (l : List (Value × Value)) (L : List (List Int × List Int)) (x1 x2 : Value) (xs ys : List Int) (most : Int) (w : World) (_ : Tz w) (h : Row2 w v l) (e : IdL w l L) (gL : ∀ q ∈ L, Rg 0 256 q.1 ∧ Rg 0 256 q.2)
    (h1 : Row w x1 (ints .u8 xs)) (g1 : Rg 0 256 xs) (h2 : Row w x2 (ints .u8 ys)) (g2 : Rg 0 256 ys) (_hn : (Lit.int .i64 most).wf = true) :
    Calls Tryd.prog 5 #[v, .agg #[x1, x2], .int .i64 most] w fun e w' => e = .returned (.bool true) ∧ Below w.heap.size w w' := by
  have hB := below_alloc w (.cells #[x1, x2] 29)
  obtain ⟨a0, b0, off0, cp0, hv, _⟩ := id h
  have hll := e.1
  rw [hll] at hv
  subst hv
  by_cases hl : L.length ≤ 30
  case neg =>
    clear h hll
    go_enter Tryd.func5, Tryd.ntmps5
    go_wp2_with (go_at_call 6; refine (alive51_any _).mono ?_; rintro e w7 ⟨rfl, hb7⟩)
    go_ret
    exact ⟨rfl, below_trans hB hb7⟩
  have hx : x1.oneCell' = true ∧ x2.oneCell' = true := by
    obtain ⟨_, _, rfl⟩ := h1.formN0 (n := xs.length) (by rw [ints_length])
    obtain ⟨_, _, rfl⟩ := h2.formN0 (n := ys.length) (by rw [ints_length])
    exact ⟨rfl, rfl⟩
  obtain ⟨hc0, hc1⟩ := pair_new w x1 x2 29
  have hPl : w.heap.size < (w.alloc (.cells #[x1, x2] 29)).heap.size := by simp
  have H := Lib.hid h
  clear hll
  go_enter Tryd.func5, Tryd.ntmps5
  go_wp2_with fail
  have h' := h.below hB
  generalize w.alloc (.cells #[x1, x2] 29) = w2 at *
  have HK : Hid (∀ w', Below w2.heap.size w2 w' → w'.cell? ⟨w.heap.size, 0, none⟩ = some x1 ∧ w'.cell? ⟨w.heap.size, 1, none⟩ = some x2) := fun w' hb' => ⟨(hb'.cell (p := ⟨w.heap.size, 0, none⟩) hPl).trans hc0, (hb'.cell (p := ⟨w.heap.size, 1, none⟩) hPl).trans hc1⟩
  clear hc0 hc1
  have HL2 : Hid (Below w2.heap.size w2 ((w2.alloc (.cells #[x1, x2] 29)).drew) ∧ Row2 ((w2.alloc (.cells #[x1, x2] 29)).drew) (.slice (some ⟨w2.heap.size, 0, none⟩) 1 1) [(x1, x2)]) := ⟨(below_alloc w2 _).drew, (Row2.lit (x1, x2) hx).below (Below.refl _ _).drew⟩
  have HLE : Hid (([] ++ l ++ [(x1, x2)]).length = L.length + 1) := by show _ = _; rw [List.nil_append, List.length_append, e.1]; rfl
  have HLB : Hid (([] : List (Value × Value)).length + l.length ≤ 1000000000 ∧ ([] ++ l).length + [(x1, x2)].length ≤ 1000000000) := by refine ⟨?_, ?_⟩ <;> simp only [List.nil_append, List.length_nil, List.length_cons] <;> rw [e.1] <;> omega
  go_region_held3 (fun w' => w'.cell? ⟨w.heap.size, 0, none⟩ = some x1 ∧ w'.cell? ⟨w.heap.size, 1, none⟩ = some x2) (first | exact HK.out _ ((Below.refl w2.heap.size w2).drew) | exact HK.out _ (Below.refl _ _) | exact HK.out _ ((below_alloc w2 _).drew) | exact HK.out _ hb5 | exact HK.out _ (hb3.alloc hb3.size _) | exact HK.out _ hb3 | exact HK.out _ HL2.out.1 | go_keep) ((first | (refine step_app2z slT_rid w2.heap.size _ _ (by rfl) (by rfl) (by rfl) (by rfl) ho3 hl3 HLB.out.2 hb3.size ?_; intro t5 w5 ho5 hg5; have hb5 : Below w2.heap.size w2 w5 := below_own2 hb3 ho3 hg5 hb3.size (Nat.le_refl _); obtain ⟨g5, cp5, rfl, hgB5, hgs5⟩ := ho5.formN (n := L.length + 1) HLE.out (by omega)) | (refine step_app2z slT_rid w2.heap.size _ _ (by rfl) (by rfl) (by rfl) (by rfl) (ho3.alloc _) (Row2.lit (x1, x2) hx) HLB.out.2 (by have := hb3.size; simp; omega) ?_; intro t5 w5 ho5 hg5; have hb5 : Below w2.heap.size w2 w5 := below_own2 (hb3.alloc hb3.size _) (ho3.alloc _) hg5 (by have := hb3.size; simp; omega) (Nat.le_refl _); obtain ⟨g5, cp5, rfl, hgB5, hgs5⟩ := ho5.formN (n := L.length + 1) HLE.out (by omega)) | (refine step_app2z slT_rid w2.heap.size _ _ (by rfl) (by rfl) (by rfl) (by rfl) (Own2.nil _ _ _) (h'.below ((Below.refl w2.heap.size w2).drew)) HLB.out.1 (Nat.le_refl _) ?_; intro t3 w3 ho3 hg3; have hb3 : Below w2.heap.size w2 w3 := below_own2 ((Below.refl w2.heap.size w2).drew) (Own2.nil w2.heap.size 29 w2.drew) hg3 (Nat.le_refl _) (Nat.le_refl _)) | (refine step_app2z slT_rid w2.heap.size _ _ (by rfl) (by rfl) (by rfl) (by rfl) (Own2.nil _ _ _) (h'.below HL2.out.1) HLB.out.1 HL2.out.1.size ?_; intro t3 w3 ho3 hg3; have hb3' := below_own2 (Below.refl _ _) (Own2.nil ((w2.alloc (.cells #[x1, x2] 29)).drew).heap.size 29 ((w2.alloc (.cells #[x1, x2] 29)).drew)) hg3 (Nat.le_refl _) (Nat.le_refl _); have hl3 := HL2.out.2.below hb3'; have hb3 : Below w2.heap.size w2 w3 := below_trans HL2.out.1 hb3')))
  all_goals
    have hB5 := below_trans hB hb5
    have hk5 := HK.out _ hb5
    have hp5 : w.heap.size < w5.heap.size := Nat.lt_of_lt_of_le hPl hb5.size
    have hia : IdL w5 (l ++ [(x1, x2)]) (L ++ [(xs, ys)]) := (IdL.snoc e (p := (x1, x2)) (q := (xs, ys)) h1 h2).below hB5
    have hga : ∀ q ∈ L ++ [(xs, ys)], Rg 0 256 q.1 ∧ Rg 0 256 q.2 := fun q hq => by
      rcases List.mem_append.1 hq with hq | hq
      · exact gL q hq
      · simp at hq; subst hq; exact ⟨g1, g2⟩
    have hla : (L ++ [(xs, ys)]).length = L.length + 1 := by simp
    have hlt : (l ++ [(x1, x2)]).take L.length = l := by rw [← e.1]; simp
    rw [List.nil_append] at ho5
    generalize hle : l ++ [(x1, x2)] = la at *
    generalize hLe : L ++ [(xs, ys)] = La at *
    have HLE2 := Lib.hid hLe; have HLT := Lib.hid hlt
    clear hLe hle hlt
    have HIA := Lib.hid hia; have HGA := Lib.hid hga; have HLA := Lib.hid hla; have HO5 := Lib.hid ho5
    have HE := Lib.hid e; have HG := Lib.hid gL
    have H1 := Lib.hid h1; have H2 := Lib.hid h2; have HG1 := Lib.hid g1; have HG2 := Lib.hid g2
    clear hia hga hla ho5 hg5 hg3 HL2 HLE HLB HK e h1 h2 h' h gL g1 g2 hPl
    go_wp2_with fail
    go_loopw [7, 23] (fun kv iv wr => ThI w5 la La kv iv wr) (fun _ iv _ => L.length + 1 - (intOf iv).toNat)
    case atStart => exact ⟨0, rfl, Nat.zero_le _, Own2.nil _ _ _, (fun q hq => by simp at hq : ∀ q ∈ La.take 0, q.1.length ≤ 100 ∧ q.2.length ≤ 100), Below.refl _ _⟩
    case round =>
      obtain ⟨c, rfl, hc, HO, HS, hb⟩ := hrel
      rw [HLA.out] at hc
      by_cases hlt : c < L.length + 1
      · obtain ⟨q, hq⟩ : ∃ q, La[c]? = some q := ⟨_, List.getElem?_eq_getElem (by rw [HLA.out]; exact hlt)⟩
        obtain ⟨p, hp⟩ : ∃ p, la[c]? = some p := ⟨_, List.getElem?_eq_getElem (by rw [HIA.out.1, HLA.out]; exact hlt)⟩
        obtain ⟨r1, r2⟩ := HIA.out.2 c p q hp hq
        have c1 := cell_kept (HO5.out.cellAt (flat2_get hp).1) hb
        have c2 := cell_kept (HO5.out.cellAt (flat2_get hp).2) hb
        obtain ⟨z1, z2⟩ := p
        simp only at r1 r2 c1 c2
        obtain ⟨b1, d1, rfl⟩ := (id r1).formN0 (n := q.1.length) (by rw [ints_length])
        obtain ⟨b2, d2, rfl⟩ := (id r2).formN0 (n := q.2.length) (by rw [ints_length])
        have HT : Hid (la.take (c + 1) = la.take c ++ [(((.slice b1 q.1.length d1) : Value), ((.slice b2 q.2.length d2) : Value))]) := by show _ = _; rw [List.take_add_one, hp]; rfl
        have HTL : Hid ((la.take c).length ≤ 100) := by show _ ≤ _; rw [List.length_take]; omega
        have hBa := hb.alloc hb.size (.cells #[(.slice b1 q.1.length d1), (.slice b2 q.2.length d2)] 29)
        have HOa := Lib.hid (HO.out.alloc (.cells #[(.slice b1 q.1.length d1), (.slice b2 q.2.length d2)] 29))
        obtain ⟨k0, k1⟩ := pair_new wr (.slice b1 q.1.length d1) (.slice b2 q.2.length d2) 29
        have HQ := Lib.hid hq
        clear r1 r2 hq hp
        by_cases hq1 : q.1.length ≤ 100
        case' pos => by_cases hq2 : q.2.length ≤ 100
        case neg =>
          go_wp2_with (go_at_call 6; refine (alive51_any _).mono ?_; rintro e w7 ⟨rfl, hb7⟩)
          go_ret
          exact ⟨rfl, below_trans hB5 (below_trans hBa hb7)⟩
        case neg =>
          go_wp2_with (go_at_call 6; refine (alive51_any _).mono ?_; rintro e w7 ⟨rfl, hb7⟩)
          go_ret
          exact ⟨rfl, below_trans hB5 (below_trans hBa hb7)⟩
        have HLIT : Hid (Row2 ((wr.alloc (.cells #[(.slice b1 q.1.length d1), (.slice b2 q.2.length d2)] 29)).alloc (.cells #[(.slice b1 q.1.length d1), (.slice b2 q.2.length d2)] 25)) (.slice (some ⟨wr.heap.size + 1, 0, none⟩) 1 1) [(((.slice b1 q.1.length d1) : Value), ((.slice b2 q.2.length d2) : Value))]) := by
          have h9 := Row2.lit (w := wr.alloc (.cells #[(.slice b1 q.1.length d1), (.slice b2 q.2.length d2)] 29)) (E := 25) ((.slice b1 q.1.length d1), (.slice b2 q.2.length d2)) ⟨rfl, rfl⟩
          have e9 : (wr.alloc (.cells #[(.slice b1 q.1.length d1), (.slice b2 q.2.length d2)] 29)).heap.size = wr.heap.size + 1 := by simp
          rw [e9] at h9
          exact h9
        go_wp2_with (at_builtin; refine wpList_app2r slT_id w5.heap.size _ _ rfl rfl rfl rfl (HOa.out.alloc _) HLIT.out (by simp) (by have := HTL.out; simp only [List.length_cons, List.length_nil]; omega) (by have := hBa.size; simp at this ⊢; omega) ?_; intro t7 w7 ho7 hg7; have hb7 : Below w5.heap.size w5 w7 := below_own2 (hBa.alloc hBa.size _) (HOa.out.alloc _) hg7 (by have := hBa.size; simp at this ⊢; omega) (Nat.le_refl _))
        go_roundw
        case rel => exact ⟨c + 1, by go_num, (by rw [HLA.out]; omega), (by show Own2 _ _ _ _ _; rw [HT.out]; exact ho7), (by show ∀ q ∈ La.take (c + 1), _; intro z hz; rw [List.take_add_one, HQ.out] at hz; rcases List.mem_append.1 hz with h9 | h9; exact HS.out z h9; simp at h9; subst h9; exact ⟨hq1, hq2⟩), hb7⟩
        case measure => simp [intOf]; omega
      · obtain rfl : c = L.length + 1 := by omega
        have hO := HO.out
        have hS := HS.out
        rw [List.take_of_length_le (by rw [HIA.out.1, HLA.out]; exact Nat.le_refl _)] at hO
        rw [List.take_of_length_le (by rw [HLA.out]; exact Nat.le_refl _)] at hS
        obtain ⟨g6, c6, rfl, hg6, hg62⟩ := hO.formN (n := L.length + 1) (by rw [HIA.out.1, HLA.out]) (by omega)
        have HO9 := Lib.hid hO; have HS9 := Lib.hid hS
        clear hO hS HO HS
        have hm2 : (xs, ys) ∈ La := by rw [← HLE2.out]; simp
        have hx100 := HS9.out _ hm2
        simp only at hx100
        have HIR : Hid (∀ q ∈ La, IdR q) := fun q hq => ⟨(HGA.out q hq).1, (HGA.out q hq).2, by have := HS9.out q hq; omega, by have := HS9.out q hq; omega⟩
        have HIL : Hid (∀ q ∈ L, IdR q) := fun q hq => HIR.out q (by rw [← HLE2.out]; exact List.mem_append_left _ hq)
        have HIX : Hid (IdR (xs, ys)) := HIR.out _ hm2
        have hBr := below_trans hB5 hb
        have HKr : Hid (∀ w', Below wr.heap.size wr w' → w'.cell? ⟨w.heap.size, 0, none⟩ = some x1 ∧ w'.cell? ⟨w.heap.size, 1, none⟩ = some x2) := fun w' h9 => ⟨cell_kept (cell_kept hk5.1 hb) h9, cell_kept (cell_kept hk5.2 hb) h9⟩
        have hcap := HO9.out.cap
        have hcut := HO9.out.cut L.length (by rw [HIA.out.1, HLA.out]; omega)
        rw [HLT.out] at hcut
        have HTH := Lib.hid (thread_any _ l L x1 x2 (xs, ys) most wr.drew (hcut.drew2.row) (HE.out.below hBr.drew) (H1.out.below hBr.drew) (H2.out.below hBr.drew) HIX.out HIL.out (by omega) hx)
        have HRT := Lib.hid (fun w' h9 => rThread_any (.slice a0 L.length cp0) l L x1 x2 (xs, ys) most w' (H.out.below h9) (HE.out.below h9) (H1.out.below h9) (H2.out.below h9) HIX.out HIL.out (by omega) hx)
        have HTM : Hid (∀ q ∈ lastN most (thR (L ++ [(xs, ys)])), IdR q) := fun q hq => by
          have h9 := thR_sub _ _ (List.mem_of_mem_drop hq)
          rw [HLE2.out] at h9
          exact HIR.out q h9
        have HTD : Hid ((lastN most (thR (L ++ [(xs, ys)]))).Pairwise (fun a b => samM a b = false)) := (thR_distinct _).sublist (List.drop_sublist _ _)
        have HTN : Hid ((lastN most (thR (L ++ [(xs, ys)]))).length ≤ 1000) := by
          show _ ≤ _
          have h9 := thR_len (L ++ [(xs, ys)])
          simp only [List.length_append, List.length_cons, List.length_nil] at h9
          rw [lastN, List.length_drop]
          omega
        have HTL : Hid (0 < most → ∃ m, lastN most (thR (L ++ [(xs, ys)])) = m ++ [(xs, ys)]) := fun hm => by
          rw [thR_snoc, stepT]
          exact lastN_last most hm _ _
        generalize lastN most (thR (L ++ [(xs, ys)])) = T at *
        have hl0 : (0 : Int) ≤ L.length := Int.natCast_nonneg _
        have hl1 : (L.length : Int) ≤ c6 := by omega
        have hc60 : ¬ c6 = 0 := by omega
        clear hm2 hx100 hcut hk5 hcap HO9 HS9 HO5 HLE2 HLT HIA HGA HIR HIL HG hB hb hb5 hb3 ho3
        go_wp2_with fail
        refine wp_region_held_drew (S := fun w' => w'.cell? ⟨w.heap.size, 0, none⟩ = some x1 ∧ w'.cell? ⟨w.heap.size, 1, none⟩ = some x2) (by kernel_rfl) (HKr.out _ ((Below.refl wr.heap.size wr).drew)) (fun hHeld => ?_)
        refine wpAnyH_take (i := 0) (v := (.slice (some ⟨g6, 0, none⟩) (L.length + 1) c6)) rfl (by kernel_rfl) (by kernel_rfl) (by kernel_rfl) (fun _ _ _ h => h) (Or.inl ⟨by rfl, fun _ _ => by go_simp⟩) hHeld ?_
        simp only [Act.put, List.getElem_toArray, List.getElem_cons_zero, List.setIfInBounds_toArray, List.set_cons_zero, List.set_cons_succ]
        refine wpAnyH_take (i := 1) (v := (.slice a0 L.length cp0)) rfl (by kernel_rfl) (by kernel_rfl) (by kernel_rfl) (fun _ _ _ h => h) (Or.inl ⟨by rfl, fun _ _ => by go_simp⟩) hHeld ?_
        simp only [Act.put, List.getElem_toArray, List.getElem_cons_succ, List.getElem_cons_zero, List.setIfInBounds_toArray, List.set_cons_zero, List.set_cons_succ]
        refine wpAnyH_take (i := 2) (v := (.int .i64 L.length)) rfl (by kernel_rfl) (by kernel_rfl) (by kernel_rfl) (fun _ _ _ h => h) (Or.inl ⟨by rfl, fun _ _ => by go_simp⟩) hHeld ?_
        simp only [Act.put, List.getElem_toArray, List.getElem_cons_succ, List.getElem_cons_zero, List.setIfInBounds_toArray, List.set_cons_zero, List.set_cons_succ]
        refine wpAnyH_take (i := 3) (v := (.slice (some ⟨g6, 0, none⟩) L.length c6)) rfl (by kernel_rfl) (by kernel_rfl) (by kernel_rfl) (fun _ _ _ h => h) (Or.inl ⟨by rfl, fun _ _ => by go_simp⟩) hHeld ?_
        simp only [Act.put, List.getElem_toArray, List.getElem_cons_succ, List.getElem_cons_zero, List.setIfInBounds_toArray, List.set_cons_zero, List.set_cons_succ]
        refine wpAnyH_take (i := 4) (v := (.agg #[x1, x2])) rfl (by kernel_rfl) (by kernel_rfl) (by kernel_rfl) (fun _ _ _ h => h) (Or.inl ⟨by rfl, fun _ hS => by obtain ⟨s0, s1⟩ := hS; go_simp⟩) hHeld ?_
        simp only [Act.put, List.getElem_toArray, List.getElem_cons_succ, List.getElem_cons_zero, List.setIfInBounds_toArray, List.set_cons_zero, List.set_cons_succ]
        refine wpAnyH_take (i := 5) (v := (.int .i64 most)) rfl (by kernel_rfl) (by kernel_rfl) (by kernel_rfl) (fun _ _ _ h => h) (Or.inl ⟨by rfl, fun _ _ => by go_simp⟩) hHeld ?_
        simp only [Act.put, List.getElem_toArray, List.getElem_cons_succ, List.getElem_cons_zero, List.setIfInBounds_toArray, List.set_cons_zero, List.set_cons_succ]
        refine wpAnyH_ready (rs := [6]) (by kernel_rfl) (by simp) ?_
        refine AllReadyH.cons rfl (fun K hK => ?_) AllReadyH.nil
        simp only [List.getElem_toArray, List.getElem_cons_succ, List.getElem_cons_zero]
        rw [if_pos (by rfl)]
        go_simp
        (go_at_call 18; refine (HTH.out).mono ?_; rintro e w10 ⟨t10, l10, rfl, ho10, hi10, hb10'⟩; have hb10 : Below wr.heap.size wr w10 := ((Below.refl wr.heap.size wr).drew).trans hb10')
        refine hK.out _ _ (HKr.out _ hb10) (fun hHeld => ?_)
        clear hK K
        refine wpAnyH_take (i := 7) (v := t10) rfl (by kernel_rfl) (by kernel_rfl) (by kernel_rfl) (fun _ _ _ h => h) (Or.inl ⟨by rfl, fun _ _ => by go_simp⟩) hHeld ?_
        simp only [Act.put, List.getElem_toArray, List.getElem_cons_succ, List.getElem_cons_zero, List.setIfInBounds_toArray, List.set_cons_zero, List.set_cons_succ]
        refine wpAnyH_done (by kernel_rfl) ?_ _
        have hBr10 := below_trans hBr hb10
        have HKS : Hid (∀ w', Below w10.heap.size w10 w' → w'.cell? ⟨w.heap.size, 0, none⟩ = some x1 ∧ w'.cell? ⟨w.heap.size, 1, none⟩ = some x2) := fun w' h9 => ⟨cell_kept hHeld.1 h9, cell_kept hHeld.2 h9⟩
        have hr10 := ho10.row
        have HR10 := Lib.hid hr10
        obtain ⟨a10, b10, off10, c10, rfl, hc10, hm10, ha10, _, hcell10⟩ := hr10
        rw [hi10.1] at *
        have HC10 := Lib.hid hcell10; have HA10 := Lib.hid ha10; have HI10 := Lib.hid hi10
        clear hcell10 ha10 hi10 ho10 hm10 hc10 hb10' hb10 hHeld
        have HALL : Hid (∀ v2 l2 w', Below w10.heap.size w10 w' → Row2 w' v2 l2 → IdL w' l2 T → Calls Tryd.prog 12 #[.slice a10 T.length c10, v2] w' fun e w'' => e = .returned (.bool true) ∧ Below w'.heap.size w' w'') := fun v2 l2 w' h9 hr hi => all_any _ _ l10 l2 T w' (HR10.out.below h9) hr (HI10.out.below h9) hi (fun q hq => ⟨(HTM.out q hq).2.2.1, (HTM.out q hq).2.2.2⟩) (by have := HTN.out; omega)
        by_cases hmo : 0 < most
        case' pos =>
          obtain ⟨m, hTm⟩ := HTL.out hmo
          obtain ⟨K, HKL⟩ : ∃ K, Hid (T.length = K + 1) := ⟨m.length, by show _ = _; rw [hTm]; simp⟩
          have hTX : T[K]? = some (xs, ys) := by
            have h9 := HKL.out
            rw [hTm] at h9 ⊢
            simp at h9
            rw [← h9]
            simp
          obtain ⟨u, hu⟩ : ∃ u, l10[K]? = some u := ⟨_, List.getElem?_eq_getElem (by rw [HI10.out.1, HKL.out]; omega)⟩
          obtain ⟨r1, r2⟩ := HI10.out.2 K u (xs, ys) hu hTX
          have ha10 : a10 = some ⟨b10, off10, none⟩ := by
            rcases HA10.out with h9 | ⟨h9, _⟩
            · exact h9
            · rw [h9] at hu; simp at hu
          subst ha10
          have d1 := HC10.out _ _ (flat2_get hu).1
          have d2 := HC10.out _ _ (flat2_get hu).2
          rw [← Nat.add_assoc] at d2
          obtain ⟨u1, u2⟩ := u
          simp only at r1 r2 d1 d2
          have HR1 := Lib.hid r1; have HR2 := Lib.hid r2
          have HKU : Hid (∀ w', Below w10.heap.size w10 w' → w'.cell? ⟨w.heap.size, 0, none⟩ = some x1 ∧ w'.cell? ⟨w.heap.size, 1, none⟩ = some x2 ∧ w'.cell? ⟨b10, off10 + K * 2, none⟩ = some u1 ∧ w'.cell? ⟨b10, off10 + K * 2 + 1, none⟩ = some u2) := fun w' h9 => ⟨(HKS.out w' h9).1, (HKS.out w' h9).2, cell_kept d1 h9, cell_kept d2 h9⟩
          have HSA : Hid (∀ w', Below w10.heap.size w10 w' → Calls Tryd.prog 11 #[.agg #[u1, u2], .agg #[x1, x2]] w' fun e w'' => e = .returned (.bool true) ∧ Below w'.heap.size w' w'') := fun w' h9 => by
            have h8 := same_any u1 u2 x1 x2 xs ys xs ys w' (HR1.out.below h9) (HR2.out.below h9) (H1.out.below (below_trans hBr10 h9)) (H2.out.below (below_trans hBr10 h9)) HIX.out.2.2.1 HIX.out.2.2.2 HIX.out.2.2.1 HIX.out.2.2.2
            rw [decide_eq_true rfl, decide_eq_true rfl] at h8
            exact h8
          clear hTm hTX hu r1 r2 d1 d2
          have hK0 : (0 : Int) ≤ K := Int.natCast_nonneg _
          have hK1 : (K : Int) ≤ 1000 := by have := HTN.out; rw [HKL.out] at this; omega
          have hKw : IntKind.i64.wrap (K : Int) = K := IntWalk.i64_in _ (by omega)
          have hK3 : (K : Int) < (K : Int) + 1 := by omega
          have hK2 : ((K : Int) + 1 == 0) = false := beq_false_of_ne (by omega)
          have HALK : Hid (∀ v2 l2 w', Below w10.heap.size w10 w' → Row2 w' v2 l2 → IdL w' l2 T → Calls Tryd.prog 12 #[.slice (some ⟨b10, off10, none⟩) (K + 1) c10, v2] w' fun e w'' => e = .returned (.bool true) ∧ Below w'.heap.size w' w'') := by have := HALL.out; rw [HKL.out] at this; exact this
          have hTK : (T.length : Int) = (K : Int) + 1 := by rw [HKL.out]; omega
          rw [HKL.out]
          go_wp2_with fail
          refine wp_region_held_drew (S := fun w' => w'.cell? ⟨w.heap.size, 0, none⟩ = some x1 ∧ w'.cell? ⟨w.heap.size, 1, none⟩ = some x2 ∧ w'.cell? ⟨b10, off10 + K * 2, none⟩ = some u1 ∧ w'.cell? ⟨b10, off10 + K * 2 + 1, none⟩ = some u2) (by kernel_rfl) (HKU.out _ ((Below.refl w10.heap.size w10).drew)) (fun hHeld => ?_)
          refine wpAnyH_take (i := 0) (v := (.slice (some ⟨b10, off10, none⟩) (K + 1) c10)) rfl (by kernel_rfl) (by kernel_rfl) (by kernel_rfl) (fun _ _ _ h => h) (Or.inl ⟨by rfl, fun _ _ => by go_simp⟩) hHeld ?_
          simp only [Act.put, List.getElem_toArray, List.getElem_cons_zero, List.setIfInBounds_toArray, List.set_cons_zero, List.set_cons_succ]
          refine wpAnyH_take (i := 1) (v := (.slice a0 L.length cp0)) rfl (by kernel_rfl) (by kernel_rfl) (by kernel_rfl) (fun _ _ _ h => h) (Or.inl ⟨by rfl, fun _ _ => by go_simp⟩) hHeld ?_
          simp only [Act.put, List.getElem_toArray, List.getElem_cons_succ, List.getElem_cons_zero, List.setIfInBounds_toArray, List.set_cons_zero, List.set_cons_succ]
          refine wpAnyH_take (i := 2) (v := (.agg #[x1, x2])) rfl (by kernel_rfl) (by kernel_rfl) (by kernel_rfl) (fun _ _ _ h => h) (Or.inl ⟨by rfl, fun _ hS => by obtain ⟨s0, s1, s2, s3⟩ := hS; go_simp⟩) hHeld ?_
          simp only [Act.put, List.getElem_toArray, List.getElem_cons_succ, List.getElem_cons_zero, List.setIfInBounds_toArray, List.set_cons_zero, List.set_cons_succ]
          refine wpAnyH_take (i := 3) (v := (.int .i64 most)) rfl (by kernel_rfl) (by kernel_rfl) (by kernel_rfl) (fun _ _ _ h => h) (Or.inl ⟨by rfl, fun _ _ => by go_simp⟩) hHeld ?_
          simp only [Act.put, List.getElem_toArray, List.getElem_cons_succ, List.getElem_cons_zero, List.setIfInBounds_toArray, List.set_cons_zero, List.set_cons_succ]
          refine wpAnyH_ready (rs := [4]) (by kernel_rfl) (by simp) ?_
          refine AllReadyH.cons rfl (fun K hK => ?_) AllReadyH.nil
          simp only [List.getElem_toArray, List.getElem_cons_succ, List.getElem_cons_zero]
          rw [if_pos (by rfl)]
          go_simp
          (go_at_call 19; refine (HRT.out _ hBr10.drew).mono ?_; rintro e w11 ⟨t11, l11, rfl, r11, il11, hb11'⟩; have hb11 : Below w10.heap.size w10 w11 := ((Below.refl w10.heap.size w10).drew).trans hb11')
          refine hK.out _ _ (HKU.out _ hb11) (fun hHeld => ?_)
          clear hK K
          refine wpAnyH_ready (rs := [5]) (by kernel_rfl) (by simp) ?_
          refine AllReadyH.cons rfl (fun K hK => ?_) AllReadyH.nil
          simp only [List.getElem_toArray, List.getElem_cons_succ, List.getElem_cons_zero]
          rw [if_pos (by rfl)]
          go_simp
          (go_at_call 12; refine (HALK.out _ _ _ hb11 r11 il11).mono ?_; rintro e w12 ⟨rfl, hb12'⟩; have hb12 : Below w10.heap.size w10 w12 := below_trans hb11 hb12')
          refine hK.out _ _ (HKU.out _ hb12) (fun hHeld => ?_)
          clear hK K
          refine wpAnyH_take (i := 6) (v := (.bool false)) rfl (by kernel_rfl) (by kernel_rfl) (by kernel_rfl) (fun _ _ _ h => h) (Or.inl ⟨by rfl, fun _ _ => by go_simp⟩) hHeld ?_
          simp only [Act.put, List.getElem_toArray, List.getElem_cons_succ, List.getElem_cons_zero, List.setIfInBounds_toArray, List.set_cons_zero, List.set_cons_succ]
          refine wpAnyH_take (i := 7) (v := (.bool false)) rfl (by kernel_rfl) (by kernel_rfl) (by kernel_rfl) (fun _ _ _ h => h) (Or.inl ⟨by rfl, fun _ _ => by go_simp⟩) hHeld ?_
          simp only [Act.put, List.getElem_toArray, List.getElem_cons_succ, List.getElem_cons_zero, List.setIfInBounds_toArray, List.set_cons_zero, List.set_cons_succ]
          refine wpAnyH_take (i := 8) (v := (.int .i64 most)) rfl (by kernel_rfl) (by kernel_rfl) (by kernel_rfl) (fun _ _ _ h => h) (Or.inl ⟨by rfl, fun _ _ => by go_simp⟩) hHeld ?_
          simp only [Act.put, List.getElem_toArray, List.getElem_cons_succ, List.getElem_cons_zero, List.setIfInBounds_toArray, List.set_cons_zero, List.set_cons_succ]
          refine wpAnyH_take (i := 9) (v := (.bool true)) rfl (by kernel_rfl) (by kernel_rfl) (by kernel_rfl) (fun _ _ _ h => h) (Or.inl ⟨by rfl, fun _ _ => by go_simp⟩) hHeld ?_
          simp only [Act.put, List.getElem_toArray, List.getElem_cons_succ, List.getElem_cons_zero, List.setIfInBounds_toArray, List.set_cons_zero, List.set_cons_succ]
          refine wpAnyH_take (i := 10) (v := (.bool true)) rfl (by kernel_rfl) (by kernel_rfl) (by kernel_rfl) (fun _ _ _ h => h) (Or.inl ⟨by rfl, fun _ _ => by go_simp⟩) hHeld ?_
          simp only [Act.put, List.getElem_toArray, List.getElem_cons_succ, List.getElem_cons_zero, List.setIfInBounds_toArray, List.set_cons_zero, List.set_cons_succ]
          refine wpAnyH_take (i := 11) (v := (.slice (some ⟨b10, off10, none⟩) (K + 1) c10)) rfl (by kernel_rfl) (by kernel_rfl) (by kernel_rfl) (fun _ _ _ h => h) (Or.inl ⟨by rfl, fun _ _ => by go_simp⟩) hHeld ?_
          simp only [Act.put, List.getElem_toArray, List.getElem_cons_succ, List.getElem_cons_zero, List.setIfInBounds_toArray, List.set_cons_zero, List.set_cons_succ]
          refine wpAnyH_take (i := 12) (v := (.int .i64 ((K : Int) + 1))) rfl (by kernel_rfl) (by kernel_rfl) (by kernel_rfl) (fun _ _ _ h => h) (Or.inl ⟨by rfl, fun _ _ => by go_simp⟩) hHeld ?_
          simp only [Act.put, List.getElem_toArray, List.getElem_cons_succ, List.getElem_cons_zero, List.setIfInBounds_toArray, List.set_cons_zero, List.set_cons_succ]
          refine wpAnyH_take (i := 13) (v := (.bool false)) rfl (by kernel_rfl) (by kernel_rfl) (by kernel_rfl) (fun _ _ _ h => h) (Or.inl ⟨by rfl, fun _ _ => by go_simp⟩) hHeld ?_
          simp only [Act.put, List.getElem_toArray, List.getElem_cons_succ, List.getElem_cons_zero, List.setIfInBounds_toArray, List.set_cons_zero, List.set_cons_succ]
          refine wpAnyH_take (i := 14) (v := (.bool false)) rfl (by kernel_rfl) (by kernel_rfl) (by kernel_rfl) (fun _ _ _ h => h) (Or.inl ⟨by rfl, fun _ _ => by go_simp⟩) hHeld ?_
          simp only [Act.put, List.getElem_toArray, List.getElem_cons_succ, List.getElem_cons_zero, List.setIfInBounds_toArray, List.set_cons_zero, List.set_cons_succ]
          refine wpAnyH_take (i := 15) (v := (.slice (some ⟨b10, off10, none⟩) (K + 1) c10)) rfl (by kernel_rfl) (by kernel_rfl) (by kernel_rfl) (fun _ _ _ h => h) (Or.inl ⟨by rfl, fun _ _ => by go_simp⟩) hHeld ?_
          simp only [Act.put, List.getElem_toArray, List.getElem_cons_succ, List.getElem_cons_zero, List.setIfInBounds_toArray, List.set_cons_zero, List.set_cons_succ]
          refine wpAnyH_take (i := 16) (v := (.slice (some ⟨b10, off10, none⟩) (K + 1) c10)) rfl (by kernel_rfl) (by kernel_rfl) (by kernel_rfl) (fun _ _ _ h => h) (Or.inl ⟨by rfl, fun _ _ => by go_simp⟩) hHeld ?_
          simp only [Act.put, List.getElem_toArray, List.getElem_cons_succ, List.getElem_cons_zero, List.setIfInBounds_toArray, List.set_cons_zero, List.set_cons_succ]
          refine wpAnyH_take (i := 17) (v := (.int .i64 ((K : Int) + 1))) rfl (by kernel_rfl) (by kernel_rfl) (by kernel_rfl) (fun _ _ _ h => h) (Or.inl ⟨by rfl, fun _ _ => by go_simp⟩) hHeld ?_
          simp only [Act.put, List.getElem_toArray, List.getElem_cons_succ, List.getElem_cons_zero, List.setIfInBounds_toArray, List.set_cons_zero, List.set_cons_succ]
          refine wpAnyH_take (i := 18) (v := (.int .i64 K)) rfl (by kernel_rfl) (by kernel_rfl) (by kernel_rfl) (fun _ _ _ h => h) (Or.inl ⟨by rfl, fun _ _ => by go_simp⟩) hHeld ?_
          simp only [Act.put, List.getElem_toArray, List.getElem_cons_succ, List.getElem_cons_zero, List.setIfInBounds_toArray, List.set_cons_zero, List.set_cons_succ]
          refine wpAnyH_take (i := 19) (v := (.pointer (some ⟨b10, off10 + K * 2, none⟩))) rfl (by kernel_rfl) (by kernel_rfl) (by kernel_rfl) (fun _ _ _ h => h) (Or.inl ⟨by rfl, fun _ _ => by go_simp⟩) hHeld ?_
          simp only [Act.put, List.getElem_toArray, List.getElem_cons_succ, List.getElem_cons_zero, List.setIfInBounds_toArray, List.set_cons_zero, List.set_cons_succ]
          refine wpAnyH_take (i := 20) (v := (.agg #[u1, u2])) rfl (by kernel_rfl) (by kernel_rfl) (by kernel_rfl) (fun _ _ _ h => h) (Or.inl ⟨by rfl, fun _ hS => by obtain ⟨s0, s1, s2, s3⟩ := hS; go_simp⟩) hHeld ?_
          simp only [Act.put, List.getElem_toArray, List.getElem_cons_succ, List.getElem_cons_zero, List.setIfInBounds_toArray, List.set_cons_zero, List.set_cons_succ]
          refine wpAnyH_take (i := 21) (v := (.agg #[x1, x2])) rfl (by kernel_rfl) (by kernel_rfl) (by kernel_rfl) (fun _ _ _ h => h) (Or.inl ⟨by rfl, fun _ hS => by obtain ⟨s0, s1, s2, s3⟩ := hS; go_simp⟩) hHeld ?_
          simp only [Act.put, List.getElem_toArray, List.getElem_cons_succ, List.getElem_cons_zero, List.setIfInBounds_toArray, List.set_cons_zero, List.set_cons_succ]
          refine wpAnyH_ready (rs := [22]) (by kernel_rfl) (by simp) ?_
          refine AllReadyH.cons rfl (fun K hK => ?_) AllReadyH.nil
          simp only [List.getElem_toArray, List.getElem_cons_succ, List.getElem_cons_zero]
          rw [if_pos (by rfl)]
          go_simp
          (go_at_call 11; refine (HSA.out _ hb12).mono ?_; rintro e w13 ⟨rfl, hb13'⟩; have hb13 : Below w10.heap.size w10 w13 := below_trans hb12 hb13')
          refine hK.out _ _ (HKU.out _ hb13) (fun hHeld => ?_)
          clear hK K
          refine wpAnyH_take (i := 23) (v := (.bool false)) rfl (by kernel_rfl) (by kernel_rfl) (by kernel_rfl) (fun _ _ _ h => h) (Or.inl ⟨by rfl, fun _ _ => by go_simp⟩) hHeld ?_
          simp only [Act.put, List.getElem_toArray, List.getElem_cons_succ, List.getElem_cons_zero, List.setIfInBounds_toArray, List.set_cons_zero, List.set_cons_succ]
          refine wpAnyH_take (i := 24) (v := (.bool false)) rfl (by kernel_rfl) (by kernel_rfl) (by kernel_rfl) (fun _ _ _ h => h) (Or.inl ⟨by rfl, fun _ _ => by go_simp⟩) hHeld ?_
          simp only [Act.put, List.getElem_toArray, List.getElem_cons_succ, List.getElem_cons_zero, List.setIfInBounds_toArray, List.set_cons_zero, List.set_cons_succ]
          refine wpAnyH_take (i := 25) (v := (.bool false)) rfl (by kernel_rfl) (by kernel_rfl) (by kernel_rfl) (fun _ _ _ h => h) (Or.inl ⟨by rfl, fun _ _ => by go_simp⟩) hHeld ?_
          simp only [Act.put, List.getElem_toArray, List.getElem_cons_succ, List.getElem_cons_zero, List.setIfInBounds_toArray, List.set_cons_zero, List.set_cons_succ]
          refine wpAnyH_take (i := 26) (v := (.bool false)) rfl (by kernel_rfl) (by kernel_rfl) (by kernel_rfl) (fun _ _ _ h => h) (Or.inl ⟨by rfl, fun _ _ => by go_simp⟩) hHeld ?_
          simp only [Act.put, List.getElem_toArray, List.getElem_cons_succ, List.getElem_cons_zero, List.setIfInBounds_toArray, List.set_cons_zero, List.set_cons_succ]
          refine wpAnyH_done (by kernel_rfl) ?_ _
          rw [← HKL.out]
          clear hTK hK0 hK1 hK2 hK3 hKw hmo
        case' neg =>
          go_wp2_with fail
          refine wp_region_held_drew (S := fun w' => w'.cell? ⟨w.heap.size, 0, none⟩ = some x1 ∧ w'.cell? ⟨w.heap.size, 1, none⟩ = some x2) (by kernel_rfl) (HKS.out _ ((Below.refl w10.heap.size w10).drew)) (fun hHeld => ?_)
          refine wpAnyH_take (i := 0) (v := (.slice a10 T.length c10)) rfl (by kernel_rfl) (by kernel_rfl) (by kernel_rfl) (fun _ _ _ h => h) (Or.inl ⟨by rfl, fun _ _ => by go_simp⟩) hHeld ?_
          simp only [Act.put, List.getElem_toArray, List.getElem_cons_zero, List.setIfInBounds_toArray, List.set_cons_zero, List.set_cons_succ]
          refine wpAnyH_take (i := 1) (v := (.slice a0 L.length cp0)) rfl (by kernel_rfl) (by kernel_rfl) (by kernel_rfl) (fun _ _ _ h => h) (Or.inl ⟨by rfl, fun _ _ => by go_simp⟩) hHeld ?_
          simp only [Act.put, List.getElem_toArray, List.getElem_cons_succ, List.getElem_cons_zero, List.setIfInBounds_toArray, List.set_cons_zero, List.set_cons_succ]
          refine wpAnyH_take (i := 2) (v := (.agg #[x1, x2])) rfl (by kernel_rfl) (by kernel_rfl) (by kernel_rfl) (fun _ _ _ h => h) (Or.inl ⟨by rfl, fun _ hS => by obtain ⟨s0, s1⟩ := hS; go_simp⟩) hHeld ?_
          simp only [Act.put, List.getElem_toArray, List.getElem_cons_succ, List.getElem_cons_zero, List.setIfInBounds_toArray, List.set_cons_zero, List.set_cons_succ]
          refine wpAnyH_take (i := 3) (v := (.int .i64 most)) rfl (by kernel_rfl) (by kernel_rfl) (by kernel_rfl) (fun _ _ _ h => h) (Or.inl ⟨by rfl, fun _ _ => by go_simp⟩) hHeld ?_
          simp only [Act.put, List.getElem_toArray, List.getElem_cons_succ, List.getElem_cons_zero, List.setIfInBounds_toArray, List.set_cons_zero, List.set_cons_succ]
          refine wpAnyH_ready (rs := [4]) (by kernel_rfl) (by simp) ?_
          refine AllReadyH.cons rfl (fun K hK => ?_) AllReadyH.nil
          simp only [List.getElem_toArray, List.getElem_cons_succ, List.getElem_cons_zero]
          rw [if_pos (by rfl)]
          go_simp
          (go_at_call 19; refine (HRT.out _ hBr10.drew).mono ?_; rintro e w11 ⟨t11, l11, rfl, r11, il11, hb11'⟩; have hb11 : Below w10.heap.size w10 w11 := ((Below.refl w10.heap.size w10).drew).trans hb11')
          refine hK.out _ _ (HKS.out _ hb11) (fun hHeld => ?_)
          clear hK K
          refine wpAnyH_ready (rs := [5]) (by kernel_rfl) (by simp) ?_
          refine AllReadyH.cons rfl (fun K hK => ?_) AllReadyH.nil
          simp only [List.getElem_toArray, List.getElem_cons_succ, List.getElem_cons_zero]
          rw [if_pos (by rfl)]
          go_simp
          (go_at_call 12; refine (HALL.out _ _ _ hb11 r11 il11).mono ?_; rintro e w12 ⟨rfl, hb12'⟩; have hb12 : Below w10.heap.size w10 w12 := below_trans hb11 hb12')
          refine hK.out _ _ (HKS.out _ hb12) (fun hHeld => ?_)
          clear hK K
          refine wpAnyH_take (i := 6) (v := (.bool false)) rfl (by kernel_rfl) (by kernel_rfl) (by kernel_rfl) (fun _ _ _ h => h) (Or.inl ⟨by rfl, fun _ _ => by go_simp⟩) hHeld ?_
          simp only [Act.put, List.getElem_toArray, List.getElem_cons_succ, List.getElem_cons_zero, List.setIfInBounds_toArray, List.set_cons_zero, List.set_cons_succ]
          refine wpAnyH_take (i := 7) (v := (.bool false)) rfl (by kernel_rfl) (by kernel_rfl) (by kernel_rfl) (fun _ _ _ h => h) (Or.inl ⟨by rfl, fun _ _ => by go_simp⟩) hHeld ?_
          simp only [Act.put, List.getElem_toArray, List.getElem_cons_succ, List.getElem_cons_zero, List.setIfInBounds_toArray, List.set_cons_zero, List.set_cons_succ]
          refine wpAnyH_take (i := 8) (v := (.int .i64 most)) rfl (by kernel_rfl) (by kernel_rfl) (by kernel_rfl) (fun _ _ _ h => h) (Or.inl ⟨by rfl, fun _ _ => by go_simp⟩) hHeld ?_
          simp only [Act.put, List.getElem_toArray, List.getElem_cons_succ, List.getElem_cons_zero, List.setIfInBounds_toArray, List.set_cons_zero, List.set_cons_succ]
          refine wpAnyH_take (i := 9) (v := (.bool false)) rfl (by kernel_rfl) (by kernel_rfl) (by kernel_rfl) (fun _ _ _ h => h) (Or.inl ⟨by rfl, fun _ _ => by go_simp⟩) hHeld ?_
          simp only [Act.put, List.getElem_toArray, List.getElem_cons_succ, List.getElem_cons_zero, List.setIfInBounds_toArray, List.set_cons_zero, List.set_cons_succ]
          refine wpAnyH_take (i := 10) (v := (.bool false)) rfl (by kernel_rfl) (by kernel_rfl) (by kernel_rfl) (fun _ _ _ h => h) (Or.inl ⟨by rfl, fun _ _ => by go_simp⟩) hHeld ?_
          simp only [Act.put, List.getElem_toArray, List.getElem_cons_succ, List.getElem_cons_zero, List.setIfInBounds_toArray, List.set_cons_zero, List.set_cons_succ]
          refine wpAnyH_take (i := 11) (v := undef) rfl (by kernel_rfl) (by kernel_rfl) (by kernel_rfl) (fun _ _ _ h => h) (Or.inr ⟨by rfl, rfl⟩) hHeld ?_
          simp only [Act.put, List.getElem_toArray, List.getElem_cons_succ, List.getElem_cons_zero, List.setIfInBounds_toArray, List.set_cons_zero, List.set_cons_succ]
          refine wpAnyH_take (i := 12) (v := undef) rfl (by kernel_rfl) (by kernel_rfl) (by kernel_rfl) (fun _ _ _ h => h) (Or.inr ⟨by rfl, rfl⟩) hHeld ?_
          simp only [Act.put, List.getElem_toArray, List.getElem_cons_succ, List.getElem_cons_zero, List.setIfInBounds_toArray, List.set_cons_zero, List.set_cons_succ]
          refine wpAnyH_take (i := 13) (v := undef) rfl (by kernel_rfl) (by kernel_rfl) (by kernel_rfl) (fun _ _ _ h => h) (Or.inr ⟨by rfl, rfl⟩) hHeld ?_
          simp only [Act.put, List.getElem_toArray, List.getElem_cons_succ, List.getElem_cons_zero, List.setIfInBounds_toArray, List.set_cons_zero, List.set_cons_succ]
          refine wpAnyH_take (i := 14) (v := undef) rfl (by kernel_rfl) (by kernel_rfl) (by kernel_rfl) (fun _ _ _ h => h) (Or.inr ⟨by rfl, rfl⟩) hHeld ?_
          simp only [Act.put, List.getElem_toArray, List.getElem_cons_succ, List.getElem_cons_zero, List.setIfInBounds_toArray, List.set_cons_zero, List.set_cons_succ]
          refine wpAnyH_take (i := 15) (v := undef) rfl (by kernel_rfl) (by kernel_rfl) (by kernel_rfl) (fun _ _ _ h => h) (Or.inr ⟨by rfl, rfl⟩) hHeld ?_
          simp only [Act.put, List.getElem_toArray, List.getElem_cons_succ, List.getElem_cons_zero, List.setIfInBounds_toArray, List.set_cons_zero, List.set_cons_succ]
          refine wpAnyH_take (i := 16) (v := undef) rfl (by kernel_rfl) (by kernel_rfl) (by kernel_rfl) (fun _ _ _ h => h) (Or.inr ⟨by rfl, rfl⟩) hHeld ?_
          simp only [Act.put, List.getElem_toArray, List.getElem_cons_succ, List.getElem_cons_zero, List.setIfInBounds_toArray, List.set_cons_zero, List.set_cons_succ]
          refine wpAnyH_take (i := 17) (v := undef) rfl (by kernel_rfl) (by kernel_rfl) (by kernel_rfl) (fun _ _ _ h => h) (Or.inr ⟨by rfl, rfl⟩) hHeld ?_
          simp only [Act.put, List.getElem_toArray, List.getElem_cons_succ, List.getElem_cons_zero, List.setIfInBounds_toArray, List.set_cons_zero, List.set_cons_succ]
          refine wpAnyH_take (i := 18) (v := undef) rfl (by kernel_rfl) (by kernel_rfl) (by kernel_rfl) (fun _ _ _ h => h) (Or.inr ⟨by rfl, rfl⟩) hHeld ?_
          simp only [Act.put, List.getElem_toArray, List.getElem_cons_succ, List.getElem_cons_zero, List.setIfInBounds_toArray, List.set_cons_zero, List.set_cons_succ]
          refine wpAnyH_take (i := 19) (v := undef) rfl (by kernel_rfl) (by kernel_rfl) (by kernel_rfl) (fun _ _ _ h => h) (Or.inr ⟨by rfl, rfl⟩) hHeld ?_
          simp only [Act.put, List.getElem_toArray, List.getElem_cons_succ, List.getElem_cons_zero, List.setIfInBounds_toArray, List.set_cons_zero, List.set_cons_succ]
          refine wpAnyH_take (i := 20) (v := undef) rfl (by kernel_rfl) (by kernel_rfl) (by kernel_rfl) (fun _ _ _ h => h) (Or.inr ⟨by rfl, rfl⟩) hHeld ?_
          simp only [Act.put, List.getElem_toArray, List.getElem_cons_succ, List.getElem_cons_zero, List.setIfInBounds_toArray, List.set_cons_zero, List.set_cons_succ]
          refine wpAnyH_take (i := 21) (v := undef) rfl (by kernel_rfl) (by kernel_rfl) (by kernel_rfl) (fun _ _ _ h => h) (Or.inr ⟨by rfl, rfl⟩) hHeld ?_
          simp only [Act.put, List.getElem_toArray, List.getElem_cons_succ, List.getElem_cons_zero, List.setIfInBounds_toArray, List.set_cons_zero, List.set_cons_succ]
          refine wpAnyH_take (i := 22) (v := undef) rfl (by kernel_rfl) (by kernel_rfl) (by kernel_rfl) (fun _ _ _ h => h) (Or.inr ⟨by rfl, rfl⟩) hHeld ?_
          simp only [Act.put, List.getElem_toArray, List.getElem_cons_succ, List.getElem_cons_zero, List.setIfInBounds_toArray, List.set_cons_zero, List.set_cons_succ]
          refine wpAnyH_take (i := 23) (v := undef) rfl (by kernel_rfl) (by kernel_rfl) (by kernel_rfl) (fun _ _ _ h => h) (Or.inr ⟨by rfl, rfl⟩) hHeld ?_
          simp only [Act.put, List.getElem_toArray, List.getElem_cons_succ, List.getElem_cons_zero, List.setIfInBounds_toArray, List.set_cons_zero, List.set_cons_succ]
          refine wpAnyH_take (i := 24) (v := undef) rfl (by kernel_rfl) (by kernel_rfl) (by kernel_rfl) (fun _ _ _ h => h) (Or.inr ⟨by rfl, rfl⟩) hHeld ?_
          simp only [Act.put, List.getElem_toArray, List.getElem_cons_succ, List.getElem_cons_zero, List.setIfInBounds_toArray, List.set_cons_zero, List.set_cons_succ]
          refine wpAnyH_take (i := 25) (v := (.bool false)) rfl (by kernel_rfl) (by kernel_rfl) (by kernel_rfl) (fun _ _ _ h => h) (Or.inl ⟨by rfl, fun _ _ => by go_simp⟩) hHeld ?_
          simp only [Act.put, List.getElem_toArray, List.getElem_cons_succ, List.getElem_cons_zero, List.setIfInBounds_toArray, List.set_cons_zero, List.set_cons_succ]
          refine wpAnyH_take (i := 26) (v := (.bool false)) rfl (by kernel_rfl) (by kernel_rfl) (by kernel_rfl) (fun _ _ _ h => h) (Or.inl ⟨by rfl, fun _ _ => by go_simp⟩) hHeld ?_
          simp only [Act.put, List.getElem_toArray, List.getElem_cons_succ, List.getElem_cons_zero, List.setIfInBounds_toArray, List.set_cons_zero, List.set_cons_succ]
          refine wpAnyH_done (by kernel_rfl) ?_ _
          have hb13 := hb12
        all_goals
          go_wp2_with fail
          go_loopw [79] (fun iv wr => ∃ i : Nat, iv = .int .i64 i ∧ i ≤ T.length ∧ Below w10.heap.size w10 wr) (fun iv _ => T.length - (intOf iv).toNat)
          case atStart => exact ⟨0, rfl, Nat.zero_le _, hb13⟩
          case round =>
            obtain ⟨i, rfl, hi, hb⟩ := hrel
            have htn := HTN.out
            by_cases hlt : i < T.length
            · obtain ⟨q, hq⟩ : ∃ q, T[i]? = some q := ⟨_, List.getElem?_eq_getElem hlt⟩
              obtain ⟨p, hp⟩ : ∃ p, l10[i]? = some p := ⟨_, List.getElem?_eq_getElem (by rw [HI10.out.1]; exact hlt)⟩
              obtain ⟨r1, r2⟩ := HI10.out.2 i p q hp hq
              have hqg := HTM.out q (List.mem_of_getElem? hq)
              first
                | (obtain rfl : a10 = some ⟨b10, off10, none⟩ := by
                    rcases HA10.out with h9 | ⟨h9, _⟩
                    · exact h9
                    · rw [h9] at hp; simp at hp)
                | skip
              have c1 := HC10.out _ _ (flat2_get hp).1
              have c2 := HC10.out _ _ (flat2_get hp).2
              rw [← Nat.add_assoc] at c2
              obtain ⟨x1', x2'⟩ := p
              simp only at r1 r2 c1 c2
              have HC1 := Lib.hid c1; have HC2 := Lib.hid c2; have HR1 := Lib.hid r1; have HR2 := Lib.hid r2; have HQG := Lib.hid hqg; have HQ := Lib.hid hq
              clear c1 c2 r1 r2 hqg hq hp
              have hi0 : (0 : Int) ≤ i := Int.natCast_nonneg _
              have hi1 : (i : Int) < (T.length : Int) := by omega
              go_wp2_with fail
              go_loopw [83] (fun jv wr' => ∃ j : Nat, jv = .int .i64 j ∧ j ≤ i ∧ Below wr.heap.size wr wr') (fun jv _ => i - (intOf jv).toNat)
              case atStart => exact ⟨0, rfl, Nat.zero_le _, Below.refl _ _⟩
              case round =>
                obtain ⟨j, rfl, hj, hb'⟩ := hrel
                have hbj := below_trans hb hb'
                by_cases hjl : j < i
                · obtain ⟨z, hz⟩ : ∃ z, T[j]? = some z := ⟨_, List.getElem?_eq_getElem (by omega)⟩
                  obtain ⟨u, hu⟩ : ∃ u, l10[j]? = some u := ⟨_, List.getElem?_eq_getElem (by rw [HI10.out.1]; omega)⟩
                  obtain ⟨s1, s2⟩ := HI10.out.2 j u z hu hz
                  have hzg := HTM.out z (List.mem_of_getElem? hz)
                  have hsm : samM (q.1, q.2) (z.1, z.2) = false := by
                    have h9 := List.pairwise_iff_getElem.1 HTD.out j i (by omega) hlt hjl
                    have e1 : T[j]'(by omega) = z := (List.getElem?_eq_some_iff.1 hz).2
                    have e2 : T[i]'hlt = q := (List.getElem?_eq_some_iff.1 HQ.out).2
                    rw [e1, e2] at h9
                    exact (samM_comm q z).trans h9
                  have c1 := cell_kept HC1.out hbj
                  have c2 := cell_kept HC2.out hbj
                  have c3 := cell_kept (HC10.out _ _ (flat2_get hu).1) hbj
                  have c4 := cell_kept (HC10.out _ _ (flat2_get hu).2) hbj
                  rw [← Nat.add_assoc] at c4
                  obtain ⟨y1, y2⟩ := u
                  simp only at s1 s2 c3 c4
                  have HS : Hid (∀ w', Below w10.heap.size w10 w' → Calls Tryd.prog 20 #[.agg #[x1', x2'], .agg #[y1, y2]] w' fun e w'' => e = .returned (.bool false) ∧ Below w'.heap.size w' w'') := fun w' h9 => by
                    have h8 := msame_any x1' x2' y1 y2 q.1 q.2 z.1 z.2 w' (HR1.out.below h9) (HR2.out.below h9) (s1.below h9) (s2.below h9) HQG.out.1 HQG.out.2.1 hzg.1 hzg.2.1 HQG.out.2.2.2 hzg.2.2.2
                    rw [hsm] at h8
                    exact h8
                  clear hu hz s1 s2 hzg hsm
                  have hj0 : (0 : Int) ≤ j := Int.natCast_nonneg _
                  have hj1 : (j : Int) < (T.length : Int) := by omega
                  have hj2 : (j : Int) < (i : Int) := by omega
                  go_wp2_with fail
                  go_still_tail 8, (by kernel_rfl)
                  change wpList _ _ _ _ _ wr.drew
                  go_wp2_with fail
                  refine (HS.out _ hbj.drew).mono ?_
                  rintro e w2 ⟨rfl, hb2⟩
                  have hB2 := below_trans hb'.drew hb2
                  go_wp2_with fail
                  go_roundw
                  case rel => exact ⟨j + 1, by go_num, by omega, hB2⟩
                  case measure => simp [intOf]; omega
                · obtain rfl : j = i := by omega
                  go_wp2_with fail
                  go_roundw
                  case rel => exact ⟨j + 1, by go_num, by omega, hbj⟩
                  case measure => simp [intOf]; omega
            · obtain rfl : i = T.length := by omega
              go_wp2_with (go_at_call 6; refine (alive51_any _).mono ?_; rintro e w7 ⟨rfl, hb7⟩)
              go_ret
              exact ⟨rfl, below_trans (below_trans hBr10 hb) hb7⟩
end Go.Proofs.YtcmiopkcgoanpaaDoor
