/- Walks: a list of names laid anew; a thread, by the program. · Walks: a thread, by the reference. (laid together by program out of single texts). -/
import Derived.Deep.RegionHeld3
import Derived.IntWalk
import Derived.Test.YtcmiopkcgoanpaaDoorM8
import Derived.Test.YtcmiopkcgoanpaaDoorM26
namespace Go.Proofs.YtcmiopkcgoanpaaDoor
open Go.RowKit
set_option maxHeartbeats 8000000
set_option maxRecDepth 100000
theorem Own2.empty (w : World) (E : TypeId) : Own2 w.heap.size E (w.alloc (.cells #[] E)) (.slice (some ⟨w.heap.size, 0, none⟩) 0 0) [] :=
  ⟨World.ownsRow_lit w #[] 0 (Nat.le_refl _) (by simp [maxLen]) rfl, by simp [flat2]⟩
theorem _root_.Go.World.ownsRow.mono2 {w : World} {B B' : Nat} {E : TypeId} {size : Nat} {v : Value} {n : Nat} {xs : List Value} (h : w.ownsRow B E size v n xs) (hB : B' ≤ B) : w.ownsRow B' E size v n xs := by
  obtain ⟨h1, h2⟩ := h
  refine ⟨h1, ?_⟩
  rcases h2 with h2 | ⟨g, cap, cur, hv, hb, rest⟩
  · exact .inl h2
  · exact .inr ⟨g, cap, cur, hv, Nat.le_trans hB hb, rest⟩
theorem Own2.mono {B B' : Nat} {E : TypeId} {w : World} {v : Value} {l : List (Value × Value)} (h : Own2 B E w v l) (hB : B' ≤ B) : Own2 B' E w v l := ⟨h.1.mono2 hB, h.2⟩
theorem Own2.formN {B : Nat} {E : TypeId} {w : World} {v : Value} {l : List (Value × Value)} (h : Own2 B E w v l) {n : Nat} (hn : l.length = n) (h0 : 0 < n) : ∃ g cap, v = .slice (some ⟨g, 0, none⟩) n cap ∧ B ≤ g ∧ g < w.heap.size := by
  subst hn; exact h.form h0
theorem clone2_any (v : Value) (l : List (Value × Value)) (w : World) (h : Row2 w v l) (hl : l.length ≤ 100000000) :
    Calls Tryd.prog 32 #[v] w fun e w' => ∃ t, e = .returned t ∧ Own2 w.heap.size 25 w' t l ∧ Below w.heap.size w w' := by
  have H := Lib.hid h
  have hnil := fun w a n c n' c' => Lib.run_eql_slice_nil (P := Tryd.prog) w 32 25 a n c n' c' Tryd.underlying32
  obtain ⟨a, b, off, cp, rfl, hcp, hM, ha, ho, hcell⟩ := h
  cases a with
  | none =>
    have hl0 : l = [] := by
      rcases ha with h9 | ⟨h9, _⟩
      · cases h9
      · exact h9
    subst hl0
    have hc0 : cp = 0 := by
      rcases ha with h9 | ⟨_, h9⟩
      · cases h9
      · exact h9 rfl
    subst hc0
    clear ha hcell ho hM hcp
    go_enter Tryd.func32, Tryd.ntmps32
    go_wp2
    go_ret
    exact ⟨_, rfl, Own2.nil _ _ _, Below.refl _ _⟩
  | some ad =>
    clear ha hcell ho hM hcp
    have hB := below_alloc w (.cells #[] 25)
    have ho0 := Own2.empty w 25
    go_enter Tryd.func32, Tryd.ntmps32
    go_wp2_with (at_builtin; refine wpList_app2z slT_id w.heap.size _ _ rfl rfl rfl rfl ho0 (H.out.below hB) (by simp only [List.length_nil]; omega) (by simp) ?_; intro t2 w2 hown2 hg2; have hb2 : Below w.heap.size w w2 := below_own2 hB ho0 hg2 (by simp) (Nat.le_refl _))
    go_ret
    exact ⟨_, rfl, by simpa using hown2, hb2⟩
theorem thR_len : ∀ l : List (List Int × List Int), (thR l).length ≤ l.length
  | [] => Nat.le_refl _
  | a :: r => by
    have := thR_len r
    rw [thR]
    split
    · simp only [List.length_cons]; omega
    · simp only [List.length_cons]; omega
theorem IdL.drop {w : World} {l : List (Value × Value)} {L : List (List Int × List Int)} (h : IdL w l L) (k : Nat) : IdL w (l.drop k) (L.drop k) := by
  refine ⟨by rw [List.length_drop, List.length_drop, h.1], fun i p q hp hq => ?_⟩
  rw [List.getElem?_drop] at hp hq
  exact h.2 (k + i) p q hp hq
theorem wlast (m : Nat) (most : Int) (hm : m ≤ 1000000) : 0 ≤ IntKind.i64.wrap ((m : Int) - min (m : Int) (max most 0)) ∧ IntKind.i64.wrap ((m : Int) - min (m : Int) (max most 0)) ≤ m ∧ (IntKind.i64.wrap ((m : Int) - min (m : Int) (max most 0))).toNat = m - min m (max most 0).toNat := by
  have h : IntKind.i64.wrap ((m : Int) - min (m : Int) (max most 0)) = (m : Int) - min (m : Int) (max most 0) := IntWalk.i64_in _ (by omega)
  rw [h]
  omega
/-- What the loop of Thread keeps: a is the world in which the whole list was laid. -/
def TlI (a : World) (La : List (List Int × List Int)) (ov iv : Value) (wr : World) : Prop :=
  ∃ (k : Nat) (lo : List (Value × Value)), iv = .int .i64 k ∧ k ≤ La.length ∧ Hid (Own2 a.heap.size 25 wr ov lo) ∧ Hid (IdL a lo (thR (La.take k))) ∧ Below a.heap.size a wr
theorem thread_any (v : Value) (l : List (Value × Value)) (L : List (List Int × List Int)) (x1 x2 : Value) (X : List Int × List Int) (most : Int) (w : World) (h : Row2 w v l) (e : IdL w l L) (h1 : Row w x1 (ints .u8 X.1)) (h2 : Row w x2 (ints .u8 X.2)) (gX : IdR X) (gL : ∀ q ∈ L, IdR q) (hl : L.length ≤ 100000) (hx : x1.oneCell' = true ∧ x2.oneCell' = true) :
    Calls Tryd.prog 18 #[v, .agg #[x1, x2], .int .i64 most] w fun e w' => ∃ t l', e = .returned t ∧ Own2 w.heap.size 25 w' t l' ∧ IdL w' l' (lastN most (thR (L ++ [X]))) ∧ Below w.heap.size w w' := by
  obtain ⟨hc0, hc1⟩ := pair_new w x1 x2 25
  have hB := below_alloc w (.cells #[x1, x2] 25)
  have hPl : w.heap.size < (w.alloc (.cells #[x1, x2] 25)).heap.size := by simp
  have hCL := fun w' h' => clone2_any v l w' h' (by rw [e.1]; omega)
  have HCL := Lib.hid hCL
  clear hCL
  go_enter Tryd.func18, Tryd.ntmps18
  go_wp2_with fail
  have h' := h.below hB
  generalize w.alloc (.cells #[x1, x2] 25) = w2 at *
  have HK : Hid (∀ w', Below w2.heap.size w2 w' → w'.cell? ⟨w.heap.size, 0, none⟩ = some x1 ∧ w'.cell? ⟨w.heap.size, 1, none⟩ = some x2) := fun w' hb' => ⟨(hb'.cell (p := ⟨w.heap.size, 0, none⟩) hPl).trans hc0, (hb'.cell (p := ⟨w.heap.size, 1, none⟩) hPl).trans hc1⟩
  clear hc0 hc1
  have HL2 : Hid (Below w2.heap.size w2 ((w2.alloc (.cells #[x1, x2] 25)).drew) ∧ Row2 ((w2.alloc (.cells #[x1, x2] 25)).drew) (.slice (some ⟨w2.heap.size, 0, none⟩) 1 1) [(x1, x2)]) := ⟨(below_alloc w2 _).drew, (Row2.lit (x1, x2) hx).below (Below.refl _ _).drew⟩
  have HLE : Hid ((l ++ [(x1, x2)]).length = L.length + 1) := by show _ = _; rw [List.length_append, e.1]; rfl
  have HLB : Hid (l.length + 1 ≤ 1000000000) := by show _ ≤ _; rw [e.1]; omega
  go_region_held3 (fun w' => w'.cell? ⟨w.heap.size, 0, none⟩ = some x1 ∧ w'.cell? ⟨w.heap.size, 1, none⟩ = some x2) (first | exact HK.out _ ((Below.refl w2.heap.size w2).drew) | exact HK.out _ (Below.refl _ _) | exact HK.out _ ((below_alloc w2 _).drew) | exact HK.out _ hb5 | exact HK.out _ (hb3.alloc hb3.size _) | exact HK.out _ hb3 | exact HK.out _ HL2.out.1 | go_keep) ((first | (refine step_app2z slT_id w2.heap.size _ _ (by rfl) (by rfl) (by rfl) (by rfl) ho3 hl3 HLB.out hb3.size ?_; intro t5 w5 ho5 hg5; have hb5 : Below w2.heap.size w2 w5 := below_own2 hb3 ho3 hg5 hb3.size (Nat.le_refl _); obtain ⟨g5, cp5, rfl, hgB5, hgs5⟩ := ho5.formN (n := L.length + 1) HLE.out (by omega)) | (refine step_app2z slT_id w2.heap.size _ _ (by rfl) (by rfl) (by rfl) (by rfl) (ho3.alloc _) (Row2.lit (x1, x2) hx) HLB.out (by have := hb3.size; simp; omega) ?_; intro t5 w5 ho5 hg5; have hb5 : Below w2.heap.size w2 w5 := below_own2 (hb3.alloc hb3.size _) (ho3.alloc _) hg5 (by have := hb3.size; simp; omega) (Nat.le_refl _); obtain ⟨g5, cp5, rfl, hgB5, hgs5⟩ := ho5.formN (n := L.length + 1) HLE.out (by omega)) | ((go_at_call 32; refine (HCL.out _ (h'.below ((Below.refl w2.heap.size w2).drew))).mono ?_; rintro e w3 ⟨t3, rfl, ho3, hb3⟩; replace hb3 : Below w2.heap.size w2 w3 := ((Below.refl w2.heap.size w2).drew).trans hb3; replace ho3 : Own2 w2.heap.size 25 w3 t3 l := ho3)) | ((go_at_call 32; refine (HCL.out _ (h'.below HL2.out.1)).mono ?_; rintro e w3 ⟨t3, rfl, ho3, hb3⟩; have hl3 := HL2.out.2.below hb3; replace hb3 : Below w2.heap.size w2 w3 := below_trans HL2.out.1 hb3; replace ho3 : Own2 w2.heap.size 25 w3 t3 l := ho3.mono HL2.out.1.size))))
  all_goals
    have hB5 := below_trans hB hb5
    have hia : IdL w5 (l ++ [(x1, x2)]) (L ++ [X]) := (IdL.snoc e (p := (x1, x2)) (q := X) h1 h2).below hB5
    have hga : ∀ q ∈ L ++ [X], IdR q := fun q hq => by
      rcases List.mem_append.1 hq with hq | hq
      · exact gL q hq
      · simp at hq; subst hq; exact gX
    have hne : 0 < (thR (L ++ [X])).length := by rw [thR_snoc, stepT]; simp
    have hla : (L ++ [X]).length = L.length + 1 := by simp
    generalize l ++ [(x1, x2)] = la at *
    generalize hLe : L ++ [X] = La at *
    have HLE2 := Lib.hid hLe
    clear hLe
    have HIA := Lib.hid hia; have HGA := Lib.hid hga; have HLA := Lib.hid hla; have HNE := Lib.hid hne; have HO5 := Lib.hid ho5
    clear hia hga hla hne ho5 hg5 HCL HL2 HLE HLB HK e h1 h2 h' h gX gL
    have hl1 : L.length + 1 ≤ 100001 := by omega
    clear hl
    go_wp2_with fail
    go_loopw [7, 16] (fun ov iv wr => TlI w5 La ov iv wr) (fun _ iv _ => L.length + 1 - (intOf iv).toNat)
    case atStart => exact ⟨0, [], rfl, Nat.zero_le _, Own2.nil _ _ _, (by show IdL _ _ _; rw [List.take_zero]; exact IdL.nil _), Below.refl _ _⟩
    case round =>
      obtain ⟨k, lo, rfl, hk, HO, HI, hb⟩ := hrel
      rw [HLA.out] at hk
      by_cases hlt : k < L.length + 1
      · obtain ⟨q, hq⟩ : ∃ q, La[k]? = some q := ⟨_, List.getElem?_eq_getElem (by rw [HLA.out]; exact hlt)⟩
        obtain ⟨p, hp⟩ : ∃ p, la[k]? = some p := ⟨_, List.getElem?_eq_getElem (by rw [HIA.out.1, HLA.out]; exact hlt)⟩
        obtain ⟨r1, r2⟩ := HIA.out.2 k p q hp hq
        have hqg := HGA.out q (List.mem_of_getElem? hq)
        have c1 := cell_kept (HO5.out.cellAt (flat2_get hp).1) hb
        have c2 := cell_kept (HO5.out.cellAt (flat2_get hp).2) hb
        obtain ⟨x1, x2⟩ := p
        simp only at r1 r2 c1 c2
        obtain ⟨b1, d1, rfl⟩ := (id r1).formN0 (n := q.1.length) (by rw [ints_length])
        obtain ⟨b2, d2, rfl⟩ := (id r2).formN0 (n := q.2.length) (by rw [ints_length])
        have hgt : ∀ z ∈ thR (La.take k), IdR z := fun z hz => HGA.out z (List.mem_of_mem_take (thR_sub _ z hz))
        have htl : (thR (La.take k)).length ≤ 1000000 := by
          have := thR_len (La.take k)
          rw [List.length_take] at this
          omega
        have hsn : thR (La.take (k + 1)) = (thR (La.take k)).filter (fun z => !samM q z) ++ [q] := by
          rw [List.take_add_one, hq]
          exact thR_snoc q (La.take k)
        have hD := del_any wr.heap.size (.slice b1 q.1.length d1) (.slice b2 q.2.length d2) q _ lo (thR (La.take k)) w5 (wr.alloc (.cells #[(.slice b1 q.1.length d1), (.slice b2 q.2.length d2)] 25)) (hb.alloc hb.size _) (HO.out.alloc _) HI.out r1 r2 (Cy.new wr _ _ _) (fun h9 => by have := (HO.out.1.lt _ h9).2; omega) hqg hgt htl
        have hfl : ((thR (La.take k)).filter (fun z => !samM q z)).length ≤ 1000000 := Nat.le_trans (List.length_filter_le _ _) htl
        have HD := Lib.hid hD; have HR1 := Lib.hid r1; have HR2 := Lib.hid r2; have HSN := Lib.hid hsn; have HFL := Lib.hid hfl
        clear hD r1 r2 hsn hfl hgt htl hq hp hqg HI
        go_wp2_with fail
        refine HD.out.mono ?_
        rintro e w6 ⟨v6, l6, rfl, ho6, hi6, hc6, hb6⟩
        obtain ⟨k0, k1⟩ := hc6
        have hl6 : l6.length ≤ 1000000 := by rw [hi6.1]; exact HFL.out
        have HI6 := Lib.hid hi6; have HL6 := Lib.hid hl6
        clear hi6 hl6 c1 c2
        go_wp2_with (at_builtin; refine wpList_app2r slT_id w5.heap.size _ _ rfl rfl rfl rfl (ho6.alloc _) (Row2.lit ((.slice b1 q.1.length d1), (.slice b2 q.2.length d2)) ⟨rfl, rfl⟩) (by simp) (by have := HL6.out; simp only [List.length_cons, List.length_nil]; omega) (by have := hb6.size; simp; omega) ?_; intro t7 w7 ho7 hg7; have hb7 : Below w5.heap.size w5 w7 := below_own2 (hb6.alloc hb6.size _) (ho6.alloc _) hg7 (by have := hb6.size; simp; omega) (Nat.le_refl _))
        go_roundw
        case rel => exact ⟨k + 1, l6 ++ [(((.slice b1 q.1.length d1) : Value), ((.slice b2 q.2.length d2) : Value))], by go_num, (by rw [HLA.out]; omega), ho7, (by show IdL _ _ _; rw [HSN.out]; exact IdL.snoc HI6.out HR1.out HR2.out), hb7⟩
        case measure => simp [intOf]; omega
      · obtain rfl : k = L.length + 1 := by omega
        have hi := HI.out
        rw [List.take_of_length_le (by rw [HLA.out]; exact Nat.le_refl _)] at hi
        obtain ⟨g6, c6, rfl, hg6, hg62⟩ := HO.out.formN (n := (thR La).length) hi.1 HNE.out
        generalize hm : (thR La).length = m at *
        have HII := Lib.hid hi
        clear hi HI
        have hm9 : m ≤ 1000000 := by rw [← hm]; have := thR_len La; rw [HLA.out] at this; omega
        have HW := Lib.hid (wlast m most hm9)
        have HML : Hid (lo.length = m) := by show _ = _; rw [HII.out.1, hm]
        have hx9 := HO.out.row
        go_wp2_with (refine wpList_slL2 slT_id _ _ rfl rfl rfl rfl hx9 (by first | exact HW.out.1 | omega) (by rw [HML.out]; first | exact HW.out.2.1 | omega) ?_; intro v9 hv9; have r9 := hv9 _ hx9)
        rw [show ((m : Int) - min (m : Int) (max most 0)).toNat = m - min m (max most 0).toNat by omega] at r9
        have hln : lastN most (thR La) = (thR La).drop (m - min m (max most 0).toNat) := by rw [lastN, hm]
        have hc9 := clone2_any _ _ _ r9 (by rw [List.length_drop, HML.out]; omega)
        have HC9 := Lib.hid hc9
        clear hc9 hv9
        refine HC9.out.mono ?_
        rintro e w10 ⟨t10, rfl, ho10, hb10⟩
        go_wp2
        go_ret
        exact ⟨_, _, rfl, ho10.mono (Nat.le_trans hB5.size hb.size), (by rw [HLE2.out, hln]; exact (HII.out.drop _).below (below_trans hb hb10)), below_trans (below_trans hB5 hb) hb10⟩
end Go.Proofs.YtcmiopkcgoanpaaDoor
namespace Go.Proofs.YtcmiopkcgoanpaaDoor
open Go.RowKit
set_option maxHeartbeats 8000000
set_option maxRecDepth 100000
/-- What the loop of the reference's Thread keeps. -/
def TrI (a : World) (La : List (List Int × List Int)) (ov iv : Value) (wr : World) : Prop :=
  ∃ (k : Nat) (lo : List (Value × Value)) (Lo : List (List Int × List Int)), iv = .int .i64 k ∧ k ≤ La.length ∧ Hid (Own2 a.heap.size 29 wr ov lo) ∧ Hid (IdL a lo Lo) ∧ Hid (thR La = Lo ++ thR (La.drop k)) ∧ Hid (lo.length ≤ k) ∧ Below a.heap.size a wr
theorem drop_cons1 {α : Type} : ∀ {l : List α} {k : Nat} {x : α}, l[k]? = some x → l.drop k = x :: l.drop (k + 1)
  | [], k, x, h => by simp at h
  | a :: l, 0, x, h => by simp at h; subst h; rfl
  | a :: l, k + 1, x, h => drop_cons1 (l := l) (k := k) (by simpa using h)
theorem rThread_any (v : Value) (l : List (Value × Value)) (L : List (List Int × List Int)) (x1 x2 : Value) (X : List Int × List Int) (most : Int) (w : World) (h : Row2 w v l) (e : IdL w l L) (h1 : Row w x1 (ints .u8 X.1)) (h2 : Row w x2 (ints .u8 X.2)) (gX : IdR X) (gL : ∀ q ∈ L, IdR q) (hl : L.length ≤ 100000) (hx : x1.oneCell' = true ∧ x2.oneCell' = true) :
    Calls Tryd.prog 19 #[v, .agg #[x1, x2], .int .i64 most] w fun e w' => ∃ t l', e = .returned t ∧ Row2 w' t l' ∧ IdL w' l' (lastN most (thR (L ++ [X]))) ∧ Below w.heap.size w w' := by
  obtain ⟨hc0, hc1⟩ := pair_new w x1 x2 29
  have hB := below_alloc w (.cells #[x1, x2] 29)
  have hPl : w.heap.size < (w.alloc (.cells #[x1, x2] 29)).heap.size := by simp
  go_enter Tryd.func19, Tryd.ntmps19
  go_wp2_with fail
  have h' := h.below hB
  generalize w.alloc (.cells #[x1, x2] 29) = w2 at *
  have HK : Hid (∀ w', Below w2.heap.size w2 w' → w'.cell? ⟨w.heap.size, 0, none⟩ = some x1 ∧ w'.cell? ⟨w.heap.size, 1, none⟩ = some x2) := fun w' hb' => ⟨(hb'.cell (p := ⟨w.heap.size, 0, none⟩) hPl).trans hc0, (hb'.cell (p := ⟨w.heap.size, 1, none⟩) hPl).trans hc1⟩
  clear hc0 hc1
  have HL2 : Hid (Below w2.heap.size w2 ((w2.alloc (.cells #[x1, x2] 29)).drew) ∧ Row2 ((w2.alloc (.cells #[x1, x2] 29)).drew) (.slice (some ⟨w2.heap.size, 0, none⟩) 1 1) [(x1, x2)]) := ⟨(below_alloc w2 _).drew, (Row2.lit (x1, x2) hx).below (Below.refl _ _).drew⟩
  have HLE : Hid (([] ++ l ++ [(x1, x2)]).length = L.length + 1) := by show _ = _; rw [List.nil_append, List.length_append, e.1]; rfl
  have HLB : Hid (([] : List (Value × Value)).length + l.length ≤ 1000000000 ∧ ([] ++ l).length + [(x1, x2)].length ≤ 1000000000) := by refine ⟨?_, ?_⟩ <;> simp only [List.nil_append, List.length_nil, List.length_cons] <;> rw [e.1] <;> omega
  go_region_held3 (fun w' => w'.cell? ⟨w.heap.size, 0, none⟩ = some x1 ∧ w'.cell? ⟨w.heap.size, 1, none⟩ = some x2) (first | exact HK.out _ ((Below.refl w2.heap.size w2).drew) | exact HK.out _ (Below.refl _ _) | exact HK.out _ ((below_alloc w2 _).drew) | exact HK.out _ hb5 | exact HK.out _ (hb3.alloc hb3.size _) | exact HK.out _ hb3 | exact HK.out _ HL2.out.1 | go_keep) ((first | (refine step_app2z slT_rid w2.heap.size _ _ (by rfl) (by rfl) (by rfl) (by rfl) ho3 hl3 HLB.out.2 hb3.size ?_; intro t5 w5 ho5 hg5; have hb5 : Below w2.heap.size w2 w5 := below_own2 hb3 ho3 hg5 hb3.size (Nat.le_refl _); obtain ⟨g5, cp5, rfl, hgB5, hgs5⟩ := ho5.formN (n := L.length + 1) HLE.out (by omega)) | (refine step_app2z slT_rid w2.heap.size _ _ (by rfl) (by rfl) (by rfl) (by rfl) (ho3.alloc _) (Row2.lit (x1, x2) hx) HLB.out.2 (by have := hb3.size; simp; omega) ?_; intro t5 w5 ho5 hg5; have hb5 : Below w2.heap.size w2 w5 := below_own2 (hb3.alloc hb3.size _) (ho3.alloc _) hg5 (by have := hb3.size; simp; omega) (Nat.le_refl _); obtain ⟨g5, cp5, rfl, hgB5, hgs5⟩ := ho5.formN (n := L.length + 1) HLE.out (by omega)) | (refine step_app2z slT_rid w2.heap.size _ _ (by rfl) (by rfl) (by rfl) (by rfl) (Own2.nil _ _ _) (h'.below ((Below.refl w2.heap.size w2).drew)) HLB.out.1 (Nat.le_refl _) ?_; intro t3 w3 ho3 hg3; have hb3 : Below w2.heap.size w2 w3 := below_own2 ((Below.refl w2.heap.size w2).drew) (Own2.nil w2.heap.size 29 w2.drew) hg3 (Nat.le_refl _) (Nat.le_refl _)) | (refine step_app2z slT_rid w2.heap.size _ _ (by rfl) (by rfl) (by rfl) (by rfl) (Own2.nil _ _ _) (h'.below HL2.out.1) HLB.out.1 HL2.out.1.size ?_; intro t3 w3 ho3 hg3; have hb3' := below_own2 (Below.refl _ _) (Own2.nil ((w2.alloc (.cells #[x1, x2] 29)).drew).heap.size 29 ((w2.alloc (.cells #[x1, x2] 29)).drew)) hg3 (Nat.le_refl _) (Nat.le_refl _); have hl3 := HL2.out.2.below hb3'; have hb3 : Below w2.heap.size w2 w3 := below_trans HL2.out.1 hb3')))
  all_goals
    have hB5 := below_trans hB hb5
    have hia : IdL w5 (l ++ [(x1, x2)]) (L ++ [X]) := (IdL.snoc e (p := (x1, x2)) (q := X) h1 h2).below hB5
    have hga : ∀ q ∈ L ++ [X], IdR q := fun q hq => by
      rcases List.mem_append.1 hq with hq | hq
      · exact gL q hq
      · simp at hq; subst hq; exact gX
    have hne : 0 < (thR (L ++ [X])).length := by rw [thR_snoc, stepT]; simp
    have hla : (L ++ [X]).length = L.length + 1 := by simp
    rw [List.nil_append] at ho5
    generalize l ++ [(x1, x2)] = la at *
    generalize hLe : L ++ [X] = La at *
    have HLE2 := Lib.hid hLe
    clear hLe
    have HIA := Lib.hid hia; have HGA := Lib.hid hga; have HLA := Lib.hid hla; have HNE := Lib.hid hne; have HO5 := Lib.hid ho5
    clear hia hga hla hne ho5 hg5 hg3 HL2 HLE HLB HK e h1 h2 h' h gX gL
    have hl1 : L.length + 1 ≤ 100001 := by omega
    clear hl
    go_wp2_with fail
    go_loopw [8, 9] (fun ov iv wr => TrI w5 La ov iv wr) (fun _ iv _ => L.length + 1 - (intOf iv).toNat)
    case atStart => exact ⟨0, [], [], rfl, Nat.zero_le _, Own2.nil _ _ _, IdL.nil _, (by show _ = _; simp), Nat.zero_le _, Below.refl _ _⟩
    case round =>
      obtain ⟨k, lo, Lo, rfl, hk, HO, HI, HT, HLL, hb⟩ := hrel
      rw [HLA.out] at hk
      by_cases hlt : k < L.length + 1
      · obtain ⟨q, hq⟩ : ∃ q, La[k]? = some q := ⟨_, List.getElem?_eq_getElem (by rw [HLA.out]; exact hlt)⟩
        obtain ⟨p, hp⟩ : ∃ p, la[k]? = some p := ⟨_, List.getElem?_eq_getElem (by rw [HIA.out.1, HLA.out]; exact hlt)⟩
        obtain ⟨r1, r2⟩ := HIA.out.2 k p q hp hq
        have hqg := HGA.out q (List.mem_of_getElem? hq)
        have c1 := HO5.out.cellAt (flat2_get hp).1
        have c2 := HO5.out.cellAt (flat2_get hp).2
        obtain ⟨x1, x2⟩ := p
        simp only at r1 r2 c1 c2
        obtain ⟨b1, d1, rfl⟩ := (id r1).formN0 (n := q.1.length) (by rw [ints_length])
        obtain ⟨b2, d2, rfl⟩ := (id r2).formN0 (n := q.2.length) (by rw [ints_length])
        have hdk : La.drop k = q :: La.drop (k + 1) := drop_cons1 hq
        have HC1 := Lib.hid c1; have HC2 := Lib.hid c2; have HR1 := Lib.hid r1; have HR2 := Lib.hid r2; have HDK := Lib.hid hdk; have HQG := Lib.hid hqg
        have HRL : Hid ((La.drop (k + 1)).length = L.length - k) := by show _ = _; rw [List.length_drop, HLA.out]; omega
        have HRG : Hid (∀ j, (La.drop (k + 1))[j]? = La[k + 1 + j]?) := fun j => List.getElem?_drop
        generalize hRD : La.drop (k + 1) = R at *
        have HRD := Lib.hid hRD
        clear hRD
        clear c1 c2 r1 r2 hdk hqg hq hp
        have hk0 : (0 : Int) ≤ k := Int.natCast_nonneg _
        have hk1 : (k : Int) < (L.length : Int) + 1 := by omega
        go_wp2_with fail
        go_loopw [10, 11] (fun av jv wr' => ∃ j : Nat, jv = .int .i64 j ∧ k + 1 ≤ j ∧ j ≤ L.length + 1 ∧ av = .bool ((R.take (j - (k + 1))).any (samM q)) ∧ Below wr.heap.size wr wr') (fun _ jv _ => L.length + 1 - (intOf jv).toNat)
        case atStart => exact ⟨k + 1, by go_num, Nat.le_refl _, by omega, by simp, Below.refl _ _⟩
        case round =>
          obtain ⟨j, rfl, hkj, hj, rfl, hb'⟩ := hrel
          by_cases hjl : j < L.length + 1
          · obtain ⟨z, hz⟩ : ∃ z, La[j]? = some z := ⟨_, List.getElem?_eq_getElem (by rw [HLA.out]; exact hjl)⟩
            obtain ⟨u, hu⟩ : ∃ u, la[j]? = some u := ⟨_, List.getElem?_eq_getElem (by rw [HIA.out.1, HLA.out]; exact hjl)⟩
            have hRz : R[j - (k + 1)]? = some z := by rw [HRG.out, show k + 1 + (j - (k + 1)) = j by omega]; exact hz
            have HAN : Hid ((R.take (j + 1 - (k + 1))).any (samM q) = ((R.take (j - (k + 1))).any (samM q) || samM q z)) := by
              show _ = _
              rw [show j + 1 - (k + 1) = (j - (k + 1)) + 1 by omega, List.take_add_one, hRz, List.any_append]
              simp
            have hbj := below_trans hb hb'
            obtain ⟨s1, s2⟩ := HIA.out.2 j u z hu hz
            have hzg := HGA.out z (List.mem_of_getElem? hz)
            have e1 := HO5.out.cellAt (flat2_get hu).1
            have e2 := HO5.out.cellAt (flat2_get hu).2
            obtain ⟨y1, y2⟩ := u
            simp only at s1 s2 e1 e2
            have HE1 := Lib.hid e1; have HE2 := Lib.hid e2; have HS1 := Lib.hid s1; have HS2 := Lib.hid s2; have HZG := Lib.hid hzg
            clear e1 e2 s1 s2 hzg hu hz hRz
            have hj0 : (0 : Int) ≤ j := Int.natCast_nonneg _
            have hj1 : (j : Int) < (L.length : Int) + 1 := by omega
            obtain ⟨av, HAV⟩ : ∃ av, Hid ((R.take (j - (k + 1))).any (samM q) = av) := ⟨_, rfl⟩
            rw [HAV.out]
            rcases av with _ | _
            · obtain ⟨o, HOO⟩ : ∃ o, Hid (samM q z = o) := ⟨_, rfl⟩
              have HK : Hid (∀ w', Below wr.heap.size wr w' → (fun w' => w'.cell? ⟨g5, k * 2, none⟩ = some (.slice b1 q.1.length d1) ∧ w'.cell? ⟨g5, k * 2 + 1, none⟩ = some (.slice b2 q.2.length d2) ∧ w'.cell? ⟨g5, j * 2, none⟩ = some y1 ∧ w'.cell? ⟨g5, j * 2 + 1, none⟩ = some y2) w') := fun w' h9 => by
                have h8 := below_trans hbj h9
                exact ⟨cell_kept HC1.out h8, cell_kept HC2.out h8, cell_kept HE1.out h8, cell_kept HE2.out h8⟩
              have HSM : Hid (∀ w', Below w5.heap.size w5 w' → Calls Tryd.prog 35 #[.agg #[(.slice b1 q.1.length d1), (.slice b2 q.2.length d2)], .agg #[y1, y2]] w' fun e w'' => e = .returned (.bool o) ∧ Below w'.heap.size w' w'') := fun w' h8 => by
                have h7 := rSame_any (.slice b1 q.1.length d1) (.slice b2 q.2.length d2) y1 y2 q.1 q.2 z.1 z.2 w' (HR1.out.below h8) (HR2.out.below h8) (HS1.out.below h8) (HS2.out.below h8) HQG.out.2.1 HZG.out.2.1 HQG.out.2.2.1 HQG.out.2.2.2 HZG.out.2.2.1 HZG.out.2.2.2
                have e7 : samM (q.1, q.2) (z.1, z.2) = samM q z := rfl
                rw [e7, HOO.out] at h7
                exact h7
              go_wp2_with fail
              refine wp_region_held_drew (S := (fun w' => w'.cell? ⟨g5, k * 2, none⟩ = some (.slice b1 q.1.length d1) ∧ w'.cell? ⟨g5, k * 2 + 1, none⟩ = some (.slice b2 q.2.length d2) ∧ w'.cell? ⟨g5, j * 2, none⟩ = some y1 ∧ w'.cell? ⟨g5, j * 2 + 1, none⟩ = some y2)) (by kernel_rfl) (HK.out _ ((Below.refl wr.heap.size wr).drew)) (fun hHeld => ?_)
              refine wpAnyH_take (i := 0) (v := (.bool false)) rfl (by kernel_rfl) (by kernel_rfl) (by kernel_rfl) (fun _ _ _ h => h) (Or.inl ⟨by rfl, fun _ _ => by go_simp⟩) hHeld ?_
              simp only [Act.put, List.getElem_toArray, List.getElem_cons_zero, List.setIfInBounds_toArray, List.set_cons_zero, List.set_cons_succ]
              refine wpAnyH_take (i := 1) (v := (.bool false)) rfl (by kernel_rfl) (by kernel_rfl) (by kernel_rfl) (fun _ _ _ h => h) (Or.inl ⟨by rfl, fun _ _ => by go_simp⟩) hHeld ?_
              simp only [Act.put, List.getElem_toArray, List.getElem_cons_succ, List.getElem_cons_zero, List.setIfInBounds_toArray, List.set_cons_zero, List.set_cons_succ]
              refine wpAnyH_take (i := 2) (v := (.slice (some ⟨g5, 0, none⟩) (L.length + 1) cp5)) rfl (by kernel_rfl) (by kernel_rfl) (by kernel_rfl) (fun _ _ _ h => h) (Or.inl ⟨by rfl, fun _ _ => by go_simp⟩) hHeld ?_
              simp only [Act.put, List.getElem_toArray, List.getElem_cons_succ, List.getElem_cons_zero, List.setIfInBounds_toArray, List.set_cons_zero, List.set_cons_succ]
              refine wpAnyH_take (i := 3) (v := (.int .i64 k)) rfl (by kernel_rfl) (by kernel_rfl) (by kernel_rfl) (fun _ _ _ h => h) (Or.inl ⟨by rfl, fun _ _ => by go_simp⟩) hHeld ?_
              simp only [Act.put, List.getElem_toArray, List.getElem_cons_succ, List.getElem_cons_zero, List.setIfInBounds_toArray, List.set_cons_zero, List.set_cons_succ]
              refine wpAnyH_take (i := 4) (v := (.pointer (some ⟨g5, k * 2, none⟩))) rfl (by kernel_rfl) (by kernel_rfl) (by kernel_rfl) (fun _ _ _ h => h) (Or.inl ⟨by rfl, fun _ _ => by go_simp⟩) hHeld ?_
              simp only [Act.put, List.getElem_toArray, List.getElem_cons_succ, List.getElem_cons_zero, List.setIfInBounds_toArray, List.set_cons_zero, List.set_cons_succ]
              refine wpAnyH_take (i := 5) (v := (.agg #[(.slice b1 q.1.length d1), (.slice b2 q.2.length d2)])) rfl (by kernel_rfl) (by kernel_rfl) (by kernel_rfl) (fun _ _ _ h => h) (Or.inl ⟨by rfl, fun _ hS => by obtain ⟨s0, s1, s2, s3⟩ := hS; go_simp⟩) hHeld ?_
              simp only [Act.put, List.getElem_toArray, List.getElem_cons_succ, List.getElem_cons_zero, List.setIfInBounds_toArray, List.set_cons_zero, List.set_cons_succ]
              refine wpAnyH_take (i := 6) (v := (.slice (some ⟨g5, 0, none⟩) (L.length + 1) cp5)) rfl (by kernel_rfl) (by kernel_rfl) (by kernel_rfl) (fun _ _ _ h => h) (Or.inl ⟨by rfl, fun _ _ => by go_simp⟩) hHeld ?_
              simp only [Act.put, List.getElem_toArray, List.getElem_cons_succ, List.getElem_cons_zero, List.setIfInBounds_toArray, List.set_cons_zero, List.set_cons_succ]
              refine wpAnyH_take (i := 7) (v := (.int .i64 j)) rfl (by kernel_rfl) (by kernel_rfl) (by kernel_rfl) (fun _ _ _ h => h) (Or.inl ⟨by rfl, fun _ _ => by go_simp⟩) hHeld ?_
              simp only [Act.put, List.getElem_toArray, List.getElem_cons_succ, List.getElem_cons_zero, List.setIfInBounds_toArray, List.set_cons_zero, List.set_cons_succ]
              refine wpAnyH_take (i := 8) (v := (.pointer (some ⟨g5, j * 2, none⟩))) rfl (by kernel_rfl) (by kernel_rfl) (by kernel_rfl) (fun _ _ _ h => h) (Or.inl ⟨by rfl, fun _ _ => by go_simp⟩) hHeld ?_
              simp only [Act.put, List.getElem_toArray, List.getElem_cons_succ, List.getElem_cons_zero, List.setIfInBounds_toArray, List.set_cons_zero, List.set_cons_succ]
              refine wpAnyH_take (i := 9) (v := (.agg #[y1, y2])) rfl (by kernel_rfl) (by kernel_rfl) (by kernel_rfl) (fun _ _ _ h => h) (Or.inl ⟨by rfl, fun _ hS => by obtain ⟨s0, s1, s2, s3⟩ := hS; go_simp⟩) hHeld ?_
              simp only [Act.put, List.getElem_toArray, List.getElem_cons_succ, List.getElem_cons_zero, List.setIfInBounds_toArray, List.set_cons_zero, List.set_cons_succ]
              refine wpAnyH_ready (rs := [10]) (by kernel_rfl) (by simp) ?_
              refine AllReadyH.cons rfl (fun K hK => ?_) AllReadyH.nil
              simp only [List.getElem_toArray, List.getElem_cons_succ, List.getElem_cons_zero]
              rw [if_pos (by rfl)]
              go_simp
              (go_at_call 35; refine (HSM.out _ (hbj.drew)).mono ?_; rintro e w6 ⟨rfl, hb6'⟩; have hb6 : Below wr.heap.size wr w6 := ((Below.refl wr.heap.size wr).drew).trans hb6')
              refine hK.out _ _ (HK.out _ hb6) (fun hHeld => ?_)
              clear hK K
              refine wpAnyH_take (i := 11) (v := (.bool o)) rfl (by kernel_rfl) (by kernel_rfl) (by kernel_rfl) (fun _ _ _ h => h) (Or.inl ⟨by rfl, fun _ _ => by go_simp⟩) hHeld ?_
              simp only [Act.put, List.getElem_toArray, List.getElem_cons_succ, List.getElem_cons_zero, List.setIfInBounds_toArray, List.set_cons_zero, List.set_cons_succ]
              refine wpAnyH_take (i := 12) (v := (.bool o)) rfl (by kernel_rfl) (by kernel_rfl) (by kernel_rfl) (fun _ _ _ h => h) (Or.inl ⟨by rfl, fun _ _ => by go_simp⟩) hHeld ?_
              simp only [Act.put, List.getElem_toArray, List.getElem_cons_succ, List.getElem_cons_zero, List.setIfInBounds_toArray, List.set_cons_zero, List.set_cons_succ]
              refine wpAnyH_done (by kernel_rfl) ?_ _
              go_wp2_with fail
              go_roundw
              case rel => exact ⟨j + 1, by go_num, by omega, by omega, (by rw [HAN.out, HAV.out, HOO.out]; simp), below_trans hb' hb6⟩
              case measure => simp [intOf]; omega
            · go_wp2_with fail
              refine wp_region_held_drew (S := fun _ => True) (by kernel_rfl) trivial (fun hHeld => ?_)
              refine wpAnyH_take (i := 0) (v := (.bool true)) rfl (by kernel_rfl) (by kernel_rfl) (by kernel_rfl) (fun _ _ _ h => h) (Or.inl ⟨by rfl, fun _ hS => by go_simp⟩) hHeld ?_
              simp only [Act.put, List.getElem_toArray, List.getElem_cons_zero, List.setIfInBounds_toArray, List.set_cons_zero, List.set_cons_succ]
              refine wpAnyH_take (i := 1) (v := (.bool true)) rfl (by kernel_rfl) (by kernel_rfl) (by kernel_rfl) (fun _ _ _ h => h) (Or.inl ⟨by rfl, fun _ hS => by go_simp⟩) hHeld ?_
              simp only [Act.put, List.getElem_toArray, List.getElem_cons_succ, List.getElem_cons_zero, List.setIfInBounds_toArray, List.set_cons_zero, List.set_cons_succ]
              refine wpAnyH_take (i := 2) (v := undef) rfl (by kernel_rfl) (by kernel_rfl) (by kernel_rfl) (fun _ _ _ h => h) (Or.inr ⟨by rfl, rfl⟩) hHeld ?_
              simp only [Act.put, List.getElem_toArray, List.getElem_cons_succ, List.getElem_cons_zero, List.setIfInBounds_toArray, List.set_cons_zero, List.set_cons_succ]
              refine wpAnyH_take (i := 3) (v := undef) rfl (by kernel_rfl) (by kernel_rfl) (by kernel_rfl) (fun _ _ _ h => h) (Or.inr ⟨by rfl, rfl⟩) hHeld ?_
              simp only [Act.put, List.getElem_toArray, List.getElem_cons_succ, List.getElem_cons_zero, List.setIfInBounds_toArray, List.set_cons_zero, List.set_cons_succ]
              refine wpAnyH_take (i := 4) (v := undef) rfl (by kernel_rfl) (by kernel_rfl) (by kernel_rfl) (fun _ _ _ h => h) (Or.inr ⟨by rfl, rfl⟩) hHeld ?_
              simp only [Act.put, List.getElem_toArray, List.getElem_cons_succ, List.getElem_cons_zero, List.setIfInBounds_toArray, List.set_cons_zero, List.set_cons_succ]
              refine wpAnyH_take (i := 5) (v := undef) rfl (by kernel_rfl) (by kernel_rfl) (by kernel_rfl) (fun _ _ _ h => h) (Or.inr ⟨by rfl, rfl⟩) hHeld ?_
              simp only [Act.put, List.getElem_toArray, List.getElem_cons_succ, List.getElem_cons_zero, List.setIfInBounds_toArray, List.set_cons_zero, List.set_cons_succ]
              refine wpAnyH_take (i := 6) (v := undef) rfl (by kernel_rfl) (by kernel_rfl) (by kernel_rfl) (fun _ _ _ h => h) (Or.inr ⟨by rfl, rfl⟩) hHeld ?_
              simp only [Act.put, List.getElem_toArray, List.getElem_cons_succ, List.getElem_cons_zero, List.setIfInBounds_toArray, List.set_cons_zero, List.set_cons_succ]
              refine wpAnyH_take (i := 7) (v := undef) rfl (by kernel_rfl) (by kernel_rfl) (by kernel_rfl) (fun _ _ _ h => h) (Or.inr ⟨by rfl, rfl⟩) hHeld ?_
              simp only [Act.put, List.getElem_toArray, List.getElem_cons_succ, List.getElem_cons_zero, List.setIfInBounds_toArray, List.set_cons_zero, List.set_cons_succ]
              refine wpAnyH_take (i := 8) (v := undef) rfl (by kernel_rfl) (by kernel_rfl) (by kernel_rfl) (fun _ _ _ h => h) (Or.inr ⟨by rfl, rfl⟩) hHeld ?_
              simp only [Act.put, List.getElem_toArray, List.getElem_cons_succ, List.getElem_cons_zero, List.setIfInBounds_toArray, List.set_cons_zero, List.set_cons_succ]
              refine wpAnyH_take (i := 9) (v := undef) rfl (by kernel_rfl) (by kernel_rfl) (by kernel_rfl) (fun _ _ _ h => h) (Or.inr ⟨by rfl, rfl⟩) hHeld ?_
              simp only [Act.put, List.getElem_toArray, List.getElem_cons_succ, List.getElem_cons_zero, List.setIfInBounds_toArray, List.set_cons_zero, List.set_cons_succ]
              refine wpAnyH_take (i := 10) (v := undef) rfl (by kernel_rfl) (by kernel_rfl) (by kernel_rfl) (fun _ _ _ h => h) (Or.inr ⟨by rfl, rfl⟩) hHeld ?_
              simp only [Act.put, List.getElem_toArray, List.getElem_cons_succ, List.getElem_cons_zero, List.setIfInBounds_toArray, List.set_cons_zero, List.set_cons_succ]
              refine wpAnyH_take (i := 11) (v := (.bool true)) rfl (by kernel_rfl) (by kernel_rfl) (by kernel_rfl) (fun _ _ _ h => h) (Or.inl ⟨by rfl, fun _ hS => by go_simp⟩) hHeld ?_
              simp only [Act.put, List.getElem_toArray, List.getElem_cons_succ, List.getElem_cons_zero, List.setIfInBounds_toArray, List.set_cons_zero, List.set_cons_succ]
              refine wpAnyH_take (i := 12) (v := (.bool true)) rfl (by kernel_rfl) (by kernel_rfl) (by kernel_rfl) (fun _ _ _ h => h) (Or.inl ⟨by rfl, fun _ hS => by go_simp⟩) hHeld ?_
              simp only [Act.put, List.getElem_toArray, List.getElem_cons_succ, List.getElem_cons_zero, List.setIfInBounds_toArray, List.set_cons_zero, List.set_cons_succ]
              refine wpAnyH_done (by kernel_rfl) ?_ _
              go_wp2_with fail
              go_roundw
              case rel => exact ⟨j + 1, by go_num, by omega, by omega, (by rw [HAN.out, HAV.out]; simp), hb'.drew⟩
              case measure => simp [intOf]; omega
          · obtain rfl : j = L.length + 1 := by omega
            rw [List.take_of_length_le (by rw [HRL.out]; omega)]
            have hbj := below_trans hb hb'
            have c1 := cell_kept HC1.out hbj
            have c2 := cell_kept HC2.out hbj
            obtain ⟨av, HAV⟩ : ∃ av, Hid (R.any (samM q) = av) := ⟨_, rfl⟩
            have hO := HO.out.below hb'
            have HT1 : Hid (thR La = Lo ++ (if av = true then thR R else q :: thR R)) := by
              show _ = _
              rw [HT.out, HDK.out, thR, HAV.out]
            rw [HAV.out]
            rcases av with _ | _
            · go_wp2_with (at_builtin; refine wpList_app2r slT_rid w5.heap.size _ _ rfl rfl rfl rfl (hO.alloc _) (Row2.lit ((.slice b1 q.1.length d1), (.slice b2 q.2.length d2)) ⟨rfl, rfl⟩) (by simp) (by have := HLL.out; simp only [List.length_cons, List.length_nil]; omega) (by have := hbj.size; simp; omega) ?_; intro t7 w7 ho7 hg7; have hb7 : Below w5.heap.size w5 w7 := below_own2 (hbj.alloc hbj.size _) (hO.alloc _) hg7 (by have := hbj.size; simp; omega) (Nat.le_refl _))
              go_roundw
              case rel => exact ⟨k + 1, lo ++ [(((.slice b1 q.1.length d1) : Value), ((.slice b2 q.2.length d2) : Value))], Lo ++ [q], by go_num, (by rw [HLA.out]; omega), ho7, IdL.snoc HI.out HR1.out HR2.out, (by show _ = _; rw [HT1.out, HRD.out]; simp), (by have := HLL.out; show _ ≤ _; simp; omega), hb7⟩
              case measure => simp [intOf]; omega
            · go_wp2_with fail
              go_roundw
              case rel => exact ⟨k + 1, lo, Lo, by go_num, (by rw [HLA.out]; omega), hO, HI.out, (by show _ = _; rw [HT1.out, HRD.out]; simp), (by have := HLL.out; show _ ≤ _; omega), hbj⟩
              case measure => simp [intOf]; omega
      · obtain rfl : k = L.length + 1 := by omega
        have hT : thR La = Lo := by rw [HT.out, List.drop_eq_nil_of_le (by rw [HLA.out]; exact Nat.le_refl _)]; simp [thR]
        have hi := HI.out
        rw [← hT] at hi
        obtain ⟨g6, c6, rfl, hg6, hg62⟩ := HO.out.formN (n := (thR La).length) hi.1 HNE.out
        generalize hm : (thR La).length = m at *
        have HII := Lib.hid hi
        clear hi HI hT
        have hm9 : m ≤ 1000000 := by rw [← hm]; have := thR_len La; rw [HLA.out] at this; omega
        have HW := Lib.hid (wlast m most hm9)
        have HML : Hid (lo.length = m) := by show _ = _; rw [HII.out.1, hm]
        have hx9 := HO.out.row
        go_wp2_with (refine wpList_slL2 slT_rid _ _ rfl rfl rfl rfl hx9 (by first | exact HW.out.1 | omega) (by rw [HML.out]; first | exact HW.out.2.1 | omega) ?_; intro v9 hv9; have r9 := hv9 _ hx9)
        rw [show ((m : Int) - min (m : Int) (max most 0)).toNat = m - min m (max most 0).toNat by omega] at r9
        have hln : lastN most (thR La) = (thR La).drop (m - min m (max most 0).toNat) := by rw [lastN, hm]
        go_ret
        exact ⟨_, _, rfl, r9, (by rw [HLE2.out, hln]; exact (HII.out.drop _).below hb), below_trans hB5 hb⟩
end Go.Proofs.YtcmiopkcgoanpaaDoor
