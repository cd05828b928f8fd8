/- Walks: a message's name read, by the reference. (laid together by program out of single texts). -/
import Derived.Test.YtcmiopkcgoanpaaDoorM20
import Derived.Test.YtcmiopkcgoanpaaDoorM21
namespace Go.Proofs.YtcmiopkcgoanpaaDoor
open Go.RowKit
set_option maxHeartbeats 8000000
set_option maxRecDepth 100000
theorem rgap0_any (v : Value) (xs : List Int) (w : World) (h : Row w v (ints .u8 xs)) (hg : Rg 0 256 xs) (hl : xs.length ≤ 900000) :
    Calls Tryd.prog 24 #[v, .int .i64 0] w fun e w' => e = .returned (.int .i64 (gp xs : Nat)) ∧ w' = w := by
  have := rgap_any v xs 0 w h hg hl (Nat.zero_le _)
  rw [List.drop_zero, Nat.zero_add] at this
  exact this
/-- A block of two cells: what it holds, free to be written. -/
def PQ (P : Nat) (w : World) : Prop := w.cell? ⟨P, 0, none⟩ = some (.slice none 0 0) ∧ w.cell? ⟨P, 1, none⟩ = some (.slice none 0 0) ∧ (∀ j, w.frozen? ⟨P, j, none⟩ = false) ∧ P < w.heap.size
theorem PQ.new (w : World) (T : TypeId) : PQ w.heap.size (w.alloc (.cells #[.slice none 0 0, .slice none 0 0] T)) := by
  obtain ⟨h0, h1⟩ := pair_new w (.slice none 0 0) (.slice none 0 0) T
  refine ⟨h0, h1, fun j => ?_, by simp⟩
  unfold World.frozen?
  rw [heap_alloc_new w _]
  simp
theorem PQ.below {P : Nat} {w w' : World} (h : PQ P w) (hb : Below w.heap.size w w') : PQ P w' := by
  obtain ⟨h0, h1, hf, hP⟩ := h
  exact ⟨(hb.cell (p := ⟨P, 0, none⟩) hP).trans h0, (hb.cell (p := ⟨P, 1, none⟩) hP).trans h1, fun j => (hb.frozen (p := ⟨P, j, none⟩) hP).trans (hf j), Nat.lt_of_lt_of_le hP hb.size⟩
theorem PQ.set {P : Nat} {w : World} (h : PQ P w) (x y : Value) : ((w.setCell ⟨P, 0, none⟩ x).setCell ⟨P, 1, none⟩ y).cell? ⟨P, 0, none⟩ = some x ∧ ((w.setCell ⟨P, 0, none⟩ x).setCell ⟨P, 1, none⟩ y).cell? ⟨P, 1, none⟩ = some y := by
  obtain ⟨h0, h1, _, _⟩ := h
  exact ⟨(cm_other (by decide)).trans (World.cell?_setCell_same' _ _ _ (by rw [h0]; rfl)), World.cell?_setCell_same' _ _ _ (by rw [cm_other (by decide), h1]; rfl)⟩
theorem pair_drew (w : World) (x y : Value) (T : TypeId) : ∃ w3, (w.alloc (.cells #[x, y] T)).drew = w3 ∧ Below w.heap.size w w3 ∧ w3.cell? ⟨w.heap.size, 0, none⟩ = some x ∧ w3.cell? ⟨w.heap.size, 1, none⟩ = some y :=
  ⟨_, rfl, (below_alloc w _).drew, (pair_new w x y T).1, (pair_new w x y T).2⟩
theorem tw_get : ∀ (l : List Int), l.contains 62 = true → l[(tw 62 l).length]? = some 62
  | [], h => by simp at h
  | z :: l, hl => by
    by_cases hz : z = 62
    · subst hz; simp [tw]
    · have h2 : l.contains 62 = true := by
        simp only [List.contains_cons, Bool.or_eq_true] at hl
        rcases hl with h | h
        · simp at h; exact absurd h.symm hz
        · exact h
      have := tw_get l h2
      simp only [tw] at this ⊢
      simp [hz, this]
/-- Where the at-sign lies, when the end does. -/
theorem idx_end {y : List Int} (h : y.contains 62 = true) : idxC 64 (y.take ((tw 62 y).length + 1)) = idxC 64 (tw 62 y) := by
  have hlt := tw_lt h
  have hx : y[(tw 62 y).length]? = some 62 := by
    have : ∀ (l : List Int), l.contains 62 = true → l[(tw 62 l).length]? = some 62 := by
      intro l hl
      induction l with
      | nil => simp at hl
      | cons z l ih =>
        by_cases hz : z = 62
        · subst hz; simp [tw]
        · have h2 : l.contains 62 = true := by
            simp only [List.contains_cons, Bool.or_eq_true] at hl
            rcases hl with h | h
            · simp at h; exact absurd h.symm hz
            · exact h
          have := ih h2
          simp only [tw] at this ⊢
          simp [hz, this]
    exact this y h
  rw [idxC_snoc hx, ← tw_take, if_neg (show ¬ (62 : Int) = 64 by decide)]
  rcases idxC_rng 64 (tw 62 y) with h9 | ⟨h9, _⟩
  · rw [h9]; rfl
  · rw [if_pos h9]
theorem idx_60 (i : List Int) : idxC 64 (60 :: i) = if i.contains 64 = true then 1 + (((tw 64 i).length : Nat) : Int) else -1 := by
  have e1 : ((60 : Int) :: i).contains 64 = i.contains 64 := by simp
  have e2 : tw 64 ((60 : Int) :: i) = 60 :: tw 64 i := by simp [tw]
  unfold idxC
  rw [e1, e2]
  split
  · simp only [List.length_cons]; omega
  · rfl
theorem end_cases {y : List Int} (h : y.contains 62 = true) : ∃ c0, y[0]? = some c0 ∧ ((c0 ≠ 60 ∧ ptM y = ([], [], [], false)) ∨ (c0 = 60 ∧ idxC 64 (tw 62 y) = -1 ∧ ∃ i r, ptM y = (i, [], r, false)) ∨
    (c0 = 60 ∧ ∃ i, tw 62 y = 60 :: i ∧ i.contains 64 = true ∧ idxC 64 (tw 62 y) = 1 + (((tw 64 i).length : Nat) : Int) ∧ ptM y = (tw 64 i, i.drop ((tw 64 i).length + 1), y.drop ((tw 62 y).length + 1), true))) := by
  cases ht : tw 62 y with
  | nil =>
    have := tw_get y h
    rw [ht] at this
    exact ⟨62, this, .inl ⟨by decide, pt_nil h ht⟩⟩
  | cons c i =>
    have h0 : y[0]? = some c := by
      have h1 := tw_take (c := 62) y
      rw [ht] at h1
      have h2 : (y.take (c :: i).length)[0]? = some c := by rw [← h1]; rfl
      rw [List.getElem?_take] at h2
      split at h2
      · exact h2
      · cases h2
    refine ⟨c, h0, ?_⟩
    by_cases h6 : c = 60
    · subst h6
      cases h4 : i.contains 64 with
      | false => exact .inr (.inl ⟨rfl, by rw [idx_60, if_neg (by rw [h4]; decide)], _, _, pt_one h ht h4⟩)
      | true =>
        refine .inr (.inr ⟨rfl, i, rfl, h4, by rw [idx_60, if_pos h4], ?_⟩)
        have := pt_yes h ht h4
        rw [ht] at this
        exact this
    · exact .inl ⟨h6, pt_ne h ht h6⟩
theorem r51Read_any (v : Value) (xs : List Int) (w0 w : World) (hz0 : Row w0 v (ints .u8 xs)) (hzb : Below w0.heap.size w0 w) (hg : Rg 0 256 xs) (hl : xs.length ≤ 400000) :
    Calls Tryd.prog 8 #[v] w fun e w' => ∃ a b, e = .returned (.tuple #[.agg #[a, b], .int .i64 (readM xs).2.2]) ∧ Row w0 a (ints .u8 (readM xs).1) ∧ Row w0 b (ints .u8 (readM xs).2.1) ∧ Below w.heap.size w w' := by
  have h := hz0.below hzb
  have HZ0 := Lib.hid hz0
  have HZB := Lib.hid hzb
  clear hz0 hzb
  have hG := fun w' h' => rgap0_any v xs w' h' hg (by omega)
  have hgl := gp_len xs
  have hdd : (xs.drop (gp xs)).length = xs.length - gp xs := List.length_drop
  have hdi : ∀ j, (xs.drop (gp xs))[j]? = xs[gp xs + j]? := fun j => List.getElem?_drop
  have hrd := readM_pt xs
  generalize readM xs = T at *
  generalize gp xs = n at *
  generalize hye : xs.drop n = y at *
  obtain ⟨a0, b0, off0, cp0, rfl, HC⟩ := id h.op
  have HG := Lib.hid hG; have HY := Lib.hid hye; have HDI := Lib.hid hdi
  clear hG hye hdi
  have hB := below_alloc w (.cells #[.slice none 0 0, .slice none 0 0] 29)
  have HPQ := Lib.hid (PQ.new w 29)
  by_cases h0 : n = xs.length
  · have hy0 : y.length = 0 := by omega
    rw [if_pos hy0] at hrd
    have HRD := Lib.hid hrd
    have hnb : (((n : Nat) : Int) == ((xs.length : Nat) : Int)) = true := by rw [h0]; simp
    have hpq := HPQ.out
    obtain ⟨g0, g1, gf, gP⟩ := id hpq
    have gf0 := gf 0; have gf1 := gf 1
    clear gf hrd hy0 hdd h0
    go_enter Tryd.func8, Tryd.ntmps8
    go_wp2_with (go_at_call 24; refine (HG.out _ (h.below hB)).mono ?_; rintro e w1 ⟨rfl, hw⟩; obtain rfl := hw.symm)
    have hp := pair_new w (.slice none 0 0) (.slice none 0 0) 29
    refine bodyPost_ret (results_c2 rfl _ _ w.heap.size _ rfl (loadID _ _ _ _ _ _ Tryd.underlying29 rfl (by kernel_rfl) hp.1 hp.2)) rfl ?_
    rw [HRD.out]
    exact ⟨_, _, rfl, Row.nil _, Row.nil _, hB⟩
  · have hnb : (((n : Nat) : Int) == ((xs.length : Nat) : Int)) = false := beq_false_of_ne (by omega)
    rw [if_neg (by omega)] at hrd
    have HRD := Lib.hid hrd
    clear hrd
    go_enter Tryd.func8, Tryd.ntmps8
    go_wp2_with (go_at_call 24; refine (HG.out _ (h.below hB)).mono ?_; rintro e w1 ⟨rfl, hw⟩; obtain rfl := hw.symm)
    have HW1 : Hid (PQ w.heap.size (w.alloc (.cells #[.slice none 0 0, .slice none 0 0] 29))) := HPQ.out
    clear HPQ
    have hw1 : Hid (Below w.heap.size w (w.alloc (.cells #[.slice none 0 0, .slice none 0 0] 29))) := hB
    generalize hwe : w.alloc (.cells #[.slice none 0 0, .slice none 0 0] 29) = w1 at *
    clear hwe
    go_loopw [5, 6, 7] (fun av ev kv wr => Hid (RdI n y av ev kv) ∧ wr = w1) (fun _ _ kv _ => xs.length - (intOf kv).toNat)
    case atStart => exact ⟨⟨0, rfl, Nat.zero_le _, rfl, .inl ⟨rfl, rfl⟩⟩, rfl⟩
    case round =>
      obtain ⟨hR, hw⟩ := hrel
      obtain rfl := hw.symm
      obtain ⟨j, rfl, hj, rfl, hE⟩ := hR.out
      have hpl : plc n (idxC 64 (y.take j)) = -1 ∨ ((n : Int) ≤ plc n (idxC 64 (y.take j)) ∧ plc n (idxC 64 (y.take j)) < n + j) := by
        unfold plc
        rcases idxC_rng 64 (y.take j) with h9 | ⟨h9, h8⟩
        · rw [h9]; exact .inl rfl
        · rw [List.length_take] at h8
          rw [if_pos h9]; exact .inr ⟨by omega, by omega⟩
      rcases hE with ⟨rfl, hno⟩ | ⟨rfl, hct, hje⟩
      · by_cases hlt : j < y.length
        · obtain ⟨c, HX, rfl, hc⟩ := HC.out (n + j) (by omega)
          replace hc := hc _ hw1.out
          have hxy : y[j]? = some c := by rw [HDI.out j]; exact HX.out
          have hsn := idxC_snoc (c := 64) hxy
          have hjn : ((n + j : Nat) : Int) = (n : Int) + j := by omega
          by_cases h64 : c = 64
          · subst h64
            have hno2 := cont_snoc hxy hno (by decide)
            rw [if_pos rfl] at hsn
            rcases hpl with hp | ⟨hp1, hp2⟩
            · have hid : idxC 64 (y.take j) = -1 := by
                rcases idxC_rng 64 (y.take j) with h9 | ⟨h9, _⟩
                · exact h9
                · unfold plc at hp; rw [if_pos h9] at hp; omega
              rw [hid, if_neg (by decide)] at hsn
              have hnx : Hid (RdI n y (.int .i64 ((n + j : Nat) : Int)) (.int .i64 (-1)) (.int .i64 ((n + (j + 1) : Nat) : Int))) := ⟨j + 1, rfl, by omega, by rw [hsn, plc, if_pos (by omega), hjn], .inl ⟨rfl, hno2⟩⟩
              rw [hp]
              clear hsn hno hno2 hid hxy hp hjn
              go_wp2
              go_roundw
              case rel =>
                first
                | exact ⟨by simpa [Nat.add_assoc] using hnx, by first | rfl | trivial⟩
                | (refine ⟨?_, by first | rfl | trivial⟩; exact hnx.out)
              case measure => simp [intOf]; omega
            · have hid : 0 ≤ idxC 64 (y.take j) := by
                rcases idxC_rng 64 (y.take j) with h9 | ⟨h9, _⟩
                · rw [h9] at hp1; unfold plc at hp1; rw [if_neg (by decide)] at hp1; omega
                · exact h9
              rw [if_pos hid] at hsn
              have hnx : Hid (RdI n y (.int .i64 (plc n (idxC 64 (y.take j)))) (.int .i64 (-1)) (.int .i64 ((n + (j + 1) : Nat) : Int))) := ⟨j + 1, rfl, by omega, by rw [hsn], .inl ⟨rfl, hno2⟩⟩
              generalize plc n (idxC 64 (y.take j)) = A at *
              clear hsn hno hno2 hid hxy hjn
              go_wp2
              go_roundw
              case rel => exact ⟨by first | exact hnx.out | simpa [Int.add_assoc] using hnx, by first | rfl | trivial⟩
              case measure => simp [intOf]; omega
          · have hs2 : idxC 64 (y.take (j + 1)) = idxC 64 (y.take j) := by
              rw [hsn, if_neg h64]
              rcases idxC_rng 64 (y.take j) with h9 | ⟨h9, _⟩
              · rw [h9]; rfl
              · rw [if_pos h9]
            have b64 : (c == 64) = false := beq_false_of_ne h64
            by_cases h62 : c = 62
            · subst h62
              obtain ⟨hc1, hc2⟩ := tw_at hxy hno
              have hle : (tw 62 y).length = j := by rw [hc2, List.length_take]; omega
              have hnx : Hid (RdI n y (.int .i64 (plc n (idxC 64 (y.take j)))) (.int .i64 ((n + j : Nat) : Int)) (.int .i64 ((n + (j + 1) : Nat) : Int))) := ⟨j + 1, rfl, by omega, by rw [hs2], .inr ⟨by rw [hle], hc1, by rw [hle]⟩⟩
              generalize plc n (idxC 64 (y.take j)) = A at *
              clear hsn hs2 hno hxy hjn hc1 hc2 hle h64
              go_wp2
              go_roundw
              case rel => exact ⟨by first | exact hnx.out | simpa [Int.add_assoc] using hnx, by first | rfl | trivial⟩
              case measure => simp [intOf]; omega
            · have b62 : (c == 62) = false := beq_false_of_ne h62
              have hno2 := cont_snoc hxy hno h62
              have hnx : Hid (RdI n y (.int .i64 (plc n (idxC 64 (y.take j)))) (.int .i64 (-1)) (.int .i64 ((n + (j + 1) : Nat) : Int))) := ⟨j + 1, rfl, by omega, by rw [hs2], .inl ⟨rfl, hno2⟩⟩
              generalize plc n (idxC 64 (y.take j)) = A at *
              clear hsn hs2 hno hno2 hxy hjn h64 h62
              go_wp2
              go_roundw
              case rel => exact ⟨by first | exact hnx.out | simpa [Int.add_assoc] using hnx, by first | rfl | trivial⟩
              case measure => simp [intOf]; omega
        · -- no end at all
          have hjl : j = y.length := by omega
          have hnl : xs.length ≤ n + j := by omega
          rw [hjl, List.take_of_length_le (Nat.le_refl _)] at hno
          have hT : Hid (T = ([], [], 3)) := by show _ = _; rw [HRD.out, pt_no hno]; rfl
          obtain ⟨c, HX, rfl, hc⟩ := HC.out n (by omega)
          replace hc := hc _ hw1.out
          have hpq := HW1.out
          obtain ⟨g0, g1, gf, gP⟩ := id hpq
          have gf0 := gf 0; have gf1 := gf 1
          clear gf hno hjl
          generalize plc n (idxC 64 (y.take j)) = A at *
          have hzz : Hid (∀ x y : Value, Below w.heap.size w ((w1.setCell ⟨w.heap.size, 0, none⟩ x).setCell ⟨w.heap.size, 1, none⟩ y)) := fun x y => (hw1.out.setCell (Nat.le_refl _) _).setCell (Nat.le_refl _) _
          by_cases h60 : c = 60
          · subst h60
            rcases hpl with hp | ⟨hp1, hp2⟩
            · subst hp
              go_wp2
              have hs := hpq.set (.slice none 0 0) (.slice none 0 0); refine bodyPost_ret (results_c2 rfl _ _ w.heap.size _ rfl (loadID _ _ _ _ _ _ Tryd.underlying29 rfl (by kernel_rfl) hs.1 hs.2)) rfl ?_
              rw [hT.out]
              exact ⟨_, _, rfl, Row.nil _, Row.nil _, hzz.out _ _⟩
            · go_wp2
              have hs := hpq.set (.slice none 0 0) (.slice none 0 0); refine bodyPost_ret (results_c2 rfl _ _ w.heap.size _ rfl (loadID _ _ _ _ _ _ Tryd.underlying29 rfl (by kernel_rfl) hs.1 hs.2)) rfl ?_
              rw [hT.out]
              exact ⟨_, _, rfl, Row.nil _, Row.nil _, hzz.out _ _⟩
          · have bne : (c != 60) = true := by simpa using h60
            clear h60
            go_wp2
            have hs := hpq.set (.slice none 0 0) (.slice none 0 0); refine bodyPost_ret (results_c2 rfl _ _ w.heap.size _ rfl (loadID _ _ _ _ _ _ Tryd.underlying29 rfl (by kernel_rfl) hs.1 hs.2)) rfl ?_
            rw [hT.out]
            exact ⟨_, _, rfl, Row.nil _, Row.nil _, hzz.out _ _⟩
      · -- the end is met
        have hlt := tw_lt hct
        have hidx := idx_end hct
        obtain rfl := hje
        rw [hidx] at hpl ⊢
        obtain ⟨c0, hc0, hcases⟩ := end_cases hct
        have hyx : xs[n]? = some c0 := by rw [← hc0, HDI.out 0]; rfl
        obtain ⟨c, HX, rfl, hc⟩ := HC.out n (by omega)
        obtain rfl : c0 = c := Option.some.inj (hyx.symm.trans HX.out)
        replace hc := hc _ hw1.out
        have hpq := HW1.out
        obtain ⟨g0, g1, gf, gP⟩ := id hpq
        have gf0 := gf 0; have gf1 := gf 1
        clear gf hidx hc0 hyx
        have hzz : Hid (∀ x y : Value, Below w.heap.size w ((w1.setCell ⟨w.heap.size, 0, none⟩ x).setCell ⟨w.heap.size, 1, none⟩ y)) := fun x y => (hw1.out.setCell (Nat.le_refl _) _).setCell (Nat.le_refl _) _
        rcases hcases with ⟨h60, hpt⟩ | ⟨rfl, hid, i, r, hpt⟩ | ⟨rfl, i, hI, h4, hid, hpt⟩
        · have hT : Hid (T = ([], [], 3)) := by show _ = _; rw [HRD.out, hpt]; rfl
          have bne : (c0 != 60) = true := by simpa using h60
          clear h60 hpt hct
          generalize plc n (idxC 64 (tw 62 y)) = A at *
          generalize (tw 62 y).length = e0 at *
          go_wp2
          all_goals have hs := hpq.set (.slice none 0 0) (.slice none 0 0); refine bodyPost_ret (results_c2 rfl _ _ w.heap.size _ rfl (loadID _ _ _ _ _ _ Tryd.underlying29 rfl (by kernel_rfl) hs.1 hs.2)) rfl ?_
          all_goals rw [hT.out]
          all_goals exact ⟨_, _, rfl, Row.nil _, Row.nil _, hzz.out _ _⟩
        · have hT : Hid (T = ([], [], 3)) := by show _ = _; rw [HRD.out, hpt]; rfl
          have hA : plc n (idxC 64 (tw 62 y)) = -1 := by rw [hid]; rfl
          rw [hA]
          clear hid hpt hct hA hpl
          generalize (tw 62 y).length = e0 at *
          go_wp2
          all_goals have hs := hpq.set (.slice none 0 0) (.slice none 0 0); refine bodyPost_ret (results_c2 rfl _ _ w.heap.size _ rfl (loadID _ _ _ _ _ _ Tryd.underlying29 rfl (by kernel_rfl) hs.1 hs.2)) rfl ?_
          all_goals rw [hT.out]
          all_goals exact ⟨_, _, rfl, Row.nil _, Row.nil _, hzz.out _ _⟩
        · have hla := tw_lt h4
          have hle : (tw 62 y).length = i.length + 1 := by rw [hI]; rfl
          have hA : plc n (idxC 64 (tw 62 y)) = ((n + 1 + (tw 64 i).length : Nat) : Int) := by rw [hid, plc, if_pos (by omega)]; omega
          rw [hA]
          have hrt : T = rdOf (tw 64 i, i.drop ((tw 64 i).length + 1), xs.drop (n + (tw 62 y).length + 1), true) := by rw [HRD.out, hpt, ← HY.out, List.drop_drop, Nat.add_assoc]
          have hii : i = (xs.take (n + (tw 62 y).length)).drop (n + 1) := by
            have h1 := tw_take (c := 62) y
            rw [hle, hI, ← HY.out] at h1
            rw [hle, List.drop_take, show n + (i.length + 1) - (n + 1) = i.length by omega]
            have h2 : (60 :: i).drop 1 = ((xs.drop n).take (i.length + 1)).drop 1 := by rw [h1]
            rw [List.drop_take, List.drop_drop] at h2
            simpa using h2
          have hL : tw 64 i = (xs.take (n + 1 + (tw 64 i).length)).drop (n + 1) := by
            have h1 := tw_take (c := 64) i
            rw [List.drop_take, show n + 1 + (tw 64 i).length - (n + 1) = (tw 64 i).length by omega]
            have h3 := congrArg (List.take (tw 64 i).length) hii
            rw [List.drop_take, List.take_take, Nat.min_eq_left (by omega)] at h3
            rw [← h3]; exact h1
          have hR : i.drop ((tw 64 i).length + 1) = (xs.take (n + (tw 62 y).length)).drop (n + 1 + (tw 64 i).length + 1) := by
            have h3 := congrArg (List.drop ((tw 64 i).length + 1)) hii
            rw [List.drop_drop, ← Nat.add_assoc] at h3
            exact h3
          obtain ⟨aa, HAA⟩ : ∃ aa, Hid (n + 1 + (tw 64 i).length = aa) := ⟨_, rfl⟩
          obtain ⟨ee, HEE⟩ : ∃ ee, Hid (n + (tw 62 y).length = ee) := ⟨_, rfl⟩
          have ha1 : n + 1 ≤ aa := by have := HAA.out; omega
          have ha2 : aa < ee := by have := HAA.out; have := HEE.out; omega
          have ha3 : ee < xs.length := by have := HEE.out; omega
          have hla2 : (tw 64 i).length = aa - (n + 1) := by have := HAA.out; omega
          have hlr2 : (i.drop ((tw 64 i).length + 1)).length = ee - (aa + 1) := by rw [List.length_drop]; have := HAA.out; have := HEE.out; omega
          rw [HAA.out] at hL hR ⊢
          rw [HEE.out] at hrt hR ⊢
          rw [show n + ((tw 62 y).length + 1) = ee + 1 by have := HEE.out; omega]
          generalize i.drop ((tw 64 i).length + 1) = R at *
          generalize tw 64 i = L at *
          have hgL : Rg 0 256 L := by rw [hL]; exact (hg.take _).drop _
          have hgR : Rg 0 256 R := by rw [hR]; exact (hg.take _).drop _
          clear hA hpl hii hI hla hle hid hpt hct hlt h4 hdd
          have hz1 : xs.length ≤ ee + 1 ∨ ee + 1 < xs.length := by omega
          have hG9 := fun w' h' => rgap_any (.slice (some ⟨b0, off0, none⟩) xs.length cp0) xs (ee + 1) w' h' hg (by omega) (by omega)
          have hgl9 := gp_len (xs.drop (ee + 1))
          have hdl9 : (xs.drop (ee + 1)).length = xs.length - (ee + 1) := List.length_drop
          rw [rdOf] at hrt
          simp only [Bool.true_and] at hrt
          generalize gp (xs.drop (ee + 1)) = g9 at *
          have hq9 : (g9 == (xs.drop (ee + 1)).length) = (ee + 1 + g9 == xs.length) := by rw [hdl9, Bool.eq_iff_iff, beq_iff_eq, beq_iff_eq]; omega
          rw [hq9] at hrt
          generalize ee + 1 + g9 = m9 at *
          have h09 : ((ee + 1 : Nat) : Int) = (ee : Int) + 1 := by omega
          rw [h09] at hG9
          have HG9 := Lib.hid hG9
          clear hG9 hq9 hgl9 hdl9 h09 hz1
          have ha4 : (n : Int) + 1 ≤ aa := by omega
          have ha5 : (aa : Int) < ee := by omega
          have ha6 : (ee : Int) < xs.length := by omega
          by_cases hm : m9 = xs.length
          · have bm : ((m9 : Int) != (xs.length : Int)) = false := by simp; omega
            rw [hm, beq_self_eq_true, if_neg (by decide)] at hrt
            have hT : Hid (T = if chkN L R = 0 then (L, R, 0) else ([], [], chkN L R)) := hrt
            clear hrt
            have hcp : xs.length ≤ cp0 := by
              obtain ⟨_, _, _, _, hv, hc, _⟩ := id h
              rw [ints_length] at hv hc
              injection hv with _ _ h3
              omega
            have hne1 : ¬ cp0 = n + 1 := by omega
            have rL : Hid (Row w0 (.slice (some ⟨b0, off0 + (n + 1), none⟩) (aa - (n + 1)) (cp0 - (n + 1))) (ints .u8 L)) := by
              have := HZ0.out.sub _ _ (by rw [ints_length]) (n + 1) aa ha1 (by rw [ints_length]; omega)
              rw [sliced, if_neg hne1, ints_take, ints_drop, ← hL] at this
              show Row _ _ _
              simpa [addr_add, hla2] using this
            have rR : Hid (Row w0 (.slice (some ⟨b0, off0 + (aa + 1), none⟩) (ee - (aa + 1)) (cp0 - (aa + 1))) (ints .u8 R)) := by
              have := HZ0.out.sub _ _ (by rw [ints_length]) (aa + 1) ee (by omega) (by rw [ints_length]; omega)
              rw [sliced, if_neg (by omega), ints_take, ints_drop, ← hR] at this
              show Row _ _ _
              simpa [addr_add, hlr2] using this
            have rLw : Hid (Row w (.slice (some ⟨b0, off0 + (n + 1), none⟩) (aa - (n + 1)) (cp0 - (n + 1))) (ints .u8 L)) := rL.out.below HZB.out
            have rRw : Hid (Row w (.slice (some ⟨b0, off0 + (aa + 1), none⟩) (ee - (aa + 1)) (cp0 - (aa + 1))) (ints .u8 R)) := rR.out.below HZB.out
            have hne2 : ¬ cp0 = aa + 1 := by omega
            have hcp1 : (aa : Int) ≤ cp0 := by omega
            have hcp2 : (ee : Int) ≤ cp0 := by omega
            have hcp3 : (aa : Int) + 1 ≤ ee := by omega
            go_wp2_with fail
            all_goals (refine (HG9.out _ (h.below hw1.out)).mono ?_; rintro e w2 ⟨rfl, hw2⟩; obtain rfl := hw2.symm)
            all_goals go_wp2
            all_goals go_region
            all_goals (
              obtain ⟨w3, e3, hb3, p0, p1⟩ := pair_drew w1 (.slice (some ⟨b0, off0 + (n + 1), none⟩) (aa - (n + 1)) (cp0 - (n + 1))) (.slice (some ⟨b0, off0 + (aa + 1), none⟩) (ee - (aa + 1)) (cp0 - (aa + 1))) 29
              rw [e3]
              clear e3
              have hbw : Below w.heap.size w w3 := below_trans hw1.out hb3
              have hpq3 := HW1.out.below hb3
              clear g0 g1 gf0 gf1 gP hpq hzz hc HG9 HG HC hw2
              obtain ⟨g0, g1, gf, gP⟩ := id hpq3
              have gf0 := gf 0; have gf1 := gf 1
              clear gf
              have hzz : Hid (∀ x y : Value, Below w.heap.size w ((w3.setCell ⟨w.heap.size, 0, none⟩ x).setCell ⟨w.heap.size, 1, none⟩ y)) := fun x y => (hbw.setCell (Nat.le_refl _) _).setCell (Nat.le_refl _) _
              have hDL := fun w' h' => rDotted_any (.slice (some ⟨b0, off0 + (n + 1), none⟩) (aa - (n + 1)) (cp0 - (n + 1))) L w' h' hgL (by omega)
              have hDR := fun w' h' => rDotted_any (.slice (some ⟨b0, off0 + (aa + 1), none⟩) (ee - (aa + 1)) (cp0 - (aa + 1))) R w' h' hgR (by omega)
              have hLD : Hid ((loadVar 29 ⟨w1.heap.size, 0, none⟩).run Tryd.prog w3 = _) := loadID w3 29 w1.heap.size _ _ _ Tryd.underlying29 rfl (by kernel_rfl) p0 p1
              unfold chkN at hT
              rw [textM_len] at hT
              have hlen : L.length + R.length + 3 = ee + 1 - n := by omega
              rw [hlen] at hT
              have hsub : ((ee : Int) + 1 - n) = ((ee + 1 - n : Nat) : Int) := by omega
              generalize dotB L = p at *
              generalize dotB R = q at *
              cases p <;> cases q
              all_goals have HDL := Lib.hid hDL
              all_goals have HDR := Lib.hid hDR
              all_goals clear hDL hDR
              case' true.true =>
                by_cases hbig : 250 < ee + 1 - n
                · have hT2 : Hid (T = ([], [], 12)) := by show _ = _; rw [hT.out]; simp [hbig]
                  have hbi : (250 : Int) < (ee : Int) + 1 - n := by omega
                  clear hT hLD
                  go_wp2_with fail
                  refine (HDL.out _ (rLw.out.below hbw)).mono ?_; rintro e w4 ⟨rfl, hw4⟩; obtain rfl := hw4.symm
                  go_wp2_with fail
                  refine (HDR.out _ (rRw.out.below hbw)).mono ?_; rintro e w4 ⟨rfl, hw4⟩; obtain rfl := hw4.symm
                  go_wp2
                  have hs := hpq3.set (.slice none 0 0) (.slice none 0 0); refine bodyPost_ret (results_c2 rfl _ _ w.heap.size _ rfl (loadID _ _ _ _ _ _ Tryd.underlying29 rfl (by kernel_rfl) hs.1 hs.2)) rfl ?_
                  rw [hT2.out]
                  exact ⟨_, _, rfl, Row.nil _, Row.nil _, hzz.out _ _⟩
                · have hT2 : Hid (T = (L, R, 0)) := by show _ = _; rw [hT.out]; simp [hbig]
                  have hbi : (ee : Int) + 1 - n ≤ 250 := by omega
                  have hld := hLD.out
                  clear hT
                  go_wp2_with fail
                  refine (HDL.out _ (rLw.out.below hbw)).mono ?_; rintro e w4 ⟨rfl, hw4⟩; obtain rfl := hw4.symm
                  go_wp2_with fail
                  refine (HDR.out _ (rRw.out.below hbw)).mono ?_; rintro e w4 ⟨rfl, hw4⟩; obtain rfl := hw4.symm
                  go_wp2
                  have hs := hpq3.set (.slice (some ⟨b0, off0 + (n + 1), none⟩) (aa - (n + 1)) (cp0 - (n + 1))) (.slice (some ⟨b0, off0 + (aa + 1), none⟩) (ee - (aa + 1)) (cp0 - (aa + 1)))
                  refine bodyPost_ret (results_c2 rfl _ _ w.heap.size _ rfl (loadID _ _ _ _ _ _ Tryd.underlying29 rfl (by kernel_rfl) hs.1 hs.2)) rfl ?_
                  rw [hT2.out]
                  exact ⟨_, _, rfl, rL.out, rR.out, hzz.out _ _⟩
              case' true.false =>
                have hT2 : Hid (T = ([], [], 3)) := by show _ = _; rw [hT.out]; rfl
                clear hT hLD
                go_wp2_with fail
                refine (HDL.out _ (rLw.out.below hbw)).mono ?_; rintro e w4 ⟨rfl, hw4⟩; obtain rfl := hw4.symm
                go_wp2_with fail
                refine (HDR.out _ (rRw.out.below hbw)).mono ?_; rintro e w4 ⟨rfl, hw4⟩; obtain rfl := hw4.symm
                go_wp2
                have hs := hpq3.set (.slice none 0 0) (.slice none 0 0); refine bodyPost_ret (results_c2 rfl _ _ w.heap.size _ rfl (loadID _ _ _ _ _ _ Tryd.underlying29 rfl (by kernel_rfl) hs.1 hs.2)) rfl ?_
                rw [hT2.out]
                exact ⟨_, _, rfl, Row.nil _, Row.nil _, hzz.out _ _⟩
              all_goals (
                have hT2 : Hid (T = ([], [], 3)) := by show _ = _; rw [hT.out]; rfl
                clear hT hLD
                go_wp2_with fail
                refine (HDL.out _ (rLw.out.below hbw)).mono ?_; rintro e w4 ⟨rfl, hw4⟩; obtain rfl := hw4.symm
                go_wp2
                have hs := hpq3.set (.slice none 0 0) (.slice none 0 0); refine bodyPost_ret (results_c2 rfl _ _ w.heap.size _ rfl (loadID _ _ _ _ _ _ Tryd.underlying29 rfl (by kernel_rfl) hs.1 hs.2)) rfl ?_
                rw [hT2.out]
                exact ⟨_, _, rfl, Row.nil _, Row.nil _, hzz.out _ _⟩))
          · have bm : ((m9 : Int) != (xs.length : Int)) = true := by simp; omega
            rw [beq_false_of_ne hm, if_pos rfl] at hrt
            have hT : Hid (T = ([], [], 3)) := hrt
            clear hrt
            go_wp2_with fail
            all_goals (refine (HG9.out _ (h.below hw1.out)).mono ?_; rintro e w2 ⟨rfl, hw2⟩; obtain rfl := hw2.symm)
            all_goals go_wp2
            all_goals have hs := hpq.set (.slice none 0 0) (.slice none 0 0); refine bodyPost_ret (results_c2 rfl _ _ w.heap.size _ rfl (loadID _ _ _ _ _ _ Tryd.underlying29 rfl (by kernel_rfl) hs.1 hs.2)) rfl ?_
            all_goals rw [hT.out]
            all_goals exact ⟨_, _, rfl, Row.nil _, Row.nil _, hzz.out _ _⟩
end Go.Proofs.YtcmiopkcgoanpaaDoor
