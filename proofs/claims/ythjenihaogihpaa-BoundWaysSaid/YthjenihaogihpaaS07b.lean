/- The statements of layer 7 on places, walked. -/
import Derived.Test.YthjenihaogihpaaS07
import Derived.Test.YthjenihaogihpaaW07m
import Derived.Test.YthjenihaogihpaaW07j
namespace Go.Proofs.Ythjenihaogihpaa
open Go.RowKit
set_option maxHeartbeats 1000000
theorem contains_snoc {l : List Int} {k : Nat} {y n : Int} (h : l[k]? = some y) : (l.take (k + 1)).contains n = ((l.take k).contains n || y == n) := by
  rw [List.take_add_one, h]
  by_cases hy : y = n
  · subst hy; simp
  · have h1 : (y == n) = false := beq_false_of_ne hy
    simp [h1, Ne.symm hy]
set_option maxRecDepth 100000 in
theorem like1_quiet (v1 v2 : Value) (xs ys : List Int) (w : World) (h1 : Row w v1 (ints .u8 xs)) (h2 : Row w v2 (ints .u8 ys)) (hl : xs.length ≤ 1000000000) (hl' : ys.length ≤ 1000000000) :
    Calls Try.prog 22 #[v1, v2] w fun e w' => e = .returned (.bool (decide (xs = ys))) ∧ ∃ m, w' = w.drewN m := by
  obtain ⟨a1, b1, o1, c1, rfl, HC1⟩ := h1.op
  obtain ⟨a2, b2, o2, c2, rfl, HC2⟩ := h2.op
  clear h1 h2
  by_cases hn : xs.length = ys.length
  · have hne : ((xs.length : Int) != (ys.length : Int)) = false := by simp [hn]
    have HN := Lib.hid hn; clear hn
    go_enter Try.func22, Try.ntmps22
    go_wp2
    clear hne
    go_loopw [5] (fun i wr => ∃ k : Nat, k ≤ xs.length ∧ i = .int .i64 k ∧ Hid (xs.take k = ys.take k) ∧ ∃ m, Hid (wr = w.drewN m)) (fun i _ => xs.length - (intOf i).toNat)
    case atStart => exact ⟨0, Nat.zero_le _, rfl, rfl, 0, rfl⟩
    case round =>
      obtain ⟨k, hk, rfl, HT, m0, HW⟩ := hrel
      have hb : Below w.heap.size w wr := by rw [HW.out]; exact below_drewN (Below.refl _ _) _
      by_cases hlt : k < xs.length
      · have hlt2 : k < ys.length := by have := HN.out; omega
        obtain ⟨x, HX, rfl, hc⟩ := HC1.out k hlt
        obtain ⟨y, HY, rfl, hd⟩ := HC2.out k hlt2
        replace hc := hc _ hb
        replace hd := hd _ hb
        by_cases hxy : x = y
        · subst hxy
          go_wp2_with fail
          go_quiet (fail)
          go_wp2
          go_roundw
          case rel => exact ⟨k + 1, by omega, by go_num, (by rw [List.take_add_one, List.take_add_one, HX.out, HY.out, HT.out] : xs.take (k + 1) = ys.take (k + 1)), m0 + nq, (by rw [HW.out, World.drewN_drewN] : wr.drewN nq = w.drewN (m0 + nq))⟩
          case measure => simp [intOf]; omega
        · have hne : (x != y) = true := by simpa using hxy
          go_wp2_with fail
          go_quiet (fail)
          go_wp2
          go_ret
          refine ⟨ret_bool (decide_eq_false ?_).symm, m0 + nq, by rw [HW.out, World.drewN_drewN]⟩
          intro he
          subst he
          exact hxy (Option.some.inj (HX.out.symm.trans HY.out))
      · go_wp2
        go_ret
        refine ⟨ret_bool (decide_eq_true ?_).symm, m0, HW.out⟩
        have := HT.out
        rwa [List.take_of_length_le (by omega), List.take_of_length_le (by have := HN.out; omega)] at this
  · have hne : ((xs.length : Int) != (ys.length : Int)) = true := by rw [bne_iff_ne]; omega
    have HN := Lib.hid hn; clear hn
    go_enter Try.func22, Try.ntmps22
    go_wp2
    go_ret
    exact ⟨ret_bool (decide_eq_false (fun h => HN.out (by rw [h]))).symm, 0, rfl⟩
theorem like1_same (v1 v2 : Value) (xs : List Int) (w : World) (h1 : Row w v1 (ints .u8 xs)) (h2 : Row w v2 (ints .u8 xs)) (hl : xs.length ≤ 1000000) :
    Calls Try.prog 22 #[v1, v2] w fun e w' => e = .returned (.bool true) ∧ ∃ m, w' = w.drewN m := by
  have := like1_quiet v1 v2 xs xs w h1 h2 (by omega) (by omega)
  rw [decide_eq_true rfl] at this; exact this
set_option maxRecDepth 100000 in
theorem BoundPlaces_walk (v : Value) (xs : List Int) (n : Int) (w : World) (h : Row w v (ints .u8 xs)) (g : WF .u8 xs) (gn : (Lit.int .i64 n).wf = true) :
    Calls Try.prog 6 #[v, .int .i64 n] w fun e w' => e = .returned (.bool true) ∧ Below w.heap.size w w' := by
  obtain ⟨a, b, off, cap, rfl, _⟩ := id h.op
  have hb := Below.refl w.heap.size w
  have hn := wf_i64 gn
  by_cases hl : xs.length ≤ 300
  · have hgx := g.u8
    have hlm : xs.length ≤ 1000000 := by omega
    have hpl := places_max hlm
    have hP := fun v w' h' => oPlaces_any v xs w' h' hgx hlm
    have hQ := fun v w' h' => rPlaces_any v xs w' h' hgx hlm
    have hA := fun v w' h' => oAt_any v xs n w' h' hgx hlm
    have hN1 := fun v w' h' => oNext_any v xs n w' h' hgx hlm
    have hN2 := fun v w' h' => rNext_any v xs n w' h' hgx hlm
    have hB1 := fun v w' h' => oBack_any v xs n w' h' hgx hlm
    have hB2 := fun v w' h' => rBack_any v xs n w' h' hgx hlm
    have hM1 := fun v w' h' => oNth_any v xs n w' h' hgx hlm hn
    have hM2 := fun v w' h' => rNth_any v xs n w' h' hgx hlm hn
    generalize pnext xs n = q1 at *
    generalize pback xs n = q2 at *
    generalize pnth xs n = q3 at *
    generalize places xs = l at *
    obtain ⟨is, HIS⟩ : ∃ is, Hid (l.contains n = is) := ⟨_, rfl⟩
    rw [HIS.out] at hA
    have HP := Lib.hid hP; have HQ := Lib.hid hQ; have HA := Lib.hid hA; have HN1 := Lib.hid hN1; have HN2 := Lib.hid hN2; have HB1 := Lib.hid hB1; have HB2 := Lib.hid hB2; have HM1 := Lib.hid hM1; have HM2 := Lib.hid hM2
    clear hP hQ hA hN1 hN2 hB1 hB2 hM1 hM2
    have hrow := h
    go_enter Try.func6, Try.ntmps6
    go_wp2_with (first | (go_at_call 21; refine (HP.out _ _ hrow).mono ?_; rintro e w1 ⟨t1, rfl, ho1, hb1⟩; replace hb := below_trans hb hb1; replace hrow := hrow.below hb1) | (go_at_call 26; refine (HQ.out _ _ hrow).mono ?_; rintro e w2 ⟨t2, rfl, ho2, hb2⟩; replace hb := below_trans hb hb2; replace hrow := hrow.below hb2; obtain ⟨a1, b1, o1, c1, rfl, C1⟩ := (ho1.row.below hb2).op; obtain ⟨a2, b2, o2, c2, rfl, C2⟩ := ho2.row.op; clear ho1 ho2 hb1 hb2))
    go_loopw [7, 25] (fun u i wr => ∃ (k : Nat) (z : Bool), i = .int .i64 k ∧ k ≤ l.length ∧ u = .bool z ∧ Hid ((l.take k).contains n = z) ∧ wr = w2) (fun _ i _ => l.length - (intOf i).toNat)
    case atStart => exact ⟨0, false, rfl, Nat.zero_le _, rfl, (rfl : List.contains [] n = false), rfl⟩
    case round =>
      obtain ⟨k, z, rfl, hk, rfl, HZ, rfl⟩ := hrel
      by_cases hlt : k < l.length
      · obtain ⟨y1, X1, rfl, d1⟩ := C1.out k hlt
        obtain ⟨y2, X2, rfl, d2⟩ := C2.out k hlt
        obtain rfl : y1 = y2 := by have := X1.out; rw [X2.out] at this; exact (Option.some.inj this).symm
        replace d1 := d1 _ (Below.refl _ _)
        replace d2 := d2 _ (Below.refl _ _)
        have h2 := contains_snoc (n := n) X1.out
        rw [HZ.out] at h2
        have H2 := Lib.hid h2; clear h2
        rcases z with _ | _
        all_goals
          go_wp2
          go_roundw
          case rel => exact ⟨k + 1, _, by go_num, by omega, rfl, H2, by first | rfl | trivial⟩
          case measure => simp [intOf]; omega
      · have h2 := HZ.out
        rw [List.take_of_length_le (by omega), HIS.out] at h2
        subst h2
        go_wp2_with fail
        refine (HA.out _ _ hrow).mono ?_
        rintro e w3 ⟨rfl, hb3⟩
        replace hb := below_trans hb hb3
        replace hrow := hrow.below hb3
        have ha : (is == is) = true := by cases is <;> rfl
        go_wp2_with (first | (go_at_call 28; refine (HN1.out _ _ hrow).mono ?_; rintro e w4 ⟨rfl, hb4⟩; replace hb := below_trans hb hb4; replace hrow := hrow.below hb4) | (go_at_call 29; refine (HN2.out _ _ hrow).mono ?_; rintro e w5 ⟨rfl, hb5⟩; replace hb := below_trans hb hb5; replace hrow := hrow.below hb5) | (go_at_call 30; refine (HB1.out _ _ hrow).mono ?_; rintro e w6 ⟨rfl, hb6⟩; replace hb := below_trans hb hb6; replace hrow := hrow.below hb6) | (go_at_call 31; refine (HB2.out _ _ hrow).mono ?_; rintro e w7 ⟨rfl, hb7⟩; replace hb := below_trans hb hb7; replace hrow := hrow.below hb7) | (go_at_call 32; refine (HM1.out _ _ hrow).mono ?_; rintro e w8 ⟨rfl, hb8⟩; replace hb := below_trans hb hb8; replace hrow := hrow.below hb8) | (go_at_call 33; refine (HM2.out _ _ hrow).mono ?_; rintro e w9 ⟨rfl, hb9⟩; replace hb := below_trans hb hb9; replace hrow := hrow.below hb9) | (go_at_call 19; refine (alive07_any _).mono ?_; rintro e w10 ⟨rfl, hb10⟩; replace hb := below_trans hb hb10))
        go_ret
        exact ⟨rfl, hb⟩
  · go_enter Try.func6, Try.ntmps6
    go_wp2_with (go_at_call 19; refine (alive07_any _).mono ?_; rintro e w7 ⟨rfl, hb7⟩)
    go_ret
    exact ⟨rfl, hb7⟩
set_option maxRecDepth 100000 in
theorem BoundCuts_walk (v : Value) (xs : List Int) (n : Int) (w : World) (h : Row w v (ints .u8 xs)) (g : WF .u8 xs) (gn : (Lit.int .i64 n).wf = true) :
    Calls Try.prog 5 #[v, .int .i64 n] w fun e w' => e = .returned (.bool true) ∧ Below w.heap.size w w' := by
  obtain ⟨a, b, off, cap, rfl, _⟩ := id h.op
  have hb := Below.refl w.heap.size w
  have hn := wf_i64 gn
  by_cases hl : xs.length ≤ 300
  · have hgx := g.u8
    have hlm : xs.length ≤ 1000000 := by omega
    have hS := fun v w' h' => oSplit_any v xs n w' h' hgx hlm hn.1 hn.2
    have hT := fun v w' h' => rSplit_any v xs n w' h' hgx hlm hn.1 hn.2
    have hC := fun v w' h' => oCut_any v xs n w' h' hgx hlm
    have hD := fun v w' h' => rCut_any v xs n w' h' hgx hlm
    have HPL : Hid (∀ p ∈ pieces n xs, p.length ≤ 1000000) := fun p hp => Nat.le_trans (pieces_mem_len hp) hlm
    have HPN : Hid ((pieces n xs).length ≤ 300) := Nat.le_trans (Nat.le_trans (psplit_len _ _ _) (esg_len xs)) hl
    have HQL : Hid ((xs.take (pcut xs n).toNat).length ≤ 1000000) := by show _ ≤ _; rw [List.length_take]; omega
    generalize pieces n xs = L at *
    generalize xs.take (pcut xs n).toNat = q at *
    have HS := Lib.hid hS; have HT := Lib.hid hT; have HC := Lib.hid hC; have HD := Lib.hid hD
    clear hS hT hC hD
    have hrow := h
    go_enter Try.func5, Try.ntmps5
    go_wp2_with (first | (go_at_call 20; refine (HS.out _ _ hrow).mono ?_; rintro e w1 ⟨t1, vs1, rfl, ho1, hO1, hb1⟩; replace hb := below_trans hb hb1; replace hrow := hrow.below hb1) | (go_at_call 23; refine (HT.out _ _ hrow).mono ?_; rintro e w2 ⟨t2, vs2, rfl, ho2, ⟨hl2, hO2⟩, hb2⟩; replace hb := below_trans hb hb2; replace hrow := hrow.below hb2; have rt1 := ho1.row.below hb2; have rt2 := ho2.row; have HV1 : Hid (∀ (i : Nat) (v : Value) (p : List Int), vs1[i]? = some v → L[i]? = some p → Row w2 v (ints .u8 p)) := fun i v p h1 h2 => (hO1.2 i v p h1 h2).row.below hb2; have HV2 := Lib.hid hO2; have hl1 := hO1.1; clear hO1 hO2 ho1 ho2 hb1 hb2; obtain ⟨a1, b1, o1, c1, rfl, _, _, ha1, _, hc1⟩ := rt1; obtain ⟨a2, b2, o2, c2, rfl, _, _, ha2, _, hc2⟩ := rt2; have HA1 := Lib.hid ha1; have HA2 := Lib.hid ha2; have HC1 := Lib.hid hc1; have HC2 := Lib.hid hc2; clear ha1 ha2 hc1 hc2; have hbb := Below.refl w2.heap.size w2; have hb0 := hb) | (go_at_call 24; refine (HC.out _ _ hrow).mono ?_; rintro e w3 ⟨t3, rfl, r3, hb3⟩; replace hb := below_trans hb hb3; replace hbb := below_trans hbb hb3; replace hrow := hrow.below hb3) | (go_at_call 25; refine (HD.out _ _ hrow).mono ?_; rintro e w4 ⟨t4, rfl, r4, hb4⟩; replace hb := below_trans hb hb4; replace hbb := below_trans hbb hb4; replace r3 := r3.below hb4) | (go_at_call 22; refine (like1_any _ _ _ _ _ r3 r4 (by have := HQL.out; omega) (by have := HQL.out; omega)).mono ?_; rintro e w6 ⟨rfl, hb6⟩; rw [decide_eq_true rfl]; replace hb := below_trans hb hb6; replace hbb := below_trans hbb hb6))
    go_loopw [35] (fun i wr => ∃ (k : Nat), i = .int .i64 k ∧ k ≤ L.length ∧ Below w2.heap.size w2 wr) (fun i _ => L.length - (intOf i).toNat)
    case atStart => exact ⟨0, rfl, Nat.zero_le _, hbb⟩
    case round =>
      obtain ⟨k, rfl, hk, hbr⟩ := hrel
      by_cases hlt : k < L.length
      · obtain ⟨p, hp⟩ : ∃ p, L[k]? = some p := ⟨_, List.getElem?_eq_getElem hlt⟩
        obtain ⟨v1, hv1⟩ : ∃ v1, vs1[k]? = some v1 := ⟨_, List.getElem?_eq_getElem (by omega)⟩
        obtain ⟨v2, hv2⟩ : ∃ v2, vs2[k]? = some v2 := ⟨_, List.getElem?_eq_getElem (by omega)⟩
        have r1 := (HV1.out k v1 p hv1 hp).below hbr
        have r2 := (HV2.out k v2 p hv2 hp).below hbr
        have d1 := HC1.out k v1 hv1
        have d2 := HC2.out k v2 hv2
        rcases HA1.out with rfl | ⟨h0, _⟩
        case inr => rw [h0] at hl1; simp at hl1; omega
        rcases HA2.out with rfl | ⟨h0, _⟩
        case inr => rw [h0] at hl2; simp at hl2; omega
        replace d1 := (hbr.cell (World.block_lt_of_cell? w2 _ d1)).trans d1
        replace d2 := (hbr.cell (World.block_lt_of_cell? w2 _ d2)).trans d2
        obtain ⟨a3, b3, o3, c3, rfl, _⟩ := id r1.op
        obtain ⟨a4, b4, o4, c4, rfl, _⟩ := id r2.op
        have hpl := HPL.out p (List.mem_of_getElem? hp)
        have hk3 := HPN.out
        clear hp hv1 hv2
        go_wp2_with fail
        go_quiet ((go_at_call 22; exact Calls.quiet_of (like1_same _ _ p _ (r1.drewN _) (r2.drewN _) hpl)))
        go_wp2
        go_roundw
        case rel => exact ⟨k + 1, by go_num, by omega, below_drewN hbr _⟩
        case measure => simp [intOf]; omega
      · go_wp2_with (go_at_call 19; refine (alive07_any _).mono ?_; rintro e w10 ⟨rfl, hb10⟩)
        go_ret
        exact ⟨rfl, below_trans (below_trans hb0 hbr) hb10⟩
  · go_enter Try.func5, Try.ntmps5
    go_wp2_with (go_at_call 19; refine (alive07_any _).mono ?_; rintro e w7 ⟨rfl, hb7⟩)
    go_ret
    exact ⟨rfl, hb7⟩
end Go.Proofs.Ythjenihaogihpaa
