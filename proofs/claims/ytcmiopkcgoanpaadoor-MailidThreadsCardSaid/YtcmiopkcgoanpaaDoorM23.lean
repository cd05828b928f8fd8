/- Walks: lists of names compared. · Walks: the names of a list, by the reference. · The statement of layer 51 on what is read, walked. (laid together by program out of single texts). -/
import Derived.StillTailTactics
import Derived.Test.YtcmiopkcgoanpaaDoorM21
import Derived.Test.YtcmiopkcgoanpaaDoorM22
namespace Go.Proofs.YtcmiopkcgoanpaaDoor
open Go.RowKit
set_option maxHeartbeats 4000000
set_option maxRecDepth 100000
/-- The records l read as the names L. -/
def IdL (w : World) (l : List (Value × Value)) (L : List (List Int × List Int)) : Prop :=
  l.length = L.length ∧ ∀ (i : Nat) (p : Value × Value) (q : List Int × List Int), l[i]? = some p → L[i]? = some q → Row w p.1 (ints .u8 q.1) ∧ Row w p.2 (ints .u8 q.2)
theorem OwL.rows {B : Nat} {w : World} {l : List (Value × Value)} {L : List (List Int × List Int)} (h : OwL B w l L) : IdL w l L :=
  ⟨h.1, fun i p q h1 h2 => ⟨(h.2 i p q h1 h2).1.row, (h.2 i p q h1 h2).2.row⟩⟩
theorem IdL.below {w w' : World} {l : List (Value × Value)} {L : List (List Int × List Int)} (h : IdL w l L) (hb : Below w.heap.size w w') : IdL w' l L :=
  ⟨h.1, fun i p q h1 h2 => ⟨(h.2 i p q h1 h2).1.below hb, (h.2 i p q h1 h2).2.below hb⟩⟩
theorem all_any (v1 v2 : Value) (l1 l2 : List (Value × Value)) (L : List (List Int × List Int)) (w : World) (h1 : Row2 w v1 l1) (h2 : Row2 w v2 l2) (e1 : IdL w l1 L) (e2 : IdL w l2 L) (hL : ∀ q ∈ L, q.1.length ≤ 900000 ∧ q.2.length ≤ 900000) (hn : L.length ≤ 900000) :
    Calls Tryd.prog 12 #[v1, v2] w fun e w' => e = .returned (.bool true) ∧ Below w.heap.size w w' := by
  obtain ⟨a1, b1, off1, cp1, rfl, hc1, hm1, ha1, ho1, hcell1⟩ := h1
  obtain ⟨a2, b2, off2, cp2, rfl, hc2, hm2, ha2, ho2, hcell2⟩ := h2
  have hl1 := e1.1
  have hl2 := e2.1
  rw [hl1, hl2]
  rw [hl1] at hc1; rw [hl2] at hc2
  have HC1 := Lib.hid hcell1; have HC2 := Lib.hid hcell2
  have HA1 := Lib.hid ha1; have HA2 := Lib.hid ha2
  have HE1 := Lib.hid e1; have HE2 := Lib.hid e2
  have HL := Lib.hid hL
  have HL1 := Lib.hid hl1; have HL2 := Lib.hid hl2
  clear hcell1 hcell2 ha1 ha2 e1 e2 hL hl1 hl2 ho1 ho2 hm1 hm2
  go_enter Tryd.func12, Tryd.ntmps12
  go_wp2
  go_loopw [13] (fun i wr => ∃ k : Nat, i = .int .i64 k ∧ k ≤ L.length ∧ Below w.heap.size w wr) (fun i _ => L.length - (intOf i).toNat)
  case atStart => exact ⟨0, rfl, Nat.zero_le _, Below.refl _ _⟩
  case round =>
    obtain ⟨k, rfl, hk, hb⟩ := hrel
    by_cases hlt : k < L.length
    · obtain ⟨q, hq⟩ : ∃ q, L[k]? = some q := ⟨_, List.getElem?_eq_getElem hlt⟩
      obtain ⟨p1, hp1⟩ : ∃ p, l1[k]? = some p := ⟨_, List.getElem?_eq_getElem (by rw [HL1.out]; exact hlt)⟩
      obtain ⟨p2, hp2⟩ : ∃ p, l2[k]? = some p := ⟨_, List.getElem?_eq_getElem (by rw [HL2.out]; exact hlt)⟩
      obtain ⟨r1, r2⟩ := HE1.out.2 k p1 q hp1 hq
      obtain ⟨r3, r4⟩ := HE2.out.2 k p2 q hp2 hq
      have hql := HL.out q (List.mem_of_getElem? hq)
      obtain rfl : a1 = some ⟨b1, off1, none⟩ := by
        rcases HA1.out with h9 | ⟨h9, _⟩
        · exact h9
        · rw [h9] at hp1; simp at hp1
      obtain rfl : a2 = some ⟨b2, off2, none⟩ := by
        rcases HA2.out with h9 | ⟨h9, _⟩
        · exact h9
        · rw [h9] at hp2; simp at hp2
      have c1 := cell_kept (HC1.out _ _ (flat2_get hp1).1) hb
      have c2 := cell_kept (HC1.out _ _ (flat2_get hp1).2) hb
      have c3 := cell_kept (HC2.out _ _ (flat2_get hp2).1) hb
      have c4 := cell_kept (HC2.out _ _ (flat2_get hp2).2) hb
      obtain ⟨x1, y1⟩ := p1
      obtain ⟨x2, y2⟩ := p2
      obtain ⟨A, B⟩ := q
      simp only at r1 r2 r3 r4 c1 c2 c3 c4 hql
      have hS := fun w' hw => same_any x1 y1 x2 y2 A B A B w' (r1.below hw) (r2.below hw) (r3.below hw) (r4.below hw) hql.1 hql.2 hql.1 hql.2
      rw [decide_eq_true rfl, decide_eq_true rfl] at hS
      have HS := Lib.hid hS
      clear hS hp1 hp2 hq r1 r2 r3 r4 hql
      rw [← Nat.add_assoc] at c2 c4
      go_wp2_with fail
      go_still_tail 8, (by kernel_rfl)
      change wpList _ _ _ _ _ wr.drew
      go_wp2_with fail
      refine (HS.out _ hb.drew).mono ?_
      rintro e w2 ⟨rfl, hb2⟩
      have hB2 := below_trans hb.drew hb2
      go_wp2_with fail
      go_roundw
      case rel => exact ⟨k + 1, by go_num, by omega, hB2⟩
      case measure => simp [intOf]; omega
    · go_wp2
      go_ret
      exact ⟨rfl, hb⟩
end Go.Proofs.YtcmiopkcgoanpaaDoor
namespace Go.Proofs.YtcmiopkcgoanpaaDoor
open Go.RowKit
set_option maxHeartbeats 8000000
set_option maxRecDepth 100000
theorem slT_rid : SlT2 Tryd.prog 35 29 := SlT2.mk (z := .agg #[.slice none 0 0, .slice none 0 0]) (bytes := 48) (by kernel_rfl) (by kernel_rfl) (by omega) rfl
theorem IdL.nil (w : World) : IdL w [] [] := ⟨rfl, by simp⟩
theorem IdL.snoc {w : World} {l : List (Value × Value)} {L : List (List Int × List Int)} {p : Value × Value} {q : List Int × List Int} (h : IdL w l L) (h1 : Row w p.1 (ints .u8 q.1)) (h2 : Row w p.2 (ints .u8 q.2)) : IdL w (l ++ [p]) (L ++ [q]) := by
  refine ⟨by simp [h.1], fun i p' q' hp hq => ?_⟩
  rcases Nat.lt_or_ge i l.length with hi | hi
  · rw [List.getElem?_append_left hi] at hp
    rw [List.getElem?_append_left (by rw [← h.1]; exact hi)] at hq
    exact h.2 i p' q' hp hq
  · rw [List.getElem?_append_right hi] at hp
    rw [List.getElem?_append_right (by rw [← h.1]; exact hi), ← h.1] at hq
    cases hk : i - l.length with
    | zero => rw [hk] at hp hq; simp at hp hq; subst hp hq; exact ⟨h1, h2⟩
    | succ n => rw [hk] at hp; simp at hp
theorem tw_ne : ∀ (l : List Int) (j : Nat) (x : Int), j < (tw 62 l).length → l[j]? = some x → x ≠ 62
  | [], j, x, h, hx => by simp at hx
  | z :: l, j, x, h, hx => by
    by_cases hz : z = 62
    · subst hz; simp [tw] at h
    · cases j with
      | zero => simp at hx; subst hx; exact hz
      | succ j =>
        have : j < (tw 62 l).length := by
          simp only [tw] at h ⊢
          simp [hz] at h
          exact h
        exact tw_ne l j x this (by simpa using hx)
theorem tw_full : ∀ (l : List Int), l.contains 62 = false → tw 62 l = l
  | [], _ => rfl
  | z :: l, h => by
    simp only [List.contains_cons, Bool.or_eq_false_iff] at h
    have hz : z ≠ 62 := by intro e; subst e; simp at h
    have := tw_full l h.2
    simp only [tw] at this ⊢
    simp [hz, this]
/-- The end of a name, found. -/
theorem nd_cases (y : List Int) : (y.contains 62 = true ∧ y[(tw 62 y).length]? = some 62 ∧ ndM y = (tw 62 y).length + 1 ∧ (tw 62 y).length < y.length) ∨ (y.contains 62 = false ∧ (tw 62 y).length = y.length ∧ ndM y = y.length) := by
  cases h : y.contains 62 with
  | true => exact .inl ⟨rfl, tw_get y h, by rw [ndM, if_pos h], tw_lt h⟩
  | false => exact .inr ⟨rfl, by rw [tw_full y h], by rw [ndM, if_neg (by rw [h]; decide)]⟩
/-- What the loop of the reference's List keeps. -/
def LrI (w : World) (xs : List Int) (lv ov iv : Value) (wr : World) : Prop :=
  ∃ (j : Nat) (l : List (Value × Value)) (L : List (List Int × List Int)) (m : Nat), ov = .int .i64 m ∧ j ≤ xs.length ∧ iv = .int .i64 ((j + gp (xs.drop j) : Nat) : Int) ∧ Hid (Own2 w.heap.size 29 wr lv l) ∧ Hid (IdL w l L) ∧
    Hid (listM xs = (L ++ (listM (xs.drop j)).1, m + (listM (xs.drop j)).2)) ∧ m ≤ j ∧ Hid (l.length ≤ j) ∧ Below w.heap.size w wr
theorem r51List_any (v : Value) (xs : List Int) (w : World) (h : Row w v (ints .u8 xs)) (hg : Rg 0 256 xs) (hl : xs.length ≤ 400000) :
    Calls Tryd.prog 10 #[v] w fun e w' => ∃ t l, e = .returned (.tuple #[t, .int .i64 ((listM xs).2 : Nat)]) ∧ Own2 w.heap.size 29 w' t l ∧ IdL w l (listM xs).1 ∧ Below w.heap.size w w' := by
  have hG0 := fun w' h' => rgap0_any v xs w' h' hg (by omega)
  have hG := fun j w' h' hj => rgap_any v xs j w' h' hg (by omega) hj
  obtain ⟨a0, b0, off0, cp0, rfl, HC⟩ := id h.op
  have HG0 := Lib.hid hG0; have HG := Lib.hid hG
  clear hG0 hG
  go_enter Tryd.func10, Tryd.ntmps10
  go_wp2_with (go_at_call 24; refine (HG0.out _ h).mono ?_; rintro e w1 ⟨rfl, hw⟩; obtain rfl := hw.symm)
  go_loopw [4, 5, 6] (fun lv ov iv wr => LrI w xs lv ov iv wr) (fun _ _ iv _ => xs.length - (intOf iv).toNat)
  case atStart => exact ⟨0, [], [], 0, rfl, Nat.zero_le _, by rw [List.drop_zero, Nat.zero_add], Own2.nil _ _ _, IdL.nil _, by show _ = _; simp, Nat.le_refl _, Nat.le_refl _, Below.refl _ _⟩
  case round =>
    obtain ⟨j, l, L, m, rfl, hj, rfl, HOL, HEL, HLM, hml, HLL, hb⟩ := hrel
    have hat := listM_at (xs.drop j)
    have hgl := gp_len (xs.drop j)
    have hdd : (xs.drop j).length = xs.length - j := List.length_drop
    generalize hne : j + gp (xs.drop j) = n at *
    have hdr : (xs.drop j).drop (gp (xs.drop j)) = xs.drop n := by rw [List.drop_drop, hne]
    rw [hdr] at hat
    have hn1 : n ≤ xs.length := by omega
    have hyl : (xs.drop n).length = xs.length - n := List.length_drop
    have hdi : ∀ j, (xs.drop n)[j]? = xs[n + j]? := fun j => List.getElem?_drop
    have hnj : j ≤ n := by omega
    by_cases h0 : n = xs.length
    · rw [if_pos (by omega)] at hat
      have e9 : listM xs = (L, m) := by rw [HLM.out, hat]; simp
      have HE9 := Lib.hid e9
      clear hat hdr e9 hgl hdd hne hyl hdi
      subst h0
      go_wp2
      go_ret2
      rw [HE9.out]
      exact ⟨_, l, rfl, HOL.out, HEL.out, hb⟩
    · rw [if_neg (by omega)] at hat
      have hlt : n < xs.length := by omega
      have hnd := nd_cases (xs.drop n)
      have hnd1 := ndM_pos (y := xs.drop n) (by omega)
      have hnd2 := ndM_le (xs.drop n)
      have HDI := Lib.hid hdi
      have htn := tw_ne (xs.drop n)
      generalize hye : xs.drop n = y at *
      have hdy : y.drop (ndM y) = xs.drop (n + ndM y) := by rw [← hye, List.drop_drop]
      have hty : y.take (ndM y) = (xs.take (n + ndM y)).drop n := by rw [← hye, List.drop_take, Nat.add_sub_cancel_left]
      have htl : (y.take (ndM y)).length ≤ 400000 := by rw [List.length_take]; omega
      have hgy : Rg 0 256 (y.take (ndM y)) := by rw [hty]; exact (hg.take _).drop _
      have hRD := fun v2 w' h' hb' => r51Read_any v2 (y.take (ndM y)) w w' h' hb' hgy htl
      rw [hdy] at hat
      have htl2 : (tw 62 y).length ≤ y.length := tw_len 62 y
      generalize ndM y = nd at *
      generalize (readM (y.take nd)).1 = xa at *
      generalize (readM (y.take nd)).2.1 = xb at *
      generalize (readM (y.take nd)).2.2 = xe at *
      generalize (tw 62 y).length = tn at *
      generalize hT3 : y.take nd = Y3 at *
      have HT3 := Lib.hid hty; have HRD := Lib.hid hRD; have HAT := Lib.hid hat; have HTN := Lib.hid htn
      have hnd3 : n + nd ≤ xs.length := by omega
      have hmn : n + tn ≤ xs.length := by omega
      have HHL := Lib.hid hlt
      clear hty hRD hat htn hdr hT3 hgy htl hdy hye hdi h0 hgl hdd
      have hnd' : (xs[n + tn]? = some 62 ∧ nd = tn + 1 ∧ n + tn < xs.length) ∨ (n + tn = xs.length ∧ n + nd = xs.length) := by
        rcases hnd with ⟨_, h1, h2, h3⟩ | ⟨_, h1, h2⟩
        · exact .inl ⟨by rw [← HDI.out]; exact h1, h2, by omega⟩
        · exact .inr ⟨by omega, by omega⟩
      clear hnd
      have HND := Lib.hid hnd'
      clear hnd'
      go_wp2
      go_loopw [7] (fun kv wr' => (∃ c, c ≤ tn ∧ kv = .int .i64 ((n + c : Nat) : Int)) ∧ wr' = wr) (fun kv _ => xs.length - (intOf kv).toNat)
      case atStart => exact ⟨⟨0, Nat.zero_le _, rfl⟩, rfl⟩
      case round =>
        obtain ⟨⟨c, hct, rfl⟩, hw⟩ := hrel
        obtain rfl := hw.symm
        by_cases hcl : c < tn
        · obtain ⟨x, HX, rfl, hc⟩ := HC.out (n + c) (by omega)
          replace hc := hc _ hb
          have hx : x ≠ 62 := HTN.out c x hcl (by rw [HDI.out]; exact HX.out)
          have bx : (x != 62) = true := by simpa using hx
          go_wp2
          go_roundw
          case rel => exact ⟨⟨c + 1, by omega, by go_num⟩, by first | rfl | trivial⟩
          case measure => simp [intOf]; omega
        · obtain rfl : c = tn := by omega
          obtain ⟨g6, HG6⟩ : ∃ g6, Hid (n + nd + gp (xs.drop (n + nd)) = g6) := ⟨_, rfl⟩
          have HGI : Hid (∀ (q : Int) (w' : World), q = ((n + nd : Nat) : Int) → Row w' (.slice a0 xs.length cp0) (ints .u8 xs) → Calls Tryd.prog 24 #[.slice a0 xs.length cp0, .int .i64 q] w' fun e w'' => e = .returned (.int .i64 ((g6 : Nat) : Int)) ∧ w'' = w') := by
            intro q w' hq h'
            rw [hq, ← HG6.out]
            exact HG.out _ _ h' hnd3
          have HNDS : Hid (∀ q : Int, q = ((n + nd : Nat) : Int) → q.toNat = n + nd) := fun q hq => by omega
          have hgl2 := gp_len (xs.drop (n + nd))
          have hdl2 : (xs.drop (n + nd)).length = xs.length - (n + nd) := List.length_drop
          have HMS : Hid (xs.length - g6 < xs.length - n) := by show _ < _; have := HHL.out; have := HG6.out; omega
          have HN2 : Hid ((0 : Int) ≤ n ∧ (n : Int) ≤ ((n + nd : Nat) : Int) ∧ ((n + nd : Nat) : Int) ≤ (ints .u8 xs).length) := ⟨by omega, by omega, by rw [ints_length]; omega⟩
          have HLL2 : Hid (l.length + 1 ≤ n + nd) := by show _ ≤ _; have := HLL.out; omega
          have HMM : Hid (m + 1 ≤ n + nd) := by show _ ≤ _; omega
          have HXE : Hid (∀ e : Int, (e = 0) = (e = 0)) := fun _ => rfl
          clear hgl2 hdl2 HXE
          rcases HND.out with ⟨hx, hnt, hlt2⟩ | ⟨hnt, hnt2⟩
          case' inl =>
            obtain ⟨x, HX, rfl, hc⟩ := HC.out (n + c) hlt2
            obtain rfl : x = 62 := Option.some.inj (HX.out.symm.trans hx)
            replace hc := hc _ hb
            clear HX hx
          all_goals
            by_cases hxe : xe = 0
            case' pos => subst hxe
            case' neg => have hxb : (xe == 0) = false := beq_false_of_ne hxe
          all_goals
            go_wp2_with (refine wpList_slLH slT_u8 _ _ _ rfl rfl rfl rfl rfl (h.below hb) HN2.out.1 (by have := HN2.out.2.1; omega) (by have := HN2.out.2.2; omega) ?_; intro v2 hv2; have r2 : Row w v2 (ints .u8 Y3) := (by have := hv2 w h; (first | rw [HNDS.out (min ((xs.length : Int) + 1) xs.length) (by omega)] at this | rw [HNDS.out (min ((n : Int) + c + 1) xs.length) (by omega)] at this); rw [Int.toNat_natCast, ints_take, ints_drop, ← HT3.out] at this; exact this); clear hv2)
            refine (HRD.out _ _ r2 hb).mono ?_
            rintro e w3 ⟨pa, pb, rfl, ra, rb, hb3⟩
            obtain ⟨a5, c5, rfl⟩ := ra.formN0 (n := xa.length) (by rw [ints_length])
            obtain ⟨a6, c6, rfl⟩ := rb.formN0 (n := xb.length) (by rw [ints_length])
            have hB3 := below_trans hb hb3
            have hol3 := (HOL.out.below hb3).alloc (.cells #[.slice a5 xa.length c5, .slice a6 xb.length c6] 29)
            have hB4 := hB3.alloc hB3.size (.cells #[.slice a5 xa.length c5, .slice a6 xb.length c6] 29)
            have HLIT : Hid (Row2 ((w3.alloc (.cells #[.slice a5 xa.length c5, .slice a6 xb.length c6] 29)).alloc (.cells #[.slice a5 xa.length c5, .slice a6 xb.length c6] 29)) (.slice (some ⟨w3.heap.size + 1, 0, none⟩) 1 1) [(.slice a5 xa.length c5, .slice a6 xb.length c6)]) := by
              have h9 := Row2.lit (w := w3.alloc (.cells #[.slice a5 xa.length c5, .slice a6 xb.length c6] 29)) (E := 29) (.slice a5 xa.length c5, .slice a6 xb.length c6) ⟨rfl, rfl⟩
              have e9 : (w3.alloc (.cells #[.slice a5 xa.length c5, .slice a6 xb.length c6] 29)).heap.size = w3.heap.size + 1 := by simp
              rw [e9] at h9
              exact h9
            obtain ⟨hp0, hp1⟩ := pair_new w3 (.slice a5 xa.length c5) (.slice a6 xb.length c6) 29
          · have hB5 := hB4; go_wp2_with (refine (HGI.out _ _ (by omega) (h.below hB5)).mono ?_; rintro e w6 ⟨rfl, hw6⟩; obtain rfl := hw6.symm)
            go_roundw
            case rel => exact ⟨n + nd, l, L, m + 1, by go_num, hnd3, by rw [HG6.out], hol3, HEL.out, by (show _ = _; rw [HLM.out, HAT.out, if_neg hxe]; simp; omega), HMM.out, by (show _ ≤ _; have := HLL2.out; omega), hB5⟩
            case measure => simpa [intOf] using HMS.out
          · go_wp2_with (first | (at_builtin; refine wpList_app2r slT_rid _ _ _ rfl rfl rfl rfl (hol3.below (below_alloc _ (.cells #[.slice a5 xa.length c5, .slice a6 xb.length c6] 29))) HLIT.out (by simp) (by have := HLL2.out; simp only [List.length_cons, List.length_nil]; omega) (by have := hB4.size; simp at this ⊢; omega) ?_; intro t5 w5 hown5 hg5; have hB5 : Below w.heap.size w w5 := below_own2 (hB4.alloc hB4.size (.cells #[.slice a5 xa.length c5, .slice a6 xb.length c6] 29)) (hol3.below (below_alloc _ (.cells #[.slice a5 xa.length c5, .slice a6 xb.length c6] 29))) hg5 (by have := hB4.size; simp at this ⊢; omega) (Nat.le_refl _)) | (refine (HGI.out _ _ (by omega) (h.below hB5)).mono ?_; rintro e w6 ⟨rfl, hw6⟩; obtain rfl := hw6.symm))
            go_roundw
            case rel => exact ⟨n + nd, l ++ [(.slice a5 xa.length c5, .slice a6 xb.length c6)], L ++ [(xa, xb)], m, rfl, hnd3, by rw [HG6.out], Lib.hid hown5, IdL.snoc HEL.out ra rb, by (show _ = _; rw [HLM.out, HAT.out]; simp), by (have := HMM.out; omega), by (show _ ≤ _; have := HLL2.out; simp; omega), hB5⟩
            case measure => simpa [intOf] using HMS.out
          · have hB5 := hB4; go_wp2_with (refine (HGI.out _ _ (by omega) (h.below hB5)).mono ?_; rintro e w6 ⟨rfl, hw6⟩; obtain rfl := hw6.symm)
            go_roundw
            case rel => exact ⟨n + nd, l, L, m + 1, by go_num, hnd3, by rw [HG6.out], hol3, HEL.out, by (show _ = _; rw [HLM.out, HAT.out, if_neg hxe]; simp; omega), HMM.out, by (show _ ≤ _; have := HLL2.out; omega), hB5⟩
            case measure => simpa [intOf] using HMS.out
          · go_wp2_with (first | (at_builtin; refine wpList_app2r slT_rid _ _ _ rfl rfl rfl rfl (hol3.below (below_alloc _ (.cells #[.slice a5 xa.length c5, .slice a6 xb.length c6] 29))) HLIT.out (by simp) (by have := HLL2.out; simp only [List.length_cons, List.length_nil]; omega) (by have := hB4.size; simp at this ⊢; omega) ?_; intro t5 w5 hown5 hg5; have hB5 : Below w.heap.size w w5 := below_own2 (hB4.alloc hB4.size (.cells #[.slice a5 xa.length c5, .slice a6 xb.length c6] 29)) (hol3.below (below_alloc _ (.cells #[.slice a5 xa.length c5, .slice a6 xb.length c6] 29))) hg5 (by have := hB4.size; simp at this ⊢; omega) (Nat.le_refl _)) | (refine (HGI.out _ _ (by omega) (h.below hB5)).mono ?_; rintro e w6 ⟨rfl, hw6⟩; obtain rfl := hw6.symm))
            go_roundw
            case rel => exact ⟨n + nd, l ++ [(.slice a5 xa.length c5, .slice a6 xb.length c6)], L ++ [(xa, xb)], m, rfl, hnd3, by rw [HG6.out], Lib.hid hown5, IdL.snoc HEL.out ra rb, by (show _ = _; rw [HLM.out, HAT.out]; simp), by (have := HMM.out; omega), by (show _ ≤ _; have := HLL2.out; simp; omega), hB5⟩
            case measure => simpa [intOf] using HMS.out
end Go.Proofs.YtcmiopkcgoanpaaDoor
namespace Go.Proofs.YtcmiopkcgoanpaaDoor
open Go.RowKit
set_option maxHeartbeats 4000000
set_option maxRecDepth 100000
theorem readM_len (xs : List Int) : (readM xs).1.length ≤ xs.length ∧ (readM xs).2.1.length ≤ xs.length := by
  rw [readM_pt]
  have h1 := ptM_len (xs.drop (gp xs))
  have h2 : (xs.drop (gp xs)).length ≤ xs.length := by rw [List.length_drop]; omega
  split
  · simp
  · unfold rdOf
    split
    · simp
    · split
      · simp only []; omega
      · simp
theorem listM_len : ∀ (n : Nat) (xs : List Int), xs.length ≤ n → (listM xs).1.length ≤ xs.length ∧ ∀ q ∈ (listM xs).1, q.1.length ≤ xs.length ∧ q.2.length ≤ xs.length
  | 0, xs, h => by
    rw [listM_at, if_pos (by rw [List.length_drop]; omega)]
    simp
  | n + 1, xs, h => by
    rw [listM_at]
    have hdl : (xs.drop (gp xs)).length ≤ xs.length := by rw [List.length_drop]; omega
    split
    · simp
    · rename_i h0
      have h1 := ndM_pos h0
      have hrd := readM_len ((xs.drop (gp xs)).take (ndM (xs.drop (gp xs))))
      have htk : ((xs.drop (gp xs)).take (ndM (xs.drop (gp xs)))).length ≤ xs.length := by rw [List.length_take]; omega
      have hdr : ((xs.drop (gp xs)).drop (ndM (xs.drop (gp xs)))).length + 1 ≤ xs.length := by rw [List.length_drop]; omega
      have ih := listM_len n _ (show ((xs.drop (gp xs)).drop (ndM (xs.drop (gp xs)))).length ≤ n by omega)
      split
      · refine ⟨by simp only [List.length_cons]; omega, fun q hq => ?_⟩
        rcases List.mem_cons.1 hq with rfl | hq
        · exact ⟨Nat.le_trans hrd.1 htk, Nat.le_trans hrd.2 htk⟩
        · have := ih.2 q hq
          omega
      · refine ⟨by simp only []; omega, fun q hq => ?_⟩
        have := ih.2 q hq
        omega
/-- What is asked of the tables of the library's: nothing. -/
def Tz (_ : World) : Prop := True
theorem MailidReads_walk (v : Value) (xs : List Int) (w : World) (_ : Tz w) (h : Row w v (ints .u8 xs)) (g : WF .u8 xs) :
    Calls Tryd.prog 3 #[v] w fun e w' => e = .returned (.bool true) ∧ Below w.heap.size w w' := by
  have hg : Rg 0 256 xs := fun x hx => wf_u8 (g x hx)
  obtain ⟨a0, c0, rfl⟩ := (id h).formN0 (n := xs.length) (by rw [ints_length])
  by_cases hl : xs.length ≤ 400
  · have hA1 := fun w' h' => mRead_any (.slice a0 xs.length c0) xs w' h' hg (by omega)
    have hA2 := fun w1 w' h' hb => r51Read_any (.slice a0 xs.length c0) xs w1 w' h' hb hg (by omega)
    have hA3 := fun w' h' => mList_any (.slice a0 xs.length c0) xs w' h' hg (by omega)
    have hA4 := fun w' h' => r51List_any (.slice a0 xs.length c0) xs w' h' hg (by omega)
    have hA5 := fun w' h' => mDotted_any (.slice a0 xs.length c0) xs w' h' hg (by omega)
    have hA6 := fun w' h' => rDotted_any (.slice a0 xs.length c0) xs w' h' hg (by omega)
    have hr := readM_len xs
    have hll := listM_len _ xs (Nat.le_refl _)
    generalize (readM xs).1 = xa at *
    generalize (readM xs).2.1 = xb at *
    generalize (readM xs).2.2 = xe at *
    generalize (listM xs).1 = L at *
    generalize (listM xs).2 = m at *
    generalize dotB xs = dt at *
    have HA1 := Lib.hid hA1; have HA2 := Lib.hid hA2; have HA3 := Lib.hid hA3; have HA4 := Lib.hid hA4; have HA5 := Lib.hid hA5; have HA6 := Lib.hid hA6
    clear hA1 hA2 hA3 hA4 hA5 hA6
    have HLL : Hid ((∀ q ∈ L, q.1.length ≤ 900000 ∧ q.2.length ≤ 900000) ∧ L.length ≤ 900000) := ⟨fun q hq => by have := hll.2 q hq; omega, by omega⟩
    have HX : Hid (xa.length ≤ 900000 ∧ xb.length ≤ 900000) := ⟨by omega, by omega⟩
    clear hr hll
    have bi : ∀ (x : Int), (x == x) = true := fun x => by simp
    go_enter Tryd.func3, Tryd.ntmps3
    go_wp2_with fail
    refine (HA1.out _ h).mono ?_
    rintro e w1 ⟨pa, pb, rfl, oa, ob, hb1⟩
    obtain ⟨a5, c5, rfl⟩ := oa.row.formN0 (n := xa.length) (by rw [ints_length])
    obtain ⟨a6, c6, rfl⟩ := ob.row.formN0 (n := xb.length) (by rw [ints_length])
    have ra := oa.row
    have rb := ob.row
    clear oa ob
    obtain ⟨g0, g1⟩ := pair_new w1 (.slice a5 xa.length c5) (.slice a6 xb.length c6) 25
    have gP : w1.heap.size < (w1.alloc (.cells #[.slice a5 xa.length c5, .slice a6 xb.length c6] 25)).heap.size := by simp
    have hb2 := hb1.alloc hb1.size (.cells #[.slice a5 xa.length c5, .slice a6 xb.length c6] 25)
    replace ra := ra.alloc (.cells #[.slice a5 xa.length c5, .slice a6 xb.length c6] 25)
    replace rb := rb.alloc (.cells #[.slice a5 xa.length c5, .slice a6 xb.length c6] 25)
    go_wp2_with fail
    generalize w1.alloc (.cells #[.slice a5 xa.length c5, .slice a6 xb.length c6] 25) = w2 at *
    generalize w1.heap.size = P at *
    clear hb1
    refine (HA2.out _ _ (h.below hb2) (Below.refl _ _)).mono ?_
    rintro e w3 ⟨pc, pd, rfl, rc, rd, hb3⟩
    obtain ⟨a7, c7, rfl⟩ := rc.formN0 (n := xa.length) (by rw [ints_length])
    obtain ⟨a8, c8, rfl⟩ := rd.formN0 (n := xb.length) (by rw [ints_length])
    obtain ⟨k0, k1⟩ := pair_new w3 (.slice a7 xa.length c7) (.slice a8 xb.length c8) 29
    have kP : w3.heap.size < (w3.alloc (.cells #[.slice a7 xa.length c7, .slice a8 xb.length c8] 29)).heap.size := by simp
    have hb23 := hb3.alloc hb3.size (.cells #[.slice a7 xa.length c7, .slice a8 xb.length c8] 29)
    have hb4 := below_trans hb2 hb23
    replace ra := ra.below hb23
    replace rb := rb.below hb23
    replace rc := rc.below hb23
    replace rd := rd.below hb23
    replace g0 := (hb23.cell (p := ⟨P, 0, none⟩) gP).trans g0
    replace g1 := (hb23.cell (p := ⟨P, 1, none⟩) gP).trans g1
    replace gP := Nat.lt_of_lt_of_le gP hb23.size
    go_wp2_with fail
    generalize w3.alloc (.cells #[.slice a7 xa.length c7, .slice a8 xb.length c8] 29) = w4 at *
    generalize w3.heap.size = Q at *
    clear hb3 hb23 hb2
    refine (HA3.out _ (h.below hb4)).mono ?_
    rintro e w5 ⟨t5, l5, rfl, o5, ol5, hb45⟩
    have r5 := o5.row
    have il5 := ol5.rows
    clear o5 ol5
    replace ra := ra.below hb45
    replace rb := rb.below hb45
    replace rc := rc.below hb45
    replace rd := rd.below hb45
    replace g0 := (hb45.cell (p := ⟨P, 0, none⟩) gP).trans g0
    replace g1 := (hb45.cell (p := ⟨P, 1, none⟩) gP).trans g1
    replace k0 := (hb45.cell (p := ⟨Q, 0, none⟩) kP).trans k0
    replace k1 := (hb45.cell (p := ⟨Q, 1, none⟩) kP).trans k1
    replace gP := Nat.lt_of_lt_of_le gP hb45.size
    replace kP := Nat.lt_of_lt_of_le kP hb45.size
    have hb5 := below_trans hb4 hb45
    clear hb45 hb4
    go_wp2_with fail
    refine (HA4.out _ (h.below hb5)).mono ?_
    rintro e w6 ⟨t6, l6, rfl, o6, ol6, hb56⟩
    have r6 := o6.row
    have il6 := ol6.below hb56
    clear o6 ol6
    replace ra := ra.below hb56
    replace rb := rb.below hb56
    replace rc := rc.below hb56
    replace rd := rd.below hb56
    replace r5 := r5.below hb56
    replace il5 := il5.below hb56
    replace g0 := (hb56.cell (p := ⟨P, 0, none⟩) gP).trans g0
    replace g1 := (hb56.cell (p := ⟨P, 1, none⟩) gP).trans g1
    replace k0 := (hb56.cell (p := ⟨Q, 0, none⟩) kP).trans k0
    replace k1 := (hb56.cell (p := ⟨Q, 1, none⟩) kP).trans k1
    have hb6 := below_trans hb5 hb56
    clear hb56 hb5 gP kP
    go_wp2_with fail
    refine (same_any _ _ _ _ _ _ _ _ _ ra rb rc rd HX.out.1 HX.out.2 HX.out.1 HX.out.2).mono ?_
    rintro e w7 ⟨rfl, hb67⟩
    rw [decide_eq_true rfl, decide_eq_true rfl]
    replace r5 := r5.below hb67
    replace il5 := il5.below hb67
    replace r6 := r6.below hb67
    replace il6 := il6.below hb67
    have hb7 := below_trans hb6 hb67
    clear hb67 hb6 ra rb rc rd g0 g1 k0 k1
    go_wp2_with fail
    refine (all_any _ _ _ _ L _ r5 r6 il5 il6 HLL.out.1 HLL.out.2).mono ?_
    rintro e w8 ⟨rfl, hb78⟩
    have hb8 := below_trans hb7 hb78
    clear hb78 hb7 r5 r6 il5 il6
    go_wp2_with fail
    refine (HA5.out _ (h.below hb8)).mono ?_
    rintro e w9 ⟨rfl, hb89⟩
    have hb9 := below_trans hb8 hb89
    clear hb89 hb8
    go_wp2_with fail
    refine (HA6.out _ (h.below hb9)).mono ?_
    rintro e w10 ⟨rfl, hw⟩
    obtain rfl := hw.symm
    cases dt
    all_goals
      go_wp2_with fail
      refine (alive51_any _).mono ?_
      rintro e w11 ⟨rfl, hb11⟩
      have hb12 := below_trans hb9 hb11
      go_wp2
      go_ret
      exact ⟨rfl, hb12⟩
  · go_enter Tryd.func3, Tryd.ntmps3
    go_wp2_with (go_at_call 6; refine (alive51_any _).mono ?_; rintro e w7 ⟨rfl, hb7⟩)
    go_ret
    exact ⟨rfl, hb7⟩
end Go.Proofs.YtcmiopkcgoanpaaDoor
