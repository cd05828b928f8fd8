/- Walks: wide texts: reading four little octets each, by the reference; all of it. -/
import Derived.Test.YtgfdebijcpdhbaaW45o
namespace Go.Proofs.Ytgfdebijcpdhbaa
open Go.RowKit
set_option maxHeartbeats 2000000
set_option maxRecDepth 100000 in
theorem rReadL4_any (v : Value) (xs : List Int) (w : World) (h : Row w v (ints .u8 xs)) (hg : Rg 0 256 xs) (hl : xs.length ≤ 10000) :
    Calls Try.prog 12 #[.int .i64 4, .bool false, v] w fun e w' => RdP w (readT 4 false xs) (readE 4 false xs) e w' := by
  obtain ⟨a, b, off, cp, rfl, HC0⟩ := id h.op
  have eT : readT 4 false xs = if overW 4 xs then textW 4 (num4 (sw4 xs)) ++ [65533] else textW 4 (num4 (sw4 xs)) := if_pos (by decide)
  have eE : readE 4 false xs = if overW 4 xs then 4 else if rightW 4 (num4 (sw4 xs)) then 0 else 3 := if_pos (by decide)
  have hsw := rSwap4_any _ xs w h (by omega)
  have hg1 := sw4_rng xs hg
  have hle := sw4_len xs
  have hl1 : (sw4 xs).length ≤ 10000 := by omega
  rw [← overW_len (wd := 4) hle] at eT eE
  generalize sw4 xs = ys at *
  have HSW := Lib.hid hsw
  clear hsw hle
  generalize readT 4 false xs = RT at *
  generalize readE 4 false xs = RE at *
  have hdiv : (ys.length : Int) / 4 = ((ys.length / 4 : Nat) : Int) := by omega
  have hov : overW 4 ys = decide (4 * (ys.length / 4) < ys.length) := by
    show decide (0 < ys.length % 4) = _
    rw [decide_eq_decide]; omega
  rw [hov] at eT eE
  have hm : 4 * (ys.length / 4) ≤ ys.length := by omega
  have hm9 : ys.length < 4 * (ys.length / 4) + 4 := by omega
  have e1 : textW 4 (num4 ys) = (num4 ys).map fix4 := rfl
  have e2 : rightW 4 (num4 ys) = (num4 ys).all scB := rfl
  rw [e1] at eT
  rw [e2] at eE
  clear e1 e2 hov
  obtain ⟨m, hmm⟩ : ∃ m, m = ys.length / 4 := ⟨_, rfl⟩
  rw [← hmm] at hdiv hm hm9 eT eE
  clear hmm
  have ET := Lib.hid eT; have EE := Lib.hid eE
  clear eT eE
  go_enter Try.func12, Try.ntmps12
  go_wp2_with (go_at_call 17; refine (HSW.out).mono ?_; rintro e w1 ⟨t1, rfl, ho1, hb1⟩; have h1 := ho1.row; clear ho1; obtain ⟨at1, bt1, ot1, ct1, rfl, HC⟩ := id h1.op)
  go_loopw [9, 10, 15] (fun u ev i wr => ∃ (D S : List Int) (p : Nat), i = .int .i64 p ∧ Hid (ys.drop p = S) ∧ Hid (p + S.length = ys.length) ∧ Hid (num4 ys = D ++ num4 S) ∧ Hid (4 * D.length = p) ∧ ev = .int .i64 (if D.all scB then 0 else 3) ∧ Own w1.heap.size 21 wr u (ints .i32 (D.map fix4)) ∧ Below w1.heap.size w1 wr) (fun _ _ i _ => ys.length - (intOf i).toNat)
  case atStart => exact ⟨[], ys, 0, rfl, rfl, Nat.zero_add _, rfl, rfl, rfl, Own.nil _ _ _, Below.refl _ _⟩
  case round =>
    obtain ⟨D, S, p, rfl, HD, HLEN, HN, HDL, rfl, hown, hb⟩ := hrel
    have hlen := HLEN.out
    have hdl := HDL.out
    have hz := hb.size
    have HLL : Hid ((D.map fix4).length ≤ 10000) := by show _ ≤ _; rw [List.length_map]; omega
    obtain ⟨ev, hev⟩ : ∃ ev : Int, ev = if D.all scB then 0 else 3 := ⟨_, rfl⟩
    rw [← hev]
    have HEV := Lib.hid hev
    clear hev
    rcases Nat.lt_or_ge S.length 4 with hS | hS
    · have HF : Hid (num4 ys = D) := num4_all HN.out hS
      have hpm : p = 4 * m := by omega
      have hn9 : ¬ ((p : Int) < (m : Int) * 4) := by omega
      rcases Decidable.em (4 * m < ys.length) with ho | ho
      · have hT := ET.out; have hE := EE.out
        rw [decide_eq_true ho, if_pos rfl, HF.out] at hT
        rw [decide_eq_true ho, if_pos rfl] at hE
        have HT := Lib.hid hT; have HE := Lib.hid hE
        have ho2 : (m : Int) * 4 < ys.length := by omega
        clear hT hE ho hS
        go_wp2_with (first | (at_builtin; refine wpList_app slT_i32 _ _ _ rfl rfl rfl rfl (hown.alloc _) (Row.ilit [65533] [_] rfl (by simp)) (by have := HLL.out; rw [ints_length, ints_length]; simp only [List.length_cons, List.length_nil]; omega) (by simp; omega) ?_; intro t6 w6 hown6 hg6))
        have hb6 := below_app hb (below_alloc _ _) (hown.alloc _) hg6
        rw [← ints_append] at hown6
        go_ret2
        exact RdP.mk HT.out HE.out (hown6.mono hb1.size) (below_trans hb1 hb6)
      · have hT := ET.out; have hE := EE.out
        rw [decide_eq_false ho, if_neg (by decide), HF.out] at hT
        rw [decide_eq_false ho, if_neg (by decide), HF.out, ← HEV.out] at hE
        have HT := Lib.hid hT; have HE := Lib.hid hE
        have ho2 : ¬ ((m : Int) * 4 < ys.length) := by omega
        clear hT hE ho hS
        go_wp2
        go_ret2
        exact RdP.mk HT.out HE.out (hown.mono hb1.size) (below_trans hb1 hb)
    · obtain ⟨x, y, z, t, S', rfl⟩ := len4 hS
      have hx0 : ys[p]? = some x := by have h9 := List.getElem?_drop (xs := ys) (i := p) (j := 0); rw [HD.out, Nat.add_zero] at h9; exact h9.symm
      have hx1 : ys[p + 1]? = some y := by rw [← List.getElem?_drop, HD.out]; rfl
      have hx2 : ys[p + 2]? = some z := by rw [← List.getElem?_drop, HD.out]; rfl
      have hx3 : ys[p + 3]? = some t := by rw [← List.getElem?_drop, HD.out]; rfl
      simp only [List.length_cons] at hlen hS
      have hp9 : (p : Int) < (m : Int) * 4 := by omega
      obtain ⟨q0, HX0, rfl, hc0⟩ := HC.out (p) (by omega)
      have e0 := HX0.out; rw [hx0] at e0; obtain rfl := Option.some.inj e0
      replace hc0 := hc0 _ hb
      have hx := hg1.get hx0
      obtain ⟨q1, HX1, _, hc1⟩ := HC.out (p + 1) (by omega)
      have e1 := HX1.out; rw [hx1] at e1; obtain rfl := Option.some.inj e1
      replace hc1 := hc1 _ hb
      have hy := hg1.get hx1
      obtain ⟨q2, HX2, _, hc2⟩ := HC.out (p + 2) (by omega)
      have e2 := HX2.out; rw [hx2] at e2; obtain rfl := Option.some.inj e2
      replace hc2 := hc2 _ hb
      have hz2 := hg1.get hx2
      obtain ⟨q3, HX3, _, hc3⟩ := HC.out (p + 3) (by omega)
      have e3 := HX3.out; rw [hx3] at e3; obtain rfl := Option.some.inj e3
      replace hc3 := hc3 _ hb
      have ht := hg1.get hx3
      have hx8 := hx.1; have hx9 := hx.2; have hy8 := hy.1; have hy9 := hy.2; have hz8 := hz2.1; have hz9 := hz2.2; have ht8 := ht.1; have ht9 := ht.2
      clear hx hy hz2 ht e0 e1 e2 e3 hx0 hx1 hx2 hx3
      have hnum : num4 ys = (D ++ [16777216 * x + 65536 * y + 256 * z + t]) ++ num4 S' := by
        rw [HN.out, num4, List.append_assoc]
        congr 2
        omega
      have HN2 := Lib.hid hnum
      have HD2 : Hid (ys.drop (p + 4) = S') := by show _ = _; rw [← List.drop_drop, HD.out]; rfl
      clear hnum
      have hs0 : 0 ≤ 16777216 * x + 65536 * y + 256 * z + t := by omega
      have hs1 : 16777216 * x + 65536 * y + 256 * z + t < 4294967296 := by omega
      go_wp2_with fail
      go_quiet (fail)
      have hb2 := below_drewN hb nq
      have hown2 := hown.below (below_drewN (Below.refl wr.heap.size wr) nq)
      have hz2 := hb2.size
      generalize wr.drewN nq = w9 at *
      clear hb hown hz hc0 hc1 hc2 hc3
      generalize 16777216 * x + 65536 * y + 256 * z + t = c at *
      have hall : (D ++ [c]).all scB = (D.all scB && scB c) := by rw [List.all_append]; simp
      have HMAP : Hid ((D ++ [c]).map fix4 = D.map fix4 ++ [fix4 c]) := by show _ = _; rw [List.map_append]; rfl
      have HLEN2 : Hid (p + 4 + S'.length = ys.length) := by show _ = _; omega
      have HDL2 : Hid (4 * (D ++ [c]).length = p + 4) := by show _ = _; rw [List.length_append]; simp only [List.length_cons, List.length_nil]; omega
      have hcase : (c ≤ 1114111 ∧ scB c = true ∧ Hid (fix4 c = c) ∧ Hid (ev = if (D ++ [c]).all scB then 0 else 3)) ∨ (c ≤ 1114111 ∧ scB c = false ∧ Hid (fix4 c = 65533) ∧ Hid ((3 : Int) = if (D ++ [c]).all scB then 0 else 3)) ∨ (1114111 < c ∧ scB c = false ∧ Hid (fix4 c = 65533) ∧ Hid ((3 : Int) = if (D ++ [c]).all scB then 0 else 3)) := by
        rcases Bool.eq_false_or_eq_true (scB c) with hq | hq
        · have := scB_iff.1 hq
          refine .inl ⟨by omega, hq, (by show _ = _; rw [fix4, hq]; rfl), ?_⟩
          show _ = _
          rw [hall, hq, Bool.and_true, HEV.out]
        · have h3 : (3 : Int) = if (D ++ [c]).all scB then 0 else 3 := by rw [hall, hq, Bool.and_false]; rfl
          rcases Int.lt_or_le 1114111 c with h9 | h9
          · exact .inr (.inr ⟨h9, hq, (by show _ = _; rw [fix4, hq]; rfl), h3⟩)
          · exact .inr (.inl ⟨h9, hq, (by show _ = _; rw [fix4, hq]; rfl), h3⟩)
      clear hall
      rcases hcase with ⟨h9, hq, HFX, HE2⟩ | ⟨h9, hq, HFX, HE2⟩ | ⟨h9, hq, HFX, HE2⟩
      · have hwr : IntKind.i32.wrap c = c := by rw [IntKind.wrap_i32]; omega
        have hsc := fun w => ris_any c w
        rw [hq] at hsc
        have HSC := Lib.hid hsc
        clear hsc hq
        go_wp2_with (first | (go_at_call 31; refine (HSC.out _).mono ?_; rintro e w2 ⟨rfl, hw2⟩; obtain rfl := hw2) | (at_builtin; refine wpList_app slT_i32 _ _ _ rfl rfl rfl rfl (hown2.alloc _) (Row.ilit [c] [_] rfl (by simp)) (by have := HLL.out; rw [ints_length, ints_length]; simp only [List.length_cons, List.length_nil]; omega) (by simp; omega) ?_; intro t6 w6 hown6 hg6))
        have hb6 := below_app hb2 (below_alloc _ _) (hown2.alloc _) hg6
        have HO6 : Hid (Own w1.heap.size 21 w6 t6 (ints .i32 ((D ++ [c]).map fix4))) := by
          rw [← ints_append] at hown6
          show Own _ _ _ _ _
          rw [HMAP.out, HFX.out]; exact hown6
        clear hown6
        go_roundw
        case rel => exact ⟨D ++ [c], S', p + 4, by go_num, HD2, HLEN2, HN2, HDL2, iv HE2.out, HO6.out, hb6⟩
        case measure => simp [intOf]; omega
      · have hwr : IntKind.i32.wrap c = c := by rw [IntKind.wrap_i32]; omega
        have hsc := fun w => ris_any c w
        rw [hq] at hsc
        have HSC := Lib.hid hsc
        clear hsc hq
        go_wp2_with (first | (go_at_call 31; refine (HSC.out _).mono ?_; rintro e w2 ⟨rfl, hw2⟩; obtain rfl := hw2) | (at_builtin; refine wpList_app slT_i32 _ _ _ rfl rfl rfl rfl (hown2.alloc _) (Row.ilit [65533] [_] rfl (by simp)) (by have := HLL.out; rw [ints_length, ints_length]; simp only [List.length_cons, List.length_nil]; omega) (by simp; omega) ?_; intro t6 w6 hown6 hg6))
        have hb6 := below_app hb2 (below_alloc _ _) (hown2.alloc _) hg6
        have HO6 : Hid (Own w1.heap.size 21 w6 t6 (ints .i32 ((D ++ [c]).map fix4))) := by
          rw [← ints_append] at hown6
          show Own _ _ _ _ _
          rw [HMAP.out, HFX.out]; exact hown6
        clear hown6
        go_roundw
        case rel => exact ⟨D ++ [c], S', p + 4, by go_num, HD2, HLEN2, HN2, HDL2, iv HE2.out, HO6.out, hb6⟩
        case measure => simp [intOf]; omega
      · clear hq
        go_wp2_with (first | (at_builtin; refine wpList_app slT_i32 _ _ _ rfl rfl rfl rfl (hown2.alloc _) (Row.ilit [65533] [_] rfl (by simp)) (by have := HLL.out; rw [ints_length, ints_length]; simp only [List.length_cons, List.length_nil]; omega) (by simp; omega) ?_; intro t6 w6 hown6 hg6))
        have hb6 := below_app hb2 (below_alloc _ _) (hown2.alloc _) hg6
        have HO6 : Hid (Own w1.heap.size 21 w6 t6 (ints .i32 ((D ++ [c]).map fix4))) := by
          rw [← ints_append] at hown6
          show Own _ _ _ _ _
          rw [HMAP.out, HFX.out]; exact hown6
        clear hown6
        go_roundw
        case rel => exact ⟨D ++ [c], S', p + 4, by go_num, HD2, HLEN2, HN2, HDL2, iv HE2.out, HO6.out, hb6⟩
        case measure => simp [intOf]; omega
theorem rwRead_any (wd : Int) (big : Bool) (v : Value) (xs : List Int) (w : World) (h : Row w v (ints .u8 xs)) (hg : Rg 0 256 xs) (hl : xs.length ≤ 10000) :
    Calls Try.prog 12 #[.int .i64 wd, .bool big, v] w fun e w' => RdP w (readT wd big xs) (readE wd big xs) e w' := by
  rcases Decidable.em (wd = 2 ∨ wd = 4) with hw | hw
  · rcases hw with rfl | rfl <;> cases big
    · exact rReadL2_any v xs w h hg hl
    · exact rReadB2_any v xs w h hg hl
    · exact rReadL4_any v xs w h hg hl
    · exact rReadB4_any v xs w h hg hl
  · have ET : Hid (readT wd big xs = []) := if_neg hw
    have EE : Hid (readE wd big xs = 1) := if_neg hw
    have n2 : (wd != 2) = true := by rw [bne, beq_false_of_ne (by omega)]; rfl
    have n4 : (wd != 4) = true := by rw [bne, beq_false_of_ne (by omega)]; rfl
    have hb := Below.refl w.heap.size w
    obtain ⟨a, b, off, cp, rfl, _⟩ := id h.op
    clear hw
    go_enter Try.func12, Try.ntmps12
    go_wp2
    go_ret2
    exact RdP.mk ET.out EE.out (Own.nil _ _ _) hb
end Go.Proofs.Ytgfdebijcpdhbaa
