/- Walks: wide texts: reading four little octets each, by the reference; all of it. · The statement of layer 45 on reading, walked. · Walks: wide texts: which mark, by the reference; what is read by it. · The statement of layer 45 on marks, walked. (laid together by program out of single texts). -/
import Derived.Test.YtponfaglflmnkaaGreatM19
namespace Go.Proofs.YtponfaglflmnkaaGreat
open Go.RowKit
set_option maxHeartbeats 2000000
set_option maxRecDepth 100000 in
theorem rReadL4_any (v : Value) (xs : List Int) (w : World) (h : Row w v (ints .u8 xs)) (hg : Rg 0 256 xs) (hl : xs.length ≤ 10000) :
    Calls Tryz.prog 54 #[.int .i64 4, .bool false, v] w fun e w' => RdP w (readT 4 false xs) (readE 4 false xs) e w' := by
  obtain ⟨a, b, off, cp, rfl, HC0⟩ := id h.op
  have eT : readT 4 false xs = if overW 4 xs then textW 4 (num4 (sw4 xs)) ++ [65533] else textW 4 (num4 (sw4 xs)) := if_pos (by decide)
  have eE : readE 4 false xs = if overW 4 xs then 4 else if rightW 4 (num4 (sw4 xs)) then 0 else 3 := if_pos (by decide)
  have hsw := rSwap4_any _ xs w h (by omega)
  have hg1 := sw4_rng xs hg
  have hle := sw4_len xs
  have hl1 : (sw4 xs).length ≤ 10000 := by omega
  rw [← overW_len (wd := 4) hle] at eT eE
  generalize sw4 xs = ys at *
  have HSW := Lib.hid hsw
  clear hsw hle
  generalize readT 4 false xs = RT at *
  generalize readE 4 false xs = RE at *
  have hdiv : (ys.length : Int) / 4 = ((ys.length / 4 : Nat) : Int) := by omega
  have hov : overW 4 ys = decide (4 * (ys.length / 4) < ys.length) := by
    show decide (0 < ys.length % 4) = _
    rw [decide_eq_decide]; omega
  rw [hov] at eT eE
  have hm : 4 * (ys.length / 4) ≤ ys.length := by omega
  have hm9 : ys.length < 4 * (ys.length / 4) + 4 := by omega
  have e1 : textW 4 (num4 ys) = (num4 ys).map fix4 := rfl
  have e2 : rightW 4 (num4 ys) = (num4 ys).all scB := rfl
  rw [e1] at eT
  rw [e2] at eE
  clear e1 e2 hov
  obtain ⟨m, hmm⟩ : ∃ m, m = ys.length / 4 := ⟨_, rfl⟩
  rw [← hmm] at hdiv hm hm9 eT eE
  clear hmm
  have ET := Lib.hid eT; have EE := Lib.hid eE
  clear eT eE
  go_enter Tryz.func54, Tryz.ntmps54
  go_wp2_with (go_at_call 78; refine (HSW.out).mono ?_; rintro e w1 ⟨t1, rfl, ho1, hb1⟩; have h1 := ho1.row; clear ho1; obtain ⟨at1, bt1, ot1, ct1, rfl, HC⟩ := id h1.op)
  go_loopw [9, 10, 15] (fun u ev i wr => ∃ (D S : List Int) (p : Nat), i = .int .i64 p ∧ Hid (ys.drop p = S) ∧ Hid (p + S.length = ys.length) ∧ Hid (num4 ys = D ++ num4 S) ∧ Hid (4 * D.length = p) ∧ ev = .int .i64 (if D.all scB then 0 else 3) ∧ Own w1.heap.size 21 wr u (ints .i32 (D.map fix4)) ∧ Below w1.heap.size w1 wr) (fun _ _ i _ => ys.length - (intOf i).toNat)
  case atStart => exact ⟨[], ys, 0, rfl, rfl, Nat.zero_add _, rfl, rfl, rfl, Own.nil _ _ _, Below.refl _ _⟩
  case round =>
    obtain ⟨D, S, p, rfl, HD, HLEN, HN, HDL, rfl, hown, hb⟩ := hrel
    have hlen := HLEN.out
    have hdl := HDL.out
    have hz := hb.size
    have HLL : Hid ((D.map fix4).length ≤ 10000) := by show _ ≤ _; rw [List.length_map]; omega
    obtain ⟨ev, hev⟩ : ∃ ev : Int, ev = if D.all scB then 0 else 3 := ⟨_, rfl⟩
    rw [← hev]
    have HEV := Lib.hid hev
    clear hev
    rcases Nat.lt_or_ge S.length 4 with hS | hS
    · have HF : Hid (num4 ys = D) := num4_all HN.out hS
      have hpm : p = 4 * m := by omega
      have hn9 : ¬ ((p : Int) < (m : Int) * 4) := by omega
      rcases Decidable.em (4 * m < ys.length) with ho | ho
      · have hT := ET.out; have hE := EE.out
        rw [decide_eq_true ho, if_pos rfl, HF.out] at hT
        rw [decide_eq_true ho, if_pos rfl] at hE
        have HT := Lib.hid hT; have HE := Lib.hid hE
        have ho2 : (m : Int) * 4 < ys.length := by omega
        clear hT hE ho hS
        go_wp2_with (first | (at_builtin; refine wpList_app slT_i32 _ _ _ rfl rfl rfl rfl (hown.alloc _) (Row.ilit [65533] [_] rfl (by simp)) (by have := HLL.out; rw [ints_length, ints_length]; simp only [List.length_cons, List.length_nil]; omega) (by simp; omega) ?_; intro t6 w6 hown6 hg6))
        have hb6 := below_app hb (below_alloc _ _) (hown.alloc _) hg6
        rw [← ints_append] at hown6
        go_ret2
        exact RdP.mk HT.out HE.out (hown6.mono hb1.size) (below_trans hb1 hb6)
      · have hT := ET.out; have hE := EE.out
        rw [decide_eq_false ho, if_neg (by decide), HF.out] at hT
        rw [decide_eq_false ho, if_neg (by decide), HF.out, ← HEV.out] at hE
        have HT := Lib.hid hT; have HE := Lib.hid hE
        have ho2 : ¬ ((m : Int) * 4 < ys.length) := by omega
        clear hT hE ho hS
        go_wp2
        go_ret2
        exact RdP.mk HT.out HE.out (hown.mono hb1.size) (below_trans hb1 hb)
    · obtain ⟨x, y, z, t, S', rfl⟩ := len4 hS
      have hx0 : ys[p]? = some x := by have h9 := List.getElem?_drop (xs := ys) (i := p) (j := 0); rw [HD.out, Nat.add_zero] at h9; exact h9.symm
      have hx1 : ys[p + 1]? = some y := by rw [← List.getElem?_drop, HD.out]; rfl
      have hx2 : ys[p + 2]? = some z := by rw [← List.getElem?_drop, HD.out]; rfl
      have hx3 : ys[p + 3]? = some t := by rw [← List.getElem?_drop, HD.out]; rfl
      simp only [List.length_cons] at hlen hS
      have hp9 : (p : Int) < (m : Int) * 4 := by omega
      obtain ⟨q0, HX0, rfl, hc0⟩ := HC.out (p) (by omega)
      have e0 := HX0.out; rw [hx0] at e0; obtain rfl := Option.some.inj e0
      replace hc0 := hc0 _ hb
      have hx := hg1.get hx0
      obtain ⟨q1, HX1, _, hc1⟩ := HC.out (p + 1) (by omega)
      have e1 := HX1.out; rw [hx1] at e1; obtain rfl := Option.some.inj e1
      replace hc1 := hc1 _ hb
      have hy := hg1.get hx1
      obtain ⟨q2, HX2, _, hc2⟩ := HC.out (p + 2) (by omega)
      have e2 := HX2.out; rw [hx2] at e2; obtain rfl := Option.some.inj e2
      replace hc2 := hc2 _ hb
      have hz2 := hg1.get hx2
      obtain ⟨q3, HX3, _, hc3⟩ := HC.out (p + 3) (by omega)
      have e3 := HX3.out; rw [hx3] at e3; obtain rfl := Option.some.inj e3
      replace hc3 := hc3 _ hb
      have ht := hg1.get hx3
      have hx8 := hx.1; have hx9 := hx.2; have hy8 := hy.1; have hy9 := hy.2; have hz8 := hz2.1; have hz9 := hz2.2; have ht8 := ht.1; have ht9 := ht.2
      clear hx hy hz2 ht e0 e1 e2 e3 hx0 hx1 hx2 hx3
      have hnum : num4 ys = (D ++ [16777216 * x + 65536 * y + 256 * z + t]) ++ num4 S' := by
        rw [HN.out, num4, List.append_assoc]
        congr 2
        omega
      have HN2 := Lib.hid hnum
      have HD2 : Hid (ys.drop (p + 4) = S') := by show _ = _; rw [← List.drop_drop, HD.out]; rfl
      clear hnum
      have hs0 : 0 ≤ 16777216 * x + 65536 * y + 256 * z + t := by omega
      have hs1 : 16777216 * x + 65536 * y + 256 * z + t < 4294967296 := by omega
      go_wp2_with fail
      go_quiet (fail)
      have hb2 := below_drewN hb nq
      have hown2 := hown.below (below_drewN (Below.refl wr.heap.size wr) nq)
      have hz2 := hb2.size
      generalize wr.drewN nq = w9 at *
      clear hb hown hz hc0 hc1 hc2 hc3
      generalize 16777216 * x + 65536 * y + 256 * z + t = c at *
      have hall : (D ++ [c]).all scB = (D.all scB && scB c) := by rw [List.all_append]; simp
      have HMAP : Hid ((D ++ [c]).map fix4 = D.map fix4 ++ [fix4 c]) := by show _ = _; rw [List.map_append]; rfl
      have HLEN2 : Hid (p + 4 + S'.length = ys.length) := by show _ = _; omega
      have HDL2 : Hid (4 * (D ++ [c]).length = p + 4) := by show _ = _; rw [List.length_append]; simp only [List.length_cons, List.length_nil]; omega
      have hcase : (c ≤ 1114111 ∧ scB c = true ∧ Hid (fix4 c = c) ∧ Hid (ev = if (D ++ [c]).all scB then 0 else 3)) ∨ (c ≤ 1114111 ∧ scB c = false ∧ Hid (fix4 c = 65533) ∧ Hid ((3 : Int) = if (D ++ [c]).all scB then 0 else 3)) ∨ (1114111 < c ∧ scB c = false ∧ Hid (fix4 c = 65533) ∧ Hid ((3 : Int) = if (D ++ [c]).all scB then 0 else 3)) := by
        rcases Bool.eq_false_or_eq_true (scB c) with hq | hq
        · have := scB_iff.1 hq
          refine .inl ⟨by omega, hq, (by show _ = _; rw [fix4, hq]; rfl), ?_⟩
          show _ = _
          rw [hall, hq, Bool.and_true, HEV.out]
        · have h3 : (3 : Int) = if (D ++ [c]).all scB then 0 else 3 := by rw [hall, hq, Bool.and_false]; rfl
          rcases Int.lt_or_le 1114111 c with h9 | h9
          · exact .inr (.inr ⟨h9, hq, (by show _ = _; rw [fix4, hq]; rfl), h3⟩)
          · exact .inr (.inl ⟨h9, hq, (by show _ = _; rw [fix4, hq]; rfl), h3⟩)
      clear hall
      rcases hcase with ⟨h9, hq, HFX, HE2⟩ | ⟨h9, hq, HFX, HE2⟩ | ⟨h9, hq, HFX, HE2⟩
      · have hwr : IntKind.i32.wrap c = c := by rw [IntKind.wrap_i32]; omega
        have hsc := fun w => ris_any c w
        rw [hq] at hsc
        have HSC := Lib.hid hsc
        clear hsc hq
        go_wp2_with (first | (go_at_call 35; refine (HSC.out _).mono ?_; rintro e w2 ⟨rfl, hw2⟩; obtain rfl := hw2) | (at_builtin; refine wpList_app slT_i32 _ _ _ rfl rfl rfl rfl (hown2.alloc _) (Row.ilit [c] [_] rfl (by simp)) (by have := HLL.out; rw [ints_length, ints_length]; simp only [List.length_cons, List.length_nil]; omega) (by simp; omega) ?_; intro t6 w6 hown6 hg6))
        have hb6 := below_app hb2 (below_alloc _ _) (hown2.alloc _) hg6
        have HO6 : Hid (Own w1.heap.size 21 w6 t6 (ints .i32 ((D ++ [c]).map fix4))) := by
          rw [← ints_append] at hown6
          show Own _ _ _ _ _
          rw [HMAP.out, HFX.out]; exact hown6
        clear hown6
        go_roundw
        case rel => exact ⟨D ++ [c], S', p + 4, by go_num, HD2, HLEN2, HN2, HDL2, iv HE2.out, HO6.out, hb6⟩
        case measure => simp [intOf]; omega
      · have hwr : IntKind.i32.wrap c = c := by rw [IntKind.wrap_i32]; omega
        have hsc := fun w => ris_any c w
        rw [hq] at hsc
        have HSC := Lib.hid hsc
        clear hsc hq
        go_wp2_with (first | (go_at_call 35; refine (HSC.out _).mono ?_; rintro e w2 ⟨rfl, hw2⟩; obtain rfl := hw2) | (at_builtin; refine wpList_app slT_i32 _ _ _ rfl rfl rfl rfl (hown2.alloc _) (Row.ilit [65533] [_] rfl (by simp)) (by have := HLL.out; rw [ints_length, ints_length]; simp only [List.length_cons, List.length_nil]; omega) (by simp; omega) ?_; intro t6 w6 hown6 hg6))
        have hb6 := below_app hb2 (below_alloc _ _) (hown2.alloc _) hg6
        have HO6 : Hid (Own w1.heap.size 21 w6 t6 (ints .i32 ((D ++ [c]).map fix4))) := by
          rw [← ints_append] at hown6
          show Own _ _ _ _ _
          rw [HMAP.out, HFX.out]; exact hown6
        clear hown6
        go_roundw
        case rel => exact ⟨D ++ [c], S', p + 4, by go_num, HD2, HLEN2, HN2, HDL2, iv HE2.out, HO6.out, hb6⟩
        case measure => simp [intOf]; omega
      · clear hq
        go_wp2_with (first | (at_builtin; refine wpList_app slT_i32 _ _ _ rfl rfl rfl rfl (hown2.alloc _) (Row.ilit [65533] [_] rfl (by simp)) (by have := HLL.out; rw [ints_length, ints_length]; simp only [List.length_cons, List.length_nil]; omega) (by simp; omega) ?_; intro t6 w6 hown6 hg6))
        have hb6 := below_app hb2 (below_alloc _ _) (hown2.alloc _) hg6
        have HO6 : Hid (Own w1.heap.size 21 w6 t6 (ints .i32 ((D ++ [c]).map fix4))) := by
          rw [← ints_append] at hown6
          show Own _ _ _ _ _
          rw [HMAP.out, HFX.out]; exact hown6
        clear hown6
        go_roundw
        case rel => exact ⟨D ++ [c], S', p + 4, by go_num, HD2, HLEN2, HN2, HDL2, iv HE2.out, HO6.out, hb6⟩
        case measure => simp [intOf]; omega
theorem rwideRead_any (wd : Int) (big : Bool) (v : Value) (xs : List Int) (w : World) (h : Row w v (ints .u8 xs)) (hg : Rg 0 256 xs) (hl : xs.length ≤ 10000) :
    Calls Tryz.prog 54 #[.int .i64 wd, .bool big, v] w fun e w' => RdP w (readT wd big xs) (readE wd big xs) e w' := by
  rcases Decidable.em (wd = 2 ∨ wd = 4) with hw | hw
  · rcases hw with rfl | rfl <;> cases big
    · exact rReadL2_any v xs w h hg hl
    · exact rReadB2_any v xs w h hg hl
    · exact rReadL4_any v xs w h hg hl
    · exact rReadB4_any v xs w h hg hl
  · have ET : Hid (readT wd big xs = []) := if_neg hw
    have EE : Hid (readE wd big xs = 1) := if_neg hw
    have n2 : (wd != 2) = true := by rw [bne, beq_false_of_ne (by omega)]; rfl
    have n4 : (wd != 4) = true := by rw [bne, beq_false_of_ne (by omega)]; rfl
    have hb := Below.refl w.heap.size w
    obtain ⟨a, b, off, cp, rfl, _⟩ := id h.op
    clear hw
    go_enter Tryz.func54, Tryz.ntmps54
    go_wp2
    go_ret2
    exact RdP.mk ET.out EE.out (Own.nil _ _ _) hb
end Go.Proofs.YtponfaglflmnkaaGreat
namespace Go.Proofs.YtponfaglflmnkaaGreat
open Go.RowKit
set_option maxHeartbeats 1000000
theorem readT_len (wd : Int) (big : Bool) (xs : List Int) : (readT wd big xs).length ≤ xs.length + 1 := by
  have h1 := textW_len wd (numW wd (big1 wd big xs))
  have h2 := numW_len wd (big1 wd big xs)
  rw [big1_len] at h2
  unfold readT; split
  · split
    · rw [List.length_append]; simp only [List.length_cons, List.length_nil]; omega
    · omega
  · simp
end Go.Proofs.YtponfaglflmnkaaGreat
namespace Go.Proofs.YtponfaglflmnkaaGreat
open Go.RowKit
set_option maxHeartbeats 1000000
theorem Row.pre {w : World} {a : Option Addr} {n cp : Nat} {cs : List Value} (h : Row w (.slice a n cp) cs) (m : Nat) (hm : m ≤ cs.length) : Row w (.slice a m cp) (cs.take m) := by
  obtain ⟨a', b, off, cap, hv, hc, hM, ha, h1, hcell⟩ := h
  cases hv
  refine ⟨a, b, off, cp, by rw [List.length_take, Nat.min_eq_left hm], by rw [List.length_take]; omega, hM, ?_, fun u hu => h1 u (List.mem_of_mem_take hu), fun i u hu => ?_⟩
  · rcases ha with ha | ⟨rfl, ha⟩
    · exact .inl ha
    · exact .inr ⟨by simp, ha⟩
  · rw [List.getElem?_take] at hu
    split at hu
    · exact hcell i u hu
    · cases hu
theorem str_lit {xs ys : List Int} (hx : Rg 0 256 xs) (hy : Rg 0 256 ys) (bs : List UInt8) (hb : (strOfNums ys).toList = bs) : ((strOfNums xs).toList == bs) = decide (xs = ys) := by
  rw [← hb, Bool.eq_iff_iff, beq_iff_eq, decide_eq_true_iff, ByteArray.toList_eq, ByteArray.toList_eq]
  refine ⟨fun h => str_inj hx hy (ByteArray.ext (Array.toList_inj.1 h)), fun h => by rw [h]⟩
/-- The two strings that are compared, and the four answers. -/
def MkF (S4 S2 : ByteArray) (q1 q2 q3 q4 : Bool) : Prop := (S4.toList == [0, 0, 254, 255]) = q1 ∧ (S4.toList == [255, 254, 0, 0]) = q2 ∧ (S2.toList == [254, 255]) = q3 ∧ (S2.toList == [255, 254]) = q4
theorem mkf {xs : List Int} (hg : Rg 0 256 xs) : MkF (strOfNums (xs.take 4)) (strOfNums (xs.take 2)) (mk4b xs) (mk4l xs) (mk2b xs) (mk2l xs) := by
  have r1 : Rg 0 256 [0, 0, 254, 255] := by intro x hx; simp at hx; omega
  have r2 : Rg 0 256 [255, 254, 0, 0] := by intro x hx; simp at hx; omega
  have r3 : Rg 0 256 [254, 255] := by intro x hx; simp at hx; omega
  have r4 : Rg 0 256 [255, 254] := by intro x hx; simp at hx; omega
  exact ⟨str_lit (hg.take 4) r1 _ (by rw [ByteArray.toList_eq]; rfl), str_lit (hg.take 4) r2 _ (by rw [ByteArray.toList_eq]; rfl), str_lit (hg.take 2) r3 _ (by rw [ByteArray.toList_eq]; rfl), str_lit (hg.take 2) r4 _ (by rw [ByteArray.toList_eq]; rfl)⟩
set_option maxRecDepth 100000 in
theorem rMarkS_any (a : Option Addr) (n cp k4 k2 : Nat) (S4 S2 : ByteArray) (q1 q2 q3 q4 : Bool) (w : World) (hF : MkF S4 S2 q1 q2 q3 q4) (hcap : n ≤ cp)
    (s4 : (convert 22 9 (.slice a k4 cp)).run Tryz.prog w = .ok (.string S4) w) (s2 : (convert 22 9 (.slice a k2 cp)).run Tryz.prog w = .ok (.string S2) w)
    (h4 : (4 < n ∧ k4 = 4) ∨ (n ≤ 4 ∧ k4 = n)) (h2 : (2 < n ∧ k2 = 2) ∨ (n ≤ 2 ∧ k2 = n)) (hS : k4 = k2 → S4 = S2) :
    Calls Tryz.prog 24 #[.slice a n cp] w fun e w' => e = .returned (.tuple #[.int .i64 (mN q1 q2 q3 q4), .bool (mB q1 q2 q3), .int .i64 (mN q1 q2 q3 q4)]) ∧ w' = w := by
  obtain ⟨f1, f2, f3, f4⟩ := hF
  rcases h4 with ⟨h4, rfl⟩ | ⟨h4, rfl⟩
  · rcases h2 with ⟨h2, rfl⟩ | ⟨h2, rfl⟩
    case inr => omega
    have i4 : (4 : Int) < n := by omega
    have i2 : (2 : Int) < n := by omega
    clear hS h4 h2
    rcases Bool.eq_false_or_eq_true q1 with hq | hq
    case' inl => have HR : Hid (mN q1 q2 q3 q4 = 4 ∧ mB q1 q2 q3 = true) := (by show _ ∧ _; rw [hq]; exact ⟨rfl, rfl⟩)
    case' inr =>
      rcases Bool.eq_false_or_eq_true q2 with hq2 | hq2
      case' inl => have HR : Hid (mN q1 q2 q3 q4 = 4 ∧ mB q1 q2 q3 = false) := (by show _ ∧ _; rw [hq, hq2]; exact ⟨rfl, rfl⟩)
      case' inr =>
        rcases Bool.eq_false_or_eq_true q3 with hq3 | hq3
        case' inl => have HR : Hid (mN q1 q2 q3 q4 = 2 ∧ mB q1 q2 q3 = true) := (by show _ ∧ _; rw [hq, hq2, hq3]; exact ⟨rfl, rfl⟩)
        case' inr =>
          rcases Bool.eq_false_or_eq_true q4 with hq4 | hq4
          case' inl => have HR : Hid (mN q1 q2 q3 q4 = 2 ∧ mB q1 q2 q3 = false) := (by show _ ∧ _; rw [hq, hq2, hq3, hq4]; exact ⟨rfl, rfl⟩)
          case' inr => have HR : Hid (mN q1 q2 q3 q4 = 0 ∧ mB q1 q2 q3 = false) := (by show _ ∧ _; rw [hq, hq2, hq3, hq4]; exact ⟨rfl, rfl⟩)
    all_goals
      go_enter Tryz.func24, Tryz.ntmps24
      go_wp2
      go_ret3
      first | exact ⟨rfl, rfl⟩ | exact ⟨ret3 (iv HR.out.1.symm) (bv HR.out.2.symm) (iv HR.out.1.symm), rfl⟩
  · rcases h2 with ⟨h2, rfl⟩ | ⟨h2, rfl⟩
    · have i4 : ¬ ((4 : Int) < k4) := by omega
      have i2 : (2 : Int) < k4 := by omega
      have i3 : 2 ≤ cp := by omega
      clear hS h4 h2
      rcases Bool.eq_false_or_eq_true q1 with hq | hq
      case' inl => have HR : Hid (mN q1 q2 q3 q4 = 4 ∧ mB q1 q2 q3 = true) := (by show _ ∧ _; rw [hq]; exact ⟨rfl, rfl⟩)
      case' inr =>
        rcases Bool.eq_false_or_eq_true q2 with hq2 | hq2
        case' inl => have HR : Hid (mN q1 q2 q3 q4 = 4 ∧ mB q1 q2 q3 = false) := (by show _ ∧ _; rw [hq, hq2]; exact ⟨rfl, rfl⟩)
        case' inr =>
          rcases Bool.eq_false_or_eq_true q3 with hq3 | hq3
          case' inl => have HR : Hid (mN q1 q2 q3 q4 = 2 ∧ mB q1 q2 q3 = true) := (by show _ ∧ _; rw [hq, hq2, hq3]; exact ⟨rfl, rfl⟩)
          case' inr =>
            rcases Bool.eq_false_or_eq_true q4 with hq4 | hq4
            case' inl => have HR : Hid (mN q1 q2 q3 q4 = 2 ∧ mB q1 q2 q3 = false) := (by show _ ∧ _; rw [hq, hq2, hq3, hq4]; exact ⟨rfl, rfl⟩)
            case' inr => have HR : Hid (mN q1 q2 q3 q4 = 0 ∧ mB q1 q2 q3 = false) := (by show _ ∧ _; rw [hq, hq2, hq3, hq4]; exact ⟨rfl, rfl⟩)
      all_goals
        go_enter Tryz.func24, Tryz.ntmps24
        go_wp2
        go_ret3
        first | exact ⟨rfl, rfl⟩ | exact ⟨ret3 (iv HR.out.1.symm) (bv HR.out.2.symm) (iv HR.out.1.symm), rfl⟩
    · obtain rfl := hS rfl
      clear s2
      have i4 : ¬ ((4 : Int) < k2) := by omega
      have i2 : ¬ ((2 : Int) < k2) := by omega
      clear hS h4 h2
      rcases Bool.eq_false_or_eq_true q1 with hq | hq
      case' inl => have HR : Hid (mN q1 q2 q3 q4 = 4 ∧ mB q1 q2 q3 = true) := (by show _ ∧ _; rw [hq]; exact ⟨rfl, rfl⟩)
      case' inr =>
        rcases Bool.eq_false_or_eq_true q2 with hq2 | hq2
        case' inl => have HR : Hid (mN q1 q2 q3 q4 = 4 ∧ mB q1 q2 q3 = false) := (by show _ ∧ _; rw [hq, hq2]; exact ⟨rfl, rfl⟩)
        case' inr =>
          rcases Bool.eq_false_or_eq_true q3 with hq3 | hq3
          case' inl => have HR : Hid (mN q1 q2 q3 q4 = 2 ∧ mB q1 q2 q3 = true) := (by show _ ∧ _; rw [hq, hq2, hq3]; exact ⟨rfl, rfl⟩)
          case' inr =>
            rcases Bool.eq_false_or_eq_true q4 with hq4 | hq4
            case' inl => have HR : Hid (mN q1 q2 q3 q4 = 2 ∧ mB q1 q2 q3 = false) := (by show _ ∧ _; rw [hq, hq2, hq3, hq4]; exact ⟨rfl, rfl⟩)
            case' inr => have HR : Hid (mN q1 q2 q3 q4 = 0 ∧ mB q1 q2 q3 = false) := (by show _ ∧ _; rw [hq, hq2, hq3, hq4]; exact ⟨rfl, rfl⟩)
      all_goals
        go_enter Tryz.func24, Tryz.ntmps24
        go_wp2
        go_ret3
        first | exact ⟨rfl, rfl⟩ | exact ⟨ret3 (iv HR.out.1.symm) (bv HR.out.2.symm) (iv HR.out.1.symm), rfl⟩
theorem rMark_any (v : Value) (xs : List Int) (w : World) (h : Row w v (ints .u8 xs)) (hg : Rg 0 256 xs) :
    Calls Tryz.prog 24 #[v] w fun e w' => e = .returned (.tuple #[.int .i64 (markN xs), .bool (markB xs), .int .i64 (markN xs)]) ∧ w' = w := by
  obtain ⟨a, b, off, cp, rfl, _⟩ := id h.op
  have hcap : xs.length ≤ cp := by
    obtain ⟨_, _, _, _, hv, hc9, _⟩ := h.int
    cases hv
    exact hc9
  have hk : ∀ k m : Nat, (m < xs.length ∧ k = m) ∨ (xs.length ≤ m ∧ k = xs.length) → (convert 22 9 (.slice a k cp)).run Tryz.prog w = .ok (.string (strOfNums (xs.take m))) w := fun k m hkm => by
    have hk9 : k ≤ xs.length := by omega
    have r := Row.pre h k (by rw [ints_length]; exact hk9)
    have e : xs.take k = xs.take m := by
      rcases hkm with ⟨_, rfl⟩ | ⟨h1, rfl⟩
      · rfl
      · rw [List.take_length, List.take_of_length_le h1]
    rw [ints_take, e] at r
    have hlen : (xs.take m).length = k := by rw [List.length_take]; omega
    have r2 : Row w (.slice a (xs.take m).length cp) (ints .u8 (xs.take m)) := by rw [hlen]; exact r
    exact row_str (n := k) _ r
  rcases Nat.lt_or_ge 4 xs.length with h4 | h4
  · exact rMarkS_any a xs.length cp 4 2 _ _ _ _ _ _ w (mkf hg) hcap (hk 4 4 (.inl ⟨h4, rfl⟩)) (hk 2 2 (.inl ⟨by omega, rfl⟩)) (.inl ⟨h4, rfl⟩) (.inl ⟨by omega, rfl⟩) (fun h9 => by omega)
  · rcases Nat.lt_or_ge 2 xs.length with h2 | h2
    · exact rMarkS_any a xs.length cp xs.length 2 _ _ _ _ _ _ w (mkf hg) hcap (hk xs.length 4 (.inr ⟨h4, rfl⟩)) (hk 2 2 (.inl ⟨h2, rfl⟩)) (.inr ⟨h4, rfl⟩) (.inl ⟨h2, rfl⟩) (fun h9 => by omega)
    · exact rMarkS_any a xs.length cp xs.length xs.length _ _ _ _ _ _ w (mkf hg) hcap (hk xs.length 4 (.inr ⟨h4, rfl⟩)) (hk xs.length 2 (.inr ⟨h2, rfl⟩)) (.inr ⟨h4, rfl⟩) (.inr ⟨h2, rfl⟩) (fun _ => by rw [List.take_of_length_le (by omega : xs.length ≤ 4), List.take_of_length_le h2])
end Go.Proofs.YtponfaglflmnkaaGreat
namespace Go.Proofs.YtponfaglflmnkaaGreat
open Go.RowKit
set_option maxHeartbeats 1000000
theorem take_eq_len {xs l : List Int} {n : Nat} (h : decide (xs.take n = l) = true) (hl : l.length = n) : n ≤ xs.length := by
  have := congrArg List.length (of_decide_eq_true h)
  rw [List.length_take, hl] at this; omega
theorem markN_len (xs : List Int) : (markN xs = 0 ∨ markN xs = 2 ∨ markN xs = 4) ∧ (markN xs).toNat ≤ xs.length := by
  unfold markN mN
  rcases Bool.eq_false_or_eq_true (mk4b xs) with h | h
  · rw [h]; exact ⟨.inr (.inr rfl), take_eq_len h rfl⟩
  · rw [h]
    rcases Bool.eq_false_or_eq_true (mk4l xs) with h | h
    · rw [h]; exact ⟨.inr (.inr rfl), take_eq_len h rfl⟩
    · rw [h]
      rcases Bool.eq_false_or_eq_true (mk2b xs) with h | h
      · rw [h]; exact ⟨.inr (.inl rfl), take_eq_len h rfl⟩
      · rw [h]
        rcases Bool.eq_false_or_eq_true (mk2l xs) with h | h
        · rw [h]; exact ⟨.inr (.inl rfl), take_eq_len h rfl⟩
        · rw [h]; exact ⟨.inl rfl, Nat.zero_le _⟩
def autoT (xs : List Int) : List Int := if markN xs = 0 then readT 2 true xs else readT (markN xs) (markB xs) (xs.drop (markN xs).toNat)
theorem autoT_len (xs : List Int) : (autoT xs).length ≤ xs.length + 1 := by
  unfold autoT; split
  · exact readT_len _ _ _
  · have := readT_len (markN xs) (markB xs) (xs.drop (markN xs).toNat)
    rw [List.length_drop] at this; omega
set_option maxRecDepth 100000 in
theorem wAuto_any (v : Value) (xs : List Int) (w : World) (h : Row w v (ints .u8 xs)) (hg : Rg 0 256 xs) (hl : xs.length ≤ 10000) :
    Calls Tryz.prog 27 #[v] w fun e w' => ∃ t, e = .returned t ∧ Own w.heap.size 21 w' t (ints .i32 (autoT xs)) ∧ Below w.heap.size w w' := by
  have hM := wMark_any v xs w h hg (by omega)
  obtain ⟨hn, hnl⟩ := markN_len xs
  have hau : autoT xs = if markN xs = 0 then readT 2 true xs else readT (markN xs) (markB xs) (xs.drop (markN xs).toNat) := rfl
  have hR := fun w' h' => wRead_any2 2 true v xs w' h' hg (by omega)
  have hQ := fun v2 w' h' => wRead_any2 (markN xs) (markB xs) v2 (xs.drop (markN xs).toNat) w' h' (hg.drop _) (by rw [List.length_drop]; omega)
  generalize markN xs = n at *
  generalize markB xs = b at *
  generalize autoT xs = A at *
  rcases Decidable.em (n = 0) with h0 | h0
  · rw [if_pos h0] at hau
    rw [← hau] at hR
    subst h0
    have HM := Lib.hid hM; have HR := Lib.hid hR
    clear hM hR hQ hau hn hnl
    obtain ⟨a, b2, off, cp, rfl, _⟩ := id h.op
    go_enter Tryz.func27, Tryz.ntmps27
    go_wp2_with (first | (go_at_call 19; refine (HM.out).mono ?_; rintro e w1 ⟨rfl, hb1⟩) | (go_at_call 47; refine (HR.out _ (h.below hb1)).mono ?_; rintro e w2 ⟨t2, rfl, ho2, hb2⟩))
    go_ret
    exact ⟨_, rfl, ho2.mono hb1.size, below_trans hb1 hb2⟩
  · rw [if_neg h0] at hau
    rw [← hau] at hQ
    have hn0 : (n == 0) = false := beq_false_of_ne h0
    have HM := Lib.hid hM; have HQ := Lib.hid hQ
    clear hM hR hQ hau
    have hi0 : 0 ≤ n := by omega
    have hi1 : n ≤ xs.length := by omega
    clear h0
    obtain ⟨a, b2, off, cp, rfl, _⟩ := id h.op
    go_enter Tryz.func27, Tryz.ntmps27
    go_wp2_with (first | (go_at_call 19; refine (HM.out).mono ?_; rintro e w1 ⟨rfl, hb1⟩) | (refine wpList_slL slT_u8 _ _ rfl rfl rfl rfl (h.below hb1) (by omega) (by simp [ints]; omega) ?_; intro v3 hv3; have r3 := hv3 w1 (h.below hb1); rw [ints_drop] at r3; clear hv3) | (go_at_call 47; refine (HQ.out _ _ r3).mono ?_; rintro e w2 ⟨t2, rfl, ho2, hb2⟩))
    go_ret
    exact ⟨_, rfl, ho2.mono hb1.size, below_trans hb1 hb2⟩
set_option maxRecDepth 100000 in
theorem rAuto_any (v : Value) (xs : List Int) (w : World) (h : Row w v (ints .u8 xs)) (hg : Rg 0 256 xs) (hl : xs.length ≤ 10000) :
    Calls Tryz.prog 30 #[v] w fun e w' => ∃ t, e = .returned t ∧ Own w.heap.size 21 w' t (ints .i32 (autoT xs)) ∧ Below w.heap.size w w' := by
  have hM := rMark_any v xs w h hg
  obtain ⟨hn, hnl⟩ := markN_len xs
  have hau : autoT xs = if markN xs = 0 then readT 2 true xs else readT (markN xs) (markB xs) (xs.drop (markN xs).toNat) := rfl
  have hR := fun v2 w' h' => rwideRead_any 2 true v2 xs w' h' hg (by omega)
  have hQ := fun v2 w' h' => rwideRead_any (markN xs) (markB xs) v2 (xs.drop (markN xs).toNat) w' h' (hg.drop _) (by rw [List.length_drop]; omega)
  unfold RdP at hR hQ
  generalize markN xs = n at *
  generalize markB xs = b at *
  generalize autoT xs = A at *
  rcases Decidable.em (n = 0) with h0 | h0
  · rw [if_pos h0] at hau
    rw [← hau] at hR
    generalize readE 2 true xs = er at *
    subst h0
    have HM := Lib.hid hM; have HR := Lib.hid hR
    clear hM hR hQ hau hn hnl
    obtain ⟨a, b2, off, cp, rfl, _⟩ := id h.op
    go_enter Tryz.func30, Tryz.ntmps30
    go_wp2_with (first | (go_at_call 24; refine (HM.out).mono ?_; rintro e w1 ⟨rfl, hw1⟩; obtain rfl := hw1.symm) | (refine wpList_slL slT_u8 _ _ rfl rfl rfl rfl h (by omega) (by simp [ints]) ?_; intro v3 hv3; have r3 : Row w v3 (ints .u8 xs) := hv3 w h; clear hv3) | (go_at_call 54; refine (HR.out _ _ r3).mono ?_; rintro e w2 ⟨t2, rfl, ho2, hb2⟩))
    go_ret
    exact ⟨_, rfl, ho2, hb2⟩
  · rw [if_neg h0] at hau
    rw [← hau] at hQ
    have hn0 : (n == 0) = false := beq_false_of_ne h0
    generalize readE n b (xs.drop n.toNat) = er at *
    have HM := Lib.hid hM; have HQ := Lib.hid hQ
    clear hM hR hQ hau
    have hi0 : 0 ≤ n := by omega
    have hi1 : n ≤ xs.length := by omega
    clear h0
    obtain ⟨a, b2, off, cp, rfl, _⟩ := id h.op
    go_enter Tryz.func30, Tryz.ntmps30
    go_wp2_with (first | (go_at_call 24; refine (HM.out).mono ?_; rintro e w1 ⟨rfl, hw1⟩; obtain rfl := hw1.symm) | (refine wpList_slL slT_u8 _ _ rfl rfl rfl rfl h (by omega) (by simp [ints]; omega) ?_; intro v3 hv3; have r3 := hv3 w h; rw [ints_drop] at r3; clear hv3) | (go_at_call 54; refine (HQ.out _ _ r3).mono ?_; rintro e w2 ⟨t2, rfl, ho2, hb2⟩))
    go_ret
    exact ⟨_, rfl, ho2, hb2⟩
end Go.Proofs.YtponfaglflmnkaaGreat
