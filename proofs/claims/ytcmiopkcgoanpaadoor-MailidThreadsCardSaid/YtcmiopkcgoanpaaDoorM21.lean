/- Walks: the names of a list. · Walks: the probe of messages' names. · Walks: dotted words by the reference; names compared. · Walks: a message's name read, by the reference: where its parts lie. (laid together by program out of single texts). -/
import Derived.IntWalk
import Derived.Test.YtcmiopkcgoanpaaDoorM1
import Derived.Test.YtcmiopkcgoanpaaDoorM2
import Derived.Test.YtcmiopkcgoanpaaDoorM16
import Derived.Test.YtcmiopkcgoanpaaDoorM20
namespace Go.Proofs.YtcmiopkcgoanpaaDoor
open Go.RowKit
set_option maxHeartbeats 8000000
set_option maxRecDepth 100000
theorem slT_id : SlT2 Tryd.prog 32 25 := SlT2.mk (z := .agg #[.slice none 0 0, .slice none 0 0]) (bytes := 48) (by kernel_rfl) (by kernel_rfl) (by omega) rfl
theorem Own.other2 {B B' : Nat} {E E' : TypeId} {w w' : World} {v v' : Value} {cs : List Value} {l : List (Value × Value)} (h : Own B E w v cs) (h' : Own2 B' E' w v' l) (hE : E ≠ E') (hg : w.grownBy w' v'.ownBlock) : Own B E w' v cs := by
  refine ⟨h.1.kept hg ?_, h.2⟩
  rcases h.1.2 with ⟨rfl, _⟩ | ⟨g, cap, cur, rfl, _, hgg, _⟩
  · exact .inl rfl
  · right
    rcases h'.1.2 with ⟨rfl, _⟩ | ⟨g', cap', cur', rfl, _, hg', _⟩
    · simp [Value.ownBlock]
    · intro e
      simp only [Value.ownBlock, Option.some.injEq] at e
      subst e
      rw [hgg] at hg'
      injection hg' with e1
      injection e1 with _ e2
      exact hE e2
/-- The records l hold the names L: each part a slice of its own. -/
def OwL (B : Nat) (w : World) (l : List (Value × Value)) (L : List (List Int × List Int)) : Prop :=
  l.length = L.length ∧ ∀ (i : Nat) (p : Value × Value) (q : List Int × List Int), l[i]? = some p → L[i]? = some q → Own B 5 w p.1 (ints .u8 q.1) ∧ Own B 5 w p.2 (ints .u8 q.2)
theorem OwL.nil (B : Nat) (w : World) : OwL B w [] [] := ⟨rfl, by simp⟩
theorem OwL.below {B : Nat} {w w' : World} {l : List (Value × Value)} {L : List (List Int × List Int)} (h : OwL B w l L) (hb : Below w.heap.size w w') : OwL B w' l L :=
  ⟨h.1, fun i p q h1 h2 => ⟨(h.2 i p q h1 h2).1.below hb, (h.2 i p q h1 h2).2.below hb⟩⟩
theorem OwL.other {B B' : Nat} {w w' : World} {l m : List (Value × Value)} {L : List (List Int × List Int)} {v' : Value} (h : OwL B w l L) (h' : Own2 B' 25 w v' m) (hg : w.grownBy w' v'.ownBlock) : OwL B w' l L :=
  ⟨h.1, fun i p q h1 h2 => ⟨(h.2 i p q h1 h2).1.other2 h' (by decide) hg, (h.2 i p q h1 h2).2.other2 h' (by decide) hg⟩⟩
theorem OwL.snoc {B : Nat} {w : World} {l : List (Value × Value)} {L : List (List Int × List Int)} {p : Value × Value} {q : List Int × List Int} (h : OwL B w l L) (h1 : Own B 5 w p.1 (ints .u8 q.1)) (h2 : Own B 5 w p.2 (ints .u8 q.2)) : OwL B w (l ++ [p]) (L ++ [q]) := by
  refine ⟨by simp [h.1], fun i p' q' hp hq => ?_⟩
  rcases Nat.lt_or_ge i l.length with hi | hi
  · rw [List.getElem?_append_left hi] at hp
    rw [List.getElem?_append_left (by rw [← h.1]; exact hi)] at hq
    exact h.2 i p' q' hp hq
  · rw [List.getElem?_append_right hi] at hp
    rw [List.getElem?_append_right (by rw [← h.1]; exact hi), ← h.1] at hq
    cases hk : i - l.length with
    | zero => rw [hk] at hp hq; simp at hp hq; subst hp hq; exact ⟨h1, h2⟩
    | succ n => rw [hk] at hp; simp at hp
theorem listM_at (rest : List Int) : listM rest = if (rest.drop (gp rest)).length = 0 then ([], 0) else
    if (readM ((rest.drop (gp rest)).take (ndM (rest.drop (gp rest))))).2.2 = 0 then
      (((readM ((rest.drop (gp rest)).take (ndM (rest.drop (gp rest))))).1, (readM ((rest.drop (gp rest)).take (ndM (rest.drop (gp rest))))).2.1) :: (listM ((rest.drop (gp rest)).drop (ndM (rest.drop (gp rest))))).1, (listM ((rest.drop (gp rest)).drop (ndM (rest.drop (gp rest))))).2)
    else ((listM ((rest.drop (gp rest)).drop (ndM (rest.drop (gp rest))))).1, (listM ((rest.drop (gp rest)).drop (ndM (rest.drop (gp rest))))).2 + 1) := by
  conv => lhs; rw [listM]
  by_cases h : (rest.drop (gp rest)).length = 0
  · rw [dif_pos h, if_pos h]
  · rw [dif_neg h, if_neg h]
/-- What the loop of List keeps. -/
def LsI (w : World) (xs : List Int) (s lv ov : Value) (wr : World) : Prop :=
  ∃ (rest : List Int) (l : List (Value × Value)) (L : List (List Int × List Int)) (m : Nat), ov = .int .i64 m ∧ Hid (Row w s (ints .u8 rest)) ∧ Hid (Rg 0 256 rest) ∧ rest.length ≤ 400000 ∧ Hid (Own2 w.heap.size 25 wr lv l) ∧ Hid (OwL w.heap.size wr l L) ∧
    Hid (listM xs = (L ++ (listM rest).1, m + (listM rest).2)) ∧ m + rest.length ≤ 400000 ∧ Hid (l.length + rest.length ≤ 400000) ∧ Below w.heap.size w wr
theorem mList_any (v : Value) (xs : List Int) (w : World) (h : Row w v (ints .u8 xs)) (hg : Rg 0 256 xs) (hl : xs.length ≤ 400000) :
    Calls Tryd.prog 9 #[v] w fun e w' => ∃ t l, e = .returned (.tuple #[t, .int .i64 ((listM xs).2 : Nat)]) ∧ Own2 w.heap.size 25 w' t l ∧ OwL w.heap.size w' l (listM xs).1 ∧ Below w.heap.size w w' := by
  go_enter Tryd.func9, Tryd.ntmps9
  go_wp2
  go_loopw [0, 4, 5] (fun s lv ov wr => LsI w xs s lv ov wr) (fun s _ _ _ => lenOf s)
  case atStart => exact ⟨xs, [], [], 0, rfl, h, hg, hl, Own2.nil _ _ _, OwL.nil _ _, by show _ = _; simp, by omega, by show _ ≤ _; simpa using hl, Below.refl _ _⟩
  case round =>
    obtain ⟨rest, l, L, m, rfl, HR, HRG, hrl, HOL, HEL, HLM, hml, HLL, hb⟩ := hrel
    obtain ⟨a0, b0, off0, cp0, rfl, _⟩ := id HR.out.op
    have hG := fun w' h' => gap0_any (.slice a0 rest.length cp0) rest w' h' HRG.out (by omega)
    have hat := listM_at rest
    have hgl := gp_len rest
    have hdg : Rg 0 256 (rest.drop (gp rest)) := HRG.out.drop _
    have hdd : (rest.drop (gp rest)).length = rest.length - gp rest := List.length_drop
    generalize gp rest = n at *
    generalize hye : rest.drop n = y at *
    have HY := Lib.hid hye
    have HG := Lib.hid hG
    clear hG hye
    have hn0 : (0 : Int) ≤ (n : Int) := by omega
    have hn1 : (n : Int) ≤ rest.length := by omega
    have hyl : y.length ≤ rest.length := by omega
    clear hdd
    by_cases h0 : y.length = 0
    · rw [if_pos h0] at hat
      have HY0 : Hid ((ints .u8 y).length = 0) := by show _ = _; rw [ints_length]; exact h0
      have HAT := Lib.hid hat
      clear hat h0 hyl
      go_wp2_with fail
      refine (HG.out _ (HR.out.below hb)).mono ?_
      rintro e w1 ⟨rfl, hb1⟩
      have hB1 := below_trans hb hb1
      have hr1 := HR.out.below hB1
      go_wp2_with ((refine wpList_slL slT_u8 _ _ rfl rfl rfl rfl hr1 (by omega) (by simp [ints]; omega) ?_; intro v2 hv2; have r2 : Row w v2 (ints .u8 y) := (by have := hv2 w HR.out; rw [Int.toNat_natCast, ints_drop, HY.out] at this; exact this); clear hv2); obtain ⟨a2, c2, rfl⟩ := r2.formN0 (n := 0) HY0.out)
      go_ret2
      have e9 : listM xs = (L, m) := by rw [HLM.out, HAT.out]; simp
      rw [e9]
      exact ⟨_, l, rfl, HOL.out.below hb1, HEL.out.below hb1, hB1⟩
    · rw [if_neg h0] at hat
      have hyb : (((y.length : Nat) : Int) == 0) = false := beq_false_of_ne (by omega)
      have hnd1 := ndM_pos h0
      have hnd2 := ndM_le y
      have hI := fun v w' h' => bidx_any v y 62 w' h' hdg (by omega) (by omega)
      have hnx : ∃ J : Int, idxC 62 y = J ∧ ((0 ≤ J ∧ J + 1 = (ndM y : Nat)) ∨ (J = -1 ∧ y.length = ndM y)) := by
        refine ⟨_, rfl, ?_⟩
        cases hc : y.contains 62 with
        | true => exact .inl (by rw [idxC_yes hc, ndM, if_pos hc]; omega)
        | false => exact .inr (by rw [idxC_no hc, ndM, if_neg (by rw [hc]; decide)]; exact ⟨rfl, rfl⟩)
      have hrg : Rg 0 256 (y.take (ndM y)) := hdg.take _
      have hRD := fun v2 w' h' => mRead_any v2 (y.take (ndM y)) w' h' hrg (by rw [List.length_take]; omega)
      have hrd1 : (y.drop (ndM y)).length = y.length - ndM y := List.length_drop
      obtain ⟨J, hJ, hJ2⟩ := hnx
      rw [hJ] at hI
      have hdr := hdg.drop (ndM y)
      generalize ndM y = nd at *
      generalize (readM (y.take nd)).1 = xa at *
      generalize (readM (y.take nd)).2.1 = xb at *
      generalize (readM (y.take nd)).2.2 = xe at *
      generalize hT3 : y.take nd = Y3 at *
      generalize hT4 : y.drop nd = Y4 at *
      have HT3 := Lib.hid hT3; have HT4 := Lib.hid hT4
      clear hT3 hT4
      have HI := Lib.hid hI; have HRD := Lib.hid hRD; have HAT := Lib.hid hat; have HDR := Lib.hid hdr
      clear hI hRD hat hJ h0 hrg hdr
      have hnd3 : (nd : Int) ≤ y.length := by omega
      have hnd4 : (0 : Int) ≤ nd := by omega
      have hrd2 : Y4.length < rest.length := by omega
      have hrd3 : Y4.length ≤ 400000 := by omega
      have HRD2 := Lib.hid hrd2
      have HRD3 := Lib.hid hrd3
      have HRD4 : Hid (m + Y4.length + 1 ≤ 400000) := by show _ ≤ _; omega
      have HRD5 : Hid (l.length + 1 + Y4.length ≤ 400000) := by show _ ≤ _; have := HLL.out; omega
      have HLL2 : Hid (l.length ≤ 400000) := by show _ ≤ _; have := HLL.out; omega
      clear hrd1 hrd2 hrd3
      rcases hJ2 with ⟨hj0, hj1⟩ | ⟨rfl, hj1⟩
      case' inl => have hj2 : J ≤ 400000 := (by omega); have hjw : IntKind.i64.wrap (J + 1) = J + 1 := IntWalk.i64_in _ (by omega)
      case' inr => obtain rfl := hj1
      all_goals
        by_cases hxe : xe = 0
        case' pos => subst hxe
        case' neg => have hxb : (xe == 0) = false := beq_false_of_ne hxe
      all_goals
        go_wp2_with fail
        refine (HG.out _ (HR.out.below hb)).mono ?_
        rintro e w1 ⟨rfl, hb1⟩
        have hB1 := below_trans hb hb1
        have hr1 := HR.out.below hB1
        go_wp2_with ((refine wpList_slL slT_u8 _ _ rfl rfl rfl rfl hr1 (by omega) (by simp [ints]; omega) ?_; intro v2 hv2; have r2 : Row w v2 (ints .u8 y) := (by have := hv2 w HR.out; rw [Int.toNat_natCast, ints_drop, HY.out] at this; exact this); clear hv2); obtain ⟨a2, c2, rfl⟩ := r2.formN0 (n := y.length) (by rw [ints_length]))
        refine (HI.out _ _ (r2.below hB1)).mono ?_
        rintro e w2 ⟨rfl, hw2⟩
        obtain rfl := hw2.symm
        have hr2 := r2.below hB1
        go_wp2_with (refine wpList_slH slT_u8 _ _ rfl rfl rfl rfl hr2 (by omega) (by rw [ints_length]; omega) ?_; intro v3 hv3; have r3 : Row w v3 (ints .u8 Y3) := (by have := hv3 w r2; rw [Int.toNat_natCast, ints_take, HT3.out] at this; exact this); clear hv3)
        refine (HRD.out _ _ (r3.below hB1)).mono ?_
        rintro e w3 ⟨pa, pb, rfl, oa, ob, hb3⟩
        replace oa := oa.mono hB1.size
        replace ob := ob.mono hB1.size
        obtain ⟨a5, c5, rfl⟩ := oa.row.formN0 (n := xa.length) (by rw [ints_length])
        obtain ⟨a6, c6, rfl⟩ := ob.row.formN0 (n := xb.length) (by rw [ints_length])
        have hB3 := below_trans hB1 hb3
        have hol3 := ((HOL.out.below hb1).below hb3).alloc (.cells #[.slice a5 xa.length c5, .slice a6 xb.length c6] 25)
        have hel3 := ((HEL.out.below hb1).below hb3).below (below_alloc _ (.cells #[.slice a5 xa.length c5, .slice a6 xb.length c6] 25))
        have oa3 := oa.alloc (.cells #[.slice a5 xa.length c5, .slice a6 xb.length c6] 25)
        have ob3 := ob.alloc (.cells #[.slice a5 xa.length c5, .slice a6 xb.length c6] 25)
        have hB4 := hB3.alloc hB3.size (.cells #[.slice a5 xa.length c5, .slice a6 xb.length c6] 25)
        have HLIT : Hid (Row2 ((w3.alloc (.cells #[.slice a5 xa.length c5, .slice a6 xb.length c6] 25)).alloc (.cells #[.slice a5 xa.length c5, .slice a6 xb.length c6] 25)) (.slice (some ⟨w3.heap.size + 1, 0, none⟩) 1 1) [(.slice a5 xa.length c5, .slice a6 xb.length c6)]) := by
          have h9 := Row2.lit (w := w3.alloc (.cells #[.slice a5 xa.length c5, .slice a6 xb.length c6] 25)) (E := 25) (.slice a5 xa.length c5, .slice a6 xb.length c6) ⟨rfl, rfl⟩
          have e9 : (w3.alloc (.cells #[.slice a5 xa.length c5, .slice a6 xb.length c6] 25)).heap.size = w3.heap.size + 1 := by simp
          rw [e9] at h9
          exact h9
        obtain ⟨hp0, hp1⟩ := pair_new w3 (.slice a5 xa.length c5) (.slice a6 xb.length c6) 25
      · have hB5 := hB4
        go_wp2_with (refine wpList_slL slT_u8 _ _ rfl rfl rfl rfl (r2.below hB5) (by omega) (by rw [ints_length]; omega) ?_; intro v4 hv4; have r4 : Row w v4 (ints .u8 Y4) := (by have := hv4 w r2; rw [Int.toNat_natCast, ints_drop, HT4.out] at this; exact this); obtain ⟨a7, c7, rfl⟩ := r4.formN0 (n := Y4.length) (by rw [ints_length]); clear hv4)
        go_roundw
        case rel => exact ⟨Y4, l, L, m + 1, by go_num, r4, HDR.out, HRD3.out, hol3, hel3, by (show _ = _; rw [HLM.out, HAT.out, if_neg hxe]; simp; omega), by (have := HRD4.out; omega), by (show _ ≤ _; have := HRD5.out; omega), hB5⟩
        case measure => exact HRD2.out
      · go_wp2_with (first | (at_builtin; refine wpList_app2r slT_id _ _ _ rfl rfl rfl rfl (hol3.below (below_alloc _ (.cells #[.slice a5 xa.length c5, .slice a6 xb.length c6] 25))) HLIT.out (by simp) (by have := HLL2.out; simp only [List.length_cons, List.length_nil]; omega) (by have := hB4.size; simp at this ⊢; omega) ?_; intro t5 w5 hown5 hg5; have hB5 : Below w.heap.size w w5 := below_own2 (hB4.alloc hB4.size (.cells #[.slice a5 xa.length c5, .slice a6 xb.length c6] 25)) (hol3.below (below_alloc _ (.cells #[.slice a5 xa.length c5, .slice a6 xb.length c6] 25))) hg5 (by have := hB4.size; simp at this ⊢; omega) (Nat.le_refl _)) | (refine wpList_slL slT_u8 _ _ rfl rfl rfl rfl (r2.below hB5) (by omega) (by rw [ints_length]; omega) ?_; intro v4 hv4; have r4 : Row w v4 (ints .u8 Y4) := (by have := hv4 w r2; rw [Int.toNat_natCast, ints_drop, HT4.out] at this; exact this); obtain ⟨a7, c7, rfl⟩ := r4.formN0 (n := Y4.length) (by rw [ints_length]); clear hv4))
        go_roundw
        case rel => exact ⟨Y4, l ++ [(.slice a5 xa.length c5, .slice a6 xb.length c6)], L ++ [(xa, xb)], m, rfl, r4, HDR.out, HRD3.out, Lib.hid hown5, ((hel3.below (below_alloc _ (.cells #[.slice a5 xa.length c5, .slice a6 xb.length c6] 25))).other (hol3.below (below_alloc _ (.cells #[.slice a5 xa.length c5, .slice a6 xb.length c6] 25))) hg5).snoc ((oa3.below (below_alloc _ (.cells #[.slice a5 xa.length c5, .slice a6 xb.length c6] 25))).other2 (hol3.below (below_alloc _ (.cells #[.slice a5 xa.length c5, .slice a6 xb.length c6] 25))) (by decide) hg5) ((ob3.below (below_alloc _ (.cells #[.slice a5 xa.length c5, .slice a6 xb.length c6] 25))).other2 (hol3.below (below_alloc _ (.cells #[.slice a5 xa.length c5, .slice a6 xb.length c6] 25))) (by decide) hg5), by (show _ = _; rw [HLM.out, HAT.out]; simp), by (have := HRD4.out; omega), by (show _ ≤ _; rw [List.length_append]; have := HRD5.out; simp only [List.length_cons, List.length_nil]; omega), hB5⟩
        case measure => exact HRD2.out
      · have hB5 := hB4
        go_wp2_with (refine wpList_slL slT_u8 _ _ rfl rfl rfl rfl (r2.below hB5) (by omega) (by rw [ints_length]; omega) ?_; intro v4 hv4; have r4 : Row w v4 (ints .u8 Y4) := (by have := hv4 w r2; rw [Int.toNat_natCast, ints_drop, HT4.out] at this; exact this); obtain ⟨a7, c7, rfl⟩ := r4.formN0 (n := Y4.length) (by rw [ints_length]); clear hv4)
        go_roundw
        case rel => exact ⟨Y4, l, L, m + 1, by go_num, r4, HDR.out, HRD3.out, hol3, hel3, by (show _ = _; rw [HLM.out, HAT.out, if_neg hxe]; simp; omega), by (have := HRD4.out; omega), by (show _ ≤ _; have := HRD5.out; omega), hB5⟩
        case measure => exact HRD2.out
      · go_wp2_with (first | (at_builtin; refine wpList_app2r slT_id _ _ _ rfl rfl rfl rfl (hol3.below (below_alloc _ (.cells #[.slice a5 xa.length c5, .slice a6 xb.length c6] 25))) HLIT.out (by simp) (by have := HLL2.out; simp only [List.length_cons, List.length_nil]; omega) (by have := hB4.size; simp at this ⊢; omega) ?_; intro t5 w5 hown5 hg5; have hB5 : Below w.heap.size w w5 := below_own2 (hB4.alloc hB4.size (.cells #[.slice a5 xa.length c5, .slice a6 xb.length c6] 25)) (hol3.below (below_alloc _ (.cells #[.slice a5 xa.length c5, .slice a6 xb.length c6] 25))) hg5 (by have := hB4.size; simp at this ⊢; omega) (Nat.le_refl _)) | (refine wpList_slL slT_u8 _ _ rfl rfl rfl rfl (r2.below hB5) (by omega) (by rw [ints_length]; omega) ?_; intro v4 hv4; have r4 : Row w v4 (ints .u8 Y4) := (by have := hv4 w r2; rw [Int.toNat_natCast, ints_drop, HT4.out] at this; exact this); obtain ⟨a7, c7, rfl⟩ := r4.formN0 (n := Y4.length) (by rw [ints_length]); clear hv4))
        go_roundw
        case rel => exact ⟨Y4, l ++ [(.slice a5 xa.length c5, .slice a6 xb.length c6)], L ++ [(xa, xb)], m, rfl, r4, HDR.out, HRD3.out, Lib.hid hown5, ((hel3.below (below_alloc _ (.cells #[.slice a5 xa.length c5, .slice a6 xb.length c6] 25))).other (hol3.below (below_alloc _ (.cells #[.slice a5 xa.length c5, .slice a6 xb.length c6] 25))) hg5).snoc ((oa3.below (below_alloc _ (.cells #[.slice a5 xa.length c5, .slice a6 xb.length c6] 25))).other2 (hol3.below (below_alloc _ (.cells #[.slice a5 xa.length c5, .slice a6 xb.length c6] 25))) (by decide) hg5) ((ob3.below (below_alloc _ (.cells #[.slice a5 xa.length c5, .slice a6 xb.length c6] 25))).other2 (hol3.below (below_alloc _ (.cells #[.slice a5 xa.length c5, .slice a6 xb.length c6] 25))) (by decide) hg5), by (show _ = _; rw [HLM.out, HAT.out]; simp), by (have := HRD4.out; omega), by (show _ ≤ _; rw [List.length_append]; have := HRD5.out; simp only [List.length_cons, List.length_nil]; omega), hB5⟩
        case measure => exact HRD2.out
end Go.Proofs.YtcmiopkcgoanpaaDoor
namespace Go.Proofs.YtcmiopkcgoanpaaDoor
open Go.RowKit
set_option maxHeartbeats 4000000
set_option maxRecDepth 100000
theorem alive51_facts : readM [32, 60, 97, 46, 98, 64, 99, 62, 32] = ([97, 46, 98], [99], 0) ∧ listM [60, 97, 64, 98, 62, 32, 40, 99, 41, 32, 120, 62, 32, 60, 100, 64, 69, 62] = ([([97], [98]), ([100], [69])], 1) ∧ samM ([], [101]) ([], [69]) = true := by decide +kernel
theorem alive51_any (w : World) : Calls Tryd.prog 6 #[] w fun e w' => e = .returned (.bool true) ∧ Below w.heap.size w w' := by
  have kc := fun (w : World) (C : Array Value) (n c : Nat) => Lib.run_convert_bytes_const (P := Tryd.prog) w 22 5 C n c Tryd.underlying22 Tryd.underlying5
  have kc1 : ∀ (w : World) (o : Obj) (C : Array Value) (n c : Nat), (convert 22 22 (.slice (some ⟨w.heap.size + 1, 0, none⟩) n c)).run Tryd.prog ((w.alloc o).alloc (.cells C 5)) = .ok (.slice (some ⟨w.heap.size + 1, 0, none⟩) n c) ((w.alloc o).alloc (.cells C 5 (C.size, C.size + 1))) := fun w o C n c => by
    have := kc (w.alloc o) C n c
    have e : (w.alloc o).heap.size = w.heap.size + 1 := by simp
    rw [e] at this
    exact this
  obtain ⟨f1, f2, f3⟩ := alive51_facts
  have h1 := fun v w' h' => mRead_any v [32, 60, 97, 46, 98, 64, 99, 62, 32] w' h' (by intro x hx; simp at hx; omega) (by simp)
  have h2 := fun v w' h' => mList_any v [60, 97, 64, 98, 62, 32, 40, 99, 41, 32, 120, 62, 32, 60, 100, 64, 69, 62] w' h' (by intro x hx; simp at hx; omega) (by simp)
  have h3 := fun b d w' hb hd => msame_any (.slice none 0 0) b (.slice none 0 0) d [] [101] [] [69] w' (Row.nil _) hb (Row.nil _) hd (Rg.nil _ _) (by intro x hx; simp at hx; omega) (Rg.nil _ _) (by intro x hx; simp at hx; omega) (by simp) (by simp)
  rw [f1] at h1; rw [f2] at h2; rw [f3] at h3
  have H1 := Lib.hid h1; have H2 := Lib.hid h2; have H3 := Lib.hid h3
  clear h1 h2 h3 f1 f2 f3
  go_enter Tryd.func6, Tryd.ntmps6
  go_wp2_with fail
  refine (H1.out _ _ (Row.flit [32, 60, 97, 46, 98, 64, 99, 62, 32] [_, _, _, _, _, _, _, _, _] rfl (by simp))).mono ?_
  rintro e w1 ⟨a, b, rfl, oa, ob, hb1⟩
  have hB1 := below_trans (below_alloc w _) hb1
  obtain ⟨a1, c1, rfl⟩ := oa.row.formN0 (n := 3) rfl
  obtain ⟨a2, c2, rfl⟩ := ob.row.formN0 (n := 1) rfl
  have hlit : ∀ (o : Obj) (xs : List Int) (cs : List Value), ints .u8 xs = cs → cs.length ≤ 1000000000 → ∀ f, Row ((w1.alloc o).alloc (.cells cs.toArray 5 f)) (.slice (some ⟨w1.heap.size + 1, 0, none⟩) cs.length cs.length) (ints .u8 xs) := fun o xs cs hx hl f => by
    have h9 : Row ((w1.alloc o).alloc (.cells cs.toArray 5 f)) (.slice (some ⟨(w1.alloc o).heap.size, 0, none⟩) cs.length cs.length) (ints .u8 xs) := Row.flit xs cs hx hl
    have e9 : (w1.alloc o).heap.size = w1.heap.size + 1 := by simp
    rw [e9] at h9
    exact h9
  have kc2 := kc1 w1
  go_wp2_with fail
  refine (H2.out _ _ (hlit _ [60, 97, 64, 98, 62, 32, 40, 99, 41, 32, 120, 62, 32, 60, 100, 64, 69, 62] [_, _, _, _, _, _, _, _, _, _, _, _, _, _, _, _, _, _] rfl (by simp) _)).mono ?_
  rintro e w2 ⟨t, l, rfl, ol, hel, hb2⟩
  have hbx : Below w1.heap.size w1 w2 := below_trans ((below_alloc w1 _).alloc (below_alloc w1 _).size _) hb2
  have hB2 := below_trans hB1 hbx
  obtain ⟨hp0, hp1⟩ := pair_new w1 (.slice a1 3 c1) (.slice a2 1 c2) 25
  have hd0 := cell_kept (cell_kept hp0 (below_alloc _ (.cells [.int .u8 60, .int .u8 97, .int .u8 64, .int .u8 98, .int .u8 62, .int .u8 32, .int .u8 40, .int .u8 99, .int .u8 41, .int .u8 32, .int .u8 120, .int .u8 62, .int .u8 32, .int .u8 60, .int .u8 100, .int .u8 64, .int .u8 69, .int .u8 62].toArray 5 (18, 19)))) hb2
  have hd1 := cell_kept (cell_kept hp1 (below_alloc _ (.cells [.int .u8 60, .int .u8 97, .int .u8 64, .int .u8 98, .int .u8 62, .int .u8 32, .int .u8 40, .int .u8 99, .int .u8 41, .int .u8 32, .int .u8 120, .int .u8 62, .int .u8 32, .int .u8 60, .int .u8 100, .int .u8 64, .int .u8 69, .int .u8 62].toArray 5 (18, 19)))) hb2
  have cv1 := rowstr2 _ (oa.row.below hbx)
  have cv2 := rowstr2 _ (ob.row.below hbx)
  rw [show strOfNums [97, 46, 98] = ⟨#[97, 46, 98]⟩ from by first | rfl | decide] at cv1
  rw [show strOfNums [99] = ⟨#[99]⟩ from by first | rfl | decide] at cv2
  have hl2 : l.length = 2 := hel.1
  obtain ⟨ta, tb, toff, tc, ht, _⟩ := ol.row
  rw [hl2] at ht
  subst ht
  clear hl2 hel ol kc2 hlit hp0 hp1
  have kc2 := kc w2
  have kc3 := kc1 w2
  go_wp2_with fail
  refine (H3.out _ _ _ (by exact (Row.flit [101] [_] rfl (by simp)).alloc _) (by
    have h9 : Row ((w2.alloc (.cells #[.int .u8 101] 5 (1, 2))).alloc (.cells #[.int .u8 69] 5 (1, 2))) (.slice (some ⟨(w2.alloc (.cells #[.int .u8 101] 5 (1, 2))).heap.size, 0, none⟩) 1 1) (ints .u8 [69]) := Row.flit [69] [_] rfl (by simp)
    have e9 : (w2.alloc (.cells #[.int .u8 101] 5 (1, 2))).heap.size = w2.heap.size + 1 := by simp
    rw [e9] at h9
    exact h9)).mono ?_
  rintro e w3 ⟨rfl, hb3⟩
  go_wp2
  go_ret
  exact ⟨rfl, below_trans ((hB2.alloc hB2.size _).alloc (hB2.alloc hB2.size _).size _) hb3⟩
end Go.Proofs.YtcmiopkcgoanpaaDoor
namespace Go.Proofs.YtcmiopkcgoanpaaDoor
open Go.RowKit
set_option maxHeartbeats 4000000
set_option maxRecDepth 100000
theorem rDotted_any (v : Value) (xs : List Int) (w : World) (h : Row w v (ints .u8 xs)) (hg : Rg 0 256 xs) (hl : xs.length ≤ 900000) :
    Calls Tryd.prog 14 #[v] w fun e w' => e = .returned (.bool (dotB xs)) ∧ w' = w := by
  rw [← dotR_dot]
  obtain ⟨a, b, off, cp, rfl, HC⟩ := h.op
  obtain ⟨q, HQ⟩ : ∃ q, Hid (dotR 0 xs = q) := ⟨_, rfl⟩
  rw [HQ.out]
  go_enter Tryd.func14, Tryd.ntmps14
  go_wp2
  go_loopw [3, 4] (fun lv i wr => ∃ k n : Nat, i = .int .i64 k ∧ lv = .int .i64 n ∧ k ≤ xs.length ∧ n ≤ k ∧ Hid (dotR n (xs.drop k) = q) ∧ wr = w) (fun _ i _ => xs.length - (intOf i).toNat)
  case atStart => exact ⟨0, 0, rfl, rfl, Nat.zero_le _, Nat.le_refl _, HQ.out, rfl⟩
  case round =>
    obtain ⟨k, n, rfl, rfl, hk, hnk, HK, hw0⟩ := hrel
    obtain rfl := hw0.symm
    by_cases hlt : k < xs.length
    · obtain ⟨c, HX, rfl, hc⟩ := HC.out k hlt
      replace hc := hc _ (Below.refl _ _)
      have hcr := hg.get HX.out
      have hkk := HK.out
      rw [drop_cons HX.out, dotR] at hkk
      by_cases h46 : c = 46
      · rw [if_pos h46] at hkk
        subst h46
        by_cases hn : n = 0
        · subst hn
          have hq : q = false := by rw [← hkk]; rfl
          subst hq
          clear hkk
          go_wp2
          go_ret
          exact ⟨rfl, rfl⟩
        · have bn : (((n : Nat) : Int) == 0) = false := beq_false_of_ne (by omega)
          rw [decide_eq_true (by omega), Bool.true_and] at hkk
          have HKK := Lib.hid hkk
          clear hkk hn
          go_wp2
          go_roundw
          case rel => exact ⟨k + 1, 0, by go_num, rfl, by omega, by omega, HKK.out, by first | rfl | trivial⟩
          case measure => simp [intOf]; omega
      · have b46 : (c == 46) = false := beq_false_of_ne h46
        rw [if_neg h46] at hkk
        have hi := fun w => ris_any c 64 (tokB c) w hcr.1 hcr.2 (kind_of kind_tok hcr.1 hcr.2)
        generalize tokB c = t at *
        have HI := Lib.hid hi
        have HKK := Lib.hid hkk
        clear hi hkk h46
        rcases t with _ | _
        · have hq : q = false := by rw [← HKK.out]; rfl
          subst hq
          go_wp2_with (go_at_call 30; refine (HI.out _).mono ?_; rintro e w' ⟨rfl, hw⟩; obtain rfl := hw.symm)
          go_ret
          exact ⟨rfl, rfl⟩
        · go_wp2_with (go_at_call 30; refine (HI.out _).mono ?_; rintro e w' ⟨rfl, hw⟩; obtain rfl := hw.symm)
          go_roundw
          case rel => exact ⟨k + 1, n + 1, by go_num, by go_num, by omega, by omega, HKK.out, by first | rfl | trivial⟩
          case measure => simp [intOf]; omega
    · have hkk := HK.out
      rw [List.drop_eq_nil_of_le (by omega), dotR] at hkk
      have HKK := Lib.hid hkk
      clear hkk
      by_cases hn : n = 0
      · subst hn
        have hq : q = false := by rw [← HKK.out]; rfl
        subst hq
        go_wp2
        go_ret
        exact ⟨rfl, rfl⟩
      · have hq : q = true := by rw [← HKK.out]; exact decide_eq_true (by omega)
        have hn1 : 0 < n := by omega
        subst hq
        go_wp2
        go_ret
        first | exact ⟨rfl, rfl⟩ | exact ⟨ret_bool (decide_eq_true (by omega)), rfl⟩
theorem same_any (a b c d : Value) (A B C D : List Int) (w : World) (ha : Row w a (ints .u8 A)) (hb0 : Row w b (ints .u8 B)) (hc : Row w c (ints .u8 C)) (hd : Row w d (ints .u8 D)) (hlA : A.length ≤ 900000) (hlB : B.length ≤ 900000) (hlC : C.length ≤ 900000) (hlD : D.length ≤ 900000) :
    Calls Tryd.prog 11 #[.agg #[a, b], .agg #[c, d]] w fun e w' => e = .returned (.bool (decide (A = C) && decide (B = D))) ∧ Below w.heap.size w w' := by
  have h1 := fun w' h1' h2' => like1_any a c A C w' h1' h2' (by omega) (by omega)
  have h2 := fun w' h1' h2' => like1_any b d B D w' h1' h2' (by omega) (by omega)
  generalize decide (A = C) = p at *
  generalize decide (B = D) = q at *
  have H1 := Lib.hid h1; have H2 := Lib.hid h2
  clear h1 h2
  have hB1 := below_alloc w (.cells #[a, b] 25)
  have hB2 := hB1.alloc hB1.size (.cells #[c, d] 29)
  obtain ⟨_, hx1⟩ := pair_new w a b 25
  obtain ⟨_, hx2⟩ := pair_new (w.alloc (.cells #[a, b] 25)) c d 29
  have hx1' := cell_kept hx1 (below_alloc _ (.cells #[c, d] 29))
  have e9 : (w.alloc (.cells #[a, b] 25)).heap.size = w.heap.size + 1 := by simp
  rw [e9] at hx2
  have HX1 := Lib.hid hx1'; have HX2 := Lib.hid hx2
  clear hx1 hx2 hx1' e9
  rcases p with _ | _
  · go_enter Tryd.func11, Tryd.ntmps11
    go_wp2_with fail
    refine (H1.out _ (ha.below hB2) (hc.below hB2)).mono ?_
    rintro e w1 ⟨rfl, hb1⟩
    go_wp2
    go_ret
    exact ⟨rfl, below_trans hB2 hb1⟩
  · go_enter Tryd.func11, Tryd.ntmps11
    go_wp2_with fail
    refine (H1.out _ (ha.below hB2) (hc.below hB2)).mono ?_
    rintro e w1 ⟨rfl, hb1⟩
    have hx1 := cell_kept HX1.out hb1
    have hx2 := cell_kept HX2.out hb1
    have hB3 := below_trans hB2 hb1
    go_wp2_with fail
    refine (H2.out _ (hb0.below hB3) (hd.below hB3)).mono ?_
    rintro e w2 ⟨rfl, hb2⟩
    go_wp2
    go_ret
    exact ⟨rfl, below_trans hB3 hb2⟩
end Go.Proofs.YtcmiopkcgoanpaaDoor
namespace Go.Proofs.YtcmiopkcgoanpaaDoor
open Go.RowKit
set_option maxHeartbeats 8000000
set_option maxRecDepth 100000
theorem idxC_rng (c : Int) (l : List Int) : idxC c l = -1 ∨ (0 ≤ idxC c l ∧ idxC c l < l.length) := by
  unfold idxC
  split
  · rename_i h; have := tw_lt h; exact .inr ⟨by omega, by omega⟩
  · exact .inl rfl
theorem idxC_snoc {c x : Int} {l : List Int} {j : Nat} (h : l[j]? = some x) : idxC c (l.take (j + 1)) = if 0 ≤ idxC c (l.take j) then idxC c (l.take j) else if x = c then (j : Int) else -1 := by
  obtain ⟨hj, _⟩ := List.getElem?_eq_some_iff.1 h
  have hlen : (l.take j).length = j := by rw [List.length_take]; omega
  rw [List.take_add_one, h]
  cases hc : (l.take j).contains c with
  | true =>
    have h1 : ((l.take j) ++ (some x).toList).contains c = true := by simp at hc ⊢; exact .inl hc
    rw [idxC_yes hc, if_pos (by omega), idxC_yes h1]
    have h2 : tw c ((l.take j) ++ (some x).toList) = tw c (l.take j) := by
      have : ∀ (a b : List Int), a.contains c = true → tw c (a ++ b) = tw c a := by
        intro a b ha
        induction a with
        | nil => simp at ha
        | cons y a ih =>
          by_cases hy : y = c
          · subst hy; simp [tw]
          · have ha2 : a.contains c = true := by
              simp only [List.contains_cons, Bool.or_eq_true] at ha
              rcases ha with h | h
              · simp at h; exact absurd h.symm hy
              · exact h
            have := ih ha2
            simp only [tw] at this ⊢
            simp [hy, this]
      exact this _ _ hc
    rw [h2]
  | false =>
    rw [idxC_no hc, if_neg (by omega)]
    by_cases hx : x = c
    · subst hx
      have h1 : ((l.take j) ++ (some x).toList).contains x = true := by simp
      have h2 : tw x ((l.take j) ++ (some x).toList) = l.take j := by
        have h3 : ∀ y ∈ l.take j, y ≠ x := fun y hy h9 => by
          subst h9
          have : (l.take j).contains y = true := by simpa using hy
          rw [hc] at this; cases this
        exact tw_app (B := []) h3
      rw [if_pos rfl, idxC_yes h1, h2, hlen]
    · have h1 : ((l.take j) ++ (some x).toList).contains c = false := by
        simp at hc ⊢
        exact ⟨hc, fun h9 => hx h9.symm⟩
      rw [if_neg hx, idxC_no h1]
theorem cont_snoc {c x : Int} {l : List Int} {j : Nat} (h : l[j]? = some x) (hn : (l.take j).contains c = false) (hx : x ≠ c) : (l.take (j + 1)).contains c = false := by
  rw [List.take_add_one, h]
  simp at hn ⊢
  exact ⟨hn, fun h9 => hx h9.symm⟩
theorem tw_at {c : Int} {l : List Int} {j : Nat} (h : l[j]? = some c) (hn : (l.take j).contains c = false) : l.contains c = true ∧ tw c l = l.take j := by
  have e : l = l.take j ++ c :: l.drop (j + 1) := by rw [← drop_cons h, List.take_append_drop]
  have h3 : ∀ y ∈ l.take j, y ≠ c := fun y hy h9 => by
    subst h9
    have : (l.take j).contains y = true := by simpa using hy
    rw [hn] at this; cases this
  refine ⟨by rw [e]; simp, ?_⟩
  conv => lhs; rw [e]
  exact tw_app h3
/-- The place, from n on, or -1. -/
def plc (n : Nat) (i : Int) : Int := if 0 ≤ i then n + i else -1
/-- What the loop of the reference's Read keeps. -/
def RdI (n : Nat) (y : List Int) (av ev kv : Value) : Prop :=
  ∃ j : Nat, kv = .int .i64 ((n + j : Nat) : Int) ∧ j ≤ y.length ∧ av = .int .i64 (plc n (idxC 64 (y.take j))) ∧
    ((ev = .int .i64 (-1) ∧ (y.take j).contains 62 = false) ∨ (ev = .int .i64 ((n + (tw 62 y).length : Nat) : Int) ∧ y.contains 62 = true ∧ j = (tw 62 y).length + 1))
end Go.Proofs.YtcmiopkcgoanpaaDoor
