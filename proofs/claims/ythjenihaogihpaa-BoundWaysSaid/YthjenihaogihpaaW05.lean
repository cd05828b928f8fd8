/- Walks: UTF-8, texts: laying, lengths, the reference's reading. -/
import Derived.Test.YthjenihaogihpaaP05
import Derived.Test.YthjenihaogihpaaW04e
import Derived.Test.YthjenihaogihpaaW0b
namespace Go.Proofs.Ythjenihaogihpaa
open Go.RowKit
set_option maxHeartbeats 1000000

/-- A text laid, or the error. -/
def elayR (xs : List Int) : List Int × Int := if allSc xs then (elay xs, 0) else ([], 7)
theorem eLay_any (v : Value) (xs : List Int) (w : World) (h : Row w v (ints .i32 xs)) (hr : R32 xs) (hl : xs.length ≤ 1000000) :
    Calls Try.prog 34 #[v] w fun e w' => ∃ t, e = .returned (.tuple #[t, .int .i64 (elayR xs).2]) ∧ Own w.heap.size 5 w' t (ints .u8 (elayR xs).1) ∧ Below w.heap.size w w' := by
  by_cases ha : allSc xs = true
  · rw [show elayR xs = (elay xs, 0) by rw [elayR, if_pos ha]]
    have hsc : ∀ x ∈ xs, scB x = true := List.all_eq_true.1 ha
    have HSC := Lib.hid hsc; clear hsc
    obtain ⟨a, b, off, cap, rfl, HC⟩ := id h.op
    go_enter Try.func34, Try.ntmps34
    go_wp2_with (go_at_call 50; refine (right_any _ _ _ h hr (by omega)).mono ?_; rintro e w' ⟨rfl, rfl⟩)
    clear h ha
    go_loopw [4, 14] (fun u i wr => ∃ k : Nat, i = .int .i64 k ∧ k ≤ xs.length ∧ Own w.heap.size 5 wr u (ints .u8 (elay (xs.take k))) ∧ Below w.heap.size w wr) (fun _ i _ => xs.length - (intOf i).toNat)
    case atStart => exact ⟨0, rfl, Nat.zero_le _, Own.nil _ _ _, Below.refl _ _⟩
    case round =>
      obtain ⟨k, rfl, hk, hown, hb⟩ := hrel
      by_cases hlt : k < xs.length
      · obtain ⟨x, HX, rfl, hc⟩ := HC.out k hlt
        replace hc := hc wr hb
        have hxr := hr.get HX.out
        have HU := Lib.hid (elay_snoc HX.out)
        have hput := fun w => oPut_any _ [] x w (Row.nil w) (by simp) hxr.1 hxr.2
        rw [show putR [] x = (octs x, 0) by rw [putR, if_pos (HSC.out x (List.mem_of_getElem? HX.out))]; rfl] at hput
        have HPUT := Lib.hid hput; clear hput
        have HLb : Hid ((ints .u8 (elay (xs.take k))).length + (ints .u8 (octs x)).length ≤ 1000000000) := by
          have h1 := elay_len (xs.take k); have h2 := octs_len4 x; rw [List.length_take] at h1; show _ ≤ _; simp only [ints_length]; omega
        go_wp2_with (first | (go_at_call 51; refine (HPUT.out _).mono ?_; rintro e' w1 ⟨v2, rfl, ho1, hb1⟩) | (at_builtin; refine wpList_app slT_u8 _ _ _ rfl rfl rfl rfl (hown.below hb1) ho1.row HLb.out (below_size2 hb hb1) ?_; intro t2 w2 hown2 hg2))
        go_roundw
        case rel => exact ⟨k + 1, by go_num, by omega, by rw [HU.out, ints_append]; exact hown2, below_app hb hb1 (hown.below hb1) hg2⟩
        case measure => simp [intOf]; omega
      · go_wp2
        go_ret2
        rw [List.take_of_length_le (by omega)] at hown
        exact ⟨_, rfl, hown, hb⟩
  · rw [show elayR xs = ([], 7) by rw [elayR, if_neg ha]]
    replace ha : allSc xs = false := by simpa using ha
    go_enter Try.func34, Try.ntmps34
    go_wp2_with (go_at_call 50; refine (right_any _ _ _ h hr (by omega)).mono ?_; rintro e w' ⟨rfl, rfl⟩)
    go_ret2
    exact ⟨_, rfl, Own.nil _ _ _, Below.refl _ _⟩
theorem reLay_any (v : Value) (xs : List Int) (w : World) (h : Row w v (ints .i32 xs)) (hr : R32 xs) (hl : xs.length ≤ 1000000) :
    Calls Try.prog 35 #[v] w fun e w' => ∃ t, e = .returned (.tuple #[t, .int .i64 (elayR xs).2]) ∧ Own w.heap.size 5 w' t (ints .u8 (elayR xs).1) ∧ Below w.heap.size w w' := by
  have hf := fun w' h' => rfirst_any v xs w' h' (by omega)
  obtain ⟨q, HQ⟩ : ∃ q, Hid (idx (fun c => !scB c) xs = q) := ⟨_, rfl⟩
  rw [HQ.out] at hf
  have HF := Lib.hid hf; clear hf
  by_cases ha : q < 0
  · rw [show elayR xs = (elay xs, 0) by rw [elayR, if_pos (by rw [allSc_idx, HQ.out]; simpa using ha)]]
    have ha' : ¬ 0 ≤ q := by omega
    obtain ⟨a, b, off, cap, rfl, HC⟩ := id h.op
    go_enter Try.func35, Try.ntmps35
    go_wp2_with (go_at_call 39; refine (HF.out _ h).mono ?_; rintro e w' ⟨rfl, rfl⟩)
    clear h ha ha'
    go_loopw [4, 5] (fun u i wr => ∃ k : Nat, i = .int .i64 k ∧ k ≤ xs.length ∧ Own w.heap.size 5 wr u (ints .u8 (elay (xs.take k))) ∧ Below w.heap.size w wr) (fun _ i _ => xs.length - (intOf i).toNat)
    case atStart => exact ⟨0, rfl, Nat.zero_le _, Own.nil _ _ _, Below.refl _ _⟩
    case round =>
      obtain ⟨k, rfl, hk, hown, hb⟩ := hrel
      by_cases hlt : k < xs.length
      · obtain ⟨x, HX, rfl, hc⟩ := HC.out k hlt
        replace hc := hc wr hb
        have hxr := hr.get HX.out
        have HU := Lib.hid (elay_snoc HX.out)
        have HLb : Hid ((ints .u8 (elay (xs.take k))).length + (ints .u8 (octs x)).length ≤ 1000000000) := by
          have h1 := elay_len (xs.take k); have h2 := octs_len4 x; rw [List.length_take] at h1; show _ ≤ _; simp only [ints_length]; omega
        go_wp2_with (first | (go_at_call 52; refine (roct_any _ _ hxr.1 hxr.2).mono ?_; rintro e' w1 ⟨v2, rfl, ho1, hb1⟩) | (at_builtin; refine wpList_app slT_u8 _ _ _ rfl rfl rfl rfl (hown.below hb1) ho1.row HLb.out (below_size2 hb hb1) ?_; intro t2 w2 hown2 hg2))
        go_roundw
        case rel => exact ⟨k + 1, by go_num, by omega, by rw [HU.out, ints_append]; exact hown2, below_app hb hb1 (hown.below hb1) hg2⟩
        case measure => simp [intOf]; omega
      · go_wp2
        go_ret2
        rw [List.take_of_length_le (by omega)] at hown
        exact ⟨_, rfl, hown, hb⟩
  · rw [show elayR xs = ([], 7) by rw [elayR, if_neg (by rw [allSc_idx, HQ.out]; simpa using ha)]]
    have ha' : 0 ≤ q := by omega
    go_enter Try.func35, Try.ntmps35
    go_wp2_with (go_at_call 39; refine (HF.out _ h).mono ?_; rintro e w' ⟨rfl, rfl⟩)
    go_ret2
    exact ⟨_, rfl, Own.nil _ _ _, Below.refl _ _⟩

theorem elen_rng (xs : List Int) : 0 ≤ elen xs ∧ elen xs ≤ 4 * xs.length := by
  rw [elen_eq]; have := elay_len xs; omega
theorem eLen_any (v : Value) (xs : List Int) (w : World) (h : Row w v (ints .i32 xs)) (hr : R32 xs) (hl : xs.length ≤ 1000000) :
    Calls Try.prog 36 #[v] w fun e w' => e = .returned (.int .i64 (elen xs)) ∧ w = w' := by
  obtain ⟨a, b, off, cap, rfl, HC⟩ := h.op
  clear h
  go_enter Try.func36, Try.ntmps36
  go_wp2
  go_loop [3, 8] (fun n i => ∃ (k : Nat) (m : Int), i = .int .i64 k ∧ k ≤ xs.length ∧ n = .int .i64 m ∧ Hid (elen (xs.take k) = m) ∧ 0 ≤ m ∧ m ≤ 4 * k) (fun _ i => xs.length - (intOf i).toNat)
  case atStart => exact ⟨0, 0, rfl, Nat.zero_le _, rfl, (show elen [] = 0 from rfl), by omega, by omega⟩
  case round =>
    obtain ⟨k, m, rfl, hk, rfl, HM, hm0, hm1⟩ := hrel
    by_cases hlt : k < xs.length
    · obtain ⟨x, HX, rfl, hc⟩ := HC.out k hlt
      replace hc := hc w (Below.refl _ _)
      have hxr := hr.get HX.out
      have HU := Lib.hid (elen_snoc HX.out)
      have h4 := octs_len4 x
      have hu := octs_len x
      have hu0 : 0 ≤ ulenI x := by omega
      have hu4 : ulenI x ≤ 4 := by omega
      clear hu h4
      go_wp2_with (go_at_call 53; refine (oLen_any _ _ hxr.1 hxr.2).mono ?_; rintro e w' ⟨rfl, rfl⟩)
      go_round
      case rel => exact ⟨k + 1, _, by go_num, by omega, rfl, by rw [show Hid (elen (xs.take (k + 1)) = m + ulenI x) = (elen (xs.take (k + 1)) = m + ulenI x) from rfl, HU.out, HM.out], by omega, by omega⟩
      case measure => simp [intOf]; omega
    · go_wp2
      go_ret
      have hh := HM.out
      rw [List.take_of_length_le (by omega)] at hh
      exact ⟨ret_int hh.symm, rfl⟩
theorem reLen_any (v : Value) (xs : List Int) (w : World) (h : Row w v (ints .i32 xs)) (hr : R32 xs) (hl : xs.length ≤ 1000000) :
    Calls Try.prog 37 #[v] w fun e w' => e = .returned (.int .i64 (elen xs)) ∧ Below w.heap.size w w' := by
  obtain ⟨a, b, off, cap, rfl, HC⟩ := h.op
  clear h
  go_enter Try.func37, Try.ntmps37
  go_wp2
  go_loopw [3, 4] (fun n i wr => ∃ (k : Nat) (m : Int), i = .int .i64 k ∧ k ≤ xs.length ∧ n = .int .i64 m ∧ Hid (elen (xs.take k) = m) ∧ 0 ≤ m ∧ m ≤ 4 * k ∧ Below w.heap.size w wr) (fun _ i _ => xs.length - (intOf i).toNat)
  case atStart => exact ⟨0, 0, rfl, Nat.zero_le _, rfl, (show elen [] = 0 from rfl), by omega, by omega, Below.refl _ _⟩
  case round =>
    obtain ⟨k, m, rfl, hk, rfl, HM, hm0, hm1, hb⟩ := hrel
    by_cases hlt : k < xs.length
    · obtain ⟨x, HX, rfl, hc⟩ := HC.out k hlt
      replace hc := hc wr hb
      have hxr := hr.get HX.out
      have HU := Lib.hid (elen_snoc HX.out)
      have h4 := octs_len4 x
      have hu := octs_len x
      rw [← hu] at HU
      clear hu
      go_wp2_with ((go_at_call 52; refine (roct_any _ _ hxr.1 hxr.2).mono ?_; rintro e w1 ⟨v2, rfl, ho1, hb1⟩; obtain ⟨a2, b2, o2, c2, rfl, _⟩ := ho1.row.op))
      go_roundw
      case rel => exact ⟨k + 1, _, by go_num, by omega, rfl, by rw [show Hid (elen (xs.take (k + 1)) = m + ((octs x).length : Int)) = (elen (xs.take (k + 1)) = m + ((octs x).length : Int)) from rfl, HU.out, HM.out], by omega, by omega, below_trans hb hb1⟩
      case measure => simp [intOf]; omega
    · go_wp2
      go_ret
      have hh := HM.out
      rw [List.take_of_length_le (by omega)] at hh
      exact ⟨ret_int hh.symm, hb⟩

/-- What the reference's loop keeps. -/
def EU (w : World) (xs : List Int) (t n f i : Value) (wr : World) : Prop :=
  ∃ (ps : List (Int × Int)) (k : Nat) (q : Int), i = .int .i64 k ∧ k ≤ xs.length ∧ Hid (eread xs = ps ++ eread (xs.drop k)) ∧ ps.length ≤ k ∧
    Own w.heap.size 21 wr t (ints .i32 (ps.map rd)) ∧ n = .int .i64 ((ps.filter bad).length : Nat) ∧ f = .int .i64 q ∧ Hid (ferr (ps.map Prod.snd) = q) ∧ Below w.heap.size w wr
theorem EU_step {w : World} {xs : List Int} {ps : List (Int × Int)} {k n : Nat} {q q' c e m : Int} {t2 : Value} {w2 : World}
    (HP : Hid (eread xs = ps ++ eread (xs.drop k))) (HU : eread (xs.drop k) = (c, e) :: eread ((xs.drop k).drop n)) (hlen : ps.length ≤ k) (hk : k + n ≤ xs.length) (hn : 1 ≤ n)
    (hown2 : Own w.heap.size 21 w2 t2 (ints .i32 (ps.map rd) ++ ints .i32 [rd (c, e)])) (hb2 : Below w.heap.size w w2) (HQ : Hid (ferr (ps.map Prod.snd) = q)) (hq : q' = if q = 0 then e else q)
    (hm : m = ((ps.filter bad).length : Nat) + (if e = 0 then 0 else 1)) {j : Int} (hj : j = ((k + n : Nat) : Int)) :
    EU w xs t2 (.int .i64 m) (.int .i64 q') (.int .i64 j) w2 := by
  refine ⟨ps ++ [(c, e)], k + n, q', by rw [hj], hk, ?_, by simp; omega, by rw [List.map_append, ints_append]; exact hown2, ?_, rfl, ?_, hb2⟩
  · show _ = _
    rw [HP.out, HU, List.drop_drop, List.append_assoc]; rfl
  · rw [hm, List.filter_append]
    congr 1
    by_cases he : e = 0
    · subst he
      have hb : List.filter bad [(c, 0)] = [] := rfl
      rw [hb]; simp
    · have hb : bad (c, e) = true := by simpa [bad] using he
      rw [List.filter_cons, if_pos hb]; simp [he]
  · show _ = _
    rw [List.map_append, List.map_cons, List.map_nil, ferr_snoc, HQ.out, hq]
theorem reRead_any (v : Value) (xs : List Int) (w : World) (h : Row w v (ints .u8 xs)) (hg : Rg 0 256 xs) (hl : xs.length ≤ 1000000) :
    Calls Try.prog 12 #[v] w fun e w' => ∃ t, e = .returned (.tuple #[t, .int .i64 (ebad xs : Nat), .int .i64 (eerr xs)]) ∧ Own w.heap.size 21 w' t (ints .i32 (etext xs)) ∧ Below w.heap.size w w' := by
  obtain ⟨a, b, off, cap, rfl, HC⟩ := id h.op
  go_enter Try.func12, Try.ntmps12
  go_wp2
  go_loopw [5, 6, 7, 8] (fun t n f i wr => EU w xs t n f i wr) (fun _ _ _ i _ => xs.length - (intOf i).toNat)
  case atStart => exact ⟨[], 0, 0, rfl, Nat.zero_le _, rfl, Nat.le_refl _, Own.nil _ _ _, rfl, rfl, rfl, Below.refl _ _⟩
  case round =>
    obtain ⟨ps, k, q, rfl, hk, HP, hlen, hown, rfl, rfl, HQ, hb⟩ := hrel
    by_cases hlt : k < xs.length
    · obtain ⟨x, r, hxr⟩ : ∃ x r, xs.drop k = x :: r := by
        cases hd : xs.drop k with
        | nil => rw [List.drop_eq_nil_iff] at hd; omega
        | cons x r => exact ⟨x, r, rfl⟩
      have hdl : (xs.drop k).length = xs.length - k := by simp
      have hT := fun v w' h' => rTake_any v (xs.drop k) w' h' (hg.drop k) (by simp; omega)
      have hcons := eread_cons x r
      have hpos := takeR_pos x r
      have hle := (takeR_n (x :: r)).2.1
      rw [← hxr] at hcons hpos hle
      generalize takeR (xs.drop k) = tk at *
      obtain ⟨c, n, e⟩ := tk
      simp only [] at hT hcons hpos hle
      have HT := Lib.hid hT; have HU := Lib.hid hcons
      have hkn : (k : Int) + n ≤ xs.length := by rw [hdl] at hle; omega
      clear hT hcons hxr hle hdl
      have hfl : (ps.filter bad).length ≤ ps.length := List.length_filter_le _ _
      generalize hfq : (ps.filter bad).length = fb at *
      have HFB := Lib.hid hfq; clear hfq
      by_cases he : e = 0
      · subst he
        go_wp2_with (first | (refine wpList_slL slT_u8 _ _ rfl rfl rfl rfl (h.below hb) (by omega) (by simp [ints]; omega) ?_; intro v2 hv2; have r2 := hv2 _ (h.below hb); rw [Int.toNat_natCast, ints_drop] at r2) | (go_at_call 40; refine (HT.out _ _ r2).mono ?_; rintro e' w1 ⟨rfl, hb1⟩) | (at_builtin; refine wpList_app slT_i32 _ _ _ rfl rfl rfl rfl ((hown.below hb1).alloc _) (Row.ilit [_] [_] rfl (by simp)) (by simp [ints]; omega) (by have := below_size2 hb hb1; simp; omega) ?_; intro t2 w2 hown2 hg2; have hb2 := below_app hb (hb1.alloc hb1.size _) ((hown.below hb1).alloc _) hg2))
        go_roundw
        case rel => exact EU_step (n := n.toNat) (c := c) (e := 0) HP HU.out hlen (by omega) (by omega) hown2 hb2 HQ (by split <;> simp_all) (by rw [HFB.out]; simp) (by omega)
        case measure => simp [intOf]; omega
      · have he' : (e != 0) = true := by simpa using he
        have HE := Lib.hid he; clear he
        by_cases hq : (q == 0) = true
        · go_wp2_with (first | (refine wpList_slL slT_u8 _ _ rfl rfl rfl rfl (h.below hb) (by omega) (by simp [ints]; omega) ?_; intro v2 hv2; have r2 := hv2 _ (h.below hb); rw [Int.toNat_natCast, ints_drop] at r2) | (go_at_call 40; refine (HT.out _ _ r2).mono ?_; rintro e' w1 ⟨rfl, hb1⟩) | (at_builtin; refine wpList_app slT_i32 _ _ _ rfl rfl rfl rfl ((hown.below hb1).alloc _) (Row.ilit [_] [_] rfl (by simp)) (by simp [ints]; omega) (by have := below_size2 hb hb1; simp; omega) ?_; intro t2 w2 hown2 hg2; have hb2 := below_app hb (hb1.alloc hb1.size _) ((hown.below hb1).alloc _) hg2))
          go_roundw
          case rel => exact EU_step (n := n.toNat) (c := c) (e := e) HP HU.out hlen (by omega) (by omega) (by rw [show rd (c, e) = 65533 by simp [rd, HE.out]]; exact hown2) hb2 HQ (by rw [if_pos (by simpa using hq)]) (by rw [HFB.out, if_neg HE.out]) (by omega)
          case measure => simp [intOf]; omega
        · replace hq : (q == 0) = false := by simpa using hq
          go_wp2_with (first | (refine wpList_slL slT_u8 _ _ rfl rfl rfl rfl (h.below hb) (by omega) (by simp [ints]; omega) ?_; intro v2 hv2; have r2 := hv2 _ (h.below hb); rw [Int.toNat_natCast, ints_drop] at r2) | (go_at_call 40; refine (HT.out _ _ r2).mono ?_; rintro e' w1 ⟨rfl, hb1⟩) | (at_builtin; refine wpList_app slT_i32 _ _ _ rfl rfl rfl rfl ((hown.below hb1).alloc _) (Row.ilit [_] [_] rfl (by simp)) (by simp [ints]; omega) (by have := below_size2 hb hb1; simp; omega) ?_; intro t2 w2 hown2 hg2; have hb2 := below_app hb (hb1.alloc hb1.size _) ((hown.below hb1).alloc _) hg2))
          go_roundw
          case rel => exact EU_step (n := n.toNat) (c := c) (e := e) HP HU.out hlen (by omega) (by omega) (by rw [show rd (c, e) = 65533 by simp [rd, HE.out]]; exact hown2) hb2 HQ (by rw [if_neg (by simpa using hq)]) (by rw [HFB.out, if_neg HE.out]) (by omega)
          case measure => simp [intOf]; omega
    · have hd : xs.drop k = [] := by rw [List.drop_eq_nil_iff]; omega
      have HD := Lib.hid hd; clear hd
      go_wp2
      go_ret3
      have hpp : eread xs = ps := by rw [HP.out, HD.out, eread_nil, List.append_nil]
      exact ⟨_, ret3 rfl (iv (by rw [ebad, hpp])) (iv (by rw [eerr, hpp, HQ.out])), by rw [etext, hpp]; exact hown, hb⟩
end Go.Proofs.Ythjenihaogihpaa
