/- Walks: UTF-8, texts: laying, lengths, the reference's reading. · Walks: UTF-8, texts: going through the signs by a closure. (laid together by program out of single texts). -/
import Derived.Test.YtponfaglflmnkaaGreatM4
import Derived.Test.YtponfaglflmnkaaGreatM12
import Derived.Test.YtponfaglflmnkaaGreatM25
namespace Go.Proofs.YtponfaglflmnkaaGreat
open Go.RowKit
set_option maxHeartbeats 1000000

/-- A text laid, or the error. -/
def elayR (xs : List Int) : List Int × Int := if allSc xs then (elay xs, 0) else ([], 7)
theorem eLay_any (v : Value) (xs : List Int) (w : World) (h : Row w v (ints .i32 xs)) (hr : R32 xs) (hl : xs.length ≤ 1000000) :
    Calls Tryz.prog 115 #[v] w fun e w' => ∃ t, e = .returned (.tuple #[t, .int .i64 (elayR xs).2]) ∧ Own w.heap.size 5 w' t (ints .u8 (elayR xs).1) ∧ Below w.heap.size w w' := by
  by_cases ha : allSc xs = true
  · rw [show elayR xs = (elay xs, 0) by rw [elayR, if_pos ha]]
    have hsc : ∀ x ∈ xs, scB x = true := List.all_eq_true.1 ha
    have HSC := Lib.hid hsc; clear hsc
    obtain ⟨a, b, off, cap, rfl, HC⟩ := id h.op
    go_enter Tryz.func115, Tryz.ntmps115
    go_wp2_with (go_at_call 91; refine (right_any _ _ _ h hr (by omega)).mono ?_; rintro e w' ⟨rfl, rfl⟩)
    clear h ha
    go_loopw [4, 14] (fun u i wr => ∃ k : Nat, i = .int .i64 k ∧ k ≤ xs.length ∧ Own w.heap.size 5 wr u (ints .u8 (elay (xs.take k))) ∧ Below w.heap.size w wr) (fun _ i _ => xs.length - (intOf i).toNat)
    case atStart => exact ⟨0, rfl, Nat.zero_le _, Own.nil _ _ _, Below.refl _ _⟩
    case round =>
      obtain ⟨k, rfl, hk, hown, hb⟩ := hrel
      by_cases hlt : k < xs.length
      · obtain ⟨x, HX, rfl, hc⟩ := HC.out k hlt
        replace hc := hc wr hb
        have hxr := hr.get HX.out
        have HU := Lib.hid (elay_snoc HX.out)
        have hput := fun w => oPut_any _ [] x w (Row.nil w) (by simp) hxr.1 hxr.2
        rw [show putR [] x = (octs x, 0) by rw [putR, if_pos (HSC.out x (List.mem_of_getElem? HX.out))]; rfl] at hput
        have HPUT := Lib.hid hput; clear hput
        have HLb : Hid ((ints .u8 (elay (xs.take k))).length + (ints .u8 (octs x)).length ≤ 1000000000) := by
          have h1 := elay_len (xs.take k); have h2 := octs_len4 x; rw [List.length_take] at h1; show _ ≤ _; simp only [ints_length]; omega
        go_wp2_with (first | (go_at_call 129; refine (HPUT.out _).mono ?_; rintro e' w1 ⟨v2, rfl, ho1, hb1⟩) | (at_builtin; refine wpList_app slT_u8 _ _ _ rfl rfl rfl rfl (hown.below hb1) ho1.row HLb.out (below_size2 hb hb1) ?_; intro t2 w2 hown2 hg2))
        go_roundw
        case rel => exact ⟨k + 1, by go_num, by omega, by rw [HU.out, ints_append]; exact hown2, below_app hb hb1 (hown.below hb1) hg2⟩
        case measure => simp [intOf]; omega
      · go_wp2
        go_ret2
        rw [List.take_of_length_le (by omega)] at hown
        exact ⟨_, rfl, hown, hb⟩
  · rw [show elayR xs = ([], 7) by rw [elayR, if_neg ha]]
    replace ha : allSc xs = false := by simpa using ha
    go_enter Tryz.func115, Tryz.ntmps115
    go_wp2_with (go_at_call 91; refine (right_any _ _ _ h hr (by omega)).mono ?_; rintro e w' ⟨rfl, rfl⟩)
    go_ret2
    exact ⟨_, rfl, Own.nil _ _ _, Below.refl _ _⟩
theorem reLay_any (v : Value) (xs : List Int) (w : World) (h : Row w v (ints .i32 xs)) (hr : R32 xs) (hl : xs.length ≤ 1000000) :
    Calls Tryz.prog 16 #[v] w fun e w' => ∃ t, e = .returned (.tuple #[t, .int .i64 (elayR xs).2]) ∧ Own w.heap.size 5 w' t (ints .u8 (elayR xs).1) ∧ Below w.heap.size w w' := by
  have hf := fun w' h' => rfirst_any v xs w' h' (by omega)
  obtain ⟨q, HQ⟩ : ∃ q, Hid (idx (fun c => !scB c) xs = q) := ⟨_, rfl⟩
  rw [HQ.out] at hf
  have HF := Lib.hid hf; clear hf
  by_cases ha : q < 0
  · rw [show elayR xs = (elay xs, 0) by rw [elayR, if_pos (by rw [allSc_idx, HQ.out]; simpa using ha)]]
    have ha' : ¬ 0 ≤ q := by omega
    obtain ⟨a, b, off, cap, rfl, HC⟩ := id h.op
    go_enter Tryz.func16, Tryz.ntmps16
    go_wp2_with (go_at_call 15; refine (HF.out _ h).mono ?_; rintro e w' ⟨rfl, rfl⟩)
    clear h ha ha'
    go_loopw [4, 5] (fun u i wr => ∃ k : Nat, i = .int .i64 k ∧ k ≤ xs.length ∧ Own w.heap.size 5 wr u (ints .u8 (elay (xs.take k))) ∧ Below w.heap.size w wr) (fun _ i _ => xs.length - (intOf i).toNat)
    case atStart => exact ⟨0, rfl, Nat.zero_le _, Own.nil _ _ _, Below.refl _ _⟩
    case round =>
      obtain ⟨k, rfl, hk, hown, hb⟩ := hrel
      by_cases hlt : k < xs.length
      · obtain ⟨x, HX, rfl, hc⟩ := HC.out k hlt
        replace hc := hc wr hb
        have hxr := hr.get HX.out
        have HU := Lib.hid (elay_snoc HX.out)
        have HLb : Hid ((ints .u8 (elay (xs.take k))).length + (ints .u8 (octs x)).length ≤ 1000000000) := by
          have h1 := elay_len (xs.take k); have h2 := octs_len4 x; rw [List.length_take] at h1; show _ ≤ _; simp only [ints_length]; omega
        go_wp2_with (first | (go_at_call 36; refine (roct_any _ _ hxr.1 hxr.2).mono ?_; rintro e' w1 ⟨v2, rfl, ho1, hb1⟩) | (at_builtin; refine wpList_app slT_u8 _ _ _ rfl rfl rfl rfl (hown.below hb1) ho1.row HLb.out (below_size2 hb hb1) ?_; intro t2 w2 hown2 hg2))
        go_roundw
        case rel => exact ⟨k + 1, by go_num, by omega, by rw [HU.out, ints_append]; exact hown2, below_app hb hb1 (hown.below hb1) hg2⟩
        case measure => simp [intOf]; omega
      · go_wp2
        go_ret2
        rw [List.take_of_length_le (by omega)] at hown
        exact ⟨_, rfl, hown, hb⟩
  · rw [show elayR xs = ([], 7) by rw [elayR, if_neg (by rw [allSc_idx, HQ.out]; simpa using ha)]]
    have ha' : 0 ≤ q := by omega
    go_enter Tryz.func16, Tryz.ntmps16
    go_wp2_with (go_at_call 15; refine (HF.out _ h).mono ?_; rintro e w' ⟨rfl, rfl⟩)
    go_ret2
    exact ⟨_, rfl, Own.nil _ _ _, Below.refl _ _⟩

theorem elen_rng (xs : List Int) : 0 ≤ elen xs ∧ elen xs ≤ 4 * xs.length := by
  rw [elen_eq]; have := elay_len xs; omega
/-- What the reference's loop keeps. -/
def EU (w : World) (xs : List Int) (t n f i : Value) (wr : World) : Prop :=
  ∃ (ps : List (Int × Int)) (k : Nat) (q : Int), i = .int .i64 k ∧ k ≤ xs.length ∧ Hid (eread xs = ps ++ eread (xs.drop k)) ∧ ps.length ≤ k ∧
    Own w.heap.size 21 wr t (ints .i32 (ps.map rd)) ∧ n = .int .i64 ((ps.filter bad).length : Nat) ∧ f = .int .i64 q ∧ Hid (ferr (ps.map Prod.snd) = q) ∧ Below w.heap.size w wr
theorem EU_step {w : World} {xs : List Int} {ps : List (Int × Int)} {k n : Nat} {q q' c e m : Int} {t2 : Value} {w2 : World}
    (HP : Hid (eread xs = ps ++ eread (xs.drop k))) (HU : eread (xs.drop k) = (c, e) :: eread ((xs.drop k).drop n)) (hlen : ps.length ≤ k) (hk : k + n ≤ xs.length) (hn : 1 ≤ n)
    (hown2 : Own w.heap.size 21 w2 t2 (ints .i32 (ps.map rd) ++ ints .i32 [rd (c, e)])) (hb2 : Below w.heap.size w w2) (HQ : Hid (ferr (ps.map Prod.snd) = q)) (hq : q' = if q = 0 then e else q)
    (hm : m = ((ps.filter bad).length : Nat) + (if e = 0 then 0 else 1)) {j : Int} (hj : j = ((k + n : Nat) : Int)) :
    EU w xs t2 (.int .i64 m) (.int .i64 q') (.int .i64 j) w2 := by
  refine ⟨ps ++ [(c, e)], k + n, q', by rw [hj], hk, ?_, by simp; omega, by rw [List.map_append, ints_append]; exact hown2, ?_, rfl, ?_, hb2⟩
  · show _ = _
    rw [HP.out, HU, List.drop_drop, List.append_assoc]; rfl
  · rw [hm, List.filter_append]
    congr 1
    by_cases he : e = 0
    · subst he
      have hb : List.filter bad [(c, 0)] = [] := rfl
      rw [hb]; simp
    · have hb : bad (c, e) = true := by simpa [bad] using he
      rw [List.filter_cons, if_pos hb]; simp [he]
  · show _ = _
    rw [List.map_append, List.map_cons, List.map_nil, ferr_snoc, HQ.out, hq]
theorem reRead_any (v : Value) (xs : List Int) (w : World) (h : Row w v (ints .u8 xs)) (hg : Rg 0 256 xs) (hl : xs.length ≤ 1000000) :
    Calls Tryz.prog 25 #[v] w fun e w' => ∃ t, e = .returned (.tuple #[t, .int .i64 (ebad xs : Nat), .int .i64 (eerr xs)]) ∧ Own w.heap.size 21 w' t (ints .i32 (etext xs)) ∧ Below w.heap.size w w' := by
  obtain ⟨a, b, off, cap, rfl, HC⟩ := id h.op
  go_enter Tryz.func25, Tryz.ntmps25
  go_wp2
  go_loopw [5, 6, 7, 8] (fun t n f i wr => EU w xs t n f i wr) (fun _ _ _ i _ => xs.length - (intOf i).toNat)
  case atStart => exact ⟨[], 0, 0, rfl, Nat.zero_le _, rfl, Nat.le_refl _, Own.nil _ _ _, rfl, rfl, rfl, Below.refl _ _⟩
  case round =>
    obtain ⟨ps, k, q, rfl, hk, HP, hlen, hown, rfl, rfl, HQ, hb⟩ := hrel
    by_cases hlt : k < xs.length
    · obtain ⟨x, r, hxr⟩ : ∃ x r, xs.drop k = x :: r := by
        cases hd : xs.drop k with
        | nil => rw [List.drop_eq_nil_iff] at hd; omega
        | cons x r => exact ⟨x, r, rfl⟩
      have hdl : (xs.drop k).length = xs.length - k := by simp
      have hT := fun v w' h' => rTake_any v (xs.drop k) w' h' (hg.drop k) (by simp; omega)
      have hcons := eread_cons x r
      have hpos := takeR_pos x r
      have hle := (takeR_n (x :: r)).2.1
      rw [← hxr] at hcons hpos hle
      generalize takeR (xs.drop k) = tk at *
      obtain ⟨c, n, e⟩ := tk
      simp only [] at hT hcons hpos hle
      have HT := Lib.hid hT; have HU := Lib.hid hcons
      have hkn : (k : Int) + n ≤ xs.length := by rw [hdl] at hle; omega
      clear hT hcons hxr hle hdl
      have hfl : (ps.filter bad).length ≤ ps.length := List.length_filter_le _ _
      generalize hfq : (ps.filter bad).length = fb at *
      have HFB := Lib.hid hfq; clear hfq
      by_cases he : e = 0
      · subst he
        go_wp2_with (first | (refine wpList_slL slT_u8 _ _ rfl rfl rfl rfl (h.below hb) (by omega) (by simp [ints]; omega) ?_; intro v2 hv2; have r2 := hv2 _ (h.below hb); rw [Int.toNat_natCast, ints_drop] at r2) | (go_at_call 46; refine (HT.out _ _ r2).mono ?_; rintro e' w1 ⟨rfl, hb1⟩) | (at_builtin; refine wpList_app slT_i32 _ _ _ rfl rfl rfl rfl ((hown.below hb1).alloc _) (Row.ilit [_] [_] rfl (by simp)) (by simp [ints]; omega) (by have := below_size2 hb hb1; simp; omega) ?_; intro t2 w2 hown2 hg2; have hb2 := below_app hb (hb1.alloc hb1.size _) ((hown.below hb1).alloc _) hg2))
        go_roundw
        case rel => exact EU_step (n := n.toNat) (c := c) (e := 0) HP HU.out hlen (by omega) (by omega) hown2 hb2 HQ (by split <;> simp_all) (by rw [HFB.out]; simp) (by omega)
        case measure => simp [intOf]; omega
      · have he' : (e != 0) = true := by simpa using he
        have HE := Lib.hid he; clear he
        by_cases hq : (q == 0) = true
        · go_wp2_with (first | (refine wpList_slL slT_u8 _ _ rfl rfl rfl rfl (h.below hb) (by omega) (by simp [ints]; omega) ?_; intro v2 hv2; have r2 := hv2 _ (h.below hb); rw [Int.toNat_natCast, ints_drop] at r2) | (go_at_call 46; refine (HT.out _ _ r2).mono ?_; rintro e' w1 ⟨rfl, hb1⟩) | (at_builtin; refine wpList_app slT_i32 _ _ _ rfl rfl rfl rfl ((hown.below hb1).alloc _) (Row.ilit [_] [_] rfl (by simp)) (by simp [ints]; omega) (by have := below_size2 hb hb1; simp; omega) ?_; intro t2 w2 hown2 hg2; have hb2 := below_app hb (hb1.alloc hb1.size _) ((hown.below hb1).alloc _) hg2))
          go_roundw
          case rel => exact EU_step (n := n.toNat) (c := c) (e := e) HP HU.out hlen (by omega) (by omega) (by rw [show rd (c, e) = 65533 by simp [rd, HE.out]]; exact hown2) hb2 HQ (by rw [if_pos (by simpa using hq)]) (by rw [HFB.out, if_neg HE.out]) (by omega)
          case measure => simp [intOf]; omega
        · replace hq : (q == 0) = false := by simpa using hq
          go_wp2_with (first | (refine wpList_slL slT_u8 _ _ rfl rfl rfl rfl (h.below hb) (by omega) (by simp [ints]; omega) ?_; intro v2 hv2; have r2 := hv2 _ (h.below hb); rw [Int.toNat_natCast, ints_drop] at r2) | (go_at_call 46; refine (HT.out _ _ r2).mono ?_; rintro e' w1 ⟨rfl, hb1⟩) | (at_builtin; refine wpList_app slT_i32 _ _ _ rfl rfl rfl rfl ((hown.below hb1).alloc _) (Row.ilit [_] [_] rfl (by simp)) (by simp [ints]; omega) (by have := below_size2 hb hb1; simp; omega) ?_; intro t2 w2 hown2 hg2; have hb2 := below_app hb (hb1.alloc hb1.size _) ((hown.below hb1).alloc _) hg2))
          go_roundw
          case rel => exact EU_step (n := n.toNat) (c := c) (e := e) HP HU.out hlen (by omega) (by omega) (by rw [show rd (c, e) = 65533 by simp [rd, HE.out]]; exact hown2) hb2 HQ (by rw [if_neg (by simpa using hq)]) (by rw [HFB.out, if_neg HE.out]) (by omega)
          case measure => simp [intOf]; omega
    · have hd : xs.drop k = [] := by rw [List.drop_eq_nil_iff]; omega
      have HD := Lib.hid hd; clear hd
      go_wp2
      go_ret3
      have hpp : eread xs = ps := by rw [HP.out, HD.out, eread_nil, List.append_nil]
      exact ⟨_, ret3 rfl (iv (by rw [ebad, hpp])) (iv (by rw [eerr, hpp, HQ.out])), by rw [etext, hpp]; exact hown, hb⟩
end Go.Proofs.YtponfaglflmnkaaGreat
namespace Go.Proofs.YtponfaglflmnkaaGreat
open Go.RowKit
set_option maxHeartbeats 1000000

/-- Going through the signs: whatever the closure keeps. w0: the world ahead of the variable that the closure captures. -/
theorem each_any (f : Nat) (hf : Fnc f) (cap : Array Value) (w0 : World) (I : List (Int × Int) → World → Prop)
    (hB : ∀ ps w', I ps w' → Below w0.heap.size w0 w') (hS : ∀ ps w' w'', I ps w' → Below w'.heap.size w' w'' → I ps w'')
    (hI : ∀ ps c e w', I ps w' → -2147483648 ≤ c → c ≤ 2147483647 → ps.length < 1000000 → Calls Tryz.prog f (#[.int .i32 c, .int .i64 e] ++ cap) w' fun en w'' => en = .returned (.tuple #[]) ∧ I (ps ++ [(c, e)]) w'')
    (v : Value) (xs : List Int) (w : World) (h : Row w0 v (ints .u8 xs)) (hg : Rg 0 256 xs) (hl : xs.length ≤ 1000000) (h0 : I [] w) :
    Calls Tryz.prog 48 #[v, .func (Fn.func f) #[] cap] w fun e w' => e = .returned (.tuple #[]) ∧ I (eread xs) w' := by
  have HB := Lib.hid hB; have HS := Lib.hid hS; have HI := Lib.hid hI; clear hB hS hI
  unfold Fnc at hf
  go_enter Tryz.func48, Tryz.ntmps48
  go_wp2
  go_loopw [0] (fun u wr => ∃ ps rest, Row w0 u (ints .u8 rest) ∧ Rg 0 256 rest ∧ Hid (eread xs = ps ++ eread rest) ∧ Hid (ps.length + rest.length ≤ xs.length) ∧ I ps wr) (fun u _ => lenOf u)
  case atStart => exact ⟨[], xs, h, hg, rfl, (by simp : ([] : List (Int × Int)).length + xs.length ≤ xs.length), h0⟩
  case round =>
    clear h hg h0
    obtain ⟨ps, rest, hrow, hgr, HP, HL, hinv⟩ := hrel
    cases rest with
    | nil =>
      obtain ⟨a, b, off, cp, rfl, HC⟩ := hrow.op
      go_wp2
      go_end0
      rw [eread_nil, List.append_nil] at HP
      exact ⟨rfl, by rw [HP.out]; exact hinv⟩
    | cons x r =>
      obtain ⟨a, b, off, cp, rfl, _⟩ := id hrow.op
      have hT := fun v w' h' => oTake_any v (x :: r) w' h' hgr (by have := HL.out; omega)
      have hcons := eread_cons x r
      have hpos := takeR_pos x r
      have hle := (takeR_n (x :: r)).2.1
      have h32 := takeR_32 hgr
      generalize takeR (x :: r) = tk at *
      obtain ⟨c, n, e⟩ := tk
      simp only [List.length_cons] at hT hcons hpos hle h32
      have HT := Lib.hid hT; have HU := Lib.hid hcons
      have hle' : n ≤ (r.length : Int) + 1 := by omega
      clear hT hcons hle
      have hb := HB.out _ _ hinv
      have HINV := Lib.hid hinv; clear hinv
      go_wp2_with fail
      refine (HT.out _ _ (hrow.below hb)).mono ?_
      rintro e' w1 ⟨rfl, hb1⟩
      have HINV1 := Lib.hid (HS.out _ _ _ HINV.out hb1)
      go_wp2_with fail
      refine (HI.out ps c e w1 HINV1.out h32.1 h32.2 (by have := HL.out; simp at this; omega)).mono ?_
      rintro e' w2 ⟨rfl, hinv2⟩
      have hb2 := HB.out _ _ hinv2
      have HINV2 := Lib.hid hinv2; clear hinv2
      go_wp2_with (refine wpList_slL slT_u8 _ _ rfl rfl rfl rfl (hrow.below hb2) (by omega) (by simp [ints]; omega) ?_; intro u2 hu2)
      have r2 := hu2 _ hrow
      go_roundw
      case rel =>
        refine ⟨ps ++ [(c, e)], (x :: r).drop n.toNat, by rw [← ints_drop]; exact r2, hgr.drop _, ?_, ?_, HINV2.out⟩
        · show _ = _
          rw [HP.out, HU.out, List.append_assoc]; rfl
        · have := HL.out
          show _ ≤ _
          simp only [List.length_append, List.length_drop, List.length_cons, List.length_nil] at this ⊢; omega
      case measure => rw [r2.len]; simp [lenOf, ints]; omega

/-- A captured list of signs: what the cell at block b holds. -/
def TI (w0 : World) (b : Nat) (ys : List Int) (w' : World) : Prop :=
  ∃ tv, w'.heap[b]? = some (.cells #[tv] 26 (0, 0)) ∧ Own (b + 1) 21 w' tv (ints .i32 ys) ∧ Below w0.heap.size w0 w' ∧ w0.heap.size ≤ b
theorem TI.stay {w0 : World} {b : Nat} {ys : List Int} {w' w'' : World} (h : TI w0 b ys w') (hb : Below w'.heap.size w' w'') : TI w0 b ys w'' := by
  obtain ⟨tv, h1, h2, h3, h4⟩ := h
  exact ⟨tv, by rw [hb.block b (lt_of_block h1)]; exact h1, h2.below hb, below_trans h3 hb, h4⟩
/-- A captured number. -/
def NI (w0 : World) (b : Nat) (T : TypeId) (n : Int) (w' : World) : Prop :=
  w'.heap[b]? = some (.cells #[.int .i64 n] T (0, 0)) ∧ Below w0.heap.size w0 w' ∧ w0.heap.size ≤ b
theorem NI.stay {w0 : World} {b : Nat} {T : TypeId} {n : Int} {w' w'' : World} (h : NI w0 b T n w') (hb : Below w'.heap.size w' w'') : NI w0 b T n w'' := by
  obtain ⟨h1, h3, h4⟩ := h
  exact ⟨by rw [hb.block b (lt_of_block h1)]; exact h1, below_trans h3 hb, h4⟩
theorem NI.set {w0 : World} {b : Nat} {T : TypeId} {n m : Int} {w' : World} (h : NI w0 b T n w') : NI w0 b T m (w'.setCell ⟨b, 0, none⟩ (.int .i64 m)) := by
  obtain ⟨h1, h3, h4⟩ := h
  exact ⟨one_setCell h1, h3.setCell h4 _, h4⟩

/-- A step of an append to a captured list. -/
theorem TI.step {w0 : World} {b : Nat} {ys : List Int} {c : Int} {w w2 : World} {tv t2 : Value} (h1 : w.heap[b]? = some (.cells #[tv] 26 (0, 0))) (hown : Own (b + 1) 21 w tv (ints .i32 ys)) (hb : Below w0.heap.size w0 w) (h4 : w0.heap.size ≤ b)
    (o : Obj) (hown2 : Own (b + 1) 21 w2 t2 (ints .i32 ys ++ ints .i32 [c])) (hg2 : (w.alloc o).grownBy w2 tv.ownBlock) :
    w2.cell? ⟨b, 0, none⟩ = some tv ∧ w2.frozen? ⟨b, 0, none⟩ = false ∧ TI w0 b (ys ++ [c]) (w2.setCell ⟨b, 0, none⟩ t2) := by
  have hlt := lt_of_block h1
  have hne : some b ≠ tv.ownBlock := by
    intro he
    have := (hown.1.lt b he.symm).1
    omega
  have h2 : w2.heap[b]? = some (.cells #[tv] 26 (0, 0)) := by
    rw [hg2.block b (by simp; omega) hne, Below.heap_alloc w o b hlt]; exact h1
  have hbw : Below w0.heap.size w0 w2 := below_own (hb.alloc hb.size o) (hown.alloc o) hg2 (by have := hb.size; simp; omega) (by omega)
  refine ⟨cell_of_one h2, free_of_one h2, t2, one_setCell h2, ⟨ownsRow_setCell_below (by rw [ints_append]; exact hown2.1) (Nat.lt_succ_self b) t2, by rw [ints_append]; exact hown2.2⟩, hbw.setCell h4 _, h4⟩
theorem read1_any (w0 : World) (b : Nat) (ys : List Int) (c e : Int) (w : World) (h : TI w0 b ys w) (hl : ys.length ≤ 1000000) :
    Calls Tryz.prog 49 #[.int .i32 c, .int .i64 e, .pointer (some ⟨b, 0, none⟩)] w fun en w' => en = .returned (.tuple #[]) ∧ TI w0 b (ys ++ [rd (c, e)]) w' := by
  obtain ⟨tv, h1, hown, hb, h4⟩ := h
  have hc := cell_of_one h1
  have hfz := free_of_one h1
  have hlt := lt_of_block h1
  have H1 := Lib.hid h1
  clear h1
  by_cases he : e = 0
  · rw [show rd (c, e) = c by simp [rd, he]]
    have he' : (e != 0) = false := by simpa using he
    clear he
    go_enter Tryz.func49, Tryz.ntmps49
    go_wp2_with (at_builtin; refine wpList_app slT_i32 _ _ _ rfl rfl rfl rfl (hown.alloc _) (Row.ilit [_] [_] rfl (by simp)) (by simp [ints]; omega) (by simp; omega) ?_; intro t2 w2 hown2 hg2; obtain ⟨hc2, hf2, HT⟩ := TI.step H1.out hown hb h4 _ hown2 hg2; replace HT := Lib.hid HT; clear hc hfz; obtain ⟨a9, b9, o9, c9, rfl, _⟩ := hown2.row)
    go_end0
    exact ⟨rfl, by have h := HT.out; rw [List.length_append] at h; exact h⟩
  · rw [show rd (c, e) = 65533 by simp [rd, he]]
    have he' : (e != 0) = true := by simpa using he
    clear he
    go_enter Tryz.func49, Tryz.ntmps49
    go_wp2_with (at_builtin; refine wpList_app slT_i32 _ _ _ rfl rfl rfl rfl (hown.alloc _) (Row.ilit [_] [_] rfl (by simp)) (by simp [ints]; omega) (by simp; omega) ?_; intro t2 w2 hown2 hg2; obtain ⟨hc2, hf2, HT⟩ := TI.step H1.out hown hb h4 _ hown2 hg2; replace HT := Lib.hid HT; clear hc hfz; obtain ⟨a9, b9, o9, c9, rfl, _⟩ := hown2.row)
    go_end0
    exact ⟨rfl, by have h := HT.out; rw [List.length_append] at h; exact h⟩
theorem broken1_any (w0 : World) (b : Nat) (n : Int) (c e : Int) (w : World) (h : NI w0 b 3 n w) (hn : 0 ≤ n) (hn' : n ≤ 1000000) :
    Calls Tryz.prog 69 #[.int .i32 c, .int .i64 e, .pointer (some ⟨b, 0, none⟩)] w fun en w' => en = .returned (.tuple #[]) ∧ NI w0 b 3 (n + if e = 0 then 0 else 1) w' := by
  have hc := cell_of_one h.1
  have hfz := free_of_one h.1
  by_cases he : e = 0
  · rw [if_pos he, Int.add_zero]
    have he' : (e != 0) = false := by simpa using he
    clear he
    go_enter Tryz.func69, Tryz.ntmps69
    go_wp2
    go_end0
    exact ⟨rfl, h⟩
  · rw [if_neg he]
    have he' : (e != 0) = true := by simpa using he
    clear he
    go_enter Tryz.func69, Tryz.ntmps69
    go_wp2
    go_end0
    exact ⟨rfl, h.set⟩
theorem read1_fnc : Fnc 49 := fun args w => by kernel_rfl
theorem broken1_fnc : Fnc 69 := fun args w => by kernel_rfl
theorem TI.new (w : World) : TI w w.heap.size [] (w.alloc (.cells #[.slice none 0 0] 26)) :=
  ⟨_, heap_alloc_new w _, Own.nil _ _ _, below_alloc _ _, Nat.le_refl _⟩
theorem NI.new (w : World) (T : TypeId) (n : Int) : NI w w.heap.size T n (w.alloc (.cells #[.int .i64 n] T)) :=
  ⟨heap_alloc_new w _, below_alloc _ _, Nat.le_refl _⟩
theorem eRead_any (v : Value) (xs : List Int) (w : World) (h : Row w v (ints .u8 xs)) (hg : Rg 0 256 xs) (hl : xs.length ≤ 1000000) :
    Calls Tryz.prog 28 #[v] w fun e w' => ∃ t, e = .returned t ∧ Own w.heap.size 21 w' t (ints .i32 (etext xs)) ∧ Below w.heap.size w w' := by
  have hmf : ∀ (fn : Fn) (first cap : Array Value) (w : World), (Instr.makeFunc fn first cap).run Tryz.prog w = .ok (.func fn first cap) w := fun _ _ _ _ => rfl
  go_enter Tryz.func28, Tryz.ntmps28
  go_wp2_with fail
  refine (each_any _ read1_fnc #[.pointer (some ⟨w.heap.size, 0, none⟩)] w (fun ps w' => TI w w.heap.size (ps.map rd) w') (fun ps w' ⟨_, _, _, h, _⟩ => h) ?_ ?_ v xs _ h hg hl (TI.new w)).mono ?_
  · intro ps w' w'' h hb; exact h.stay hb
  · intro ps c e w' h h1 h2 h3
    refine (read1_any w w.heap.size (ps.map rd) c e w' h (by simp; omega)).mono ?_
    rintro en w'' ⟨rfl, h⟩
    exact ⟨rfl, by rw [List.map_append]; exact h⟩
  · rintro e w1 ⟨rfl, tv, h1, hown, hb, _⟩
    have hc := cell_of_one h1
    clear h1
    go_wp2
    go_ret
    exact ⟨_, rfl, hown.mono (by omega), hb⟩
theorem ebad_snoc (ps : List (Int × Int)) (c e : Int) : (((ps ++ [(c, e)]).filter bad).length : Int) = (ps.filter bad).length + if e = 0 then 0 else 1 := by
  rw [List.filter_append]
  by_cases he : e = 0
  · subst he
    have hb : List.filter bad [(c, 0)] = [] := rfl
    rw [hb]; simp
  · have hb : bad (c, e) = true := by simpa [bad] using he
    rw [List.filter_cons, if_pos hb]; simp [he]
theorem eBroken_any (v : Value) (xs : List Int) (w : World) (h : Row w v (ints .u8 xs)) (hg : Rg 0 256 xs) (hl : xs.length ≤ 1000000) :
    Calls Tryz.prog 43 #[v] w fun e w' => e = .returned (.int .i64 (ebad xs : Nat)) ∧ Below w.heap.size w w' := by
  have hmf : ∀ (fn : Fn) (first cap : Array Value) (w : World), (Instr.makeFunc fn first cap).run Tryz.prog w = .ok (.func fn first cap) w := fun _ _ _ _ => rfl
  go_enter Tryz.func43, Tryz.ntmps43
  go_wp2_with fail
  refine (each_any _ broken1_fnc #[.pointer (some ⟨w.heap.size, 0, none⟩)] w (fun ps w' => NI w w.heap.size 3 ((ps.filter bad).length : Nat) w') (fun ps w' h => h.2.1) ?_ ?_ v xs _ h hg hl (NI.new w _ _)).mono ?_
  · intro ps w' w'' h hb; exact h.stay hb
  · intro ps c e w' h h1 h2 h3
    have hfl : (ps.filter bad).length ≤ ps.length := List.length_filter_le _ _
    refine (broken1_any w w.heap.size ((ps.filter bad).length : Nat) c e w' h (by omega) (by omega)).mono ?_
    rintro en w'' ⟨rfl, h⟩
    exact ⟨rfl, by rw [ebad_snoc]; exact h⟩
  · rintro e w1 ⟨rfl, h1, hb, _⟩
    have hc := cell_of_one h1
    clear h1
    go_wp2
    go_ret
    exact ⟨rfl, hb⟩
theorem eRight_any (v : Value) (xs : List Int) (w : World) (h : Row w v (ints .u8 xs)) (hg : Rg 0 256 xs) (hl : xs.length ≤ 1000000) :
    Calls Tryz.prog 21 #[v] w fun e w' => e = .returned (.bool (((ebad xs : Nat) : Int) == 0)) ∧ Below w.heap.size w w' := by
  have hB := fun w' h' => eBroken_any v xs w' h' hg hl
  generalize ((ebad xs : Nat) : Int) = q at *
  have HB := Lib.hid hB; clear hB
  go_enter Tryz.func21, Tryz.ntmps21
  go_wp2_with fail
  refine (HB.out _ h).mono ?_
  rintro e w1 ⟨rfl, hb⟩
  go_wp2
  go_ret
  exact ⟨rfl, hb⟩
end Go.Proofs.YtponfaglflmnkaaGreat
