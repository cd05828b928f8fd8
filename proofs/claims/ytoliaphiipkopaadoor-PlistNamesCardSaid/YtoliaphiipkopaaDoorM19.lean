/- Walks: lists' parts, each a slice of its own. · Walks: tokens, values. · Walks: values, what is skipped, ends cut off, numbers. (laid together by program out of single texts). -/
import Derived.WalkMore
import Derived.Test.YtoliaphiipkopaaDoorM14
import Derived.Test.YtoliaphiipkopaaDoorM16
import Derived.Test.YtoliaphiipkopaaDoorM18
namespace Go.Proofs.YtoliaphiipkopaaDoor
open Go.RowKit
set_option maxHeartbeats 4000000
set_option maxRecDepth 100000
theorem slT_pp : SlT Tryd.prog 47 22 := SlT.mk (z := .slice none 0 0) (bytes := 24) (by kernel_rfl) (by kernel_rfl) (by omega) rfl
theorem Own.otherE {B B' : Nat} {E E' : TypeId} {w w' : World} {v v' : Value} {cs cs' : List Value} (h : Own B E w v cs) (h' : Own B' E' w v' cs') (hE : E ≠ E') (hg : w.grownBy w' v'.ownBlock) : Own B E w' v cs := by
  refine ⟨h.1.kept hg ?_, h.2⟩
  rcases h.1.2 with ⟨rfl, _⟩ | ⟨g, cap, cur, rfl, _, hgg, _⟩
  · exact .inl rfl
  · right
    rcases h'.1.2 with ⟨rfl, _⟩ | ⟨g', cap', cur', rfl, _, hg', _⟩
    · simp [Value.ownBlock]
    · intro e
      simp only [Value.ownBlock, Option.some.injEq] at e
      subst e
      rw [hgg] at hg'
      injection hg' with e1
      injection e1 with _ e2
      exact hE e2
/-- The parts vs, each a slice of its own, hold ps. -/
def OwP (B : Nat) (w : World) (vs : List Value) (ps : List (List Int)) : Prop :=
  vs.length = ps.length ∧ ∀ (i : Nat) (v : Value) (p : List Int), vs[i]? = some v → ps[i]? = some p → Own B 5 w v (ints .u8 p)
theorem OwP.nil (B : Nat) (w : World) : OwP B w [] [] := ⟨rfl, by simp⟩
theorem OwP.below {B : Nat} {w w' : World} {vs : List Value} {ps : List (List Int)} (h : OwP B w vs ps) (hb : Below w.heap.size w w') : OwP B w' vs ps := ⟨h.1, fun i v p h1 h2 => (h.2 i v p h1 h2).below hb⟩
theorem OwP.other {B B' : Nat} {w w' : World} {vs : List Value} {ps : List (List Int)} {v' : Value} {cs' : List Value} (h : OwP B w vs ps) (h' : Own B' 22 w v' cs') (hg : w.grownBy w' v'.ownBlock) : OwP B w' vs ps :=
  ⟨h.1, fun i v p h1 h2 => (h.2 i v p h1 h2).otherE h' (by decide) hg⟩
theorem OwP.snoc {B : Nat} {w : World} {vs : List Value} {ps : List (List Int)} {v : Value} {p : List Int} (h : OwP B w vs ps) (hv : Own B 5 w v (ints .u8 p)) : OwP B w (vs ++ [v]) (ps ++ [p]) := by
  refine ⟨by simp [h.1], fun i v' p' hp hq => ?_⟩
  rcases Nat.lt_or_ge i vs.length with hi | hi
  · rw [List.getElem?_append_left hi] at hp
    rw [List.getElem?_append_left (by rw [← h.1]; exact hi)] at hq
    exact h.2 i v' p' hp hq
  · rw [List.getElem?_append_right hi] at hp
    rw [List.getElem?_append_right (by rw [← h.1]; exact hi), ← h.1] at hq
    cases hk : i - vs.length with
    | zero => rw [hk] at hp hq; simp at hp hq; subst hp hq; exact hv
    | succ n => rw [hk] at hp; simp at hp
/-- What the loop of Parts keeps. -/
def PtI (w : World) (xs : List Int) (sv lv av : Value) (wr : World) : Prop :=
  ∃ (s : List Int) (k : Nat) (vs : List Value) (ps : List (List Int)), av = .int .i64 k ∧ k ≤ s.length ∧ s.length ≤ 900000 ∧ Hid (Row w sv (ints .u8 s)) ∧ Hid (Rg 0 256 s) ∧ Hid (Own w.heap.size 22 wr lv vs) ∧ Hid (OwP w.heap.size wr vs ps) ∧
    Hid (ptsM xs = ps ++ ptG (s.take k) (s.drop k)) ∧ Hid (vs.length + s.length ≤ 900000) ∧ Below w.heap.size w wr
theorem parts35_any (v : Value) (xs : List Int) (w : World) (h : Row w v (ints .u8 xs)) (hg : Rg 0 256 xs) (hl : xs.length ≤ 800000) :
    Calls Tryd.prog 25 #[v] w fun e w' => ∃ t vs, e = .returned t ∧ Own w.heap.size 22 w' t vs ∧ OwP w.heap.size w' vs (ptsM xs) ∧ Below w.heap.size w w' := by
  go_enter Tryd.func25, Tryd.ntmps25
  go_wp2
  go_step3
  go_wp2
  go_step3
  go_wp2
  go_loopw [0, 3, 4] (fun sv lv av wr => PtI w xs sv lv av wr) (fun sv _ av _ => lenOf sv - (intOf av).toNat)
  case atStart => exact ⟨xs, 0, [], [], rfl, Nat.zero_le _, by omega, h, hg, Own.nil _ _ _, OwP.nil _ _, (by show _ = _; rfl), (by show _ ≤ _; simp; omega), Below.refl _ _⟩
  case round =>
    obtain ⟨s, k, vs, ps, rfl, hk, hsl, HR, HG, HO, HP, HT, HLL, hb⟩ := hrel
    obtain ⟨a, b, off, cp, rfl, HC⟩ := id HR.out.op
    by_cases hlt : k < s.length
    · obtain ⟨c, HX, rfl, hc⟩ := HC.out k hlt
      replace hc := hc _ hb
      have HD := Lib.hid (drop_at1 HX.out)
      by_cases h59 : c = 59
      · subst h59
        have hO0 := HO.out
        have HT2 : Hid (ptsM xs = (ps ++ [s.take k]) ++ ptG ((s.drop (k + 1)).take 0) ((s.drop (k + 1)).drop 0)) := by
          show _ = _
          rw [HT.out, HD.out, ptG_cons, if_pos rfl]
          simp
        have HTK : Hid ((s.take k).length ≤ 1000000) := by show _ ≤ _; rw [List.length_take]; omega
        have HRR : Hid (Row w (.slice (some ⟨b, off, none⟩) s.length cp) (ints .u8 s)) := HR.out
        have hk1 : (k : Int) + 1 ≤ s.length := by omega
        have hw1 : IntKind.i64.wrap ((k : Int) + 1) = (k : Int) + 1 := IntWalk.i64_in _ (by omega)
        clear HR HC
        go_wp2_with (first | (refine wpList_slH slT_u8 _ _ rfl rfl rfl rfl (HRR.out.below hb) (by omega) (by rw [ints_length]; omega) ?_; intro v2 hv2; have r2 : Row w v2 (ints .u8 (s.take k)) := (by have := hv2 w HRR.out; rw [Int.toNat_natCast, ints_take] at this; exact this); clear hv2) | fail)
        refine (oclone_any v2 (s.take k) _ (r2.below hb) HTK.out).mono ?_
        rintro e w1 ⟨t1, rfl, ho1, hb1⟩
        have hB1 := below_trans hb hb1
        have hO1 := hO0.below hb1
        have hP1 := HP.out.below hb1
        have hC1 := ho1.mono hb.size
        obtain ⟨a1, c1, rfl⟩ := ho1.row.formN0 (n := k) (by rw [ints_length, List.length_take]; omega)
        go_wp2_with (first | (at_builtin; refine wpList_app slT_pp w.heap.size _ _ rfl rfl rfl rfl (hO1.alloc _) (Row.lit [_] (by intro u hu; simp at hu; subst hu; rfl) (by simp)) (by have := HLL.out; simp only [List.length_cons, List.length_nil]; omega) (by have := hB1.size; simp; omega) ?_; intro t3 w3 ho3 hg3; have hb3 : Below w.heap.size w w3 := below_own (hB1.alloc hB1.size _) (hO1.alloc _) hg3 (by have := hB1.size; simp; omega) (Nat.le_refl _); have hP3 := ((hP1.below (below_alloc _ _)).other (hO1.alloc _) hg3); have hc3 := ((hC1.alloc _).otherE (hO1.alloc _) (by decide) hg3)) | (refine wpList_slL slT_u8 _ _ rfl rfl rfl rfl (HRR.out.below hb3) (by omega) (by rw [ints_length]; omega) ?_; intro v4 hv4; have r4 : Row w v4 (ints .u8 (s.drop (k + 1))) := (by have := hv4 w HRR.out; rw [show ((k : Int) + 1).toNat = k + 1 by omega, ints_drop] at this; exact this); clear hv4; obtain ⟨a4, c4, rfl⟩ := r4.formN0 (n := s.length - (k + 1)) (by rw [ints_length, List.length_drop])))
        go_roundw
        case rel => exact ⟨s.drop (k + 1), 0, vs ++ [(.slice a1 k c1 : Value)], ps ++ [s.take k], rfl, Nat.zero_le _, (by rw [List.length_drop]; omega), r4, HG.out.drop _, ho3, hP3.snoc hc3, HT2.out, (by have := HLL.out; show _ ≤ _; simp only [List.length_append, List.length_cons, List.length_nil, List.length_drop]; omega), hb3⟩
        case measure => simp [intOf, lenOf]; omega
      · have b1 : (c != 59) = true := by simpa using h59
        have hov := ovM_rng c (s.drop (k + 1))
        rw [← HD.out] at hov
        have hdl : (s.drop k).length = s.length - k := List.length_drop
        have HRR : Hid (Row w (.slice (some ⟨b, off, none⟩) s.length cp) (ints .u8 s)) := HR.out
        have HT2 : Hid (ptsM xs = ps ++ ptG (s.take (k + ovM (s.drop k))) (s.drop (k + ovM (s.drop k)))) := by
          show _ = _
          rw [HT.out, HD.out, ptG_cons, if_neg h59, ← HD.out, ← List.take_add, List.drop_drop]
        have HOV := Lib.hid (fun v2 w' h' => pover_any v2 (s.drop k) w' h' (HG.out.drop _) (by omega) (by omega))
        generalize ovM (s.drop k) = n at *
        have hkn : k + n ≤ s.length := by omega
        have hn1 : 1 ≤ n := hov.1
        have hw2 : IntKind.i64.wrap ((k : Int) + n) = ((k + n : Nat) : Int) := by rw [IntWalk.i64_in _ (by omega)]; omega
        clear hov hdl HR HC
        go_wp2_with (first | (refine wpList_slL slT_u8 _ _ rfl rfl rfl rfl (HRR.out.below hb) (by omega) (by rw [ints_length]; omega) ?_; intro v2 hv2; have r2 : Row w v2 (ints .u8 (s.drop k)) := (by have := hv2 w HRR.out; rw [Int.toNat_natCast, ints_drop] at this; exact this); clear hv2) | fail)
        refine (HOV.out v2 _ (r2.below hb)).mono ?_
        rintro e w1 ⟨rfl, hb1⟩
        have hB1 := below_trans hb hb1
        go_wp2_with fail
        go_roundw
        case rel => exact ⟨s, k + n, vs, ps, by first | rfl | exact iv hw2 | exact iv (by omega), hkn, hsl, HRR.out, HG.out, HO.out.below hb1, HP.out.below hb1, HT2.out, HLL.out, hB1⟩
        case measure => simp [intOf, lenOf]; omega
    · obtain rfl : k = s.length := by omega
      have hO0 := HO.out
      have HRR : Hid (Row w (.slice a s.length cp) (ints .u8 s)) := HR.out
      have HF : Hid (ptsM xs = ps ++ [s]) := by
        show _ = _
        rw [HT.out, List.drop_eq_nil_of_le (Nat.le_refl _), ptG_nil, List.take_of_length_le (Nat.le_refl _)]
      clear HR HC
      go_wp2_with fail
      refine (oclone_any _ s _ (HRR.out.below hb) (by omega)).mono ?_
      rintro e w1 ⟨t1, rfl, ho1, hb1⟩
      have hB1 := below_trans hb hb1
      have hO1 := hO0.below hb1
      have hP1 := HP.out.below hb1
      have hC1 := ho1.mono hb.size
      obtain ⟨a1, c1, rfl⟩ := ho1.row.formN0 (n := s.length) (by rw [ints_length])
      go_wp2_with (at_builtin; refine wpList_app slT_pp w.heap.size _ _ rfl rfl rfl rfl (hO1.alloc _) (Row.lit [_] (by intro u hu; simp at hu; subst hu; rfl) (by simp)) (by have := HLL.out; simp only [List.length_cons, List.length_nil]; omega) (by have := hB1.size; simp; omega) ?_; intro t3 w3 ho3 hg3; have hb3 : Below w.heap.size w w3 := below_own (hB1.alloc hB1.size _) (hO1.alloc _) hg3 (by have := hB1.size; simp; omega) (Nat.le_refl _); have hP3 := ((hP1.below (below_alloc _ _)).other (hO1.alloc _) hg3); have hc3 := ((hC1.alloc _).otherE (hO1.alloc _) (by decide) hg3))
      rw [Exit.noGoto_ret]
      go_ret
      exact ⟨_, _, rfl, ho3, (by rw [HF.out]; exact hP3.snoc hc3), hb3⟩
end Go.Proofs.YtoliaphiipkopaaDoor
namespace Go.Proofs.YtoliaphiipkopaaDoor
open Go.RowKit
set_option maxHeartbeats 4000000
set_option maxRecDepth 100000
theorem kind_att : ∀ n : Fin 256, (bits .and .i64 (kindN (n.val : Int)) 256 != 0) = attB (n.val : Int) := by decide +kernel
theorem kind_dg : ∀ n : Fin 256, (bits .and .i64 (kindN (n.val : Int)) 8 != 0) = dgB (n.val : Int) := by decide +kernel
theorem token_any (v : Value) (xs : List Int) (at0 : Nat) (w : World) (h : Row w v (ints .u8 xs)) (hg : Rg 0 256 xs) (hl : xs.length ≤ 900000) (hat : at0 ≤ xs.length) :
    Calls Tryd.prog 35 #[v, .int .i64 at0] w fun e w' => ∃ t, e = .returned (.tuple #[t, .int .i64 ((tokM at0 (xs.drop at0)).2.1 : Nat), .int .i64 (tokM at0 (xs.drop at0)).2.2]) ∧ Own w.heap.size 5 w' t (ints .u8 (tokM at0 (xs.drop at0)).1) ∧ Below w.heap.size w w' := by
  obtain ⟨a, b, off, cp, rfl, HC⟩ := id h.op
  obtain ⟨q, HQ⟩ : ∃ q, Hid (at0 + tkN (xs.drop at0) = q) := ⟨_, rfl⟩
  have hdl : (xs.drop at0).length = xs.length - at0 := List.length_drop
  have hq2 : q ≤ xs.length := by rw [← HQ.out]; have := tkN_len (xs.drop at0); omega
  have hq1 : at0 ≤ q := by rw [← HQ.out]; omega
  have HT : Hid (tokM at0 (xs.drop at0) = if xs.length = at0 then ([], 0, 4) else if q = at0 then ([], 0, 3) else ((xs.take q).drop at0, q, 0)) := by
    show _ = _
    have hq := HQ.out
    rw [tokM, hdl]
    by_cases h1 : xs.length = at0
    · rw [if_pos (by omega), if_pos h1]
    · rw [if_neg (by omega), if_neg h1]
      by_cases h2 : q = at0
      · rw [if_pos (by omega), if_pos h2]
      · rw [if_neg (by omega), if_neg h2, hq, List.drop_take, show q - at0 = tkN (xs.drop at0) by omega]
  generalize tokM at0 (xs.drop at0) = T at *
  have hmx : max (at0 : Int) 0 = at0 := Int.max_eq_left (by omega)
  have hmn : min (at0 : Int) (xs.length : Int) = at0 := Int.min_eq_left (by omega)
  have H := Lib.hid h
  clear hdl h
  go_enter Tryd.func35, Tryd.ntmps35
  go_wp2
  clear hmx hmn
  go_loopw [7] (fun i wr => ∃ k : Nat, i = .int .i64 k ∧ at0 ≤ k ∧ k ≤ xs.length ∧ Hid (k + tkN (xs.drop k) = q) ∧ wr = w) (fun i _ => xs.length - (intOf i).toNat)
  case atStart => exact ⟨at0, rfl, Nat.le_refl _, hat, HQ.out, rfl⟩
  case round =>
    obtain ⟨k, rfl, hak, hk, HK, hw⟩ := hrel
    obtain rfl := hw.symm
    by_cases hgo : k < xs.length ∧ ∃ c, xs[k]? = some c ∧ tokB c = true
    · obtain ⟨hlt, c, hc0, htk⟩ := hgo
      obtain ⟨x, HX, rfl, hc⟩ := HC.out k hlt
      replace hc := hc _ (Below.refl _ _)
      obtain rfl : x = c := Option.some.inj (HX.out.symm.trans hc0)
      have hcr := hg.get HX.out
      have HI := Lib.hid (fun w => ois_any x 64 (tokB x) w hcr.1 hcr.2 (kind_of kind_tok hcr.1 hcr.2))
      rw [htk] at HI
      have HK2 : Hid (k + 1 + tkN (xs.drop (k + 1)) = q) := by
        show _ = _
        have h9 := HK.out
        rw [drop_at1 hc0, tkN, if_pos htk] at h9
        omega
      clear hc0 htk hcr
      go_wp2_with (go_at_call 44; refine (HI.out _).mono ?_; rintro e w' ⟨rfl, hw⟩; obtain rfl := hw.symm)
      go_roundw
      case rel =>
        first
        | exact ⟨k + 1, by go_num, by omega, by omega, HK2.out, by first | rfl | trivial⟩
        | (repeat apply Exists.intro)
          refine And.intro ⟨k + 1, by go_num, by omega, by omega, HK2.out, by first | rfl | trivial⟩ ?_
          repeat apply And.intro
          all_goals rfl
      case measure => simp [intOf]; omega
    · have hkq : k = q := by
        have h9 := HK.out
        by_cases hlt : k < xs.length
        · obtain ⟨c, hc⟩ : ∃ c, xs[k]? = some c := ⟨_, List.getElem?_eq_getElem hlt⟩
          have htk : ¬ tokB c = true := fun h8 => hgo ⟨hlt, c, hc, h8⟩
          rw [drop_at1 hc, tkN, if_neg htk] at h9
          exact h9
        · rw [List.drop_eq_nil_of_le (by omega), tkN] at h9
          exact h9
      have HGO := Lib.hid hgo
      clear hgo HK HQ
      subst hkq
      by_cases e1 : xs.length = at0
      · have HT2 : Hid (T = ([], 0, 4)) := by show _ = _; rw [HT.out, if_pos e1]
        have hke : k = at0 := by omega
        subst hke
        have hkx : (k : Int) = (xs.length : Int) := by omega
        have hlt : ¬ ((k : Int) < (xs.length : Int)) := by omega
        go_wp2
        go_ret3
        rw [HT2.out]
        exact ⟨_, rfl, Own.nil _ _ _, Below.refl _ _⟩
      · have b1 : ((at0 : Int) == (xs.length : Int)) = false := beq_false_of_ne (by omega)
        by_cases hlt : k < xs.length
        · obtain ⟨x, HX, rfl, hc⟩ := HC.out k hlt
          replace hc := hc _ (Below.refl _ _)
          have hcr := hg.get HX.out
          have htk : tokB x = false := by
            cases h8 : tokB x with
            | false => rfl
            | true => exact absurd ⟨hlt, x, HX.out, h8⟩ HGO.out
          have HI := Lib.hid (fun w => ois_any x 64 (tokB x) w hcr.1 hcr.2 (kind_of kind_tok hcr.1 hcr.2))
          rw [htk] at HI
          clear htk hcr
          by_cases e2 : k = at0
          · have HT2 : Hid (T = ([], 0, 3)) := by show _ = _; rw [HT.out, if_neg e1, if_pos e2]
            subst e2
            go_wp2_with (first | (go_at_call 44; refine (HI.out _).mono ?_; rintro e w' ⟨rfl, hw⟩; obtain rfl := hw.symm) | fail)
            go_ret3; rw [HT2.out]; exact ⟨_, rfl, Own.nil _ _ _, Below.refl _ _⟩
          · have HT2 : Hid (T = ((xs.take k).drop at0, k, 0)) := by show _ = _; rw [HT.out, if_neg e1, if_neg e2]
            have b2 : ((k : Int) == (at0 : Int)) = false := beq_false_of_ne (by omega)
            go_wp2_with (first | (go_at_call 44; refine (HI.out _).mono ?_; rintro e w' ⟨rfl, hw⟩; obtain rfl := hw.symm) | (refine wpList_slLH slT_u8 _ _ _ rfl rfl rfl rfl rfl H.out (by omega) (by omega) (by rw [ints_length]; omega) ?_; intro v2 hv2; have r2 : Row w v2 (ints .u8 ((xs.take k).drop at0)) := (by have := hv2 w H.out; rw [Int.toNat_natCast, Int.toNat_natCast, ints_take, ints_drop] at this; exact this); clear hv2) | fail)
            refine (oclone_any _ _ _ r2 (by rw [List.length_drop, List.length_take]; omega)).mono ?_; rintro e w1 ⟨t1, rfl, ho1, hb1⟩; go_wp2; go_ret3; rw [HT2.out]; exact ⟨_, rfl, ho1, hb1⟩
        · by_cases e2 : k = at0
          · have HT2 : Hid (T = ([], 0, 3)) := by show _ = _; rw [HT.out, if_neg e1, if_pos e2]
            subst e2
            go_wp2_with fail
            go_ret3; rw [HT2.out]; exact ⟨_, rfl, Own.nil _ _ _, Below.refl _ _⟩
          · have HT2 : Hid (T = ((xs.take k).drop at0, k, 0)) := by show _ = _; rw [HT.out, if_neg e1, if_neg e2]
            have b2 : ((k : Int) == (at0 : Int)) = false := beq_false_of_ne (by omega)
            go_wp2_with (first | (refine wpList_slLH slT_u8 _ _ _ rfl rfl rfl rfl rfl H.out (by omega) (by omega) (by rw [ints_length]; omega) ?_; intro v2 hv2; have r2 : Row w v2 (ints .u8 ((xs.take k).drop at0)) := (by have := hv2 w H.out; rw [Int.toNat_natCast, Int.toNat_natCast, ints_take, ints_drop] at this; exact this); clear hv2) | fail)
            refine (oclone_any _ _ _ r2 (by rw [List.length_drop, List.length_take]; omega)).mono ?_; rintro e w1 ⟨t1, rfl, ho1, hb1⟩; go_wp2; go_ret3; rw [HT2.out]; exact ⟨_, rfl, ho1, hb1⟩
end Go.Proofs.YtoliaphiipkopaaDoor
namespace Go.Proofs.YtoliaphiipkopaaDoor
open Go.RowKit
set_option maxHeartbeats 4000000
set_option maxRecDepth 100000
theorem skip_any (v : Value) (xs : List Int) (at0 : Nat) (c : Int) (w : World) (h : Row w v (ints .u8 xs)) (hg : Rg 0 256 xs) (hl : xs.length ≤ 900000) (hat : at0 ≤ xs.length) :
    Calls Tryd.prog 37 #[v, .int .i64 at0, .int .u8 c] w fun e w' => e = .returned (.tuple #[.int .i64 ((skpM xs at0 c).1 : Nat), .bool (skpM xs at0 c).2]) ∧ Below w.heap.size w w' := by
  have hG := gap_any v xs at0 w h hg hl hat
  have hgl := gp_len (xs.drop at0)
  have hdl : (xs.drop at0).length = xs.length - at0 := List.length_drop
  obtain ⟨a, b, off, cp, rfl, HC⟩ := id h.op
  unfold skpM
  generalize hi : at0 + gp (xs.drop at0) = i at *
  have hil : i ≤ xs.length := by omega
  have HG := Lib.hid hG
  clear hG hgl hdl hi h
  have hmx : max (at0 : Int) 0 = at0 := Int.max_eq_left (by omega)
  have hmn : min (at0 : Int) (xs.length : Int) = at0 := Int.min_eq_left (by omega)
  by_cases hlt : i < xs.length
  · obtain ⟨x, HX, rfl, hc⟩ := HC.out i hlt
    have hb1 : ((i : Int) == (xs.length : Int)) = false := beq_false_of_ne (by omega)
    rw [HX.out]
    have HCX := Lib.hid hc
    clear hc HX HC
    by_cases hx : x = c
    · subst hx
      rw [if_pos rfl]
      go_enter Tryd.func37, Tryd.ntmps37
      go_wp2_with fail
      refine HG.out.mono ?_
      rintro e w1 ⟨rfl, hb⟩
      have hc := HCX.out w1 hb
      go_wp2
      go_ret2
      exact ⟨rfl, hb⟩
    · have hb2 : (x != c) = true := by simpa using hx
      rw [if_neg (fun h9 => hx (Option.some.inj h9))]
      go_enter Tryd.func37, Tryd.ntmps37
      go_wp2_with fail
      refine HG.out.mono ?_
      rintro e w1 ⟨rfl, hb⟩
      have hc := HCX.out w1 hb
      go_wp2
      go_ret2
      exact ⟨rfl, hb⟩
  · obtain rfl : i = xs.length := by omega
    rw [List.getElem?_eq_none (Nat.le_refl _), if_neg (by simp)]
    clear HC
    go_enter Tryd.func37, Tryd.ntmps37
    go_wp2_with fail
    refine HG.out.mono ?_
    rintro e w1 ⟨rfl, hb⟩
    go_wp2
    go_ret2
    exact ⟨rfl, hb⟩
theorem within_any (v : Value) (xs : List Int) (at0 : Nat) (w : World) (h : Row w v (ints .u8 xs)) (hat : at0 ≤ xs.length) :
    Calls Tryd.prog 48 #[v, .int .i64 at0] w fun e w' => e = .returned (.int .i64 at0) ∧ w' = w := by
  have hmx : max (at0 : Int) 0 = at0 := Int.max_eq_left (by omega)
  have hmn : min (at0 : Int) (xs.length : Int) = at0 := Int.min_eq_left (by omega)
  obtain ⟨a, c, rfl⟩ := h.formN0 (n := xs.length) (by rw [ints_length])
  go_enter Tryd.func48, Tryd.ntmps48
  go_wp2
  go_ret
  exact ⟨rfl, rfl⟩
theorem value_any (v : Value) (xs : List Int) (at0 : Nat) (w : World) (h : Row w v (ints .u8 xs)) (hg : Rg 0 256 xs) (hl : xs.length ≤ 900000) (hat : at0 ≤ xs.length) :
    Calls Tryd.prog 38 #[v, .int .i64 at0] w fun e w' => ∃ t, e = .returned (.tuple #[t, .int .i64 ((valM at0 (xs.drop at0)).2.1 : Nat), .int .i64 (valM at0 (xs.drop at0)).2.2]) ∧ Own w.heap.size 5 w' t (ints .u8 (valM at0 (xs.drop at0)).1) ∧ Below w.heap.size w w' := by
  have hT := token_any v xs at0 w h hg hl hat
  obtain ⟨a, b, off, cp, rfl, HC⟩ := id h.op
  by_cases hlt : at0 < xs.length
  · obtain ⟨x, HX, rfl, hc⟩ := HC.out at0 hlt
    replace hc := hc _ (Below.refl _ _)
    have hd := drop_at1 HX.out
    have hb1 : ((at0 : Int) == (xs.length : Int)) = false := beq_false_of_ne (by omega)
    have hU := fun v2 w' h' => uq_any v2 (xs.drop at0) w' h' (by rw [List.length_drop]; omega)
    have hv : valM at0 (xs.drop at0) = if x = 34 then (if (uqM (xs.drop at0)).2.2 = 0 then ((uqM (xs.drop at0)).1, at0 + (uqM (xs.drop at0)).2.1, 0) else ([], 0, (uqM (xs.drop at0)).2.2)) else tokM at0 (xs.drop at0) := by rw [hd]; rfl
    rw [hv]
    have hur := (uqM_rng (xs.drop at0)).1
    rw [List.length_drop] at hur
    clear hv hd HX HC
    by_cases hx : x = 34
    · subst hx
      rw [if_pos rfl]
      generalize (uqM (xs.drop at0)).2.2 = e at *
      generalize (uqM (xs.drop at0)).2.1 = n at *
      generalize (uqM (xs.drop at0)).1 = o at *
      have HU := Lib.hid hU
      clear hU hT
      have hw : IntKind.i64.wrap ((at0 : Int) + n) = ((at0 + n : Nat) : Int) := by rw [IntWalk.i64_in _ (by omega)]; omega
      have HW := Lib.hid hw
      clear hw
      by_cases he : e = 0
      case' pos => rw [if_pos he]; subst he
      case' neg => rw [if_neg he]; have be : (e != 0) = true := by simpa using he
      all_goals
        go_enter Tryd.func38, Tryd.ntmps38
        go_wp2_with (first | (go_at_call 48; refine (within_any _ _ _ _ h (by omega)).mono ?_; rintro e w' ⟨rfl, hw⟩; obtain rfl := hw.symm) | (refine wpList_slL slT_u8 _ _ rfl rfl rfl rfl h (by omega) (by rw [ints_length]; omega) ?_; intro v2 hv2; have r2 : Row w v2 (ints .u8 (xs.drop at0)) := (by have := hv2 w h; rw [Int.toNat_natCast, ints_drop] at this; exact this); clear hv2) | fail)
        refine (HU.out v2 _ r2).mono ?_
        rintro e w1 ⟨t1, rfl, ho1, hb1⟩
        go_wp2
        go_ret3
        first
          | exact ⟨_, rfl, ho1, hb1⟩
          | exact ⟨_, rfl, Own.nil _ _ _, hb1⟩
          | exact ⟨_, ret3 rfl (iv (by omega)) rfl, ho1, hb1⟩
    · have hb2 : (x != 34) = true := by simpa using hx
      rw [if_neg hx]
      generalize tokM at0 (xs.drop at0) = T at *
      have HT := Lib.hid hT
      clear hT hU hur
      go_enter Tryd.func38, Tryd.ntmps38
      go_wp2_with (first | (go_at_call 48; refine (within_any _ _ _ _ h (by omega)).mono ?_; rintro e w' ⟨rfl, hw⟩; obtain rfl := hw.symm) | fail)
      refine HT.out.mono ?_
      rintro e w1 ⟨t1, rfl, ho1, hb1⟩
      go_wp2
      go_ret3
      exact ⟨_, rfl, ho1, hb1⟩
  · obtain rfl : at0 = xs.length := by omega
    have hv : valM xs.length (xs.drop xs.length) = tokM xs.length (xs.drop xs.length) := by rw [List.drop_eq_nil_of_le (Nat.le_refl _)]; rfl
    rw [hv]
    generalize tokM xs.length (xs.drop xs.length) = T at *
    have HT := Lib.hid hT
    clear hT hv HC
    go_enter Tryd.func38, Tryd.ntmps38
    go_wp2_with (first | (go_at_call 48; refine (within_any _ _ _ _ h (by omega)).mono ?_; rintro e w' ⟨rfl, hw⟩; obtain rfl := hw.symm) | fail)
    refine HT.out.mono ?_
    rintro e w1 ⟨t1, rfl, ho1, hb1⟩
    go_wp2
    go_ret3
    exact ⟨_, rfl, ho1, hb1⟩
end Go.Proofs.YtoliaphiipkopaaDoor
