/- The statements of layer 4, walked. -/
import Derived.Test.YtbkhabnjefcmkaaA04
import Derived.Test.YtbkhabnjefcmkaaP04b
namespace Go.Proofs.Ytbkhabnjefcmkaa
open Go.RowKit
set_option maxHeartbeats 1000000

theorem WF.b {xs : List Int} (h : WF .u8 xs) : Rg 0 256 xs := fun x hx => wf_u8 (h x hx)
set_option maxRecDepth 100000 in
theorem UtfoneTakes_walk (v : Value) (xs : List Int) (w : World) (h : Row w v (ints .u8 xs)) (g : WF .u8 xs) :
    Calls Try.prog 11 #[v] w fun e w' => e = .returned (.bool true) ∧ Below w.heap.size w w' := by
  obtain ⟨a, b, off, cap, rfl, _⟩ := id h.op
  by_cases hl : xs.length ≤ 1000
  · have hA := fun w' h' => oTake_any (.slice a xs.length cap) xs w' h' g.b (by omega)
    have hB := fun w' h' => rTake_any (.slice a xs.length cap) xs w' h' g.b (by omega)
    have hC := fun w' h' => oSub_any (.slice a xs.length cap) xs w' h' g.b (by omega)
    have hD := fun w' h' => rSub_any (.slice a xs.length cap) xs w' h' g.b (by omega)
    generalize subR (takeR xs) = q at hC hD
    generalize takeR xs = t at hA hB
    have HA := Lib.hid hA; have HB := Lib.hid hB; have HC := Lib.hid hC; have HD := Lib.hid hD
    clear hA hB hC hD
    have hg1 : ¬ (1000 : Int) < (xs.length : Int) := by omega
    have hb := Below.refl w.heap.size w
    go_enter Try.func11, Try.ntmps11
    go_wp2_with fail
    refine (HA.out _ h).mono ?_
    rintro e w1 ⟨rfl, hb1⟩
    replace hb := (by first | exact below_trans hb hb1 | exact below_trans (hb.alloc hb.size _) hb1 | exact below_trans ((hb.alloc hb.size _).alloc (hb.alloc hb.size _).size _) hb1 : Below w.heap.size w _)
    go_wp2_with fail
    refine (HB.out _ (h.below hb)).mono ?_
    rintro e w2 ⟨rfl, hb2⟩
    replace hb := (by first | exact below_trans hb hb2 | exact below_trans (hb.alloc hb.size _) hb2 | exact below_trans ((hb.alloc hb.size _).alloc (hb.alloc hb.size _).size _) hb2 : Below w.heap.size w _)
    go_wp2_with fail
    refine (HC.out _ (h.below hb)).mono ?_
    rintro e w3 ⟨rfl, hb3⟩
    replace hb := (by first | exact below_trans hb hb3 | exact below_trans (hb.alloc hb.size _) hb3 | exact below_trans ((hb.alloc hb.size _).alloc (hb.alloc hb.size _).size _) hb3 : Below w.heap.size w _)
    go_wp2_with fail
    refine (HD.out _ (h.below hb)).mono ?_
    rintro e w4 ⟨rfl, hb4⟩
    replace hb := (by first | exact below_trans hb hb4 | exact below_trans (hb.alloc hb.size _) hb4 | exact below_trans ((hb.alloc hb.size _).alloc (hb.alloc hb.size _).size _) hb4 : Below w.heap.size w _)
    go_wp2_with fail
    refine (alive04_any _).mono ?_
    rintro e w5 ⟨rfl, hb5⟩
    replace hb := (by first | exact below_trans hb hb5 | exact below_trans (hb.alloc hb.size _) hb5 | exact below_trans ((hb.alloc hb.size _).alloc (hb.alloc hb.size _).size _) hb5 : Below w.heap.size w _)
    clear hb1 hb2 hb3 hb4 hb5
    go_wp2
    go_ret
    exact ⟨rfl, hb⟩
  · have hg1 : (1000 : Int) < (xs.length : Int) := by omega
    go_enter Try.func11, Try.ntmps11
    go_wp2_with fail
    refine (alive04_any _).mono ?_
    rintro e w7 ⟨rfl, hb7⟩
    go_wp2
    go_ret
    exact ⟨rfl, hb7⟩

set_option maxRecDepth 100000 in
theorem UtfoneOne_walk (a b : Int) (w : World) (ha : (Lit.int .i32 a).wf = true) (hb : (Lit.int .i32 b).wf = true) :
    Calls Try.prog 13 #[.int .i32 a, .int .i32 b] w fun e w' => e = .returned (.bool true) ∧ Below w.heap.size w w' := by
  have har := wf_i32 ha
  have hbr := wf_i32 hb
  clear ha hb
  have hb := Below.refl w.heap.size w
  by_cases hs : scB a = true ∧ scB b = true
  · obtain ⟨hsa, hsb⟩ := hs
    have hA := fun w => oPut_any _ [] a w (Row.nil w) (by simp) har.1 har.2
    have hB := fun w => oPut_any _ [] b w (Row.nil w) (by simp) hbr.1 hbr.2
    rw [show putR [] a = (octs a, 0) by rw [putR, if_pos hsa]; rfl] at hA
    rw [show putR [] b = (octs b, 0) by rw [putR, if_pos hsb]; rfl] at hB
    have h1 : 1 ≤ (octs a).length := by have := octs_len a; unfold ulenI at this; rw [if_pos hsa] at this; split at this <;> (try split at this) <;> (try split at this) <;> omega
    have hla := octs_len4 a
    have hlb := octs_len4 b
    have hpre : decide (octs a = (octs b).take (octs a).length) = (a == b) := by
      rw [Bool.eq_iff_iff, decide_eq_true_iff, beq_iff_eq]
      constructor
      · intro h
        refine octs_inj hsa hsb (s := (octs b).drop (octs a).length) ?_
        conv => lhs; rw [← List.take_append_drop (octs a).length (octs b)]
        rw [← h]
      · rintro rfl; simp
    have hdiff : (octs b).length < (octs a).length → (a == b) = false := by
      intro h; rw [beq_eq_false_iff_ne]; rintro rfl; omega
    generalize octs a = xs at *
    generalize octs b = ys at *
    have HA := Lib.hid hA; have HB := Lib.hid hB; have HP := Lib.hid hpre; have HD := Lib.hid hdiff
    clear hA hB hpre hdiff
    go_enter Try.func13, Try.ntmps13
    go_wp2_with (go_at_call 58; refine (ris_any _ _).mono ?_; rintro e w' ⟨rfl, rfl⟩)
    refine (HA.out _).mono ?_
    rintro e w1 ⟨v1, rfl, ho1, hb1⟩
    replace hb := below_trans hb hb1
    go_wp2_with fail
    refine (HB.out _).mono ?_
    rintro e w2 ⟨v2, rfl, ho2, hb2⟩
    replace hb := (by first | exact below_trans hb hb2 | exact below_trans (hb.alloc hb.size _) hb2 | exact below_trans ((hb.alloc hb.size _).alloc (hb.alloc hb.size _).size _) hb2 : Below w.heap.size w _)
    have r1 := ho1.row.below hb2
    have r2 := ho2.row
    clear ho1 ho2 hb1 hb2
    obtain ⟨a1, b1, o1, c1, rfl, _⟩ := id r1.op
    obtain ⟨a2, b2, o2, c2, rfl, _⟩ := id r2.op
    have hne : ((xs.length : Int) == 0) = false := by rw [beq_eq_false_iff_ne]; omega
    by_cases hle : xs.length ≤ ys.length
    · have hle' : (xs.length : Int) ≤ (ys.length : Int) := by omega
      go_wp2_with (refine wpList_slH slT_u8 _ _ (by rfl) rfl rfl rfl r2 (by omega) (by simp [ints]; omega) ?_; intro v3 hv3)
      have r3 := hv3 _ r2
      rw [show (ints .u8 ys).take ((xs.length : Int).toNat) = ints .u8 (ys.take xs.length) by rw [Int.toNat_natCast, ints_take]] at r3
      clear hv3
      refine (like1_any _ _ xs (ys.take xs.length) _ r1 r3 (by omega) (by rw [List.length_take]; omega)).mono ?_
      rintro e w3 ⟨rfl, hb3⟩
      rw [HP.out]
      replace hb := below_trans hb hb3
      clear r3 hb3
      go_wp2_with fail
      refine (alive04_any _).mono ?_
      rintro e w4 ⟨rfl, hb4⟩
      replace hb := (by first | exact below_trans hb hb4 | exact below_trans (hb.alloc hb.size _) hb4 | exact below_trans ((hb.alloc hb.size _).alloc (hb.alloc hb.size _).size _) hb4 : Below w.heap.size w _)
      clear hb4
      go_wp2
      go_ret
      exact ⟨rfl, hb⟩
    · have hle' : ¬ (xs.length : Int) ≤ (ys.length : Int) := by omega
      have hab := HD.out (by omega)
      go_wp2_with fail
      refine (alive04_any _).mono ?_
      rintro e w4 ⟨rfl, hb4⟩
      replace hb := below_trans hb hb4
      go_wp2
      go_ret
      exact ⟨rfl, hb⟩
  · by_cases hsa : scB a = true
    · have hsb : scB b = false := by
        cases h : scB b with
        | true => exact absurd ⟨hsa, h⟩ hs
        | false => rfl
      clear hs
      go_enter Try.func13, Try.ntmps13
      go_wp2_with (go_at_call 58; refine (ris_any _ _).mono ?_; rintro e w' ⟨rfl, rfl⟩)
      refine (alive04_any _).mono ?_
      rintro e w4 ⟨rfl, hb4⟩
      go_wp2
      go_ret
      exact ⟨rfl, hb4⟩
    · replace hsa : scB a = false := by simpa using hsa
      clear hs
      go_enter Try.func13, Try.ntmps13
      go_wp2_with (go_at_call 58; refine (ris_any _ _).mono ?_; rintro e w' ⟨rfl, rfl⟩)
      refine (alive04_any _).mono ?_
      rintro e w4 ⟨rfl, hb4⟩
      go_wp2
      go_ret
      exact ⟨rfl, hb4⟩

set_option maxRecDepth 100000 in
theorem UtfoneOctets_walk (v : Value) (bs : List Int) (c x : Int) (w : World) (h : Row w v (ints .u8 bs)) (_g : WF .u8 bs) (hc : (Lit.int .i32 c).wf = true) (hx : (Lit.int .u8 x).wf = true) :
    Calls Try.prog 10 #[v, .int .i32 c, .int .u8 x] w fun e w' => e = .returned (.bool true) ∧ Below w.heap.size w w' := by
  have hcr := wf_i32 hc
  have hxr := wf_u8 hx
  obtain ⟨a, b, off, cap, rfl, _⟩ := id h.op
  have hb := Below.refl w.heap.size w
  have hlen := octs_len c
  have hl4 := octs_len4 c
  clear hc hx
  by_cases hl : bs.length ≤ 1000
  · have hg1 : ¬ (1000 : Int) < (bs.length : Int) := by omega
    have hL := fun w => oLen_any c w hcr.1 hcr.2
    rw [← hlen] at hL
    have hP := fun w' h' => oPut_any (.slice a bs.length cap) bs c w' h' (by omega) hcr.1 hcr.2
    have hO := fun w => roct_any c w hcr.1 hcr.2
    rcases Bool.eq_false_or_eq_true (scB c) with hs | hs
    case' inl =>
      rw [show putR bs c = (bs ++ octs c, 0) by rw [putR, if_pos hs]] at hP
      have h1 : 1 ≤ (octs c).length := by unfold ulenI at hlen; rw [if_pos hs] at hlen; split at hlen <;> (try split at hlen) <;> (try split at hlen) <;> omega
      generalize octs c = xs at *
      have h1' : (0 : Int) < (xs.length : Int) := by omega
      have HL := Lib.hid hL; have HP := Lib.hid hP; have HO := Lib.hid hO
      clear hL hP hO hs hlen
      go_enter Try.func10, Try.ntmps10
      go_wp2_with fail
      refine (HP.out _ h).mono ?_
      rintro e w1 ⟨v1, rfl, ho1, hb1⟩
      replace hb := (by first | exact below_trans hb hb1 | exact below_trans (hb.alloc hb.size _) hb1 | exact below_trans ((hb.alloc hb.size _).alloc (hb.alloc hb.size _).size _) hb1 : Below w.heap.size w _)
      go_wp2_with fail
      refine (HO.out _).mono ?_
      rintro e w2 ⟨v2, rfl, ho2, hb2⟩
      replace hb := (by first | exact below_trans hb hb2 | exact below_trans (hb.alloc hb.size _) hb2 | exact below_trans ((hb.alloc hb.size _).alloc (hb.alloc hb.size _).size _) hb2 : Below w.heap.size w _)
      have r1 := ho1.row.below hb2
      have r2 := ho2.row
      clear ho1 ho2 hb1 hb2
      obtain ⟨a2, b2, o2, c2, rfl, _⟩ := id r2.op
      go_wp2_with (first | (at_builtin; refine wpList_app slT_u8 w2.heap.size _ _ (by rfl) rfl rfl rfl hown8 (r2.below hb8) (by simp only [List.length_append, ints_length, List.length_nil]; omega) hb8.size ?_; intro t9 w9 hown9 hg9; have hb9 := below_own hb8 hown8 hg9 hb8.size (Nat.le_refl _)) | (at_builtin; refine wpList_app slT_u8 w2.heap.size _ _ (by rfl) rfl rfl rfl (Own.nil _ _ _) (h.below hb) (by simp only [ints_length, List.length_nil]; omega) (Nat.le_refl _) ?_; intro t8 w8 hown8 hg8; have hb8 := below_own (Below.refl w2.heap.size w2) (Own.nil w2.heap.size 5 _) hg8 (Nat.le_refl _) (Nat.le_refl _)))
      have r9 := hown9.row
      rw [List.nil_append, ← ints_append] at r9
      replace r1 := r1.below hb9
      replace hb := below_trans hb hb9
      clear hown8 hg8 hb8 hown9 hg9 hb9 r2
      refine (like1_any _ _ _ _ _ r1 r9 (by simp only [List.length_append]; omega) (by simp only [List.length_append]; omega)).mono ?_
      rintro e w3 ⟨rfl, hb3⟩
      rw [decide_eq_true rfl]
      replace hb := below_trans hb hb3
      clear hb3 r1 r9
    case' inr =>
      rw [show putR bs c = ([], 7) by rw [putR, if_neg (by simp [hs])]] at hP
      have ho : octs c = [] := by rw [octs, if_neg (by simp [hs])]
      rw [ho] at hO hL hl4
      rw [show ((([] : List Int).length : Nat) : Int) = 0 from rfl] at hL
      have HL := Lib.hid hL; have HP := Lib.hid hP; have HO := Lib.hid hO
      clear hL hP hO hs hlen ho hl4
      go_enter Try.func10, Try.ntmps10
      go_wp2_with fail
      refine (HP.out _ h).mono ?_
      rintro e w1 ⟨v1, rfl, ho1, hb1⟩
      replace hb := (by first | exact below_trans hb hb1 | exact below_trans (hb.alloc hb.size _) hb1 | exact below_trans ((hb.alloc hb.size _).alloc (hb.alloc hb.size _).size _) hb1 : Below w.heap.size w _)
      go_wp2_with fail
      refine (HO.out _).mono ?_
      rintro e w3 ⟨v2, rfl, ho2, hb2⟩
      replace hb := (by first | exact below_trans hb hb2 | exact below_trans (hb.alloc hb.size _) hb2 | exact below_trans ((hb.alloc hb.size _).alloc (hb.alloc hb.size _).size _) hb2 : Below w.heap.size w _)
      have r1 := ho1.row.below hb2
      have r2 := ho2.row
      clear ho1 ho2 hb1 hb2
      obtain ⟨a2, b2, o2, c2, rfl, _⟩ := id r2.op
      obtain ⟨a1, b1, o1, c1, rfl, _⟩ := id r1.op
      clear r1 r2
    all_goals
      go_wp2_with (first | (go_at_call 50; refine (HL.out _).mono ?_; rintro e w' ⟨rfl, rfl⟩) | (go_at_call 51; refine (oStarts_any _ _ hxr.1 hxr.2).mono ?_; rintro e w' ⟨rfl, rfl⟩) | (go_at_call 52; refine (rStarts_any _ _ hxr.1 hxr.2).mono ?_; rintro e w' ⟨rfl, rfl⟩))
      refine (oFollows_any _ _ hxr.1 hxr.2).mono ?_
      rintro e w' ⟨rfl, rfl⟩
      rcases (by omega : x < 128 ∨ (128 ≤ x ∧ x ≤ 191) ∨ 191 < x) with hx | hx | hx
      · rw [show folB x = false from by cases h : folB x with | true => (rw [folB_iff] at h; omega) | false => rfl]
        go_wp2_with fail
        refine (alive04_any _).mono ?_
        rintro e w7 ⟨rfl, hb7⟩
        replace hb := below_trans hb hb7
        go_wp2
        go_ret
        exact ⟨rfl, hb⟩
      · rw [show folB x = true from by rw [folB_iff]; omega]
        go_wp2_with fail
        refine (alive04_any _).mono ?_
        rintro e w7 ⟨rfl, hb7⟩
        replace hb := below_trans hb hb7
        go_wp2
        go_ret
        exact ⟨rfl, hb⟩
      · rw [show folB x = false from by cases h : folB x with | true => (rw [folB_iff] at h; omega) | false => rfl]
        have hx2 : ¬ x ≤ 191 := by omega
        have hx3 : decide (x ≤ 191) = false := by simpa using hx2
        clear hx2
        go_wp2_with fail
        refine (alive04_any _).mono ?_
        rintro e w7 ⟨rfl, hb7⟩
        replace hb := below_trans hb hb7
        go_wp2
        go_ret
        exact ⟨rfl, hb⟩
  · have hg1 : (1000 : Int) < (bs.length : Int) := by omega
    go_enter Try.func10, Try.ntmps10
    go_wp2_with fail
    refine (alive04_any _).mono ?_
    rintro e w7 ⟨rfl, hb7⟩
    go_wp2
    go_ret
    exact ⟨rfl, hb7⟩

set_option maxRecDepth 100000 in
theorem UtfoneBack_walk (c : Int) (v : Value) (xs : List Int) (w : World) (hc : (Lit.int .i32 c).wf = true) (h : Row w v (ints .u8 xs)) (g : WF .u8 xs) :
    Calls Try.prog 12 #[.int .i32 c, v] w fun e w' => e = .returned (.bool true) ∧ Below w.heap.size w w' := by
  have hcr := wf_i32 hc
  obtain ⟨a, b, off, cap, rfl, _⟩ := id h.op
  have hb := Below.refl w.heap.size w
  clear hc
  by_cases hl : xs.length ≤ 1000
  · have hg1 : ¬ (1000 : Int) < (xs.length : Int) := by omega
    have hP := fun w => oPut_any _ [] c w (Row.nil w) (by simp) hcr.1 hcr.2
    have hl4 := octs_len4 c
    have hT := fun w' h' => oTake_any (.slice a xs.length cap) xs w' h' g.b (by omega)
    have hn := takeR_n xs
    have hgood := fun h => takeR_good g.b h
    have h32 := takeR_32 g.b
    have hY := fun w => oPut_any _ [] (takeR xs).1 w (Row.nil w) (by simp) h32.1 h32.2
    generalize takeR xs = t at *
    obtain ⟨x, n, q⟩ := t
    simp only [] at hT hn hgood h32 hY
    have HT := Lib.hid hT; have HGD := Lib.hid hgood; have HY := Lib.hid hY
    clear hT hgood hY
    rcases Bool.eq_false_or_eq_true (scB c) with hs | hs
    case' inl =>
      rw [show putR [] c = (octs c, 0) by rw [putR, if_pos hs]; rfl] at hP
      have hcat := takeR_octs hs xs
      have hlen := octs_len c
      have hTT := fun v w' h' => oTake_any v (octs c ++ xs) w' h' ((octs_rng c).append g.b) (by simp only [List.length_append]; omega)
      rw [hcat, ← hlen] at hTT
      simp only [] at hTT
      generalize octs c = os at *
      have HP := Lib.hid hP; have HTT := Lib.hid hTT
      clear hP hTT hcat hlen hs
      go_enter Try.func12, Try.ntmps12
      go_wp2_with fail
      refine (HP.out _).mono ?_
      rintro e w1 ⟨v1, rfl, ho1, hb1⟩
      replace hb := (by first | exact below_trans hb hb1 | exact below_trans (hb.alloc hb.size _) hb1 | exact below_trans ((hb.alloc hb.size _).alloc (hb.alloc hb.size _).size _) hb1 : Below w.heap.size w _)
      have r1 := ho1.row
      clear ho1 hb1
      go_wp2_with (first | (at_builtin; refine wpList_app slT_u8 w1.heap.size _ _ (by rfl) rfl rfl rfl hown8 ((h.below hb).below hb8) (by simp only [List.length_append, ints_length, List.length_nil]; omega) hb8.size ?_; intro t9 w9 hown9 hg9; have hb9 := below_own hb8 hown8 hg9 hb8.size (Nat.le_refl _)) | (at_builtin; refine wpList_app slT_u8 w1.heap.size _ _ (by rfl) rfl rfl rfl (Own.nil _ _ _) (r1) (by simp only [ints_length, List.length_nil]; omega) (Nat.le_refl _) ?_; intro t8 w8 hown8 hg8; have hb8 := below_own (Below.refl w1.heap.size w1) (Own.nil w1.heap.size 5 _) hg8 (Nat.le_refl _) (Nat.le_refl _)))
      have r9 := hown9.row
      rw [List.nil_append, ← ints_append] at r9
      replace hb := below_trans hb hb9
      replace r1 := r1.below hb9
      clear hown8 hg8 hb8 hown9 hg9 hb9
      refine (HTT.out _ _ r9).mono ?_
      rintro e w2 ⟨rfl, hb2⟩
      replace hb := below_trans hb hb2
      obtain ⟨a1, b1, o1, c1, rfl, _⟩ := r1.op
      clear hb2 r9 r1
    case' inr =>
      rw [show putR [] c = ([], 7) by rw [putR, if_neg (by simp [hs])]] at hP
      have HP := Lib.hid hP
      clear hP hs
      go_enter Try.func12, Try.ntmps12
      go_wp2_with fail
      refine (HP.out _).mono ?_
      rintro e w2 ⟨v1, rfl, ho1, hb1⟩
      replace hb := (by first | exact below_trans hb hb1 | exact below_trans (hb.alloc hb.size _) hb1 | exact below_trans ((hb.alloc hb.size _).alloc (hb.alloc hb.size _).size _) hb1 : Below w.heap.size w _)
      clear ho1 hb1
    all_goals
      go_wp2_with fail
      refine (HT.out _ (h.below hb)).mono ?_
      rintro e w3 ⟨rfl, hb3⟩
      replace hb := (by first | exact below_trans hb hb3 | exact below_trans (hb.alloc hb.size _) hb3 | exact below_trans ((hb.alloc hb.size _).alloc (hb.alloc hb.size _).size _) hb3 : Below w.heap.size w _)
      clear hb3
      by_cases hq : q = 0
      · obtain ⟨hg1, hg2, hg3, hg4⟩ := HGD.out hq
        subst hq
        have hYY := HY.out
        rw [show putR [] x = (octs x, 0) by rw [putR, if_pos hg1]; rfl] at hYY
        have hlx := octs_len4 x
        generalize octs x = ys at *
        have HYY := Lib.hid hYY
        have H2 := Lib.hid hg2; have H4 := Lib.hid hg4
        have hn3 : n ≤ 4 := by omega
        have hn0 : 0 ≤ n := hn.1
        have hle : n ≤ (xs.length : Int) := hn.2.1
        have heq : (n == (ys.length : Int)) = true := by rw [beq_iff_eq]; exact hg4
        clear hYY hg1 hg2 hg3 hg4 hn HGD HY
        go_wp2_with fail
        refine (HYY.out _).mono ?_
        rintro e w4 ⟨v4, rfl, ho4, hb4⟩
        replace hb := (by first | exact below_trans hb hb4 | exact below_trans (hb.alloc hb.size _) hb4 | exact below_trans ((hb.alloc hb.size _).alloc (hb.alloc hb.size _).size _) hb4 : Below w.heap.size w _)
        have r4 := ho4.row
        clear ho4 hb4
        obtain ⟨a4, b4, o4, c4, rfl, _⟩ := id r4.op
        go_wp2_with (refine wpList_slH slT_u8 _ _ (by rfl) rfl rfl rfl (h.below hb) (by omega) (by simp [ints]; omega) ?_; intro v5 hv5)
        have r5 := hv5 _ (h.below hb)
        rw [ints_take, ← H2.out] at r5
        clear hv5
        refine (like1_any _ _ ys ys _ r4 r5 (by omega) (by omega)).mono ?_
        rintro e w5 ⟨rfl, hb5⟩
        rw [decide_eq_true rfl]
        replace hb := below_trans hb hb5
        clear hb5 r4 r5
        go_wp2_with fail
        refine (alive04_any _).mono ?_
        rintro e w6 ⟨rfl, hb6⟩
        replace hb := (by first | exact below_trans hb hb6 | exact below_trans (hb.alloc hb.size _) hb6 | exact below_trans ((hb.alloc hb.size _).alloc (hb.alloc hb.size _).size _) hb6 : Below w.heap.size w _)
        clear hb6
        go_wp2
        go_ret
        exact ⟨rfl, hb⟩
      · have hq1 : (q != 0) = true := by simpa using hq
        have hn0 : 0 ≤ n := hn.1
        have hle : n ≤ (xs.length : Int) := hn.2.1
        have hd : (decide (0 < n) == decide (0 < xs.length)) = true := by
          rw [beq_iff_eq, Bool.eq_iff_iff, decide_eq_true_iff, decide_eq_true_iff]; exact hn.2.2
        rcases (by omega : 0 < n ∨ n = 0) with hz | hz
        · have hx : (0 : Int) < (xs.length : Int) := by have := hn.2.2.1 hz; omega
          clear hq hn HGD HY hd
          go_wp2_with fail
          refine (alive04_any _).mono ?_
          rintro e w6 ⟨rfl, hb6⟩
          replace hb := below_trans hb hb6
          go_wp2
          go_ret
          exact ⟨rfl, hb⟩
        · subst hz
          have hx : xs.length = 0 := by
            have := hn.2.2.2
            rcases Nat.eq_zero_or_pos xs.length with h | h
            · exact h
            · have := this h; omega
          have hx' : ¬ (0 : Int) < (xs.length : Int) := by omega
          obtain rfl : xs = [] := List.eq_nil_of_length_eq_zero hx
          clear hq hn HGD HY hd hx hx' hle
          go_wp2_with fail
          refine (alive04_any _).mono ?_
          rintro e w6 ⟨rfl, hb6⟩
          replace hb := below_trans hb hb6
          go_wp2
          go_ret
          exact ⟨rfl, hb⟩
  · have hg1 : (1000 : Int) < (xs.length : Int) := by omega
    go_enter Try.func12, Try.ntmps12
    go_wp2_with fail
    refine (alive04_any _).mono ?_
    rintro e w7 ⟨rfl, hb7⟩
    go_wp2
    go_ret
    exact ⟨rfl, hb7⟩
end Go.Proofs.Ytbkhabnjefcmkaa
