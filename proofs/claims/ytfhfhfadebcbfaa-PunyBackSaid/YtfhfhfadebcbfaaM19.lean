/- Walks: a part cut at its pivot. · Walks: a pivot chosen, all of it. (laid together by program out of single texts). -/
import Derived.Test.YtfhfhfadebcbfaaM18
namespace Go.Proofs.Ytfhfhfadebcbfaa
open Go.RowKit
set_option maxHeartbeats 16000000
set_option maxRecDepth 100000
theorem part_any (B g n cap : Nat) (d : Array Int) (a b pv : Nat) (w : World) (h : SO B g n cap w d) (hab : a < b) (hbn : b ≤ n) (hpv : pv < b) (hl : n ≤ 1000000) :
    Calls Try.prog 67 #[.slice (some ⟨g, 0, none⟩) n cap, .int .i64 a, .int .i64 b, .int .i64 pv] w fun e w' => e = .returned (.tuple #[.int .i64 (Sort.partition Sort.ltInt d a b pv).1, .bool (Sort.partition Sort.ltInt d a b pv).2.1]) ∧ SO B g n cap w' (Sort.partition Sort.ltInt d a b pv).2.2 ∧ w.grownBy w' (some g) := by
  obtain ⟨R, hR⟩ : ∃ R, Sort.partition Sort.ltInt d a b pv = R := ⟨_, rfl⟩
  rw [hR]
  unfold Sort.partition at hR
  simp only [] at hR
  have hba : a < n := by omega
  obtain ⟨c, hc⟩ : ∃ c, Sort.swp d a pv = c := ⟨_, rfl⟩
  rw [hc] at hR
  obtain ⟨j0, hj0c⟩ : ∃ j0 : Nat, b - 1 = j0 := ⟨_, rfl⟩
  obtain ⟨i0, hi0c⟩ : ∃ i0 : Nat, a + 1 = i0 := ⟨_, rfl⟩
  rw [hj0c, hi0c] at hR
  have hij0 : i0 ≤ j0 + 2 := by omega
  have hi0 : a + 1 ≤ i0 := by omega
  have hj0 : j0 < n := by omega
  have hic : (a : Int) + 1 = (i0 : Int) := by omega
  have hjc0 : (b : Int) - 1 = (j0 : Int) := by omega
  have ka := h.cell a (by omega)
  have kb := h.cell pv (by omega)
  have fa := h.frz a
  have fb := h.frz pv
  obtain ⟨ya, hya⟩ : ∃ x, d[a]! = x := ⟨_, rfl⟩
  obtain ⟨yb, hyb⟩ : ∃ x, d[pv]! = x := ⟨_, rfl⟩
  rw [hya] at ka
  rw [hyb] at kb
  have hsc := h.cellset a pv (by omega)
  rw [hyb] at hsc
  have hO3 := (h.drewN 1).swp a pv
  rw [hya, hyb, hc] at hO3
  have hg := grown_trans (grown_drewN w 1 (some g)) (grown_swp (w.drewN 1) g a pv (.int .i32 yb) (.int .i32 ya))
  have HO := Lib.hid hO3
  have hbi : (a : Int) < (n : Int) := by omega
  have hbj : (pv : Int) < (n : Int) := by omega
  have HR := Lib.hid hR
  clear hO3 hya hyb hR hc hj0c hi0c
  go_enter Try.func67, Try.ntmps67
  go_wp2
  go_region
  all_goals go_wp2
  clear ka kb fa fb hsc
  have hs := HR.out
  obtain ⟨xa, hxa⟩ : ∃ x, c[a]! = x := ⟨_, rfl⟩
  simp only [hxa] at hs
  have HXA := Lib.hid hxa
  have HS : True := trivial
  obtain ⟨I, hI⟩ : ∃ I, Sort.scanUp (fun x => Sort.ltInt x xa) c j0 i0 = I := ⟨_, rfl⟩
  rw [hI] at hs
  obtain ⟨J, hJ⟩ : ∃ J, Sort.scanDown (fun x => !Sort.ltInt x xa) c I j0 = J := ⟨_, rfl⟩
  simp only [hJ] at hs
  have hIr := scanUp_le (fun x => Sort.ltInt x xa) c j0 _ i0 (Nat.le_refl _) hij0
  rw [hI] at hIr
  have hJr := scanDown_le (fun x => !Sort.ltInt x xa) c I j0
  rw [hJ] at hJr
  have HI := Lib.hid hI
  have HJ := Lib.hid hJ
  have HS2 := Lib.hid hs
  clear hs HS hI hJ hxa
  go_loopw [10] (fun iv wr => ∃ i : Nat, iv = .int .i64 i ∧ i0 ≤ i ∧ i ≤ j0 + 2 ∧ Hid (SO B g n cap wr c) ∧ Hid (Sort.scanUp (fun x => Sort.ltInt x xa) c j0 i = I) ∧ w.grownBy wr (some g)) (fun iv _ => j0 + 2 - (intOf iv).toNat)
  case atStart => exact ⟨i0, rfl, Nat.le_refl _, hij0, HO.out, HI.out, hg⟩
  case' round =>
    clear HO hg HI
    obtain ⟨i, rfl, hi1, hi2, HO, HS, hg⟩ := hrel
    have hs := HS.out
    rw [Sort.scanUp] at hs
    rcases Nat.lt_or_ge j0 i with hgt | hle
    case' inl =>
      rw [if_neg (by simp; omega)] at hs
      have hii : i = I := hs
      subst hii
      have hgi : ¬ ((i : Int) ≤ (j0 : Int)) := by omega
      have hgn : ¬ (i ≤ j0) := by omega
      have HL := Lib.hid (fun w => less_any 0 0 w)
    case' inr =>
      have ki := HO.out.cell i (by omega)
      have kp := HO.out.cell a hba
      obtain ⟨xi, hxi⟩ : ∃ x, c[i]! = x := ⟨_, rfl⟩
      rw [hxi] at ki hs
      rw [HXA.out] at kp
      have hgi : (i : Int) ≤ (j0 : Int) := by omega
      have hbi : (i : Int) < (n : Int) := by omega
      have hba2 : (a : Int) < (n : Int) := by omega
      clear hxi
      by_cases hp : xi < xa
    case pos =>
      have HL := Lib.hid (fun w => less_t hp w)
      rw [if_pos (by simp [Sort.ltInt]; omega)] at hs
      have HS3 := Lib.hid hs
      clear hs HS
      go_wp2
      go_quiet (first | (go_at_call 65; refine Calls.quiet_of_same (HL.out _)))
      go_wp2
      go_roundw
      case rel => exact ⟨i + 1, by go_num, by omega, by omega, HO.out.drewN _, HS3.out, grown_trans hg (grown_drewN _ _ _)⟩
      case measure => simp [intOf]; omega
    case' neg =>
      have HL := Lib.hid (fun w => less_f hp w)
      rw [if_neg (by simp [Sort.ltInt]; omega)] at hs
      have hii : i = I := hs
      subst hii
  all_goals
    go_wp2
    go_quiet (first | (go_at_call 65; refine Calls.quiet_of_same (HL.out _)))
    go_wp2
    have HO1 := Lib.hid (HO.out.drewN nq)
    have hg1 := grown_trans hg (grown_drewN wr nq _)
    try clear ki
    try clear kp
    try clear hp
    try clear HS
    clear HO hg HL
    go_loopw [11] (fun jv wr => ∃ j : Nat, jv = .int .i64 j ∧ j ≤ j0 ∧ Hid (SO B g n cap wr c) ∧ Hid (Sort.scanDown (fun x => !Sort.ltInt x xa) c i j = J) ∧ w.grownBy wr (some g)) (fun jv _ => (intOf jv).toNat)
    case atStart => exact ⟨j0, rfl, Nat.le_refl _, HO1.out, HJ.out, hg1⟩
    case' round =>
      clear HO1 hg1 HJ
      obtain ⟨j, rfl, hjj, HO, HS, hg⟩ := hrel
      have hs := HS.out
      rcases Nat.lt_or_ge j i with hgt2 | hle2
      case' inl =>
        rw [scanDown_eq _ _ _ _ (by omega)] at hs
        rw [if_neg (by simp; omega)] at hs
        have hjJ : j = J := hs
        subst hjJ
        have hgj : ¬ ((i : Int) ≤ (j : Int)) := by omega
        have hgjn : ¬ (i ≤ j) := by omega
        have HL := Lib.hid (fun w => less_any 0 0 w)
      case' inr =>
        rw [scanDown_eq _ _ _ _ (by omega)] at hs
        have kj := HO.out.cell j (by omega)
        have kp := HO.out.cell a hba
        obtain ⟨xj, hxj⟩ : ∃ x, c[j]! = x := ⟨_, rfl⟩
        rw [hxj] at kj hs
        rw [HXA.out] at kp
        have hgj : (i : Int) ≤ (j : Int) := by omega
        have hbj2 : (j : Int) < (n : Int) := by omega
        have hba3 : (a : Int) < (n : Int) := by omega
        have hjc : (j : Int) - 1 = ((j - 1 : Nat) : Int) := by omega
        clear hxj
        by_cases hp2 : xj < xa
      case neg =>
        have HL := Lib.hid (fun w => less_f hp2 w)
        rw [if_pos (by simp [Sort.ltInt]; omega)] at hs
        have HS3 := Lib.hid hs
        have HJC := Lib.hid hjc
        clear hs HS hjc
        go_wp2
        go_quiet (first | (go_at_call 65; refine Calls.quiet_of_same (HL.out _)))
        go_wp2
        go_roundw
        case rel => exact ⟨j - 1, by first | rfl | go_num | (congr 1; exact HJC.out), by omega, HO.out.drewN _, HS3.out, grown_trans hg (grown_drewN _ _ _)⟩
        case measure => simp [intOf]; omega
      case' pos =>
        have HL := Lib.hid (fun w => less_t hp2 w)
        rw [if_neg (by simp [Sort.ltInt]; omega)] at hs
        have hjJ : j = J := hs
        subst hjJ
    all_goals
      go_wp2
      go_quiet (first | (go_at_call 65; refine Calls.quiet_of_same (HL.out _)))
      have HO1 := Lib.hid (HO.out.drewN nq)
      have hg1 := grown_trans hg (grown_drewN wr nq _)
      try clear kj
      try clear kp
      try clear hp2
      try clear HS
      clear HO hg HL
      generalize wr.drewN nq = w1 at HO1 hg1 ⊢
      rcases Nat.lt_or_ge j i with hend | hgo
      case inl =>
        first
        | (exfalso; omega)
        | (have hs := HS2.out
           rw [if_pos hend] at hs
           obtain rfl := hs
           have ka := HO1.out.cell j (by omega)
           have kb := HO1.out.cell a (by omega)
           have fa := HO1.out.frz j
           have fb := HO1.out.frz a
           obtain ⟨xa, hxa⟩ : ∃ x, c[j]! = x := ⟨_, rfl⟩
           obtain ⟨xb, hxb⟩ : ∃ x, c[a]! = x := ⟨_, rfl⟩
           rw [hxa] at ka
           rw [hxb] at kb
           have hsc := HO1.out.cellset j a (by omega)
           rw [hxb] at hsc
           have hO3 := (HO1.out.drewN 1).swp j a
           rw [hxa, hxb] at hO3
           have hg3 := grown_trans (grown_trans hg1 (grown_drewN w1 1 _)) (grown_swp (w1.drewN 1) g j a (.int .i32 xb) (.int .i32 xa))
           have HO3 := Lib.hid hO3
           have hbi2 : (j : Int) < (n : Int) := by omega
           have hbj2 : (a : Int) < (n : Int) := by omega
           clear hO3 hxa hxb
           go_wp2
           go_region
           all_goals go_wp2
           go_ret2
           exact ⟨rfl, HO3.out, hg3⟩)
      case inr =>
        first
        | (exfalso; omega)
        | (have hs := HS2.out
           rw [if_neg (by omega)] at hs
           obtain ⟨V, hV⟩ : ∃ V, Sort.partLoop Sort.ltInt a (i + 1) (j - 1) (Sort.swp c i j) = V := ⟨_, rfl⟩
           rw [hV] at hs
           obtain rfl := hs
           have HV := Lib.hid hV
           have ka := HO1.out.cell i (by omega)
           have kb := HO1.out.cell j (by omega)
           have fa := HO1.out.frz i
           have fb := HO1.out.frz j
           obtain ⟨xa, hxa⟩ : ∃ x, c[i]! = x := ⟨_, rfl⟩
           obtain ⟨xb, hxb⟩ : ∃ x, c[j]! = x := ⟨_, rfl⟩
           rw [hxa] at ka
           rw [hxb] at kb
           have hsc := HO1.out.cellset i j (by omega)
           rw [hxb] at hsc
           have hO3 := (HO1.out.drewN 1).swp i j
           rw [hxa, hxb] at hO3
           have hg3 := grown_trans (grown_trans hg1 (grown_drewN w1 1 _)) (grown_swp (w1.drewN 1) g i j (.int .i32 xb) (.int .i32 xa))
           have HO3 := Lib.hid hO3
           have hbi2 : (i : Int) < (n : Int) := by omega
           have hbj2 : (j : Int) < (n : Int) := by omega
           have HJC : Hid ((j : Int) - 1 = ((j - 1 : Nat) : Int)) := by show _ = _; omega
           clear hO3 hxa hxb hV HR HS2
           try clear hjc
           try clear hic
           try clear hjc0
           go_wp2
           go_region
           all_goals go_wp2
           try rw [show decide (j < i) = false from decide_eq_false (by omega)]
           go_loopw [10, 11] (fun iv jv wr => ∃ (i j : Nat) (c : Array Int), iv = .int .i64 i ∧ jv = .int .i64 j ∧ a + 1 ≤ i ∧ i ≤ j + 2 ∧ j < n ∧ Hid (SO B g n cap wr c) ∧ Hid (Sort.partLoop Sort.ltInt a i j c = V) ∧ w.grownBy wr (some g)) (fun iv jv _ => (intOf jv).toNat + 2 - (intOf iv).toNat)
           case atStart => exact ⟨i + 1, j - 1, _, by go_num, by first | go_num | (congr 1; exact HJC.out), by omega, by omega, by omega, HO3.out, HV.out, hg3⟩
           case round =>
             clear ka kb fa fb hsc HO3 hg3 HV HO1 hg1
             try clear hic
             try clear hjc0
             try clear hgi
             try clear hgj
             try clear hgn
             try clear hgjn
             try clear hle
             try clear hle2
             try clear hgt
             try clear hgt2
             try clear hend
             try clear hgo
             try clear hbi
             try clear hbj
             try clear hbi2
             try clear hbj2
             try clear hba2
             try clear hba3
             try clear hi1
             try clear hi2
             try clear hjj
             try clear hIr
             try clear hJr
             try clear hp
             try clear hp2
             obtain ⟨i0, j0, c, rfl, rfl, hi0, hij0, hj0, HO, HS, hg⟩ := hrel
             have hs := HS.out
             rw [Sort.partLoop] at hs
             have hba : a < n := by omega
             obtain ⟨xa, hxa⟩ : ∃ x, c[a]! = x := ⟨_, rfl⟩
             simp only [hxa] at hs
             have HXA := Lib.hid hxa
             obtain ⟨I, hI⟩ : ∃ I, Sort.scanUp (fun x => Sort.ltInt x xa) c j0 i0 = I := ⟨_, rfl⟩
             rw [hI] at hs
             obtain ⟨J, hJ⟩ : ∃ J, Sort.scanDown (fun x => !Sort.ltInt x xa) c I j0 = J := ⟨_, rfl⟩
             simp only [hJ] at hs
             have hIr := scanUp_le (fun x => Sort.ltInt x xa) c j0 _ i0 (Nat.le_refl _) hij0
             rw [hI] at hIr
             have hJr := scanDown_le (fun x => !Sort.ltInt x xa) c I j0
             rw [hJ] at hJr
             have HI := Lib.hid hI
             have HJ := Lib.hid hJ
             have HS2 := Lib.hid hs
             clear hs HS hI hJ hxa
             go_wp2
             go_loopw [10] (fun iv wr => ∃ i : Nat, iv = .int .i64 i ∧ i0 ≤ i ∧ i ≤ j0 + 2 ∧ Hid (SO B g n cap wr c) ∧ Hid (Sort.scanUp (fun x => Sort.ltInt x xa) c j0 i = I) ∧ w.grownBy wr (some g)) (fun iv _ => j0 + 2 - (intOf iv).toNat)
             case atStart => exact ⟨i0, rfl, Nat.le_refl _, hij0, HO.out, HI.out, hg⟩
             case' round =>
               clear HO hg HI
               obtain ⟨i, rfl, hi1, hi2, HO, HS, hg⟩ := hrel
               have hs := HS.out
               rw [Sort.scanUp] at hs
               rcases Nat.lt_or_ge j0 i with hgt | hle
               case' inl =>
                 rw [if_neg (by simp; omega)] at hs
                 have hii : i = I := hs
                 subst hii
                 have hgi : ¬ ((i : Int) ≤ (j0 : Int)) := by omega
                 have hgn : ¬ (i ≤ j0) := by omega
                 have HL := Lib.hid (fun w => less_any 0 0 w)
               case' inr =>
                 have ki := HO.out.cell i (by omega)
                 have kp := HO.out.cell a hba
                 obtain ⟨xi, hxi⟩ : ∃ x, c[i]! = x := ⟨_, rfl⟩
                 rw [hxi] at ki hs
                 rw [HXA.out] at kp
                 have hgi : (i : Int) ≤ (j0 : Int) := by omega
                 have hbi : (i : Int) < (n : Int) := by omega
                 have hba2 : (a : Int) < (n : Int) := by omega
                 clear hxi
                 by_cases hp : xi < xa
               case pos =>
                 have HL := Lib.hid (fun w => less_t hp w)
                 rw [if_pos (by simp [Sort.ltInt]; omega)] at hs
                 have HS3 := Lib.hid hs
                 clear hs HS
                 go_wp2
                 go_quiet (first | (go_at_call 65; refine Calls.quiet_of_same (HL.out _)))
                 go_wp2
                 go_roundw
                 case rel => exact ⟨i + 1, by go_num, by omega, by omega, HO.out.drewN _, HS3.out, grown_trans hg (grown_drewN _ _ _)⟩
                 case measure => simp [intOf]; omega
               case' neg =>
                 have HL := Lib.hid (fun w => less_f hp w)
                 rw [if_neg (by simp [Sort.ltInt]; omega)] at hs
                 have hii : i = I := hs
                 subst hii
             all_goals
               go_wp2
               go_quiet (first | (go_at_call 65; refine Calls.quiet_of_same (HL.out _)))
               go_wp2
               have HO1 := Lib.hid (HO.out.drewN nq)
               have hg1 := grown_trans hg (grown_drewN wr nq _)
               try clear ki
               try clear kp
               try clear hp
               try clear HS
               clear HO hg HL
               go_loopw [11] (fun jv wr => ∃ j : Nat, jv = .int .i64 j ∧ j ≤ j0 ∧ Hid (SO B g n cap wr c) ∧ Hid (Sort.scanDown (fun x => !Sort.ltInt x xa) c i j = J) ∧ w.grownBy wr (some g)) (fun jv _ => (intOf jv).toNat)
               case atStart => exact ⟨j0, rfl, Nat.le_refl _, HO1.out, HJ.out, hg1⟩
               case' round =>
                 clear HO1 hg1 HJ
                 obtain ⟨j, rfl, hjj, HO, HS, hg⟩ := hrel
                 have hs := HS.out
                 rcases Nat.lt_or_ge j i with hgt2 | hle2
                 case' inl =>
                   rw [scanDown_eq _ _ _ _ (by omega)] at hs
                   rw [if_neg (by simp; omega)] at hs
                   have hjJ : j = J := hs
                   subst hjJ
                   have hgj : ¬ ((i : Int) ≤ (j : Int)) := by omega
                   have hgjn : ¬ (i ≤ j) := by omega
                   have HL := Lib.hid (fun w => less_any 0 0 w)
                 case' inr =>
                   rw [scanDown_eq _ _ _ _ (by omega)] at hs
                   have kj := HO.out.cell j (by omega)
                   have kp := HO.out.cell a hba
                   obtain ⟨xj, hxj⟩ : ∃ x, c[j]! = x := ⟨_, rfl⟩
                   rw [hxj] at kj hs
                   rw [HXA.out] at kp
                   have hgj : (i : Int) ≤ (j : Int) := by omega
                   have hbj2 : (j : Int) < (n : Int) := by omega
                   have hba3 : (a : Int) < (n : Int) := by omega
                   have hjc : (j : Int) - 1 = ((j - 1 : Nat) : Int) := by omega
                   clear hxj
                   by_cases hp2 : xj < xa
                 case neg =>
                   have HL := Lib.hid (fun w => less_f hp2 w)
                   rw [if_pos (by simp [Sort.ltInt]; omega)] at hs
                   have HS3 := Lib.hid hs
                   have HJC := Lib.hid hjc
                   clear hs HS hjc
                   go_wp2
                   go_quiet (first | (go_at_call 65; refine Calls.quiet_of_same (HL.out _)))
                   go_wp2
                   go_roundw
                   case rel => exact ⟨j - 1, by first | rfl | go_num | (congr 1; exact HJC.out), by omega, HO.out.drewN _, HS3.out, grown_trans hg (grown_drewN _ _ _)⟩
                   case measure => simp [intOf]; omega
                 case' pos =>
                   have HL := Lib.hid (fun w => less_t hp2 w)
                   rw [if_neg (by simp [Sort.ltInt]; omega)] at hs
                   have hjJ : j = J := hs
                   subst hjJ
               all_goals
                 go_wp2
                 go_quiet (first | (go_at_call 65; refine Calls.quiet_of_same (HL.out _)))
                 have HO1 := Lib.hid (HO.out.drewN nq)
                 have hg1 := grown_trans hg (grown_drewN wr nq _)
                 try clear kj
                 try clear kp
                 try clear hp2
                 try clear HS
                 clear HO hg HL
                 generalize wr.drewN nq = w1 at HO1 hg1 ⊢
                 rcases Nat.lt_or_ge j i with hend | hgo
                 case inl =>
                   first
                   | (exfalso; omega)
                   | (have hs := HS2.out
                      rw [if_pos hend] at hs
                      obtain rfl := hs
                      have ka := HO1.out.cell j (by omega)
                      have kb := HO1.out.cell a (by omega)
                      have fa := HO1.out.frz j
                      have fb := HO1.out.frz a
                      obtain ⟨xa, hxa⟩ : ∃ x, c[j]! = x := ⟨_, rfl⟩
                      obtain ⟨xb, hxb⟩ : ∃ x, c[a]! = x := ⟨_, rfl⟩
                      rw [hxa] at ka
                      rw [hxb] at kb
                      have hsc := HO1.out.cellset j a (by omega)
                      rw [hxb] at hsc
                      have hO3 := (HO1.out.drewN 1).swp j a
                      rw [hxa, hxb] at hO3
                      have hg3 := grown_trans (grown_trans hg1 (grown_drewN w1 1 _)) (grown_swp (w1.drewN 1) g j a (.int .i32 xb) (.int .i32 xa))
                      have HO3 := Lib.hid hO3
                      have hbi2 : (j : Int) < (n : Int) := by omega
                      have hbj2 : (a : Int) < (n : Int) := by omega
                      clear hO3 hxa hxb
                      go_wp2
                      go_region
                      all_goals go_wp2
                      go_ret2
                      exact ⟨rfl, HO3.out, hg3⟩)
                 case inr =>
                   first
                   | (exfalso; omega)
                   | (have hs := HS2.out
                      rw [if_neg (by omega), dif_pos (by omega)] at hs
                      have HS9 := Lib.hid hs
                      have ka := HO1.out.cell i (by omega)
                      have kb := HO1.out.cell j (by omega)
                      have fa := HO1.out.frz i
                      have fb := HO1.out.frz j
                      obtain ⟨xa, hxa⟩ : ∃ x, c[i]! = x := ⟨_, rfl⟩
                      obtain ⟨xb, hxb⟩ : ∃ x, c[j]! = x := ⟨_, rfl⟩
                      rw [hxa] at ka
                      rw [hxb] at kb
                      have hsc := HO1.out.cellset i j (by omega)
                      rw [hxb] at hsc
                      have hO3 := (HO1.out.drewN 1).swp i j
                      rw [hxa, hxb] at hO3
                      have hg3 := grown_trans (grown_trans hg1 (grown_drewN w1 1 _)) (grown_swp (w1.drewN 1) g i j (.int .i32 xb) (.int .i32 xa))
                      have HO3 := Lib.hid hO3
                      have hbi2 : (i : Int) < (n : Int) := by omega
                      have hbj2 : (j : Int) < (n : Int) := by omega
                      have HJC : Hid ((j : Int) - 1 = ((j - 1 : Nat) : Int)) := by show _ = _; omega
                      clear hO3 hxa hxb hs
                      go_wp2
                      go_region
                      all_goals go_wp2
                      go_roundw
                      case rel => exact ⟨i + 1, j - 1, _, by go_num, by first | go_num | (congr 1; exact HJC.out), by omega, by omega, by omega, HO3.out, HS9.out, hg3⟩
                      case measure => simp [intOf]; omega))
end Go.Proofs.Ytfhfhfadebcbfaa
namespace Go.Proofs.Ytfhfhfadebcbfaa
open Go.RowKit
set_option maxHeartbeats 8000000
set_option maxRecDepth 100000
def hintN : Sort.Hint → Int | .unknown => 0 | .increasing => 1 | .decreasing => 2
theorem grown_new {w w' : World} {o : Obj} (h : (w.alloc o).grownBy w' (some w.heap.size)) (r : Option Nat) : w.grownBy w' r :=
  ⟨h.os, h.tape, h.output, Nat.le_trans (by simp) h.size, fun k hk _ => (h.block k (by simp; omega) (fun h9 => by have := Option.some.inj h9; omega)).trans (heap_alloc_old w o hk)⟩
theorem choose_any (B g n cap : Nat) (d : Array Int) (a b : Nat) (w : World) (h : SO B g n cap w d) (hB : B ≤ w.heap.size) (h8 : a + 8 ≤ b) (hbn : b ≤ n) (hl : n ≤ 1000000) :
    Calls Try.prog 62 #[.slice (some ⟨g, 0, none⟩) n cap, .int .i64 a, .int .i64 b] w fun e w' =>
      e = .returned (.tuple #[.int .i64 (Sort.choosePivot Sort.ltInt d a b).1, .int .i64 (hintN (Sort.choosePivot Sort.ltInt d a b).2)]) ∧ SO B g n cap w' d ∧ w.grownBy w' (some g) := by
  obtain ⟨R, hR⟩ : ∃ R, Sort.choosePivot Sort.ltInt d a b = R := ⟨_, rfl⟩
  rw [hR]
  unfold Sort.choosePivot at hR
  dsimp only at hR
  obtain ⟨l, hlc⟩ : ∃ l, b - a = l := ⟨_, rfl⟩
  rw [hlc] at hR
  obtain ⟨q, hqc⟩ : ∃ q, l / 4 = q := ⟨_, rfl⟩
  rw [hqc] at hR
  obtain ⟨i, hic⟩ : ∃ i, a + q * 1 = i := ⟨_, rfl⟩
  obtain ⟨j, hjc⟩ : ∃ j, a + q * 2 = j := ⟨_, rfl⟩
  obtain ⟨k, hkc⟩ : ∃ k, a + q * 3 = k := ⟨_, rfl⟩
  rw [hic, hjc, hkc, if_pos (by omega)] at hR
  have h1 : (b : Int) - (a : Int) = (l : Int) := by omega
  have h2 : (l : Int) / 4 = (q : Int) := by omega
  have h3 : (a : Int) + (q : Int) = (i : Int) := by omega
  have h4 : (a : Int) + (q : Int) * 2 = (j : Int) := by omega
  have h5 : (a : Int) + (q : Int) * 3 = (k : Int) := by omega
  have hin : i < n := by omega
  have hjn : j < n := by omega
  have hkn : k + 1 < n := by omega
  have hi1 : 1 ≤ i := by omega
  have hwl : IntKind.i64.wrap (l : Int) = (l : Int) := IntWalk.i64_in _ (by omega)
  have hwq : IntKind.i64.wrap (q : Int) = (q : Int) := IntWalk.i64_in _ (by omega)
  have hwi : IntKind.i64.wrap (i : Int) = (i : Int) := IntWalk.i64_in _ (by omega)
  have hwj : IntKind.i64.wrap (j : Int) = (j : Int) := IntWalk.i64_in _ (by omega)
  have hwk : IntKind.i64.wrap (k : Int) = (k : Int) := IntWalk.i64_in _ (by omega)
  have h8l : (8 : Int) ≤ (l : Int) := by omega
  have hO1 := SO.below h (below_alloc w (.cells #[.int .i64 0] 3))
  have hS1 : Sw B w.heap.size (w.alloc (.cells #[.int .i64 0] 3)) 0 := Own.lit (w := w) (E := 3) (B := B) [.int .i64 0] (by intro u hu; simp at hu; subst hu; rfl) hB (by simp)
  have hgw : w.heap.size ≠ g := by
    have := (h.1.1.lt g rfl).2
    omega
  by_cases h50 : 50 ≤ l
  · rw [if_pos h50] at hR
    have h50l : (50 : Int) ≤ (l : Int) := by omega
    have H1 := medadj_any B w.heap.size g n cap d i 0 _ hO1 hS1 hgw hi1 (by omega) hl (by omega)
    obtain ⟨R1, hR1⟩ : ∃ R, Sort.medianAdjacent Sort.ltInt d i 0 = R := ⟨_, rfl⟩
    rw [hR1] at H1 hR
    obtain ⟨x1, s1⟩ := R1
    dsimp only at H1 hR
    have H2 := fun wx h9 h8 hs => medadj_any B w.heap.size g n cap d j s1 wx h9 h8 hgw (by omega) (by omega) hl hs
    obtain ⟨R2, hR2⟩ : ∃ R, Sort.medianAdjacent Sort.ltInt d j s1 = R := ⟨_, rfl⟩
    simp only [hR2] at H2 hR
    obtain ⟨x2, s2⟩ := R2
    dsimp only at H2 hR
    have H3 := fun wx h9 h8 hs => medadj_any B w.heap.size g n cap d k s2 wx h9 h8 hgw (by omega) (by omega) hl hs
    obtain ⟨R3, hR3⟩ : ∃ R, Sort.medianAdjacent Sort.ltInt d k s2 = R := ⟨_, rfl⟩
    simp only [hR3] at H3 hR
    obtain ⟨x3, s3⟩ := R3
    dsimp only at H3 hR
    have H4 := fun wx h9 h8 e1 e2 e3 hs => median_any B w.heap.size g n cap d x1 x2 x3 s3 wx h9 h8 hgw e1 e2 e3 hl hs
    obtain ⟨R4, hR4⟩ : ∃ R, Sort.median Sort.ltInt d x1 x2 x3 s3 = R := ⟨_, rfl⟩
    simp only [hR4] at H4 hR
    obtain ⟨x4, s4⟩ := R4
    dsimp only at H4 hR
    subst hR
    replace H1 := Lib.hid H1; replace H2 := Lib.hid H2; replace H3 := Lib.hid H3; replace H4 := Lib.hid H4
    clear hR1 hR2 hR3 hR4 hS1 hO1 hic hjc hkc hqc hlc
    go_enter Try.func62, Try.ntmps62
    go_wp2_with fail
    refine H1.out.mono ?_
    rintro e w1 ⟨rfl, ho1, hs1, hg1, hx1, hy1⟩
    go_wp2_with fail
    refine (H2.out _ ho1 hs1 (by omega)).mono ?_
    rintro e w2 ⟨rfl, ho2, hs2, hg2, hx2, hy2⟩
    go_wp2_with fail
    refine (H3.out _ ho2 hs2 (by omega)).mono ?_
    rintro e w3 ⟨rfl, ho3, hs3, hg3, hx3, hy3⟩
    go_wp2_with fail
    refine (H4.out _ ho3 hs3 hx1 hx2 hx3 (by omega)).mono ?_
    rintro e w4 ⟨rfl, ho4, hs4, hg4, hx4, hy4⟩
    have hg := grown_new (grown_trans (grown_trans (grown_trans hg1 hg2) hg3) hg4) (some g)
    have kc := hs4.cell
    clear hg1 hg2 hg3 hg4 ho1 ho2 ho3 hs1 hs2 hs3
    by_cases h0 : s4 = 0
    · subst h0
      go_wp2
      go_ret2
      exact ⟨rfl, ho4, hg⟩
    · by_cases h12 : s4 = 12
      · subst h12
        go_wp2
        go_ret2
        exact ⟨rfl, ho4, hg⟩
      · have e0 : ((s4 : Int) == 0) = false := beq_false_of_ne (by omega)
        have e12 : ((s4 : Int) == 12) = false := beq_false_of_ne (by omega)
        go_wp2
        go_ret2
        exact ⟨rfl, ho4, hg⟩
  · rw [if_neg h50] at hR
    have h50l : ¬ ((50 : Int) ≤ (l : Int)) := by omega
    have H4 := median_any B w.heap.size g n cap d i j k 0 _ hO1 hS1 hgw hin hjn (by omega) hl (by omega)
    obtain ⟨R4, hR4⟩ : ∃ R, Sort.median Sort.ltInt d i j k 0 = R := ⟨_, rfl⟩
    rw [hR4] at H4 hR
    obtain ⟨x4, s4⟩ := R4
    dsimp only at H4 hR
    subst hR
    replace H4 := Lib.hid H4
    clear hR4 hS1 hO1 hic hjc hkc hqc hlc
    go_enter Try.func62, Try.ntmps62
    go_wp2_with fail
    refine H4.out.mono ?_
    rintro e w4 ⟨rfl, ho4, hs4, hg4, hx4, hy4⟩
    have hg := grown_new hg4 (some g)
    have kc := hs4.cell
    clear hg4
    by_cases h0 : s4 = 0
    · subst h0
      go_wp2
      go_ret2
      exact ⟨rfl, ho4, hg⟩
    · have h12 : ¬ s4 = 12 := by omega
      have e0 : ((s4 : Int) == 0) = false := beq_false_of_ne (by omega)
      have e12 : ((s4 : Int) == 12) = false := beq_false_of_ne (by omega)
      go_wp2
      go_ret2
      exact ⟨rfl, ho4, hg⟩
end Go.Proofs.Ytfhfhfadebcbfaa
