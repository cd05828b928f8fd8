/- Walks: a part that is nearly sorted. (laid together by program out of single texts). -/
import Derived.Test.YtfhfhfadebcbfaaM18
namespace Go.Proofs.Ytfhfhfadebcbfaa
open Go.RowKit
set_option maxHeartbeats 16000000
set_option maxRecDepth 100000
theorem pins_any (B g n cap : Nat) (d : Array Int) (a b : Nat) (w : World) (h : SO B g n cap w d) (hab : a < b) (hbn : b ≤ n) (hl : n ≤ 1000000) :
    Calls Try.prog 64 #[.slice (some ⟨g, 0, none⟩) n cap, .int .i64 a, .int .i64 b] w fun e w' => e = .returned (.bool (Sort.partialInsertionSort Sort.ltInt d a b).2) ∧ SO B g n cap w' (Sort.partialInsertionSort Sort.ltInt d a b).1 ∧ w.grownBy w' (some g) := by
  obtain ⟨V, HV⟩ : ∃ V, Hid (Sort.partialIns Sort.ltInt a b 5 (a + 1) d = V) := ⟨_, rfl⟩
  unfold Sort.partialInsertionSort
  rw [HV.out]
  go_enter Try.func64, Try.ntmps64
  go_wp2
  go_loopw [7, 8] (fun iv jv wr => ∃ (i s t : Nat) (c : Array Int), iv = .int .i64 i ∧ jv = .int .i64 t ∧ t + s = 5 ∧ a + 1 ≤ i ∧ i ≤ b ∧ Hid (SO B g n cap wr c) ∧ Hid (Sort.partialIns Sort.ltInt a b s i c = V) ∧ w.grownBy wr (some g)) (fun _ jv _ => 5 - (intOf jv).toNat)
  case atStart => exact ⟨a + 1, 5, 0, d, by go_num, rfl, rfl, Nat.le_refl _, by omega, h, HV.out, grown_refl w _⟩
  case round =>
    clear HV
    obtain ⟨i, s, t, c, rfl, rfl, hts, hi0, hib, HO, HS, hg⟩ := hrel
    have hs := HS.out
    cases s with
    | zero =>
      rw [Sort.partialIns] at hs
      obtain rfl := hs
      have ht5 : ¬ ((t : Int) < 5) := by omega
      clear HS
      go_wp2
      go_ret
      exact ⟨rfl, HO.out, hg⟩
    | succ s =>
      rw [Sort.partialIns] at hs
      dsimp only at hs
      obtain ⟨I, hI⟩ : ∃ I, Sort.scanSorted Sort.ltInt c b i = I := ⟨_, rfl⟩
      simp only [hI] at hs
      have HI := Lib.hid hI
      have HS2 := Lib.hid hs
      have ht5 : (t : Int) < 5 := by omega
      clear hs HS hI
      go_wp2
      go_loopw [7] (fun iv wr => ∃ i1 : Nat, iv = .int .i64 i1 ∧ a + 1 ≤ i1 ∧ i1 ≤ b ∧ Hid (SO B g n cap wr c) ∧ Hid (Sort.scanSorted Sort.ltInt c b i1 = I) ∧ w.grownBy wr (some g)) (fun iv _ => b - (intOf iv).toNat)
      case atStart => exact ⟨i, rfl, hi0, hib, HO.out, HI.out, hg⟩
      case' round =>
        clear HO hg HI hi0 hib
        obtain ⟨i, rfl, hi1, hi2, HO, HS, hg⟩ := hrel
        have hs := HS.out
        rw [Sort.scanSorted] at hs
        rcases Nat.lt_or_ge i b with hlt | hge
        case' inr =>
          obtain rfl : i = b := by omega
          rw [if_neg (by simp)] at hs
          have hiI : i = I := hs
          subst hiI
          have HL := Lib.hid (fun w => less_any 0 0 w)
          have hs9 := HS2.out
          rw [if_pos rfl] at hs9
          obtain rfl := hs9
          clear HS HS2
          go_wp2
          go_quiet (first | (go_at_call 65; refine Calls.quiet_of_same (HL.out _)))
          go_wp2
          go_ret
          exact ⟨rfl, HO.out.drewN _, grown_trans hg (grown_drewN _ _ _)⟩
      obtain ⟨i', hi'⟩ : ∃ i' : Nat, i - 1 = i' := ⟨_, rfl⟩
      have ki := HO.out.cell i (by omega)
      have kp := HO.out.cell i' (by omega)
      obtain ⟨x, hx⟩ : ∃ x, c[i]! = x := ⟨_, rfl⟩
      obtain ⟨y, hy⟩ : ∃ y, c[i']! = y := ⟨_, rfl⟩
      rw [hi', hx, hy] at hs
      rw [hx] at ki
      rw [hy] at kp
      have HX := Lib.hid hx
      have HY := Lib.hid hy
      have hbi : (i : Int) < (n : Int) := by omega
      have hbp : (i' : Int) < (n : Int) := by omega
      have hib : (i : Int) < (b : Int) := by omega
      have hic : (i : Int) - 1 = (i' : Int) := by omega
      clear hx hy
      by_cases hp : x < y
      case neg =>
        have HL := Lib.hid (fun w => less_f hp w)
        rw [if_pos (by simp [Sort.ltInt, hp]; omega)] at hs
        have HS3 := Lib.hid hs
        clear hs HS
        go_wp2
        go_quiet (first | (go_at_call 65; refine Calls.quiet_of_same (HL.out _)))
        go_wp2
        go_roundw
        case rel => exact ⟨i + 1, by go_num, by omega, by omega, HO.out.drewN _, HS3.out, grown_trans hg (grown_drewN _ _ _)⟩
        case measure => simp [intOf]; omega
      case pos =>
        have HL := Lib.hid (fun w => less_t hp w)
        rw [if_neg (by simp [Sort.ltInt, hp])] at hs
        have hiI : i = I := hs
        subst hiI
        have hs9 := HS2.out
        rw [if_neg (by omega), hi'] at hs9
        clear HS HS2
        go_wp2
        go_quiet (first | (go_at_call 65; refine Calls.quiet_of_same (HL.out _)))
        have HO1 := Lib.hid (HO.out.drewN nq)
        have hg1 := grown_trans hg (grown_drewN wr nq _)
        clear HO hg ki kp HL
        generalize wr.drewN nq = w1 at HO1 hg1 ⊢
        have hbe : ((i : Int) == (b : Int)) = false := beq_false_of_ne (by omega)
        by_cases h50 : b - a < 50
        case pos =>
          rw [if_pos h50] at hs9
          obtain rfl := hs9
          have h50i : (b : Int) - (a : Int) < 50 := by omega
          go_wp2
          go_ret
          exact ⟨rfl, HO1.out, hg1⟩
        case neg =>
          rw [if_neg h50] at hs9
          have h50i : ¬ ((b : Int) - (a : Int) < 50) := by omega
          obtain ⟨c1, hc1⟩ : ∃ c1, Sort.swp c i i' = c1 := ⟨_, rfl⟩
          rw [hc1] at hs9
          obtain ⟨c2, hc2⟩ : ∃ c2, (if i - a ≥ 2 then Sort.shiftDown Sort.ltInt i' c1 else c1) = c2 := ⟨_, rfl⟩
          rw [hc2] at hs9
          obtain ⟨c3, hc3⟩ : ∃ c3, (if b - i ≥ 2 then Sort.shiftUp Sort.ltInt b (i + 1) c2 else c2) = c3 := ⟨_, rfl⟩
          rw [hc3] at hs9
          have HS9 := Lib.hid hs9
          have HC2 := Lib.hid hc2
          have HC3 := Lib.hid hc3
          have ki := HO1.out.cell i (by omega)
          have kp := HO1.out.cell i' (by omega)
          rw [HX.out] at ki
          rw [HY.out] at kp
          have fi := HO1.out.frz i
          have fp := HO1.out.frz i'
          have hsc := HO1.out.cellset i i' (by omega)
          rw [HY.out] at hsc
          have hO3 := (HO1.out.drewN 1).swp i i'
          rw [HX.out, HY.out, hc1] at hO3
          have hg3 := grown_trans (grown_trans hg1 (grown_drewN w1 1 _)) (grown_swp (w1.drewN 1) g i i' (.int .i32 y) (.int .i32 x))
          have HO3 := Lib.hid hO3
          clear hO3 hs9 hc1 hc2 hc3
          -- FROM HERE: genpins.py
          go_wp2
          go_region
          by_cases h2 : 2 ≤ i - a
          case pos =>
            have h2i : (2 : Int) ≤ (i : Int) - (a : Int) := by omega
            by_cases h3 : 2 ≤ b - i
            case pos =>
              have h3i : (2 : Int) ≤ (b : Int) - (i : Int) := by omega
              all_goals go_wp2
              have HC2b : Hid (Sort.shiftDown Sort.ltInt i' c1 = c2) := by have := HC2.out; rwa [if_pos (by omega)] at this
              clear HC2
              go_loopw [9] (fun jv wr => ∃ (j : Nat) (e : Array Int), jv = .int .i64 j ∧ j ≤ i' ∧ Hid (SO B g n cap wr e) ∧ Hid (Sort.shiftDown Sort.ltInt j e = c2) ∧ w.grownBy wr (some g)) (fun jv _ => (intOf jv).toNat)
              case atStart => exact ⟨i', c1, rfl, Nat.le_refl _, HO3.out, HC2b.out, hg3⟩
              case round =>
                clear HC2b
                obtain ⟨j, e, rfl, hj1, HO, HS, hg⟩ := hrel
                have hs := HS.out
                cases j with
                | zero =>
                  rw [Sort.shiftDown] at hs
                  obtain rfl := hs.symm
                  go_wp2
                  have HOe := Lib.hid (HO.out)
                  have hge := hg
                  try clear HO
                  try clear hg
                  have HC3b : Hid (Sort.shiftUp Sort.ltInt b (i + 1) c2 = c3) := by have := HC3.out; rwa [if_pos (by omega)] at this
                  clear HC3
                  go_loopw [10] (fun jv wr => ∃ (j : Nat) (e : Array Int), jv = .int .i64 j ∧ i + 1 ≤ j ∧ j ≤ b ∧ Hid (SO B g n cap wr e) ∧ Hid (Sort.shiftUp Sort.ltInt b j e = c3) ∧ w.grownBy wr (some g)) (fun jv _ => b - (intOf jv).toNat)
                  case atStart => exact ⟨i + 1, c2, by go_num, Nat.le_refl _, by omega, HOe.out, HC3b.out, hge⟩
                  case round =>
                    clear HC3b
                    obtain ⟨j, e, rfl, hj1, hj2, HO, HS, hg⟩ := hrel
                    have hs := HS.out
                    rw [Sort.shiftUp] at hs
                    rcases Nat.lt_or_ge j b with hlt4 | hge4
                    case inr =>
                      obtain rfl : j = b := by omega
                      rw [if_neg (by omega)] at hs
                      obtain rfl := hs.symm
                      go_wp2
                      go_roundw
                      case rel => exact ⟨i, s, t + 1, c3, rfl, by go_num, by omega, by omega, by omega, HO.out, HS9.out, hg⟩
                      case measure => simp [intOf]; omega
                    case inl =>
                      obtain ⟨j', hj'⟩ : ∃ j' : Nat, j - 1 = j' := ⟨_, rfl⟩
                      rw [if_pos hlt4, hj'] at hs
                      have hjc : (j : Int) - 1 = (j' : Int) := by omega
                      have hjb : (j : Int) < (b : Int) := by omega
                      have ka := HO.out.cell j (by omega)
                      have kb := HO.out.cell j' (by omega)
                      have fa := HO.out.frz j
                      have fb := HO.out.frz j'
                      obtain ⟨xa, hxa⟩ : ∃ x, e[j]! = x := ⟨_, rfl⟩
                      obtain ⟨xb, hxb⟩ : ∃ x, e[j']! = x := ⟨_, rfl⟩
                      rw [hxa, hxb] at hs
                      rw [hxa] at ka
                      rw [hxb] at kb
                      have HXA := Lib.hid hxa
                      have HXB := Lib.hid hxb
                      clear hxa hxb
                      have hba : (j : Int) < (n : Int) := by omega
                      have hbb : (j' : Int) < (n : Int) := by omega
                      by_cases hp4 : xa < xb
                      case neg =>
                        have HL := Lib.hid (fun w => less_f hp4 w)
                        rw [if_pos (by simp [Sort.ltInt, hp4])] at hs
                        obtain rfl := hs.symm
                        go_wp2
                        go_quiet (first | (go_at_call 65; refine Calls.quiet_of_same (HL.out _)))
                        go_wp2
                        go_roundw
                        case rel => exact ⟨i, s, t + 1, c3, rfl, by go_num, by omega, by omega, by omega, HO.out.drewN nq, HS9.out, grown_trans hg (grown_drewN wr nq _)⟩
                        case measure => simp [intOf]; omega
                      case pos =>
                        have HL := Lib.hid (fun w => less_t hp4 w)
                        rw [if_neg (by simp [Sort.ltInt, hp4])] at hs
                        have HS4 := Lib.hid hs
                        clear hs HS
                        go_wp2
                        go_quiet (first | (go_at_call 65; refine Calls.quiet_of_same (HL.out _)))
                        have HO1 := Lib.hid (HO.out.drewN nq)
                        have hg1 := grown_trans hg (grown_drewN wr nq _)
                        clear HO hg ka kb fa fb HL
                        generalize wr.drewN nq = w1 at HO1 hg1 ⊢
                        have ka := HO1.out.cell j (by omega)
                        have kb := HO1.out.cell j' (by omega)
                        have fa := HO1.out.frz j
                        have fb := HO1.out.frz j'
                        rw [HXA.out] at ka
                        rw [HXB.out] at kb
                        have hsc := HO1.out.cellset j j' (by omega)
                        rw [HXB.out] at hsc
                        have hO3 := (HO1.out.drewN 1).swp j j'
                        rw [HXA.out, HXB.out] at hO3
                        have hg3 := grown_trans (grown_trans hg1 (grown_drewN w1 1 _)) (grown_swp (w1.drewN 1) g j j' (.int .i32 xb) (.int .i32 xa))
                        have HO3 := Lib.hid hO3
                        clear hO3
                        go_wp2
                        go_region
                        all_goals go_wp2
                        go_roundw
                        case rel => exact ⟨j + 1, _, by go_num, by omega, by omega, HO3.out, HS4.out, hg3⟩
                        case measure => simp [intOf]; omega
                | succ j' =>
                  obtain ⟨j, hj'⟩ : ∃ j : Nat, j' + 1 = j := ⟨_, rfl⟩
                  rw [Sort.shiftDown] at hs
                  rw [hj'] at hs
                  rw [hj']
                  have hjc : (j : Int) - 1 = (j' : Int) := by omega
                  have hj1i : (1 : Int) ≤ (j : Int) := by omega
                  have ka := HO.out.cell j (by omega)
                  have kb := HO.out.cell j' (by omega)
                  have fa := HO.out.frz j
                  have fb := HO.out.frz j'
                  obtain ⟨xa, hxa⟩ : ∃ x, e[j]! = x := ⟨_, rfl⟩
                  obtain ⟨xb, hxb⟩ : ∃ x, e[j']! = x := ⟨_, rfl⟩
                  rw [hxa, hxb] at hs
                  rw [hxa] at ka
                  rw [hxb] at kb
                  have HXA := Lib.hid hxa
                  have HXB := Lib.hid hxb
                  clear hxa hxb
                  have hba : (j : Int) < (n : Int) := by omega
                  have hbb : (j' : Int) < (n : Int) := by omega
                  by_cases hp4 : xa < xb
                  case neg =>
                    have HL := Lib.hid (fun w => less_f hp4 w)
                    rw [if_pos (by simp [Sort.ltInt, hp4])] at hs
                    obtain rfl := hs.symm
                    go_wp2
                    go_quiet (first | (go_at_call 65; refine Calls.quiet_of_same (HL.out _)))
                    go_wp2
                    have HOe := Lib.hid (HO.out.drewN nq)
                    have hge := grown_trans hg (grown_drewN wr nq _)
                    try clear HO
                    try clear hg
                    have HC3b : Hid (Sort.shiftUp Sort.ltInt b (i + 1) c2 = c3) := by have := HC3.out; rwa [if_pos (by omega)] at this
                    clear HC3
                    go_loopw [10] (fun jv wr => ∃ (j : Nat) (e : Array Int), jv = .int .i64 j ∧ i + 1 ≤ j ∧ j ≤ b ∧ Hid (SO B g n cap wr e) ∧ Hid (Sort.shiftUp Sort.ltInt b j e = c3) ∧ w.grownBy wr (some g)) (fun jv _ => b - (intOf jv).toNat)
                    case atStart => exact ⟨i + 1, c2, by go_num, Nat.le_refl _, by omega, HOe.out, HC3b.out, hge⟩
                    case round =>
                      clear HC3b
                      obtain ⟨j, e, rfl, hj1, hj2, HO, HS, hg⟩ := hrel
                      have hs := HS.out
                      rw [Sort.shiftUp] at hs
                      rcases Nat.lt_or_ge j b with hlt4 | hge4
                      case inr =>
                        obtain rfl : j = b := by omega
                        rw [if_neg (by omega)] at hs
                        obtain rfl := hs.symm
                        go_wp2
                        go_roundw
                        case rel => exact ⟨i, s, t + 1, c3, rfl, by go_num, by omega, by omega, by omega, HO.out, HS9.out, hg⟩
                        case measure => simp [intOf]; omega
                      case inl =>
                        obtain ⟨j', hj'⟩ : ∃ j' : Nat, j - 1 = j' := ⟨_, rfl⟩
                        rw [if_pos hlt4, hj'] at hs
                        have hjc : (j : Int) - 1 = (j' : Int) := by omega
                        have hjb : (j : Int) < (b : Int) := by omega
                        have ka := HO.out.cell j (by omega)
                        have kb := HO.out.cell j' (by omega)
                        have fa := HO.out.frz j
                        have fb := HO.out.frz j'
                        obtain ⟨xa, hxa⟩ : ∃ x, e[j]! = x := ⟨_, rfl⟩
                        obtain ⟨xb, hxb⟩ : ∃ x, e[j']! = x := ⟨_, rfl⟩
                        rw [hxa, hxb] at hs
                        rw [hxa] at ka
                        rw [hxb] at kb
                        have HXA := Lib.hid hxa
                        have HXB := Lib.hid hxb
                        clear hxa hxb
                        have hba : (j : Int) < (n : Int) := by omega
                        have hbb : (j' : Int) < (n : Int) := by omega
                        by_cases hp4 : xa < xb
                        case neg =>
                          have HL := Lib.hid (fun w => less_f hp4 w)
                          rw [if_pos (by simp [Sort.ltInt, hp4])] at hs
                          obtain rfl := hs.symm
                          go_wp2
                          go_quiet (first | (go_at_call 65; refine Calls.quiet_of_same (HL.out _)))
                          go_wp2
                          go_roundw
                          case rel => exact ⟨i, s, t + 1, c3, rfl, by go_num, by omega, by omega, by omega, HO.out.drewN nq, HS9.out, grown_trans hg (grown_drewN wr nq _)⟩
                          case measure => simp [intOf]; omega
                        case pos =>
                          have HL := Lib.hid (fun w => less_t hp4 w)
                          rw [if_neg (by simp [Sort.ltInt, hp4])] at hs
                          have HS4 := Lib.hid hs
                          clear hs HS
                          go_wp2
                          go_quiet (first | (go_at_call 65; refine Calls.quiet_of_same (HL.out _)))
                          have HO1 := Lib.hid (HO.out.drewN nq)
                          have hg1 := grown_trans hg (grown_drewN wr nq _)
                          clear HO hg ka kb fa fb HL
                          generalize wr.drewN nq = w1 at HO1 hg1 ⊢
                          have ka := HO1.out.cell j (by omega)
                          have kb := HO1.out.cell j' (by omega)
                          have fa := HO1.out.frz j
                          have fb := HO1.out.frz j'
                          rw [HXA.out] at ka
                          rw [HXB.out] at kb
                          have hsc := HO1.out.cellset j j' (by omega)
                          rw [HXB.out] at hsc
                          have hO3 := (HO1.out.drewN 1).swp j j'
                          rw [HXA.out, HXB.out] at hO3
                          have hg3 := grown_trans (grown_trans hg1 (grown_drewN w1 1 _)) (grown_swp (w1.drewN 1) g j j' (.int .i32 xb) (.int .i32 xa))
                          have HO3 := Lib.hid hO3
                          clear hO3
                          go_wp2
                          go_region
                          all_goals go_wp2
                          go_roundw
                          case rel => exact ⟨j + 1, _, by go_num, by omega, by omega, HO3.out, HS4.out, hg3⟩
                          case measure => simp [intOf]; omega
                  case pos =>
                    have HL := Lib.hid (fun w => less_t hp4 w)
                    rw [if_neg (by simp [Sort.ltInt, hp4])] at hs
                    have HS4 := Lib.hid hs
                    clear hs HS
                    go_wp2
                    go_quiet (first | (go_at_call 65; refine Calls.quiet_of_same (HL.out _)))
                    have HO1 := Lib.hid (HO.out.drewN nq)
                    have hg1 := grown_trans hg (grown_drewN wr nq _)
                    clear HO hg ka kb fa fb HL
                    generalize wr.drewN nq = w1 at HO1 hg1 ⊢
                    have ka := HO1.out.cell j (by omega)
                    have kb := HO1.out.cell j' (by omega)
                    have fa := HO1.out.frz j
                    have fb := HO1.out.frz j'
                    rw [HXA.out] at ka
                    rw [HXB.out] at kb
                    have hsc := HO1.out.cellset j j' (by omega)
                    rw [HXB.out] at hsc
                    have hO3 := (HO1.out.drewN 1).swp j j'
                    rw [HXA.out, HXB.out] at hO3
                    have hg3 := grown_trans (grown_trans hg1 (grown_drewN w1 1 _)) (grown_swp (w1.drewN 1) g j j' (.int .i32 xb) (.int .i32 xa))
                    have HO3 := Lib.hid hO3
                    clear hO3
                    go_wp2
                    go_region
                    all_goals go_wp2
                    go_roundw
                    case rel => exact ⟨j', _, by first | rfl | go_num, by omega, HO3.out, HS4.out, hg3⟩
                    case measure => simp [intOf]; omega
            case neg =>
              have h3i : ¬ ((2 : Int) ≤ (b : Int) - (i : Int)) := by omega
              have hc3 := HC3.out
              rw [if_neg (by omega)] at hc3
              subst hc3
              clear HC3
              all_goals go_wp2
              have HC2b : Hid (Sort.shiftDown Sort.ltInt i' c1 = c2) := by have := HC2.out; rwa [if_pos (by omega)] at this
              clear HC2
              go_loopw [9] (fun jv wr => ∃ (j : Nat) (e : Array Int), jv = .int .i64 j ∧ j ≤ i' ∧ Hid (SO B g n cap wr e) ∧ Hid (Sort.shiftDown Sort.ltInt j e = c2) ∧ w.grownBy wr (some g)) (fun jv _ => (intOf jv).toNat)
              case atStart => exact ⟨i', c1, rfl, Nat.le_refl _, HO3.out, HC2b.out, hg3⟩
              case round =>
                clear HC2b
                obtain ⟨j, e, rfl, hj1, HO, HS, hg⟩ := hrel
                have hs := HS.out
                cases j with
                | zero =>
                  rw [Sort.shiftDown] at hs
                  obtain rfl := hs.symm
                  go_wp2
                  go_roundw
                  case rel => exact ⟨i, s, t + 1, _, rfl, by go_num, by omega, by omega, by omega, HO.out, HS9.out, hg⟩
                  case measure => simp [intOf]; omega
                | succ j' =>
                  obtain ⟨j, hj'⟩ : ∃ j : Nat, j' + 1 = j := ⟨_, rfl⟩
                  rw [Sort.shiftDown] at hs
                  rw [hj'] at hs
                  rw [hj']
                  have hjc : (j : Int) - 1 = (j' : Int) := by omega
                  have hj1i : (1 : Int) ≤ (j : Int) := by omega
                  have ka := HO.out.cell j (by omega)
                  have kb := HO.out.cell j' (by omega)
                  have fa := HO.out.frz j
                  have fb := HO.out.frz j'
                  obtain ⟨xa, hxa⟩ : ∃ x, e[j]! = x := ⟨_, rfl⟩
                  obtain ⟨xb, hxb⟩ : ∃ x, e[j']! = x := ⟨_, rfl⟩
                  rw [hxa, hxb] at hs
                  rw [hxa] at ka
                  rw [hxb] at kb
                  have HXA := Lib.hid hxa
                  have HXB := Lib.hid hxb
                  clear hxa hxb
                  have hba : (j : Int) < (n : Int) := by omega
                  have hbb : (j' : Int) < (n : Int) := by omega
                  by_cases hp4 : xa < xb
                  case neg =>
                    have HL := Lib.hid (fun w => less_f hp4 w)
                    rw [if_pos (by simp [Sort.ltInt, hp4])] at hs
                    obtain rfl := hs.symm
                    go_wp2
                    go_quiet (first | (go_at_call 65; refine Calls.quiet_of_same (HL.out _)))
                    go_wp2
                    go_roundw
                    case rel => exact ⟨i, s, t + 1, _, rfl, by go_num, by omega, by omega, by omega, HO.out.drewN nq, HS9.out, grown_trans hg (grown_drewN wr nq _)⟩
                    case measure => simp [intOf]; omega
                  case pos =>
                    have HL := Lib.hid (fun w => less_t hp4 w)
                    rw [if_neg (by simp [Sort.ltInt, hp4])] at hs
                    have HS4 := Lib.hid hs
                    clear hs HS
                    go_wp2
                    go_quiet (first | (go_at_call 65; refine Calls.quiet_of_same (HL.out _)))
                    have HO1 := Lib.hid (HO.out.drewN nq)
                    have hg1 := grown_trans hg (grown_drewN wr nq _)
                    clear HO hg ka kb fa fb HL
                    generalize wr.drewN nq = w1 at HO1 hg1 ⊢
                    have ka := HO1.out.cell j (by omega)
                    have kb := HO1.out.cell j' (by omega)
                    have fa := HO1.out.frz j
                    have fb := HO1.out.frz j'
                    rw [HXA.out] at ka
                    rw [HXB.out] at kb
                    have hsc := HO1.out.cellset j j' (by omega)
                    rw [HXB.out] at hsc
                    have hO3 := (HO1.out.drewN 1).swp j j'
                    rw [HXA.out, HXB.out] at hO3
                    have hg3 := grown_trans (grown_trans hg1 (grown_drewN w1 1 _)) (grown_swp (w1.drewN 1) g j j' (.int .i32 xb) (.int .i32 xa))
                    have HO3 := Lib.hid hO3
                    clear hO3
                    go_wp2
                    go_region
                    all_goals go_wp2
                    go_roundw
                    case rel => exact ⟨j', _, by first | rfl | go_num, by omega, HO3.out, HS4.out, hg3⟩
                    case measure => simp [intOf]; omega
          case neg =>
            have h2i : ¬ ((2 : Int) ≤ (i : Int) - (a : Int)) := by omega
            have hc2 := HC2.out
            rw [if_neg (by omega)] at hc2
            subst hc2
            clear HC2
            by_cases h3 : 2 ≤ b - i
            case pos =>
              have h3i : (2 : Int) ≤ (b : Int) - (i : Int) := by omega
              all_goals go_wp2
              have HC3b : Hid (Sort.shiftUp Sort.ltInt b (i + 1) c1 = c3) := by have := HC3.out; rwa [if_pos (by omega)] at this
              clear HC3
              go_loopw [10] (fun jv wr => ∃ (j : Nat) (e : Array Int), jv = .int .i64 j ∧ i + 1 ≤ j ∧ j ≤ b ∧ Hid (SO B g n cap wr e) ∧ Hid (Sort.shiftUp Sort.ltInt b j e = c3) ∧ w.grownBy wr (some g)) (fun jv _ => b - (intOf jv).toNat)
              case atStart => exact ⟨i + 1, c1, by go_num, Nat.le_refl _, by omega, HO3.out, HC3b.out, hg3⟩
              case round =>
                clear HC3b
                obtain ⟨j, e, rfl, hj1, hj2, HO, HS, hg⟩ := hrel
                have hs := HS.out
                rw [Sort.shiftUp] at hs
                rcases Nat.lt_or_ge j b with hlt4 | hge4
                case inr =>
                  obtain rfl : j = b := by omega
                  rw [if_neg (by omega)] at hs
                  obtain rfl := hs.symm
                  go_wp2
                  go_roundw
                  case rel => exact ⟨i, s, t + 1, c3, rfl, by go_num, by omega, by omega, by omega, HO.out, HS9.out, hg⟩
                  case measure => simp [intOf]; omega
                case inl =>
                  obtain ⟨j', hj'⟩ : ∃ j' : Nat, j - 1 = j' := ⟨_, rfl⟩
                  rw [if_pos hlt4, hj'] at hs
                  have hjc : (j : Int) - 1 = (j' : Int) := by omega
                  have hjb : (j : Int) < (b : Int) := by omega
                  have ka := HO.out.cell j (by omega)
                  have kb := HO.out.cell j' (by omega)
                  have fa := HO.out.frz j
                  have fb := HO.out.frz j'
                  obtain ⟨xa, hxa⟩ : ∃ x, e[j]! = x := ⟨_, rfl⟩
                  obtain ⟨xb, hxb⟩ : ∃ x, e[j']! = x := ⟨_, rfl⟩
                  rw [hxa, hxb] at hs
                  rw [hxa] at ka
                  rw [hxb] at kb
                  have HXA := Lib.hid hxa
                  have HXB := Lib.hid hxb
                  clear hxa hxb
                  have hba : (j : Int) < (n : Int) := by omega
                  have hbb : (j' : Int) < (n : Int) := by omega
                  by_cases hp4 : xa < xb
                  case neg =>
                    have HL := Lib.hid (fun w => less_f hp4 w)
                    rw [if_pos (by simp [Sort.ltInt, hp4])] at hs
                    obtain rfl := hs.symm
                    go_wp2
                    go_quiet (first | (go_at_call 65; refine Calls.quiet_of_same (HL.out _)))
                    go_wp2
                    go_roundw
                    case rel => exact ⟨i, s, t + 1, c3, rfl, by go_num, by omega, by omega, by omega, HO.out.drewN nq, HS9.out, grown_trans hg (grown_drewN wr nq _)⟩
                    case measure => simp [intOf]; omega
                  case pos =>
                    have HL := Lib.hid (fun w => less_t hp4 w)
                    rw [if_neg (by simp [Sort.ltInt, hp4])] at hs
                    have HS4 := Lib.hid hs
                    clear hs HS
                    go_wp2
                    go_quiet (first | (go_at_call 65; refine Calls.quiet_of_same (HL.out _)))
                    have HO1 := Lib.hid (HO.out.drewN nq)
                    have hg1 := grown_trans hg (grown_drewN wr nq _)
                    clear HO hg ka kb fa fb HL
                    generalize wr.drewN nq = w1 at HO1 hg1 ⊢
                    have ka := HO1.out.cell j (by omega)
                    have kb := HO1.out.cell j' (by omega)
                    have fa := HO1.out.frz j
                    have fb := HO1.out.frz j'
                    rw [HXA.out] at ka
                    rw [HXB.out] at kb
                    have hsc := HO1.out.cellset j j' (by omega)
                    rw [HXB.out] at hsc
                    have hO3 := (HO1.out.drewN 1).swp j j'
                    rw [HXA.out, HXB.out] at hO3
                    have hg3 := grown_trans (grown_trans hg1 (grown_drewN w1 1 _)) (grown_swp (w1.drewN 1) g j j' (.int .i32 xb) (.int .i32 xa))
                    have HO3 := Lib.hid hO3
                    clear hO3
                    go_wp2
                    go_region
                    all_goals go_wp2
                    go_roundw
                    case rel => exact ⟨j + 1, _, by go_num, by omega, by omega, HO3.out, HS4.out, hg3⟩
                    case measure => simp [intOf]; omega
            case neg =>
              have h3i : ¬ ((2 : Int) ≤ (b : Int) - (i : Int)) := by omega
              have hc3 := HC3.out
              rw [if_neg (by omega)] at hc3
              subst hc3
              clear HC3
              all_goals go_wp2
              go_roundw
              case rel => exact ⟨i, s, t + 1, _, rfl, by go_num, by omega, by omega, by omega, HO3.out, HS9.out, hg3⟩
              case measure => simp [intOf]; omega
end Go.Proofs.Ytfhfhfadebcbfaa
