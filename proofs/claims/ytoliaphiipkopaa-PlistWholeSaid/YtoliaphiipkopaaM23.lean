/- The statement of layer 35 on parts, walked. (laid together by program out of single texts). -/
import Derived.Test.YtoliaphiipkopaaM2
import Derived.Test.YtoliaphiipkopaaM22
namespace Go.Proofs.Ytoliaphiipkopaa
open Go.RowKit
set_option maxHeartbeats 4000000
set_option maxRecDepth 100000
theorem two_of {α : Type} {l : List α} (h : l.length = 2) : ∃ a b, l = [a, b] := by
  match l, h with
  | [a, b], _ => exact ⟨a, b, rfl⟩
theorem alive35_any (w : World) : Calls Try.prog 4 #[] w fun e w' => e = .returned (.bool true) ∧ Below w.heap.size w w' := by
  have kc := fun (w : World) (C : Array Value) (n c : Nat) => Lib.run_convert_bytes_const (P := Try.prog) w 22 5 C n c Try.underlying22 Try.underlying5
  obtain ⟨f1, f2⟩ := alive35_facts
  have h1 := fun v w' h' => pread_any v [59, 32, 65, 42, 49, 42, 61, 120, 59, 32, 98, 61, 34, 99, 59, 100, 34, 59, 32, 61] w' h' (by intro x hx; simp at hx; omega) (by simp)
  have h2 := fun v w' h' => pbad_any v [97, 59, 98, 61, 99] w' h' (by intro x hx; simp at hx; omega) (by simp)
  rw [f1] at h1; rw [f2] at h2
  have H1 := Lib.hid h1; have H2 := Lib.hid h2
  clear h1 h2 f1 f2
  go_enter Try.func4, Try.ntmps4
  go_wp2_with fail
  refine (H1.out _ _ (Row.flit [59, 32, 65, 42, 49, 42, 61, 120, 59, 32, 98, 61, 34, 99, 59, 100, 34, 59, 32, 61] [_, _, _, _, _, _, _, _, _, _, _, _, _, _, _, _, _, _, _, _] rfl (by simp))).mono ?_
  rintro e w1 ⟨t, l, rfl, ol, hel, hb1⟩
  have hB1 := below_trans (below_alloc w _) hb1
  obtain ⟨r0, r1, rfl⟩ := two_of hel.1
  obtain ⟨a0, b0, rfl, ha0, hb0⟩ := hel.2 0 _ _ rfl rfl
  obtain ⟨a1, b1, rfl, ha1, hb2⟩ := hel.2 1 _ _ rfl rfl
  simp only at ol ha0 hb2
  obtain ⟨g, cap, rfl, hg1, hg2⟩ := ol.form (n := 2) rfl (by omega)
  obtain ⟨x0, y0, rfl⟩ := (id ha0.row).formN0 (n := 1) rfl
  obtain ⟨x1, y1, rfl⟩ := (id hb2.row).formN0 (n := 3) rfl
  have c0 := ol.cellAt (j := 0) rfl
  have c1 := ol.cellAt (j := 1) rfl
  have c2 := ol.cellAt (j := 2) rfl
  have c5 := ol.cellAt (j := 5) rfl
  have c7 := ol.cellAt (j := 7) rfl
  have cv1 := rowstr2 _ ha0.row
  have cv2 := rowstr2 _ hb2.row
  rw [show strOfNums [97] = ⟨#[97]⟩ from by first | rfl | decide] at cv1
  rw [show strOfNums [99, 59, 100] = ⟨#[99, 59, 100]⟩ from by first | rfl | decide] at cv2
  clear hel ol
  have kc1 := kc w1
  go_wp2_with fail
  refine (H2.out _ _ (Row.flit [97, 59, 98, 61, 99] [_, _, _, _, _] rfl (by simp))).mono ?_
  rintro e w2 ⟨rfl, hb3⟩
  go_wp2
  go_ret
  exact ⟨rfl, below_trans (hB1.alloc hB1.size _) hb3⟩
theorem joinP_step {ps : List (List Int)} {k : Nat} {p : List Int} (h : ps[k]? = some p) (h0 : 0 < k) : joinP (ps.take (k + 1)) = joinP (ps.take k) ++ [59] ++ p := by
  have hl : k < ps.length := (List.getElem?_eq_some_iff.1 h).1
  rw [List.take_add_one, h]
  show joinP (ps.take k ++ [p]) = _
  rw [joinP_snoc _ _ (by intro e; have := congrArg List.length e; rw [List.length_take, List.length_nil] at this; omega)]
  simp
theorem joinP_len : ∀ (l : List (List Int)) (k : Nat), (joinP (l.take k)).length ≤ (joinP l).length
  | [], k => by simp
  | [p], k => by
    cases k with
    | zero => simp [joinP]
    | succ k => simp
  | p :: q :: l, k => by
    cases k with
    | zero => simp [joinP]
    | succ k =>
      cases k with
      | zero => simp only [List.take_succ_cons, List.take_zero, joinP, List.length_append]; omega
      | succ k =>
        have ih := joinP_len (q :: l) (k + 1)
        simp only [List.take_succ_cons] at ih ⊢
        simp only [joinP, List.length_append, List.length_cons] at ih ⊢
        omega
theorem PlistWhole_walk (v : Value) (xs : List Int) (w : World) (h : Row w v (ints .u8 xs)) (g : WF .u8 xs) :
    Calls Try.prog 3 #[v] w fun e w' => e = .returned (.bool true) ∧ Below w.heap.size w w' := by
  have hg : Rg 0 256 xs := fun x hx => wf_u8 (g x hx)
  obtain ⟨a0, c0, rfl⟩ := (id h).formN0 (n := xs.length) (by rw [ints_length])
  by_cases hl : xs.length ≤ 400
  · have hP := parts35_any (.slice a0 xs.length c0) xs w h hg (by omega)
    have hj := ptsM_join xs
    have hpl := ptG_len xs.length xs [] (Nat.le_refl _)
    have hne : 0 < (ptsM xs).length := by
      obtain ⟨p, l, hp⟩ := ptG_ne xs.length xs [] (Nat.le_refl _)
      have : ptsM xs = p :: l := hp
      rw [this]; simp
    have hpm : ∀ p ∈ ptsM xs, p.length ≤ 400 := fun p hp => by
      have := (joinP_mem _ p hp).2
      rw [ptsM_join] at this
      omega
    have hjl := fun k => joinP_len (ptsM xs) k
    rw [hj] at hjl
    have hpl2 : (ptsM xs).length ≤ 401 := by have : ptsM xs = ptG [] xs := rfl; rw [this]; omega
    generalize ptsM xs = ps at *
    have HP := Lib.hid hP; have HJ := Lib.hid hj; have HPM := Lib.hid hpm; have HNE := Lib.hid hne; have HJL := Lib.hid hjl
    clear hP hj hpm hpl hne hjl
    have H := Lib.hid h
    go_enter Try.func3, Try.ntmps3
    go_wp2_with fail
    refine HP.out.mono ?_
    rintro e w1 ⟨t1, vs, rfl, ho1, hop1, hb1⟩
    obtain ⟨at1, bt1, offt, ct1, rfl, htc, htm, hta, _, hcell⟩ := ho1.row
    rw [hop1.1] at *
    have HCL := Lib.hid hcell; have HTA := Lib.hid hta; have HOP := Lib.hid hop1
    clear hcell hta hop1 ho1 htc htm HP
    go_wp2_with fail
    go_loopw [3, 15] (fun av iv wr => ∃ k : Nat, iv = .int .i64 k ∧ k ≤ ps.length ∧ Hid (Own w1.heap.size 5 wr av (ints .u8 (joinP (ps.take k)))) ∧ Below w1.heap.size w1 wr) (fun _ iv _ => ps.length - (intOf iv).toNat)
    case atStart => exact ⟨0, rfl, Nat.zero_le _, (by show Own _ _ _ _ _; rw [List.take_zero]; exact Own.nil _ _ _), Below.refl _ _⟩
    case round =>
      obtain ⟨k, rfl, hk, HO, hb⟩ := hrel
      by_cases hlt : k < ps.length
      · obtain ⟨p, hp⟩ : ∃ p, ps[k]? = some p := ⟨_, List.getElem?_eq_getElem hlt⟩
        obtain ⟨u, hu⟩ : ∃ u, vs[k]? = some u := ⟨_, List.getElem?_eq_getElem (by rw [HOP.out.1]; exact hlt)⟩
        have hru := (HOP.out.2 k u p hu hp).row
        obtain rfl : at1 = some ⟨bt1, offt, none⟩ := by
          rcases HTA.out with h9 | ⟨h9, _⟩
          · exact h9
          · rw [h9] at hu; simp at hu
        have hc := cell_kept (HCL.out k u hu) hb
        have HPL : Hid (p.length ≤ 400) := HPM.out p (List.mem_of_getElem? hp)
        have HJK : Hid ((joinP (ps.take k)).length ≤ 400) := by show _ ≤ _; have := HJL.out k; omega
        have HPK := Lib.hid hp
        have HUK := Lib.hid hu
        have HRU := Lib.hid hru
        clear hp hu hru
        by_cases hk0 : 0 < k
        · have HS : Hid (ints .u8 (joinP (ps.take k)) ++ ints .u8 [59] ++ ints .u8 p = ints .u8 (joinP (ps.take (k + 1)))) := by
            show _ = _
            rw [joinP_step HPK.out hk0]
            simp [ints]
          have hki : (0 : Int) < k := by omega
          go_wp2_with (first | (at_builtin; refine wpList_app slT_u8 w1.heap.size _ _ rfl rfl rfl rfl ho3 (HRU.out.below hb3) (by have := HJK.out; have := HPL.out; simp only [List.length_append, ints_length, List.length_cons, List.length_nil]; omega) hb3.size ?_; intro t4 w4 ho4 hg4; have hb4 : Below w1.heap.size w1 w4 := below_own hb3 ho3 hg4 hb3.size (Nat.le_refl _); rw [HS.out] at ho4) | (at_builtin; refine wpList_app slT_u8 w1.heap.size _ _ rfl rfl rfl rfl (HO.out.alloc _) (Row.ilit [59] [_] rfl (by simp)) (by have := HJK.out; simp only [ints_length, List.length_cons, List.length_nil]; omega) (by have := hb.size; simp; omega) ?_; intro t3 w3 ho3 hg3; have hb3 : Below w1.heap.size w1 w3 := below_own (hb.alloc hb.size _) (HO.out.alloc _) hg3 (by have := hb.size; simp; omega) (Nat.le_refl _); have hc3 := cell_kept (HCL.out k u HUK.out) hb3))
          go_roundw
          case rel => exact ⟨k + 1, by go_num, by omega, ho4, hb4⟩
          case measure => simp [intOf]; omega
        · obtain rfl : k = 0 := by omega
          simp only [Nat.add_zero] at hc
          have HS : Hid (ints .u8 (joinP (ps.take 0)) ++ ints .u8 p = ints .u8 (joinP (ps.take 1))) := by
            show _ = _
            rw [List.take_add_one, HPK.out]
            simp [joinP, ints]
          go_wp2_with (at_builtin; refine wpList_app slT_u8 w1.heap.size _ _ rfl rfl rfl rfl HO.out (HRU.out.below hb) (by have := HJK.out; have := HPL.out; simp only [ints_length]; omega) hb.size ?_; intro t4 w4 ho4 hg4; have hb4 : Below w1.heap.size w1 w4 := below_own hb HO.out hg4 hb.size (Nat.le_refl _); rw [HS.out] at ho4)
          go_roundw
          case rel => exact ⟨1, by go_num, by omega, ho4, hb4⟩
          case measure => simp [intOf]; omega
      · obtain rfl : k = ps.length := by omega
        have hO := HO.out
        rw [List.take_of_length_le (Nat.le_refl _), HJ.out] at hO
        have hB := below_trans hb1 hb
        have hn0 : (0 : Int) < ps.length := by have := HNE.out; omega
        obtain ⟨a9, c9, rfl⟩ := (id hO.row).formN0 (n := xs.length) (by rw [ints_length])
        go_wp2_with fail
        refine (like1_any _ _ xs xs _ hO.row (H.out.below hB) (by omega) (by omega)).mono ?_
        rintro e w5 ⟨rfl, hb5⟩
        rw [decide_eq_true rfl]
        have hB5 := below_trans hB hb5
        go_wp2_with fail
        refine (alive35_any _).mono ?_
        rintro e w6 ⟨rfl, hb6⟩
        go_wp2
        go_ret
        exact ⟨rfl, below_trans hB5 hb6⟩
  · clear h
    go_enter Try.func3, Try.ntmps3
    go_wp2_with (go_at_call 4; refine (alive35_any _).mono ?_; rintro e w7 ⟨rfl, hb7⟩)
    go_ret
    exact ⟨rfl, hb7⟩
end Go.Proofs.Ytoliaphiipkopaa
