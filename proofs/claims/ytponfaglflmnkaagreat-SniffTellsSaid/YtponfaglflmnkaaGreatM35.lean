/- The statements of layer 46, walked. (laid together by program out of single texts). -/
import Derived.Test.YtponfaglflmnkaaGreatM2
import Derived.Test.YtponfaglflmnkaaGreatM28
import Derived.Test.YtponfaglflmnkaaGreatM32
import Derived.Test.YtponfaglflmnkaaGreatM33
import Derived.Test.YtponfaglflmnkaaGreatM34
namespace Go.Proofs.YtponfaglflmnkaaGreat
open Go.RowKit
set_option maxHeartbeats 4000000
set_option maxRecDepth 100000
theorem alive46_any (w : World) : Calls Tryz.prog 5 #[] w fun e w' => e = .returned (.bool true) ∧ Below w.heap.size w w' := by
  have kc := fun (w : World) (C : Array Value) (n c : Nat) => Lib.run_convert_bytes_const (P := Tryz.prog) w 22 5 C n c Tryz.underlying22 Tryz.underlying5
  have h1 := fun v w' h' => sGuess_any v [233] w' h' (by intro x hx; simp at hx; omega) (by simp)
  have h2 := fun v w' h' => sGuess_any v [128] w' h' (by intro x hx; simp at hx; omega) (by simp)
  have h3 := fun v w' h' => sGuess_any v [0] w' h' (by intro x hx; simp at hx; omega) (by simp)
  rw [guess_233] at h1; rw [guess_128] at h2; rw [guess_0] at h3
  have H1 := Lib.hid h1; have H2 := Lib.hid h2; have H3 := Lib.hid h3
  clear h1 h2 h3
  have hb := Below.refl w.heap.size w
  go_enter Tryz.func5, Tryz.ntmps5
  go_wp2_with fail
  refine (sCost_any _ _ (Row.flit [97, 61] [_, _] rfl (by simp))).mono ?_
  rintro e w1 ⟨rfl, hw1⟩
  have hb1 : Below w.heap.size w w1 := by rw [hw1]; exact below_alloc _ _
  clear hw1
  go_wp2_with fail
  refine (H1.out _ _ (by first | exact Row.flit [_] [_] rfl (by simp) | exact Row.ilit [_] [_] rfl (by simp))).mono ?_
  rintro e w2 ⟨rfl, hb2⟩
  replace hb2 := below_trans (hb1.alloc hb1.size _) hb2
  clear hb1
  go_wp2_with fail
  refine (H2.out _ _ (by first | exact Row.flit [_] [_] rfl (by simp) | exact Row.ilit [_] [_] rfl (by simp))).mono ?_
  rintro e w3 ⟨rfl, hb3⟩
  replace hb3 := below_trans (hb2.alloc hb2.size _) hb3
  clear hb2
  go_wp2_with fail
  refine (H3.out _ _ (by first | exact Row.flit [_] [_] rfl (by simp) | exact Row.ilit [_] [_] rfl (by simp))).mono ?_
  rintro e w4 ⟨rfl, hb4⟩
  replace hb4 := below_trans (hb3.alloc hb3.size _) hb4
  clear hb3
  have kc4 := kc w4
  go_wp2_with fail
  refine (sCoding_any _ _ (Row.flit [97] [_] rfl (by simp))).mono ?_
  rintro e w5 ⟨rfl, hb5⟩
  replace hb5 := below_trans (hb4.alloc hb4.size _) hb5
  go_wp2
  go_ret
  exact ⟨rfl, hb5⟩
theorem SniffGuesses_walk (v : Value) (xs : List Int) (w : World) (h : Row w v (ints .u8 xs)) (g : WF .u8 xs) :
    Calls Tryz.prog 3 #[v] w fun e w' => e = .returned (.bool true) ∧ Below w.heap.size w w' := by
  obtain ⟨a, b, off, cap, rfl, _⟩ := id h.op
  have hb := Below.refl w.heap.size w
  by_cases hl : xs.length ≤ 300
  · have hgx := g.u8
    have hA := fun w' h' => sGuess_any (.slice a xs.length cap) xs w' h' hgx (by omega)
    have hB := fun w' h' => rGuess_any (.slice a xs.length cap) xs w' h' hgx (by omega)
    have hC := fun w' h' => sText_any (.slice a xs.length cap) xs w' h' hgx (by omega)
    have hD := fun w' h' => rText_any (.slice a xs.length cap) xs w' h' hgx (by omega)
    have hE := fun w' h' => sControls_any (.slice a xs.length cap) xs w' h' hgx (by omega)
    have hF := fun w' h' => rControls_any (.slice a xs.length cap) xs w' h' hgx (by omega)
    have hG := fun w' h' => sHighs_any (.slice a xs.length cap) xs w' h' (by omega)
    have hH := fun w' h' => rHighs_any (.slice a xs.length cap) xs w' h' (by omega)
    have hT := guessT_len xs
    have HTL : Hid ((guessT xs).length ≤ 301) := by show _ ≤ _; omega
    clear hT
    generalize guessN xs = G at *
    generalize guessT xs = T at *
    generalize ctN xs = C at *
    generalize hiN xs = H at *
    have HA := Lib.hid hA; have HB := Lib.hid hB; have HC := Lib.hid hC; have HD := Lib.hid hD; have HE := Lib.hid hE; have HF := Lib.hid hF; have HG := Lib.hid hG; have HH := Lib.hid hH
    clear hA hB hC hD hE hF hG hH
    have hrow := h
    go_enter Tryz.func3, Tryz.ntmps3
    go_wp2_with fail
    refine (HA.out _ hrow).mono ?_
    rintro e w1 ⟨rfl, hb1⟩
    replace hb := (by first | exact below_trans hb hb1 | exact below_trans (hb.alloc hb.size _) hb1 | exact below_trans ((hb.alloc hb.size _).alloc (hb.alloc hb.size _).size _) hb1 : Below w.heap.size w _)
    replace hrow := hrow.below hb1
    clear hb1
    go_wp2_with fail
    refine (HB.out _ hrow).mono ?_
    rintro e w2 ⟨rfl, hb2⟩
    replace hb := (by first | exact below_trans hb hb2 | exact below_trans (hb.alloc hb.size _) hb2 | exact below_trans ((hb.alloc hb.size _).alloc (hb.alloc hb.size _).size _) hb2 : Below w.heap.size w _)
    replace hrow := hrow.below hb2
    clear hb2
    go_wp2_with fail
    refine (HC.out _ hrow).mono ?_
    rintro e w3 ⟨t3, rfl, ho3, hb3⟩
    replace hb := (by first | exact below_trans hb hb3 | exact below_trans (hb.alloc hb.size _) hb3 | exact below_trans ((hb.alloc hb.size _).alloc (hb.alloc hb.size _).size _) hb3 : Below w.heap.size w _)
    replace hrow := hrow.below hb3
    have r3 := ho3.row
    clear ho3 hb3
    go_wp2_with fail
    refine (HD.out _ hrow).mono ?_
    rintro e w4 ⟨t4, rfl, ho4, hb4⟩
    replace hb := (by first | exact below_trans hb hb4 | exact below_trans (hb.alloc hb.size _) hb4 | exact below_trans ((hb.alloc hb.size _).alloc (hb.alloc hb.size _).size _) hb4 : Below w.heap.size w _)
    replace hrow := hrow.below hb4
    replace r3 := r3.below hb4
    have r4 := ho4.row
    clear ho4 hb4
    go_wp2_with fail
    refine (like3_any _ _ T T _ r3 r4 (by have := HTL.out; omega) (by have := HTL.out; omega)).mono ?_
    rintro e w5 ⟨rfl, hb5⟩
    replace hb := (by first | exact below_trans hb hb5 | exact below_trans (hb.alloc hb.size _) hb5 | exact below_trans ((hb.alloc hb.size _).alloc (hb.alloc hb.size _).size _) hb5 : Below w.heap.size w _)
    rw [decide_eq_true rfl]
    replace hrow := hrow.below hb5
    clear r3 r4 hb5
    go_wp2_with fail
    refine (HE.out _ hrow).mono ?_
    rintro e w6 ⟨rfl, hb6⟩
    replace hb := (by first | exact below_trans hb hb6 | exact below_trans (hb.alloc hb.size _) hb6 | exact below_trans ((hb.alloc hb.size _).alloc (hb.alloc hb.size _).size _) hb6 : Below w.heap.size w _)
    replace hrow := hrow.below hb6
    clear hb6
    go_wp2_with fail
    refine (HF.out _ hrow).mono ?_
    rintro e w7 ⟨rfl, hw⟩; obtain rfl := hw.symm
    go_wp2_with fail
    refine (HG.out _ hrow).mono ?_
    rintro e w8 ⟨rfl, hw⟩; obtain rfl := hw.symm
    go_wp2_with fail
    refine (HH.out _ hrow).mono ?_
    rintro e w9 ⟨rfl, hw⟩; obtain rfl := hw.symm
    go_wp2_with fail
    refine (alive46_any _).mono ?_
    rintro e w10 ⟨rfl, hb10⟩
    replace hb := (by first | exact below_trans hb hb10 | exact below_trans (hb.alloc hb.size _) hb10 | exact below_trans ((hb.alloc hb.size _).alloc (hb.alloc hb.size _).size _) hb10 : Below w.heap.size w _)
    go_wp2
    go_ret
    exact ⟨rfl, hb⟩
  · go_enter Tryz.func3, Tryz.ntmps3
    go_wp2_with (go_at_call 5; refine (alive46_any _).mono ?_; rintro e w7 ⟨rfl, hb7⟩)
    go_ret
    exact ⟨rfl, hb7⟩
theorem SniffTells_walk (v : Value) (ts : List Int) (w : World) (h : Row w v (ints .i32 ts)) (g : WF .i32 ts) :
    Calls Tryz.prog 4 #[v] w fun e w' => e = .returned (.bool true) ∧ Below w.heap.size w w' := by
  have kc := fun (w : World) (C : Array Value) (n c : Nat) => Lib.run_convert_bytes_const (P := Tryz.prog) w 22 5 C n c Tryz.underlying22 Tryz.underlying5
  obtain ⟨a, b, off, cap, rfl, HC0⟩ := id h.op
  have hb := Below.refl w.heap.size w
  have hgt : R32 ts := fun x hx => wf_i32 (g x hx)
  by_cases hl : ts.length ≤ 200
  · have hf := fun w' h' => rfirst_any (.slice a ts.length cap) ts w' h' (by omega)
    cases hs : allSc ts with
    | false =>
      have hq : 0 ≤ idx (fun c => !scB c) ts := Decidable.byContradiction fun h9 => by
        rw [allSc_idx, decide_eq_true (by omega)] at hs; cases hs
      generalize idx (fun c => !scB c) ts = q at *
      have HF := Lib.hid hf
      clear hf hs
      go_enter Tryz.func4, Tryz.ntmps4
      go_wp2_with (first | (go_at_call 15; refine (HF.out _ h).mono ?_; rintro e w1 ⟨rfl, rfl⟩) | (go_at_call 5; refine (alive46_any _).mono ?_; rintro e w7 ⟨rfl, hb7⟩))
      go_ret
      exact ⟨rfl, hb7⟩
    | true =>
      rw [idx_none_sc hs] at hf
      have HF := Lib.hid hf
      clear hf
      by_cases h0 : ts[0]? = some 65279
      · have hpos : 0 < ts.length := (List.getElem?_eq_some_iff.1 h0).1
        obtain ⟨c, HX, rfl, hc⟩ := HC0.out 0 hpos
        obtain rfl : 65279 = c := Option.some.inj (h0.symm.trans HX.out)
        replace hc := hc w (Below.refl _ _)
        simp only [Nat.add_zero] at hc
        clear HC0 HX hs h0
        go_enter Tryz.func4, Tryz.ntmps4
        go_wp2_with (first | (go_at_call 15; refine (HF.out _ h).mono ?_; rintro e w1 ⟨rfl, rfl⟩) | (go_at_call 5; refine (alive46_any _).mono ?_; rintro e w7 ⟨rfl, hb7⟩))
        go_ret
        exact ⟨rfl, hb7⟩
      · have hlay := reLay_any (.slice a ts.length cap) ts w h hgt (by omega)
        rw [show elayR ts = (elay ts, 0) by rw [elayR, if_pos hs]] at hlay
        have hbl := elay_len ts
        have hbr := elay_rng ts
        have hct := fun v w' h' => rControls_any v (elay ts) w' h' hbr (by omega)
        have hz : ts.length < 1 ∨ (0 < ts.length ∧ ∃ c, c ≠ 65279 ∧ w.cell? ⟨b, off, none⟩ = some (.int .i32 c) ∧ a = some ⟨b, off, none⟩) := by
          rcases Nat.eq_zero_or_pos ts.length with h9 | h9
          · exact .inl (by omega)
          · obtain ⟨c, HX, h8, hc⟩ := HC0.out 0 h9
            refine .inr ⟨h9, c, fun h7 => h0 (by rw [HX.out, h7]), ?_, h8⟩
            have := hc w (Below.refl _ _)
            simpa only [Nat.add_zero] using this
        have HLAY := Lib.hid hlay
        clear hlay HC0
        rcases Nat.eq_zero_or_pos (ctN (elay ts)) with hc | hc
        · obtain ⟨hg34, hT⟩ := tells hs h0 hc
          obtain ⟨hg2, hT2⟩ := tells_m hs
          have h1 := fun v w' h' => sGuess_any v (elay ts) w' h' hbr (by omega)
          have h2 := fun v w' h' => sText_any v (elay ts) w' h' hbr (by omega)
          have hmr : Rg 0 256 (239 :: 187 :: 191 :: elay ts) := fun x hx => by
            simp only [List.mem_cons] at hx
            rcases hx with rfl | rfl | rfl | hx
            · omega
            · omega
            · omega
            · exact hbr x hx
          have h3 := fun v w' h' => sGuess_any v (239 :: 187 :: 191 :: elay ts) w' h' hmr (by simp only [List.length_cons]; omega)
          have h4 := fun v w' h' => sText_any v (239 :: 187 :: 191 :: elay ts) w' h' hmr (by simp only [List.length_cons]; omega)
          rw [hc] at hct
          rw [hT] at h2; rw [hg2] at h3; rw [hT2] at h4
          have hone : ints .u8 [239, 187, 191] ++ ints .u8 (elay ts) = ints .u8 (239 :: 187 :: 191 :: elay ts) := rfl
          have hlb : (ints .u8 [239, 187, 191]).length + (ints .u8 (elay ts)).length ≤ 1000000000 := by
            rw [ints_length, ints_length]; simp only [List.length_cons, List.length_nil]; omega
          obtain ⟨G, hG⟩ : ∃ G, guessN (elay ts) = G := ⟨_, rfl⟩
          rw [hG] at h1 hg34
          clear hG hT hg2 hT2 hc h0 hs hmr hbr hbl
          generalize elay ts = B at *
          have H1 := Lib.hid h1; have H2 := Lib.hid h2; have H3 := Lib.hid h3; have H4 := Lib.hid h4; have HCT := Lib.hid hct; have HLB := Lib.hid hlb; have HONE := Lib.hid hone
          clear h1 h2 h3 h4 hct hlb hone
          have hrow := h
          rcases hz with hz | ⟨hz, c, hc1, hc2, rfl⟩
          case' inr => have hcb : (c == 65279) = false := beq_false_of_ne hc1
          case' inr => clear hc1
          all_goals
            rcases hg34 with rfl | rfl
          all_goals
            go_enter Tryz.func4, Tryz.ntmps4
            go_wp2_with fail
            refine (HF.out _ h).mono ?_
            rintro e w1 ⟨rfl, rfl⟩
            go_wp2_with fail
            refine (HLAY.out).mono ?_
            rintro e w2 ⟨bv, rfl, hob, hb2⟩
            replace hb := (by first | exact below_trans hb hb2 | exact below_trans (hb.alloc hb.size _) hb2 | exact below_trans ((hb.alloc hb.size _).alloc (hb.alloc hb.size _).size _) hb2 : Below w.heap.size w _)
            replace hrow := hrow.below hb2
            have rb := hob.row
            clear hob hb2
            go_wp2_with fail
            refine (HCT.out _ _ rb).mono ?_
            rintro e w3 ⟨rfl, hw⟩; obtain rfl := hw.symm
            go_wp2_with fail
            refine (H1.out _ _ rb).mono ?_
            rintro e w4 ⟨rfl, hb4⟩
            replace hb := (by first | exact below_trans hb hb4 | exact below_trans (hb.alloc hb.size _) hb4 | exact below_trans ((hb.alloc hb.size _).alloc (hb.alloc hb.size _).size _) hb4 : Below w.heap.size w _)
            replace hrow := hrow.below hb4
            replace rb := rb.below hb4
            clear hb4
            have kc4 := kc w4
            go_wp2_with (at_builtin; refine wpList_applit slT_u8 rfl _ _ rfl rfl rfl (cs := ints .u8 [239, 187, 191]) rfl (Row.flit [239, 187, 191] [_, _, _] rfl (by simp)) (rb.alloc _) HLB.out ?_; intro mv w5 rm hb5; rw [HONE.out] at rm; replace hrow := (hrow.alloc _).below hb5; replace rb := (rb.alloc _).below hb5; replace hb := below_trans (hb.alloc hb.size _) hb5; clear hb5)
            refine (H2.out _ _ rb).mono ?_
            rintro e w6 ⟨t6, rfl, ho6, hb6⟩
            replace hb := below_trans hb hb6
            replace hrow := hrow.below hb6
            replace rm := rm.below hb6
            have r6 := ho6.row
            clear ho6 hb6 rb
            go_wp2_with fail
            refine (like3_any _ _ ts ts _ r6 hrow (by omega) (by omega)).mono ?_
            rintro e w7 ⟨rfl, hb7⟩
            replace hb := (by first | exact below_trans hb hb7 | exact below_trans (hb.alloc hb.size _) hb7 | exact below_trans ((hb.alloc hb.size _).alloc (hb.alloc hb.size _).size _) hb7 : Below w.heap.size w _)
            rw [decide_eq_true rfl]
            replace hrow := hrow.below hb7
            replace rm := rm.below hb7
            clear r6 hb7
            go_wp2_with fail
            refine (H3.out _ _ rm).mono ?_
            rintro e w8 ⟨rfl, hb8⟩
            replace hb := (by first | exact below_trans hb hb8 | exact below_trans (hb.alloc hb.size _) hb8 | exact below_trans ((hb.alloc hb.size _).alloc (hb.alloc hb.size _).size _) hb8 : Below w.heap.size w _)
            replace hrow := hrow.below hb8
            replace rm := rm.below hb8
            clear hb8
            go_wp2_with fail
            refine (H4.out _ _ rm).mono ?_
            rintro e w9 ⟨t9, rfl, ho9, hb9⟩
            replace hb := (by first | exact below_trans hb hb9 | exact below_trans (hb.alloc hb.size _) hb9 | exact below_trans ((hb.alloc hb.size _).alloc (hb.alloc hb.size _).size _) hb9 : Below w.heap.size w _)
            replace hrow := hrow.below hb9
            have r9 := ho9.row
            clear ho9 hb9 rm
            go_wp2_with fail
            refine (like3_any _ _ ts ts _ r9 hrow (by omega) (by omega)).mono ?_
            rintro e w10 ⟨rfl, hb10⟩
            replace hb := (by first | exact below_trans hb hb10 | exact below_trans (hb.alloc hb.size _) hb10 | exact below_trans ((hb.alloc hb.size _).alloc (hb.alloc hb.size _).size _) hb10 : Below w.heap.size w _)
            rw [decide_eq_true rfl]
            clear r9 hb10 hrow
            go_wp2_with fail
            refine (alive46_any _).mono ?_
            rintro e w11 ⟨rfl, hb11⟩
            replace hb := (by first | exact below_trans hb hb11 | exact below_trans (hb.alloc hb.size _) hb11 | exact below_trans ((hb.alloc hb.size _).alloc (hb.alloc hb.size _).size _) hb11 : Below w.heap.size w _)
            go_wp2
            go_ret
            exact ⟨rfl, hb⟩
        · generalize ctN (elay ts) = C at *
          have HCT := Lib.hid hct
          clear hct hs h0 hbl hbr
          rcases hz with hz | ⟨hz, c, hc1, hc2, rfl⟩
          case' inr => have hcb : (c == 65279) = false := beq_false_of_ne hc1
          case' inr => clear hc1
          all_goals
            go_enter Tryz.func4, Tryz.ntmps4
            go_wp2_with fail
            refine (HF.out _ h).mono ?_
            rintro e w1 ⟨rfl, rfl⟩
            go_wp2_with fail
            refine (HLAY.out).mono ?_
            rintro e w2 ⟨bv, rfl, hob, hb2⟩
            replace hb := (by first | exact below_trans hb hb2 | exact below_trans (hb.alloc hb.size _) hb2 | exact below_trans ((hb.alloc hb.size _).alloc (hb.alloc hb.size _).size _) hb2 : Below w.heap.size w _)
            go_wp2_with fail
            refine (HCT.out _ _ hob.row).mono ?_
            rintro e w3 ⟨rfl, hw⟩; obtain rfl := hw.symm
            go_wp2_with fail
            refine (alive46_any _).mono ?_
            rintro e w4 ⟨rfl, hb4⟩
            replace hb := (by first | exact below_trans hb hb4 | exact below_trans (hb.alloc hb.size _) hb4 | exact below_trans ((hb.alloc hb.size _).alloc (hb.alloc hb.size _).size _) hb4 : Below w.heap.size w _)
            go_wp2
            go_ret
            exact ⟨rfl, hb⟩
  · go_enter Tryz.func4, Tryz.ntmps4
    go_wp2_with (go_at_call 5; refine (alive46_any _).mono ?_; rintro e w7 ⟨rfl, hb7⟩)
    go_ret
    exact ⟨rfl, hb7⟩
end Go.Proofs.YtponfaglflmnkaaGreat
