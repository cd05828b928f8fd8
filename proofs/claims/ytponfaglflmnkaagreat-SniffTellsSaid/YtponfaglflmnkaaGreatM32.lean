/- Walks: guesses, by the reference. · Walks: the text by the guess, by the reference. (laid together by program out of single texts). -/
import Derived.Test.YtponfaglflmnkaaGreatM20
import Derived.Test.YtponfaglflmnkaaGreatM27
import Derived.Test.YtponfaglflmnkaaGreatM31
namespace Go.Proofs.YtponfaglflmnkaaGreat
open Go.RowKit
set_option maxHeartbeats 40000000
set_option maxRecDepth 100000
theorem rAll2_any (v : Value) (xs : List Int) (w : World) (h : Row w v (ints .u8 xs)) (hg : Rg 0 256 xs) (hl : xs.length ≤ 1000000) :
    Calls Tryz.prog 26 #[.int .i64 2, v] w fun e w' => e = .returned (.bool (xs.all latB)) ∧ Below w.heap.size w w' := by
  have hR := rRead13_any 2 v xs w h hg hl
  generalize creadL 2 xs = T at *
  have HR := Lib.hid hR; clear hR
  obtain ⟨a, b, off, cp, rfl, HC⟩ := h.op
  obtain ⟨q, HQ⟩ : ∃ q, Hid (xs.all latB = q) := ⟨_, rfl⟩
  rw [HQ.out]
  go_enter Tryz.func26, Tryz.ntmps26
  go_wp2_with (go_at_call 31; refine (HR.out).mono ?_; rintro e w1 ⟨t1, rfl, ho1, hb1⟩)
  go_loopw [6] (fun i wr => ∃ k : Nat, i = .int .i64 k ∧ k ≤ xs.length ∧ Hid (∀ y ∈ xs.take k, latB y = true) ∧ wr = w1) (fun i _ => xs.length - (intOf i).toNat)
  case atStart => exact ⟨0, rfl, Nat.zero_le _, (fun y hy => by simp at hy : ∀ y ∈ xs.take 0, latB y = true), rfl⟩
  case round =>
    obtain ⟨k, rfl, hk, HK, hw0⟩ := hrel
    obtain rfl := hw0.symm
    by_cases hlt : k < xs.length
    · obtain ⟨c, HX, rfl, hc⟩ := HC.out k hlt
      replace hc := hc _ hb1
      have no : latB c = false → q = false := fun hf => by
        rw [← HQ.out]
        cases hx : xs.all latB with
        | false => rfl
        | true => have := List.all_eq_true.1 hx c (List.mem_of_getElem? HX.out); rw [hf] at this; cases this
      have NO := Lib.hid no; clear no
      by_cases h0 : c = 0
      · obtain rfl := NO.out (by subst h0; decide)
        subst h0
        go_wp2
        go_ret
        exact ⟨rfl, hb1⟩
      · have b0 : (c == 0) = false := beq_false_of_ne h0
        clear h0
        by_cases h1 : 128 ≤ c
        · by_cases h2 : c ≤ 159
          · obtain rfl := NO.out (by rw [latB, b0, midB, decide_eq_true (by omega)]; rfl)
            go_wp2
            go_ret
            exact ⟨rfl, hb1⟩
          · have h3 : 159 < c := by omega
            have ht : Hid (latB c = true) := by show _ = _; rw [latB, b0, midB, decide_eq_false (by omega)]; rfl
            clear h2
            go_wp2
            go_roundw
            case rel => exact ⟨k + 1, by go_num, by omega, take_succ_all HK.out HX.out ht.out, by first | rfl | trivial⟩
            case measure => simp [intOf]; omega
        · have h3 : c < 128 := by omega
          have ht : Hid (latB c = true) := by show _ = _; rw [latB, b0, midB, decide_eq_false (by omega)]; rfl
          clear h1
          go_wp2
          go_roundw
          case rel => exact ⟨k + 1, by go_num, by omega, take_succ_all HK.out HX.out ht.out, by first | rfl | trivial⟩
          case measure => simp [intOf]; omega
    · have hq : q = true := by
        rw [← HQ.out]
        have := HK.out
        rw [List.take_of_length_le (by omega)] at this
        exact List.all_eq_true.2 this
      subst hq
      go_wp2
      go_ret
      exact ⟨rfl, hb1⟩
theorem rAll4_any (v : Value) (xs : List Int) (w : World) (h : Row w v (ints .u8 xs)) (hg : Rg 0 256 xs) (hl : xs.length ≤ 1000000) :
    Calls Tryz.prog 26 #[.int .i64 4, v] w fun e w' => e = .returned (.bool (xs.all winB)) ∧ Below w.heap.size w w' := by
  have hR := rRead13_any 4 v xs w h hg hl
  have hT : ∀ (k : Nat) (c : Int), xs[k]? = some c → (creadL 4 xs)[k]? = some (sgn 4 c) := fun k c hx => by
    rw [creadL, if_neg (by decide), List.getElem?_map, hx]; rfl
  have hTl := (cread_len 4 xs).2 (by decide)
  generalize creadL 4 xs = T at *
  have HR := Lib.hid hR; clear hR
  have HT := Lib.hid hT; have HTL := Lib.hid hTl; clear hT hTl
  obtain ⟨a, b, off, cp, rfl, HC⟩ := h.op
  obtain ⟨q, HQ⟩ : ∃ q, Hid (xs.all winB = q) := ⟨_, rfl⟩
  rw [HQ.out]
  go_enter Tryz.func26, Tryz.ntmps26
  go_wp2_with ((go_at_call 31; refine (HR.out).mono ?_; rintro e w1 ⟨t1, rfl, ho1, hb1⟩; obtain ⟨a2, b2, off2, cp2, rfl, HC2⟩ := ho1.row.op))
  go_loopw [6] (fun i wr => ∃ k : Nat, i = .int .i64 k ∧ k ≤ xs.length ∧ Hid (∀ y ∈ xs.take k, winB y = true) ∧ wr = w1) (fun i _ => xs.length - (intOf i).toNat)
  case atStart => exact ⟨0, rfl, Nat.zero_le _, (fun y hy => by simp at hy : ∀ y ∈ xs.take 0, winB y = true), rfl⟩
  case round =>
    obtain ⟨k, rfl, hk, HK, hw0⟩ := hrel
    obtain rfl := hw0.symm
    by_cases hlt : k < xs.length
    · obtain ⟨c, HX, rfl, hc⟩ := HC.out k hlt
      replace hc := hc _ hb1
      have hlt2 : k < T.length := by rw [HTL.out]; exact hlt
      obtain ⟨c2, HX2, rfl, hc2⟩ := HC2.out k hlt2
      replace hc2 := hc2 _ (Below.refl _ _)
      have hcc : Hid (c2 = sgn 4 c) := Option.some.inj (HX2.out.symm.trans (HT.out k c HX.out))
      have no : winB c = false → q = false := fun hf => by
        rw [← HQ.out]
        cases hx : xs.all winB with
        | false => rfl
        | true => have := List.all_eq_true.1 hx c (List.mem_of_getElem? HX.out); rw [hf] at this; cases this
      have NO := Lib.hid no; clear no
      by_cases h0 : c = 0
      · obtain rfl := NO.out (by subst h0; rfl)
        subst h0
        clear hcc
        go_wp2
        go_ret
        exact ⟨rfl, hb1⟩
      · have b0 : (c == 0) = false := beq_false_of_ne h0
        clear h0
        by_cases h1 : 128 ≤ c
        · by_cases h2 : c ≤ 159
          · have hwx := win_ex (c := c) h1 (by omega)
            rw [← hcc.out] at hwx
            have hm : midB c = true := decide_eq_true (by omega)
            by_cases h5 : c2 = 65533
            · obtain rfl := NO.out (by rw [winB, b0, hm, hwx, h5]; rfl)
              subst h5
              clear hcc hwx hm
              go_wp2
              go_ret
              exact ⟨rfl, hb1⟩
            · have b5 : (c2 == 65533) = false := beq_false_of_ne h5
              have ht : Hid (winB c = true) := by show _ = _; rw [winB, b0, hm, hwx, b5]; rfl
              clear hcc hwx hm h5
              go_wp2
              go_roundw
              case rel => exact ⟨k + 1, by go_num, by omega, take_succ_all HK.out HX.out ht.out, by first | rfl | trivial⟩
              case measure => simp [intOf]; omega
          · have h3 : 159 < c := by omega
            have ht : Hid (winB c = true) := by show _ = _; rw [winB, b0, midB, decide_eq_false (by omega)]; rfl
            clear h2
            go_wp2
            go_roundw
            case rel => exact ⟨k + 1, by go_num, by omega, take_succ_all HK.out HX.out ht.out, by first | rfl | trivial⟩
            case measure => simp [intOf]; omega
        · have h3 : c < 128 := by omega
          have ht : Hid (winB c = true) := by show _ = _; rw [winB, b0, midB, decide_eq_false (by omega)]; rfl
          clear h1
          go_wp2
          go_roundw
          case rel => exact ⟨k + 1, by go_num, by omega, take_succ_all HK.out HX.out ht.out, by first | rfl | trivial⟩
          case measure => simp [intOf]; omega
    · have hq : q = true := by
        rw [← HQ.out]
        have := HK.out
        rw [List.take_of_length_le (by omega)] at this
        exact List.all_eq_true.2 this
      subst hq
      go_wp2
      go_ret
      exact ⟨rfl, hb1⟩
def guessB (m k c h e l w : Bool) : Int :=
  if m = true then 1 else if k = true then 2 else if (c && h) = true then 3 else if (c && e) = true then 4 else if l = true then 5 else if w = true then 6 else 7
theorem guess_b (xs : List Int) : guessN xs = guessB (decide (0 < markN xs)) (mk8 xs) (((ctN xs : Nat) : Int) == 0) (((hiN xs : Nat) : Int) == 0) (((ebad xs : Nat) : Int) == 0) (xs.all latB) (xs.all winB) := by
  have c : ∀ n : Nat, (((n : Nat) : Int) == 0) = decide (n = 0) := fun n => by rw [Bool.eq_iff_iff]; simp
  rw [c, c, c]
  unfold guessN guessB
  simp only [Bool.and_eq_true, decide_eq_true_eq]
theorem rGuess_any (v : Value) (xs : List Int) (w : World) (h : Row w v (ints .u8 xs)) (hg : Rg 0 256 xs) (hl : xs.length ≤ 100000) :
    Calls Tryz.prog 7 #[v] w fun e w' => e = .returned (.int .i64 (guessN xs)) ∧ Below w.heap.size w w' := by
  have hM := fun w' h' => rMark_any v xs w' h' hg
  have hU := fun w' h' => reRead_any v xs w' h' hg (by omega)
  have hC := fun w' h' => rControls_any v xs w' h' hg (by omega)
  have hH := fun w' h' => rHighs_any v xs w' h' (by omega)
  obtain ⟨F, hF2, hF4, hL⟩ : ∃ F : Int → Bool, F 2 = xs.all latB ∧ F 4 = xs.all winB ∧ ∀ (n : Int) (w' : World), n = 2 ∨ n = 4 → Row w' v (ints .u8 xs) → Calls Tryz.prog 26 #[.int .i64 n, v] w' fun e w'' => e = .returned (.bool (F n)) ∧ Below w'.heap.size w' w'' :=
    ⟨fun n => if n = 2 then xs.all latB else xs.all winB, rfl, rfl, fun n w' hn h' => by
      rcases hn with rfl | rfl
      · exact rAll2_any v xs w' h' hg (by omega)
      · exact rAll4_any v xs w' h' hg (by omega)⟩
  have hm := (markN_len xs).1
  have hcp : ∀ a cp, v = .slice a xs.length cp → xs.length ≤ cp := fun a cp hv => by
    obtain ⟨_, _, _, _, hv2, hc9, _⟩ := h.int
    rw [hv2] at hv; cases hv; omega
  obtain ⟨a, b, off, cp, rfl, _⟩ := id h.op
  replace hcp := hcp _ _ rfl
  have hcv : 3 ≤ xs.length → ∀ w', Below w.heap.size w w' → (convert 22 9 (.slice a 3 cp)).run Tryz.prog w' = .ok (.string (strOfNums (xs.take 3))) w' := fun h3 w' hb => by
    have r3 := (h.below hb).pre 3 (by rw [ints_length]; omega)
    rw [ints_take] at r3
    exact rowstr2 _ r3
  have hq : ((strOfNums (xs.take 3)).toList == [239, 187, 191]) = decide (xs.take 3 = [239, 187, 191]) :=
    str_lit (hg.take 3) (by intro x hx; simp at hx; omega) _ (by rw [ByteArray.toList_eq]; rfl)
  rw [guess_b, mk8, ← hq]
  generalize markN xs = M at *
  generalize markB xs = MB at *
  generalize ctN xs = C at *
  generalize hiN xs = H at *
  generalize ebad xs = E at *
  generalize etext xs = ET at *
  generalize eerr xs = EE at *
  generalize strOfNums (xs.take 3) = S at *
  generalize xs.all latB = L at *
  generalize xs.all winB = W at *
  have HM := Lib.hid hM; have HC := Lib.hid hC; have HU := Lib.hid hU; have HH := Lib.hid hH; have HL := Lib.hid hL; have HCV := Lib.hid hcv
  clear hM hC hU hH hL hq hcv
  have hb := Below.refl w.heap.size w
  obtain ⟨p1, h1⟩ : ∃ p, (((C : Nat) : Int) == 0) = p := ⟨_, rfl⟩
  obtain ⟨p2, h2⟩ : ∃ p, (((H : Nat) : Int) == 0) = p := ⟨_, rfl⟩
  obtain ⟨p3, h5⟩ : ∃ p, (((E : Nat) : Int) == 0) = p := ⟨_, rfl⟩
  rw [h1, h2, h5]
  by_cases h3 : 3 ≤ xs.length
  · rw [decide_eq_true h3, Bool.true_and]
    obtain ⟨K, hqS⟩ : ∃ K, (S.toList == [239, 187, 191]) = K := ⟨_, rfl⟩
    rw [hqS]
    rcases hm with rfl | rfl | rfl
    · rcases K with _ | _
      · -- no mark
        rcases p1 with _ | _
        · rcases p2 with _ | _ <;> rcases p3 with _ | _
          all_goals
            rcases L with _ | _
            · rcases W with _ | _
              · go_enter Tryz.func7, Tryz.ntmps7
                go_wp2_with (first | (go_at_call 24; refine (HM.out _ (h.below hb)).mono ?_; rintro e w' ⟨rfl, hw⟩; obtain rfl := hw.symm) | (go_at_call 25; refine (HU.out _ (h.below hb)).mono ?_; rintro e w' ⟨t2, rfl, ho2, hb2⟩; replace hb := below_trans hb hb2; clear hb2 ho2; have cv := HCV.out h3 _ hb) | (go_at_call 14; refine (HH.out _ (h.below hb)).mono ?_; rintro e w' ⟨rfl, hw⟩; obtain rfl := hw.symm) | (go_at_call 12; refine (HC.out _ (h.below hb)).mono ?_; rintro e w' ⟨rfl, hw⟩; obtain rfl := hw.symm) | (go_at_call 26; refine (HL.out _ _ (by first | exact .inl rfl | exact .inr rfl) (h.below hb)).mono ?_; rintro e w' ⟨rfl, hb2⟩; replace hb := below_trans hb hb2; clear hb2))
                go_ret; exact ⟨rfl, hb⟩
              · go_enter Tryz.func7, Tryz.ntmps7
                go_wp2_with (first | (go_at_call 24; refine (HM.out _ (h.below hb)).mono ?_; rintro e w' ⟨rfl, hw⟩; obtain rfl := hw.symm) | (go_at_call 25; refine (HU.out _ (h.below hb)).mono ?_; rintro e w' ⟨t2, rfl, ho2, hb2⟩; replace hb := below_trans hb hb2; clear hb2 ho2; have cv := HCV.out h3 _ hb) | (go_at_call 14; refine (HH.out _ (h.below hb)).mono ?_; rintro e w' ⟨rfl, hw⟩; obtain rfl := hw.symm) | (go_at_call 12; refine (HC.out _ (h.below hb)).mono ?_; rintro e w' ⟨rfl, hw⟩; obtain rfl := hw.symm) | (go_at_call 26; refine (HL.out _ _ (by first | exact .inl rfl | exact .inr rfl) (h.below hb)).mono ?_; rintro e w' ⟨rfl, hb2⟩; replace hb := below_trans hb hb2; clear hb2))
                go_ret; exact ⟨rfl, hb⟩
            · go_enter Tryz.func7, Tryz.ntmps7
              go_wp2_with (first | (go_at_call 24; refine (HM.out _ (h.below hb)).mono ?_; rintro e w' ⟨rfl, hw⟩; obtain rfl := hw.symm) | (go_at_call 25; refine (HU.out _ (h.below hb)).mono ?_; rintro e w' ⟨t2, rfl, ho2, hb2⟩; replace hb := below_trans hb hb2; clear hb2 ho2; have cv := HCV.out h3 _ hb) | (go_at_call 14; refine (HH.out _ (h.below hb)).mono ?_; rintro e w' ⟨rfl, hw⟩; obtain rfl := hw.symm) | (go_at_call 12; refine (HC.out _ (h.below hb)).mono ?_; rintro e w' ⟨rfl, hw⟩; obtain rfl := hw.symm) | (go_at_call 26; refine (HL.out _ _ (by first | exact .inl rfl | exact .inr rfl) (h.below hb)).mono ?_; rintro e w' ⟨rfl, hb2⟩; replace hb := below_trans hb hb2; clear hb2))
              go_ret; exact ⟨rfl, hb⟩
        · rcases p2 with _ | _
          · rcases p3 with _ | _
            · rcases L with _ | _
              · rcases W with _ | _
                · go_enter Tryz.func7, Tryz.ntmps7
                  go_wp2_with (first | (go_at_call 24; refine (HM.out _ (h.below hb)).mono ?_; rintro e w' ⟨rfl, hw⟩; obtain rfl := hw.symm) | (go_at_call 25; refine (HU.out _ (h.below hb)).mono ?_; rintro e w' ⟨t2, rfl, ho2, hb2⟩; replace hb := below_trans hb hb2; clear hb2 ho2; have cv := HCV.out h3 _ hb) | (go_at_call 14; refine (HH.out _ (h.below hb)).mono ?_; rintro e w' ⟨rfl, hw⟩; obtain rfl := hw.symm) | (go_at_call 12; refine (HC.out _ (h.below hb)).mono ?_; rintro e w' ⟨rfl, hw⟩; obtain rfl := hw.symm) | (go_at_call 26; refine (HL.out _ _ (by first | exact .inl rfl | exact .inr rfl) (h.below hb)).mono ?_; rintro e w' ⟨rfl, hb2⟩; replace hb := below_trans hb hb2; clear hb2))
                  go_ret; exact ⟨rfl, hb⟩
                · go_enter Tryz.func7, Tryz.ntmps7
                  go_wp2_with (first | (go_at_call 24; refine (HM.out _ (h.below hb)).mono ?_; rintro e w' ⟨rfl, hw⟩; obtain rfl := hw.symm) | (go_at_call 25; refine (HU.out _ (h.below hb)).mono ?_; rintro e w' ⟨t2, rfl, ho2, hb2⟩; replace hb := below_trans hb hb2; clear hb2 ho2; have cv := HCV.out h3 _ hb) | (go_at_call 14; refine (HH.out _ (h.below hb)).mono ?_; rintro e w' ⟨rfl, hw⟩; obtain rfl := hw.symm) | (go_at_call 12; refine (HC.out _ (h.below hb)).mono ?_; rintro e w' ⟨rfl, hw⟩; obtain rfl := hw.symm) | (go_at_call 26; refine (HL.out _ _ (by first | exact .inl rfl | exact .inr rfl) (h.below hb)).mono ?_; rintro e w' ⟨rfl, hb2⟩; replace hb := below_trans hb hb2; clear hb2))
                  go_ret; exact ⟨rfl, hb⟩
              · go_enter Tryz.func7, Tryz.ntmps7
                go_wp2_with (first | (go_at_call 24; refine (HM.out _ (h.below hb)).mono ?_; rintro e w' ⟨rfl, hw⟩; obtain rfl := hw.symm) | (go_at_call 25; refine (HU.out _ (h.below hb)).mono ?_; rintro e w' ⟨t2, rfl, ho2, hb2⟩; replace hb := below_trans hb hb2; clear hb2 ho2; have cv := HCV.out h3 _ hb) | (go_at_call 14; refine (HH.out _ (h.below hb)).mono ?_; rintro e w' ⟨rfl, hw⟩; obtain rfl := hw.symm) | (go_at_call 12; refine (HC.out _ (h.below hb)).mono ?_; rintro e w' ⟨rfl, hw⟩; obtain rfl := hw.symm) | (go_at_call 26; refine (HL.out _ _ (by first | exact .inl rfl | exact .inr rfl) (h.below hb)).mono ?_; rintro e w' ⟨rfl, hb2⟩; replace hb := below_trans hb hb2; clear hb2))
                go_ret; exact ⟨rfl, hb⟩
            · go_enter Tryz.func7, Tryz.ntmps7
              go_wp2_with (first | (go_at_call 24; refine (HM.out _ (h.below hb)).mono ?_; rintro e w' ⟨rfl, hw⟩; obtain rfl := hw.symm) | (go_at_call 25; refine (HU.out _ (h.below hb)).mono ?_; rintro e w' ⟨t2, rfl, ho2, hb2⟩; replace hb := below_trans hb hb2; clear hb2 ho2; have cv := HCV.out h3 _ hb) | (go_at_call 14; refine (HH.out _ (h.below hb)).mono ?_; rintro e w' ⟨rfl, hw⟩; obtain rfl := hw.symm) | (go_at_call 12; refine (HC.out _ (h.below hb)).mono ?_; rintro e w' ⟨rfl, hw⟩; obtain rfl := hw.symm) | (go_at_call 26; refine (HL.out _ _ (by first | exact .inl rfl | exact .inr rfl) (h.below hb)).mono ?_; rintro e w' ⟨rfl, hb2⟩; replace hb := below_trans hb hb2; clear hb2))
              go_ret; exact ⟨rfl, hb⟩
          · go_enter Tryz.func7, Tryz.ntmps7
            go_wp2_with (first | (go_at_call 24; refine (HM.out _ (h.below hb)).mono ?_; rintro e w' ⟨rfl, hw⟩; obtain rfl := hw.symm) | (go_at_call 25; refine (HU.out _ (h.below hb)).mono ?_; rintro e w' ⟨t2, rfl, ho2, hb2⟩; replace hb := below_trans hb hb2; clear hb2 ho2; have cv := HCV.out h3 _ hb) | (go_at_call 14; refine (HH.out _ (h.below hb)).mono ?_; rintro e w' ⟨rfl, hw⟩; obtain rfl := hw.symm) | (go_at_call 12; refine (HC.out _ (h.below hb)).mono ?_; rintro e w' ⟨rfl, hw⟩; obtain rfl := hw.symm) | (go_at_call 26; refine (HL.out _ _ (by first | exact .inl rfl | exact .inr rfl) (h.below hb)).mono ?_; rintro e w' ⟨rfl, hb2⟩; replace hb := below_trans hb hb2; clear hb2))
            go_ret; exact ⟨rfl, hb⟩
      · go_enter Tryz.func7, Tryz.ntmps7
        go_wp2_with (first | (go_at_call 24; refine (HM.out _ (h.below hb)).mono ?_; rintro e w' ⟨rfl, hw⟩; obtain rfl := hw.symm) | (go_at_call 25; refine (HU.out _ (h.below hb)).mono ?_; rintro e w' ⟨t2, rfl, ho2, hb2⟩; replace hb := below_trans hb hb2; clear hb2 ho2; have cv := HCV.out h3 _ hb) | (go_at_call 14; refine (HH.out _ (h.below hb)).mono ?_; rintro e w' ⟨rfl, hw⟩; obtain rfl := hw.symm) | (go_at_call 12; refine (HC.out _ (h.below hb)).mono ?_; rintro e w' ⟨rfl, hw⟩; obtain rfl := hw.symm) | (go_at_call 26; refine (HL.out _ _ (by first | exact .inl rfl | exact .inr rfl) (h.below hb)).mono ?_; rintro e w' ⟨rfl, hb2⟩; replace hb := below_trans hb hb2; clear hb2))
        go_ret; exact ⟨rfl, hb⟩
    all_goals
      go_enter Tryz.func7, Tryz.ntmps7
      go_wp2_with (first | (go_at_call 24; refine (HM.out _ (h.below hb)).mono ?_; rintro e w' ⟨rfl, hw⟩; obtain rfl := hw.symm) | (go_at_call 25; refine (HU.out _ (h.below hb)).mono ?_; rintro e w' ⟨t2, rfl, ho2, hb2⟩; replace hb := below_trans hb hb2; clear hb2 ho2; have cv := HCV.out h3 _ hb) | (go_at_call 14; refine (HH.out _ (h.below hb)).mono ?_; rintro e w' ⟨rfl, hw⟩; obtain rfl := hw.symm) | (go_at_call 12; refine (HC.out _ (h.below hb)).mono ?_; rintro e w' ⟨rfl, hw⟩; obtain rfl := hw.symm) | (go_at_call 26; refine (HL.out _ _ (by first | exact .inl rfl | exact .inr rfl) (h.below hb)).mono ?_; rintro e w' ⟨rfl, hb2⟩; replace hb := below_trans hb hb2; clear hb2))
      go_ret; exact ⟨rfl, hb⟩
  · rw [decide_eq_false h3, Bool.false_and]
    have h3n : xs.length < 3 := by omega
    clear HCV
    rcases hm with rfl | rfl | rfl
    · -- no mark
      rcases p1 with _ | _
      · rcases p2 with _ | _ <;> rcases p3 with _ | _
        all_goals
          rcases L with _ | _
          · rcases W with _ | _
            · go_enter Tryz.func7, Tryz.ntmps7
              go_wp2_with (first | (go_at_call 24; refine (HM.out _ (h.below hb)).mono ?_; rintro e w' ⟨rfl, hw⟩; obtain rfl := hw.symm) | (go_at_call 25; refine (HU.out _ (h.below hb)).mono ?_; rintro e w' ⟨t2, rfl, ho2, hb2⟩; replace hb := below_trans hb hb2; clear hb2 ho2) | (go_at_call 14; refine (HH.out _ (h.below hb)).mono ?_; rintro e w' ⟨rfl, hw⟩; obtain rfl := hw.symm) | (go_at_call 12; refine (HC.out _ (h.below hb)).mono ?_; rintro e w' ⟨rfl, hw⟩; obtain rfl := hw.symm) | (go_at_call 26; refine (HL.out _ _ (by first | exact .inl rfl | exact .inr rfl) (h.below hb)).mono ?_; rintro e w' ⟨rfl, hb2⟩; replace hb := below_trans hb hb2; clear hb2))
              go_ret; exact ⟨rfl, hb⟩
            · go_enter Tryz.func7, Tryz.ntmps7
              go_wp2_with (first | (go_at_call 24; refine (HM.out _ (h.below hb)).mono ?_; rintro e w' ⟨rfl, hw⟩; obtain rfl := hw.symm) | (go_at_call 25; refine (HU.out _ (h.below hb)).mono ?_; rintro e w' ⟨t2, rfl, ho2, hb2⟩; replace hb := below_trans hb hb2; clear hb2 ho2) | (go_at_call 14; refine (HH.out _ (h.below hb)).mono ?_; rintro e w' ⟨rfl, hw⟩; obtain rfl := hw.symm) | (go_at_call 12; refine (HC.out _ (h.below hb)).mono ?_; rintro e w' ⟨rfl, hw⟩; obtain rfl := hw.symm) | (go_at_call 26; refine (HL.out _ _ (by first | exact .inl rfl | exact .inr rfl) (h.below hb)).mono ?_; rintro e w' ⟨rfl, hb2⟩; replace hb := below_trans hb hb2; clear hb2))
              go_ret; exact ⟨rfl, hb⟩
          · go_enter Tryz.func7, Tryz.ntmps7
            go_wp2_with (first | (go_at_call 24; refine (HM.out _ (h.below hb)).mono ?_; rintro e w' ⟨rfl, hw⟩; obtain rfl := hw.symm) | (go_at_call 25; refine (HU.out _ (h.below hb)).mono ?_; rintro e w' ⟨t2, rfl, ho2, hb2⟩; replace hb := below_trans hb hb2; clear hb2 ho2) | (go_at_call 14; refine (HH.out _ (h.below hb)).mono ?_; rintro e w' ⟨rfl, hw⟩; obtain rfl := hw.symm) | (go_at_call 12; refine (HC.out _ (h.below hb)).mono ?_; rintro e w' ⟨rfl, hw⟩; obtain rfl := hw.symm) | (go_at_call 26; refine (HL.out _ _ (by first | exact .inl rfl | exact .inr rfl) (h.below hb)).mono ?_; rintro e w' ⟨rfl, hb2⟩; replace hb := below_trans hb hb2; clear hb2))
            go_ret; exact ⟨rfl, hb⟩
      · rcases p2 with _ | _
        · rcases p3 with _ | _
          · rcases L with _ | _
            · rcases W with _ | _
              · go_enter Tryz.func7, Tryz.ntmps7
                go_wp2_with (first | (go_at_call 24; refine (HM.out _ (h.below hb)).mono ?_; rintro e w' ⟨rfl, hw⟩; obtain rfl := hw.symm) | (go_at_call 25; refine (HU.out _ (h.below hb)).mono ?_; rintro e w' ⟨t2, rfl, ho2, hb2⟩; replace hb := below_trans hb hb2; clear hb2 ho2) | (go_at_call 14; refine (HH.out _ (h.below hb)).mono ?_; rintro e w' ⟨rfl, hw⟩; obtain rfl := hw.symm) | (go_at_call 12; refine (HC.out _ (h.below hb)).mono ?_; rintro e w' ⟨rfl, hw⟩; obtain rfl := hw.symm) | (go_at_call 26; refine (HL.out _ _ (by first | exact .inl rfl | exact .inr rfl) (h.below hb)).mono ?_; rintro e w' ⟨rfl, hb2⟩; replace hb := below_trans hb hb2; clear hb2))
                go_ret; exact ⟨rfl, hb⟩
              · go_enter Tryz.func7, Tryz.ntmps7
                go_wp2_with (first | (go_at_call 24; refine (HM.out _ (h.below hb)).mono ?_; rintro e w' ⟨rfl, hw⟩; obtain rfl := hw.symm) | (go_at_call 25; refine (HU.out _ (h.below hb)).mono ?_; rintro e w' ⟨t2, rfl, ho2, hb2⟩; replace hb := below_trans hb hb2; clear hb2 ho2) | (go_at_call 14; refine (HH.out _ (h.below hb)).mono ?_; rintro e w' ⟨rfl, hw⟩; obtain rfl := hw.symm) | (go_at_call 12; refine (HC.out _ (h.below hb)).mono ?_; rintro e w' ⟨rfl, hw⟩; obtain rfl := hw.symm) | (go_at_call 26; refine (HL.out _ _ (by first | exact .inl rfl | exact .inr rfl) (h.below hb)).mono ?_; rintro e w' ⟨rfl, hb2⟩; replace hb := below_trans hb hb2; clear hb2))
                go_ret; exact ⟨rfl, hb⟩
            · go_enter Tryz.func7, Tryz.ntmps7
              go_wp2_with (first | (go_at_call 24; refine (HM.out _ (h.below hb)).mono ?_; rintro e w' ⟨rfl, hw⟩; obtain rfl := hw.symm) | (go_at_call 25; refine (HU.out _ (h.below hb)).mono ?_; rintro e w' ⟨t2, rfl, ho2, hb2⟩; replace hb := below_trans hb hb2; clear hb2 ho2) | (go_at_call 14; refine (HH.out _ (h.below hb)).mono ?_; rintro e w' ⟨rfl, hw⟩; obtain rfl := hw.symm) | (go_at_call 12; refine (HC.out _ (h.below hb)).mono ?_; rintro e w' ⟨rfl, hw⟩; obtain rfl := hw.symm) | (go_at_call 26; refine (HL.out _ _ (by first | exact .inl rfl | exact .inr rfl) (h.below hb)).mono ?_; rintro e w' ⟨rfl, hb2⟩; replace hb := below_trans hb hb2; clear hb2))
              go_ret; exact ⟨rfl, hb⟩
          · go_enter Tryz.func7, Tryz.ntmps7
            go_wp2_with (first | (go_at_call 24; refine (HM.out _ (h.below hb)).mono ?_; rintro e w' ⟨rfl, hw⟩; obtain rfl := hw.symm) | (go_at_call 25; refine (HU.out _ (h.below hb)).mono ?_; rintro e w' ⟨t2, rfl, ho2, hb2⟩; replace hb := below_trans hb hb2; clear hb2 ho2) | (go_at_call 14; refine (HH.out _ (h.below hb)).mono ?_; rintro e w' ⟨rfl, hw⟩; obtain rfl := hw.symm) | (go_at_call 12; refine (HC.out _ (h.below hb)).mono ?_; rintro e w' ⟨rfl, hw⟩; obtain rfl := hw.symm) | (go_at_call 26; refine (HL.out _ _ (by first | exact .inl rfl | exact .inr rfl) (h.below hb)).mono ?_; rintro e w' ⟨rfl, hb2⟩; replace hb := below_trans hb hb2; clear hb2))
            go_ret; exact ⟨rfl, hb⟩
        · go_enter Tryz.func7, Tryz.ntmps7
          go_wp2_with (first | (go_at_call 24; refine (HM.out _ (h.below hb)).mono ?_; rintro e w' ⟨rfl, hw⟩; obtain rfl := hw.symm) | (go_at_call 25; refine (HU.out _ (h.below hb)).mono ?_; rintro e w' ⟨t2, rfl, ho2, hb2⟩; replace hb := below_trans hb hb2; clear hb2 ho2) | (go_at_call 14; refine (HH.out _ (h.below hb)).mono ?_; rintro e w' ⟨rfl, hw⟩; obtain rfl := hw.symm) | (go_at_call 12; refine (HC.out _ (h.below hb)).mono ?_; rintro e w' ⟨rfl, hw⟩; obtain rfl := hw.symm) | (go_at_call 26; refine (HL.out _ _ (by first | exact .inl rfl | exact .inr rfl) (h.below hb)).mono ?_; rintro e w' ⟨rfl, hb2⟩; replace hb := below_trans hb hb2; clear hb2))
          go_ret; exact ⟨rfl, hb⟩
    all_goals
      go_enter Tryz.func7, Tryz.ntmps7
      go_wp2_with (first | (go_at_call 24; refine (HM.out _ (h.below hb)).mono ?_; rintro e w' ⟨rfl, hw⟩; obtain rfl := hw.symm) | (go_at_call 25; refine (HU.out _ (h.below hb)).mono ?_; rintro e w' ⟨t2, rfl, ho2, hb2⟩; replace hb := below_trans hb hb2; clear hb2 ho2) | (go_at_call 14; refine (HH.out _ (h.below hb)).mono ?_; rintro e w' ⟨rfl, hw⟩; obtain rfl := hw.symm) | (go_at_call 12; refine (HC.out _ (h.below hb)).mono ?_; rintro e w' ⟨rfl, hw⟩; obtain rfl := hw.symm) | (go_at_call 26; refine (HL.out _ _ (by first | exact .inl rfl | exact .inr rfl) (h.below hb)).mono ?_; rintro e w' ⟨rfl, hb2⟩; replace hb := below_trans hb hb2; clear hb2))
      go_ret; exact ⟨rfl, hb⟩
end Go.Proofs.YtponfaglflmnkaaGreat
namespace Go.Proofs.YtponfaglflmnkaaGreat
open Go.RowKit
set_option maxHeartbeats 4000000
set_option maxRecDepth 100000
theorem rText_any (v : Value) (xs : List Int) (w : World) (h : Row w v (ints .u8 xs)) (hg : Rg 0 256 xs) (hl : xs.length ≤ 9000) :
    Calls Tryz.prog 10 #[v] w fun e w' => ∃ t, e = .returned t ∧ Own w.heap.size 21 w' t (ints .i32 (guessT xs)) ∧ Below w.heap.size w w' := by
  have hG := rGuess_any v xs w h hg (by omega)
  have hA := fun w' h' => rAuto_any v xs w' h' hg (by omega)
  have hR := fun v2 w' h' => reRead_any v2 (xs.drop 3) w' h' (hg.drop _) (by rw [List.length_drop]; omega)
  have h1 := fun w' h' => rRead13_any 1 v xs w' h' hg (by omega)
  have h5 := fun w' h' => rRead13_any 5 v xs w' h' hg (by omega)
  have h2 := fun w' h' => rRead13_any 2 v xs w' h' hg (by omega)
  have h4 := fun w' h' => rRead13_any 4 v xs w' h' hg (by omega)
  obtain ⟨a, b2, off, cp, rfl, _⟩ := id h.op
  have HG := Lib.hid hG; have HA := Lib.hid hA; have HR := Lib.hid hR; have H1 := Lib.hid h1; have H5 := Lib.hid h5; have H2 := Lib.hid h2; have H4 := Lib.hid h4
  clear hG hA hR h1 h5 h2 h4
  rcases guess_cases xs with ⟨hn, ht⟩ | ⟨hn, hl3, ht⟩ | ⟨hn, ht⟩ | ⟨hn, ht⟩ | ⟨hn, ht⟩ | ⟨hn, ht⟩ | ⟨hn, ht⟩
  · have hG := HG.out; rw [hn] at hG; rw [ht]
    replace hG := Lib.hid hG
    clear HG hn ht
    go_enter Tryz.func10, Tryz.ntmps10
    go_wp2_with (first | (go_at_call 7; refine (hG.out).mono ?_; rintro e w1 ⟨rfl, hb1⟩) | (go_at_call 30; refine (HA.out _ (h.below hb1)).mono ?_; rintro e w2 ⟨t2, rfl, ho2, hb2⟩))
    go_ret; exact ⟨_, rfl, ho2.mono hb1.size, below_trans hb1 hb2⟩
  · have hG := HG.out; rw [hn] at hG; rw [ht]
    replace hG := Lib.hid hG
    clear HG hn ht
    go_enter Tryz.func10, Tryz.ntmps10
    go_wp2_with (first | (go_at_call 7; refine (hG.out).mono ?_; rintro e w1 ⟨rfl, hb1⟩) | (refine wpList_slL slT_u8 _ _ rfl rfl rfl rfl (h.below hb1) (by omega) (by simp [ints]; omega) ?_; intro v3 hv3; have r3 : Row w1 v3 (ints .u8 (xs.drop 3)) := (by have := hv3 w1 (h.below hb1); rw [ints_drop] at this; exact this); clear hv3) | (go_at_call 25; refine (HR.out _ _ r3).mono ?_; rintro e w2 ⟨t2, rfl, ho2, hb2⟩))
    go_ret; exact ⟨_, rfl, ho2.mono hb1.size, below_trans hb1 hb2⟩
  · have hG := HG.out; rw [hn] at hG; rw [ht]
    replace hG := Lib.hid hG
    clear HG hn ht
    go_enter Tryz.func10, Tryz.ntmps10
    go_wp2_with (first | (go_at_call 7; refine (hG.out).mono ?_; rintro e w1 ⟨rfl, hb1⟩) | (go_at_call 31; refine (H1.out _ (h.below hb1)).mono ?_; rintro e w2 ⟨t2, rfl, ho2, hb2⟩))
    go_ret; exact ⟨_, rfl, ho2.mono hb1.size, below_trans hb1 hb2⟩
  · have hG := HG.out; rw [hn] at hG; rw [ht]
    replace hG := Lib.hid hG
    clear HG hn ht
    go_enter Tryz.func10, Tryz.ntmps10
    go_wp2_with (first | (go_at_call 7; refine (hG.out).mono ?_; rintro e w1 ⟨rfl, hb1⟩) | (go_at_call 31; refine (H5.out _ (h.below hb1)).mono ?_; rintro e w2 ⟨t2, rfl, ho2, hb2⟩))
    go_ret; exact ⟨_, rfl, ho2.mono hb1.size, below_trans hb1 hb2⟩
  · have hG := HG.out; rw [hn] at hG; rw [ht]
    replace hG := Lib.hid hG
    clear HG hn ht
    go_enter Tryz.func10, Tryz.ntmps10
    go_wp2_with (first | (go_at_call 7; refine (hG.out).mono ?_; rintro e w1 ⟨rfl, hb1⟩) | (go_at_call 31; refine (H2.out _ (h.below hb1)).mono ?_; rintro e w2 ⟨t2, rfl, ho2, hb2⟩))
    go_ret; exact ⟨_, rfl, ho2.mono hb1.size, below_trans hb1 hb2⟩
  · have hG := HG.out; rw [hn] at hG; rw [ht]
    replace hG := Lib.hid hG
    clear HG hn ht
    go_enter Tryz.func10, Tryz.ntmps10
    go_wp2_with (first | (go_at_call 7; refine (hG.out).mono ?_; rintro e w1 ⟨rfl, hb1⟩) | (go_at_call 31; refine (H4.out _ (h.below hb1)).mono ?_; rintro e w2 ⟨t2, rfl, ho2, hb2⟩))
    go_ret; exact ⟨_, rfl, ho2.mono hb1.size, below_trans hb1 hb2⟩
  · have hG := HG.out; rw [hn] at hG; rw [ht]
    replace hG := Lib.hid hG
    clear HG hn ht
    go_enter Tryz.func10, Tryz.ntmps10
    go_wp2_with (first | (go_at_call 7; refine (hG.out).mono ?_; rintro e w1 ⟨rfl, hb1⟩) | (go_at_call 31; refine (H2.out _ (h.below hb1)).mono ?_; rintro e w2 ⟨t2, rfl, ho2, hb2⟩))
    go_ret; exact ⟨_, rfl, ho2.mono hb1.size, below_trans hb1 hb2⟩
end Go.Proofs.YtponfaglflmnkaaGreat
