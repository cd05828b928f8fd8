/- Plain: wide texts: back. -/
import Derived.Test.YtgfdebijcpdhbaaS45c
namespace Go.Proofs.Ytgfdebijcpdhbaa
theorem sw2_sw2 : ∀ l : List Int, sw2 (sw2 l) = l
  | [] => rfl
  | [_] => rfl
  | x :: y :: r => by rw [sw2, sw2, sw2_sw2 r]
theorem sw4_sw4 : ∀ l : List Int, sw4 (sw4 l) = l
  | [] => rfl
  | [_] => rfl
  | [_, _] => rfl
  | [_, _, _] => rfl
  | x :: y :: z :: t :: r => by rw [sw4, sw4, sw4_sw4 r]
theorem sw_sw (wd : Int) (l : List Int) : sw wd (sw wd l) = l := by
  unfold sw
  split
  · exact sw4_sw4 l
  · split
    · exact sw2_sw2 l
    · rfl
theorem num_grp2 : ∀ l : List Int, Rg 0 65536 l → num2 (l.flatMap (grp 2 true)) = l
  | [], _ => rfl
  | n :: l, h => by
    have h1 := h.cons
    have ih := num_grp2 l h1.2
    rw [List.flatMap_cons]
    show num2 (n / 256 % 256 :: n % 256 :: l.flatMap (grp 2 true)) = _
    rw [num2, ih]
    congr 1
    omega
theorem num_grp4 : ∀ l : List Int, Rg 0 4294967296 l → num4 (l.flatMap (grp 4 true)) = l
  | [], _ => rfl
  | n :: l, h => by
    have h1 := h.cons
    have ih := num_grp4 l h1.2
    rw [List.flatMap_cons]
    show num4 (n / 16777216 % 256 :: n / 65536 % 256 :: n / 256 % 256 :: n % 256 :: l.flatMap (grp 4 true)) = _
    rw [num4, ih]
    congr 1
    omega
theorem grp_num2 : ∀ l : List Int, Rg 0 256 l → l.length % 2 = 0 → (num2 l).flatMap (grp 2 true) = l
  | [], _, _ => rfl
  | [_], _, h => by simp at h
  | x :: y :: r, h, hm => by
    have h1 := h.cons
    have h2 := h1.2.cons
    have ih := grp_num2 r h2.2 (by simp only [List.length_cons] at hm; omega)
    rw [num2, List.flatMap_cons, ih]
    show [(x * 256 + y) / 256 % 256, (x * 256 + y) % 256] ++ r = _
    rw [show (x * 256 + y) / 256 % 256 = x by omega, show (x * 256 + y) % 256 = y by omega]
    rfl
theorem grp_num4 : ∀ l : List Int, Rg 0 256 l → l.length % 4 = 0 → (num4 l).flatMap (grp 4 true) = l
  | [], _, _ => rfl
  | [_], _, h => by simp at h
  | [_, _], _, h => by simp at h
  | [_, _, _], _, h => by simp at h
  | x :: y :: z :: t :: r, h, hm => by
    have h1 := h.cons
    have h2 := h1.2.cons
    have h3 := h2.2.cons
    have h4 := h3.2.cons
    have ih := grp_num4 r h4.2 (by simp only [List.length_cons] at hm; omega)
    rw [num4, List.flatMap_cons, ih]
    show [(((x * 256 + y) * 256 + z) * 256 + t) / 16777216 % 256, (((x * 256 + y) * 256 + z) * 256 + t) / 65536 % 256, (((x * 256 + y) * 256 + z) * 256 + t) / 256 % 256, (((x * 256 + y) * 256 + z) * 256 + t) % 256] ++ r = _
    rw [show (((x * 256 + y) * 256 + z) * 256 + t) / 16777216 % 256 = x by omega, show (((x * 256 + y) * 256 + z) * 256 + t) / 65536 % 256 = y by omega, show (((x * 256 + y) * 256 + z) * 256 + t) / 256 % 256 = z by omega, show (((x * 256 + y) * 256 + z) * 256 + t) % 256 = t by omega]
    rfl
theorem numW_wide {wd : Int} (hw : wd = 2 ∨ wd = 4) {t : List Int} (h : allSc t = true) : numW wd (wideL wd true t) = wnum wd t := by
  have hr := wnum_rng (wd := wd) h
  rcases hw with rfl | rfl
  · exact num_grp2 _ (hr.2 rfl)
  · exact num_grp4 _ hr.1
theorem big1_wide {wd : Int} (hw : wd = 2 ∨ wd = 4) (big : Bool) (t : List Int) : big1 wd big (wideL wd big t) = wideL wd true t := by
  cases big with
  | true => rfl
  | false =>
    show sw wd (wideL wd false t) = _
    rw [← sw_wide hw, sw_sw]
theorem text_wnum {wd : Int} (hw : wd = 2 ∨ wd = 4) {t : List Int} (h : allSc t = true) : textW wd (wnum wd t) = t ∧ rightW wd (wnum wd t) = true := by
  rcases hw with rfl | rfl
  · have e : uread (ulayL t) = t.map fun c => (c, 0) := uread_ulay t h
    refine ⟨?_, ?_⟩
    · show (uread (ulayL t)).map Prod.fst = t
      rw [e, List.map_map]; exact (List.map_congr_left fun _ _ => rfl).trans (List.map_id _)
    · show (ferr ((uread (ulayL t)).map Prod.snd) == 0) = true
      rw [e, List.map_map, ferr_all (fun y hy => by obtain ⟨c, _, rfl⟩ := List.mem_map.1 hy; rfl)]; rfl
  · refine ⟨?_, h⟩
    show t.map fix4 = t
    exact (List.map_congr_left fun c hc => by show fix4 c = id c; rw [fix4, List.all_eq_true.1 h c hc]; rfl).trans (List.map_id _)
theorem grp_len_eq {wd : Int} (hw : wd = 2 ∨ wd = 4) (big : Bool) (n : Int) : (grp wd big n).length = wd.toNat := by
  rcases hw with rfl | rfl <;> cases big <;> rfl
theorem flat_len_eq {f : Int → List Int} {k : Nat} (h : ∀ n, (f n).length = k) : ∀ l : List Int, (l.flatMap f).length = k * l.length
  | [] => by simp
  | x :: l => by
    have := flat_len_eq h l
    rw [List.flatMap_cons, List.length_append, this, h x, List.length_cons, Nat.mul_succ, Nat.add_comm]
theorem over_wide {wd : Int} (hw : wd = 2 ∨ wd = 4) (big : Bool) (t : List Int) : overW wd (wideL wd big t) = false := by
  rw [overW, wideL, flat_len_eq (grp_len_eq hw big), Nat.mul_mod_right]; rfl
/-- What is laid is read. -/
theorem read_wide {wd : Int} (hw : wd = 2 ∨ wd = 4) (big : Bool) {t : List Int} (h : allSc t = true) : readT wd big (wideL wd big t) = t ∧ readE wd big (wideL wd big t) = 0 := by
  have h1 := text_wnum hw h
  rw [readT, readE, if_pos hw, if_pos hw, over_wide hw, big1_wide hw, numW_wide hw h, h1.1, h1.2]
  exact ⟨rfl, rfl⟩
theorem wnum_text {wd : Int} (hw : wd = 2 ∨ wd = 4) {L : List Int} (hg : wd = 2 → Rg 0 65536 L) (h : rightW wd L = true) : wnum wd (textW wd L) = L ∧ allSc (textW wd L) = true := by
  rcases hw with rfl | rfl
  · have hf : ferr ((uread L).map Prod.snd) = 0 := by
      have h9 : (ferr ((uread L).map Prod.snd) == 0) = true := h
      simpa using h9
    exact ⟨(uread_right (hg rfl)).1 hf, uread_sc (hg rfl)⟩
  · have h9 : L.all scB = true := h
    have e : L.map fix4 = L := (List.map_congr_left fun c hc => by show fix4 c = id c; rw [fix4, List.all_eq_true.1 h9 c hc]; rfl).trans (List.map_id _)
    refine ⟨?_, ?_⟩
    · show L.map fix4 = L
      exact e
    · show allSc (L.map fix4) = true
      rw [e]; exact h9
/-- Octets that are right are laid as they were. -/
theorem wide_read {wd : Int} (hw : wd = 2 ∨ wd = 4) (big : Bool) {s : List Int} (hg : Rg 0 256 s) (h : readE wd big s = 0) : allSc (readT wd big s) = true ∧ wideL wd big (readT wd big s) = s := by
  rw [readE, if_pos hw] at h
  cases ho : overW wd s with
  | true => rw [ho] at h; cases h
  | false =>
    rw [ho] at h
    cases hr : rightW wd (numW wd (big1 wd big s)) with
    | false => rw [hr] at h; cases h
    | true =>
      have hbg : Rg 0 256 (big1 wd big s) := big1_rng hg
      have h1 := wnum_text hw (numW_rng hbg).2 hr
      have e : readT wd big s = textW wd (numW wd (big1 wd big s)) := by rw [readT, if_pos hw, ho]; rfl
      have hlen : (big1 wd big s).length % wd.toNat = 0 := by
        rw [big1_len]
        have := of_decide_eq_false ho
        omega
      have e2 : wideL wd true (textW wd (numW wd (big1 wd big s))) = big1 wd big s := by
        rw [wideL, h1.1]
        rcases hw with rfl | rfl
        · exact grp_num2 _ hbg hlen
        · exact grp_num4 _ hbg hlen
      rw [e]
      refine ⟨h1.2, ?_⟩
      cases big with
      | true => exact e2
      | false =>
        rw [← sw_wide hw, e2]
        exact sw_sw wd s
theorem uof_head {c : Int} (h : scB c = true) (h0 : c ≠ 0) : ∃ u r, uof c = u :: r ∧ 0 < u ∧ u < 65536 := by
  have hc := scB_iff.1 h
  rw [uof, if_pos h]
  split
  · exact ⟨c, [], rfl, by omega, by omega⟩
  · exact ⟨_, _, rfl, by omega, by omega⟩
/-- With a mark it is read by that. -/
theorem auto_marked {wd : Int} (hw : wd = 2 ∨ wd = 4) (big : Bool) {t : List Int} (h : allSc t = true) (hodd : ¬ (wd = 2 ∧ big = false ∧ ∃ r, t = 0 :: r)) : autoT (wideL wd big (65279 :: t)) = t := by
  have hm : markN (wideL wd big (65279 :: t)) = wd ∧ markB (wideL wd big (65279 :: t)) = big := by
    rcases hw with rfl | rfl <;> cases big
    · -- two, little
      have e : wideL 2 false (65279 :: t) = 255 :: 254 :: wideL 2 false t := rfl
      have h4l : mk4l (wideL 2 false (65279 :: t)) = false := by
        rw [e]
        refine decide_eq_false fun h9 => ?_
        cases t with
        | nil => simp [wideL, wnum, ulayL] at h9
        | cons c r =>
          have hc : scB c = true := List.all_eq_true.1 h c List.mem_cons_self
          have hc0 : c ≠ 0 := fun h8 => hodd ⟨rfl, rfl, r, by rw [h8]⟩
          obtain ⟨u, q, hu, hu0, hu1⟩ := uof_head hc hc0
          have e3 : wideL 2 false (c :: r) = u % 256 :: u / 256 % 256 :: (q ++ ulayL r).flatMap (grp 2 false) := by
            show (ulayL (c :: r)).flatMap (grp 2 false) = _
            rw [ulayL_cons, hu]; rfl
          rw [e3] at h9
          simp only [List.take_succ_cons, List.take_zero, List.cons.injEq, and_true, true_and] at h9
          omega
      have h4b : mk4b (wideL 2 false (65279 :: t)) = false := by
        rw [e]; refine decide_eq_false fun h9 => ?_
        simp at h9
      have h2b : mk2b (wideL 2 false (65279 :: t)) = false := by
        rw [e]; refine decide_eq_false fun h9 => ?_
        simp at h9
      have h2l : mk2l (wideL 2 false (65279 :: t)) = true := by rw [e]; exact decide_eq_true rfl
      rw [markN, markB, h4b, h4l, h2b, h2l]; exact ⟨rfl, rfl⟩
    · have e : wideL 2 true (65279 :: t) = 254 :: 255 :: wideL 2 true t := rfl
      have h4l : mk4l (wideL 2 true (65279 :: t)) = false := by
        rw [e]; refine decide_eq_false fun h9 => ?_
        simp at h9
      have h4b : mk4b (wideL 2 true (65279 :: t)) = false := by
        rw [e]; refine decide_eq_false fun h9 => ?_
        simp at h9
      have h2b : mk2b (wideL 2 true (65279 :: t)) = true := by rw [e]; exact decide_eq_true rfl
      rw [markN, markB, h4b, h4l, h2b]; exact ⟨rfl, rfl⟩
    · have e : wideL 4 false (65279 :: t) = 255 :: 254 :: 0 :: 0 :: wideL 4 false t := rfl
      have h4l : mk4l (wideL 4 false (65279 :: t)) = true := by rw [e]; exact decide_eq_true rfl
      have h4b : mk4b (wideL 4 false (65279 :: t)) = false := by
        rw [e]; refine decide_eq_false fun h9 => ?_
        simp at h9
      rw [markN, markB, h4b, h4l]; exact ⟨rfl, rfl⟩
    · have e : wideL 4 true (65279 :: t) = 0 :: 0 :: 254 :: 255 :: wideL 4 true t := rfl
      have h4b : mk4b (wideL 4 true (65279 :: t)) = true := by rw [e]; exact decide_eq_true rfl
      rw [markN, markB, h4b]; exact ⟨rfl, rfl⟩
  have hd : (wideL wd big (65279 :: t)).drop wd.toNat = wideL wd big t := by
    rcases hw with rfl | rfl <;> cases big <;> rfl
  rw [autoT, hm.1, hm.2, hd, if_neg (by omega), (read_wide hw big h).1]
end Go.Proofs.Ytgfdebijcpdhbaa
