/- Walks: guesses, by the program. · Walks: the text by the guess, by the program; what the reference counts. (laid together by program out of single texts). -/
import Derived.ChangeKeysEq
import Derived.Test.YtponfaglflmnkaaGreatM8
import Derived.Test.YtponfaglflmnkaaGreatM20
import Derived.Test.YtponfaglflmnkaaGreatM26
import Derived.Test.YtponfaglflmnkaaGreatM30
namespace Go.Proofs.YtponfaglflmnkaaGreat
open Go.RowKit
set_option maxHeartbeats 4000000
set_option maxRecDepth 100000
theorem take3 {xs : List Int} (hl : 3 ≤ xs.length) {x y z : Int} (h0 : xs[0]? = some x) (h1 : xs[1]? = some y) (h2 : xs[2]? = some z) : xs.take 3 = [x, y, z] := by
  rcases xs with _ | ⟨a, _ | ⟨b, _ | ⟨c, r⟩⟩⟩
  · simp at hl
  · simp at hl
  · simp at hl
  · simp at h0 h1 h2
    simp [h0, h1, h2]
set_option linter.unusedSimpArgs false in
theorem eq3 (x y z a b c : Int) (w : World) : (Op.equalIn 10000 55 (.agg #[.int .u8 x, .int .u8 y, .int .u8 z]) (.agg #[.int .u8 a, .int .u8 b, .int .u8 c])).run Tryz.prog w = .ok (decide ([x, y, z] = [a, b, c])) w := by
  have he : Tryz.prog.plainKey 5 = true := by kernel_rfl
  have hc : Tryz.prog.cellsOf 5 = 1 := by kernel_rfl
  obtain ⟨i, hi⟩ := info_of_underlying Tryz.underlying5
  rw [run_equalIn_array w 9999 _ _ Tryz.underlying55 hi, hc]
  have hr : List.range 3 = [0, 1, 2] := rfl
  rw [hr]
  have p0 : ∀ (u v t : Int), (part 5 #[.int .u8 u, .int .u8 v, .int .u8 t] 0).run Tryz.prog w = .ok (.int .u8 u) w := fun u v t => run_part_plain w he rfl
  have p1 : ∀ (u v t : Int), (part 5 #[.int .u8 u, .int .u8 v, .int .u8 t] 1).run Tryz.prog w = .ok (.int .u8 v) w := fun u v t => run_part_plain w he rfl
  have p2 : ∀ (u v t : Int), (part 5 #[.int .u8 u, .int .u8 v, .int .u8 t] 2).run Tryz.prog w = .ok (.int .u8 t) w := fun u v t => run_part_plain w he rfl
  have q : ∀ (u v : Int), (Op.equalIn 9999 5 (.int .u8 u) (.int .u8 v)).run Tryz.prog w = .ok (u == v) w := fun u v => run_equalIn_int w 9998 _ _ _ _ _ Tryz.underlying5
  simp only [Op.eqItems, Sem.run_bind, Nat.mul_one, p0, p1, p2, q, Result.andThen_ok]
  by_cases h0 : x = a
  · by_cases h1 : y = b
    · by_cases h2 : z = c
      · simp [h0, h1, h2, Sem.run_pure, Sem.run_bind, p0, p1, p2, q]
      · simp [h0, h1, h2, Sem.run_pure, Sem.run_bind, p0, p1, p2, q]
    · simp [h0, h1, Sem.run_pure, Sem.run_bind, p0, p1, p2, q]
  · simp [h0, Sem.run_pure, Sem.run_bind, p0, p1, p2, q]
theorem sMarked_any (v : Value) (xs : List Int) (w : World) (h : Row w v (ints .u8 xs)) :
    Calls Tryz.prog 20 #[v] w fun e w' => e = .returned (.bool (mk8 xs)) ∧ w' = w := by
  by_cases hl : 3 ≤ xs.length
  · have hcp : ∀ a cp, v = .slice a xs.length cp → 3 ≤ cp := fun a cp hv => by
      obtain ⟨_, _, _, _, hv2, hc9, _⟩ := h.int
      rw [hv2] at hv; cases hv; omega
    obtain ⟨a, b, off, cp, rfl, HC⟩ := h.op
    replace hcp := hcp _ _ rfl
    obtain ⟨x0, hx0, rfl, hc0⟩ := HC.out 0 (by omega)
    obtain ⟨x1, hx1, _, hc1⟩ := HC.out 1 (by omega)
    obtain ⟨x2, hx2, _, hc2⟩ := HC.out 2 (by omega)
    have hk : mk8 xs = decide ([x0, x1, x2] = [239, 187, 191]) := by
      rw [mk8, take3 hl hx0.out hx1.out hx2.out, decide_eq_true hl, Bool.true_and]
    rw [hk]
    have hA2 : (Instr.arrayAt 55 (.slice (some ⟨b, off, none⟩) 3 cp)).run Tryz.prog w = .ok (.pointer (some ⟨b, off, none⟩)) w := run_arrayAt w 55 5 3 _ 3 cp Tryz.underlying55 (Nat.le_refl _)
    replace hc0 := hc0 w (Below.refl _ _)
    replace hc1 := hc1 w (Below.refl _ _)
    replace hc2 := hc2 w (Below.refl _ _)
    simp only [Nat.add_zero] at hc0
    clear hk HC hx0 hx1 hx2 h
    have hE := eq3 x0 x1 x2 239 187 191 w
    generalize decide ([x0, x1, x2] = [239, 187, 191]) = q at *
    go_enter Tryz.func20, Tryz.ntmps20
    go_wp2
    go_ret
    exact ⟨rfl, rfl⟩
  · have hk : mk8 xs = false := by rw [mk8, decide_eq_false hl]; rfl
    rw [hk]
    obtain ⟨a, b, off, cp, rfl, _⟩ := h.op
    have hl2 : xs.length < 3 := by omega
    go_enter Tryz.func20, Tryz.ntmps20
    go_wp2
    go_ret
    exact ⟨rfl, rfl⟩
theorem sGuess_any (v : Value) (xs : List Int) (w : World) (h : Row w v (ints .u8 xs)) (hg : Rg 0 256 xs) (hl : xs.length ≤ 100000) :
    Calls Tryz.prog 6 #[v] w fun e w' => e = .returned (.int .i64 (guessN xs)) ∧ Below w.heap.size w w' := by
  have hM := fun w' h' => wMark_any v xs w' h' hg hl
  have hC := fun w' h' => sControls_any v xs w' h' hg (by omega)
  have hK := fun w' h' => sMarked_any v xs w' h'
  have hH := fun w' h' => sHighs_any v xs w' h' (by omega)
  have hE := fun w' h' => eRight_any v xs w' h' hg (by omega)
  have hL := fun w' h' => sLatin_any v xs w' h' (by omega)
  have hW := fun w' h' => sWindows_any v xs w' h' hg (by omega)
  have hm := (markN_len xs).1
  unfold guessN
  generalize markN xs = M at *
  generalize markB xs = MB at *
  generalize ctN xs = C at *
  generalize hiN xs = H at *
  generalize ebad xs = E at *
  generalize mk8 xs = K at *
  generalize xs.all latB = L at *
  generalize xs.all winB = W at *
  have HM := Lib.hid hM; have HC := Lib.hid hC; have HK := Lib.hid hK; have HH := Lib.hid hH; have HE := Lib.hid hE; have HL := Lib.hid hL; have HW := Lib.hid hW
  clear hM hC hK hH hE hL hW
  have hb := Below.refl w.heap.size w
  rcases hm with rfl | rfl | rfl
  · rw [if_neg (by decide)]
    rcases K with _ | _
    · rw [if_neg (by decide)]
      by_cases hC0 : C = 0
      · subst hC0
        by_cases hH0 : H = 0
        · subst hH0
          rw [if_pos ⟨rfl, rfl⟩]
          go_enter Tryz.func6, Tryz.ntmps6
          go_wp2_with (first | (go_at_call 19; refine (HM.out _ (h.below hb)).mono ?_; rintro e w' ⟨rfl, hb2⟩; replace hb := below_trans hb hb2; clear hb2) | (go_at_call 11; refine (HC.out _ (h.below hb)).mono ?_; rintro e w' ⟨rfl, hb2⟩; replace hb := below_trans hb hb2; clear hb2) | (go_at_call 20; refine (HK.out _ (h.below hb)).mono ?_; rintro e w' ⟨rfl, hw⟩; obtain rfl := hw.symm) | (go_at_call 13; refine (HH.out _ (h.below hb)).mono ?_; rintro e w' ⟨rfl, hw⟩; obtain rfl := hw.symm) | (go_at_call 21; refine (HE.out _ (h.below hb)).mono ?_; rintro e w' ⟨rfl, hb2⟩; replace hb := below_trans hb hb2; clear hb2) | (go_at_call 22; refine (HL.out _ (h.below hb)).mono ?_; rintro e w' ⟨rfl, hw⟩; obtain rfl := hw.symm) | (go_at_call 23; refine (HW.out _ (h.below hb)).mono ?_; rintro e w' ⟨rfl, hb2⟩; replace hb := below_trans hb hb2; clear hb2))
          go_ret; exact ⟨rfl, hb⟩
        · have bH : (((H : Nat) : Int) == 0) = false := beq_false_of_ne (by omega)
          rw [if_neg (by omega)]
          by_cases hE0 : E = 0
          · subst hE0
            rw [if_pos ⟨rfl, rfl⟩]
            have bE : ((((0 : Nat) : Nat) : Int) == 0) = true := rfl
            rw [bE] at HE
            clear hH0 bE
            go_enter Tryz.func6, Tryz.ntmps6
            go_wp2_with (first | (go_at_call 19; refine (HM.out _ (h.below hb)).mono ?_; rintro e w' ⟨rfl, hb2⟩; replace hb := below_trans hb hb2; clear hb2) | (go_at_call 11; refine (HC.out _ (h.below hb)).mono ?_; rintro e w' ⟨rfl, hb2⟩; replace hb := below_trans hb hb2; clear hb2) | (go_at_call 20; refine (HK.out _ (h.below hb)).mono ?_; rintro e w' ⟨rfl, hw⟩; obtain rfl := hw.symm) | (go_at_call 13; refine (HH.out _ (h.below hb)).mono ?_; rintro e w' ⟨rfl, hw⟩; obtain rfl := hw.symm) | (go_at_call 21; refine (HE.out _ (h.below hb)).mono ?_; rintro e w' ⟨rfl, hb2⟩; replace hb := below_trans hb hb2; clear hb2) | (go_at_call 22; refine (HL.out _ (h.below hb)).mono ?_; rintro e w' ⟨rfl, hw⟩; obtain rfl := hw.symm) | (go_at_call 23; refine (HW.out _ (h.below hb)).mono ?_; rintro e w' ⟨rfl, hb2⟩; replace hb := below_trans hb hb2; clear hb2))
            go_ret; exact ⟨rfl, hb⟩
          · have bE : (((E : Nat) : Int) == 0) = false := beq_false_of_ne (by omega)
            rw [if_neg (by omega)]
            rw [bE] at HE
            clear hH0 hE0 bE
            rcases L with _ | _
            · rcases W with _ | _
              · go_enter Tryz.func6, Tryz.ntmps6
                go_wp2_with (first | (go_at_call 19; refine (HM.out _ (h.below hb)).mono ?_; rintro e w' ⟨rfl, hb2⟩; replace hb := below_trans hb hb2; clear hb2) | (go_at_call 11; refine (HC.out _ (h.below hb)).mono ?_; rintro e w' ⟨rfl, hb2⟩; replace hb := below_trans hb hb2; clear hb2) | (go_at_call 20; refine (HK.out _ (h.below hb)).mono ?_; rintro e w' ⟨rfl, hw⟩; obtain rfl := hw.symm) | (go_at_call 13; refine (HH.out _ (h.below hb)).mono ?_; rintro e w' ⟨rfl, hw⟩; obtain rfl := hw.symm) | (go_at_call 21; refine (HE.out _ (h.below hb)).mono ?_; rintro e w' ⟨rfl, hb2⟩; replace hb := below_trans hb hb2; clear hb2) | (go_at_call 22; refine (HL.out _ (h.below hb)).mono ?_; rintro e w' ⟨rfl, hw⟩; obtain rfl := hw.symm) | (go_at_call 23; refine (HW.out _ (h.below hb)).mono ?_; rintro e w' ⟨rfl, hb2⟩; replace hb := below_trans hb hb2; clear hb2))
                go_ret; exact ⟨rfl, hb⟩
              · go_enter Tryz.func6, Tryz.ntmps6
                go_wp2_with (first | (go_at_call 19; refine (HM.out _ (h.below hb)).mono ?_; rintro e w' ⟨rfl, hb2⟩; replace hb := below_trans hb hb2; clear hb2) | (go_at_call 11; refine (HC.out _ (h.below hb)).mono ?_; rintro e w' ⟨rfl, hb2⟩; replace hb := below_trans hb hb2; clear hb2) | (go_at_call 20; refine (HK.out _ (h.below hb)).mono ?_; rintro e w' ⟨rfl, hw⟩; obtain rfl := hw.symm) | (go_at_call 13; refine (HH.out _ (h.below hb)).mono ?_; rintro e w' ⟨rfl, hw⟩; obtain rfl := hw.symm) | (go_at_call 21; refine (HE.out _ (h.below hb)).mono ?_; rintro e w' ⟨rfl, hb2⟩; replace hb := below_trans hb hb2; clear hb2) | (go_at_call 22; refine (HL.out _ (h.below hb)).mono ?_; rintro e w' ⟨rfl, hw⟩; obtain rfl := hw.symm) | (go_at_call 23; refine (HW.out _ (h.below hb)).mono ?_; rintro e w' ⟨rfl, hb2⟩; replace hb := below_trans hb hb2; clear hb2))
                go_ret; exact ⟨rfl, hb⟩
            · go_enter Tryz.func6, Tryz.ntmps6
              go_wp2_with (first | (go_at_call 19; refine (HM.out _ (h.below hb)).mono ?_; rintro e w' ⟨rfl, hb2⟩; replace hb := below_trans hb hb2; clear hb2) | (go_at_call 11; refine (HC.out _ (h.below hb)).mono ?_; rintro e w' ⟨rfl, hb2⟩; replace hb := below_trans hb hb2; clear hb2) | (go_at_call 20; refine (HK.out _ (h.below hb)).mono ?_; rintro e w' ⟨rfl, hw⟩; obtain rfl := hw.symm) | (go_at_call 13; refine (HH.out _ (h.below hb)).mono ?_; rintro e w' ⟨rfl, hw⟩; obtain rfl := hw.symm) | (go_at_call 21; refine (HE.out _ (h.below hb)).mono ?_; rintro e w' ⟨rfl, hb2⟩; replace hb := below_trans hb hb2; clear hb2) | (go_at_call 22; refine (HL.out _ (h.below hb)).mono ?_; rintro e w' ⟨rfl, hw⟩; obtain rfl := hw.symm) | (go_at_call 23; refine (HW.out _ (h.below hb)).mono ?_; rintro e w' ⟨rfl, hb2⟩; replace hb := below_trans hb hb2; clear hb2))
              go_ret; exact ⟨rfl, hb⟩
      · have bC : (((C : Nat) : Int) == 0) = false := beq_false_of_ne (by omega)
        rw [if_neg (by omega), if_neg (by omega)]
        clear hC0
        rcases L with _ | _
        · rcases W with _ | _
          · go_enter Tryz.func6, Tryz.ntmps6
            go_wp2_with (first | (go_at_call 19; refine (HM.out _ (h.below hb)).mono ?_; rintro e w' ⟨rfl, hb2⟩; replace hb := below_trans hb hb2; clear hb2) | (go_at_call 11; refine (HC.out _ (h.below hb)).mono ?_; rintro e w' ⟨rfl, hb2⟩; replace hb := below_trans hb hb2; clear hb2) | (go_at_call 20; refine (HK.out _ (h.below hb)).mono ?_; rintro e w' ⟨rfl, hw⟩; obtain rfl := hw.symm) | (go_at_call 13; refine (HH.out _ (h.below hb)).mono ?_; rintro e w' ⟨rfl, hw⟩; obtain rfl := hw.symm) | (go_at_call 21; refine (HE.out _ (h.below hb)).mono ?_; rintro e w' ⟨rfl, hb2⟩; replace hb := below_trans hb hb2; clear hb2) | (go_at_call 22; refine (HL.out _ (h.below hb)).mono ?_; rintro e w' ⟨rfl, hw⟩; obtain rfl := hw.symm) | (go_at_call 23; refine (HW.out _ (h.below hb)).mono ?_; rintro e w' ⟨rfl, hb2⟩; replace hb := below_trans hb hb2; clear hb2))
            go_ret; exact ⟨rfl, hb⟩
          · go_enter Tryz.func6, Tryz.ntmps6
            go_wp2_with (first | (go_at_call 19; refine (HM.out _ (h.below hb)).mono ?_; rintro e w' ⟨rfl, hb2⟩; replace hb := below_trans hb hb2; clear hb2) | (go_at_call 11; refine (HC.out _ (h.below hb)).mono ?_; rintro e w' ⟨rfl, hb2⟩; replace hb := below_trans hb hb2; clear hb2) | (go_at_call 20; refine (HK.out _ (h.below hb)).mono ?_; rintro e w' ⟨rfl, hw⟩; obtain rfl := hw.symm) | (go_at_call 13; refine (HH.out _ (h.below hb)).mono ?_; rintro e w' ⟨rfl, hw⟩; obtain rfl := hw.symm) | (go_at_call 21; refine (HE.out _ (h.below hb)).mono ?_; rintro e w' ⟨rfl, hb2⟩; replace hb := below_trans hb hb2; clear hb2) | (go_at_call 22; refine (HL.out _ (h.below hb)).mono ?_; rintro e w' ⟨rfl, hw⟩; obtain rfl := hw.symm) | (go_at_call 23; refine (HW.out _ (h.below hb)).mono ?_; rintro e w' ⟨rfl, hb2⟩; replace hb := below_trans hb hb2; clear hb2))
            go_ret; exact ⟨rfl, hb⟩
        · go_enter Tryz.func6, Tryz.ntmps6
          go_wp2_with (first | (go_at_call 19; refine (HM.out _ (h.below hb)).mono ?_; rintro e w' ⟨rfl, hb2⟩; replace hb := below_trans hb hb2; clear hb2) | (go_at_call 11; refine (HC.out _ (h.below hb)).mono ?_; rintro e w' ⟨rfl, hb2⟩; replace hb := below_trans hb hb2; clear hb2) | (go_at_call 20; refine (HK.out _ (h.below hb)).mono ?_; rintro e w' ⟨rfl, hw⟩; obtain rfl := hw.symm) | (go_at_call 13; refine (HH.out _ (h.below hb)).mono ?_; rintro e w' ⟨rfl, hw⟩; obtain rfl := hw.symm) | (go_at_call 21; refine (HE.out _ (h.below hb)).mono ?_; rintro e w' ⟨rfl, hb2⟩; replace hb := below_trans hb hb2; clear hb2) | (go_at_call 22; refine (HL.out _ (h.below hb)).mono ?_; rintro e w' ⟨rfl, hw⟩; obtain rfl := hw.symm) | (go_at_call 23; refine (HW.out _ (h.below hb)).mono ?_; rintro e w' ⟨rfl, hb2⟩; replace hb := below_trans hb hb2; clear hb2))
          go_ret; exact ⟨rfl, hb⟩
    · rw [if_pos rfl]
      go_enter Tryz.func6, Tryz.ntmps6
      go_wp2_with (first | (go_at_call 19; refine (HM.out _ (h.below hb)).mono ?_; rintro e w' ⟨rfl, hb2⟩; replace hb := below_trans hb hb2; clear hb2) | (go_at_call 11; refine (HC.out _ (h.below hb)).mono ?_; rintro e w' ⟨rfl, hb2⟩; replace hb := below_trans hb hb2; clear hb2) | (go_at_call 20; refine (HK.out _ (h.below hb)).mono ?_; rintro e w' ⟨rfl, hw⟩; obtain rfl := hw.symm) | (go_at_call 13; refine (HH.out _ (h.below hb)).mono ?_; rintro e w' ⟨rfl, hw⟩; obtain rfl := hw.symm) | (go_at_call 21; refine (HE.out _ (h.below hb)).mono ?_; rintro e w' ⟨rfl, hb2⟩; replace hb := below_trans hb hb2; clear hb2) | (go_at_call 22; refine (HL.out _ (h.below hb)).mono ?_; rintro e w' ⟨rfl, hw⟩; obtain rfl := hw.symm) | (go_at_call 23; refine (HW.out _ (h.below hb)).mono ?_; rintro e w' ⟨rfl, hb2⟩; replace hb := below_trans hb hb2; clear hb2))
      go_ret; exact ⟨rfl, hb⟩
  · rw [if_pos (by decide)]
    go_enter Tryz.func6, Tryz.ntmps6
    go_wp2_with (first | (go_at_call 19; refine (HM.out _ (h.below hb)).mono ?_; rintro e w' ⟨rfl, hb2⟩; replace hb := below_trans hb hb2; clear hb2) | (go_at_call 11; refine (HC.out _ (h.below hb)).mono ?_; rintro e w' ⟨rfl, hb2⟩; replace hb := below_trans hb hb2; clear hb2) | (go_at_call 20; refine (HK.out _ (h.below hb)).mono ?_; rintro e w' ⟨rfl, hw⟩; obtain rfl := hw.symm) | (go_at_call 13; refine (HH.out _ (h.below hb)).mono ?_; rintro e w' ⟨rfl, hw⟩; obtain rfl := hw.symm) | (go_at_call 21; refine (HE.out _ (h.below hb)).mono ?_; rintro e w' ⟨rfl, hb2⟩; replace hb := below_trans hb hb2; clear hb2) | (go_at_call 22; refine (HL.out _ (h.below hb)).mono ?_; rintro e w' ⟨rfl, hw⟩; obtain rfl := hw.symm) | (go_at_call 23; refine (HW.out _ (h.below hb)).mono ?_; rintro e w' ⟨rfl, hb2⟩; replace hb := below_trans hb hb2; clear hb2))
    go_ret; exact ⟨rfl, hb⟩
  · rw [if_pos (by decide)]
    go_enter Tryz.func6, Tryz.ntmps6
    go_wp2_with (first | (go_at_call 19; refine (HM.out _ (h.below hb)).mono ?_; rintro e w' ⟨rfl, hb2⟩; replace hb := below_trans hb hb2; clear hb2) | (go_at_call 11; refine (HC.out _ (h.below hb)).mono ?_; rintro e w' ⟨rfl, hb2⟩; replace hb := below_trans hb hb2; clear hb2) | (go_at_call 20; refine (HK.out _ (h.below hb)).mono ?_; rintro e w' ⟨rfl, hw⟩; obtain rfl := hw.symm) | (go_at_call 13; refine (HH.out _ (h.below hb)).mono ?_; rintro e w' ⟨rfl, hw⟩; obtain rfl := hw.symm) | (go_at_call 21; refine (HE.out _ (h.below hb)).mono ?_; rintro e w' ⟨rfl, hb2⟩; replace hb := below_trans hb hb2; clear hb2) | (go_at_call 22; refine (HL.out _ (h.below hb)).mono ?_; rintro e w' ⟨rfl, hw⟩; obtain rfl := hw.symm) | (go_at_call 23; refine (HW.out _ (h.below hb)).mono ?_; rintro e w' ⟨rfl, hb2⟩; replace hb := below_trans hb hb2; clear hb2))
    go_ret; exact ⟨rfl, hb⟩
end Go.Proofs.YtponfaglflmnkaaGreat
namespace Go.Proofs.YtponfaglflmnkaaGreat
open Go.RowKit
set_option maxHeartbeats 4000000
set_option maxRecDepth 100000
theorem guess_cases (xs : List Int) : (guessN xs = 1 ∧ guessT xs = autoT xs) ∨ (guessN xs = 2 ∧ 3 ≤ xs.length ∧ guessT xs = etext (xs.drop 3)) ∨ (guessN xs = 3 ∧ guessT xs = creadL 1 xs) ∨ (guessN xs = 4 ∧ guessT xs = creadL 5 xs) ∨ (guessN xs = 5 ∧ guessT xs = creadL 2 xs) ∨ (guessN xs = 6 ∧ guessT xs = creadL 4 xs) ∨ (guessN xs = 7 ∧ guessT xs = creadL 2 xs) := by
  have hm : guessN xs = 2 → 3 ≤ xs.length := fun h => by
    unfold guessN at h
    split at h
    · cases h
    · split at h
      · rename_i _ h2
        rw [mk8, Bool.and_eq_true] at h2
        exact of_decide_eq_true h2.1
      · split at h
        · cases h
        · split at h
          · cases h
          · split at h
            · cases h
            · split at h <;> cases h
  have hr : guessN xs = 1 ∨ guessN xs = 2 ∨ guessN xs = 3 ∨ guessN xs = 4 ∨ guessN xs = 5 ∨ guessN xs = 6 ∨ guessN xs = 7 := by
    unfold guessN
    split
    · simp
    · split
      · simp
      · split
        · simp
        · split
          · simp
          · split
            · simp
            · split <;> simp
  rcases hr with h | h | h | h | h | h | h <;> simp [guessT, h, hm]
theorem sText_any (v : Value) (xs : List Int) (w : World) (h : Row w v (ints .u8 xs)) (hg : Rg 0 256 xs) (hl : xs.length ≤ 9000) :
    Calls Tryz.prog 9 #[v] w fun e w' => ∃ t, e = .returned t ∧ Own w.heap.size 21 w' t (ints .i32 (guessT xs)) ∧ Below w.heap.size w w' := by
  have hG := sGuess_any v xs w h hg (by omega)
  have hA := fun w' h' => wAuto_any v xs w' h' hg (by omega)
  have hR := fun v2 w' h' => eRead_any v2 (xs.drop 3) w' h' (hg.drop _) (by rw [List.length_drop]; omega)
  have h1 := fun w' h' => cRead_any 1 v xs w' h' hg (by omega)
  have h5 := fun w' h' => cRead_any 5 v xs w' h' hg (by omega)
  have h2 := fun w' h' => cRead_any 2 v xs w' h' hg (by omega)
  have h4 := fun w' h' => cRead_any 4 v xs w' h' hg (by omega)
  obtain ⟨a, b2, off, cp, rfl, _⟩ := id h.op
  have HG := Lib.hid hG; have HA := Lib.hid hA; have HR := Lib.hid hR; have H1 := Lib.hid h1; have H5 := Lib.hid h5; have H2 := Lib.hid h2; have H4 := Lib.hid h4
  clear hG hA hR h1 h5 h2 h4
  rcases guess_cases xs with ⟨hn, ht⟩ | ⟨hn, hl3, ht⟩ | ⟨hn, ht⟩ | ⟨hn, ht⟩ | ⟨hn, ht⟩ | ⟨hn, ht⟩ | ⟨hn, ht⟩
  · have hG := HG.out; rw [hn] at hG; rw [ht]
    replace hG := Lib.hid hG
    clear HG hn ht
    go_enter Tryz.func9, Tryz.ntmps9
    go_wp2_with (first | (go_at_call 6; refine (hG.out).mono ?_; rintro e w1 ⟨rfl, hb1⟩) | (go_at_call 27; refine (HA.out _ (h.below hb1)).mono ?_; rintro e w2 ⟨t2, rfl, ho2, hb2⟩))
    go_ret; exact ⟨_, rfl, ho2.mono hb1.size, below_trans hb1 hb2⟩
  · have hG := HG.out; rw [hn] at hG; rw [ht]
    replace hG := Lib.hid hG
    clear HG hn ht
    go_enter Tryz.func9, Tryz.ntmps9
    go_wp2_with (first | (go_at_call 6; refine (hG.out).mono ?_; rintro e w1 ⟨rfl, hb1⟩) | (refine wpList_slL slT_u8 _ _ rfl rfl rfl rfl (h.below hb1) (by omega) (by simp [ints]; omega) ?_; intro v3 hv3; have r3 : Row w1 v3 (ints .u8 (xs.drop 3)) := (by have := hv3 w1 (h.below hb1); rw [ints_drop] at this; exact this); clear hv3) | (go_at_call 28; refine (HR.out _ _ r3).mono ?_; rintro e w2 ⟨t2, rfl, ho2, hb2⟩))
    go_ret; exact ⟨_, rfl, ho2.mono hb1.size, below_trans hb1 hb2⟩
  · have hG := HG.out; rw [hn] at hG; rw [ht]
    replace hG := Lib.hid hG
    clear HG hn ht
    go_enter Tryz.func9, Tryz.ntmps9
    go_wp2_with (first | (go_at_call 6; refine (hG.out).mono ?_; rintro e w1 ⟨rfl, hb1⟩) | (go_at_call 29; refine (H1.out _ (h.below hb1)).mono ?_; rintro e w2 ⟨t2, rfl, ho2, hb2⟩))
    go_ret; exact ⟨_, rfl, ho2.mono hb1.size, below_trans hb1 hb2⟩
  · have hG := HG.out; rw [hn] at hG; rw [ht]
    replace hG := Lib.hid hG
    clear HG hn ht
    go_enter Tryz.func9, Tryz.ntmps9
    go_wp2_with (first | (go_at_call 6; refine (hG.out).mono ?_; rintro e w1 ⟨rfl, hb1⟩) | (go_at_call 29; refine (H5.out _ (h.below hb1)).mono ?_; rintro e w2 ⟨t2, rfl, ho2, hb2⟩))
    go_ret; exact ⟨_, rfl, ho2.mono hb1.size, below_trans hb1 hb2⟩
  · have hG := HG.out; rw [hn] at hG; rw [ht]
    replace hG := Lib.hid hG
    clear HG hn ht
    go_enter Tryz.func9, Tryz.ntmps9
    go_wp2_with (first | (go_at_call 6; refine (hG.out).mono ?_; rintro e w1 ⟨rfl, hb1⟩) | (go_at_call 29; refine (H2.out _ (h.below hb1)).mono ?_; rintro e w2 ⟨t2, rfl, ho2, hb2⟩))
    go_ret; exact ⟨_, rfl, ho2.mono hb1.size, below_trans hb1 hb2⟩
  · have hG := HG.out; rw [hn] at hG; rw [ht]
    replace hG := Lib.hid hG
    clear HG hn ht
    go_enter Tryz.func9, Tryz.ntmps9
    go_wp2_with (first | (go_at_call 6; refine (hG.out).mono ?_; rintro e w1 ⟨rfl, hb1⟩) | (go_at_call 29; refine (H4.out _ (h.below hb1)).mono ?_; rintro e w2 ⟨t2, rfl, ho2, hb2⟩))
    go_ret; exact ⟨_, rfl, ho2.mono hb1.size, below_trans hb1 hb2⟩
  · have hG := HG.out; rw [hn] at hG; rw [ht]
    replace hG := Lib.hid hG
    clear HG hn ht
    go_enter Tryz.func9, Tryz.ntmps9
    go_wp2_with (first | (go_at_call 6; refine (hG.out).mono ?_; rintro e w1 ⟨rfl, hb1⟩) | (go_at_call 29; refine (H2.out _ (h.below hb1)).mono ?_; rintro e w2 ⟨t2, rfl, ho2, hb2⟩))
    go_ret; exact ⟨_, rfl, ho2.mono hb1.size, below_trans hb1 hb2⟩
theorem kind_ctl : ∀ n : Fin 256, (bits .and .i64 (kindN (n.val : Int)) 1 != 0) = isCtl (n.val : Int) := by decide +kernel
theorem ris1_any (c : Int) (w : World) (h0 : 0 ≤ c) (h1 : c < 256) :
    Calls Tryz.prog 34 #[.int .u8 c, .int .i64 1] w fun e w' => e = .returned (.bool (isCtl c)) ∧ w' = w := by
  have hk := rkinds_any c w h0 h1
  have hi : (bits .and .i64 (kindN c) 1 != 0) = isCtl c := by
    have := kind_ctl ⟨c.toNat, by omega⟩
    simp only [Int.toNat_of_nonneg h0] at this
    exact this
  generalize isCtl c = A at *
  generalize kindN c = K at *
  have HK := Lib.hid hk; clear hk
  have HI := Lib.hid hi; clear hi
  go_enter Tryz.func34, Tryz.ntmps34
  go_wp2_with (go_at_call 60; refine (HK.out).mono ?_; rintro e w' ⟨rfl, hw⟩; obtain rfl := hw.symm)
  go_ret
  exact ⟨ret_bool HI.out, rfl⟩
theorem rHighs_any (v : Value) (xs : List Int) (w : World) (h : Row w v (ints .u8 xs)) (hl : xs.length ≤ 1000000) :
    Calls Tryz.prog 14 #[v] w fun e w' => e = .returned (.int .i64 (hiN xs : Nat)) ∧ w' = w := by
  obtain ⟨a, b, off, cp, rfl, HC⟩ := h.op
  obtain ⟨q, HQ⟩ : ∃ q : Nat, Hid (hiN xs = q) := ⟨_, rfl⟩
  rw [HQ.out]
  go_enter Tryz.func14, Tryz.ntmps14
  go_wp2
  go_loopw [3, 4] (fun n i wr => ∃ (k m : Nat), i = .int .i64 k ∧ n = .int .i64 m ∧ k ≤ xs.length ∧ m ≤ k ∧ Hid (hiN (xs.take k) = m) ∧ wr = w) (fun _ i _ => xs.length - (intOf i).toNat)
  case atStart => exact ⟨0, 0, rfl, rfl, Nat.zero_le _, Nat.le_refl _, rfl, rfl⟩
  case round =>
    obtain ⟨k, m, rfl, rfl, hk, hmk, HK, hw0⟩ := hrel
    obtain rfl := hw0.symm
    by_cases hlt : k < xs.length
    · obtain ⟨c, HX, rfl, hc⟩ := HC.out k hlt
      replace hc := hc _ (Below.refl _ _)
      have hs : hiN (xs.take (k + 1)) = hiN (xs.take k) + (if decide (128 ≤ c) then 1 else 0) := cnt_snoc (p := fun c => decide (128 ≤ c)) HX.out
      rw [HK.out] at hs
      have HS := Lib.hid hs
      clear hs
      by_cases h1 : 128 ≤ c
      · have HT := Lib.hid (HS.out.trans (by rw [decide_eq_true h1]; rfl : _ = m + 1))
        have h1' : 127 < c := by omega
        go_wp2
        go_roundw
        case rel => exact ⟨k + 1, m + 1, by go_num, by go_num, by omega, by omega, HT.out, by first | rfl | trivial⟩
        case measure => simp [intOf]; omega
      · have HT := Lib.hid (HS.out.trans (by rw [decide_eq_false h1]; rfl : _ = m))
        have h1' : c ≤ 127 := by omega
        go_wp2
        go_roundw
        case rel => exact ⟨k + 1, m, by go_num, rfl, by omega, by omega, HT.out, by first | rfl | trivial⟩
        case measure => simp [intOf]; omega
    · have hq : m = q := by
        rw [← HQ.out, ← HK.out, List.take_of_length_le (by omega)]
      subst hq
      go_wp2
      go_ret
      exact ⟨rfl, rfl⟩
theorem rControls_any (v : Value) (xs : List Int) (w : World) (h : Row w v (ints .u8 xs)) (hg : Rg 0 256 xs) (hl : xs.length ≤ 1000000) :
    Calls Tryz.prog 12 #[v] w fun e w' => e = .returned (.int .i64 (ctN xs : Nat)) ∧ w' = w := by
  obtain ⟨a, b, off, cp, rfl, HC⟩ := h.op
  obtain ⟨q, HQ⟩ : ∃ q : Nat, Hid (ctN xs = q) := ⟨_, rfl⟩
  rw [HQ.out]
  go_enter Tryz.func12, Tryz.ntmps12
  go_wp2
  go_loopw [3, 4] (fun n i wr => ∃ (k m : Nat), i = .int .i64 k ∧ n = .int .i64 m ∧ k ≤ xs.length ∧ m ≤ k ∧ Hid (ctN (xs.take k) = m) ∧ wr = w) (fun _ i _ => xs.length - (intOf i).toNat)
  case atStart => exact ⟨0, 0, rfl, rfl, Nat.zero_le _, Nat.le_refl _, rfl, rfl⟩
  case round =>
    obtain ⟨k, m, rfl, rfl, hk, hmk, HK, hw0⟩ := hrel
    obtain rfl := hw0.symm
    by_cases hlt : k < xs.length
    · obtain ⟨c, HX, rfl, hc⟩ := HC.out k hlt
      replace hc := hc _ (Below.refl _ _)
      have hcr := hg.get HX.out
      have hs : ctN (xs.take (k + 1)) = ctN (xs.take k) + (if ctB c then 1 else 0) := cnt_snoc (p := ctB) HX.out
      rw [HK.out, ctB] at hs
      have hi1 := fun w => ris1_any c w hcr.1 hcr.2
      generalize isCtl c = C at *
      have HS := Lib.hid hs; have HI := Lib.hid hi1
      clear hs hi1
      rcases C with _ | _
      · go_wp2_with (first | (go_at_call 34; refine (HI.out _).mono ?_; rintro e w' ⟨rfl, hw⟩; obtain rfl := hw.symm))
        go_roundw
        case rel => exact ⟨k + 1, m, by go_num, rfl, by omega, by omega, HS.out, by first | rfl | trivial⟩
        case measure => simp [intOf]; omega
      · rcases (by omega : c = 9 ∨ c = 10 ∨ c = 13 ∨ (c ≠ 9 ∧ c ≠ 10 ∧ c ≠ 13)) with rfl | rfl | rfl | ⟨h9, h10, h13⟩
        · go_wp2_with (first | (go_at_call 34; refine (HI.out _).mono ?_; rintro e w' ⟨rfl, hw⟩; obtain rfl := hw.symm))
          go_roundw
          case rel => exact ⟨k + 1, m, by go_num, rfl, by omega, by omega, HS.out, by first | rfl | trivial⟩
          case measure => simp [intOf]; omega
        · go_wp2_with (first | (go_at_call 34; refine (HI.out _).mono ?_; rintro e w' ⟨rfl, hw⟩; obtain rfl := hw.symm))
          go_roundw
          case rel => exact ⟨k + 1, m, by go_num, rfl, by omega, by omega, HS.out, by first | rfl | trivial⟩
          case measure => simp [intOf]; omega
        · go_wp2_with (first | (go_at_call 34; refine (HI.out _).mono ?_; rintro e w' ⟨rfl, hw⟩; obtain rfl := hw.symm))
          go_roundw
          case rel => exact ⟨k + 1, m, by go_num, rfl, by omega, by omega, HS.out, by first | rfl | trivial⟩
          case measure => simp [intOf]; omega
        · have b9 : (c != 9) = true := by simpa using h9
          have b10 : (c != 10) = true := by simpa using h10
          have b13 : (c != 13) = true := by simpa using h13
          have HT : Hid (ctN (xs.take (k + 1)) = m + 1) := by show _ = _; rw [HS.out, b9, b10, b13]; rfl
          clear h9 h10 h13 HS
          go_wp2_with (first | (go_at_call 34; refine (HI.out _).mono ?_; rintro e w' ⟨rfl, hw⟩; obtain rfl := hw.symm))
          go_roundw
          case rel => exact ⟨k + 1, m + 1, by go_num, by go_num, by omega, by omega, HT.out, by first | rfl | trivial⟩
          case measure => simp [intOf]; omega
    · have hq : m = q := by
        rw [← HQ.out, ← HK.out, List.take_of_length_le (by omega)]
      subst hq
      go_wp2
      go_ret
      exact ⟨rfl, rfl⟩
end Go.Proofs.YtponfaglflmnkaaGreat
