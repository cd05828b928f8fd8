/- Walks: UTF-8, one sign: the reference's octets; how far octets are well formed. · Walks: UTF-8, taking one sign. · Walks: UTF-8, the reference's taking; subparts; the statements' own example. (laid together by program out of single texts). -/
import Derived.Test.YtponfaglflmnkaaGreatM21
namespace Go.Proofs.YtponfaglflmnkaaGreat
open Go.RowKit
set_option maxHeartbeats 1000000

theorem roct_any (c : Int) (w : World) (h0 : -2147483648 ≤ c) (h1 : c ≤ 2147483647) :
    Calls Tryz.prog 36 #[.int .i32 c] w fun e w' => ∃ v, e = .returned v ∧ Own w.heap.size 5 w' v (ints .u8 (octs c)) ∧ Below w.heap.size w w' := by
  by_cases hs : scB c = true
  · have hb := scB_iff.1 hs
    by_cases h2 : c < 128
    · have ho : octs c = [c] := by rw [octs, if_pos hs, if_pos h2]
      have HO := Lib.hid ho; clear ho
      go_enter Tryz.func36, Tryz.ntmps36
      go_wp2_with (go_at_call 35; refine (ris_any _ _).mono ?_; rintro e w' ⟨rfl, rfl⟩)
      go_ret
      exact ⟨_, rfl, Own.ilit _ [_] (by rw [HO.out]; rfl) (Nat.le_refl _) (by simp), below_alloc _ _⟩
    · by_cases h3 : c < 2048
      · have ho : octs c = [192 + c / 64, 128 + c % 64] := by rw [octs, if_pos hs, if_neg h2, if_pos h3]
        have HO := Lib.hid ho; clear ho
        go_enter Tryz.func36, Tryz.ntmps36
        go_wp2_with (go_at_call 35; refine (ris_any _ _).mono ?_; rintro e w' ⟨rfl, rfl⟩)
        go_ret
        exact ⟨_, rfl, Own.ilit _ [_, _] (by rw [HO.out]; rfl) (Nat.le_refl _) (by simp), below_alloc _ _⟩
      · by_cases h4 : c < 65536
        · have ho : octs c = [224 + c / 4096, 128 + c / 64 % 64, 128 + c % 64] := by rw [octs, if_pos hs, if_neg h2, if_neg h3, if_pos h4]
          have HO := Lib.hid ho; clear ho
          go_enter Tryz.func36, Tryz.ntmps36
          go_wp2_with (go_at_call 35; refine (ris_any _ _).mono ?_; rintro e w' ⟨rfl, rfl⟩)
          go_ret
          exact ⟨_, rfl, Own.ilit _ [_, _, _] (by rw [HO.out]; rfl) (Nat.le_refl _) (by simp), below_alloc _ _⟩
        · have ho : octs c = [240 + c / 262144, 128 + c / 4096 % 64, 128 + c / 64 % 64, 128 + c % 64] := by rw [octs, if_pos hs, if_neg h2, if_neg h3, if_neg h4]
          have HO := Lib.hid ho; clear ho
          go_enter Tryz.func36, Tryz.ntmps36
          go_wp2_with (go_at_call 35; refine (ris_any _ _).mono ?_; rintro e w' ⟨rfl, rfl⟩)
          go_ret
          exact ⟨_, rfl, Own.ilit _ [_, _, _, _] (by rw [HO.out]; rfl) (Nat.le_refl _) (by simp), below_alloc _ _⟩
  · have ho : octs c = [] := by rw [octs, if_neg hs]
    rw [ho]
    replace hs : scB c = false := by simpa using hs
    clear ho
    go_enter Tryz.func36, Tryz.ntmps36
    go_wp2_with (go_at_call 35; refine (ris_any _ _).mono ?_; rintro e w' ⟨rfl, rfl⟩)
    go_ret
    exact ⟨_, rfl, Own.nil _ _ _, Below.refl _ _⟩

theorem farL_go {a y : Int} {j : Nat} {r : List Int} (h1 : (j : Int) < wideI a) (h2 : okAt a j y = true) : farL a j (y :: r) = farL a (j + 1) r := by
  rw [farL, if_pos ⟨h1, h2⟩]
theorem farL_stop {a : Int} {j : Nat} {r : List Int} (h1 : ¬ (j : Int) < wideI a) : farL a j r = j := by
  cases r with
  | nil => rfl
  | cons y r => rw [farL, if_neg (by omega)]
theorem farL_bad {a y : Int} {j : Nat} {r : List Int} (h2 : okAt a j y = false) : farL a j (y :: r) = j := by
  rw [farL, if_neg (by simp [h2])]
/-- Places in a row behind its first. -/
theorem drop_cons {a : Int} {r : List Int} {j : Nat} (hj : 1 ≤ j) {y : Int} (h : (a :: r)[j]? = some y) : r.drop (j - 1) = y :: r.drop j := by
  obtain ⟨k, rfl⟩ : ∃ k, j = k + 1 := ⟨j - 1, by omega⟩
  rw [List.getElem?_cons_succ] at h
  obtain ⟨hk, rfl⟩ := List.getElem?_eq_some_iff.1 h
  rw [Nat.add_sub_cancel, List.drop_eq_getElem_cons hk]

set_option maxRecDepth 100000 in
theorem ofar_any (v : Value) (a : Int) (r : List Int) (w : World) (h : Row w v (ints .u8 (a :: r))) (hg : Rg 0 256 (a :: r)) (hl : (a :: r).length ≤ 1000000) :
    Calls Tryz.prog 98 #[v] w fun e w' => e = .returned (.int .i64 (far (a :: r))) ∧ Below w.heap.size w w' := by
  obtain ⟨ad, b, off, cap, rfl, HC⟩ := h.op
  clear h
  obtain ⟨⟨ha0, ha1⟩, _⟩ := hg.cons
  obtain ⟨a', HA, rfl, hca⟩ := HC.out 0 (by simp)
  obtain rfl : a = a' := by simpa using HA.out
  have HCA := Lib.hid hca; clear hca HA
  have hwr := wideI_rng a
  have hfb := farL_bounds a r 1
  by_cases hw0 : wideI a = 0
  · have hf : far (a :: r) = 0 := by simp [far, hw0]
    rw [hf]
    have hc0 : w.cell? ⟨b, off, none⟩ = some (.int .u8 a) := by simpa using HCA.out w (Below.refl _ _)
    have hst := fun w => oStarts_any a w ha0 ha1
    rw [hw0] at hst
    have HS := Lib.hid hst; clear hst hw0 hwr hfb hf
    go_enter Tryz.func98, Tryz.ntmps98
    go_wp2
    go_loopw [3] (fun n wr => n = .int .i64 1 ∧ wr = w) (fun _ _ => 0)
    case atStart => exact ⟨rfl, rfl⟩
    case round =>
      obtain ⟨rfl, rfl⟩ := hrel
      go_wp2_with (go_at_call 99; refine (HS.out _).mono ?_; rintro e w' ⟨rfl, rfl⟩)
      go_ret
      exact ⟨ret_int rfl, Below.refl _ _⟩
  · have hf : far (a :: r) = farL a 1 r := by simp [far, hw0]
    rw [hf]
    have hmin : (farL a 1 r : Int) ≤ wideI a := hfb.2.2 (by omega)
    obtain ⟨q, hq⟩ : ∃ q, wideI a = q := ⟨_, rfl⟩
    have hst := fun w => oStarts_any a w ha0 ha1
    rw [hq] at hst hmin hwr hw0
    have hq1 : 1 ≤ q := by omega
    have HS := Lib.hid hst; have HQ := Lib.hid hq; have HM := Lib.hid hmin; clear hst hq hmin hf hfb hw0
    go_enter Tryz.func98, Tryz.ntmps98
    go_wp2
    go_loopw [3] (fun n wr => ∃ k : Nat, n = .int .i64 k ∧ 1 ≤ k ∧ k ≤ (a :: r).length ∧ (k : Int) ≤ q ∧ Hid (farL a 1 r = farL a k (r.drop (k - 1))) ∧ Below w.heap.size w wr) (fun n _ => (a :: r).length - (intOf n).toNat)
    case atStart => exact ⟨1, rfl, Nat.le_refl _, by simp, by omega, rfl, Below.refl _ _⟩
    case round =>
      obtain ⟨k, rfl, hk1, hk2, hk3, HF, hb⟩ := hrel
      have hc0 : wr.cell? ⟨b, off, none⟩ = some (.int .u8 a) := by simpa using HCA.out wr hb
      by_cases hlt : (k : Int) < q
      · by_cases hll : k < (a :: r).length
        · obtain ⟨y, HY, _, hcy⟩ := HC.out k hll
          have hc1 := hcy wr hb
          have hyr := hg.get HY.out
          have HD := Lib.hid (drop_cons hk1 HY.out)
          have hlt' : (k : Int) < (r.length : Int) + 1 := by simp only [List.length_cons] at hll; omega
          by_cases hfy : folB y = true
          · by_cases hk : k = 1
            · subst hk
              by_cases hsy : secB a y = true
              · go_wp2_with (go_at_call 99; refine (HS.out _).mono ?_; rintro e w' ⟨rfl, rfl⟩)
                go_quiet ((first | (go_at_call 123; exact quiet_same (oFollows_any _ _ hyr.1 hyr.2)) | (go_at_call 124; exact quiet_same (osecond_any _ _ _ ha0 ha1 hyr.1 hyr.2))))
                go_wp2
                go_roundw
                case rel => exact ⟨2, rfl, by omega, by omega, by omega, by rw [show Hid (farL a 1 r = farL a 2 (r.drop (2 - 1))) = (farL a 1 r = farL a 2 (r.drop (2 - 1))) from rfl, HF.out, HD.out, farL_go (by rw [HQ.out]; exact hlt) (by simp [okAt, hsy])], below_drewN hb _⟩
                case measure => simp [intOf]; omega
              · replace hsy : secB a y = false := by simpa using hsy
                go_wp2_with (go_at_call 99; refine (HS.out _).mono ?_; rintro e w' ⟨rfl, rfl⟩)
                go_quiet ((first | (go_at_call 123; exact quiet_same (oFollows_any _ _ hyr.1 hyr.2)) | (go_at_call 124; exact quiet_same (osecond_any _ _ _ ha0 ha1 hyr.1 hyr.2))))
                go_wp2
                go_ret
                exact ⟨ret_int (by rw [HF.out, HD.out, farL_bad (by simp [okAt, hsy])]; rfl), below_drewN hb _⟩
            · have hk1' : ((k : Int) == 1) = false := by rw [beq_eq_false_iff_ne]; omega
              have HK := Lib.hid hk; clear hk
              go_wp2_with (go_at_call 99; refine (HS.out _).mono ?_; rintro e w' ⟨rfl, rfl⟩)
              go_quiet ((first | (go_at_call 123; exact quiet_same (oFollows_any _ _ hyr.1 hyr.2)) | (go_at_call 124; exact quiet_same (osecond_any _ _ _ ha0 ha1 hyr.1 hyr.2))))
              go_wp2
              go_roundw
              case rel => exact ⟨k + 1, by go_num, by omega, by omega, by omega, by rw [show Hid (farL a 1 r = farL a (k + 1) (r.drop (k + 1 - 1))) = (farL a 1 r = farL a (k + 1) (r.drop (k + 1 - 1))) from rfl, HF.out, HD.out, farL_go (by rw [HQ.out]; exact hlt) (by simp [okAt, HK.out, hfy])]; rfl, below_drewN hb _⟩
              case measure => simp [intOf]; omega
          · replace hfy : folB y = false := by simpa using hfy
            have hok : okAt a k y = false := by
              unfold okAt
              split
              · cases hs : secB a y with
                | true => rw [secB_fol hs] at hfy; cases hfy
                | false => rfl
              · exact hfy
            have HOK := Lib.hid hok; clear hok
            go_wp2_with (go_at_call 99; refine (HS.out _).mono ?_; rintro e w' ⟨rfl, rfl⟩)
            go_quiet ((first | (go_at_call 123; exact quiet_same (oFollows_any _ _ hyr.1 hyr.2)) | (go_at_call 124; exact quiet_same (osecond_any _ _ _ ha0 ha1 hyr.1 hyr.2))))
            go_wp2
            go_ret
            exact ⟨ret_int (by rw [HF.out, HD.out, farL_bad HOK.out]), below_drewN hb _⟩
        · have hd : r.drop (k - 1) = [] := by rw [List.drop_eq_nil_iff]; simp at hll; omega
          have HD := Lib.hid hd; clear hd
          have hlt' : ¬ (k : Int) < (r.length : Int) + 1 := by simp only [List.length_cons] at hll; omega
          go_wp2_with (go_at_call 99; refine (HS.out _).mono ?_; rintro e w' ⟨rfl, rfl⟩)
          go_ret
          exact ⟨ret_int (by rw [HF.out, HD.out]; rfl), hb⟩
      · have HE := Lib.hid (farL_stop (r := r.drop (k - 1)) (by rw [HQ.out]; exact hlt))
        go_wp2_with (go_at_call 99; refine (HS.out _).mono ?_; rintro e w' ⟨rfl, rfl⟩)
        go_ret
        exact ⟨ret_int (by rw [HF.out, HE.out]), hb⟩

set_option maxRecDepth 100000 in
theorem rfar_any (v : Value) (a : Int) (r : List Int) (w : World) (h : Row w v (ints .u8 (a :: r))) (hg : Rg 0 256 (a :: r)) (hl : (a :: r).length ≤ 1000000) :
    Calls Tryz.prog 71 #[v] w fun e w' => e = .returned (.int .i64 (far (a :: r))) ∧ w = w' := by
  obtain ⟨ad, b, off, cap, rfl, HC⟩ := h.op
  clear h
  obtain ⟨⟨ha0, ha1⟩, _⟩ := hg.cons
  obtain ⟨a', HA, rfl, hca⟩ := HC.out 0 (by simp)
  obtain rfl : a = a' := by simpa using HA.out
  have hc0 : w.cell? ⟨b, off, none⟩ = some (.int .u8 a) := by simpa using hca w (Below.refl _ _)
  clear hca HA
  have hst := fun w => rwide_any a w ha0 ha1
  have hwr := wideI_rng a
  obtain ⟨q, hq⟩ : ∃ q, wideI a = q := ⟨_, rfl⟩
  rw [hq] at hst hwr
  have HS := Lib.hid hst; have HQ := Lib.hid hq; clear hst hq
  by_cases hw0 : q = 0
  · subst hw0
    have hf : far (a :: r) = 0 := by simp [far, HQ.out]
    rw [hf]
    clear hf
    have hne : ((r.length : Int) + 1 == 0) = false := by rw [beq_eq_false_iff_ne]; omega
    go_enter Tryz.func71, Tryz.ntmps71
    go_wp2_with (go_at_call 72; refine (HS.out _).mono ?_; rintro e w' ⟨rfl, rfl⟩)
    go_ret
    exact ⟨ret_int rfl, rfl⟩
  · have hf : far (a :: r) = farL a 1 r := by simp [far, HQ.out, hw0]
    rw [hf]
    have hq0 : (q == 0) = false := by simpa using hw0
    have hq1 : 1 ≤ q := by omega
    clear hf hw0
    have hne : ((r.length : Int) + 1 == 0) = false := by rw [beq_eq_false_iff_ne]; omega
    go_enter Tryz.func71, Tryz.ntmps71
    go_wp2_with (go_at_call 72; refine (HS.out _).mono ?_; rintro e w' ⟨rfl, rfl⟩)
    go_loop [3] (fun n => ∃ k : Nat, n = .int .i64 k ∧ 1 ≤ k ∧ k ≤ (a :: r).length ∧ (k : Int) ≤ q ∧ Hid (farL a 1 r = farL a k (r.drop (k - 1)))) (fun n => (a :: r).length - (intOf n).toNat)
    case atStart => exact ⟨1, rfl, Nat.le_refl _, by simp, by omega, rfl⟩
    case round =>
      obtain ⟨k, rfl, hk1, hk2, hk3, HF⟩ := hrel
      by_cases hlt : (k : Int) < q
      · by_cases hll : k < (a :: r).length
        · obtain ⟨y, HY, _, hcy⟩ := HC.out k hll
          have hc1 := hcy w (Below.refl _ _)
          have hyr := hg.get HY.out
          have HD := Lib.hid (drop_cons hk1 HY.out)
          have hlt' : (k : Int) < (r.length : Int) + 1 := by simp only [List.length_cons] at hll; omega
          by_cases hk : k = 1
          · subst hk
            by_cases hsy : secB a y = true
            · obtain ⟨hs1, hs2⟩ := secB_iff.1 hsy
              have HSY := Lib.hid hsy; clear hsy
              go_wp2_with (first | (go_at_call 72; refine (HS.out _).mono ?_; rintro e w' ⟨rfl, rfl⟩) | (go_at_call 95; refine (rrange_any _ _ ha0 ha1).mono ?_; rintro e w' ⟨rfl, rfl⟩))
              go_round
              case rel => exact ⟨2, rfl, by omega, by omega, by omega, by rw [show Hid (farL a 1 r = farL a 2 (r.drop (2 - 1))) = (farL a 1 r = farL a 2 (r.drop (2 - 1))) from rfl, HF.out, HD.out, farL_go (by rw [HQ.out]; exact hlt) (by simp [okAt, HSY.out])]⟩
              case measure => simp [intOf]; omega
            · replace hsy : secB a y = false := by simpa using hsy
              have hr : farL a 1 r = 1 := by rw [HF.out, HD.out, farL_bad (by simp [okAt, hsy])]
              have HR := Lib.hid hr; clear hr
              rcases (by have h := secB_iff (a := a) (y := y); rw [hsy] at h; simp only [Bool.false_eq_true, false_iff] at h; omega : y < loI a ∨ (loI a ≤ y ∧ hiI a < y)) with h1 | h1
              · clear hsy
                go_wp2_with (first | (go_at_call 72; refine (HS.out _).mono ?_; rintro e w' ⟨rfl, rfl⟩) | (go_at_call 95; refine (rrange_any _ _ ha0 ha1).mono ?_; rintro e w' ⟨rfl, rfl⟩))
                go_ret
                exact ⟨ret_int (by rw [HR.out]; rfl), rfl⟩
              · clear hsy
                go_wp2_with (first | (go_at_call 72; refine (HS.out _).mono ?_; rintro e w' ⟨rfl, rfl⟩) | (go_at_call 95; refine (rrange_any _ _ ha0 ha1).mono ?_; rintro e w' ⟨rfl, rfl⟩))
                go_ret
                exact ⟨ret_int (by rw [HR.out]; rfl), rfl⟩
          · have hk1' : ((k : Int) == 1) = false := by rw [beq_eq_false_iff_ne]; omega
            have HK := Lib.hid hk; clear hk
            by_cases hfy : folB y = true
            · obtain ⟨hs1, hs2⟩ := folB_iff.1 hfy
              have HFY := Lib.hid hfy; clear hfy
              go_wp2_with (first | (go_at_call 72; refine (HS.out _).mono ?_; rintro e w' ⟨rfl, rfl⟩) | (go_at_call 95; refine (rrange_any _ _ ha0 ha1).mono ?_; rintro e w' ⟨rfl, rfl⟩))
              go_round
              case rel => exact ⟨k + 1, by go_num, by omega, by omega, by omega, by rw [show Hid (farL a 1 r = farL a (k + 1) (r.drop (k + 1 - 1))) = (farL a 1 r = farL a (k + 1) (r.drop (k + 1 - 1))) from rfl, HF.out, HD.out, farL_go (by rw [HQ.out]; exact hlt) (by simp [okAt, HK.out, HFY.out])]; rfl⟩
              case measure => simp [intOf]; omega
            · replace hfy : folB y = false := by simpa using hfy
              have hr : farL a 1 r = k := by rw [HF.out, HD.out, farL_bad (by simp [okAt, HK.out, hfy])]
              have HR := Lib.hid hr; clear hr
              rcases (by have h := folB_iff (x := y); rw [hfy] at h; simp only [Bool.false_eq_true, false_iff] at h; omega : y < 128 ∨ (128 ≤ y ∧ 191 < y)) with h1 | h1
              · clear hfy
                go_wp2_with (first | (go_at_call 72; refine (HS.out _).mono ?_; rintro e w' ⟨rfl, rfl⟩) | (go_at_call 95; refine (rrange_any _ _ ha0 ha1).mono ?_; rintro e w' ⟨rfl, rfl⟩))
                go_ret
                exact ⟨ret_int (by rw [HR.out]), rfl⟩
              · clear hfy
                go_wp2_with (first | (go_at_call 72; refine (HS.out _).mono ?_; rintro e w' ⟨rfl, rfl⟩) | (go_at_call 95; refine (rrange_any _ _ ha0 ha1).mono ?_; rintro e w' ⟨rfl, rfl⟩))
                go_ret
                exact ⟨ret_int (by rw [HR.out]), rfl⟩
        · have hd : r.drop (k - 1) = [] := by rw [List.drop_eq_nil_iff]; simp at hll; omega
          have HD := Lib.hid hd; clear hd
          have hlt' : ¬ (k : Int) < (r.length : Int) + 1 := by simp only [List.length_cons] at hll; omega
          go_wp2_with (go_at_call 72; refine (HS.out _).mono ?_; rintro e w' ⟨rfl, rfl⟩)
          go_ret
          exact ⟨ret_int (by rw [HF.out, HD.out]; rfl), rfl⟩
      · have HE := Lib.hid (farL_stop (r := r.drop (k - 1)) (by rw [HQ.out]; exact hlt))
        go_wp2_with (go_at_call 72; refine (HS.out _).mono ?_; rintro e w' ⟨rfl, rfl⟩)
        go_ret
        exact ⟨ret_int (by rw [HF.out, HE.out]), rfl⟩
end Go.Proofs.YtponfaglflmnkaaGreat
namespace Go.Proofs.YtponfaglflmnkaaGreat
open Go.RowKit
set_option maxHeartbeats 1000000

theorem far_N {a : Int} {r : List Int} (h : wideI a ≠ 0) : far (a :: r) = farL a 1 r := by simp [far, h]
set_option maxRecDepth 100000 in
theorem oTake_any (v : Value) (xs : List Int) (w : World) (h : Row w v (ints .u8 xs)) (hg : Rg 0 256 xs) (hl : xs.length ≤ 1000000) :
    Calls Tryz.prog 74 #[v] w fun e w' => e = .returned (.tuple #[.int .i32 (takeR xs).1, .int .i64 (takeR xs).2.1, .int .i64 (takeR xs).2.2]) ∧ Below w.heap.size w w' := by
  cases xs with
  | nil =>
    obtain ⟨ad, b, off, cap, rfl, HC⟩ := h.op
    go_enter Tryz.func74, Tryz.ntmps74
    go_wp2
    go_ret3
    exact ⟨rfl, Below.refl _ _⟩
  | cons a r =>
    have hfar := fun w' h' => ofar_any v a r w' h' hg hl
    obtain ⟨ad, b, off, cap, rfl, HC⟩ := id h.op
    obtain ⟨⟨ha0, ha1⟩, hg'⟩ := hg.cons
    obtain ⟨a', HA, rfl, hca⟩ := HC.out 0 (by simp)
    obtain rfl : a = a' := by simpa using HA.out
    have HCA := Lib.hid hca; clear hca HA
    have hst := fun w => oStarts_any a w ha0 ha1
    have hfb := farL_bounds a r 1
    have hand := andNot_lead ha0 ha1
    have hle := fun w => olead_any (wideI a) w
    have hok := farL_ok a r 1 (Nat.le_refl _)
    have hwr := wideI_rng a
    by_cases hw0 : wideI a = 0
    · rw [takeR_bad hw0]
      rw [show far (a :: r) = 0 by simp [far, hw0]] at hfar
      have HF := Lib.hid hfar; clear hfar hst hw0 hle hok hand hfb hwr
      go_enter Tryz.func74, Tryz.ntmps74
      go_wp2_with (go_at_call 98; refine (HF.out _ h).mono ?_; rintro e w' ⟨rfl, hb1⟩)
      go_ret3
      exact ⟨rfl, hb1⟩
    · rw [far_N hw0] at hfar
      by_cases hN : (farL a 1 r : Int) = wideI a
      · rw [takeR_ok hw0 hN]
        rcases hand with hh | ⟨hand, hd0, hd1, hd2⟩
        · exact absurd hh hw0
        rw [← hN] at hle hand hst
        generalize hn : farL a 1 r = n at *
        generalize hq : wideI a = q at *
        generalize hL : leadI q = ld at *
        rw [← hN] at hL
        rw [hL] at hand hle
        have hn1 := hfb.1
        have hn2 := hfb.2.1
        have hn4 : n ≤ 4 := by omega
        have hb0 : (0 : Int) ≤ (n : Int) := by omega
        have hz0 : ((n : Int) == 0) = false := by rw [beq_eq_false_iff_ne]; omega
        have hlt : ¬ ((n : Int) < (n : Int)) := by omega
        obtain ⟨c0, hc0e⟩ : ∃ c0, a - ld = c0 := ⟨_, rfl⟩
        rw [hc0e] at hand hd0 hd1 ⊢
        clear hc0e
        have HF := Lib.hid hfar; have HS := Lib.hid hst; have HLD := Lib.hid hle; have HAND := Lib.hid hand; have HOK := Lib.hid hok
        clear hfar hst hle hand hok hfb hN hq hL hn hw0 hwr
        obtain ⟨rs, hrs⟩ : ∃ rs, r.take (n - 1) = rs := ⟨_, rfl⟩
        have hrl : rs.length = n - 1 := by rw [← hrs, List.length_take]; omega
        have hsub : ((ints .u8 (a :: r)).take ((n : Int).toNat)).drop ((1 : Int).toNat) = ints .u8 rs := by
          rw [← hrs, Int.toNat_natCast, show ((1 : Int).toNat) = 1 from rfl, ints_take, ints_drop]
          obtain ⟨m, rfl⟩ : ∃ m, n = m + 1 := ⟨n - 1, by omega⟩
          simp
        have HRS := Lib.hid hrs; have HRL := Lib.hid hrl; have HSUB := Lib.hid hsub
        have hok2 : Hid (∀ y ∈ rs, folB y = true) := by rw [← HRS.out]; exact HOK.out
        rw [HRS.out]
        clear hrs hrl hsub
        go_enter Tryz.func74, Tryz.ntmps74
        go_wp2_with (first | (go_at_call 98; refine (HF.out _ h).mono ?_; rintro e w1 ⟨rfl, hb1⟩; have hc0 : w1.cell? ⟨b, off, none⟩ = some (.int .u8 a) := by simpa using HCA.out w1 hb1) | (go_at_call 99; refine (HS.out _).mono ?_; rintro e w' ⟨rfl, rfl⟩))
        have hwi : IntKind.i32.wrap c0 = c0 := IntWalk.i32_in _ (by omega)
        have hand := HAND.out
        go_quiet ((go_at_call 100; exact quiet_same (HLD.out _)))
        clear hand hwi
        have hb2 := below_drewN hb1 nq
        generalize w1.drewN nq = w2 at *
        have hv0 : Hid (0 ≤ c0 ∧ c0 < 128) := ⟨hd0, hd1⟩
        have hn1' : (1 : Int) ≤ (n : Int) := by omega
        have hn2' : (n : Int) ≤ (r.length : Int) + 1 := by omega
        go_wp2_with (refine wpList_slLH slT_u8 _ _ _ rfl rfl rfl rfl rfl (h.below hb2) (by omega) (by omega) (by simp [ints]; omega) ?_; intro v2 hv2; have r2 := hv2 w h; rw [HSUB.out] at r2; obtain ⟨a2, b2, o2, c2, rfl, HC2⟩ := r2.op; clear hv2 r2)
        have hrl3 : rs.length ≤ 3 := by have := HRL.out; omega
        go_loopw [6, 50] (fun c i wr => ∃ k : Nat, i = .int .i64 k ∧ k ≤ rs.length ∧ c = .int .i32 (valL c0 (rs.take k)) ∧ Hid (0 ≤ valL c0 (rs.take k) ∧ valL c0 (rs.take k) < bnd k) ∧ wr = w2) (fun _ i _ => rs.length - (intOf i).toNat)
        case atStart => exact ⟨0, rfl, Nat.zero_le _, rfl, by simp [valL]; exact ⟨hv0.out.1, hv0.out.2⟩, rfl⟩
        case round =>
          obtain ⟨k, rfl, hk, rfl, hv, rfl⟩ := hrel
          by_cases hlt : k < rs.length
          · obtain ⟨y, HY, rfl, hcy⟩ := HC2.out k hlt
            replace hcy := hcy wr hb2
            have hfy := hok2.out y (List.mem_of_getElem? HY.out)
            have hyb := folB_iff.1 hfy
            have hval : valL c0 (rs.take (k + 1)) = 64 * valL c0 (rs.take k) + (y - 128) := by
              rw [List.take_add_one, HY.out]; exact valL_snoc _ _ _
            have hbs := bnd_succ (k := k) (by have := HRL.out; omega) hv.out.1 hv.out.2 hfy
            rw [← hval] at hbs
            have hle := bnd_le k
            obtain ⟨m, hm⟩ : ∃ m, valL c0 (rs.take k) = m := ⟨_, rfl⟩
            rw [hm] at hv hval ⊢
            have hvo := hv.out
            have HV := Lib.hid hval; have HB := Lib.hid hbs
            have hm0 : 0 ≤ m := hvo.1
            have hm1 : m < 33554432 := by omega
            clear hval hbs hm hvo hle hv hfy
            go_wp2
            go_roundw
            case rel => exact ⟨k + 1, by go_num, by omega, iv (by rw [HV.out]; omega), HB.out, (by first | rfl | trivial)⟩
            case measure => simp [intOf]; omega
          · have hv1 : valL c0 (rs.take k) = valL c0 rs := by rw [List.take_of_length_le (by omega)]
            have HV := Lib.hid hv1; clear hv1
            go_wp2
            go_ret3
            exact ⟨ret3 (iv HV.out) rfl rfl, hb2⟩
      · have hfq := hfb.2.2 (by omega)
        by_cases hE : farL a 1 r = r.length + 1
        · rw [takeR_end hw0 hN hE]
          generalize hn : farL a 1 r = n at *
          generalize hq : wideI a = q at *
          have hlt : (n : Int) < q := by omega
          have hz0 : ((n : Int) == 0) = false := by rw [beq_eq_false_iff_ne]; omega
          have he : ((n : Int) == (r.length : Int) + 1) = true := by rw [beq_iff_eq]; omega
          have HF := Lib.hid hfar; have HS := Lib.hid hst
          clear hfar hst hle hand hok hfb hN hq hn hw0 hwr hE
          go_enter Tryz.func74, Tryz.ntmps74
          go_wp2_with (first | (go_at_call 98; refine (HF.out _ h).mono ?_; rintro e w1 ⟨rfl, hb1⟩; have hc0 : w1.cell? ⟨b, off, none⟩ = some (.int .u8 a) := by simpa using HCA.out w1 hb1) | (go_at_call 99; refine (HS.out _).mono ?_; rintro e w' ⟨rfl, rfl⟩))
          go_ret3
          exact ⟨rfl, hb1⟩
        · rw [takeR_form hw0 hN hE]
          generalize hn : farL a 1 r = n at *
          generalize hq : wideI a = q at *
          have hlt : (n : Int) < q := by omega
          have hz0 : ((n : Int) == 0) = false := by rw [beq_eq_false_iff_ne]; omega
          have he : ((n : Int) == (r.length : Int) + 1) = false := by rw [beq_eq_false_iff_ne]; omega
          have HF := Lib.hid hfar; have HS := Lib.hid hst
          clear hfar hst hle hand hok hfb hN hq hn hw0 hwr hE
          go_enter Tryz.func74, Tryz.ntmps74
          go_wp2_with (first | (go_at_call 98; refine (HF.out _ h).mono ?_; rintro e w1 ⟨rfl, hb1⟩; have hc0 : w1.cell? ⟨b, off, none⟩ = some (.int .u8 a) := by simpa using HCA.out w1 hb1) | (go_at_call 99; refine (HS.out _).mono ?_; rintro e w' ⟨rfl, rfl⟩))
          go_ret3
          exact ⟨rfl, hb1⟩
end Go.Proofs.YtponfaglflmnkaaGreat
namespace Go.Proofs.YtponfaglflmnkaaGreat
open Go.RowKit
set_option maxHeartbeats 1000000

set_option maxRecDepth 100000 in
theorem rTake_any (v : Value) (xs : List Int) (w : World) (h : Row w v (ints .u8 xs)) (hg : Rg 0 256 xs) (hl : xs.length ≤ 1000000) :
    Calls Tryz.prog 46 #[v] w fun e w' => e = .returned (.tuple #[.int .i32 (takeR xs).1, .int .i64 (takeR xs).2.1, .int .i64 (takeR xs).2.2]) ∧ Below w.heap.size w w' := by
  cases xs with
  | nil =>
    obtain ⟨ad, b, off, cap, rfl, HC⟩ := h.op
    go_enter Tryz.func46, Tryz.ntmps46
    go_wp2
    go_ret3
    exact ⟨rfl, Below.refl _ _⟩
  | cons a r =>
    have hfar := fun w' h' => rfar_any v a r w' h' hg hl
    obtain ⟨ad, b, off, cap, rfl, HC⟩ := id h.op
    obtain ⟨⟨ha0, ha1⟩, hg'⟩ := hg.cons
    obtain ⟨a', HA, rfl, hca⟩ := HC.out 0 (by simp)
    obtain rfl : a = a' := by simpa using HA.out
    have hc0 : w.cell? ⟨b, off, none⟩ = some (.int .u8 a) := by simpa using hca w (Below.refl _ _)
    have HCA := Lib.hid hca; clear hca HA
    have hst := fun w => rwide_any a w ha0 ha1
    have hfb := farL_bounds a r 1
    have hand := andNot_lead ha0 ha1
    have hok := farL_ok a r 1 (Nat.le_refl _)
    have hwr := wideI_rng a
    have hz1 : ((r.length : Int) + 1 == 0) = false := by rw [beq_eq_false_iff_ne]; omega
    by_cases hw0 : wideI a = 0
    · rw [takeR_bad hw0]
      rw [show far (a :: r) = 0 by simp [far, hw0]] at hfar
      have hz2 : ((0 : Int) == (r.length : Int) + 1) = false := by rw [beq_eq_false_iff_ne]; omega
      have HF := Lib.hid hfar; clear hfar hst hw0 hok hand hfb hwr
      go_enter Tryz.func46, Tryz.ntmps46
      go_wp2_with (go_at_call 71; refine (HF.out _ h).mono ?_; rintro e w' ⟨rfl, rfl⟩)
      go_ret3
      exact ⟨rfl, Below.refl _ _⟩
    · rw [far_N hw0] at hfar
      by_cases hN : (farL a 1 r : Int) = wideI a
      · rw [takeR_ok hw0 hN]
        rcases hand with hh | ⟨hand, hd0, hd1, hd2⟩
        · exact absurd hh hw0
        clear hand
        have hn4 : farL a 1 r = 1 ∨ farL a 1 r = 2 ∨ farL a 1 r = 3 ∨ farL a 1 r = 4 := by omega
        rw [← hN] at hst
        rw [← hN] at hd0 hd1 ⊢
        generalize hn : farL a 1 r = n at *
        have hn1 := hfb.1
        have hn2 := hfb.2.1
        obtain ⟨rs, hrs⟩ : ∃ rs, r.take (n - 1) = rs := ⟨_, rfl⟩
        have hrl : rs.length = n - 1 := by rw [← hrs, List.length_take]; omega
        have HRS := Lib.hid hrs; have HRL := Lib.hid hrl
        have hok2 : Hid (∀ y ∈ rs, folB y = true) := by rw [← HRS.out]; exact hok
        rw [HRS.out]
        clear hrs hrl
        have hrl3 : rs.length ≤ 3 := by have := HRL.out; omega
        obtain ⟨c0, hc0e⟩ : ∃ c0, a - leadI n = c0 := ⟨_, rfl⟩
        have HC0 := Lib.hid hc0e
        rw [hc0e] at hd0 hd1 ⊢
        have hv0 : Hid (0 ≤ c0 ∧ c0 < 128) := ⟨hd0, hd1⟩
        have hn2' : (n : Int) ≤ (r.length : Int) + 1 := by omega
        have HF := Lib.hid hfar; have HS := Lib.hid hst
        clear hfar hst hok hfb hN hn hw0 hwr hc0e
        have hw1 : IntKind.i64.wrap a = a := IntWalk.i64_in _ (by omega)
        have hcA : ∀ o, (w.alloc o).cell? ⟨b, off, none⟩ = some (.int .u8 a) := fun o => by simpa using HCA.out _ (below_alloc w o)
        obtain ⟨ld, hld⟩ : ∃ ld, leadI n = ld := ⟨_, rfl⟩
        have hA1 : (#[Value.int .i64 0, .int .i64 0, .int .i64 192, .int .i64 224, .int .i64 240] : Array Value)[n]? = some (.int .i64 ld) := by
          rw [← hld]; rcases hn4 with rfl | rfl | rfl | rfl <;> rfl
        have hA2 : ([Value.int .i64 0, .int .i64 0, .int .i64 192, .int .i64 224, .int .i64 240] : List Value)[n]? = some (.int .i64 ld) := by
          rw [← hld]; rcases hn4 with rfl | rfl | rfl | rfl <;> rfl
        have hcc : a - ld = c0 := by rw [← hld]; exact HC0.out
        have hw2 : IntKind.i64.wrap c0 = c0 := IntWalk.i64_in _ (by omega)
        have hn0 : (0 : Int) ≤ (n : Int) := by omega
        have hn5 : (n : Int) < 5 := by omega
        have h0n : (0 : Int) < (n : Int) := by omega
        clear hld hd2
        go_enter Tryz.func46, Tryz.ntmps46
        go_wp2_with (first | (go_at_call 71; refine (HF.out _ h).mono ?_; rintro e w1 ⟨rfl, rfl⟩) | (go_at_call 72; refine (HS.out _).mono ?_; rintro e w' ⟨rfl, rfl⟩))
        go_quiet (fail)
        clear hcc hw2 hA1 hA2 hcA hw1
        have hb2 := below_drewN (below_alloc w (.cells #[.int .i64 0, .int .i64 0, .int .i64 192, .int .i64 224, .int .i64 240] 3)) nq
        generalize (w.alloc (.cells #[.int .i64 0, .int .i64 0, .int .i64 192, .int .i64 224, .int .i64 240] 3)).drewN nq = w2 at *
        go_wp2
        go_loop [7, 8] (fun c i => ∃ k : Nat, i = .int .i64 (k + 1) ∧ k ≤ rs.length ∧ c = .int .i64 (valL c0 (rs.take k)) ∧ Hid (0 ≤ valL c0 (rs.take k) ∧ valL c0 (rs.take k) < bnd k)) (fun _ i => rs.length + 1 - (intOf i).toNat)
        case atStart => exact ⟨0, rfl, Nat.zero_le _, rfl, by simp [valL]; exact ⟨hv0.out.1, hv0.out.2⟩⟩
        case round =>
          obtain ⟨k, rfl, hk, rfl, hv⟩ := hrel
          by_cases hlt : k < rs.length
          · have hkn : (k : Int) + 1 < (n : Int) := by have := HRL.out; omega
            obtain ⟨y, HY, _, hcy⟩ := HC.out (k + 1) (by have := HRL.out; simp; omega)
            replace hcy := hcy w2 hb2
            have hyr : rs[k]? = some y := by
              have := HY.out
              rw [List.getElem?_cons_succ] at this
              rw [← HRS.out, List.getElem?_take, if_pos (by omega), this]
            have hfy := hok2.out y (List.mem_of_getElem? hyr)
            have hyb := folB_iff.1 hfy
            have hval : valL c0 (rs.take (k + 1)) = 64 * valL c0 (rs.take k) + (y - 128) := by
              rw [List.take_add_one, hyr]; exact valL_snoc _ _ _
            have hbs := bnd_succ (k := k) (by omega) hv.out.1 hv.out.2 hfy
            rw [← hval] at hbs
            have hle := bnd_le k
            obtain ⟨m, hm⟩ : ∃ m, valL c0 (rs.take k) = m := ⟨_, rfl⟩
            rw [hm] at hv hval ⊢
            have hvo := hv.out
            have HV := Lib.hid hval; have HB := Lib.hid hbs
            have hm0 : 0 ≤ m := hvo.1
            have hm1 : m < 33554432 := by omega
            have hkr : (k : Int) + 1 < (r.length : Int) + 1 := by omega
            have hkt : ((k : Int) + 1).toNat = k + 1 := by omega
            clear hval hbs hm hvo hle hv hfy hyr
            go_wp2
            go_round
            case rel => exact ⟨k + 1, by go_num, by omega, iv (by rw [HV.out]; omega), HB.out⟩
            case measure => simp [intOf]; omega
          · have hkn : ¬ (k : Int) + 1 < (n : Int) := by have := HRL.out; omega
            have hv1 : valL c0 (rs.take k) = valL c0 rs := by rw [List.take_of_length_le (by omega)]
            have hle := bnd_le k
            have hvo := hv.out
            obtain ⟨m, hm⟩ : ∃ m, valL c0 (rs.take k) = m := ⟨_, rfl⟩
            rw [hm] at hv1 hvo ⊢
            have HV := Lib.hid hv1
            have hm0 : 0 ≤ m := hvo.1
            have hm1 : m < 33554432 := by omega
            clear hv1 hvo hm hle
            go_wp2
            go_ret3
            exact ⟨ret3 (iv HV.out) rfl rfl, hb2⟩
      · have hfq := hfb.2.2 (by omega)
        by_cases hE : farL a 1 r = r.length + 1
        · rw [takeR_end hw0 hN hE]
          generalize hn : farL a 1 r = n at *
          generalize hq : wideI a = q at *
          have h0n : (0 : Int) < (n : Int) := by omega
          have hnq : ((n : Int) == q) = false := by rw [beq_eq_false_iff_ne]; omega
          have he : ((n : Int) == (r.length : Int) + 1) = true := by rw [beq_iff_eq]; omega
          have HF := Lib.hid hfar; have HS := Lib.hid hst
          clear hfar hst hand hok hfb hN hq hn hw0 hwr hE
          go_enter Tryz.func46, Tryz.ntmps46
          go_wp2_with (first | (go_at_call 71; refine (HF.out _ h).mono ?_; rintro e w1 ⟨rfl, rfl⟩) | (go_at_call 72; refine (HS.out _).mono ?_; rintro e w' ⟨rfl, rfl⟩))
          go_ret3
          exact ⟨rfl, Below.refl _ _⟩
        · rw [takeR_form hw0 hN hE]
          generalize hn : farL a 1 r = n at *
          generalize hq : wideI a = q at *
          have h0n : (0 : Int) < (n : Int) := by omega
          have hnq : ((n : Int) == q) = false := by rw [beq_eq_false_iff_ne]; omega
          have he : ((n : Int) == (r.length : Int) + 1) = false := by rw [beq_eq_false_iff_ne]; omega
          have h1n := hfb.1
          have HF := Lib.hid hfar; have HS := Lib.hid hst
          clear hfar hst hand hok hfb hN hq hn hw0 hwr hE
          go_enter Tryz.func46, Tryz.ntmps46
          go_wp2_with (first | (go_at_call 71; refine (HF.out _ h).mono ?_; rintro e w1 ⟨rfl, rfl⟩) | (go_at_call 72; refine (HS.out _).mono ?_; rintro e w' ⟨rfl, rfl⟩))
          go_ret3
          exact ⟨ret3 rfl (iv (by omega)) rfl, Below.refl _ _⟩

def subR (t : Int × Int × Int) : Int := if t.2.2 = 0 then 0 else t.2.1
end Go.Proofs.YtponfaglflmnkaaGreat
