/- Walks: UTF-8, one sign: the reference's octets; how far octets are well formed. -/
import Derived.Test.YthjenihaogihpaaW04b
namespace Go.Proofs.Ythjenihaogihpaa
open Go.RowKit
set_option maxHeartbeats 1000000

theorem roct_any (c : Int) (w : World) (h0 : -2147483648 ≤ c) (h1 : c ≤ 2147483647) :
    Calls Try.prog 52 #[.int .i32 c] w fun e w' => ∃ v, e = .returned v ∧ Own w.heap.size 5 w' v (ints .u8 (octs c)) ∧ Below w.heap.size w w' := by
  by_cases hs : scB c = true
  · have hb := scB_iff.1 hs
    by_cases h2 : c < 128
    · have ho : octs c = [c] := by rw [octs, if_pos hs, if_pos h2]
      have HO := Lib.hid ho; clear ho
      go_enter Try.func52, Try.ntmps52
      go_wp2_with (go_at_call 54; refine (ris_any _ _).mono ?_; rintro e w' ⟨rfl, rfl⟩)
      go_ret
      exact ⟨_, rfl, Own.ilit _ [_] (by rw [HO.out]; rfl) (Nat.le_refl _) (by simp), below_alloc _ _⟩
    · by_cases h3 : c < 2048
      · have ho : octs c = [192 + c / 64, 128 + c % 64] := by rw [octs, if_pos hs, if_neg h2, if_pos h3]
        have HO := Lib.hid ho; clear ho
        go_enter Try.func52, Try.ntmps52
        go_wp2_with (go_at_call 54; refine (ris_any _ _).mono ?_; rintro e w' ⟨rfl, rfl⟩)
        go_ret
        exact ⟨_, rfl, Own.ilit _ [_, _] (by rw [HO.out]; rfl) (Nat.le_refl _) (by simp), below_alloc _ _⟩
      · by_cases h4 : c < 65536
        · have ho : octs c = [224 + c / 4096, 128 + c / 64 % 64, 128 + c % 64] := by rw [octs, if_pos hs, if_neg h2, if_neg h3, if_pos h4]
          have HO := Lib.hid ho; clear ho
          go_enter Try.func52, Try.ntmps52
          go_wp2_with (go_at_call 54; refine (ris_any _ _).mono ?_; rintro e w' ⟨rfl, rfl⟩)
          go_ret
          exact ⟨_, rfl, Own.ilit _ [_, _, _] (by rw [HO.out]; rfl) (Nat.le_refl _) (by simp), below_alloc _ _⟩
        · have ho : octs c = [240 + c / 262144, 128 + c / 4096 % 64, 128 + c / 64 % 64, 128 + c % 64] := by rw [octs, if_pos hs, if_neg h2, if_neg h3, if_neg h4]
          have HO := Lib.hid ho; clear ho
          go_enter Try.func52, Try.ntmps52
          go_wp2_with (go_at_call 54; refine (ris_any _ _).mono ?_; rintro e w' ⟨rfl, rfl⟩)
          go_ret
          exact ⟨_, rfl, Own.ilit _ [_, _, _, _] (by rw [HO.out]; rfl) (Nat.le_refl _) (by simp), below_alloc _ _⟩
  · have ho : octs c = [] := by rw [octs, if_neg hs]
    rw [ho]
    replace hs : scB c = false := by simpa using hs
    clear ho
    go_enter Try.func52, Try.ntmps52
    go_wp2_with (go_at_call 54; refine (ris_any _ _).mono ?_; rintro e w' ⟨rfl, rfl⟩)
    go_ret
    exact ⟨_, rfl, Own.nil _ _ _, Below.refl _ _⟩

theorem farL_go {a y : Int} {j : Nat} {r : List Int} (h1 : (j : Int) < wideI a) (h2 : okAt a j y = true) : farL a j (y :: r) = farL a (j + 1) r := by
  rw [farL, if_pos ⟨h1, h2⟩]
theorem farL_stop {a : Int} {j : Nat} {r : List Int} (h1 : ¬ (j : Int) < wideI a) : farL a j r = j := by
  cases r with
  | nil => rfl
  | cons y r => rw [farL, if_neg (by omega)]
theorem farL_bad {a y : Int} {j : Nat} {r : List Int} (h2 : okAt a j y = false) : farL a j (y :: r) = j := by
  rw [farL, if_neg (by simp [h2])]
/-- Places in a row behind its first. -/
theorem drop_cons {a : Int} {r : List Int} {j : Nat} (hj : 1 ≤ j) {y : Int} (h : (a :: r)[j]? = some y) : r.drop (j - 1) = y :: r.drop j := by
  obtain ⟨k, rfl⟩ : ∃ k, j = k + 1 := ⟨j - 1, by omega⟩
  rw [List.getElem?_cons_succ] at h
  obtain ⟨hk, rfl⟩ := List.getElem?_eq_some_iff.1 h
  rw [Nat.add_sub_cancel, List.drop_eq_getElem_cons hk]

set_option maxRecDepth 100000 in
theorem ofar_any (v : Value) (a : Int) (r : List Int) (w : World) (h : Row w v (ints .u8 (a :: r))) (hg : Rg 0 256 (a :: r)) (hl : (a :: r).length ≤ 1000000) :
    Calls Try.prog 57 #[v] w fun e w' => e = .returned (.int .i64 (far (a :: r))) ∧ Below w.heap.size w w' := by
  obtain ⟨ad, b, off, cap, rfl, HC⟩ := h.op
  clear h
  obtain ⟨⟨ha0, ha1⟩, _⟩ := hg.cons
  obtain ⟨a', HA, rfl, hca⟩ := HC.out 0 (by simp)
  obtain rfl : a = a' := by simpa using HA.out
  have HCA := Lib.hid hca; clear hca HA
  have hwr := wideI_rng a
  have hfb := farL_bounds a r 1
  by_cases hw0 : wideI a = 0
  · have hf : far (a :: r) = 0 := by simp [far, hw0]
    rw [hf]
    have hc0 : w.cell? ⟨b, off, none⟩ = some (.int .u8 a) := by simpa using HCA.out w (Below.refl _ _)
    have hst := fun w => oStarts_any a w ha0 ha1
    rw [hw0] at hst
    have HS := Lib.hid hst; clear hst hw0 hwr hfb hf
    go_enter Try.func57, Try.ntmps57
    go_wp2
    go_loopw [3] (fun n wr => n = .int .i64 1 ∧ wr = w) (fun _ _ => 0)
    case atStart => exact ⟨rfl, rfl⟩
    case round =>
      obtain ⟨rfl, rfl⟩ := hrel
      go_wp2_with (go_at_call 58; refine (HS.out _).mono ?_; rintro e w' ⟨rfl, rfl⟩)
      go_ret
      exact ⟨ret_int rfl, Below.refl _ _⟩
  · have hf : far (a :: r) = farL a 1 r := by simp [far, hw0]
    rw [hf]
    have hmin : (farL a 1 r : Int) ≤ wideI a := hfb.2.2 (by omega)
    obtain ⟨q, hq⟩ : ∃ q, wideI a = q := ⟨_, rfl⟩
    have hst := fun w => oStarts_any a w ha0 ha1
    rw [hq] at hst hmin hwr hw0
    have hq1 : 1 ≤ q := by omega
    have HS := Lib.hid hst; have HQ := Lib.hid hq; have HM := Lib.hid hmin; clear hst hq hmin hf hfb hw0
    go_enter Try.func57, Try.ntmps57
    go_wp2
    go_loopw [3] (fun n wr => ∃ k : Nat, n = .int .i64 k ∧ 1 ≤ k ∧ k ≤ (a :: r).length ∧ (k : Int) ≤ q ∧ Hid (farL a 1 r = farL a k (r.drop (k - 1))) ∧ Below w.heap.size w wr) (fun n _ => (a :: r).length - (intOf n).toNat)
    case atStart => exact ⟨1, rfl, Nat.le_refl _, by simp, by omega, rfl, Below.refl _ _⟩
    case round =>
      obtain ⟨k, rfl, hk1, hk2, hk3, HF, hb⟩ := hrel
      have hc0 : wr.cell? ⟨b, off, none⟩ = some (.int .u8 a) := by simpa using HCA.out wr hb
      by_cases hlt : (k : Int) < q
      · by_cases hll : k < (a :: r).length
        · obtain ⟨y, HY, _, hcy⟩ := HC.out k hll
          have hc1 := hcy wr hb
          have hyr := hg.get HY.out
          have HD := Lib.hid (drop_cons hk1 HY.out)
          have hlt' : (k : Int) < (r.length : Int) + 1 := by simp only [List.length_cons] at hll; omega
          by_cases hfy : folB y = true
          · by_cases hk : k = 1
            · subst hk
              by_cases hsy : secB a y = true
              · go_wp2_with (go_at_call 58; refine (HS.out _).mono ?_; rintro e w' ⟨rfl, rfl⟩)
                go_quiet ((first | (go_at_call 67; exact quiet_same (oFollows_any _ _ hyr.1 hyr.2)) | (go_at_call 68; exact quiet_same (osecond_any _ _ _ ha0 ha1 hyr.1 hyr.2))))
                go_wp2
                go_roundw
                case rel => exact ⟨2, rfl, by omega, by omega, by omega, by rw [show Hid (farL a 1 r = farL a 2 (r.drop (2 - 1))) = (farL a 1 r = farL a 2 (r.drop (2 - 1))) from rfl, HF.out, HD.out, farL_go (by rw [HQ.out]; exact hlt) (by simp [okAt, hsy])], below_drewN hb _⟩
                case measure => simp [intOf]; omega
              · replace hsy : secB a y = false := by simpa using hsy
                go_wp2_with (go_at_call 58; refine (HS.out _).mono ?_; rintro e w' ⟨rfl, rfl⟩)
                go_quiet ((first | (go_at_call 67; exact quiet_same (oFollows_any _ _ hyr.1 hyr.2)) | (go_at_call 68; exact quiet_same (osecond_any _ _ _ ha0 ha1 hyr.1 hyr.2))))
                go_wp2
                go_ret
                exact ⟨ret_int (by rw [HF.out, HD.out, farL_bad (by simp [okAt, hsy])]; rfl), below_drewN hb _⟩
            · have hk1' : ((k : Int) == 1) = false := by rw [beq_eq_false_iff_ne]; omega
              have HK := Lib.hid hk; clear hk
              go_wp2_with (go_at_call 58; refine (HS.out _).mono ?_; rintro e w' ⟨rfl, rfl⟩)
              go_quiet ((first | (go_at_call 67; exact quiet_same (oFollows_any _ _ hyr.1 hyr.2)) | (go_at_call 68; exact quiet_same (osecond_any _ _ _ ha0 ha1 hyr.1 hyr.2))))
              go_wp2
              go_roundw
              case rel => exact ⟨k + 1, by go_num, by omega, by omega, by omega, by rw [show Hid (farL a 1 r = farL a (k + 1) (r.drop (k + 1 - 1))) = (farL a 1 r = farL a (k + 1) (r.drop (k + 1 - 1))) from rfl, HF.out, HD.out, farL_go (by rw [HQ.out]; exact hlt) (by simp [okAt, HK.out, hfy])]; rfl, below_drewN hb _⟩
              case measure => simp [intOf]; omega
          · replace hfy : folB y = false := by simpa using hfy
            have hok : okAt a k y = false := by
              unfold okAt
              split
              · cases hs : secB a y with
                | true => rw [secB_fol hs] at hfy; cases hfy
                | false => rfl
              · exact hfy
            have HOK := Lib.hid hok; clear hok
            go_wp2_with (go_at_call 58; refine (HS.out _).mono ?_; rintro e w' ⟨rfl, rfl⟩)
            go_quiet ((first | (go_at_call 67; exact quiet_same (oFollows_any _ _ hyr.1 hyr.2)) | (go_at_call 68; exact quiet_same (osecond_any _ _ _ ha0 ha1 hyr.1 hyr.2))))
            go_wp2
            go_ret
            exact ⟨ret_int (by rw [HF.out, HD.out, farL_bad HOK.out]), below_drewN hb _⟩
        · have hd : r.drop (k - 1) = [] := by rw [List.drop_eq_nil_iff]; simp at hll; omega
          have HD := Lib.hid hd; clear hd
          have hlt' : ¬ (k : Int) < (r.length : Int) + 1 := by simp only [List.length_cons] at hll; omega
          go_wp2_with (go_at_call 58; refine (HS.out _).mono ?_; rintro e w' ⟨rfl, rfl⟩)
          go_ret
          exact ⟨ret_int (by rw [HF.out, HD.out]; rfl), hb⟩
      · have HE := Lib.hid (farL_stop (r := r.drop (k - 1)) (by rw [HQ.out]; exact hlt))
        go_wp2_with (go_at_call 58; refine (HS.out _).mono ?_; rintro e w' ⟨rfl, rfl⟩)
        go_ret
        exact ⟨ret_int (by rw [HF.out, HE.out]), hb⟩

set_option maxRecDepth 100000 in
theorem rfar_any (v : Value) (a : Int) (r : List Int) (w : World) (h : Row w v (ints .u8 (a :: r))) (hg : Rg 0 256 (a :: r)) (hl : (a :: r).length ≤ 1000000) :
    Calls Try.prog 55 #[v] w fun e w' => e = .returned (.int .i64 (far (a :: r))) ∧ w = w' := by
  obtain ⟨ad, b, off, cap, rfl, HC⟩ := h.op
  clear h
  obtain ⟨⟨ha0, ha1⟩, _⟩ := hg.cons
  obtain ⟨a', HA, rfl, hca⟩ := HC.out 0 (by simp)
  obtain rfl : a = a' := by simpa using HA.out
  have hc0 : w.cell? ⟨b, off, none⟩ = some (.int .u8 a) := by simpa using hca w (Below.refl _ _)
  clear hca HA
  have hst := fun w => rwide_any a w ha0 ha1
  have hwr := wideI_rng a
  obtain ⟨q, hq⟩ : ∃ q, wideI a = q := ⟨_, rfl⟩
  rw [hq] at hst hwr
  have HS := Lib.hid hst; have HQ := Lib.hid hq; clear hst hq
  by_cases hw0 : q = 0
  · subst hw0
    have hf : far (a :: r) = 0 := by simp [far, HQ.out]
    rw [hf]
    clear hf
    have hne : ((r.length : Int) + 1 == 0) = false := by rw [beq_eq_false_iff_ne]; omega
    go_enter Try.func55, Try.ntmps55
    go_wp2_with (go_at_call 56; refine (HS.out _).mono ?_; rintro e w' ⟨rfl, rfl⟩)
    go_ret
    exact ⟨ret_int rfl, rfl⟩
  · have hf : far (a :: r) = farL a 1 r := by simp [far, HQ.out, hw0]
    rw [hf]
    have hq0 : (q == 0) = false := by simpa using hw0
    have hq1 : 1 ≤ q := by omega
    clear hf hw0
    have hne : ((r.length : Int) + 1 == 0) = false := by rw [beq_eq_false_iff_ne]; omega
    go_enter Try.func55, Try.ntmps55
    go_wp2_with (go_at_call 56; refine (HS.out _).mono ?_; rintro e w' ⟨rfl, rfl⟩)
    go_loop [3] (fun n => ∃ k : Nat, n = .int .i64 k ∧ 1 ≤ k ∧ k ≤ (a :: r).length ∧ (k : Int) ≤ q ∧ Hid (farL a 1 r = farL a k (r.drop (k - 1)))) (fun n => (a :: r).length - (intOf n).toNat)
    case atStart => exact ⟨1, rfl, Nat.le_refl _, by simp, by omega, rfl⟩
    case round =>
      obtain ⟨k, rfl, hk1, hk2, hk3, HF⟩ := hrel
      by_cases hlt : (k : Int) < q
      · by_cases hll : k < (a :: r).length
        · obtain ⟨y, HY, _, hcy⟩ := HC.out k hll
          have hc1 := hcy w (Below.refl _ _)
          have hyr := hg.get HY.out
          have HD := Lib.hid (drop_cons hk1 HY.out)
          have hlt' : (k : Int) < (r.length : Int) + 1 := by simp only [List.length_cons] at hll; omega
          by_cases hk : k = 1
          · subst hk
            by_cases hsy : secB a y = true
            · obtain ⟨hs1, hs2⟩ := secB_iff.1 hsy
              have HSY := Lib.hid hsy; clear hsy
              go_wp2_with (first | (go_at_call 56; refine (HS.out _).mono ?_; rintro e w' ⟨rfl, rfl⟩) | (go_at_call 66; refine (rrange_any _ _ ha0 ha1).mono ?_; rintro e w' ⟨rfl, rfl⟩))
              go_round
              case rel => exact ⟨2, rfl, by omega, by omega, by omega, by rw [show Hid (farL a 1 r = farL a 2 (r.drop (2 - 1))) = (farL a 1 r = farL a 2 (r.drop (2 - 1))) from rfl, HF.out, HD.out, farL_go (by rw [HQ.out]; exact hlt) (by simp [okAt, HSY.out])]⟩
              case measure => simp [intOf]; omega
            · replace hsy : secB a y = false := by simpa using hsy
              have hr : farL a 1 r = 1 := by rw [HF.out, HD.out, farL_bad (by simp [okAt, hsy])]
              have HR := Lib.hid hr; clear hr
              rcases (by have h := secB_iff (a := a) (y := y); rw [hsy] at h; simp only [Bool.false_eq_true, false_iff] at h; omega : y < loI a ∨ (loI a ≤ y ∧ hiI a < y)) with h1 | h1
              · clear hsy
                go_wp2_with (first | (go_at_call 56; refine (HS.out _).mono ?_; rintro e w' ⟨rfl, rfl⟩) | (go_at_call 66; refine (rrange_any _ _ ha0 ha1).mono ?_; rintro e w' ⟨rfl, rfl⟩))
                go_ret
                exact ⟨ret_int (by rw [HR.out]; rfl), rfl⟩
              · clear hsy
                go_wp2_with (first | (go_at_call 56; refine (HS.out _).mono ?_; rintro e w' ⟨rfl, rfl⟩) | (go_at_call 66; refine (rrange_any _ _ ha0 ha1).mono ?_; rintro e w' ⟨rfl, rfl⟩))
                go_ret
                exact ⟨ret_int (by rw [HR.out]; rfl), rfl⟩
          · have hk1' : ((k : Int) == 1) = false := by rw [beq_eq_false_iff_ne]; omega
            have HK := Lib.hid hk; clear hk
            by_cases hfy : folB y = true
            · obtain ⟨hs1, hs2⟩ := folB_iff.1 hfy
              have HFY := Lib.hid hfy; clear hfy
              go_wp2_with (first | (go_at_call 56; refine (HS.out _).mono ?_; rintro e w' ⟨rfl, rfl⟩) | (go_at_call 66; refine (rrange_any _ _ ha0 ha1).mono ?_; rintro e w' ⟨rfl, rfl⟩))
              go_round
              case rel => exact ⟨k + 1, by go_num, by omega, by omega, by omega, by rw [show Hid (farL a 1 r = farL a (k + 1) (r.drop (k + 1 - 1))) = (farL a 1 r = farL a (k + 1) (r.drop (k + 1 - 1))) from rfl, HF.out, HD.out, farL_go (by rw [HQ.out]; exact hlt) (by simp [okAt, HK.out, HFY.out])]; rfl⟩
              case measure => simp [intOf]; omega
            · replace hfy : folB y = false := by simpa using hfy
              have hr : farL a 1 r = k := by rw [HF.out, HD.out, farL_bad (by simp [okAt, HK.out, hfy])]
              have HR := Lib.hid hr; clear hr
              rcases (by have h := folB_iff (x := y); rw [hfy] at h; simp only [Bool.false_eq_true, false_iff] at h; omega : y < 128 ∨ (128 ≤ y ∧ 191 < y)) with h1 | h1
              · clear hfy
                go_wp2_with (first | (go_at_call 56; refine (HS.out _).mono ?_; rintro e w' ⟨rfl, rfl⟩) | (go_at_call 66; refine (rrange_any _ _ ha0 ha1).mono ?_; rintro e w' ⟨rfl, rfl⟩))
                go_ret
                exact ⟨ret_int (by rw [HR.out]), rfl⟩
              · clear hfy
                go_wp2_with (first | (go_at_call 56; refine (HS.out _).mono ?_; rintro e w' ⟨rfl, rfl⟩) | (go_at_call 66; refine (rrange_any _ _ ha0 ha1).mono ?_; rintro e w' ⟨rfl, rfl⟩))
                go_ret
                exact ⟨ret_int (by rw [HR.out]), rfl⟩
        · have hd : r.drop (k - 1) = [] := by rw [List.drop_eq_nil_iff]; simp at hll; omega
          have HD := Lib.hid hd; clear hd
          have hlt' : ¬ (k : Int) < (r.length : Int) + 1 := by simp only [List.length_cons] at hll; omega
          go_wp2_with (go_at_call 56; refine (HS.out _).mono ?_; rintro e w' ⟨rfl, rfl⟩)
          go_ret
          exact ⟨ret_int (by rw [HF.out, HD.out]; rfl), rfl⟩
      · have HE := Lib.hid (farL_stop (r := r.drop (k - 1)) (by rw [HQ.out]; exact hlt))
        go_wp2_with (go_at_call 56; refine (HS.out _).mono ?_; rintro e w' ⟨rfl, rfl⟩)
        go_ret
        exact ⟨ret_int (by rw [HF.out, HE.out]), rfl⟩
end Go.Proofs.Ythjenihaogihpaa
