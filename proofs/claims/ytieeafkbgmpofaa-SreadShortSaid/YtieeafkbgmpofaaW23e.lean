/- Walks: a run, by both. -/
import Derived.Test.YtieeafkbgmpofaaW23d
namespace Go.Proofs.Ytieeafkbgmpofaa
open Go.RowKit
set_option maxHeartbeats 1000000
theorem rleft_any (v : Value) (d : List Int) (w : World) (h : Row w v (ints .u8 d)) (hl : d.length ≤ 10000) (ha : allD d = true) :
    Calls Try.prog 50 #[v] w fun e w' => e = .returned (.bool (runO d)) ∧ Below w.heap.size w w' := by
  have hv := rValues_any v d w h (by omega)
  have hL : valsL d = dbits d := by rw [valsL, ha]; rfl
  rw [ha, hL] at hv
  have hbit := dbits_bit d
  have hlen := dbits_len d
  have hO : runO d = (decide (6 ≤ (left 16 (dbits d)).length) || (num (left 16 (dbits d)) != 0)) := rfl
  generalize runO d = O at *
  generalize dbits d = L at *
  have hl2 : L.length ≤ 60000 := by omega
  have hll := left_len 16 L
  have hnum := fun v w' h' => rnumber_any v (left 16 L) w' h' (hbit.drop _) (by omega)
  have hd : L.drop (16 * (L.length / 16)) = left 16 L := rfl
  have hdm := Nat.div_add_mod L.length 16
  have hll2 : (left 16 L).length = L.length - 16 * (L.length / 16) := by omega
  rw [hll2] at hO
  generalize num (left 16 L) = z at *
  generalize left 16 L = P at *
  generalize hi : L.length / 16 = i at *
  have hi2 : ((L.length : Int) / 16) = (i : Int) := by omega
  have HV := Lib.hid hv; have HN := Lib.hid hnum; have HO := Lib.hid hO; have HD := Lib.hid hd; have HI := Lib.hid hi
  clear hv hnum hO hd hi hll hdm hll2 hlen hL
  have hile : 16 * i ≤ L.length := by have := HI.out; omega
  by_cases hn : 6 ≤ L.length - 16 * i
  case' pos =>
    have hn2 : 6 ≤ (L.length : Int) - i * 16 := by omega
    have hn3 : decide (6 ≤ (L.length : Int) - i * 16) = true := decide_eq_true hn2
    have e6 : decide (6 ≤ L.length - 16 * i) = true := decide_eq_true hn
  case' neg =>
    have hn2 : (L.length : Int) - i * 16 < 6 := by omega
    have hn3 : decide (6 ≤ (L.length : Int) - i * 16) = false := decide_eq_false (by omega)
    have e6 : decide (6 ≤ L.length - 16 * i) = false := decide_eq_false hn
  all_goals
    rcases hz : (z == 0) with _ | _
    all_goals
      have HO2 := HO.out
      rw [e6, show (z != 0) = !(z == 0) from rfl, hz] at HO2
      subst HO2
      have HZ := Lib.hid hz
      clear hn HO
      go_enter Try.func50, Try.ntmps50
      go_wp2_with (first | (go_at_call 53; refine (HV.out).mono ?_; rintro e w1 ⟨t, rfl, ho, hb⟩; have rL := ho.row; clear ho; obtain ⟨a, b, off, cp, rfl, hcp, _⟩ := id rL.int) | ((refine wpList_slL slT_int _ _ rfl rfl rfl rfl rL (by omega) (by simp [ints]; omega) ?_; intro v2 hv2; have r2 := hv2 w1 rL; rw [show ((i : Int) * 16).toNat = 16 * i by omega, ints_drop, HD.out] at r2)) | (go_at_call 54; refine (HN.out _ _ r2).mono ?_; rintro e w3 ⟨rfl, rfl⟩))
      go_ret
      exact ⟨ret_bool (by first | rfl | (rw [show (z != 0) = !(z == 0) from rfl, HZ.out]; rfl)), hb⟩
def digB : Option Int → Bool
  | some c => decide (0 ≤ dv c)
  | none => false
theorem rdigit_any (v : Value) (xs : List Int) (k : Nat) (w : World) (h : Row w v (ints .u8 xs)) :
    Calls Try.prog 49 #[v, .int .i64 k] w fun e w' => e = .returned (.bool (digB xs[k]?)) ∧ w' = w := by
  obtain ⟨a, b, off, cp, rfl, HC⟩ := h.op
  by_cases hk : k < xs.length
  · obtain ⟨c, HX, rfl, hc⟩ := HC.out k hk
    replace hc := hc _ (Below.refl _ _)
    have hb : digB xs[k]? = decide (0 ≤ dv c) := by rw [HX.out]; rfl
    rw [hb]
    have hv := fun w => rValue_any c w
    generalize decide (0 ≤ dv c) = q at *
    have HV := Lib.hid hv; clear hv hb
    go_enter Try.func49, Try.ntmps49
    go_wp2_with (go_at_call 79; refine (HV.out _).mono ?_; rintro e w' ⟨rfl, rfl⟩)
    go_ret
    exact ⟨rfl, rfl⟩
  · have hb : digB xs[k]? = false := by rw [List.getElem?_eq_none (by omega)]; rfl
    rw [hb]
    clear hb
    go_enter Try.func49, Try.ntmps49
    go_wp2
    go_ret
    exact ⟨rfl, rfl⟩
theorem orun_any (v : Value) (d : List Int) (w : World) (h : Row w v (ints .u8 d)) (hg : Rg 0 256 d) (hl : d.length ≤ 10000) :
    Calls Try.prog 52 #[v] w fun e w' => ∃ t, e = .returned (.tuple #[t, .bool (runR d), .bool (allD d && runO d)]) ∧ Own w.heap.size 21 w' t (ints .i32 (runT d)) ∧ Below w.heap.size w w' := by
  have hbt := obits_any v d w h hg hl
  have hU := fun v w' h' => uRead_any v (runU d) w' h' (runU_rng d) (Nat.le_trans (runU_len d) (by omega))
  have hQ := fun v w' h' => uRight_any v (runU d) w' h' (runU_rng d) (Nat.le_trans (runU_len d) (by omega))
  have hT : allD d = true → runT d = (uread (runU d)).map Prod.fst := fun ha => by rw [runT, ha]; rfl
  have hT2 : allD d = false → runT d = [] := fun ha => by rw [runT, ha]; rfl
  have hR : runR d = (allD d && (ferr ((uread (runU d)).map Prod.snd) == 0 && !runO d)) := rfl
  have hO : runO d = (decide (6 ≤ (left 16 (dbits d)).length) || (num (left 16 (dbits d)) != 0)) := rfl
  generalize runT d = T at *
  generalize runR d = R at *
  generalize runO d = O at *
  generalize (uread (runU d)).map Prod.fst = T1 at *
  generalize runU d = U at *
  have hll : (left 16 (dbits d)).length ≤ 15 := by rw [left_len]; omega
  generalize (left 16 (dbits d)).length = m at *
  generalize (num (left 16 (dbits d)) != 0) = z at *
  generalize (ferr ((uread U).map Prod.snd) == 0) = q at *
  generalize allD d = A at *
  have HB := Lib.hid hbt; have HU := Lib.hid hU; have HQ := Lib.hid hQ
  clear hbt hU hQ
  cases A with
  | false =>
    obtain rfl := hT2 rfl
    have hR2 : R = false := hR
    subst hR2
    clear hT hT2 hR hO
    go_enter Try.func52, Try.ntmps52
    go_wp2_with (go_at_call 81; refine (HB.out).mono ?_; rintro e w1 (⟨⟨⟩, _⟩ | ⟨_, rfl, hb⟩))
    go_ret3
    exact ⟨_, ret3 rfl rfl (bv rfl), Own.nil _ _ _, hb⟩
  | true =>
    obtain rfl := hT rfl
    have hR2 : R = (q && !O) := hR
    clear hT hT2 hR
    have HR2 := Lib.hid hR2; have HO := Lib.hid hO
    clear hR2 hO
    by_cases hm : 6 ≤ m
    case' pos =>
      have hd : decide (6 ≤ m) = true := decide_eq_true hm
      have hd2 : decide (6 ≤ (m : Int)) = true := decide_eq_true (by omega)
      have hm2 : 6 ≤ (m : Int) := by omega
    case' neg =>
      have hd : decide (6 ≤ m) = false := decide_eq_false hm
      have hd2 : decide (6 ≤ (m : Int)) = false := decide_eq_false (by omega)
      have hm2 : (m : Int) < 6 := by omega
    all_goals
      have HDD := Lib.hid hd
      clear hd hm
      rcases z with _ | _ <;> rcases q with _ | _
      all_goals
        have hO2 := HO.out
        rw [HDD.out] at hO2
        have hR3 := HR2.out
        rw [hO2] at hR3
        have HO3 := Lib.hid hO2; have HR3 := Lib.hid hR3
        clear hO2 hR3 HO HR2
        go_enter Try.func52, Try.ntmps52
        go_wp2_with (first | (go_at_call 81; refine (HB.out).mono ?_; rintro e w1 (⟨_, t, rfl, ho, hb⟩ | ⟨⟨⟩, _⟩)) | (go_at_call 82; refine (HU.out _ _ ho.row).mono ?_; rintro e w2 ⟨t2, rfl, ho2, hb2⟩) | (go_at_call 83; refine (HQ.out _ _ (ho.row.below hb2)).mono ?_; rintro e w3 ⟨rfl, hb3⟩))
        go_ret3
        exact ⟨t2, ret3 rfl (bv (by rw [HR3.out]; rfl)) (bv (by rw [HO3.out]; rfl)), (ho2.below hb3).mono hb.size, below_trans (below_trans hb hb2) hb3⟩
theorem oRun_any (v : Value) (d : List Int) (w : World) (h : Row w v (ints .u8 d)) (hg : Rg 0 256 d) (hl : d.length ≤ 10000) :
    Calls Try.prog 20 #[v] w fun e w' => ∃ t, e = .returned (.tuple #[t, .bool (runR d)]) ∧ Own w.heap.size 21 w' t (ints .i32 (runT d)) ∧ Below w.heap.size w w' := by
  have hr := orun_any v d w h hg hl
  generalize runR d = R at *
  generalize (allD d && runO d) = O at *
  have HR := Lib.hid hr; clear hr
  go_enter Try.func20, Try.ntmps20
  go_wp2_with (go_at_call 52; refine (HR.out).mono ?_; rintro e w1 ⟨t, rfl, ho, hb⟩)
  go_ret2
  exact ⟨t, ret2 rfl rfl, ho, hb⟩
end Go.Proofs.Ytieeafkbgmpofaa
