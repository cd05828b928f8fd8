/- Walks: the reference's run. -/
import Derived.Test.YtieeafkbgmpofaaW23b
import Derived.Test.YtieeafkbgmpofaaW3
import Derived.Test.YtieeafkbgmpofaaW4
namespace Go.Proofs.Ytieeafkbgmpofaa
open Go.RowKit
set_option maxHeartbeats 1000000
/-- The units of a run's digits, its signs, what is left over, and whether it is right. -/
def runU (d : List Int) : List Int := wholes 16 (dbits d)
def runT (d : List Int) : List Int := if allD d then (uread (runU d)).map Prod.fst else []
def runO (d : List Int) : Bool := decide (6 ≤ (left 16 (dbits d)).length) || (num (left 16 (dbits d)) != 0)
def runR (d : List Int) : Bool := allD d && (ferr ((uread (runU d)).map Prod.snd) == 0 && !runO d)
theorem runU_rng (d : List Int) : Rg 0 65536 (runU d) := by
  intro x hx
  obtain ⟨j, _, rfl⟩ := List.mem_map.1 hx
  have h1 := num_rng (((dbits_bit d).drop (16 * j)).take 16)
  have h2 : (2 : Nat) ^ (((dbits d).drop (16 * j)).take 16).length ≤ 2 ^ 16 := Nat.pow_le_pow_right (by omega) (by rw [List.length_take]; omega)
  have h3 := Int.ofNat_le.2 h2
  simp only [Int.natCast_pow] at h3
  have h4 : ((2 : Nat) : Int) ^ 16 = 65536 := rfl
  rw [h4] at h3
  exact ⟨h1.1, Int.lt_of_lt_of_le h1.2 h3⟩
theorem runU_len (d : List Int) : (runU d).length ≤ d.length := by
  rw [runU, wholes, chunk_len, dbits_len]; omega
set_option maxRecDepth 100000 in
theorem rRun_any (v : Value) (d : List Int) (w : World) (h : Row w v (ints .u8 d)) (hl : d.length ≤ 10000) :
    Calls Try.prog 21 #[v] w fun e w' => ∃ t, e = .returned (.tuple #[t, .bool (runR d), .bool (allD d)]) ∧ Own w.heap.size 21 w' t (ints .i32 (runT d)) ∧ Below w.heap.size w w' := by
  have hv := fun w' h' => rValues_any v d w' h' (by omega)
  cases ha : allD d with
  | false =>
    rw [ha] at hv
    have HV := Lib.hid hv; clear hv
    go_enter Try.func21, Try.ntmps21
    go_wp2_with (go_at_call 53; refine (HV.out _ h).mono ?_; rintro e w1 ⟨t, rfl, ho, hb⟩)
    go_ret3
    exact ⟨_, ret3 rfl (bv (by rw [runR, ha]; rfl)) rfl, by rw [runT, ha]; exact Own.nil _ _ _, hb⟩
  | true =>
    have hL : valsL d = dbits d := by rw [valsL, ha]; rfl
    rw [ha, hL] at hv
    have hT : runT d = (uread (runU d)).map Prod.fst := by rw [runT, ha]; rfl
    have hR : runR d = (ferr ((uread (runU d)).map Prod.snd) == 0 && !runO d) := by rw [runR, ha]; rfl
    have hU : runU d = wholes 16 (dbits d) := rfl
    have hO : runO d = (decide (6 ≤ (left 16 (dbits d)).length) || (num (left 16 (dbits d)) != 0)) := rfl
    have hrd := fun v w' h' => rread_any v (runU d) w' h' (runU_rng d) (Nat.le_trans (runU_len d) (by omega))
    have hUr := runU_rng d
    have hbit := dbits_bit d
    have hlen := dbits_len d
    rw [hT, hR]
    clear hT hR
    generalize runU d = U at *
    generalize runO d = O at *
    generalize (uread U).map Prod.fst = T at *
    generalize ferr ((uread U).map Prod.snd) = q at *
    generalize dbits d = L at *
    have HV := Lib.hid hv; have HU := Lib.hid hU; have HO := Lib.hid hO; have HRD := Lib.hid hrd; have HLEN := Lib.hid hlen
    have hLl : L.length ≤ 60000 := by omega
    clear hv hU hO hrd hlen hL
    go_enter Try.func21, Try.ntmps21
    go_wp2_with (go_at_call 53; refine (HV.out _ h).mono ?_; rintro e w1 ⟨t, rfl, ho, hb⟩; have rL := ho.row; clear ho; obtain ⟨a, b, off, cp, rfl, hcp, _⟩ := id rL.int)
    go_loopw [7, 8] (fun u i wr => ∃ k : Nat, i = .int .i64 ((16 * k : Nat) : Int) ∧ 16 * k ≤ L.length ∧ Own w1.heap.size 63 wr u (ints .u16 (chunk 16 L k)) ∧ Below w1.heap.size w1 wr) (fun _ i _ => L.length - (intOf i).toNat)
    case atStart => exact ⟨0, rfl, by omega, Own.nil _ _ _, Below.refl _ _⟩
    case round =>
      obtain ⟨k, rfl, hk, hown, hbr⟩ := hrel
      by_cases hlt : 16 * k + 16 ≤ L.length
      · have h1 := num_rng ((hbit.drop (16 * k)).take 16)
        have hlen2 : ((L.drop (16 * k)).take 16).length = 16 := by rw [List.length_take, List.length_drop]; omega
        have hcs := chunk_succ 16 L k
        have hcl : (ints .u16 (chunk 16 L k)).length = k := by rw [ints_length, chunk_len]
        have hnum := fun v w' h' => rnumber_any v ((L.drop (16 * k)).take 16) w' h' ((hbit.drop _).take _) (by omega)
        have hdt : (L.take (16 * k + 16)).drop (16 * k) = (L.drop (16 * k)).take 16 := by rw [List.drop_take]; congr 1; omega
        rw [hlen2] at h1
        generalize num ((L.drop (16 * k)).take 16) = z at *
        generalize (L.drop (16 * k)).take 16 = P at *
        have hz1 : 0 ≤ z := h1.1
        have hz2 : z < 65536 := h1.2
        have HCS := Lib.hid hcs; have HCL := Lib.hid hcl; have HN := Lib.hid hnum; have HDT := Lib.hid hdt
        clear hcs hcl hnum hdt h1 hlen2
        generalize hi : 16 * k = i at *
        go_wp2_with (first | (refine wpList_slLH slT_int _ _ _ rfl rfl rfl rfl rfl (rL.below hbr) (by omega) (by omega) (by simp [ints]; omega) ?_; intro v2 hv2; have r2 := hv2 wr (rL.below hbr); rw [show ((i : Int) + 16).toNat = i + 16 by omega, Int.toNat_natCast, ints_take, ints_drop, HDT.out] at r2) | (go_at_call 54; refine (HN.out _ _ r2).mono ?_; rintro e w2 ⟨rfl, rfl⟩) | (at_builtin; refine wpList_app slT_u16 _ _ _ rfl rfl rfl rfl (hown.alloc _) (Row.ilit [_] [_] rfl (by simp)) (by have h9 := HCL.out; rw [h9]; simp [ints]; omega) (by have := hbr.size; simp; omega) ?_; intro t3 w3 hown3 hg3))
        have hb3 := below_app hbr (below_alloc _ _) (hown.alloc _) hg3
        rw [← ints_append, ← HCS.out] at hown3
        go_roundw
        case rel => exact ⟨k + 1, by congr 1; omega, by omega, hown3, hb3⟩
        case measure => simp [intOf]; omega
      · have hk2 : k = L.length / 16 := by omega
        have hu : chunk 16 L k = U := by rw [hk2, HU.out]; rfl
        rw [hu] at hown
        have hd : L.drop (16 * k) = left 16 L := by rw [hk2]; rfl
        have hll : (left 16 L).length = L.length - 16 * k := by rw [← hd, List.length_drop]
        have hnum := fun v w' h' => rnumber_any v (left 16 L) w' h' (hbit.drop _) (by omega)
        have ho := HO.out
        rw [hll] at ho
        generalize num (left 16 L) = z at *
        generalize left 16 L = P at *
        have HN := Lib.hid hnum; have HD := Lib.hid hd; have HO2 := Lib.hid ho
        clear hnum hd ho HO hu hll hk2
        generalize hi : 16 * k = i at *
        have ho3 : O = (decide (6 ≤ L.length - i) || !(z == 0)) := HO2.out
        have HO3 := Lib.hid ho3; clear ho3 HO2
        by_cases hn : L.length - i < 6
        case' pos =>
          have hn2 : (L.length : Int) - i < 6 := by omega
          have e6 : decide (6 ≤ L.length - i) = false := decide_eq_false (by omega)
        case' neg =>
          have hn2 : 6 ≤ (L.length : Int) - i := by omega
          have e6 : decide (6 ≤ L.length - i) = true := decide_eq_true (by omega)
        all_goals
          clear hn
          have E6 := Lib.hid e6; clear e6
          rcases hq : (q == 0) with _ | _ <;> rcases hz : (z == 0) with _ | _
          all_goals
            have HQ := Lib.hid hq
            have hO2 := HO3.out
            rw [E6.out, hz] at hO2
            have HO2 := Lib.hid hO2; clear hO2
            go_wp2_with (first | (go_at_call 55; refine (HRD.out _ _ hown.row).mono ?_; rintro e w2 ⟨t2, rfl, ho2, hb2⟩; have hb3 := below_trans hbr hb2) | (refine wpList_slL slT_int _ _ rfl rfl rfl rfl (rL.below hb3) (by omega) (by simp [ints]; omega) ?_; intro v2 hv2; have r2 := hv2 w2 (rL.below hb3); rw [Int.toNat_natCast, ints_drop, HD.out] at r2) | (go_at_call 54; refine (HN.out _ _ r2).mono ?_; rintro e w3 ⟨rfl, rfl⟩))
            go_ret3
            exact ⟨_, ret3 rfl (bv (by first | (rw [HO2.out]; rfl) | (rw [HQ.out, HO2.out]; rfl))) rfl, ho2.mono (Nat.le_trans hb.size hbr.size), below_trans hb hb3⟩
end Go.Proofs.Ytieeafkbgmpofaa
