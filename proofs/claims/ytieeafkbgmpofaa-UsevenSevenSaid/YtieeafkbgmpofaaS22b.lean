/- The statement of layer 22 on seven bits, walked. -/
import Derived.Test.YtieeafkbgmpofaaS22
namespace Go.Proofs.Ytieeafkbgmpofaa
open Go.RowKit
set_option maxHeartbeats 1000000
set_option maxRecDepth 100000 in
theorem UsevenSeven_walk (v : Value) (xs : List Int) (w : World) (h : Row w v (ints .i32 xs)) (g : WF .i32 xs) :
    Calls Try.prog 6 #[v] w fun e w' => e = .returned (.bool true) ∧ Below w.heap.size w w' := by
  obtain ⟨a, b, off, cap, rfl, HC⟩ := id h.op
  have hb := Below.refl w.heap.size w
  by_cases hl : xs.length ≤ 200
  · have hgx : R32 xs := fun x hx => wf_i32 (g x hx)
    have hA := fun v w' h' => oLay_any v xs w' h' hgx (by omega)
    have hF := fun v w' h' => rfirst_any v xs w' h' (by omega)
    have hidx := allSc_idx (xs := xs)
    have hLA : (∀ c ∈ (if allSc xs then (lay xs).1 else []), sevB c = true) ∧ (if allSc xs then (lay xs).1 else []).length ≤ 2200 := by
      have h1 := lay_sev _ xs (Nat.le_refl _)
      have h2 := lay_len _ xs (Nat.le_refl _)
      split
      · exact ⟨h1, by omega⟩
      · exact ⟨by simp, by simp⟩
    have hER : ((if allSc xs then (0 : Int) else 7) == 0) = allSc xs := by cases allSc xs <;> rfl
    generalize (if allSc xs then (lay xs).1 else []) = LA at *
    generalize (if allSc xs then (0 : Int) else 7) = er at *
    rw [hidx] at hER
    generalize idx (fun c => !scB c) xs = fi at *
    have hPg : R32 (xs.filter dirB) := fun x hx => hgx x (List.mem_filter.1 hx).1
    have hPd : ∀ c ∈ xs.filter dirB, dirB c = true := fun c hc => (List.mem_filter.1 hc).2
    have hPl : (xs.filter dirB).length ≤ xs.length := List.length_filter_le _ _
    have hP := fun v w' h' => oLay_any v (xs.filter dirB) w' h' hPg (by omega)
    have hU := fun v w' h' => oRuns_any v (xs.filter dirB) w' h' hPg (by omega)
    rw [lay_dir _ hPd, show allSc (xs.filter dirB) = true from List.all_eq_true.2 fun c hc => sc_dir (hPd c hc)] at hP
    rw [lay_dir _ hPd] at hU
    simp only [if_true, eq_self] at hP hU
    have hS := fun v w' h' => oSeven_any v LA w' h' (sev_rng hLA.1) (by omega)
    rw [show LA.all sevB = true from List.all_eq_true.2 hLA.1] at hS
    have HPL : Hid ((xs.filter dirB).length ≤ 200) := by show _ ≤ _; omega
    have HFIL : ∀ (k : Nat) (c : Int), xs[k]? = some c → (xs.take (k + 1)).filter dirB = (xs.take k).filter dirB ++ (if dirB c then [c] else []) := fun k c hk => by
      rw [List.take_add_one, hk, List.filter_append]
      congr 1
      simp only [Option.toList]
      rw [List.filter_cons]
      rfl
    have HPG : Hid (∀ c ∈ xs.filter dirB, 0 ≤ c ∧ c < 128) := fun c hc => by have := dir_cases (hPd c hc); omega
    have HA := Lib.hid hA; have HF := Lib.hid hF; have HP := Lib.hid hP; have HU := Lib.hid hU; have HS := Lib.hid hS; have HLA := Lib.hid hLA; have HER := Lib.hid hER; have HFI2 := Lib.hid HFIL
    clear hA hF hP hU hS hLA hER hidx HFIL hPg hPd hPl
    have hrow := h
    go_enter Try.func6, Try.ntmps6
    go_wp2_with (go_at_call 27; refine (HA.out _ _ hrow).mono ?_; rintro e w1 ⟨t1, rfl, ho1, hb1⟩; replace hrow := hrow.below hb1; have r1 := ho1.row; clear ho1)
    go_loopw [5, 25] (fun u i wr => ∃ k : Nat, i = .int .i64 k ∧ k ≤ xs.length ∧ Own w1.heap.size 21 wr u (ints .i32 ((xs.take k).filter dirB)) ∧ Below w1.heap.size w1 wr) (fun _ i _ => xs.length - (intOf i).toNat)
    case atStart => exact ⟨0, rfl, Nat.zero_le _, Own.nil _ _ _, Below.refl _ _⟩
    case round =>
      obtain ⟨k, rfl, hk, hown, hbr⟩ := hrel
      by_cases hlt : k < xs.length
      · obtain ⟨c, HX, rfl, hc⟩ := HC.out k hlt
        replace hc := hc _ (below_trans hb1 hbr)
        have hcr := hgx.get HX.out
        have hdir := fun w => oDirect_any c w hcr.1 hcr.2
        have hfil := HFI2.out k c HX.out
        have hkl : ((xs.take k).filter dirB).length ≤ 200 := by have := List.length_filter_le dirB (xs.take k); rw [List.length_take] at this; omega
        cases hd : dirB c with
        | false =>
          rw [hd] at hdir hfil
          have HDIR := Lib.hid hdir; have HFL := Lib.hid hfil; clear hdir hfil hd
          go_wp2_with (go_at_call 23; refine (HDIR.out _).mono ?_; rintro e w' ⟨rfl, hw'⟩; obtain rfl := hw'.symm)
          go_roundw
          case rel => exact ⟨k + 1, by go_num, by omega, by rw [HFL.out]; simpa using hown, hbr⟩
          case measure => simp [intOf]; omega
        | true =>
          rw [hd] at hdir hfil
          have HDIR := Lib.hid hdir; have HFL := Lib.hid hfil; have HKL := Lib.hid hkl; clear hdir hfil hkl hd
          go_wp2_with (first | (go_at_call 23; refine (HDIR.out _).mono ?_; rintro e w' ⟨rfl, hw'⟩; obtain rfl := hw'.symm) | (at_builtin; refine wpList_app slT_i32 _ _ _ rfl rfl rfl rfl (hown.alloc _) (Row.ilit [_] [_] rfl (by simp)) (by have := HKL.out; simp only [ints_length]; simp; omega) (by have := hbr.size; simp; omega) ?_; intro t3 w3 hown3 hg3))
          have hb3 := below_app hbr (below_alloc _ _) (hown.alloc _) hg3
          rw [← ints_append] at hown3
          go_roundw
          case rel => exact ⟨k + 1, by go_num, by omega, by rw [HFL.out]; exact hown3, hb3⟩
          case measure => simp [intOf]; omega
      · obtain rfl : k = xs.length := by omega
        rw [List.take_length] at hown
        have rp := hown.row
        replace hrow := hrow.below hbr
        replace r1 := r1.below hbr
        replace hb := below_trans hb1 hbr
        clear hown hbr hb1 hlt hk
        generalize xs.filter dirB = PL at *
        obtain ⟨a1, b1, o1, c1, rfl, C1⟩ := id r1.op
        obtain ⟨ap, bp, op, cp, rfl, CP⟩ := id rp.op
        have hne : ((PL.length : Int) != PL.length) = false := by simp
        go_wp2_with (first | (go_at_call 27; refine (HP.out _ _ rp).mono ?_; rintro e w2 ⟨t2, rfl, ho2, hb2⟩; have r2 := ho2.row; replace rp := rp.below hb2; replace r1 := r1.below hb2; replace hrow := hrow.below hb2; replace hb := below_trans hb hb2; clear ho2 hb2; obtain ⟨a2, b2, o2, c2, rfl, C2⟩ := id r2.op) | (go_at_call 28; refine (HU.out _ _ rp).mono ?_; rintro e w3 ⟨rfl, hb3⟩; replace rp := rp.below hb3; replace r2 := r2.below hb3; replace r1 := r1.below hb3; replace hrow := hrow.below hb3; replace hb := below_trans hb hb3; clear hb3))
        clear C1 CP C2
        obtain ⟨_, bp, op, _, hq, CP⟩ := rp.op
        cases hq
        obtain ⟨_, b2, o2, _, hq, C2⟩ := r2.op
        cases hq
        go_loopw [57] (fun i wr => ∃ k : Nat, i = .int .i64 k ∧ k ≤ PL.length ∧ Below w3.heap.size w3 wr) (fun i _ => PL.length - (intOf i).toNat)
        case atStart => exact ⟨0, rfl, Nat.zero_le _, Below.refl _ _⟩
        case round =>
          obtain ⟨k, rfl, hk, hbr⟩ := hrel
          by_cases hlt : k < PL.length
          · obtain ⟨x, HX, rfl, hc⟩ := CP.out k hlt
            obtain ⟨y, HY, rfl, hd⟩ := C2.out k hlt
            replace hc := hc wr hbr
            replace hd := hd wr hbr
            have e9 := HX.out; rw [HY.out] at e9; obtain rfl := Option.some.inj e9
            have hx := HPG.out y (List.mem_of_getElem? HY.out)
            have hx0 := hx.1
            have hx1 := hx.2
            have hwr : IntKind.i32.wrap y = y := by rw [IntKind.wrap_i32]; omega
            have hyy : (y != y) = false := by simp
            have hpl := HPL.out
            clear hx
            go_wp2_with fail
            go_roundw
            case rel => exact ⟨k + 1, by go_num, by omega, hbr⟩
            case measure => simp [intOf]; omega
          · obtain rfl : k = PL.length := by omega
            replace hrow := hrow.below hbr
            replace r1 := r1.below hbr
            replace hb := below_trans hb hbr
            clear hbr hk hlt
            obtain ⟨_, b1, o1, _, hq, C1⟩ := id r1.op
            cases hq
            go_wp2_with fail
            clear rp r2 CP C2
            go_loopw [72] (fun i wq => ∃ j : Nat, i = .int .i64 j ∧ j ≤ LA.length ∧ Below wr.heap.size wr wq) (fun i _ => LA.length - (intOf i).toNat)
            case atStart => exact ⟨0, rfl, Nat.zero_le _, Below.refl _ _⟩
            case round =>
              obtain ⟨j, rfl, hj, hbq⟩ := hrel
              by_cases hlj : j < LA.length
              · obtain ⟨x, HX, rfl, hc⟩ := C1.out j hlj
                replace hc := hc _ hbq
                have hx := of_decide_eq_true (HLA.out.1 x (List.mem_of_getElem? HX.out))
                have hx1 := hx.1
                have hln := HLA.out.2
                clear hx
                go_wp2_with fail
                go_roundw
                case rel => exact ⟨j + 1, by go_num, by omega, hbq⟩
                case measure => simp [intOf]; omega
              · replace hrow := hrow.below hbq
                replace r1 := r1.below hbq
                replace hb := below_trans hb hbq
                have hlj2 : ¬ ((j : Int) < LA.length) := by omega
                clear hbq hj hlj C1
                have her := HER.out
                rcases Int.lt_or_le fi 0 with hfi | hfi
                case' inl => rw [decide_eq_true hfi] at her
                case' inr => rw [decide_eq_false (by omega)] at her
                all_goals
                  go_wp2_with (first | (go_at_call 29; refine (HF.out _ _ hrow).mono ?_; rintro e w5 ⟨rfl, hw5⟩; obtain rfl := hw5) | (go_at_call 25; refine (HS.out _ _ r1).mono ?_; rintro e w6 ⟨rfl, hb6⟩; replace hb := below_trans hb hb6) | (go_at_call 22; refine (alive22_any _).mono ?_; rintro e w7 ⟨rfl, hb7⟩; replace hb := below_trans hb hb7))
                  go_ret
                  refine ⟨?_, hb⟩
                  clear HPL HF HS HA HP HU HPG HFI2 HLA
                  simp only [Ending.returned.injEq]
                  try simp
                  try omega
  · go_enter Try.func6, Try.ntmps6
    go_wp2_with (go_at_call 22; refine (alive22_any _).mono ?_; rintro e w7 ⟨rfl, hb7⟩)
    go_ret
    exact ⟨rfl, hb7⟩
end Go.Proofs.Ytieeafkbgmpofaa
