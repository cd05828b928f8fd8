/- Walks: laying, by the reference. -/
import Derived.Test.YtieeafkbgmpofaaW22l
import Derived.Test.YtieeafkbgmpofaaW5
import Derived.Test.YtieeafkbgmpofaaK3
namespace Go.Proofs.Ytieeafkbgmpofaa
open Go.RowKit
set_option maxHeartbeats 2000000
set_option linter.unusedSimpArgs false
def layR (xs : List Int) : List Int := if allSc xs then (lay xs).1 else []
def layE (xs : List Int) : Int := if allSc xs then 0 else 7
set_option maxRecDepth 100000 in
theorem rLay22_any (v : Value) (xs : List Int) (w : World) (h : Row w v (ints .i32 xs)) (hg : R32 xs) (hl : xs.length ≤ 5000) :
    Calls Try.prog 30 #[v] w fun e w' => ∃ t, e = .returned (.tuple #[t, .int .i64 (lay xs).2, .int .i64 (layE xs)]) ∧ Own w.heap.size 5 w' t (ints .u8 (layR xs)) ∧ Below w.heap.size w w' := by
  obtain ⟨a, b, off, cp, rfl, HC⟩ := id h.op
  have hcap : Hid (xs.length ≤ cp) := by obtain ⟨_, _, _, _, hv, hc, _⟩ := h.int; cases hv; exact hc
  have hru := rRuns_any _ xs w h hg hl
  have hfi := fun w' h' => rfirst_any (.slice a xs.length cp) xs w' h' (by omega)
  have hidx := allSc_idx (xs := xs)
  have e1 : layR xs = if allSc xs then (lay xs).1 else [] := rfl
  have e2 : layE xs = if allSc xs then 0 else 7 := rfl
  generalize layR xs = LR at *
  generalize layE xs = LE at *
  generalize (lay xs).2 = N at *
  generalize idx (fun c => !scB c) xs = fi at *
  cases ha : allSc xs with
  | false =>
    rw [ha] at e1 e2 hidx
    have hf0 : 0 ≤ fi := by have := of_decide_eq_false hidx.symm; omega
    have e1' : LR = [] := e1
    have e2' : LE = 7 := e2
    subst e1' e2'
    have HRU := Lib.hid hru; have HFI := Lib.hid hfi; clear hru hfi hidx e1 e2
    go_enter Try.func30, Try.ntmps30
    go_wp2_with (first | (go_at_call 61; refine (HRU.out).mono ?_; rintro e w1 ⟨rfl, hb1⟩) | (go_at_call 29; refine (HFI.out _ (h.below hb1)).mono ?_; rintro e w2 ⟨rfl, hw⟩; obtain rfl := hw))
    go_ret3
    exact ⟨_, ret3 rfl rfl rfl, Own.nil _ _ _, hb1⟩
  | true =>
    rw [ha] at e1 e2 hidx
    have hf0 : fi < 0 := of_decide_eq_true hidx.symm
    have e1' : LR = (lay xs).1 := e1
    have e2' : LE = 0 := e2
    subst e1' e2'
    have HRU := Lib.hid hru; have HFI := Lib.hid hfi; clear hru hfi hidx e1 e2
    go_enter Try.func30, Try.ntmps30
    go_wp2_with (first | (go_at_call 61; refine (HRU.out).mono ?_; rintro e w1 ⟨rfl, hb1⟩) | (go_at_call 29; refine (HFI.out _ (h.below hb1)).mono ?_; rintro e w2 ⟨rfl, hw⟩; obtain rfl := hw))
    go_loopw [6, 7] (fun u iv wr => ∃ (p : Nat) (O : List Int), iv = .int .i64 p ∧ p ≤ xs.length ∧ O.length ≤ 11 * p ∧ Hid ((lay xs).1 = O ++ (lay (xs.drop p)).1) ∧ Own w1.heap.size 5 wr u (ints .u8 O) ∧ Below w1.heap.size w1 wr) (fun _ i _ => xs.length - (intOf i).toNat)
    case atStart => exact ⟨0, [], rfl, Nat.zero_le _, Nat.le_refl _, (by simp : (lay xs).1 = [] ++ (lay (xs.drop 0)).1), Own.nil _ _ _, Below.refl _ _⟩
    case round =>
      obtain ⟨p, O, rfl, hp, hO, HS, hown, hbr⟩ := hrel
      by_cases hlt : p < xs.length
      · obtain ⟨c, HX, rfl, hc⟩ := HC.out p hlt
        have HCF := Lib.hid hc
        replace hc := hc _ (below_trans hb1 hbr)
        have hcr := hg.get HX.out
        have hdir := fun w => rDirect_any c w hcr.1 hcr.2
        have hxd : xs.drop p = c :: xs.drop (p + 1) := by
          obtain ⟨k1, k2⟩ := List.getElem?_eq_some_iff.1 HX.out
          rw [List.drop_eq_getElem_cons k1, k2]
        have hs := HS.out
        rw [hxd, lay_cons, ← hxd, List.drop_drop] at hs
        have hlen1 := lo_len c (xs.drop (p + 1))
        have hlk := lk_le c (xs.drop (p + 1))
        rw [List.length_cons, List.length_drop] at hlk
        rcases hd : dirB c with _ | _
        · rw [hd] at hdir
          have HDIR := Lib.hid hdir; clear hdir
          rcases Decidable.em (c = 43) with rfl | h43
          · have h0 : rn (43 :: xs.drop (p + 1)) = 0 := by rw [rn, if_pos rfl]
            have e3 : lo 43 (xs.drop (p + 1)) = [43, 45] := by rw [lo, if_neg (by omega), if_pos rfl]
            have e4 : lk 43 (xs.drop (p + 1)) = 1 := by rw [lk, if_neg (by omega)]
            rw [e3, e4, ← List.append_assoc] at hs
            have HS2 := Lib.hid hs
            clear hs HS h0 e3 e4 hlen1 hlk hxd hd
            go_wp2_with (first | (go_at_call 24; refine (HDIR.out _).mono ?_; rintro e w' ⟨rfl, hb'⟩; have hb2 := below_trans hbr hb'; have hc2 := HCF.out _ (below_trans hb1 hb2); have hown2 := hown.below hb') | (at_builtin; refine wpList_app slT_u8 _ _ _ rfl rfl rfl rfl (hown2.alloc _) (Row.ilit [43, 45] [_, _] rfl (by simp)) (by simp [ints]; omega) (by have := hb2.size; simp; omega) ?_; intro t3 w3 hown3 hg3))
            have hb3 := below_app hb2 (below_alloc _ _) (hown2.alloc _) hg3
            rw [← ints_append] at hown3
            go_roundw
            case rel => exact ⟨p + 1, _, by go_num, by omega, by simp; omega, HS2, hown3, hb3⟩
            case measure => simp [intOf]; omega
          · have hrn : rn (c :: xs.drop (p + 1)) = dn (xs.drop p) := by rw [rn, if_neg h43, ← hxd]
            have hn0 : 0 < dn (xs.drop p) := by rw [hxd, dn, hd]; simp
            have hle := dn_le (xs.drop p)
            rw [List.length_drop] at hle
            have hin : ∀ j, j < dn (xs.drop p) → ∃ y, xs[p + j]? = some y ∧ dirB y = false := fun j hj => by have := dn_in _ j hj; rwa [List.getElem?_drop] at this
            have hout : ∀ y, xs[p + dn (xs.drop p)]? = some y → dirB y = true := fun y hy => dn_out _ y (by rwa [List.getElem?_drop])
            have e3 : lo c (xs.drop (p + 1)) = 43 :: codeL ((xs.drop p).take (dn (xs.drop p))) ++ [45] := by rw [lo, hrn, if_pos hn0, ← hxd]
            have e4 : lk c (xs.drop (p + 1)) = dn (xs.drop p) := by rw [lk, hrn, if_pos hn0]
            rw [e3, e4] at hs
            generalize dn (xs.drop p) = n at *
            rw [e3, e4] at hlen1
            have hC := fun v w' h' => rCode_any v ((xs.drop p).take n) w' h' (fun y hy => hg y (List.mem_of_mem_drop (List.mem_of_mem_take hy))) (by rw [List.length_take, List.length_drop]; omega)
            generalize codeL ((xs.drop p).take n) = cd at *
            have hLn : O.length + cd.length + 2 ≤ 11 * (p + n) := by simp only [List.length_append, List.length_cons, List.length_nil] at hlen1; omega
            have HIN := Lib.hid hin; have HOUT := Lib.hid hout; have HCODE := Lib.hid hC; have HS2 := Lib.hid hs
            clear hin hout hC hs HS hrn e3 e4 hlen1 hlk hxd hd
            have hpn : p + n ≤ xs.length := by omega
            clear hle
            have h43b : (c == 43) = false := beq_false_of_ne h43
            clear h43
            go_wp2_with (go_at_call 24; refine (HDIR.out _).mono ?_; rintro e w' ⟨rfl, hb'⟩; have hb2 := below_trans hbr hb'; have hc2 := HCF.out _ (below_trans hb1 hb2); have hown2 := hown.below hb')
            go_loopw [8] (fun kv wq => ∃ j : Nat, kv = .int .i64 ((p : Int) + j) ∧ j ≤ n ∧ Below wr.heap.size wr wq) (fun kv _ => xs.length - (intOf kv).toNat)
            case atStart => exact ⟨0, by simp, Nat.zero_le _, hb'⟩
            case round =>
              obtain ⟨j, rfl, hj, hbq⟩ := hrel
              rcases Nat.lt_or_eq_of_le hj with hjn | rfl
              · obtain ⟨y, hy, hyd⟩ := HIN.out j hjn
                obtain ⟨y', HY, _, hcy⟩ := HC.out (p + j) (by omega)
                have e9 := HY.out; rw [hy] at e9; obtain rfl := Option.some.inj e9
                have hyr := hg.get hy
                have hcy2 := hcy _ (below_trans (below_trans hb1 hbr) hbq)
                have hdy := fun w => rDirect_any y w hyr.1 hyr.2
                rw [hyd] at hdy
                have HDY := Lib.hid hdy; clear hdy e9 hcy
                go_wp2_with (go_at_call 24; refine (HDY.out _).mono ?_; rintro e w9 ⟨rfl, hb9⟩)
                go_roundw
                case rel => exact ⟨j + 1, by go_num, by omega, below_trans hbq hb9⟩
                case measure => simp [intOf]; omega
              · have hend : Hid (¬ (((p : Int) + j) < xs.length) ∨ (((p : Int) + j) < xs.length ∧ ∃ y, wr.cell? ⟨b, off + (p + j), none⟩ = some (.int .i32 y) ∧ -2147483648 ≤ y ∧ y ≤ 2147483647 ∧ dirB y = true)) := by
                  by_cases hq : p + j < xs.length
                  · obtain ⟨y, HY, _, hcy⟩ := HC.out (p + j) hq
                    have hyr := hg.get HY.out
                    exact Or.inr ⟨by omega, y, hcy _ (below_trans (below_trans hb1 hbr) hbq), hyr.1, hyr.2, HOUT.out y HY.out⟩
                  · exact Or.inl (by omega)
                rcases hend.out with hq | ⟨hq, y, hcy, hy0, hy1, hyd⟩
                case' inr =>
                  have hdy := fun w => rDirect_any y w hy0 hy1
                  rw [hyd] at hdy
                  have HDY := Lib.hid hdy; clear hdy
                  have hi1 : (0 : Int) ≤ (p : Int) + j := by omega
                  have hi2 : ((p : Int) + j).toNat = p + j := by omega
                  go_wp2_with (go_at_call 24; refine (HDY.out _).mono ?_; rintro e w9 ⟨rfl, hb9⟩; have hbz := below_trans hbq hb9)
                case' inl =>
                  obtain ⟨w9, hw9⟩ : ∃ w9, w9 = wr := ⟨_, rfl⟩
                  subst hw9
                  have hbz := hbq
                  go_wp2_with fail
                all_goals
                  clear hbq
                  have hbz2 := hbz.drew
                  have hi1 : (0 : Int) ≤ (p : Int) + j := by omega
                  have hi2 : ((p : Int) + j).toNat = p + j := by omega
                  have hi3 : ((p : Int) + j) ≤ cp := by have := hcap.out; omega
                  have hi4 : ¬ (cp = p) := by have := hcap.out; omega
                  have hi5 : (p : Int) ≤ (p : Int) + j := by omega
                  have hi6 : p + j - p = j := by omega
                  have hz := below_trans hbr hbz2
                  have ho := hown.below hbz2
                  have hsl : Row w1 (.slice (some ⟨b, off + p, none⟩) j (cp - p)) (ints .i32 ((xs.drop p).take j)) := by
                    have h9 := Row.sub (h.below hb1) (some ⟨b, off, none⟩) cp (by rw [ints_length]) p (p + j) (by omega) (by rw [ints_length]; omega)
                    rw [sliced, if_neg hi4, ints_take, ints_drop, List.drop_take, hi6] at h9
                    simpa [addr_add] using h9
                  have hs3 : (lay xs).1 = (((O ++ [43]) ++ cd) ++ [45]) ++ (lay (xs.drop (p + j))).1 := by have h9 := HS2.out; simpa [List.append_assoc] using h9
                  have HS3 := Lib.hid hs3
                  clear hs3 HS2
                  refine wp_region_held_drew (S := fun _ => True) (by kernel_rfl) trivial (fun hHeld => ?_)
                  generalize World.drew w9 = wd at *
                  clear hbz hbz2
                  refine wpAnyH_take (i := 0) (v := u6) rfl (by kernel_rfl) (by kernel_rfl) (by kernel_rfl) (fun _ _ _ h => h) (Or.inl ⟨by rfl, fun _ _ => by go_simp⟩) hHeld ?_
                  simp only [Act.put, List.getElem_toArray, List.getElem_cons_succ, List.getElem_cons_zero, List.setIfInBounds_toArray, List.set_cons_zero, List.set_cons_succ]
                  refine wpAnyH_take (i := 3) (v := (.slice (some ⟨b, off, none⟩) xs.length cp)) rfl (by kernel_rfl) (by kernel_rfl) (by kernel_rfl) (fun _ _ _ h => h) (Or.inl ⟨by rfl, fun _ _ => by go_simp⟩) hHeld ?_
                  simp only [Act.put, List.getElem_toArray, List.getElem_cons_succ, List.getElem_cons_zero, List.setIfInBounds_toArray, List.set_cons_zero, List.set_cons_succ]
                  refine wpAnyH_take (i := 4) (v := (.int .i64 p)) rfl (by kernel_rfl) (by kernel_rfl) (by kernel_rfl) (fun _ _ _ h => h) (Or.inl ⟨by rfl, fun _ _ => by go_simp⟩) hHeld ?_
                  simp only [Act.put, List.getElem_toArray, List.getElem_cons_succ, List.getElem_cons_zero, List.setIfInBounds_toArray, List.set_cons_zero, List.set_cons_succ]
                  refine wpAnyH_take (i := 5) (v := (.int .i64 ((p : Int) + j))) rfl (by kernel_rfl) (by kernel_rfl) (by kernel_rfl) (fun _ _ _ h => h) (Or.inl ⟨by rfl, fun _ _ => by go_simp⟩) hHeld ?_
                  simp only [Act.put, List.getElem_toArray, List.getElem_cons_succ, List.getElem_cons_zero, List.setIfInBounds_toArray, List.set_cons_zero, List.set_cons_succ]
                  refine wpAnyH_take (i := 6) (v := (.slice (some ⟨b, off + p, none⟩) j (cp - p))) rfl (by kernel_rfl) (by kernel_rfl) (by kernel_rfl) (fun _ _ _ h => h) (Or.inl ⟨by rfl, fun _ _ => by go_simp⟩) hHeld ?_
                  refine wpAnyH_ready (rs := [1, 9]) (by kernel_rfl) (by simp) ?_
                  refine AllReadyH.cons rfl (fun K hK => ?_) ?_
                  · simp only [List.getElem_toArray, List.getElem_cons_succ, List.getElem_cons_zero]
                    go_simp
                    have f43 := Free.ilit (k := .u8) (E' := 5) ho [43] [_] rfl (by simp)
                    replace hz := hz.alloc hz.size (.cells #[.int .u8 43] 5)
                    replace ho := ho.alloc (.cells #[.int .u8 43] 5)
                    refine hK.out _ _ trivial (fun hHeld => ?_)
                    clear hK K
                    generalize World.alloc wd (.cells #[.int .u8 43] 5) = wa1 at *
                    try simp only [Act.put, List.getElem_toArray, List.getElem_cons_succ, List.getElem_cons_zero, List.setIfInBounds_toArray, List.set_cons_zero, List.set_cons_succ]
                    refine wpAnyH_ready (rs := [2, 9]) (by kernel_rfl) (by simp) ?_
                    refine AllReadyH.cons rfl (fun K hK => ?_) ?_
                    · simp only [List.getElem_toArray, List.getElem_cons_succ, List.getElem_cons_zero]
                      rw [if_pos (by rfl)]
                      refine wp_app2 slT_u8 w1.heap.size _ _ (by rfl) (by rfl) (by rfl) ho f43.row (by simp only [List.length_append, ints_length, List.length_cons, List.length_nil]; omega) hz.size ?_
                      intro t2 w2 ho2 hg2 hl2
                      replace hz := below_grown hz ho hg2 hz.size
                      replace ho := ho2
                      refine hK.out _ _ trivial (fun hHeld => ?_)
                      clear hK K
                      try simp only [Act.put, List.getElem_toArray, List.getElem_cons_succ, List.getElem_cons_zero, List.setIfInBounds_toArray, List.set_cons_zero, List.set_cons_succ]
                      refine wpAnyH_ready (rs := [7, 9]) (by kernel_rfl) (by simp) ?_
                      refine AllReadyH.cons rfl (fun K hK => ?_) ?_
                      · simp only [List.getElem_toArray, List.getElem_cons_succ, List.getElem_cons_zero]
                        go_simp
                        (go_at_call 34; refine (HCODE.out _ _ (hsl.below hz)).mono ?_; rintro e w7 ⟨t7, rfl, hoc, hbc⟩; have fcd := Free.of_own hoc ho.blk; replace hz := below_trans hz hbc; replace ho := ho.below hbc)
                        refine hK.out _ _ trivial (fun hHeld => ?_)
                        clear hK K
                        try simp only [Act.put, List.getElem_toArray, List.getElem_cons_succ, List.getElem_cons_zero, List.setIfInBounds_toArray, List.set_cons_zero, List.set_cons_succ]
                        refine wpAnyH_ready (rs := [8, 9]) (by kernel_rfl) (by simp) ?_
                        refine AllReadyH.cons rfl (fun K hK => ?_) ?_
                        · simp only [List.getElem_toArray, List.getElem_cons_succ, List.getElem_cons_zero]
                          rw [if_pos (by rfl)]
                          refine wp_app2 slT_u8 w1.heap.size _ _ (by rfl) (by rfl) (by rfl) ho fcd.row (by simp only [List.length_append, ints_length, List.length_cons, List.length_nil]; omega) hz.size ?_
                          intro t8 w8 ho8 hg8 hl8
                          replace hz := below_grown hz ho hg8 hz.size
                          replace ho := ho8
                          refine hK.out _ _ trivial (fun hHeld => ?_)
                          clear hK K
                          try simp only [Act.put, List.getElem_toArray, List.getElem_cons_succ, List.getElem_cons_zero, List.setIfInBounds_toArray, List.set_cons_zero, List.set_cons_succ]
                          refine wpAnyH_ready (rs := [9]) (by kernel_rfl) (by simp) ?_
                          refine AllReadyH.cons rfl (fun K hK => ?_) ?_
                          · simp only [List.getElem_toArray, List.getElem_cons_succ, List.getElem_cons_zero]
                            go_simp
                            have f45 := Free.ilit (k := .u8) (E' := 5) ho [45] [_] rfl (by simp)
                            replace hz := hz.alloc hz.size (.cells #[.int .u8 45] 5)
                            replace ho := ho.alloc (.cells #[.int .u8 45] 5)
                            refine hK.out _ _ trivial (fun hHeld => ?_)
                            clear hK K
                            generalize World.alloc w8 (.cells #[.int .u8 45] 5) = wa9 at *
                            try simp only [Act.put, List.getElem_toArray, List.getElem_cons_succ, List.getElem_cons_zero, List.setIfInBounds_toArray, List.set_cons_zero, List.set_cons_succ]
                            refine wpAnyH_ready (rs := [10]) (by kernel_rfl) (by simp) ?_
                            refine AllReadyH.cons rfl (fun K hK => ?_) ?_
                            · simp only [List.getElem_toArray, List.getElem_cons_succ, List.getElem_cons_zero]
                              rw [if_pos (by rfl)]
                              refine wp_app2 slT_u8 w1.heap.size _ _ (by rfl) (by rfl) (by rfl) ho f45.row (by simp only [List.length_append, ints_length, List.length_cons, List.length_nil]; omega) hz.size ?_
                              intro t10 w10 ho10 hg10 hl10
                              replace hz := below_grown hz ho hg10 hz.size
                              replace ho := ho10
                              refine hK.out _ _ trivial (fun hHeld => ?_)
                              clear hK K
                              try simp only [Act.put, List.getElem_toArray, List.getElem_cons_succ, List.getElem_cons_zero, List.setIfInBounds_toArray, List.set_cons_zero, List.set_cons_succ]
                              refine wpAnyH_ready (rs := [11]) (by kernel_rfl) (by simp) ?_
                              refine AllReadyH.cons rfl (fun K hK => ?_) AllReadyH.nil
                              simp only [List.getElem_toArray, List.getElem_cons_succ, List.getElem_cons_zero]
                              go_simp
                              refine hK.out _ _ trivial (fun hHeld => ?_)
                              clear hK K
                              refine wpAnyH_done (by kernel_rfl) ?_ _
                              rw [← ints_append, ← ints_append, ← ints_append] at ho
                              go_wp2
                              go_roundw
                              case rel => exact ⟨p + j, _, iv (by omega), hpn, by simp only [List.length_append, List.length_cons, List.length_nil]; omega, HS3, ho, hz⟩
                              case measure => simp [intOf]; omega
                            exact AllReadyH.nil
                          exact AllReadyH.nil
                        refine AllReadyH.cons rfl (fun K hK => ?_) ?_
                        · simp only [List.getElem_toArray, List.getElem_cons_succ, List.getElem_cons_zero]
                          go_simp
                          have f45 := Free.ilit (k := .u8) (E' := 5) ho [45] [_] rfl (by simp)
                          replace fcd := fcd.alloc (.cells #[.int .u8 45] 5)
                          replace hz := hz.alloc hz.size (.cells #[.int .u8 45] 5)
                          replace ho := ho.alloc (.cells #[.int .u8 45] 5)
                          refine hK.out _ _ trivial (fun hHeld => ?_)
                          clear hK K
                          generalize World.alloc w7 (.cells #[.int .u8 45] 5) = wa9 at *
                          try simp only [Act.put, List.getElem_toArray, List.getElem_cons_succ, List.getElem_cons_zero, List.setIfInBounds_toArray, List.set_cons_zero, List.set_cons_succ]
                          refine wpAnyH_ready (rs := [8]) (by kernel_rfl) (by simp) ?_
                          refine AllReadyH.cons rfl (fun K hK => ?_) ?_
                          · simp only [List.getElem_toArray, List.getElem_cons_succ, List.getElem_cons_zero]
                            rw [if_pos (by rfl)]
                            refine wp_app2 slT_u8 w1.heap.size _ _ (by rfl) (by rfl) (by rfl) ho fcd.row (by simp only [List.length_append, ints_length, List.length_cons, List.length_nil]; omega) hz.size ?_
                            intro t8 w8 ho8 hg8 hl8
                            replace f45 := f45.app hg8 hl8
                            replace hz := below_grown hz ho hg8 hz.size
                            replace ho := ho8
                            refine hK.out _ _ trivial (fun hHeld => ?_)
                            clear hK K
                            try simp only [Act.put, List.getElem_toArray, List.getElem_cons_succ, List.getElem_cons_zero, List.setIfInBounds_toArray, List.set_cons_zero, List.set_cons_succ]
                            refine wpAnyH_ready (rs := [10]) (by kernel_rfl) (by simp) ?_
                            refine AllReadyH.cons rfl (fun K hK => ?_) ?_
                            · simp only [List.getElem_toArray, List.getElem_cons_succ, List.getElem_cons_zero]
                              rw [if_pos (by rfl)]
                              refine wp_app2 slT_u8 w1.heap.size _ _ (by rfl) (by rfl) (by rfl) ho f45.row (by simp only [List.length_append, ints_length, List.length_cons, List.length_nil]; omega) hz.size ?_
                              intro t10 w10 ho10 hg10 hl10
                              replace hz := below_grown hz ho hg10 hz.size
                              replace ho := ho10
                              refine hK.out _ _ trivial (fun hHeld => ?_)
                              clear hK K
                              try simp only [Act.put, List.getElem_toArray, List.getElem_cons_succ, List.getElem_cons_zero, List.setIfInBounds_toArray, List.set_cons_zero, List.set_cons_succ]
                              refine wpAnyH_ready (rs := [11]) (by kernel_rfl) (by simp) ?_
                              refine AllReadyH.cons rfl (fun K hK => ?_) AllReadyH.nil
                              simp only [List.getElem_toArray, List.getElem_cons_succ, List.getElem_cons_zero]
                              go_simp
                              refine hK.out _ _ trivial (fun hHeld => ?_)
                              clear hK K
                              refine wpAnyH_done (by kernel_rfl) ?_ _
                              rw [← ints_append, ← ints_append, ← ints_append] at ho
                              go_wp2
                              go_roundw
                              case rel => exact ⟨p + j, _, iv (by omega), hpn, by simp only [List.length_append, List.length_cons, List.length_nil]; omega, HS3, ho, hz⟩
                              case measure => simp [intOf]; omega
                            exact AllReadyH.nil
                          exact AllReadyH.nil
                        exact AllReadyH.nil
                      refine AllReadyH.cons rfl (fun K hK => ?_) ?_
                      · simp only [List.getElem_toArray, List.getElem_cons_succ, List.getElem_cons_zero]
                        go_simp
                        have f45 := Free.ilit (k := .u8) (E' := 5) ho [45] [_] rfl (by simp)
                        replace hz := hz.alloc hz.size (.cells #[.int .u8 45] 5)
                        replace ho := ho.alloc (.cells #[.int .u8 45] 5)
                        refine hK.out _ _ trivial (fun hHeld => ?_)
                        clear hK K
                        generalize World.alloc w2 (.cells #[.int .u8 45] 5) = wa9 at *
                        try simp only [Act.put, List.getElem_toArray, List.getElem_cons_succ, List.getElem_cons_zero, List.setIfInBounds_toArray, List.set_cons_zero, List.set_cons_succ]
                        refine wpAnyH_ready (rs := [7]) (by kernel_rfl) (by simp) ?_
                        refine AllReadyH.cons rfl (fun K hK => ?_) ?_
                        · simp only [List.getElem_toArray, List.getElem_cons_succ, List.getElem_cons_zero]
                          go_simp
                          (go_at_call 34; refine (HCODE.out _ _ (hsl.below hz)).mono ?_; rintro e w7 ⟨t7, rfl, hoc, hbc⟩; have fcd := Free.of_own hoc ho.blk; replace f45 := f45.below hbc; replace hz := below_trans hz hbc; replace ho := ho.below hbc)
                          refine hK.out _ _ trivial (fun hHeld => ?_)
                          clear hK K
                          try simp only [Act.put, List.getElem_toArray, List.getElem_cons_succ, List.getElem_cons_zero, List.setIfInBounds_toArray, List.set_cons_zero, List.set_cons_succ]
                          refine wpAnyH_ready (rs := [8]) (by kernel_rfl) (by simp) ?_
                          refine AllReadyH.cons rfl (fun K hK => ?_) ?_
                          · simp only [List.getElem_toArray, List.getElem_cons_succ, List.getElem_cons_zero]
                            rw [if_pos (by rfl)]
                            refine wp_app2 slT_u8 w1.heap.size _ _ (by rfl) (by rfl) (by rfl) ho fcd.row (by simp only [List.length_append, ints_length, List.length_cons, List.length_nil]; omega) hz.size ?_
                            intro t8 w8 ho8 hg8 hl8
                            replace f45 := f45.app hg8 hl8
                            replace hz := below_grown hz ho hg8 hz.size
                            replace ho := ho8
                            refine hK.out _ _ trivial (fun hHeld => ?_)
                            clear hK K
                            try simp only [Act.put, List.getElem_toArray, List.getElem_cons_succ, List.getElem_cons_zero, List.setIfInBounds_toArray, List.set_cons_zero, List.set_cons_succ]
                            refine wpAnyH_ready (rs := [10]) (by kernel_rfl) (by simp) ?_
                            refine AllReadyH.cons rfl (fun K hK => ?_) ?_
                            · simp only [List.getElem_toArray, List.getElem_cons_succ, List.getElem_cons_zero]
                              rw [if_pos (by rfl)]
                              refine wp_app2 slT_u8 w1.heap.size _ _ (by rfl) (by rfl) (by rfl) ho f45.row (by simp only [List.length_append, ints_length, List.length_cons, List.length_nil]; omega) hz.size ?_
                              intro t10 w10 ho10 hg10 hl10
                              replace hz := below_grown hz ho hg10 hz.size
                              replace ho := ho10
                              refine hK.out _ _ trivial (fun hHeld => ?_)
                              clear hK K
                              try simp only [Act.put, List.getElem_toArray, List.getElem_cons_succ, List.getElem_cons_zero, List.setIfInBounds_toArray, List.set_cons_zero, List.set_cons_succ]
                              refine wpAnyH_ready (rs := [11]) (by kernel_rfl) (by simp) ?_
                              refine AllReadyH.cons rfl (fun K hK => ?_) AllReadyH.nil
                              simp only [List.getElem_toArray, List.getElem_cons_succ, List.getElem_cons_zero]
                              go_simp
                              refine hK.out _ _ trivial (fun hHeld => ?_)
                              clear hK K
                              refine wpAnyH_done (by kernel_rfl) ?_ _
                              rw [← ints_append, ← ints_append, ← ints_append] at ho
                              go_wp2
                              go_roundw
                              case rel => exact ⟨p + j, _, iv (by omega), hpn, by simp only [List.length_append, List.length_cons, List.length_nil]; omega, HS3, ho, hz⟩
                              case measure => simp [intOf]; omega
                            exact AllReadyH.nil
                          exact AllReadyH.nil
                        exact AllReadyH.nil
                      exact AllReadyH.nil
                    refine AllReadyH.cons rfl (fun K hK => ?_) ?_
                    · simp only [List.getElem_toArray, List.getElem_cons_succ, List.getElem_cons_zero]
                      go_simp
                      have f45 := Free.ilit (k := .u8) (E' := 5) ho [45] [_] rfl (by simp)
                      replace f43 := f43.alloc (.cells #[.int .u8 45] 5)
                      replace hz := hz.alloc hz.size (.cells #[.int .u8 45] 5)
                      replace ho := ho.alloc (.cells #[.int .u8 45] 5)
                      refine hK.out _ _ trivial (fun hHeld => ?_)
                      clear hK K
                      generalize World.alloc wa1 (.cells #[.int .u8 45] 5) = wa9 at *
                      try simp only [Act.put, List.getElem_toArray, List.getElem_cons_succ, List.getElem_cons_zero, List.setIfInBounds_toArray, List.set_cons_zero, List.set_cons_succ]
                      refine wpAnyH_ready (rs := [2]) (by kernel_rfl) (by simp) ?_
                      refine AllReadyH.cons rfl (fun K hK => ?_) ?_
                      · simp only [List.getElem_toArray, List.getElem_cons_succ, List.getElem_cons_zero]
                        rw [if_pos (by rfl)]
                        refine wp_app2 slT_u8 w1.heap.size _ _ (by rfl) (by rfl) (by rfl) ho f43.row (by simp only [List.length_append, ints_length, List.length_cons, List.length_nil]; omega) hz.size ?_
                        intro t2 w2 ho2 hg2 hl2
                        replace f45 := f45.app hg2 hl2
                        replace hz := below_grown hz ho hg2 hz.size
                        replace ho := ho2
                        refine hK.out _ _ trivial (fun hHeld => ?_)
                        clear hK K
                        try simp only [Act.put, List.getElem_toArray, List.getElem_cons_succ, List.getElem_cons_zero, List.setIfInBounds_toArray, List.set_cons_zero, List.set_cons_succ]
                        refine wpAnyH_ready (rs := [7]) (by kernel_rfl) (by simp) ?_
                        refine AllReadyH.cons rfl (fun K hK => ?_) ?_
                        · simp only [List.getElem_toArray, List.getElem_cons_succ, List.getElem_cons_zero]
                          go_simp
                          (go_at_call 34; refine (HCODE.out _ _ (hsl.below hz)).mono ?_; rintro e w7 ⟨t7, rfl, hoc, hbc⟩; have fcd := Free.of_own hoc ho.blk; replace f45 := f45.below hbc; replace hz := below_trans hz hbc; replace ho := ho.below hbc)
                          refine hK.out _ _ trivial (fun hHeld => ?_)
                          clear hK K
                          try simp only [Act.put, List.getElem_toArray, List.getElem_cons_succ, List.getElem_cons_zero, List.setIfInBounds_toArray, List.set_cons_zero, List.set_cons_succ]
                          refine wpAnyH_ready (rs := [8]) (by kernel_rfl) (by simp) ?_
                          refine AllReadyH.cons rfl (fun K hK => ?_) ?_
                          · simp only [List.getElem_toArray, List.getElem_cons_succ, List.getElem_cons_zero]
                            rw [if_pos (by rfl)]
                            refine wp_app2 slT_u8 w1.heap.size _ _ (by rfl) (by rfl) (by rfl) ho fcd.row (by simp only [List.length_append, ints_length, List.length_cons, List.length_nil]; omega) hz.size ?_
                            intro t8 w8 ho8 hg8 hl8
                            replace f45 := f45.app hg8 hl8
                            replace hz := below_grown hz ho hg8 hz.size
                            replace ho := ho8
                            refine hK.out _ _ trivial (fun hHeld => ?_)
                            clear hK K
                            try simp only [Act.put, List.getElem_toArray, List.getElem_cons_succ, List.getElem_cons_zero, List.setIfInBounds_toArray, List.set_cons_zero, List.set_cons_succ]
                            refine wpAnyH_ready (rs := [10]) (by kernel_rfl) (by simp) ?_
                            refine AllReadyH.cons rfl (fun K hK => ?_) ?_
                            · simp only [List.getElem_toArray, List.getElem_cons_succ, List.getElem_cons_zero]
                              rw [if_pos (by rfl)]
                              refine wp_app2 slT_u8 w1.heap.size _ _ (by rfl) (by rfl) (by rfl) ho f45.row (by simp only [List.length_append, ints_length, List.length_cons, List.length_nil]; omega) hz.size ?_
                              intro t10 w10 ho10 hg10 hl10
                              replace hz := below_grown hz ho hg10 hz.size
                              replace ho := ho10
                              refine hK.out _ _ trivial (fun hHeld => ?_)
                              clear hK K
                              try simp only [Act.put, List.getElem_toArray, List.getElem_cons_succ, List.getElem_cons_zero, List.setIfInBounds_toArray, List.set_cons_zero, List.set_cons_succ]
                              refine wpAnyH_ready (rs := [11]) (by kernel_rfl) (by simp) ?_
                              refine AllReadyH.cons rfl (fun K hK => ?_) AllReadyH.nil
                              simp only [List.getElem_toArray, List.getElem_cons_succ, List.getElem_cons_zero]
                              go_simp
                              refine hK.out _ _ trivial (fun hHeld => ?_)
                              clear hK K
                              refine wpAnyH_done (by kernel_rfl) ?_ _
                              rw [← ints_append, ← ints_append, ← ints_append] at ho
                              go_wp2
                              go_roundw
                              case rel => exact ⟨p + j, _, iv (by omega), hpn, by simp only [List.length_append, List.length_cons, List.length_nil]; omega, HS3, ho, hz⟩
                              case measure => simp [intOf]; omega
                            exact AllReadyH.nil
                          exact AllReadyH.nil
                        exact AllReadyH.nil
                      exact AllReadyH.nil
                    exact AllReadyH.nil
                  refine AllReadyH.cons rfl (fun K hK => ?_) ?_
                  · simp only [List.getElem_toArray, List.getElem_cons_succ, List.getElem_cons_zero]
                    go_simp
                    have f45 := Free.ilit (k := .u8) (E' := 5) ho [45] [_] rfl (by simp)
                    replace hz := hz.alloc hz.size (.cells #[.int .u8 45] 5)
                    replace ho := ho.alloc (.cells #[.int .u8 45] 5)
                    refine hK.out _ _ trivial (fun hHeld => ?_)
                    clear hK K
                    generalize World.alloc wd (.cells #[.int .u8 45] 5) = wa9 at *
                    try simp only [Act.put, List.getElem_toArray, List.getElem_cons_succ, List.getElem_cons_zero, List.setIfInBounds_toArray, List.set_cons_zero, List.set_cons_succ]
                    refine wpAnyH_ready (rs := [1]) (by kernel_rfl) (by simp) ?_
                    refine AllReadyH.cons rfl (fun K hK => ?_) ?_
                    · simp only [List.getElem_toArray, List.getElem_cons_succ, List.getElem_cons_zero]
                      go_simp
                      have f43 := Free.ilit (k := .u8) (E' := 5) ho [43] [_] rfl (by simp)
                      replace f45 := f45.alloc (.cells #[.int .u8 43] 5)
                      replace hz := hz.alloc hz.size (.cells #[.int .u8 43] 5)
                      replace ho := ho.alloc (.cells #[.int .u8 43] 5)
                      refine hK.out _ _ trivial (fun hHeld => ?_)
                      clear hK K
                      generalize World.alloc wa9 (.cells #[.int .u8 43] 5) = wa1 at *
                      try simp only [Act.put, List.getElem_toArray, List.getElem_cons_succ, List.getElem_cons_zero, List.setIfInBounds_toArray, List.set_cons_zero, List.set_cons_succ]
                      refine wpAnyH_ready (rs := [2]) (by kernel_rfl) (by simp) ?_
                      refine AllReadyH.cons rfl (fun K hK => ?_) ?_
                      · simp only [List.getElem_toArray, List.getElem_cons_succ, List.getElem_cons_zero]
                        rw [if_pos (by rfl)]
                        refine wp_app2 slT_u8 w1.heap.size _ _ (by rfl) (by rfl) (by rfl) ho f43.row (by simp only [List.length_append, ints_length, List.length_cons, List.length_nil]; omega) hz.size ?_
                        intro t2 w2 ho2 hg2 hl2
                        replace f45 := f45.app hg2 hl2
                        replace hz := below_grown hz ho hg2 hz.size
                        replace ho := ho2
                        refine hK.out _ _ trivial (fun hHeld => ?_)
                        clear hK K
                        try simp only [Act.put, List.getElem_toArray, List.getElem_cons_succ, List.getElem_cons_zero, List.setIfInBounds_toArray, List.set_cons_zero, List.set_cons_succ]
                        refine wpAnyH_ready (rs := [7]) (by kernel_rfl) (by simp) ?_
                        refine AllReadyH.cons rfl (fun K hK => ?_) ?_
                        · simp only [List.getElem_toArray, List.getElem_cons_succ, List.getElem_cons_zero]
                          go_simp
                          (go_at_call 34; refine (HCODE.out _ _ (hsl.below hz)).mono ?_; rintro e w7 ⟨t7, rfl, hoc, hbc⟩; have fcd := Free.of_own hoc ho.blk; replace f45 := f45.below hbc; replace hz := below_trans hz hbc; replace ho := ho.below hbc)
                          refine hK.out _ _ trivial (fun hHeld => ?_)
                          clear hK K
                          try simp only [Act.put, List.getElem_toArray, List.getElem_cons_succ, List.getElem_cons_zero, List.setIfInBounds_toArray, List.set_cons_zero, List.set_cons_succ]
                          refine wpAnyH_ready (rs := [8]) (by kernel_rfl) (by simp) ?_
                          refine AllReadyH.cons rfl (fun K hK => ?_) ?_
                          · simp only [List.getElem_toArray, List.getElem_cons_succ, List.getElem_cons_zero]
                            rw [if_pos (by rfl)]
                            refine wp_app2 slT_u8 w1.heap.size _ _ (by rfl) (by rfl) (by rfl) ho fcd.row (by simp only [List.length_append, ints_length, List.length_cons, List.length_nil]; omega) hz.size ?_
                            intro t8 w8 ho8 hg8 hl8
                            replace f45 := f45.app hg8 hl8
                            replace hz := below_grown hz ho hg8 hz.size
                            replace ho := ho8
                            refine hK.out _ _ trivial (fun hHeld => ?_)
                            clear hK K
                            try simp only [Act.put, List.getElem_toArray, List.getElem_cons_succ, List.getElem_cons_zero, List.setIfInBounds_toArray, List.set_cons_zero, List.set_cons_succ]
                            refine wpAnyH_ready (rs := [10]) (by kernel_rfl) (by simp) ?_
                            refine AllReadyH.cons rfl (fun K hK => ?_) ?_
                            · simp only [List.getElem_toArray, List.getElem_cons_succ, List.getElem_cons_zero]
                              rw [if_pos (by rfl)]
                              refine wp_app2 slT_u8 w1.heap.size _ _ (by rfl) (by rfl) (by rfl) ho f45.row (by simp only [List.length_append, ints_length, List.length_cons, List.length_nil]; omega) hz.size ?_
                              intro t10 w10 ho10 hg10 hl10
                              replace hz := below_grown hz ho hg10 hz.size
                              replace ho := ho10
                              refine hK.out _ _ trivial (fun hHeld => ?_)
                              clear hK K
                              try simp only [Act.put, List.getElem_toArray, List.getElem_cons_succ, List.getElem_cons_zero, List.setIfInBounds_toArray, List.set_cons_zero, List.set_cons_succ]
                              refine wpAnyH_ready (rs := [11]) (by kernel_rfl) (by simp) ?_
                              refine AllReadyH.cons rfl (fun K hK => ?_) AllReadyH.nil
                              simp only [List.getElem_toArray, List.getElem_cons_succ, List.getElem_cons_zero]
                              go_simp
                              refine hK.out _ _ trivial (fun hHeld => ?_)
                              clear hK K
                              refine wpAnyH_done (by kernel_rfl) ?_ _
                              rw [← ints_append, ← ints_append, ← ints_append] at ho
                              go_wp2
                              go_roundw
                              case rel => exact ⟨p + j, _, iv (by omega), hpn, by simp only [List.length_append, List.length_cons, List.length_nil]; omega, HS3, ho, hz⟩
                              case measure => simp [intOf]; omega
                            exact AllReadyH.nil
                          exact AllReadyH.nil
                        exact AllReadyH.nil
                      exact AllReadyH.nil
                    exact AllReadyH.nil
                  exact AllReadyH.nil
        · rw [hd] at hdir
          have HDIR := Lib.hid hdir; clear hdir
          have h0 : rn (c :: xs.drop (p + 1)) = 0 := by rw [rn]; split; rfl; rw [dn, if_pos hd]
          have hne : c ≠ 43 := fun h => by rw [h] at hd; exact absurd hd (by decide)
          have e3 : lo c (xs.drop (p + 1)) = [c] := by rw [lo, if_neg (by omega), if_neg hne]
          have e4 : lk c (xs.drop (p + 1)) = 1 := by rw [lk, if_neg (by omega)]
          have hcc : 0 ≤ c ∧ c < 128 := by
            rw [dirB] at hd
            rcases Bool.or_eq_true _ _ |>.mp hd with h1 | h1
            · have := of_decide_eq_true h1; omega
            · have := List.contains_iff_mem.1 h1
              simp [dirL] at this
              omega
          have hc0 := hcc.1
          have hc1 := hcc.2
          rw [e3, e4, ← List.append_assoc] at hs
          have HS2 := Lib.hid hs
          clear hs HS h0 e3 e4 hlen1 hlk hxd hd hcc hne
          go_wp2_with (first | (go_at_call 24; refine (HDIR.out _).mono ?_; rintro e w' ⟨rfl, hb'⟩; have hb2 := below_trans hbr hb'; have hc2 := HCF.out _ (below_trans hb1 hb2); have hown2 := hown.below hb') | (at_builtin; refine wpList_app slT_u8 _ _ _ rfl rfl rfl rfl (hown2.alloc _) (Row.ilit [_] [_] rfl (by simp)) (by simp [ints]; omega) (by have := hb2.size; simp; omega) ?_; intro t3 w3 hown3 hg3))
          have hb3 := below_app hb2 (below_alloc _ _) (hown2.alloc _) hg3
          rw [← ints_append] at hown3
          go_roundw
          case rel => exact ⟨p + 1, _, by go_num, by omega, by simp; omega, HS2, hown3, hb3⟩
          case measure => simp [intOf]; omega
      · go_wp2
        go_ret3
        have hs := HS.out
        rw [List.drop_eq_nil_of_le (by omega), lay_nil] at hs
        refine ⟨_, ret3 rfl rfl rfl, ?_, below_trans hb1 hbr⟩
        rw [hs]; simp only [List.append_nil]; exact hown.mono hb1.size
end Go.Proofs.Ytieeafkbgmpofaa
