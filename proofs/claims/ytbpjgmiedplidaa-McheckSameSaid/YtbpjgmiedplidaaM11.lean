/- Walks: laying a name, by the reference. (laid together by program out of single texts). -/
import Derived.Test.YtbpjgmiedplidaaM4
import Derived.Test.YtbpjgmiedplidaaM7
import Derived.Test.YtbpjgmiedplidaaM10
namespace Go.Proofs.Ytbpjgmiedplidaa
open Go.RowKit
set_option maxHeartbeats 4000000
set_option linter.unusedSimpArgs false
set_option maxRecDepth 100000 in
theorem rmLay24_any (v : Value) (xs : List Int) (w1 : World) (h : Row w1 v (ints .i32 xs)) (hg : R32 xs) (hl : xs.length ≤ 5000) :
    Calls Try.prog 13 #[v] w1 fun e w' => ∃ t, e = .returned (.tuple #[t, .int .i64 (mlayE xs)]) ∧ Own w1.heap.size 5 w' t (ints .u8 (mlayR xs)) ∧ Below w1.heap.size w1 w' := by
  obtain ⟨a, b, off, cp, rfl, HC⟩ := id h.op
  have hcap : Hid (xs.length ≤ cp) := by obtain ⟨_, _, _, _, hv, hc, _⟩ := h.int; cases hv; exact hc
  have hfi := fun w' h' => rfirst_any (.slice a xs.length cp) xs w' h' (by omega)
  have hidx := allSc_idx (xs := xs)
  have e1 : mlayR xs = if allSc xs then (mlay xs).1 else [] := rfl
  have e2 : mlayE xs = if allSc xs then 0 else 7 := rfl
  generalize mlayR xs = LR at *
  generalize mlayE xs = LE at *
  generalize idx (fun c => !scB c) xs = fi at *
  cases ha : allSc xs with
  | false =>
    rw [ha] at e1 e2 hidx
    have hf0 : 0 ≤ fi := by have := of_decide_eq_false hidx.symm; omega
    have e1' : LR = [] := e1
    have e2' : LE = 7 := e2
    subst e1' e2'
    have HFI := Lib.hid hfi; clear hfi hidx e1 e2
    go_enter Try.func13, Try.ntmps13
    go_wp2_with (go_at_call 21; refine (HFI.out _ h).mono ?_; rintro e w2 ⟨rfl, hw⟩; obtain rfl := hw)
    go_ret2
    exact ⟨_, ret2 rfl rfl, Own.nil _ _ _, Below.refl _ _⟩
  | true =>
    rw [ha] at e1 e2 hidx
    have hf0 : fi < 0 := of_decide_eq_true hidx.symm
    have e1' : LR = (mlay xs).1 := e1
    have e2' : LE = 0 := e2
    subst e1' e2'
    have HFI := Lib.hid hfi; clear hfi hidx e1 e2
    go_enter Try.func13, Try.ntmps13
    go_wp2_with (go_at_call 21; refine (HFI.out _ h).mono ?_; rintro e w2 ⟨rfl, hw⟩; obtain rfl := hw)
    go_loopw [4, 5] (fun u iv wr => ∃ (p : Nat) (O : List Int), iv = .int .i64 p ∧ p ≤ xs.length ∧ O.length ≤ 11 * p ∧ Hid ((mlay xs).1 = O ++ (mlay (xs.drop p)).1) ∧ Own w1.heap.size 5 wr u (ints .u8 O) ∧ Below w1.heap.size w1 wr) (fun _ i _ => xs.length - (intOf i).toNat)
    case atStart => exact ⟨0, [], rfl, Nat.zero_le _, Nat.le_refl _, (by simp : (mlay xs).1 = [] ++ (mlay (xs.drop 0)).1), Own.nil _ _ _, Below.refl _ _⟩
    case round =>
      obtain ⟨p, O, rfl, hp, hO, HS, hown, hbr⟩ := hrel
      by_cases hlt : p < xs.length
      · obtain ⟨c, HX, rfl, hc⟩ := HC.out p hlt
        replace hc := hc _ hbr
        have hcr := hg.get HX.out
        have hdir := fun w => rmDirect_any c w
        have hxd : xs.drop p = c :: xs.drop (p + 1) := by
          obtain ⟨k1, k2⟩ := List.getElem?_eq_some_iff.1 HX.out
          rw [List.drop_eq_getElem_cons k1, k2]
        have hs := HS.out
        rw [hxd, mlay_cons, ← hxd, List.drop_drop] at hs
        have hlen1 := mo_len c (xs.drop (p + 1))
        have hlk := mk1_le c (xs.drop (p + 1))
        rw [List.length_cons, List.length_drop] at hlk
        have hc0 := hcr.1
        have hc1 := hcr.2
        rcases Nat.eq_zero_or_pos (mn (xs.drop p)) with hn0 | hn0
        · have e4 : mk1 (xs.drop p) = 1 := by rw [mk1, hn0]; rfl
          rcases Decidable.em (c = 38) with rfl | h38
          · have e3 : mo 38 (xs.drop (p + 1)) = [38, 45] := by rw [mo, ← hxd, hn0, if_neg (by omega), if_pos rfl]
            rw [e3, e4, ← List.append_assoc] at hs
            have HS2 := Lib.hid hs
            rw [show mdirB 38 = false from by decide] at hdir
            have HDIR := Lib.hid hdir; clear hdir
            clear hs HS e3 e4 hlen1 hlk hxd hn0
            go_wp2_with (first | (go_at_call 20; refine (HDIR.out _).mono ?_; rintro e w' ⟨rfl, hw⟩; obtain rfl := hw.symm) | (at_builtin; refine wpList_app slT_u8 _ _ _ rfl rfl rfl rfl (hown.alloc _) (Row.ilit [38, 45] [_, _] rfl (by simp)) (by simp [ints]; omega) (by have := hbr.size; simp; omega) ?_; intro t3 w3 hown3 hg3))
            have hb3 := below_app hbr (below_alloc _ _) (hown.alloc _) hg3
            rw [← ints_append] at hown3
            go_roundw
            case rel => exact ⟨p + 1, _, by go_num, by omega, by simp; omega, HS2, hown3, hb3⟩
            case measure => simp [intOf]; omega
          · have hm := mtak_of_mn (c := c) (r := xs.drop (p + 1)) (by rw [← hxd]; omega) h38
            have e3 : mo c (xs.drop (p + 1)) = [c] := by rw [mo, ← hxd, hn0, if_neg (by omega), if_neg h38]
            rw [hm] at hdir
            have HDIR := Lib.hid hdir; clear hdir
            have hcm := of_decide_eq_true hm
            have hcm0 : 0 ≤ c := by omega
            have hcm1 : c < 256 := by omega
            rw [e3, e4, ← List.append_assoc] at hs
            have HS2 := Lib.hid hs
            clear hs HS e3 e4 hlen1 hlk hxd hn0 hm hcm h38
            go_wp2_with (first | (go_at_call 20; refine (HDIR.out _).mono ?_; rintro e w' ⟨rfl, hw⟩; obtain rfl := hw.symm) | (at_builtin; refine wpList_app slT_u8 _ _ _ rfl rfl rfl rfl (hown.alloc _) (Row.ilit [_] [_] rfl (by simp)) (by simp [ints]; omega) (by have := hbr.size; simp; omega) ?_; intro t3 w3 hown3 hg3))
            have hb3 := below_app hbr (below_alloc _ _) (hown.alloc _) hg3
            rw [← ints_append] at hown3
            go_roundw
            case rel => exact ⟨p + 1, _, by go_num, by omega, by simp; omega, HS2, hown3, hb3⟩
            case measure => simp [intOf]; omega
        · have hle := mn_le (xs.drop p)
          rw [List.length_drop] at hle
          have hin : ∀ j, j < mn (xs.drop p) → ∃ y, xs[p + j]? = some y ∧ mtak y = false := fun j hj => by have := mn_in _ j hj; rwa [List.getElem?_drop] at this
          have hout : ∀ y, xs[p + mn (xs.drop p)]? = some y → mtak y = true := fun y hy => mn_out _ y (by rwa [List.getElem?_drop])
          have e3 : mo c (xs.drop (p + 1)) = 38 :: mcodeL ((xs.drop p).take (mn (xs.drop p))) ++ [45] := by rw [mo, ← hxd, if_pos hn0]
          have e4 : mk1 (xs.drop p) = mn (xs.drop p) := by unfold mk1; omega
          have hcm : mtak c = false := by
            obtain ⟨y, hy1, hy2⟩ := hin 0 hn0
            rw [Nat.add_zero, HX.out] at hy1; cases hy1; exact hy2
          rw [mtak, Bool.or_eq_false_iff] at hcm
          rw [hcm.1] at hdir
          have h38b : (c == 38) = false := beq_false_of_ne (of_decide_eq_false hcm.2)
          have HDIR := Lib.hid hdir; clear hdir
          rw [e3, e4] at hs
          rw [e3, ← hxd, e4] at hlen1
          generalize mn (xs.drop p) = n at *
          have hC := fun v w' h' => rmCode_any v ((xs.drop p).take n) w' h' (fun y hy => hg y (List.mem_of_mem_drop (List.mem_of_mem_take hy))) (by rw [List.length_take, List.length_drop]; omega)
          generalize mcodeL ((xs.drop p).take n) = cd at *
          have hLn : O.length + cd.length + 2 ≤ 11 * (p + n) := by simp only [List.length_append, List.length_cons, List.length_nil] at hlen1; omega
          have HIN := Lib.hid hin; have HOUT := Lib.hid hout; have HCODE := Lib.hid hC; have HS2 := Lib.hid hs
          clear hin hout hC hs HS e3 e4 hlen1 hlk hxd hcm
          have hpn : p + n ≤ xs.length := by omega
          clear hle
          go_wp2_with (go_at_call 20; refine (HDIR.out _).mono ?_; rintro e w' ⟨rfl, hw⟩; obtain rfl := hw.symm)
          go_loopw [6] (fun kv wq => ∃ j : Nat, kv = .int .i64 ((p : Int) + j) ∧ j ≤ n ∧ wq = wr) (fun kv _ => xs.length - (intOf kv).toNat)
          case atStart => exact ⟨0, by simp, Nat.zero_le _, rfl⟩
          case round =>
            obtain ⟨j, rfl, hj, hwq⟩ := hrel
            obtain rfl := hwq.symm
            rcases Nat.lt_or_eq_of_le hj with hjn | rfl
            · obtain ⟨y, hy, hyd⟩ := HIN.out j hjn
              obtain ⟨y', HY, _, hcy⟩ := HC.out (p + j) (by omega)
              have e9 := HY.out; rw [hy] at e9; obtain rfl := Option.some.inj e9
              have hcy2 := hcy _ hbr
              have hdy := fun w => rmDirect_any y w
              rw [mtak, Bool.or_eq_false_iff] at hyd
              rw [hyd.1] at hdy
              have hy38 : (y != 38) = true := by have := of_decide_eq_false hyd.2; simpa using this
              have HDY := Lib.hid hdy; clear hdy e9 hcy hyd
              go_wp2_with (go_at_call 20; refine (HDY.out _).mono ?_; rintro e w9 ⟨rfl, hw⟩; obtain rfl := hw.symm)
              go_roundw
              case rel => exact ⟨j + 1, by go_num, by omega, by first | rfl | trivial⟩
              case measure => simp [intOf]; omega
            · have hend : Hid (¬ (((p : Int) + j) < xs.length) ∨ (((p : Int) + j) < xs.length ∧ ∃ y, wr.cell? ⟨b, off + (p + j), none⟩ = some (.int .i32 y) ∧ mdirB y = true) ∨ (((p : Int) + j) < xs.length ∧ ∃ y, wr.cell? ⟨b, off + (p + j), none⟩ = some (.int .i32 y) ∧ y = 38)) := by
                by_cases hq : p + j < xs.length
                · obtain ⟨y, HY, _, hcy⟩ := HC.out (p + j) hq
                  have hyt := HOUT.out y HY.out
                  rcases hyd : mdirB y with _ | _
                  · rw [mtak, hyd, Bool.false_or] at hyt
                    exact Or.inr (Or.inr ⟨by omega, y, hcy _ hbr, of_decide_eq_true hyt⟩)
                  · exact Or.inr (Or.inl ⟨by omega, y, hcy _ hbr, hyd⟩)
                · exact Or.inl (by omega)
              have hi1 : (0 : Int) ≤ (p : Int) + j := by omega
              have hi2 : ((p : Int) + j).toNat = p + j := by omega
              refine hend.out.elim (fun hq => ?c1) (fun hz9 => hz9.elim (fun hz9 => ?c2) (fun hz9 => ?c3))
              case' c2 =>
                obtain ⟨hq, y, hcy, hyd⟩ := hz9
                have hdy := fun w => rmDirect_any y w
                rw [hyd] at hdy
                have HDY := Lib.hid hdy; clear hdy
                go_wp2_with (go_at_call 20; refine (HDY.out _).mono ?_; rintro e w9 ⟨rfl, hw⟩; obtain rfl := hw.symm)
              case' c3 =>
                obtain ⟨hq, y, hcy, rfl⟩ := hz9
                have hdy := fun w => rmDirect_any 38 w
                rw [show mdirB 38 = false from by decide] at hdy
                have HDY := Lib.hid hdy; clear hdy
                go_wp2_with (go_at_call 20; refine (HDY.out _).mono ?_; rintro e w9 ⟨rfl, hw⟩; obtain rfl := hw.symm)
              case' c1 =>
                go_wp2_with fail
              all_goals
                have hi3 : ((p : Int) + j) ≤ cp := by have := hcap.out; omega
                have hi4 : ¬ (cp = p) := by have := hcap.out; omega
                have hi5 : (p : Int) ≤ (p : Int) + j := by omega
                have hi6 : p + j - p = j := by omega
                have hz := hbr.drew
                have ho := hown.drew
                have hsl : Row w1 (.slice (some ⟨b, off + p, none⟩) j (cp - p)) (ints .i32 ((xs.drop p).take j)) := by
                  have h9 := Row.sub h (some ⟨b, off, none⟩) cp (by rw [ints_length]) p (p + j) (by omega) (by rw [ints_length]; omega)
                  rw [sliced, if_neg hi4, ints_take, ints_drop, List.drop_take, hi6] at h9
                  simpa [addr_add] using h9
                have hs3 : (mlay xs).1 = (((O ++ [38]) ++ cd) ++ [45]) ++ (mlay (xs.drop (p + j))).1 := by have h9 := HS2.out; simpa [List.append_assoc] using h9
                have HS3 := Lib.hid hs3
                clear hs3 HS2
                refine wp_region_held_drew (S := fun _ => True) (by kernel_rfl) trivial (fun hHeld => ?_)
                generalize World.drew wr = wd at *
                refine wpAnyH_take (i := 0) (v := u4) rfl (by kernel_rfl) (by kernel_rfl) (by kernel_rfl) (fun _ _ _ h => h) (Or.inl ⟨by rfl, fun _ _ => by go_simp⟩) hHeld ?_
                simp only [Act.put, List.getElem_toArray, List.getElem_cons_succ, List.getElem_cons_zero, List.setIfInBounds_toArray, List.set_cons_zero, List.set_cons_succ]
                refine wpAnyH_take (i := 3) (v := (.slice (some ⟨b, off, none⟩) xs.length cp)) rfl (by kernel_rfl) (by kernel_rfl) (by kernel_rfl) (fun _ _ _ h => h) (Or.inl ⟨by rfl, fun _ _ => by go_simp⟩) hHeld ?_
                simp only [Act.put, List.getElem_toArray, List.getElem_cons_succ, List.getElem_cons_zero, List.setIfInBounds_toArray, List.set_cons_zero, List.set_cons_succ]
                refine wpAnyH_take (i := 4) (v := (.int .i64 p)) rfl (by kernel_rfl) (by kernel_rfl) (by kernel_rfl) (fun _ _ _ h => h) (Or.inl ⟨by rfl, fun _ _ => by go_simp⟩) hHeld ?_
                simp only [Act.put, List.getElem_toArray, List.getElem_cons_succ, List.getElem_cons_zero, List.setIfInBounds_toArray, List.set_cons_zero, List.set_cons_succ]
                refine wpAnyH_take (i := 5) (v := (.int .i64 ((p : Int) + j))) rfl (by kernel_rfl) (by kernel_rfl) (by kernel_rfl) (fun _ _ _ h => h) (Or.inl ⟨by rfl, fun _ _ => by go_simp⟩) hHeld ?_
                simp only [Act.put, List.getElem_toArray, List.getElem_cons_succ, List.getElem_cons_zero, List.setIfInBounds_toArray, List.set_cons_zero, List.set_cons_succ]
                refine wpAnyH_take (i := 6) (v := (.slice (some ⟨b, off + p, none⟩) j (cp - p))) rfl (by kernel_rfl) (by kernel_rfl) (by kernel_rfl) (fun _ _ _ h => h) (Or.inl ⟨by rfl, fun _ _ => by go_simp⟩) hHeld ?_
                refine wpAnyH_ready (rs := [1, 9]) (by kernel_rfl) (by simp) ?_
                refine AllReadyH.cons rfl (fun K hK => ?_) ?_
                · simp only [List.getElem_toArray, List.getElem_cons_succ, List.getElem_cons_zero]
                  go_simp
                  have f43 := Free.ilit (k := .u8) (E' := 5) ho [38] [_] rfl (by simp)
                  replace hz := hz.alloc hz.size (.cells #[.int .u8 38] 5)
                  replace ho := ho.alloc (.cells #[.int .u8 38] 5)
                  refine hK.out _ _ trivial (fun hHeld => ?_)
                  clear hK K
                  generalize World.alloc wd (.cells #[.int .u8 38] 5) = wa1 at *
                  try simp only [Act.put, List.getElem_toArray, List.getElem_cons_succ, List.getElem_cons_zero, List.setIfInBounds_toArray, List.set_cons_zero, List.set_cons_succ]
                  refine wpAnyH_ready (rs := [2, 9]) (by kernel_rfl) (by simp) ?_
                  refine AllReadyH.cons rfl (fun K hK => ?_) ?_
                  · simp only [List.getElem_toArray, List.getElem_cons_succ, List.getElem_cons_zero]
                    rw [if_pos (by rfl)]
                    refine wp_app2 slT_u8 w1.heap.size _ _ (by rfl) (by rfl) (by rfl) ho f43.row (by simp only [List.length_append, ints_length, List.length_cons, List.length_nil]; omega) hz.size ?_
                    intro t2 w2 ho2 hg2 hl2
                    replace hz := below_grown hz ho hg2 hz.size
                    replace ho := ho2
                    refine hK.out _ _ trivial (fun hHeld => ?_)
                    clear hK K
                    try simp only [Act.put, List.getElem_toArray, List.getElem_cons_succ, List.getElem_cons_zero, List.setIfInBounds_toArray, List.set_cons_zero, List.set_cons_succ]
                    refine wpAnyH_ready (rs := [7, 9]) (by kernel_rfl) (by simp) ?_
                    refine AllReadyH.cons rfl (fun K hK => ?_) ?_
                    · simp only [List.getElem_toArray, List.getElem_cons_succ, List.getElem_cons_zero]
                      go_simp
                      (go_at_call 18; refine (HCODE.out _ _ (hsl.below hz)).mono ?_; rintro e w7 ⟨t7, rfl, hoc, hbc⟩; have fcd := Free.of_own hoc ho.blk; replace hz := below_trans hz hbc; replace ho := ho.below hbc)
                      refine hK.out _ _ trivial (fun hHeld => ?_)
                      clear hK K
                      try simp only [Act.put, List.getElem_toArray, List.getElem_cons_succ, List.getElem_cons_zero, List.setIfInBounds_toArray, List.set_cons_zero, List.set_cons_succ]
                      refine wpAnyH_ready (rs := [8, 9]) (by kernel_rfl) (by simp) ?_
                      refine AllReadyH.cons rfl (fun K hK => ?_) ?_
                      · simp only [List.getElem_toArray, List.getElem_cons_succ, List.getElem_cons_zero]
                        rw [if_pos (by rfl)]
                        refine wp_app2 slT_u8 w1.heap.size _ _ (by rfl) (by rfl) (by rfl) ho fcd.row (by simp only [List.length_append, ints_length, List.length_cons, List.length_nil]; omega) hz.size ?_
                        intro t8 w8 ho8 hg8 hl8
                        replace hz := below_grown hz ho hg8 hz.size
                        replace ho := ho8
                        refine hK.out _ _ trivial (fun hHeld => ?_)
                        clear hK K
                        try simp only [Act.put, List.getElem_toArray, List.getElem_cons_succ, List.getElem_cons_zero, List.setIfInBounds_toArray, List.set_cons_zero, List.set_cons_succ]
                        refine wpAnyH_ready (rs := [9]) (by kernel_rfl) (by simp) ?_
                        refine AllReadyH.cons rfl (fun K hK => ?_) ?_
                        · simp only [List.getElem_toArray, List.getElem_cons_succ, List.getElem_cons_zero]
                          go_simp
                          have f45 := Free.ilit (k := .u8) (E' := 5) ho [45] [_] rfl (by simp)
                          replace hz := hz.alloc hz.size (.cells #[.int .u8 45] 5)
                          replace ho := ho.alloc (.cells #[.int .u8 45] 5)
                          refine hK.out _ _ trivial (fun hHeld => ?_)
                          clear hK K
                          generalize World.alloc w8 (.cells #[.int .u8 45] 5) = wa9 at *
                          try simp only [Act.put, List.getElem_toArray, List.getElem_cons_succ, List.getElem_cons_zero, List.setIfInBounds_toArray, List.set_cons_zero, List.set_cons_succ]
                          refine wpAnyH_ready (rs := [10]) (by kernel_rfl) (by simp) ?_
                          refine AllReadyH.cons rfl (fun K hK => ?_) ?_
                          · simp only [List.getElem_toArray, List.getElem_cons_succ, List.getElem_cons_zero]
                            rw [if_pos (by rfl)]
                            refine wp_app2 slT_u8 w1.heap.size _ _ (by rfl) (by rfl) (by rfl) ho f45.row (by simp only [List.length_append, ints_length, List.length_cons, List.length_nil]; omega) hz.size ?_
                            intro t10 w10 ho10 hg10 hl10
                            replace hz := below_grown hz ho hg10 hz.size
                            replace ho := ho10
                            refine hK.out _ _ trivial (fun hHeld => ?_)
                            clear hK K
                            try simp only [Act.put, List.getElem_toArray, List.getElem_cons_succ, List.getElem_cons_zero, List.setIfInBounds_toArray, List.set_cons_zero, List.set_cons_succ]
                            refine wpAnyH_ready (rs := [11]) (by kernel_rfl) (by simp) ?_
                            refine AllReadyH.cons rfl (fun K hK => ?_) AllReadyH.nil
                            simp only [List.getElem_toArray, List.getElem_cons_succ, List.getElem_cons_zero]
                            go_simp
                            refine hK.out _ _ trivial (fun hHeld => ?_)
                            clear hK K
                            refine wpAnyH_done (by kernel_rfl) ?_ _
                            rw [← ints_append, ← ints_append, ← ints_append] at ho
                            go_wp2
                            go_roundw
                            case rel => exact ⟨p + j, _, iv (by omega), hpn, by simp only [List.length_append, List.length_cons, List.length_nil]; omega, HS3, ho, hz⟩
                            case measure => simp [intOf]; omega
                          exact AllReadyH.nil
                        exact AllReadyH.nil
                      refine AllReadyH.cons rfl (fun K hK => ?_) ?_
                      · simp only [List.getElem_toArray, List.getElem_cons_succ, List.getElem_cons_zero]
                        go_simp
                        have f45 := Free.ilit (k := .u8) (E' := 5) ho [45] [_] rfl (by simp)
                        replace fcd := fcd.alloc (.cells #[.int .u8 45] 5)
                        replace hz := hz.alloc hz.size (.cells #[.int .u8 45] 5)
                        replace ho := ho.alloc (.cells #[.int .u8 45] 5)
                        refine hK.out _ _ trivial (fun hHeld => ?_)
                        clear hK K
                        generalize World.alloc w7 (.cells #[.int .u8 45] 5) = wa9 at *
                        try simp only [Act.put, List.getElem_toArray, List.getElem_cons_succ, List.getElem_cons_zero, List.setIfInBounds_toArray, List.set_cons_zero, List.set_cons_succ]
                        refine wpAnyH_ready (rs := [8]) (by kernel_rfl) (by simp) ?_
                        refine AllReadyH.cons rfl (fun K hK => ?_) ?_
                        · simp only [List.getElem_toArray, List.getElem_cons_succ, List.getElem_cons_zero]
                          rw [if_pos (by rfl)]
                          refine wp_app2 slT_u8 w1.heap.size _ _ (by rfl) (by rfl) (by rfl) ho fcd.row (by simp only [List.length_append, ints_length, List.length_cons, List.length_nil]; omega) hz.size ?_
                          intro t8 w8 ho8 hg8 hl8
                          replace f45 := f45.app hg8 hl8
                          replace hz := below_grown hz ho hg8 hz.size
                          replace ho := ho8
                          refine hK.out _ _ trivial (fun hHeld => ?_)
                          clear hK K
                          try simp only [Act.put, List.getElem_toArray, List.getElem_cons_succ, List.getElem_cons_zero, List.setIfInBounds_toArray, List.set_cons_zero, List.set_cons_succ]
                          refine wpAnyH_ready (rs := [10]) (by kernel_rfl) (by simp) ?_
                          refine AllReadyH.cons rfl (fun K hK => ?_) ?_
                          · simp only [List.getElem_toArray, List.getElem_cons_succ, List.getElem_cons_zero]
                            rw [if_pos (by rfl)]
                            refine wp_app2 slT_u8 w1.heap.size _ _ (by rfl) (by rfl) (by rfl) ho f45.row (by simp only [List.length_append, ints_length, List.length_cons, List.length_nil]; omega) hz.size ?_
                            intro t10 w10 ho10 hg10 hl10
                            replace hz := below_grown hz ho hg10 hz.size
                            replace ho := ho10
                            refine hK.out _ _ trivial (fun hHeld => ?_)
                            clear hK K
                            try simp only [Act.put, List.getElem_toArray, List.getElem_cons_succ, List.getElem_cons_zero, List.setIfInBounds_toArray, List.set_cons_zero, List.set_cons_succ]
                            refine wpAnyH_ready (rs := [11]) (by kernel_rfl) (by simp) ?_
                            refine AllReadyH.cons rfl (fun K hK => ?_) AllReadyH.nil
                            simp only [List.getElem_toArray, List.getElem_cons_succ, List.getElem_cons_zero]
                            go_simp
                            refine hK.out _ _ trivial (fun hHeld => ?_)
                            clear hK K
                            refine wpAnyH_done (by kernel_rfl) ?_ _
                            rw [← ints_append, ← ints_append, ← ints_append] at ho
                            go_wp2
                            go_roundw
                            case rel => exact ⟨p + j, _, iv (by omega), hpn, by simp only [List.length_append, List.length_cons, List.length_nil]; omega, HS3, ho, hz⟩
                            case measure => simp [intOf]; omega
                          exact AllReadyH.nil
                        exact AllReadyH.nil
                      exact AllReadyH.nil
                    refine AllReadyH.cons rfl (fun K hK => ?_) ?_
                    · simp only [List.getElem_toArray, List.getElem_cons_succ, List.getElem_cons_zero]
                      go_simp
                      have f45 := Free.ilit (k := .u8) (E' := 5) ho [45] [_] rfl (by simp)
                      replace hz := hz.alloc hz.size (.cells #[.int .u8 45] 5)
                      replace ho := ho.alloc (.cells #[.int .u8 45] 5)
                      refine hK.out _ _ trivial (fun hHeld => ?_)
                      clear hK K
                      generalize World.alloc w2 (.cells #[.int .u8 45] 5) = wa9 at *
                      try simp only [Act.put, List.getElem_toArray, List.getElem_cons_succ, List.getElem_cons_zero, List.setIfInBounds_toArray, List.set_cons_zero, List.set_cons_succ]
                      refine wpAnyH_ready (rs := [7]) (by kernel_rfl) (by simp) ?_
                      refine AllReadyH.cons rfl (fun K hK => ?_) ?_
                      · simp only [List.getElem_toArray, List.getElem_cons_succ, List.getElem_cons_zero]
                        go_simp
                        (go_at_call 18; refine (HCODE.out _ _ (hsl.below hz)).mono ?_; rintro e w7 ⟨t7, rfl, hoc, hbc⟩; have fcd := Free.of_own hoc ho.blk; replace f45 := f45.below hbc; replace hz := below_trans hz hbc; replace ho := ho.below hbc)
                        refine hK.out _ _ trivial (fun hHeld => ?_)
                        clear hK K
                        try simp only [Act.put, List.getElem_toArray, List.getElem_cons_succ, List.getElem_cons_zero, List.setIfInBounds_toArray, List.set_cons_zero, List.set_cons_succ]
                        refine wpAnyH_ready (rs := [8]) (by kernel_rfl) (by simp) ?_
                        refine AllReadyH.cons rfl (fun K hK => ?_) ?_
                        · simp only [List.getElem_toArray, List.getElem_cons_succ, List.getElem_cons_zero]
                          rw [if_pos (by rfl)]
                          refine wp_app2 slT_u8 w1.heap.size _ _ (by rfl) (by rfl) (by rfl) ho fcd.row (by simp only [List.length_append, ints_length, List.length_cons, List.length_nil]; omega) hz.size ?_
                          intro t8 w8 ho8 hg8 hl8
                          replace f45 := f45.app hg8 hl8
                          replace hz := below_grown hz ho hg8 hz.size
                          replace ho := ho8
                          refine hK.out _ _ trivial (fun hHeld => ?_)
                          clear hK K
                          try simp only [Act.put, List.getElem_toArray, List.getElem_cons_succ, List.getElem_cons_zero, List.setIfInBounds_toArray, List.set_cons_zero, List.set_cons_succ]
                          refine wpAnyH_ready (rs := [10]) (by kernel_rfl) (by simp) ?_
                          refine AllReadyH.cons rfl (fun K hK => ?_) ?_
                          · simp only [List.getElem_toArray, List.getElem_cons_succ, List.getElem_cons_zero]
                            rw [if_pos (by rfl)]
                            refine wp_app2 slT_u8 w1.heap.size _ _ (by rfl) (by rfl) (by rfl) ho f45.row (by simp only [List.length_append, ints_length, List.length_cons, List.length_nil]; omega) hz.size ?_
                            intro t10 w10 ho10 hg10 hl10
                            replace hz := below_grown hz ho hg10 hz.size
                            replace ho := ho10
                            refine hK.out _ _ trivial (fun hHeld => ?_)
                            clear hK K
                            try simp only [Act.put, List.getElem_toArray, List.getElem_cons_succ, List.getElem_cons_zero, List.setIfInBounds_toArray, List.set_cons_zero, List.set_cons_succ]
                            refine wpAnyH_ready (rs := [11]) (by kernel_rfl) (by simp) ?_
                            refine AllReadyH.cons rfl (fun K hK => ?_) AllReadyH.nil
                            simp only [List.getElem_toArray, List.getElem_cons_succ, List.getElem_cons_zero]
                            go_simp
                            refine hK.out _ _ trivial (fun hHeld => ?_)
                            clear hK K
                            refine wpAnyH_done (by kernel_rfl) ?_ _
                            rw [← ints_append, ← ints_append, ← ints_append] at ho
                            go_wp2
                            go_roundw
                            case rel => exact ⟨p + j, _, iv (by omega), hpn, by simp only [List.length_append, List.length_cons, List.length_nil]; omega, HS3, ho, hz⟩
                            case measure => simp [intOf]; omega
                          exact AllReadyH.nil
                        exact AllReadyH.nil
                      exact AllReadyH.nil
                    exact AllReadyH.nil
                  refine AllReadyH.cons rfl (fun K hK => ?_) ?_
                  · simp only [List.getElem_toArray, List.getElem_cons_succ, List.getElem_cons_zero]
                    go_simp
                    have f45 := Free.ilit (k := .u8) (E' := 5) ho [45] [_] rfl (by simp)
                    replace f43 := f43.alloc (.cells #[.int .u8 45] 5)
                    replace hz := hz.alloc hz.size (.cells #[.int .u8 45] 5)
                    replace ho := ho.alloc (.cells #[.int .u8 45] 5)
                    refine hK.out _ _ trivial (fun hHeld => ?_)
                    clear hK K
                    generalize World.alloc wa1 (.cells #[.int .u8 45] 5) = wa9 at *
                    try simp only [Act.put, List.getElem_toArray, List.getElem_cons_succ, List.getElem_cons_zero, List.setIfInBounds_toArray, List.set_cons_zero, List.set_cons_succ]
                    refine wpAnyH_ready (rs := [2]) (by kernel_rfl) (by simp) ?_
                    refine AllReadyH.cons rfl (fun K hK => ?_) ?_
                    · simp only [List.getElem_toArray, List.getElem_cons_succ, List.getElem_cons_zero]
                      rw [if_pos (by rfl)]
                      refine wp_app2 slT_u8 w1.heap.size _ _ (by rfl) (by rfl) (by rfl) ho f43.row (by simp only [List.length_append, ints_length, List.length_cons, List.length_nil]; omega) hz.size ?_
                      intro t2 w2 ho2 hg2 hl2
                      replace f45 := f45.app hg2 hl2
                      replace hz := below_grown hz ho hg2 hz.size
                      replace ho := ho2
                      refine hK.out _ _ trivial (fun hHeld => ?_)
                      clear hK K
                      try simp only [Act.put, List.getElem_toArray, List.getElem_cons_succ, List.getElem_cons_zero, List.setIfInBounds_toArray, List.set_cons_zero, List.set_cons_succ]
                      refine wpAnyH_ready (rs := [7]) (by kernel_rfl) (by simp) ?_
                      refine AllReadyH.cons rfl (fun K hK => ?_) ?_
                      · simp only [List.getElem_toArray, List.getElem_cons_succ, List.getElem_cons_zero]
                        go_simp
                        (go_at_call 18; refine (HCODE.out _ _ (hsl.below hz)).mono ?_; rintro e w7 ⟨t7, rfl, hoc, hbc⟩; have fcd := Free.of_own hoc ho.blk; replace f45 := f45.below hbc; replace hz := below_trans hz hbc; replace ho := ho.below hbc)
                        refine hK.out _ _ trivial (fun hHeld => ?_)
                        clear hK K
                        try simp only [Act.put, List.getElem_toArray, List.getElem_cons_succ, List.getElem_cons_zero, List.setIfInBounds_toArray, List.set_cons_zero, List.set_cons_succ]
                        refine wpAnyH_ready (rs := [8]) (by kernel_rfl) (by simp) ?_
                        refine AllReadyH.cons rfl (fun K hK => ?_) ?_
                        · simp only [List.getElem_toArray, List.getElem_cons_succ, List.getElem_cons_zero]
                          rw [if_pos (by rfl)]
                          refine wp_app2 slT_u8 w1.heap.size _ _ (by rfl) (by rfl) (by rfl) ho fcd.row (by simp only [List.length_append, ints_length, List.length_cons, List.length_nil]; omega) hz.size ?_
                          intro t8 w8 ho8 hg8 hl8
                          replace f45 := f45.app hg8 hl8
                          replace hz := below_grown hz ho hg8 hz.size
                          replace ho := ho8
                          refine hK.out _ _ trivial (fun hHeld => ?_)
                          clear hK K
                          try simp only [Act.put, List.getElem_toArray, List.getElem_cons_succ, List.getElem_cons_zero, List.setIfInBounds_toArray, List.set_cons_zero, List.set_cons_succ]
                          refine wpAnyH_ready (rs := [10]) (by kernel_rfl) (by simp) ?_
                          refine AllReadyH.cons rfl (fun K hK => ?_) ?_
                          · simp only [List.getElem_toArray, List.getElem_cons_succ, List.getElem_cons_zero]
                            rw [if_pos (by rfl)]
                            refine wp_app2 slT_u8 w1.heap.size _ _ (by rfl) (by rfl) (by rfl) ho f45.row (by simp only [List.length_append, ints_length, List.length_cons, List.length_nil]; omega) hz.size ?_
                            intro t10 w10 ho10 hg10 hl10
                            replace hz := below_grown hz ho hg10 hz.size
                            replace ho := ho10
                            refine hK.out _ _ trivial (fun hHeld => ?_)
                            clear hK K
                            try simp only [Act.put, List.getElem_toArray, List.getElem_cons_succ, List.getElem_cons_zero, List.setIfInBounds_toArray, List.set_cons_zero, List.set_cons_succ]
                            refine wpAnyH_ready (rs := [11]) (by kernel_rfl) (by simp) ?_
                            refine AllReadyH.cons rfl (fun K hK => ?_) AllReadyH.nil
                            simp only [List.getElem_toArray, List.getElem_cons_succ, List.getElem_cons_zero]
                            go_simp
                            refine hK.out _ _ trivial (fun hHeld => ?_)
                            clear hK K
                            refine wpAnyH_done (by kernel_rfl) ?_ _
                            rw [← ints_append, ← ints_append, ← ints_append] at ho
                            go_wp2
                            go_roundw
                            case rel => exact ⟨p + j, _, iv (by omega), hpn, by simp only [List.length_append, List.length_cons, List.length_nil]; omega, HS3, ho, hz⟩
                            case measure => simp [intOf]; omega
                          exact AllReadyH.nil
                        exact AllReadyH.nil
                      exact AllReadyH.nil
                    exact AllReadyH.nil
                  exact AllReadyH.nil
                refine AllReadyH.cons rfl (fun K hK => ?_) ?_
                · simp only [List.getElem_toArray, List.getElem_cons_succ, List.getElem_cons_zero]
                  go_simp
                  have f45 := Free.ilit (k := .u8) (E' := 5) ho [45] [_] rfl (by simp)
                  replace hz := hz.alloc hz.size (.cells #[.int .u8 45] 5)
                  replace ho := ho.alloc (.cells #[.int .u8 45] 5)
                  refine hK.out _ _ trivial (fun hHeld => ?_)
                  clear hK K
                  generalize World.alloc wd (.cells #[.int .u8 45] 5) = wa9 at *
                  try simp only [Act.put, List.getElem_toArray, List.getElem_cons_succ, List.getElem_cons_zero, List.setIfInBounds_toArray, List.set_cons_zero, List.set_cons_succ]
                  refine wpAnyH_ready (rs := [1]) (by kernel_rfl) (by simp) ?_
                  refine AllReadyH.cons rfl (fun K hK => ?_) ?_
                  · simp only [List.getElem_toArray, List.getElem_cons_succ, List.getElem_cons_zero]
                    go_simp
                    have f43 := Free.ilit (k := .u8) (E' := 5) ho [38] [_] rfl (by simp)
                    replace f45 := f45.alloc (.cells #[.int .u8 38] 5)
                    replace hz := hz.alloc hz.size (.cells #[.int .u8 38] 5)
                    replace ho := ho.alloc (.cells #[.int .u8 38] 5)
                    refine hK.out _ _ trivial (fun hHeld => ?_)
                    clear hK K
                    generalize World.alloc wa9 (.cells #[.int .u8 38] 5) = wa1 at *
                    try simp only [Act.put, List.getElem_toArray, List.getElem_cons_succ, List.getElem_cons_zero, List.setIfInBounds_toArray, List.set_cons_zero, List.set_cons_succ]
                    refine wpAnyH_ready (rs := [2]) (by kernel_rfl) (by simp) ?_
                    refine AllReadyH.cons rfl (fun K hK => ?_) ?_
                    · simp only [List.getElem_toArray, List.getElem_cons_succ, List.getElem_cons_zero]
                      rw [if_pos (by rfl)]
                      refine wp_app2 slT_u8 w1.heap.size _ _ (by rfl) (by rfl) (by rfl) ho f43.row (by simp only [List.length_append, ints_length, List.length_cons, List.length_nil]; omega) hz.size ?_
                      intro t2 w2 ho2 hg2 hl2
                      replace f45 := f45.app hg2 hl2
                      replace hz := below_grown hz ho hg2 hz.size
                      replace ho := ho2
                      refine hK.out _ _ trivial (fun hHeld => ?_)
                      clear hK K
                      try simp only [Act.put, List.getElem_toArray, List.getElem_cons_succ, List.getElem_cons_zero, List.setIfInBounds_toArray, List.set_cons_zero, List.set_cons_succ]
                      refine wpAnyH_ready (rs := [7]) (by kernel_rfl) (by simp) ?_
                      refine AllReadyH.cons rfl (fun K hK => ?_) ?_
                      · simp only [List.getElem_toArray, List.getElem_cons_succ, List.getElem_cons_zero]
                        go_simp
                        (go_at_call 18; refine (HCODE.out _ _ (hsl.below hz)).mono ?_; rintro e w7 ⟨t7, rfl, hoc, hbc⟩; have fcd := Free.of_own hoc ho.blk; replace f45 := f45.below hbc; replace hz := below_trans hz hbc; replace ho := ho.below hbc)
                        refine hK.out _ _ trivial (fun hHeld => ?_)
                        clear hK K
                        try simp only [Act.put, List.getElem_toArray, List.getElem_cons_succ, List.getElem_cons_zero, List.setIfInBounds_toArray, List.set_cons_zero, List.set_cons_succ]
                        refine wpAnyH_ready (rs := [8]) (by kernel_rfl) (by simp) ?_
                        refine AllReadyH.cons rfl (fun K hK => ?_) ?_
                        · simp only [List.getElem_toArray, List.getElem_cons_succ, List.getElem_cons_zero]
                          rw [if_pos (by rfl)]
                          refine wp_app2 slT_u8 w1.heap.size _ _ (by rfl) (by rfl) (by rfl) ho fcd.row (by simp only [List.length_append, ints_length, List.length_cons, List.length_nil]; omega) hz.size ?_
                          intro t8 w8 ho8 hg8 hl8
                          replace f45 := f45.app hg8 hl8
                          replace hz := below_grown hz ho hg8 hz.size
                          replace ho := ho8
                          refine hK.out _ _ trivial (fun hHeld => ?_)
                          clear hK K
                          try simp only [Act.put, List.getElem_toArray, List.getElem_cons_succ, List.getElem_cons_zero, List.setIfInBounds_toArray, List.set_cons_zero, List.set_cons_succ]
                          refine wpAnyH_ready (rs := [10]) (by kernel_rfl) (by simp) ?_
                          refine AllReadyH.cons rfl (fun K hK => ?_) ?_
                          · simp only [List.getElem_toArray, List.getElem_cons_succ, List.getElem_cons_zero]
                            rw [if_pos (by rfl)]
                            refine wp_app2 slT_u8 w1.heap.size _ _ (by rfl) (by rfl) (by rfl) ho f45.row (by simp only [List.length_append, ints_length, List.length_cons, List.length_nil]; omega) hz.size ?_
                            intro t10 w10 ho10 hg10 hl10
                            replace hz := below_grown hz ho hg10 hz.size
                            replace ho := ho10
                            refine hK.out _ _ trivial (fun hHeld => ?_)
                            clear hK K
                            try simp only [Act.put, List.getElem_toArray, List.getElem_cons_succ, List.getElem_cons_zero, List.setIfInBounds_toArray, List.set_cons_zero, List.set_cons_succ]
                            refine wpAnyH_ready (rs := [11]) (by kernel_rfl) (by simp) ?_
                            refine AllReadyH.cons rfl (fun K hK => ?_) AllReadyH.nil
                            simp only [List.getElem_toArray, List.getElem_cons_succ, List.getElem_cons_zero]
                            go_simp
                            refine hK.out _ _ trivial (fun hHeld => ?_)
                            clear hK K
                            refine wpAnyH_done (by kernel_rfl) ?_ _
                            rw [← ints_append, ← ints_append, ← ints_append] at ho
                            go_wp2
                            go_roundw
                            case rel => exact ⟨p + j, _, iv (by omega), hpn, by simp only [List.length_append, List.length_cons, List.length_nil]; omega, HS3, ho, hz⟩
                            case measure => simp [intOf]; omega
                          exact AllReadyH.nil
                        exact AllReadyH.nil
                      exact AllReadyH.nil
                    exact AllReadyH.nil
                  exact AllReadyH.nil
                exact AllReadyH.nil
      · go_wp2
        go_ret2
        have hs := HS.out
        rw [List.drop_eq_nil_of_le (by omega), mlay_nil] at hs
        refine ⟨_, ret2 rfl rfl, ?_, hbr⟩
        rw [hs]; simp only [List.append_nil]; exact hown
end Go.Proofs.Ytbpjgmiedplidaa
