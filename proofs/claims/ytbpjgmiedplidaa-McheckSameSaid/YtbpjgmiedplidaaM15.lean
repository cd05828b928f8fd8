/- Walks: the checker of names: a run, a piece, all pieces. · Walks: the checker's answers; what the reference says of a run. (laid together by program out of single texts). -/
import Derived.Test.YtbpjgmiedplidaaM14
namespace Go.Proofs.Ytbpjgmiedplidaa
open Go.RowKit
set_option maxHeartbeats 2000000
theorem Row.formL {w : World} {v : Value} {cs : List Value} (h : Row w v cs) {n : Nat} (hn : cs.length = n) : ∃ a c, v = .slice a n c := by
  obtain ⟨a, _, _, c, hv, _⟩ := h
  exact ⟨a, c, by rw [hv, hn]⟩
def cruns (b : Bool) (r : List Int) : Int × Nat :=
  if r[ml r]? ≠ some 45 then (3, 0)
  else if runR (usuL (r.take (ml r))) = false ∨ runT (usuL (r.take (ml r))) = [] then (4, 0)
  else if (runT (usuL (r.take (ml r)))).any prB = true then (5, 0)
  else if b = true then (6, 0)
  else (0, ml r + 2)
theorem cpc_run {b : Bool} {r : List Int} (h0 : r[0]? ≠ some 45) (h1 : ml r ≠ 0) : cpc b 38 r = ((cruns b r).1, (cruns b r).2, true) := by
  rw [cpc, if_neg (by decide), if_neg (by decide), if_neg h0, if_neg h1, cruns]
  repeat' split
  all_goals rfl
theorem mrun_dig {r : List Int} : mrunR (r.take (ml r)) = runR (usuL (r.take (ml r))) ∧ mrunT (r.take (ml r)) = runT (usuL (r.take (ml r))) := by
  rw [mrunR, mrunT, ml_all]; exact ⟨rfl, rfl⟩
set_option maxRecDepth 100000 in
theorem oruns_any (P : Nat) (w : World) (v dv : Value) (xs : List Int) (p n : Nat) (b : Bool) (hk : Ck P w v p n b) (h : Row w v (ints .u8 xs)) (hg : Rg 0 256 xs) (hl : xs.length ≤ 9000) (hp : p < xs.length)
    (hd : Row w dv (ints .u8 ((xs.drop (p + 1)).take (ml (xs.drop (p + 1)))))) :
    Calls Try.prog 92 #[.pointer (some ⟨P, 0, none⟩), dv] w fun e w' => e = .returned (.tuple #[.int .i64 (cruns b (xs.drop (p + 1))).1, .int .i64 (cruns b (xs.drop (p + 1))).2]) ∧ Below w.heap.size w w' := by
  have hle := ml_le (xs.drop (p + 1))
  rw [List.length_drop] at hle
  obtain ⟨a1, c1, rfl⟩ := hd.formL (n := ml (xs.drop (p + 1))) (by rw [ints_length, List.length_take, List.length_drop]; omega)
  have hgd : Rg 0 256 ((xs.drop (p + 1)).take (ml (xs.drop (p + 1)))) := (hg.drop _).take _
  have hR := fun v w' h' => mRun_any v ((xs.drop (p + 1)).take (ml (xs.drop (p + 1)))) w' h' hgd (by rw [List.length_take, List.length_drop]; omega)
  have hTl := runT_len (usuL ((xs.drop (p + 1)).take (ml (xs.drop (p + 1)))))
  rw [usuL, subL_len, List.length_take, List.length_drop] at hTl
  rw [mrun_dig.1, mrun_dig.2] at hR
  have hcr : cruns b (xs.drop (p + 1)) = if xs[p + (ml (xs.drop (p + 1)) + 1)]? ≠ some 45 then (3, 0)
      else if runR (usuL ((xs.drop (p + 1)).take (ml (xs.drop (p + 1))))) = false ∨ runT (usuL ((xs.drop (p + 1)).take (ml (xs.drop (p + 1))))) = [] then (4, 0)
      else if (runT (usuL ((xs.drop (p + 1)).take (ml (xs.drop (p + 1)))))).any prB = true then (5, 0)
      else if b = true then (6, 0) else (0, ml (xs.drop (p + 1)) + 2) := by
    rw [cruns, List.getElem?_drop, show p + 1 + ml (xs.drop (p + 1)) = p + (ml (xs.drop (p + 1)) + 1) by omega]
  rw [hcr]
  clear hcr
  have hTl2 : (runT (usuL ((xs.drop (p + 1)).take (ml (xs.drop (p + 1)))))).length ≤ 9000 := by unfold usuL; omega
  clear hTl
  generalize runR (usuL ((xs.drop (p + 1)).take (ml (xs.drop (p + 1))))) = R at *
  generalize runT (usuL ((xs.drop (p + 1)).take (ml (xs.drop (p + 1))))) = T at *
  generalize (xs.drop (p + 1)).take (ml (xs.drop (p + 1))) = d at *
  generalize ml (xs.drop (p + 1)) = m at *
  have HR := Lib.hid hR; clear hR
  have hm1 : (((m + 1 : Nat)) : Int) = 1 + (m : Int) := by omega
  by_cases hx : p + (m + 1) < xs.length
  · obtain ⟨c, hxc⟩ : ∃ c, xs[p + (m + 1)]? = some c := ⟨_, List.getElem?_eq_getElem hx⟩
    have hn1 := now_yes P w v xs p n (m + 1) b c hk h (by omega) hxc
    rw [hm1] at hn1
    have HN1 := Lib.hid hn1; clear hn1
    rw [hxc]
    rcases Decidable.em (c = 45) with rfl | hc
    · rw [if_neg (show ¬ (some (45 : Int) ≠ some 45) from fun h => h rfl)]
      clear hm1
      have hk3 := hk
      rcases R with _ | _
      · rw [if_pos (Or.inl rfl)]
        go_enter Try.func92, Try.ntmps92
        go_wp2_with (first | (go_at_call 89; refine (HN1.out).mono ?_; rintro e w1 ⟨rfl, hb1⟩) | (go_at_call 31; refine (HR.out _ _ (hd.below hb1)).mono ?_; rintro e w2 ⟨t2, rfl, ho2, hb2⟩; have hb12 := below_trans hb1 hb2))
        go_ret2
        exact ⟨rfl, hb12⟩
      · rcases hT : T with _ | ⟨y, T'⟩
        · rw [if_pos (Or.inr rfl)]
          subst hT
          go_enter Try.func92, Try.ntmps92
          go_wp2_with (first | (go_at_call 89; refine (HN1.out).mono ?_; rintro e w1 ⟨rfl, hb1⟩) | (go_at_call 31; refine (HR.out _ _ (hd.below hb1)).mono ?_; rintro e w2 ⟨t2, rfl, ho2, hb2⟩; have hb12 := below_trans hb1 hb2; obtain ⟨a2, c2, rfl⟩ := ho2.row.formL (n := 0) rfl))
          go_ret2
          exact ⟨rfl, hb12⟩
        · rw [if_neg (by simp), ← hT]
          have hT0 : 0 < T.length := by rw [hT]; simp
          have hT1 : ¬ ((T.length : Int) = 0) := by omega
          have hT2 : ((T.length : Int) == 0) = false := beq_false_of_ne hT1
          have hCF := fun v w' h' => conF_any v T w' h' (by omega)
          have hTn : (ints .i32 T).length = T.length := ints_length _ _
          clear hT
          generalize T.any prB = q at *
          have HCF := Lib.hid hCF; have HTN := Lib.hid hTn; clear hCF hTn
          rcases q with _ | _
          · rw [if_neg (by decide)]
            rcases b with _ | _
            · rw [if_neg (by decide)]
              go_enter Try.func92, Try.ntmps92
              go_wp2_with (first | (go_at_call 89; refine (HN1.out).mono ?_; rintro e w1 ⟨rfl, hb1⟩) | (go_at_call 31; refine (HR.out _ _ (hd.below hb1)).mono ?_; rintro e w2 ⟨t2, rfl, ho2, hb2⟩; have hb12 := below_trans hb1 hb2; have hk2 := hk3.below hb12; obtain ⟨_, _, _, k3, _, _⟩ := hk2; obtain ⟨a2, c2, rfl⟩ := ho2.row.formL HTN.out) | (go_at_call 103; refine (HCF.out _ _ ho2.row).mono ?_; rintro e w3 ⟨rfl, hw⟩; obtain rfl := hw.symm))
              go_ret2
              exact ⟨ret2 rfl (iv (by omega)), hb12⟩
            · rw [if_pos rfl]
              go_enter Try.func92, Try.ntmps92
              go_wp2_with (first | (go_at_call 89; refine (HN1.out).mono ?_; rintro e w1 ⟨rfl, hb1⟩) | (go_at_call 31; refine (HR.out _ _ (hd.below hb1)).mono ?_; rintro e w2 ⟨t2, rfl, ho2, hb2⟩; have hb12 := below_trans hb1 hb2; have hk2 := hk3.below hb12; obtain ⟨_, _, _, k3, _, _⟩ := hk2; obtain ⟨a2, c2, rfl⟩ := ho2.row.formL HTN.out) | (go_at_call 103; refine (HCF.out _ _ ho2.row).mono ?_; rintro e w3 ⟨rfl, hw⟩; obtain rfl := hw.symm))
              go_ret2
              exact ⟨rfl, hb12⟩
          · rw [if_pos rfl]
            go_enter Try.func92, Try.ntmps92
            go_wp2_with (first | (go_at_call 89; refine (HN1.out).mono ?_; rintro e w1 ⟨rfl, hb1⟩) | (go_at_call 31; refine (HR.out _ _ (hd.below hb1)).mono ?_; rintro e w2 ⟨t2, rfl, ho2, hb2⟩; have hb12 := below_trans hb1 hb2; have hk2 := hk3.below hb12; obtain ⟨_, _, _, k3, _, _⟩ := hk2; obtain ⟨a2, c2, rfl⟩ := ho2.row.formL HTN.out) | (go_at_call 103; refine (HCF.out _ _ ho2.row).mono ?_; rintro e w3 ⟨rfl, hw⟩; obtain rfl := hw.symm))
            go_ret2
            exact ⟨rfl, hb12⟩
    · rw [if_pos (show some c ≠ some 45 from fun h => hc (Option.some.inj h))]
      have hcn : (c != 45) = true := by simpa using hc
      clear hc hm1
      go_enter Try.func92, Try.ntmps92
      go_wp2_with (go_at_call 89; refine (HN1.out).mono ?_; rintro e w1 ⟨rfl, hb1⟩)
      go_ret2
      exact ⟨rfl, hb1⟩
  · have hn1 := now_no P w v xs p n (m + 1) b hk h (by omega) (by omega) (by omega) (by omega)
    rw [hm1] at hn1
    have HN1 := Lib.hid hn1; clear hn1
    rw [if_pos (by rw [List.getElem?_eq_none (by omega)]; simp)]
    clear hm1
    go_enter Try.func92, Try.ntmps92
    go_wp2_with (go_at_call 89; refine (HN1.out).mono ?_; rintro e w1 ⟨rfl, hb1⟩)
    go_ret2
    exact ⟨rfl, hb1⟩
set_option maxRecDepth 100000 in
theorem opiece_any (P : Nat) (w : World) (v : Value) (xs : List Int) (p n : Nat) (b : Bool) (c : Int) (hk : Ck P w v p n b) (h : Row w v (ints .u8 xs)) (hg : Rg 0 256 xs) (hl : xs.length ≤ 9000) (hx : xs[p]? = some c) :
    Calls Try.prog 69 #[.pointer (some ⟨P, 0, none⟩)] w fun e w' => e = .returned (.tuple #[.int .i64 (cpc b c (xs.drop (p + 1))).1, .int .i64 (cpc b c (xs.drop (p + 1))).2.1, .bool (cpc b c (xs.drop (p + 1))).2.2]) ∧ Below w.heap.size w w' := by
  have hp := (List.getElem?_eq_some_iff.1 hx).1
  have hb := Below.refl w.heap.size w
  have hcr := hg.get hx
  have hc0 := hcr.1
  have hc1 := hcr.2
  have hn0 := now_yes P w v xs p n 0 b c hk h (by omega) hx
  rw [show ((0 : Nat) : Int) = 0 from rfl] at hn0
  have hpr := fun w => prin_any c w
  have HN0 := Lib.hid hn0; clear hn0
  have hrr : (xs.drop (p + 1))[0]? = xs[p + 1]? := by rw [List.getElem?_drop]
  rcases hq : prB c with _ | _
  · rw [hq] at hpr
    have HPR := Lib.hid hpr
    rw [cpc, if_pos hq]
    clear hpr hq hrr
    go_enter Try.func69, Try.ntmps69
    go_wp2_with fail
    refine (HN0.out).mono ?_
    rintro e w1 ⟨rfl, hb1⟩
    replace hb := (by first | exact below_trans hb hb1 | exact below_trans (hb.alloc hb.size _) hb1 | exact below_trans ((hb.alloc hb.size _).alloc (hb.alloc hb.size _).size _) hb1 : Below w.heap.size w _)
    go_wp2_with fail
    refine (HPR.out _).mono ?_
    rintro e w' ⟨rfl, hw⟩
    obtain rfl := hw.symm
    go_wp2
    go_ret3
    exact ⟨rfl, hb⟩
  · rw [hq] at hpr
    have HPR := Lib.hid hpr
    rcases Decidable.em (c = 38) with rfl | h38
    · clear hpr hq
      by_cases h1 : p + 1 < xs.length
      case' pos =>
        obtain ⟨y, hy⟩ : ∃ y, xs[p + 1]? = some y := ⟨_, List.getElem?_eq_getElem h1⟩
        have hn1 := fun w1 hb => now_yes P w1 v xs p n 1 b y (hk.below hb) (h.below hb) (by omega) hy
        rw [show ((1 : Nat) : Int) = 1 from rfl] at hn1
        rw [hy] at hrr
        have hyd : (y = 45 ∧ (xs.drop (p + 1))[0]? = some 45) ∨ (y ≠ 45 ∧ (xs.drop (p + 1))[0]? ≠ some 45) := by
          rcases Decidable.em (y = 45) with rfl | hne
          · exact .inl ⟨rfl, hrr⟩
          · exact .inr ⟨hne, by rw [hrr]; exact fun h => hne (Option.some.inj h)⟩
        clear hrr hy
      case' neg =>
        have hn1 := fun w1 hb => now_no P w1 v xs p n 1 b (hk.below hb) (h.below hb) (by omega) (by omega) (by omega) (by omega)
        rw [show ((1 : Nat) : Int) = 1 from rfl] at hn1
        have hz : (xs.drop (p + 1))[0]? ≠ some 45 := (by rw [hrr, List.getElem?_eq_none (by omega)]; simp)
        clear hrr
      case' pos =>
        rcases hyd with ⟨rfl, hz⟩ | ⟨hy, hz⟩
      case' pos.inl =>
        have HN1 := Lib.hid hn1; clear hn1
        rw [cpc, if_neg (by decide), if_neg (by decide), if_pos hz]
        clear hz
        go_enter Try.func69, Try.ntmps69
        go_wp2_with fail
        refine (HN0.out).mono ?_
        rintro e w1 ⟨rfl, hb1⟩
        replace hb := (by first | exact below_trans hb hb1 | exact below_trans (hb.alloc hb.size _) hb1 | exact below_trans ((hb.alloc hb.size _).alloc (hb.alloc hb.size _).size _) hb1 : Below w.heap.size w _)
        go_wp2_with fail
        refine (HPR.out _).mono ?_
        rintro e w' ⟨rfl, hw⟩
        obtain rfl := hw.symm
        go_wp2_with fail
        refine (HN1.out _ hb).mono ?_
        rintro e w2 ⟨rfl, hb2⟩
        replace hb := (by first | exact below_trans hb hb2 | exact below_trans (hb.alloc hb.size _) hb2 | exact below_trans ((hb.alloc hb.size _).alloc (hb.alloc hb.size _).size _) hb2 : Below w.heap.size w _)
        go_wp2
        go_ret3
        exact ⟨rfl, hb⟩
      case' pos.inr =>
        have hyb : (y == 45) = false := beq_false_of_ne hy
        clear hy
      all_goals
        have HN1 := Lib.hid hn1; clear hn1
        have hD := fun w1 hb => cdigits_any P w1 v xs p n b (hk.below hb) (h.below hb) hg (by omega) hp
        have hR := fun w1 dv hb hd => oruns_any P w1 v dv xs p n b (hk.below hb) (h.below hb) hg hl hp hd
        have hcp := fun hm => cpc_run (b := b) (r := xs.drop (p + 1)) hz hm
        have hcz : ml (xs.drop (p + 1)) = 0 → cpc b 38 (xs.drop (p + 1)) = (2, 0, false) := fun hm => by rw [cpc, if_neg (by decide), if_neg (by decide), if_neg hz, if_pos hm]
        have hdl : ((xs.drop (p + 1)).take (ml (xs.drop (p + 1)))).length = ml (xs.drop (p + 1)) := by
          have hle := ml_le (xs.drop (p + 1))
          rw [List.length_take]; omega
        clear hz
        generalize cruns b (xs.drop (p + 1)) = CR at *
        generalize cpc b 38 (xs.drop (p + 1)) = CP at *
        generalize (xs.drop (p + 1)).take (ml (xs.drop (p + 1))) = d at *
        generalize ml (xs.drop (p + 1)) = m at *
        have HD := Lib.hid hD; have HR := Lib.hid hR; have HDL : Hid ((ints .u8 d).length = m) := (by rw [← hdl]; exact ints_length _ _)
        clear hD hR hdl
        rcases Nat.eq_zero_or_pos m with hm | hm
        · have e := hcz hm
          subst e
          clear hcz hcp
          subst hm
          go_enter Try.func69, Try.ntmps69
          go_wp2_with fail
          refine (HN0.out).mono ?_
          rintro e w1 ⟨rfl, hb1⟩
          replace hb := (by first | exact below_trans hb hb1 | exact below_trans (hb.alloc hb.size _) hb1 | exact below_trans ((hb.alloc hb.size _).alloc (hb.alloc hb.size _).size _) hb1 : Below w.heap.size w _)
          go_wp2_with fail
          refine (HPR.out _).mono ?_
          rintro e w' ⟨rfl, hw⟩
          obtain rfl := hw.symm
          go_wp2_with fail
          refine (HN1.out _ hb).mono ?_
          rintro e w2 ⟨rfl, hb2⟩
          replace hb := (by first | exact below_trans hb hb2 | exact below_trans (hb.alloc hb.size _) hb2 | exact below_trans ((hb.alloc hb.size _).alloc (hb.alloc hb.size _).size _) hb2 : Below w.heap.size w _)
          go_wp2_with fail
          refine (HD.out _ hb).mono ?_
          rintro e w3 ⟨t3, rfl, hr3, hb3⟩
          replace hb := (by first | exact below_trans hb hb3 | exact below_trans (hb.alloc hb.size _) hb3 | exact below_trans ((hb.alloc hb.size _).alloc (hb.alloc hb.size _).size _) hb3 : Below w.heap.size w _)
          obtain ⟨a3, c3, rfl⟩ := hr3.formL HDL.out
          go_wp2
          go_ret3
          exact ⟨rfl, hb⟩
        · have e := hcp (by omega)
          subst e
          clear hcz hcp
          have hm1 : ¬ ((m : Int) = 0) := by omega
          have hm2 : ((m : Int) == 0) = false := beq_false_of_ne hm1
          go_enter Try.func69, Try.ntmps69
          go_wp2_with fail
          refine (HN0.out).mono ?_
          rintro e w1 ⟨rfl, hb1⟩
          replace hb := (by first | exact below_trans hb hb1 | exact below_trans (hb.alloc hb.size _) hb1 | exact below_trans ((hb.alloc hb.size _).alloc (hb.alloc hb.size _).size _) hb1 : Below w.heap.size w _)
          go_wp2_with fail
          refine (HPR.out _).mono ?_
          rintro e w' ⟨rfl, hw⟩
          obtain rfl := hw.symm
          go_wp2_with fail
          refine (HN1.out _ hb).mono ?_
          rintro e w2 ⟨rfl, hb2⟩
          replace hb := (by first | exact below_trans hb hb2 | exact below_trans (hb.alloc hb.size _) hb2 | exact below_trans ((hb.alloc hb.size _).alloc (hb.alloc hb.size _).size _) hb2 : Below w.heap.size w _)
          go_wp2_with fail
          refine (HD.out _ hb).mono ?_
          rintro e w3 ⟨t3, rfl, hr3, hb3⟩
          replace hb := (by first | exact below_trans hb hb3 | exact below_trans (hb.alloc hb.size _) hb3 | exact below_trans ((hb.alloc hb.size _).alloc (hb.alloc hb.size _).size _) hb3 : Below w.heap.size w _)
          obtain ⟨a3, c3, rfl⟩ := hr3.formL HDL.out
          go_wp2_with fail
          refine (HR.out _ _ hb hr3).mono ?_
          rintro e w4 ⟨rfl, hb4⟩
          replace hb := (by first | exact below_trans hb hb4 | exact below_trans (hb.alloc hb.size _) hb4 | exact below_trans ((hb.alloc hb.size _).alloc (hb.alloc hb.size _).size _) hb4 : Below w.heap.size w _)
          go_wp2
          go_ret3
          exact ⟨rfl, hb⟩
    · have hne : (c != 38) = true := by simpa using h38
      rw [cpc, if_neg (by rw [hq]; decide), if_pos h38]
      clear hpr hq hrr h38
      go_enter Try.func69, Try.ntmps69
      go_wp2_with fail
      refine (HN0.out).mono ?_
      rintro e w1 ⟨rfl, hb1⟩
      replace hb := (by first | exact below_trans hb hb1 | exact below_trans (hb.alloc hb.size _) hb1 | exact below_trans ((hb.alloc hb.size _).alloc (hb.alloc hb.size _).size _) hb1 : Below w.heap.size w _)
      go_wp2_with fail
      refine (HPR.out _).mono ?_
      rintro e w' ⟨rfl, hw⟩
      obtain rfl := hw.symm
      go_wp2
      go_ret3
      exact ⟨rfl, hb⟩
theorem cwhy_at {xs : List Int} {p : Nat} {c : Int} {b : Bool} (h : xs[p]? = some c) : cwhy b (xs.drop p) = cwhy b (c :: xs.drop (p + 1)) := by
  obtain ⟨k1, k2⟩ := List.getElem?_eq_some_iff.1 h
  rw [List.drop_eq_getElem_cons k1, k2]
def CkE (P : Nat) (v : Value) (p n : Nat) (w' : World) : Prop := ∃ b, Ck P w' v p n b
/-- What the loop of check keeps. -/
def CkI (w : World) (xs : List Int) (v : Value) (wr : World) : Prop :=
  ∃ (p n : Nat) (b : Bool), p ≤ xs.length ∧ n ≤ p ∧ Ck w.heap.size wr v p n b ∧ Below w.heap.size w wr ∧ Hid (cwhy false xs = ((cwhy b (xs.drop p)).1, p + (cwhy b (xs.drop p)).2.1, n + (cwhy b (xs.drop p)).2.2))
def ckLeft (B : Nat) (n : Nat) (wr : World) : Nat := n - (intOf ((wr.cell? ⟨B, 1, none⟩).getD undef)).toNat
theorem ckLeft_eq {B N p n : Nat} {wr : World} {v : Value} {b : Bool} (h : Ck B wr v p n b) : ckLeft B N wr = N - p := by
  rw [ckLeft, h.2.1]; simp [intOf]
set_option maxRecDepth 100000 in
theorem ocheck_any (v : Value) (xs : List Int) (w : World) (h : Row w v (ints .u8 xs)) (hg : Rg 0 256 xs) (hl : xs.length ≤ 9000) :
    Calls Try.prog 46 #[v] w fun e w' => e = .returned (.tuple #[.pointer (some ⟨w.heap.size, 0, none⟩), .int .i64 (cwhy false xs).1]) ∧ CkE w.heap.size v (cwhy false xs).2.1 (cwhy false xs).2.2 w' ∧ Below w.heap.size w w' := by
  obtain ⟨a, bb, off, cp, rfl, _⟩ := id h.op
  go_enter Try.func46, Try.ntmps46
  go_wp2
  go_loopw [] (fun wr => CkI w xs (.slice a xs.length cp) wr) (fun wr => ckLeft w.heap.size xs.length wr)
  case atStart =>
    refine ⟨0, 0, false, Nat.zero_le _, Nat.le_refl _, ⟨?_, ?_, ?_, ?_, fun j => frozen_new _ _ _ j, by simp⟩, (Below.refl _ _).alloc (Nat.le_refl _) _, ?_⟩
    · rw [cell_new]; rfl
    · rw [cell_new]; rfl
    · rw [cell_new]; rfl
    · rw [cell_new]; rfl
    · show _ = _
      simp
  case round =>
    obtain ⟨p, n, b, hp, hn, hk, hb, HS⟩ := hrel
    have hms := ckLeft_eq (N := xs.length) hk
    obtain ⟨k0, k1, k2, k3, kf, kP⟩ := id hk
    by_cases hlt : p < xs.length
    · obtain ⟨c, hx⟩ : ∃ c, xs[p]? = some c := ⟨_, List.getElem?_eq_getElem hlt⟩
      have hP := opiece_any w.heap.size wr _ xs p n b c hk (h.below hb) hg hl hx
      have hs := HS.out
      rw [cwhy_at hx] at hs
      have hlen := fun h => @cpc_len b c (xs.drop (p + 1)) h
      rcases Decidable.em ((cpc b c (xs.drop (p + 1))).1 = 0) with h0 | h0
      · have hl2 := hlen h0
        rw [List.length_drop] at hl2
        obtain ⟨m, q, hm⟩ : ∃ m q, cpc b c (xs.drop (p + 1)) = (0, m, q) := ⟨_, _, by rw [← h0]⟩
        rw [hm] at hP hl2
        rw [cwhy_ok hm, List.drop_drop, show p + 1 + (m - 1) = p + m by have := hl2.1; simp only at this; omega] at hs
        have hm1 : 1 ≤ m := hl2.1
        have hm2 : p + m ≤ xs.length := by have := hl2.2; simp only at this; omega
        have hNX : ∀ wz, Ck w.heap.size wz (.slice a xs.length cp) (p + m) (n + 1) q → Below w.heap.size w wz → CkI w xs (.slice a xs.length cp) wz := fun wz h1 h2 => by
          refine ⟨p + m, n + 1, q, hm2, by omega, h1, h2, ?_⟩
          show _ = _
          rw [hs]; simp only [Nat.add_assoc]
        have HNX := Lib.hid hNX; have HP := Lib.hid hP; have HMS := Lib.hid hms
        clear hNX hP hs HS hlen h0 hl2 hm hms
        go_wp2_with (go_at_call 69; refine (HP.out).mono ?_; rintro e w1 ⟨rfl, hb1⟩; have hkk := hk.below hb1; have hbw := below_trans hb hb1; obtain ⟨k0, k1, k2, k3, kf, kP⟩ := id hkk; have f1 := kf 1; have f2 := kf 2; have f3 := kf 3; have c1 := hkk.setP (p + m) ((p : Int) + m) (by omega); have c2 := c1.setB q; have c3 := c2.setN (n + 1) ((n : Int) + 1) (by omega); have e2 := c2.2.2.1)
        go_roundw
        case rel => exact HNX.out _ c3 (((hbw.setCell (p := ⟨w.heap.size, 1, none⟩) (Nat.le_refl _) _).setCell (p := ⟨w.heap.size, 3, none⟩) (Nat.le_refl _) _).setCell (p := ⟨w.heap.size, 2, none⟩) (Nat.le_refl _) _)
        case measure => rw [ckLeft_eq c3, HMS.out]; omega
      · rw [cwhy_bad h0] at hs
        have hn0 : ((cpc b c (xs.drop (p + 1))).1 != 0) = true := by simpa using h0
        generalize (cpc b c (xs.drop (p + 1))).1 = W at *
        generalize (cpc b c (xs.drop (p + 1))).2.1 = m at *
        generalize (cpc b c (xs.drop (p + 1))).2.2 = q at *
        have HP := Lib.hid hP; have HS2 := Lib.hid hs
        clear hP hs HS hlen h0 hms
        go_wp2_with (go_at_call 69; refine (HP.out).mono ?_; rintro e w1 ⟨rfl, hb1⟩; have hkk := hk.below hb1; have hbw := below_trans hb hb1)
        go_ret2
        rw [HS2.out]
        exact ⟨rfl, ⟨b, hkk⟩, hbw⟩
    · have hs := HS.out
      rw [List.drop_eq_nil_of_le (by omega), cwhy_nil] at hs
      have HS2 := Lib.hid hs
      clear hs HS
      obtain rfl : p = xs.length := by omega
      go_wp2
      go_ret2
      rw [HS2.out]
      exact ⟨rfl, ⟨b, hk⟩, hb⟩
end Go.Proofs.Ytbpjgmiedplidaa
namespace Go.Proofs.Ytbpjgmiedplidaa
open Go.RowKit
set_option maxHeartbeats 2000000
def rightB (xs : List Int) : Bool := (cwhy false xs).1 == 0
theorem oWhy_any (v : Value) (xs : List Int) (w : World) (h : Row w v (ints .u8 xs)) (hg : Rg 0 256 xs) (hl : xs.length ≤ 9000) :
    Calls Try.prog 25 #[v] w fun e w' => e = .returned (.tuple #[.int .i64 (cwhy false xs).1, .int .i64 (cwhy false xs).2.1]) ∧ Below w.heap.size w w' := by
  have hC := ocheck_any v xs w h hg hl
  generalize (cwhy false xs).1 = W at *
  generalize (cwhy false xs).2.1 = p at *
  generalize (cwhy false xs).2.2 = n at *
  have HC := Lib.hid hC; clear hC
  go_enter Try.func25, Try.ntmps25
  go_wp2_with (go_at_call 46; refine (HC.out).mono ?_; rintro e w1 ⟨rfl, ⟨b, k0, k1, k2, k3, kf, kP⟩, hb⟩)
  go_quiet (fail)
  go_wp2
  go_ret2
  exact ⟨rfl, below_drewN hb _⟩
theorem oRight_any (v : Value) (xs : List Int) (w : World) (h : Row w v (ints .u8 xs)) (hg : Rg 0 256 xs) (hl : xs.length ≤ 9000) :
    Calls Try.prog 28 #[v] w fun e w' => e = .returned (.bool (rightB xs)) ∧ Below w.heap.size w w' := by
  have hW := oWhy_any v xs w h hg hl
  rw [rightB]
  generalize (cwhy false xs).1 = W at *
  generalize (cwhy false xs).2.1 = p at *
  have HW := Lib.hid hW; clear hW
  go_enter Try.func28, Try.ntmps28
  go_wp2_with (go_at_call 25; refine (HW.out).mono ?_; rintro e w1 ⟨rfl, hb⟩)
  go_ret
  exact ⟨rfl, hb⟩
theorem oPieces_any (v : Value) (xs : List Int) (w : World) (h : Row w v (ints .u8 xs)) (hg : Rg 0 256 xs) (hl : xs.length ≤ 9000) :
    Calls Try.prog 27 #[v] w fun e w' => e = .returned (.int .i64 (cwhy false xs).2.2) ∧ Below w.heap.size w w' := by
  have hC := ocheck_any v xs w h hg hl
  generalize (cwhy false xs).1 = W at *
  generalize (cwhy false xs).2.1 = p at *
  generalize (cwhy false xs).2.2 = n at *
  have HC := Lib.hid hC; clear hC
  go_enter Try.func27, Try.ntmps27
  go_wp2_with (go_at_call 46; refine (HC.out).mono ?_; rintro e w1 ⟨rfl, ⟨b, k0, k1, k2, k3, kf, kP⟩, hb⟩)
  go_ret
  exact ⟨rfl, hb⟩
def kreadT (xs : List Int) : List Int := if rightB xs then (mread xs).1 else []
def kreadE (xs : List Int) : Int := if rightB xs then 0 else 14
theorem okRead_any (v : Value) (xs : List Int) (w : World) (h : Row w v (ints .u8 xs)) (hg : Rg 0 256 xs) (hl : xs.length ≤ 9000) :
    Calls Try.prog 29 #[v] w fun e w' => ∃ t, e = .returned (.tuple #[t, .int .i64 (kreadE xs)]) ∧ Own w.heap.size 21 w' t (ints .i32 (kreadT xs)) ∧ Below w.heap.size w w' := by
  have hR := oRight_any v xs w h hg hl
  have hM := fun w' h' => omRead_any v xs w' h' hg hl
  rw [kreadE, kreadT]
  generalize (mread xs).1 = T at *
  generalize rightB xs = q at *
  have HR := Lib.hid hR; have HM := Lib.hid hM; clear hR hM
  rcases q with _ | _
  · rw [if_neg (by decide), if_neg (by decide)]
    go_enter Try.func29, Try.ntmps29
    go_wp2_with (go_at_call 28; refine (HR.out).mono ?_; rintro e w1 ⟨rfl, hb⟩)
    go_ret2
    exact ⟨_, rfl, Own.nil _ _ _, hb⟩
  · rw [if_pos rfl, if_pos rfl]
    go_enter Try.func29, Try.ntmps29
    go_wp2_with (first | (go_at_call 28; refine (HR.out).mono ?_; rintro e w1 ⟨rfl, hb⟩) | (go_at_call 23; refine (HM.out _ (h.below hb)).mono ?_; rintro e w2 ⟨t2, rfl, ho2, hb2⟩))
    go_ret2
    exact ⟨_, rfl, ho2.mono hb.size, below_trans hb hb2⟩
theorem seq_any (v1 v2 : Value) (xs ys : List Int) (w : World) (h1 : Row w v1 (ints .i32 xs)) (h2 : Row w v2 (ints .i32 ys)) (hl : xs.length ≤ 1000000000) (hl' : ys.length ≤ 1000000000) :
    Calls Try.prog 57 #[v1, v2] w fun e w' => e = .returned (.bool (decide (xs = ys))) ∧ Below w.heap.size w w' := by
  obtain ⟨a, b, off, cp, rfl, HC⟩ := h1.op
  obtain ⟨a2, b2, off2, cp2, rfl, HD⟩ := h2.op
  by_cases hn : xs.length = ys.length
  · have HN : Hid (xs.length = ys.length) := hn
    have hq : ((xs.length : Int) != ys.length) = false := by rw [hn]; simp
    clear hn
    have HT : ∀ k, Hid (xs.take k = ys.take k) → k = xs.length → decide (xs = ys) = true := fun k h hk => decide_eq_true (by
      have := h.out
      rwa [List.take_of_length_le (by omega), List.take_of_length_le (by have := HN.out; omega)] at this)
    have HT2 := Lib.hid HT; clear HT
    go_enter Try.func57, Try.ntmps57
    go_wp2
    go_loopw [13] (fun i wr => ∃ k : Nat, i = .int .i64 k ∧ k ≤ xs.length ∧ Hid (xs.take k = ys.take k) ∧ Below w.heap.size w wr) (fun i _ => xs.length - (intOf i).toNat)
    case atStart => exact ⟨0, rfl, Nat.zero_le _, (rfl : xs.take 0 = ys.take 0), Below.refl _ _⟩
    case round =>
      obtain ⟨k, rfl, hk, HS, hb⟩ := hrel
      by_cases hlt : k < xs.length
      · have hlt2 : k < ys.length := by have := HN.out; omega
        obtain ⟨x, HX, rfl, hc⟩ := HC.out k hlt
        obtain ⟨y, HY, rfl, hd⟩ := HD.out k hlt2
        replace hc := hc wr hb
        replace hd := hd wr hb
        by_cases hxy : x = y
        · subst hxy
          go_wp2_with fail
          go_quiet (fail)
          go_wp2
          go_roundw
          case rel => exact ⟨k + 1, by go_num, by omega, (by rw [List.take_add_one, List.take_add_one, HX.out, HY.out, HS.out] : xs.take (k + 1) = ys.take (k + 1)), below_drewN hb _⟩
          case measure => simp [intOf]; omega
        · have hne : (x != y) = true := by simpa using hxy
          go_wp2_with fail
          go_quiet (fail)
          go_wp2
          go_ret
          refine ⟨ret_bool (decide_eq_false ?_).symm, below_drewN hb _⟩
          intro he
          subst he
          exact hxy (Option.some.inj (HX.out.symm.trans HY.out))
      · have he := HT2.out k HS (by omega)
        go_wp2
        go_ret
        exact ⟨ret_bool (by first | exact he.symm | trivial), hb⟩
  · have hd : decide (xs = ys) = false := decide_eq_false fun h => hn (by rw [h])
    have hq : ((xs.length : Int) != ys.length) = true := by simp; omega
    have HDD := Lib.hid hd; clear hd
    go_enter Try.func57, Try.ntmps57
    go_wp2
    go_ret
    exact ⟨ret_bool HDD.out.symm, Below.refl _ _⟩
def sameB (xs ys : List Int) : Bool := rightB xs && (rightB ys && decide ((mread xs).1 = (mread ys).1))
theorem oSame_any (v1 v2 : Value) (xs ys : List Int) (w : World) (h1 : Row w v1 (ints .u8 xs)) (h2 : Row w v2 (ints .u8 ys)) (hg : Rg 0 256 xs) (hg2 : Rg 0 256 ys) (hl : xs.length ≤ 9000) (hl' : ys.length ≤ 9000) :
    Calls Try.prog 33 #[v1, v2] w fun e w' => e = .returned (.bool (sameB xs ys)) ∧ Below w.heap.size w w' := by
  have hA := okRead_any v1 xs w h1 hg hl
  have hB := fun w' h' => okRead_any v2 ys w' h' hg2 hl'
  have hx := mread_len _ xs (Nat.le_refl _)
  have hy := mread_len _ ys (Nat.le_refl _)
  rw [kreadE, kreadT] at hA
  simp only [kreadE, kreadT] at hB
  rw [sameB]
  generalize (mread xs).1 = T at *
  generalize (mread ys).1 = U at *
  generalize rightB xs = q at *
  generalize rightB ys = r at *
  have HTL : Hid (T.length ≤ 9000 ∧ U.length ≤ 9000) := ⟨by omega, by omega⟩
  clear hx hy
  rcases q with _ | _
  · have HA := Lib.hid hA; have HB := Lib.hid hB; clear hA hB
    have hb := Below.refl w.heap.size w
    rcases r with _ | _
    all_goals
      go_enter Try.func33, Try.ntmps33
      go_wp2_with fail
      refine (HA.out).mono ?_
      rintro e w1 ⟨t1, rfl, ho1, hb1⟩
      replace hb := (by first | exact below_trans hb hb1 | exact below_trans (hb.alloc hb.size _) hb1 | exact below_trans ((hb.alloc hb.size _).alloc (hb.alloc hb.size _).size _) hb1 : Below w.heap.size w _)
      go_wp2_with fail
      refine (HB.out _ (h2.below hb)).mono ?_
      rintro e w2 ⟨t2, rfl, ho2, hb2⟩
      replace hb := (by first | exact below_trans hb hb2 | exact below_trans (hb.alloc hb.size _) hb2 | exact below_trans ((hb.alloc hb.size _).alloc (hb.alloc hb.size _).size _) hb2 : Below w.heap.size w _)
      go_wp2
      go_ret
      exact ⟨rfl, hb⟩
  · rcases r with _ | _
    · have HA := Lib.hid hA; have HB := Lib.hid hB; clear hA hB
      have hb := Below.refl w.heap.size w
      go_enter Try.func33, Try.ntmps33
      go_wp2_with fail
      refine (HA.out).mono ?_
      rintro e w1 ⟨t1, rfl, ho1, hb1⟩
      replace hb := (by first | exact below_trans hb hb1 | exact below_trans (hb.alloc hb.size _) hb1 | exact below_trans ((hb.alloc hb.size _).alloc (hb.alloc hb.size _).size _) hb1 : Below w.heap.size w _)
      go_wp2_with fail
      refine (HB.out _ (h2.below hb)).mono ?_
      rintro e w2 ⟨t2, rfl, ho2, hb2⟩
      replace hb := (by first | exact below_trans hb hb2 | exact below_trans (hb.alloc hb.size _) hb2 | exact below_trans ((hb.alloc hb.size _).alloc (hb.alloc hb.size _).size _) hb2 : Below w.heap.size w _)
      go_wp2
      go_ret
      exact ⟨rfl, hb⟩
    · simp only [if_true, eq_self, Bool.true_and] at hA hB ⊢
      have HA := Lib.hid hA; have HB := Lib.hid hB; clear hA hB
      have hb := Below.refl w.heap.size w
      go_enter Try.func33, Try.ntmps33
      go_wp2_with fail
      refine (HA.out).mono ?_
      rintro e w1 ⟨t1, rfl, ho1, hb1⟩
      replace hb := (by first | exact below_trans hb hb1 | exact below_trans (hb.alloc hb.size _) hb1 | exact below_trans ((hb.alloc hb.size _).alloc (hb.alloc hb.size _).size _) hb1 : Below w.heap.size w _)
      go_wp2_with fail
      refine (HB.out _ (h2.below hb)).mono ?_
      rintro e w2 ⟨t2, rfl, ho2, hb2⟩
      replace hb := (by first | exact below_trans hb hb2 | exact below_trans (hb.alloc hb.size _) hb2 | exact below_trans ((hb.alloc hb.size _).alloc (hb.alloc hb.size _).size _) hb2 : Below w.heap.size w _)
      have r1 := ho1.row.below hb2
      have r2 := ho2.row
      clear ho1 ho2
      go_wp2_with fail
      refine (seq_any _ _ T U _ r1 r2 (by have := HTL.out.1; omega) (by have := HTL.out.2; omega)).mono ?_
      rintro e w3 ⟨rfl, hb3⟩
      replace hb := (by first | exact below_trans hb hb3 | exact below_trans (hb.alloc hb.size _) hb3 | exact below_trans ((hb.alloc hb.size _).alloc (hb.alloc hb.size _).size _) hb3 : Below w.heap.size w _)
      go_wp2
      go_ret
      exact ⟨rfl, hb⟩
theorem rkdigit_any (v : Value) (xs : List Int) (k : Nat) (w : World) (h : Row w v (ints .u8 xs)) :
    Calls Try.prog 47 #[v, .int .i64 k] w fun e w' => e = .returned (.bool (mdigB xs[k]?)) ∧ w' = w := by
  obtain ⟨a, b, off, cp, rfl, HC⟩ := h.op
  by_cases hk : k < xs.length
  · obtain ⟨c, HX, rfl, hc⟩ := HC.out k hk
    replace hc := hc _ (Below.refl _ _)
    have hb : mdigB xs[k]? = decide (0 ≤ mv c) := by rw [HX.out]; rfl
    rw [hb]
    have hv := fun w => rmValue_any c w
    generalize decide (0 ≤ mv c) = q at *
    have HV := Lib.hid hv; clear hv hb
    go_enter Try.func47, Try.ntmps47
    go_wp2_with (go_at_call 53; refine (HV.out _).mono ?_; rintro e w' ⟨rfl, rfl⟩)
    go_ret
    exact ⟨rfl, rfl⟩
  · have hb : mdigB xs[k]? = false := by rw [List.getElem?_eq_none (by omega)]; rfl
    rw [hb]
    clear hb
    go_enter Try.func47, Try.ntmps47
    go_wp2
    go_ret
    exact ⟨rfl, rfl⟩
/-- Why a run of digits may not be. -/
def rrun (b : Bool) (d : List Int) : Int :=
  if mrunR d = false ∨ mrunT d = [] then 4 else if (mrunT d).any prB = true then 5 else if b = true then 6 else 0
theorem cruns_rrun (b : Bool) (r : List Int) (h : r[ml r]? = some 45) : cruns b r = (rrun b (r.take (ml r)), if rrun b (r.take (ml r)) = 0 then ml r + 2 else 0) := by
  rw [cruns, if_neg (fun hh => hh h), rrun, mrun_dig.1, mrun_dig.2]
  repeat' split
  all_goals first | rfl | (exfalso; omega) | simp_all
theorem rkrun_any (v : Value) (d : List Int) (b : Bool) (w : World) (h : Row w v (ints .u8 d)) (hg : Rg 0 256 d) (hl : d.length ≤ 9000) :
    Calls Try.prog 48 #[v, .bool b] w fun e w' => e = .returned (.int .i64 (rrun b d)) ∧ Below w.heap.size w w' := by
  have hR := rmRun_any v d w h hg hl
  have hTl : (mrunT d).length ≤ 9000 := by
    unfold mrunT
    split
    · have := runT_len (usuL d); rw [usuL, subL_len] at this; unfold usuL; omega
    · simp
  rw [rrun]
  generalize mrunR d = R at *
  generalize mrunT d = T at *
  generalize mrunA d = A at *
  have HY : Hid (∀ (k : Nat) (c : Int), T[k]? = some c → prB c = true → T.any prB = true) := fun k c h1 h2 => List.any_eq_true.2 ⟨c, List.mem_of_getElem? h1, h2⟩
  have HNO : Hid ((∀ (k : Nat) (c : Int), T[k]? = some c → prB c = false) → T.any prB = false) := any_none
  have hTn : (ints .i32 T).length = T.length := ints_length _ _
  have HR := Lib.hid hR; have HTN := Lib.hid hTn; clear hR hTn
  rcases R with _ | _
  · rw [if_pos (Or.inl rfl)]
    go_enter Try.func48, Try.ntmps48
    go_wp2_with (go_at_call 32; refine (HR.out).mono ?_; rintro e w1 ⟨t1, u1, rfl, ho1, _, hb1⟩)
    go_ret
    exact ⟨rfl, hb1⟩
  · rcases hT : T with _ | ⟨y, T'⟩
    · rw [if_pos (Or.inr rfl)]
      subst hT
      go_enter Try.func48, Try.ntmps48
      go_wp2_with (go_at_call 32; refine (HR.out).mono ?_; rintro e w1 ⟨t1, u1, rfl, ho1, _, hb1⟩; obtain ⟨a2, c2, rfl⟩ := ho1.row.formL (n := 0) rfl)
      go_ret
      exact ⟨rfl, hb1⟩
    · rw [if_neg (by simp), ← hT]
      have hT0 : 0 < T.length := by rw [hT]; simp
      have hT1 : ¬ ((T.length : Int) = 0) := by omega
      have hT2 : ((T.length : Int) == 0) = false := beq_false_of_ne hT1
      clear hT
      generalize T.any prB = q at *
      obtain ⟨rv, HRV⟩ : ∃ rv : Int, Hid ((if q = true then (5 : Int) else if b = true then 6 else 0) = rv) := ⟨_, rfl⟩
      rw [HRV.out]
      go_enter Try.func48, Try.ntmps48
      go_wp2_with (go_at_call 32; refine (HR.out).mono ?_; rintro e w1 ⟨t1, u1, rfl, ho1, _, hb1⟩; have r1 := ho1.row; obtain ⟨a1, b1, o1, c1, rfl, HC⟩ := r1.op)
      go_loop [8] (fun i => ∃ k : Nat, i = .int .i64 k ∧ k ≤ T.length ∧ Hid (∀ (j : Nat) (c : Int), j < k → T[j]? = some c → prB c = false)) (fun i => T.length - (intOf i).toNat)
      case atStart => exact ⟨0, rfl, Nat.zero_le _, fun j c hj => absurd hj (Nat.not_lt_zero _)⟩
      case round =>
        obtain ⟨k, rfl, hk, HB⟩ := hrel
        by_cases hlt : k < T.length
        · obtain ⟨c, HX, rfl, hc⟩ := HC.out k hlt
          replace hc := hc _ (Below.refl _ _)
          rcases hp : prB c with _ | _
          · have HB2 : Hid (∀ (j : Nat) (c : Int), j < k + 1 → T[j]? = some c → prB c = false) := fun j d hj hd => by
              by_cases hjk : j < k
              · exact HB.out j d hjk hd
              · obtain rfl : j = k := by omega
                rw [HX.out] at hd; cases hd; exact hp
            have hp2 := of_decide_eq_false hp
            clear hp
            by_cases hc32 : 32 ≤ c
            · have hc126 : ¬ c ≤ 126 := fun h => hp2 ⟨hc32, h⟩
              clear hp2
              go_wp2
              go_round
              case rel => exact ⟨k + 1, by go_num, by omega, HB2⟩
              case measure => simp [intOf]; omega
            · clear hp2
              go_wp2
              go_round
              case rel => exact ⟨k + 1, by go_num, by omega, HB2⟩
              case measure => simp [intOf]; omega
          · have hp2 := of_decide_eq_true hp
            have HQ := Lib.hid (HY.out k c HX.out hp)
            have hp3 := hp2.1
            have hp4 := hp2.2
            clear hp hp2
            go_wp2
            go_ret
            exact ⟨ret_int (by rw [← HRV.out, HQ.out, if_pos rfl]), hb1⟩
        · have HQ := Lib.hid (HNO.out fun j c hj => HB.out j c (by have := (List.getElem?_eq_some_iff.1 hj).1; omega) hj)
          rcases b with _ | _
          · go_wp2
            go_ret
            exact ⟨ret_int (by rw [← HRV.out, HQ.out, if_neg (by decide), if_neg (by decide)]), hb1⟩
          · go_wp2
            go_ret
            exact ⟨ret_int (by rw [← HRV.out, HQ.out, if_neg (by decide), if_pos (by first | rfl | trivial)]), hb1⟩
end Go.Proofs.Ytbpjgmiedplidaa
