/- Walks: attributes. · Walks: an attribute. (laid together by program out of single texts). -/
import Derived.Test.YtoliaphiipkopaaDoorM19
import Derived.Test.YtoliaphiipkopaaDoorM24
namespace Go.Proofs.YtoliaphiipkopaaDoor
open Go.RowKit
set_option maxHeartbeats 4000000
set_option maxRecDepth 100000
theorem Own.cutK {B g n cap : Nat} {E : TypeId} {w : World} {cs : List Value} (h : Own B E w (.slice (some ⟨g, 0, none⟩) n cap) cs) (k : Nat) (hk : k ≤ cs.length) : Own B E w (.slice (some ⟨g, 0, none⟩) k cap) (cs.take k) := by
  obtain ⟨⟨hlen, h0⟩, h1⟩ := h
  refine ⟨?_, fun u hu => h1 u (List.mem_of_mem_take hu)⟩
  rcases h0 with ⟨h9, _⟩ | ⟨g', cap', cur, hv, hb, hg, hn, hm, hs, ht⟩
  · cases h9
  · cases hv
    have e : (cs.take k).length = k := by rw [List.length_take]; omega
    rw [e]
    refine ⟨by rw [e, Nat.mul_one], .inr ⟨g, cap, cur, rfl, hb, hg, by omega, hm, hs, ?_⟩⟩
    rw [← ht, List.take_take, Nat.min_eq_left (by omega), Nat.mul_one]
theorem bcut1_at (b off cp : Nat) (v2 : Value) (xs : List Int) (c : Int) (w : World) (h : Row w (.slice (some ⟨b, off, none⟩) xs.length cp) (ints .u8 xs)) (h2 : Row w v2 (ints .u8 [c])) (hg : Rg 0 256 xs) (h0 : 0 ≤ c) (h1 : c < 256) (hc : xs.contains c = true) (hl : xs.length ≤ 1000000) :
    Calls Tryd.prog 15 #[.slice (some ⟨b, off, none⟩) xs.length cp, v2] w fun e w' => ∃ r, e = .returned (.tuple #[.slice (some ⟨b, off, none⟩) (tw c xs).length cp, r, .bool true]) ∧ Row w' r (ints .u8 (xs.drop ((tw c xs).length + 1))) ∧ Below w.heap.size w w' := by
  have hI := bindex1_any _ v2 xs c w h h2 hg h0 h1
  rw [idxC_yes hc] at hI
  have hlt := tw_lt hc
  obtain ⟨b2, off2, cp2, rfl, _⟩ := one_cell8 h2
  have hcp : xs.length ≤ cp := by
    obtain ⟨_, _, _, _, hv2, hc9, _⟩ := h.int
    cases hv2; omega
  generalize hk : (tw c xs).length = k at *
  have hI0 : (0 : Int) ≤ (k : Int) := by omega
  have hI1 : (k : Int) ≤ xs.length := by omega
  have hI2 : (k : Int) ≤ cp := by omega
  have hI3 : (k : Int) + 1 ≤ xs.length := by omega
  have hI4 : (k : Int) + 1 ≤ cp := by omega
  have hI5 : ¬ cp = 0 := by omega
  have HI := Lib.hid hI
  have hB := Row.sub h.drew (some ⟨b, off, none⟩) cp (by rw [ints_length]) (k + 1) xs.length (by omega) (by rw [ints_length]; omega)
  rw [ints_take, List.take_length, ints_drop] at hB
  have HB := Lib.hid hB
  clear hI hc hk hB h
  go_enter Tryd.func15, Tryd.ntmps15
  go_wp2_with (go_at_call 29; refine (HI.out).mono ?_; rintro e w' ⟨rfl, hw⟩; obtain rfl := hw.symm)
  go_region
  all_goals go_wp2
  all_goals go_ret3
  all_goals refine ⟨_, rfl, Eq.mp (congrArg (fun v => Row w.drew v _) ?_) HB.out, (Below.refl _ _).drew⟩
  all_goals simp [sliced, addr_add, *]
theorem csuf_any (v v2 : Value) (xs : List Int) (w : World) (h : Row w v (ints .u8 xs)) (h2 : Row w v2 (ints .u8 [42])) (hg : Rg 0 256 xs) (h0 : 0 < xs.length) (hl : xs.length ≤ 900000) :
    Calls Tryd.prog 17 #[v, v2] w fun e w' => ∃ t, e = .returned (.tuple #[t, .bool (atrL.csS xs).2]) ∧ Row w' t (ints .u8 (atrL.csS xs).1) ∧ w' = w := by
  obtain ⟨b2, off2, cp2, rfl, _⟩ := one_cell8 h2
  obtain ⟨a, c, rfl⟩ := (id h).formN0 (n := xs.length) (by rw [ints_length])
  obtain ⟨z, hz⟩ : ∃ z, xs[xs.length - 1]? = some z := ⟨_, List.getElem?_eq_getElem (by omega)⟩
  have hd : xs.drop (xs.length - 1) = [z] := by
    rw [drop_at1 hz, List.drop_eq_nil_of_le (by omega)]
  have hw1 : IntKind.i64.wrap ((xs.length : Int) - 1) = ((xs.length - 1 : Nat) : Int) := by rw [IntWalk.i64_in _ (by omega)]; omega
  have hE := fun v3 h3 => beq_any v3 _ [z] [42] w h3 h2 (fun x hx => hg x (by rw [List.mem_singleton.1 hx]; exact List.mem_of_getElem? hz)) (by intro x hx; simp at hx; omega)
  have hs : atrL.csS xs = if z = 42 then (xs.take (xs.length - 1), true) else (xs, false) := by
    rw [atrL.csS, hz]
    by_cases h9 : z = 42
    · rw [if_pos h9, if_pos (by rw [h9])]
    · rw [if_neg h9, if_neg (fun h8 => h9 (Option.some.inj h8))]
  rw [hs]
  have HE := Lib.hid hE
  clear hE hs
  have hln : (1 : Int) ≤ xs.length := by omega
  have hS : Calls Tryd.prog 31 #[.slice a xs.length c, .slice (some ⟨b2, off2, none⟩) 1 cp2] w fun e w' => e = .returned (.bool (decide (z = 42))) ∧ w' = w := by
    have hq : decide ([z] = [42]) = decide (z = 42) := by simp
    rw [hq] at HE
    generalize decide (z = 42) = q at *
    clear hz hw1
    go_enter Tryd.func31, Tryd.ntmps31
    go_wp2_with (first | (refine wpList_slL slT_u8 _ _ rfl rfl rfl rfl h (by omega) (by rw [ints_length]; omega) ?_; intro v3 hv3; have r3 : Row w v3 (ints .u8 [z]) := (by have := hv3 w h; rw [show ((xs.length : Int) - 1).toNat = xs.length - 1 by omega, ints_drop, hd] at this; exact this); clear hv3) | (go_at_call 40; refine (HE.out _ r3).mono ?_; rintro e w' ⟨rfl, hw⟩; obtain rfl := hw.symm))
    go_ret
    exact ⟨rfl, rfl⟩
  by_cases h9 : z = 42
  · rw [decide_eq_true h9] at hS
    rw [if_pos h9]
    have HS := Lib.hid hS
    clear hS hd h9 hz HE hw1
    go_enter Tryd.func17, Tryd.ntmps17
    go_wp2_with (first | (go_at_call 31; refine (HS.out).mono ?_; rintro e w' ⟨rfl, hw⟩; obtain rfl := hw.symm) | (refine wpList_slH slT_u8 _ _ rfl rfl rfl rfl h (by omega) (by rw [ints_length]; omega) ?_; intro v3 hv3; have r3 : Row w v3 (ints .u8 (xs.take (xs.length - 1))) := (by have := hv3 w h; rw [show ((xs.length : Int) - 1).toNat = xs.length - 1 by omega, ints_take] at this; exact this); clear hv3))
    go_ret2
    exact ⟨_, rfl, r3, rfl⟩
  · rw [decide_eq_false h9] at hS
    rw [if_neg h9]
    have HS := Lib.hid hS
    clear hS hd h9 hz HE
    go_enter Tryd.func17, Tryd.ntmps17
    go_wp2_with (go_at_call 31; refine (HS.out).mono ?_; rintro e w' ⟨rfl, hw⟩; obtain rfl := hw.symm)
    go_ret2
    exact ⟨_, rfl, h, rfl⟩
theorem numV_bd : ∀ (n : Int) (k : Nat) (c : Int), 0 ≤ n → ((k = 0 ∧ n = 0) ∨ (k = 1 ∧ n ≤ 9) ∨ (k = 2 ∧ n ≤ 99)) → 48 ≤ c → c ≤ 57 → 0 ≤ 10 * n + (c - 48) ∧ ((k + 1 = 1 ∧ 10 * n + (c - 48) ≤ 9) ∨ (k + 1 = 2 ∧ 10 * n + (c - 48) ≤ 99) ∨ (k + 1 = 3 ∧ 10 * n + (c - 48) ≤ 999)) := by
  intro n k c h0 h1 h2 h3
  omega
theorem number_any (v : Value) (xs : List Int) (w : World) (h : Row w v (ints .u8 xs)) (hg : Rg 0 256 xs) (hl : xs.length ≤ 900000) :
    Calls Tryd.prog 18 #[v] w fun e w' => e = .returned (.int .i64 (numM xs)) ∧ w' = w := by
  have hA := oall_any 8 dgB v xs w kind_dg h hg (by omega)
  obtain ⟨a, b, off, cp, rfl, HC⟩ := id h.op
  obtain ⟨q, HQ⟩ : ∃ q, Hid (xs.all dgB = q) := ⟨_, rfl⟩
  rw [HQ.out] at hA
  have HA := Lib.hid hA
  clear hA
  unfold numM
  rw [HQ.out]
  by_cases h0 : xs.length = 0
  · rw [if_pos (.inl h0)]
    have hx : (xs.length : Int) = 0 := by omega
    go_enter Tryd.func18, Tryd.ntmps18
    go_wp2
    go_ret
    exact ⟨rfl, rfl⟩
  · have hx0 : ((xs.length : Int) == 0) = false := beq_false_of_ne (by omega)
    by_cases h3 : 3 < xs.length
    · rw [if_pos (.inr (.inl h3))]
      have hx3 : (3 : Int) < xs.length := by omega
      go_enter Tryd.func18, Tryd.ntmps18
      go_wp2
      go_ret
      exact ⟨rfl, rfl⟩
    · have hx3 : ¬ (3 : Int) < xs.length := by omega
      rcases q with _ | _
      · rw [if_pos (.inr (.inr (.inl rfl)))]
        go_enter Tryd.func18, Tryd.ntmps18
        go_wp2_with (go_at_call 16; refine (HA.out).mono ?_; rintro e w' ⟨rfl, hw⟩; obtain rfl := hw.symm)
        go_ret
        exact ⟨rfl, rfl⟩
      · obtain ⟨x, HX, rfl, hc⟩ := HC.out 0 (by omega)
        replace hc := hc _ (Below.refl _ _)
        simp only [Nat.add_zero] at hc
        rw [HX.out]
        by_cases h48 : x = 48 ∧ 1 < xs.length
        · rw [if_pos (.inr (.inr (.inr ⟨by rw [h48.1], h48.2⟩)))]
          obtain ⟨rfl, h1⟩ := h48
          have hx1 : (1 : Int) < xs.length := by omega
          go_enter Tryd.func18, Tryd.ntmps18
          go_wp2_with (go_at_call 16; refine (HA.out).mono ?_; rintro e w' ⟨rfl, hw⟩; obtain rfl := hw.symm)
          go_ret
          exact ⟨rfl, rfl⟩
        · rw [if_neg (by
            rintro (h9 | h9 | h9 | ⟨h9, h8⟩)
            · exact h0 h9
            · exact h3 h9
            · cases h9
            · exact h48 ⟨Option.some.inj h9, h8⟩)]
          have hall := List.all_eq_true.1 HQ.out
          have HDG : Hid (∀ c ∈ xs, 48 ≤ c ∧ c ≤ 57) := fun c hc => by have := hall c hc; simpa [dgB] using this
          have hgd : (x == 48) = false ∨ ¬ (1 : Int) < xs.length := by
            by_cases h9 : x = 48
            · right
              intro h8
              exact h48 ⟨h9, by omega⟩
            · exact .inl (beq_false_of_ne h9)
          have HNV : Hid (numV 0 xs = numV 0 xs) := rfl
          clear hall HQ h48 HX
          obtain ⟨V, HV⟩ : ∃ V, Hid (numV 0 xs = V) := ⟨_, rfl⟩
          rw [HV.out]
          clear HNV
          by_cases hx48 : x = 48
          case' pos =>
            have hx1 : ¬ (1 : Int) < xs.length := by
              rcases hgd with h9 | h9
              · rw [hx48] at h9; simp at h9
              · exact h9
            subst hx48
            clear hgd
          case' neg =>
            have hb48 : (x == 48) = false := beq_false_of_ne hx48
            clear hgd hx48
          all_goals
            go_enter Tryd.func18, Tryd.ntmps18
            go_wp2_with (go_at_call 16; refine (HA.out).mono ?_; rintro e w' ⟨rfl, hw⟩; obtain rfl := hw.symm)
            go_loopw [3, 32] (fun nv iv wr => ∃ (k : Nat) (n : Int), iv = .int .i64 k ∧ nv = .int .i64 n ∧ k ≤ xs.length ∧ 0 ≤ n ∧ Hid ((k = 0 ∧ n = 0) ∨ (k = 1 ∧ n ≤ 9) ∨ (k = 2 ∧ n ≤ 99) ∨ (k = 3 ∧ n ≤ 999)) ∧ Hid (numV n (xs.drop k) = V) ∧ wr = w) (fun _ iv _ => xs.length - (intOf iv).toNat)
            case atStart => exact ⟨0, 0, rfl, rfl, Nat.zero_le _, Int.le_refl _, .inl ⟨rfl, rfl⟩, HV.out, rfl⟩
            case round =>
              obtain ⟨k, n, rfl, rfl, hk, hn0, HN, HNV, hw⟩ := hrel
              obtain rfl := hw.symm
              by_cases hlt : k < xs.length
              · obtain ⟨c, HX, _, hc⟩ := HC.out k hlt
                replace hc := hc _ (Below.refl _ _)
                have hcr := HDG.out c (List.mem_of_getElem? HX.out)
                have hbd := numV_bd n k c hn0 (by have := HN.out; omega) hcr.1 hcr.2
                have hn99 : n ≤ 99 := by have := HN.out; omega
                have HBD := Lib.hid hbd.2
                have hV2 : numV (10 * n + (c - 48)) (xs.drop (k + 1)) = V := by rw [← HNV.out, drop_at1 HX.out, numV]
                have HV2 := Lib.hid hV2
                have hn1 := hbd.1
                have hw8 : IntKind.u8.wrap (c - 48) = c - 48 := IntWalk.u8_in _ (by omega)
                have hwa : IntKind.i64.wrap (10 * n) = 10 * n := IntWalk.i64_in _ (by omega)
                have hwb : IntKind.i64.wrap (10 * n + (c - 48)) = 10 * n + (c - 48) := IntWalk.i64_in _ (by omega)
                clear hbd hV2
                go_wp2
                go_roundw
                case rel => exact ⟨k + 1, 10 * n + (c - 48), by go_num, by first | rfl | go_num, by omega, hn1, (by have := HBD.out; show _ ∨ _ ∨ _ ∨ _; omega), HV2.out, by first | rfl | trivial⟩
                case measure => simp [intOf]; omega
              · have hf : V = n := by rw [← HNV.out, List.drop_eq_nil_of_le (by omega), numV]
                subst hf
                go_wp2
                go_ret
                exact ⟨rfl, rfl⟩
end Go.Proofs.YtoliaphiipkopaaDoor
namespace Go.Proofs.YtoliaphiipkopaaDoor
open Go.RowKit
set_option maxHeartbeats 4000000
set_option maxRecDepth 100000
theorem csS_rng (r : List Int) (hg : Rg 0 256 r) : Rg 0 256 (atrL.csS r).1 ∧ (atrL.csS r).1.length ≤ r.length := by
  unfold atrL.csS
  split
  · exact ⟨hg.take _, by simp only [List.length_take]; omega⟩
  · exact ⟨hg, Nat.le_refl _⟩
theorem attr_any (v : Value) (xs : List Int) (w : World) (h : Row w v (ints .u8 xs)) (hg : Rg 0 256 xs) (hl : xs.length ≤ 800000) :
    Calls Tryd.prog 5 #[v] w fun e w' => ∃ t, e = .returned (.tuple #[t, .int .i64 (atrM xs).2.1, .bool (atrM xs).2.2]) ∧ Own w.heap.size 5 w' t (ints .u8 (atrM xs).1) ∧ Below w.heap.size w w' := by
  have hF := fold_any v xs w h hg (by omega)
  have hgA := map_low_rng hg
  have hlA : (xs.map lowC).length = xs.length := List.length_map _
  have hM : atrM xs = atrL (xs.map lowC) := rfl
  rw [hM]
  generalize xs.map lowC = A at *
  have HF := Lib.hid hF
  clear hF hM
  have hlen : A.length ≤ 800000 := by omega
  clear hlA h
  cases hct : A.contains 42 with
  | false =>
    have hZ : atrL A = (A, -1, false) := by rw [atrL, if_pos (.inl hct)]
    have HZ := Lib.hid hZ
    clear hZ
    go_enter Tryd.func5, Tryd.ntmps5
    go_wp2_with fail
    refine HF.out.mono ?_
    rintro e w1 ⟨t1, rfl, ho1, hb1⟩
    obtain ⟨a1, c1, rfl⟩ := (id ho1.row).formN0 (n := A.length) (by rw [ints_length])
    have hC := Lib.hid (bcut1_no _ _ A 42 _ (ho1.row.alloc (.cells #[.int .u8 42] 5 (1, 2))) (Row.flit [42] [_] rfl (by simp)) hgA (by omega) (by omega) hct)
    have hC2 := Lib.hid (bcut1_no _ _ A 42 _ (ho1.row.alloc (.cells #[.int .u8 42] 5)) (Row.ilit [42] [_] rfl (by simp)) hgA (by omega) (by omega) hct)
    go_wp2_with (first | (go_at_call 15; refine (hC2.out).mono ?_; rintro e w' ⟨rfl, hw⟩; obtain rfl := hw.symm) | (go_at_call 15; refine (hC.out).mono ?_; rintro e w' ⟨rfl, hw⟩; obtain rfl := hw.symm))
    go_ret3
    rw [HZ.out]
    exact ⟨_, rfl, ho1.alloc _, hb1.alloc hb1.size _⟩
  | true =>
    have hlt := tw_lt hct
    have htk := tw_take (c := 42) A
    have hgR : Rg 0 256 (A.drop ((tw 42 A).length + 1)) := hgA.drop _
    have hgT : Rg 0 256 (tw 42 A) := by rw [htk]; exact hgA.take _
    have hcs := csS_rng _ hgR
    have hrl : (A.drop ((tw 42 A).length + 1)).length = A.length - ((tw 42 A).length + 1) := List.length_drop
    have hZ : atrL A = if (tw 42 A).length = 0 ∨ (tw 42 A).all attB = false then (A, -1, false) else if (A.drop ((tw 42 A).length + 1)).length = 0 then (tw 42 A, -1, true) else if numM (atrL.csS (A.drop ((tw 42 A).length + 1))).1 = -1 then (A, -1, false) else (tw 42 A, numM (atrL.csS (A.drop ((tw 42 A).length + 1))).1, (atrL.csS (A.drop ((tw 42 A).length + 1))).2) := by
      conv => lhs; rw [atrL]
      by_cases h1 : (tw 42 A).length = 0 ∨ (tw 42 A).all attB = false
      · rw [if_pos (.inr h1), if_pos h1]
      · rw [if_neg (by rintro (h9 | h9); rw [hct] at h9; cases h9; exact h1 h9), if_neg h1]
    have hC := fun b off cp v2 w' h' h2' => bcut1_at b off cp v2 A 42 w' h' h2' hgA (by omega) (by omega) hct (by omega)
    have hCS := fun v1 v2 w' h' h2' h0 => csuf_any v1 v2 (A.drop ((tw 42 A).length + 1)) w' h' h2' hgR h0 (by omega)
    have hNM := fun v1 w' h' => number_any v1 (atrL.csS (A.drop ((tw 42 A).length + 1))).1 w' h' hcs.1 (by omega)
    have hAL := fun v1 w' h' => oall_any 256 attB v1 (tw 42 A) w' kind_att h' hgT (by omega)
    rw [hZ]
    generalize numM (atrL.csS (A.drop ((tw 42 A).length + 1))).1 = N at *
    generalize (atrL.csS (A.drop ((tw 42 A).length + 1))).1 = D at *
    generalize (atrL.csS (A.drop ((tw 42 A).length + 1))).2 = X at *
    generalize A.drop ((tw 42 A).length + 1) = R at *
    generalize (tw 42 A).all attB = q at *
    generalize hk : (tw 42 A).length = k at *
    have HTK : Hid (ints .u8 (tw 42 A) = (ints .u8 A).take k) := by show _ = _; rw [ints_take, ← htk]
    generalize tw 42 A = T at *
    have HC := Lib.hid hC; have HCS := Lib.hid hCS; have HNM := Lib.hid hNM; have HAL := Lib.hid hAL
    have hA0 : 0 < A.length := by omega
    clear hC hCS hNM hAL hZ htk hgR hgT hcs hct hrl
    by_cases hk0 : k = 0
    · rw [if_pos (.inl hk0)]
      have hki : (k : Int) = 0 := by omega
      have HK0 := Lib.hid hk0
      clear hk0
      go_enter Tryd.func5, Tryd.ntmps5
      go_wp2_with fail; refine HF.out.mono ?_; rintro e w1 ⟨t1, rfl, ho1, hb1⟩; obtain ⟨g, cap, rfl, hgB, hgs⟩ := ho1.form (by rw [ints_length]; exact hA0); rw [ints_length] at *; have hT1 := ho1.cutK k (by rw [ints_length]; omega); rw [← HTK.out] at hT1; go_wp2_with fail
      refine (HC.out _ _ _ _ _ (ho1.row.alloc _) (by first | exact Row.flit [42] [_] rfl (by simp) | exact Row.ilit [42] [_] rfl (by simp))).mono ?_; rintro e w2 ⟨r2, rfl, hr2, hb2⟩; have hB2 := below_trans (hb1.alloc hb1.size _) hb2; have hoA := (ho1.alloc _).below hb2; have hoT := (hT1.alloc _).below hb2; obtain ⟨a2, c2, rfl⟩ := (id hr2).formN0 (n := R.length) (by rw [ints_length])
      go_wp2
      go_ret3
      exact ⟨_, rfl, hoA, hB2⟩
    · have hkb : ((k : Int) == 0) = false := beq_false_of_ne (by omega)
      rcases q with _ | _
      · rw [if_pos (.inr rfl)]
        go_enter Tryd.func5, Tryd.ntmps5
        go_wp2_with fail; refine HF.out.mono ?_; rintro e w1 ⟨t1, rfl, ho1, hb1⟩; obtain ⟨g, cap, rfl, hgB, hgs⟩ := ho1.form (by rw [ints_length]; exact hA0); rw [ints_length] at *; have hT1 := ho1.cutK k (by rw [ints_length]; omega); rw [← HTK.out] at hT1; go_wp2_with fail
        refine (HC.out _ _ _ _ _ (ho1.row.alloc _) (by first | exact Row.flit [42] [_] rfl (by simp) | exact Row.ilit [42] [_] rfl (by simp))).mono ?_; rintro e w2 ⟨r2, rfl, hr2, hb2⟩; have hB2 := below_trans (hb1.alloc hb1.size _) hb2; have hoA := (ho1.alloc _).below hb2; have hoT := (hT1.alloc _).below hb2; obtain ⟨a2, c2, rfl⟩ := (id hr2).formN0 (n := R.length) (by rw [ints_length])
        go_wp2_with (go_at_call 16; refine (HAL.out _ _ hoT.row).mono ?_; rintro e w' ⟨rfl, hw⟩; obtain rfl := hw.symm)
        go_ret3
        exact ⟨_, rfl, hoA, hB2⟩
      · rw [if_neg (by rintro (h9 | h9); exact hk0 h9; cases h9)]
        by_cases hR0 : R.length = 0
        · rw [if_pos hR0]
          have hRi : (R.length : Int) = 0 := by omega
          go_enter Tryd.func5, Tryd.ntmps5
          go_wp2_with fail; refine HF.out.mono ?_; rintro e w1 ⟨t1, rfl, ho1, hb1⟩; obtain ⟨g, cap, rfl, hgB, hgs⟩ := ho1.form (by rw [ints_length]; exact hA0); rw [ints_length] at *; have hT1 := ho1.cutK k (by rw [ints_length]; omega); rw [← HTK.out] at hT1; go_wp2_with fail
          refine (HC.out _ _ _ _ _ (ho1.row.alloc _) (by first | exact Row.flit [42] [_] rfl (by simp) | exact Row.ilit [42] [_] rfl (by simp))).mono ?_; rintro e w2 ⟨r2, rfl, hr2, hb2⟩; have hB2 := below_trans (hb1.alloc hb1.size _) hb2; have hoA := (ho1.alloc _).below hb2; have hoT := (hT1.alloc _).below hb2; obtain ⟨a2, c2, rfl⟩ := (id hr2).formN0 (n := R.length) (by rw [ints_length])
          go_wp2_with (go_at_call 16; refine (HAL.out _ _ hoT.row).mono ?_; rintro e w' ⟨rfl, hw⟩; obtain rfl := hw.symm)
          go_ret3
          exact ⟨_, rfl, hoT, hB2⟩
        · rw [if_neg hR0]
          have hRi : ((R.length : Int) == 0) = false := beq_false_of_ne (by omega)
          by_cases hN : N = -1
          · rw [if_pos hN]
            subst hN
            go_enter Tryd.func5, Tryd.ntmps5
            go_wp2_with fail; refine HF.out.mono ?_; rintro e w1 ⟨t1, rfl, ho1, hb1⟩; obtain ⟨g, cap, rfl, hgB, hgs⟩ := ho1.form (by rw [ints_length]; exact hA0); rw [ints_length] at *; have hT1 := ho1.cutK k (by rw [ints_length]; omega); rw [← HTK.out] at hT1; go_wp2_with fail
            refine (HC.out _ _ _ _ _ (ho1.row.alloc _) (by first | exact Row.flit [42] [_] rfl (by simp) | exact Row.ilit [42] [_] rfl (by simp))).mono ?_; rintro e w2 ⟨r2, rfl, hr2, hb2⟩; have hB2 := below_trans (hb1.alloc hb1.size _) hb2; have hoA := (ho1.alloc _).below hb2; have hoT := (hT1.alloc _).below hb2; obtain ⟨a2, c2, rfl⟩ := (id hr2).formN0 (n := R.length) (by rw [ints_length])
            go_wp2_with (first | (go_at_call 16; refine (HAL.out _ _ hoT.row).mono ?_; rintro e w' ⟨rfl, hw⟩; obtain rfl := hw.symm) | fail)
            refine (HCS.out _ _ _ (hr2.alloc _) (by first | exact Row.flit [42] [_] rfl (by simp) | exact Row.ilit [42] [_] rfl (by simp)) (by omega)).mono ?_; rintro e w3 ⟨t3, rfl, hr3, hw3⟩; obtain rfl := hw3.symm; obtain ⟨a3, c3, rfl⟩ := (id hr3).formN0 (n := D.length) (by rw [ints_length])
            go_wp2_with (go_at_call 18; refine (HNM.out _ _ hr3).mono ?_; rintro e w' ⟨rfl, hw⟩; obtain rfl := hw.symm)
            go_ret3
            exact ⟨_, rfl, hoA.alloc _, hB2.alloc hB2.size _⟩
          · rw [if_neg hN]
            have hNb : (N == -1) = false := beq_false_of_ne hN
            go_enter Tryd.func5, Tryd.ntmps5
            go_wp2_with fail; refine HF.out.mono ?_; rintro e w1 ⟨t1, rfl, ho1, hb1⟩; obtain ⟨g, cap, rfl, hgB, hgs⟩ := ho1.form (by rw [ints_length]; exact hA0); rw [ints_length] at *; have hT1 := ho1.cutK k (by rw [ints_length]; omega); rw [← HTK.out] at hT1; go_wp2_with fail
            refine (HC.out _ _ _ _ _ (ho1.row.alloc _) (by first | exact Row.flit [42] [_] rfl (by simp) | exact Row.ilit [42] [_] rfl (by simp))).mono ?_; rintro e w2 ⟨r2, rfl, hr2, hb2⟩; have hB2 := below_trans (hb1.alloc hb1.size _) hb2; have hoA := (ho1.alloc _).below hb2; have hoT := (hT1.alloc _).below hb2; obtain ⟨a2, c2, rfl⟩ := (id hr2).formN0 (n := R.length) (by rw [ints_length])
            go_wp2_with (first | (go_at_call 16; refine (HAL.out _ _ hoT.row).mono ?_; rintro e w' ⟨rfl, hw⟩; obtain rfl := hw.symm) | fail)
            refine (HCS.out _ _ _ (hr2.alloc _) (by first | exact Row.flit [42] [_] rfl (by simp) | exact Row.ilit [42] [_] rfl (by simp)) (by omega)).mono ?_; rintro e w3 ⟨t3, rfl, hr3, hw3⟩; obtain rfl := hw3.symm; obtain ⟨a3, c3, rfl⟩ := (id hr3).formN0 (n := D.length) (by rw [ints_length])
            go_wp2_with (go_at_call 18; refine (HNM.out _ _ hr3).mono ?_; rintro e w' ⟨rfl, hw⟩; obtain rfl := hw.symm)
            go_ret3
            exact ⟨_, rfl, hoT.alloc _, hB2.alloc hB2.size _⟩
end Go.Proofs.YtoliaphiipkopaaDoor
