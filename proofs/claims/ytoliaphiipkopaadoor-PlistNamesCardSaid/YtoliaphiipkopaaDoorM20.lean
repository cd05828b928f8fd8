/- Walks: the reference's basics: lower case, kinds counted, numbers, digits. · Walks: an attribute, by the reference. (laid together by program out of single texts). -/
import Derived.Test.YtoliaphiipkopaaDoorM9
import Derived.Test.YtoliaphiipkopaaDoorM10
import Derived.Test.YtoliaphiipkopaaDoorM14
import Derived.Test.YtoliaphiipkopaaDoorM19
namespace Go.Proofs.YtoliaphiipkopaaDoor
open Go.RowKit
set_option maxHeartbeats 8000000
set_option maxRecDepth 100000
theorem r01low_any (c : Int) (w : World) (_h0 : 0 ≤ c) (_h1 : c < 256) :
    Calls Tryd.prog 24 #[.int .u8 c] w fun e w' => e = .returned (.int .u8 (lowC c)) ∧ w' = w := by
  unfold lowC
  by_cases h : 65 ≤ c ∧ c ≤ 90
  · rw [if_pos h]
    obtain ⟨ha, hb⟩ := h
    have hw : IntKind.u8.wrap (c + 32) = c + 32 := IntWalk.u8_in _ (by omega)
    go_enter Tryd.func24, Tryd.ntmps24
    go_wp2
    go_ret
    first | exact ⟨rfl, rfl⟩ | exact ⟨congrArg Ending.returned (congrArg (Value.int .u8) hw), rfl⟩
  · rw [if_neg h]
    by_cases ha : 65 ≤ c
    · have hb : 90 < c := by omega
      clear h
      go_enter Tryd.func24, Tryd.ntmps24
      go_wp2
      go_ret
      exact ⟨rfl, rfl⟩
    · have hb : c < 65 := by omega
      clear h ha
      go_enter Tryd.func24, Tryd.ntmps24
      go_wp2
      go_ret
      exact ⟨rfl, rfl⟩
theorem r01fold_any (v : Value) (xs : List Int) (w : World) (h : Row w v (ints .u8 xs)) (hg : Rg 0 256 xs) (hl : xs.length ≤ 900000) :
    Calls Tryd.prog 11 #[v] w fun e w' => ∃ t, e = .returned t ∧ Own w.heap.size 5 w' t (ints .u8 (xs.map lowC)) ∧ Below w.heap.size w w' := by
  obtain ⟨a, b, off, cap, rfl, HC⟩ := id h.op
  go_enter Tryd.func11, Tryd.ntmps11
  go_wp2
  go_loopw [3, 4] (fun ov iv wr => ∃ k : Nat, iv = .int .i64 k ∧ k ≤ xs.length ∧ Hid (Own w.heap.size 5 wr ov (ints .u8 ((xs.take k).map lowC))) ∧ Below w.heap.size w wr) (fun _ iv _ => xs.length - (intOf iv).toNat)
  case atStart => exact ⟨0, rfl, Nat.zero_le _, Own.nil _ _ _, Below.refl _ _⟩
  case round =>
    obtain ⟨k, rfl, hk, HO, hb⟩ := hrel
    by_cases hlt : k < xs.length
    · obtain ⟨x, HX, rfl, hc⟩ := HC.out k hlt
      replace hc := hc _ hb
      have hxr := hg x (List.mem_of_getElem? HX.out)
      have HM := Lib.hid (fun w => r01low_any x w hxr.1 hxr.2)
      have HT : Hid (ints .u8 ((xs.take k).map lowC) ++ ints .u8 [lowC x] = ints .u8 ((xs.take (k + 1)).map lowC)) := by
        show _ = _
        rw [List.take_add_one, HX.out]
        simp [ints]
      generalize lowC x = z at *
      have HLN : Hid ((ints .u8 ((xs.take k).map lowC)).length ≤ 900000) := by
        show _ ≤ _
        rw [ints_length, List.length_map, List.length_take]; omega
      clear hxr
      go_wp2_with (first | (go_at_call 24; refine (HM.out _).mono ?_; rintro e w2 ⟨rfl, hw2⟩; obtain rfl := hw2.symm) | (at_builtin; refine wpList_app slT_u8 w.heap.size _ _ rfl rfl rfl rfl (HO.out.alloc _) (Row.ilit [z] [_] rfl (by simp)) (by have := HLN.out; simp only [ints_length, List.length_cons, List.length_nil] at this ⊢; omega) (by have := hb.size; simp; omega) ?_; intro t3 w3 ho3 hg3; have hb3 : Below w.heap.size w w3 := below_own (hb.alloc hb.size _) (HO.out.alloc _) hg3 (by have := hb.size; simp; omega) (Nat.le_refl _); rw [HT.out] at ho3))
      go_roundw
      case rel => exact ⟨k + 1, by go_num, by omega, ho3, hb3⟩
      case measure => simp [intOf]; omega
    · obtain rfl : k = xs.length := by omega
      have ho := HO.out
      rw [List.take_of_length_le (Nat.le_refl _)] at ho
      go_wp2
      go_ret
      exact ⟨_, rfl, ho, hb⟩
/-- The octets of kind 256, counted. -/
theorem rcount_any (v : Value) (xs : List Int) (w : World) (h : Row w v (ints .u8 xs)) (hg : Rg 0 256 xs) (hl : xs.length ≤ 900000) :
    Calls Tryd.prog 10 #[v, .int .i64 256] w fun e w' => e = .returned (.int .i64 (xs.countP attB : Nat)) ∧ w' = w := by
  obtain ⟨a, b, off, cap, rfl, HC⟩ := id h.op
  obtain ⟨M, HM⟩ : ∃ M, Hid (xs.countP attB = M) := ⟨_, rfl⟩
  rw [HM.out]
  go_enter Tryd.func10, Tryd.ntmps10
  go_wp2
  go_loopw [5, 6] (fun nv iv wr => ∃ k n : Nat, iv = .int .i64 k ∧ nv = .int .i64 n ∧ k ≤ xs.length ∧ n ≤ k ∧ Hid ((xs.take k).countP attB = n) ∧ wr = w) (fun _ iv _ => xs.length - (intOf iv).toNat)
  case atStart => exact ⟨0, 0, rfl, rfl, Nat.zero_le _, Nat.le_refl _, rfl, rfl⟩
  case round =>
    obtain ⟨k, n, rfl, rfl, hk, hnk, HN, hw⟩ := hrel
    obtain rfl := hw.symm
    by_cases hlt : k < xs.length
    · obtain ⟨x, HX, rfl, hc⟩ := HC.out k hlt
      replace hc := hc _ (Below.refl _ _)
      have hxr := hg x (List.mem_of_getElem? HX.out)
      have hq := by_byte (P := fun c => (bits .and .i64 (kindN c) 256 != 0) = attB c) kind_att hxr.1 hxr.2
      have hi := fun w => ris_any x 256 (attB x) w hxr.1 hxr.2 hq
      have hT : (xs.take (k + 1)).countP attB = (xs.take k).countP attB + if attB x = true then 1 else 0 := by
        rw [List.take_add_one, HX.out, List.countP_append]
        simp [List.countP_cons]
      rw [HN.out] at hT
      have HT := Lib.hid hT
      clear hT hq hxr
      generalize attB x = q at *
      have HI := Lib.hid hi
      clear hi
      have hn2 : (n : Int) ≤ 900000 := by omega
      rcases q with _ | _
      · go_wp2_with (go_at_call 23; refine (HI.out _).mono ?_; rintro e w' ⟨rfl, hw⟩; obtain rfl := hw.symm)
        go_roundw
        case rel => exact ⟨k + 1, n, by go_num, by first | rfl | go_num, by omega, by omega, (by have := HT.out; rw [if_neg Bool.false_ne_true, Nat.add_zero] at this; exact this), by first | rfl | trivial⟩
        case measure => simp [intOf]; omega
      · go_wp2_with (go_at_call 23; refine (HI.out _).mono ?_; rintro e w' ⟨rfl, hw⟩; obtain rfl := hw.symm)
        go_roundw
        case rel => exact ⟨k + 1, n + 1, by go_num, by first | rfl | go_num, by omega, by omega, (by have := HT.out; simp only [if_true] at this; exact this), by first | rfl | trivial⟩
        case measure => simp [intOf]; omega
    · obtain rfl : k = xs.length := by omega
      have hf := HN.out
      rw [List.take_of_length_le (Nat.le_refl _), HM.out] at hf
      obtain rfl := hf
      go_wp2
      go_ret
      exact ⟨rfl, rfl⟩
theorem numM_no {xs : List Int} (h : xs.length = 0 ∨ 3 < xs.length ∨ xs.all dgB = false ∨ (xs[0]? = some 48 ∧ 1 < xs.length)) : numM xs = -1 := by unfold numM; rw [if_pos h]
theorem not_all {p : Int → Bool} {xs : List Int} {k : Nat} {x : Int} (h : xs[k]? = some x) (hp : p x = false) : xs.all p = false := by
  cases hq : xs.all p with
  | false => rfl
  | true => have := List.all_eq_true.1 hq x (List.mem_of_getElem? h); rw [hp] at this; cases this
theorem rnumber_any (v : Value) (xs : List Int) (w : World) (h : Row w v (ints .u8 xs)) (hg : Rg 0 256 xs) (hl : xs.length ≤ 900000) :
    Calls Tryd.prog 19 #[v] w fun e w' => e = .returned (.int .i64 (numM xs)) ∧ w' = w := by
  obtain ⟨a, b, off, cp, rfl, HC⟩ := id h.op
  have HG := Lib.hid hg
  clear hg
  obtain ⟨V, HV⟩ : ∃ V, Hid (numM xs = V) := ⟨_, rfl⟩
  rw [HV.out]
  go_enter Tryd.func19, Tryd.ntmps19
  go_wp2
  go_loopw [3, 4] (fun nv iv wr => ∃ (k : Nat) (n : Int), iv = .int .i64 k ∧ nv = .int .i64 n ∧ k ≤ xs.length ∧ k ≤ 3 ∧ 0 ≤ n ∧ Hid ((k = 0 ∧ n = 0) ∨ (k = 1 ∧ n ≤ 9) ∨ (k = 2 ∧ n ≤ 99) ∨ (k = 3 ∧ n ≤ 999)) ∧ Hid (∀ c ∈ xs.take k, 48 ≤ c ∧ c ≤ 57) ∧ Hid (numV n (xs.drop k) = numV 0 xs) ∧ wr = w) (fun _ iv _ => xs.length - (intOf iv).toNat)
  case atStart => exact ⟨0, 0, rfl, rfl, Nat.zero_le _, by omega, Int.le_refl _, .inl ⟨rfl, rfl⟩, (fun c hc => by simp at hc), rfl, rfl⟩
  case round =>
    obtain ⟨k, n, rfl, rfl, hk, hk3, hn0, HN, HD, HNV, hw⟩ := hrel
    obtain rfl := hw.symm
    by_cases hlt : k < xs.length
    · obtain ⟨c, HX, _, hc⟩ := HC.out k hlt
      replace hc := hc _ (Below.refl _ _)
      have hcr := HG.out c (List.mem_of_getElem? HX.out)
      by_cases hlo : c < 48
      · obtain rfl : V = -1 := by rw [← HV.out]; exact numM_no (.inr (.inr (.inl (not_all HX.out (by simp [dgB]; omega)))))
        go_wp2
        go_ret
        exact ⟨rfl, rfl⟩
      · by_cases hhi : 57 < c
        · obtain rfl : V = -1 := by rw [← HV.out]; exact numM_no (.inr (.inr (.inl (not_all HX.out (by simp [dgB]; omega)))))
          go_wp2
          go_ret
          exact ⟨rfl, rfl⟩
        · by_cases hk2 : (2 : Int) < k
          · obtain rfl : V = -1 := by rw [← HV.out]; exact numM_no (.inr (.inl (by omega)))
            go_wp2
            go_ret
            exact ⟨rfl, rfl⟩
          · have hbd : 0 ≤ 10 * n + (c - 48) ∧ ((k + 1 = 1 ∧ 10 * n + (c - 48) ≤ 9) ∨ (k + 1 = 2 ∧ 10 * n + (c - 48) ≤ 99) ∨ (k + 1 = 3 ∧ 10 * n + (c - 48) ≤ 999)) := by have := HN.out; omega
            have hn99 : n ≤ 99 := by have := HN.out; omega
            have HBD := Lib.hid hbd.2
            have HV2 : Hid (numV (10 * n + (c - 48)) (xs.drop (k + 1)) = numV 0 xs) := by show _ = _; rw [← HNV.out, drop_at1 HX.out, numV]
            have HD2 : Hid (∀ c ∈ xs.take (k + 1), 48 ≤ c ∧ c ≤ 57) := fun x hx => by
              rw [List.take_add_one, HX.out] at hx
              rcases List.mem_append.1 hx with hx | hx
              · exact HD.out x hx
              · simp at hx; omega
            have hn1 := hbd.1
            have hw8 : IntKind.u8.wrap (c - 48) = c - 48 := IntWalk.u8_in _ (by omega)
            have hwa : IntKind.i64.wrap (10 * n) = 10 * n := IntWalk.i64_in _ (by omega)
            have hwb : IntKind.i64.wrap (10 * n + (c - 48)) = 10 * n + (c - 48) := IntWalk.i64_in _ (by omega)
            clear hbd
            go_wp2
            go_roundw
            case rel => exact ⟨k + 1, 10 * n + (c - 48), by go_num, by first | rfl | go_num, by omega, by omega, hn1, (by have := HBD.out; show _ ∨ _ ∨ _ ∨ _; omega), HD2, HV2.out, by first | rfl | trivial⟩
            case measure => simp [intOf]; omega
    · obtain rfl : k = xs.length := by omega
      have hda : xs.all dgB = true := List.all_eq_true.2 fun x hx => by
        have := HD.out x (by rw [List.take_of_length_le (Nat.le_refl _)]; exact hx)
        simp [dgB]; omega
      have hf : numV 0 xs = n := by rw [← HNV.out, List.drop_eq_nil_of_le (by omega), numV]
      by_cases h0 : xs.length = 0
      · obtain rfl : V = -1 := by rw [← HV.out]; exact numM_no (.inl h0)
        have hx : (xs.length : Int) = 0 := by omega
        go_wp2
        go_ret
        exact ⟨rfl, rfl⟩
      · have hxb : ((xs.length : Int) == 0) = false := beq_false_of_ne (by omega)
        obtain ⟨x, HX, _, hc⟩ := HC.out 0 (by omega)
        replace hc := hc _ (Below.refl _ _)
        simp only [Nat.add_zero] at hc
        by_cases hx48 : x = 48
        · subst hx48
          by_cases h1 : (1 : Int) < xs.length
          · obtain rfl : V = -1 := by rw [← HV.out]; exact numM_no (.inr (.inr (.inr ⟨HX.out, by omega⟩)))
            go_wp2
            go_ret
            exact ⟨rfl, rfl⟩
          · have hm : numM xs = n := by
              unfold numM
              rw [if_neg (by rintro (h9 | h9 | h9 | ⟨_, h9⟩) <;> first | omega | (rw [hda] at h9; cases h9)), hf]
            obtain rfl : V = n := by rw [← HV.out]; exact hm
            go_wp2
            go_ret
            exact ⟨rfl, rfl⟩
        · have hb48 : (x == 48) = false := beq_false_of_ne hx48
          have hm : numM xs = n := by
            unfold numM
            rw [if_neg (by rintro (h9 | h9 | h9 | ⟨h9, _⟩) <;> first | omega | (rw [hda] at h9; cases h9) | (rw [HX.out] at h9; exact hx48 (Option.some.inj h9))), hf]
          obtain rfl : V = n := by rw [← HV.out]; exact hm
          clear hx48
          go_wp2
          go_ret
          exact ⟨rfl, rfl⟩
theorem dec_len (u : Nat) : (Lib.decDigits u).length ≤ u + 1 := by
  rw [Lib.decDigits]
  by_cases h : u < 10
  · rw [dif_pos h]; simp
  · rw [dif_neg h, List.length_append]
    have := dec_len (u / 10)
    simp only [List.length_cons, List.length_nil]
    omega
theorem dec_size (u : Nat) : (⟨(Lib.decDigits u).toArray⟩ : ByteArray).size ≤ u + 1 := by
  have := dec_len u
  simpa [ByteArray.size] using this
theorem rdigits_any (n : Nat) (hn : n < 9223372036854775808) (w : World) :
    Calls Tryd.prog 22 #[.int .i64 n] w fun e w' => e = .returned (.string ⟨(Lib.decDigits n).toArray⟩) ∧ Below w.heap.size w w' := by
  by_cases h : n < 10
  · have hs : ∀ b w', Row w' b (ints .u8 [48 + (n : Int)]) → True := fun _ _ _ => trivial
    have hw1 : IntKind.i64.wrap (48 + (n : Int)) = 48 + n := IntWalk.i64_in _ (by omega)
    have hw2 : IntKind.u8.wrap (48 + (n : Int)) = 48 + n := IntWalk.u8_in _ (by omega)
    have hlt : (n : Int) < 10 := by omega
    have hrow : Row (w.alloc (.cells #[.int .u8 (48 + (n : Int))] 5)) (.slice (some ⟨w.heap.size, 0, none⟩) 1 1) (ints .u8 [48 + (n : Int)]) := Row.ilit [48 + (n : Int)] [.int .u8 (48 + (n : Int))] rfl (by simp)
    have hcv := rowstr2 _ hrow
    have hst : strOfNums [48 + (n : Int)] = ⟨(Lib.decDigits n).toArray⟩ := by
      rw [Lib.decDigits, dif_pos h]
      have e : (48 + (n : Int)).toNat = 48 + n := by omega
      simp [strOfNums, e]
    rw [hst] at hcv
    clear hs hst hrow
    go_enter Tryd.func22, Tryd.ntmps22
    go_wp2
    go_ret
    exact ⟨rfl, (Below.refl _ _).alloc (Nat.le_refl _) _⟩
  · have h1 := rdigits_any (n / 10) (by omega)
    have h2 := rdigits_any (n % 10) (by omega)
    have hst : (⟨(Lib.decDigits (n / 10)).toArray⟩ : ByteArray) ++ ⟨(Lib.decDigits (n % 10)).toArray⟩ = ⟨(Lib.decDigits n).toArray⟩ := by
      have e : Lib.decDigits n = Lib.decDigits (n / 10) ++ Lib.decDigits (n % 10) := by
        conv => lhs; rw [Lib.decDigits, dif_neg h]
        rw [Lib.decDigits_one (i := n % 10) (by omega)]
      rw [e]
      apply ByteArray.ext
      simp
    have hq : (n : Int).tdiv 10 = ((n / 10 : Nat) : Int) := by rw [Int.tdiv_eq_ediv_of_nonneg (by omega)]; omega
    have hr : (n : Int).tmod 10 = ((n % 10 : Nat) : Int) := by rw [Int.tmod_eq_emod_of_nonneg (by omega)]; omega
    have hge : ¬ (n : Int) < 10 := by omega
    have hsz : ¬ 9223372036854775807 < (⟨(Lib.decDigits (n / 10)).toArray⟩ : ByteArray).size + (⟨(Lib.decDigits (n % 10)).toArray⟩ : ByteArray).size := by
      have := dec_size (n / 10)
      have := dec_size (n % 10)
      omega
    rw [← hst]
    generalize (⟨(Lib.decDigits (n / 10)).toArray⟩ : ByteArray) = s1 at *
    generalize (⟨(Lib.decDigits (n % 10)).toArray⟩ : ByteArray) = s2 at *
    have H1 := Lib.hid h1; have H2 := Lib.hid h2
    clear h1 h2 hst
    go_enter Tryd.func22, Tryd.ntmps22
    go_wp2_with fail
    refine (H1.out _).mono ?_
    rintro e w1 ⟨rfl, hb1⟩
    go_wp2_with fail
    refine (H2.out _).mono ?_
    rintro e w2 ⟨rfl, hb2⟩
    go_wp2
    go_ret
    exact ⟨rfl, below_trans hb1 hb2⟩
termination_by n
decreasing_by all_goals omega
end Go.Proofs.YtoliaphiipkopaaDoor
namespace Go.Proofs.YtoliaphiipkopaaDoor
open Go.RowKit
set_option maxHeartbeats 4000000
set_option maxRecDepth 100000
theorem rattr_any (v : Value) (xs : List Int) (w : World) (h : Row w v (ints .u8 xs)) (hg : Rg 0 256 xs) (hl : xs.length ≤ 800000) :
    Calls Tryd.prog 6 #[v] w fun e w' => ∃ t, e = .returned (.tuple #[t, .int .i64 (atrM xs).2.1, .bool (atrM xs).2.2]) ∧ Own w.heap.size 5 w' t (ints .u8 (atrM xs).1) ∧ Below w.heap.size w w' := by
  obtain ⟨a, b, off, cp, rfl, HC⟩ := id h.op
  have hZ := atrM_raw hg
  have htk := tw_take (c := 42) xs
  obtain ⟨T, hT⟩ : ∃ T, tw 42 xs = T := ⟨_, rfl⟩
  have hyes := fun hct => stI_yes (a := xs) 0 hct
  have hlt := fun hct => tw_lt (c := 42) (xs := xs) hct
  rw [hT] at hZ htk hyes hlt
  obtain ⟨k, hk⟩ : ∃ k, T.length = k := ⟨_, rfl⟩
  rw [hk] at hZ htk hyes hlt
  obtain ⟨R, hR⟩ : ∃ R, xs.drop (k + 1) = R := ⟨_, rfl⟩
  rw [hR] at hZ
  have hgT : Rg 0 256 T := by rw [htk]; exact hg.take _
  have hkx : k ≤ xs.length := by
    have e : T.length = (xs.take k).length := by rw [← htk]
    rw [hk, List.length_take] at e; omega
  have hcpl : xs.length ≤ cp := by
    obtain ⟨_, _, _, _, hv2, hc9, _⟩ := h.int
    cases hv2; omega
  have hkc : k ≤ cp := by omega
  have hgR : Rg 0 256 R := by rw [← hR]; exact hg.drop _
  have hRl : R.length ≤ xs.length := by rw [← hR, List.length_drop]; omega
  obtain ⟨n, hn⟩ : ∃ n, T.countP attB = n := ⟨_, rfl⟩
  obtain ⟨q, hq⟩ : ∃ q, T.all attB = q := ⟨_, rfl⟩
  have hnq := att_count (l := T)
  rw [hn, hk, hq] at hnq
  rw [hq] at hZ
  have hF := fun v1 w' h1 => r01fold_any v1 xs w' h1 hg (by omega)
  have hFT := fun v1 w' h1 => r01fold_any v1 T w' h1 hgT (by omega)
  have hCN := fun v1 w' h1 => rcount_any v1 T w' h1 hgT (by omega)
  rw [hn] at hCN
  have hNM := fun v1 D w' h1 h2 h3 => rnumber_any v1 D w' h1 h2 h3
  obtain ⟨A, hA⟩ : ∃ A, atrM xs = A := ⟨_, rfl⟩
  rw [hA] at hZ ⊢
  have rT : Row w (.slice a k cp) (ints .u8 T) := by
    have h1 := Row.sub h a cp (by rw [ints_length]) 0 k (by omega) (by rw [ints_length]; omega)
    rw [List.drop_zero, ints_take, ← htk] at h1
    exact Eq.mp (congrArg (fun v => Row w v _) (by simp [sliced, Addr.add])) h1
  have HF := Lib.hid hF; have HFT := Lib.hid hFT; have HCN := Lib.hid hCN; have HNM := Lib.hid hNM
  have HZ := Lib.hid hZ; have HR := Lib.hid hR; have HY := Lib.hid hyes; have HLT := Lib.hid hlt; have HNQ := Lib.hid hnq
  have HGR := Lib.hid hgR; have HKT := Lib.hid hk
  clear hF hFT hCN hNM hZ hR hyes hlt hnq hgR hgT hn hq hk hT htk hA hg
  go_enter Tryd.func6, Tryd.ntmps6
  go_wp2
  go_loopw [5, 6] (fun sv iv wr => ∃ (m : Nat) (i s : Int), iv = .int .i64 i ∧ i = m - 1 ∧ sv = .int .i64 s ∧ m ≤ xs.length ∧ Hid (stI (xs.drop m) m = s) ∧ wr = w) (fun _ iv _ => (intOf iv + 1).toNat)
  case atStart => exact ⟨xs.length, (xs.length : Int) - 1, -1, by go_num, by omega, rfl, Nat.le_refl _, (by show _ = _; rw [List.drop_length]; rfl), rfl⟩
  case round =>
    obtain ⟨m, i, s, rfl, hi, rfl, hm, HS, hw⟩ := hrel
    obtain rfl := hw.symm
    rcases m with _ | m
    · have hi0 : ¬ 0 ≤ i := by omega
      have hs := HS.out
      rw [List.drop_zero] at hs
      by_cases hfirst : xs.contains 42 = false ∨ k = 0 ∨ q = false
      · obtain rfl : A = (lowS xs, -1, false) := by rw [HZ.out, if_pos hfirst]
        by_cases hs1 : s < 1
        · go_wp2_with fail
          (refine (HF.out _ _ h).mono ?_; rintro e w9 ⟨t9, rfl, ho9, hb9⟩)
          go_wp2
          go_ret3
          exact ⟨_, rfl, ho9, hb9⟩
        · have hct : xs.contains 42 = true := by
            cases hct : xs.contains 42 with
            | true => rfl
            | false => rw [stI_no 0 hct] at hs; omega
          have hsk : s = (k : Int) := by rw [← hs, HY.out hct]; simp
          subst hsk
          have hq0 : q = false := by
            rcases hfirst with h9 | h9 | h9
            · rw [hct] at h9; cases h9
            · omega
            · exact h9
          have hkl := HLT.out hct
          have hnb : ((n : Int) == (k : Int)) = false := beq_false_of_ne (fun e => by have := HNQ.out.1 e; rw [hq0] at this; cases this)
          clear hfirst hct hs hq0
          go_wp2_with (first | (go_at_call 10; refine (HCN.out _ _ rT).mono ?_; rintro e w' ⟨rfl, hw⟩; obtain rfl := hw.symm))
          refine (HF.out _ _ h).mono ?_
          rintro e w9 ⟨t9, rfl, ho9, hb9⟩
          go_wp2
          go_ret3
          exact ⟨_, rfl, ho9, hb9⟩
      · have hct : xs.contains 42 = true := by
          cases hct : xs.contains 42 with
          | true => rfl
          | false => exact absurd (.inl hct) hfirst
        have hk0 : k ≠ 0 := fun e => hfirst (.inr (.inl e))
        have hq1 : q = true := by
          cases q with
          | true => rfl
          | false => exact absurd (.inr (.inr rfl)) hfirst
        have hsk : s = (k : Int) := by rw [← hs, HY.out hct]; simp
        subst hsk
        obtain rfl : n = k := by have := HNQ.out.2 hq1; omega
        have hkl := HLT.out hct
        have hZ2 := HZ.out
        rw [if_neg hfirst] at hZ2
        have HZ2 := Lib.hid hZ2
        have hk1 : ¬ (n : Int) < 1 := by omega
        have hk2 : n + 1 ≤ xs.length := by omega
        have hk3 : (n : Int) + 1 ≤ xs.length := by omega
        clear hfirst hct hs hq1 hk0 hZ2 HZ
        by_cases hR0 : R.length = 0
        · obtain rfl : A = (lowS T, -1, true) := by rw [HZ2.out, if_pos hR0]
          have hRi : (R.length : Int) = 0 := by omega
          go_wp2_with (first | (go_at_call 10; refine (HCN.out _ _ rT).mono ?_; rintro e w' ⟨rfl, hw⟩; obtain rfl := hw.symm) | (refine wpList_slL slT_u8 _ _ rfl rfl rfl rfl h (by omega) (by rw [ints_length]; omega) ?_; intro vR hvR; have rR : Row w vR (ints .u8 R) := (by have := hvR w h; rw [show ((n : Int) + 1).toNat = n + 1 by omega, ints_drop, HR.out] at this; exact this); clear hvR; obtain ⟨aR, bR, oR, cR, rfl, HCR⟩ := id rR.op) | fail)
          (refine (HFT.out _ _ rT).mono ?_; rintro e w9 ⟨t9, rfl, ho9, hb9⟩)
          go_wp2
          go_ret3
          exact ⟨_, rfl, ho9, hb9⟩
        · have hZ3 := HZ2.out
          rw [if_neg hR0] at hZ3
          have hRb : ((R.length : Int) == 0) = false := beq_false_of_ne (by omega)
          obtain ⟨z, hz⟩ : ∃ z, R[R.length - 1]? = some z := ⟨_, List.getElem?_eq_getElem (by omega)⟩
          have hcs : atrL.csS R = if z = 42 then (R.take (R.length - 1), true) else (R, false) := by
            rw [atrL.csS, hz]
            by_cases h9 : z = 42
            · rw [if_pos h9, if_pos (by rw [h9])]
            · rw [if_neg h9, if_neg (fun h8 => h9 (Option.some.inj h8))]
          have HZZ := Lib.hid hz
          rw [hcs] at hZ3
          clear hz hcs HZ2
          by_cases hz42 : z = 42
          · subst hz42
            rw [if_pos rfl] at hZ3
            obtain ⟨N, hN⟩ : ∃ N, numM (R.take (R.length - 1)) = N := ⟨_, rfl⟩
            have hNM2 : ∀ v1, Row w v1 (ints .u8 (R.take (R.length - 1))) → Calls Tryd.prog 19 #[v1] w fun e w' => e = .returned (.int .i64 N) ∧ w' = w := fun v1 h1 => by
              have := HNM.out v1 (R.take (R.length - 1)) w h1 (by first | exact HGR.out.take _ | exact HGR.out) (by first | (simp only [List.length_take]; omega) | omega)
              rw [hN] at this; exact this
            have HND := Lib.hid hNM2
            have hnn := numM_nn (R.take (R.length - 1))
            rw [hN] at hnn
            dsimp only at hZ3
            rw [hN] at hZ3
            clear hNM2 hN
            by_cases hN1 : N = -1
            · obtain rfl : A = (lowS xs, -1, false) := by rw [hZ3, if_pos hN1]
              subst hN1
              clear hZ3 hnn
              go_wp2_with (first | (go_at_call 10; refine (HCN.out _ _ rT).mono ?_; rintro e w' ⟨rfl, hw⟩; obtain rfl := hw.symm) | (refine wpList_slL slT_u8 _ _ rfl rfl rfl rfl h (by omega) (by rw [ints_length]; omega) ?_; intro vR hvR; have rR : Row w vR (ints .u8 R) := (by have := hvR w h; rw [show ((n : Int) + 1).toNat = n + 1 by omega, ints_drop, HR.out] at this; exact this); clear hvR; obtain ⟨aR, bR, oR, cR, rfl, HCR⟩ := id rR.op; obtain ⟨z9, HX9, h98, hc9⟩ := HCR.out (R.length - 1) (by omega); obtain rfl := h98; replace hc9 := hc9 _ (Below.refl _ _); obtain rfl : z9 = 42 := Option.some.inj (HX9.out.symm.trans HZZ.out)) | (refine wpList_slH slT_u8 _ _ rfl rfl rfl rfl rR (by omega) (by rw [ints_length]; omega) ?_; intro vD hvD; have rD : Row w vD (ints .u8 (R.take (R.length - 1))) := (by have := hvD w rR; rw [show ((R.length : Int) - 1).toNat = R.length - 1 by omega, ints_take] at this; exact this); clear hvD) | (go_at_call 19; refine (HND.out _ rD).mono ?_; rintro e w' ⟨rfl, hw⟩; obtain rfl := hw.symm))
              (refine (HF.out _ _ h).mono ?_; rintro e w9 ⟨t9, rfl, ho9, hb9⟩)
              go_wp2
              go_ret3
              exact ⟨_, rfl, ho9, hb9⟩
            · obtain rfl : A = (lowS T, N, true) := by rw [hZ3, if_neg hN1]
              have hN0 : ¬ N < 0 := by omega
              clear hZ3 hnn hN1
              go_wp2_with (first | (go_at_call 10; refine (HCN.out _ _ rT).mono ?_; rintro e w' ⟨rfl, hw⟩; obtain rfl := hw.symm) | (refine wpList_slL slT_u8 _ _ rfl rfl rfl rfl h (by omega) (by rw [ints_length]; omega) ?_; intro vR hvR; have rR : Row w vR (ints .u8 R) := (by have := hvR w h; rw [show ((n : Int) + 1).toNat = n + 1 by omega, ints_drop, HR.out] at this; exact this); clear hvR; obtain ⟨aR, bR, oR, cR, rfl, HCR⟩ := id rR.op; obtain ⟨z9, HX9, h98, hc9⟩ := HCR.out (R.length - 1) (by omega); obtain rfl := h98; replace hc9 := hc9 _ (Below.refl _ _); obtain rfl : z9 = 42 := Option.some.inj (HX9.out.symm.trans HZZ.out)) | (refine wpList_slH slT_u8 _ _ rfl rfl rfl rfl rR (by omega) (by rw [ints_length]; omega) ?_; intro vD hvD; have rD : Row w vD (ints .u8 (R.take (R.length - 1))) := (by have := hvD w rR; rw [show ((R.length : Int) - 1).toNat = R.length - 1 by omega, ints_take] at this; exact this); clear hvD) | (go_at_call 19; refine (HND.out _ rD).mono ?_; rintro e w' ⟨rfl, hw⟩; obtain rfl := hw.symm) | fail)
              (refine (HFT.out _ _ rT).mono ?_; rintro e w9 ⟨t9, rfl, ho9, hb9⟩)
              go_wp2
              go_ret3
              exact ⟨_, rfl, ho9, hb9⟩
          · rw [if_neg hz42] at hZ3
            have hzb : (z == 42) = false := beq_false_of_ne hz42
            clear hz42
            obtain ⟨N, hN⟩ : ∃ N, numM R = N := ⟨_, rfl⟩
            have hNM2 : ∀ v1, Row w v1 (ints .u8 R) → Calls Tryd.prog 19 #[v1] w fun e w' => e = .returned (.int .i64 N) ∧ w' = w := fun v1 h1 => by
              have := HNM.out v1 R w h1 (by first | exact HGR.out.take _ | exact HGR.out) (by first | (simp only [List.length_take]; omega) | omega)
              rw [hN] at this; exact this
            have HND := Lib.hid hNM2
            have hnn := numM_nn R
            rw [hN] at hnn
            dsimp only at hZ3
            rw [hN] at hZ3
            clear hNM2 hN
            by_cases hN1 : N = -1
            · obtain rfl : A = (lowS xs, -1, false) := by rw [hZ3, if_pos hN1]
              subst hN1
              clear hZ3 hnn
              go_wp2_with (first | (go_at_call 10; refine (HCN.out _ _ rT).mono ?_; rintro e w' ⟨rfl, hw⟩; obtain rfl := hw.symm) | (refine wpList_slL slT_u8 _ _ rfl rfl rfl rfl h (by omega) (by rw [ints_length]; omega) ?_; intro vR hvR; have rR : Row w vR (ints .u8 R) := (by have := hvR w h; rw [show ((n : Int) + 1).toNat = n + 1 by omega, ints_drop, HR.out] at this; exact this); clear hvR; obtain ⟨aR, bR, oR, cR, rfl, HCR⟩ := id rR.op; obtain ⟨z9, HX9, h98, hc9⟩ := HCR.out (R.length - 1) (by omega); obtain rfl := h98; replace hc9 := hc9 _ (Below.refl _ _); obtain rfl : z = z9 := Option.some.inj (HZZ.out.symm.trans HX9.out)) | (go_at_call 19; refine (HND.out _ rR).mono ?_; rintro e w' ⟨rfl, hw⟩; obtain rfl := hw.symm))
              (refine (HF.out _ _ h).mono ?_; rintro e w9 ⟨t9, rfl, ho9, hb9⟩)
              go_wp2
              go_ret3
              exact ⟨_, rfl, ho9, hb9⟩
            · obtain rfl : A = (lowS T, N, false) := by rw [hZ3, if_neg hN1]
              have hN0 : ¬ N < 0 := by omega
              clear hZ3 hnn hN1
              go_wp2_with (first | (go_at_call 10; refine (HCN.out _ _ rT).mono ?_; rintro e w' ⟨rfl, hw⟩; obtain rfl := hw.symm) | (refine wpList_slL slT_u8 _ _ rfl rfl rfl rfl h (by omega) (by rw [ints_length]; omega) ?_; intro vR hvR; have rR : Row w vR (ints .u8 R) := (by have := hvR w h; rw [show ((n : Int) + 1).toNat = n + 1 by omega, ints_drop, HR.out] at this; exact this); clear hvR; obtain ⟨aR, bR, oR, cR, rfl, HCR⟩ := id rR.op; obtain ⟨z9, HX9, h98, hc9⟩ := HCR.out (R.length - 1) (by omega); obtain rfl := h98; replace hc9 := hc9 _ (Below.refl _ _); obtain rfl : z = z9 := Option.some.inj (HZZ.out.symm.trans HX9.out)) | (go_at_call 19; refine (HND.out _ rR).mono ?_; rintro e w' ⟨rfl, hw⟩; obtain rfl := hw.symm) | fail)
              (refine (HFT.out _ _ rT).mono ?_; rintro e w9 ⟨t9, rfl, ho9, hb9⟩)
              go_wp2
              go_ret3
              exact ⟨_, rfl, ho9, hb9⟩
    · have hi0 : 0 ≤ i := by omega
      obtain rfl : i = (m : Int) := by omega
      clear hi
      obtain ⟨c, HX, hax, hc⟩ := HC.out m (by omega)
      obtain rfl := hax
      replace hc := hc _ (Below.refl _ _)
      have hmm : (m : Int) < (xs.length : Int) := by omega
      have hwm : IntKind.i64.wrap ((m : Int) - 1) = (m : Int) - 1 := IntWalk.i64_in _ (by omega)
      have hS : stI (xs.drop m) m = if c = 42 then (m : Int) else s := by rw [drop_at1 HX.out, stI, HS.out]
      by_cases hc42 : c = 42
      · subst hc42
        rw [if_pos rfl] at hS
        have HS2 := Lib.hid hS
        clear hS
        go_wp2
        go_roundw
        case rel => exact ⟨m, (m : Int) - 1, (m : Int), by first | rfl | go_num, rfl, by first | rfl | go_num, by omega, HS2.out, by first | rfl | trivial⟩
        case measure => show ((m : Int) - 1 + 1).toNat < ((m : Int) + 1).toNat; omega
      · rw [if_neg hc42] at hS
        have hcb : (c == 42) = false := beq_false_of_ne hc42
        have HS2 := Lib.hid hS
        clear hS hc42
        go_wp2
        go_roundw
        case rel => exact ⟨m, (m : Int) - 1, s, by first | rfl | go_num, rfl, by first | rfl | go_num, by omega, HS2.out, by first | rfl | trivial⟩
        case measure => show ((m : Int) - 1 + 1).toNat < ((m : Int) + 1).toNat; omega
end Go.Proofs.YtoliaphiipkopaaDoor
