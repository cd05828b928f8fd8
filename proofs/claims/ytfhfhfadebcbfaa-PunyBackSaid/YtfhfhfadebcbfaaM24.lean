/- Walks: six signs sorted; a row cloned; a row without its plain signs; a function's first. · Walks: a row cloned; the plain signs; a number's digits; a row that has no two alike side by side. · Walks: a row that has no two alike side by side; a row without its plain signs. · Walks: a row without its plain signs; has a row a sign that is not plain. (laid together by program out of single texts). -/
import Derived.Lib.SlBytesConst
import Derived.Lib.SliceRun
import Derived.Test.YtfhfhfadebcbfaaM12
import Derived.Test.YtfhfhfadebcbfaaM17
namespace Go.Proofs.Ytfhfhfadebcbfaa
open Go.RowKit
set_option maxHeartbeats 8000000
set_option maxRecDepth 100000
theorem len6_any (w : World) : Calls Try.prog 54 #[.int .u64 6] w fun e w' => e = .returned (.int .i64 3) ∧ w' = w := by
  have h6 : ∀ w, Calls Try.prog 69 #[.int .u64 6] w fun e w' => e = .returned (.int .i64 3) ∧ w' = w := fun w => by
    go_enter Try.func69, Try.ntmps69
    go_wp2
    go_ret
    exact ⟨congrArg Ending.returned (congrArg (Value.int .i64) (by kernel_rfl)), rfl⟩
  go_enter Try.func54, Try.ntmps54
  go_wp2_with ((go_at_call 69; refine (h6 _).mono ?_; rintro e w' ⟨rfl, hw⟩; obtain rfl := hw.symm))
  go_ret
  exact ⟨rfl, rfl⟩
theorem sort6_any (B g cap : Nat) (xs : List Int) (w : World) (h : Own B 21 w (.slice (some ⟨g, 0, none⟩) 6 cap) (ints .i32 xs)) (hn : xs.length = 6) :
    Calls Try.prog 36 #[.slice (some ⟨g, 0, none⟩) 6 cap] w fun e w' => e = .returned (.tuple #[]) ∧ Own B 21 w' (.slice (some ⟨g, 0, none⟩) 6 cap) (ints .i32 (isrP 5 1 xs)) ∧ w.grownBy w' (some g) := by
  have hI := isort_any B g 6 cap xs w h hn (by omega)
  have HI := Lib.hid hI
  clear hI h
  have hP : ∀ l : Int, Calls Try.prog 53 #[.slice (some ⟨g, 0, none⟩) 6 cap, .int .i64 0, .int .i64 6, .int .i64 l] w fun e w' => e = .returned (.tuple #[]) ∧ Own B 21 w' (.slice (some ⟨g, 0, none⟩) 6 cap) (ints .i32 (isrP 5 1 xs)) ∧ w.grownBy w' (some g) := fun l => by
    go_enter Try.func53, Try.ntmps53
    go_wp2
    go_loopw [1, 2, 3, 8, 9] (fun a b l' z1 z2 wr => a = .int .i64 0 ∧ b = .int .i64 6 ∧ wr = w) (fun _ _ _ _ _ _ => 0)
    case atStart => exact ⟨rfl, rfl, rfl⟩
    case round =>
      obtain ⟨rfl, rfl, hw⟩ := hrel
      obtain rfl := hw.symm
      go_wp2_with ((go_at_call 59; refine (HI.out).mono ?_; rintro e w' ⟨rfl, ho, hg⟩))
      refine bodyPost_ret (results_none rfl _ _ _) rfl ?_
      exact ⟨rfl, ho, hg⟩
  go_enter Try.func36, Try.ntmps36
  go_wp2_with (first | (go_at_call 54; refine (len6_any _).mono ?_; rintro e w' ⟨rfl, hw⟩; obtain rfl := hw.symm) | (go_at_call 53; refine (hP _).mono ?_; rintro e w' ⟨rfl, ho, hg⟩))
  go_end0
  exact ⟨rfl, ho, hg⟩
end Go.Proofs.Ytfhfhfadebcbfaa
namespace Go.Proofs.Ytfhfhfadebcbfaa
open Go.RowKit
set_option maxHeartbeats 8000000
set_option maxRecDepth 100000
theorem rclone_any (v : Value) (xs : List Int) (w : World) (h : Row w v (ints .i32 xs)) (hne : xs ≠ []) (hl : xs.length ≤ 1000000) :
    Calls Try.prog 35 #[v] w fun e w' => ∃ t, e = .returned t ∧ Own w.heap.size 21 w' t (ints .i32 xs) ∧ Below w.heap.size w w' := by
  obtain ⟨a, b, off, cap, rfl, hlc, hm, ha, _⟩ := id h
  have hnil := fun w a n c n' c' => Lib.run_eql_slice_nil (P := Try.prog) w 24 21 a n c n' c' Try.underlying24
  obtain rfl : a = some ⟨b, off, none⟩ := by
    rcases ha with h9 | ⟨h9, _⟩
    · exact h9
    · exact absurd (by simpa [ints] using h9) hne
  go_enter Try.func35, Try.ntmps35
  go_wp2_with (at_builtin; refine wpList_app slT_i32 _ _ _ rfl rfl rfl rfl (Own.ilit (k := .i32) [] [] rfl (Nat.le_refl _) (by simp)) (h.alloc _) (by simp [ints]; omega) (by simp) ?_; intro t2 w2 hown2 hg2)
  go_ret
  exact ⟨_, rfl, hown2, below_app (Below.refl _ _) (below_alloc _ _) (Own.ilit (k := .i32) [] [] rfl (Nat.le_refl _) (by simp)) hg2⟩
theorem plain_any (v : Value) (xs : List Int) (w : World) (h : Row w v (ints .i32 xs)) (hu : ∀ x ∈ xs, 0 ≤ x ∧ x ≤ 1114111) (hl : xs.length ≤ 100000) :
    Calls Try.prog 34 #[v] w fun e w' => ∃ t, e = .returned t ∧ Own w.heap.size 5 w' t (ints .u8 (plP xs)) ∧ Below w.heap.size w w' := by
  obtain ⟨a, b, off, cap, rfl, HC⟩ := id h.op
  have HU := Lib.hid hu
  clear hu
  go_enter Try.func34, Try.ntmps34
  go_wp2
  go_loopw [3, 8] (fun ov iv wr => ∃ k : Nat, iv = .int .i64 k ∧ k ≤ xs.length ∧ Hid (Own w.heap.size 5 wr ov (ints .u8 (plP (xs.take k)))) ∧ Below w.heap.size w wr) (fun _ iv _ => xs.length - (intOf iv).toNat)
  case atStart => exact ⟨0, rfl, Nat.zero_le _, Own.nil _ _ _, Below.refl _ _⟩
  case round =>
    obtain ⟨k, rfl, hk, HO, hb⟩ := hrel
    rcases Nat.lt_or_ge k xs.length with hlt | hlt
    case inr =>
      obtain rfl : k = xs.length := by omega
      have ho := HO.out
      rw [List.take_of_length_le (Nat.le_refl _)] at ho
      go_wp2
      go_ret
      exact ⟨_, rfl, ho, hb⟩
    case inl =>
      obtain ⟨x, HX, rfl, hc⟩ := HC.out k hlt
      replace hc := hc _ hb
      have hx := HU.out x (List.mem_of_getElem? HX.out)
      have HT : Hid (plP (xs.take (k + 1)) = plP (xs.take k) ++ (if x < 128 then [x] else [])) := by
        show _ = _
        rw [List.take_add_one, HX.out]
        unfold plP
        rw [List.filter_append]
        congr 1
        simp only [Option.toList]
        by_cases h9 : x < 128 <;> simp [h9]
      by_cases h128 : x < 128
      case neg =>
        have ht := HT.out
        rw [if_neg h128, List.append_nil] at ht
        go_wp2
        go_roundw
        case rel => exact ⟨k + 1, by go_num, by omega, (by rw [ht]; exact HO.out), hb⟩
        case measure => simp [intOf]; omega
      case pos =>
        have ht := HT.out
        rw [if_pos h128] at ht
        have HT2 : Hid (ints .u8 (plP (xs.take k)) ++ ints .u8 [x] = ints .u8 (plP (xs.take (k + 1)))) := by show _ = _; rw [ht, ints_append]
        clear ht
        have hw1 : IntKind.u8.wrap x = x := IntWalk.u8_in _ (by omega)
        have HLN : Hid ((ints .u8 (plP (xs.take k))).length ≤ 100000) := by
          show _ ≤ _
          rw [ints_length]
          refine Nat.le_trans (List.length_filter_le _ _) ?_
          rw [List.length_take]; omega
        go_wp2_with (at_builtin; refine wpList_app slT_u8 w.heap.size _ _ rfl rfl rfl rfl (HO.out.alloc _) (Row.ilit [x] [_] rfl (by simp)) (by have := HLN.out; simp only [ints_length, List.length_cons, List.length_nil] at this ⊢; omega) (by have := hb.size; simp; omega) ?_; intro t3 w3 ho3 hg3; have hb3 := below_app hb ((Below.refl _ _).alloc (Nat.le_refl _) _) (HO.out.alloc _) hg3; rw [HT2.out] at ho3)
        go_roundw
        case rel => exact ⟨k + 1, by go_num, by omega, ho3, hb3⟩
        case measure => simp [intOf]; omega
theorem number_any (B P : Nat) (s : Int) (b : Nat) (m : Int) (z : Bool) (n : Int) (w : World) (h : St B P w s b m z) (hb : b ≤ 100000000000000) (hn : n < 1152921504606846976) (hn0 : -1152921504606846976 < n) :
    Calls Try.prog 40 #[.pointer (some ⟨P, 0, none⟩), .int .i64 n] w fun e w' => ∃ t, e = .returned t ∧ Own w.heap.size 5 w' t (ints .u8 (numP b (n.toNat + 1) n 36)) ∧ Below w.heap.size w w' ∧ (numP b (n.toNat + 1) n 36).length ≤ 61 := by
  obtain ⟨V, HV⟩ : ∃ V, Hid (numP b (n.toNat + 1) n 36 = V) := ⟨_, rfl⟩
  rw [HV.out]
  go_enter Try.func40, Try.ntmps40
  go_wp2
  go_loopw [1, 5, 6] (fun nv ov kv wr => ∃ (f e : Nat) (a k : Int) (l : List Int), nv = .int .i64 a ∧ kv = .int .i64 k ∧ Hid (Own w.heap.size 5 wr ov (ints .u8 l)) ∧ Hid (l ++ numP b (f + 1) a k = V) ∧ Hid (a < (2 : Int) ^ e) ∧ a.toNat ≤ f ∧ a < 1152921504606846976 ∧ -1152921504606846976 < a ∧ 36 ≤ k ∧ k + 36 * (e : Int) ≤ 2196 ∧ l.length + e ≤ 60 ∧ Below w.heap.size w wr) (fun nv _ _ _ => (intOf nv).toNat)
  case atStart => exact ⟨n.toNat, 60, n, 36, [], rfl, rfl, Own.nil _ _ _, HV.out, hn, Nat.le_refl _, hn, hn0, by omega, by omega, by simp, Below.refl _ _⟩
  case round =>
    obtain ⟨f, e, a, k, l, rfl, rfl, HO, HN, HA, haf, ha1, ha0, hk, hke, hle, hbl⟩ := hrel
    obtain ⟨c0, c1, c2, c3⟩ := (h.below hbl).cells
    have hedg := fun w => edge_any k b w (by omega) (by omega) (by omega) (by omega)
    have hnv := HN.out
    rw [numP] at hnv
    obtain ⟨t, ht⟩ : ∃ t, edgP k b = t := ⟨_, rfl⟩
    obtain ⟨t0, t1⟩ := edgP_rng k b
    rw [ht] at hedg t0 t1 hnv
    have HE := Lib.hid hedg
    clear hedg ht
    have HLN : Hid (∀ x : Int, (ints .u8 l).length + (ints .u8 [x]).length ≤ 1000000000) := fun x => by simp only [ints_length, List.length_cons, List.length_nil]; omega
    by_cases hat : a < t
    case pos =>
      rw [if_pos hat] at hnv
      have hD := fun w => digit_any a w
      generalize dgtP a = D at *
      have HD := Lib.hid hD
      have HT : Hid (ints .u8 l ++ ints .u8 [D] = ints .u8 V) := by show _ = _; rw [← hnv, ints_append]
      have HVL : Hid (V.length ≤ 61) := by show _ ≤ _; rw [← hnv]; simp; omega
      clear hnv hD
      go_wp2_with (first | (go_at_call 44; refine (HE.out _).mono ?_; rintro e w' ⟨rfl, hw⟩; obtain rfl := hw.symm) | (go_at_call 14; refine (HD.out _).mono ?_; rintro e w' ⟨rfl, hw⟩; obtain rfl := hw.symm) | (at_builtin; refine wpList_app slT_u8 w.heap.size _ _ rfl rfl rfl rfl (HO.out.alloc _) (Row.ilit [D] [_] rfl (by simp)) (HLN.out D) (by have := hbl.size; simp; omega) ?_; intro t3 w3 ho3 hg3; have hb3 := below_app hbl ((Below.refl _ _).alloc (Nat.le_refl _) _) (HO.out.alloc _) hg3; rw [HT.out] at ho3))
      go_ret
      exact ⟨_, rfl, ho3, hb3, HVL.out⟩
    case neg =>
      rw [if_neg hat] at hnv
      obtain ⟨e, rfl⟩ : ∃ e2, e = e2 + 1 := ⟨e - 1, by
        rcases Nat.eq_zero_or_pos e with h9 | h9
        · have := HA.out; rw [h9] at this; simp at this; omega
        · omega⟩
      obtain ⟨f, rfl⟩ : ∃ f2, f = f2 + 1 := ⟨f - 1, by omega⟩
      have hq0 : 0 ≤ (a - t) / (36 - t) := Int.ediv_nonneg (by omega) (by omega)
      have hqm : (a - t) / (36 - t) * (36 - t) ≤ a - t := Int.ediv_mul_le _ (by omega)
      have hq10 : (a - t) / (36 - t) * 10 ≤ (a - t) / (36 - t) * (36 - t) := Int.mul_le_mul_of_nonneg_left (by omega) hq0
      have hr0 : 0 ≤ (a - t) % (36 - t) := Int.emod_nonneg _ (by omega)
      have hr1 : (a - t) % (36 - t) < 36 - t := Int.emod_lt_of_pos _ (by omega)
      obtain ⟨q, hq⟩ : ∃ q, (a - t) / (36 - t) = q := ⟨_, rfl⟩
      obtain ⟨r, hr⟩ : ∃ r, (a - t) % (36 - t) = r := ⟨_, rfl⟩
      rw [hq] at hq0 hqm hq10 hnv
      rw [hr] at hr0 hr1 hnv
      have HA2 : Hid (q < (2 : Int) ^ e) := by
        have := HA.out
        rw [Int.pow_succ] at this
        show _ < _
        omega
      have hD := fun w => digit_any (t + r) w
      generalize dgtP (t + r) = D at *
      have HD := Lib.hid hD
      have HT : Hid (ints .u8 l ++ ints .u8 [D] = ints .u8 (l ++ [D])) := (ints_append _ _ _).symm
      have HN2 : Hid (l ++ [D] ++ numP b (f + 1) q (k + 36) = V) := by show _ = _; rw [← hnv]; simp
      clear hnv hD
      have hwq : IntKind.i64.wrap q = q := IntWalk.i64_in _ (by omega)
      go_wp2_with (first | (go_at_call 44; refine (HE.out _).mono ?_; rintro e w' ⟨rfl, hw⟩; obtain rfl := hw.symm) | (go_at_call 14; refine (HD.out _).mono ?_; rintro e w' ⟨rfl, hw⟩; obtain rfl := hw.symm) | (at_builtin; refine wpList_app slT_u8 w.heap.size _ _ rfl rfl rfl rfl (HO.out.alloc _) (Row.ilit [D] [_] rfl (by simp)) (HLN.out D) (by have := hbl.size; simp; omega) ?_; intro t3 w3 ho3 hg3; have hb3 := below_app hbl ((Below.refl _ _).alloc (Nat.le_refl _) _) (HO.out.alloc _) hg3; rw [HT.out] at ho3))
      go_roundw
      case rel => exact ⟨f, e, q, k + 36, l ++ [D], by first | rfl | go_num, rfl, ho3, HN2.out, HA2.out, by omega, by omega, by omega, by omega, by omega, by simp; omega, hb3⟩
      case measure => simp [intOf]; omega
end Go.Proofs.Ytfhfhfadebcbfaa
namespace Go.Proofs.Ytfhfhfadebcbfaa
open Go.RowKit
set_option maxHeartbeats 8000000
set_option maxRecDepth 100000
theorem compact_any (v : Value) (xs : List Int) (w : World) (h : Row w v (ints .i32 xs)) (hd : ∀ k x y, xs[k]? = some x → xs[k + 1]? = some y → x ≠ y) (hl : xs.length ≤ 1000000) :
    Calls Try.prog 38 #[v] w fun e w' => e = .returned v ∧ Below w.heap.size w w' := by
  obtain ⟨a, b, off, cap, rfl, HC⟩ := h.op
  have HD := Lib.hid hd
  clear hd
  by_cases h2 : xs.length < 2
  · go_enter Try.func38, Try.ntmps38
    go_wp2
    go_ret
    exact ⟨rfl, Below.refl _ _⟩
  go_enter Try.func38, Try.ntmps38
  go_wp2
  go_loopw [3] (fun kv wr => ∃ k : Nat, kv = .int .i64 k ∧ 1 ≤ k ∧ k ≤ xs.length ∧ Below w.heap.size w wr) (fun kv _ => xs.length - (intOf kv).toNat)
  case atStart => exact ⟨1, rfl, Nat.le_refl _, by omega, Below.refl _ _⟩
  case round =>
    obtain ⟨k, rfl, hk1, hk, hb⟩ := hrel
    rcases Nat.lt_or_ge k xs.length with hlt | hlt
    case inr =>
      go_wp2
      go_ret
      exact ⟨rfl, hb⟩
    case inl =>
      obtain ⟨k, rfl⟩ : ∃ k2, k = k2 + 1 := ⟨k - 1, by omega⟩
      obtain ⟨x, HX, rfl, hcx⟩ := HC.out k (by omega)
      obtain ⟨y, HY, _, hcy⟩ := HC.out (k + 1) hlt
      replace hcx := hcx _ hb
      replace hcy := hcy _ hb
      have hne := HD.out k x y HX.out HY.out
      have hbq : (y == x) = false := beq_false_of_ne (fun h9 => hne h9.symm)
      have hkc : ((k + 1 : Nat) : Int) - 1 = (k : Int) := by omega
      have hkb : (k : Int) + 1 < (xs.length : Int) := by omega
      have hkb2 : (k : Int) < (xs.length : Int) := by omega
      go_wp2
      go_quiet (fail)
      go_wp2
      go_roundw
      case rel => exact ⟨k + 1 + 1, by go_num, by omega, by omega, below_drewN hb _⟩
      case measure => simp [intOf]; omega
theorem wpList_clear_run {P : Program} {w : World} {ops : Array Oper} {rest : List Oper} {o : Oper} {a : Act} {Q : Exit → Act → World → Prop} (hgd : o.guard = none) (s : Operand) (T : TypeId)
    (ho : o.op = .call { callee := .builtin .clear, args := #[s], argTypes := #[T] }) {v r : Value} {w' : World} (hs : a.eval s = v)
    (hr : (Builtin.clear_ #[T] o.type #[v]).run P w = .ok r w') (h : wpList P ops Q rest (a.put o.dst r) w') : wpList P ops Q (o :: rest) a w := by
  refine wpList_plain hgd fun K hK => ?_
  unfold Oper.wp
  simp [execOp, ho, resolve, invoke, builtin, hs, hr, Result.andThen]
  exact hK _ _ h
theorem Own.setCells {B g n cap : Nat} {E : TypeId} : ∀ (vs : List Value) (o : Nat) (cs : List Value) (w : World), Own B E w (.slice (some ⟨g, 0, none⟩) n cap) cs → (∀ u ∈ vs, u.oneCell' = true) →
    ∃ cs', Own B E (w.setCells g o vs) (.slice (some ⟨g, 0, none⟩) n cap) cs' ∧ cs'.length = cs.length ∧ cs'.take o = cs.take o
  | [], o, cs, w, h, _ => ⟨cs, h, rfl, rfl⟩
  | v :: vs, o, cs, w, h, hv => by
    obtain ⟨cs', h1, h2, h3⟩ := Own.setCells vs (o + 1) (cs.set o v) _ (Own.set h o v (hv v (by simp))) (fun u hu => hv u (by simp [hu]))
    refine ⟨cs', h1, by rw [h2, List.length_set], ?_⟩
    have h4 := congrArg (List.take o) h3
    rw [List.take_take, List.take_take, Nat.min_eq_left (by omega), List.take_set_of_le (by omega)] at h4
    exact h4
theorem grown_setCells {g : Nat} : ∀ (vs : List Value) (o : Nat) (w : World), w.grownBy (w.setCells g o vs) (some g)
  | [], _, w => grown_refl w _
  | v :: vs, o, w => grown_trans (grown_set w g o v) (grown_setCells vs (o + 1) _)
theorem Own.trunc {B g n cap : Nat} {E : TypeId} {w : World} {cs : List Value} (h : Own B E w (.slice (some ⟨g, 0, none⟩) n cap) cs) (i : Nat) (hi : i ≤ cs.length) : Own B E w (.slice (some ⟨g, 0, none⟩) i cap) (cs.take i) := by
  obtain ⟨⟨h0, h1⟩, h2⟩ := h
  have hl : (cs.take i).length = i := by rw [List.length_take]; omega
  rcases h1 with ⟨h9, _⟩ | ⟨g', cap', cur, hv, hB, hg, hc, hm, hs, ht⟩
  · cases h9
  · simp only [Value.slice.injEq] at hv
    obtain ⟨h5, h6, h7⟩ := hv
    subst h7
    refine ⟨⟨by rw [hl]; omega, .inr ⟨g', cap, cur, ?_, hB, hg, by rw [hl]; omega, hm, hs, ?_⟩⟩, fun u hu => h2 u (List.mem_of_mem_take hu)⟩
    · rw [hl, h5]
    · rw [hl, Nat.mul_one, ← ht, List.take_take, Nat.min_eq_left (by omega)]
theorem lay1_fnc : Fnc 39 := fun args w => by kernel_rfl
theorem lay1_any (c : Int) (w : World) : Calls Try.prog 39 #[.int .i32 c] w fun e w' => e = .returned (.bool (decide (c < 128))) ∧ w = w' := by
  go_enter Try.func39, Try.ntmps39
  go_wp2
  go_ret
  exact ⟨rfl, rfl⟩
theorem label1_fnc : Fnc 41 := fun args w => by kernel_rfl
theorem label1_any (c : Int) (w : World) : Calls Try.prog 41 #[.int .i32 c] w fun e w' => e = .returned (.bool (decide (c < 0 ∨ 128 ≤ c))) ∧ w = w' := by
  by_cases h0 : c < 0
  · rw [decide_eq_true (.inl h0)]
    go_enter Try.func41, Try.ntmps41
    go_wp2
    go_ret
    exact ⟨rfl, rfl⟩
  · have e : decide (c < 0 ∨ 128 ≤ c) = decide (128 ≤ c) := by rw [decide_eq_decide]; omega
    rw [e]
    go_enter Try.func41, Try.ntmps41
    go_wp2
    go_ret
    exact ⟨rfl, rfl⟩
end Go.Proofs.Ytfhfhfadebcbfaa
namespace Go.Proofs.Ytfhfhfadebcbfaa
open Go.RowKit
set_option maxHeartbeats 8000000
set_option maxRecDepth 100000
theorem idx_any (p : Int → Bool) (xs : List Int) : decide (0 ≤ idx p xs) = xs.any p := by
  unfold idx
  cases hc : xs.findIdx? p with
  | none =>
    rw [List.findIdx?_eq_none_iff] at hc
    have : xs.any p = false := by rw [List.any_eq_false]; intro x hx; simp [hc x hx]
    rw [this]; simp
  | some i =>
    have h2 := List.findIdx?_eq_some_iff_getElem.1 hc
    obtain ⟨hi, hp, _⟩ := h2
    have : xs.any p = true := List.any_eq_true.2 ⟨xs[i], List.getElem_mem hi, hp⟩
    rw [this]; simp
theorem contains_any (v : Value) (xs : List Int) (w : World) (h : Row w v (ints .i32 xs)) (hr : R32 xs) (hl : xs.length ≤ 1000000000) :
    Calls Try.prog 42 #[v, .func (Fn.func 41) #[] #[]] w fun e w' => e = .returned (.bool (xs.any (fun c => decide (c < 0 ∨ 128 ≤ c)))) ∧ w = w' := by
  have hI := indexFunc_any _ label1_fnc _ (fun c w _ _ => label1_any c w) v xs w h hr hl
  have hx := idx_any (fun c => decide (c < 0 ∨ 128 ≤ c)) xs
  generalize idx (fun c => decide (c < 0 ∨ 128 ≤ c)) xs = q at *
  rw [← hx]
  have HI := Lib.hid hI
  clear hI hx
  go_enter Try.func42, Try.ntmps42
  go_wp2_with (go_at_call 55; refine (HI.out).mono ?_; rintro e w' ⟨rfl, hw⟩; obtain rfl := hw)
  go_ret
  exact ⟨rfl, rfl⟩
/-- What is known of a first place. -/
theorem idx_cases (p : Int → Bool) (xs : List Int) : (idx p xs = -1 ∧ xs.filter (fun c => !p c) = xs) ∨ ∃ i : Nat, idx p xs = i ∧ i < xs.length ∧ (∃ x, xs[i]? = some x ∧ p x = true) ∧ (xs.take i).filter (fun c => !p c) = xs.take i := by
  unfold idx
  cases hc : xs.findIdx? p with
  | none =>
    rw [List.findIdx?_eq_none_iff] at hc
    exact .inl ⟨rfl, List.filter_eq_self.2 (fun x hx => by simp [hc x hx])⟩
  | some i =>
    obtain ⟨hi, hp, hlt⟩ := List.findIdx?_eq_some_iff_getElem.1 hc
    refine .inr ⟨i, rfl, hi, ⟨xs[i], List.getElem?_eq_getElem hi, hp⟩, List.filter_eq_self.2 (fun x hx => ?_)⟩
    obtain ⟨j, hj, rfl⟩ := List.mem_take_iff_getElem.1 hx
    have := hlt j (by omega)
    simp [this]
theorem delf_any (B g n cap : Nat) (xs : List Int) (w : World) (h : Own B 21 w (.slice (some ⟨g, 0, none⟩) n cap) (ints .i32 xs)) (hn : xs.length = n) (hr : R32 xs) (hl : n ≤ 1000000) :
    Calls Try.prog 37 #[.slice (some ⟨g, 0, none⟩) n cap, .func (Fn.func 39) #[] #[]] w fun e w' =>
      ∃ i : Nat, e = .returned (.slice (some ⟨g, 0, none⟩) i cap) ∧ i ≤ n ∧ Own B 21 w' (.slice (some ⟨g, 0, none⟩) i cap) (ints .i32 (xs.filter (fun c => !decide (c < 128)))) ∧ w.grownBy w' (some g) := by
  have hI := indexFunc_any _ lay1_fnc _ (fun c w _ _ => lay1_any c w) (.slice (some ⟨g, 0, none⟩) n cap) xs w h.row hr (by omega)
  obtain ⟨V, HV⟩ : ∃ V, Hid (xs.filter (fun c => !decide (c < 128)) = V) := ⟨_, rfl⟩
  rw [HV.out]
  have hcap : n ≤ cap := by
    obtain ⟨_, _, _, _, hv, hc, _⟩ := h.row
    simp only [Value.slice.injEq] at hv
    obtain ⟨_, h6, rfl⟩ := hv
    omega
  rcases idx_cases (fun c => decide (c < 128)) xs with ⟨hq, hf⟩ | ⟨i, hq, hi, ⟨x, hx, hpx⟩, hf⟩
  · rw [hq] at hI
    have HV2 : Hid (xs = V) := hf.symm.trans HV.out
    rw [← HV2.out]
    have HI := Lib.hid hI
    clear hI
    go_enter Try.func37, Try.ntmps37
    go_wp2_with (go_at_call 55; refine (HI.out).mono ?_; rintro e w' ⟨rfl, hw⟩; obtain rfl := hw)
    go_ret
    exact ⟨n, rfl, Nat.le_refl _, h, grown_refl w _⟩
  · rw [hq] at hI
    have HI := Lib.hid hI
    have HF0 : Hid ((xs.take (i + 1)).filter (fun c => !decide (c < 128)) = xs.take i) := by
      show _ = _
      rw [List.take_add_one, hx, List.filter_append, hf]
      have : x < 128 := of_decide_eq_true hpx
      simp [this]
    have H := Lib.hid h
    have HN := Lib.hid hn
    clear hI hq hf hpx h
    go_enter Try.func37, Try.ntmps37
    go_wp2_with (go_at_call 55; refine (HI.out).mono ?_; rintro e w' ⟨rfl, hw⟩; obtain rfl := hw)
    go_loopw [5, 6] (fun iv jv wr => ∃ (i j : Nat) (L : List Int), iv = .int .i64 i ∧ jv = .int .i64 j ∧ i < j ∧ j ≤ n ∧ Hid (L.length = n) ∧ Hid ((xs.take j).filter (fun c => !decide (c < 128)) = L.take i) ∧ Hid (L.drop j = xs.drop j) ∧ Hid (Own B 21 wr (.slice (some ⟨g, 0, none⟩) n cap) (ints .i32 L)) ∧ w.grownBy wr (some g)) (fun _ jv _ => n - (intOf jv).toNat)
    case atStart => exact ⟨i, i + 1, xs, rfl, by go_num, by omega, by omega, HN.out, HF0.out, rfl, H.out, grown_refl w _⟩
    case round =>
      clear hx hi HF0
      obtain ⟨i, j, L, rfl, rfl, hij, hj, HL, HF, HD, HO, hg⟩ := hrel
      rcases Nat.lt_or_ge j n with hlt | hlt
      case inr =>
        obtain rfl : j = n := by omega
        have hL := HL.out
        have hF := HF.out
        rw [List.take_of_length_le (by rw [HN.out]; exact Nat.le_refl _)] at hF
        have HV2 : Hid (L.take i = V) := hF.symm.trans HV.out
        have hvz : ∀ w, (zeroValue 21).run Try.prog w = .ok (.int .i32 0) w := fun w => by rfl
        have hclr := fun ty => Lib.run_clear_slice (P := Try.prog) wr 24 21 ty (.int .i32 0) Try.underlying24 hvz rfl rfl g i (j - i) (cap - i) (by omega) (fun q hq => by
          rw [Own.cell HO.out (j := i + q) (u := .int .i32 (L[i + q]'(by omega))) (by rw [ints_get, List.getElem?_eq_getElem (by omega)]; rfl)]; rfl) (fun q _ => Own.frozen HO.out (i + q))
        obtain ⟨cs', ho2, hl2, ht2⟩ := Own.setCells (List.replicate (j - i) (Value.int .i32 0)) i _ _ HO.out (by intro u hu; rw [List.eq_of_mem_replicate hu]; rfl)
        have ho3 := Own.trunc ho2 i (by rw [hl2, ints_length]; omega)
        rw [ht2, ints_take, HV2.out] at ho3
        have hg2 := grown_trans hg (grown_setCells (g := g) (List.replicate (j - i) (Value.int .i32 0)) i wr)
        generalize wr.setCells g i (List.replicate (j - i) (Value.int .i32 0)) = w9 at *
        have hci : ¬ (cap = i) := by omega
        have hij2 : (i : Int) ≤ (j : Int) := by omega
        have hic : (i : Int) ≤ (cap : Int) := by omega
        have HO3 := Lib.hid ho3
        clear ho2 ho3 hl2 ht2 hF hL HO HF HD
        go_wp2_with (at_builtin; refine wpList_clear_run rfl _ 24 rfl rfl (hclr _) ?_)
        go_ret
        exact ⟨i, rfl, by omega, HO3.out, hg2⟩
      case inl =>
        obtain ⟨x, hx⟩ : ∃ x, xs[j]? = some x := ⟨_, List.getElem?_eq_getElem (by rw [HN.out]; exact hlt)⟩
        have hLx : L[j]? = some x := by
          have h8 : (L.drop j)[0]? = (xs.drop j)[0]? := by rw [HD.out]
          rw [List.getElem?_drop, List.getElem?_drop, Nat.add_zero, hx] at h8
          exact h8
        have hD2 : L.drop (j + 1) = xs.drop (j + 1) := by
          have h8 := congrArg (List.drop 1) HD.out
          rw [List.drop_drop, List.drop_drop] at h8
          exact h8
        have c0 := Own.cell HO.out (j := j) (u := .int .i32 x) (by rw [ints_get, hLx]; rfl)
        obtain ⟨y, hy⟩ : ∃ y, L[i]? = some y := ⟨_, List.getElem?_eq_getElem (by have := HL.out; omega)⟩
        have hci := Own.cell HO.out (j := i) (u := .int .i32 y) (by rw [ints_get, hy]; rfl)
        clear hy
        have hfi := Own.frozen HO.out i
        have hfn := lay1_fnc
        unfold Fnc at hfn
        have hib : (i : Int) < (n : Int) := by omega
        have hjb : (j : Int) < (n : Int) := by omega
        have HX := Lib.hid hx
        have HDD := Lib.hid hD2
        clear hx hLx hD2
        by_cases h128 : x < 128
        case pos =>
          have HF2 : Hid ((xs.take (j + 1)).filter (fun c => !decide (c < 128)) = L.take i) := by
            show _ = _
            rw [List.take_add_one, HX.out, List.filter_append, HF.out]
            simp [h128]
          have hl1 := fun w => lay1_any x w
          rw [decide_eq_true h128] at hl1
          have HL1 := Lib.hid hl1
          clear hl1
          go_wp2_with (refine (HL1.out _).mono ?_; rintro e w' ⟨rfl, hw⟩; obtain rfl := hw)
          go_roundw
          case rel =>
            repeat apply Exists.intro
            refine And.intro ⟨i, j + 1, L, rfl, by go_num, by omega, by omega, HL.out, HF2.out, HDD.out, HO.out, hg⟩ ?_
            repeat' apply And.intro
            all_goals rfl
          case measure => simp [intOf]; omega
        case neg =>
          have HF2 : Hid ((xs.take (j + 1)).filter (fun c => !decide (c < 128)) = (L.set i x).take (i + 1)) := by
            show _ = _
            rw [List.take_add_one, HX.out, List.filter_append, HF.out, List.take_add_one, List.getElem?_set_self (by have := HL.out; omega), List.take_set_of_le (Nat.le_refl _)]
            simp [h128]
          have HD3 : Hid ((L.set i x).drop (j + 1) = xs.drop (j + 1)) := by
            show _ = _
            rw [List.drop_set_of_lt (by omega), HDD.out]
          have ho2 := Own.set HO.out i (.int .i32 x) rfl
          rw [ints_set] at ho2
          have HO2 := Lib.hid ho2
          have hg2 := grown_trans hg (grown_set wr g i (.int .i32 x))
          have HLS : Hid ((L.set i x).length = n) := by show _ = _; rw [List.length_set]; exact HL.out
          have hl1 := fun w => lay1_any x w
          rw [decide_eq_false h128] at hl1
          have HL1 := Lib.hid hl1
          clear hl1 ho2
          go_wp2_with (refine (HL1.out _).mono ?_; rintro e w' ⟨rfl, hw⟩; obtain rfl := hw)
          go_roundw
          case rel =>
            repeat apply Exists.intro
            refine And.intro ⟨i + 1, j + 1, L.set i x, by go_num, by go_num, by omega, by omega, HLS.out, HF2.out, HD3.out, HO2.out, hg2⟩ ?_
            repeat' apply And.intro
            all_goals rfl
          case measure => simp [intOf]; omega
end Go.Proofs.Ytfhfhfadebcbfaa
