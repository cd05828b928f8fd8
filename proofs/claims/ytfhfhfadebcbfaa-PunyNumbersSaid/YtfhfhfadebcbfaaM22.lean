/- Walks: a host's name read. · Walks: octets read by the reference. (laid together by program out of single texts). -/
import Derived.Test.YtfhfhfadebcbfaaM17
import Derived.Test.YtfhfhfadebcbfaaM21
namespace Go.Proofs.Ytfhfhfadebcbfaa
open Go.RowKit
set_option maxHeartbeats 8000000
set_option maxRecDepth 100000
theorem xn_low : ([120, 110, 45, 45] : List Int).map lowC = [120, 110, 45, 45] := by decide
theorem flabel_any (v : Value) (xs : List Int) (w : World) (h : Row w v (ints .u8 xs)) (hu : ∀ x ∈ xs, 0 ≤ x ∧ x < 256) (hl : xs.length ≤ 900000) :
    Calls Try.prog 9 #[v] w fun e w' => ∃ t, e = .returned (.tuple #[t, .int .i64 (flP xs).2]) ∧ Own w.heap.size 21 w' t (ints .i32 (flP xs).1) ∧ Below w.heap.size w w' := by
  obtain ⟨V, hV⟩ : ∃ V, flP xs = V := ⟨_, rfl⟩
  rw [hV]
  unfold flP at hV
  have HU := Lib.hid hu
  have hg : Rg 0 256 xs := hu
  have hRd := fun v' wx h9 => read_any v' (xs.drop 4) wx h9 (fun x hx => hu x (List.mem_of_mem_drop hx)) (by simp; omega)
  have hSm := fun v1 v2 wx h1 h2 => osame_any v1 v2 (xs.take 4) [120, 110, 45, 45] wx h1 h2 (fun x hx => hu x (List.mem_of_mem_take hx)) (by intro x hx; simp at hx; omega) (by simp; omega) (by simp)
  rw [xn_low] at hSm
  obtain ⟨z, hz⟩ : ∃ z, decide ((xs.take 4).map lowC = [120, 110, 45, 45]) = z := ⟨_, rfl⟩
  rw [hz] at hSm
  have bad : V = ([], 3) ∨ V = (xs, 0) ∧ xs.any (fun c => decide (127 < c)) = false ∨ z = true ∧ 4 ≤ xs.length := by
    by_cases h4 : 4 ≤ xs.length ∧ (xs.take 4).map lowC = [120, 110, 45, 45]
    · exact .inr (.inr ⟨by rw [← hz]; exact decide_eq_true h4.2, h4.1⟩)
    · rw [if_neg h4] at hV
      cases h9 : xs.any (fun c => decide (127 < c)) with
      | true => rw [if_pos h9] at hV; exact .inl hV.symm
      | false => rw [if_neg (by rw [h9]; simp)] at hV; exact .inr (.inl ⟨hV.symm, rfl⟩)
  have kc := fun (w : World) (C : Array Value) (n c : Nat) => Lib.run_convert_bytes_const (P := Try.prog) w 22 5 C n c Try.underlying22 Try.underlying5
  have HRD := Lib.hid hRd
  have HSM := Lib.hid hSm
  clear hRd hSm hg
  by_cases h4 : 4 ≤ xs.length
  case' pos => cases z
  case' pos.true =>
    rw [if_pos ⟨h4, of_decide_eq_true hz⟩] at hV
    rw [hV] at HRD
    clear bad hz hV
    obtain ⟨a, b, off, cap, rfl, HC⟩ := Row.op h
    go_enter Try.func9, Try.ntmps9
    go_wp2_with (first | (refine wpList_slH slT_u8 _ _ rfl rfl rfl rfl h (by omega) (by simp [ints]; omega) ?_; intro v2 hv2; have r2 : Row w v2 (ints .u8 (xs.take 4)) := (by have h9 := hv2 _ h; rw [ints_take] at h9; exact h9); have hl2 := Row.flit (E := 5) (w := w) (k := .u8) (f := (4, 5)) [120, 110, 45, 45] [_, _, _, _] rfl (by simp)) | (go_at_call 28; refine (HSM.out _ _ _ (r2.alloc _) hl2).mono ?_; rintro e w1 ⟨rfl, hb1⟩; have hb2 := below_trans (below_alloc w _) hb1) | (refine wpList_slL slT_u8 _ _ rfl rfl rfl rfl (h.below hb2) (by omega) (by simp [ints]; omega) ?_; intro v3 hv3; have r3 : Row w1 v3 (ints .u8 (xs.drop 4)) := (by have h9 := hv3 _ (h.below hb2); rw [ints_drop] at h9; exact h9)) | (go_at_call 7; refine (HRD.out _ _ r3).mono ?_; rintro e w3 ⟨t3, rfl, ho3, hb3⟩; have hb4 := below_trans hb2 hb3; have ho4 := Own.mono ho3 hb2.size))
    go_ret2
    exact ⟨_, rfl, ho4, hb4⟩
  case' pos.false =>
    have bad2 : V = ([], 3) ∨ V = (xs, 0) ∧ xs.any (fun c => decide (127 < c)) = false := by
      rcases bad with h9 | h9 | h9
      · exact .inl h9
      · exact .inr h9
      · cases h9.1
  case' neg =>
    have bad2 : V = ([], 3) ∨ V = (xs, 0) ∧ xs.any (fun c => decide (127 < c)) = false := by
      rcases bad with h9 | h9 | h9
      · exact .inl h9
      · exact .inr h9
      · exact absurd h9.2 h4
  all_goals
    have bad3 : xs.any (fun c => decide (127 < c)) = true → V = ([], 3) := fun h9 => by
      rcases bad2 with h8 | ⟨_, h8⟩
      · exact h8
      · rw [h9] at h8; cases h8
    have good : xs.any (fun c => decide (127 < c)) = false → V = (xs, 0) := fun h9 => by
      rw [if_neg (by intro h8; first | exact h4 h8.1 | exact absurd h8.2 (of_decide_eq_false hz)), if_neg (by rw [h9]; simp)] at hV
      exact hV.symm
    have BAD := Lib.hid bad3
    have GOOD := Lib.hid good
    clear bad bad2 bad3 good hV hz
    obtain ⟨a, b, off, cap, rfl, HC⟩ := Row.op h
  case' pos.false =>
    go_enter Try.func9, Try.ntmps9
    go_wp2_with (first | (refine wpList_slH slT_u8 _ _ rfl rfl rfl rfl h (by omega) (by simp [ints]; omega) ?_; intro v2 hv2; have r2 : Row w v2 (ints .u8 (xs.take 4)) := (by have h9 := hv2 _ h; rw [ints_take] at h9; exact h9); have hl2 := Row.flit (E := 5) (w := w) (k := .u8) (f := (4, 5)) [120, 110, 45, 45] [_, _, _, _] rfl (by simp)) | (go_at_call 28; refine (HSM.out _ _ _ (r2.alloc _) hl2).mono ?_; rintro e w1 ⟨rfl, hb1⟩; have hb2 := below_trans (below_alloc w _) hb1))
  case' neg =>
    go_enter Try.func9, Try.ntmps9
    go_wp2
    have hb2 := Below.refl w.heap.size w
  all_goals
    go_loopw [4, 24] (fun tv iv wr => ∃ k : Nat, iv = .int .i64 k ∧ k ≤ xs.length ∧ Hid (Own w.heap.size 21 wr tv (ints .i32 (xs.take k))) ∧ Hid ((xs.take k).any (fun c => decide (127 < c)) = false) ∧ Below w.heap.size w wr) (fun _ iv _ => xs.length - (intOf iv).toNat)
    case atStart => exact ⟨0, rfl, Nat.zero_le _, Own.nil _ _ _, rfl, hb2⟩
    case round =>
      obtain ⟨k, rfl, hk, HO, HA, hb⟩ := hrel
      rcases Nat.lt_or_ge k xs.length with hlt | hlt
      case inl =>
        obtain ⟨x, HX, rfl, hc⟩ := HC.out k hlt
        replace hc := hc _ hb
        have hx := HU.out x (List.mem_of_getElem? HX.out)
        have hw1 : IntKind.i32.wrap x = x := IntWalk.i32_in _ (by omega)
        by_cases h128 : 128 ≤ x
        · obtain rfl : V = ([], 3) := BAD.out (List.any_eq_true.2 ⟨x, List.mem_of_getElem? HX.out, by simp; omega⟩)
          go_wp2
          go_ret2
          exact ⟨_, rfl, Own.nil _ _ _, hb⟩
        · have HT : Hid (ints .i32 (xs.take k) ++ ints .i32 [x] = ints .i32 (xs.take (k + 1))) := by
            show _ = _
            rw [List.take_add_one, HX.out]
            simp [ints]
          have HA2 : Hid ((xs.take (k + 1)).any (fun c => decide (127 < c)) = false) := by
            show _ = _
            rw [List.take_add_one, HX.out, List.any_append, HA.out]
            simp; omega
          have HLN : Hid ((ints .i32 (xs.take k)).length ≤ 900000) := by
            show _ ≤ _
            rw [ints_length, List.length_take]; omega
          go_wp2_with (at_builtin; refine wpList_app slT_i32 w.heap.size _ _ rfl rfl rfl rfl (HO.out.alloc _) (Row.ilit [x] [_] rfl (by simp)) (by have := HLN.out; simp only [ints_length, List.length_cons, List.length_nil] at this ⊢; omega) (by have := hb.size; simp; omega) ?_; intro t3 w3 ho3 hg3; have hb3 := below_app hb ((Below.refl _ _).alloc (Nat.le_refl _) _) (HO.out.alloc _) hg3; rw [HT.out] at ho3)
          go_roundw
          case rel => exact ⟨k + 1, by go_num, by omega, ho3, HA2.out, hb3⟩
          case measure => simp [intOf]; omega
      case inr =>
        obtain rfl : k = xs.length := by omega
        have ho := HO.out
        have ha := HA.out
        rw [List.take_of_length_le (Nat.le_refl _)] at ho ha
        obtain rfl := GOOD.out ha
        go_wp2
        go_ret2
        exact ⟨_, rfl, ho, hb⟩
end Go.Proofs.Ytfhfhfadebcbfaa
namespace Go.Proofs.Ytfhfhfadebcbfaa
open Go.RowKit
set_option maxHeartbeats 8000000
set_option maxRecDepth 100000
def RrI (w : World) (xs : List Int) (V : List Int × Int) (tv av sv pv bv : Value) (wr : World) : Prop :=
  ∃ (k p f b : Nat) (t : List Int) (s : Int), av = .int .i64 k ∧ pv = .int .i64 p ∧ sv = .int .i64 s ∧ bv = .int .i64 b ∧ k ≤ xs.length ∧ Hid (Own w.heap.size 21 wr tv (ints .i32 t)) ∧
    Hid (xs.length ≤ k + f) ∧ t.length ≤ 10000 ∧ p ≤ t.length ∧ 128 ≤ s ∧ s ≤ 1114111 ∧ b ≤ 100000000000000 ∧ Hid (rdP f t s b p (xs.drop k) = V) ∧ Below w.heap.size w wr
theorem rread_any (v : Value) (xs : List Int) (w : World) (h : Row w v (ints .u8 xs)) (hu : ∀ x ∈ xs, 0 ≤ x ∧ x < 256) (hl : xs.length ≤ 1000000) :
    Calls Try.prog 8 #[v] w fun e w' => ∃ t, e = .returned (.tuple #[t, .int .i64 (pnR xs).2]) ∧ Own w.heap.size 21 w' t (ints .i32 (pnR xs).1) ∧ Below w.heap.size w w' := by
  obtain ⟨V, hV⟩ : ∃ V, pnR xs = V := ⟨_, rfl⟩
  rw [hV]
  unfold pnR at hV
  obtain ⟨a, b, off, cap, rfl, HC⟩ := h.op
  by_cases hlong : 10000 < xs.length
  · rw [if_pos hlong] at hV
    obtain rfl := hV
    go_enter Try.func8, Try.ntmps8
    go_wp2
    go_ret2
    exact ⟨_, rfl, Own.nil _ _ _, Below.refl _ _⟩
  rw [if_neg hlong] at hV
  obtain ⟨L, hL⟩ : ∃ L, lstP xs = L := ⟨_, rfl⟩
  have hLlt := lstF_lt xs xs.length (Nat.le_refl _)
  rw [show lstF xs xs.length = L from hL] at hLlt
  rw [hL] at hV
  have HU := Lib.hid hu
  have HF0 : Hid (lstF xs xs.length = L) := hL
  have HTU : Hid (∀ x ∈ xs.take L, 0 ≤ x ∧ x < 256) := fun x hx => HU.out x (List.mem_of_mem_take hx)
  have HTL : Hid ((xs.take L).length = L) := by show _ = _; rw [List.length_take]; omega
  have HTG : Hid (∀ k, k < L → (xs.take L)[k]? = xs[k]?) := fun k hk => by rw [List.getElem?_take, if_pos hk]
  generalize xs.take L = T at *
  obtain ⟨A, hA⟩ : ∃ A : Nat, A = (if L = 0 then 0 else L + 1) := ⟨_, rfl⟩
  have start : ∀ (tv : Value) (wr : World), T.any (fun c => decide (127 < c)) = false → Own w.heap.size 21 wr tv (ints .i32 T) → Below w.heap.size w wr → RrI w xs V tv (.int .i64 A) (.int .i64 128) (.int .i64 0) (.int .i64 72) wr := by
    intro tv wr hany htv hb
    rw [hA]
    rw [if_neg (by rw [hany]; simp)] at hV
    have := HTL.out
    refine ⟨_, 0, xs.length, 72, T, 128, rfl, rfl, rfl, rfl, ?_, htv, ?_, by omega, Nat.zero_le _, by omega, by omega, by omega, ?_, hb⟩
    · split <;> omega
    · show _ ≤ _; omega
    · show _ = _
      rw [← hV]
      congr 1
      split
      · rw [List.drop_zero]
      · rfl
  have bad : T.any (fun c => decide (127 < c)) = true → V = ([], 3) := fun h9 => by rw [if_pos h9] at hV; exact hV.symm
  have START := Lib.hid start
  have BAD := Lib.hid bad
  clear start bad hV hu hL
  go_enter Try.func8, Try.ntmps8
  go_wp2
  go_loopw [5, 6] (fun lv iv wr => ∃ k : Nat, iv = .int .i64 k ∧ k ≤ xs.length ∧ lv = .int .i64 (lstF xs k : Nat) ∧ wr = w) (fun _ iv _ => xs.length - (intOf iv).toNat)
  case atStart => exact ⟨0, rfl, Nat.zero_le _, rfl, rfl⟩
  case' round =>
    obtain ⟨k, rfl, hk, rfl, hw⟩ := hrel
    obtain rfl := hw.symm
    rcases Nat.lt_or_ge k xs.length with hlt | hlt
    case' inl =>
      obtain ⟨x, HX, rfl, hc⟩ := HC.out k hlt
      have hcx := hc w (Below.refl _ _)
      have hs : lstF xs (k + 1) = if x = 45 then k else lstF xs k := by rw [lstF, HX.out]; simp
      have HS := Lib.hid hs
      clear hs hc
      by_cases h45 : x = 45
      case pos =>
        subst h45
        have hs := HS.out
        rw [if_pos rfl] at hs
        go_wp2
        go_roundw
        case rel => exact ⟨k + 1, by go_num, by omega, by rw [hs], by first | rfl | trivial⟩
        case measure => simp [intOf]; omega
      case neg =>
        have hs := HS.out
        rw [if_neg h45] at hs
        have hb45 : (x == 45) = false := beq_false_of_ne h45
        go_wp2
        go_roundw
        case rel => exact ⟨k + 1, by go_num, by omega, by rw [hs], by first | rfl | trivial⟩
        case measure => simp [intOf]; omega
    case' inr =>
      obtain rfl : k = xs.length := by omega
      rw [HF0.out]
      by_cases hL0 : 0 < L
      case' neg =>
        obtain rfl : L = 0 := by omega
        rw [if_pos (by omega)] at hA
        have hT0 : T = [] := List.eq_nil_of_length_eq_zero HTL.out
        have HI := Lib.hid (START.out (.slice none 0 0) w (by rw [hT0]; rfl) (by rw [hT0]; exact Own.nil _ _ _) (Below.refl _ _))
        subst hA
        clear hT0 START BAD HTU HTL HTG
        go_wp2
        go_loopw [4, 8] (fun tv iv wr => tv = .slice none 0 0 ∧ iv = .int .i64 0 ∧ wr = w) (fun _ _ _ => 0)
        case atStart => exact ⟨rfl, rfl, rfl⟩
        case' round =>
          obtain ⟨rfl, rfl, hw⟩ := hrel
          obtain rfl := hw.symm
          go_wp2
      case' pos =>
        rw [if_neg (by omega)] at hA
        have hLb : L ≤ 10000 := by omega
        go_wp2
        go_loopw [4, 8] (fun tv iv wr => ∃ k : Nat, iv = .int .i64 k ∧ k ≤ L ∧ Hid (Own w.heap.size 21 wr tv (ints .i32 (T.take k))) ∧ Hid ((T.take k).any (fun c => decide (127 < c)) = false) ∧ Below w.heap.size w wr) (fun _ iv _ => L - (intOf iv).toNat)
        case atStart => exact ⟨0, rfl, Nat.zero_le _, Own.nil _ _ _, rfl, Below.refl _ _⟩
        case' round =>
          obtain ⟨k, rfl, hk2, HO, HA, hb⟩ := hrel
          rcases Nat.lt_or_ge k L with hlt2 | hlt2
          case' inl =>
            obtain ⟨x, HX, rfl, hc⟩ := HC.out k (by omega)
            replace hc := hc _ hb
            have hkx : k < xs.length := by omega
            have HXT : Hid (T[k]? = some x) := (HTG.out k hlt2).trans HX.out
            have hx := HTU.out x (List.mem_of_getElem? HXT.out)
            have hw1 : IntKind.i32.wrap x = x := IntWalk.i32_in _ (by omega)
            by_cases h128 : 127 < x
            case pos =>
              obtain rfl : V = ([], 3) := BAD.out (List.any_eq_true.2 ⟨x, List.mem_of_getElem? HXT.out, by simp; omega⟩)
              go_wp2
              go_ret2
              exact ⟨_, rfl, Own.nil _ _ _, hb⟩
            case neg =>
              have HT : Hid (ints .i32 (T.take k) ++ ints .i32 [x] = ints .i32 (T.take (k + 1))) := by
                show _ = _
                rw [List.take_add_one, HXT.out]
                simp [ints]
              have HA2 : Hid ((T.take (k + 1)).any (fun c => decide (127 < c)) = false) := by
                show _ = _
                rw [List.take_add_one, HXT.out, List.any_append, HA.out]
                simp; omega
              have HLN : Hid ((ints .i32 (T.take k)).length ≤ 900000) := by
                show _ ≤ _
                rw [ints_length, List.length_take]; omega
              go_wp2_with (at_builtin; refine wpList_app slT_i32 w.heap.size _ _ rfl rfl rfl rfl (HO.out.alloc _) (Row.ilit [x] [_] rfl (by simp)) (by have := HLN.out; simp only [ints_length, List.length_cons, List.length_nil] at this ⊢; omega) (by have := hb.size; simp; omega) ?_; intro t3 w3 ho3 hg3; have hb3 := below_app hb ((Below.refl _ _).alloc (Nat.le_refl _) _) (HO.out.alloc _) hg3; rw [HT.out] at ho3)
              go_roundw
              case rel => exact ⟨k + 1, by go_num, by omega, ho3, HA2.out, hb3⟩
              case measure => simp [intOf]; omega
          case' inr =>
            obtain rfl : k = L := by omega
            have ho := HO.out
            have ha := HA.out
            rw [List.take_of_length_le (by rw [HTL.out]; exact Nat.le_refl _)] at ho ha
            have HI := Lib.hid (START.out _ _ ha ho hb)
            subst hA
            clear ho ha hb START BAD HTU HTL HTG HO HA
            go_wp2
      all_goals
        go_loopw [4, 7, 9, 10, 11] (fun tv av sv pv bv wr => RrI w xs V tv av sv pv bv wr) (fun _ av _ _ _ _ => xs.length - (intOf av).toNat)
        case atStart => exact HI.out
        case round =>
          obtain ⟨k, p, f, nb, t, s, rfl, rfl, rfl, rfl, hk3, HO, HF, htl, hpt, hs0, hs1, hb0, HV, hb⟩ := hrel
          rcases Nat.lt_or_ge k xs.length with hlt3 | hlt3
          case inr =>
            obtain rfl : k = xs.length := by omega
            have hv := HV.out
            rw [List.drop_of_length_le (Nat.le_refl _), rdP_nil] at hv
            obtain rfl := hv
            go_wp2
            go_ret2
            exact ⟨_, rfl, HO.out, hb⟩
          case inl =>
            have hv := HV.out
            have hf := HF.out
            obtain ⟨f, rfl⟩ : ∃ g, f = g + 1 := ⟨f - 1, by omega⟩
            rw [rdP, if_neg (by rw [List.length_drop]; omega)] at hv
            obtain ⟨A, hA⟩ : ∃ A, tkP nb (xs.drop k) 36 1 p = A := ⟨_, rfl⟩
            rw [hA] at hv
            obtain ⟨An, Ar, Ae⟩ := A
            simp only [] at hv
            have HV2 := Lib.hid hv
            have HA := Lib.hid hA
            clear hv hA HV hf
            go_wp2
            go_loopw [7, 10, 13, 14] (fun jv nv wv kv wr' => ∃ (j : Nat) (n W K : Int), jv = .int .i64 j ∧ nv = .int .i64 n ∧ wv = .int .i64 W ∧ kv = .int .i64 K ∧ k ≤ j ∧ j ≤ xs.length ∧ 0 ≤ n ∧ n ≤ 1099511627776 ∧ 1 ≤ W ∧ W ≤ 38482906972160 ∧ 36 ≤ K ∧ K + 36 * ((xs.length : Int) - j) ≤ 360036 ∧ Hid (tkP nb (xs.drop j) K W n = (An, Ar, Ae)) ∧ wr' = wr) (fun jv _ _ _ _ => xs.length - (intOf jv).toNat)
            case atStart => exact ⟨k, p, 1, 36, rfl, rfl, rfl, rfl, Nat.le_refl _, hk3, by omega, by omega, by omega, by omega, by omega, by omega, HA.out, rfl⟩
            case round =>
              obtain ⟨j, n, W, K, rfl, rfl, rfl, rfl, hkj, hj, hn0, hn1, hW0, hW1, hK0, hK1, HT, hw⟩ := hrel
              obtain rfl := hw.symm
              rcases Nat.lt_or_ge j xs.length with hlt4 | hlt4
              case inr =>
                obtain rfl : j = xs.length := by omega
                have ht := HT.out
                rw [List.drop_of_length_le (Nat.le_refl _), tkP] at ht
                obtain ⟨rfl, rfl, rfl⟩ : 0 = An ∧ [] = Ar ∧ 4 = Ae := by simpa using ht
                have hv := HV2.out
                rw [if_pos (by decide)] at hv
                obtain rfl := hv
                go_wp2
                go_ret2
                exact ⟨_, rfl, Own.nil _ _ _, hb⟩
              case inl =>
                obtain ⟨x, HX, rfl, hc⟩ := HC.out j hlt4
                replace hc := hc _ hb
                have hx := HU.out x (List.mem_of_getElem? HX.out)
                have hd : xs.drop j = x :: xs.drop (j + 1) := by
                  have h9 := (List.getElem?_eq_some_iff.1 HX.out).2
                  rw [List.drop_eq_getElem_cons hlt4, h9]
                have ht := HT.out
                rw [hd, tkP] at ht
                obtain ⟨r0, r1⟩ := valP_rng x
                have hva := fun wx => rvalue_any x wx hx.1 hx.2
                obtain ⟨D, hD⟩ : ∃ D, (valP x).1 = D := ⟨_, rfl⟩
                obtain ⟨o, ho⟩ : ∃ o, (valP x).2 = o := ⟨_, rfl⟩
                have hmul : D * W ≤ 35 * W := Int.mul_le_mul_of_nonneg_right (by omega) (by omega)
                have hmul0 : 0 ≤ D * W := Int.mul_nonneg (by omega) (by omega)
                simp only [hD, ho] at ht hva r0 r1
                have HVA := Lib.hid hva
                clear hva hD ho HT hd
                cases o with
                | false =>
                  rw [if_pos (.inl rfl)] at ht
                  obtain ⟨rfl, rfl, rfl⟩ : 0 = An ∧ [] = Ar ∧ 3 = Ae := by simpa using ht
                  have hv := HV2.out
                  rw [if_pos (by decide)] at hv
                  obtain rfl := hv
                  go_wp2_with ((go_at_call 13; refine (HVA.out _).mono ?_; rintro e w2 ⟨rfl, hw⟩; obtain rfl := hw.symm))
                  go_ret2
                  exact ⟨_, rfl, Own.nil _ _ _, hb⟩
                | true =>
                  have hw1 : IntKind.i64.wrap (D * W) = D * W := IntWalk.i64_in _ (by omega)
                  have hw2 : IntKind.i64.wrap (1099511627776 - n) = 1099511627776 - n := IntWalk.i64_in _ (by omega)
                  by_cases h1 : 1099511627776 - n < D * W
                  case pos =>
                    rw [if_pos (.inr h1)] at ht
                    obtain ⟨rfl, rfl, rfl⟩ : 0 = An ∧ [] = Ar ∧ 3 = Ae := by simpa using ht
                    have hv := HV2.out
                    rw [if_pos (by decide)] at hv
                    obtain rfl := hv
                    go_wp2_with ((go_at_call 13; refine (HVA.out _).mono ?_; rintro e w2 ⟨rfl, hw⟩; obtain rfl := hw.symm))
                    go_ret2
                    exact ⟨_, rfl, Own.nil _ _ _, hb⟩
                  case neg =>
                    rw [if_neg (by simpa using h1)] at ht
                    have hw3 : IntKind.i64.wrap (n + D * W) = n + D * W := IntWalk.i64_in _ (by omega)
                    have hedg := fun wx => redge_any K nb wx (by omega) (by omega) (by omega) (by omega)
                    obtain ⟨q, hq⟩ : ∃ q, edgP K nb = q := ⟨_, rfl⟩
                    obtain ⟨t0, t1⟩ := edgP_rng K nb
                    rw [hq] at ht hedg t0 t1
                    have HE := Lib.hid hedg
                    clear hedg hq
                    by_cases h2 : D < q
                    case neg =>
                      rw [if_neg h2] at ht
                      have hmul3 : W * (36 - q) ≤ W * 35 := Int.mul_le_mul_of_nonneg_left (by omega) (by omega)
                      have hmul4 : W * 1 ≤ W * (36 - q) := Int.mul_le_mul_of_nonneg_left (by omega) (by omega)
                      have hmul5 : 1 * W ≤ D * W := Int.mul_le_mul_of_nonneg_right (by omega) (by omega)
                      have hw4 : IntKind.i64.wrap (W * (36 - q)) = W * (36 - q) := IntWalk.i64_in _ (by omega)
                      have HT2 := Lib.hid ht
                      clear ht
                      go_wp2_with (first | (go_at_call 13; refine (HVA.out _).mono ?_; rintro e w2 ⟨rfl, hw⟩; obtain rfl := hw.symm) | (go_at_call 26; refine (HE.out _).mono ?_; rintro e w2 ⟨rfl, hw⟩; obtain rfl := hw.symm))
                      go_roundw
                      case rel => exact ⟨j + 1, n + D * W, W * (36 - q), K + 36, by go_num, rfl, rfl, rfl, by omega, by omega, by omega, by omega, by omega, by omega, by omega, by omega, HT2.out, by first | rfl | trivial⟩
                      case measure => simp [intOf]; omega
                    case pos =>
                      rw [if_pos h2] at ht
                      obtain ⟨hAn, hAr, hAe⟩ : n + D * W = An ∧ xs.drop (j + 1) = Ar ∧ 0 = Ae := by simpa using ht
                      subst hAr
                      subst hAe
                      have hv := HV2.out
                      rw [if_neg (by simp)] at hv
                      clear ht HV2 HA
                      have hn2 : 0 ≤ An := by omega
                      have hn3 : An ≤ 1099511627776 := by omega
                      have hcast : ((t.length + 1 : Nat) : Int) = (t.length : Int) + 1 := by omega
                      rw [hcast] at hv
                      have hAD := fun wx => radapt_any (An - p) ((t.length : Int) + 1) ((p : Int) == 0) wx
                      have hz : ((p : Int) == 0) = decide (p = 0) := by
                        by_cases h9 : p = 0
                        · subst h9; rfl
                        · simp [h9]
                      have hbd := adpP_bd (An - p) ((t.length : Int) + 1) ((p : Int) == 0)
                      rw [← hz] at hv
                      obtain ⟨b2, hb2⟩ : ∃ q, adpP (An - p) ((t.length : Int) + 1) ((p : Int) == 0) = q := ⟨_, rfl⟩
                      rw [hb2] at hv hAD hbd
                      clear hz hb2
                      obtain ⟨m1, hm1⟩ : ∃ m1 : Int, (t.length : Int) + 1 = m1 := ⟨_, rfl⟩
                      simp only [hm1] at hv hAD
                      have hq0 : 0 ≤ An / m1 := Int.ediv_nonneg hn2 (by omega)
                      have hq1 : An / m1 ≤ An := Int.ediv_le_self _ hn2
                      have hr0 : 0 ≤ An % m1 := Int.emod_nonneg _ (by omega)
                      have hr1 : An % m1 < m1 := Int.emod_lt_of_pos _ (by omega)
                      have HAD := Lib.hid hAD
                      have hs4 : 128 ≤ s + An / m1 := by omega
                      have hs5 : s + An / m1 ≤ 3000000000000 := by omega
                      obtain ⟨S2, hS2⟩ : ∃ S2, s + An / m1 = S2 := ⟨_, rfl⟩
                      simp only [hS2] at hv hs4 hs5
                      clear hAD
                      obtain ⟨a4, b4, o4, c4, rfl, HC4⟩ := Row.op HO.out.row
                      by_cases hbig : 1114111 < S2
                      case pos =>
                        rw [if_pos (.inl (by unfold scB; simp; omega))] at hv
                        obtain rfl := hv
                        go_wp2_with (first | (go_at_call 13; refine (HVA.out _).mono ?_; rintro e w2 ⟨rfl, hw⟩; obtain rfl := hw.symm) | (go_at_call 26; refine (HE.out _).mono ?_; rintro e w2 ⟨rfl, hw⟩; obtain rfl := hw.symm) | (go_at_call 17; refine (HAD.out _).mono ?_; rintro e w2 ⟨rfl, hw⟩; obtain rfl := hw.symm))
                        go_ret2
                        exact ⟨_, rfl, Own.nil _ _ _, hb⟩
                      case neg =>
                        have hw32 : IntKind.i32.wrap S2 = S2 := IntWalk.i32_in _ (by omega)
                        have hIS := fun wx => ris_any S2 wx
                        obtain ⟨o, ho⟩ : ∃ o, scB S2 = o := ⟨_, rfl⟩
                        rw [ho] at hv hIS
                        have HIS := Lib.hid hIS
                        clear hIS ho
                        cases o with
                        | false =>
                          rw [if_pos (.inl rfl)] at hv
                          obtain rfl := hv
                          go_wp2_with (first | (go_at_call 13; refine (HVA.out _).mono ?_; rintro e w2 ⟨rfl, hw⟩; obtain rfl := hw.symm) | (go_at_call 26; refine (HE.out _).mono ?_; rintro e w2 ⟨rfl, hw⟩; obtain rfl := hw.symm) | (go_at_call 17; refine (HAD.out _).mono ?_; rintro e w2 ⟨rfl, hw⟩; obtain rfl := hw.symm) | (go_at_call 27; refine (HIS.out _).mono ?_; rintro e w2 ⟨rfl, hw⟩; obtain rfl := hw))
                          go_ret2
                          exact ⟨_, rfl, Own.nil _ _ _, hb⟩
                        | true =>
                          by_cases hmany : 1000 < m1
                          case pos =>
                            rw [if_pos (.inr (by omega))] at hv
                            obtain rfl := hv
                            go_wp2_with (first | (go_at_call 13; refine (HVA.out _).mono ?_; rintro e w2 ⟨rfl, hw⟩; obtain rfl := hw.symm) | (go_at_call 26; refine (HE.out _).mono ?_; rintro e w2 ⟨rfl, hw⟩; obtain rfl := hw.symm) | (go_at_call 17; refine (HAD.out _).mono ?_; rintro e w2 ⟨rfl, hw⟩; obtain rfl := hw.symm) | (go_at_call 27; refine (HIS.out _).mono ?_; rintro e w2 ⟨rfl, hw⟩; obtain rfl := hw))
                            go_ret2
                            exact ⟨_, rfl, Own.nil _ _ _, hb⟩
                          case neg =>
                            rw [if_neg (by simp; omega)] at hv
                            obtain ⟨p2, hp2⟩ : ∃ p2 : Nat, An % m1 = p2 := ⟨(An % m1).toNat, by omega⟩
                            rw [hp2, Int.toNat_natCast] at hv
                            have hlen2 : (t.take p2 ++ S2 :: t.drop p2).length = t.length + 1 := by simp; omega
                            have HL2L := Lib.hid hlen2
                            have HV2 := Lib.hid hv
                            clear hlen2 hv
                            go_wp2_with (first | (go_at_call 13; refine (HVA.out _).mono ?_; rintro e w2 ⟨rfl, hw⟩; obtain rfl := hw.symm) | (go_at_call 26; refine (HE.out _).mono ?_; rintro e w2 ⟨rfl, hw⟩; obtain rfl := hw.symm) | (go_at_call 17; refine (HAD.out _).mono ?_; rintro e w2 ⟨rfl, hw⟩; obtain rfl := hw.symm) | (go_at_call 27; refine (HIS.out _).mono ?_; rintro e w2 ⟨rfl, hw⟩; obtain rfl := hw))
                            have hp3 : p2 ≤ t.length := by omega
                            have hp4 : (p2 : Int) ≤ (t.length : Int) := by omega
                            have hB0 := Nat.le_trans hb.size (Nat.le_refl _)
                            have htk : Hid ((ints .i32 (t.take p2)).length ≤ 10000 ∧ (ints .i32 (t.drop p2)).length ≤ 10000) := by
                              refine ⟨?_, ?_⟩
                              · rw [ints_length, List.length_take]; omega
                              · rw [ints_length, List.length_drop]; omega
                            have HZ : Hid ([] ++ ints .i32 (t.take p2) ++ ints .i32 [S2] ++ ints .i32 (t.drop p2) = ints .i32 (t.take p2 ++ S2 :: t.drop p2)) := by show _ = _; simp [ints]
                            have HLB : Hid (([] : List Value).length + (ints .i32 (t.take p2)).length ≤ 1000000000 ∧ ([] ++ ints .i32 (t.take p2)).length + (ints .i32 [S2]).length ≤ 1000000000 ∧ ([] ++ ints .i32 (t.take p2) ++ ints .i32 [S2]).length + (ints .i32 (t.drop p2)).length ≤ 1000000000) := by
                              have := htk.out
                              have e1 : (ints .i32 [S2]).length = 1 := rfl
                              refine ⟨?_, ?_, ?_⟩ <;> simp only [List.nil_append, List.length_append, List.length_nil, e1] <;> omega
                            have HL2 : Hid (Below wr.heap.size wr ((wr.alloc (.cells #[.int .i32 S2] 21)).drew) ∧ Row ((wr.alloc (.cells #[.int .i32 S2] 21)).drew) (.slice (some ⟨wr.heap.size, 0, none⟩) 1 1) (ints .i32 [S2])) := ⟨(below_alloc wr _).drew, (Row.ilit (k := .i32) [S2] [_] rfl (by simp)).drew⟩
                            have hrow := HO.out.row
                            have R1 := Row.sub hrow a4 c4 (by rw [ints_length]) 0 p2 (Nat.zero_le _) (by rw [ints_length]; exact hp3)
                            have R3 := Row.sub hrow a4 c4 (by rw [ints_length]) p2 t.length hp3 (by rw [ints_length]; exact Nat.le_refl _)
                            rw [List.drop_zero, ints_take] at R1
                            rw [show (ints .i32 t).take t.length = ints .i32 t from List.take_of_length_le (by rw [ints_length]; exact Nat.le_refl _), ints_drop] at R3
                            have hD := (Below.refl wr.heap.size wr).drew
                            have HR := Lib.hid (And.intro R1 R3)
                            obtain ⟨S1, hS1⟩ : ∃ S1, sliced a4 0 p2 c4 1 = S1 := ⟨_, rfl⟩
                            obtain ⟨S3, hS3⟩ : ∃ S3, sliced a4 p2 t.length c4 1 = S3 := ⟨_, rfl⟩
                            rw [hS1, hS3] at HR
                            have hcc : t.length ≤ c4 := by
                              obtain ⟨_, _, _, _, hv9, hc9, _⟩ := hrow
                              simp only [Value.slice.injEq] at hv9
                              obtain ⟨_, h8, rfl⟩ := hv9
                              omega
                            have HC9 : Hid ((0 : Int) ≤ (p2 : Int) ∧ (p2 : Int) ≤ (c4 : Int) ∧ (p2 : Int) ≤ (t.length : Int)) := ⟨by omega, by omega, by omega⟩
                            clear hrow R1 R3
                            refine wp_region_held_drew (S := fun _ => True) (by kernel_rfl) trivial (fun hHeld => ?_)
                            refine wpAnyH_take (i := 0) (v := .slice none 0 0) rfl (by kernel_rfl) (by kernel_rfl) (by kernel_rfl) (fun _ _ _ h => h) (Or.inl ⟨by rfl, fun _ _ => by go_simp⟩) hHeld ?_
                            simp only [Act.put, List.getElem_toArray, List.getElem_cons_zero, List.setIfInBounds_toArray, List.set_cons_zero, List.set_cons_succ]
                            refine wpAnyH_take (i := 1) (v := .slice a4 t.length c4) rfl (by kernel_rfl) (by kernel_rfl) (by kernel_rfl) (fun _ _ _ h => h) (Or.inl ⟨by rfl, fun _ _ => by go_simp⟩) hHeld ?_
                            simp only [Act.put, List.getElem_toArray, List.getElem_cons_succ, List.getElem_cons_zero, List.setIfInBounds_toArray, List.set_cons_zero, List.set_cons_succ]
                            refine wpAnyH_take (i := 2) (v := .int .i64 p2) rfl (by kernel_rfl) (by kernel_rfl) (by kernel_rfl) (fun _ _ _ h => h) (Or.inl ⟨by rfl, fun _ _ => by go_simp⟩) hHeld ?_
                            simp only [Act.put, List.getElem_toArray, List.getElem_cons_succ, List.getElem_cons_zero, List.setIfInBounds_toArray, List.set_cons_zero, List.set_cons_succ]
                            refine wpAnyH_take (i := 3) (v := S1) rfl (by kernel_rfl) (by kernel_rfl) (by kernel_rfl) (fun _ _ _ h => h) (Or.inl ⟨by rfl, fun w _ => by rw [← hS1]; exact exec_slH slT_i32 rfl rfl rfl HC9.out.1 HC9.out.2.1 w⟩) hHeld ?_
                            simp only [Act.put, List.getElem_toArray, List.getElem_cons_succ, List.getElem_cons_zero, List.setIfInBounds_toArray, List.set_cons_zero, List.set_cons_succ]
                            refine wpAnyH_take (i := 5) (v := .int .i64 S2) rfl (by kernel_rfl) (by kernel_rfl) (by kernel_rfl) (fun _ _ _ h => h) (Or.inl ⟨by rfl, fun _ _ => by go_simp⟩) hHeld ?_
                            simp only [Act.put, List.getElem_toArray, List.getElem_cons_succ, List.getElem_cons_zero, List.setIfInBounds_toArray, List.set_cons_zero, List.set_cons_succ]
                            refine wpAnyH_take (i := 6) (v := .int .i32 S2) rfl (by kernel_rfl) (by kernel_rfl) (by kernel_rfl) (fun _ _ _ h => h) (Or.inl ⟨by rfl, fun _ _ => by go_simp⟩) hHeld ?_
                            simp only [Act.put, List.getElem_toArray, List.getElem_cons_succ, List.getElem_cons_zero, List.setIfInBounds_toArray, List.set_cons_zero, List.set_cons_succ]
                            refine wpAnyH_take (i := 9) (v := .slice a4 t.length c4) rfl (by kernel_rfl) (by kernel_rfl) (by kernel_rfl) (fun _ _ _ h => h) (Or.inl ⟨by rfl, fun _ _ => by go_simp⟩) hHeld ?_
                            simp only [Act.put, List.getElem_toArray, List.getElem_cons_succ, List.getElem_cons_zero, List.setIfInBounds_toArray, List.set_cons_zero, List.set_cons_succ]
                            refine wpAnyH_take (i := 10) (v := .int .i64 p2) rfl (by kernel_rfl) (by kernel_rfl) (by kernel_rfl) (fun _ _ _ h => h) (Or.inl ⟨by rfl, fun _ _ => by go_simp⟩) hHeld ?_
                            simp only [Act.put, List.getElem_toArray, List.getElem_cons_succ, List.getElem_cons_zero, List.setIfInBounds_toArray, List.set_cons_zero, List.set_cons_succ]
                            refine wpAnyH_take (i := 11) (v := S3) rfl (by kernel_rfl) (by kernel_rfl) (by kernel_rfl) (fun _ _ _ h => h) (Or.inl ⟨by rfl, fun w _ => by rw [← hS3]; exact exec_slL slT_i32 rfl rfl rfl HC9.out.1 HC9.out.2.2 w⟩) hHeld ?_
                            simp only [Act.put, List.getElem_toArray, List.getElem_cons_succ, List.getElem_cons_zero, List.setIfInBounds_toArray, List.set_cons_zero, List.set_cons_succ]
                            refine wpAnyH_ready (rs := [4, 7]) (by kernel_rfl) (by simp) ?_
                            refine AllReadyH.cons rfl (fun K hK => ?_) (AllReadyH.cons rfl (fun K hK => ?_) AllReadyH.nil)
                            case' refine_1 =>
                              dsimp only [List.getElem_toArray, List.getElem_cons_succ, List.getElem_cons_zero]
                              (rw [if_pos (by rfl)]; refine wp_app slT_i32 wr.heap.size _ _ (by rfl) (by rfl) (by rfl) (Own.nil _ _ _) (HR.out.1.below hD) HLB.out.1 (Nat.le_refl _) ?_; intro t3 w3 ho3 hg3; have hb3 : Below wr.heap.size wr w3 := below_own hD (Own.nil wr.heap.size 21 wr.drew) hg3 (Nat.le_refl _) (Nat.le_refl _))
                              refine hK.out _ _ trivial (fun hHeld => ?_)
                              clear hK K
                              refine wpAnyH_ready (rs := [7]) (by kernel_rfl) (by simp) ?_
                              refine AllReadyH.cons rfl (fun K hK => ?_) AllReadyH.nil
                              simp only [Act.put, List.getElem_toArray, List.getElem_cons_succ, List.getElem_cons_zero, List.setIfInBounds_toArray, List.set_cons_zero, List.set_cons_succ]
                              go_simp
                              refine hK.out _ _ trivial (fun hHeld => ?_)
                              clear hK K
                              refine wpAnyH_ready (rs := [8]) (by kernel_rfl) (by simp) ?_
                              refine AllReadyH.cons rfl (fun K hK => ?_) AllReadyH.nil
                              dsimp only [List.getElem_toArray, List.getElem_cons_succ, List.getElem_cons_zero]
                              (rw [if_pos (by rfl)]; refine wp_app slT_i32 wr.heap.size _ _ (by rfl) (by rfl) (by rfl) (ho3.alloc _) (Row.ilit (k := .i32) [S2] [_] rfl (by simp)) HLB.out.2.1 (by have := hb3.size; simp; omega) ?_; intro t5 w5 ho5 hg5; have hb5 : Below wr.heap.size wr w5 := below_own (hb3.alloc hb3.size _) (ho3.alloc _) hg5 (by have := hb3.size; simp; omega) (Nat.le_refl _))
                              refine hK.out _ _ trivial (fun hHeld => ?_)
                              clear hK K
                            case' refine_2 =>
                              simp only [Act.put, List.getElem_toArray, List.getElem_cons_succ, List.getElem_cons_zero, List.setIfInBounds_toArray, List.set_cons_zero, List.set_cons_succ]
                              go_simp
                              refine hK.out _ _ trivial (fun hHeld => ?_)
                              clear hK K
                              refine wpAnyH_ready (rs := [4]) (by kernel_rfl) (by simp) ?_
                              refine AllReadyH.cons rfl (fun K hK => ?_) AllReadyH.nil
                              dsimp only [List.getElem_toArray, List.getElem_cons_succ, List.getElem_cons_zero]
                              (rw [if_pos (by rfl)]; refine wp_app slT_i32 wr.heap.size _ _ (by rfl) (by rfl) (by rfl) (Own.nil _ _ _) (HR.out.1.below HL2.out.1) HLB.out.1 HL2.out.1.size ?_; intro t3 w3 ho3 hg3; have hb3' := below_own (Below.refl _ _) (Own.nil ((wr.alloc (.cells #[.int .i32 S2] 21)).drew).heap.size 21 ((wr.alloc (.cells #[.int .i32 S2] 21)).drew)) hg3 (Nat.le_refl _) (Nat.le_refl _); have hl3 := HL2.out.2.below hb3'; have hb3 : Below wr.heap.size wr w3 := below_trans HL2.out.1 hb3')
                              refine hK.out _ _ trivial (fun hHeld => ?_)
                              clear hK K
                              refine wpAnyH_ready (rs := [8]) (by kernel_rfl) (by simp) ?_
                              refine AllReadyH.cons rfl (fun K hK => ?_) AllReadyH.nil
                              dsimp only [List.getElem_toArray, List.getElem_cons_succ, List.getElem_cons_zero]
                              (rw [if_pos (by rfl)]; refine wp_app slT_i32 wr.heap.size _ _ (by rfl) (by rfl) (by rfl) ho3 hl3 HLB.out.2.1 hb3.size ?_; intro t5 w5 ho5 hg5; have hb5 : Below wr.heap.size wr w5 := below_own hb3 ho3 hg5 hb3.size (Nat.le_refl _))
                              refine hK.out _ _ trivial (fun hHeld => ?_)
                              clear hK K
                            all_goals
                              refine wpAnyH_ready (rs := [12]) (by kernel_rfl) (by simp) ?_
                              refine AllReadyH.cons rfl (fun K hK => ?_) AllReadyH.nil
                              dsimp only [List.getElem_toArray, List.getElem_cons_succ, List.getElem_cons_zero]
                              (rw [if_pos (by rfl)]; refine wp_app slT_i32 wr.heap.size _ _ (by rfl) (by rfl) (by rfl) ho5 (HR.out.2.below hb5) HLB.out.2.2 hb5.size ?_; intro t7 w7 ho7 hg7; have hb7 : Below wr.heap.size wr w7 := below_own hb5 ho5 hg7 hb5.size (Nat.le_refl _))
                              refine hK.out _ _ trivial (fun hHeld => ?_)
                              clear hK K
                              refine wpAnyH_take (i := 13) (v := t7) rfl (by kernel_rfl) (by kernel_rfl) (by kernel_rfl) (fun _ _ _ h => h) (Or.inl ⟨by rfl, fun _ _ => by go_simp⟩) hHeld ?_
                              simp only [Act.put, List.getElem_toArray, List.getElem_cons_succ, List.getElem_cons_zero, List.setIfInBounds_toArray, List.set_cons_zero, List.set_cons_succ]
                              refine wpAnyH_done (by kernel_rfl) ?_ _
                              rw [HZ.out] at ho7
                              have hb8 := below_trans hb hb7
                              have ho8 := Own.mono ho7 hb.size
                              have hf9 : xs.length ≤ j + 1 + f := by have := HF.out; omega
                              clear ho7 hb7 hD HR HC9 htk HZ HLB HL2
                              go_wp2
                              go_roundw
                              case rel => exact ⟨j + 1, p2 + 1, f, b2, t.take p2 ++ S2 :: t.drop p2, S2, by go_num, by go_num, rfl, rfl, by omega, ho8, hf9, by rw [HL2L.out]; omega, by rw [HL2L.out]; omega, by omega, by omega, by omega, HV2.out, hb8⟩
                              case measure => simp [intOf]; omega
end Go.Proofs.Ytfhfhfadebcbfaa
