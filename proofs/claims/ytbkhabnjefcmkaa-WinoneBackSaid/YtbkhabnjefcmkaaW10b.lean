/- Walks: windows-1252, the reference; texts. -/
import Derived.Test.YtbkhabnjefcmkaaW10
namespace Go.Proofs.Ytbkhabnjefcmkaa
open Go.RowKit
set_option maxHeartbeats 400000

set_option maxRecDepth 100000 in
theorem rwSign_any (x : Int) (w : World) (h1 : 0 ≤ x) (h2 : x < 256) :
    Calls Try.prog 28 #[.int .u8 x] w fun e w' => e = .returned (.int .i32 (wsign x)) ∧ Below w.heap.size w w' := by
  by_cases ha : x < 128 ∨ 160 ≤ x
  · rw [show wsign x = x by rw [wsign, if_pos ha]]
    rcases ha with ha | ha
    · go_enter Try.func28, Try.ntmps28
      go_wp2
      go_ret
      exact ⟨rfl, Below.refl _ _⟩
    · have hg : ¬ x < 128 := by omega
      have hg' : (159 : Int) < x := by omega
      go_enter Try.func28, Try.ntmps28
      go_wp2
      go_ret
      exact ⟨rfl, Below.refl _ _⟩
  · obtain ⟨i, rfl⟩ : ∃ i : Nat, x = 128 + (i : Int) := ⟨(x - 128).toNat, by omega⟩
    have hi : i < 32 := by omega
    have hw : wsign (128 + (i : Int)) = othersR.getD i 0 := by rw [wsign, if_neg ha, show (128 + (i : Int) - 128).toNat = i by omega]
    rw [hw]
    obtain ⟨y, hy⟩ : ∃ y, othersR[i]? = some y := ⟨_, List.getElem?_eq_getElem hi⟩
    rw [show othersR.getD i 0 = y by simp [List.getD, hy]]
    have HY := Lib.hid hy
    have hk : 128 + (i : Int) - 128 = i := by omega
    clear hw hy
    have h1' : ¬ (128 + (i : Int)) < 128 := by omega
    have h2' : ¬ (159 : Int) < 128 + (i : Int) := by omega
    clear ha
    have hc : (ints .i32 othersR)[i]? = some (.int .i32 y) := by rw [ints_get, HY.out]; rfl
    go_enter Try.func28, Try.ntmps28
    go_wp2_with (refine wpList_bslice rfl _ _ _ rfl (ints .i32 othersR) 21 32 (by rfl) (by kernel_rfl) ?_)
    go_wp2
    go_ret
    exact ⟨rfl, below_alloc _ _⟩

set_option maxRecDepth 100000 in
theorem rwPut_any (c : Int) (w : World) (_h1 : -2147483648 ≤ c) (_h2 : c ≤ 2147483647) :
    Calls Try.prog 25 #[.int .i32 c] w fun e w' => e = .returned (.tuple #[.int .u8 (wput c).1, .bool (wput c).2]) ∧ Below w.heap.size w w' := by
  go_enter Try.func25, Try.ntmps25
  go_wp2
  go_loopw [4] (fun i wr => ∃ k : Nat, i = .int .i64 k ∧ k ≤ 256 ∧ Hid (∀ n : Nat, n < k → wsign n ≠ c ∨ c = 65533) ∧ Below w.heap.size w wr) (fun i _ => 256 - (intOf i).toNat)
  case atStart => exact ⟨0, rfl, by omega, fun n hn => by omega, Below.refl _ _⟩
  case round =>
    obtain ⟨k, rfl, hk, HP, hb⟩ := hrel
    by_cases hlt : k < 256
    · by_cases hs : wsign k = c
      · by_cases hc : c = 65533
        · have hs' : (wsign k == c) = true := by simpa using hs
          have hc' : (c != 65533) = false := by simpa using hc
          have HS := Lib.hid hs; have HC := Lib.hid hc; clear hs hc
          go_wp2_with (go_at_call 28; refine (rwSign_any _ _ (by omega) (by omega)).mono ?_; rintro e w' ⟨rfl, hb1⟩)
          go_roundw
          case rel => exact ⟨k + 1, by go_num, by omega, fun n hn => .inr HC.out, below_trans hb hb1⟩
          case measure => simp [intOf]; omega
        · have hs' : (wsign k == c) = true := by simpa using hs
          have hc' : (c != 65533) = true := by simpa using hc
          have HF := Lib.hid (wput_found hlt hs hc)
          clear hs hc
          go_wp2_with (go_at_call 28; refine (rwSign_any _ _ (by omega) (by omega)).mono ?_; rintro e w' ⟨rfl, hb1⟩)
          go_ret2
          exact ⟨by rw [HF.out]; rfl, below_trans hb hb1⟩
      · have hs' : (wsign k == c) = false := by simpa using hs
        have HS := Lib.hid hs; clear hs
        go_wp2_with (go_at_call 28; refine (rwSign_any _ _ (by omega) (by omega)).mono ?_; rintro e w' ⟨rfl, hb1⟩)
        go_roundw
        case rel => exact ⟨k + 1, by go_num, by omega, fun n hn => (by
          rcases (by omega : n < k ∨ n = k) with h | rfl
          · exact HP.out n h
          · exact .inl HS.out), below_trans hb hb1⟩
        case measure => simp [intOf]; omega
    · obtain rfl : k = 256 := by omega
      have HF := Lib.hid (wput_none HP.out)
      go_wp2
      go_ret2
      exact ⟨by rw [HF.out]; rfl, hb⟩

/-- The first sign that the charset has not. -/
def wlacks (xs : List Int) : Int := idx (fun c => !(wput c).2) xs
theorem wlacks_at {xs : List Int} {k : Nat} {x : Int} (h : ∀ y ∈ xs.take k, (wput y).2 = true) (hx : xs[k]? = some x) (hp : (wput x).2 = false) : wlacks xs = k :=
  idx_at (fun y hy => by simp [h y hy]) hx (by simp [hp])
theorem wlacks_none {xs : List Int} (h : ∀ y ∈ xs, (wput y).2 = true) : wlacks xs = -1 := idx_none (fun y hy => by simp [h y hy])
def lackp (xs : List Int) (k : Nat) : Prop := ∀ y ∈ xs.take k, (wput y).2 = true
theorem lackp_0 (xs : List Int) : lackp xs 0 := fun y hy => by simp at hy
theorem lackp_succ {xs : List Int} {k : Nat} {x : Int} (h : lackp xs k) (hx : xs[k]? = some x) (hp : (wput x).2 = true) : lackp xs (k + 1) := take_succ_all h hx hp
theorem lackp_all {xs : List Int} {k : Nat} (h : lackp xs k) (hk : xs.length ≤ k) : wlacks xs = -1 := wlacks_none (fun y hy => h y (by rw [List.take_of_length_le hk]; exact hy))
theorem WF.get {k : IntKind} {xs : List Int} (h : WF k xs) {i : Nat} {x : Int} (hx : xs[i]? = some x) : (Lit.int k x).wf = true := h x (List.mem_of_getElem? hx)
theorem wLacks_any (v : Value) (xs : List Int) (w : World) (h : Row w v (ints .i32 xs)) (hr : WF .i32 xs) (hl : xs.length ≤ 1000000000) :
    Calls Try.prog 42 #[v] w fun e w' => e = .returned (.int .i64 (wlacks xs)) ∧ Below w.heap.size w w' := by
  obtain ⟨a, b, off, cap, rfl, HC⟩ := h.op
  clear h
  go_enter Try.func42, Try.ntmps42
  go_wp2
  go_loopw [7] (fun i wr => ∃ k : Nat, i = .int .i64 k ∧ k ≤ xs.length ∧ lackp xs k ∧ Below w.heap.size w wr) (fun i _ => xs.length - (intOf i).toNat)
  case atStart => exact ⟨0, rfl, by omega, lackp_0 _, Below.refl _ _⟩
  case round =>
    obtain ⟨k, rfl, hk, HP, hb⟩ := hrel
    by_cases hlt : k < xs.length
    · obtain ⟨x, HX, rfl, hc⟩ := HC.out k hlt
      replace hc := hc wr hb
      have hxr := wf_i32 (hr.get HX.out)
      by_cases hs : (wput x).2 = true
      · go_wp2_with (go_at_call 26; refine (wHas_any _ _ hxr.1 hxr.2).mono ?_; rintro e w' ⟨rfl, hb1⟩)
        go_roundw
        case rel => exact ⟨k + 1, by go_num, by omega, lackp_succ HP HX.out hs, below_trans hb hb1⟩
        case measure => simp [intOf]; omega
      · replace hs : (wput x).2 = false := by simpa using hs
        have HF := Lib.hid (wlacks_at HP HX.out hs)
        go_wp2_with (go_at_call 26; refine (wHas_any _ _ hxr.1 hxr.2).mono ?_; rintro e w' ⟨rfl, hb1⟩)
        go_ret
        exact ⟨ret_int (by rw [HF.out]), below_trans hb hb1⟩
    · have HF := Lib.hid (lackp_all HP (by omega))
      go_wp2
      go_ret
      exact ⟨ret_int (by rw [HF.out]), hb⟩
theorem rwLacks_any (v : Value) (xs : List Int) (w : World) (h : Row w v (ints .i32 xs)) (hr : WF .i32 xs) (hl : xs.length ≤ 1000000000) :
    Calls Try.prog 43 #[v] w fun e w' => e = .returned (.int .i64 (wlacks xs)) ∧ Below w.heap.size w w' := by
  obtain ⟨a, b, off, cap, rfl, HC⟩ := h.op
  clear h
  go_enter Try.func43, Try.ntmps43
  go_wp2
  go_loopw [3] (fun i wr => ∃ k : Nat, i = .int .i64 k ∧ k ≤ xs.length ∧ lackp xs k ∧ Below w.heap.size w wr) (fun i _ => xs.length - (intOf i).toNat)
  case atStart => exact ⟨0, rfl, by omega, lackp_0 _, Below.refl _ _⟩
  case round =>
    obtain ⟨k, rfl, hk, HP, hb⟩ := hrel
    by_cases hlt : k < xs.length
    · obtain ⟨x, HX, rfl, hc⟩ := HC.out k hlt
      replace hc := hc wr hb
      have hxr := wf_i32 (hr.get HX.out)
      by_cases hs : (wput x).2 = true
      · go_wp2_with (go_at_call 25; refine (rwPut_any _ _ hxr.1 hxr.2).mono ?_; rintro e w' ⟨rfl, hb1⟩)
        go_roundw
        case rel => exact ⟨k + 1, by go_num, by omega, lackp_succ HP HX.out hs, below_trans hb hb1⟩
        case measure => simp [intOf]; omega
      · replace hs : (wput x).2 = false := by simpa using hs
        have HF := Lib.hid (wlacks_at HP HX.out hs)
        go_wp2_with (go_at_call 25; refine (rwPut_any _ _ hxr.1 hxr.2).mono ?_; rintro e w' ⟨rfl, hb1⟩)
        go_ret
        exact ⟨ret_int (by rw [HF.out]), below_trans hb hb1⟩
    · have HF := Lib.hid (lackp_all HP (by omega))
      go_wp2
      go_ret
      exact ⟨ret_int (by rw [HF.out]), hb⟩

/-- A text laid: its octets, or the error. -/
def wlayR (xs : List Int) : List Int × Int := if wlacks xs < 0 then (xs.map fun c => (wput c).1, 0) else ([], 9)
def wlayL (xs : List Int) : List Int := xs.map fun c => (wput c).1
theorem wlayL_snoc {xs : List Int} {k : Nat} {x : Int} (h : xs[k]? = some x) : wlayL (xs.take (k + 1)) = wlayL (xs.take k) ++ [(wput x).1] := by
  simp [wlayL, List.take_add_one, h]
theorem wlayL_len (xs : List Int) : (wlayL xs).length = xs.length := by simp [wlayL]
theorem wLay_any (v : Value) (xs : List Int) (w : World) (h : Row w v (ints .i32 xs)) (hr : WF .i32 xs) (hl : xs.length ≤ 1000000) :
    Calls Try.prog 40 #[v] w fun e w' => ∃ t, e = .returned (.tuple #[t, .int .i64 (wlayR xs).2]) ∧ Own w.heap.size 5 w' t (ints .u8 (wlayR xs).1) ∧ Below w.heap.size w w' := by
  have hL := fun w' h' => wLacks_any v xs w' h' hr (by omega)
  obtain ⟨q, HQ⟩ : ∃ q, Hid (wlacks xs = q) := ⟨_, rfl⟩
  rw [HQ.out] at hL
  have HL := Lib.hid hL; clear hL
  obtain ⟨a, b, off, cap, rfl, HC⟩ := id h.op
  by_cases hq : q < 0
  · rw [show wlayR xs = (wlayL xs, 0) by rw [wlayR, HQ.out, if_pos hq]; rfl]
    have hq' : ¬ 0 ≤ q := by omega
    go_enter Try.func40, Try.ntmps40
    go_wp2_with (first | (go_at_call 42; refine (HL.out _ h).mono ?_; rintro e w1 ⟨rfl, hb1⟩) | (at_make; refine wpList_mk slT_u8 w.heap.size _ _ rfl rfl rfl rfl (by omega) hb1.size ?_; intro v2 w2 hown2 hb2))
    have hb := below_trans hb1 hb2
    clear hb1 hb2 hq hq' h
    go_loopw [4, 17] (fun u i wr => ∃ k : Nat, i = .int .i64 k ∧ k ≤ xs.length ∧ Own w.heap.size 5 wr u (ints .u8 (wlayL (xs.take k))) ∧ Below w.heap.size w wr) (fun _ i _ => xs.length - (intOf i).toNat)
    case atStart => exact ⟨0, rfl, Nat.zero_le _, hown2, hb⟩
    case round =>
      clear hown2 hb
      obtain ⟨k, rfl, hk, hown, hb⟩ := hrel
      by_cases hlt : k < xs.length
      · obtain ⟨x, HX, rfl, hc⟩ := HC.out k hlt
        replace hc := hc wr hb
        have hxr := wf_i32 (hr.get HX.out)
        have HU := Lib.hid (wlayL_snoc HX.out)
        have HLb : Hid ((ints .u8 (wlayL (xs.take k))).length + (ints .u8 [(wput x).1]).length ≤ 1000000000) := by
          have h1 := wlayL_len (xs.take k); rw [List.length_take] at h1; show _ ≤ _; simp only [ints_length, List.length_cons, List.length_nil]; omega
        go_wp2_with (first | (go_at_call 24; refine (wPut_any _ _ hxr.1 hxr.2).mono ?_; rintro e w1 ⟨rfl, hb1⟩) | (at_builtin; refine wpList_app slT_u8 _ _ _ rfl rfl rfl rfl ((hown.below hb1).alloc _) (Row.ilit [_] [_] rfl (by simp)) HLb.out (by have := below_size2 hb hb1; simp; omega) ?_; intro t2 w2 hown2 hg2))
        go_roundw
        case rel => exact ⟨k + 1, by go_num, by omega, by rw [HU.out, ints_append]; exact hown2, below_app hb (hb1.alloc hb1.size _) ((hown.below hb1).alloc _) hg2⟩
        case measure => simp [intOf]; omega
      · go_wp2
        go_ret2
        rw [List.take_of_length_le (by omega)] at hown
        exact ⟨_, rfl, hown, hb⟩
  · rw [show wlayR xs = ([], 9) by rw [wlayR, HQ.out, if_neg hq]]
    have hq' : 0 ≤ q := by omega
    go_enter Try.func40, Try.ntmps40
    go_wp2_with (first | (go_at_call 42; refine (HL.out _ h).mono ?_; rintro e w1 ⟨rfl, hb1⟩))
    go_ret2
    exact ⟨_, rfl, Own.nil _ _ _, hb1⟩
theorem rwLay_any (v : Value) (xs : List Int) (w : World) (h : Row w v (ints .i32 xs)) (hr : WF .i32 xs) (hl : xs.length ≤ 1000000) :
    Calls Try.prog 41 #[v] w fun e w' => ∃ t, e = .returned (.tuple #[t, .int .i64 (wlayR xs).2]) ∧ Own w.heap.size 5 w' t (ints .u8 (wlayR xs).1) ∧ Below w.heap.size w w' := by
  have hL := fun w' h' => rwLacks_any v xs w' h' hr (by omega)
  obtain ⟨q, HQ⟩ : ∃ q, Hid (wlacks xs = q) := ⟨_, rfl⟩
  rw [HQ.out] at hL
  have HL := Lib.hid hL; clear hL
  obtain ⟨a, b, off, cap, rfl, HC⟩ := id h.op
  by_cases hq : q < 0
  · rw [show wlayR xs = (wlayL xs, 0) by rw [wlayR, HQ.out, if_pos hq]; rfl]
    have hq' : ¬ 0 ≤ q := by omega
    go_enter Try.func41, Try.ntmps41
    go_wp2_with (first | (go_at_call 43; refine (HL.out _ h).mono ?_; rintro e w1 ⟨rfl, hb⟩))
    clear hq hq' h
    go_loopw [4, 5] (fun u i wr => ∃ k : Nat, i = .int .i64 k ∧ k ≤ xs.length ∧ Own w.heap.size 5 wr u (ints .u8 (wlayL (xs.take k))) ∧ Below w.heap.size w wr) (fun _ i _ => xs.length - (intOf i).toNat)
    case atStart => exact ⟨0, rfl, Nat.zero_le _, Own.nil _ _ _, hb⟩
    case round =>
      clear hb
      obtain ⟨k, rfl, hk, hown, hb⟩ := hrel
      by_cases hlt : k < xs.length
      · obtain ⟨x, HX, rfl, hc⟩ := HC.out k hlt
        replace hc := hc wr hb
        have hxr := wf_i32 (hr.get HX.out)
        have HU := Lib.hid (wlayL_snoc HX.out)
        have HLb : Hid ((ints .u8 (wlayL (xs.take k))).length + (ints .u8 [(wput x).1]).length ≤ 1000000000) := by
          have h1 := wlayL_len (xs.take k); rw [List.length_take] at h1; show _ ≤ _; simp only [ints_length, List.length_cons, List.length_nil]; omega
        go_wp2_with (first | (go_at_call 25; refine (rwPut_any _ _ hxr.1 hxr.2).mono ?_; rintro e w1 ⟨rfl, hb1⟩) | (at_builtin; refine wpList_app slT_u8 _ _ _ rfl rfl rfl rfl ((hown.below hb1).alloc _) (Row.ilit [_] [_] rfl (by simp)) HLb.out (by have := below_size2 hb hb1; simp; omega) ?_; intro t2 w2 hown2 hg2))
        go_roundw
        case rel => exact ⟨k + 1, by go_num, by omega, by rw [HU.out, ints_append]; exact hown2, below_app hb (hb1.alloc hb1.size _) ((hown.below hb1).alloc _) hg2⟩
        case measure => simp [intOf]; omega
      · go_wp2
        go_ret2
        rw [List.take_of_length_le (by omega)] at hown
        exact ⟨_, rfl, hown, hb⟩
  · rw [show wlayR xs = ([], 9) by rw [wlayR, HQ.out, if_neg hq]]
    have hq' : 0 ≤ q := by omega
    go_enter Try.func41, Try.ntmps41
    go_wp2_with (first | (go_at_call 43; refine (HL.out _ h).mono ?_; rintro e w1 ⟨rfl, hb1⟩))
    go_ret2
    exact ⟨_, rfl, Own.nil _ _ _, hb1⟩
end Go.Proofs.Ytbkhabnjefcmkaa
