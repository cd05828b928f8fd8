/- Walks: windows-1252. · Walks: windows-1252, the reference; texts. · Walks: repertoires: has a charset a number? · Walks: windows-1252, reading; the statements' own examples. · Walks: UTF-8, one sign. · Walks: UTF-8, putting one sign. (laid together by program out of single texts). -/
import Derived.Test.YtponfaglflmnkaaGreatM2
import Derived.Test.YtponfaglflmnkaaGreatM4
import Derived.Test.YtponfaglflmnkaaGreatM7
import Derived.Test.YtponfaglflmnkaaGreatM12
namespace Go.Proofs.YtponfaglflmnkaaGreat
open Go.RowKit
set_option maxRecDepth 100000
set_option maxHeartbeats 400000

theorem others_any (w : World) : Calls Tryz.prog 102 #[] w fun e w' => ∃ v, e = .returned v ∧ Row w' v (ints .i32 othersL) ∧ Below w.heap.size w w' := by
  go_enter Tryz.func102, Tryz.ntmps102
  go_wp2_with (first | (refine wpList_build rfl _ _ rfl (.agg (ints .i32 othersL).toArray) (by kernel_rfl) ?_) | (refine wpList_store_new rfl _ _ _ _ rfl (ints .i32 othersL) (List.replicate 32 (.int .i32 0)) (by rfl) (by rfl) (by kernel_rfl) (ints_one _ _) (by rfl) ?_))
  go_ret
  exact ⟨_, rfl, Row.ilit othersL (ints .i32 othersL) rfl (by simp [ints, othersL]), below_alloc _ _⟩

theorem indexI_any (v : Value) (xs : List Int) (c : Int) (w : World) (h : Row w v (ints .i32 xs)) (hl : xs.length ≤ 1000000000) :
    Calls Tryz.prog 140 #[v, .int .i32 c] w fun e w' => e = .returned (.int .i64 (idx (fun y => c == y) xs)) ∧ w = w' := by
  obtain ⟨a, b, off, cap, rfl, HC⟩ := h.op
  clear h
  go_enter Tryz.func140, Tryz.ntmps140
  go_wp2
  go_loop [8] (fun i => ∃ k : Nat, k ≤ xs.length ∧ i = .int .i64 k ∧ Hid (∀ y ∈ xs.take k, (c == y) = false)) (fun i => xs.length - (intOf i).toNat)
  case atStart => exact ⟨0, Nat.zero_le _, rfl, fun y hy => by simp at hy⟩
  case round =>
    obtain ⟨k, hk, rfl, hall⟩ := hrel
    by_cases hlt : k < xs.length
    · obtain ⟨x, HX, rfl, hc⟩ := HC.out k hlt
      replace hc := hc w (Below.refl _ _)
      by_cases hs : (c == x) = true
      · go_wp2
        go_ret
        exact ⟨ret_int (by rw [idx_at hall.out HX.out hs]), rfl⟩
      · replace hs : (c == x) = false := by simpa using hs
        go_wp2
        go_round
        case rel => exact ⟨k + 1, by omega, by go_num, take_succ_all hall.out HX.out hs⟩
        case measure => simp [intOf]; omega
    · go_wp2
      go_ret
      exact ⟨ret_int (by rw [idx_none (fun y hy => hall.out y (by rw [List.take_of_length_le (by omega)]; exact hy))]), rfl⟩

theorem wPut_any (c : Int) (w : World) (h1 : -2147483648 ≤ c) (h2 : c ≤ 2147483647) :
    Calls Tryz.prog 132 #[.int .i32 c] w fun e w' => e = .returned (.tuple #[.int .u8 (wput c).1, .bool (wput c).2]) ∧ Below w.heap.size w w' := by
  by_cases ha : (0 ≤ c ∧ c < 128) ∨ (160 ≤ c ∧ c < 256)
  · rw [show wput c = (c, true) by rw [wput, if_pos ha]]
    rcases ha with ha | ha
    · go_enter Tryz.func132, Tryz.ntmps132
      go_wp2
      go_ret2
      exact ⟨rfl, Below.refl _ _⟩
    · go_enter Tryz.func132, Tryz.ntmps132
      go_wp2
      go_ret2
      exact ⟨rfl, Below.refl _ _⟩
  · by_cases hb : c < 256
    · rw [show wput c = (0, false) by rw [wput, if_neg ha, if_pos hb]]
      rcases (by omega : c < 0 ∨ (128 ≤ c ∧ c < 160)) with hc | hc
      · clear ha
        go_enter Tryz.func132, Tryz.ntmps132
        go_wp2
        go_ret2
        exact ⟨rfl, Below.refl _ _⟩
      · clear ha
        go_enter Tryz.func132, Tryz.ntmps132
        go_wp2
        go_ret2
        exact ⟨rfl, Below.refl _ _⟩
    · have hw : wput c = if idx (fun y => c == y) othersL < 0 then (0, false) else (128 + idx (fun y => c == y) othersL, true) := by rw [wput, if_neg ha, if_neg hb]
      rw [hw]
      have hi : idx (fun y => c == y) othersL < 32 := by
        rcases idx_spec (fun y => c == y) othersL with h4 | ⟨i, x, h4, h5, h6⟩
        · omega
        · have : i < 32 := (List.getElem?_eq_some_iff.1 h5).1
          omega
      have hI := fun v w' h' => indexI_any v othersL c w' h' (by simp [othersL])
      obtain ⟨q, hq⟩ : ∃ q, idx (fun y => c == y) othersL = q := ⟨_, rfl⟩
      rw [hq] at hI hi ⊢
      have HI := Lib.hid hI
      clear hI hq hw ha
      by_cases h0 : q < 0
      · rw [if_pos h0]
        go_enter Tryz.func132, Tryz.ntmps132
        go_wp2_with fail
        refine (others_any _).mono ?_
        rintro e w1 ⟨v, rfl, r, hb1⟩
        go_wp2_with fail
        refine (HI.out _ _ r).mono ?_
        rintro e w' ⟨rfl, rfl⟩
        go_wp2
        go_ret2
        exact ⟨rfl, hb1⟩
      · rw [if_neg h0]
        go_enter Tryz.func132, Tryz.ntmps132
        go_wp2_with fail
        refine (others_any _).mono ?_
        rintro e w1 ⟨v, rfl, r, hb1⟩
        go_wp2_with fail
        refine (HI.out _ _ r).mono ?_
        rintro e w' ⟨rfl, rfl⟩
        go_wp2
        go_ret2
        exact ⟨rfl, hb1⟩
theorem wHas_any (c : Int) (w : World) (h1 : -2147483648 ≤ c) (h2 : c ≤ 2147483647) :
    Calls Tryz.prog 139 #[.int .i32 c] w fun e w' => e = .returned (.bool (wput c).2) ∧ Below w.heap.size w w' := by
  go_enter Tryz.func139, Tryz.ntmps139
  go_wp2_with (go_at_call 132; refine (wPut_any _ _ h1 h2).mono ?_; rintro e w' ⟨rfl, hb⟩)
  go_ret
  exact ⟨rfl, hb⟩
theorem wSign_any (x : Int) (w : World) (h1 : 0 ≤ x) (h2 : x < 256) :
    Calls Tryz.prog 77 #[.int .u8 x] w fun e w' => e = .returned (.int .i32 (wsign x)) ∧ Below w.heap.size w w' := by
  by_cases ha : x < 128 ∨ 160 ≤ x
  · rw [show wsign x = x by rw [wsign, if_pos ha]]
    rcases ha with ha | ha
    · go_enter Tryz.func77, Tryz.ntmps77
      go_wp2
      go_ret
      exact ⟨rfl, Below.refl _ _⟩
    · go_enter Tryz.func77, Tryz.ntmps77
      go_wp2
      go_ret
      exact ⟨rfl, Below.refl _ _⟩
  · obtain ⟨i, rfl⟩ : ∃ i : Nat, x = 128 + (i : Int) := ⟨(x - 128).toNat, by omega⟩
    have hi : i < 32 := by omega
    have hs := others_sign ⟨i, hi⟩
    have hw : wsign (128 + (i : Int)) = othersR.getD i 0 := by rw [wsign, if_neg ha, show (128 + (i : Int) - 128).toNat = i by omega]
    rw [hw, hs]
    obtain ⟨y, hy⟩ : ∃ y, othersL[i]? = some y := ⟨_, List.getElem?_eq_getElem hi⟩
    rw [show othersL.getD i 0 = y by simp [List.getD, hy]]
    have HY := Lib.hid hy
    have hk : 128 + (i : Int) - 128 = i := by omega
    clear hs hw hy
    have h1' : ¬ (128 + (i : Int)) < 128 := by omega
    have h2' : ¬ (160 : Int) ≤ 128 + (i : Int) := by omega
    clear ha
    by_cases h0 : y = 0
    · subst h0
      rw [if_pos rfl]
      go_enter Tryz.func77, Tryz.ntmps77
      go_wp2_with fail
      refine (others_any _).mono ?_
      rintro e w1 ⟨v, rfl, r, hb1⟩
      obtain ⟨a, b, off, cap, rfl, HC⟩ := r.op
      obtain ⟨z, HZ, rfl, hc⟩ := HC.out i hi
      obtain rfl : z = 0 := by have := HZ.out; rw [HY.out] at this; exact (Option.some.inj this).symm
      replace hc := hc _ (Below.refl _ _)
      have hlt : i < othersL.length := hi
      go_wp2
      go_ret
      exact ⟨rfl, hb1⟩
    · rw [if_neg h0]
      have hne : (y != 0) = true := by simpa using h0
      clear h0
      go_enter Tryz.func77, Tryz.ntmps77
      go_wp2_with fail
      refine (others_any _).mono ?_
      rintro e w1 ⟨v, rfl, r, hb1⟩
      obtain ⟨a, b, off, cap, rfl, HC⟩ := r.op
      obtain ⟨z, HZ, rfl, hc⟩ := HC.out i hi
      obtain rfl : z = y := by have := HZ.out; rw [HY.out] at this; exact (Option.some.inj this).symm
      replace hc := hc _ (Below.refl _ _)
      have hlt : i < othersL.length := hi
      go_wp2
      go_ret
      exact ⟨rfl, hb1⟩
end Go.Proofs.YtponfaglflmnkaaGreat
namespace Go.Proofs.YtponfaglflmnkaaGreat
open Go.RowKit
set_option maxHeartbeats 400000

set_option maxRecDepth 100000 in
theorem rwSign_any (x : Int) (w : World) (h1 : 0 ≤ x) (h2 : x < 256) :
    Calls Tryz.prog 56 #[.int .u8 x] w fun e w' => e = .returned (.int .i32 (wsign x)) ∧ Below w.heap.size w w' := by
  by_cases ha : x < 128 ∨ 160 ≤ x
  · rw [show wsign x = x by rw [wsign, if_pos ha]]
    rcases ha with ha | ha
    · go_enter Tryz.func56, Tryz.ntmps56
      go_wp2
      go_ret
      exact ⟨rfl, Below.refl _ _⟩
    · have hg : ¬ x < 128 := by omega
      have hg' : (159 : Int) < x := by omega
      go_enter Tryz.func56, Tryz.ntmps56
      go_wp2
      go_ret
      exact ⟨rfl, Below.refl _ _⟩
  · obtain ⟨i, rfl⟩ : ∃ i : Nat, x = 128 + (i : Int) := ⟨(x - 128).toNat, by omega⟩
    have hi : i < 32 := by omega
    have hw : wsign (128 + (i : Int)) = othersR.getD i 0 := by rw [wsign, if_neg ha, show (128 + (i : Int) - 128).toNat = i by omega]
    rw [hw]
    obtain ⟨y, hy⟩ : ∃ y, othersR[i]? = some y := ⟨_, List.getElem?_eq_getElem hi⟩
    rw [show othersR.getD i 0 = y by simp [List.getD, hy]]
    have HY := Lib.hid hy
    have hk : 128 + (i : Int) - 128 = i := by omega
    clear hw hy
    have h1' : ¬ (128 + (i : Int)) < 128 := by omega
    have h2' : ¬ (159 : Int) < 128 + (i : Int) := by omega
    clear ha
    have hc : (ints .i32 othersR)[i]? = some (.int .i32 y) := by rw [ints_get, HY.out]; rfl
    go_enter Tryz.func56, Tryz.ntmps56
    go_wp2_with (refine wpList_bslice rfl _ _ _ rfl (ints .i32 othersR) 21 32 (by rfl) (by kernel_rfl) ?_)
    go_wp2
    go_ret
    exact ⟨rfl, below_alloc _ _⟩

/-- The first sign that the charset has not. -/
def wlacks (xs : List Int) : Int := idx (fun c => !(wput c).2) xs
theorem wlacks_at {xs : List Int} {k : Nat} {x : Int} (h : ∀ y ∈ xs.take k, (wput y).2 = true) (hx : xs[k]? = some x) (hp : (wput x).2 = false) : wlacks xs = k :=
  idx_at (fun y hy => by simp [h y hy]) hx (by simp [hp])
theorem wlacks_none {xs : List Int} (h : ∀ y ∈ xs, (wput y).2 = true) : wlacks xs = -1 := idx_none (fun y hy => by simp [h y hy])
def lackp (xs : List Int) (k : Nat) : Prop := ∀ y ∈ xs.take k, (wput y).2 = true
theorem lackp_0 (xs : List Int) : lackp xs 0 := fun y hy => by simp at hy
theorem lackp_succ {xs : List Int} {k : Nat} {x : Int} (h : lackp xs k) (hx : xs[k]? = some x) (hp : (wput x).2 = true) : lackp xs (k + 1) := take_succ_all h hx hp
theorem lackp_all {xs : List Int} {k : Nat} (h : lackp xs k) (hk : xs.length ≤ k) : wlacks xs = -1 := wlacks_none (fun y hy => h y (by rw [List.take_of_length_le hk]; exact hy))
theorem wLacks_any (v : Value) (xs : List Int) (w : World) (h : Row w v (ints .i32 xs)) (hr : WF .i32 xs) (hl : xs.length ≤ 1000000000) :
    Calls Tryz.prog 131 #[v] w fun e w' => e = .returned (.int .i64 (wlacks xs)) ∧ Below w.heap.size w w' := by
  obtain ⟨a, b, off, cap, rfl, HC⟩ := h.op
  clear h
  go_enter Tryz.func131, Tryz.ntmps131
  go_wp2
  go_loopw [7] (fun i wr => ∃ k : Nat, i = .int .i64 k ∧ k ≤ xs.length ∧ lackp xs k ∧ Below w.heap.size w wr) (fun i _ => xs.length - (intOf i).toNat)
  case atStart => exact ⟨0, rfl, by omega, lackp_0 _, Below.refl _ _⟩
  case round =>
    obtain ⟨k, rfl, hk, HP, hb⟩ := hrel
    by_cases hlt : k < xs.length
    · obtain ⟨x, HX, rfl, hc⟩ := HC.out k hlt
      replace hc := hc wr hb
      have hxr := wf_i32 (hr.get HX.out)
      by_cases hs : (wput x).2 = true
      · go_wp2_with (go_at_call 139; refine (wHas_any _ _ hxr.1 hxr.2).mono ?_; rintro e w' ⟨rfl, hb1⟩)
        go_roundw
        case rel => exact ⟨k + 1, by go_num, by omega, lackp_succ HP HX.out hs, below_trans hb hb1⟩
        case measure => simp [intOf]; omega
      · replace hs : (wput x).2 = false := by simpa using hs
        have HF := Lib.hid (wlacks_at HP HX.out hs)
        go_wp2_with (go_at_call 139; refine (wHas_any _ _ hxr.1 hxr.2).mono ?_; rintro e w' ⟨rfl, hb1⟩)
        go_ret
        exact ⟨ret_int (by rw [HF.out]), below_trans hb hb1⟩
    · have HF := Lib.hid (lackp_all HP (by omega))
      go_wp2
      go_ret
      exact ⟨ret_int (by rw [HF.out]), hb⟩
/-- A text laid: its octets, or the error. -/
def wlayR (xs : List Int) : List Int × Int := if wlacks xs < 0 then (xs.map fun c => (wput c).1, 0) else ([], 9)
def wlayL (xs : List Int) : List Int := xs.map fun c => (wput c).1
theorem wlayL_snoc {xs : List Int} {k : Nat} {x : Int} (h : xs[k]? = some x) : wlayL (xs.take (k + 1)) = wlayL (xs.take k) ++ [(wput x).1] := by
  simp [wlayL, List.take_add_one, h]
theorem wlayL_len (xs : List Int) : (wlayL xs).length = xs.length := by simp [wlayL]
theorem wLay_any (v : Value) (xs : List Int) (w : World) (h : Row w v (ints .i32 xs)) (hr : WF .i32 xs) (hl : xs.length ≤ 1000000) :
    Calls Tryz.prog 117 #[v] w fun e w' => ∃ t, e = .returned (.tuple #[t, .int .i64 (wlayR xs).2]) ∧ Own w.heap.size 5 w' t (ints .u8 (wlayR xs).1) ∧ Below w.heap.size w w' := by
  have hL := fun w' h' => wLacks_any v xs w' h' hr (by omega)
  obtain ⟨q, HQ⟩ : ∃ q, Hid (wlacks xs = q) := ⟨_, rfl⟩
  rw [HQ.out] at hL
  have HL := Lib.hid hL; clear hL
  obtain ⟨a, b, off, cap, rfl, HC⟩ := id h.op
  by_cases hq : q < 0
  · rw [show wlayR xs = (wlayL xs, 0) by rw [wlayR, HQ.out, if_pos hq]; rfl]
    have hq' : ¬ 0 ≤ q := by omega
    go_enter Tryz.func117, Tryz.ntmps117
    go_wp2_with (first | (go_at_call 131; refine (HL.out _ h).mono ?_; rintro e w1 ⟨rfl, hb1⟩) | (at_make; refine wpList_mk slT_u8 w.heap.size _ _ rfl rfl rfl rfl (by omega) hb1.size ?_; intro v2 w2 hown2 hb2))
    have hb := below_trans hb1 hb2
    clear hb1 hb2 hq hq' h
    go_loopw [4, 17] (fun u i wr => ∃ k : Nat, i = .int .i64 k ∧ k ≤ xs.length ∧ Own w.heap.size 5 wr u (ints .u8 (wlayL (xs.take k))) ∧ Below w.heap.size w wr) (fun _ i _ => xs.length - (intOf i).toNat)
    case atStart => exact ⟨0, rfl, Nat.zero_le _, hown2, hb⟩
    case round =>
      clear hown2 hb
      obtain ⟨k, rfl, hk, hown, hb⟩ := hrel
      by_cases hlt : k < xs.length
      · obtain ⟨x, HX, rfl, hc⟩ := HC.out k hlt
        replace hc := hc wr hb
        have hxr := wf_i32 (hr.get HX.out)
        have HU := Lib.hid (wlayL_snoc HX.out)
        have HLb : Hid ((ints .u8 (wlayL (xs.take k))).length + (ints .u8 [(wput x).1]).length ≤ 1000000000) := by
          have h1 := wlayL_len (xs.take k); rw [List.length_take] at h1; show _ ≤ _; simp only [ints_length, List.length_cons, List.length_nil]; omega
        go_wp2_with (first | (go_at_call 132; refine (wPut_any _ _ hxr.1 hxr.2).mono ?_; rintro e w1 ⟨rfl, hb1⟩) | (at_builtin; refine wpList_app slT_u8 _ _ _ rfl rfl rfl rfl ((hown.below hb1).alloc _) (Row.ilit [_] [_] rfl (by simp)) HLb.out (by have := below_size2 hb hb1; simp; omega) ?_; intro t2 w2 hown2 hg2))
        go_roundw
        case rel => exact ⟨k + 1, by go_num, by omega, by rw [HU.out, ints_append]; exact hown2, below_app hb (hb1.alloc hb1.size _) ((hown.below hb1).alloc _) hg2⟩
        case measure => simp [intOf]; omega
      · go_wp2
        go_ret2
        rw [List.take_of_length_le (by omega)] at hown
        exact ⟨_, rfl, hown, hb⟩
  · rw [show wlayR xs = ([], 9) by rw [wlayR, HQ.out, if_neg hq]]
    have hq' : 0 ≤ q := by omega
    go_enter Tryz.func117, Tryz.ntmps117
    go_wp2_with (first | (go_at_call 131; refine (HL.out _ h).mono ?_; rintro e w1 ⟨rfl, hb1⟩))
    go_ret2
    exact ⟨_, rfl, Own.nil _ _ _, hb1⟩
end Go.Proofs.YtponfaglflmnkaaGreat
namespace Go.Proofs.YtponfaglflmnkaaGreat
open Go.RowKit
set_option maxHeartbeats 1000000
/-- An octet, and whether there is one. -/
def PutP (b : Bool) (e : Ending) : Prop := ∃ x, e = .returned (.tuple #[.int .u8 x, .bool b])
theorem PutP.mk {b b' : Bool} {x : Int} (h : b = b') : PutP b (.returned (.tuple #[.int .u8 x, .bool b'])) := ⟨x, by rw [h]⟩
theorem laHas_any (c : Int) (w : World) (h1 : -2147483648 ≤ c) (h2 : c ≤ 2147483647) :
    Calls Tryz.prog 141 #[.int .i32 c] w fun e w' => e = .returned (.bool (oneB c)) ∧ w' = w := by
  have hw : IntKind.u32.wrap c = if c < 0 then c + 4294967296 else c := by simp only [IntKind.wrap_u32]; split <;> omega
  rcases Int.lt_or_le c 0 with hc | hc
  · rw [if_pos hc] at hw
    go_enter Tryz.func141, Tryz.ntmps141
    go_wp2
    go_ret
    exact ⟨ret_bool (by rw [oneB, decide_eq_decide]; omega), rfl⟩
  · rw [if_neg (by omega)] at hw
    go_enter Tryz.func141, Tryz.ntmps141
    go_wp2
    go_ret
    exact ⟨ret_bool (by rw [oneB, decide_eq_decide]; omega), rfl⟩
set_option maxRecDepth 100000 in
theorem rSign9_any (x : Int) (w : World) (h1 : 0 ≤ x) (h2 : x < 256) :
    Calls Tryz.prog 55 #[.int .u8 x] w fun e w' => e = .returned (.int .i32 (sign9 x)) ∧ w' = w := by
  have hw : IntKind.i32.wrap x = x := by rw [IntKind.wrap_i32]; omega
  rcases Decidable.em (x = 164 ∨ x = 166 ∨ x = 168 ∨ x = 180 ∨ x = 184 ∨ x = 188 ∨ x = 189 ∨ x = 190) with h | h
  · rcases h with rfl | rfl | rfl | rfl | rfl | rfl | rfl | rfl
    all_goals
      go_enter Tryz.func55, Tryz.ntmps55
      go_wp2
      go_ret
      exact ⟨rfl, rfl⟩
  · have e : sign9 x = x := by
      rw [sign9, if_neg (by omega), if_neg (by omega), if_neg (by omega), if_neg (by omega), if_neg (by omega), if_neg (by omega), if_neg (by omega), if_neg (by omega)]
    rw [e]
    have e1 : (x == 164) = false := beq_false_of_ne (by omega)
    have e2 : (x == 166) = false := beq_false_of_ne (by omega)
    have e3 : (x == 168) = false := beq_false_of_ne (by omega)
    have e4 : (x == 180) = false := beq_false_of_ne (by omega)
    have e5 : (x == 184) = false := beq_false_of_ne (by omega)
    have e6 : (x == 188) = false := beq_false_of_ne (by omega)
    have e7 : (x == 189) = false := beq_false_of_ne (by omega)
    have e8 : (x == 190) = false := beq_false_of_ne (by omega)
    clear h e
    go_enter Tryz.func55, Tryz.ntmps55
    go_wp2
    go_ret
    exact ⟨ret_int (by first | rfl | exact hw), rfl⟩
end Go.Proofs.YtponfaglflmnkaaGreat
namespace Go.Proofs.YtponfaglflmnkaaGreat
open Go.RowKit
set_option maxHeartbeats 400000

def wreadL (xs : List Int) : List Int := xs.map wsign
theorem wreadL_snoc {xs : List Int} {k : Nat} {x : Int} (h : xs[k]? = some x) : wreadL (xs.take (k + 1)) = wreadL (xs.take k) ++ [wsign x] := by
  simp [wreadL, List.take_add_one, h]
theorem wreadL_len (xs : List Int) : (wreadL xs).length = xs.length := by simp [wreadL]
theorem wRead_any (v : Value) (xs : List Int) (w : World) (h : Row w v (ints .u8 xs)) (hr : Rg 0 256 xs) (hl : xs.length ≤ 1000000) :
    Calls Tryz.prog 52 #[v] w fun e w' => ∃ t, e = .returned t ∧ Own w.heap.size 21 w' t (ints .i32 (wreadL xs)) ∧ Below w.heap.size w w' := by
  obtain ⟨a, b, off, cap, rfl, HC⟩ := h.op
  clear h
  go_enter Tryz.func52, Tryz.ntmps52
  go_wp2_with (at_make; refine wpList_mk slT_i32 w.heap.size _ _ rfl rfl rfl rfl (by omega) (Nat.le_refl _) ?_; intro v2 w2 hown2 hb)
  go_loopw [3, 11] (fun u i wr => ∃ k : Nat, i = .int .i64 k ∧ k ≤ xs.length ∧ Own w.heap.size 21 wr u (ints .i32 (wreadL (xs.take k))) ∧ Below w.heap.size w wr) (fun _ i _ => xs.length - (intOf i).toNat)
  case atStart => exact ⟨0, rfl, Nat.zero_le _, hown2, hb⟩
  case round =>
    clear hown2 hb
    obtain ⟨k, rfl, hk, hown, hb⟩ := hrel
    by_cases hlt : k < xs.length
    · obtain ⟨x, HX, rfl, hc⟩ := HC.out k hlt
      replace hc := hc wr hb
      have hxr := hr.get HX.out
      have HU := Lib.hid (wreadL_snoc HX.out)
      have HLb : Hid ((ints .i32 (wreadL (xs.take k))).length + (ints .i32 [wsign x]).length ≤ 1000000000) := by
        have h1 := wreadL_len (xs.take k); rw [List.length_take] at h1; show _ ≤ _; simp only [ints_length, List.length_cons, List.length_nil]; omega
      go_wp2_with (first | (go_at_call 77; refine (wSign_any _ _ hxr.1 hxr.2).mono ?_; rintro e w1 ⟨rfl, hb1⟩) | (go_at_call 56; refine (rwSign_any _ _ hxr.1 hxr.2).mono ?_; rintro e w1 ⟨rfl, hb1⟩) | (at_builtin; refine wpList_app slT_i32 _ _ _ rfl rfl rfl rfl ((hown.below hb1).alloc _) (Row.ilit [_] [_] rfl (by simp)) HLb.out (by have := below_size2 hb hb1; simp; omega) ?_; intro t2 w2 hown2 hg2))
      go_roundw
      case rel => exact ⟨k + 1, by go_num, by omega, by rw [HU.out, ints_append]; exact hown2, below_app hb (hb1.alloc hb1.size _) ((hown.below hb1).alloc _) hg2⟩
      case measure => simp [intOf]; omega
    · go_wp2
      go_ret
      rw [List.take_of_length_le (by omega)] at hown
      exact ⟨_, rfl, hown, hb⟩
theorem wlayR_len (xs : List Int) : (wlayR xs).1.length ≤ xs.length := by unfold wlayR; split <;> simp
end Go.Proofs.YtponfaglflmnkaaGreat
namespace Go.Proofs.YtponfaglflmnkaaGreat
open Go.RowKit
set_option maxHeartbeats 400000

theorem oLen_any (c : Int) (w : World) (h0 : -2147483648 ≤ c) (h1 : c ≤ 2147483647) :
    Calls Tryz.prog 138 #[.int .i32 c] w fun e w' => e = .returned (.int .i64 (ulenI c)) ∧ w = w' := by
  unfold ulenI
  by_cases hs : scB c = true
  · rw [if_pos hs]
    have hb := scB_iff.1 hs
    have HS := Lib.hid hs
    by_cases h2 : c < 128
    · rw [if_pos h2]
      go_enter Tryz.func138, Tryz.ntmps138
      go_wp2_with (go_at_call 122; refine (is_any _ _ h0 h1).mono ?_; rintro e w' ⟨rfl, rfl⟩)
      go_ret
      exact ⟨rfl, rfl⟩
    · rw [if_neg h2]
      by_cases h3 : c < 2048
      · rw [if_pos h3]
        go_enter Tryz.func138, Tryz.ntmps138
        go_wp2_with (go_at_call 122; refine (is_any _ _ h0 h1).mono ?_; rintro e w' ⟨rfl, rfl⟩)
        go_ret
        exact ⟨rfl, rfl⟩
      · rw [if_neg h3]
        by_cases h4 : c < 65536
        · rw [if_pos h4]
          go_enter Tryz.func138, Tryz.ntmps138
          go_wp2_with (go_at_call 122; refine (is_any _ _ h0 h1).mono ?_; rintro e w' ⟨rfl, rfl⟩)
          go_ret
          exact ⟨rfl, rfl⟩
        · rw [if_neg h4]
          go_enter Tryz.func138, Tryz.ntmps138
          go_wp2_with (go_at_call 122; refine (is_any _ _ h0 h1).mono ?_; rintro e w' ⟨rfl, rfl⟩)
          go_ret
          exact ⟨rfl, rfl⟩
  · rw [if_neg hs]
    replace hs : scB c = false := by simpa using hs
    go_enter Tryz.func138, Tryz.ntmps138
    go_wp2_with (go_at_call 122; refine (is_any _ _ h0 h1).mono ?_; rintro e w' ⟨rfl, rfl⟩)
    go_ret
    exact ⟨rfl, rfl⟩
theorem olead_any (n : Int) (w : World) :
    Calls Tryz.prog 100 #[.int .i64 n] w fun e w' => e = .returned (.int .u8 (leadI n)) ∧ w = w' := by
  unfold leadI
  rcases (by omega : n = 2 ∨ n = 3 ∨ n = 4 ∨ (n ≠ 2 ∧ n ≠ 3 ∧ n ≠ 4)) with rfl | rfl | rfl | ⟨h2, h3, h4⟩
  · go_enter Tryz.func100, Tryz.ntmps100
    go_wp2
    go_ret
    exact ⟨rfl, rfl⟩
  · go_enter Tryz.func100, Tryz.ntmps100
    go_wp2
    go_ret
    exact ⟨rfl, rfl⟩
  · go_enter Tryz.func100, Tryz.ntmps100
    go_wp2
    go_ret
    exact ⟨rfl, rfl⟩
  · rw [if_neg h2, if_neg h3, if_neg h4]
    have e2 : (n == 2) = false := by simpa using h2
    have e3 : (n == 3) = false := by simpa using h3
    have e4 : (n == 4) = false := by simpa using h4
    clear h2 h3 h4
    go_enter Tryz.func100, Tryz.ntmps100
    go_wp2
    go_ret
    exact ⟨rfl, rfl⟩
theorem oStarts_any (x : Int) (w : World) (h0 : 0 ≤ x) (h1 : x < 256) :
    Calls Tryz.prog 99 #[.int .u8 x] w fun e w' => e = .returned (.int .i64 (wideI x)) ∧ w = w' := by
  go_enter Tryz.func99, Tryz.ntmps99
  go_wp2
  all_goals
    go_ret
    refine ⟨ret_int ?_, rfl⟩
    unfold wideI
    repeat (first | rw [if_pos (by omega)] | rw [if_neg (by omega)])
theorem rwide_any (x : Int) (w : World) (h0 : 0 ≤ x) (h1 : x < 256) :
    Calls Tryz.prog 72 #[.int .u8 x] w fun e w' => e = .returned (.int .i64 (wideI x)) ∧ w = w' := by
  go_enter Tryz.func72, Tryz.ntmps72
  go_wp2
  all_goals
    go_ret
    refine ⟨ret_int ?_, rfl⟩
    unfold wideI
    repeat (first | rw [if_pos (by omega)] | rw [if_neg (by omega)])
theorem oFollows_any (x : Int) (w : World) (h0 : 0 ≤ x) (h1 : x < 256) :
    Calls Tryz.prog 123 #[.int .u8 x] w fun e w' => e = .returned (.bool (folB x)) ∧ w = w' := by
  go_enter Tryz.func123, Tryz.ntmps123
  go_wp2
  go_ret
  exact ⟨ret_bool (fol_bits h0 h1), rfl⟩
theorem rrange_any (a : Int) (w : World) (_h0 : 0 ≤ a) (_h1 : a < 256) :
    Calls Tryz.prog 95 #[.int .u8 a] w fun e w' => e = .returned (.tuple #[.int .u8 (loI a), .int .u8 (hiI a)]) ∧ w = w' := by
  go_enter Tryz.func95, Tryz.ntmps95
  go_wp2
  all_goals
    go_ret2
    refine ⟨ret2 (iv ?_) (iv ?_), rfl⟩
    all_goals
      simp only [beq_iff_eq, beq_eq_false_iff_ne, ne_eq] at *
      simp only [loI, hiI]
      repeat (first | rw [if_pos (by omega)] | rw [if_neg (by omega)])
theorem osecond_any (a y : Int) (w : World) (_h0 : 0 ≤ a) (_h1 : a < 256) (h2 : 0 ≤ y) (h3 : y < 256) :
    Calls Tryz.prog 124 #[.int .u8 a, .int .u8 y] w fun e w' => e = .returned (.bool (secB a y && folB y)) ∧ w = w' := by
  go_enter Tryz.func124, Tryz.ntmps124
  go_wp2_with (go_at_call 123; refine (oFollows_any _ _ h2 h3).mono ?_; rintro e w' ⟨rfl, rfl⟩)
  all_goals
    go_ret
    refine ⟨ret_bool ?_, rfl⟩
    simp only [beq_iff_eq, beq_eq_false_iff_ne, ne_eq] at *
    rw [Bool.eq_iff_iff]
    simp only [Bool.and_eq_true, secB_iff, folB_iff, loI, hiI, Bool.false_eq_true]
    repeat (first | rw [if_pos (by omega)] | rw [if_neg (by omega)])
    refine ⟨fun h => ?_, fun h => ?_⟩ <;> first | omega | exact h.elim
theorem oclone_any (v : Value) (xs : List Int) (w : World) (h : Row w v (ints .u8 xs)) (hl : xs.length ≤ 1000000) :
    Calls Tryz.prog 108 #[v] w fun e w' => ∃ t, e = .returned t ∧ Own w.heap.size 5 w' t (ints .u8 xs) ∧ Below w.heap.size w w' := by
  obtain ⟨a, b, off, cap, rfl, hlc, hm, ha, _⟩ := id h
  have hnil := fun w a n c n' c' => Lib.run_eql_slice_nil (P := Tryz.prog) w 22 5 a n c n' c' Tryz.underlying22
  cases a with
  | none =>
    obtain ⟨hn, hz⟩ : ints .u8 xs = [] ∧ ((none : Option Addr) = none → cap = 0) := by
      rcases ha with h | h
      · cases h
      · exact h
    obtain rfl : xs = [] := by simpa [ints] using hn
    obtain rfl := hz rfl
    go_enter Tryz.func108, Tryz.ntmps108
    go_wp2
    go_ret
    exact ⟨_, rfl, Own.nil _ _ _, Below.refl _ _⟩
  | some ad =>
    go_enter Tryz.func108, Tryz.ntmps108
    go_wp2_with (at_builtin; refine wpList_app slT_u8 _ _ _ rfl rfl rfl rfl (Own.ilit (k := .u8) [] [] rfl (Nat.le_refl _) (by simp)) (h.alloc _) (by simp [ints]; omega) (by simp) ?_; intro t2 w2 hown2 hg2)
    go_ret
    exact ⟨_, rfl, hown2, below_app (Below.refl _ _) (below_alloc _ _) (Own.ilit (k := .u8) [] [] rfl (Nat.le_refl _) (by simp)) hg2⟩
end Go.Proofs.YtponfaglflmnkaaGreat
namespace Go.Proofs.YtponfaglflmnkaaGreat
open Go.RowKit
set_option maxRecDepth 100000
set_option maxHeartbeats 1000000

def putR (bs : List Int) (c : Int) : List Int × Int := if scB c then (bs ++ octs c, 0) else ([], 7)
def lowI (z : Int) : Int := bits .or .u8 128 (bits .and .u8 z 63)
theorem lowI_eq {z : Int} (h0 : 0 ≤ z) (h1 : z < 256) : lowI z = 128 + z % 64 :=
  byte_all (P := fun z => bits .or .u8 128 (bits .and .u8 z 63) = 128 + z % 64) (by decide +kernel) h0 h1
theorem lead2 {z : Int} (h0 : 0 ≤ z) (h1 : z < 32) : bits .or .u8 192 z = 192 + z :=
  byte_all (P := fun z => z < 32 → bits .or .u8 192 z = 192 + z) (by decide +kernel) h0 (by omega) h1
theorem lead3 {z : Int} (h0 : 0 ≤ z) (h1 : z < 16) : bits .or .u8 224 z = 224 + z :=
  byte_all (P := fun z => z < 16 → bits .or .u8 224 z = 224 + z) (by decide +kernel) h0 (by omega) h1
theorem lead4 {z : Int} (h0 : 0 ≤ z) (h1 : z < 8) : bits .or .u8 240 z = 240 + z :=
  byte_all (P := fun z => z < 8 → bits .or .u8 240 z = 240 + z) (by decide +kernel) h0 (by omega) h1
theorem lead1 {z : Int} (h0 : 0 ≤ z) (h1 : z < 128) : bits .or .u8 0 z = z :=
  byte_all (P := fun z => z < 128 → bits .or .u8 0 z = z) (by decide +kernel) h0 (by omega) h1

theorem low_wrap {z : Int} (_h0 : 0 ≤ z) : bits .or .u8 128 (bits .and .u8 (IntKind.u8.wrap z) 63) = 128 + z % 64 := by
  have h1 : IntKind.u8.wrap z = z % 256 := by rw [IntKind.wrap_u8]
  rw [h1, show bits .or .u8 128 (bits .and .u8 (z % 256) 63) = lowI (z % 256) from rfl, lowI_eq (by omega) (by omega)]
  omega
theorem oPut_any (v : Value) (bs : List Int) (c : Int) (w : World) (h : Row w v (ints .u8 bs)) (hl : bs.length ≤ 1000000) (h0 : -2147483648 ≤ c) (h1 : c ≤ 2147483647) :
    Calls Tryz.prog 129 #[v, .int .i32 c] w fun e w' => ∃ t, e = .returned (.tuple #[t, .int .i64 (putR bs c).2]) ∧ Own w.heap.size 5 w' t (ints .u8 (putR bs c).1) ∧ Below w.heap.size w w' := by
  by_cases hs : scB c = true
  · rw [show putR bs c = (bs ++ octs c, 0) by rw [putR, if_pos hs]]
    have hb := scB_iff.1 hs
    by_cases h2 : c < 128
    · have hlen := fun w => oLen_any c w h0 h1
      rw [show ulenI c = 1 by rw [ulenI, if_pos hs, if_pos h2]] at hlen
      have ho : octs c = [c] := by rw [octs, if_pos hs, if_pos h2]
      have HO := Lib.hid ho; have HL := Lib.hid hlen; clear ho hlen hs
      have hw0 : IntKind.i64.wrap 0 = 0 := by decide
      go_enter Tryz.func129, Tryz.ntmps129
      go_wp2_with (go_at_call 138; refine (HL.out _).mono ?_; rintro e w' ⟨rfl, rfl⟩)
      go_region_held3 (fun _ => True) (trivial) (first | (go_at_call 108; refine (oclone_any _ _ _ (by first | exact h | exact h.drew) hl).mono ?_; rintro e w1 ⟨v1, rfl, ho1, hb1⟩) | (go_at_call 100; refine (olead_any _ _).mono ?_; rintro e w' ⟨rfl, rfl⟩) | (refine step_app slT_u8 w.heap.size _ _ (by rfl) (by rfl) (by rfl) (by rfl) (ho1.alloc _) (Row.ilit [_] [_] rfl (by simp)) (by simp only [ints_length, List.length_cons, List.length_nil]; omega) (by have := hb1.size; simp at this ⊢; omega) ?_; intro t2 w2 hown2 hg2; have hb1' : Below w.heap.size w w1 := (by first | exact hb1 | exact (Below.refl w.heap.size w).drew.trans hb1); have hb2 : Below w.heap.size w w2 := below_own (hb1'.alloc hb1'.size _) (ho1.alloc _) hg2 (by have := hb1.size; simp at this ⊢; omega) (Nat.le_refl _)))
      clear hg2 ho1 hb1 hb1'
      go_wp2_with (at_builtin; refine wpList_app slT_u8 _ _ _ rfl rfl rfl rfl (hown2.alloc _) (Row.ilit [_] [_] rfl (by simp)) (by simp only [List.length_append, ints_length, List.length_cons, List.length_nil]; omega) (by have := hb2.size; simp; omega) ?_; intro t3 w3 hown3 hg3; have hb3 := below_app hb2 (below_alloc _ _) (hown2.alloc _) hg3; replace hown2 := hown3; replace hb2 := hb3; clear hown3 hb3 hg3)
      go_ret2
      refine ⟨_, rfl, ?_, hb2⟩
      have hf : IntKind.u8.wrap (c) = c := IntWalk.u8_in _ (by omega)
      have hld : leadI 1 = 0 := rfl
      rw [hf, hld] at hown2
      rw [HO.out]
      rw [(lead1 (z := c) hb.1 h2)] at hown2
      simpa [ints] using hown2
    · by_cases h3 : c < 2048
      · have hlen := fun w => oLen_any c w h0 h1
        rw [show ulenI c = 2 by rw [ulenI, if_pos hs, if_neg h2, if_pos h3]] at hlen
        have ho : octs c = [192 + c / 64, 128 + c % 64] := by rw [octs, if_pos hs, if_neg h2, if_pos h3]
        have HO := Lib.hid ho; have HL := Lib.hid hlen; clear ho hlen hs
        have hw1 : IntKind.i64.wrap 1 = 1 := by decide
        have hw6 : IntKind.i64.wrap 6 = 6 := by decide
        go_enter Tryz.func129, Tryz.ntmps129
        go_wp2_with (go_at_call 138; refine (HL.out _).mono ?_; rintro e w' ⟨rfl, rfl⟩)
        go_region_held3 (fun _ => True) (trivial) (first | (go_at_call 108; refine (oclone_any _ _ _ (by first | exact h | exact h.drew) hl).mono ?_; rintro e w1 ⟨v1, rfl, ho1, hb1⟩) | (go_at_call 100; refine (olead_any _ _).mono ?_; rintro e w' ⟨rfl, rfl⟩) | (refine step_app slT_u8 w.heap.size _ _ (by rfl) (by rfl) (by rfl) (by rfl) (ho1.alloc _) (Row.ilit [_] [_] rfl (by simp)) (by simp only [ints_length, List.length_cons, List.length_nil]; omega) (by have := hb1.size; simp at this ⊢; omega) ?_; intro t2 w2 hown2 hg2; have hb1' : Below w.heap.size w w1 := (by first | exact hb1 | exact (Below.refl w.heap.size w).drew.trans hb1); have hb2 : Below w.heap.size w w2 := below_own (hb1'.alloc hb1'.size _) (ho1.alloc _) hg2 (by have := hb1.size; simp at this ⊢; omega) (Nat.le_refl _)))
        clear hg2 ho1 hb1 hb1'
        go_wp2_with (at_builtin; refine wpList_app slT_u8 _ _ _ rfl rfl rfl rfl (hown2.alloc _) (Row.ilit [_] [_] rfl (by simp)) (by simp only [List.length_append, ints_length, List.length_cons, List.length_nil]; omega) (by have := hb2.size; simp; omega) ?_; intro t3 w3 hown3 hg3; have hb3 := below_app hb2 (below_alloc _ _) (hown2.alloc _) hg3; replace hown2 := hown3; replace hb2 := hb3; clear hown3 hb3 hg3)
        go_ret2
        refine ⟨_, rfl, ?_, hb2⟩
        have hf : IntKind.u8.wrap (c / 64) = c / 64 := IntWalk.u8_in _ (by omega)
        have hld : leadI 2 = 192 := rfl
        rw [hf, hld] at hown2
        rw [HO.out]
        rw [(lead2 (z := c / 64) (by omega) (by omega))] at hown2
        simpa [ints] using hown2
      · by_cases h4 : c < 65536
        · have hlen := fun w => oLen_any c w h0 h1
          rw [show ulenI c = 3 by rw [ulenI, if_pos hs, if_neg h2, if_neg h3, if_pos h4]] at hlen
          have ho : octs c = [224 + c / 4096, 128 + c / 64 % 64, 128 + c % 64] := by rw [octs, if_pos hs, if_neg h2, if_neg h3, if_pos h4]
          have HO := Lib.hid ho; have HL := Lib.hid hlen; clear ho hlen hs
          have hw2 : IntKind.i64.wrap 2 = 2 := by decide
          have hw12 : IntKind.i64.wrap 12 = 12 := by decide
          go_enter Tryz.func129, Tryz.ntmps129
          go_wp2_with (go_at_call 138; refine (HL.out _).mono ?_; rintro e w' ⟨rfl, rfl⟩)
          go_region_held3 (fun _ => True) (trivial) (first | (go_at_call 108; refine (oclone_any _ _ _ (by first | exact h | exact h.drew) hl).mono ?_; rintro e w1 ⟨v1, rfl, ho1, hb1⟩) | (go_at_call 100; refine (olead_any _ _).mono ?_; rintro e w' ⟨rfl, rfl⟩) | (refine step_app slT_u8 w.heap.size _ _ (by rfl) (by rfl) (by rfl) (by rfl) (ho1.alloc _) (Row.ilit [_] [_] rfl (by simp)) (by simp only [ints_length, List.length_cons, List.length_nil]; omega) (by have := hb1.size; simp at this ⊢; omega) ?_; intro t2 w2 hown2 hg2; have hb1' : Below w.heap.size w w1 := (by first | exact hb1 | exact (Below.refl w.heap.size w).drew.trans hb1); have hb2 : Below w.heap.size w w2 := below_own (hb1'.alloc hb1'.size _) (ho1.alloc _) hg2 (by have := hb1.size; simp at this ⊢; omega) (Nat.le_refl _)))
          clear hg2 ho1 hb1 hb1'
          go_wp2_with (at_builtin; refine wpList_app slT_u8 _ _ _ rfl rfl rfl rfl (hown2.alloc _) (Row.ilit [_] [_] rfl (by simp)) (by simp only [List.length_append, ints_length, List.length_cons, List.length_nil]; omega) (by have := hb2.size; simp; omega) ?_; intro t3 w3 hown3 hg3; have hb3 := below_app hb2 (below_alloc _ _) (hown2.alloc _) hg3; replace hown2 := hown3; replace hb2 := hb3; clear hown3 hb3 hg3)
          go_ret2
          refine ⟨_, rfl, ?_, hb2⟩
          have hf : IntKind.u8.wrap (c / 4096) = c / 4096 := IntWalk.u8_in _ (by omega)
          have hld : leadI 3 = 224 := rfl
          rw [hf, hld] at hown2
          rw [HO.out]
          rw [(lead3 (z := c / 4096) (by omega) (by omega))] at hown2
          simpa [ints] using hown2
        · have hlen := fun w => oLen_any c w h0 h1
          rw [show ulenI c = 4 by rw [ulenI, if_pos hs, if_neg h2, if_neg h3, if_neg h4]] at hlen
          have ho : octs c = [240 + c / 262144, 128 + c / 4096 % 64, 128 + c / 64 % 64, 128 + c % 64] := by rw [octs, if_pos hs, if_neg h2, if_neg h3, if_neg h4]
          have HO := Lib.hid ho; have HL := Lib.hid hlen; clear ho hlen hs
          have hw3 : IntKind.i64.wrap 3 = 3 := by decide
          have hw18 : IntKind.i64.wrap 18 = 18 := by decide
          go_enter Tryz.func129, Tryz.ntmps129
          go_wp2_with (go_at_call 138; refine (HL.out _).mono ?_; rintro e w' ⟨rfl, rfl⟩)
          go_region_held3 (fun _ => True) (trivial) (first | (go_at_call 108; refine (oclone_any _ _ _ (by first | exact h | exact h.drew) hl).mono ?_; rintro e w1 ⟨v1, rfl, ho1, hb1⟩) | (go_at_call 100; refine (olead_any _ _).mono ?_; rintro e w' ⟨rfl, rfl⟩) | (refine step_app slT_u8 w.heap.size _ _ (by rfl) (by rfl) (by rfl) (by rfl) (ho1.alloc _) (Row.ilit [_] [_] rfl (by simp)) (by simp only [ints_length, List.length_cons, List.length_nil]; omega) (by have := hb1.size; simp at this ⊢; omega) ?_; intro t2 w2 hown2 hg2; have hb1' : Below w.heap.size w w1 := (by first | exact hb1 | exact (Below.refl w.heap.size w).drew.trans hb1); have hb2 : Below w.heap.size w w2 := below_own (hb1'.alloc hb1'.size _) (ho1.alloc _) hg2 (by have := hb1.size; simp at this ⊢; omega) (Nat.le_refl _)))
          clear hg2 ho1 hb1 hb1'
          go_wp2_with (at_builtin; refine wpList_app slT_u8 _ _ _ rfl rfl rfl rfl (hown2.alloc _) (Row.ilit [_] [_] rfl (by simp)) (by simp only [List.length_append, ints_length, List.length_cons, List.length_nil]; omega) (by have := hb2.size; simp; omega) ?_; intro t3 w3 hown3 hg3; have hb3 := below_app hb2 (below_alloc _ _) (hown2.alloc _) hg3; replace hown2 := hown3; replace hb2 := hb3; clear hown3 hb3 hg3)
          go_ret2
          refine ⟨_, rfl, ?_, hb2⟩
          have hf : IntKind.u8.wrap (c / 262144) = c / 262144 := IntWalk.u8_in _ (by omega)
          have hld : leadI 4 = 240 := rfl
          rw [hf, hld] at hown2
          rw [HO.out]
          rw [(lead4 (z := c / 262144) (by omega) (by omega))] at hown2
          simpa [ints] using hown2
  · rw [show putR bs c = ([], 7) by rw [putR, if_neg hs]]
    have hlen := fun w => oLen_any c w h0 h1
    rw [show ulenI c = 0 by rw [ulenI, if_neg hs]] at hlen
    have HL := Lib.hid hlen; clear hlen hs
    go_enter Tryz.func129, Tryz.ntmps129
    go_wp2_with (go_at_call 138; refine (HL.out _).mono ?_; rintro e w' ⟨rfl, rfl⟩)
    go_ret2
    exact ⟨_, rfl, Own.nil _ _ _, Below.refl _ _⟩
end Go.Proofs.YtponfaglflmnkaaGreat
