/- Walks: windows-1252, the reference; texts. -/
import Derived.Test.YtgfdebijcpdhbaaDoorW10
namespace Go.Proofs.YtgfdebijcpdhbaaDoor
open Go.RowKit
set_option maxHeartbeats 400000

set_option maxRecDepth 100000 in
theorem rwSign_any (x : Int) (w : World) (h1 : 0 ≤ x) (h2 : x < 256) :
    Calls Tryd.prog 36 #[.int .u8 x] w fun e w' => e = .returned (.int .i32 (wsign x)) ∧ Below w.heap.size w w' := by
  by_cases ha : x < 128 ∨ 160 ≤ x
  · rw [show wsign x = x by rw [wsign, if_pos ha]]
    rcases ha with ha | ha
    · go_enter Tryd.func36, Tryd.ntmps36
      go_wp2
      go_ret
      exact ⟨rfl, Below.refl _ _⟩
    · have hg : ¬ x < 128 := by omega
      have hg' : (159 : Int) < x := by omega
      go_enter Tryd.func36, Tryd.ntmps36
      go_wp2
      go_ret
      exact ⟨rfl, Below.refl _ _⟩
  · obtain ⟨i, rfl⟩ : ∃ i : Nat, x = 128 + (i : Int) := ⟨(x - 128).toNat, by omega⟩
    have hi : i < 32 := by omega
    have hw : wsign (128 + (i : Int)) = othersR.getD i 0 := by rw [wsign, if_neg ha, show (128 + (i : Int) - 128).toNat = i by omega]
    rw [hw]
    obtain ⟨y, hy⟩ : ∃ y, othersR[i]? = some y := ⟨_, List.getElem?_eq_getElem hi⟩
    rw [show othersR.getD i 0 = y by simp [List.getD, hy]]
    have HY := Lib.hid hy
    have hk : 128 + (i : Int) - 128 = i := by omega
    clear hw hy
    have h1' : ¬ (128 + (i : Int)) < 128 := by omega
    have h2' : ¬ (159 : Int) < 128 + (i : Int) := by omega
    clear ha
    have hc : (ints .i32 othersR)[i]? = some (.int .i32 y) := by rw [ints_get, HY.out]; rfl
    go_enter Tryd.func36, Tryd.ntmps36
    go_wp2_with (refine wpList_bslice rfl _ _ _ rfl (ints .i32 othersR) 21 32 (by rfl) (by kernel_rfl) ?_)
    go_wp2
    go_ret
    exact ⟨rfl, below_alloc _ _⟩

set_option maxRecDepth 100000 in
theorem rwPut_any (c : Int) (w : World) (_h1 : -2147483648 ≤ c) (_h2 : c ≤ 2147483647) :
    Calls Tryd.prog 28 #[.int .i32 c] w fun e w' => e = .returned (.tuple #[.int .u8 (wput c).1, .bool (wput c).2]) ∧ Below w.heap.size w w' := by
  go_enter Tryd.func28, Tryd.ntmps28
  go_wp2
  go_loopw [4] (fun i wr => ∃ k : Nat, i = .int .i64 k ∧ k ≤ 256 ∧ Hid (∀ n : Nat, n < k → wsign n ≠ c ∨ c = 65533) ∧ Below w.heap.size w wr) (fun i _ => 256 - (intOf i).toNat)
  case atStart => exact ⟨0, rfl, by omega, fun n hn => by omega, Below.refl _ _⟩
  case round =>
    obtain ⟨k, rfl, hk, HP, hb⟩ := hrel
    by_cases hlt : k < 256
    · by_cases hs : wsign k = c
      · by_cases hc : c = 65533
        · have hs' : (wsign k == c) = true := by simpa using hs
          have hc' : (c != 65533) = false := by simpa using hc
          have HS := Lib.hid hs; have HC := Lib.hid hc; clear hs hc
          go_wp2_with (go_at_call 36; refine (rwSign_any _ _ (by omega) (by omega)).mono ?_; rintro e w' ⟨rfl, hb1⟩)
          go_roundw
          case rel => exact ⟨k + 1, by go_num, by omega, fun n hn => .inr HC.out, below_trans hb hb1⟩
          case measure => simp [intOf]; omega
        · have hs' : (wsign k == c) = true := by simpa using hs
          have hc' : (c != 65533) = true := by simpa using hc
          have HF := Lib.hid (wput_found hlt hs hc)
          clear hs hc
          go_wp2_with (go_at_call 36; refine (rwSign_any _ _ (by omega) (by omega)).mono ?_; rintro e w' ⟨rfl, hb1⟩)
          go_ret2
          exact ⟨by rw [HF.out]; rfl, below_trans hb hb1⟩
      · have hs' : (wsign k == c) = false := by simpa using hs
        have HS := Lib.hid hs; clear hs
        go_wp2_with (go_at_call 36; refine (rwSign_any _ _ (by omega) (by omega)).mono ?_; rintro e w' ⟨rfl, hb1⟩)
        go_roundw
        case rel => exact ⟨k + 1, by go_num, by omega, fun n hn => (by
          rcases (by omega : n < k ∨ n = k) with h | rfl
          · exact HP.out n h
          · exact .inl HS.out), below_trans hb hb1⟩
        case measure => simp [intOf]; omega
    · obtain rfl : k = 256 := by omega
      have HF := Lib.hid (wput_none HP.out)
      go_wp2
      go_ret2
      exact ⟨by rw [HF.out]; rfl, hb⟩

/-- The first sign that the charset has not. -/
def wlacks (xs : List Int) : Int := idx (fun c => !(wput c).2) xs
theorem wlacks_at {xs : List Int} {k : Nat} {x : Int} (h : ∀ y ∈ xs.take k, (wput y).2 = true) (hx : xs[k]? = some x) (hp : (wput x).2 = false) : wlacks xs = k :=
  idx_at (fun y hy => by simp [h y hy]) hx (by simp [hp])
theorem wlacks_none {xs : List Int} (h : ∀ y ∈ xs, (wput y).2 = true) : wlacks xs = -1 := idx_none (fun y hy => by simp [h y hy])
def lackp (xs : List Int) (k : Nat) : Prop := ∀ y ∈ xs.take k, (wput y).2 = true
theorem lackp_0 (xs : List Int) : lackp xs 0 := fun y hy => by simp at hy
theorem lackp_succ {xs : List Int} {k : Nat} {x : Int} (h : lackp xs k) (hx : xs[k]? = some x) (hp : (wput x).2 = true) : lackp xs (k + 1) := take_succ_all h hx hp
theorem lackp_all {xs : List Int} {k : Nat} (h : lackp xs k) (hk : xs.length ≤ k) : wlacks xs = -1 := wlacks_none (fun y hy => h y (by rw [List.take_of_length_le hk]; exact hy))
/-- A text laid: its octets, or the error. -/
def wlayR (xs : List Int) : List Int × Int := if wlacks xs < 0 then (xs.map fun c => (wput c).1, 0) else ([], 9)
def wlayL (xs : List Int) : List Int := xs.map fun c => (wput c).1
theorem wlayL_snoc {xs : List Int} {k : Nat} {x : Int} (h : xs[k]? = some x) : wlayL (xs.take (k + 1)) = wlayL (xs.take k) ++ [(wput x).1] := by
  simp [wlayL, List.take_add_one, h]
theorem wlayL_len (xs : List Int) : (wlayL xs).length = xs.length := by simp [wlayL]
end Go.Proofs.YtgfdebijcpdhbaaDoor
