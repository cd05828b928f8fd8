/- The statements of layer 10, walked: there and back. -/
import Derived.Test.YtbkhabnjefcmkaaW10c
namespace Go.Proofs.Ytbkhabnjefcmkaa
open Go.RowKit
set_option maxHeartbeats 400000

theorem wlacks_neg {xs : List Int} (h : wlacks xs < 0) : ∀ y ∈ xs, (wput y).2 = true := by
  intro y hy
  cases hp : (wput y).2 with
  | true => rfl
  | false =>
    rcases idx_spec (fun c => !(wput c).2) xs with h4 | ⟨i, x, h4, _, _⟩
    · unfold idx at h4
      cases hf : xs.findIdx? (fun c => !(wput c).2) with
      | none =>
        rw [List.findIdx?_eq_none_iff] at hf
        have := hf y hy
        rw [hp] at this; cases this
      | some i => rw [hf] at h4; simp at h4
    · unfold wlacks at h; omega
theorem wread_wlay {xs : List Int} (h : wlacks xs < 0) : wreadL (wlayL xs) = xs := by
  have h := wlacks_neg h
  rw [wreadL, wlayL, List.map_map]
  conv => rhs; rw [← List.map_id xs]
  refine List.map_congr_left fun x hx => ?_
  exact (wput_true (h x hx)).2.2.1
theorem wlay_rng {xs : List Int} (h : wlacks xs < 0) : Rg 0 256 (wlayL xs) := by
  have h := wlacks_neg h
  intro y hy
  simp only [wlayL, List.mem_map] at hy
  obtain ⟨x, hx, rfl⟩ := hy
  have := wput_true (h x hx)
  exact ⟨this.1, this.2.1⟩
theorem wlayR_read {xs : List Int} (hg : Rg 0 256 xs) (h : ∀ y ∈ wreadL xs, y ≠ 65533) : wlayR (wreadL xs) = (xs, 0) := by
  have hp : ∀ x ∈ xs, wput (wsign x) = (x, true) := by
    intro x hx
    have := hg x hx
    have hn := wput_found (c := wsign x) (n := x.toNat) (by omega) (by rw [Int.toNat_of_nonneg this.1]) (h _ (by simp only [wreadL, List.mem_map]; exact ⟨x, hx, rfl⟩))
    rwa [Int.toNat_of_nonneg this.1] at hn
  have hl : wlacks (wreadL xs) = -1 := wlacks_none (by
    intro y hy
    simp only [wreadL, List.mem_map] at hy
    obtain ⟨x, hx, rfl⟩ := hy
    rw [hp x hx])
  rw [wlayR, hl, if_pos (by omega)]
  congr 1
  rw [wreadL, List.map_map]
  conv => rhs; rw [← List.map_id xs]
  refine List.map_congr_left fun x hx => ?_
  simp [hp x hx]
theorem wsign_32 {x : Int} (h0 : 0 ≤ x) (h1 : x < 256) : (Lit.int .i32 (wsign x)).wf = true := by
  have hn : ∀ n : Fin 256, (Lit.int .i32 (wsign n.val)).wf = true := by decide +kernel
  have := hn ⟨x.toNat, by omega⟩
  simp only [] at this
  rwa [Int.toNat_of_nonneg h0] at this
theorem wread_wf {xs : List Int} (hg : Rg 0 256 xs) : WF .i32 (wreadL xs) := by
  intro y hy
  simp only [wreadL, List.mem_map] at hy
  obtain ⟨x, hx, rfl⟩ := hy
  exact wsign_32 (hg x hx).1 (hg x hx).2

set_option maxRecDepth 100000 in
theorem WinoneBack_walk (v0 : Value) (ts : List Int) (v1 : Value) (xs : List Int) (w : World) (h0 : Row w v0 (ints .i32 ts)) (g0 : WF .i32 ts) (h1 : Row w v1 (ints .u8 xs)) (g1 : WF .u8 xs) :
    Calls Try.prog 8 #[v0, v1] w fun e w' => e = .returned (.bool true) ∧ Below w.heap.size w w' := by
  obtain ⟨a, b, off, cap, rfl, _⟩ := id h0.op
  obtain ⟨a', b', off', cap', rfl, _⟩ := id h1.op
  by_cases hl : ts.length ≤ 300 ∧ xs.length ≤ 1000
  · obtain ⟨hl0, hl1⟩ := hl
    have g : Rg 0 256 xs := fun x hx => wf_u8 (g1 x hx)
    have hA := fun w' h' => wLay_any (.slice a ts.length cap) ts w' h' g0 (by omega)
    have hL := fun v w' h' => wLacks_any v ts w' h' g0 (by omega)
    have hX := fun v w' h' => wRead_any v xs w' h' g (by omega)
    have hY := fun v w' h' => wLay_any v (wreadL xs) w' h' (wread_wf g) (by rw [wreadL_len]; omega)
    have hBk := fun h => wlayR_read g h
    have hrl := wreadL_len xs
    obtain ⟨us, hu⟩ : ∃ us, wreadL xs = us := ⟨_, rfl⟩
    rw [hu] at hX hY hBk hrl
    have hn1 : ¬ (300 : Int) < (ts.length : Int) := by omega
    have hn2 : ¬ (1000 : Int) < (xs.length : Int) := by omega
    have HX := Lib.hid hX; have HY := Lib.hid hY; have HBk := Lib.hid hBk; have HRL := Lib.hid hrl
    clear hX hY hBk hrl hu
    have hb := Below.refl w.heap.size w
    rcases (by omega : wlacks ts < 0 ∨ ¬ wlacks ts < 0) with hq | hq
    case' inl =>
      have e1 := wread_wlay hq
      have e2 := wlay_rng hq
      have e3 := wlayL_len ts
      rw [show wlayR ts = (wlayL ts, 0) by rw [wlayR, if_pos hq]; rfl] at hA
      have hR := fun v w' h' => wRead_any v (wlayL ts) w' h' e2 (by omega)
      rw [e1] at hR
      obtain ⟨q, hq'⟩ : ∃ q, wlacks ts = q := ⟨_, rfl⟩
      rw [hq'] at hL hq
      have HA := Lib.hid hA; have HL := Lib.hid hL; have HR := Lib.hid hR; have H3 := Lib.hid e3
      clear hA hL hR e1 e2 e3 hq'
      go_enter Try.func8, Try.ntmps8
      go_wp2_with fail
      refine (HA.out _ h0).mono ?_
      rintro e w1 ⟨va, rfl, ho1, hb1⟩
      replace hb := (by first | exact below_trans hb hb1 | exact below_trans (hb.alloc hb.size _) hb1 | exact below_trans ((hb.alloc hb.size _).alloc (hb.alloc hb.size _).size _) hb1 : Below w.heap.size w _)
      have r1 := ho1.row
      clear ho1 hb1
      go_wp2_with fail
      refine (HR.out _ _ r1).mono ?_
      rintro e w2 ⟨vb, rfl, ho2, hb2⟩
      replace hb := (by first | exact below_trans hb hb2 | exact below_trans (hb.alloc hb.size _) hb2 | exact below_trans ((hb.alloc hb.size _).alloc (hb.alloc hb.size _).size _) hb2 : Below w.heap.size w _)
      replace r1 := r1.below hb2
      have r2 := ho2.row
      clear ho2 hb2
      go_wp2_with fail
      refine (like3_any _ _ _ _ _ r2 (h0.below hb) (by omega) (by omega)).mono ?_
      rintro e w3 ⟨rfl, hb3⟩
      replace hb := (by first | exact below_trans hb hb3 | exact below_trans (hb.alloc hb.size _) hb3 | exact below_trans ((hb.alloc hb.size _).alloc (hb.alloc hb.size _).size _) hb3 : Below w.heap.size w _)
      rw [decide_eq_true rfl]
      clear hb3 r2
      obtain ⟨a1, b1, o1, c1, rfl, _⟩ := r1.op
      rw [H3.out]
      clear r1
      go_wp2_with fail
      refine (HL.out _ _ (h0.below hb)).mono ?_
      rintro e w4 ⟨rfl, hb4⟩
      replace hb := (by first | exact below_trans hb hb4 | exact below_trans (hb.alloc hb.size _) hb4 | exact below_trans ((hb.alloc hb.size _).alloc (hb.alloc hb.size _).size _) hb4 : Below w.heap.size w _)
      clear hb4
    case' inr =>
      rw [show wlayR ts = ([], 9) by rw [wlayR, if_neg hq]] at hA
      obtain ⟨q, hq'⟩ : ∃ q, wlacks ts = q := ⟨_, rfl⟩
      rw [hq'] at hL hq
      have HA := Lib.hid hA; have HL := Lib.hid hL
      clear hA hL hq'
      go_enter Try.func8, Try.ntmps8
      go_wp2_with fail
      refine (HA.out _ h0).mono ?_
      rintro e w1 ⟨va, rfl, ho1, hb1⟩
      replace hb := (by first | exact below_trans hb hb1 | exact below_trans (hb.alloc hb.size _) hb1 | exact below_trans ((hb.alloc hb.size _).alloc (hb.alloc hb.size _).size _) hb1 : Below w.heap.size w _)
      clear ho1 hb1
      go_wp2_with fail
      refine (HL.out _ _ (h0.below hb)).mono ?_
      rintro e w4 ⟨rfl, hb4⟩
      replace hb := (by first | exact below_trans hb hb4 | exact below_trans (hb.alloc hb.size _) hb4 | exact below_trans ((hb.alloc hb.size _).alloc (hb.alloc hb.size _).size _) hb4 : Below w.heap.size w _)
      clear hb4
    all_goals
      go_wp2_with fail
      refine (HX.out _ _ (h1.below hb)).mono ?_
      rintro e w5 ⟨vx, rfl, ho5, hb5⟩
      replace hb := (by first | exact below_trans hb hb5 | exact below_trans (hb.alloc hb.size _) hb5 | exact below_trans ((hb.alloc hb.size _).alloc (hb.alloc hb.size _).size _) hb5 : Below w.heap.size w _)
      have r5 := ho5.row
      clear ho5 hb5
      obtain ⟨a5, b5, o5, c5, rfl, HC⟩ := id r5.op
      have hlen : (us.length : Int) = xs.length := by have := HRL.out; omega
      go_wp2
      clear hlen
      go_loop [60] (fun i => ∃ k : Nat, i = .int .i64 k ∧ k ≤ us.length ∧ Hid (∀ y ∈ us.take k, y ≠ 65533)) (fun i => us.length - (intOf i).toNat)
      case atStart => exact ⟨0, rfl, Nat.zero_le _, fun y hy => by simp at hy⟩
      case round =>
        obtain ⟨k, rfl, hk, HP⟩ := hrel
        by_cases hlt : k < us.length
        · obtain ⟨x, HXX, rfl, hc⟩ := HC.out k hlt
          have hlt2 : k < xs.length := by have := HRL.out; omega
          replace hc := hc w5 (Below.refl _ _)
          by_cases hx : (x == 65533) = true
          · go_wp2_with fail
            refine (alive10_any _).mono ?_
            rintro e w9 ⟨rfl, hb9⟩
            go_wp2
            go_ret
            exact ⟨rfl, below_trans hb hb9⟩
          · replace hx : (x == 65533) = false := by simpa using hx
            go_wp2
            go_round
            case rel => exact ⟨k + 1, by go_num, by omega, take_succ_all HP.out HXX.out (by simpa using hx)⟩
            case measure => simp [intOf]; omega
        · have hY := HY.out
          have hlt2 : ¬ k < xs.length := by have := HRL.out; omega
          have hAll : ∀ y ∈ us, y ≠ 65533 := fun y hy => HP.out y (by rw [List.take_of_length_le (by omega)]; exact hy)
          rw [HBk.out hAll] at hY
          have HY2 := Lib.hid hY
          clear hY hAll HC
          go_wp2_with fail
          refine (HY2.out _ _ r5).mono ?_
          rintro e w6 ⟨vy, rfl, ho6, hb6⟩
          replace hb := (by first | exact below_trans hb hb6 | exact below_trans (hb.alloc hb.size _) hb6 | exact below_trans ((hb.alloc hb.size _).alloc (hb.alloc hb.size _).size _) hb6 : Below w.heap.size w _)
          have r6 := ho6.row
          clear ho6 hb6
          go_wp2_with fail
          refine (like1_any _ _ xs xs _ r6 (h1.below hb) (by omega) (by omega)).mono ?_
          rintro e w7 ⟨rfl, hb7⟩
          replace hb := (by first | exact below_trans hb hb7 | exact below_trans (hb.alloc hb.size _) hb7 | exact below_trans ((hb.alloc hb.size _).alloc (hb.alloc hb.size _).size _) hb7 : Below w.heap.size w _)
          rw [decide_eq_true rfl]
          clear hb7 r6
          go_wp2_with fail
          refine (alive10_any _).mono ?_
          rintro e w8 ⟨rfl, hb8⟩
          replace hb := (by first | exact below_trans hb hb8 | exact below_trans (hb.alloc hb.size _) hb8 | exact below_trans ((hb.alloc hb.size _).alloc (hb.alloc hb.size _).size _) hb8 : Below w.heap.size w _)
          clear hb8
          go_wp2
          go_ret
          exact ⟨rfl, hb⟩
  · rcases (by omega : 300 < ts.length ∨ (ts.length ≤ 300 ∧ 1000 < xs.length)) with hh | ⟨hh, hk⟩
    · have hn1 : (300 : Int) < (ts.length : Int) := by omega
      go_enter Try.func8, Try.ntmps8
      go_wp2_with fail
      refine (alive10_any _).mono ?_
      rintro e w7 ⟨rfl, hb7⟩
      go_wp2
      go_ret
      exact ⟨rfl, hb7⟩
    · have hn1 : ¬ (300 : Int) < (ts.length : Int) := by omega
      have hn2 : (1000 : Int) < (xs.length : Int) := by omega
      go_enter Try.func8, Try.ntmps8
      go_wp2_with fail
      refine (alive10_any _).mono ?_
      rintro e w7 ⟨rfl, hb7⟩
      go_wp2
      go_ret
      exact ⟨rfl, hb7⟩
end Go.Proofs.Ytbkhabnjefcmkaa
