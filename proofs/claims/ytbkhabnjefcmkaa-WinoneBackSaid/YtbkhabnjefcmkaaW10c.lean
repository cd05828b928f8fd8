/- Walks: windows-1252, reading; the statements' own examples. -/
import Derived.Test.YtbkhabnjefcmkaaW10b
import Derived.Test.YtbkhabnjefcmkaaP1
namespace Go.Proofs.Ytbkhabnjefcmkaa
open Go.RowKit
set_option maxHeartbeats 400000

def wreadL (xs : List Int) : List Int := xs.map wsign
theorem wreadL_snoc {xs : List Int} {k : Nat} {x : Int} (h : xs[k]? = some x) : wreadL (xs.take (k + 1)) = wreadL (xs.take k) ++ [wsign x] := by
  simp [wreadL, List.take_add_one, h]
theorem wreadL_len (xs : List Int) : (wreadL xs).length = xs.length := by simp [wreadL]
theorem wRead_any (v : Value) (xs : List Int) (w : World) (h : Row w v (ints .u8 xs)) (hr : Rg 0 256 xs) (hl : xs.length ≤ 1000000) :
    Calls Try.prog 44 #[v] w fun e w' => ∃ t, e = .returned t ∧ Own w.heap.size 21 w' t (ints .i32 (wreadL xs)) ∧ Below w.heap.size w w' := by
  obtain ⟨a, b, off, cap, rfl, HC⟩ := h.op
  clear h
  go_enter Try.func44, Try.ntmps44
  go_wp2_with (at_make; refine wpList_mk slT_i32 w.heap.size _ _ rfl rfl rfl rfl (by omega) (Nat.le_refl _) ?_; intro v2 w2 hown2 hb)
  go_loopw [3, 11] (fun u i wr => ∃ k : Nat, i = .int .i64 k ∧ k ≤ xs.length ∧ Own w.heap.size 21 wr u (ints .i32 (wreadL (xs.take k))) ∧ Below w.heap.size w wr) (fun _ i _ => xs.length - (intOf i).toNat)
  case atStart => exact ⟨0, rfl, Nat.zero_le _, hown2, hb⟩
  case round =>
    clear hown2 hb
    obtain ⟨k, rfl, hk, hown, hb⟩ := hrel
    by_cases hlt : k < xs.length
    · obtain ⟨x, HX, rfl, hc⟩ := HC.out k hlt
      replace hc := hc wr hb
      have hxr := hr.get HX.out
      have HU := Lib.hid (wreadL_snoc HX.out)
      have HLb : Hid ((ints .i32 (wreadL (xs.take k))).length + (ints .i32 [wsign x]).length ≤ 1000000000) := by
        have h1 := wreadL_len (xs.take k); rw [List.length_take] at h1; show _ ≤ _; simp only [ints_length, List.length_cons, List.length_nil]; omega
      go_wp2_with (first | (go_at_call 27; refine (wSign_any _ _ hxr.1 hxr.2).mono ?_; rintro e w1 ⟨rfl, hb1⟩) | (go_at_call 28; refine (rwSign_any _ _ hxr.1 hxr.2).mono ?_; rintro e w1 ⟨rfl, hb1⟩) | (at_builtin; refine wpList_app slT_i32 _ _ _ rfl rfl rfl rfl ((hown.below hb1).alloc _) (Row.ilit [_] [_] rfl (by simp)) HLb.out (by have := below_size2 hb hb1; simp; omega) ?_; intro t2 w2 hown2 hg2))
      go_roundw
      case rel => exact ⟨k + 1, by go_num, by omega, by rw [HU.out, ints_append]; exact hown2, below_app hb (hb1.alloc hb1.size _) ((hown.below hb1).alloc _) hg2⟩
      case measure => simp [intOf]; omega
    · go_wp2
      go_ret
      rw [List.take_of_length_le (by omega)] at hown
      exact ⟨_, rfl, hown, hb⟩
theorem rwRead_any (v : Value) (xs : List Int) (w : World) (h : Row w v (ints .u8 xs)) (hr : Rg 0 256 xs) (hl : xs.length ≤ 1000000) :
    Calls Try.prog 45 #[v] w fun e w' => ∃ t, e = .returned t ∧ Own w.heap.size 21 w' t (ints .i32 (wreadL xs)) ∧ Below w.heap.size w w' := by
  obtain ⟨a, b, off, cap, rfl, HC⟩ := h.op
  clear h
  go_enter Try.func45, Try.ntmps45
  go_wp2
  go_loopw [3, 4] (fun u i wr => ∃ k : Nat, i = .int .i64 k ∧ k ≤ xs.length ∧ Own w.heap.size 21 wr u (ints .i32 (wreadL (xs.take k))) ∧ Below w.heap.size w wr) (fun _ i _ => xs.length - (intOf i).toNat)
  case atStart => exact ⟨0, rfl, Nat.zero_le _, Own.nil _ _ _, Below.refl _ _⟩
  case round =>
    obtain ⟨k, rfl, hk, hown, hb⟩ := hrel
    by_cases hlt : k < xs.length
    · obtain ⟨x, HX, rfl, hc⟩ := HC.out k hlt
      replace hc := hc wr hb
      have hxr := hr.get HX.out
      have HU := Lib.hid (wreadL_snoc HX.out)
      have HLb : Hid ((ints .i32 (wreadL (xs.take k))).length + (ints .i32 [wsign x]).length ≤ 1000000000) := by
        have h1 := wreadL_len (xs.take k); rw [List.length_take] at h1; show _ ≤ _; simp only [ints_length, List.length_cons, List.length_nil]; omega
      go_wp2_with (first | (go_at_call 27; refine (wSign_any _ _ hxr.1 hxr.2).mono ?_; rintro e w1 ⟨rfl, hb1⟩) | (go_at_call 28; refine (rwSign_any _ _ hxr.1 hxr.2).mono ?_; rintro e w1 ⟨rfl, hb1⟩) | (at_builtin; refine wpList_app slT_i32 _ _ _ rfl rfl rfl rfl ((hown.below hb1).alloc _) (Row.ilit [_] [_] rfl (by simp)) HLb.out (by have := below_size2 hb hb1; simp; omega) ?_; intro t2 w2 hown2 hg2))
      go_roundw
      case rel => exact ⟨k + 1, by go_num, by omega, by rw [HU.out, ints_append]; exact hown2, below_app hb (hb1.alloc hb1.size _) ((hown.below hb1).alloc _) hg2⟩
      case measure => simp [intOf]; omega
    · go_wp2
      go_ret
      rw [List.take_of_length_le (by omega)] at hown
      exact ⟨_, rfl, hown, hb⟩

set_option maxRecDepth 100000 in
theorem alive10_any (w : World) : Calls Try.prog 29 #[] w fun e w' => e = .returned (.bool true) ∧ Below w.heap.size w w' := by
  have e1 : wput 8364 = (128, true) := by decide
  have e2 : wlayR [129] = ([], 9) := by decide
  have e3 : wput 129 = (0, false) := by decide
  have e4 : wsign 129 = 65533 := by decide
  have H1 := Lib.hid e1; have H2 := Lib.hid e2; have H3 := Lib.hid e3; have H4 := Lib.hid e4; clear e1 e2 e3 e4
  have hb := Below.refl w.heap.size w
  go_enter Try.func29, Try.ntmps29
  go_wp2_with fail
  refine (wPut_any 8364 _ (by omega) (by omega)).mono ?_
  rintro e w1 ⟨rfl, hb1⟩
  replace hb := (by first | exact below_trans hb hb1 | exact below_trans (hb.alloc hb.size _) hb1 | exact below_trans ((hb.alloc hb.size _).alloc (hb.alloc hb.size _).size _) hb1 : Below w.heap.size w _)
  rw [H1.out]
  go_wp2_with fail
  refine (wLay_any _ [129] _ (Row.ilit _ [_] rfl (by simp)) (by intro x hx; simp at hx; subst hx; decide) (by simp)).mono ?_
  rintro e w2 ⟨v2, rfl, ho2, hb2⟩
  replace hb := (by first | exact below_trans hb hb2 | exact below_trans (hb.alloc hb.size _) hb2 | exact below_trans ((hb.alloc hb.size _).alloc (hb.alloc hb.size _).size _) hb2 : Below w.heap.size w _)
  rw [H2.out]
  clear ho2 hb1 hb2
  go_wp2_with fail
  refine (wHas_any 129 _ (by omega) (by omega)).mono ?_
  rintro e w3 ⟨rfl, hb3⟩
  replace hb := (by first | exact below_trans hb hb3 | exact below_trans (hb.alloc hb.size _) hb3 | exact below_trans ((hb.alloc hb.size _).alloc (hb.alloc hb.size _).size _) hb3 : Below w.heap.size w _)
  rw [H3.out]
  clear hb3
  go_wp2_with fail
  refine (wSign_any 129 _ (by omega) (by omega)).mono ?_
  rintro e w4 ⟨rfl, hb4⟩
  replace hb := (by first | exact below_trans hb hb4 | exact below_trans (hb.alloc hb.size _) hb4 | exact below_trans ((hb.alloc hb.size _).alloc (hb.alloc hb.size _).size _) hb4 : Below w.heap.size w _)
  rw [H4.out]
  clear hb4
  go_wp2
  go_ret
  exact ⟨rfl, hb⟩

theorem WinoneOne_walk (c x : Int) (w : World) (hc : (Lit.int .i32 c).wf = true) (hx : (Lit.int .u8 x).wf = true) :
    Calls Try.prog 4 #[.int .i32 c, .int .u8 x] w fun e w' => e = .returned (.bool true) ∧ Below w.heap.size w w' := by
  have hcr := wf_i32 hc
  have hxr := wf_u8 hx
  clear hc hx
  have hA := fun w => wPut_any c w hcr.1 hcr.2
  have hB := fun w => rwPut_any c w hcr.1 hcr.2
  have hC := fun w => wHas_any c w hcr.1 hcr.2
  obtain ⟨q, hq⟩ : ∃ q, (wput c).1 = q := ⟨_, rfl⟩
  obtain ⟨p, hp⟩ : ∃ p, (wput c).2 = p := ⟨_, rfl⟩
  rw [hq, hp] at hA hB
  rw [hp] at hC
  have HA := Lib.hid hA; have HB := Lib.hid hB; have HC := Lib.hid hC; clear hA hB hC hq hp
  have hb := Below.refl w.heap.size w
  go_enter Try.func4, Try.ntmps4
  go_wp2_with fail
  refine (HA.out _).mono ?_
  rintro e w1 ⟨rfl, hb1⟩
  replace hb := (by first | exact below_trans hb hb1 | exact below_trans (hb.alloc hb.size _) hb1 | exact below_trans ((hb.alloc hb.size _).alloc (hb.alloc hb.size _).size _) hb1 : Below w.heap.size w _)
  go_wp2_with fail
  refine (HB.out _).mono ?_
  rintro e w2 ⟨rfl, hb2⟩
  replace hb := (by first | exact below_trans hb hb2 | exact below_trans (hb.alloc hb.size _) hb2 | exact below_trans ((hb.alloc hb.size _).alloc (hb.alloc hb.size _).size _) hb2 : Below w.heap.size w _)
  go_wp2_with fail
  refine (HC.out _).mono ?_
  rintro e w3 ⟨rfl, hb3⟩
  replace hb := (by first | exact below_trans hb hb3 | exact below_trans (hb.alloc hb.size _) hb3 | exact below_trans ((hb.alloc hb.size _).alloc (hb.alloc hb.size _).size _) hb3 : Below w.heap.size w _)
  go_wp2_with fail
  refine (wSign_any _ _ hxr.1 hxr.2).mono ?_
  rintro e w4 ⟨rfl, hb4⟩
  replace hb := (by first | exact below_trans hb hb4 | exact below_trans (hb.alloc hb.size _) hb4 | exact below_trans ((hb.alloc hb.size _).alloc (hb.alloc hb.size _).size _) hb4 : Below w.heap.size w _)
  go_wp2_with fail
  refine (rwSign_any _ _ hxr.1 hxr.2).mono ?_
  rintro e w5 ⟨rfl, hb5⟩
  replace hb := (by first | exact below_trans hb hb5 | exact below_trans (hb.alloc hb.size _) hb5 | exact below_trans ((hb.alloc hb.size _).alloc (hb.alloc hb.size _).size _) hb5 : Below w.heap.size w _)
  go_wp2_with fail
  refine (alive10_any _).mono ?_
  rintro e w6 ⟨rfl, hb6⟩
  replace hb := (by first | exact below_trans hb hb6 | exact below_trans (hb.alloc hb.size _) hb6 | exact below_trans ((hb.alloc hb.size _).alloc (hb.alloc hb.size _).size _) hb6 : Below w.heap.size w _)
  clear hb1 hb2 hb3 hb4 hb5 hb6
  go_wp2
  go_ret
  exact ⟨rfl, hb⟩

theorem wlayR_len (xs : List Int) : (wlayR xs).1.length ≤ xs.length := by unfold wlayR; split <;> simp
set_option maxRecDepth 100000 in
theorem WinoneTexts_walk (v0 : Value) (ts : List Int) (v1 : Value) (xs : List Int) (w : World) (h0 : Row w v0 (ints .i32 ts)) (g0 : WF .i32 ts) (h1 : Row w v1 (ints .u8 xs)) (g1 : WF .u8 xs) :
    Calls Try.prog 7 #[v0, v1] w fun e w' => e = .returned (.bool true) ∧ Below w.heap.size w w' := by
  obtain ⟨a, b, off, cap, rfl, _⟩ := id h0.op
  obtain ⟨a', b', off', cap', rfl, _⟩ := id h1.op
  by_cases hl : ts.length ≤ 300 ∧ xs.length ≤ 1000
  · obtain ⟨hl0, hl1⟩ := hl
    have g : Rg 0 256 xs := fun x hx => wf_u8 (g1 x hx)
    have hlen := wlayR_len ts
    have hA := fun w' h' => wLay_any (.slice a ts.length cap) ts w' h' g0 (by omega)
    have hB := fun w' h' => rwLay_any (.slice a ts.length cap) ts w' h' g0 (by omega)
    obtain ⟨q, hq⟩ : ∃ q, (wlayR ts).2 = q := ⟨_, rfl⟩
    obtain ⟨us, hu⟩ : ∃ us, (wlayR ts).1 = us := ⟨_, rfl⟩
    rw [hq, hu] at hA hB
    rw [hu] at hlen
    have HA := Lib.hid hA; have HB := Lib.hid hB; have HR := Lib.hid (wreadL_len xs)
    clear hA hB hq hu
    have hn1 : ¬ (300 : Int) < (ts.length : Int) := by omega
    have hn2 : ¬ (1000 : Int) < (xs.length : Int) := by omega
    have hb := Below.refl w.heap.size w
    go_enter Try.func7, Try.ntmps7
    go_wp2_with fail
    refine (HA.out _ h0).mono ?_
    rintro e w1 ⟨va, rfl, ho1, hb1⟩
    replace hb := (by first | exact below_trans hb hb1 | exact below_trans (hb.alloc hb.size _) hb1 | exact below_trans ((hb.alloc hb.size _).alloc (hb.alloc hb.size _).size _) hb1 : Below w.heap.size w _)
    go_wp2_with fail
    refine (HB.out _ (h0.below hb)).mono ?_
    rintro e w2 ⟨vb, rfl, ho2, hb2⟩
    replace hb := (by first | exact below_trans hb hb2 | exact below_trans (hb.alloc hb.size _) hb2 | exact below_trans ((hb.alloc hb.size _).alloc (hb.alloc hb.size _).size _) hb2 : Below w.heap.size w _)
    have r1 := ho1.row.below hb2
    have r2 := ho2.row
    clear ho1 ho2 hb1 hb2
    go_wp2_with fail
    refine (like1_any _ _ us us _ r1 r2 (by omega) (by omega)).mono ?_
    rintro e w3 ⟨rfl, hb3⟩
    replace hb := (by first | exact below_trans hb hb3 | exact below_trans (hb.alloc hb.size _) hb3 | exact below_trans ((hb.alloc hb.size _).alloc (hb.alloc hb.size _).size _) hb3 : Below w.heap.size w _)
    rw [decide_eq_true rfl]
    clear r1 r2 hb3
    go_wp2_with fail
    refine (wLacks_any _ ts _ (h0.below hb) g0 (by omega)).mono ?_
    rintro e w4 ⟨rfl, hb4⟩
    replace hb := (by first | exact below_trans hb hb4 | exact below_trans (hb.alloc hb.size _) hb4 | exact below_trans ((hb.alloc hb.size _).alloc (hb.alloc hb.size _).size _) hb4 : Below w.heap.size w _)
    go_wp2_with fail
    refine (rwLacks_any _ ts _ (h0.below hb) g0 (by omega)).mono ?_
    rintro e w5 ⟨rfl, hb5⟩
    replace hb := (by first | exact below_trans hb hb5 | exact below_trans (hb.alloc hb.size _) hb5 | exact below_trans ((hb.alloc hb.size _).alloc (hb.alloc hb.size _).size _) hb5 : Below w.heap.size w _)
    clear hb4 hb5
    go_wp2_with fail
    refine (wRead_any _ xs _ (h1.below hb) g (by omega)).mono ?_
    rintro e w6 ⟨vc, rfl, ho6, hb6⟩
    replace hb := (by first | exact below_trans hb hb6 | exact below_trans (hb.alloc hb.size _) hb6 | exact below_trans ((hb.alloc hb.size _).alloc (hb.alloc hb.size _).size _) hb6 : Below w.heap.size w _)
    go_wp2_with fail
    refine (rwRead_any _ xs _ (h1.below hb) g (by omega)).mono ?_
    rintro e w7 ⟨vd, rfl, ho7, hb7⟩
    replace hb := (by first | exact below_trans hb hb7 | exact below_trans (hb.alloc hb.size _) hb7 | exact below_trans ((hb.alloc hb.size _).alloc (hb.alloc hb.size _).size _) hb7 : Below w.heap.size w _)
    have r6 := ho6.row.below hb7
    have r7 := ho7.row
    clear ho6 ho7 hb6 hb7
    go_wp2_with fail
    refine (like3_any _ _ _ _ _ r6 r7 (by have := HR.out; omega) (by have := HR.out; omega)).mono ?_
    rintro e w8 ⟨rfl, hb8⟩
    replace hb := (by first | exact below_trans hb hb8 | exact below_trans (hb.alloc hb.size _) hb8 | exact below_trans ((hb.alloc hb.size _).alloc (hb.alloc hb.size _).size _) hb8 : Below w.heap.size w _)
    rw [decide_eq_true rfl]
    clear r6 r7 hb8
    go_wp2_with fail
    refine (alive10_any _).mono ?_
    rintro e w9 ⟨rfl, hb9⟩
    replace hb := (by first | exact below_trans hb hb9 | exact below_trans (hb.alloc hb.size _) hb9 | exact below_trans ((hb.alloc hb.size _).alloc (hb.alloc hb.size _).size _) hb9 : Below w.heap.size w _)
    clear hb9
    go_wp2
    go_ret
    exact ⟨rfl, hb⟩
  · rcases (by omega : 300 < ts.length ∨ (ts.length ≤ 300 ∧ 1000 < xs.length)) with hh | ⟨hh, hk⟩
    · have hn1 : (300 : Int) < (ts.length : Int) := by omega
      go_enter Try.func7, Try.ntmps7
      go_wp2_with fail
      refine (alive10_any _).mono ?_
      rintro e w7 ⟨rfl, hb7⟩
      go_wp2
      go_ret
      exact ⟨rfl, hb7⟩
    · have hn1 : ¬ (300 : Int) < (ts.length : Int) := by omega
      have hn2 : (1000 : Int) < (xs.length : Int) := by omega
      go_enter Try.func7, Try.ntmps7
      go_wp2_with fail
      refine (alive10_any _).mono ?_
      rintro e w7 ⟨rfl, hb7⟩
      go_wp2
      go_ret
      exact ⟨rfl, hb7⟩
end Go.Proofs.Ytbkhabnjefcmkaa
