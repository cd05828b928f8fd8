/- The statements of layer 5, walked. -/
import Derived.Test.YthjenihaogihpaaW05b
import Derived.Test.YthjenihaogihpaaL0
namespace Go.Proofs.Ythjenihaogihpaa
open Go.RowKit
set_option maxHeartbeats 1000000

set_option maxRecDepth 100000 in
theorem alive05_any (w : World) : Calls Try.prog 11 #[] w fun e w' => e = .returned (.bool true) ∧ Below w.heap.size w w' := by
  have t1 : takeR [255, 65] = (0, 1, 3) := by decide
  have t2 : takeR [65] = (65, 1, 0) := by decide
  have t3 : takeR [65, 195] = (65, 1, 0) := by decide
  have t4 : takeR [195] = (0, 1, 4) := by decide
  have e1 : etext [255, 65] = [65533, 65] := by
    rw [etext, eread_cons, t1, show ([255, 65] : List Int).drop (1 : Int).toNat = [65] from rfl, eread_cons, t2, show ([65] : List Int).drop (1 : Int).toNat = [] from rfl, eread_nil]; rfl
  have e2 : eerr [65, 195] = 4 := by
    rw [eerr, eread_cons, t3, show ([65, 195] : List Int).drop (1 : Int).toNat = [195] from rfl, eread_cons, t4, show ([195] : List Int).drop (1 : Int).toNat = [] from rfl, eread_nil]; rfl
  have e3 : elen [65533, 65] = 4 := by decide
  have H1 := Lib.hid e1; have H2 := Lib.hid e2; have H3 := Lib.hid e3; clear e1 e2 e3 t1 t2 t3 t4
  have hb := Below.refl w.heap.size w
  go_enter Try.func11, Try.ntmps11
  go_wp2_with fail
  refine (eRead_any _ [255, 65] _ (Row.ilit _ [_, _] rfl (by simp)) (by intro x hx; simp at hx; omega) (by simp)).mono ?_
  rintro e w1 ⟨v1, rfl, ho1, hb1⟩
  replace hb := (by first | exact below_trans hb hb1 | exact below_trans (hb.alloc hb.size _) hb1 | exact below_trans ((hb.alloc hb.size _).alloc (hb.alloc hb.size _).size _) hb1 : Below w.heap.size w _)
  rw [H1.out] at ho1
  have r1 := ho1.row
  clear ho1 hb1
  go_wp2_with fail
  refine (eStrict_any _ [65, 195] _ (Row.ilit _ [_, _] rfl (by simp)) (by intro x hx; simp at hx; omega) (by simp)).mono ?_
  rintro e w2 ⟨v2, rfl, ho2, hb2⟩
  replace hb := (by first | exact below_trans hb hb2 | exact below_trans (hb.alloc hb.size _) hb2 | exact below_trans ((hb.alloc hb.size _).alloc (hb.alloc hb.size _).size _) hb2 : Below w.heap.size w _)
  rw [H2.out]
  replace r1 := (r1.alloc _).below hb2
  clear ho2 hb2
  obtain ⟨a1, b1, o1, c1, rfl, C1⟩ := id r1.op
  obtain ⟨x, hx, rfl, d1⟩ := C1.out 0 (by simp)
  obtain ⟨x', hx', _, d2⟩ := C1.out 1 (by simp)
  obtain rfl : x = 65533 := by have := hx.out; simpa using this.symm
  obtain rfl : x' = 65 := by have := hx'.out; simpa using this.symm
  replace d1 : w2.cell? ⟨b1, o1, none⟩ = some (.int .i32 65533) := by simpa using d1 _ (Below.refl _ _)
  replace d2 := d2 _ (Below.refl _ _)
  clear hx hx' C1
  go_wp2_with fail
  refine (eLen_any _ [65533, 65] _ r1 (by intro x hx; simp at hx; omega) (by simp)).mono ?_
  rintro e w' ⟨rfl, rfl⟩
  rw [H3.out]
  go_wp2
  go_ret
  exact ⟨rfl, hb⟩

set_option maxRecDepth 100000 in
theorem UtfallLays_walk (v : Value) (ts : List Int) (w : World) (h : Row w v (ints .i32 ts)) (g : WF .i32 ts) :
    Calls Try.prog 8 #[v] w fun e w' => e = .returned (.bool true) ∧ Below w.heap.size w w' := by
  obtain ⟨a, b, off, cap, rfl, _⟩ := id h.op
  have hb := Below.refl w.heap.size w
  by_cases hl : ts.length ≤ 500
  · have hg1 : ¬ (500 : Int) < (ts.length : Int) := by omega
    have hA := fun w' h' => eLay_any (.slice a ts.length cap) ts w' h' g.i32 (by omega)
    have hB := fun w' h' => reLay_any (.slice a ts.length cap) ts w' h' g.i32 (by omega)
    have hlen : (elayR ts).1.length ≤ 4 * ts.length := by unfold elayR; split; exact elay_len ts; simp
    generalize elayR ts = t at *
    obtain ⟨us, q⟩ := t
    simp only [] at hA hB hlen
    have HA := Lib.hid hA; have HB := Lib.hid hB
    clear hA hB
    go_enter Try.func8, Try.ntmps8
    go_wp2_with fail
    refine (HA.out _ h).mono ?_
    rintro e w1 ⟨v1, rfl, ho1, hb1⟩
    replace hb := (by first | exact below_trans hb hb1 | exact below_trans (hb.alloc hb.size _) hb1 | exact below_trans ((hb.alloc hb.size _).alloc (hb.alloc hb.size _).size _) hb1 : Below w.heap.size w _)
    go_wp2_with fail
    refine (HB.out _ (h.below hb)).mono ?_
    rintro e w2 ⟨v2, rfl, ho2, hb2⟩
    replace hb := (by first | exact below_trans hb hb2 | exact below_trans (hb.alloc hb.size _) hb2 | exact below_trans ((hb.alloc hb.size _).alloc (hb.alloc hb.size _).size _) hb2 : Below w.heap.size w _)
    have r1 := ho1.row.below hb2
    have r2 := ho2.row
    clear ho1 ho2 hb1 hb2
    go_wp2_with fail
    refine (like1_any _ _ us us _ r1 r2 (by omega) (by omega)).mono ?_
    rintro e w3 ⟨rfl, hb3⟩
    replace hb := (by first | exact below_trans hb hb3 | exact below_trans (hb.alloc hb.size _) hb3 | exact below_trans ((hb.alloc hb.size _).alloc (hb.alloc hb.size _).size _) hb3 : Below w.heap.size w _)
    rw [decide_eq_true rfl]
    clear r1 r2 hb3
    go_wp2_with fail
    refine (eLen_any _ ts _ (h.below hb) g.i32 (by omega)).mono ?_
    rintro e w' ⟨rfl, rfl⟩
    go_wp2_with fail
    refine (reLen_any _ ts _ (h.below hb) g.i32 (by omega)).mono ?_
    rintro e w4 ⟨rfl, hb4⟩
    replace hb := (by first | exact below_trans hb hb4 | exact below_trans (hb.alloc hb.size _) hb4 | exact below_trans ((hb.alloc hb.size _).alloc (hb.alloc hb.size _).size _) hb4 : Below w.heap.size w _)
    go_wp2_with fail
    refine (alive05_any _).mono ?_
    rintro e w5 ⟨rfl, hb5⟩
    replace hb := (by first | exact below_trans hb hb5 | exact below_trans (hb.alloc hb.size _) hb5 | exact below_trans ((hb.alloc hb.size _).alloc (hb.alloc hb.size _).size _) hb5 : Below w.heap.size w _)
    clear hb4 hb5
    go_wp2
    go_ret
    exact ⟨rfl, hb⟩
  · have hg1 : (500 : Int) < (ts.length : Int) := by omega
    go_enter Try.func8, Try.ntmps8
    go_wp2_with fail
    refine (alive05_any _).mono ?_
    rintro e w5 ⟨rfl, hb5⟩
    replace hb := (by first | exact below_trans hb hb5 | exact below_trans (hb.alloc hb.size _) hb5 | exact below_trans ((hb.alloc hb.size _).alloc (hb.alloc hb.size _).size _) hb5 : Below w.heap.size w _)
    go_wp2
    go_ret
    exact ⟨rfl, hb⟩

set_option maxRecDepth 100000 in
theorem UtfallReads_walk (v : Value) (xs : List Int) (w : World) (h : Row w v (ints .u8 xs)) (g : WF .u8 xs) :
    Calls Try.prog 3 #[v] w fun e w' => e = .returned (.bool true) ∧ Below w.heap.size w w' := by
  obtain ⟨a, b, off, cap, rfl, _⟩ := id h.op
  have hb := Below.refl w.heap.size w
  by_cases hl : xs.length ≤ 1000
  · have hg1 : ¬ (1000 : Int) < (xs.length : Int) := by omega
    have hlen := eread_len xs
    have hA := fun w' h' => reRead_any (.slice a xs.length cap) xs w' h' g.b (by omega)
    have hS := fun w' h' => eStrict_any (.slice a xs.length cap) xs w' h' g.b (by omega)
    have hR := fun w' h' => eRead_any (.slice a xs.length cap) xs w' h' g.b (by omega)
    have hC := fun w' h' => eCount_any (.slice a xs.length cap) xs w' h' g.b (by omega)
    have hK := fun w' h' => eBroken_any (.slice a xs.length cap) xs w' h' g.b (by omega)
    have hT := fun w' h' => eRight_any (.slice a xs.length cap) xs w' h' g.b (by omega)
    rw [← etext_len] at hC hlen
    generalize etext xs = ts at *
    generalize eerr xs = q at *
    generalize ((ebad xs : Nat) : Int) = m at *
    have HA := Lib.hid hA; have HS := Lib.hid hS; have HR := Lib.hid hR; have HC := Lib.hid hC; have HK := Lib.hid hK; have HT := Lib.hid hT
    clear hA hS hR hC hK hT
    rcases (by omega : q = 0 ∨ q ≠ 0) with hq | hq
    case' inl =>
      subst hq
      go_enter Try.func3, Try.ntmps3
      go_wp2_with fail
      refine (HA.out _ h).mono ?_
      rintro e w1 ⟨v1, rfl, ho1, hb1⟩
      replace hb := (by first | exact below_trans hb hb1 | exact below_trans (hb.alloc hb.size _) hb1 | exact below_trans ((hb.alloc hb.size _).alloc (hb.alloc hb.size _).size _) hb1 : Below w.heap.size w _)
      go_wp2_with fail
      refine (HS.out _ (h.below hb)).mono ?_
      rintro e w2 ⟨v2, rfl, ho2, hb2⟩
      replace hb := (by first | exact below_trans hb hb2 | exact below_trans (hb.alloc hb.size _) hb2 | exact below_trans ((hb.alloc hb.size _).alloc (hb.alloc hb.size _).size _) hb2 : Below w.heap.size w _)
      rw [strictL, if_pos rfl] at ho2
      have r1 := ho1.row.below hb2
      have r2 := ho2.row
      clear ho1 ho2 hb1 hb2
      go_wp2_with fail
      refine (like3_any _ _ ts ts _ r2 r1 (by omega) (by omega)).mono ?_
      rintro e w3 ⟨rfl, hb3⟩
      replace hb := (by first | exact below_trans hb hb3 | exact below_trans (hb.alloc hb.size _) hb3 | exact below_trans ((hb.alloc hb.size _).alloc (hb.alloc hb.size _).size _) hb3 : Below w.heap.size w _)
      rw [decide_eq_true rfl]
      replace r1 := r1.below hb3
      clear hb3 r2
    case' inr =>
      have hq1 : (q == 0) = false := by simpa using hq
      have hq2 : (q != 0) = true := by simpa using hq
      have HQ := Lib.hid hq; clear hq
      go_enter Try.func3, Try.ntmps3
      go_wp2_with fail
      refine (HA.out _ h).mono ?_
      rintro e w1 ⟨v1, rfl, ho1, hb1⟩
      replace hb := (by first | exact below_trans hb hb1 | exact below_trans (hb.alloc hb.size _) hb1 | exact below_trans ((hb.alloc hb.size _).alloc (hb.alloc hb.size _).size _) hb1 : Below w.heap.size w _)
      go_wp2_with fail
      refine (HS.out _ (h.below hb)).mono ?_
      rintro e w3 ⟨v2, rfl, ho2, hb2⟩
      replace hb := (by first | exact below_trans hb hb2 | exact below_trans (hb.alloc hb.size _) hb2 | exact below_trans ((hb.alloc hb.size _).alloc (hb.alloc hb.size _).size _) hb2 : Below w.heap.size w _)
      rw [strictL, if_neg HQ.out] at ho2
      have r1 := ho1.row.below hb2
      have r2 := ho2.row
      clear ho1 ho2 hb1 hb2
      obtain ⟨a2, b2, o2, c2, rfl, _⟩ := r2.op
      clear r2
    all_goals
      obtain ⟨a1, b1, o1, c1, rfl, _⟩ := id r1.op
      go_wp2_with fail
      refine (HR.out _ (h.below hb)).mono ?_
      rintro e w4 ⟨v4, rfl, ho4, hb4⟩
      replace hb := (by first | exact below_trans hb hb4 | exact below_trans (hb.alloc hb.size _) hb4 | exact below_trans ((hb.alloc hb.size _).alloc (hb.alloc hb.size _).size _) hb4 : Below w.heap.size w _)
      replace r1 := r1.below hb4
      have r4 := ho4.row
      clear ho4 hb4
      go_wp2_with fail
      refine (like3_any _ _ ts ts _ r4 r1 (by omega) (by omega)).mono ?_
      rintro e w5 ⟨rfl, hb5⟩
      replace hb := (by first | exact below_trans hb hb5 | exact below_trans (hb.alloc hb.size _) hb5 | exact below_trans ((hb.alloc hb.size _).alloc (hb.alloc hb.size _).size _) hb5 : Below w.heap.size w _)
      rw [decide_eq_true rfl]
      clear r4 r1 hb5
      go_wp2_with fail
      refine (HC.out _ (h.below hb)).mono ?_
      rintro e w6 ⟨rfl, hb6⟩
      replace hb := (by first | exact below_trans hb hb6 | exact below_trans (hb.alloc hb.size _) hb6 | exact below_trans ((hb.alloc hb.size _).alloc (hb.alloc hb.size _).size _) hb6 : Below w.heap.size w _)
      go_wp2_with fail
      refine (HK.out _ (h.below hb)).mono ?_
      rintro e w7 ⟨rfl, hb7⟩
      replace hb := (by first | exact below_trans hb hb7 | exact below_trans (hb.alloc hb.size _) hb7 | exact below_trans ((hb.alloc hb.size _).alloc (hb.alloc hb.size _).size _) hb7 : Below w.heap.size w _)
      go_wp2_with fail
      refine (HT.out _ (h.below hb)).mono ?_
      rintro e w8 ⟨rfl, hb8⟩
      replace hb := (by first | exact below_trans hb hb8 | exact below_trans (hb.alloc hb.size _) hb8 | exact below_trans ((hb.alloc hb.size _).alloc (hb.alloc hb.size _).size _) hb8 : Below w.heap.size w _)
      go_wp2_with fail
      refine (alive05_any _).mono ?_
      rintro e w9 ⟨rfl, hb9⟩
      replace hb := (by first | exact below_trans hb hb9 | exact below_trans (hb.alloc hb.size _) hb9 | exact below_trans ((hb.alloc hb.size _).alloc (hb.alloc hb.size _).size _) hb9 : Below w.heap.size w _)
      clear hb6 hb7 hb8 hb9
      go_wp2
      go_ret
      exact ⟨rfl, hb⟩
  · have hg1 : (1000 : Int) < (xs.length : Int) := by omega
    go_enter Try.func3, Try.ntmps3
    go_wp2_with fail
    refine (alive05_any _).mono ?_
    rintro e w5 ⟨rfl, hb5⟩
    replace hb := (by first | exact below_trans hb hb5 | exact below_trans (hb.alloc hb.size _) hb5 | exact below_trans ((hb.alloc hb.size _).alloc (hb.alloc hb.size _).size _) hb5 : Below w.heap.size w _)
    go_wp2
    go_ret
    exact ⟨rfl, hb⟩
end Go.Proofs.Ythjenihaogihpaa
