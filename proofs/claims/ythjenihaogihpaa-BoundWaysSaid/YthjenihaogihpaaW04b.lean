/- Walks: UTF-8, putting one sign. -/
import Derived.Test.YthjenihaogihpaaW04
namespace Go.Proofs.Ythjenihaogihpaa
open Go.RowKit
set_option maxHeartbeats 1000000

def putR (bs : List Int) (c : Int) : List Int × Int := if scB c then (bs ++ octs c, 0) else ([], 7)
def lowI (z : Int) : Int := bits .or .u8 128 (bits .and .u8 z 63)
theorem lowI_eq {z : Int} (h0 : 0 ≤ z) (h1 : z < 256) : lowI z = 128 + z % 64 :=
  byte_all (P := fun z => bits .or .u8 128 (bits .and .u8 z 63) = 128 + z % 64) (by decide +kernel) h0 h1
theorem lead2 {z : Int} (h0 : 0 ≤ z) (h1 : z < 32) : bits .or .u8 192 z = 192 + z :=
  byte_all (P := fun z => z < 32 → bits .or .u8 192 z = 192 + z) (by decide +kernel) h0 (by omega) h1
theorem lead3 {z : Int} (h0 : 0 ≤ z) (h1 : z < 16) : bits .or .u8 224 z = 224 + z :=
  byte_all (P := fun z => z < 16 → bits .or .u8 224 z = 224 + z) (by decide +kernel) h0 (by omega) h1
theorem lead4 {z : Int} (h0 : 0 ≤ z) (h1 : z < 8) : bits .or .u8 240 z = 240 + z :=
  byte_all (P := fun z => z < 8 → bits .or .u8 240 z = 240 + z) (by decide +kernel) h0 (by omega) h1
theorem lead1 {z : Int} (h0 : 0 ≤ z) (h1 : z < 128) : bits .or .u8 0 z = z :=
  byte_all (P := fun z => z < 128 → bits .or .u8 0 z = z) (by decide +kernel) h0 (by omega) h1

theorem low_wrap {z : Int} (_h0 : 0 ≤ z) : bits .or .u8 128 (bits .and .u8 (IntKind.u8.wrap z) 63) = 128 + z % 64 := by
  have h1 : IntKind.u8.wrap z = z % 256 := by rw [IntKind.wrap_u8]
  rw [h1, show bits .or .u8 128 (bits .and .u8 (z % 256) 63) = lowI (z % 256) from rfl, lowI_eq (by omega) (by omega)]
  omega
theorem oPut_any (v : Value) (bs : List Int) (c : Int) (w : World) (h : Row w v (ints .u8 bs)) (hl : bs.length ≤ 1000000) (h0 : -2147483648 ≤ c) (h1 : c ≤ 2147483647) :
    Calls Try.prog 51 #[v, .int .i32 c] w fun e w' => ∃ t, e = .returned (.tuple #[t, .int .i64 (putR bs c).2]) ∧ Own w.heap.size 5 w' t (ints .u8 (putR bs c).1) ∧ Below w.heap.size w w' := by
  by_cases hs : scB c = true
  · rw [show putR bs c = (bs ++ octs c, 0) by rw [putR, if_pos hs]]
    have hb := scB_iff.1 hs
    by_cases h2 : c < 128
    · have hlen := fun w => oLen_any c w h0 h1
      rw [show ulenI c = 1 by rw [ulenI, if_pos hs, if_pos h2]] at hlen
      have ho : octs c = [c] := by rw [octs, if_pos hs, if_pos h2]
      have HO := Lib.hid ho; have HL := Lib.hid hlen; clear ho hlen hs
      have hw0 : IntKind.i64.wrap 0 = 0 := by decide
      go_enter Try.func51, Try.ntmps51
      go_wp2_with (go_at_call 53; refine (HL.out _).mono ?_; rintro e w' ⟨rfl, rfl⟩)
      go_region_held3 (fun _ => True) (trivial) (first | (go_at_call 46; refine (oclone_any _ _ _ (by first | exact h | exact h.drew) hl).mono ?_; rintro e w1 ⟨v1, rfl, ho1, hb1⟩) | (go_at_call 59; refine (olead_any _ _).mono ?_; rintro e w' ⟨rfl, rfl⟩) | (refine step_app slT_u8 w.heap.size _ _ (by rfl) (by rfl) (by rfl) (by rfl) (ho1.alloc _) (Row.ilit [_] [_] rfl (by simp)) (by simp only [ints_length, List.length_cons, List.length_nil]; omega) (by have := hb1.size; simp at this ⊢; omega) ?_; intro t2 w2 hown2 hg2; have hb1' : Below w.heap.size w w1 := (by first | exact hb1 | exact (Below.refl w.heap.size w).drew.trans hb1); have hb2 : Below w.heap.size w w2 := below_own (hb1'.alloc hb1'.size _) (ho1.alloc _) hg2 (by have := hb1.size; simp at this ⊢; omega) (Nat.le_refl _)))
      clear hg2 ho1 hb1 hb1'
      go_wp2_with (at_builtin; refine wpList_app slT_u8 _ _ _ rfl rfl rfl rfl (hown2.alloc _) (Row.ilit [_] [_] rfl (by simp)) (by simp only [List.length_append, ints_length, List.length_cons, List.length_nil]; omega) (by have := hb2.size; simp; omega) ?_; intro t3 w3 hown3 hg3; have hb3 := below_app hb2 (below_alloc _ _) (hown2.alloc _) hg3; replace hown2 := hown3; replace hb2 := hb3; clear hown3 hb3 hg3)
      go_ret2
      refine ⟨_, rfl, ?_, hb2⟩
      have hf : IntKind.u8.wrap (c) = c := IntWalk.u8_in _ (by omega)
      have hld : leadI 1 = 0 := rfl
      rw [hf, hld] at hown2
      rw [HO.out]
      rw [(lead1 (z := c) hb.1 h2)] at hown2
      simpa [ints] using hown2
    · by_cases h3 : c < 2048
      · have hlen := fun w => oLen_any c w h0 h1
        rw [show ulenI c = 2 by rw [ulenI, if_pos hs, if_neg h2, if_pos h3]] at hlen
        have ho : octs c = [192 + c / 64, 128 + c % 64] := by rw [octs, if_pos hs, if_neg h2, if_pos h3]
        have HO := Lib.hid ho; have HL := Lib.hid hlen; clear ho hlen hs
        have hw1 : IntKind.i64.wrap 1 = 1 := by decide
        have hw6 : IntKind.i64.wrap 6 = 6 := by decide
        go_enter Try.func51, Try.ntmps51
        go_wp2_with (go_at_call 53; refine (HL.out _).mono ?_; rintro e w' ⟨rfl, rfl⟩)
        go_region_held3 (fun _ => True) (trivial) (first | (go_at_call 46; refine (oclone_any _ _ _ (by first | exact h | exact h.drew) hl).mono ?_; rintro e w1 ⟨v1, rfl, ho1, hb1⟩) | (go_at_call 59; refine (olead_any _ _).mono ?_; rintro e w' ⟨rfl, rfl⟩) | (refine step_app slT_u8 w.heap.size _ _ (by rfl) (by rfl) (by rfl) (by rfl) (ho1.alloc _) (Row.ilit [_] [_] rfl (by simp)) (by simp only [ints_length, List.length_cons, List.length_nil]; omega) (by have := hb1.size; simp at this ⊢; omega) ?_; intro t2 w2 hown2 hg2; have hb1' : Below w.heap.size w w1 := (by first | exact hb1 | exact (Below.refl w.heap.size w).drew.trans hb1); have hb2 : Below w.heap.size w w2 := below_own (hb1'.alloc hb1'.size _) (ho1.alloc _) hg2 (by have := hb1.size; simp at this ⊢; omega) (Nat.le_refl _)))
        clear hg2 ho1 hb1 hb1'
        go_wp2_with (at_builtin; refine wpList_app slT_u8 _ _ _ rfl rfl rfl rfl (hown2.alloc _) (Row.ilit [_] [_] rfl (by simp)) (by simp only [List.length_append, ints_length, List.length_cons, List.length_nil]; omega) (by have := hb2.size; simp; omega) ?_; intro t3 w3 hown3 hg3; have hb3 := below_app hb2 (below_alloc _ _) (hown2.alloc _) hg3; replace hown2 := hown3; replace hb2 := hb3; clear hown3 hb3 hg3)
        go_ret2
        refine ⟨_, rfl, ?_, hb2⟩
        have hf : IntKind.u8.wrap (c / 64) = c / 64 := IntWalk.u8_in _ (by omega)
        have hld : leadI 2 = 192 := rfl
        rw [hf, hld] at hown2
        rw [HO.out]
        rw [(lead2 (z := c / 64) (by omega) (by omega))] at hown2
        simpa [ints] using hown2
      · by_cases h4 : c < 65536
        · have hlen := fun w => oLen_any c w h0 h1
          rw [show ulenI c = 3 by rw [ulenI, if_pos hs, if_neg h2, if_neg h3, if_pos h4]] at hlen
          have ho : octs c = [224 + c / 4096, 128 + c / 64 % 64, 128 + c % 64] := by rw [octs, if_pos hs, if_neg h2, if_neg h3, if_pos h4]
          have HO := Lib.hid ho; have HL := Lib.hid hlen; clear ho hlen hs
          have hw2 : IntKind.i64.wrap 2 = 2 := by decide
          have hw12 : IntKind.i64.wrap 12 = 12 := by decide
          go_enter Try.func51, Try.ntmps51
          go_wp2_with (go_at_call 53; refine (HL.out _).mono ?_; rintro e w' ⟨rfl, rfl⟩)
          go_region_held3 (fun _ => True) (trivial) (first | (go_at_call 46; refine (oclone_any _ _ _ (by first | exact h | exact h.drew) hl).mono ?_; rintro e w1 ⟨v1, rfl, ho1, hb1⟩) | (go_at_call 59; refine (olead_any _ _).mono ?_; rintro e w' ⟨rfl, rfl⟩) | (refine step_app slT_u8 w.heap.size _ _ (by rfl) (by rfl) (by rfl) (by rfl) (ho1.alloc _) (Row.ilit [_] [_] rfl (by simp)) (by simp only [ints_length, List.length_cons, List.length_nil]; omega) (by have := hb1.size; simp at this ⊢; omega) ?_; intro t2 w2 hown2 hg2; have hb1' : Below w.heap.size w w1 := (by first | exact hb1 | exact (Below.refl w.heap.size w).drew.trans hb1); have hb2 : Below w.heap.size w w2 := below_own (hb1'.alloc hb1'.size _) (ho1.alloc _) hg2 (by have := hb1.size; simp at this ⊢; omega) (Nat.le_refl _)))
          clear hg2 ho1 hb1 hb1'
          go_wp2_with (at_builtin; refine wpList_app slT_u8 _ _ _ rfl rfl rfl rfl (hown2.alloc _) (Row.ilit [_] [_] rfl (by simp)) (by simp only [List.length_append, ints_length, List.length_cons, List.length_nil]; omega) (by have := hb2.size; simp; omega) ?_; intro t3 w3 hown3 hg3; have hb3 := below_app hb2 (below_alloc _ _) (hown2.alloc _) hg3; replace hown2 := hown3; replace hb2 := hb3; clear hown3 hb3 hg3)
          go_ret2
          refine ⟨_, rfl, ?_, hb2⟩
          have hf : IntKind.u8.wrap (c / 4096) = c / 4096 := IntWalk.u8_in _ (by omega)
          have hld : leadI 3 = 224 := rfl
          rw [hf, hld] at hown2
          rw [HO.out]
          rw [(lead3 (z := c / 4096) (by omega) (by omega))] at hown2
          simpa [ints] using hown2
        · have hlen := fun w => oLen_any c w h0 h1
          rw [show ulenI c = 4 by rw [ulenI, if_pos hs, if_neg h2, if_neg h3, if_neg h4]] at hlen
          have ho : octs c = [240 + c / 262144, 128 + c / 4096 % 64, 128 + c / 64 % 64, 128 + c % 64] := by rw [octs, if_pos hs, if_neg h2, if_neg h3, if_neg h4]
          have HO := Lib.hid ho; have HL := Lib.hid hlen; clear ho hlen hs
          have hw3 : IntKind.i64.wrap 3 = 3 := by decide
          have hw18 : IntKind.i64.wrap 18 = 18 := by decide
          go_enter Try.func51, Try.ntmps51
          go_wp2_with (go_at_call 53; refine (HL.out _).mono ?_; rintro e w' ⟨rfl, rfl⟩)
          go_region_held3 (fun _ => True) (trivial) (first | (go_at_call 46; refine (oclone_any _ _ _ (by first | exact h | exact h.drew) hl).mono ?_; rintro e w1 ⟨v1, rfl, ho1, hb1⟩) | (go_at_call 59; refine (olead_any _ _).mono ?_; rintro e w' ⟨rfl, rfl⟩) | (refine step_app slT_u8 w.heap.size _ _ (by rfl) (by rfl) (by rfl) (by rfl) (ho1.alloc _) (Row.ilit [_] [_] rfl (by simp)) (by simp only [ints_length, List.length_cons, List.length_nil]; omega) (by have := hb1.size; simp at this ⊢; omega) ?_; intro t2 w2 hown2 hg2; have hb1' : Below w.heap.size w w1 := (by first | exact hb1 | exact (Below.refl w.heap.size w).drew.trans hb1); have hb2 : Below w.heap.size w w2 := below_own (hb1'.alloc hb1'.size _) (ho1.alloc _) hg2 (by have := hb1.size; simp at this ⊢; omega) (Nat.le_refl _)))
          clear hg2 ho1 hb1 hb1'
          go_wp2_with (at_builtin; refine wpList_app slT_u8 _ _ _ rfl rfl rfl rfl (hown2.alloc _) (Row.ilit [_] [_] rfl (by simp)) (by simp only [List.length_append, ints_length, List.length_cons, List.length_nil]; omega) (by have := hb2.size; simp; omega) ?_; intro t3 w3 hown3 hg3; have hb3 := below_app hb2 (below_alloc _ _) (hown2.alloc _) hg3; replace hown2 := hown3; replace hb2 := hb3; clear hown3 hb3 hg3)
          go_ret2
          refine ⟨_, rfl, ?_, hb2⟩
          have hf : IntKind.u8.wrap (c / 262144) = c / 262144 := IntWalk.u8_in _ (by omega)
          have hld : leadI 4 = 240 := rfl
          rw [hf, hld] at hown2
          rw [HO.out]
          rw [(lead4 (z := c / 262144) (by omega) (by omega))] at hown2
          simpa [ints] using hown2
  · rw [show putR bs c = ([], 7) by rw [putR, if_neg hs]]
    have hlen := fun w => oLen_any c w h0 h1
    rw [show ulenI c = 0 by rw [ulenI, if_neg hs]] at hlen
    have HL := Lib.hid hlen; clear hlen hs
    go_enter Try.func51, Try.ntmps51
    go_wp2_with (go_at_call 53; refine (HL.out _).mono ?_; rintro e w' ⟨rfl, rfl⟩)
    go_ret2
    exact ⟨_, rfl, Own.nil _ _ _, Below.refl _ _⟩
end Go.Proofs.Ythjenihaogihpaa
