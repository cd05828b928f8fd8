/- Walks: UTF-8, the statements' own example. -/
import Derived.Test.YtbkhabnjefcmkaaW04e
namespace Go.Proofs.Ytbkhabnjefcmkaa
open Go.RowKit
set_option maxHeartbeats 1000000

set_option maxRecDepth 100000 in
theorem alive04_any (w : World) : Calls Try.prog 47 #[] w fun e w' => e = .returned (.bool true) ∧ Below w.heap.size w w' := by
  have e1 : putR [] 8364 = ([226, 130, 172], 0) := by decide
  have e2 : takeR [226, 130, 172] = (8364, 3, 0) := by decide
  have e3 : subR (takeR [226, 130, 65]) = 2 := by decide
  have H1 := Lib.hid e1; have H2 := Lib.hid e2; have H3 := Lib.hid e3; clear e1 e2 e3
  have hb := Below.refl w.heap.size w
  go_enter Try.func47, Try.ntmps47
  go_wp2_with fail
  refine (oPut_any _ [] 8364 _ (Row.nil _) (by simp) (by omega) (by omega)).mono ?_
  rintro e w1 ⟨v1, rfl, ho1, hb1⟩
  replace hb := (by first | exact below_trans hb hb1 | exact below_trans (hb.alloc hb.size _) hb1 | exact below_trans ((hb.alloc hb.size _).alloc (hb.alloc hb.size _).size _) hb1 : Below w.heap.size w _)
  rw [H1.out] at ho1 ⊢
  have r1 := ho1.row
  clear ho1 hb1
  go_wp2_with fail
  refine (oTake_any _ [226, 130, 172] _ r1 (by intro x hx; simp at hx; omega) (by simp)).mono ?_
  rintro e w2 ⟨rfl, hb2⟩
  replace hb := (by first | exact below_trans hb hb2 | exact below_trans (hb.alloc hb.size _) hb2 | exact below_trans ((hb.alloc hb.size _).alloc (hb.alloc hb.size _).size _) hb2 : Below w.heap.size w _)
  rw [H2.out]
  replace r1 := r1.below hb2
  clear hb2
  obtain ⟨a1, b1, o1, c1, rfl, C1⟩ := r1.op
  obtain ⟨x, hx, rfl, d1⟩ := C1.out 0 (by simp)
  obtain ⟨x', hx', _, d2⟩ := C1.out 1 (by simp)
  obtain ⟨y, hy, _, d3⟩ := C1.out 2 (by simp)
  obtain rfl : x = 226 := by have := hx.out; simpa using this.symm
  obtain rfl : x' = 130 := by have := hx'.out; simpa using this.symm
  obtain rfl : y = 172 := by have := hy.out; simpa using this.symm
  replace d1 : w2.cell? ⟨b1, o1, none⟩ = some (.int .u8 226) := by simpa using d1 _ (Below.refl _ _)
  replace d2 := d2 _ (Below.refl _ _)
  replace d3 := d3 _ (Below.refl _ _)
  clear hx hx' hy C1 r1
  have hcv := run_convert_bytes_arg w2 40 5 Try.underlying40 Try.underlying5 b1 o1 3 c1 [226, 130, 172] rfl (by
    intro i hi
    rcases (by omega : i = 0 ∨ i = 1 ∨ i = 2) with rfl | rfl | rfl
    · exact d1
    · exact d2
    · exact d3) 9 Try.underlying9
  rw [show strOfNums [226, 130, 172] = ⟨#[226, 130, 172]⟩ from rfl] at hcv
  clear d1 d2 d3
  have kc := fun (w : World) (C : Array Value) (n c : Nat) => Lib.run_convert_bytes_const (P := Try.prog) w 40 5 C n c Try.underlying40 Try.underlying5
  go_wp2_with fail
  refine (oSub_any _ [226, 130, 65] _ (Row.flit _ [_, _, _] rfl (by simp)) (by intro x hx; simp at hx; omega) (by simp)).mono ?_
  rintro e w3 ⟨rfl, hb3⟩
  replace hb := (by first | exact below_trans hb hb3 | exact below_trans (hb.alloc hb.size _) hb3 | exact below_trans ((hb.alloc hb.size _).alloc (hb.alloc hb.size _).size _) hb3 : Below w.heap.size w _)
  rw [H3.out]
  clear hb3 hcv kc
  go_wp2
  go_ret
  exact ⟨rfl, hb⟩
end Go.Proofs.Ytbkhabnjefcmkaa
