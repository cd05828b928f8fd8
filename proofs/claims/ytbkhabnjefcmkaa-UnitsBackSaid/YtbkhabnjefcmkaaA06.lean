/- Walks: the statements' own examples of layer 6. -/
import Derived.Test.YtbkhabnjefcmkaaW6
namespace Go.Proofs.Ytbkhabnjefcmkaa
open Go.RowKit
set_option maxHeartbeats 400000

set_option maxRecDepth 100000 in
theorem alive06_any (w : World) : Calls Try.prog 14 #[] w fun e w' => e = .returned (.bool true) ∧ Below w.heap.size w w' := by
  have e1 : uof 128512 = [55357, 56832] := by decide
  have e2 : (uread [56320, 65]).map Prod.fst = [65533, 65] := by rw [uread_lo _ (by decide), uread_bmp _ (by decide) (by decide), uread_nil]; rfl
  have H1 := Lib.hid e1; clear e1
  have H2 := Lib.hid e2; clear e2
  go_enter Try.func14, Try.ntmps14
  go_wp2_with fail
  refine (uof_any 128512 _ (by omega) (by omega)).mono ?_
  rintro e w1 ⟨v1, rfl, ho1, hb1⟩
  rw [H1.out] at ho1
  go_wp2_with fail
  refine (uRead_any _ [56320, 65] _ (Row.ilit _ [_, _] rfl (by simp)) (by intro x hx; simp at hx; omega) (by simp)).mono ?_
  rintro e w2 ⟨v2, rfl, ho2, hb2⟩
  rw [H2.out] at ho2
  have hb := below_trans (hb1.alloc hb1.size _) hb2
  have r1 := (ho1.alloc (.cells #[.int .u16 56320, .int .u16 65] 31)).row.below hb2
  have r2 := ho2.row
  clear ho1 ho2 hb1 hb2
  obtain ⟨a1, b1, o1, c1, rfl, C1⟩ := r1.op
  obtain ⟨a2, b2, o2, c2, rfl, C2⟩ := r2.op
  clear r1 r2
  obtain ⟨x, hx, rfl, d1⟩ := C1.out 0 (by simp)
  obtain ⟨x', hx', _, d2⟩ := C1.out 1 (by simp)
  obtain ⟨y, hy, rfl, d3⟩ := C2.out 0 (by simp)
  obtain ⟨y', hy', _, d4⟩ := C2.out 1 (by simp)
  obtain rfl : x = 55357 := by have := hx.out; simpa using this.symm
  obtain rfl : x' = 56832 := by have := hx'.out; simpa using this.symm
  obtain rfl : y = 65533 := by have := hy.out; simpa using this.symm
  obtain rfl : y' = 65 := by have := hy'.out; simpa using this.symm
  replace d1 : w2.cell? ⟨b1, o1, none⟩ = some (.int .u16 55357) := by simpa using d1 _ (Below.refl _ _)
  replace d2 := d2 _ (Below.refl _ _)
  replace d3 : w2.cell? ⟨b2, o2, none⟩ = some (.int .i32 65533) := by simpa using d3 _ (Below.refl _ _)
  replace d4 := d4 _ (Below.refl _ _)
  clear hx hx' hy hy' C1 C2
  go_wp2
  go_ret
  exact ⟨rfl, hb⟩
end Go.Proofs.Ytbkhabnjefcmkaa
