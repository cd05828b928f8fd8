/- The toolkit, more: an append of a string's octets; four cells laid at once. (laid together by program out of single texts). -/
import Derived.Lib.AppendStr
import Derived.Test.YtnoffalohplhnaaDoorM4
import Derived.Test.YtnoffalohplhnaaDoorM5
import Derived.Test.YtnoffalohplhnaaDoorM11
namespace Go.Proofs.YtnoffalohplhnaaDoor
open Go.RowKit
theorem cell_new4 (w : World) (x0 x1 x2 x3 : Value) (E : TypeId) : (w.alloc (.cells #[x0, x1, x2, x3] E)).cell? ⟨w.heap.size, 0, none⟩ = some x0 ∧ (w.alloc (.cells #[x0, x1, x2, x3] E)).cell? ⟨w.heap.size, 1, none⟩ = some x1 ∧ (w.alloc (.cells #[x0, x1, x2, x3] E)).cell? ⟨w.heap.size, 2, none⟩ = some x2 ∧ (w.alloc (.cells #[x0, x1, x2, x3] E)).cell? ⟨w.heap.size, 3, none⟩ = some x3 := by
  refine ⟨?_, ?_, ?_, ?_⟩ <;> (rw [cell_of_row _ _ _ _ _ _ (heap_alloc_new w _)]; rfl)
theorem own_apnd {B : Nat} {E : TypeId} {w : World} {v : Value} {cs ds : List Value} (h : w.ownsRow B E 1 v (cs.length + ds.length) (cs ++ ds)) (h1 : ∀ u ∈ cs, u.oneCell' = true) (h2 : ∀ u ∈ ds, u.oneCell' = true) : Own B E w v (cs ++ ds) :=
  ⟨by rw [List.length_append]; exact h, fun u hu => by
    rcases List.mem_append.1 hu with hu | hu
    · exact h1 u hu
    · exact h2 u hu⟩
/-- append(s, str...): s owned, at octets. -/
theorem wp_appS {w : World} {o : Oper} {a : Act} {K : Act → World → Prop} {Q : Exit → Act → World → Prop} (B : Nat)
    (s x : Operand) (ho : o.op = .call { callee := .builtin .append, args := #[s, x], argTypes := #[23, 9] })
    {v : Value} {str : ByteArray} (hs : a.eval s = v) (hx : a.eval x = .string str) {cs : List Value} (hown : Own B 5 w v cs) (hb : cs.length + str.size ≤ 1000000000) (hB : B ≤ w.heap.size)
    (h : ∀ v' w', Own B 5 w' v' (cs ++ Lib.strCells str) → w.grownBy w' v.ownBlock → K (a.put o.dst v') w') : o.wp Tryd.prog a w K Q := by
  obtain ⟨i, hi, hz, hsize, hby⟩ := info_parts (P := Tryd.prog) (e := 5) (z := Value.int .u8 0) (size := 1) (bytes := 1) (by kernel_rfl)
  obtain ⟨v', w', hrun, hown', hg, _⟩ := Lib.run_append_own_string (P := Tryd.prog) (w := w) B 23 9 o.type 5 i Tryd.underlying23 Tryd.underlying9 hi hz hsize hby v cs.length cs hown.1 str (by unfold maxLen; omega) (by omega) hB
  unfold Oper.wp
  simp [execOp, ho, resolve, invoke, builtin, hs, hx, hrun, Result.andThen]
  exact h v' w' (own_apnd (by rw [Lib.strCells_length]; exact hown') hown.2 (Lib.strCells_oneCell str)) hg
theorem step_appS {w : World} {ops : Array Oper} {o : Oper} {a : Act} {K : Act → World → Prop} {Q : Exit → Act → World → Prop} {F : Prop} (B : Nat)
    (s x : Operand) (hg : Region.wanted o (yielded ops a.tmps) = true) (ho : o.op = .call { callee := .builtin .append, args := #[s, x], argTypes := #[23, 9] })
    {v : Value} {str : ByteArray} (hs : a.eval s = v) (hx : a.eval x = .string str) {cs : List Value} (hown : Own B 5 w v cs) (hb : cs.length + str.size ≤ 1000000000) (hB : B ≤ w.heap.size)
    (h : ∀ v' w', Own B 5 w' v' (cs ++ Lib.strCells str) → w.grownBy w' v.ownBlock → K (a.put o.dst v') w') : if Region.wanted o (yielded ops a.tmps) = true then Oper.wp Tryd.prog o a w K Q else F := by
  rw [if_pos hg]; exact wp_appS B s x ho hs hx hown hb hB h
end Go.Proofs.YtnoffalohplhnaaDoor
