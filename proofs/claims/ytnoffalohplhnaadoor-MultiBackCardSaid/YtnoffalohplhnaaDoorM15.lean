/- The toolkit, more: an append onto a literal that the program's text lays. (laid together by program out of single texts). -/
import Derived.ArgAppend
import Derived.Test.YtnoffalohplhnaaDoorM4
namespace Go.Proofs.YtnoffalohplhnaaDoor
open Go.RowKit
theorem run_append_nil {P : Program} {w : World} {t ty e : TypeId} {i : TypeInfo} (ht : P.underlying t = some (.slice e)) (hi : P.info? e = some i) (a : Addr) (n c : Nat) (hn : n ≤ c) :
    (Builtin.append_ #[t, t] ty #[.slice (some a) n c, .slice none 0 0]).run P w = .ok (.slice (some a) n c) w := by
  simp [Builtin.append_, run_underlying ht, sizeOf, typeInfo, hi, Builtin.lenOf, Builtin.firstCells, storeCells, hn]
theorem wpList_applit {P : Program} {w : World} {ops : Array Oper} {rest : List Oper} {o : Oper} {a : Act} {Q : Exit → Act → World → Prop} {t E : TypeId} (hT : SlT P t E) (hg : o.guard = none)
    (s x : Operand) (ho : o.op = .call { callee := .builtin .append, args := #[s, x], argTypes := #[t, t] })
    {b n : Nat} (hs : a.eval s = .slice (some ⟨b, 0, none⟩) n n) {v2 : Value} (hx : a.eval x = v2) {cs ds : List Value} (hl : cs.length = n) (hrow0 : Row w (.slice (some ⟨b, 0, none⟩) n n) cs) (hrow : Row w v2 ds) (hb : cs.length + ds.length ≤ 1000000000)
    (h : ∀ v' w', Row w' v' (cs ++ ds) → Below w.heap.size w w' → wpList P ops Q rest (a.put o.dst v') w') : wpList P ops Q (o :: rest) a w := by
  obtain ⟨ht, i, z, hi, hz, hsize, hby, hzs⟩ := hT
  obtain ⟨a2, b2, off2, cap2, rfl, hc2, hm2, ha2, h12, hcell2⟩ := hrow
  cases a2 with
  | none =>
    obtain ⟨rfl, hc⟩ : ds = [] ∧ ((none : Option Addr) = none → cap2 = 0) := by
      rcases ha2 with h | h
      · cases h
      · exact h
    obtain rfl := hc rfl
    refine wpList_plain hg fun K hK => ?_
    have hrun := run_append_nil (P := P) (w := w) (ty := o.type) ht hi ⟨b, 0, none⟩ n n (Nat.le_refl _)
    unfold Oper.wp
    simp [execOp, ho, resolve, invoke, builtin, hs, hx, hrun, Result.andThen]
    exact hK _ _ (h _ w (by simpa using hrow0) (Below.refl _ _))
  | some ad =>
    have hnews : ∀ j u, ds[j]? = some u → w.cell? (ad.add j) = some u := by
      intro j u hu
      rcases ha2 with h | h
      · obtain rfl : ad = ⟨b2, off2, none⟩ := by simpa using h
        rw [addr_add]; exact hcell2 j u hu
      · obtain ⟨rfl, _⟩ := h
        simp at hu
    have h3 : (cs.length + ds.length) * i.bytes ≤ 1000000000 * 64 := Nat.mul_le_mul hb hby
    have hr0 := hrow0
    obtain ⟨a0, b0, off0, cap0, hv0, hc0, hm0, ha0, h10, hcell0⟩ := hr0
    refine wpList_append_arg w hg s x t ho E i z 1 i.bytes ht hi hz hsize rfl hzs (by omega) b 0 n n cs hs (by omega) (fun j u hu => ?_) ad ds.length cap2 ds (by simpa using hx) (by simp) hnews h12
      (fun hr j hj => absurd hj (by omega)) (by simp only [maxLen]; omega) (by rw [← hl]; omega) (fun hr => ?_) (fun hr v' w' h5 h6 => ?_)
    · rcases ha0 with h9 | ⟨rfl, _⟩
      · cases hv0
        obtain ⟨rfl, rfl⟩ : b = b0 ∧ 0 = off0 := by simpa using h9
        exact hcell0 j u hu
      · simp at hu
    · obtain rfl : ds = [] := List.eq_nil_of_length_eq_zero (by omega)
      exact h _ w (by simpa using hrow0) (Below.refl _ _)
    · have hown : Own w.heap.size E w' v' (cs ++ ds) := ⟨by rw [List.length_append, hl]; exact h5, fun u hu => by
        rcases List.mem_append.1 hu with hu | hu
        · exact h10 u hu
        · exact h12 u hu⟩
      exact h v' w' hown.row (below_own (Below.refl _ _) (Own.nil w.heap.size E w) h6 (Nat.le_refl _) (Nat.le_refl _))
end Go.Proofs.YtnoffalohplhnaaDoor
