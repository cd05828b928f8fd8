/- What came in, opened: a slice of octets; a record of a slice, an integer, a bool and a slice. (laid together by program out of single texts). -/
import Derived.Test.YtoliaphiipkopaaDoorRows
import Derived.ChangeArms
import Derived.ChangeSlices
import Derived.WideShapes
import Derived.DataElems
import Derived.Test.YtoliaphiipkopaaDoorM2
import Derived.Test.YtoliaphiipkopaaDoorM4
namespace Go.Proofs.YtoliaphiipkopaaDoor
open Go.RowKit Go.ChangeShapes Go.WideShapes
set_option maxRecDepth 100000
section
variable {H : Type} {enc : TypeId × Value → H} {w : World} {b : Nat} {held : Bool}
theorem open_u8 {fuel : Nat} {cs : List Value} {x : DataW H × List MemPlace} (h : DataW.trod enc Tryd.prog w b (fun _ => true) held fuel 22 cs = some x) : ∃ v xs, cs = [v] ∧ Row w v (ints .u8 xs) ∧ Rg 0 256 xs := by
  rcases open_ints Tryd.underlying22 Tryd.underlying5 (by kernel_rfl) h with ⟨hcs, _⟩ | ⟨a, l, c, zs, hcs, _, hl, hm, hz, _, hcell, hwz⟩
  · exact ⟨_, [], hcs, Row.nil w, fun x hx => by simp at hx⟩
  · obtain ⟨xs, h1, h2⟩ := Row.ofIs (k := .u8) (w := w) (a := some a) (len := l) (cap := c) (zs := zs) (.inr ⟨_, rfl, hl, hm, by simpa using hz, hcell, hwz⟩)
    exact ⟨_, xs, hcs, h1, fun x hx => wf_u8 (h2 x hx)⟩
theorem open_sl {v : Value} {d : DataW H} {p : List MemPlace} (hd : DataW.Trod enc Tryd.prog w b (fun _ => true) held 22 v d p) {bw : Nat} (hval : Value.okWide Tryd.prog w .any bw 22 v) : ∃ xs, Row w v (ints .u8 xs) ∧ Rg 0 256 xs := by
  obtain ⟨a, len, cap, rfl⟩ := okWide_slice Tryd.underlying22 hval
  obtain ⟨fuel, hf⟩ := hd
  have hv : (Value.slice a len cap).cells.toList = [.slice a len cap] := by simp [Value.cells]
  rw [hv] at hf
  obtain ⟨u, xs, h1, h2, h3⟩ := open_u8 hf
  cases h1
  exact ⟨xs, h2, h3⟩
theorem open_par {bw : Nat} {v : Value} {d : DataW H} {p : List MemPlace} (hval : Value.okWide Tryd.prog w .any bw 24 v) (hd : DataW.Trod enc Tryd.prog w b (fun _ => true) held 24 v d p) :
    ∃ a n x u nm, v = .agg #[a, .int .i64 n, .bool x, u] ∧ Row w a (ints .u8 nm) ∧ Rg 0 256 nm ∧ (Lit.int .i64 n).wf = true := by
  simp only [Value.okWide, Tryd.underlying24] at hval
  obtain ⟨cs, rfl, _, _⟩ := hval
  obtain ⟨fuel, hf⟩ := hd
  obtain ⟨l, n, rfl, _, hlen, hl, hel⟩ := DataW.trod_struct Tryd.underlying24 hf
  have ce : Tryd.prog.cellsOf 22 = 1 := by kernel_rfl
  have ci : Tryd.prog.cellsOf 3 = 1 := by kernel_rfl
  have cb : Tryd.prog.cellsOf 4 = 1 := by kernel_rfl
  have c4 : Tryd.prog.cellsOf 24 = 4 := by kernel_rfl
  rw [c4] at hlen
  obtain ⟨L⟩ := cs
  have hv2 : (Value.agg ⟨L⟩).cells.toList = L := by simp [Value.cells]
  rw [hv2] at hlen hel
  match L, hlen with
  | [x0, x1, x2, x3], _ =>
    have e0 := hel 0 _ rfl
    have e1 := hel 1 _ rfl
    have e2 := hel 2 _ rfl
    match l, hl with
    | [y0, y1, y2, y3], _ =>
      obtain ⟨u, xs, h1, h2, h3⟩ := open_u8 (show DataW.trod enc Tryd.prog w b (fun _ => true) held n 22 [x0] = some y0 from e0)
      obtain ⟨m, hm, _, hw⟩ := DataW.trod_int Tryd.underlying3 (show DataW.trod enc Tryd.prog w b (fun _ => true) held n 3 [x1] = some y1 from e1)
      obtain ⟨q, hq, _⟩ := DataW.trod_bool Tryd.underlying4 (show DataW.trod enc Tryd.prog w b (fun _ => true) held n 4 [x2] = some y2 from e2)
      cases h1
      cases hm
      cases hq
      exact ⟨_, _, _, _, xs, rfl, h2, h3, hw⟩
end
end Go.Proofs.YtoliaphiipkopaaDoor
