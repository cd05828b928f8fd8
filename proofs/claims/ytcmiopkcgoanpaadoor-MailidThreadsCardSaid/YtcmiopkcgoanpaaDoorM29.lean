/- What came in, opened: a record of two slices of octets. (laid together by program out of single texts). -/
import Derived.Test.YtcmiopkcgoanpaaDoorRows
import Derived.ChangeArms
import Derived.ChangeSlices
import Derived.Test.YtcmiopkcgoanpaaDoorM2
import Derived.Test.YtcmiopkcgoanpaaDoorM4
namespace Go.Proofs.YtcmiopkcgoanpaaDoor
open Go.RowKit Go.ChangeShapes
set_option maxRecDepth 100000
section
variable {H : Type} {enc : TypeId × Value → H} {w : World} {b : Nat} {held : Bool}
theorem open_u8 {fuel : Nat} {cs : List Value} {x : DataW H × List MemPlace} (h : DataW.trod enc Tryd.prog w b (fun _ => true) held fuel 22 cs = some x) : ∃ v xs, cs = [v] ∧ Row w v (ints .u8 xs) ∧ Rg 0 256 xs := by
  rcases open_ints Tryd.underlying22 Tryd.underlying5 (by kernel_rfl) h with ⟨hcs, _⟩ | ⟨a, l, c, zs, hcs, _, hl, hm, hz, _, hcell, hwz⟩
  · exact ⟨_, [], hcs, Row.nil w, fun x hx => by simp at hx⟩
  · obtain ⟨xs, h1, h2⟩ := Row.ofIs (k := .u8) (w := w) (a := some a) (len := l) (cap := c) (zs := zs) (.inr ⟨_, rfl, hl, hm, by simpa using hz, hcell, hwz⟩)
    exact ⟨_, xs, hcs, h1, fun x hx => wf_u8 (h2 x hx)⟩
theorem open_idc {fuel : Nat} {cs : List Value} {z : DataW H × List MemPlace} (h : DataW.trod enc Tryd.prog w b (fun _ => true) held fuel 29 cs = some z) :
    ∃ x y xs ys, cs = [x, y] ∧ Row w x (ints .u8 xs) ∧ Rg 0 256 xs ∧ Row w y (ints .u8 ys) ∧ Rg 0 256 ys := by
  obtain ⟨l, n, rfl, rfl, hlen, hl, hel⟩ := DataW.trod_struct Tryd.underlying29 h
  have ce : Tryd.prog.cellsOf 22 = 1 := by kernel_rfl
  have c2 : Tryd.prog.cellsOf 29 = 2 := by kernel_rfl
  rw [c2] at hlen
  match cs, hlen with
  | [x, y], _ =>
    have e0 := hel 0 _ rfl
    have e1 := hel 1 _ rfl
    match l, hl with
    | [y0, y1], _ =>
      obtain ⟨u, xs, h1, h2, h3⟩ := open_u8 (show DataW.trod enc Tryd.prog w b (fun _ => true) held n 22 [x] = some y0 from e0)
      obtain ⟨v, ys, k1, k2, k3⟩ := open_u8 (show DataW.trod enc Tryd.prog w b (fun _ => true) held n 22 [y] = some y1 from e1)
      obtain rfl := (List.cons.inj h1).1
      obtain rfl := (List.cons.inj k1).1
      exact ⟨_, _, xs, ys, rfl, h2, h3, k2, k3⟩
theorem open_id {bw : Nat} {v : Value} {d : DataW H} {p : List MemPlace} (hval : Value.okWide Tryd.prog w .any bw 29 v) (hd : DataW.Trod enc Tryd.prog w b (fun _ => true) held 29 v d p) :
    ∃ x y xs ys, v = .agg #[x, y] ∧ Row w x (ints .u8 xs) ∧ Rg 0 256 xs ∧ Row w y (ints .u8 ys) ∧ Rg 0 256 ys := by
  simp only [Value.okWide, Tryd.underlying29] at hval
  obtain ⟨cs, rfl, _, _⟩ := hval
  obtain ⟨fuel, hf⟩ := hd
  obtain ⟨x, y, xs, ys, h1, h2⟩ := open_idc hf
  refine ⟨x, y, xs, ys, ?_, h2⟩
  obtain ⟨l⟩ := cs
  have : l = [x, y] := h1
  rw [this]
end
end Go.Proofs.YtcmiopkcgoanpaaDoor
