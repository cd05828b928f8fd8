/- What came in, opened: a slice of slices of octets. (laid together by program out of single texts). -/
import Derived.ChangeArms
import Derived.ChangeSlices
import Derived.WideShapes
import Derived.DataElems
import Derived.Test.YtnoffalohplhnaaDoorM17
namespace Go.Proofs.YtnoffalohplhnaaDoor
open Go.RowKit Go.ChangeShapes Go.WideShapes
set_option maxRecDepth 100000
theorem list_choose {α β : Type} (R : Nat → α → β → Prop) : ∀ (n : Nat), (∀ i, i < n → ∃ a b, R i a b) → ∃ (l : List α) (L : List β), l.length = n ∧ L.length = n ∧ ∀ i a b, l[i]? = some a → L[i]? = some b → R i a b
  | 0, _ => ⟨[], [], rfl, rfl, fun i a b h => by simp at h⟩
  | n + 1, h => by
    obtain ⟨l, L, h1, h2, h3⟩ := list_choose R n (fun i hi => h i (by omega))
    obtain ⟨a, b, hab⟩ := h n (by omega)
    refine ⟨l ++ [a], L ++ [b], by simp [h1], by simp [h2], fun i a' b' ha hb => ?_⟩
    rcases Nat.lt_or_ge i n with hi | hi
    · rw [List.getElem?_append_left (by omega)] at ha hb
      exact h3 i a' b' ha hb
    · rw [List.getElem?_append_right (by omega)] at ha hb
      rw [h1] at ha
      rw [h2] at hb
      cases hk : i - n with
      | zero =>
        rw [hk] at ha hb
        simp at ha hb
        subst ha hb
        obtain rfl : i = n := by omega
        exact hab
      | succ k => rw [hk] at ha; simp at ha
section
variable {H : Type} {enc : TypeId × Value → H} {w : World} {b : Nat} {held : Bool}
theorem open_u8 {fuel : Nat} {cs : List Value} {x : DataW H × List MemPlace} (h : DataW.trod enc Tryd.prog w b (fun _ => true) held fuel 23 cs = some x) : ∃ v xs, cs = [v] ∧ Row w v (ints .u8 xs) ∧ Rg 0 256 xs := by
  rcases open_ints Tryd.underlying23 Tryd.underlying5 (by kernel_rfl) h with ⟨hcs, _⟩ | ⟨a, l, c, zs, hcs, _, hl, hm, hz, _, hcell, hwz⟩
  · exact ⟨_, [], hcs, Row.nil w, fun x hx => by simp at hx⟩
  · obtain ⟨xs, h1, h2⟩ := Row.ofIs (k := .u8) (w := w) (a := some a) (len := l) (cap := c) (zs := zs) (.inr ⟨_, rfl, hl, hm, by simpa using hz, hcell, hwz⟩)
    exact ⟨_, xs, hcs, h1, fun x hx => wf_u8 (h2 x hx)⟩
theorem open_bs {bw : Nat} {v : Value} {d : DataW H} {p : List MemPlace} (hval : Value.okWide Tryd.prog w .any bw 23 v) (hd : DataW.Trod enc Tryd.prog w b (fun _ => true) held 23 v d p) :
    ∃ xs, Row w v (ints .u8 xs) ∧ Rg 0 256 xs := by
  obtain ⟨a, len, cap, rfl⟩ := okWide_slice Tryd.underlying23 hval
  obtain ⟨fuel, hf⟩ := hd
  have hv : (Value.slice a len cap).cells.toList = [.slice a len cap] := by simp [Value.cells]
  rw [hv] at hf
  obtain ⟨u, xs, h1, h2, h3⟩ := open_u8 hf
  obtain rfl := (List.cons.inj h1).1
  exact ⟨xs, h2, h3⟩
theorem open_bss {bw : Nat} {v : Value} {d : DataW H} {p : List MemPlace} (hval : Value.okWide Tryd.prog w .any bw 22 v) (hd : DataW.Trod enc Tryd.prog w b (fun _ => true) held 22 v d p) :
    ∃ vs ps, Row w v vs ∧ Pvs w vs ps ∧ ∀ q ∈ ps, Rg 0 256 q := by
  obtain ⟨a, len, cap, rfl⟩ := okWide_slice Tryd.underlying22 hval
  obtain ⟨fuel, hf⟩ := hd
  have hv : (Value.slice a len cap).cells.toList = [.slice a len cap] := by simp [Value.cells]
  rw [hv] at hf
  rcases DataW.trod_slice Tryd.underlying22 hf with ⟨hcs, _⟩ | ⟨a1, len1, cap1, elems, rest, n, _, hcs, _, _, hlc, hcm, hel, hels, _⟩
  · cases hcs
    exact ⟨[], [], Row.nil w, Pvs.nil w, fun q hq => by simp at hq⟩
  · cases hcs
    have ce : Tryd.prog.cellsOf 23 = 1 := by kernel_rfl
    rw [ce] at hels
    have key : ∀ i, i < len → ∃ (u : Value) (q : List Int), w.cell? (a1.add i) = some u ∧ Row w u (ints .u8 q) ∧ Rg 0 256 q := fun i hi => by
      have h1 := hels i hi
      rw [List.getElem?_eq_getElem (by omega)] at h1
      obtain ⟨cs, hcs, hy⟩ := Option.bind_eq_some_iff.1 h1
      obtain ⟨u, q, rfl, k1, k2⟩ := open_u8 hy
      obtain ⟨_, _, hc⟩ := World.cells?_some hcs
      have c0 := hc 0 (by omega)
      have e0 : (a1.add (i * 1)).add 0 = a1.add i := by simp [Addr.add]
      rw [e0] at c0
      exact ⟨u, q, c0, k1, k2⟩
    obtain ⟨l, L, hl, hL, hR⟩ := list_choose _ len key
    have hid : Pvs w l L := ⟨by rw [hl, hL], fun i p q hp hq => (hR i p q hp hq).2.1⟩
    refine ⟨l, L, ?_, hid, fun q hq => ?_⟩
    · obtain ⟨g, off, spot⟩ := a1
      by_cases h0 : len = 0
      · have hnil : l = [] := List.eq_nil_of_length_eq_zero (by omega)
        subst hnil
        exact ⟨some ⟨g, off, spot⟩, g, off, cap, by rw [h0]; rfl, by simp, hcm, .inr ⟨rfl, fun h => by cases h⟩, hid.one, fun i u hu => by simp at hu⟩
      · have hspot : spot = none := by
          obtain ⟨p, q, c0, _⟩ := key 0 (by omega)
          simpa [Addr.add] using World.cell?_spot c0
        subst hspot
        refine ⟨some ⟨g, off, none⟩, g, off, cap, by rw [hl], by omega, hcm, .inl rfl, hid.one, fun i u hu => ?_⟩
        have hi : i < l.length := (List.getElem?_eq_some_iff.1 hu).1
        obtain ⟨q, hq⟩ : ∃ q, L[i]? = some q := ⟨_, List.getElem?_eq_getElem (by omega)⟩
        obtain ⟨c0, _⟩ := hR _ u q hu hq
        rw [addr_add] at c0
        exact c0
    · obtain ⟨i, hi⟩ := List.getElem?_of_mem hq
      obtain ⟨p, hp⟩ : ∃ p, l[i]? = some p := ⟨_, List.getElem?_eq_getElem (by have := (List.getElem?_eq_some_iff.1 hi).1; omega)⟩
      exact (hR i p q hp hi).2.2
end
end Go.Proofs.YtnoffalohplhnaaDoor
