/- What came in, opened: a slice of records of two slices of octets; an integer. (laid together by program out of single texts). -/
import Derived.WideShapes
import Derived.DataElems
import Derived.Test.YtcmiopkcgoanpaaDoorM23
import Derived.Test.YtcmiopkcgoanpaaDoorM29
namespace Go.Proofs.YtcmiopkcgoanpaaDoor
open Go.RowKit Go.ChangeShapes Go.WideShapes
set_option maxRecDepth 100000
theorem list_choose {α β : Type} (R : Nat → α → β → Prop) : ∀ (n : Nat), (∀ i, i < n → ∃ a b, R i a b) → ∃ (l : List α) (L : List β), l.length = n ∧ L.length = n ∧ ∀ i a b, l[i]? = some a → L[i]? = some b → R i a b
  | 0, _ => ⟨[], [], rfl, rfl, fun i a b h => by simp at h⟩
  | n + 1, h => by
    obtain ⟨l, L, h1, h2, h3⟩ := list_choose R n (fun i hi => h i (by omega))
    obtain ⟨a, b, hab⟩ := h n (by omega)
    refine ⟨l ++ [a], L ++ [b], by simp [h1], by simp [h2], fun i a' b' ha hb => ?_⟩
    rcases Nat.lt_or_ge i n with hi | hi
    · rw [List.getElem?_append_left (by omega)] at ha hb
      exact h3 i a' b' ha hb
    · rw [List.getElem?_append_right (by omega)] at ha hb
      rw [h1] at ha
      rw [h2] at hb
      cases hk : i - n with
      | zero =>
        rw [hk] at ha hb
        simp at ha hb
        subst ha hb
        obtain rfl : i = n := by omega
        exact hab
      | succ k => rw [hk] at ha; simp at ha
section
variable {H : Type} {enc : TypeId × Value → H} {w : World} {b : Nat} {held : Bool}
theorem open_ids {bw : Nat} {v : Value} {d : DataW H} {p : List MemPlace} (hval : Value.okWide Tryd.prog w .any bw 35 v) (hd : DataW.Trod enc Tryd.prog w b (fun _ => true) held 35 v d p) :
    ∃ l L, Row2 w v l ∧ IdL w l L ∧ ∀ q ∈ L, Rg 0 256 q.1 ∧ Rg 0 256 q.2 := by
  obtain ⟨a, len, cap, rfl⟩ := okWide_slice Tryd.underlying35 hval
  obtain ⟨fuel, hf⟩ := hd
  have hv : (Value.slice a len cap).cells.toList = [.slice a len cap] := by simp [Value.cells]
  rw [hv] at hf
  rcases DataW.trod_slice Tryd.underlying35 hf with ⟨hcs, _⟩ | ⟨a1, len1, cap1, elems, rest, n, _, hcs, _, _, hlc, hcm, hel, hels, _⟩
  · cases hcs
    exact ⟨[], [], Row2.nil w, IdL.nil w, fun q hq => by simp at hq⟩
  · cases hcs
    have ce : Tryd.prog.cellsOf 29 = 2 := by kernel_rfl
    rw [ce] at hels
    have key : ∀ i, i < len → ∃ (p : Value × Value) (q : List Int × List Int), w.cell? (a1.add (i * 2)) = some p.1 ∧ w.cell? (a1.add (i * 2 + 1)) = some p.2 ∧ Row w p.1 (ints .u8 q.1) ∧ Row w p.2 (ints .u8 q.2) ∧ Rg 0 256 q.1 ∧ Rg 0 256 q.2 := fun i hi => by
      have h1 := hels i hi
      rw [List.getElem?_eq_getElem (by omega)] at h1
      obtain ⟨cs, hcs, hy⟩ := Option.bind_eq_some_iff.1 h1
      obtain ⟨x, y, xs, ys, rfl, k1, k2, k3, k4⟩ := open_idc hy
      obtain ⟨_, _, hc⟩ := World.cells?_some hcs
      have c0 := hc 0 (by omega)
      have c1 := hc 1 (by omega)
      have e0 : (a1.add (i * 2)).add 0 = a1.add (i * 2) := by simp [Addr.add]
      rw [e0] at c0
      rw [Addr.add_add] at c1
      exact ⟨(x, y), (xs, ys), c0, c1, k1, k3, k2, k4⟩
    obtain ⟨l, L, hl, hL, hR⟩ := list_choose _ len key
    have hid : IdL w l L := ⟨by rw [hl, hL], fun i p q hp hq => ⟨(hR i p q hp hq).2.2.1, (hR i p q hp hq).2.2.2.1⟩⟩
    have hone : ∀ u ∈ flat2 l, u.oneCell' = true := fun u hu => by
      simp only [flat2, List.mem_flatMap] at hu
      obtain ⟨p, hp, hu⟩ := hu
      obtain ⟨i, hi⟩ := List.getElem?_of_mem hp
      obtain ⟨q, hq⟩ : ∃ q, L[i]? = some q := ⟨_, List.getElem?_eq_getElem (by have := (List.getElem?_eq_some_iff.1 hi).1; omega)⟩
      obtain ⟨_, _, r1, r2, _⟩ := hR i p q hi hq
      obtain ⟨p1, p2⟩ := p
      simp only at r1 r2
      obtain ⟨_, _, rfl⟩ := r1.formN0 (n := q.1.length) (by rw [ints_length])
      obtain ⟨_, _, rfl⟩ := r2.formN0 (n := q.2.length) (by rw [ints_length])
      simp at hu
      rcases hu with rfl | rfl <;> rfl
    refine ⟨l, L, ?_, hid, fun q hq => ?_⟩
    · obtain ⟨g, off, spot⟩ := a1
      by_cases h0 : len = 0
      · have hnil : l = [] := List.eq_nil_of_length_eq_zero (by omega)
        subst hnil
        exact ⟨some ⟨g, off, spot⟩, g, off, cap, by rw [h0]; rfl, by simp, hcm, .inr ⟨rfl, fun h => by cases h⟩, hone, fun i u hu => by simp [flat2] at hu⟩
      · have hspot : spot = none := by
          obtain ⟨p, q, c0, _⟩ := key 0 (by omega)
          simpa [Addr.add] using World.cell?_spot c0
        subst hspot
        refine ⟨some ⟨g, off, none⟩, g, off, cap, by rw [hl], by omega, hcm, .inl rfl, hone, fun i u hu => ?_⟩
        have hfl := flat2_len l
        have hi : i < (flat2 l).length := (List.getElem?_eq_some_iff.1 hu).1
        obtain ⟨p, hp⟩ : ∃ p, l[i / 2]? = some p := ⟨_, List.getElem?_eq_getElem (by omega)⟩
        obtain ⟨q, hq⟩ : ∃ q, L[i / 2]? = some q := ⟨_, List.getElem?_eq_getElem (by omega)⟩
        obtain ⟨c0, c1, _⟩ := hR _ p q hp hq
        rw [addr_add] at c0 c1
        have hg := flat2_get hp
        rcases (by omega : i = i / 2 * 2 ∨ i = i / 2 * 2 + 1) with h9 | h9
        · rw [h9, hg.1] at hu
          rw [h9, ← hu]; exact c0
        · rw [h9, hg.2] at hu
          rw [h9, ← hu]; exact c1
    · obtain ⟨i, hi⟩ := List.getElem?_of_mem hq
      obtain ⟨p, hp⟩ : ∃ p, l[i]? = some p := ⟨_, List.getElem?_eq_getElem (by have := (List.getElem?_eq_some_iff.1 hi).1; omega)⟩
      exact (hR i p q hp hi).2.2.2.2
theorem open_n {bw : Nat} {v : Value} {d : DataW H} {p : List MemPlace} (hval : Value.okWide Tryd.prog w .any bw 3 v) (hd : DataW.Trod enc Tryd.prog w b (fun _ => true) held 3 v d p) :
    ∃ n : Int, v = .int .i64 n ∧ (Lit.int .i64 n).wf = true := by
  obtain ⟨n, rfl⟩ := okWide_int Tryd.underlying3 hval
  obtain ⟨fuel, hf⟩ := hd
  obtain ⟨m, hm, _, hw⟩ := DataW.trod_int Tryd.underlying3 hf
  simp [Value.cells] at hm
  subst hm
  exact ⟨n, rfl, hw⟩
end
end Go.Proofs.YtcmiopkcgoanpaaDoor
