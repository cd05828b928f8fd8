/- The toolkit, more: a row of signs as an array, for the sort. · Walks: part of a row sorted by insertion; a part turned round. · Walks: a heap's sign let down; a part sorted by heap. · Walks: a part cut at its pivot, by equals. · Walks: a pivot chosen. (laid together by program out of single texts). -/
import Derived.Sort.Defs
import Derived.CellFam
import Derived.Test.YtfhfhfadebcbfaaM1
import Derived.Test.YtfhfhfadebcbfaaM2
import Derived.Test.YtfhfhfadebcbfaaM4
import Derived.Test.YtfhfhfadebcbfaaM17
namespace Go.Proofs.Ytfhfhfadebcbfaa
open Go.RowKit
/-- The call owns the row at block g, and its n signs are the array d. -/
def SO (B g n cap : Nat) (w : World) (d : Array Int) : Prop := Own B 21 w (.slice (some ⟨g, 0, none⟩) n cap) (ints .i32 d.toList) ∧ d.size = n
section
variable {B g n cap : Nat} {w w' : World} {d : Array Int}
theorem SO.cell (h : SO B g n cap w d) (t : Nat) (ht : t < n) : w.cell? ⟨g, t, none⟩ = some (.int .i32 d[t]!) := by
  have hs := h.2
  refine Own.cell h.1 (j := t) (u := .int .i32 d[t]!) ?_
  rw [ints_get, Array.getElem?_toList, Array.getElem?_eq_getElem (by omega), getElem!_pos d t (by omega)]
  rfl
theorem SO.frz (h : SO B g n cap w d) (t : Nat) : w.frozen? ⟨g, t, none⟩ = false := Own.frozen h.1 t
theorem SO.below (h : SO B g n cap w d) (hb : Below w.heap.size w w') : SO B g n cap w' d := ⟨h.1.below hb, h.2⟩
theorem SO.drewN (h : SO B g n cap w d) (q : Nat) : SO B g n cap (w.drewN q) d := h.below (below_drewN (Below.refl _ _) q)
theorem SO.swp (h : SO B g n cap w d) (i j : Nat) : SO B g n cap ((w.setCell ⟨g, i, none⟩ (.int .i32 d[j]!)).setCell ⟨g, j, none⟩ (.int .i32 d[i]!)) (Sort.swp d i j) := by
  refine ⟨?_, by simp [Sort.swp, h.2]⟩
  have h9 := Own.set (Own.set h.1 i (.int .i32 d[j]!) rfl) j (.int .i32 d[i]!) rfl
  rw [ints_set, ints_set] at h9
  have e : (Sort.swp d i j).toList = (d.toList.set i d[j]!).set j d[i]! := by simp [Sort.swp]
  rw [e]
  exact h9
theorem SO.cellset (h : SO B g n cap w d) (i j : Nat) (hj : j < n) : (w.setCell ⟨g, i, none⟩ (.int .i32 d[j]!)).cell? ⟨g, j, none⟩ = some (.int .i32 d[j]!) := by
  have hs := h.2
  refine Own.cell (Own.set h.1 i (.int .i32 d[j]!) rfl) (j := j) (u := .int .i32 d[j]!) ?_
  rw [ints_set, ints_get]
  by_cases hij : i = j
  · subst hij
    rw [List.getElem?_set_self (by rw [Array.length_toList]; omega)]; rfl
  · rw [List.getElem?_set_ne hij, Array.getElem?_toList, Array.getElem?_eq_getElem (by omega), getElem!_pos d j (by omega)]
    rfl
theorem SO.keep {r : Option Nat} (h : SO B g n cap w d) (hg : w.grownBy w' r) (hne : r ≠ some g) : SO B g n cap w' d :=
  ⟨⟨h.1.1.kept hg (.inr (fun h9 => hne h9.symm)), h.1.2⟩, h.2⟩
end
theorem less_t {x y : Int} (h : x < y) (w : World) : Calls Try.prog 65 #[.int .i32 x, .int .i32 y] w fun e w' => e = .returned (.bool true) ∧ w' = w := by
  have := less_any x y w
  rwa [decide_eq_true h] at this
theorem less_f {x y : Int} (h : ¬ x < y) (w : World) : Calls Try.prog 65 #[.int .i32 x, .int .i32 y] w fun e w' => e = .returned (.bool false) ∧ w' = w := by
  have := less_any x y w
  rwa [decide_eq_false h] at this
theorem grown_swp (w : World) (g i j : Nat) (x y : Value) : w.grownBy ((w.setCell ⟨g, i, none⟩ x).setCell ⟨g, j, none⟩ y) (some g) := grown_trans (grown_set w g i x) (grown_set _ g j y)
theorem swp_size (d : Array Int) (i j : Nat) : (Sort.swp d i j).size = d.size := by simp [Sort.swp]
end Go.Proofs.Ytfhfhfadebcbfaa
namespace Go.Proofs.Ytfhfhfadebcbfaa
open Go.RowKit
set_option maxHeartbeats 8000000
set_option maxRecDepth 100000
theorem isortG_any (B g n cap : Nat) (d : Array Int) (a b : Nat) (w : World) (h : SO B g n cap w d) (hab : a ≤ b) (hbn : b ≤ n) (hl : n ≤ 1000000) :
    Calls Try.prog 59 #[.slice (some ⟨g, 0, none⟩) n cap, .int .i64 a, .int .i64 b] w fun e w' => e = .returned (.tuple #[]) ∧ SO B g n cap w' (Sort.insertionSort Sort.ltInt d a b) ∧ w.grownBy w' (some g) := by
  obtain ⟨V, HV⟩ : ∃ V, Hid (Sort.insOuter Sort.ltInt a b (a + 1) d = V) := ⟨_, rfl⟩
  unfold Sort.insertionSort
  rw [HV.out]
  go_enter Try.func59, Try.ntmps59
  go_wp2
  go_loopw [6] (fun iv wr => ∃ (i : Nat) (c : Array Int), iv = .int .i64 i ∧ a + 1 ≤ i ∧ i ≤ b + 1 ∧ Hid (SO B g n cap wr c) ∧ Hid (Sort.insOuter Sort.ltInt a b i c = V) ∧ w.grownBy wr (some g)) (fun iv _ => b + 1 - (intOf iv).toNat)
  case atStart => exact ⟨a + 1, d, by go_num, Nat.le_refl _, by omega, h, HV.out, grown_refl w _⟩
  case round =>
    obtain ⟨i, c, rfl, hi1, hi2, HO, HS, hg⟩ := hrel
    rcases Nat.lt_or_ge i b with hlt | hlt
    case inr =>
      have hs := HS.out
      rw [Sort.insOuter, if_neg (by omega)] at hs
      obtain rfl := hs
      go_wp2
      go_end0
      exact ⟨rfl, HO.out, hg⟩
    case inl =>
      have hs := HS.out
      rw [Sort.insOuter, if_pos hlt] at hs
      have HS2 := Lib.hid hs
      clear hs
      go_wp2
      go_loopw [7] (fun jv wr2 => ∃ (j : Nat) (cu : Array Int), jv = .int .i64 j ∧ a ≤ j ∧ j ≤ i ∧ Hid (SO B g n cap wr2 cu) ∧ Hid (Sort.insInner Sort.ltInt a j cu = Sort.insInner Sort.ltInt a i c) ∧ w.grownBy wr2 (some g)) (fun jv _ => (intOf jv).toNat)
      case atStart => exact ⟨i, c, rfl, by omega, Nat.le_refl _, HO.out, rfl, hg⟩
      case round =>
        obtain ⟨j, cu, rfl, haj, hj, HO2, HB, hg2⟩ := hrel
        have HE : Hid (∀ q, Sort.insInner Sort.ltInt a j cu = cu → ∃ (i2 : Nat) (c2 : Array Int), Value.int .i64 ((i : Int) + 1) = .int .i64 i2 ∧ a + 1 ≤ i2 ∧ i2 ≤ b + 1 ∧ Hid (SO B g n cap (World.drewN wr q) c2) ∧ Hid (Sort.insOuter Sort.ltInt a b i2 c2 = V) ∧ w.grownBy (World.drewN wr q) (some g)) := fun q h9 =>
          ⟨i + 1, cu, by go_num, by omega, by omega, HO2.out.drewN q, (by rw [← h9, HB.out]; exact HS2.out), grown_trans hg2 (grown_drewN wr _ _)⟩
        rcases Nat.lt_or_ge a j with hja | hja
        case inr =>
          obtain rfl : j = a := by omega
          have HB9 : Hid (Sort.insInner Sort.ltInt j j cu = cu) := by
            show _ = _
            cases j with
            | zero => rfl
            | succ j => rw [Sort.insInner, if_neg (by simp)]
          go_wp2
          go_quiet (first | (go_at_call 65; refine Calls.quiet_of_same (less_any _ _ _)))
          go_wp2
          go_roundw
          case rel => exact HE.out _ HB9.out
          case measure => simp [intOf]; omega
        case inl =>
          obtain ⟨j, rfl⟩ : ∃ k, j = k + 1 := ⟨j - 1, by omega⟩
          have c1 := HO2.out.cell (j + 1) (by omega)
          have c0 := HO2.out.cell j (by omega)
          have f1 := HO2.out.frz (j + 1)
          have f0 := HO2.out.frz j
          obtain ⟨x, hx⟩ : ∃ x, cu[j + 1]! = x := ⟨_, rfl⟩
          obtain ⟨y, hy⟩ : ∃ y, cu[j]! = y := ⟨_, rfl⟩
          rw [hx] at c1
          rw [hy] at c0
          have HX := Lib.hid hx; have HY := Lib.hid hy
          have hjc : ((j + 1 : Nat) : Int) - 1 = (j : Int) := by omega
          have hjb : (j : Int) + 1 < (n : Int) := by omega
          have hjb2 : (j : Int) < (n : Int) := by omega
          have hja2 : (a : Int) < (j : Int) + 1 := by omega
          have HB2 := HB.out
          rw [Sort.insInner, hx, hy] at HB2
          clear hx hy
          by_cases hxy : x < y
          case neg =>
            have HB4 : Hid (Sort.insInner Sort.ltInt a (j + 1) cu = cu) := by
              show _ = _
              rw [Sort.insInner, HX.out, HY.out, if_neg (by simp [Sort.ltInt, hxy])]
            clear HB2
            go_wp2
            go_quiet (first | (go_at_call 65; refine Calls.quiet_of_same (less_any _ _ _)))
            go_wp2
            go_roundw
            case rel => exact HE.out _ HB4.out
            case measure => simp [intOf]; omega
          case pos =>
            rw [if_pos (by simp [Sort.ltInt, hxy]; omega)] at HB2
            have HB3 := Lib.hid HB2
            clear HB2
            go_wp2
            go_quiet (first | (go_at_call 65; refine Calls.quiet_of_same (less_any _ _ _)))
            go_wp2
            go_region
            all_goals go_wp2
            have hO3 := (HO2.out.drewN (nq + 1)).swp (j + 1) j
            rw [HX.out, HY.out] at hO3
            have hg3 := grown_trans (grown_trans hg2 (grown_drewN wr (nq + 1) _)) (grown_swp (wr.drewN (nq + 1)) g (j + 1) j (.int .i32 y) (.int .i32 x))
            have HO3 := Lib.hid hO3
            clear hO3
            go_roundw
            case rel => exact ⟨j, Sort.swp cu (j + 1) j, rfl, by omega, by omega, HO3.out, HB3.out, hg3⟩
            case measure => simp [intOf]
/-- A part turned round. -/
theorem rrange_any (B g n cap : Nat) (d : Array Int) (a b : Nat) (w : World) (h : SO B g n cap w d) (hab : a ≤ b) (hb0 : 0 < b) (hbn : b ≤ n) (hl : n ≤ 1000000) :
    Calls Try.prog 63 #[.slice (some ⟨g, 0, none⟩) n cap, .int .i64 a, .int .i64 b] w fun e w' => e = .returned (.tuple #[]) ∧ SO B g n cap w' (Sort.reverseRange d a b) ∧ w.grownBy w' (some g) := by
  obtain ⟨V, HV⟩ : ∃ V, Hid (Sort.reverseLoop a (b - 1) d = V) := ⟨_, rfl⟩
  unfold Sort.reverseRange
  rw [HV.out]
  have hbc : (b : Int) - 1 = ((b - 1 : Nat) : Int) := by omega
  go_enter Try.func63, Try.ntmps63
  go_wp2
  go_loopw [6, 7] (fun iv jv wr => ∃ (i j : Nat) (c : Array Int), iv = .int .i64 i ∧ jv = .int .i64 j ∧ i ≤ n ∧ j < n ∧ Hid (SO B g n cap wr c) ∧ Hid (Sort.reverseLoop i j c = V) ∧ w.grownBy wr (some g)) (fun iv _ _ => n - (intOf iv).toNat)
  case atStart => exact ⟨a, b - 1, d, rfl, by go_num, by omega, by omega, h, HV.out, grown_refl w _⟩
  case round =>
    obtain ⟨i, j, c, rfl, rfl, hi, hj, HO, HS, hg⟩ := hrel
    rcases Nat.lt_or_ge i j with hlt | hlt
    case inr =>
      have hs := HS.out
      rw [Sort.reverseLoop, if_neg (by omega)] at hs
      obtain rfl := hs
      go_wp2
      go_end0
      exact ⟨rfl, HO.out, hg⟩
    case inl =>
      have hs := HS.out
      rw [Sort.reverseLoop, if_pos hlt] at hs
      have HS2 := Lib.hid hs
      clear hs
      have c1 := HO.out.cell i (by omega)
      have c0 := HO.out.cell j (by omega)
      have f1 := HO.out.frz i
      have f0 := HO.out.frz j
      obtain ⟨x, hx⟩ : ∃ x, c[i]! = x := ⟨_, rfl⟩
      obtain ⟨y, hy⟩ : ∃ y, c[j]! = y := ⟨_, rfl⟩
      rw [hx] at c1
      rw [hy] at c0
      have HX := Lib.hid hx; have HY := Lib.hid hy
      clear hx hy
      have hib : (i : Int) < (n : Int) := by omega
      have hjb : (j : Int) < (n : Int) := by omega
      go_wp2
      go_region
      all_goals go_wp2
      have hO3 := (HO.out.drewN 1).swp i j
      rw [HX.out, HY.out] at hO3
      have hg3 := grown_trans (grown_trans hg (grown_drewN wr 1 _)) (grown_swp (wr.drewN 1) g i j (.int .i32 y) (.int .i32 x))
      have HO3 := Lib.hid hO3
      clear hO3
      go_roundw
      case rel => exact ⟨i + 1, j - 1, Sort.swp c i j, by go_num, by first | go_num | (congr 1; omega), by omega, by omega, HO3.out, HS2.out, hg3⟩
      case measure => simp [intOf]; omega
end Go.Proofs.Ytfhfhfadebcbfaa
namespace Go.Proofs.Ytfhfhfadebcbfaa
open Go.RowKit
set_option maxHeartbeats 8000000
set_option maxRecDepth 100000
theorem sift_any (B g n cap : Nat) (d : Array Int) (lo hi first : Nat) (w : World) (h : SO B g n cap w d) (hf : first + hi ≤ n) (hlo : lo ≤ 1000000) (hl : n ≤ 1000000) :
    Calls Try.prog 71 #[.slice (some ⟨g, 0, none⟩) n cap, .int .i64 lo, .int .i64 hi, .int .i64 first] w fun e w' => e = .returned (.tuple #[]) ∧ SO B g n cap w' (Sort.siftDown Sort.ltInt hi first lo d) ∧ w.grownBy w' (some g) := by
  obtain ⟨V, HV⟩ : ∃ V, Hid (Sort.siftDown Sort.ltInt hi first lo d = V) := ⟨_, rfl⟩
  rw [HV.out]
  go_enter Try.func71, Try.ntmps71
  go_wp2
  go_loopw [8] (fun rv wr => ∃ (r : Nat) (c : Array Int), rv = .int .i64 r ∧ r ≤ 1000000 ∧ Hid (SO B g n cap wr c) ∧ Hid (Sort.siftDown Sort.ltInt hi first r c = V) ∧ w.grownBy wr (some g)) (fun rv _ => 1000001 + hi - (intOf rv).toNat)
  case atStart => exact ⟨lo, d, rfl, hlo, h, HV.out, grown_refl w _⟩
  case round =>
    obtain ⟨r, c, rfl, hr, HO, HS, hg⟩ := hrel
    obtain ⟨ch, hch⟩ : ∃ ch : Nat, 2 * (r : Int) + 1 = (ch : Int) := ⟨2 * r + 1, by omega⟩
    have hchn : 2 * r + 1 = ch := by omega
    have hs := HS.out
    rw [Sort.siftDown, hchn] at hs
    rcases Nat.lt_or_ge ch hi with hlt | hlt
    case inr =>
      rw [dif_pos hlt] at hs
      obtain rfl := hs
      clear HS hchn
      go_wp2
      go_end0
      exact ⟨rfl, HO.out, hg⟩
    case inl =>
      rw [dif_neg (by omega), show 2 * r + 2 = ch + 1 by omega] at hs
      obtain ⟨p0, hp0⟩ : ∃ p0 : Nat, (first : Int) + (r : Int) = (p0 : Int) := ⟨first + r, by omega⟩
      obtain ⟨p1, hp1⟩ : ∃ p1 : Nat, (first : Int) + (ch : Int) = (p1 : Int) := ⟨first + ch, by omega⟩
      obtain ⟨p2, hp2⟩ : ∃ p2 : Nat, (p1 : Int) + 1 = (p2 : Int) := ⟨p1 + 1, by omega⟩
      obtain ⟨c2, hc2⟩ : ∃ c2 : Nat, (ch : Int) + 1 = (c2 : Int) := ⟨ch + 1, by omega⟩
      have hp3 : (first : Int) + (c2 : Int) = (p2 : Int) := by omega
      rw [show first + r = p0 by omega, show first + ch = p1 by omega, show p1 + 1 = p2 by omega, show first + (ch + 1) = p2 by omega, show ch + 1 = c2 by omega] at hs
      have hb0 : p0 < n := by omega
      have hb1 : p1 < n := by omega
      have hwp0 : IntKind.i64.wrap (p0 : Int) = (p0 : Int) := IntWalk.i64_in _ (by omega)
      have hwp1 : IntKind.i64.wrap (p1 : Int) = (p1 : Int) := IntWalk.i64_in _ (by omega)
      have hwp2 : IntKind.i64.wrap (p2 : Int) = (p2 : Int) := IntWalk.i64_in _ (by omega)
      have k0 := HO.out.cell p0 hb0
      have k1 := HO.out.cell p1 hb1
      have f0 := HO.out.frz p0
      have f1 := HO.out.frz p1
      have f2 := HO.out.frz p2
      have k2 : c2 < hi → wr.cell? ⟨g, p2, none⟩ = some (.int .i32 c[p2]!) := fun h9 => HO.out.cell p2 (by omega)
      obtain ⟨x0, hx0⟩ : ∃ x, c[p0]! = x := ⟨_, rfl⟩
      obtain ⟨x1, hx1⟩ : ∃ x, c[p1]! = x := ⟨_, rfl⟩
      obtain ⟨x2, hx2⟩ : ∃ x, c[p2]! = x := ⟨_, rfl⟩
      rw [hx0] at k0 hs
      rw [hx1] at k1 hs
      rw [hx2] at k2 hs
      have HX0 := Lib.hid hx0; have HX1 := Lib.hid hx1; have HX2 := Lib.hid hx2
      have HS2 := Lib.hid hs
      clear hx0 hx1 hx2 hs HS hchn
      have hlc : (ch : Int) < (hi : Int) := by omega
      rcases Nat.lt_or_ge c2 hi with hA | hA
      case' inl => by_cases hA2 : x1 < x2
      case' pos =>
        have k2' := k2 hA
        have hb2 : p2 < n := by omega
        have hc2i : (c2 : Int) < (hi : Int) := by omega
        have HL := Lib.hid (fun w => less_t hA2 w)
        clear k2
        have hs := HS2.out
        rw [if_pos (by simp [Sort.ltInt, hA, hA2]), dif_pos hA] at hs
        have HR := Lib.hid hs
        clear hs HS2
        go_wp2
        go_quiet (first | (go_at_call 65; refine Calls.quiet_of_same (HL.out _)))
        go_wp2
        obtain ⟨q, hq⟩ : ∃ q, q = c2 := ⟨_, rfl⟩
        obtain ⟨pq, hpq⟩ : ∃ pq, pq = p2 := ⟨_, rfl⟩
        obtain ⟨xq, hxq⟩ : ∃ xq, xq = x2 := ⟨_, rfl⟩
        subst hq
        subst hpq
        subst hxq
        have HXQ := HX2
        have hpq := hp3
        have hwq := hwp2
        have hbq : pq < n := by omega
        have hqr : r < q := by omega
        have hqm : q ≤ hi := by omega
      case' neg =>
        have k2' := k2 hA
        have hb2 : p2 < n := by omega
        have hc2i : (c2 : Int) < (hi : Int) := by omega
        have HL := Lib.hid (fun w => less_f hA2 w)
        clear k2
        have hs := HS2.out
        rw [if_neg (by simp [Sort.ltInt, hA2])] at hs
        have HR := Lib.hid hs
        clear hs HS2
        go_wp2
        go_quiet (first | (go_at_call 65; refine Calls.quiet_of_same (HL.out _)))
        go_wp2
        obtain ⟨q, hq⟩ : ∃ q, q = ch := ⟨_, rfl⟩
        obtain ⟨pq, hpq⟩ : ∃ pq, pq = p1 := ⟨_, rfl⟩
        obtain ⟨xq, hxq⟩ : ∃ xq, xq = x1 := ⟨_, rfl⟩
        subst hq
        subst hpq
        subst hxq
        have HXQ := HX1
        have hpq := hp1
        have hwq := hwp1
        have hbq : pq < n := hb1
        have hqr : r < q := by omega
        have hqm : q ≤ hi := by omega
      case' inr =>
        have hc2i : ¬ ((c2 : Int) < (hi : Int)) := by omega
        have hc2n : ¬ (c2 < hi) := by omega
        clear k2
        have hs := HS2.out
        rw [if_neg (by simp; omega)] at hs
        have HR := Lib.hid hs
        clear hs HS2
        go_wp2
        go_quiet (first | (go_at_call 65; refine Calls.quiet_of_same (less_any _ _ _)))
        go_wp2
        obtain ⟨q, hq⟩ : ∃ q, q = ch := ⟨_, rfl⟩
        obtain ⟨pq, hpq⟩ : ∃ pq, pq = p1 := ⟨_, rfl⟩
        obtain ⟨xq, hxq⟩ : ∃ xq, xq = x1 := ⟨_, rfl⟩
        subst hq
        subst hpq
        subst hxq
        have HXQ := HX1
        have hpq := hp1
        have hwq := hwp1
        have hbq : pq < n := hb1
        have hqr : r < q := by omega
        have hqm : q ≤ hi := by omega
      all_goals
        have HO1 := Lib.hid (HO.out.drewN nq)
        have hg1 := grown_trans hg (grown_drewN wr nq _)
        clear k0 k1 f0 f1 f2 hp1 hp2 hc2 hp3 hwp1 hwp2
        generalize wr.drewN nq = w1 at HO1 hg1 ⊢
        have k0 := HO1.out.cell p0 hb0
        have k1 := HO1.out.cell pq hbq
        have f0 := HO1.out.frz p0
        have f1 := HO1.out.frz pq
        rw [HX0.out] at k0
        rw [HXQ.out] at k1
        by_cases hB : x0 < xq
        case neg =>
          have HL2 := Lib.hid (fun w => less_f hB w)
          have hr := HR.out
          rw [if_pos (by simp [Sort.ltInt, hB])] at hr
          obtain rfl := hr
          go_quiet (first | (go_at_call 65; refine Calls.quiet_of_same (HL2.out _)))
          go_wp2
          refine bodyPost_ret (results_none rfl _ _ _) rfl ?_
          exact ⟨rfl, HO1.out.drewN _, grown_trans hg1 (grown_drewN _ _ _)⟩
        case pos =>
          have HL2 := Lib.hid (fun w => less_t hB w)
          have hr := HR.out
          rw [if_neg (by simp [Sort.ltInt, hB])] at hr
          have HR2 := Lib.hid hr
          clear hr HR
          go_quiet (first | (go_at_call 65; refine Calls.quiet_of_same (HL2.out _)))
          go_wp2
          go_region
          all_goals go_wp2
          have hO3 := (HO1.out.drewN (nq + 1)).swp p0 pq
          rw [HX0.out, HXQ.out] at hO3
          have hg3 := grown_trans (grown_trans hg1 (grown_drewN w1 (nq + 1) _)) (grown_swp (w1.drewN (nq + 1)) g p0 pq (.int .i32 xq) (.int .i32 x0))
          have HO3 := Lib.hid hO3
          clear hO3
          go_roundw
          case rel => exact ⟨q, Sort.swp c p0 pq, rfl, by omega, HO3.out, HR2.out, hg3⟩
          case measure => simp [intOf]; omega
theorem heap_any (B g n cap : Nat) (d : Array Int) (a b : Nat) (w : World) (h : SO B g n cap w d) (hab : a < b) (hbn : b ≤ n) (hl : n ≤ 1000000) :
    Calls Try.prog 60 #[.slice (some ⟨g, 0, none⟩) n cap, .int .i64 a, .int .i64 b] w fun e w' => e = .returned (.tuple #[]) ∧ SO B g n cap w' (Sort.heapSort Sort.ltInt d a b) ∧ w.grownBy w' (some g) := by
  obtain ⟨hi, hhi⟩ : ∃ hi : Nat, (b : Int) - (a : Int) = (hi : Int) := ⟨b - a, by omega⟩
  have hhn : b - a = hi := by omega
  unfold Sort.heapSort
  rw [hhn]
  obtain ⟨V1, HV1⟩ : ∃ V1, Hid (Sort.heapBuild Sort.ltInt hi a ((hi - 1) / 2 + 1) d = V1) := ⟨_, rfl⟩
  rw [HV1.out]
  obtain ⟨V, HV⟩ : ∃ V, Hid (Sort.heapPop Sort.ltInt a hi V1 = V) := ⟨_, rfl⟩
  rw [HV.out]
  have hq : ((hi : Int) - 1) / 2 = (((hi - 1) / 2 : Nat) : Int) := by omega
  obtain ⟨k0, hk0⟩ : ∃ k0 : Nat, (hi - 1) / 2 = k0 := ⟨_, rfl⟩
  rw [hk0] at HV1 hq
  have hk9 : k0 ≤ n := by omega
  have hhin : a + hi ≤ n := by omega
  have hh1 : 1 ≤ hi := by omega
  have hh1i : (0 : Int) ≤ (hi : Int) - 1 := by omega
  have HQ := Lib.hid hq
  clear hhn hk0 hq
  go_enter Try.func60, Try.ntmps60
  go_wp2
  go_loopw [9] (fun iv wr => ∃ (k : Nat) (c : Array Int), iv = .int .i64 ((k : Int) - 1) ∧ k ≤ n + 1 ∧ Hid (SO B g n cap wr c) ∧ Hid (Sort.heapBuild Sort.ltInt hi a k c = V1) ∧ w.grownBy wr (some g)) (fun iv _ => (intOf iv + 1).toNat)
  case atStart => exact ⟨k0 + 1, d, by have := HQ.out; congr 1; omega, by omega, h, HV1.out, grown_refl w _⟩
  case' round =>
    obtain ⟨k, c, rfl, hk, HO, HS, hg⟩ := hrel
    cases k
  case' round.succ k =>
    have hs := HS.out
    rw [Sort.heapBuild] at hs
    have HS2 := Lib.hid hs
    have hi1 : ((k + 1 : Nat) : Int) - 1 = (k : Int) := by omega
    rw [hi1]
    have hki : (0 : Int) ≤ (k : Int) := by omega
    have HC := Lib.hid (sift_any B g n cap c k hi a wr HO.out hhin (by omega) hl)
    clear hs HS
    go_wp2_with (go_at_call 71; refine (HC.out).mono ?_; rintro e w2 ⟨rfl, ho2, hg2⟩)
    go_roundw
    case rel => exact ⟨k, _, by first | rfl | go_num, by omega, ho2, HS2.out, grown_trans hg hg2⟩
    case measure => simp [intOf]
  case round.zero =>
    have hs := HS.out
    rw [Sort.heapBuild] at hs
    obtain rfl := hs
    have HOc := HO
    clear HS HV1 HO
    rw [show ((0 : Nat) : Int) - 1 = -1 from rfl]
    go_wp2
    go_loopw [10] (fun iv wr => ∃ (k : Nat) (c : Array Int), iv = .int .i64 ((k : Int) - 1) ∧ k ≤ hi ∧ Hid (SO B g n cap wr c) ∧ Hid (Sort.heapPop Sort.ltInt a k c = V) ∧ w.grownBy wr (some g)) (fun iv _ => (intOf iv + 1).toNat)
    case atStart => exact ⟨hi, c, rfl, Nat.le_refl _, HOc.out, HV.out, hg⟩
    case round =>
      clear HOc HV hg
      obtain ⟨k, c, rfl, hk, HO, HS, hg⟩ := hrel
      cases k with
      | zero =>
        have hs := HS.out
        rw [Sort.heapPop] at hs
        obtain rfl := hs
        go_wp2
        go_end0
        exact ⟨rfl, HO.out, hg⟩
      | succ k =>
        have hs := HS.out
        rw [Sort.heapPop] at hs
        obtain ⟨p1, hp1⟩ : ∃ p1 : Nat, (a : Int) + (k : Int) = (p1 : Int) := ⟨a + k, by omega⟩
        rw [show a + k = p1 by omega] at hs
        have HS2 := Lib.hid hs
        clear hs HS
        have hi1 : ((k + 1 : Nat) : Int) - 1 = (k : Int) := by omega
        rw [hi1]
        have hki : (0 : Int) ≤ (k : Int) := by omega
        have hb0 : a < n := by omega
        have hb1 : p1 < n := by omega
        have hwp1 : IntKind.i64.wrap (p1 : Int) = (p1 : Int) := IntWalk.i64_in _ (by omega)
        have k0' := HO.out.cell a hb0
        have k1 := HO.out.cell p1 hb1
        have f0 := HO.out.frz a
        have f1 := HO.out.frz p1
        obtain ⟨x0, hx0⟩ : ∃ x, c[a]! = x := ⟨_, rfl⟩
        obtain ⟨x1, hx1⟩ : ∃ x, c[p1]! = x := ⟨_, rfl⟩
        rw [hx0] at k0'
        rw [hx1] at k1
        have hO3 := (HO.out.drewN 1).swp a p1
        rw [hx0, hx1] at hO3
        have hsc := HO.out.cellset a p1 hb1
        rw [hx1] at hsc
        have hg3 := grown_trans (grown_trans hg (grown_drewN wr 1 _)) (grown_swp (wr.drewN 1) g a p1 (.int .i32 x1) (.int .i32 x0))
        have HC := Lib.hid (sift_any B g n cap _ 0 k a _ hO3 (by omega) (by omega) hl)
        clear hO3 hx0 hx1
        go_wp2
        go_region
        all_goals
          go_wp2_with fail
          refine (HC.out).mono ?_
          rintro e w2 ⟨rfl, ho2, hg2⟩
          go_wp2_with fail
          go_roundw
          case rel => exact ⟨k, _, by first | rfl | go_num, by omega, ho2, HS2.out, grown_trans hg3 hg2⟩
          case measure => simp [intOf]
end Go.Proofs.Ytfhfhfadebcbfaa
namespace Go.Proofs.Ytfhfhfadebcbfaa
open Go.RowKit
set_option maxHeartbeats 8000000
set_option maxRecDepth 100000
theorem scanUp_le (p : Int → Bool) (d : Array Int) (j : Nat) : ∀ (f i : Nat), j + 2 - i ≤ f → i ≤ j + 2 → i ≤ Sort.scanUp p d j i ∧ Sort.scanUp p d j i ≤ j + 2
  | 0, i, hf, hi => by
    rw [Sort.scanUp, if_neg (by simp; omega)]; omega
  | f + 1, i, hf, hi => by
    rw [Sort.scanUp]
    split
    · rename_i h9
      have : i ≤ j := by simp at h9; exact h9.1
      have := scanUp_le p d j f (i + 1) (by omega) (by omega)
      omega
    · omega
theorem scanDown_le (p : Int → Bool) (d : Array Int) (i : Nat) : ∀ j, Sort.scanDown p d i j ≤ j
  | 0 => Nat.le_refl _
  | j + 1 => by
    rw [Sort.scanDown]
    split
    · have := scanDown_le p d i j; omega
    · omega
theorem scanDown_eq (p : Int → Bool) (d : Array Int) (i j : Nat) (hi : 1 ≤ i) : Sort.scanDown p d i j = if i ≤ j && p d[j]! then Sort.scanDown p d i (j - 1) else j := by
  cases j with
  | zero => rw [if_neg (by simp; omega)]; rfl
  | succ j => rw [Sort.scanDown]; rfl
theorem partEq_any (B g n cap : Nat) (d : Array Int) (a b pv : Nat) (w : World) (h : SO B g n cap w d) (hab : a < b) (hbn : b ≤ n) (hpv : pv < b) (hl : n ≤ 1000000) :
    Calls Try.prog 66 #[.slice (some ⟨g, 0, none⟩) n cap, .int .i64 a, .int .i64 b, .int .i64 pv] w fun e w' => e = .returned (.int .i64 (Sort.partitionEqual Sort.ltInt d a b pv).1) ∧ SO B g n cap w' (Sort.partitionEqual Sort.ltInt d a b pv).2 ∧ w.grownBy w' (some g) := by
  obtain ⟨V, HV⟩ : ∃ V, Hid (Sort.partEqLoop Sort.ltInt a (a + 1) (b - 1) (Sort.swp d a pv) = V) := ⟨_, rfl⟩
  unfold Sort.partitionEqual
  rw [HV.out]
  have ka := h.cell a (by omega)
  have kb := h.cell pv (by omega)
  have fa := h.frz a
  have fb := h.frz pv
  obtain ⟨xa, hxa⟩ : ∃ x, d[a]! = x := ⟨_, rfl⟩
  obtain ⟨xb, hxb⟩ : ∃ x, d[pv]! = x := ⟨_, rfl⟩
  rw [hxa] at ka
  rw [hxb] at kb
  have hsc := h.cellset a pv (by omega)
  rw [hxb] at hsc
  have hO3 := (h.drewN 1).swp a pv
  rw [hxa, hxb] at hO3
  have hg3 := grown_trans (grown_drewN w 1 (some g)) (grown_swp (w.drewN 1) g a pv (.int .i32 xb) (.int .i32 xa))
  have HO3 := Lib.hid hO3
  have hbi : (a : Int) < (n : Int) := by omega
  have hbj : (pv : Int) < (n : Int) := by omega
  have HBC : Hid ((b : Int) - 1 = ((b - 1 : Nat) : Int)) := by show _ = _; omega
  clear hO3 hxa hxb
  go_enter Try.func66, Try.ntmps66
  go_wp2
  go_region
  all_goals go_wp2
  go_loopw [9, 10] (fun iv jv wr => ∃ (i j : Nat) (c : Array Int), iv = .int .i64 i ∧ jv = .int .i64 j ∧ a + 1 ≤ i ∧ i ≤ j + 2 ∧ j < n ∧ Hid (SO B g n cap wr c) ∧ Hid (Sort.partEqLoop Sort.ltInt a i j c = V) ∧ w.grownBy wr (some g)) (fun iv jv _ => (intOf jv).toNat + 2 - (intOf iv).toNat)
  case atStart => exact ⟨a + 1, b - 1, _, by go_num, by first | go_num | (congr 1; exact HBC.out), Nat.le_refl _, by omega, by omega, HO3.out, HV.out, hg3⟩
  case round =>
    clear ka kb fa fb hsc HO3 hg3 HV
    obtain ⟨i0, j0, c, rfl, rfl, hi0, hij0, hj0, HO, HS, hg⟩ := hrel
    have hs := HS.out
    rw [Sort.partEqLoop] at hs
    have hba : a < n := by omega
    obtain ⟨xa, hxa⟩ : ∃ x, c[a]! = x := ⟨_, rfl⟩
    simp only [hxa] at hs
    have HXA := Lib.hid hxa
    obtain ⟨I, hI⟩ : ∃ I, Sort.scanUp (fun x => !Sort.ltInt xa x) c j0 i0 = I := ⟨_, rfl⟩
    rw [hI] at hs
    obtain ⟨J, hJ⟩ : ∃ J, Sort.scanDown (fun x => Sort.ltInt xa x) c I j0 = J := ⟨_, rfl⟩
    simp only [hJ] at hs
    have hIr := scanUp_le (fun x => !Sort.ltInt xa x) c j0 _ i0 (Nat.le_refl _) hij0
    rw [hI] at hIr
    have hJr := scanDown_le (fun x => Sort.ltInt xa x) c I j0
    rw [hJ] at hJr
    have HI := Lib.hid hI
    have HJ := Lib.hid hJ
    have HS2 := Lib.hid hs
    clear hs HS hI hJ hxa
    go_wp2
    go_loopw [9] (fun iv wr => ∃ i : Nat, iv = .int .i64 i ∧ i0 ≤ i ∧ i ≤ j0 + 2 ∧ Hid (SO B g n cap wr c) ∧ Hid (Sort.scanUp (fun x => !Sort.ltInt xa x) c j0 i = I) ∧ w.grownBy wr (some g)) (fun iv _ => j0 + 2 - (intOf iv).toNat)
    case atStart => exact ⟨i0, rfl, Nat.le_refl _, hij0, HO.out, HI.out, hg⟩
    case' round =>
      clear HO hg HI
      obtain ⟨i, rfl, hi1, hi2, HO, HS, hg⟩ := hrel
      have hs := HS.out
      rw [Sort.scanUp] at hs
      rcases Nat.lt_or_ge j0 i with hgt | hle
      case' inl =>
        rw [if_neg (by simp; omega)] at hs
        have hii : i = I := hs
        subst hii
        have hgi : ¬ ((i : Int) ≤ (j0 : Int)) := by omega
        have hgn : ¬ (i ≤ j0) := by omega
        have HL := Lib.hid (fun w => less_any 0 0 w)
      case' inr =>
        have ki := HO.out.cell i (by omega)
        have kp := HO.out.cell a hba
        obtain ⟨xi, hxi⟩ : ∃ x, c[i]! = x := ⟨_, rfl⟩
        rw [hxi] at ki hs
        rw [HXA.out] at kp
        have hgi : (i : Int) ≤ (j0 : Int) := by omega
        have hbi : (i : Int) < (n : Int) := by omega
        have hba2 : (a : Int) < (n : Int) := by omega
        clear hxi
        by_cases hp : xa < xi
      case neg =>
        have HL := Lib.hid (fun w => less_f hp w)
        rw [if_pos (by simp [Sort.ltInt]; omega)] at hs
        have HS3 := Lib.hid hs
        clear hs HS
        go_wp2
        go_quiet (first | (go_at_call 65; refine Calls.quiet_of_same (HL.out _)))
        go_wp2
        go_roundw
        case rel => exact ⟨i + 1, by go_num, by omega, by omega, HO.out.drewN _, HS3.out, grown_trans hg (grown_drewN _ _ _)⟩
        case measure => simp [intOf]; omega
      case' pos =>
        have HL := Lib.hid (fun w => less_t hp w)
        rw [if_neg (by simp [Sort.ltInt]; omega)] at hs
        have hii : i = I := hs
        subst hii
    all_goals
      go_wp2
      go_quiet (first | (go_at_call 65; refine Calls.quiet_of_same (HL.out _)))
      go_wp2
      have HO1 := Lib.hid (HO.out.drewN nq)
      have hg1 := grown_trans hg (grown_drewN wr nq _)
      try clear ki
      try clear kp
      try clear hp
      try clear HS
      clear HO hg HL
      go_loopw [10] (fun jv wr => ∃ j : Nat, jv = .int .i64 j ∧ j ≤ j0 ∧ Hid (SO B g n cap wr c) ∧ Hid (Sort.scanDown (fun x => Sort.ltInt xa x) c i j = J) ∧ w.grownBy wr (some g)) (fun jv _ => (intOf jv).toNat)
      case atStart => exact ⟨j0, rfl, Nat.le_refl _, HO1.out, HJ.out, hg1⟩
      case' round =>
        clear HO1 hg1 HJ
        obtain ⟨j, rfl, hjj, HO, HS, hg⟩ := hrel
        have hs := HS.out
        rcases Nat.lt_or_ge j i with hgt2 | hle2
        case' inl =>
          rw [scanDown_eq _ _ _ _ (by omega)] at hs
          rw [if_neg (by simp; omega)] at hs
          have hjJ : j = J := hs
          subst hjJ
          have hgj : ¬ ((i : Int) ≤ (j : Int)) := by omega
          have hgjn : ¬ (i ≤ j) := by omega
          have HL := Lib.hid (fun w => less_any 0 0 w)
        case' inr =>
          rw [scanDown_eq _ _ _ _ (by omega)] at hs
          have kj := HO.out.cell j (by omega)
          have kp := HO.out.cell a hba
          obtain ⟨xj, hxj⟩ : ∃ x, c[j]! = x := ⟨_, rfl⟩
          rw [hxj] at kj hs
          rw [HXA.out] at kp
          have hgj : (i : Int) ≤ (j : Int) := by omega
          have hbj2 : (j : Int) < (n : Int) := by omega
          have hba3 : (a : Int) < (n : Int) := by omega
          have hjc : (j : Int) - 1 = ((j - 1 : Nat) : Int) := by omega
          clear hxj
          by_cases hp2 : xa < xj
        case pos =>
          have HL := Lib.hid (fun w => less_t hp2 w)
          rw [if_pos (by simp [Sort.ltInt]; omega)] at hs
          have HS3 := Lib.hid hs
          have HJC := Lib.hid hjc
          clear hs HS hjc
          go_wp2
          go_quiet (first | (go_at_call 65; refine Calls.quiet_of_same (HL.out _)))
          go_wp2
          go_roundw
          case rel => exact ⟨j - 1, by first | rfl | go_num | (congr 1; exact HJC.out), by omega, HO.out.drewN _, HS3.out, grown_trans hg (grown_drewN _ _ _)⟩
          case measure => simp [intOf]; omega
        case' neg =>
          have HL := Lib.hid (fun w => less_f hp2 w)
          rw [if_neg (by simp [Sort.ltInt]; omega)] at hs
          have hjJ : j = J := hs
          subst hjJ
      all_goals
        go_wp2
        go_quiet (first | (go_at_call 65; refine Calls.quiet_of_same (HL.out _)))
        have HO1 := Lib.hid (HO.out.drewN nq)
        have hg1 := grown_trans hg (grown_drewN wr nq _)
        try clear kj
        try clear kp
        try clear hp2
        try clear HS
        clear HO hg HL
        generalize wr.drewN nq = w1 at HO1 hg1 ⊢
        rcases Nat.lt_or_ge j i with hend | hgo
        case inl =>
          first
          | (exfalso; omega)
          | (have hs := HS2.out
             rw [if_pos hend] at hs
             obtain rfl := hs
             go_wp2
             go_ret
             exact ⟨rfl, HO1.out, hg1⟩)
        case inr =>
          first
          | (exfalso; omega)
          | (have hs := HS2.out
             rw [if_neg (by omega), dif_pos (by omega)] at hs
             have HS9 := Lib.hid hs
             have ka := HO1.out.cell i (by omega)
             have kb := HO1.out.cell j (by omega)
             have fa := HO1.out.frz i
             have fb := HO1.out.frz j
             obtain ⟨xa, hxa⟩ : ∃ x, c[i]! = x := ⟨_, rfl⟩
             obtain ⟨xb, hxb⟩ : ∃ x, c[j]! = x := ⟨_, rfl⟩
             rw [hxa] at ka
             rw [hxb] at kb
             have hsc := HO1.out.cellset i j (by omega)
             rw [hxb] at hsc
             have hO3 := (HO1.out.drewN 1).swp i j
             rw [hxa, hxb] at hO3
             have hg3 := grown_trans (grown_trans hg1 (grown_drewN w1 1 _)) (grown_swp (w1.drewN 1) g i j (.int .i32 xb) (.int .i32 xa))
             have HO3 := Lib.hid hO3
             have hbi2 : (i : Int) < (n : Int) := by omega
             have hbj2 : (j : Int) < (n : Int) := by omega
             have HJC : Hid ((j : Int) - 1 = ((j - 1 : Nat) : Int)) := by show _ = _; omega
             clear hO3 hxa hxb hs
             go_wp2
             go_region
             all_goals go_wp2
             go_roundw
             case rel => exact ⟨i + 1, j - 1, _, by go_num, by first | go_num | (congr 1; exact HJC.out), by omega, by omega, by omega, HO3.out, HS9.out, hg3⟩
             case measure => simp [intOf]; omega)
end Go.Proofs.Ytfhfhfadebcbfaa
namespace Go.Proofs.Ytfhfhfadebcbfaa
open Go.RowKit
set_option maxHeartbeats 8000000
set_option maxRecDepth 100000
/-- A count in a block of its own. -/
def Sw (B Q : Nat) (w : World) (s : Nat) : Prop := Own B 3 w (.slice (some ⟨Q, 0, none⟩) 1 1) [.int .i64 s]
section
variable {B Q g n cap s : Nat} {w w' : World} {d : Array Int}
theorem Sw.cell (h : Sw B Q w s) : w.cell? ⟨Q, 0, none⟩ = some (.int .i64 s) := Own.cell h (j := 0) rfl
theorem Sw.frz (h : Sw B Q w s) : w.frozen? ⟨Q, 0, none⟩ = false := Own.frozen h 0
theorem Sw.set (h : Sw B Q w s) (t : Nat) : Sw B Q (w.setCell ⟨Q, 0, none⟩ (.int .i64 t)) t := Own.set h 0 (.int .i64 t) rfl
theorem Sw.drewN (h : Sw B Q w s) (q : Nat) : Sw B Q (w.drewN q) s := Own.below h (below_drewN (Below.refl _ _) q)
end
theorem order2_any (B Q g n cap : Nat) (d : Array Int) (a b s : Nat) (w : World) (h : SO B g n cap w d) (hs : Sw B Q w s) (hQ : Q ≠ g) (ha : a < n) (hb : b < n) (_hl : n ≤ 1000000) (hs9 : s ≤ 1000) :
    Calls Try.prog 77 #[.slice (some ⟨g, 0, none⟩) n cap, .int .i64 a, .int .i64 b, .pointer (some ⟨Q, 0, none⟩)] w fun e w' =>
      e = .returned (.tuple #[.int .i64 (Sort.order2 Sort.ltInt d a b s).1, .int .i64 (Sort.order2 Sort.ltInt d a b s).2.1]) ∧ SO B g n cap w' d ∧ Sw B Q w' (Sort.order2 Sort.ltInt d a b s).2.2 ∧ w.grownBy w' (some Q) := by
  have ka := h.cell a ha
  have kb := h.cell b hb
  obtain ⟨x, hx⟩ : ∃ x, d[a]! = x := ⟨_, rfl⟩
  obtain ⟨y, hy⟩ : ∃ y, d[b]! = y := ⟨_, rfl⟩
  rw [hx] at ka
  rw [hy] at kb
  have hbi : (a : Int) < (n : Int) := by omega
  have hbj : (b : Int) < (n : Int) := by omega
  by_cases hp : y < x
  · have e : Sort.order2 Sort.ltInt d a b s = (b, a, s + 1) := by unfold Sort.order2; rw [hx, hy, if_pos (by simp [Sort.ltInt, hp])]
    rw [e]
    have HL := Lib.hid (fun w => less_t hp w)
    clear e hx hy
    have kc := hs.cell
    have fc := hs.frz
    go_enter Try.func77, Try.ntmps77
    go_wp2
    go_quiet (first | (go_at_call 65; refine Calls.quiet_of_same (HL.out _)))
    have HO := Lib.hid (h.drewN nq)
    have HS := Lib.hid (hs.drewN nq)
    have hg := grown_drewN w nq (some Q)
    clear ka kb kc fc
    generalize w.drewN nq = w1 at HO HS hg ⊢
    have kc := HS.out.cell
    have fc := HS.out.frz
    have hw1 : IntKind.i64.wrap ((s : Int) + 1) = (s : Int) + 1 := IntWalk.i64_in _ (by omega)
    have HS2 := Lib.hid (HS.out.set (s + 1))
    have hg2 := grown_trans hg (grown_set w1 Q 0 (.int .i64 ((s + 1 : Nat) : Int)))
    have HO2 := Lib.hid (HO.out.keep (grown_set w1 Q 0 (.int .i64 ((s + 1 : Nat) : Int))) (fun h9 => hQ (Option.some.inj h9)))
    have hc9 : ((s + 1 : Nat) : Int) = (s : Int) + 1 := by omega
    go_wp2
    go_ret2
    exact ⟨rfl, HO2.out, HS2.out, hg2⟩
  · have e : Sort.order2 Sort.ltInt d a b s = (a, b, s) := by unfold Sort.order2; rw [hx, hy, if_neg (by simp [Sort.ltInt, hp])]
    rw [e]
    have HL := Lib.hid (fun w => less_f hp w)
    clear e hx hy
    go_enter Try.func77, Try.ntmps77
    go_wp2
    go_quiet (first | (go_at_call 65; refine Calls.quiet_of_same (HL.out _)))
    go_wp2
    go_ret2
    exact ⟨rfl, h.drewN _, hs.drewN _, grown_drewN w _ _⟩
theorem order2_mem (d : Array Int) (a b s : Nat) : ((Sort.order2 Sort.ltInt d a b s).1 = a ∧ (Sort.order2 Sort.ltInt d a b s).2.1 = b ∨ (Sort.order2 Sort.ltInt d a b s).1 = b ∧ (Sort.order2 Sort.ltInt d a b s).2.1 = a) ∧ (Sort.order2 Sort.ltInt d a b s).2.2 ≤ s + 1 := by
  unfold Sort.order2
  split
  · exact ⟨.inr ⟨rfl, rfl⟩, Nat.le_refl _⟩
  · exact ⟨.inl ⟨rfl, rfl⟩, Nat.le_succ _⟩
theorem median_any (B Q g n cap : Nat) (d : Array Int) (a b c s : Nat) (w : World) (h : SO B g n cap w d) (hs : Sw B Q w s) (hQ : Q ≠ g) (ha : a < n) (hb : b < n) (hc : c < n) (hl : n ≤ 1000000) (hs9 : s ≤ 900) :
    Calls Try.prog 75 #[.slice (some ⟨g, 0, none⟩) n cap, .int .i64 a, .int .i64 b, .int .i64 c, .pointer (some ⟨Q, 0, none⟩)] w fun e w' =>
      e = .returned (.int .i64 (Sort.median Sort.ltInt d a b c s).1) ∧ SO B g n cap w' d ∧ Sw B Q w' (Sort.median Sort.ltInt d a b c s).2 ∧ w.grownBy w' (some Q) ∧ (Sort.median Sort.ltInt d a b c s).1 < n ∧ (Sort.median Sort.ltInt d a b c s).2 ≤ s + 3 := by
  obtain ⟨R, hR⟩ : ∃ R, Sort.median Sort.ltInt d a b c s = R := ⟨_, rfl⟩
  rw [hR]
  unfold Sort.median at hR
  have m1 := order2_mem d a b s
  have H1 := order2_any B Q g n cap d a b s w h hs hQ ha hb hl (by omega)
  obtain ⟨R1, hR1⟩ : ∃ R, Sort.order2 Sort.ltInt d a b s = R := ⟨_, rfl⟩
  rw [hR1] at m1 H1 hR
  obtain ⟨a1, b1, s1⟩ := R1
  dsimp only at m1 H1 hR
  have m2 := order2_mem d b1 c s1
  have H2 := fun w h hs => order2_any B Q g n cap d b1 c s1 w h hs hQ (by omega) hc hl (by omega)
  obtain ⟨R2, hR2⟩ : ∃ R, Sort.order2 Sort.ltInt d b1 c s1 = R := ⟨_, rfl⟩
  simp only [hR2] at m2 H2 hR
  obtain ⟨b2, c2, s2⟩ := R2
  dsimp only at m2 H2 hR
  have m3 := order2_mem d a1 b2 s2
  have H3 := fun w h hs => order2_any B Q g n cap d a1 b2 s2 w h hs hQ (by omega) (by omega) hl (by omega)
  obtain ⟨R3, hR3⟩ : ∃ R, Sort.order2 Sort.ltInt d a1 b2 s2 = R := ⟨_, rfl⟩
  simp only [hR3] at m3 H3 hR
  obtain ⟨a3, b3, s3⟩ := R3
  dsimp only at m3 H3 hR
  subst hR
  replace H1 := Lib.hid H1
  replace H2 := Lib.hid H2
  replace H3 := Lib.hid H3
  clear hR1 hR2 hR3
  have hr : b3 < n ∧ s3 ≤ s + 3 := by omega
  clear m1 m2 m3
  go_enter Try.func75, Try.ntmps75
  go_wp2_with fail
  refine H1.out.mono ?_
  rintro e w1 ⟨rfl, ho1, hs1, hg1⟩
  go_wp2_with fail
  refine (H2.out _ ho1 hs1).mono ?_
  rintro e w2 ⟨rfl, ho2, hs2, hg2⟩
  go_wp2_with fail
  refine (H3.out _ ho2 hs2).mono ?_
  rintro e w3 ⟨rfl, ho3, hs3, hg3⟩
  go_wp2_with fail
  go_ret
  exact ⟨rfl, ho3, hs3, grown_trans (grown_trans hg1 hg2) hg3, hr.1, hr.2⟩
theorem medadj_any (B Q g n cap : Nat) (d : Array Int) (a s : Nat) (w : World) (h : SO B g n cap w d) (hs : Sw B Q w s) (hQ : Q ≠ g) (ha : 1 ≤ a) (hb : a + 1 < n) (hl : n ≤ 1000000) (hs9 : s ≤ 900) :
    Calls Try.prog 74 #[.slice (some ⟨g, 0, none⟩) n cap, .int .i64 a, .pointer (some ⟨Q, 0, none⟩)] w fun e w' =>
      e = .returned (.int .i64 (Sort.medianAdjacent Sort.ltInt d a s).1) ∧ SO B g n cap w' d ∧ Sw B Q w' (Sort.medianAdjacent Sort.ltInt d a s).2 ∧ w.grownBy w' (some Q) ∧ (Sort.medianAdjacent Sort.ltInt d a s).1 < n ∧ (Sort.medianAdjacent Sort.ltInt d a s).2 ≤ s + 3 := by
  have HM := Lib.hid (median_any B Q g n cap d (a - 1) a (a + 1) s w h hs hQ (by omega) (by omega) (by omega) hl hs9)
  unfold Sort.medianAdjacent
  generalize Sort.median Sort.ltInt d (a - 1) a (a + 1) s = R at *
  have h1 : (a : Int) - 1 = ((a - 1 : Nat) : Int) := by omega
  have h2 : (a : Int) + 1 = ((a + 1 : Nat) : Int) := by omega
  have hw1 : IntKind.i64.wrap ((a - 1 : Nat) : Int) = ((a - 1 : Nat) : Int) := IntWalk.i64_in _ (by omega)
  have hw2 : IntKind.i64.wrap ((a + 1 : Nat) : Int) = ((a + 1 : Nat) : Int) := IntWalk.i64_in _ (by omega)
  obtain ⟨p, hp⟩ : ∃ p : Nat, p = a - 1 := ⟨_, rfl⟩
  obtain ⟨q, hq⟩ : ∃ q : Nat, q = a + 1 := ⟨_, rfl⟩
  rw [← hp] at HM h1 hw1
  rw [← hq] at HM h2 hw2
  clear hp hq
  go_enter Try.func74, Try.ntmps74
  go_wp2_with fail
  refine HM.out.mono ?_
  rintro e w1 ⟨rfl, h9⟩
  go_wp2_with fail
  go_ret
  exact ⟨rfl, h9⟩
end Go.Proofs.Ytfhfhfadebcbfaa
