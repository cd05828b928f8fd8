/- Walks: is a number a place. -/
import Derived.Test.YthjenihaogihpaaW07
namespace Go.Proofs.Ythjenihaogihpaa
open Go.RowKit
set_option maxHeartbeats 1000000
theorem cnan_any (a : Int) (w : World) : Calls Try.prog 69 #[.int .i64 a] w fun e w' => e = .returned (.bool false) ∧ w = w' := by
  go_enter Try.func69, Try.ntmps69
  go_wp2
  go_ret
  exact ⟨ret_bool (by simp), rfl⟩
theorem snan_any (a : Int) (w : World) : Calls Try.prog 62 #[.int .i64 a] w fun e w' => e = .returned (.bool false) ∧ w = w' := by
  go_enter Try.func62, Try.ntmps62
  go_wp2
  go_ret
  exact ⟨ret_bool (by simp), rfl⟩
theorem less_any (a b : Int) (w : World) : Calls Try.prog 61 #[.int .i64 a, .int .i64 b] w fun e w' => e = .returned (.bool (decide (a < b))) ∧ w = w' := by
  go_enter Try.func61, Try.ntmps61
  go_wp2
  go_ret
  exact ⟨ret_bool (by simp), rfl⟩
theorem search_any (v : Value) (l : List Int) (t : Int) (w : World) (h : Row w v (ints .i64 l)) (hs : l.Pairwise (· < ·)) (hl : l.length ≤ 2000000) :
    Calls Try.prog 49 #[v, .int .i64 t] w fun e w' => ∃ i, e = .returned (.tuple #[i, .bool (l.contains t)]) ∧ Below w.heap.size w w' := by
  obtain ⟨a, b, off, cp, rfl, HC⟩ := h.op
  have HS := Lib.hid hs; clear hs
  go_enter Try.func49, Try.ntmps49
  go_wp2
  go_loopw [7, 8] (fun i j wr => ∃ (p q : Nat), i = .int .i64 p ∧ j = .int .i64 q ∧ p ≤ q ∧ q ≤ l.length ∧ Hid (∀ (k : Nat) (y : Int), l[k]? = some y → (k < p → y < t) ∧ (q ≤ k → t ≤ y)) ∧ Below w.heap.size w wr) (fun i j _ => (intOf j).toNat - (intOf i).toNat)
  case atStart => exact ⟨0, l.length, rfl, by simp, Nat.zero_le _, Nat.le_refl _, (fun k y hk => ⟨by omega, fun hq => by have := (List.getElem?_eq_some_iff.1 hk).1; omega⟩ : ∀ (k : Nat) (y : Int), l[k]? = some y → (k < 0 → y < t) ∧ (l.length ≤ k → t ≤ y)), Below.refl _ _⟩
  case round =>
    obtain ⟨p, q, rfl, rfl, hpq, hq, HI, hb⟩ := hrel
    by_cases hlt : p < q
    · obtain ⟨y, HX, rfl, hc⟩ := HC.out ((p + q) / 2) (by omega)
      have HCM : Hid (∀ w', Below w.heap.size w w' → w'.cell? ⟨b, off + (p + q) / 2, none⟩ = some (.int .i64 y)) := hc
      have HLT : ∀ k z, l[k]? = some z → (k < (p + q) / 2 → z < y) ∧ ((p + q) / 2 < k → y < z) := by
        intro k z hk
        have hy := HX.out
        obtain ⟨k1, k2⟩ := List.getElem?_eq_some_iff.1 hk
        obtain ⟨y1, y2⟩ := List.getElem?_eq_some_iff.1 hy
        have hs := List.pairwise_iff_getElem.1 HS.out
        exact ⟨fun hh => by have := hs k _ k1 y1 hh; rw [k2, y2] at this; exact this, fun hh => by have := hs _ k y1 k1 hh; rw [k2, y2] at this; exact this⟩
      have HLT' := Lib.hid HLT; clear HLT
      rcases Int.lt_or_le y t with ht | ht
      case' inl =>
        go_wp2
        go_roundw
        case rel =>
          refine ⟨(p + q) / 2 + 1, q, by go_num, rfl, by omega, hq, ?_, hb⟩
          intro k z hk
          have h1 := HI.out k z hk
          have h2 := HLT'.out k z hk
          refine ⟨fun hh => ?_, h1.2⟩
          rcases Nat.lt_or_ge k ((p + q) / 2) with h3 | h3
          · have := h2.1 h3; omega
          · obtain rfl : k = (p + q) / 2 := by omega
            have := HX.out; rw [hk] at this; obtain rfl := Option.some.inj this; exact ht
        case measure => simp [intOf]; omega
      case' inr =>
        go_wp2
        go_roundw
        case rel =>
          refine ⟨p, (p + q) / 2, rfl, by go_num, by omega, by omega, ?_, hb⟩
          intro k z hk
          have h1 := HI.out k z hk
          have h2 := HLT'.out k z hk
          refine ⟨h1.1, fun hh => ?_⟩
          rcases Nat.lt_or_ge ((p + q) / 2) k with h3 | h3
          · have := h2.2 h3; omega
          · obtain rfl : k = (p + q) / 2 := by omega
            have := HX.out; rw [hk] at this; obtain rfl := Option.some.inj this; exact ht
        case measure => simp [intOf]; omega
    · obtain rfl : p = q := by omega
      have hnone : (∀ y, l[p]? = some y → y ≠ t) → l.contains t = false := by
        intro hne
        rw [← Bool.not_eq_true, List.contains_iff_mem]
        intro hm
        obtain ⟨k, hk⟩ := List.mem_iff_getElem?.1 hm
        have := HI.out k t hk
        rcases Nat.lt_or_ge k p with h1 | h1
        · have := this.1 h1; omega
        · rcases Nat.lt_or_ge p k with h2 | h2
          · obtain ⟨k1, k2⟩ := List.getElem?_eq_some_iff.1 hk
            have hp : p < l.length := by omega
            have h3 := List.pairwise_iff_getElem.1 HS.out p k hp k1 h2
            have h4 := (HI.out p _ (List.getElem?_eq_getElem hp)).2 (Nat.le_refl _)
            rw [k2] at h3; omega
          · obtain rfl : k = p := by omega
            exact hne t hk rfl
      by_cases hn : p < l.length
      · obtain ⟨y, HX, rfl, hc⟩ := HC.out p hn
        replace hc := hc wr hb
        have HN := Lib.hid hnone; clear hnone
        by_cases hy : y = t
        · subst hy
          have hcont : l.contains y = true := by rw [List.contains_iff_mem]; exact List.mem_of_getElem? HX.out
          have HCT := Lib.hid hcont; clear hcont
          go_wp2
          go_ret2
          have hm := HCT.out; simp only [List.contains_eq_mem, decide_eq_true_eq] at hm
          first | exact ⟨⟨_, ret2 rfl (bv (by simp [hm]))⟩, hb⟩ | exact ⟨_, ret2 rfl (bv (by simp [hm])), hb⟩
        · have hcont : l.contains t = false := HN.out (fun z hz => by rw [HX.out] at hz; obtain rfl := Option.some.inj hz; exact hy)
          have HCT := Lib.hid hcont; clear hcont
          have hyt : (y == t) = false := by simpa using hy
          go_wp2
          go_ret2
          have hm := HCT.out; simp only [List.contains_eq_mem, decide_eq_false_iff_not] at hm
          first | exact ⟨⟨_, ret2 rfl (bv (by simp [hm]))⟩, hb⟩ | exact ⟨_, ret2 rfl (bv (by simp [hm])), hb⟩
      · have hcont := hnone (fun y hy => by have := (List.getElem?_eq_some_iff.1 hy).1; omega)
        have HCT := Lib.hid hcont; clear hcont
        go_wp2
        go_ret2
        have hm := HCT.out; simp only [List.contains_eq_mem, decide_eq_false_iff_not] at hm
        first | exact ⟨⟨_, ret2 rfl (bv (by simp [hm]))⟩, hb⟩ | exact ⟨_, ret2 rfl (bv (by simp [hm])), hb⟩
end Go.Proofs.Ythjenihaogihpaa
