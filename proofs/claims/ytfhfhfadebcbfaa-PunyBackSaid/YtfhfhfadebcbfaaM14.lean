/- Walks: bytes.Count of one octet. (laid together by program out of single texts). -/
import Derived.Shelf.Bytes.SlCountOne
import Derived.Test.YtfhfhfadebcbfaaM13
namespace Go.Proofs.Ytfhfhfadebcbfaa
open Go.RowKit
set_option maxHeartbeats 2000000
set_option maxRecDepth 100000
theorem countB_eq (c : Int) (h0 : 0 ≤ c) (h1 : c < 256) : ∀ (xs : List Int), Rg 0 256 xs → Lib.countByte (Lib.bytesOf xs) c.toNat.toUInt8 = xs.count c
  | [], _ => rfl
  | x :: xs, hg => by
    have hx := hg x (by simp)
    have ih := countB_eq c h0 h1 xs (fun y hy => hg y (by simp [hy]))
    have e : Lib.bytesOf (x :: xs) = x.toNat.toUInt8 :: Lib.bytesOf xs := rfl
    rw [e]
    unfold Lib.countByte at ih ⊢
    rw [List.count_cons, List.count_cons, ih]
    congr 1
    by_cases hc : x = c
    · subst hc; simp
    · have : ¬ x.toNat.toUInt8 = c.toNat.toUInt8 := fun h9 => hc (by
        have h8 := congrArg UInt8.toNat h9
        simp only [Nat.toUInt8, UInt8.toNat_ofNat'] at h8
        omega)
      simp [this, hc]
theorem run_countRow {v : Value} {xs : List Int} {w : World} (h : Row w v (ints .u8 xs)) (hg : Rg 0 256 xs) (c : Int) (h0 : 0 ≤ c) (h1 : c < 256) :
    (Extern.BytealgCount.count #[v, .int .u8 c]).run Try.prog w = .ok (.int .i64 (xs.count c : Nat)) w := by
  obtain ⟨a, b, off, cap, rfl, hc, hm, ha, hcell⟩ := h.int
  rw [← countB_eq c h0 h1 xs hg]
  cases a with
  | none =>
    have h9 : xs = [] := by
      rcases ha with h9 | ⟨h9, _⟩
      · cases h9
      · exact h9
    subst h9
    exact Lib.run_countNil w _ _ _
  | some ad =>
    refine Lib.run_countAt w ad _ _ xs rfl (fun i hi => ?_) c
    rcases ha with h9 | ⟨h9, _⟩
    · obtain rfl := Option.some.inj h9
      have e : (⟨b, off, none⟩ : Addr).add i = ⟨b, off + i, none⟩ := by unfold Addr.add; split <;> simp_all
      rw [e, hcell i xs[i] (List.getElem?_eq_getElem hi)]; simp [List.getD, hi]
    · subst h9; simp at hi
theorem one_cell8 {w : World} {v : Value} {x : Int} (h : Row w v (ints .u8 [x])) : ∃ b off cap, v = .slice (some ⟨b, off, none⟩) 1 cap ∧ Hid (∀ w', Below w.heap.size w w' → w'.cell? ⟨b, off, none⟩ = some (.int .u8 x)) := by
  obtain ⟨a, b, off, cap, he, hc⟩ := h.op
  obtain ⟨y, hy, rfl, hc⟩ := hc.out 0 (by simp)
  obtain rfl : x = y := Option.some.inj hy.out
  exact ⟨b, off, cap, he, hc⟩
end Go.Proofs.Ytfhfhfadebcbfaa
