/- Plain definitions and laws: windows-1252. -/
import Derived.Test.YtgfdebijcpdhbaaDoorP1
namespace Go.Proofs.YtgfdebijcpdhbaaDoor
def othersL : List Int := [8364, 0, 8218, 402, 8222, 8230, 8224, 8225, 710, 8240, 352, 8249, 338, 0, 381, 0, 0, 8216, 8217, 8220, 8221, 8226, 8211, 8212, 732, 8482, 353, 8250, 339, 0, 382, 376]
def othersR : List Int := [8364, 65533, 8218, 402, 8222, 8230, 8224, 8225, 710, 8240, 352, 8249, 338, 65533, 381, 65533, 65533, 8216, 8217, 8220, 8221, 8226, 8211, 8212, 732, 8482, 353, 8250, 339, 65533, 382, 376]
def wsign (x : Int) : Int := if x < 128 ∨ 160 ≤ x then x else othersR.getD (x - 128).toNat 0
def wput (c : Int) : Int × Bool :=
  if (0 ≤ c ∧ c < 128) ∨ (160 ≤ c ∧ c < 256) then (c, true) else if c < 256 then (0, false)
  else if idx (fun y => c == y) othersL < 0 then (0, false) else (128 + idx (fun y => c == y) othersL, true)
theorem others_sign : ∀ i : Fin 32, othersR.getD i.val 0 = if othersL.getD i.val 0 = 0 then 65533 else othersL.getD i.val 0 := by decide
theorem wput_sign : ∀ n : Fin 256, wsign n.val = 65533 ∨ wput (wsign n.val) = ((n.val : Int), true) := by decide +kernel
theorem idx_spec (p : Int → Bool) (xs : List Int) : idx p xs = -1 ∨ ∃ (i : Nat) (x : Int), idx p xs = i ∧ xs[i]? = some x ∧ p x = true := by
  unfold idx
  cases h : xs.findIdx? p with
  | none => exact .inl rfl
  | some i =>
    obtain ⟨hi, hp, _⟩ := List.findIdx?_eq_some_iff_getElem.1 h
    exact .inr ⟨i, xs[i], rfl, List.getElem?_eq_getElem hi, hp⟩
theorem othersL_mem : ∀ x ∈ othersL, x ≠ 65533 := by decide
/-- What is put has just that sign. -/
theorem wput_true {c : Int} (h : (wput c).2 = true) : 0 ≤ (wput c).1 ∧ (wput c).1 < 256 ∧ wsign (wput c).1 = c ∧ c ≠ 65533 := by
  unfold wput at h ⊢
  split
  · rename_i h1
    simp only [wsign]
    rw [if_pos (by omega)]
    omega
  · rename_i h1
    rw [if_neg h1] at h
    split at h
    · simp at h
    · rename_i h2
      split at h
      · simp at h
      · rename_i h3
        rw [if_neg h2, if_neg h3]
        rcases idx_spec (fun y => c == y) othersL with h4 | ⟨i, x, h4, h5, h6⟩
        · omega
        · obtain rfl : c = x := by simpa using h6
          have hi : i < 32 := (List.getElem?_eq_some_iff.1 h5).1
          have hm := othersL_mem c (List.mem_of_getElem? h5)
          have hs := others_sign ⟨i, hi⟩
          simp only [List.getD, h5, Option.getD_some] at hs
          rw [if_neg (by omega : ¬ c = 0)] at hs
          rw [h4]
          refine ⟨by simp only []; omega, by simp only []; omega, ?_, hm⟩
          simp only [wsign]
          rw [if_neg (by omega), show (128 + (i : Int) - 128).toNat = i by omega]
          exact hs
theorem wput_false {c : Int} (h : (wput c).2 = false) : (wput c).1 = 0 := by
  unfold wput at h ⊢
  split
  · rename_i h1; rw [if_pos h1] at h; cases h
  · split
    · rfl
    · split
      · rfl
      · rename_i h1 h2 h3; rw [if_neg h1, if_neg h2, if_neg h3] at h; cases h
theorem wput_found {c : Int} {n : Nat} (hn : n < 256) (h : wsign n = c) (hc : c ≠ 65533) : wput c = ((n : Int), true) := by
  rcases wput_sign ⟨n, hn⟩ with h1 | h1
  · simp only [] at h1; rw [h] at h1; exact absurd h1 hc
  · simp only [] at h1; rw [h] at h1; exact h1
theorem wput_none {c : Int} (h : ∀ n : Nat, n < 256 → wsign n ≠ c ∨ c = 65533) : wput c = (0, false) := by
  cases h2 : (wput c).2 with
  | true =>
    obtain ⟨h3, h4, h5, h6⟩ := wput_true h2
    rcases h (wput c).1.toNat (by omega) with h7 | h7
    · rw [Int.toNat_of_nonneg h3] at h7; exact absurd h5 h7
    · exact absurd h7 h6
  | false => exact Prod.ext (wput_false h2) h2
end Go.Proofs.YtgfdebijcpdhbaaDoor
