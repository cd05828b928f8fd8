/- Walks: Split; slices of slices of octets. -/
import Derived.Test.YthjenihaogihpaaW07c
namespace Go.Proofs.Ythjenihaogihpaa
open Go.RowKit
set_option maxHeartbeats 1000000
theorem split_step {xs : List Int} {most : Int} {ps : List (List Int)} {i f p : Nat} {y : Int} (hfp : f ≤ p) (hp : p ≤ xs.length) (HD : (places xs).drop i = psum p (esg (xs.drop p)))
    (HS : pieces most xs = ps ++ psplit most ((xs.take p).drop f) (esg (xs.drop p))) (hy : (places xs)[i]? = some y) :
    ∃ p' : Nat, y = p' ∧ p < p' ∧ p' ≤ xs.length ∧ (places xs).drop (i + 1) = psum p' (esg (xs.drop p')) ∧
      ((i + 1 = (places xs).length ∧ pieces most xs = ps ++ [(xs.take p').drop f] ++ psplit most ((xs.take p').drop p') (esg (xs.drop p'))) ∨
        (i + 1 < (places xs).length ∧ ∃ y2 : Int, (places xs)[i + 1]? = some y2 ∧
          ((y2 - f > most ∧ pieces most xs = ps ++ [(xs.take p').drop f] ++ psplit most ((xs.take p').drop p') (esg (xs.drop p'))) ∨
            (¬ (y2 - f > most) ∧ pieces most xs = ps ++ psplit most ((xs.take p').drop f) (esg (xs.drop p')))))) := by
  obtain ⟨k1, k2⟩ := List.getElem?_eq_some_iff.1 hy
  rw [List.drop_eq_getElem_cons k1, k2] at HD
  cases hx : xs.drop p with
  | nil => rw [hx, esg_nil, psum] at HD; simp at HD
  | cons x r =>
    have h1 := esg_one x r
    have h2 := (takeR_n (x :: r)).2.1
    have hlen := congrArg List.length hx
    rw [List.length_drop] at hlen
    rw [hx, psum_snoc_drop] at HD
    rw [hx, esg_cons] at HS
    rw [← hx] at HD HS h1 h2
    generalize hm : (takeR (xs.drop p)).2.1.toNat = m at *
    rw [List.drop_drop] at HD HS
    obtain ⟨e1, e2⟩ := List.cons.inj HD
    have hml : p + m ≤ xs.length := by rw [List.length_drop] at h2; omega
    have hcur : (xs.take p).drop f ++ (xs.drop p).take m = (xs.take (p + m)).drop f := by
      rw [List.take_add, List.drop_append_of_le_length (by rw [List.length_take]; omega)]
    have hnil : (xs.take (p + m)).drop (p + m) = [] := List.drop_eq_nil_of_le (by rw [List.length_take]; omega)
    refine ⟨p + m, e1, by omega, hml, e2, ?_⟩
    rw [hnil]
    cases hr : esg (xs.drop (p + m)) with
    | nil =>
      left
      rw [hr, psum] at e2
      rw [hr, psplit, hcur] at HS
      have := List.drop_eq_nil_iff.1 e2
      exact ⟨by omega, by rw [HS]; simp [psplit]⟩
    | cons g t =>
      right
      rw [hr, psum] at e2
      have hlt : i + 1 < (places xs).length := by
        rcases Nat.lt_or_ge (i + 1) (places xs).length with h | h
        · exact h
        · rw [List.drop_eq_nil_of_le h] at e2; simp at e2
      rw [List.drop_eq_getElem_cons hlt] at e2
      obtain ⟨e3, _⟩ := List.cons.inj e2
      refine ⟨hlt, _, by rw [List.getElem?_eq_getElem hlt, e3], ?_⟩
      rw [hr, psplit, hcur] at HS
      have hll : ((xs.take (p + m)).drop f).length = p + m - f := by rw [List.length_drop, List.length_take]; omega
      rw [hll] at HS
      have hcast : ((p + m - f : Nat) : Int) + g.length = ((p + m + g.length : Nat) : Int) - f := by omega
      rw [hcast] at HS
      by_cases hc : ((p + m + g.length : Nat) : Int) - f > most
      · rw [if_pos hc] at HS
        exact .inl ⟨hc, by rw [HS]; simp⟩
      · rw [if_neg hc] at HS
        exact .inr ⟨hc, HS⟩

theorem slT_bs : SlT Try.prog 34 22 := SlT.mk (z := .slice none 0 0) (bytes := 24) (by kernel_rfl) (by kernel_rfl) (by omega) rfl
/-- The slices vs, of blocks from B on, hold the octets ps. -/
def Owns (B : Nat) (w : World) (vs : List Value) (ps : List (List Int)) : Prop :=
  vs.length = ps.length ∧ ∀ (i : Nat) (v : Value) (p : List Int), vs[i]? = some v → ps[i]? = some p → Own B 5 w v (ints .u8 p)
theorem Owns.nil (B : Nat) (w : World) : Owns B w [] [] := ⟨rfl, by simp⟩
theorem Owns.below {B : Nat} {w w' : World} {vs : List Value} {ps : List (List Int)} (h : Owns B w vs ps) (hb : Below w.heap.size w w') : Owns B w' vs ps := ⟨h.1, fun i v p h1 h2 => (h.2 i v p h1 h2).below hb⟩
theorem Owns.snoc {B : Nat} {w : World} {vs : List Value} {ps : List (List Int)} {v : Value} {p : List Int} (h : Owns B w vs ps) (hv : Own B 5 w v (ints .u8 p)) : Owns B w (vs ++ [v]) (ps ++ [p]) := by
  refine ⟨by simp [h.1], fun i u q h1 h2 => ?_⟩
  rcases Nat.lt_or_ge i vs.length with hi | hi
  · rw [List.getElem?_append_left hi] at h1
    rw [List.getElem?_append_left (by rw [← h.1]; exact hi)] at h2
    exact h.2 i u q h1 h2
  · rw [List.getElem?_append_right hi] at h1
    rw [List.getElem?_append_right (by rw [← h.1]; exact hi), ← h.1] at h2
    cases hk : i - vs.length with
    | zero => rw [hk] at h1 h2; simp at h1 h2; subst h1 h2; exact hv
    | succ n => rw [hk] at h1; simp at h1
/-- Slices of other elements lie in other blocks. -/
theorem Own.apart {B B' : Nat} {E E' : TypeId} {w : World} {v v' : Value} {cs cs' : List Value} (h : Own B E w v cs) (h' : Own B' E' w v' cs') (hE : E ≠ E') : v.ownBlock = none ∨ v.ownBlock ≠ v'.ownBlock := by
  rcases h.1.2 with ⟨rfl, _⟩ | ⟨g, cap, cur, rfl, _, hg, _⟩
  · exact .inl rfl
  · right
    rcases h'.1.2 with ⟨rfl, _⟩ | ⟨g', cap', cur', rfl, _, hg', _⟩
    · simp [Value.ownBlock]
    · intro e
      simp only [Value.ownBlock, Option.some.injEq] at e
      subst e
      rw [hg] at hg'
      injection hg' with e1
      injection e1 with _ e2
      exact hE e2
theorem Own.other {B B' : Nat} {E E' : TypeId} {w w' : World} {v v' : Value} {cs cs' : List Value} (h : Own B E w v cs) (h' : Own B' E' w v' cs') (hE : E ≠ E') (hg : w.grownBy w' v'.ownBlock) : Own B E w' v cs :=
  ⟨h.1.kept hg (h.apart h' hE), h.2⟩
theorem Owns.other {B B' : Nat} {w w' : World} {vs : List Value} {ps : List (List Int)} {v' : Value} {cs' : List Value} (h : Owns B w vs ps) (h' : Own B' 22 w v' cs') (hg : w.grownBy w' v'.ownBlock) : Owns B w' vs ps :=
  ⟨h.1, fun i v p h1 h2 => (h.2 i v p h1 h2).other h' (by decide) hg⟩
end Go.Proofs.Ythjenihaogihpaa
