/- Plain: pieces, sign by sign. -/
import Derived.Test.YthjenihaogihpaaP07
namespace Go.Proofs.Ythjenihaogihpaa
/-- One sign more: the last piece grows, or a new one begins. -/
def rstep (most : Int) (out : List (List Int)) (g : List Int) : List (List Int) :=
  match out.getLast? with
  | some c => if (c.length : Int) + g.length ≤ most then out.dropLast ++ [c ++ g] else out ++ [g]
  | none => out ++ [g]
def psp (most : Int) (c : List Int) : List (List Int) → List (List Int)
  | [] => [c]
  | g :: r => if (c.length : Int) + g.length ≤ most then psp most (c ++ g) r else c :: psp most g r
theorem psplit_psp (most : Int) : ∀ (gs : List (List Int)) (cur g : List Int), psplit most cur (g :: gs) = psp most (cur ++ g) gs
  | [], _, _ => rfl
  | h :: r, cur, g => by
    rw [psplit, psp, psplit_psp most r [] h, psplit_psp most r (cur ++ g) h, List.nil_append]
    by_cases hc : ((cur ++ g).length : Int) + h.length > most
    · rw [if_pos hc, if_neg (by omega)]
    · rw [if_neg hc, if_pos (by omega)]
theorem rstep_snoc (most : Int) (ps : List (List Int)) (c g : List Int) : rstep most (ps ++ [c]) g = if (c.length : Int) + g.length ≤ most then ps ++ [c ++ g] else ps ++ [c] ++ [g] := by
  simp [rstep]
theorem rfold (most : Int) : ∀ (gs ps : List (List Int)) (c : List Int), gs.foldl (rstep most) (ps ++ [c]) = ps ++ psp most c gs
  | [], _, _ => rfl
  | g :: r, ps, c => by
    rw [List.foldl_cons, rstep_snoc, psp]
    split
    · exact rfold most r ps (c ++ g)
    · rw [rfold most r (ps ++ [c]) g]; simp
theorem rfold_pieces (most : Int) (xs : List Int) : (esg xs).foldl (rstep most) [] = pieces most xs := by
  rw [pieces]
  cases esg xs with
  | nil => rfl
  | cons g gs =>
    rw [List.foldl_cons, psplit_psp, show rstep most [] g = [] ++ [g] from rfl, rfold]; rfl
end Go.Proofs.Ythjenihaogihpaa
namespace Go.Proofs.Ythjenihaogihpaa
theorem rsplit_step {xs : List Int} {i p : Nat} {y : Int} (hp : p ≤ xs.length) (HD : (places xs).drop i = psum p (esg (xs.drop p))) (hy : (places xs)[i]? = some y) :
    ∃ p' : Nat, y = p' ∧ p < p' ∧ p' ≤ xs.length ∧ (places xs).drop (i + 1) = psum p' (esg (xs.drop p')) ∧ esg (xs.drop p) = (xs.take p').drop p :: esg (xs.drop p') := by
  obtain ⟨k1, k2⟩ := List.getElem?_eq_some_iff.1 hy
  rw [List.drop_eq_getElem_cons k1, k2] at HD
  cases hx : xs.drop p with
  | nil => rw [hx, esg_nil, psum] at HD; simp at HD
  | cons x r =>
    have h1 := esg_one x r
    have h2 := (takeR_n (x :: r)).2.1
    have hlen := congrArg List.length hx
    rw [List.length_drop] at hlen
    rw [hx, psum_snoc_drop] at HD
    have he := esg_cons x r
    rw [← hx] at HD he h1 h2
    generalize hm : (takeR (xs.drop p)).2.1.toNat = m at *
    rw [List.drop_drop] at HD he
    obtain ⟨e1, e2⟩ := List.cons.inj HD
    have hml : p + m ≤ xs.length := by rw [List.length_drop] at h2; omega
    refine ⟨p + m, e1, by omega, hml, e2, ?_⟩
    rw [← hx, he]
    congr 1
    have h0 : (xs.take p).drop p = [] := List.drop_eq_nil_of_le (by rw [List.length_take]; omega)
    rw [List.take_add, List.drop_append_of_le_length (by rw [List.length_take]; omega), h0, List.nil_append]
end Go.Proofs.Ythjenihaogihpaa
