/- Plain: wide texts, read by the document. -/
import Derived.Test.YtgfdebijcpdhbaaP45c
namespace Go.Proofs.Ytgfdebijcpdhbaa
theorem num2_from : ∀ l : List Int, fromO (l.take (2 * (l.length / 2))) = num2 l
  | [] => by simp [fromO, num2]
  | [x] => by simp [fromO, num2]
  | x :: y :: r => by
    have ih := num2_from r
    have e : 2 * ((x :: y :: r).length / 2) = 2 * (r.length / 2) + 1 + 1 := by simp only [List.length_cons]; omega
    rw [e, List.take_succ_cons, List.take_succ_cons, fromO, ih, num2]
    congr 1
    omega
theorem num4_all {ys D S : List Int} (h : num4 ys = D ++ num4 S) (hs : S.length < 4) : num4 ys = D := by rw [h, num4_short hs, List.append_nil]
end Go.Proofs.Ytgfdebijcpdhbaa
