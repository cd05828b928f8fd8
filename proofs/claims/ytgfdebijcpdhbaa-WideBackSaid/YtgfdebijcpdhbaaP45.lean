/- Plain: wide texts. -/
import Derived.Test.YtgfdebijcpdhbaaW6
import Derived.Test.YtgfdebijcpdhbaaP2
namespace Go.Proofs.Ytgfdebijcpdhbaa
/-- A number's octets, the lowest first. -/
def oct2 (n : Int) : List Int := [n % 256, n / 256 % 256]
def oct4 (n : Int) : List Int := [n % 256, n / 256 % 256, n / 65536 % 256, n / 16777216 % 256]
def grp (wd : Int) (big : Bool) (n : Int) : List Int := if wd = 4 then (if big then (oct4 n).reverse else oct4 n) else (if big then (oct2 n).reverse else oct2 n)
def wnum (wd : Int) (t : List Int) : List Int := if wd = 4 then t else ulayL t
def wideL (wd : Int) (big : Bool) (t : List Int) : List Int := (wnum wd t).flatMap (grp wd big)
def wideR (wd : Int) (big : Bool) (t : List Int) : List Int × Int := if wd = 2 ∨ wd = 4 then (if allSc t then (wideL wd big t, 0) else ([], 7)) else ([], 1)
theorem grp_len (wd : Int) (big : Bool) (n : Int) : (grp wd big n).length ≤ 4 := by
  unfold grp; repeat' split
  all_goals simp [oct2, oct4]
theorem wnum_len (wd : Int) (t : List Int) : (wnum wd t).length ≤ 2 * t.length := by
  unfold wnum; split
  · omega
  · exact ulayL_len t
theorem flat_len (f : Int → List Int) (h : ∀ n, (f n).length ≤ 4) : ∀ l : List Int, (l.flatMap f).length ≤ 4 * l.length
  | [] => by simp
  | x :: l => by
    have := flat_len f h l
    have := h x
    rw [List.flatMap_cons, List.length_append, List.length_cons]; omega
theorem wideL_len (wd : Int) (big : Bool) (t : List Int) : (wideL wd big t).length ≤ 8 * t.length := by
  have h1 := wnum_len wd t
  have h2 := flat_len (grp wd big) (grp_len wd big) (wnum wd t)
  rw [wideL]; omega
theorem wnum_snoc {wd : Int} {t : List Int} {k : Nat} {x : Int} (h : t[k]? = some x) : wnum wd (t.take (k + 1)) = wnum wd (t.take k) ++ (if wd = 4 then [x] else uof x) := by
  unfold wnum; split
  · rw [List.take_add_one, h]; rfl
  · exact ulayL_snoc h
theorem flat_snoc {f : Int → List Int} {l : List Int} {k : Nat} {x : Int} (h : l[k]? = some x) : (l.take (k + 1)).flatMap f = (l.take k).flatMap f ++ f x := by
  rw [List.take_add_one, h, List.flatMap_append]; simp
theorem wnum_rng {wd : Int} {t : List Int} (h : allSc t = true) : Rg 0 4294967296 (wnum wd t) ∧ (wd = 2 → Rg 0 65536 (wnum wd t)) := by
  refine ⟨?_, ?_⟩
  · unfold wnum; split
    · intro x hx; have := scB_iff.1 (List.all_eq_true.1 h x hx); omega
    · intro x hx; have := ulay_rng t x hx; omega
  · intro h2; unfold wnum; rw [if_neg (by omega)]; exact ulay_rng t
end Go.Proofs.Ytgfdebijcpdhbaa
