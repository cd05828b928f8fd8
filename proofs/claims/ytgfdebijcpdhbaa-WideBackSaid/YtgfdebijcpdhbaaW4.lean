/- Walks: the first that is no scalar value; UTF-16, laying. -/
import Derived.Test.YtgfdebijcpdhbaaW3
import Derived.Test.YtgfdebijcpdhbaaW0b
namespace Go.Proofs.Ytgfdebijcpdhbaa
open Go.RowKit
set_option maxHeartbeats 400000

theorem uRead_any (v : Value) (xs : List Int) (w : World) (h : Row w v (ints .u16 xs)) (hg : Rg 0 65536 xs) (hl : xs.length ≤ 1000000) :
    Calls Try.prog 49 #[v] w fun e w' => ∃ t, e = .returned t ∧ Own w.heap.size 21 w' t (ints .i32 ((uread xs).map Prod.fst)) ∧ Below w.heap.size w w' := by
  go_enter Try.func49, Try.ntmps49
  go_wp2_with (go_at_call 52; refine (uread_any _ _ _ h hg hl).mono ?_; rintro e w' ⟨t, rfl, ho, hb⟩)
  go_ret
  exact ⟨_, rfl, ho, hb⟩
theorem uRight_any (v : Value) (xs : List Int) (w : World) (h : Row w v (ints .u16 xs)) (hg : Rg 0 65536 xs) (hl : xs.length ≤ 1000000) :
    Calls Try.prog 50 #[v] w fun e w' => e = .returned (.bool (ferr ((uread xs).map Prod.snd) == 0)) ∧ Below w.heap.size w w' := by
  go_enter Try.func50, Try.ntmps50
  go_wp2_with (go_at_call 52; refine (uread_any _ _ _ h hg hl).mono ?_; rintro e w' ⟨t, rfl, ho, hb⟩)
  go_ret
  exact ⟨rfl, hb⟩
/-- The units of a text. -/
def ulayL (xs : List Int) : List Int := xs.flatMap uof
theorem uof_len (c : Int) : (uof c).length ≤ 2 := by unfold uof; split <;> (try split) <;> simp
theorem ulayL_snoc {xs : List Int} {k : Nat} {x : Int} (h : xs[k]? = some x) : ulayL (xs.take (k + 1)) = ulayL (xs.take k) ++ uof x := by
  simp [ulayL, List.take_add_one, h]
theorem ulayL_len (xs : List Int) : (ulayL xs).length ≤ 2 * xs.length := by
  induction xs with
  | nil => simp [ulayL]
  | cons x xs ih => have := uof_len x; simp only [ulayL, List.flatMap_cons, List.length_append, List.length_cons] at ih ⊢; omega
end Go.Proofs.Ytgfdebijcpdhbaa
