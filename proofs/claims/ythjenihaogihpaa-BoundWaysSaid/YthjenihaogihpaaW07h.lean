/- Walks: the reference's Cut. -/
import Derived.Test.YthjenihaogihpaaW07g
namespace Go.Proofs.Ythjenihaogihpaa
open Go.RowKit
set_option maxHeartbeats 1000000
def lcut (n : Int) (l : List Int) : Int := l.foldl (fun o y => if y ≤ n then y else o) 0
def pcut (xs : List Int) (n : Int) : Int := lcut n (places xs)
theorem lcut_snoc {n : Int} {l : List Int} {k : Nat} {y : Int} (h : l[k]? = some y) : lcut n (l.take (k + 1)) = if y ≤ n then y else lcut n (l.take k) := by
  rw [List.take_add_one, h, lcut, List.foldl_append]; rfl
theorem rCut_any (v : Value) (xs : List Int) (n : Int) (w : World) (h : Row w v (ints .u8 xs)) (hg : Rg 0 256 xs) (hl : xs.length ≤ 1000000) :
    Calls Try.prog 25 #[v, .int .i64 n] w fun e w' => ∃ t, e = .returned t ∧ Row w' t (ints .u8 (xs.take (pcut xs n).toNat)) ∧ Below w.heap.size w w' := by
  obtain ⟨q, HQ⟩ : ∃ q, Hid (pcut xs n = q) := ⟨_, rfl⟩
  rw [HQ.out]
  have hpl := places_max hl
  have HQ2 : Hid (lcut n (places xs) = q) := HQ
  have HPR : Hid (∀ (i : Nat) (y : Int), (places xs)[i]? = some y → 0 ≤ y ∧ y ≤ xs.length) := fun i y h => places_rng xs y (List.mem_of_getElem? h)
  clear HQ
  go_enter Try.func25, Try.ntmps25
  go_wp2_with (go_at_call 26; refine (rPlaces_any _ _ _ h hg hl).mono ?_; rintro e w1 ⟨t, rfl, ho, hb⟩; generalize places xs = l at *; obtain ⟨a2, b2, o2, c2, rfl, HC⟩ := ho.row.op)
  go_loopw [6, 7] (fun o i wr => ∃ (k : Nat) (z : Int), i = .int .i64 k ∧ k ≤ l.length ∧ o = .int .i64 z ∧ Hid (lcut n (l.take k) = z) ∧ 0 ≤ z ∧ z ≤ xs.length ∧ Below w1.heap.size w1 wr) (fun _ i _ => l.length - (intOf i).toNat)
  case atStart => exact ⟨0, 0, rfl, Nat.zero_le _, rfl, (rfl : lcut n [] = 0), by omega, by omega, Below.refl _ _⟩
  case round =>
    obtain ⟨k, z, rfl, hk, rfl, HZ, hz0, hz1, hbr⟩ := hrel
    by_cases hlt : k < l.length
    · obtain ⟨y, HX, rfl, hc⟩ := HC.out k hlt
      replace hc := hc wr hbr
      have hyr := HPR.out k y HX.out
      have h2 := lcut_snoc (n := n) HX.out
      rw [HZ.out] at h2
      by_cases hy : y ≤ n
      case' pos => rw [if_pos hy] at h2
      case' neg => rw [if_neg hy] at h2
      all_goals
        have H2 := Lib.hid h2; clear h2
        go_wp2
        go_roundw
        case rel => exact ⟨k + 1, _, by go_num, by omega, rfl, H2, by omega, by omega, hbr⟩
        case measure => simp [intOf]; omega
    · have h2 := HZ.out
      rw [List.take_of_length_le (by omega), HQ2.out] at h2
      subst h2
      have hbb := below_trans hb hbr
      go_wp2_with (refine wpList_slH slT_u8 _ _ rfl rfl rfl rfl (h.below hbb) (by omega) (by simp [ints]; omega) ?_; intro u2 hu2; have r2 := hu2 _ (h.below hbb); rw [ints_take] at r2)
      go_ret
      exact ⟨_, rfl, r2, hbb⟩
end Go.Proofs.Ythjenihaogihpaa
