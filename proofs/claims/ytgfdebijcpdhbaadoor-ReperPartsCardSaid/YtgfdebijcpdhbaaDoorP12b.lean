/- Plain: how many numbers the charsets have. -/
import Derived.Test.YtgfdebijcpdhbaaDoorP12
namespace Go.Proofs.YtgfdebijcpdhbaaDoor
theorem cnt_fin : cnt 1 8704 = 128 ∧ cnt 2 8704 = 256 ∧ cnt 3 8704 = 256 ∧ cnt 4 8704 = 251 := by decide +kernel
theorem cnt_size {n : Int} (h : n ≠ 5) : (cnt n 8704 : Int) = sizeL n := by
  rcases (by omega : n = 1 ∨ n = 2 ∨ n = 3 ∨ n = 4 ∨ ¬ (1 ≤ n ∧ n ≤ 5)) with rfl | rfl | rfl | rfl | hn
  · rw [cnt_fin.1]; rfl
  · rw [cnt_fin.2.1]; rfl
  · rw [cnt_fin.2.2.1]; rfl
  · rw [cnt_fin.2.2.2]; rfl
  · rw [cnt_no hn, sizeL, if_neg (by omega), if_neg (by omega), if_neg (by omega), if_neg (by omega), if_neg (by omega)]; rfl
end Go.Proofs.YtgfdebijcpdhbaaDoor
