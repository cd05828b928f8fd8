/- Plain laws: UTF-8, one sign, there and back. -/
import Derived.Test.YthjenihaogihpaaP04
namespace Go.Proofs.Ythjenihaogihpaa
theorem wide_cases (a : Int) : (wideI a = 1 ∧ a < 128) ∨ (wideI a = 2 ∧ 194 ≤ a ∧ a ≤ 223) ∨ (wideI a = 3 ∧ 224 ≤ a ∧ a ≤ 239) ∨ (wideI a = 4 ∧ 240 ≤ a ∧ a ≤ 244) ∨ wideI a = 0 := by
  unfold wideI; split
  · omega
  · split
    · omega
    · split
      · omega
      · split <;> omega
theorem farL_step {a y : Int} {j : Nat} {r : List Int} (h1 : (j : Int) < wideI a) (h2 : okAt a j y = true) : farL a j (y :: r) = farL a (j + 1) r := by rw [farL, if_pos ⟨h1, h2⟩]
theorem farL_end {a : Int} {j : Nat} {r : List Int} (h1 : ¬ (j : Int) < wideI a) : farL a j r = j := by
  cases r with
  | nil => rfl
  | cons y r => rw [farL, if_neg (by omega)]
theorem farL_inv {a : Int} {j : Nat} {r : List Int} (h : j < farL a j r) : ∃ y r', r = y :: r' ∧ okAt a j y = true ∧ farL a j r = farL a (j + 1) r' := by
  cases r with
  | nil => simp [farL] at h
  | cons y r =>
    by_cases hc : (j : Int) < wideI a ∧ okAt a j y = true
    · exact ⟨y, r, rfl, hc.2, by rw [farL, if_pos hc]⟩
    · rw [farL, if_neg hc] at h; omega
theorem takeR_octs {c : Int} (h : scB c = true) (s : List Int) : takeR (octs c ++ s) = (c, ulenI c, 0) := by
  have hc := scB_iff.1 h
  by_cases h1 : c < 128
  · have hw : wideI c = 1 := by unfold wideI; rw [if_pos h1]
    have hf : farL c 1 s = 1 := farL_end (by rw [hw]; omega)
    rw [show octs c = [c] by rw [octs, if_pos h, if_pos h1], show ulenI c = 1 by rw [ulenI, if_pos h, if_pos h1]]
    rw [List.singleton_append, takeR_ok (by omega) (by rw [hf, hw]; rfl), hf, hw]
    simp [valL, leadI]
  · by_cases h2 : c < 2048
    · have hw : wideI (192 + c / 64) = 2 := by unfold wideI; rw [if_neg (by omega), if_pos (by omega)]
      have hf : farL (192 + c / 64) 1 ((128 + c % 64) :: s) = 2 := by
        rw [farL_step (by rw [hw]; omega) (by simp only [okAt, if_true, secB_iff, loI, hiI]; rw [if_neg (by omega), if_neg (by omega), if_neg (by omega), if_neg (by omega)]; omega), farL_end (by rw [hw]; omega)]
      rw [show octs c = [192 + c / 64, 128 + c % 64] by rw [octs, if_pos h, if_neg h1, if_pos h2], show ulenI c = 2 by rw [ulenI, if_pos h, if_neg h1, if_pos h2]]
      rw [show [192 + c / 64, 128 + c % 64] ++ s = (192 + c / 64) :: (128 + c % 64) :: s from rfl, takeR_ok (by omega) (by rw [hf, hw]; rfl), hf, hw]
      simp [valL, leadI]; omega
    · by_cases h3 : c < 65536
      · have hw : wideI (224 + c / 4096) = 3 := by unfold wideI; rw [if_neg (by omega), if_neg (by omega), if_pos (by omega)]
        have hs : secB (224 + c / 4096) (128 + c / 64 % 64) = true := by
          rw [secB_iff]; unfold loI hiI
          split <;> split <;> (try split) <;> (try split) <;> omega
        have hf : farL (224 + c / 4096) 1 ((128 + c / 64 % 64) :: (128 + c % 64) :: s) = 3 := by
          rw [farL_step (by rw [hw]; omega) (by simp only [okAt, if_true]; exact hs), farL_step (by rw [hw]; omega) (by simp only [okAt]; rw [if_neg (by omega), folB_iff]; omega), farL_end (by rw [hw]; omega)]
        rw [show octs c = [224 + c / 4096, 128 + c / 64 % 64, 128 + c % 64] by rw [octs, if_pos h, if_neg h1, if_neg h2, if_pos h3], show ulenI c = 3 by rw [ulenI, if_pos h, if_neg h1, if_neg h2, if_pos h3]]
        rw [show [224 + c / 4096, 128 + c / 64 % 64, 128 + c % 64] ++ s = (224 + c / 4096) :: (128 + c / 64 % 64) :: (128 + c % 64) :: s from rfl, takeR_ok (by omega) (by rw [hf, hw]; rfl), hf, hw]
        simp [valL, leadI]; omega
      · have hw : wideI (240 + c / 262144) = 4 := by unfold wideI; rw [if_neg (by omega), if_neg (by omega), if_neg (by omega), if_pos (by omega)]
        have hs : secB (240 + c / 262144) (128 + c / 4096 % 64) = true := by
          rw [secB_iff]; unfold loI hiI
          split <;> (try split) <;> (try split) <;> (try split) <;> omega
        have hf : farL (240 + c / 262144) 1 ((128 + c / 4096 % 64) :: (128 + c / 64 % 64) :: (128 + c % 64) :: s) = 4 := by
          rw [farL_step (by rw [hw]; omega) (by simp only [okAt, if_true]; exact hs), farL_step (by rw [hw]; omega) (by simp only [okAt]; rw [if_neg (by omega), folB_iff]; omega), farL_step (by rw [hw]; omega) (by simp only [okAt]; rw [if_neg (by omega), folB_iff]; omega), farL_end (by rw [hw]; omega)]
        rw [show octs c = [240 + c / 262144, 128 + c / 4096 % 64, 128 + c / 64 % 64, 128 + c % 64] by rw [octs, if_pos h, if_neg h1, if_neg h2, if_neg h3], show ulenI c = 4 by rw [ulenI, if_pos h, if_neg h1, if_neg h2, if_neg h3]]
        rw [show [240 + c / 262144, 128 + c / 4096 % 64, 128 + c / 64 % 64, 128 + c % 64] ++ s = (240 + c / 262144) :: (128 + c / 4096 % 64) :: (128 + c / 64 % 64) :: (128 + c % 64) :: s from rfl, takeR_ok (by omega) (by rw [hf, hw]; rfl), hf, hw]
        simp [valL, leadI]; omega
/-- What is taken is a scalar value, and its octets stand there. -/
theorem takeR_good {xs : List Int} (hg : Rg 0 256 xs) (h : (takeR xs).2.2 = 0) : scB (takeR xs).1 = true ∧ octs (takeR xs).1 = xs.take (takeR xs).2.1.toNat ∧ (takeR xs).2.1 ≤ xs.length ∧ (takeR xs).2.1 = (octs (takeR xs).1).length := by
  cases xs with
  | nil => simp [takeR] at h
  | cons a r =>
    obtain ⟨⟨ha0, _⟩, _⟩ := hg.cons
    have hb := farL_bounds a r 1
    by_cases hw : wideI a = 0
    · rw [takeR_bad hw] at h; simp at h
    · by_cases hN : (farL a 1 r : Int) = wideI a
      · rw [takeR_ok hw hN] at h ⊢
        simp only []
        rcases wide_cases a with ⟨h1, h2⟩ | ⟨h1, h2, h2'⟩ | ⟨h1, h2, h2'⟩ | ⟨h1, h2, h2'⟩ | h1
        · have hf : farL a 1 r = 1 := by omega
          rw [hf, h1]
          have hs : scB a = true := by rw [scB_iff]; omega
          simp only [Nat.sub_self, List.take_zero, valL, leadI]
          simp [hs, octs, h2]; omega
        · have hf : farL a 1 r = 2 := by omega
          obtain ⟨y, r', rfl, hy, _⟩ := farL_inv (a := a) (j := 1) (r := r) (by omega)
          simp only [okAt, if_true, secB_iff, loI, hiI] at hy
          rw [if_neg (by omega), if_neg (by omega), if_neg (by omega), if_neg (by omega)] at hy
          rw [hf, h1]
          simp only [leadI, valL, List.take_succ_cons, List.take_zero, if_true, show 2 - 1 = 1 from rfl]
          have hs : scB (64 * (a - 192) + (y - 128)) = true := by rw [scB_iff]; omega
          have ho : octs (64 * (a - 192) + (y - 128)) = [a, y] := by
            rw [octs, if_pos hs, if_neg (by omega), if_pos (by omega)]; congr 1
            · omega
            · congr 1; omega
          rw [ho]
          refine ⟨hs, by simp, by simp; omega, by simp⟩
        · have hf : farL a 1 r = 3 := by omega
          obtain ⟨y, r', rfl, hy, e1⟩ := farL_inv (a := a) (j := 1) (r := r) (by omega)
          rw [hf] at e1
          replace e1 : _ = farL a 2 r' := e1
          obtain ⟨z, r'', rfl, hz, _⟩ := farL_inv (a := a) (j := 2) (r := r') (by omega)
          simp only [okAt, if_true, secB_iff] at hy
          simp only [okAt] at hz
          rw [if_neg (by omega), folB_iff] at hz
          rw [hf, h1, show leadI 3 = 224 from rfl]
          simp only [valL, List.take_succ_cons, List.take_zero, show 3 - 1 = 2 from rfl]
          have hy2 : (a = 224 → 160 ≤ y) ∧ (a = 237 → y ≤ 159) ∧ 128 ≤ y ∧ y ≤ 191 := by
            unfold loI hiI at hy
            split at hy <;> split at hy <;> (try split at hy) <;> (try split at hy) <;> omega
          have hs : scB (64 * (64 * (a - 224) + (y - 128)) + (z - 128)) = true := by rw [scB_iff]; omega
          have ho : octs (64 * (64 * (a - 224) + (y - 128)) + (z - 128)) = [a, y, z] := by
            rw [octs, if_pos hs, if_neg (by omega), if_neg (by omega), if_pos (by omega)]; congr 1
            · omega
            · congr 1
              · omega
              · congr 1; omega
          rw [ho]
          refine ⟨hs, by simp, by simp; omega, by simp⟩
        · have hf : farL a 1 r = 4 := by omega
          obtain ⟨y, r', rfl, hy, e1⟩ := farL_inv (a := a) (j := 1) (r := r) (by omega)
          rw [hf] at e1
          replace e1 : _ = farL a 2 r' := e1
          obtain ⟨z, r'', rfl, hz, e2⟩ := farL_inv (a := a) (j := 2) (r := r') (by omega)
          rw [← e1] at e2
          replace e2 : _ = farL a 3 r'' := e2
          obtain ⟨u, r3, rfl, hu, _⟩ := farL_inv (a := a) (j := 3) (r := r'') (by omega)
          simp only [okAt, if_true, secB_iff] at hy
          simp only [okAt] at hz hu
          rw [if_neg (by omega), folB_iff] at hz hu
          rw [hf, h1, show leadI 4 = 240 from rfl]
          simp only [valL, List.take_succ_cons, List.take_zero, show 4 - 1 = 3 from rfl]
          have hy2 : (a = 240 → 144 ≤ y) ∧ (a = 244 → y ≤ 143) ∧ 128 ≤ y ∧ y ≤ 191 := by
            unfold loI hiI at hy
            split at hy <;> (try split at hy) <;> (try split at hy) <;> (try split at hy) <;> omega
          have hs : scB (64 * (64 * (64 * (a - 240) + (y - 128)) + (z - 128)) + (u - 128)) = true := by rw [scB_iff]; omega
          have ho : octs (64 * (64 * (64 * (a - 240) + (y - 128)) + (z - 128)) + (u - 128)) = [a, y, z, u] := by
            rw [octs, if_pos hs, if_neg (by omega), if_neg (by omega), if_neg (by omega)]; congr 1
            · omega
            · congr 1
              · omega
              · congr 1
                · omega
                · congr 1; omega
          rw [ho]
          refine ⟨hs, by simp, by simp; omega, by simp⟩
        · exact absurd h1 hw
      · by_cases hE : farL a 1 r = r.length + 1
        · rw [takeR_end hw hN hE] at h; simp at h
        · rw [takeR_form hw hN hE] at h; simp at h
theorem takeR_n (xs : List Int) : 0 ≤ (takeR xs).2.1 ∧ (takeR xs).2.1 ≤ xs.length ∧ ((takeR xs).2.1 > 0 ↔ xs.length > 0) := by
  cases xs with
  | nil => simp [takeR]
  | cons a r =>
    have hb := farL_bounds a r 1
    by_cases hw : wideI a = 0
    · rw [takeR_bad hw]; simp; omega
    · by_cases hN : (farL a 1 r : Int) = wideI a
      · rw [takeR_ok hw hN]; simp; omega
      · by_cases hE : farL a 1 r = r.length + 1
        · rw [takeR_end hw hN hE]; simp; omega
        · rw [takeR_form hw hN hE]; simp; omega
theorem takeR_32 {xs : List Int} (hg : Rg 0 256 xs) : -2147483648 ≤ (takeR xs).1 ∧ (takeR xs).1 ≤ 2147483647 := by
  by_cases h : (takeR xs).2.2 = 0
  · have := scB_iff.1 (takeR_good hg h).1; omega
  · cases xs with
    | nil => simp [takeR]
    | cons a r =>
      by_cases hw : wideI a = 0
      · rw [takeR_bad hw]; simp
      · by_cases hN : (farL a 1 r : Int) = wideI a
        · rw [takeR_ok hw hN] at h; simp at h
        · by_cases hE : farL a 1 r = r.length + 1
          · rw [takeR_end hw hN hE]; simp
          · rw [takeR_form hw hN hE]; simp
theorem octs_inj {a b : Int} (ha : scB a = true) (hb : scB b = true) {s : List Int} (h : octs b = octs a ++ s) : a = b := by
  have h1 := takeR_octs ha s
  have h2 := takeR_octs hb []
  rw [List.append_nil, h, h1] at h2
  exact (Prod.ext_iff.1 h2).1
end Go.Proofs.Ythjenihaogihpaa
