/- The statements of layer 6, walked: laying, octets, there and back. -/
import Derived.Test.YtbkhabnjefcmkaaS06
import Derived.Test.YtbkhabnjefcmkaaP2
namespace Go.Proofs.Ytbkhabnjefcmkaa
open Go.RowKit
set_option maxHeartbeats 400000

set_option maxRecDepth 100000 in
theorem UnitsLays_walk (v : Value) (xs : List Int) (c : Int) (w : World) (h : Row w v (ints .i32 xs)) (g : WF .i32 xs) (hc : (Lit.int .i32 c).wf = true) :
    Calls Try.prog 6 #[v, .int .i32 c] w fun e w' => e = .returned (.bool true) ∧ Below w.heap.size w w' := by
  have hcr := wf_i32 hc
  clear hc
  by_cases hl : xs.length ≤ 500
  · have hA := fun w' h' => uLay_any v xs w' h' g.i32 (by omega)
    have hB := fun w' h' => rLay_any v xs w' h' g.i32 (by omega)
    have hul := ulayL_len xs
    obtain ⟨q, hq⟩ : ∃ q, (ulayR xs).2 = q := ⟨_, rfl⟩
    obtain ⟨us, hu⟩ : ∃ us, (ulayR xs).1 = us := ⟨_, rfl⟩
    have hus : us.length ≤ 1000000000 := by rw [← hu, ulayR]; split <;> simp; omega
    rw [hq, hu] at hA hB
    have HA := Lib.hid hA; have HB := Lib.hid hB; have HT := Lib.hid hus; have HO := Lib.hid (uof_len c)
    clear hA hB hus hq hu hul g
    obtain ⟨a, b, off, cap, rfl, _⟩ := id h.op
    have hg500 : ¬ (500 : Int) < (xs.length : Int) := by omega
    clear hl
    have hb := Below.refl w.heap.size w
    go_enter Try.func6, Try.ntmps6
    go_wp2_with fail
    refine (HA.out _ h).mono ?_
    rintro e w1 ⟨v1, rfl, ho1, hb1⟩
    replace hb := (by first | exact below_trans hb hb1 | exact below_trans (hb.alloc hb.size _) hb1 | exact below_trans ((hb.alloc hb.size _).alloc (hb.alloc hb.size _).size _) hb1 : Below w.heap.size w _)
    go_wp2_with fail
    refine (HB.out _ (h.below hb)).mono ?_
    rintro e w2 ⟨v2, rfl, ho2, hb2⟩
    replace hb := (by first | exact below_trans hb hb2 | exact below_trans (hb.alloc hb.size _) hb2 | exact below_trans ((hb.alloc hb.size _).alloc (hb.alloc hb.size _).size _) hb2 : Below w.heap.size w _)
    have r1 := ho1.row.below hb2
    have r2 := ho2.row
    clear ho1 ho2 hb1 hb2
    go_wp2_with fail
    refine (same6_any _ _ us us _ r1 r2 HT.out HT.out).mono ?_
    rintro e w3 ⟨rfl, hb3⟩
    replace hb := (by first | exact below_trans hb hb3 | exact below_trans (hb.alloc hb.size _) hb3 | exact below_trans ((hb.alloc hb.size _).alloc (hb.alloc hb.size _).size _) hb3 : Below w.heap.size w _)
    clear r1 r2 hb3
    rw [decide_eq_true rfl]
    go_wp2_with fail
    refine (uof_any _ _ hcr.1 hcr.2).mono ?_
    rintro e w4 ⟨v4, rfl, ho4, hb4⟩
    replace hb := (by first | exact below_trans hb hb4 | exact below_trans (hb.alloc hb.size _) hb4 | exact below_trans ((hb.alloc hb.size _).alloc (hb.alloc hb.size _).size _) hb4 : Below w.heap.size w _)
    go_wp2_with fail
    refine (ruof_any _ _ hcr.1 hcr.2).mono ?_
    rintro e w5 ⟨v5, rfl, ho5, hb5⟩
    replace hb := (by first | exact below_trans hb hb5 | exact below_trans (hb.alloc hb.size _) hb5 | exact below_trans ((hb.alloc hb.size _).alloc (hb.alloc hb.size _).size _) hb5 : Below w.heap.size w _)
    have r4 := ho4.row.below hb5
    have r5 := ho5.row
    clear ho4 ho5 hb4 hb5
    go_wp2_with fail
    refine (same6_any _ _ _ _ _ r4 r5 (by have := HO.out; omega) (by have := HO.out; omega)).mono ?_
    rintro e w6 ⟨rfl, hb6⟩
    replace hb := (by first | exact below_trans hb hb6 | exact below_trans (hb.alloc hb.size _) hb6 | exact below_trans ((hb.alloc hb.size _).alloc (hb.alloc hb.size _).size _) hb6 : Below w.heap.size w _)
    clear r4 r5 hb6
    rw [decide_eq_true rfl]
    go_wp2_with fail
    refine (alive06_any _).mono ?_
    rintro e w7 ⟨rfl, hb7⟩
    replace hb := (by first | exact below_trans hb hb7 | exact below_trans (hb.alloc hb.size _) hb7 | exact below_trans ((hb.alloc hb.size _).alloc (hb.alloc hb.size _).size _) hb7 : Below w.heap.size w _)
    clear hb7
    go_wp2
    go_ret
    exact ⟨rfl, hb⟩
  · obtain ⟨a, b, off, cap, rfl, _⟩ := id h.op
    have hg500 : (500 : Int) < (xs.length : Int) := by omega
    go_enter Try.func6, Try.ntmps6
    go_wp2_with fail
    refine (alive06_any _).mono ?_
    rintro e w7 ⟨rfl, hb7⟩
    go_wp2
    go_ret
    exact ⟨rfl, hb7⟩

theorem fromO_rng (n : Nat) : ∀ xs : List Int, xs.length ≤ n → Rg 0 256 xs → Rg 0 65536 (fromO xs) := by
  induction n with
  | zero => intro xs h _; obtain rfl : xs = [] := List.eq_nil_of_length_eq_zero (by omega); exact Rg.nil _ _
  | succ n ih =>
    intro xs h hg
    match xs, h, hg with
    | [], _, _ => exact Rg.nil _ _
    | [a], _, _ => exact Rg.nil _ _
    | a :: b :: r, h, hg =>
      obtain ⟨ha, hg⟩ := hg.cons
      obtain ⟨hb, hg⟩ := hg.cons
      have := ih r (by simp at h; omega) hg
      intro y hy
      simp only [fromO, List.mem_cons] at hy
      rcases hy with rfl | hy
      · omega
      · exact this y hy
theorem fromR_rng {xs : List Int} (hg : Rg 0 256 xs) : Rg 0 65536 (fromR xs).1 := by
  unfold fromR; split
  · exact fromO_rng _ xs (Nat.le_refl _) hg
  · exact Rg.nil _ _
theorem fromR_len (xs : List Int) : 2 * (fromR xs).1.length ≤ xs.length := by
  unfold fromR; split
  · exact fromO_len _ xs (Nat.le_refl _)
  · simp
theorem uoct_cons (x : Int) (xs : List Int) : uoct (x :: xs) = x / 256 :: x % 256 :: uoct xs := by simp [uoct]
theorem uoct_rng : ∀ {xs : List Int}, Rg 0 65536 xs → Rg 0 256 (uoct xs)
  | [], _ => Rg.nil _ _
  | x :: xs, h => by
    obtain ⟨hx, h⟩ := h.cons
    have := uoct_rng h
    rw [uoct_cons]
    intro y hy
    simp only [List.mem_cons] at hy
    rcases hy with rfl | rfl | hy
    · omega
    · omega
    · exact this y hy
theorem fromO_uoct : ∀ {xs : List Int}, fromO (uoct xs) = xs
  | [] => rfl
  | x :: xs => by rw [uoct_cons, fromO, fromO_uoct]; congr 1; omega
theorem fromR_uoct (xs : List Int) : fromR (uoct xs) = (xs, 0) := by
  rw [fromR, uoct_len, if_pos (by omega), fromO_uoct]
theorem uoct_fromO (n : Nat) : ∀ xs : List Int, xs.length ≤ n → Rg 0 256 xs → xs.length % 2 = 0 → uoct (fromO xs) = xs := by
  induction n with
  | zero => intro xs h _ _; obtain rfl : xs = [] := List.eq_nil_of_length_eq_zero (by omega); rfl
  | succ n ih =>
    intro xs h hg h2
    match xs, h, hg, h2 with
    | [], _, _, _ => rfl
    | [a], _, _, h2 => simp at h2
    | a :: b :: r, h, hg, h2 =>
      obtain ⟨ha, hg⟩ := hg.cons
      obtain ⟨hb, hg⟩ := hg.cons
      have := ih r (by simp at h; omega) hg (by simp at h2; omega)
      rw [fromO, uoct_cons, this]
      congr 1
      · omega
      · congr 1; omega
theorem uoct_fromR {xs : List Int} (hg : Rg 0 256 xs) (h : (fromR xs).2 = 0) : uoct (fromR xs).1 = xs := by
  unfold fromR at h ⊢
  split at h
  · rename_i h2; rw [if_pos h2]; exact uoct_fromO _ xs (Nat.le_refl _) hg h2
  · simp at h
theorem fromR_err (xs : List Int) : (fromR xs).2 = 0 ∨ (fromR xs).2 = 4 := by unfold fromR; split <;> simp

set_option maxRecDepth 100000 in
theorem UnitsOctets_walk (v0 : Value) (xs : List Int) (v1 : Value) (ys : List Int) (w : World) (h0 : Row w v0 (ints .u16 xs)) (g0 : WF .u16 xs) (h1 : Row w v1 (ints .u8 ys)) (g1 : WF .u8 ys) :
    Calls Try.prog 5 #[v0, v1] w fun e w' => e = .returned (.bool true) ∧ Below w.heap.size w w' := by
  obtain ⟨a, b, off, cap, rfl, _⟩ := id h0.op
  obtain ⟨a', b', off', cap', rfl, _⟩ := id h1.op
  by_cases hl : xs.length ≤ 500 ∧ ys.length ≤ 1000
  · obtain ⟨hl0, hl1⟩ := hl
    have g := g0.u16
    have g' := g1.u8
    have hlo := uoct_len xs
    have hlf := fromR_len ys
    have hA := fun w' h' => uFrom_any (.slice a' ys.length cap') ys w' h' g' (by omega)
    have hB := fun w' h' => rFrom_any (.slice a' ys.length cap') ys w' h' g' (by omega)
    have hD := fun v w' h' => uFrom_any v (uoct xs) w' h' (uoct_rng g) (by omega)
    have hF := fun v w' h' => uOctets_any v (fromR ys).1 w' h' (fromR_rng g') (by omega)
    have hE := fun h => uoct_fromR g' h
    have hq4 := fromR_err ys
    rw [fromR_uoct] at hD
    obtain ⟨q, hq⟩ : ∃ q, (fromR ys).2 = q := ⟨_, rfl⟩
    obtain ⟨us, hu⟩ : ∃ us, (fromR ys).1 = us := ⟨_, rfl⟩
    have hus : us.length ≤ 1000000 := by rw [← hu]; omega
    have huo := uoct_len us
    rw [hq, hu] at hA hB hE
    rw [hu] at hF
    rw [hq] at hq4
    have HA := Lib.hid hA; have HB := Lib.hid hB; have HD := Lib.hid hD; have HF := Lib.hid hF; have HE := Lib.hid hE; have HLO := Lib.hid hlo; have HUO := Lib.hid huo; have HUS := Lib.hid hus
    clear hA hB hD hF hE hq hu hlo huo hlf hus
    have hn1 : ¬ (500 : Int) < (xs.length : Int) := by omega
    have hn2 : ¬ (1000 : Int) < (ys.length : Int) := by omega
    have hb := Below.refl w.heap.size w
    go_enter Try.func5, Try.ntmps5
    go_wp2_with fail
    refine (HA.out _ h1).mono ?_
    rintro e w1 ⟨va, rfl, ho1, hb1⟩
    replace hb := (by first | exact below_trans hb hb1 | exact below_trans (hb.alloc hb.size _) hb1 | exact below_trans ((hb.alloc hb.size _).alloc (hb.alloc hb.size _).size _) hb1 : Below w.heap.size w _)
    go_wp2_with fail
    refine (HB.out _ (h1.below hb)).mono ?_
    rintro e w2 ⟨vb, rfl, ho2, hb2⟩
    replace hb := (by first | exact below_trans hb hb2 | exact below_trans (hb.alloc hb.size _) hb2 | exact below_trans ((hb.alloc hb.size _).alloc (hb.alloc hb.size _).size _) hb2 : Below w.heap.size w _)
    have r1 := ho1.row.below hb2
    have r2 := ho2.row
    clear ho1 ho2 hb1 hb2
    go_wp2_with fail
    refine (uOctets_any _ xs _ (h0.below hb) g (by omega)).mono ?_
    rintro e w3 ⟨vc, rfl, ho3, hb3⟩
    replace hb := (by first | exact below_trans hb hb3 | exact below_trans (hb.alloc hb.size _) hb3 | exact below_trans ((hb.alloc hb.size _).alloc (hb.alloc hb.size _).size _) hb3 : Below w.heap.size w _)
    replace r1 := r1.below hb3
    replace r2 := r2.below hb3
    go_wp2_with fail
    refine (HD.out _ _ ho3.row).mono ?_
    rintro e w4 ⟨vd, rfl, ho4, hb4⟩
    replace hb := (by first | exact below_trans hb hb4 | exact below_trans (hb.alloc hb.size _) hb4 | exact below_trans ((hb.alloc hb.size _).alloc (hb.alloc hb.size _).size _) hb4 : Below w.heap.size w _)
    replace r1 := r1.below hb4
    replace r2 := r2.below hb4
    have r4 := ho4.row
    clear ho3 ho4 hb3 hb4
    go_wp2_with fail
    refine (same6_any _ _ us us _ r1 r2 (by have := HUS.out; omega) (by have := HUS.out; omega)).mono ?_
    rintro e w5 ⟨rfl, hb5⟩
    replace hb := (by first | exact below_trans hb hb5 | exact below_trans (hb.alloc hb.size _) hb5 | exact below_trans ((hb.alloc hb.size _).alloc (hb.alloc hb.size _).size _) hb5 : Below w.heap.size w _)
    rw [decide_eq_true rfl]
    replace r1 := r1.below hb5
    replace r4 := r4.below hb5
    clear r2 hb5
    go_wp2_with fail
    refine (uOctets_any _ xs _ (h0.below hb) g (by omega)).mono ?_
    rintro e w6 ⟨ve, rfl, ho6, hb6⟩
    replace hb := (by first | exact below_trans hb hb6 | exact below_trans (hb.alloc hb.size _) hb6 | exact below_trans ((hb.alloc hb.size _).alloc (hb.alloc hb.size _).size _) hb6 : Below w.heap.size w _)
    go_wp2_with fail
    refine (rOctets_any _ xs _ (h0.below hb) g (by omega)).mono ?_
    rintro e w7 ⟨vf, rfl, ho7, hb7⟩
    replace hb := (by first | exact below_trans hb hb7 | exact below_trans (hb.alloc hb.size _) hb7 | exact below_trans ((hb.alloc hb.size _).alloc (hb.alloc hb.size _).size _) hb7 : Below w.heap.size w _)
    have r6 := ho6.row.below hb7
    have r7 := ho7.row
    replace r1 := (r1.below hb6).below hb7
    replace r4 := (r4.below hb6).below hb7
    clear ho6 ho7 hb6 hb7
    go_wp2_with fail
    refine (like1_any _ _ _ _ _ r6 r7 (by have := HLO.out; omega) (by have := HLO.out; omega)).mono ?_
    rintro e w8 ⟨rfl, hb8⟩
    replace hb := (by first | exact below_trans hb hb8 | exact below_trans (hb.alloc hb.size _) hb8 | exact below_trans ((hb.alloc hb.size _).alloc (hb.alloc hb.size _).size _) hb8 : Below w.heap.size w _)
    rw [decide_eq_true rfl]
    replace r1 := r1.below hb8
    replace r4 := r4.below hb8
    clear r6 r7 hb8
    go_wp2_with fail
    refine (same6_any _ _ _ _ _ r4 (h0.below hb) (by omega) (by omega)).mono ?_
    rintro e w9 ⟨rfl, hb9⟩
    replace hb := (by first | exact below_trans hb hb9 | exact below_trans (hb.alloc hb.size _) hb9 | exact below_trans ((hb.alloc hb.size _).alloc (hb.alloc hb.size _).size _) hb9 : Below w.heap.size w _)
    rw [decide_eq_true rfl]
    replace r1 := r1.below hb9
    clear r4 hb9
    rcases hq4 with rfl | rfl
    · go_wp2_with fail
      refine (HF.out _ _ r1).mono ?_
      rintro e w10 ⟨vg, rfl, ho10, hb10⟩
      replace hb := (by first | exact below_trans hb hb10 | exact below_trans (hb.alloc hb.size _) hb10 | exact below_trans ((hb.alloc hb.size _).alloc (hb.alloc hb.size _).size _) hb10 : Below w.heap.size w _)
      rw [HE.out (by first | trivial | rfl)] at ho10
      go_wp2_with fail
      refine (like1_any _ _ _ _ _ ho10.row (h1.below hb) (by omega) (by omega)).mono ?_
      rintro e w11 ⟨rfl, hb11⟩
      replace hb := (by first | exact below_trans hb hb11 | exact below_trans (hb.alloc hb.size _) hb11 | exact below_trans ((hb.alloc hb.size _).alloc (hb.alloc hb.size _).size _) hb11 : Below w.heap.size w _)
      rw [decide_eq_true rfl]
      clear hb10 hb11 ho10 r1
      go_wp2_with fail
      refine (alive06_any _).mono ?_
      rintro e w12 ⟨rfl, hb12⟩
      replace hb := (by first | exact below_trans hb hb12 | exact below_trans (hb.alloc hb.size _) hb12 | exact below_trans ((hb.alloc hb.size _).alloc (hb.alloc hb.size _).size _) hb12 : Below w.heap.size w _)
      clear hb12
      go_wp2
      go_ret
      exact ⟨rfl, hb⟩
    · go_wp2_with fail
      refine (alive06_any _).mono ?_
      rintro e w12 ⟨rfl, hb12⟩
      replace hb := (by first | exact below_trans hb hb12 | exact below_trans (hb.alloc hb.size _) hb12 | exact below_trans ((hb.alloc hb.size _).alloc (hb.alloc hb.size _).size _) hb12 : Below w.heap.size w _)
      clear hb12
      go_wp2
      go_ret
      exact ⟨rfl, hb⟩
  · rcases (by omega : 500 < xs.length ∨ (xs.length ≤ 500 ∧ 1000 < ys.length)) with hh | ⟨hh, hk⟩
    · have hn1 : (500 : Int) < (xs.length : Int) := by omega
      go_enter Try.func5, Try.ntmps5
      go_wp2_with fail
      refine (alive06_any _).mono ?_
      rintro e w7 ⟨rfl, hb7⟩
      go_wp2
      go_ret
      exact ⟨rfl, hb7⟩
    · have hn1 : ¬ (500 : Int) < (xs.length : Int) := by omega
      have hn2 : (1000 : Int) < (ys.length : Int) := by omega
      go_enter Try.func5, Try.ntmps5
      go_wp2_with fail
      refine (alive06_any _).mono ?_
      rintro e w7 ⟨rfl, hb7⟩
      go_wp2
      go_ret
      exact ⟨rfl, hb7⟩

theorem scB_32 {xs : List Int} (h : allSc xs = true) : R32 xs := fun x hx => by
  have := scB_iff.1 (List.all_eq_true.1 h x hx); omega
theorem idx_none_sc {xs : List Int} (h : allSc xs = true) : idx (fun c => !scB c) xs = -1 := idx_none (fun y hy => by simp [List.all_eq_true.1 h y hy])

set_option maxRecDepth 100000 in
theorem UnitsBack_walk (v0 : Value) (ts : List Int) (v1 : Value) (xs : List Int) (w : World) (h0 : Row w v0 (ints .i32 ts)) (g0 : WF .i32 ts) (h1 : Row w v1 (ints .u16 xs)) (g1 : WF .u16 xs) :
    Calls Try.prog 9 #[v0, v1] w fun e w' => e = .returned (.bool true) ∧ Below w.heap.size w w' := by
  obtain ⟨a, b, off, cap, rfl, _⟩ := id h0.op
  obtain ⟨a', b', off', cap', rfl, _⟩ := id h1.op
  by_cases hl : ts.length ≤ 500 ∧ xs.length ≤ 500
  · obtain ⟨hl0, hl1⟩ := hl
    have g := g1.u16
    have hul := ulayL_len ts
    have hrl := uread_len _ xs (Nat.le_refl _)
    have hsc := uread_sc g
    have hrt := uread_right g
    have hA := fun w' h' => uLay_any (.slice a ts.length cap) ts w' h' g0.i32 (by omega)
    have hC := fun v w' h' => uRead_any v xs w' h' g (by omega)
    have hR := fun v w' h' => uRight_any v xs w' h' g (by omega)
    obtain ⟨ps, hps⟩ : ∃ ps, (uread xs).map Prod.fst = ps := ⟨_, rfl⟩
    obtain ⟨q, hq⟩ : ∃ q, ferr ((uread xs).map Prod.snd) = q := ⟨_, rfl⟩
    have hpl : ps.length ≤ xs.length := by rw [← hps]; simpa using hrl
    rw [hps] at hC hsc hrt
    rw [hq] at hR hrt
    have hpu := ulayL_len ps
    have hD := fun v w' h' => uLay_any v ps w' h' (scB_32 hsc) (by omega)
    rw [show ulayR ps = (ulayL ps, 0) by rw [ulayR, if_pos hsc]] at hD
    have hF := fun v w' h' => rfirst_any v ps w' h' (by omega)
    rw [idx_none_sc hsc] at hF
    have hbq : (q == 0) = decide (ulayL ps = xs) := by rw [Bool.eq_iff_iff, beq_iff_eq, decide_eq_true_iff]; exact hrt
    rw [hbq] at hR
    have HA := Lib.hid hA; have HC := Lib.hid hC; have HR := Lib.hid hR; have HD := Lib.hid hD; have HF := Lib.hid hF; have HPU := Lib.hid hpu
    clear hA hC hR hD hF hps hq hrt hsc hrl hbq hpu
    have hn1 : ¬ (500 : Int) < (ts.length : Int) := by omega
    have hn2 : ¬ (500 : Int) < (xs.length : Int) := by omega
    have hpl' : (ps.length : Int) ≤ (xs.length : Int) := by omega
    have hb := Below.refl w.heap.size w
    rcases Bool.eq_false_or_eq_true (allSc ts) with hsa | hsa
    case' inl =>
      have hA := HA.out
      rw [show ulayR ts = (ulayL ts, 0) by rw [ulayR, if_pos hsa]] at hA
      clear HA
      have hS := fun v w' h' => uStrict_any v (ulayL ts) w' h' (ulay_rng ts) (by omega)
      have hT := fun v w' h' => uRight_any v (ulayL ts) w' h' (ulay_rng ts) (by omega)
      have e1 : (uread (ulayL ts)).map Prod.fst = ts := by rw [uread_ulay ts hsa]; simp [Function.comp_def]
      have e2 : ferr ((uread (ulayL ts)).map Prod.snd) = 0 := by rw [uread_ulay ts hsa]; exact ferr_all (by intro e he; simp at he; exact he.2.symm)
      rw [e1, e2, strictL, if_pos rfl] at hS
      rw [e2] at hT
      have HA := Lib.hid hA; have HS := Lib.hid hS; have HT := Lib.hid hT; have HUL := Lib.hid hul
      clear hA hS hT e1 e2 hsa hul
      go_enter Try.func9, Try.ntmps9
      go_wp2_with fail
      refine (HA.out _ h0).mono ?_
      rintro e w1 ⟨va, rfl, ho1, hb1⟩
      replace hb := (by first | exact below_trans hb hb1 | exact below_trans (hb.alloc hb.size _) hb1 | exact below_trans ((hb.alloc hb.size _).alloc (hb.alloc hb.size _).size _) hb1 : Below w.heap.size w _)
      have r1 := ho1.row
      clear ho1 hb1
      go_wp2_with fail
      refine (HS.out _ _ r1).mono ?_
      rintro e w2 ⟨vb, rfl, ho2, hb2⟩
      replace hb := (by first | exact below_trans hb hb2 | exact below_trans (hb.alloc hb.size _) hb2 | exact below_trans ((hb.alloc hb.size _).alloc (hb.alloc hb.size _).size _) hb2 : Below w.heap.size w _)
      replace r1 := r1.below hb2
      have r2 := ho2.row
      clear ho2 hb2
      go_wp2_with fail
      refine (like3_any _ _ ts ts _ r2 (h0.below hb) (by omega) (by omega)).mono ?_
      rintro e w3 ⟨rfl, hb3⟩
      replace hb := (by first | exact below_trans hb hb3 | exact below_trans (hb.alloc hb.size _) hb3 | exact below_trans ((hb.alloc hb.size _).alloc (hb.alloc hb.size _).size _) hb3 : Below w.heap.size w _)
      rw [decide_eq_true rfl]
      replace r1 := r1.below hb3
      clear r2 hb3
      go_wp2_with fail
      refine (HT.out _ _ r1).mono ?_
      rintro e w4 ⟨rfl, hb4⟩
      replace hb := (by first | exact below_trans hb hb4 | exact below_trans (hb.alloc hb.size _) hb4 | exact below_trans ((hb.alloc hb.size _).alloc (hb.alloc hb.size _).size _) hb4 : Below w.heap.size w _)
      clear hb4 r1
    case' inr =>
      have hA := HA.out
      rw [show ulayR ts = ([], 7) by rw [ulayR, if_neg (by simp [hsa])]] at hA
      have HA := Lib.hid hA
      clear hA hsa hul
      go_enter Try.func9, Try.ntmps9
      go_wp2_with fail
      refine (HA.out _ h0).mono ?_
      rintro e w4 ⟨va, rfl, ho1, hb1⟩
      replace hb := (by first | exact below_trans hb hb1 | exact below_trans (hb.alloc hb.size _) hb1 | exact below_trans ((hb.alloc hb.size _).alloc (hb.alloc hb.size _).size _) hb1 : Below w.heap.size w _)
      clear ho1 hb1
    all_goals
      go_wp2_with fail
      refine (HC.out _ _ (h1.below hb)).mono ?_
      rintro e w5 ⟨vc, rfl, ho5, hb5⟩
      replace hb := (by first | exact below_trans hb hb5 | exact below_trans (hb.alloc hb.size _) hb5 | exact below_trans ((hb.alloc hb.size _).alloc (hb.alloc hb.size _).size _) hb5 : Below w.heap.size w _)
      have r5 := ho5.row
      clear ho5 hb5
      go_wp2_with fail
      refine (HD.out _ _ r5).mono ?_
      rintro e w6 ⟨vd, rfl, ho6, hb6⟩
      replace hb := (by first | exact below_trans hb hb6 | exact below_trans (hb.alloc hb.size _) hb6 | exact below_trans ((hb.alloc hb.size _).alloc (hb.alloc hb.size _).size _) hb6 : Below w.heap.size w _)
      replace r5 := r5.below hb6
      have r6 := ho6.row
      clear ho6 hb6
      go_wp2_with fail
      refine (HF.out _ _ r5).mono ?_
      rintro e w' ⟨rfl, rfl⟩
      obtain ⟨a5, b5, o5, c5, rfl, _⟩ := id r5.op
      clear r5
      go_wp2_with fail
      refine (HR.out _ _ (h1.below hb)).mono ?_
      rintro e w7 ⟨rfl, hb7⟩
      replace hb := (by first | exact below_trans hb hb7 | exact below_trans (hb.alloc hb.size _) hb7 | exact below_trans ((hb.alloc hb.size _).alloc (hb.alloc hb.size _).size _) hb7 : Below w.heap.size w _)
      replace r6 := r6.below hb7
      clear hb7
      go_wp2_with fail
      refine (same6_any _ _ _ _ _ r6 (h1.below hb) (by have := HPU.out; omega) (by omega)).mono ?_
      rintro e w8 ⟨rfl, hb8⟩
      replace hb := (by first | exact below_trans hb hb8 | exact below_trans (hb.alloc hb.size _) hb8 | exact below_trans ((hb.alloc hb.size _).alloc (hb.alloc hb.size _).size _) hb8 : Below w.heap.size w _)
      clear hb8 r6
      go_wp2_with fail
      refine (alive06_any _).mono ?_
      rintro e w12 ⟨rfl, hb12⟩
      replace hb := (by first | exact below_trans hb hb12 | exact below_trans (hb.alloc hb.size _) hb12 | exact below_trans ((hb.alloc hb.size _).alloc (hb.alloc hb.size _).size _) hb12 : Below w.heap.size w _)
      clear hb12
      go_wp2
      go_ret
      exact ⟨rfl, hb⟩
  · rcases (by omega : 500 < ts.length ∨ (ts.length ≤ 500 ∧ 500 < xs.length)) with hh | ⟨hh, hk⟩
    · have hn1 : (500 : Int) < (ts.length : Int) := by omega
      go_enter Try.func9, Try.ntmps9
      go_wp2_with fail
      refine (alive06_any _).mono ?_
      rintro e w7 ⟨rfl, hb7⟩
      go_wp2
      go_ret
      exact ⟨rfl, hb7⟩
    · have hn1 : ¬ (500 : Int) < (ts.length : Int) := by omega
      have hn2 : (500 : Int) < (xs.length : Int) := by omega
      go_enter Try.func9, Try.ntmps9
      go_wp2_with fail
      refine (alive06_any _).mono ?_
      rintro e w7 ⟨rfl, hb7⟩
      go_wp2
      go_ret
      exact ⟨rfl, hb7⟩
end Go.Proofs.Ytbkhabnjefcmkaa
