/- Walks: scalar values. · Plain laws on bits. · Walks: UTF-16. · Walks: UTF-16, the reading of units. · Walks: UTF-16, the reference's reading. · Walks: the first that is no scalar value. · Walks: the first that is no scalar value; UTF-16, laying. · Walks: are two lists the same? (laid together by program out of single texts). -/
import Derived.Test.YtbpjgmiedplidaaRows
import Derived.WalkKit
import Derived.StillTailTactics
import Derived.Test.YtbpjgmiedplidaaM1
namespace Go.Proofs.Ytbpjgmiedplidaa
open Go.RowKit
set_option maxHeartbeats 400000

theorem surrogate_any (c : Int) (w : World) :
    Calls Try.prog 101 #[.int .i32 c] w fun e w' => e = .returned (.bool (surB c)) ∧ w = w' := by
  go_enter Try.func101, Try.ntmps101
  go_wp2
  all_goals (go_ret; exact ⟨ret_bool (by rw [surB, eq_comm]; simp; try omega), rfl⟩)
theorem is_any (c : Int) (w : World) (h1 : -2147483648 ≤ c) (h2 : c ≤ 2147483647) :
    Calls Try.prog 83 #[.int .i32 c] w fun e w' => e = .returned (.bool (scB c)) ∧ w = w' := by
  go_enter Try.func83, Try.ntmps83
  go_wp2_with (go_at_call 101; refine (surrogate_any _ _).mono ?_; rintro e w' ⟨rfl, rfl⟩)
  all_goals (go_ret; exact ⟨ret_bool (by rw [Bool.eq_iff_iff]; simp [scB, surB]; omega), rfl⟩)
theorem rsur_any (c : Int) (w : World) :
    Calls Try.prog 66 #[.int .i32 c] w fun e w' => e = .returned (.bool (surB c)) ∧ w = w' := by
  go_enter Try.func66, Try.ntmps66
  go_wp2
  all_goals (go_ret; exact ⟨ret_bool (by rw [Bool.eq_iff_iff]; simp [surB]; try omega), rfl⟩)
theorem ris_any (c : Int) (w : World) :
    Calls Try.prog 42 #[.int .i32 c] w fun e w' => e = .returned (.bool (scB c)) ∧ w = w' := by
  go_enter Try.func42, Try.ntmps42
  go_wp2_with (go_at_call 66; refine (rsur_any _ _).mono ?_; rintro e w' ⟨rfl, rfl⟩)
  all_goals (go_ret; exact ⟨ret_bool (by rw [Bool.eq_iff_iff]; simp [scB, surB]; omega), rfl⟩)

theorem rfirst_any (v : Value) (xs : List Int) (w : World) (h : Row w v (ints .i32 xs)) (hl : xs.length ≤ 1000000000) :
    Calls Try.prog 21 #[v] w fun e w' => e = .returned (.int .i64 (idx (fun c => !scB c) xs)) ∧ w = w' := by
  obtain ⟨a, b, off, cap, rfl, hc, hm, ha, hcell⟩ := h.int
  clear hc hm
  have HC := Lib.hid hcell; clear hcell
  go_enter Try.func21, Try.ntmps21
  go_wp2
  go_loop [3] (fun i => ∃ k : Nat, k ≤ xs.length ∧ i = .int .i64 k ∧ Hid (∀ y ∈ xs.take k, scB y = true)) (fun i => xs.length - (intOf i).toNat)
  case atStart => exact ⟨0, Nat.zero_le _, rfl, fun y hy => by simp at hy⟩
  case round =>
    obtain ⟨k, hk, rfl, hall⟩ := hrel
    by_cases hlt : k < xs.length
    · obtain ⟨x, hx⟩ : ∃ x, xs[k]? = some x := ⟨_, List.getElem?_eq_getElem hlt⟩
      have HX := Lib.hid hx; clear hx
      have hc := HC.out k x HX.out
      obtain rfl : a = some ⟨b, off, none⟩ := by
        rcases ha with h | ⟨h, _⟩
        · exact h
        · subst h; simp at hlt
      clear ha
      by_cases hs : scB x = true
      · go_wp2_with (go_at_call 42; refine (ris_any _ _).mono ?_; rintro e w' ⟨rfl, rfl⟩)
        go_round
        case rel => exact ⟨k + 1, by omega, by go_num, take_succ_all hall.out HX.out hs⟩
        case measure => simp [intOf]; omega
      · have hs' : scB x = false := by simpa using hs
        clear hs
        go_wp2_with (go_at_call 42; refine (ris_any _ _).mono ?_; rintro e w' ⟨rfl, rfl⟩)
        go_ret
        exact ⟨ret_int (by rw [idx_at (p := fun c => !scB c) (k := k) (fun y hy => by simp [hall.out y hy]) HX.out (by simp [hs'])]), rfl⟩
    · go_wp2
      go_ret
      exact ⟨ret_int (by rw [idx_none (fun y hy => by simp [hall.out y (by rw [List.take_of_length_le (by omega)]; exact hy)])]), rfl⟩
end Go.Proofs.Ytbpjgmiedplidaa
namespace Go.Proofs.Ytbpjgmiedplidaa
/-- n & (the bits from m on, below m + j). -/
theorem nat_and_high (n m j : Nat) : n &&& ((2 ^ j - 1) * 2 ^ m) = n / 2 ^ m % 2 ^ j * 2 ^ m := by
  have h1 : (n &&& ((2 ^ j - 1) * 2 ^ m)) % 2 ^ m = 0 := by rw [Nat.and_mod_two_pow, Nat.mul_mod_left, Nat.and_zero]
  have h2 : (n &&& ((2 ^ j - 1) * 2 ^ m)) / 2 ^ m = n / 2 ^ m % 2 ^ j := by
    rw [Nat.and_div_two_pow, Nat.mul_div_cancel _ (Nat.two_pow_pos m), Nat.and_two_pow_sub_one_eq_mod]
  have h3 := Nat.div_add_mod (n &&& ((2 ^ j - 1) * 2 ^ m)) (2 ^ m)
  rw [h1, h2, Nat.add_zero] at h3
  rw [← h3, Nat.mul_comm]
theorem u16_and_fc00 (u : Int) (h0 : 0 ≤ u) (h1 : u < 65536) : bits .and .u16 u 64512 = u / 1024 * 1024 := by
  rw [u16_and u 64512 h0 h1 (by omega) (by omega), show ((64512 : Int).toNat) = (2 ^ 6 - 1) * 2 ^ 10 from rfl, nat_and_high]
  show ((u.toNat / 1024 % 64 * 1024 : Nat) : Int) = _
  omega
theorem i32_mask10 (x : Int) (h0 : 0 ≤ x) (h1 : x < 2147483648) : bits .and .i32 x 1023 = x % 1024 := bits_mask .i32 31 (by decide) wraps_i32 10 (by decide) x h0 h1
theorem i32_join10 (x y : Int) (hx0 : 0 ≤ x) (hx : x % 1024 = 0) (hx1 : x < 2147483648) (hy0 : 0 ≤ y) (hy : y < 1024) : bits .or .i32 x y = x + y := bits_join .i32 31 (by decide) wraps_i32 10 x y hx0 hx hx1 hy0 hy (by omega)
theorem u16_join8 (x y : Int) (hx0 : 0 ≤ x) (hx : x % 256 = 0) (hx1 : x < 65536) (hy0 : 0 ≤ y) (hy : y < 256) : bits .or .u16 x y = x + y := bits_join .u16 16 (by decide) (fun n h0 h1 => IntWalk.u16_in n (by omega)) 8 x y hx0 hx hx1 hy0 hy (by omega)
theorem i32_join6 (x y : Int) (hx0 : 0 ≤ x) (hx : x % 64 = 0) (hx1 : x < 2147483648) (hy0 : 0 ≤ y) (hy : y < 64) : bits .or .i32 x y = x + y := bits_join .i32 31 (by decide) wraps_i32 6 x y hx0 hx hx1 hy0 hy (by omega)
end Go.Proofs.Ytbpjgmiedplidaa
namespace Go.Proofs.Ytbpjgmiedplidaa
open Go.RowKit
set_option maxHeartbeats 400000

theorem uhigh_any (u : Int) (w : World) (h0 : 0 ≤ u) (h1 : u < 65536) :
    Calls Try.prog 113 #[.int .u16 u] w fun e w' => e = .returned (.bool (hiB u)) ∧ w = w' := by
  go_enter Try.func113, Try.ntmps113
  go_wp2
  go_ret
  exact ⟨ret_bool (by rw [u16_and_fc00 u h0 h1, Bool.eq_iff_iff, hiB_iff, beq_iff_eq]; omega), rfl⟩
theorem ulow_any (u : Int) (w : World) (h0 : 0 ≤ u) (h1 : u < 65536) :
    Calls Try.prog 112 #[.int .u16 u] w fun e w' => e = .returned (.bool (loB u)) ∧ w = w' := by
  go_enter Try.func112, Try.ntmps112
  go_wp2
  go_ret
  exact ⟨ret_bool (by rw [u16_and_fc00 u h0 h1, Bool.eq_iff_iff, loB_iff, beq_iff_eq]; omega), rfl⟩
theorem uLow_any (u : Int) (w : World) (h0 : 0 ≤ u) (h1 : u < 65536) :
    Calls Try.prog 114 #[.int .u16 u] w fun e w' => e = .returned (.bool (loB u)) ∧ w = w' := by
  go_enter Try.func114, Try.ntmps114
  go_wp2_with (go_at_call 112; refine (ulow_any _ _ h0 h1).mono ?_; rintro e w' ⟨rfl, rfl⟩)
  go_ret
  exact ⟨rfl, rfl⟩
theorem rHigh_any (u : Int) (w : World) :
    Calls Try.prog 99 #[.int .u16 u] w fun e w' => e = .returned (.bool (hiB u)) ∧ w = w' := by
  go_enter Try.func99, Try.ntmps99
  go_wp2
  all_goals (go_ret; exact ⟨ret_bool (by rw [Bool.eq_iff_iff]; simp [hiB]; try omega), rfl⟩)
theorem rLow_any (u : Int) (w : World) :
    Calls Try.prog 100 #[.int .u16 u] w fun e w' => e = .returned (.bool (loB u)) ∧ w = w' := by
  go_enter Try.func100, Try.ntmps100
  go_wp2
  all_goals (go_ret; exact ⟨ret_bool (by rw [Bool.eq_iff_iff]; simp [loB]; try omega), rfl⟩)

theorem uof_any (c : Int) (w : World) (h0 : -2147483648 ≤ c) (h1 : c ≤ 2147483647) :
    Calls Try.prog 60 #[.int .i32 c] w fun e w' => ∃ v, e = .returned v ∧ Own w.heap.size 76 w' v (ints .u16 (uof c)) ∧ Below w.heap.size w w' := by
  by_cases hs : scB c = true
  · have hb := scB_iff.1 hs
    by_cases hc : c < 65536
    · go_enter Try.func60, Try.ntmps60
      go_wp2_with (go_at_call 83; refine (is_any _ _ (by omega) (by omega)).mono ?_; rintro e w' ⟨rfl, rfl⟩)
      go_ret
      exact ⟨_, rfl, Own.ilit _ [_] (by simp [uof, hs, hc, ints]) (Nat.le_refl _) (by simp), below_alloc _ _⟩
    · go_enter Try.func60, Try.ntmps60
      go_wp2_with (go_at_call 83; refine (is_any _ _ (by omega) (by omega)).mono ?_; rintro e w' ⟨rfl, rfl⟩)
      go_ret
      refine ⟨_, rfl, Own.ilit _ [_, _] ?_ (Nat.le_refl _) (by simp), below_alloc _ _⟩
      rw [i32_join10 55296 _ (by omega) (by omega) (by omega) (by omega) (by omega), i32_mask10 _ (by omega) (by omega), i32_join10 56320 _ (by omega) (by omega) (by omega) (by omega) (by omega),
        IntWalk.u16_in _ (by omega), IntWalk.u16_in _ (by omega)]
      simp only [uof, hs, if_true, if_neg (by omega : ¬ c < 65536)]
      rfl
  · have hs' : scB c = false := by simpa using hs
    clear hs
    go_enter Try.func60, Try.ntmps60
    go_wp2_with (go_at_call 83; refine (is_any _ _ (by omega) (by omega)).mono ?_; rintro e w' ⟨rfl, rfl⟩)
    go_ret
    exact ⟨_, rfl, by rw [uof, hs']; exact Own.nil _ _ _, Below.refl _ _⟩
theorem ruof_any (c : Int) (w : World) (h0 : -2147483648 ≤ c) (h1 : c ≤ 2147483647) :
    Calls Try.prog 63 #[.int .i32 c] w fun e w' => ∃ v, e = .returned v ∧ Own w.heap.size 76 w' v (ints .u16 (uof c)) ∧ Below w.heap.size w w' := by
  by_cases hs : scB c = true
  · have hb := scB_iff.1 hs
    by_cases hc : c < 65536
    · go_enter Try.func63, Try.ntmps63
      go_wp2_with (go_at_call 42; refine (ris_any _ _).mono ?_; rintro e w' ⟨rfl, rfl⟩)
      go_ret
      exact ⟨_, rfl, Own.ilit _ [_] (by simp [uof, hs, hc, ints]) (Nat.le_refl _) (by simp), below_alloc _ _⟩
    · go_enter Try.func63, Try.ntmps63
      go_wp2_with (go_at_call 42; refine (ris_any _ _).mono ?_; rintro e w' ⟨rfl, rfl⟩)
      go_ret
      refine ⟨_, rfl, Own.ilit _ [_, _] ?_ (Nat.le_refl _) (by simp), below_alloc _ _⟩
      simp only [uof, hs, if_true, if_neg (by omega : ¬ c < 65536)]
      rfl
  · have hs' : scB c = false := by simpa using hs
    clear hs
    go_enter Try.func63, Try.ntmps63
    go_wp2_with (go_at_call 42; refine (ris_any _ _).mono ?_; rintro e w' ⟨rfl, rfl⟩)
    go_ret
    exact ⟨_, rfl, by rw [uof, hs']; exact Own.nil _ _ _, Below.refl _ _⟩

theorem uone_any (v : Value) (x : Int) (r : List Int) (w : World) (h : Row w v (ints .u16 (x :: r))) (hg : Rg 0 65536 (x :: r)) (hl : (x :: r).length ≤ 1000000000) :
    Calls Try.prog 109 #[v] w fun e w' => e = .returned (.tuple #[.int .i32 (uone x r).1, .int .i64 (uone x r).2.1, .int .i64 (uone x r).2.2]) ∧ Below w.heap.size w w' := by
  obtain ⟨a, b, off, cap, rfl, HC⟩ := h.op
  obtain ⟨⟨hx0, hx1⟩, hg'⟩ := hg.cons
  obtain ⟨x', HX, rfl, hc⟩ := HC.out 0 (by simp)
  obtain rfl : x = x' := by simpa using HX.out
  replace hc : w.cell? ⟨b, off, none⟩ = some (.int .u16 x) := by simpa using hc w (Below.refl _ _)
  by_cases hlo : loB x = true
  · go_enter Try.func109, Try.ntmps109
    go_wp2_with (first | (go_at_call 112; refine (ulow_any _ _ hx0 hx1).mono ?_; rintro e w' ⟨rfl, rfl⟩) | (go_at_call 113; refine (uhigh_any _ _ hx0 hx1).mono ?_; rintro e w' ⟨rfl, rfl⟩))
    go_ret3
    exact ⟨by simp [uone, hlo], Below.refl _ _⟩
  · have hlo' : loB x = false := by simpa using hlo
    clear hlo
    by_cases hhi : hiB x = true
    · cases r with
      | nil =>
        go_enter Try.func109, Try.ntmps109
        go_wp2_with (first | (go_at_call 112; refine (ulow_any _ _ hx0 hx1).mono ?_; rintro e w' ⟨rfl, rfl⟩) | (go_at_call 113; refine (uhigh_any _ _ hx0 hx1).mono ?_; rintro e w' ⟨rfl, rfl⟩))
        go_ret3
        exact ⟨by simp [uone, hlo', hhi], Below.refl _ _⟩
      | cons y r =>
        obtain ⟨⟨hy0, hy1⟩, hg''⟩ := hg'.cons
        obtain ⟨y', HY, _, hd⟩ := HC.out 1 (by simp)
        obtain rfl : y = y' := by simpa using HY.out
        replace hd := hd w (Below.refl _ _)
        by_cases hly : loB y = true
        · have h1 := hiB_iff.1 hhi
          have h2 := loB_iff.1 hly
          go_enter Try.func109, Try.ntmps109
          go_wp2_with (first | (go_at_call 112; refine (ulow_any _ _ hx0 hx1).mono ?_; rintro e w' ⟨rfl, rfl⟩) | (go_at_call 113; refine (uhigh_any _ _ hx0 hx1).mono ?_; rintro e w' ⟨rfl, rfl⟩) | (go_at_call 114; refine (uLow_any _ _ hy0 hy1).mono ?_; rintro e w' ⟨rfl, rfl⟩))
          go_quiet (fail)
          go_wp2
          go_ret3
          refine ⟨ret3 (iv ?_) (iv (by simp [uone, hlo', hhi, hly])) (iv (by simp [uone, hlo', hhi, hly])), below_drewN (Below.refl _ _) _⟩
          rw [i32_mask10 x hx0 (by omega), i32_mask10 y hy0 (by omega), IntWalk.wrap32_in (x % 1024 * 1024) (by omega), i32_join10 _ _ (by omega) (by omega) (by omega) (by omega) (by omega), IntWalk.wrap32_in _ (by omega)]
          simp [uone, hlo', hhi, hly]
          omega
        · have hly' : loB y = false := by simpa using hly
          clear hly
          go_enter Try.func109, Try.ntmps109
          go_wp2_with (first | (go_at_call 112; refine (ulow_any _ _ hx0 hx1).mono ?_; rintro e w' ⟨rfl, rfl⟩) | (go_at_call 113; refine (uhigh_any _ _ hx0 hx1).mono ?_; rintro e w' ⟨rfl, rfl⟩) | (go_at_call 114; refine (uLow_any _ _ hy0 hy1).mono ?_; rintro e w' ⟨rfl, rfl⟩))
          go_ret3
          exact ⟨by simp [uone, hlo', hhi, hly'], Below.refl _ _⟩
    · have hhi' : hiB x = false := by simpa using hhi
      clear hhi
      go_enter Try.func109, Try.ntmps109
      go_wp2_with (first | (go_at_call 112; refine (ulow_any _ _ hx0 hx1).mono ?_; rintro e w' ⟨rfl, rfl⟩) | (go_at_call 113; refine (uhigh_any _ _ hx0 hx1).mono ?_; rintro e w' ⟨rfl, rfl⟩))
      go_ret3
      exact ⟨by simp [uone, hlo', hhi'], Below.refl _ _⟩
end Go.Proofs.Ytbpjgmiedplidaa
namespace Go.Proofs.Ytbpjgmiedplidaa
open Go.RowKit
set_option maxHeartbeats 400000

/-- What the loop of read keeps. -/
def UR (w : World) (xs : List Int) (u t f : Value) (wr : World) : Prop :=
  ∃ ps rest, Row w u (ints .u16 rest) ∧ Rg 0 65536 rest ∧ uread xs = ps ++ uread rest ∧ ps.length + rest.length ≤ xs.length ∧
    Own w.heap.size 21 wr t (ints .i32 (ps.map Prod.fst)) ∧ f = .int .i64 (ferr (ps.map Prod.snd)) ∧ Below w.heap.size w wr

theorem UR_step {w : World} {xs : List Int} {ps : List (Int × Int)} {x : Int} {r : List Int} {q c e n : Int} {u2 t2 : Value} {w2 : World} (hgr : Rg 0 65536 (x :: r))
    (HP : uread xs = ps ++ uread (x :: r)) (HU : uread (x :: r) = (c, e) :: uread ((x :: r).drop n.toNat)) (HL : ps.length + (x :: r).length ≤ xs.length)
    (hown2 : Own w.heap.size 21 w2 t2 (ints .i32 (ps.map Prod.fst) ++ ints .i32 [c])) (hb2 : Below w.heap.size w w2) (hu2 : Row w u2 ((ints .u16 (x :: r)).drop n.toNat)) (hn : 1 ≤ n)
    (hq : ferr ((ps ++ [(c, e)]).map Prod.snd) = q) :
    UR w xs u2 t2 (.int .i64 q) w2 := by
  refine ⟨ps ++ [(c, e)], (x :: r).drop n.toNat, by rw [← ints_drop]; exact hu2, hgr.drop _, by rw [HP, HU]; simp, ?_, by rw [List.map_append, ints_append]; exact hown2, by rw [hq], hb2⟩
  simp only [List.length_append, List.length_drop, List.length_cons, List.length_nil] at HL ⊢
  omega

theorem uread_any (v : Value) (xs : List Int) (w : World) (h : Row w v (ints .u16 xs)) (hg : Rg 0 65536 xs) (hl : xs.length ≤ 1000000) :
    Calls Try.prog 105 #[v] w fun e w' => ∃ t, e = .returned (.tuple #[t, .int .i64 (ferr ((uread xs).map Prod.snd))]) ∧ Own w.heap.size 21 w' t (ints .i32 ((uread xs).map Prod.fst)) ∧ Below w.heap.size w w' := by
  go_enter Try.func105, Try.ntmps105
  go_wp2
  go_loopw [0, 4, 5] (fun u t f wr => UR w xs u t f wr) (fun u _ _ _ => lenOf u)
  case atStart => exact ⟨[], xs, h, hg, rfl, by simp, Own.nil _ _ _, rfl, Below.refl _ _⟩
  case round =>
    obtain ⟨ps, rest, hrow, hgr, hps, hlen, hown, rfl, hb⟩ := hrel
    have HP := Lib.hid hps; clear hps h hg
    cases rest with
    | nil =>
      obtain ⟨a, b, off, cap, rfl, HC⟩ := hrow.op
      go_wp2
      go_ret2
      rw [uread_nil, List.append_nil] at HP
      exact ⟨_, ret2 rfl (iv (by rw [HP.out])), by rw [HP.out]; exact hown, hb⟩
    | cons x r =>
      obtain ⟨a, b, off, cap, rfl, HC⟩ := id hrow.op
      clear HC
      have hn := uone_n x r
      have hlr : (x :: r).length ≤ 1000000000 := by simp at hlen ⊢; omega
      obtain ⟨q, HQ⟩ : ∃ q, Hid (ferr (ps.map Prod.snd) = q) := ⟨_, rfl⟩
      rw [HQ.out]
      have hcons := uread_cons x r
      have hrng := uone_rng hgr
      obtain ⟨n, hN⟩ : ∃ n, (uone x r).2.1 = n := ⟨_, rfl⟩
      obtain ⟨c, hC⟩ : ∃ c, (uone x r).1 = c := ⟨_, rfl⟩
      obtain ⟨e, hE⟩ : ∃ e, (uone x r).2.2 = e := ⟨_, rfl⟩
      have hone := fun w' hr => uone_any (.slice a (x :: r).length cap) x r w' hr hgr hlr
      rw [hN, hC, hE] at hone hcons
      rw [hN] at hn
      rw [hC] at hrng
      clear hN hC hE
      have hn1 : 1 ≤ n ∧ n ≤ (r.length : Int) + 1 := by
        rcases hn with hn | ⟨hn, hr⟩
        · omega
        · cases r with
          | nil => exact absurd rfl hr
          | cons => simp; omega
      clear hn
      have HU := Lib.hid hcons; clear hcons
      have HO := Lib.hid hone; clear hone
      have HL := Lib.hid hlen; clear hlen hlr
      by_cases hq : (q == 0) = true
      · go_wp2_with (first | (go_at_call 109; refine (HO.out _ (hrow.below hb)).mono ?_; rintro e' w1 ⟨rfl, hb1⟩) | (at_builtin; refine wpList_app slT_i32 w.heap.size _ _ rfl rfl rfl rfl ((hown.below hb1).alloc _) (Row.ilit [c] [_] rfl (by simp)) (by have := HL.out; simp [ints] at this ⊢; omega) (by have := hb.size; have := hb1.size; simp; omega) ?_; intro t2 w2 hown2 hg2; have hb2 : Below w.heap.size w w2 := below_own ((hb.trans (hb1.mono hb.size)).alloc (Nat.le_trans hb.size hb1.size) _) ((hown.below hb1).alloc _) hg2 (by have := hb.size; have := hb1.size; simp; omega) (Nat.le_refl _)) | (refine wpList_slL slT_u16 _ _ rfl rfl rfl rfl (hrow.below hb2) (by omega) (by simp [ints]; omega) ?_; intro u2 hu2))
        go_roundw
        case rel => exact UR_step hgr HP.out HU.out HL.out hown2 hb2 (hu2 _ hrow) hn1.1 (by rw [List.map_append, List.map_cons, List.map_nil, ferr_snoc, HQ.out, if_pos (by simpa using hq)])
        case measure => rw [(hu2 _ hrow).len]; simp [lenOf, ints]; omega
      · replace hq : (q == 0) = false := by simpa using hq
        go_wp2_with (first | (go_at_call 109; refine (HO.out _ (hrow.below hb)).mono ?_; rintro e' w1 ⟨rfl, hb1⟩) | (at_builtin; refine wpList_app slT_i32 w.heap.size _ _ rfl rfl rfl rfl ((hown.below hb1).alloc _) (Row.ilit [c] [_] rfl (by simp)) (by have := HL.out; simp [ints] at this ⊢; omega) (by have := hb.size; have := hb1.size; simp; omega) ?_; intro t2 w2 hown2 hg2; have hb2 : Below w.heap.size w w2 := below_own ((hb.trans (hb1.mono hb.size)).alloc (Nat.le_trans hb.size hb1.size) _) ((hown.below hb1).alloc _) hg2 (by have := hb.size; have := hb1.size; simp; omega) (Nat.le_refl _)) | (refine wpList_slL slT_u16 _ _ rfl rfl rfl rfl (hrow.below hb2) (by omega) (by simp [ints]; omega) ?_; intro u2 hu2))
        go_roundw
        case rel => exact UR_step hgr HP.out HU.out HL.out hown2 hb2 (hu2 _ hrow) hn1.1 (by rw [List.map_append, List.map_cons, List.map_nil, ferr_snoc, HQ.out, if_neg (by simpa using hq)])
        case measure => rw [(hu2 _ hrow).len]; simp [lenOf, ints]; omega
end Go.Proofs.Ytbpjgmiedplidaa
namespace Go.Proofs.Ytbpjgmiedplidaa
open Go.RowKit
set_option maxHeartbeats 400000

/-- What the loop keeps. -/
def RR (w : World) (xs : List Int) (t f i : Value) (wr : World) : Prop :=
  ∃ (ps : List (Int × Int)) (k : Nat) (q : Int), i = .int .i64 k ∧ k ≤ xs.length ∧ Hid (uread xs = ps ++ uread (xs.drop k)) ∧ Hid (ps.length ≤ k) ∧
    Own w.heap.size 21 wr t (ints .i32 (ps.map Prod.fst)) ∧ f = .int .i64 q ∧ Hid (ferr (ps.map Prod.snd) = q) ∧ Below w.heap.size w wr
theorem RR_step {w : World} {xs : List Int} {ps : List (Int × Int)} {k n : Nat} {q q' c e : Int} {t2 : Value} {w2 : World}
    (HP : Hid (uread xs = ps ++ uread (xs.drop k))) (HU : uread (xs.drop k) = (c, e) :: uread (xs.drop (k + n))) (HL : Hid (ps.length ≤ k)) (hk : k + n ≤ xs.length) (hn : 1 ≤ n)
    (hown2 : Own w.heap.size 21 w2 t2 (ints .i32 (ps.map Prod.fst) ++ ints .i32 [c])) (hb2 : Below w.heap.size w w2) (HQ : Hid (ferr (ps.map Prod.snd) = q)) (hq : q' = if q = 0 then e else q)
    {j : Int} (hj : j = ((k + n : Nat) : Int)) :
    RR w xs t2 (.int .i64 q') (.int .i64 j) w2 := by
  refine ⟨ps ++ [(c, e)], k + n, q', by rw [hj], hk, by rw [show Hid (uread xs = ps ++ [(c, e)] ++ uread (xs.drop (k + n))) = (uread xs = ps ++ [(c, e)] ++ uread (xs.drop (k + n))) from rfl, HP.out, HU]; simp, ?_,
    by rw [List.map_append, ints_append]; exact hown2, rfl, ?_, hb2⟩
  · have := HL.out
    show _ ≤ _
    simp; omega
  · show _ = _
    rw [List.map_append, List.map_cons, List.map_nil, ferr_snoc, HQ.out, hq]
theorem drop_eq {xs : List Int} {k : Nat} {x : Int} (h : xs[k]? = some x) : xs.drop k = x :: xs.drop (k + 1) := by
  obtain ⟨hk, rfl⟩ := List.getElem?_eq_some_iff.1 h
  rw [List.drop_eq_getElem_cons hk]

set_option maxRecDepth 100000 in
theorem rread_any (v : Value) (xs : List Int) (w : World) (h : Row w v (ints .u16 xs)) (hg : Rg 0 65536 xs) (hl : xs.length ≤ 1000000) :
    Calls Try.prog 78 #[v] w fun e w' => ∃ t, e = .returned (.tuple #[t, .int .i64 (ferr ((uread xs).map Prod.snd))]) ∧ Own w.heap.size 21 w' t (ints .i32 ((uread xs).map Prod.fst)) ∧ Below w.heap.size w w' := by
  obtain ⟨a, b, off, cap, rfl, HC⟩ := h.op
  clear h
  go_enter Try.func78, Try.ntmps78
  go_wp2
  go_loopw [4, 5, 6] (fun t f i wr => RR w xs t f i wr) (fun _ _ i _ => xs.length - (intOf i).toNat)
  case atStart => exact ⟨[], 0, 0, rfl, Nat.zero_le _, rfl, Nat.le_refl _, Own.nil _ _ _, rfl, rfl, Below.refl _ _⟩
  case round =>
    obtain ⟨ps, k, q, rfl, hk, HP, HL, hown, rfl, HQ, hb⟩ := hrel
    by_cases hlt : k < xs.length
    · obtain ⟨x, HX, rfl, hc⟩ := HC.out k hlt
      have HCA := Lib.hid hc; clear hc
      have hc := HCA.out wr hb
      have HD := Lib.hid (drop_eq HX.out)
      have hxr := hg.get HX.out
      by_cases hlo : loB x = true
      · have hhi := hiB_not_lo hlo
        by_cases hq : (q == 0) = true
        · go_wp2_with (first | (go_at_call 99; refine (rHigh_any _ _).mono ?_; rintro e' w1 ⟨rfl, rfl⟩) | (go_at_call 100; refine (rLow_any _ _).mono ?_; rintro e' w1 ⟨rfl, rfl⟩) | (at_builtin; refine wpList_app slT_i32 _ _ _ rfl rfl rfl rfl (hown.alloc _) (Row.ilit [_] [_] rfl (by simp)) (by have := HL.out; simp [ints] at this ⊢; omega) (by have := hb.size; simp; omega) ?_; intro t2 w2 hown2 hg2; have hb2 : Below w.heap.size w w2 := below_own (hb.alloc hb.size _) (hown.alloc _) hg2 (by have := hb.size; simp; omega) (Nat.le_refl _); have hc2 := HCA.out w2 hb2))
          go_roundw
          case rel => exact RR_step (n := 1) (e := 3) HP (by rw [HD.out, uread_lo _ hlo]) HL (by omega) (by omega) hown2 hb2 HQ (by rw [if_pos (by simpa using hq)]) (by omega)
          case measure => simp [intOf]; omega
        · replace hq : (q == 0) = false := by simpa using hq
          go_wp2_with (first | (go_at_call 99; refine (rHigh_any _ _).mono ?_; rintro e' w1 ⟨rfl, rfl⟩) | (go_at_call 100; refine (rLow_any _ _).mono ?_; rintro e' w1 ⟨rfl, rfl⟩) | (at_builtin; refine wpList_app slT_i32 _ _ _ rfl rfl rfl rfl (hown.alloc _) (Row.ilit [_] [_] rfl (by simp)) (by have := HL.out; simp [ints] at this ⊢; omega) (by have := hb.size; simp; omega) ?_; intro t2 w2 hown2 hg2; have hb2 : Below w.heap.size w w2 := below_own (hb.alloc hb.size _) (hown.alloc _) hg2 (by have := hb.size; simp; omega) (Nat.le_refl _); have hc2 := HCA.out w2 hb2))
          go_roundw
          case rel => exact RR_step (n := 1) (e := 3) HP (by rw [HD.out, uread_lo _ hlo]) HL (by omega) (by omega) hown2 hb2 HQ (by rw [if_neg (by simpa using hq)]) (by omega)
          case measure => simp [intOf]; omega
      · replace hlo : loB x = false := by simpa using hlo
        by_cases hhi : hiB x = true
        · by_cases hk1 : k + 1 < xs.length
          · obtain ⟨y, HY, _, hd⟩ := HC.out (k + 1) hk1
            have HDA := Lib.hid hd; clear hd
            have hd := HDA.out wr hb
            have HE := Lib.hid (drop_eq HY.out)
            have hyr := hg.get HY.out
            have hk1' : (k : Int) + 1 < xs.length := by omega
            by_cases hly : loB y = true
            · have h1 := hiB_iff.1 hhi
              have h2 := loB_iff.1 hly
              go_wp2_with (first | (go_at_call 99; refine (rHigh_any _ _).mono ?_; rintro e' w1 ⟨rfl, rfl⟩) | (go_at_call 100; refine (rLow_any _ _).mono ?_; rintro e' w1 ⟨rfl, rfl⟩) | (at_builtin; refine wpList_app slT_i32 _ _ _ rfl rfl rfl rfl (hown.alloc _) (Row.ilit [_] [_] rfl (by simp)) (by have := HL.out; simp [ints] at this ⊢; omega) (by have := hb.size; simp; omega) ?_; intro t2 w2 hown2 hg2; have hb2 : Below w.heap.size w w2 := below_own (hb.alloc hb.size _) (hown.alloc _) hg2 (by have := hb.size; simp; omega) (Nat.le_refl _); have hc2 := HCA.out w2 hb2))
              have hw1 : IntKind.i64.wrap ((k : Int) + 1) = k + 1 := IntWalk.i64_in _ (by omega)
              have hw2 : (0 : Int) ≤ (k : Int) + 1 := by omega
              have hw3 : ((k : Int) + 1).toNat = k + 1 := by omega
              go_region_held3 (fun w' => w'.cell? ⟨b, off + k, none⟩ = some (.int .u16 x) ∧ w'.cell? ⟨b, off + (k + 1), none⟩ = some (.int .u16 y)) (first | go_keep | exact ⟨HCA.out _ hb2, HDA.out _ hb2⟩) ((refine step_app slT_i32 _ _ _ (by rfl) (by rfl) (by rfl) (by rfl) (by first | exact hown.drew.alloc _ | exact (hown.alloc _).drew) (by first | exact Row.ilit [_] [_] rfl (by simp) | exact (Row.ilit [_] [_] rfl (by simp)).drew) (by have := HL.out; simp [ints] at this ⊢; omega) (by have := hb.size; simp; omega) ?_; intro t2 w2 hown2 hg2; have hb2 : Below w.heap.size w w2 := below_own (by first | exact hb.drew.alloc hb.size _ | exact (hb.alloc hb.size _).drew) (by first | exact hown.drew.alloc _ | exact (hown.alloc _).drew) hg2 (by have := hb.size; simp; omega) (Nat.le_refl _)))
              go_wp2
              go_roundw
              case rel => exact RR_step (n := 2) (c := 65536 + ((x - 55296) * 1024 + (y - 56320))) (e := 0) HP (by rw [HD.out, HE.out, uread_pair _ hlo hhi hly]) HL (by omega) (by omega) (by rw [show (65536 + ((x - 55296) * 1024 + (y - 56320)) : Int) = IntKind.i32.wrap (IntKind.i64.wrap (IntKind.i64.wrap (IntKind.i64.wrap (65536 + IntKind.i64.wrap (1024 * IntKind.i64.wrap (IntKind.i64.wrap x - 55296))) + IntKind.i64.wrap y) - 56320)) from by simp only [IntKind.wrap_i64, IntKind.wrap_i32]; omega]; exact hown2) hb2 HQ (by split <;> simp_all) (by omega)
              case measure => simp [intOf]; omega
            · replace hly : loB y = false := by simpa using hly
              by_cases hq : (q == 0) = true
              · go_wp2_with (first | (go_at_call 99; refine (rHigh_any _ _).mono ?_; rintro e' w1 ⟨rfl, rfl⟩) | (go_at_call 100; refine (rLow_any _ _).mono ?_; rintro e' w1 ⟨rfl, rfl⟩) | (at_builtin; refine wpList_app slT_i32 _ _ _ rfl rfl rfl rfl (hown.alloc _) (Row.ilit [_] [_] rfl (by simp)) (by have := HL.out; simp [ints] at this ⊢; omega) (by have := hb.size; simp; omega) ?_; intro t2 w2 hown2 hg2; have hb2 : Below w.heap.size w w2 := below_own (hb.alloc hb.size _) (hown.alloc _) hg2 (by have := hb.size; simp; omega) (Nat.le_refl _); have hc2 := HCA.out w2 hb2))
                go_roundw
                case rel => exact RR_step (n := 1) (e := 3) HP (by rw [HD.out, HE.out, uread_bad _ hlo hhi hly]) HL (by omega) (by omega) hown2 hb2 HQ (by rw [if_pos (by simpa using hq)]) (by omega)
                case measure => simp [intOf]; omega
              · replace hq : (q == 0) = false := by simpa using hq
                go_wp2_with (first | (go_at_call 99; refine (rHigh_any _ _).mono ?_; rintro e' w1 ⟨rfl, rfl⟩) | (go_at_call 100; refine (rLow_any _ _).mono ?_; rintro e' w1 ⟨rfl, rfl⟩) | (at_builtin; refine wpList_app slT_i32 _ _ _ rfl rfl rfl rfl (hown.alloc _) (Row.ilit [_] [_] rfl (by simp)) (by have := HL.out; simp [ints] at this ⊢; omega) (by have := hb.size; simp; omega) ?_; intro t2 w2 hown2 hg2; have hb2 : Below w.heap.size w w2 := below_own (hb.alloc hb.size _) (hown.alloc _) hg2 (by have := hb.size; simp; omega) (Nat.le_refl _); have hc2 := HCA.out w2 hb2))
                go_roundw
                case rel => exact RR_step (n := 1) (e := 3) HP (by rw [HD.out, HE.out, uread_bad _ hlo hhi hly]) HL (by omega) (by omega) hown2 hb2 HQ (by rw [if_neg (by simpa using hq)]) (by omega)
                case measure => simp [intOf]; omega
          · have hk1' : ¬ ((k : Int) + 1 < xs.length) := by omega
            have hn0 : xs.drop (k + 1) = [] := by rw [List.drop_eq_nil_iff]; omega
            have HE := Lib.hid hn0; clear hn0
            by_cases hq : (q == 0) = true
            · go_wp2_with (first | (go_at_call 99; refine (rHigh_any _ _).mono ?_; rintro e' w1 ⟨rfl, rfl⟩) | (go_at_call 100; refine (rLow_any _ _).mono ?_; rintro e' w1 ⟨rfl, rfl⟩) | (at_builtin; refine wpList_app slT_i32 _ _ _ rfl rfl rfl rfl (hown.alloc _) (Row.ilit [_] [_] rfl (by simp)) (by have := HL.out; simp [ints] at this ⊢; omega) (by have := hb.size; simp; omega) ?_; intro t2 w2 hown2 hg2; have hb2 : Below w.heap.size w w2 := below_own (hb.alloc hb.size _) (hown.alloc _) hg2 (by have := hb.size; simp; omega) (Nat.le_refl _); have hc2 := HCA.out w2 hb2))
              go_roundw
              case rel => exact RR_step (n := 1) (e := 4) HP (by rw [HD.out, HE.out, uread_end hlo hhi]) HL (by omega) (by omega) hown2 hb2 HQ (by rw [if_pos (by simpa using hq)]) (by omega)
              case measure => simp [intOf]; omega
            · replace hq : (q == 0) = false := by simpa using hq
              go_wp2_with (first | (go_at_call 99; refine (rHigh_any _ _).mono ?_; rintro e' w1 ⟨rfl, rfl⟩) | (go_at_call 100; refine (rLow_any _ _).mono ?_; rintro e' w1 ⟨rfl, rfl⟩) | (at_builtin; refine wpList_app slT_i32 _ _ _ rfl rfl rfl rfl (hown.alloc _) (Row.ilit [_] [_] rfl (by simp)) (by have := HL.out; simp [ints] at this ⊢; omega) (by have := hb.size; simp; omega) ?_; intro t2 w2 hown2 hg2; have hb2 : Below w.heap.size w w2 := below_own (hb.alloc hb.size _) (hown.alloc _) hg2 (by have := hb.size; simp; omega) (Nat.le_refl _); have hc2 := HCA.out w2 hb2))
              go_roundw
              case rel => exact RR_step (n := 1) (e := 4) HP (by rw [HD.out, HE.out, uread_end hlo hhi]) HL (by omega) (by omega) hown2 hb2 HQ (by rw [if_neg (by simpa using hq)]) (by omega)
              case measure => simp [intOf]; omega
        · replace hhi : hiB x = false := by simpa using hhi
          go_wp2_with (first | (go_at_call 99; refine (rHigh_any _ _).mono ?_; rintro e' w1 ⟨rfl, rfl⟩) | (go_at_call 100; refine (rLow_any _ _).mono ?_; rintro e' w1 ⟨rfl, rfl⟩) | (at_builtin; refine wpList_app slT_i32 _ _ _ rfl rfl rfl rfl (hown.alloc _) (Row.ilit [_] [_] rfl (by simp)) (by have := HL.out; simp [ints] at this ⊢; omega) (by have := hb.size; simp; omega) ?_; intro t2 w2 hown2 hg2; have hb2 : Below w.heap.size w w2 := below_own (hb.alloc hb.size _) (hown.alloc _) hg2 (by have := hb.size; simp; omega) (Nat.le_refl _); have hc2 := HCA.out w2 hb2))
          go_roundw
          case rel => exact RR_step (n := 1) (e := 0) HP (by rw [HD.out, uread_bmp _ hlo hhi]) HL (by omega) (by omega) hown2 hb2 HQ (by split <;> simp_all) (by omega)
          case measure => simp [intOf]; omega
    · have hk0 : xs.drop k = [] := by rw [List.drop_eq_nil_iff]; omega
      have HE := Lib.hid hk0; clear hk0
      go_wp2
      go_ret2
      have hpp : uread xs = ps := by rw [HP.out, HE.out, uread_nil, List.append_nil]
      exact ⟨_, ret2 rfl (iv (by rw [hpp, HQ.out])), by rw [hpp]; exact hown, hb⟩
end Go.Proofs.Ytbpjgmiedplidaa
namespace Go.Proofs.Ytbpjgmiedplidaa
open Go.RowKit
set_option maxHeartbeats 400000

/-- int32. -/
def R32 (xs : List Int) : Prop := ∀ x ∈ xs, -2147483648 ≤ x ∧ x ≤ 2147483647
theorem R32.get {xs : List Int} (h : R32 xs) {i : Nat} {x : Int} (hx : xs[i]? = some x) : -2147483648 ≤ x ∧ x ≤ 2147483647 := h x (List.mem_of_getElem? hx)

/-- A call of f enters f. -/
def Fnc (f : Nat) : Prop := ∀ args w, Sem.run Try.prog (callFunc f args) w = .ok (.enter f args) w
theorem indexFunc_any (f : Nat) (hf : Fnc f) (p : Int → Bool) (hp : Hid (∀ c w, -2147483648 ≤ c → c ≤ 2147483647 → Calls Try.prog f #[.int .i32 c] w fun e w' => e = .returned (.bool (p c)) ∧ w = w'))
    (v : Value) (xs : List Int) (w : World) (h : Row w v (ints .i32 xs)) (hr : R32 xs) (hl : xs.length ≤ 1000000000) :
    Calls Try.prog 81 #[v, .func (Fn.func f) #[] #[]] w fun e w' => e = .returned (.int .i64 (idx p xs)) ∧ w = w' := by
  obtain ⟨a, b, off, cap, rfl, HC⟩ := h.op
  clear h
  unfold Fnc at hf
  go_enter Try.func81, Try.ntmps81
  go_wp2
  go_loop [8] (fun i => ∃ k : Nat, k ≤ xs.length ∧ i = .int .i64 k ∧ Hid (∀ y ∈ xs.take k, p y = false)) (fun i => xs.length - (intOf i).toNat)
  case atStart => exact ⟨0, Nat.zero_le _, rfl, fun y hy => by simp at hy⟩
  case round =>
    obtain ⟨k, hk, rfl, hall⟩ := hrel
    by_cases hlt : k < xs.length
    · obtain ⟨x, HX, rfl, hc⟩ := HC.out k hlt
      replace hc := hc w (Below.refl _ _)
      have hxr := hr.get HX.out
      by_cases hs : p x = true
      · go_wp2_with (refine (hp.out _ _ hxr.1 hxr.2).mono ?_; rintro e w' ⟨rfl, rfl⟩)
        go_ret
        exact ⟨ret_int (by rw [idx_at hall.out HX.out hs]), rfl⟩
      · replace hs : p x = false := by simpa using hs
        go_wp2_with (refine (hp.out _ _ hxr.1 hxr.2).mono ?_; rintro e w' ⟨rfl, rfl⟩)
        go_round
        case rel => exact ⟨k + 1, by omega, by go_num, take_succ_all hall.out HX.out hs⟩
        case measure => simp [intOf]; omega
    · go_wp2
      go_ret
      exact ⟨ret_int (by rw [idx_none (fun y hy => hall.out y (by rw [List.take_of_length_le (by omega)]; exact hy))]), rfl⟩

theorem first1_fnc : Fnc 82 := fun args w => by kernel_rfl
theorem first1_any (c : Int) (w : World) (h1 : -2147483648 ≤ c) (h2 : c ≤ 2147483647) :
    Calls Try.prog 82 #[.int .i32 c] w fun e w' => e = .returned (.bool (!scB c)) ∧ w = w' := by
  go_enter Try.func82, Try.ntmps82
  go_wp2_with (go_at_call 83; refine (is_any _ _ h1 h2).mono ?_; rintro e w' ⟨rfl, rfl⟩)
  go_ret
  exact ⟨rfl, rfl⟩
theorem first_any (v : Value) (xs : List Int) (w : World) (h : Row w v (ints .i32 xs)) (hr : R32 xs) (hl : xs.length ≤ 1000000000) :
    Calls Try.prog 58 #[v] w fun e w' => e = .returned (.int .i64 (idx (fun c => !scB c) xs)) ∧ w = w' := by
  go_enter Try.func58, Try.ntmps58
  go_wp2_with (go_at_call 81; refine (indexFunc_any _ first1_fnc _ (fun c w h1 h2 => first1_any c w h1 h2) _ _ _ h hr hl).mono ?_; rintro e w' ⟨rfl, rfl⟩)
  go_ret
  exact ⟨rfl, rfl⟩
/-- All scalar values. -/
def allSc (xs : List Int) : Bool := xs.all scB
theorem idx_allSc (xs : List Int) : (idx (fun c => !scB c) xs == -1) = allSc xs := by
  by_cases h : allSc xs = true
  · rw [idx_none (fun y hy => by simp [List.all_eq_true.1 h y hy]), h]; rfl
  · have hf : allSc xs = false := by simpa using h
    obtain ⟨y, hy, hny⟩ := List.all_eq_false.1 hf
    have : ∃ i, xs.findIdx? (fun c => !scB c) = some i := by
      cases hc : xs.findIdx? (fun c => !scB c) with
      | some i => exact ⟨i, rfl⟩
      | none => rw [List.findIdx?_eq_none_iff] at hc; have := hc y hy; simp at this; exact absurd this hny
    obtain ⟨i, hi⟩ := this
    rw [hf, idx, hi]
    simp
theorem right_any (v : Value) (xs : List Int) (w : World) (h : Row w v (ints .i32 xs)) (hr : R32 xs) (hl : xs.length ≤ 1000000000) :
    Calls Try.prog 34 #[v] w fun e w' => e = .returned (.bool (allSc xs)) ∧ w = w' := by
  go_enter Try.func34, Try.ntmps34
  go_wp2_with (go_at_call 58; refine (first_any _ _ _ h hr hl).mono ?_; rintro e w' ⟨rfl, rfl⟩)
  go_ret
  exact ⟨ret_bool (idx_allSc xs), rfl⟩

theorem idx_neg (xs : List Int) (p : Int → Bool) : -1 ≤ idx p xs := by unfold idx; split <;> omega
theorem allSc_idx {xs : List Int} : allSc xs = decide (idx (fun c => !scB c) xs < 0) := by
  rw [← idx_allSc]; have := idx_neg xs (fun c => !scB c)
  rw [Bool.eq_iff_iff, beq_iff_eq, decide_eq_true_iff]; omega

theorem scB_32 {xs : List Int} (h : allSc xs = true) : R32 xs := fun x hx => by
  have := scB_iff.1 (List.all_eq_true.1 h x hx); omega
theorem idx_none_sc {xs : List Int} (h : allSc xs = true) : idx (fun c => !scB c) xs = -1 := idx_none (fun y hy => by simp [List.all_eq_true.1 h y hy])

theorem WF.u16 {xs : List Int} (h : WF .u16 xs) : Rg 0 65536 xs := fun x hx => wf_u16 (h x hx)
theorem WF.u8 {xs : List Int} (h : WF .u8 xs) : Rg 0 256 xs := fun x hx => wf_u8 (h x hx)
theorem WF.i32 {xs : List Int} (h : WF .i32 xs) : R32 xs := fun x hx => wf_i32 (h x hx)
theorem WF.b {xs : List Int} (h : WF .u8 xs) : Rg 0 256 xs := fun x hx => wf_u8 (h x hx)
theorem WF.get {k : IntKind} {xs : List Int} (h : WF k xs) {i : Nat} {x : Int} (hx : xs[i]? = some x) : (Lit.int k x).wf = true := h x (List.mem_of_getElem? hx)
end Go.Proofs.Ytbpjgmiedplidaa
namespace Go.Proofs.Ytbpjgmiedplidaa
open Go.RowKit
set_option maxHeartbeats 400000

theorem uRead_any (v : Value) (xs : List Int) (w : World) (h : Row w v (ints .u16 xs)) (hg : Rg 0 65536 xs) (hl : xs.length ≤ 1000000) :
    Calls Try.prog 95 #[v] w fun e w' => ∃ t, e = .returned t ∧ Own w.heap.size 21 w' t (ints .i32 ((uread xs).map Prod.fst)) ∧ Below w.heap.size w w' := by
  go_enter Try.func95, Try.ntmps95
  go_wp2_with (go_at_call 105; refine (uread_any _ _ _ h hg hl).mono ?_; rintro e w' ⟨t, rfl, ho, hb⟩)
  go_ret
  exact ⟨_, rfl, ho, hb⟩
theorem uRight_any (v : Value) (xs : List Int) (w : World) (h : Row w v (ints .u16 xs)) (hg : Rg 0 65536 xs) (hl : xs.length ≤ 1000000) :
    Calls Try.prog 96 #[v] w fun e w' => e = .returned (.bool (ferr ((uread xs).map Prod.snd) == 0)) ∧ Below w.heap.size w w' := by
  go_enter Try.func96, Try.ntmps96
  go_wp2_with (go_at_call 105; refine (uread_any _ _ _ h hg hl).mono ?_; rintro e w' ⟨t, rfl, ho, hb⟩)
  go_ret
  exact ⟨rfl, hb⟩
/-- The units of a text. -/
def ulayL (xs : List Int) : List Int := xs.flatMap uof
theorem uof_len (c : Int) : (uof c).length ≤ 2 := by unfold uof; split <;> (try split) <;> simp
theorem ulayL_snoc {xs : List Int} {k : Nat} {x : Int} (h : xs[k]? = some x) : ulayL (xs.take (k + 1)) = ulayL (xs.take k) ++ uof x := by
  simp [ulayL, List.take_add_one, h]
theorem ulayL_len (xs : List Int) : (ulayL xs).length ≤ 2 * xs.length := by
  induction xs with
  | nil => simp [ulayL]
  | cons x xs ih => have := uof_len x; simp only [ulayL, List.flatMap_cons, List.length_append, List.length_cons] at ih ⊢; omega
end Go.Proofs.Ytbpjgmiedplidaa
namespace Go.Proofs.Ytbpjgmiedplidaa
open Go.RowKit
set_option maxHeartbeats 400000
set_option maxRecDepth 100000 in
theorem like1_any (v1 v2 : Value) (xs ys : List Int) (w : World) (h1 : Row w v1 (ints .u8 xs)) (h2 : Row w v2 (ints .u8 ys)) (hl : xs.length ≤ 1000000000) (hl' : ys.length ≤ 1000000000) :
    Calls Try.prog 14 #[v1, v2] w fun e w' => e = .returned (.bool (decide (xs = ys))) ∧ Below w.heap.size w w' := by
  obtain ⟨a1, b1, o1, c1, rfl, HC1⟩ := h1.op
  obtain ⟨a2, b2, o2, c2, rfl, HC2⟩ := h2.op
  clear h1 h2
  by_cases hn : xs.length = ys.length
  · have hne : ((xs.length : Int) != (ys.length : Int)) = false := by simp [hn]
    have HN := Lib.hid hn; clear hn
    go_enter Try.func14, Try.ntmps14
    go_wp2
    clear hne
    go_loopw [5] (fun i wr => ∃ k : Nat, k ≤ xs.length ∧ i = .int .i64 k ∧ Hid (xs.take k = ys.take k) ∧ Below w.heap.size w wr) (fun i _ => xs.length - (intOf i).toNat)
    case atStart => exact ⟨0, Nat.zero_le _, rfl, rfl, Below.refl _ _⟩
    case round =>
      obtain ⟨k, hk, rfl, HT, hb⟩ := hrel
      by_cases hlt : k < xs.length
      · have hlt2 : k < ys.length := by have := HN.out; omega
        obtain ⟨x, HX, rfl, hc⟩ := HC1.out k hlt
        obtain ⟨y, HY, rfl, hd⟩ := HC2.out k hlt2
        replace hc := hc wr hb
        replace hd := hd wr hb
        by_cases hxy : x = y
        · subst hxy
          go_wp2_with fail
          go_quiet (fail)
          go_wp2
          go_roundw
          case rel => exact ⟨k + 1, by omega, by go_num, (by rw [List.take_add_one, List.take_add_one, HX.out, HY.out, HT.out] : xs.take (k + 1) = ys.take (k + 1)), below_drewN hb _⟩
          case measure => simp [intOf]; omega
        · have hne : (x != y) = true := by simpa using hxy
          go_wp2_with fail
          go_quiet (fail)
          go_wp2
          go_ret
          refine ⟨ret_bool (decide_eq_false ?_).symm, below_drewN hb _⟩
          intro he
          subst he
          exact hxy (Option.some.inj (HX.out.symm.trans HY.out))
      · go_wp2
        go_ret
        refine ⟨ret_bool (decide_eq_true ?_).symm, hb⟩
        have := HT.out
        rwa [List.take_of_length_le (by omega), List.take_of_length_le (by have := HN.out; omega)] at this
  · have hne : ((xs.length : Int) != (ys.length : Int)) = true := by rw [bne_iff_ne]; omega
    have HN := Lib.hid hn; clear hn
    go_enter Try.func14, Try.ntmps14
    go_wp2
    go_ret
    exact ⟨ret_bool (decide_eq_false (fun h => HN.out (by rw [h]))).symm, Below.refl _ _⟩
set_option maxRecDepth 100000 in
theorem like3_any (v1 v2 : Value) (xs ys : List Int) (w : World) (h1 : Row w v1 (ints .i32 xs)) (h2 : Row w v2 (ints .i32 ys)) (hl : xs.length ≤ 1000000000) (hl' : ys.length ≤ 1000000000) :
    Calls Try.prog 22 #[v1, v2] w fun e w' => e = .returned (.bool (decide (xs = ys))) ∧ Below w.heap.size w w' := by
  obtain ⟨a1, b1, o1, c1, rfl, HC1⟩ := h1.op
  obtain ⟨a2, b2, o2, c2, rfl, HC2⟩ := h2.op
  clear h1 h2
  by_cases hn : xs.length = ys.length
  · have hne : ((xs.length : Int) != (ys.length : Int)) = false := by simp [hn]
    have HN := Lib.hid hn; clear hn
    go_enter Try.func22, Try.ntmps22
    go_wp2
    clear hne
    go_loopw [5] (fun i wr => ∃ k : Nat, k ≤ xs.length ∧ i = .int .i64 k ∧ Hid (xs.take k = ys.take k) ∧ Below w.heap.size w wr) (fun i _ => xs.length - (intOf i).toNat)
    case atStart => exact ⟨0, Nat.zero_le _, rfl, rfl, Below.refl _ _⟩
    case round =>
      obtain ⟨k, hk, rfl, HT, hb⟩ := hrel
      by_cases hlt : k < xs.length
      · have hlt2 : k < ys.length := by have := HN.out; omega
        obtain ⟨x, HX, rfl, hc⟩ := HC1.out k hlt
        obtain ⟨y, HY, rfl, hd⟩ := HC2.out k hlt2
        replace hc := hc wr hb
        replace hd := hd wr hb
        by_cases hxy : x = y
        · subst hxy
          go_wp2_with fail
          go_quiet (fail)
          go_wp2
          go_roundw
          case rel => exact ⟨k + 1, by omega, by go_num, (by rw [List.take_add_one, List.take_add_one, HX.out, HY.out, HT.out] : xs.take (k + 1) = ys.take (k + 1)), below_drewN hb _⟩
          case measure => simp [intOf]; omega
        · have hne : (x != y) = true := by simpa using hxy
          go_wp2_with fail
          go_quiet (fail)
          go_wp2
          go_ret
          refine ⟨ret_bool (decide_eq_false ?_).symm, below_drewN hb _⟩
          intro he
          subst he
          exact hxy (Option.some.inj (HX.out.symm.trans HY.out))
      · go_wp2
        go_ret
        refine ⟨ret_bool (decide_eq_true ?_).symm, hb⟩
        have := HT.out
        rwa [List.take_of_length_le (by omega), List.take_of_length_le (by have := HN.out; omega)] at this
  · have hne : ((xs.length : Int) != (ys.length : Int)) = true := by rw [bne_iff_ne]; omega
    have HN := Lib.hid hn; clear hn
    go_enter Try.func22, Try.ntmps22
    go_wp2
    go_ret
    exact ⟨ret_bool (decide_eq_false (fun h => HN.out (by rw [h]))).symm, Below.refl _ _⟩
end Go.Proofs.Ytbpjgmiedplidaa
