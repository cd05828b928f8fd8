/- Walks: UTF-16, octets. -/
import Derived.Test.YtgfdebijcpdhbaaW5
namespace Go.Proofs.Ytgfdebijcpdhbaa
open Go.RowKit
set_option maxHeartbeats 400000

/-- The octets of units. -/
def uoct (xs : List Int) : List Int := xs.flatMap fun u => [u / 256, u % 256]
theorem uoct_snoc {xs : List Int} {k : Nat} {x : Int} (h : xs[k]? = some x) : uoct (xs.take (k + 1)) = uoct (xs.take k) ++ [x / 256, x % 256] := by
  simp [uoct, List.take_add_one, h]
theorem uoct_len (xs : List Int) : (uoct xs).length = 2 * xs.length := by
  induction xs with
  | nil => simp [uoct]
  | cons x xs ih => simp only [uoct, List.flatMap_cons, List.length_append, List.length_cons, List.length_nil] at ih ⊢; omega
/-- The units of octets. -/
def fromO : List Int → List Int
  | x :: y :: r => (256 * x + y) :: fromO r
  | _ => []
theorem fromO_snoc {k : Nat} : ∀ {xs : List Int} {x y : Int}, xs[2 * k]? = some x → xs[2 * k + 1]? = some y → fromO (xs.take (2 * k + 2)) = fromO (xs.take (2 * k)) ++ [256 * x + y] := by
  induction k with
  | zero =>
    intro xs x y hx hy
    match xs, hx, hy with
    | a :: b :: r, hx, hy => simp at hx hy; subst hx hy; simp [fromO]
    | [a], hx, hy => simp at hy
    | [], hx, hy => simp at hx
  | succ k ih =>
    intro xs x y hx hy
    match xs, hx, hy with
    | a :: b :: r, hx, hy =>
      have e1 : 2 * (k + 1) = (2 * k) + 1 + 1 := by omega
      have e2 : 2 * (k + 1) + 2 = (2 * k + 2) + 1 + 1 := by omega
      have e3 : 2 * (k + 1) + 1 = (2 * k + 1) + 1 + 1 := by omega
      rw [e1, List.getElem?_cons_succ, List.getElem?_cons_succ] at hx
      rw [e3, List.getElem?_cons_succ, List.getElem?_cons_succ] at hy
      rw [e2, e1, List.take_succ_cons, List.take_succ_cons, List.take_succ_cons, List.take_succ_cons]
      simp only [fromO, ih hx hy, List.cons_append]
    | [a], hx, hy => rw [show 2 * (k + 1) + 1 = (2 * k + 2) + 1 by omega] at hy; simp at hy
    | [], hx, hy => simp at hx
theorem fromO_len (n : Nat) : ∀ xs : List Int, xs.length ≤ n → 2 * (fromO xs).length ≤ xs.length := by
  induction n with
  | zero => intro xs h; obtain rfl : xs = [] := List.eq_nil_of_length_eq_zero (by omega); simp [fromO]
  | succ n ih =>
    intro xs h
    match xs, h with
    | a :: b :: r, h => have := ih r (by simp at h; omega); simp [fromO]; omega
    | [a], h => simp [fromO]
    | [], h => simp [fromO]
def fromR (xs : List Int) : List Int × Int := if xs.length % 2 = 0 then (fromO xs, 0) else ([], 4)

theorem rOctets_any (v : Value) (xs : List Int) (w : World) (h : Row w v (ints .u16 xs)) (hg : Rg 0 65536 xs) (hl : xs.length ≤ 1000000) :
    Calls Try.prog 28 #[v] w fun e w' => ∃ t, e = .returned t ∧ Own w.heap.size 5 w' t (ints .u8 (uoct xs)) ∧ Below w.heap.size w w' := by
  obtain ⟨a, b, off, cap, rfl, HC⟩ := h.op
  clear h
  go_enter Try.func28, Try.ntmps28
  go_wp2
  go_loopw [3, 4] (fun u i wr => ∃ k : Nat, i = .int .i64 k ∧ k ≤ xs.length ∧ Own w.heap.size 5 wr u (ints .u8 (uoct (xs.take k))) ∧ Below w.heap.size w wr) (fun _ i _ => xs.length - (intOf i).toNat)
  case atStart => exact ⟨0, rfl, Nat.zero_le _, Own.nil _ _ _, Below.refl _ _⟩
  case round =>
    obtain ⟨k, rfl, hk, hown, hb⟩ := hrel
    by_cases hlt : k < xs.length
    · obtain ⟨x, HX, rfl, hc⟩ := HC.out k hlt
      have HCA := Lib.hid hc
      replace hc := hc wr hb
      have hxr := hg.get HX.out
      have HU := Lib.hid (uoct_snoc HX.out)
      have HLb : Hid ((ints .u8 (uoct (xs.take k))).length + (ints .u8 [x / 256, x % 256]).length ≤ 1000000000) := by
        have h1 := uoct_len (xs.take k); rw [List.length_take] at h1; show _ ≤ _; simp only [ints_length, List.length_cons, List.length_nil]; omega
      have hi1 : (0 : Int) ≤ (k : Int) := by omega
      have hi2 : (k : Int) < (xs.length : Int) := by omega
      have hq1 : IntKind.u16.wrap (x.tdiv 256) = x / 256 := by rw [IntWalk.u16_in _ (by rw [Int.tdiv_eq_ediv_of_nonneg hxr.1]; omega), Int.tdiv_eq_ediv_of_nonneg hxr.1]
      have hq2 : IntKind.u8.wrap (x / 256) = x / 256 := IntWalk.u8_in _ (by omega)
      have hq3 : x.tmod 256 = x % 256 := Int.tmod_eq_emod_of_nonneg hxr.1
      have hq4 : IntKind.u8.wrap (x % 256) = x % 256 := IntWalk.u8_in _ (by omega)
      go_wp2_with fail
      go_region_held3 (fun w' => w'.cell? ⟨b, off + k, none⟩ = some (.int .u16 x)) (first | go_keep | exact (HCA.out _ hb2)) ((refine step_app slT_u8 _ _ _ (by rfl) (by rfl) (by rfl) (by rfl) (by first | exact hown.drew.alloc _ | exact (hown.alloc _).drew) (by first | exact Row.ilit [x / 256, x % 256] [_, _] rfl (by simp) | exact (Row.ilit [x / 256, x % 256] [_, _] rfl (by simp)).drew) HLb.out (by have := hb.size; simp; omega) ?_; intro t2 w2 hown2 hg2; have hb2 : Below w.heap.size w w2 := below_own (by first | exact hb.drew.alloc hb.size _ | exact (hb.alloc hb.size _).drew) (by first | exact hown.drew.alloc _ | exact (hown.alloc _).drew) hg2 (by have := hb.size; simp; omega) (Nat.le_refl _)))
      go_wp2
      go_roundw
      case rel => exact ⟨k + 1, by go_num, by omega, by rw [HU.out, ints_append]; exact hown2, hb2⟩
      case measure => simp [intOf]; omega
    · go_wp2
      go_ret
      rw [List.take_of_length_le (by omega)] at hown
      exact ⟨_, rfl, hown, hb⟩

theorem fromR_odd {xs : List Int} (h : ¬ xs.length % 2 = 0) : fromR xs = ([], 4) := by rw [fromR, if_neg h]
theorem fromR_even {xs : List Int} (h : xs.length % 2 = 0) : fromR xs = (fromO xs, 0) := by rw [fromR, if_pos h]
theorem rFrom_any (v : Value) (xs : List Int) (w : World) (h : Row w v (ints .u8 xs)) (hg : Rg 0 256 xs) (hl : xs.length ≤ 1000000) :
    Calls Try.prog 29 #[v] w fun e w' => ∃ t, e = .returned (.tuple #[t, .int .i64 (fromR xs).2]) ∧ Own w.heap.size 66 w' t (ints .u16 (fromR xs).1) ∧ Below w.heap.size w w' := by
  obtain ⟨a, b, off, cap, rfl, HC⟩ := h.op
  clear h
  by_cases ho : xs.length % 2 = 0
  · rw [fromR_even ho]
    obtain ⟨n, hn⟩ : ∃ n, xs.length = 2 * n := ⟨xs.length / 2, by omega⟩
    have HN := Lib.hid hn
    have hnb : n ≤ 1000000 := by omega
    have ho' : ((xs.length : Int) % 2 != 0) = false := by rw [bne_eq_false_iff_eq]; omega
    clear hn ho
    go_enter Try.func29, Try.ntmps29
    go_wp2
    clear ho'
    go_loopw [4, 5] (fun u i wr => ∃ k : Nat, i = .int .i64 ((2 * k : Nat) : Int) ∧ k ≤ n ∧ Own w.heap.size 66 wr u (ints .u16 (fromO (xs.take (2 * k)))) ∧ Below w.heap.size w wr) (fun _ i _ => 2 * n - (intOf i).toNat)
    case atStart => exact ⟨0, rfl, Nat.zero_le _, Own.nil _ _ _, Below.refl _ _⟩
    case round =>
      obtain ⟨k, rfl, hk, hown, hb⟩ := hrel
      have HE : Hid (((2 * k : Nat) : Int) = 2 * (k : Int)) := by show _ = _; omega
      rw [HE.out]
      by_cases hlt : k < n
      · obtain ⟨x, HX, rfl, hc⟩ := HC.out (2 * k) (by have := HN.out; omega)
        obtain ⟨y, HY, _, hd⟩ := HC.out (2 * k + 1) (by have := HN.out; omega)
        have HCA := Lib.hid hc
        have HDA := Lib.hid hd
        replace hc := hc wr hb
        replace hd := hd wr hb
        have hxr := hg.get HX.out
        have hyr := hg.get HY.out
        have HU := Lib.hid (fromO_snoc HX.out HY.out)
        have HLb : Hid ((ints .u16 (fromO (xs.take (2 * k)))).length + (ints .u16 [256 * x + y]).length ≤ 1000000000) := by
          have h1 := fromO_len _ (xs.take (2 * k)) (Nat.le_refl _); rw [List.length_take] at h1; show _ ≤ _; simp only [ints_length, List.length_cons, List.length_nil]; omega
        have hi1 : (0 : Int) ≤ 2 * (k : Int) := by omega
        have hi2 : 2 * (k : Int) < (xs.length : Int) := by have := HN.out; omega
        have hi3 : (2 * (k : Int)).toNat = 2 * k := by omega
        have hj0 : IntKind.i64.wrap (2 * (k : Int) + 1) = 2 * k + 1 := IntWalk.i64_in _ (by omega)
        have hj1 : (0 : Int) ≤ 2 * (k : Int) + 1 := by omega
        have hj2 : 2 * (k : Int) + 1 < (xs.length : Int) := by have := HN.out; omega
        have hj3 : (2 * (k : Int) + 1).toNat = 2 * k + 1 := by omega
        have hq1 : IntKind.u16.wrap x = x := IntWalk.u16_in _ (by omega)
        have hq2 : IntKind.u16.wrap y = y := IntWalk.u16_in _ (by omega)
        have hq4 : IntKind.u16.wrap (256 * x) = 256 * x := IntWalk.u16_in _ (by omega)
        have hq3 : IntKind.u16.wrap (256 * x + y) = 256 * x + y := IntWalk.u16_in _ (by omega)
        go_wp2_with fail
        go_region_held3 (fun w' => w'.cell? ⟨b, off + 2 * k, none⟩ = some (.int .u8 x) ∧ w'.cell? ⟨b, off + (2 * k + 1), none⟩ = some (.int .u8 y)) (first | go_keep | exact ⟨HCA.out _ hb2, HDA.out _ hb2⟩) ((refine step_app slT_u16 _ _ _ (by rfl) (by rfl) (by rfl) (by rfl) (by first | exact hown.drew.alloc _ | exact (hown.alloc _).drew) (by first | exact Row.ilit [256 * x + y] [_] rfl (by simp) | exact (Row.ilit [256 * x + y] [_] rfl (by simp)).drew) HLb.out (by have := hb.size; simp; omega) ?_; intro t2 w2 hown2 hg2; have hb2 : Below w.heap.size w w2 := below_own (by first | exact hb.drew.alloc hb.size _ | exact (hb.alloc hb.size _).drew) (by first | exact hown.drew.alloc _ | exact (hown.alloc _).drew) hg2 (by have := hb.size; simp; omega) (Nat.le_refl _)))
        clear hi1 hi2 hi3 hj0 hj1 hj2 hj3 hq1 hq2 hq3 hq4
        go_wp2
        go_roundw
        case rel => exact ⟨k + 1, by rw [show ((2 * (k + 1) : Nat) : Int) = 2 * (k : Int) + 2 by omega], by omega, by rw [show 2 * (k + 1) = 2 * k + 2 by omega, HU.out, ints_append]; exact hown2, hb2⟩
        case measure => simp [intOf]; omega
      · have hge : ¬ (2 * (k : Int) + 1 < (xs.length : Int)) := by have := HN.out; omega
        go_wp2
        go_ret2
        rw [List.take_of_length_le (by have := HN.out; omega)] at hown
        exact ⟨_, rfl, hown, hb⟩
  · rw [fromR_odd ho]
    have ho' : ((xs.length : Int) % 2 != 0) = true := by rw [bne_iff_ne]; omega
    clear ho
    go_enter Try.func29, Try.ntmps29
    go_wp2
    go_ret2
    exact ⟨_, rfl, Own.nil _ _ _, Below.refl _ _⟩
end Go.Proofs.Ytgfdebijcpdhbaa
