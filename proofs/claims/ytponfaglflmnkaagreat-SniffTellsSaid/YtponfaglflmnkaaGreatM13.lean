/- Walks: UTF-16. · Walks: UTF-16, the reading of units. · Walks: UTF-16, the reference's reading. · Walks: the first that is no scalar value; UTF-16, laying. · Walks: UTF-16, laying; octets. · Walks: UTF-16, octets. · Plain laws: UTF-16, laid and read. · Plain: wide texts. (laid together by program out of single texts). -/
import Derived.StillTailTactics
import Derived.Test.YtponfaglflmnkaaGreatM2
import Derived.Test.YtponfaglflmnkaaGreatM4
import Derived.Test.YtponfaglflmnkaaGreatM12
namespace Go.Proofs.YtponfaglflmnkaaGreat
open Go.RowKit
set_option maxHeartbeats 400000

theorem uhigh_any (u : Int) (w : World) (h0 : 0 ≤ u) (h1 : u < 65536) :
    Calls Tryz.prog 145 #[.int .u16 u] w fun e w' => e = .returned (.bool (hiB u)) ∧ w = w' := by
  go_enter Tryz.func145, Tryz.ntmps145
  go_wp2
  go_ret
  exact ⟨ret_bool (by rw [u16_and_fc00 u h0 h1, Bool.eq_iff_iff, hiB_iff, beq_iff_eq]; omega), rfl⟩
theorem ulow_any (u : Int) (w : World) (h0 : 0 ≤ u) (h1 : u < 65536) :
    Calls Tryz.prog 144 #[.int .u16 u] w fun e w' => e = .returned (.bool (loB u)) ∧ w = w' := by
  go_enter Tryz.func144, Tryz.ntmps144
  go_wp2
  go_ret
  exact ⟨ret_bool (by rw [u16_and_fc00 u h0 h1, Bool.eq_iff_iff, loB_iff, beq_iff_eq]; omega), rfl⟩
theorem uLow_any (u : Int) (w : World) (h0 : 0 ≤ u) (h1 : u < 65536) :
    Calls Tryz.prog 146 #[.int .u16 u] w fun e w' => e = .returned (.bool (loB u)) ∧ w = w' := by
  go_enter Tryz.func146, Tryz.ntmps146
  go_wp2_with (go_at_call 144; refine (ulow_any _ _ h0 h1).mono ?_; rintro e w' ⟨rfl, rfl⟩)
  go_ret
  exact ⟨rfl, rfl⟩
theorem rHigh_any (u : Int) (w : World) :
    Calls Tryz.prog 103 #[.int .u16 u] w fun e w' => e = .returned (.bool (hiB u)) ∧ w = w' := by
  go_enter Tryz.func103, Tryz.ntmps103
  go_wp2
  all_goals (go_ret; exact ⟨ret_bool (by rw [Bool.eq_iff_iff]; simp [hiB]; try omega), rfl⟩)
theorem rLow_any (u : Int) (w : World) :
    Calls Tryz.prog 104 #[.int .u16 u] w fun e w' => e = .returned (.bool (loB u)) ∧ w = w' := by
  go_enter Tryz.func104, Tryz.ntmps104
  go_wp2
  all_goals (go_ret; exact ⟨ret_bool (by rw [Bool.eq_iff_iff]; simp [loB]; try omega), rfl⟩)

theorem uof_any (c : Int) (w : World) (h0 : -2147483648 ≤ c) (h1 : c ≤ 2147483647) :
    Calls Tryz.prog 112 #[.int .i32 c] w fun e w' => ∃ v, e = .returned v ∧ Own w.heap.size 101 w' v (ints .u16 (uof c)) ∧ Below w.heap.size w w' := by
  by_cases hs : scB c = true
  · have hb := scB_iff.1 hs
    by_cases hc : c < 65536
    · go_enter Tryz.func112, Tryz.ntmps112
      go_wp2_with (go_at_call 122; refine (is_any _ _ (by omega) (by omega)).mono ?_; rintro e w' ⟨rfl, rfl⟩)
      go_ret
      exact ⟨_, rfl, Own.ilit _ [_] (by simp [uof, hs, hc, ints]) (Nat.le_refl _) (by simp), below_alloc _ _⟩
    · go_enter Tryz.func112, Tryz.ntmps112
      go_wp2_with (go_at_call 122; refine (is_any _ _ (by omega) (by omega)).mono ?_; rintro e w' ⟨rfl, rfl⟩)
      go_ret
      refine ⟨_, rfl, Own.ilit _ [_, _] ?_ (Nat.le_refl _) (by simp), below_alloc _ _⟩
      rw [i32_join10 55296 _ (by omega) (by omega) (by omega) (by omega) (by omega), i32_mask10 _ (by omega) (by omega), i32_join10 56320 _ (by omega) (by omega) (by omega) (by omega) (by omega),
        IntWalk.u16_in _ (by omega), IntWalk.u16_in _ (by omega)]
      simp only [uof, hs, if_true, if_neg (by omega : ¬ c < 65536)]
      rfl
  · have hs' : scB c = false := by simpa using hs
    clear hs
    go_enter Tryz.func112, Tryz.ntmps112
    go_wp2_with (go_at_call 122; refine (is_any _ _ (by omega) (by omega)).mono ?_; rintro e w' ⟨rfl, rfl⟩)
    go_ret
    exact ⟨_, rfl, by rw [uof, hs']; exact Own.nil _ _ _, Below.refl _ _⟩
theorem uone_any (v : Value) (x : Int) (r : List Int) (w : World) (h : Row w v (ints .u16 (x :: r))) (hg : Rg 0 65536 (x :: r)) (hl : (x :: r).length ≤ 1000000000) :
    Calls Tryz.prog 142 #[v] w fun e w' => e = .returned (.tuple #[.int .i32 (uone x r).1, .int .i64 (uone x r).2.1, .int .i64 (uone x r).2.2]) ∧ Below w.heap.size w w' := by
  obtain ⟨a, b, off, cap, rfl, HC⟩ := h.op
  obtain ⟨⟨hx0, hx1⟩, hg'⟩ := hg.cons
  obtain ⟨x', HX, rfl, hc⟩ := HC.out 0 (by simp)
  obtain rfl : x = x' := by simpa using HX.out
  replace hc : w.cell? ⟨b, off, none⟩ = some (.int .u16 x) := by simpa using hc w (Below.refl _ _)
  by_cases hlo : loB x = true
  · go_enter Tryz.func142, Tryz.ntmps142
    go_wp2_with (first | (go_at_call 144; refine (ulow_any _ _ hx0 hx1).mono ?_; rintro e w' ⟨rfl, rfl⟩) | (go_at_call 145; refine (uhigh_any _ _ hx0 hx1).mono ?_; rintro e w' ⟨rfl, rfl⟩))
    go_ret3
    exact ⟨by simp [uone, hlo], Below.refl _ _⟩
  · have hlo' : loB x = false := by simpa using hlo
    clear hlo
    by_cases hhi : hiB x = true
    · cases r with
      | nil =>
        go_enter Tryz.func142, Tryz.ntmps142
        go_wp2_with (first | (go_at_call 144; refine (ulow_any _ _ hx0 hx1).mono ?_; rintro e w' ⟨rfl, rfl⟩) | (go_at_call 145; refine (uhigh_any _ _ hx0 hx1).mono ?_; rintro e w' ⟨rfl, rfl⟩))
        go_ret3
        exact ⟨by simp [uone, hlo', hhi], Below.refl _ _⟩
      | cons y r =>
        obtain ⟨⟨hy0, hy1⟩, hg''⟩ := hg'.cons
        obtain ⟨y', HY, _, hd⟩ := HC.out 1 (by simp)
        obtain rfl : y = y' := by simpa using HY.out
        replace hd := hd w (Below.refl _ _)
        by_cases hly : loB y = true
        · have h1 := hiB_iff.1 hhi
          have h2 := loB_iff.1 hly
          go_enter Tryz.func142, Tryz.ntmps142
          go_wp2_with (first | (go_at_call 144; refine (ulow_any _ _ hx0 hx1).mono ?_; rintro e w' ⟨rfl, rfl⟩) | (go_at_call 145; refine (uhigh_any _ _ hx0 hx1).mono ?_; rintro e w' ⟨rfl, rfl⟩) | (go_at_call 146; refine (uLow_any _ _ hy0 hy1).mono ?_; rintro e w' ⟨rfl, rfl⟩))
          go_quiet (fail)
          go_wp2
          go_ret3
          refine ⟨ret3 (iv ?_) (iv (by simp [uone, hlo', hhi, hly])) (iv (by simp [uone, hlo', hhi, hly])), below_drewN (Below.refl _ _) _⟩
          rw [i32_mask10 x hx0 (by omega), i32_mask10 y hy0 (by omega), IntWalk.wrap32_in (x % 1024 * 1024) (by omega), i32_join10 _ _ (by omega) (by omega) (by omega) (by omega) (by omega), IntWalk.wrap32_in _ (by omega)]
          simp [uone, hlo', hhi, hly]
          omega
        · have hly' : loB y = false := by simpa using hly
          clear hly
          go_enter Tryz.func142, Tryz.ntmps142
          go_wp2_with (first | (go_at_call 144; refine (ulow_any _ _ hx0 hx1).mono ?_; rintro e w' ⟨rfl, rfl⟩) | (go_at_call 145; refine (uhigh_any _ _ hx0 hx1).mono ?_; rintro e w' ⟨rfl, rfl⟩) | (go_at_call 146; refine (uLow_any _ _ hy0 hy1).mono ?_; rintro e w' ⟨rfl, rfl⟩))
          go_ret3
          exact ⟨by simp [uone, hlo', hhi, hly'], Below.refl _ _⟩
    · have hhi' : hiB x = false := by simpa using hhi
      clear hhi
      go_enter Tryz.func142, Tryz.ntmps142
      go_wp2_with (first | (go_at_call 144; refine (ulow_any _ _ hx0 hx1).mono ?_; rintro e w' ⟨rfl, rfl⟩) | (go_at_call 145; refine (uhigh_any _ _ hx0 hx1).mono ?_; rintro e w' ⟨rfl, rfl⟩))
      go_ret3
      exact ⟨by simp [uone, hlo', hhi'], Below.refl _ _⟩
end Go.Proofs.YtponfaglflmnkaaGreat
namespace Go.Proofs.YtponfaglflmnkaaGreat
open Go.RowKit
set_option maxHeartbeats 400000

/-- What the loop of read keeps. -/
def UR (w : World) (xs : List Int) (u t f : Value) (wr : World) : Prop :=
  ∃ ps rest, Row w u (ints .u16 rest) ∧ Rg 0 65536 rest ∧ uread xs = ps ++ uread rest ∧ ps.length + rest.length ≤ xs.length ∧
    Own w.heap.size 21 wr t (ints .i32 (ps.map Prod.fst)) ∧ f = .int .i64 (ferr (ps.map Prod.snd)) ∧ Below w.heap.size w wr

theorem UR_step {w : World} {xs : List Int} {ps : List (Int × Int)} {x : Int} {r : List Int} {q c e n : Int} {u2 t2 : Value} {w2 : World} (hgr : Rg 0 65536 (x :: r))
    (HP : uread xs = ps ++ uread (x :: r)) (HU : uread (x :: r) = (c, e) :: uread ((x :: r).drop n.toNat)) (HL : ps.length + (x :: r).length ≤ xs.length)
    (hown2 : Own w.heap.size 21 w2 t2 (ints .i32 (ps.map Prod.fst) ++ ints .i32 [c])) (hb2 : Below w.heap.size w w2) (hu2 : Row w u2 ((ints .u16 (x :: r)).drop n.toNat)) (hn : 1 ≤ n)
    (hq : ferr ((ps ++ [(c, e)]).map Prod.snd) = q) :
    UR w xs u2 t2 (.int .i64 q) w2 := by
  refine ⟨ps ++ [(c, e)], (x :: r).drop n.toNat, by rw [← ints_drop]; exact hu2, hgr.drop _, by rw [HP, HU]; simp, ?_, by rw [List.map_append, ints_append]; exact hown2, by rw [hq], hb2⟩
  simp only [List.length_append, List.length_drop, List.length_cons, List.length_nil] at HL ⊢
  omega

theorem uread_any (v : Value) (xs : List Int) (w : World) (h : Row w v (ints .u16 xs)) (hg : Rg 0 65536 xs) (hl : xs.length ≤ 1000000) :
    Calls Tryz.prog 134 #[v] w fun e w' => ∃ t, e = .returned (.tuple #[t, .int .i64 (ferr ((uread xs).map Prod.snd))]) ∧ Own w.heap.size 21 w' t (ints .i32 ((uread xs).map Prod.fst)) ∧ Below w.heap.size w w' := by
  go_enter Tryz.func134, Tryz.ntmps134
  go_wp2
  go_loopw [0, 4, 5] (fun u t f wr => UR w xs u t f wr) (fun u _ _ _ => lenOf u)
  case atStart => exact ⟨[], xs, h, hg, rfl, by simp, Own.nil _ _ _, rfl, Below.refl _ _⟩
  case round =>
    obtain ⟨ps, rest, hrow, hgr, hps, hlen, hown, rfl, hb⟩ := hrel
    have HP := Lib.hid hps; clear hps h hg
    cases rest with
    | nil =>
      obtain ⟨a, b, off, cap, rfl, HC⟩ := hrow.op
      go_wp2
      go_ret2
      rw [uread_nil, List.append_nil] at HP
      exact ⟨_, ret2 rfl (iv (by rw [HP.out])), by rw [HP.out]; exact hown, hb⟩
    | cons x r =>
      obtain ⟨a, b, off, cap, rfl, HC⟩ := id hrow.op
      clear HC
      have hn := uone_n x r
      have hlr : (x :: r).length ≤ 1000000000 := by simp at hlen ⊢; omega
      obtain ⟨q, HQ⟩ : ∃ q, Hid (ferr (ps.map Prod.snd) = q) := ⟨_, rfl⟩
      rw [HQ.out]
      have hcons := uread_cons x r
      have hrng := uone_rng hgr
      obtain ⟨n, hN⟩ : ∃ n, (uone x r).2.1 = n := ⟨_, rfl⟩
      obtain ⟨c, hC⟩ : ∃ c, (uone x r).1 = c := ⟨_, rfl⟩
      obtain ⟨e, hE⟩ : ∃ e, (uone x r).2.2 = e := ⟨_, rfl⟩
      have hone := fun w' hr => uone_any (.slice a (x :: r).length cap) x r w' hr hgr hlr
      rw [hN, hC, hE] at hone hcons
      rw [hN] at hn
      rw [hC] at hrng
      clear hN hC hE
      have hn1 : 1 ≤ n ∧ n ≤ (r.length : Int) + 1 := by
        rcases hn with hn | ⟨hn, hr⟩
        · omega
        · cases r with
          | nil => exact absurd rfl hr
          | cons => simp; omega
      clear hn
      have HU := Lib.hid hcons; clear hcons
      have HO := Lib.hid hone; clear hone
      have HL := Lib.hid hlen; clear hlen hlr
      by_cases hq : (q == 0) = true
      · go_wp2_with (first | (go_at_call 142; refine (HO.out _ (hrow.below hb)).mono ?_; rintro e' w1 ⟨rfl, hb1⟩) | (at_builtin; refine wpList_app slT_i32 w.heap.size _ _ rfl rfl rfl rfl ((hown.below hb1).alloc _) (Row.ilit [c] [_] rfl (by simp)) (by have := HL.out; simp [ints] at this ⊢; omega) (by have := hb.size; have := hb1.size; simp; omega) ?_; intro t2 w2 hown2 hg2; have hb2 : Below w.heap.size w w2 := below_own ((hb.trans (hb1.mono hb.size)).alloc (Nat.le_trans hb.size hb1.size) _) ((hown.below hb1).alloc _) hg2 (by have := hb.size; have := hb1.size; simp; omega) (Nat.le_refl _)) | (refine wpList_slL slT_u16 _ _ rfl rfl rfl rfl (hrow.below hb2) (by omega) (by simp [ints]; omega) ?_; intro u2 hu2))
        go_roundw
        case rel => exact UR_step hgr HP.out HU.out HL.out hown2 hb2 (hu2 _ hrow) hn1.1 (by rw [List.map_append, List.map_cons, List.map_nil, ferr_snoc, HQ.out, if_pos (by simpa using hq)])
        case measure => rw [(hu2 _ hrow).len]; simp [lenOf, ints]; omega
      · replace hq : (q == 0) = false := by simpa using hq
        go_wp2_with (first | (go_at_call 142; refine (HO.out _ (hrow.below hb)).mono ?_; rintro e' w1 ⟨rfl, hb1⟩) | (at_builtin; refine wpList_app slT_i32 w.heap.size _ _ rfl rfl rfl rfl ((hown.below hb1).alloc _) (Row.ilit [c] [_] rfl (by simp)) (by have := HL.out; simp [ints] at this ⊢; omega) (by have := hb.size; have := hb1.size; simp; omega) ?_; intro t2 w2 hown2 hg2; have hb2 : Below w.heap.size w w2 := below_own ((hb.trans (hb1.mono hb.size)).alloc (Nat.le_trans hb.size hb1.size) _) ((hown.below hb1).alloc _) hg2 (by have := hb.size; have := hb1.size; simp; omega) (Nat.le_refl _)) | (refine wpList_slL slT_u16 _ _ rfl rfl rfl rfl (hrow.below hb2) (by omega) (by simp [ints]; omega) ?_; intro u2 hu2))
        go_roundw
        case rel => exact UR_step hgr HP.out HU.out HL.out hown2 hb2 (hu2 _ hrow) hn1.1 (by rw [List.map_append, List.map_cons, List.map_nil, ferr_snoc, HQ.out, if_neg (by simpa using hq)])
        case measure => rw [(hu2 _ hrow).len]; simp [lenOf, ints]; omega
end Go.Proofs.YtponfaglflmnkaaGreat
namespace Go.Proofs.YtponfaglflmnkaaGreat
open Go.RowKit
set_option maxHeartbeats 400000

/-- What the loop keeps. -/
def RR (w : World) (xs : List Int) (t f i : Value) (wr : World) : Prop :=
  ∃ (ps : List (Int × Int)) (k : Nat) (q : Int), i = .int .i64 k ∧ k ≤ xs.length ∧ Hid (uread xs = ps ++ uread (xs.drop k)) ∧ Hid (ps.length ≤ k) ∧
    Own w.heap.size 21 wr t (ints .i32 (ps.map Prod.fst)) ∧ f = .int .i64 q ∧ Hid (ferr (ps.map Prod.snd) = q) ∧ Below w.heap.size w wr
theorem RR_step {w : World} {xs : List Int} {ps : List (Int × Int)} {k n : Nat} {q q' c e : Int} {t2 : Value} {w2 : World}
    (HP : Hid (uread xs = ps ++ uread (xs.drop k))) (HU : uread (xs.drop k) = (c, e) :: uread (xs.drop (k + n))) (HL : Hid (ps.length ≤ k)) (hk : k + n ≤ xs.length) (hn : 1 ≤ n)
    (hown2 : Own w.heap.size 21 w2 t2 (ints .i32 (ps.map Prod.fst) ++ ints .i32 [c])) (hb2 : Below w.heap.size w w2) (HQ : Hid (ferr (ps.map Prod.snd) = q)) (hq : q' = if q = 0 then e else q)
    {j : Int} (hj : j = ((k + n : Nat) : Int)) :
    RR w xs t2 (.int .i64 q') (.int .i64 j) w2 := by
  refine ⟨ps ++ [(c, e)], k + n, q', by rw [hj], hk, by rw [show Hid (uread xs = ps ++ [(c, e)] ++ uread (xs.drop (k + n))) = (uread xs = ps ++ [(c, e)] ++ uread (xs.drop (k + n))) from rfl, HP.out, HU]; simp, ?_,
    by rw [List.map_append, ints_append]; exact hown2, rfl, ?_, hb2⟩
  · have := HL.out
    show _ ≤ _
    simp; omega
  · show _ = _
    rw [List.map_append, List.map_cons, List.map_nil, ferr_snoc, HQ.out, hq]
theorem drop_eq {xs : List Int} {k : Nat} {x : Int} (h : xs[k]? = some x) : xs.drop k = x :: xs.drop (k + 1) := by
  obtain ⟨hk, rfl⟩ := List.getElem?_eq_some_iff.1 h
  rw [List.drop_eq_getElem_cons hk]

set_option maxRecDepth 100000 in
theorem rread_any (v : Value) (xs : List Int) (w : World) (h : Row w v (ints .u16 xs)) (hg : Rg 0 65536 xs) (hl : xs.length ≤ 1000000) :
    Calls Tryz.prog 80 #[v] w fun e w' => ∃ t, e = .returned (.tuple #[t, .int .i64 (ferr ((uread xs).map Prod.snd))]) ∧ Own w.heap.size 21 w' t (ints .i32 ((uread xs).map Prod.fst)) ∧ Below w.heap.size w w' := by
  obtain ⟨a, b, off, cap, rfl, HC⟩ := h.op
  clear h
  go_enter Tryz.func80, Tryz.ntmps80
  go_wp2
  go_loopw [4, 5, 6] (fun t f i wr => RR w xs t f i wr) (fun _ _ i _ => xs.length - (intOf i).toNat)
  case atStart => exact ⟨[], 0, 0, rfl, Nat.zero_le _, rfl, Nat.le_refl _, Own.nil _ _ _, rfl, rfl, Below.refl _ _⟩
  case round =>
    obtain ⟨ps, k, q, rfl, hk, HP, HL, hown, rfl, HQ, hb⟩ := hrel
    by_cases hlt : k < xs.length
    · obtain ⟨x, HX, rfl, hc⟩ := HC.out k hlt
      have HCA := Lib.hid hc; clear hc
      have hc := HCA.out wr hb
      have HD := Lib.hid (drop_eq HX.out)
      have hxr := hg.get HX.out
      by_cases hlo : loB x = true
      · have hhi := hiB_not_lo hlo
        by_cases hq : (q == 0) = true
        · go_wp2_with (first | (go_at_call 103; refine (rHigh_any _ _).mono ?_; rintro e' w1 ⟨rfl, rfl⟩) | (go_at_call 104; refine (rLow_any _ _).mono ?_; rintro e' w1 ⟨rfl, rfl⟩) | (at_builtin; refine wpList_app slT_i32 _ _ _ rfl rfl rfl rfl (hown.alloc _) (Row.ilit [_] [_] rfl (by simp)) (by have := HL.out; simp [ints] at this ⊢; omega) (by have := hb.size; simp; omega) ?_; intro t2 w2 hown2 hg2; have hb2 : Below w.heap.size w w2 := below_own (hb.alloc hb.size _) (hown.alloc _) hg2 (by have := hb.size; simp; omega) (Nat.le_refl _); have hc2 := HCA.out w2 hb2))
          go_roundw
          case rel => exact RR_step (n := 1) (e := 3) HP (by rw [HD.out, uread_lo _ hlo]) HL (by omega) (by omega) hown2 hb2 HQ (by rw [if_pos (by simpa using hq)]) (by omega)
          case measure => simp [intOf]; omega
        · replace hq : (q == 0) = false := by simpa using hq
          go_wp2_with (first | (go_at_call 103; refine (rHigh_any _ _).mono ?_; rintro e' w1 ⟨rfl, rfl⟩) | (go_at_call 104; refine (rLow_any _ _).mono ?_; rintro e' w1 ⟨rfl, rfl⟩) | (at_builtin; refine wpList_app slT_i32 _ _ _ rfl rfl rfl rfl (hown.alloc _) (Row.ilit [_] [_] rfl (by simp)) (by have := HL.out; simp [ints] at this ⊢; omega) (by have := hb.size; simp; omega) ?_; intro t2 w2 hown2 hg2; have hb2 : Below w.heap.size w w2 := below_own (hb.alloc hb.size _) (hown.alloc _) hg2 (by have := hb.size; simp; omega) (Nat.le_refl _); have hc2 := HCA.out w2 hb2))
          go_roundw
          case rel => exact RR_step (n := 1) (e := 3) HP (by rw [HD.out, uread_lo _ hlo]) HL (by omega) (by omega) hown2 hb2 HQ (by rw [if_neg (by simpa using hq)]) (by omega)
          case measure => simp [intOf]; omega
      · replace hlo : loB x = false := by simpa using hlo
        by_cases hhi : hiB x = true
        · by_cases hk1 : k + 1 < xs.length
          · obtain ⟨y, HY, _, hd⟩ := HC.out (k + 1) hk1
            have HDA := Lib.hid hd; clear hd
            have hd := HDA.out wr hb
            have HE := Lib.hid (drop_eq HY.out)
            have hyr := hg.get HY.out
            have hk1' : (k : Int) + 1 < xs.length := by omega
            by_cases hly : loB y = true
            · have h1 := hiB_iff.1 hhi
              have h2 := loB_iff.1 hly
              go_wp2_with (first | (go_at_call 103; refine (rHigh_any _ _).mono ?_; rintro e' w1 ⟨rfl, rfl⟩) | (go_at_call 104; refine (rLow_any _ _).mono ?_; rintro e' w1 ⟨rfl, rfl⟩) | (at_builtin; refine wpList_app slT_i32 _ _ _ rfl rfl rfl rfl (hown.alloc _) (Row.ilit [_] [_] rfl (by simp)) (by have := HL.out; simp [ints] at this ⊢; omega) (by have := hb.size; simp; omega) ?_; intro t2 w2 hown2 hg2; have hb2 : Below w.heap.size w w2 := below_own (hb.alloc hb.size _) (hown.alloc _) hg2 (by have := hb.size; simp; omega) (Nat.le_refl _); have hc2 := HCA.out w2 hb2))
              have hw1 : IntKind.i64.wrap ((k : Int) + 1) = k + 1 := IntWalk.i64_in _ (by omega)
              have hw2 : (0 : Int) ≤ (k : Int) + 1 := by omega
              have hw3 : ((k : Int) + 1).toNat = k + 1 := by omega
              go_region_held3 (fun w' => w'.cell? ⟨b, off + k, none⟩ = some (.int .u16 x) ∧ w'.cell? ⟨b, off + (k + 1), none⟩ = some (.int .u16 y)) (first | go_keep | exact ⟨HCA.out _ hb2, HDA.out _ hb2⟩) ((refine step_app slT_i32 _ _ _ (by rfl) (by rfl) (by rfl) (by rfl) (by first | exact hown.drew.alloc _ | exact (hown.alloc _).drew) (by first | exact Row.ilit [_] [_] rfl (by simp) | exact (Row.ilit [_] [_] rfl (by simp)).drew) (by have := HL.out; simp [ints] at this ⊢; omega) (by have := hb.size; simp; omega) ?_; intro t2 w2 hown2 hg2; have hb2 : Below w.heap.size w w2 := below_own (by first | exact hb.drew.alloc hb.size _ | exact (hb.alloc hb.size _).drew) (by first | exact hown.drew.alloc _ | exact (hown.alloc _).drew) hg2 (by have := hb.size; simp; omega) (Nat.le_refl _)))
              go_wp2
              go_roundw
              case rel => exact RR_step (n := 2) (c := 65536 + ((x - 55296) * 1024 + (y - 56320))) (e := 0) HP (by rw [HD.out, HE.out, uread_pair _ hlo hhi hly]) HL (by omega) (by omega) (by rw [show (65536 + ((x - 55296) * 1024 + (y - 56320)) : Int) = IntKind.i32.wrap (IntKind.i64.wrap (IntKind.i64.wrap (IntKind.i64.wrap (65536 + IntKind.i64.wrap (1024 * IntKind.i64.wrap (IntKind.i64.wrap x - 55296))) + IntKind.i64.wrap y) - 56320)) from by simp only [IntKind.wrap_i64, IntKind.wrap_i32]; omega]; exact hown2) hb2 HQ (by split <;> simp_all) (by omega)
              case measure => simp [intOf]; omega
            · replace hly : loB y = false := by simpa using hly
              by_cases hq : (q == 0) = true
              · go_wp2_with (first | (go_at_call 103; refine (rHigh_any _ _).mono ?_; rintro e' w1 ⟨rfl, rfl⟩) | (go_at_call 104; refine (rLow_any _ _).mono ?_; rintro e' w1 ⟨rfl, rfl⟩) | (at_builtin; refine wpList_app slT_i32 _ _ _ rfl rfl rfl rfl (hown.alloc _) (Row.ilit [_] [_] rfl (by simp)) (by have := HL.out; simp [ints] at this ⊢; omega) (by have := hb.size; simp; omega) ?_; intro t2 w2 hown2 hg2; have hb2 : Below w.heap.size w w2 := below_own (hb.alloc hb.size _) (hown.alloc _) hg2 (by have := hb.size; simp; omega) (Nat.le_refl _); have hc2 := HCA.out w2 hb2))
                go_roundw
                case rel => exact RR_step (n := 1) (e := 3) HP (by rw [HD.out, HE.out, uread_bad _ hlo hhi hly]) HL (by omega) (by omega) hown2 hb2 HQ (by rw [if_pos (by simpa using hq)]) (by omega)
                case measure => simp [intOf]; omega
              · replace hq : (q == 0) = false := by simpa using hq
                go_wp2_with (first | (go_at_call 103; refine (rHigh_any _ _).mono ?_; rintro e' w1 ⟨rfl, rfl⟩) | (go_at_call 104; refine (rLow_any _ _).mono ?_; rintro e' w1 ⟨rfl, rfl⟩) | (at_builtin; refine wpList_app slT_i32 _ _ _ rfl rfl rfl rfl (hown.alloc _) (Row.ilit [_] [_] rfl (by simp)) (by have := HL.out; simp [ints] at this ⊢; omega) (by have := hb.size; simp; omega) ?_; intro t2 w2 hown2 hg2; have hb2 : Below w.heap.size w w2 := below_own (hb.alloc hb.size _) (hown.alloc _) hg2 (by have := hb.size; simp; omega) (Nat.le_refl _); have hc2 := HCA.out w2 hb2))
                go_roundw
                case rel => exact RR_step (n := 1) (e := 3) HP (by rw [HD.out, HE.out, uread_bad _ hlo hhi hly]) HL (by omega) (by omega) hown2 hb2 HQ (by rw [if_neg (by simpa using hq)]) (by omega)
                case measure => simp [intOf]; omega
          · have hk1' : ¬ ((k : Int) + 1 < xs.length) := by omega
            have hn0 : xs.drop (k + 1) = [] := by rw [List.drop_eq_nil_iff]; omega
            have HE := Lib.hid hn0; clear hn0
            by_cases hq : (q == 0) = true
            · go_wp2_with (first | (go_at_call 103; refine (rHigh_any _ _).mono ?_; rintro e' w1 ⟨rfl, rfl⟩) | (go_at_call 104; refine (rLow_any _ _).mono ?_; rintro e' w1 ⟨rfl, rfl⟩) | (at_builtin; refine wpList_app slT_i32 _ _ _ rfl rfl rfl rfl (hown.alloc _) (Row.ilit [_] [_] rfl (by simp)) (by have := HL.out; simp [ints] at this ⊢; omega) (by have := hb.size; simp; omega) ?_; intro t2 w2 hown2 hg2; have hb2 : Below w.heap.size w w2 := below_own (hb.alloc hb.size _) (hown.alloc _) hg2 (by have := hb.size; simp; omega) (Nat.le_refl _); have hc2 := HCA.out w2 hb2))
              go_roundw
              case rel => exact RR_step (n := 1) (e := 4) HP (by rw [HD.out, HE.out, uread_end hlo hhi]) HL (by omega) (by omega) hown2 hb2 HQ (by rw [if_pos (by simpa using hq)]) (by omega)
              case measure => simp [intOf]; omega
            · replace hq : (q == 0) = false := by simpa using hq
              go_wp2_with (first | (go_at_call 103; refine (rHigh_any _ _).mono ?_; rintro e' w1 ⟨rfl, rfl⟩) | (go_at_call 104; refine (rLow_any _ _).mono ?_; rintro e' w1 ⟨rfl, rfl⟩) | (at_builtin; refine wpList_app slT_i32 _ _ _ rfl rfl rfl rfl (hown.alloc _) (Row.ilit [_] [_] rfl (by simp)) (by have := HL.out; simp [ints] at this ⊢; omega) (by have := hb.size; simp; omega) ?_; intro t2 w2 hown2 hg2; have hb2 : Below w.heap.size w w2 := below_own (hb.alloc hb.size _) (hown.alloc _) hg2 (by have := hb.size; simp; omega) (Nat.le_refl _); have hc2 := HCA.out w2 hb2))
              go_roundw
              case rel => exact RR_step (n := 1) (e := 4) HP (by rw [HD.out, HE.out, uread_end hlo hhi]) HL (by omega) (by omega) hown2 hb2 HQ (by rw [if_neg (by simpa using hq)]) (by omega)
              case measure => simp [intOf]; omega
        · replace hhi : hiB x = false := by simpa using hhi
          go_wp2_with (first | (go_at_call 103; refine (rHigh_any _ _).mono ?_; rintro e' w1 ⟨rfl, rfl⟩) | (go_at_call 104; refine (rLow_any _ _).mono ?_; rintro e' w1 ⟨rfl, rfl⟩) | (at_builtin; refine wpList_app slT_i32 _ _ _ rfl rfl rfl rfl (hown.alloc _) (Row.ilit [_] [_] rfl (by simp)) (by have := HL.out; simp [ints] at this ⊢; omega) (by have := hb.size; simp; omega) ?_; intro t2 w2 hown2 hg2; have hb2 : Below w.heap.size w w2 := below_own (hb.alloc hb.size _) (hown.alloc _) hg2 (by have := hb.size; simp; omega) (Nat.le_refl _); have hc2 := HCA.out w2 hb2))
          go_roundw
          case rel => exact RR_step (n := 1) (e := 0) HP (by rw [HD.out, uread_bmp _ hlo hhi]) HL (by omega) (by omega) hown2 hb2 HQ (by split <;> simp_all) (by omega)
          case measure => simp [intOf]; omega
    · have hk0 : xs.drop k = [] := by rw [List.drop_eq_nil_iff]; omega
      have HE := Lib.hid hk0; clear hk0
      go_wp2
      go_ret2
      have hpp : uread xs = ps := by rw [HP.out, HE.out, uread_nil, List.append_nil]
      exact ⟨_, ret2 rfl (iv (by rw [hpp, HQ.out])), by rw [hpp]; exact hown, hb⟩
end Go.Proofs.YtponfaglflmnkaaGreat
namespace Go.Proofs.YtponfaglflmnkaaGreat
open Go.RowKit
set_option maxHeartbeats 400000

theorem uRead_any (v : Value) (xs : List Int) (w : World) (h : Row w v (ints .u16 xs)) (hg : Rg 0 65536 xs) (hl : xs.length ≤ 1000000) :
    Calls Tryz.prog 120 #[v] w fun e w' => ∃ t, e = .returned t ∧ Own w.heap.size 21 w' t (ints .i32 ((uread xs).map Prod.fst)) ∧ Below w.heap.size w w' := by
  go_enter Tryz.func120, Tryz.ntmps120
  go_wp2_with (go_at_call 134; refine (uread_any _ _ _ h hg hl).mono ?_; rintro e w' ⟨t, rfl, ho, hb⟩)
  go_ret
  exact ⟨_, rfl, ho, hb⟩
theorem uRight_any (v : Value) (xs : List Int) (w : World) (h : Row w v (ints .u16 xs)) (hg : Rg 0 65536 xs) (hl : xs.length ≤ 1000000) :
    Calls Tryz.prog 121 #[v] w fun e w' => e = .returned (.bool (ferr ((uread xs).map Prod.snd) == 0)) ∧ Below w.heap.size w w' := by
  go_enter Tryz.func121, Tryz.ntmps121
  go_wp2_with (go_at_call 134; refine (uread_any _ _ _ h hg hl).mono ?_; rintro e w' ⟨t, rfl, ho, hb⟩)
  go_ret
  exact ⟨rfl, hb⟩
/-- The units of a text. -/
def ulayL (xs : List Int) : List Int := xs.flatMap uof
theorem uof_len (c : Int) : (uof c).length ≤ 2 := by unfold uof; split <;> (try split) <;> simp
theorem ulayL_snoc {xs : List Int} {k : Nat} {x : Int} (h : xs[k]? = some x) : ulayL (xs.take (k + 1)) = ulayL (xs.take k) ++ uof x := by
  simp [ulayL, List.take_add_one, h]
theorem ulayL_len (xs : List Int) : (ulayL xs).length ≤ 2 * xs.length := by
  induction xs with
  | nil => simp [ulayL]
  | cons x xs ih => have := uof_len x; simp only [ulayL, List.flatMap_cons, List.length_append, List.length_cons] at ih ⊢; omega
end Go.Proofs.YtponfaglflmnkaaGreat
namespace Go.Proofs.YtponfaglflmnkaaGreat
open Go.RowKit
set_option maxHeartbeats 400000

/-- The units of a text, or the error. -/
def ulayR (xs : List Int) : List Int × Int := if allSc xs then (ulayL xs, 0) else ([], 7)

end Go.Proofs.YtponfaglflmnkaaGreat
namespace Go.Proofs.YtponfaglflmnkaaGreat
open Go.RowKit
set_option maxHeartbeats 400000

/-- The octets of units. -/
def uoct (xs : List Int) : List Int := xs.flatMap fun u => [u / 256, u % 256]
theorem uoct_snoc {xs : List Int} {k : Nat} {x : Int} (h : xs[k]? = some x) : uoct (xs.take (k + 1)) = uoct (xs.take k) ++ [x / 256, x % 256] := by
  simp [uoct, List.take_add_one, h]
theorem uoct_len (xs : List Int) : (uoct xs).length = 2 * xs.length := by
  induction xs with
  | nil => simp [uoct]
  | cons x xs ih => simp only [uoct, List.flatMap_cons, List.length_append, List.length_cons, List.length_nil] at ih ⊢; omega
/-- The units of octets. -/
def fromO : List Int → List Int
  | x :: y :: r => (256 * x + y) :: fromO r
  | _ => []
theorem fromO_snoc {k : Nat} : ∀ {xs : List Int} {x y : Int}, xs[2 * k]? = some x → xs[2 * k + 1]? = some y → fromO (xs.take (2 * k + 2)) = fromO (xs.take (2 * k)) ++ [256 * x + y] := by
  induction k with
  | zero =>
    intro xs x y hx hy
    match xs, hx, hy with
    | a :: b :: r, hx, hy => simp at hx hy; subst hx hy; simp [fromO]
    | [a], hx, hy => simp at hy
    | [], hx, hy => simp at hx
  | succ k ih =>
    intro xs x y hx hy
    match xs, hx, hy with
    | a :: b :: r, hx, hy =>
      have e1 : 2 * (k + 1) = (2 * k) + 1 + 1 := by omega
      have e2 : 2 * (k + 1) + 2 = (2 * k + 2) + 1 + 1 := by omega
      have e3 : 2 * (k + 1) + 1 = (2 * k + 1) + 1 + 1 := by omega
      rw [e1, List.getElem?_cons_succ, List.getElem?_cons_succ] at hx
      rw [e3, List.getElem?_cons_succ, List.getElem?_cons_succ] at hy
      rw [e2, e1, List.take_succ_cons, List.take_succ_cons, List.take_succ_cons, List.take_succ_cons]
      simp only [fromO, ih hx hy, List.cons_append]
    | [a], hx, hy => rw [show 2 * (k + 1) + 1 = (2 * k + 2) + 1 by omega] at hy; simp at hy
    | [], hx, hy => simp at hx
theorem fromO_len (n : Nat) : ∀ xs : List Int, xs.length ≤ n → 2 * (fromO xs).length ≤ xs.length := by
  induction n with
  | zero => intro xs h; obtain rfl : xs = [] := List.eq_nil_of_length_eq_zero (by omega); simp [fromO]
  | succ n ih =>
    intro xs h
    match xs, h with
    | a :: b :: r, h => have := ih r (by simp at h; omega); simp [fromO]; omega
    | [a], h => simp [fromO]
    | [], h => simp [fromO]
def fromR (xs : List Int) : List Int × Int := if xs.length % 2 = 0 then (fromO xs, 0) else ([], 4)

theorem fromR_odd {xs : List Int} (h : ¬ xs.length % 2 = 0) : fromR xs = ([], 4) := by rw [fromR, if_neg h]
theorem fromR_even {xs : List Int} (h : xs.length % 2 = 0) : fromR xs = (fromO xs, 0) := by rw [fromR, if_pos h]
theorem rFrom_any (v : Value) (xs : List Int) (w : World) (h : Row w v (ints .u8 xs)) (hg : Rg 0 256 xs) (hl : xs.length ≤ 1000000) :
    Calls Tryz.prog 79 #[v] w fun e w' => ∃ t, e = .returned (.tuple #[t, .int .i64 (fromR xs).2]) ∧ Own w.heap.size 101 w' t (ints .u16 (fromR xs).1) ∧ Below w.heap.size w w' := by
  obtain ⟨a, b, off, cap, rfl, HC⟩ := h.op
  clear h
  by_cases ho : xs.length % 2 = 0
  · rw [fromR_even ho]
    obtain ⟨n, hn⟩ : ∃ n, xs.length = 2 * n := ⟨xs.length / 2, by omega⟩
    have HN := Lib.hid hn
    have hnb : n ≤ 1000000 := by omega
    have ho' : ((xs.length : Int) % 2 != 0) = false := by rw [bne_eq_false_iff_eq]; omega
    clear hn ho
    go_enter Tryz.func79, Tryz.ntmps79
    go_wp2
    clear ho'
    go_loopw [4, 5] (fun u i wr => ∃ k : Nat, i = .int .i64 ((2 * k : Nat) : Int) ∧ k ≤ n ∧ Own w.heap.size 101 wr u (ints .u16 (fromO (xs.take (2 * k)))) ∧ Below w.heap.size w wr) (fun _ i _ => 2 * n - (intOf i).toNat)
    case atStart => exact ⟨0, rfl, Nat.zero_le _, Own.nil _ _ _, Below.refl _ _⟩
    case round =>
      obtain ⟨k, rfl, hk, hown, hb⟩ := hrel
      have HE : Hid (((2 * k : Nat) : Int) = 2 * (k : Int)) := by show _ = _; omega
      rw [HE.out]
      by_cases hlt : k < n
      · obtain ⟨x, HX, rfl, hc⟩ := HC.out (2 * k) (by have := HN.out; omega)
        obtain ⟨y, HY, _, hd⟩ := HC.out (2 * k + 1) (by have := HN.out; omega)
        have HCA := Lib.hid hc
        have HDA := Lib.hid hd
        replace hc := hc wr hb
        replace hd := hd wr hb
        have hxr := hg.get HX.out
        have hyr := hg.get HY.out
        have HU := Lib.hid (fromO_snoc HX.out HY.out)
        have HLb : Hid ((ints .u16 (fromO (xs.take (2 * k)))).length + (ints .u16 [256 * x + y]).length ≤ 1000000000) := by
          have h1 := fromO_len _ (xs.take (2 * k)) (Nat.le_refl _); rw [List.length_take] at h1; show _ ≤ _; simp only [ints_length, List.length_cons, List.length_nil]; omega
        have hi1 : (0 : Int) ≤ 2 * (k : Int) := by omega
        have hi2 : 2 * (k : Int) < (xs.length : Int) := by have := HN.out; omega
        have hi3 : (2 * (k : Int)).toNat = 2 * k := by omega
        have hj0 : IntKind.i64.wrap (2 * (k : Int) + 1) = 2 * k + 1 := IntWalk.i64_in _ (by omega)
        have hj1 : (0 : Int) ≤ 2 * (k : Int) + 1 := by omega
        have hj2 : 2 * (k : Int) + 1 < (xs.length : Int) := by have := HN.out; omega
        have hj3 : (2 * (k : Int) + 1).toNat = 2 * k + 1 := by omega
        have hq1 : IntKind.u16.wrap x = x := IntWalk.u16_in _ (by omega)
        have hq2 : IntKind.u16.wrap y = y := IntWalk.u16_in _ (by omega)
        have hq4 : IntKind.u16.wrap (256 * x) = 256 * x := IntWalk.u16_in _ (by omega)
        have hq3 : IntKind.u16.wrap (256 * x + y) = 256 * x + y := IntWalk.u16_in _ (by omega)
        go_wp2_with fail
        go_region_held3 (fun w' => w'.cell? ⟨b, off + 2 * k, none⟩ = some (.int .u8 x) ∧ w'.cell? ⟨b, off + (2 * k + 1), none⟩ = some (.int .u8 y)) (first | go_keep | exact ⟨HCA.out _ hb2, HDA.out _ hb2⟩) ((refine step_app slT_u16 _ _ _ (by rfl) (by rfl) (by rfl) (by rfl) (by first | exact hown.drew.alloc _ | exact (hown.alloc _).drew) (by first | exact Row.ilit [256 * x + y] [_] rfl (by simp) | exact (Row.ilit [256 * x + y] [_] rfl (by simp)).drew) HLb.out (by have := hb.size; simp; omega) ?_; intro t2 w2 hown2 hg2; have hb2 : Below w.heap.size w w2 := below_own (by first | exact hb.drew.alloc hb.size _ | exact (hb.alloc hb.size _).drew) (by first | exact hown.drew.alloc _ | exact (hown.alloc _).drew) hg2 (by have := hb.size; simp; omega) (Nat.le_refl _)))
        clear hi1 hi2 hi3 hj0 hj1 hj2 hj3 hq1 hq2 hq3 hq4
        go_wp2
        go_roundw
        case rel => exact ⟨k + 1, by rw [show ((2 * (k + 1) : Nat) : Int) = 2 * (k : Int) + 2 by omega], by omega, by rw [show 2 * (k + 1) = 2 * k + 2 by omega, HU.out, ints_append]; exact hown2, hb2⟩
        case measure => simp [intOf]; omega
      · have hge : ¬ (2 * (k : Int) + 1 < (xs.length : Int)) := by have := HN.out; omega
        go_wp2
        go_ret2
        rw [List.take_of_length_le (by have := HN.out; omega)] at hown
        exact ⟨_, rfl, hown, hb⟩
  · rw [fromR_odd ho]
    have ho' : ((xs.length : Int) % 2 != 0) = true := by rw [bne_iff_ne]; omega
    clear ho
    go_enter Tryz.func79, Tryz.ntmps79
    go_wp2
    go_ret2
    exact ⟨_, rfl, Own.nil _ _ _, Below.refl _ _⟩
end Go.Proofs.YtponfaglflmnkaaGreat
namespace Go.Proofs.YtponfaglflmnkaaGreat
theorem ferr_cons (e : Int) (es : List Int) : ferr (e :: es) = if e = 0 then ferr es else e := by
  by_cases h : e = 0
  · subst h; simp [ferr]
  · have : (e != 0) = true := by simpa using h
    simp [ferr, h, this]
theorem ulayL_cons (x : Int) (xs : List Int) : ulayL (x :: xs) = uof x ++ ulayL xs := by simp [ulayL]
theorem uof_bmp {x : Int} (h0 : 0 ≤ x) (h1 : x < 65536) (hh : hiB x = false) (hl : loB x = false) : uof x = [x] := by
  have h2 : ¬ hiB x = true := by simp [hh]
  have h3 : ¬ loB x = true := by simp [hl]
  rw [hiB_iff] at h2; rw [loB_iff] at h3
  rw [uof, if_pos (scB_iff.2 (by omega)), if_pos h1]
theorem uof_pair {x y : Int} (hh : hiB x = true) (hl : loB y = true) : uof (65536 + ((x - 55296) * 1024 + (y - 56320))) = [x, y] := by
  rw [hiB_iff] at hh; rw [loB_iff] at hl
  rw [uof, if_pos (scB_iff.2 (by omega)), if_neg (by omega)]
  congr 1
  · omega
  · congr 1; omega
theorem uread_uof {c : Int} (h : scB c = true) (r : List Int) : uread (uof c ++ r) = (c, 0) :: uread r := by
  have hc := scB_iff.1 h
  by_cases h1 : c < 65536
  · have h2 : hiB c = false := by
      have : ¬ hiB c = true := by rw [hiB_iff]; omega
      simpa using this
    have h3 : loB c = false := by
      have : ¬ loB c = true := by rw [loB_iff]; omega
      simpa using this
    rw [uof_bmp (by omega) h1 h2 h3]
    exact uread_bmp r h3 h2
  · rw [uof, if_pos h, if_neg h1]
    have h2 : hiB (55296 + (c - 65536) / 1024) = true := by rw [hiB_iff]; omega
    have h4 : loB (55296 + (c - 65536) / 1024) = false := by
      have : ¬ loB (55296 + (c - 65536) / 1024) = true := by rw [loB_iff]; omega
      simpa using this
    have h3 : loB (56320 + (c - 65536) % 1024) = true := by rw [loB_iff]; omega
    rw [show [55296 + (c - 65536) / 1024, 56320 + (c - 65536) % 1024] ++ r = (55296 + (c - 65536) / 1024) :: (56320 + (c - 65536) % 1024) :: r from rfl, uread_pair r h4 h2 h3]
    congr 2
    omega
theorem uread_ulay : ∀ xs : List Int, allSc xs = true → uread (ulayL xs) = xs.map fun c => (c, 0)
  | [], _ => by simp [ulayL, uread_nil]
  | x :: xs, h => by
    simp only [allSc, List.all_cons, Bool.and_eq_true] at h
    rw [ulayL_cons, uread_uof h.1, uread_ulay xs h.2]; rfl
theorem ulay_rng : ∀ xs : List Int, Rg 0 65536 (ulayL xs)
  | [] => by simp [ulayL]; exact Rg.nil _ _
  | x :: xs => by
    rw [ulayL_cons]
    refine Rg.append ?_ (ulay_rng xs)
    intro y hy
    unfold uof at hy
    split at hy
    · rename_i h
      have := scB_iff.1 h
      split at hy <;> simp at hy <;> omega
    · simp at hy
/-- What can be said of each step of the reading. -/
theorem uread_steps (P : List Int → List (Int × Int) → Prop) (h0 : P [] [])
    (hlo : ∀ x r ps, 0 ≤ x → x < 65536 → loB x = true → P r ps → P (x :: r) ((65533, 3) :: ps))
    (hbmp : ∀ x r ps, 0 ≤ x → x < 65536 → loB x = false → hiB x = false → P r ps → P (x :: r) ((x, 0) :: ps))
    (hbad : ∀ x r e ps, 0 ≤ x → x < 65536 → loB x = false → hiB x = true → e ≠ 0 → P r ps → P (x :: r) ((65533, e) :: ps))
    (hpair : ∀ x y r ps, 0 ≤ x → x < 65536 → hiB x = true → loB y = true → P r ps → P (x :: y :: r) ((65536 + ((x - 55296) * 1024 + (y - 56320)), 0) :: ps))
    (n : Nat) : ∀ xs : List Int, xs.length ≤ n → Rg 0 65536 xs → P xs (uread xs) := by
  induction n with
  | zero => intro xs h _; obtain rfl : xs = [] := List.eq_nil_of_length_eq_zero (by omega); rw [uread_nil]; exact h0
  | succ n ih =>
    intro xs h hg
    cases xs with
    | nil => rw [uread_nil]; exact h0
    | cons x r =>
      obtain ⟨⟨hx0, hx1⟩, hg'⟩ := hg.cons
      have hr := ih r (by simp at h; omega) hg'
      cases hl : loB x with
      | true => rw [uread_lo r hl]; exact hlo x r _ hx0 hx1 hl hr
      | false =>
        cases hh : hiB x with
        | false => rw [uread_bmp r hl hh]; exact hbmp x r _ hx0 hx1 hl hh hr
        | true =>
          cases r with
          | nil => rw [uread_end hl hh]; exact hbad x [] 4 _ hx0 hx1 hl hh (by omega) hr
          | cons y r =>
            cases hy : loB y with
            | false => rw [uread_bad r hl hh hy]; exact hbad x (y :: r) 3 _ hx0 hx1 hl hh (by omega) hr
            | true => rw [uread_pair r hl hh hy]; exact hpair x y r _ hx0 hx1 hh hy (ih r (by simp at h; omega) hg'.cons.2)
theorem uread_sc {xs : List Int} (hg : Rg 0 65536 xs) : allSc ((uread xs).map Prod.fst) = true := by
  refine uread_steps (fun _ ps => allSc (ps.map Prod.fst) = true) rfl ?_ ?_ ?_ ?_ _ xs (Nat.le_refl _) hg
  · intro x r ps _ _ _ h
    simpa [allSc, show scB 65533 = true from by decide] using h
  · intro x r ps h0 h1 hl hh h
    have : scB x = true := by
      have h2 : ¬ hiB x = true := by simp [hh]
      have h3 : ¬ loB x = true := by simp [hl]
      rw [hiB_iff] at h2; rw [loB_iff] at h3; rw [scB_iff]; omega
    simpa [allSc, this] using h
  · intro x r e ps _ _ _ _ _ h
    simpa [allSc, show scB 65533 = true from by decide] using h
  · intro x y r ps _ _ hh hl h
    have : scB (65536 + ((x - 55296) * 1024 + (y - 56320))) = true := by
      rw [hiB_iff] at hh; rw [loB_iff] at hl; rw [scB_iff]; omega
    simpa [allSc, this] using h
theorem uread_right {xs : List Int} (hg : Rg 0 65536 xs) : ferr ((uread xs).map Prod.snd) = 0 ↔ ulayL ((uread xs).map Prod.fst) = xs := by
  have sur : ∀ x, uof 65533 = [65533] ∧ (loB x = true ∨ hiB x = true → x ≠ 65533) := by
    intro x
    refine ⟨by decide, ?_⟩
    rw [loB_iff, hiB_iff]; omega
  refine uread_steps (fun xs ps => ferr (ps.map Prod.snd) = 0 ↔ ulayL (ps.map Prod.fst) = xs) (by simp [ferr, ulayL]) ?_ ?_ ?_ ?_ _ xs (Nat.le_refl _) hg
  · intro x r ps _ _ hl h
    rw [List.map_cons, ferr_cons, List.map_cons, ulayL_cons, (sur x).1]
    simp only [Int.reduceEq, if_false, List.cons_append, List.nil_append, List.cons.injEq, false_iff]
    intro h'
    exact (sur x).2 (.inl hl) h'.1.symm
  · intro x r ps h0 h1 hl hh h
    rw [List.map_cons, ferr_cons, List.map_cons, ulayL_cons, uof_bmp h0 h1 hh hl]
    simpa using h
  · intro x r e ps _ _ _ hh he h
    rw [List.map_cons, ferr_cons, List.map_cons, ulayL_cons, (sur x).1]
    simp only [if_neg he, List.cons_append, List.nil_append, List.cons.injEq]
    refine ⟨fun h => absurd h he, fun h' => absurd h'.1.symm ((sur x).2 (.inr hh))⟩
  · intro x y r ps _ _ hh hl h
    rw [List.map_cons, ferr_cons, List.map_cons, ulayL_cons, uof_pair hh hl]
    simpa using h
end Go.Proofs.YtponfaglflmnkaaGreat
namespace Go.Proofs.YtponfaglflmnkaaGreat
/-- A number's octets, the lowest first. -/
def oct2 (n : Int) : List Int := [n % 256, n / 256 % 256]
def oct4 (n : Int) : List Int := [n % 256, n / 256 % 256, n / 65536 % 256, n / 16777216 % 256]
def grp (wd : Int) (big : Bool) (n : Int) : List Int := if wd = 4 then (if big then (oct4 n).reverse else oct4 n) else (if big then (oct2 n).reverse else oct2 n)
def wnum (wd : Int) (t : List Int) : List Int := if wd = 4 then t else ulayL t
def wideL (wd : Int) (big : Bool) (t : List Int) : List Int := (wnum wd t).flatMap (grp wd big)
def wideR (wd : Int) (big : Bool) (t : List Int) : List Int × Int := if wd = 2 ∨ wd = 4 then (if allSc t then (wideL wd big t, 0) else ([], 7)) else ([], 1)
theorem grp_len (wd : Int) (big : Bool) (n : Int) : (grp wd big n).length ≤ 4 := by
  unfold grp; repeat' split
  all_goals simp [oct2, oct4]
theorem wnum_len (wd : Int) (t : List Int) : (wnum wd t).length ≤ 2 * t.length := by
  unfold wnum; split
  · omega
  · exact ulayL_len t
theorem flat_len (f : Int → List Int) (h : ∀ n, (f n).length ≤ 4) : ∀ l : List Int, (l.flatMap f).length ≤ 4 * l.length
  | [] => by simp
  | x :: l => by
    have := flat_len f h l
    have := h x
    rw [List.flatMap_cons, List.length_append, List.length_cons]; omega
theorem wideL_len (wd : Int) (big : Bool) (t : List Int) : (wideL wd big t).length ≤ 8 * t.length := by
  have h1 := wnum_len wd t
  have h2 := flat_len (grp wd big) (grp_len wd big) (wnum wd t)
  rw [wideL]; omega
theorem wnum_snoc {wd : Int} {t : List Int} {k : Nat} {x : Int} (h : t[k]? = some x) : wnum wd (t.take (k + 1)) = wnum wd (t.take k) ++ (if wd = 4 then [x] else uof x) := by
  unfold wnum; split
  · rw [List.take_add_one, h]; rfl
  · exact ulayL_snoc h
theorem flat_snoc {f : Int → List Int} {l : List Int} {k : Nat} {x : Int} (h : l[k]? = some x) : (l.take (k + 1)).flatMap f = (l.take k).flatMap f ++ f x := by
  rw [List.take_add_one, h, List.flatMap_append]; simp
theorem wnum_rng {wd : Int} {t : List Int} (h : allSc t = true) : Rg 0 4294967296 (wnum wd t) ∧ (wd = 2 → Rg 0 65536 (wnum wd t)) := by
  refine ⟨?_, ?_⟩
  · unfold wnum; split
    · intro x hx; have := scB_iff.1 (List.all_eq_true.1 h x hx); omega
    · intro x hx; have := ulay_rng t x hx; omega
  · intro h2; unfold wnum; rw [if_neg (by omega)]; exact ulay_rng t
end Go.Proofs.YtponfaglflmnkaaGreat
