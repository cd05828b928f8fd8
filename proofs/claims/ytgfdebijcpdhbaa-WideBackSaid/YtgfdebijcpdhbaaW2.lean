/- Walks: UTF-16, the reading of units. -/
import Derived.Test.YtgfdebijcpdhbaaW1
namespace Go.Proofs.Ytgfdebijcpdhbaa
open Go.RowKit
set_option maxHeartbeats 400000

/-- What the loop of read keeps. -/
def UR (w : World) (xs : List Int) (u t f : Value) (wr : World) : Prop :=
  ∃ ps rest, Row w u (ints .u16 rest) ∧ Rg 0 65536 rest ∧ uread xs = ps ++ uread rest ∧ ps.length + rest.length ≤ xs.length ∧
    Own w.heap.size 21 wr t (ints .i32 (ps.map Prod.fst)) ∧ f = .int .i64 (ferr (ps.map Prod.snd)) ∧ Below w.heap.size w wr

theorem UR_step {w : World} {xs : List Int} {ps : List (Int × Int)} {x : Int} {r : List Int} {q c e n : Int} {u2 t2 : Value} {w2 : World} (hgr : Rg 0 65536 (x :: r))
    (HP : uread xs = ps ++ uread (x :: r)) (HU : uread (x :: r) = (c, e) :: uread ((x :: r).drop n.toNat)) (HL : ps.length + (x :: r).length ≤ xs.length)
    (hown2 : Own w.heap.size 21 w2 t2 (ints .i32 (ps.map Prod.fst) ++ ints .i32 [c])) (hb2 : Below w.heap.size w w2) (hu2 : Row w u2 ((ints .u16 (x :: r)).drop n.toNat)) (hn : 1 ≤ n)
    (hq : ferr ((ps ++ [(c, e)]).map Prod.snd) = q) :
    UR w xs u2 t2 (.int .i64 q) w2 := by
  refine ⟨ps ++ [(c, e)], (x :: r).drop n.toNat, by rw [← ints_drop]; exact hu2, hgr.drop _, by rw [HP, HU]; simp, ?_, by rw [List.map_append, ints_append]; exact hown2, by rw [hq], hb2⟩
  simp only [List.length_append, List.length_drop, List.length_cons, List.length_nil] at HL ⊢
  omega

theorem uread_any (v : Value) (xs : List Int) (w : World) (h : Row w v (ints .u16 xs)) (hg : Rg 0 65536 xs) (hl : xs.length ≤ 1000000) :
    Calls Try.prog 52 #[v] w fun e w' => ∃ t, e = .returned (.tuple #[t, .int .i64 (ferr ((uread xs).map Prod.snd))]) ∧ Own w.heap.size 21 w' t (ints .i32 ((uread xs).map Prod.fst)) ∧ Below w.heap.size w w' := by
  go_enter Try.func52, Try.ntmps52
  go_wp2
  go_loopw [0, 4, 5] (fun u t f wr => UR w xs u t f wr) (fun u _ _ _ => lenOf u)
  case atStart => exact ⟨[], xs, h, hg, rfl, by simp, Own.nil _ _ _, rfl, Below.refl _ _⟩
  case round =>
    obtain ⟨ps, rest, hrow, hgr, hps, hlen, hown, rfl, hb⟩ := hrel
    have HP := Lib.hid hps; clear hps h hg
    cases rest with
    | nil =>
      obtain ⟨a, b, off, cap, rfl, HC⟩ := hrow.op
      go_wp2
      go_ret2
      rw [uread_nil, List.append_nil] at HP
      exact ⟨_, ret2 rfl (iv (by rw [HP.out])), by rw [HP.out]; exact hown, hb⟩
    | cons x r =>
      obtain ⟨a, b, off, cap, rfl, HC⟩ := id hrow.op
      clear HC
      have hn := uone_n x r
      have hlr : (x :: r).length ≤ 1000000000 := by simp at hlen ⊢; omega
      obtain ⟨q, HQ⟩ : ∃ q, Hid (ferr (ps.map Prod.snd) = q) := ⟨_, rfl⟩
      rw [HQ.out]
      have hcons := uread_cons x r
      have hrng := uone_rng hgr
      obtain ⟨n, hN⟩ : ∃ n, (uone x r).2.1 = n := ⟨_, rfl⟩
      obtain ⟨c, hC⟩ : ∃ c, (uone x r).1 = c := ⟨_, rfl⟩
      obtain ⟨e, hE⟩ : ∃ e, (uone x r).2.2 = e := ⟨_, rfl⟩
      have hone := fun w' hr => uone_any (.slice a (x :: r).length cap) x r w' hr hgr hlr
      rw [hN, hC, hE] at hone hcons
      rw [hN] at hn
      rw [hC] at hrng
      clear hN hC hE
      have hn1 : 1 ≤ n ∧ n ≤ (r.length : Int) + 1 := by
        rcases hn with hn | ⟨hn, hr⟩
        · omega
        · cases r with
          | nil => exact absurd rfl hr
          | cons => simp; omega
      clear hn
      have HU := Lib.hid hcons; clear hcons
      have HO := Lib.hid hone; clear hone
      have HL := Lib.hid hlen; clear hlen hlr
      by_cases hq : (q == 0) = true
      · go_wp2_with (first | (go_at_call 53; refine (HO.out _ (hrow.below hb)).mono ?_; rintro e' w1 ⟨rfl, hb1⟩) | (at_builtin; refine wpList_app slT_i32 w.heap.size _ _ rfl rfl rfl rfl ((hown.below hb1).alloc _) (Row.ilit [c] [_] rfl (by simp)) (by have := HL.out; simp [ints] at this ⊢; omega) (by have := hb.size; have := hb1.size; simp; omega) ?_; intro t2 w2 hown2 hg2; have hb2 : Below w.heap.size w w2 := below_own ((hb.trans (hb1.mono hb.size)).alloc (Nat.le_trans hb.size hb1.size) _) ((hown.below hb1).alloc _) hg2 (by have := hb.size; have := hb1.size; simp; omega) (Nat.le_refl _)) | (refine wpList_slL slT_u16 _ _ rfl rfl rfl rfl (hrow.below hb2) (by omega) (by simp [ints]; omega) ?_; intro u2 hu2))
        go_roundw
        case rel => exact UR_step hgr HP.out HU.out HL.out hown2 hb2 (hu2 _ hrow) hn1.1 (by rw [List.map_append, List.map_cons, List.map_nil, ferr_snoc, HQ.out, if_pos (by simpa using hq)])
        case measure => rw [(hu2 _ hrow).len]; simp [lenOf, ints]; omega
      · replace hq : (q == 0) = false := by simpa using hq
        go_wp2_with (first | (go_at_call 53; refine (HO.out _ (hrow.below hb)).mono ?_; rintro e' w1 ⟨rfl, hb1⟩) | (at_builtin; refine wpList_app slT_i32 w.heap.size _ _ rfl rfl rfl rfl ((hown.below hb1).alloc _) (Row.ilit [c] [_] rfl (by simp)) (by have := HL.out; simp [ints] at this ⊢; omega) (by have := hb.size; have := hb1.size; simp; omega) ?_; intro t2 w2 hown2 hg2; have hb2 : Below w.heap.size w w2 := below_own ((hb.trans (hb1.mono hb.size)).alloc (Nat.le_trans hb.size hb1.size) _) ((hown.below hb1).alloc _) hg2 (by have := hb.size; have := hb1.size; simp; omega) (Nat.le_refl _)) | (refine wpList_slL slT_u16 _ _ rfl rfl rfl rfl (hrow.below hb2) (by omega) (by simp [ints]; omega) ?_; intro u2 hu2))
        go_roundw
        case rel => exact UR_step hgr HP.out HU.out HL.out hown2 hb2 (hu2 _ hrow) hn1.1 (by rw [List.map_append, List.map_cons, List.map_nil, ferr_snoc, HQ.out, if_neg (by simpa using hq)])
        case measure => rw [(hu2 _ hrow).len]; simp [lenOf, ints]; omega
end Go.Proofs.Ytgfdebijcpdhbaa
