/- Walks: UTF-16, the reference's reading. -/
import Derived.Test.YtgfdebijcpdhbaaW2
namespace Go.Proofs.Ytgfdebijcpdhbaa
open Go.RowKit
set_option maxHeartbeats 400000

/-- What the loop keeps. -/
def RR (w : World) (xs : List Int) (t f i : Value) (wr : World) : Prop :=
  ∃ (ps : List (Int × Int)) (k : Nat) (q : Int), i = .int .i64 k ∧ k ≤ xs.length ∧ Hid (uread xs = ps ++ uread (xs.drop k)) ∧ Hid (ps.length ≤ k) ∧
    Own w.heap.size 21 wr t (ints .i32 (ps.map Prod.fst)) ∧ f = .int .i64 q ∧ Hid (ferr (ps.map Prod.snd) = q) ∧ Below w.heap.size w wr
theorem RR_step {w : World} {xs : List Int} {ps : List (Int × Int)} {k n : Nat} {q q' c e : Int} {t2 : Value} {w2 : World}
    (HP : Hid (uread xs = ps ++ uread (xs.drop k))) (HU : uread (xs.drop k) = (c, e) :: uread (xs.drop (k + n))) (HL : Hid (ps.length ≤ k)) (hk : k + n ≤ xs.length) (hn : 1 ≤ n)
    (hown2 : Own w.heap.size 21 w2 t2 (ints .i32 (ps.map Prod.fst) ++ ints .i32 [c])) (hb2 : Below w.heap.size w w2) (HQ : Hid (ferr (ps.map Prod.snd) = q)) (hq : q' = if q = 0 then e else q)
    {j : Int} (hj : j = ((k + n : Nat) : Int)) :
    RR w xs t2 (.int .i64 q') (.int .i64 j) w2 := by
  refine ⟨ps ++ [(c, e)], k + n, q', by rw [hj], hk, by rw [show Hid (uread xs = ps ++ [(c, e)] ++ uread (xs.drop (k + n))) = (uread xs = ps ++ [(c, e)] ++ uread (xs.drop (k + n))) from rfl, HP.out, HU]; simp, ?_,
    by rw [List.map_append, ints_append]; exact hown2, rfl, ?_, hb2⟩
  · have := HL.out
    show _ ≤ _
    simp; omega
  · show _ = _
    rw [List.map_append, List.map_cons, List.map_nil, ferr_snoc, HQ.out, hq]
theorem drop_eq {xs : List Int} {k : Nat} {x : Int} (h : xs[k]? = some x) : xs.drop k = x :: xs.drop (k + 1) := by
  obtain ⟨hk, rfl⟩ := List.getElem?_eq_some_iff.1 h
  rw [List.drop_eq_getElem_cons hk]

set_option maxRecDepth 100000 in
theorem rread_any (v : Value) (xs : List Int) (w : World) (h : Row w v (ints .u16 xs)) (hg : Rg 0 65536 xs) (hl : xs.length ≤ 1000000) :
    Calls Try.prog 30 #[v] w fun e w' => ∃ t, e = .returned (.tuple #[t, .int .i64 (ferr ((uread xs).map Prod.snd))]) ∧ Own w.heap.size 21 w' t (ints .i32 ((uread xs).map Prod.fst)) ∧ Below w.heap.size w w' := by
  obtain ⟨a, b, off, cap, rfl, HC⟩ := h.op
  clear h
  go_enter Try.func30, Try.ntmps30
  go_wp2
  go_loopw [4, 5, 6] (fun t f i wr => RR w xs t f i wr) (fun _ _ i _ => xs.length - (intOf i).toNat)
  case atStart => exact ⟨[], 0, 0, rfl, Nat.zero_le _, rfl, Nat.le_refl _, Own.nil _ _ _, rfl, rfl, Below.refl _ _⟩
  case round =>
    obtain ⟨ps, k, q, rfl, hk, HP, HL, hown, rfl, HQ, hb⟩ := hrel
    by_cases hlt : k < xs.length
    · obtain ⟨x, HX, rfl, hc⟩ := HC.out k hlt
      have HCA := Lib.hid hc; clear hc
      have hc := HCA.out wr hb
      have HD := Lib.hid (drop_eq HX.out)
      have hxr := hg.get HX.out
      by_cases hlo : loB x = true
      · have hhi := hiB_not_lo hlo
        by_cases hq : (q == 0) = true
        · go_wp2_with (first | (go_at_call 40; refine (rHigh_any _ _).mono ?_; rintro e' w1 ⟨rfl, rfl⟩) | (go_at_call 41; refine (rLow_any _ _).mono ?_; rintro e' w1 ⟨rfl, rfl⟩) | (at_builtin; refine wpList_app slT_i32 _ _ _ rfl rfl rfl rfl (hown.alloc _) (Row.ilit [_] [_] rfl (by simp)) (by have := HL.out; simp [ints] at this ⊢; omega) (by have := hb.size; simp; omega) ?_; intro t2 w2 hown2 hg2; have hb2 : Below w.heap.size w w2 := below_own (hb.alloc hb.size _) (hown.alloc _) hg2 (by have := hb.size; simp; omega) (Nat.le_refl _); have hc2 := HCA.out w2 hb2))
          go_roundw
          case rel => exact RR_step (n := 1) (e := 3) HP (by rw [HD.out, uread_lo _ hlo]) HL (by omega) (by omega) hown2 hb2 HQ (by rw [if_pos (by simpa using hq)]) (by omega)
          case measure => simp [intOf]; omega
        · replace hq : (q == 0) = false := by simpa using hq
          go_wp2_with (first | (go_at_call 40; refine (rHigh_any _ _).mono ?_; rintro e' w1 ⟨rfl, rfl⟩) | (go_at_call 41; refine (rLow_any _ _).mono ?_; rintro e' w1 ⟨rfl, rfl⟩) | (at_builtin; refine wpList_app slT_i32 _ _ _ rfl rfl rfl rfl (hown.alloc _) (Row.ilit [_] [_] rfl (by simp)) (by have := HL.out; simp [ints] at this ⊢; omega) (by have := hb.size; simp; omega) ?_; intro t2 w2 hown2 hg2; have hb2 : Below w.heap.size w w2 := below_own (hb.alloc hb.size _) (hown.alloc _) hg2 (by have := hb.size; simp; omega) (Nat.le_refl _); have hc2 := HCA.out w2 hb2))
          go_roundw
          case rel => exact RR_step (n := 1) (e := 3) HP (by rw [HD.out, uread_lo _ hlo]) HL (by omega) (by omega) hown2 hb2 HQ (by rw [if_neg (by simpa using hq)]) (by omega)
          case measure => simp [intOf]; omega
      · replace hlo : loB x = false := by simpa using hlo
        by_cases hhi : hiB x = true
        · by_cases hk1 : k + 1 < xs.length
          · obtain ⟨y, HY, _, hd⟩ := HC.out (k + 1) hk1
            have HDA := Lib.hid hd; clear hd
            have hd := HDA.out wr hb
            have HE := Lib.hid (drop_eq HY.out)
            have hyr := hg.get HY.out
            have hk1' : (k : Int) + 1 < xs.length := by omega
            by_cases hly : loB y = true
            · have h1 := hiB_iff.1 hhi
              have h2 := loB_iff.1 hly
              go_wp2_with (first | (go_at_call 40; refine (rHigh_any _ _).mono ?_; rintro e' w1 ⟨rfl, rfl⟩) | (go_at_call 41; refine (rLow_any _ _).mono ?_; rintro e' w1 ⟨rfl, rfl⟩) | (at_builtin; refine wpList_app slT_i32 _ _ _ rfl rfl rfl rfl (hown.alloc _) (Row.ilit [_] [_] rfl (by simp)) (by have := HL.out; simp [ints] at this ⊢; omega) (by have := hb.size; simp; omega) ?_; intro t2 w2 hown2 hg2; have hb2 : Below w.heap.size w w2 := below_own (hb.alloc hb.size _) (hown.alloc _) hg2 (by have := hb.size; simp; omega) (Nat.le_refl _); have hc2 := HCA.out w2 hb2))
              have hw1 : IntKind.i64.wrap ((k : Int) + 1) = k + 1 := IntWalk.i64_in _ (by omega)
              have hw2 : (0 : Int) ≤ (k : Int) + 1 := by omega
              have hw3 : ((k : Int) + 1).toNat = k + 1 := by omega
              go_region_held3 (fun w' => w'.cell? ⟨b, off + k, none⟩ = some (.int .u16 x) ∧ w'.cell? ⟨b, off + (k + 1), none⟩ = some (.int .u16 y)) (first | go_keep | exact ⟨HCA.out _ hb2, HDA.out _ hb2⟩) ((refine step_app slT_i32 _ _ _ (by rfl) (by rfl) (by rfl) (by rfl) (by first | exact hown.drew.alloc _ | exact (hown.alloc _).drew) (by first | exact Row.ilit [_] [_] rfl (by simp) | exact (Row.ilit [_] [_] rfl (by simp)).drew) (by have := HL.out; simp [ints] at this ⊢; omega) (by have := hb.size; simp; omega) ?_; intro t2 w2 hown2 hg2; have hb2 : Below w.heap.size w w2 := below_own (by first | exact hb.drew.alloc hb.size _ | exact (hb.alloc hb.size _).drew) (by first | exact hown.drew.alloc _ | exact (hown.alloc _).drew) hg2 (by have := hb.size; simp; omega) (Nat.le_refl _)))
              go_wp2
              go_roundw
              case rel => exact RR_step (n := 2) (c := 65536 + ((x - 55296) * 1024 + (y - 56320))) (e := 0) HP (by rw [HD.out, HE.out, uread_pair _ hlo hhi hly]) HL (by omega) (by omega) (by rw [show (65536 + ((x - 55296) * 1024 + (y - 56320)) : Int) = IntKind.i32.wrap (IntKind.i64.wrap (IntKind.i64.wrap (IntKind.i64.wrap (65536 + IntKind.i64.wrap (1024 * IntKind.i64.wrap (IntKind.i64.wrap x - 55296))) + IntKind.i64.wrap y) - 56320)) from by simp only [IntKind.wrap_i64, IntKind.wrap_i32]; omega]; exact hown2) hb2 HQ (by split <;> simp_all) (by omega)
              case measure => simp [intOf]; omega
            · replace hly : loB y = false := by simpa using hly
              by_cases hq : (q == 0) = true
              · go_wp2_with (first | (go_at_call 40; refine (rHigh_any _ _).mono ?_; rintro e' w1 ⟨rfl, rfl⟩) | (go_at_call 41; refine (rLow_any _ _).mono ?_; rintro e' w1 ⟨rfl, rfl⟩) | (at_builtin; refine wpList_app slT_i32 _ _ _ rfl rfl rfl rfl (hown.alloc _) (Row.ilit [_] [_] rfl (by simp)) (by have := HL.out; simp [ints] at this ⊢; omega) (by have := hb.size; simp; omega) ?_; intro t2 w2 hown2 hg2; have hb2 : Below w.heap.size w w2 := below_own (hb.alloc hb.size _) (hown.alloc _) hg2 (by have := hb.size; simp; omega) (Nat.le_refl _); have hc2 := HCA.out w2 hb2))
                go_roundw
                case rel => exact RR_step (n := 1) (e := 3) HP (by rw [HD.out, HE.out, uread_bad _ hlo hhi hly]) HL (by omega) (by omega) hown2 hb2 HQ (by rw [if_pos (by simpa using hq)]) (by omega)
                case measure => simp [intOf]; omega
              · replace hq : (q == 0) = false := by simpa using hq
                go_wp2_with (first | (go_at_call 40; refine (rHigh_any _ _).mono ?_; rintro e' w1 ⟨rfl, rfl⟩) | (go_at_call 41; refine (rLow_any _ _).mono ?_; rintro e' w1 ⟨rfl, rfl⟩) | (at_builtin; refine wpList_app slT_i32 _ _ _ rfl rfl rfl rfl (hown.alloc _) (Row.ilit [_] [_] rfl (by simp)) (by have := HL.out; simp [ints] at this ⊢; omega) (by have := hb.size; simp; omega) ?_; intro t2 w2 hown2 hg2; have hb2 : Below w.heap.size w w2 := below_own (hb.alloc hb.size _) (hown.alloc _) hg2 (by have := hb.size; simp; omega) (Nat.le_refl _); have hc2 := HCA.out w2 hb2))
                go_roundw
                case rel => exact RR_step (n := 1) (e := 3) HP (by rw [HD.out, HE.out, uread_bad _ hlo hhi hly]) HL (by omega) (by omega) hown2 hb2 HQ (by rw [if_neg (by simpa using hq)]) (by omega)
                case measure => simp [intOf]; omega
          · have hk1' : ¬ ((k : Int) + 1 < xs.length) := by omega
            have hn0 : xs.drop (k + 1) = [] := by rw [List.drop_eq_nil_iff]; omega
            have HE := Lib.hid hn0; clear hn0
            by_cases hq : (q == 0) = true
            · go_wp2_with (first | (go_at_call 40; refine (rHigh_any _ _).mono ?_; rintro e' w1 ⟨rfl, rfl⟩) | (go_at_call 41; refine (rLow_any _ _).mono ?_; rintro e' w1 ⟨rfl, rfl⟩) | (at_builtin; refine wpList_app slT_i32 _ _ _ rfl rfl rfl rfl (hown.alloc _) (Row.ilit [_] [_] rfl (by simp)) (by have := HL.out; simp [ints] at this ⊢; omega) (by have := hb.size; simp; omega) ?_; intro t2 w2 hown2 hg2; have hb2 : Below w.heap.size w w2 := below_own (hb.alloc hb.size _) (hown.alloc _) hg2 (by have := hb.size; simp; omega) (Nat.le_refl _); have hc2 := HCA.out w2 hb2))
              go_roundw
              case rel => exact RR_step (n := 1) (e := 4) HP (by rw [HD.out, HE.out, uread_end hlo hhi]) HL (by omega) (by omega) hown2 hb2 HQ (by rw [if_pos (by simpa using hq)]) (by omega)
              case measure => simp [intOf]; omega
            · replace hq : (q == 0) = false := by simpa using hq
              go_wp2_with (first | (go_at_call 40; refine (rHigh_any _ _).mono ?_; rintro e' w1 ⟨rfl, rfl⟩) | (go_at_call 41; refine (rLow_any _ _).mono ?_; rintro e' w1 ⟨rfl, rfl⟩) | (at_builtin; refine wpList_app slT_i32 _ _ _ rfl rfl rfl rfl (hown.alloc _) (Row.ilit [_] [_] rfl (by simp)) (by have := HL.out; simp [ints] at this ⊢; omega) (by have := hb.size; simp; omega) ?_; intro t2 w2 hown2 hg2; have hb2 : Below w.heap.size w w2 := below_own (hb.alloc hb.size _) (hown.alloc _) hg2 (by have := hb.size; simp; omega) (Nat.le_refl _); have hc2 := HCA.out w2 hb2))
              go_roundw
              case rel => exact RR_step (n := 1) (e := 4) HP (by rw [HD.out, HE.out, uread_end hlo hhi]) HL (by omega) (by omega) hown2 hb2 HQ (by rw [if_neg (by simpa using hq)]) (by omega)
              case measure => simp [intOf]; omega
        · replace hhi : hiB x = false := by simpa using hhi
          go_wp2_with (first | (go_at_call 40; refine (rHigh_any _ _).mono ?_; rintro e' w1 ⟨rfl, rfl⟩) | (go_at_call 41; refine (rLow_any _ _).mono ?_; rintro e' w1 ⟨rfl, rfl⟩) | (at_builtin; refine wpList_app slT_i32 _ _ _ rfl rfl rfl rfl (hown.alloc _) (Row.ilit [_] [_] rfl (by simp)) (by have := HL.out; simp [ints] at this ⊢; omega) (by have := hb.size; simp; omega) ?_; intro t2 w2 hown2 hg2; have hb2 : Below w.heap.size w w2 := below_own (hb.alloc hb.size _) (hown.alloc _) hg2 (by have := hb.size; simp; omega) (Nat.le_refl _); have hc2 := HCA.out w2 hb2))
          go_roundw
          case rel => exact RR_step (n := 1) (e := 0) HP (by rw [HD.out, uread_bmp _ hlo hhi]) HL (by omega) (by omega) hown2 hb2 HQ (by split <;> simp_all) (by omega)
          case measure => simp [intOf]; omega
    · have hk0 : xs.drop k = [] := by rw [List.drop_eq_nil_iff]; omega
      have HE := Lib.hid hk0; clear hk0
      go_wp2
      go_ret2
      have hpp : uread xs = ps := by rw [HP.out, HE.out, uread_nil, List.append_nil]
      exact ⟨_, ret2 rfl (iv (by rw [hpp, HQ.out])), by rw [hpp]; exact hown, hb⟩
end Go.Proofs.Ytgfdebijcpdhbaa
