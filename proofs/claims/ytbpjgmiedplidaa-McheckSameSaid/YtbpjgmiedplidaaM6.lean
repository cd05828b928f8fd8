/- Walks: the reader's record. · Walks: what stands behind a sign that shifts. · Walks: a run behind a sign that shifts. · Walks: the reader's step; reading. · Walks: reading, by the program. (laid together by program out of single texts). -/
import Derived.Test.YtbpjgmiedplidaaM5
namespace Go.Proofs.Ytbpjgmiedplidaa
open Go.RowKit
set_option maxHeartbeats 1000000
/-- The reader's record at block B: what is left, the text so far, how many runs, whether something was wrong. -/
def Rd (B : Nat) (w : World) (lv : Value) (T : List Int) (n : Int) (b : Bool) : Prop :=
  ∃ tv, w.cell? ⟨B, 0, none⟩ = some lv ∧ w.cell? ⟨B, 1, none⟩ = some tv ∧ w.cell? ⟨B, 2, none⟩ = some (.int .i64 n) ∧ w.cell? ⟨B, 3, none⟩ = some (.bool b) ∧ (∀ j, w.frozen? ⟨B, j, none⟩ = false) ∧ Own (B + 1) 21 w tv (ints .i32 T) ∧ B < w.heap.size
theorem Rd.below {B : Nat} {w w' : World} {lv : Value} {T : List Int} {n : Int} {b : Bool} (h : Rd B w lv T n b) (hb : Below w.heap.size w w') : Rd B w' lv T n b := by
  obtain ⟨tv, h0, h1, h2, h3, hf, ho, hB⟩ := h
  exact ⟨tv, (hb.cell (p := ⟨B, 0, none⟩) hB).trans h0, (hb.cell (p := ⟨B, 1, none⟩) hB).trans h1, (hb.cell (p := ⟨B, 2, none⟩) hB).trans h2, (hb.cell (p := ⟨B, 3, none⟩) hB).trans h3, fun j => (hb.frozen (p := ⟨B, j, none⟩) hB).trans (hf j), ho.below hb, Nat.lt_of_lt_of_le hB hb.size⟩
theorem grownBy_set (W : World) (B i : Nat) (u : Value) : W.grownBy (W.setCell ⟨B, i, none⟩ u) (some B) :=
  ⟨rfl, rfl, rfl, by simp [World.setCell], fun k _ hk => Below.heap_setCell _ _ _ _ (fun e => hk (by simp [e]))⟩
theorem Own.kept {B : Nat} {E : TypeId} {w w' : World} {v : Value} {cs : List Value} (h : Own B E w v cs) {k : Nat} (hg : w.grownBy w' (some k)) (hk : k < B) : Own B E w' v cs := by
  refine ⟨h.1.kept hg ?_, h.2⟩
  rcases h.1.2 with ⟨rfl, _⟩ | ⟨g, cap, cur, rfl, hB, _⟩
  · exact .inl rfl
  · right; simp [Value.ownBlock]; omega
theorem cell_other {w : World} {B i j : Nat} {u : Value} (h : i ≠ j) : (w.setCell ⟨B, i, none⟩ u).cell? ⟨B, j, none⟩ = w.cell? ⟨B, j, none⟩ := World.cell?_setCell_other _ _ _ _ (fun e => h (by cases e; rfl))
theorem Rd.setL {B : Nat} {w : World} {lv : Value} {T : List Int} {n : Int} {b : Bool} (h : Rd B w lv T n b) (u : Value) : Rd B (w.setCell ⟨B, 0, none⟩ u) u T n b := by
  obtain ⟨tv, h0, h1, h2, h3, hf, ho, hB⟩ := h
  refine ⟨tv, World.cell?_setCell_same' _ _ _ (by rw [h0]; rfl), ?_, ?_, ?_, fun j => by rw [World.frozen?_setCell]; exact hf j, ho.kept (grownBy_set _ _ _ _) (by omega), by rw [World.size_setCell]; exact hB⟩
  · exact (cell_other (by decide)).trans h1
  · exact (cell_other (by decide)).trans h2
  · exact (cell_other (by decide)).trans h3
theorem Rd.setN {B : Nat} {w : World} {lv : Value} {T : List Int} {n : Int} {b : Bool} (h : Rd B w lv T n b) (m : Int) : Rd B (w.setCell ⟨B, 2, none⟩ (.int .i64 m)) lv T m b := by
  obtain ⟨tv, h0, h1, h2, h3, hf, ho, hB⟩ := h
  refine ⟨tv, ?_, ?_, World.cell?_setCell_same' _ _ _ (by rw [h2]; rfl), ?_, fun j => by rw [World.frozen?_setCell]; exact hf j, ho.kept (grownBy_set _ _ _ _) (by omega), by rw [World.size_setCell]; exact hB⟩
  · exact (cell_other (by decide)).trans h0
  · exact (cell_other (by decide)).trans h1
  · exact (cell_other (by decide)).trans h3
theorem Rd.setW {B : Nat} {w : World} {lv : Value} {T : List Int} {n : Int} {b : Bool} (h : Rd B w lv T n b) (q : Bool) : Rd B (w.setCell ⟨B, 3, none⟩ (.bool q)) lv T n q := by
  obtain ⟨tv, h0, h1, h2, h3, hf, ho, hB⟩ := h
  refine ⟨tv, ?_, ?_, ?_, World.cell?_setCell_same' _ _ _ (by rw [h3]; rfl), fun j => by rw [World.frozen?_setCell]; exact hf j, ho.kept (grownBy_set _ _ _ _) (by omega), by rw [World.size_setCell]; exact hB⟩
  · exact (cell_other (by decide)).trans h0
  · exact (cell_other (by decide)).trans h1
  · exact (cell_other (by decide)).trans h2
/-- The text grows: it is appended to, and the field is set. -/
theorem Rd.setT {B : Nat} {w w' : World} {lv tv t2 : Value} {T2 : List Int} {n : Int} {b : Bool} (h0 : w.cell? ⟨B, 0, none⟩ = some lv) (h1 : w.cell? ⟨B, 1, none⟩ = some tv) (h2 : w.cell? ⟨B, 2, none⟩ = some (.int .i64 n)) (h3 : w.cell? ⟨B, 3, none⟩ = some (.bool b)) (hf : ∀ j, w.frozen? ⟨B, j, none⟩ = false) (hB : B < w.heap.size)
    (hb : Below (B + 1) w w') (ho : Own (B + 1) 21 w' t2 (ints .i32 T2)) : Rd B (w'.setCell ⟨B, 1, none⟩ t2) lv T2 n b := by
  have hs := hb.size
  have c : ∀ j, w'.cell? ⟨B, j, none⟩ = w.cell? ⟨B, j, none⟩ := fun j => hb.cell (p := ⟨B, j, none⟩) (Nat.lt_succ_self _)
  have f : ∀ j, w'.frozen? ⟨B, j, none⟩ = w.frozen? ⟨B, j, none⟩ := fun j => hb.frozen (p := ⟨B, j, none⟩) (Nat.lt_succ_self _)
  refine ⟨t2, ?_, World.cell?_setCell_same' _ _ _ (by rw [c, h1]; rfl), ?_, ?_, fun j => by rw [World.frozen?_setCell, f]; exact hf j, ho.kept (grownBy_set _ _ _ _) (by omega), by rw [World.size_setCell]; omega⟩
  · exact ((cell_other (by decide)).trans (c _)).trans h0
  · exact ((cell_other (by decide)).trans (c _)).trans h2
  · exact ((cell_other (by decide)).trans (c _)).trans h3
theorem put_any (B : Nat) (w : World) (lv : Value) (T : List Int) (n : Int) (b : Bool) (c : Int) (h : Rd B w lv T n b) (hl : T.length ≤ 100000) :
    Calls Try.prog 106 #[.pointer (some ⟨B, 0, none⟩), .int .i32 c] w fun e w' => (∃ v, e = .returned v) ∧ Rd B w' lv (T ++ [c]) n b ∧ Below B w w' := by
  obtain ⟨tv, h0, h1, h2, h3, hf, ho, hB⟩ := id h
  go_enter Try.func106, Try.ntmps106
  go_wp2_with (at_builtin; refine wpList_app slT_i32 _ _ _ rfl rfl rfl rfl (ho.alloc _) (Row.ilit [_] [_] rfl (by simp)) (by simp [ints]; omega) (by simp; omega) ?_; intro t2 w2 hown2 hg2; rw [← ints_append] at hown2; have hb2 : Below (B + 1) w w2 := below_own ((Below.refl _ w).alloc hB _) (ho.alloc _) hg2 (by simp; omega) (Nat.le_refl _); have c1 := (hb2.cell (p := ⟨B, 1, none⟩) (Nat.lt_succ_self _)).trans h1; have f1 := (hb2.frozen (p := ⟨B, 1, none⟩) (Nat.lt_succ_self _)).trans (hf 1); obtain ⟨a2, b2, o2, c2, rfl, _⟩ := id hown2.row.op; rw [show (T ++ [c]).length = T.length + 1 by simp] at hown2)
  go_end0
  exact ⟨⟨_, rfl⟩, Rd.setT h0 h1 h2 h3 hf hB hb2 hown2, (hb2.mono (Nat.le_succ _)).setCell (p := ⟨B, 1, none⟩) (Nat.le_refl _) _⟩
theorem digits_any (w0 : World) (w : World) (lv : Value) (r T : List Int) (n : Int) (b : Bool) (h : Rd w0.heap.size w lv T n b) (hr : Row w0 lv (ints .u8 r)) (hb0 : Below w0.heap.size w0 w) (hg : Rg 0 256 r) (hl : r.length ≤ 10000) :
    Calls Try.prog 110 #[.pointer (some ⟨w0.heap.size, 0, none⟩)] w fun e w' => ∃ dv' lv', e = .returned dv' ∧ Rd w0.heap.size w' lv' T n b ∧ Row w0 dv' (ints .u8 (r.take (dl r))) ∧ Row w0 lv' (ints .u8 (r.drop (dl r))) ∧ Below w0.heap.size w0 w' := by
  obtain ⟨tv, h0, h1, h2, h3, hf, ho, hB⟩ := id h
  obtain ⟨a, bb, off, cp, rfl, HC⟩ := hr.op
  have hdl := dl_le r
  have hst := fun k hk => @dl_step r k hk
  generalize dl r = m at *
  have HST := Lib.hid hst; clear hst
  go_enter Try.func110, Try.ntmps110
  go_wp2
  go_loopw [3] (fun i wr => ∃ k : Nat, i = .int .i64 k ∧ k ≤ m ∧ wr = w) (fun i _ => m - (intOf i).toNat)
  case atStart => exact ⟨0, rfl, Nat.zero_le _, rfl⟩
  case round =>
    obtain ⟨k, rfl, hk, rfl⟩ := hrel
    have hrw := hr.below hb0
    by_cases hlt : k < r.length
    · obtain ⟨c, HX, rfl, hc⟩ := HC.out k hlt
      replace hc := hc _ hb0
      have hcr := hg.get HX.out
      have hv := fun w => bValue_any c w hcr.1 hcr.2
      rcases HST.out k hk with ⟨c', hx, hn, hlm⟩ | ⟨hkm, hout⟩
      · have e : c' = c := by have h9 := HX.out; rw [hx] at h9; exact Option.some.inj h9
        subst e
        rw [Int.max_eq_left hn, decide_eq_true hn] at hv
        have HV := Lib.hid hv; clear hv hx hn
        go_wp2_with (go_at_call 93; refine (HV.out _).mono ?_; rintro e w' ⟨rfl, rfl⟩)
        go_roundw
        case rel => exact ⟨k + 1, by go_num, by omega, by first | rfl | trivial⟩
        case measure => simp [intOf]; omega
      · have hn := hout c HX.out
        subst hkm
        rw [Int.max_eq_right (by omega), decide_eq_false (by omega)] at hv
        have HV := Lib.hid hv; clear hv hn hout
        go_wp2_with (first | (go_at_call 93; refine (HV.out _).mono ?_; rintro e w' ⟨rfl, rfl⟩) | (refine wpList_slH slT_u8 _ _ rfl rfl rfl rfl hrw (by omega) (by simp [ints]; omega) ?_; intro v2 hv2; have r2 := hv2 w0 hr; rw [Int.toNat_natCast, ints_take] at r2) | (refine wpList_slL slT_u8 _ _ rfl rfl rfl rfl hrw (by omega) (by simp [ints]; omega) ?_; intro v3 hv3; have r3 := hv3 w0 hr; rw [Int.toNat_natCast, ints_drop] at r3; obtain ⟨a3, b3, o3, c3, rfl, _⟩ := id r3.op; have f0 := hf 0))
        go_ret
        exact ⟨_, _, rfl, h.setL _, r2, by rw [List.length_drop] at r3; exact r3, hb0.setCell (p := ⟨w0.heap.size, 0, none⟩) (Nat.le_refl _) _⟩
    · have hkm : k = r.length := by omega
      have hm : m = r.length := by omega
      subst hm
      subst hkm
      go_wp2_with (first | (refine wpList_slH slT_u8 _ _ rfl rfl rfl rfl hrw (by omega) (by simp [ints]) ?_; intro v2 hv2; have r2 := hv2 w0 hr; rw [Int.toNat_natCast, ints_take] at r2) | (refine wpList_slL slT_u8 _ _ rfl rfl rfl rfl hrw (by omega) (by simp [ints]) ?_; intro v3 hv3; have r3 := hv3 w0 hr; rw [Int.toNat_natCast, ints_drop] at r3; obtain ⟨a3, b3, o3, c3, rfl, _⟩ := id r3.op; have f0 := hf 0))
      go_ret
      exact ⟨_, _, rfl, h.setL _, r2, by rw [List.length_drop, Nat.sub_self] at r3; exact r3, hb0.setCell (p := ⟨w0.heap.size, 0, none⟩) (Nat.le_refl _) _⟩
/-- A row's value with its length as the walk has it. -/
theorem Row.len_eq {w : World} {a : Option Addr} {n m cap : Nat} {cs : List Value} (h : Row w (.slice a n cap) cs) (e : n = m) : Row w (.slice a m cap) cs := e ▸ h
theorem Own.len_eq {B : Nat} {E : TypeId} {w : World} {a : Option Addr} {n m cap : Nat} {cs : List Value} (h : Own B E w (.slice a n cap) cs) (e : n = m) : Own B E w (.slice a m cap) cs := e ▸ h
end Go.Proofs.Ytbpjgmiedplidaa
namespace Go.Proofs.Ytbpjgmiedplidaa
open Go.RowKit
set_option maxHeartbeats 2000000
theorem uread_len : ∀ (k : Nat) (xs : List Int), xs.length ≤ k → (uread xs).length ≤ xs.length
  | _, [], _ => by rw [uread_nil]; simp
  | 0, x :: r, h => by simp at h
  | k + 1, x :: r, h => by
    have hn := uone_n x r
    rw [uread_cons, List.length_cons]
    have ih := uread_len k ((x :: r).drop (uone x r).2.1.toNat) (by rw [List.length_drop]; simp only [List.length_cons] at h ⊢; omega)
    rw [List.length_drop] at ih
    simp only [List.length_cons] at ih ⊢
    omega
theorem runT_len (d : List Int) : (runT d).length ≤ d.length := by
  unfold runT
  split
  · rw [List.length_map]
    exact Nat.le_trans (uread_len _ _ (Nat.le_refl _)) (runU_len d)
  · simp
/-- What is asked of what follows. -/
def ShPost (w0 : World) (r T : List Int) (n : Int) (b : Bool) (w' : World) : Prop :=
  ∃ lv', Rd w0.heap.size w' lv' (T ++ sout 43 r) (n + srun 43 r) (b || swr 43 r) ∧ Row w0 lv' (ints .u8 (r.drop (sn 43 r))) ∧ Below w0.heap.size w0 w'
set_option maxRecDepth 100000 in
theorem shifted0_any (w0 : World) (w : World) (lv : Value) (r T : List Int) (n : Int) (b : Bool) (h : Rd w0.heap.size w lv T n b) (hr : Row w0 lv (ints .u8 r)) (hb0 : Below w0.heap.size w0 w) (hg : Rg 0 256 r) (hl : r.length ≤ 10000) (hT : T.length ≤ 60000) (hm : dl r = 0) :
    Calls Try.prog 107 #[.pointer (some ⟨w0.heap.size, 0, none⟩)] w fun e w' => (∃ v, e = .returned v) ∧ ShPost w0 r T n b w' := by
  have hdg := digits_any w0 w lv r T n b h hr hb0 hg hl
  have e1 : sout 43 r = [43] := by rw [sout, if_neg (by omega), if_pos rfl, if_pos hm]
  have e2 : srun 43 r = 0 := by simp [srun, hm]
  have e3 : swr 43 r = !decide (r[0]? = some 45) := by rw [swr, if_neg (by omega), if_pos rfl, if_pos hm, hm]
  have e4 : sn 43 r = if r[0]? = some 45 then 1 else 0 := by rw [sn, if_pos rfl, hm]
  have hP : ∀ w', ShPost w0 r T n b w' = ∃ lv', Rd w0.heap.size w' lv' (T ++ [43]) n (b || !decide (r[0]? = some 45)) ∧ Row w0 lv' (ints .u8 (r.drop (if r[0]? = some 45 then 1 else 0))) ∧ Below w0.heap.size w0 w' := fun w' => by rw [ShPost, e1, e2, e3, e4]; simp
  rw [hm] at hdg
  have HD := Lib.hid hdg
  generalize ShPost w0 r T n b = Q at *
  have HPP := Lib.hid hP
  clear hdg e1 e2 e3 e4 hm hP hg
  rcases hx : r with _ | ⟨x, r2⟩
  · subst hx
    rcases b with _ | _
    all_goals
      go_enter Try.func107, Try.ntmps107
      go_wp2_with (first | (go_at_call 110; refine (HD.out).mono ?_; rintro e w1 ⟨dv1, lv1, rfl, hrd, rd1, rl1, hb1⟩; simp only [List.take_zero, List.drop_zero] at rd1 rl1; obtain ⟨ad, bd, od, cd, rfl, _⟩ := id rd1.op; obtain ⟨al, bl, ol, cl, rfl, HCL⟩ := id rl1.op; obtain ⟨tv, q0, q1, q2, q3, qf, qo, qB⟩ := id hrd; have f0 := qf 0) | (go_at_call 106; refine (put_any _ _ _ _ _ _ _ hrd (by omega)).mono ?_; rintro e w2 ⟨⟨v2, rfl⟩, hrd2, hb2⟩; obtain ⟨tv2, p0, p1, p2, p3, pf, po, pB⟩ := id hrd2; have g3 := pf 3))
      (try simp only [Exit.inBlock, Exit.then])
      refine bodyPost_ret (results_none rfl _ _ _) rfl ?_
      refine ⟨⟨_, rfl⟩, ?_⟩
      rw [HPP.out]
      exact ⟨_, hrd2.setW _, rl1, (hb1.trans hb2).setCell (p := ⟨w0.heap.size, 3, none⟩) (Nat.le_refl _) _⟩
  · subst hx
    by_cases hx45 : x = 45
    · subst hx45
      rcases b with _ | _
      all_goals
        go_enter Try.func107, Try.ntmps107
        go_wp2_with fail
        refine (HD.out).mono ?_
        rintro e w1 ⟨dv1, lv1, rfl, hrd, rd1, rl1, hc1⟩
        have hb1 := hc1
        simp only [List.take_zero, List.drop_zero] at rd1 rl1
        obtain ⟨ad, bd, od, cd, rfl, _⟩ := id rd1.op
        obtain ⟨al, bl, ol, cl, rfl, HCL⟩ := id rl1.op
        obtain ⟨y, HY, rfl, hc⟩ := HCL.out 0 (by simp)
        have ey : (45 : Int) = y := by have h9 := HY.out; rw [List.getElem?_cons_zero] at h9; exact Option.some.inj h9
        subst ey
        replace hc := hc _ hb1
        simp only [Nat.add_zero] at hc
        obtain ⟨tv, q0, q1, q2, q3, qf, qo, qB⟩ := id hrd
        have f0 := qf 0
        go_wp2_with (first | (refine wpList_slL slT_u8 _ _ rfl rfl rfl rfl (rl1.below hb1) (by omega) (by simp [ints]; omega) ?_; intro v3 hv3; have r3 := hv3 w0 rl1; rw [show (1 : Int).toNat = 1 from rfl, ints_drop] at r3; obtain ⟨a3, b3, o3, c3, rfl, _⟩ := id r3.op) | (go_at_call 106; refine (put_any _ _ _ _ _ _ _ (hrd.setL _) (by omega)).mono ?_; rintro e w2 ⟨⟨v2, rfl⟩, hrd2, hb2⟩; obtain ⟨tv2, p0, p1, p2, p3, pf, po, pB⟩ := id hrd2; have g3 := pf 3))
        (try simp only [Exit.inBlock, Exit.then])
        refine bodyPost_ret (results_none rfl _ _ _) rfl ?_
        refine ⟨⟨_, rfl⟩, ?_⟩
        rw [HPP.out]
        exact ⟨_, hrd2.setW _, r3, ((hb1.setCell (p := ⟨w0.heap.size, 0, none⟩) (Nat.le_refl _) _).trans hb2).setCell (p := ⟨w0.heap.size, 3, none⟩) (Nat.le_refl _) _⟩
    · have hne : (x == 45) = false := beq_false_of_ne hx45
      have hdec : decide ((x :: r2)[0]? = some 45) = false := by simp [hx45]
      have hif : (if (x :: r2)[0]? = some 45 then 1 else 0) = 0 := by simp [hx45]
      rcases b with _ | _
      all_goals
        go_enter Try.func107, Try.ntmps107
        go_wp2_with fail
        refine (HD.out).mono ?_
        rintro e w1 ⟨dv1, lv1, rfl, hrd, rd1, rl1, hc1⟩
        have hb1 := hc1
        simp only [List.take_zero, List.drop_zero] at rd1 rl1
        obtain ⟨ad, bd, od, cd, rfl, _⟩ := id rd1.op
        obtain ⟨al, bl, ol, cl, rfl, HCL⟩ := id rl1.op
        obtain ⟨y, HY, rfl, hc⟩ := HCL.out 0 (by simp)
        have ey : x = y := by have h9 := HY.out; rw [List.getElem?_cons_zero] at h9; exact Option.some.inj h9
        subst ey
        replace hc := hc _ hb1
        simp only [Nat.add_zero] at hc
        obtain ⟨tv, q0, q1, q2, q3, qf, qo, qB⟩ := id hrd
        have f0 := qf 0
        go_wp2_with (first | (go_at_call 106; refine (put_any _ _ _ _ _ _ _ hrd (by omega)).mono ?_; rintro e w2 ⟨⟨v2, rfl⟩, hrd2, hb2⟩; obtain ⟨tv2, p0, p1, p2, p3, pf, po, pB⟩ := id hrd2; have g3 := pf 3))
        (try simp only [Exit.inBlock, Exit.then])
        refine bodyPost_ret (results_none rfl _ _ _) rfl ?_
        refine ⟨⟨_, rfl⟩, ?_⟩
        rw [HPP.out, hdec, hif]
        exact ⟨_, hrd2.setW _, rl1, (hb1.trans hb2).setCell (p := ⟨w0.heap.size, 3, none⟩) (Nat.le_refl _) _⟩
end Go.Proofs.Ytbpjgmiedplidaa
namespace Go.Proofs.Ytbpjgmiedplidaa
open Go.RowKit
set_option maxHeartbeats 2000000
set_option maxRecDepth 100000 in
theorem shiftedN_any (w0 : World) (w : World) (lv : Value) (r T : List Int) (n : Int) (b : Bool) (h : Rd w0.heap.size w lv T n b) (hr : Row w0 lv (ints .u8 r)) (hb0 : Below w0.heap.size w0 w) (hg : Rg 0 256 r) (hl : r.length ≤ 10000) (hT : T.length ≤ 60000) (hn0 : 0 ≤ n) (hn1 : n ≤ 60000) (hm : 0 < dl r) :
    Calls Try.prog 107 #[.pointer (some ⟨w0.heap.size, 0, none⟩)] w fun e w' => (∃ v, e = .returned v) ∧ ShPost w0 r T n b w' := by
  have hdg := digits_any w0 w lv r T n b h hr hb0 hg hl
  have hdl := dl_le r
  have hgd := hg.take (dl r)
  have e1 : sout 43 r = if runO (r.take (dl r)) then runT (r.take (dl r)) ++ [65533] else runT (r.take (dl r)) := by rw [sout, if_neg (by omega), if_pos rfl, if_neg (by omega)]
  have e2 : srun 43 r = 1 := by rw [srun, if_pos ⟨rfl, by omega⟩]
  have e3 : swr 43 r = !runR (r.take (dl r)) := by rw [swr, if_neg (by omega), if_pos rfl, if_neg (by omega)]
  have e4 : sn 43 r = if r[dl r]? = some 45 then dl r + 1 else dl r := by rw [sn, if_pos rfl]
  have hrun := fun v w' h' => orun_any v (r.take (dl r)) w' h' hgd (by rw [List.length_take]; omega)
  rw [dl_all, Bool.true_and] at hrun
  have hTd := runT_len (r.take (dl r))
  have hdlen : (r.take (dl r)).length = dl r := by rw [List.length_take]; omega
  have hP : ∀ w', ShPost w0 r T n b w' = ∃ lv', Rd w0.heap.size w' lv' (T ++ if runO (r.take (dl r)) then runT (r.take (dl r)) ++ [65533] else runT (r.take (dl r))) (n + 1) (b || !runR (r.take (dl r))) ∧ Row w0 lv' (ints .u8 (r.drop (if r[dl r]? = some 45 then dl r + 1 else dl r))) ∧ Below w0.heap.size w0 w' := fun w' => by rw [ShPost, e1, e2, e3, e4]; rfl
  have hz : r[dl r]? = (r.drop (dl r))[0]? := by rw [List.getElem?_drop]; rfl
  have hdd : r.drop (dl r + 1) = (r.drop (dl r)).drop 1 := by rw [List.drop_drop]
  rw [hdlen] at hTd
  clear e1 e2 e3 e4 hgd hg
  generalize ShPost w0 r T n b = Q at *
  generalize dl r = m at *
  generalize runT (r.take m) = Td at *
  generalize runO (r.take m) = O at *
  generalize runR (r.take m) = R at *
  generalize hd : r.take m = d at *
  have hml : 0 < d.length := by omega
  have hml2 : d.length ≤ 10000 := by omega
  have hTd2 : Td.length ≤ 10000 := by omega
  have HD := Lib.hid hdg; have HR := Lib.hid hrun; have HPP := Lib.hid hP; have HZ := Lib.hid hz; have HDD := Lib.hid hdd
  clear hdg hrun hP hz hdd hdl hm hdlen hTd hd
  rcases hx : r.drop m with _ | ⟨x, r2⟩
  · have HX := Lib.hid hx; clear hx
    have hif : (if r[m]? = some 45 then m + 1 else m) = m := by rw [HZ.out, HX.out]; rfl
    have HIF := Lib.hid hif; clear hif
    rcases O with _ | _ <;> rcases b with _ | _
    case' false.false => rcases R with _ | _
    case' true.false => rcases R with _ | _
    all_goals
      go_enter Try.func107, Try.ntmps107
      go_wp2_with fail
      refine (HD.out).mono ?_
      rintro e w1 ⟨dv1, lv1, rfl, hrd, rd1, rl1, hc1⟩
      rw [HX.out] at rl1
      obtain ⟨ad, bd, od, cd, rfl, _⟩ := id rd1.op
      obtain ⟨al, bl, ol, cl, rfl, _⟩ := id rl1.op
      have HRDX := Lib.hid hrd
      obtain ⟨tv, q0, q1, q2, q3, qf, qo, qB⟩ := id hrd
      have f0 := qf 0
      have BLX := Lib.hid hc1
      have BLE := Lib.hid (Nat.le_of_lt qB)
      go_wp2_with (first | (go_at_call 71; refine (HR.out _ _ (rd1.below hc1)).mono ?_; rintro e w2 ⟨t2, rfl, ho2, hb2⟩; obtain ⟨tv2, p0, p1, p2, p3, pf, po, pB⟩ := id (HRDX.out.below hb2)) | (at_builtin; refine wpList_app slT_i32 _ _ _ rfl rfl rfl rfl po ho2.row (by rw [ints_length, ints_length]; omega) pB ?_; intro t3 w3 hown3 hg3; rw [← ints_append] at hown3; have hb3 : Below (w0.heap.size + 1) w2 w3 := below_own (Below.refl _ w2) po hg3 pB (Nat.le_refl _); have d1 := (hb3.cell (p := ⟨w0.heap.size, 1, none⟩) (Nat.lt_succ_self _)).trans p1; have d2 := (hb3.cell (p := ⟨w0.heap.size, 2, none⟩) (Nat.lt_succ_self _)).trans p2; have d3 := (hb3.cell (p := ⟨w0.heap.size, 3, none⟩) (Nat.lt_succ_self _)).trans p3; have f1 := (hb3.frozen (p := ⟨w0.heap.size, 1, none⟩) (Nat.lt_succ_self _)).trans (pf 1); have f2 := (hb3.frozen (p := ⟨w0.heap.size, 2, none⟩) (Nat.lt_succ_self _)).trans (pf 2); have f3 := (hb3.frozen (p := ⟨w0.heap.size, 3, none⟩) (Nat.lt_succ_self _)).trans (pf 3); obtain ⟨a4, b4, o4, c4, rfl, _⟩ := id hown3.row.op; rw [List.length_append] at hown3) | (go_at_call 106; refine (put_any _ _ _ _ _ _ _ (Rd.setT p0 p1 p2 p3 pf pB hb3 hown3) (by rw [List.length_append]; omega)).mono ?_; rintro e w4 ⟨⟨v4, rfl⟩, hrd4, hb4⟩; obtain ⟨tv4, s0, s1, s2, s3, sf, so, sB⟩ := id hrd4; have k2 := sf 2; have k3 := sf 3))
      go_end0
      refine ⟨⟨_, rfl⟩, ?_⟩
      rw [HPP.out, HIF.out]
      first
        | exact ⟨_, (by rw [if_pos trivial, ← List.append_assoc]; exact (hrd4.setN _).setW _), (by rw [HX.out]; exact rl1), (((((BLX.out.trans (hb2.mono BLE.out)).trans (hb3.mono (Nat.le_succ _))).setCell (p := ⟨w0.heap.size, 1, none⟩) (Nat.le_refl _) _).trans hb4).setCell (p := ⟨w0.heap.size, 2, none⟩) (Nat.le_refl _) _).setCell (p := ⟨w0.heap.size, 3, none⟩) (Nat.le_refl _) _⟩
        | exact ⟨_, (by rw [if_neg (by decide)]; exact ((Rd.setT p0 p1 p2 p3 pf pB hb3 hown3).setN _).setW _), (by rw [HX.out]; exact rl1), ((((BLX.out.trans (hb2.mono BLE.out)).trans (hb3.mono (Nat.le_succ _))).setCell (p := ⟨w0.heap.size, 1, none⟩) (Nat.le_refl _) _).setCell (p := ⟨w0.heap.size, 2, none⟩) (Nat.le_refl _) _).setCell (p := ⟨w0.heap.size, 3, none⟩) (Nat.le_refl _) _⟩
  · have HX := Lib.hid hx; clear hx
    by_cases hx45 : x = 45
    · subst hx45
      have hif : (if r[m]? = some 45 then m + 1 else m) = m + 1 := by rw [HZ.out, HX.out]; rfl
      have HIF := Lib.hid hif; clear hif
      rcases O with _ | _ <;> rcases b with _ | _
      case' false.false => rcases R with _ | _
      case' true.false => rcases R with _ | _
      all_goals
        go_enter Try.func107, Try.ntmps107
        go_wp2_with fail
        refine (HD.out).mono ?_
        rintro e w1 ⟨dv1, lv1, rfl, hrd, rd1, rl1, hc1⟩
        rw [HX.out] at rl1
        obtain ⟨ad, bd, od, cd, rfl, _⟩ := id rd1.op
        obtain ⟨al, bl, ol, cl, rfl, HCL⟩ := id rl1.op
        obtain ⟨y, HY, rfl, hc⟩ := HCL.out 0 (by simp)
        have ey : (45 : Int) = y := by have h9 := HY.out; rw [List.getElem?_cons_zero] at h9; exact Option.some.inj h9
        subst ey
        replace hc := hc _ hc1
        simp only [Nat.add_zero] at hc
        obtain ⟨tv, q0, q1, q2, q3, qf, qo, qB⟩ := id hrd
        have f0 := qf 0
        go_wp2_with (first | (refine wpList_slL slT_u8 _ _ rfl rfl rfl rfl (rl1.below hc1) (by omega) (by simp [ints]; omega) ?_; intro v3 hv3; have r3 := hv3 w0 rl1; rw [show (1 : Int).toNat = 1 from rfl, ints_drop] at r3; obtain ⟨a3, b3, o3, c3, rfl, _⟩ := id r3.op; have HRDX := Lib.hid (hrd.setL (Value.slice a3 r2.length c3)); have BLX := Lib.hid (hc1.setCell (p := ⟨w0.heap.size, 0, none⟩) (Nat.le_refl _) (Value.slice a3 r2.length c3)); have BLE := Lib.hid (show w0.heap.size ≤ (w1.setCell ⟨w0.heap.size, 0, none⟩ (Value.slice a3 r2.length c3)).heap.size from by rw [World.size_setCell]; exact Nat.le_of_lt qB)) | (go_at_call 71; refine (HR.out _ _ (rd1.below BLX.out)).mono ?_; rintro e w2 ⟨t2, rfl, ho2, hb2⟩; obtain ⟨tv2, p0, p1, p2, p3, pf, po, pB⟩ := id (HRDX.out.below hb2)) | (at_builtin; refine wpList_app slT_i32 _ _ _ rfl rfl rfl rfl po ho2.row (by rw [ints_length, ints_length]; omega) pB ?_; intro t3 w3 hown3 hg3; rw [← ints_append] at hown3; have hb3 : Below (w0.heap.size + 1) w2 w3 := below_own (Below.refl _ w2) po hg3 pB (Nat.le_refl _); have d1 := (hb3.cell (p := ⟨w0.heap.size, 1, none⟩) (Nat.lt_succ_self _)).trans p1; have d2 := (hb3.cell (p := ⟨w0.heap.size, 2, none⟩) (Nat.lt_succ_self _)).trans p2; have d3 := (hb3.cell (p := ⟨w0.heap.size, 3, none⟩) (Nat.lt_succ_self _)).trans p3; have f1 := (hb3.frozen (p := ⟨w0.heap.size, 1, none⟩) (Nat.lt_succ_self _)).trans (pf 1); have f2 := (hb3.frozen (p := ⟨w0.heap.size, 2, none⟩) (Nat.lt_succ_self _)).trans (pf 2); have f3 := (hb3.frozen (p := ⟨w0.heap.size, 3, none⟩) (Nat.lt_succ_self _)).trans (pf 3); obtain ⟨a4, b4, o4, c4, rfl, _⟩ := id hown3.row.op; rw [List.length_append] at hown3) | (go_at_call 106; refine (put_any _ _ _ _ _ _ _ (Rd.setT p0 p1 p2 p3 pf pB hb3 hown3) (by rw [List.length_append]; omega)).mono ?_; rintro e w4 ⟨⟨v4, rfl⟩, hrd4, hb4⟩; obtain ⟨tv4, s0, s1, s2, s3, sf, so, sB⟩ := id hrd4; have k2 := sf 2; have k3 := sf 3))
        go_end0
        refine ⟨⟨_, rfl⟩, ?_⟩
        rw [HPP.out, HIF.out]
        first
          | exact ⟨_, (by rw [if_pos trivial, ← List.append_assoc]; exact (hrd4.setN _).setW _), (by rw [HDD.out, HX.out]; exact r3), (((((BLX.out.trans (hb2.mono BLE.out)).trans (hb3.mono (Nat.le_succ _))).setCell (p := ⟨w0.heap.size, 1, none⟩) (Nat.le_refl _) _).trans hb4).setCell (p := ⟨w0.heap.size, 2, none⟩) (Nat.le_refl _) _).setCell (p := ⟨w0.heap.size, 3, none⟩) (Nat.le_refl _) _⟩
          | exact ⟨_, (by rw [if_neg (by decide)]; exact ((Rd.setT p0 p1 p2 p3 pf pB hb3 hown3).setN _).setW _), (by rw [HDD.out, HX.out]; exact r3), ((((BLX.out.trans (hb2.mono BLE.out)).trans (hb3.mono (Nat.le_succ _))).setCell (p := ⟨w0.heap.size, 1, none⟩) (Nat.le_refl _) _).setCell (p := ⟨w0.heap.size, 2, none⟩) (Nat.le_refl _) _).setCell (p := ⟨w0.heap.size, 3, none⟩) (Nat.le_refl _) _⟩
    · have hne : (x == 45) = false := beq_false_of_ne hx45
      have hif : (if r[m]? = some 45 then m + 1 else m) = m := by rw [HZ.out, HX.out, List.getElem?_cons_zero, if_neg (by simp [hx45])]
      have HIF := Lib.hid hif; clear hif
      rcases O with _ | _ <;> rcases b with _ | _
      case' false.false => rcases R with _ | _
      case' true.false => rcases R with _ | _
      all_goals
        go_enter Try.func107, Try.ntmps107
        go_wp2_with fail
        refine (HD.out).mono ?_
        rintro e w1 ⟨dv1, lv1, rfl, hrd, rd1, rl1, hc1⟩
        rw [HX.out] at rl1
        obtain ⟨ad, bd, od, cd, rfl, _⟩ := id rd1.op
        obtain ⟨al, bl, ol, cl, rfl, HCL⟩ := id rl1.op
        obtain ⟨y, HY, rfl, hc⟩ := HCL.out 0 (by simp)
        have ey : x = y := by have h9 := HY.out; rw [List.getElem?_cons_zero] at h9; exact Option.some.inj h9
        subst ey
        replace hc := hc _ hc1
        simp only [Nat.add_zero] at hc
        obtain ⟨tv, q0, q1, q2, q3, qf, qo, qB⟩ := id hrd
        have f0 := qf 0
        have BLE := Lib.hid (Nat.le_of_lt qB)
        have HRDX := Lib.hid hrd
        have BLX := Lib.hid hc1
        go_wp2_with (first | (go_at_call 71; refine (HR.out _ _ (rd1.below hc1)).mono ?_; rintro e w2 ⟨t2, rfl, ho2, hb2⟩; obtain ⟨tv2, p0, p1, p2, p3, pf, po, pB⟩ := id (HRDX.out.below hb2)) | (at_builtin; refine wpList_app slT_i32 _ _ _ rfl rfl rfl rfl po ho2.row (by rw [ints_length, ints_length]; omega) pB ?_; intro t3 w3 hown3 hg3; rw [← ints_append] at hown3; have hb3 : Below (w0.heap.size + 1) w2 w3 := below_own (Below.refl _ w2) po hg3 pB (Nat.le_refl _); have d1 := (hb3.cell (p := ⟨w0.heap.size, 1, none⟩) (Nat.lt_succ_self _)).trans p1; have d2 := (hb3.cell (p := ⟨w0.heap.size, 2, none⟩) (Nat.lt_succ_self _)).trans p2; have d3 := (hb3.cell (p := ⟨w0.heap.size, 3, none⟩) (Nat.lt_succ_self _)).trans p3; have f1 := (hb3.frozen (p := ⟨w0.heap.size, 1, none⟩) (Nat.lt_succ_self _)).trans (pf 1); have f2 := (hb3.frozen (p := ⟨w0.heap.size, 2, none⟩) (Nat.lt_succ_self _)).trans (pf 2); have f3 := (hb3.frozen (p := ⟨w0.heap.size, 3, none⟩) (Nat.lt_succ_self _)).trans (pf 3); obtain ⟨a4, b4, o4, c4, rfl, _⟩ := id hown3.row.op; rw [List.length_append] at hown3) | (go_at_call 106; refine (put_any _ _ _ _ _ _ _ (Rd.setT p0 p1 p2 p3 pf pB hb3 hown3) (by rw [List.length_append]; omega)).mono ?_; rintro e w4 ⟨⟨v4, rfl⟩, hrd4, hb4⟩; obtain ⟨tv4, s0, s1, s2, s3, sf, so, sB⟩ := id hrd4; have k2 := sf 2; have k3 := sf 3))
        go_end0
        refine ⟨⟨_, rfl⟩, ?_⟩
        rw [HPP.out, HIF.out]
        first
          | exact ⟨_, (by rw [if_pos trivial, ← List.append_assoc]; exact (hrd4.setN _).setW _), (by rw [HX.out]; exact rl1), (((((BLX.out.trans (hb2.mono BLE.out)).trans (hb3.mono (Nat.le_succ _))).setCell (p := ⟨w0.heap.size, 1, none⟩) (Nat.le_refl _) _).trans hb4).setCell (p := ⟨w0.heap.size, 2, none⟩) (Nat.le_refl _) _).setCell (p := ⟨w0.heap.size, 3, none⟩) (Nat.le_refl _) _⟩
          | exact ⟨_, (by rw [if_neg (by decide)]; exact ((Rd.setT p0 p1 p2 p3 pf pB hb3 hown3).setN _).setW _), (by rw [HX.out]; exact rl1), ((((BLX.out.trans (hb2.mono BLE.out)).trans (hb3.mono (Nat.le_succ _))).setCell (p := ⟨w0.heap.size, 1, none⟩) (Nat.le_refl _) _).setCell (p := ⟨w0.heap.size, 2, none⟩) (Nat.le_refl _) _).setCell (p := ⟨w0.heap.size, 3, none⟩) (Nat.le_refl _) _⟩
end Go.Proofs.Ytbpjgmiedplidaa
namespace Go.Proofs.Ytbpjgmiedplidaa
open Go.RowKit
set_option maxHeartbeats 2000000
theorem sout_len (c : Int) (r : List Int) : (sout c r).length ≤ sn c r + 1 := by
  have h := runT_len (r.take (dl r))
  rw [List.length_take] at h
  have h2 := dl_le r
  unfold sout sn
  repeat' split
  all_goals (first | (simp only [List.length_append, List.length_cons, List.length_nil]; omega) | omega | simp)
theorem srun_le (c : Int) (r : List Int) : srun c r ≤ 1 := by unfold srun; split <;> omega
theorem sn_le (c : Int) (r : List Int) : sn c r ≤ r.length := by
  have := dl_le r
  unfold sn
  split
  · split
    · rename_i h
      have := (List.getElem?_eq_some_iff.1 h).1; omega
    · omega
  · omega
theorem shifted_any (w0 : World) (w : World) (lv : Value) (r T : List Int) (n : Int) (b : Bool) (h : Rd w0.heap.size w lv T n b) (hr : Row w0 lv (ints .u8 r)) (hb0 : Below w0.heap.size w0 w) (hg : Rg 0 256 r) (hl : r.length ≤ 10000) (hT : T.length ≤ 60000) (hn0 : 0 ≤ n) (hn1 : n ≤ 60000) :
    Calls Try.prog 107 #[.pointer (some ⟨w0.heap.size, 0, none⟩)] w fun e w' => (∃ v, e = .returned v) ∧ ShPost w0 r T n b w' := by
  rcases Nat.eq_zero_or_pos (dl r) with hm | hm
  · exact shifted0_any w0 w lv r T n b h hr hb0 hg hl hT hm
  · exact shiftedN_any w0 w lv r T n b h hr hb0 hg hl hT hn0 hn1 hm
def StPost (w0 : World) (c : Int) (r T : List Int) (n : Int) (b : Bool) (w' : World) : Prop :=
  ∃ lv', Rd w0.heap.size w' lv' (T ++ sout c r) (n + srun c r) (b || swr c r) ∧ Row w0 lv' (ints .u8 (r.drop (sn c r))) ∧ Below w0.heap.size w0 w'
set_option maxRecDepth 100000 in
theorem step_any (w0 : World) (w : World) (lv : Value) (c : Int) (r T : List Int) (n : Int) (b : Bool) (h : Rd w0.heap.size w lv T n b) (hr : Row w0 lv (ints .u8 (c :: r))) (hb0 : Below w0.heap.size w0 w) (hg : Rg 0 256 (c :: r)) (hl : (c :: r).length ≤ 10000) (hT : T.length ≤ 60000) (hn0 : 0 ≤ n) (hn1 : n ≤ 60000) :
    Calls Try.prog 102 #[.pointer (some ⟨w0.heap.size, 0, none⟩)] w fun e w' => (∃ v, e = .returned v) ∧ StPost w0 c r T n b w' := by
  have hcr := hg.cons.1
  have hgr := hg.cons.2
  have hlr : r.length ≤ 10000 := by simp at hl; omega
  obtain ⟨a, bb, off, cp, rfl, HC⟩ := id hr.op
  obtain ⟨y, HY, rfl, hc⟩ := HC.out 0 (by simp)
  have ey : c = y := by have h9 := HY.out; rw [List.getElem?_cons_zero] at h9; exact Option.some.inj h9
  subst ey
  replace hc := hc _ hb0
  simp only [Nat.add_zero] at hc
  clear HC HY
  obtain ⟨tv, q0, q1, q2, q3, qf, qo, qB⟩ := id h
  have f0 := qf 0
  have f3 := qf 3
  by_cases h1 : 128 ≤ c
  · have e1 : sout c r = [65533] := by rw [sout, if_pos h1]
    have e2 : srun c r = 0 := by rw [srun, if_neg (by omega)]
    have e3 : swr c r = true := by rw [swr, if_pos h1]
    have e4 : sn c r = 0 := by rw [sn, if_neg (by omega)]
    have hP : ∀ w', StPost w0 c r T n b w' = ∃ lv', Rd w0.heap.size w' lv' (T ++ [65533]) n true ∧ Row w0 lv' (ints .u8 r) ∧ Below w0.heap.size w0 w' := fun w' => by rw [StPost, e1, e2, e3, e4]; simp
    generalize StPost w0 c r T n b = Q at *
    have HPP := Lib.hid hP
    clear hP e1 e2 e3 e4
    go_enter Try.func102, Try.ntmps102
    go_wp2_with (first | (refine wpList_slL slT_u8 _ _ rfl rfl rfl rfl (hr.below hb0) (by omega) (by simp [ints]; omega) ?_; intro v3 hv3; have r3 := hv3 w0 hr; rw [show (1 : Int).toNat = 1 from rfl, ints_drop] at r3; obtain ⟨a3, b3, o3, c3, rfl, _⟩ := id r3.op) | (go_at_call 106; refine (put_any _ _ _ _ _ _ _ (h.setL _) (by omega)).mono ?_; rintro e w2 ⟨⟨v2, rfl⟩, hrd2, hb2⟩; obtain ⟨tv2, p0, p1, p2, p3, pf, po, pB⟩ := id hrd2; have g3 := pf 3))
    go_end0
    refine ⟨⟨_, rfl⟩, ?_⟩
    rw [HPP.out]
    exact ⟨_, hrd2.setW _, r3, ((hb0.setCell (p := ⟨w0.heap.size, 0, none⟩) (Nat.le_refl _) _).trans hb2).setCell (p := ⟨w0.heap.size, 3, none⟩) (Nat.le_refl _) _⟩
  · by_cases h43 : c = 43
    · subst h43
      clear h1
      have hQ : ∀ w', ShPost w0 r T n b w' → StPost w0 43 r T n b w' := fun w' h => h
      have hSh := fun w lv h hr hb0 => shifted_any w0 w lv r T n b h hr hb0 hgr hlr hT hn0 hn1
      generalize StPost w0 43 r T n b = Q at *
      generalize ShPost w0 r T n b = Q2 at *
      have HQ := Lib.hid hQ; have HSH := Lib.hid hSh
      clear hQ hSh
      go_enter Try.func102, Try.ntmps102
      go_wp2_with (first | (refine wpList_slL slT_u8 _ _ rfl rfl rfl rfl (hr.below hb0) (by omega) (by simp [ints]; omega) ?_; intro v3 hv3; have r3 := hv3 w0 hr; rw [show (1 : Int).toNat = 1 from rfl, ints_drop] at r3; obtain ⟨a3, b3, o3, c3, rfl, _⟩ := id r3.op) | (go_at_call 107; refine (HSH.out _ _ (h.setL _) r3 (hb0.setCell (p := ⟨w0.heap.size, 0, none⟩) (Nat.le_refl _) _)).mono ?_; rintro e w2 ⟨⟨v2, rfl⟩, hq2⟩))
      go_end0
      exact ⟨⟨_, rfl⟩, HQ.out _ hq2⟩
    · have e1 : sout c r = [c] := by rw [sout, if_neg h1, if_neg h43]
      have e2 : srun c r = 0 := by rw [srun, if_neg (by omega)]
      have e3 : swr c r = false := by rw [swr, if_neg h1, if_neg h43]
      have e4 : sn c r = 0 := by rw [sn, if_neg h43]
      have hP : ∀ w', StPost w0 c r T n b w' = ∃ lv', Rd w0.heap.size w' lv' (T ++ [c]) n b ∧ Row w0 lv' (ints .u8 r) ∧ Below w0.heap.size w0 w' := fun w' => by rw [StPost, e1, e2, e3, e4]; simp
      generalize StPost w0 c r T n b = Q at *
      have HPP := Lib.hid hP
      have hne : (c == 43) = false := beq_false_of_ne h43
      have hlt : c < 128 := by omega
      clear hP e1 e2 e3 e4 h1 h43
      go_enter Try.func102, Try.ntmps102
      go_wp2_with (first | (refine wpList_slL slT_u8 _ _ rfl rfl rfl rfl (hr.below hb0) (by omega) (by simp [ints]; omega) ?_; intro v3 hv3; have r3 := hv3 w0 hr; rw [show (1 : Int).toNat = 1 from rfl, ints_drop] at r3; obtain ⟨a3, b3, o3, c3, rfl, _⟩ := id r3.op) | (go_at_call 106; refine (put_any _ _ _ _ _ _ _ (h.setL _) (by omega)).mono ?_; rintro e w2 ⟨⟨v2, rfl⟩, hrd2, hb2⟩))
      go_end0
      refine ⟨⟨_, rfl⟩, ?_⟩
      rw [HPP.out]
      exact ⟨_, hrd2, r3, (hb0.setCell (p := ⟨w0.heap.size, 0, none⟩) (Nat.le_refl _) _).trans hb2⟩
end Go.Proofs.Ytbpjgmiedplidaa
namespace Go.Proofs.Ytbpjgmiedplidaa
open Go.RowKit
set_option maxHeartbeats 2000000
theorem alloc_new (w : World) (o : Obj) : (w.alloc o).heap[w.heap.size]? = some o := by
  show (w.heap.push o)[w.heap.size]? = some o
  exact Array.getElem?_push_size
theorem cell_new (w : World) (cs : Array Value) (ty : TypeId) (i : Nat) : (w.alloc (.cells cs ty)).cell? ⟨w.heap.size, i, none⟩ = cs[i]? := by
  have h := alloc_new w (.cells cs ty)
  simp only [World.cell?, h]
  exact if_neg (by decide)
theorem frozen_new (w : World) (cs : Array Value) (ty : TypeId) (i : Nat) : (w.alloc (.cells cs ty)).frozen? ⟨w.heap.size, i, none⟩ = false := by
  have h := alloc_new w (.cells cs ty)
  simp only [World.frozen?, h]
  simp
/-- What the loop of read keeps. -/
def RDI (w : World) (xs : List Int) (wr : World) : Prop :=
  ∃ (p : Nat) (lv : Value) (T : List Int) (n : Nat) (b : Bool), p ≤ xs.length ∧ Rd w.heap.size wr lv T n b ∧ Row w lv (ints .u8 (xs.drop p)) ∧ Below w.heap.size w wr ∧ T.length ≤ p ∧ n ≤ p ∧
    Hid (sread xs = (T ++ (sread (xs.drop p)).1, n + (sread (xs.drop p)).2.1, b || (sread (xs.drop p)).2.2))
def leftOf (B : Nat) (wr : World) : Nat := lenOf ((wr.cell? ⟨B, 0, none⟩).getD undef)
set_option maxRecDepth 100000 in
theorem oread_any (v : Value) (xs : List Int) (w : World) (h : Row w v (ints .u8 xs)) (hg : Rg 0 256 xs) (hl : xs.length ≤ 10000) :
    Calls Try.prog 88 #[v] w fun e w' => e = .returned (.pointer (some ⟨w.heap.size, 0, none⟩)) ∧ (∃ lv, Rd w.heap.size w' lv (sread xs).1 (sread xs).2.1 (sread xs).2.2) ∧ Below w.heap.size w w' := by
  obtain ⟨a, bb, off, cp, rfl, _⟩ := id h.op
  go_enter Try.func88, Try.ntmps88
  go_wp2
  go_loopw [] (fun wr => RDI w xs wr) (fun wr => leftOf w.heap.size wr)
  case atStart =>
    refine ⟨0, .slice a xs.length cp, [], 0, false, Nat.zero_le _, ⟨.slice none 0 0, ?_, ?_, ?_, ?_, ?_, Own.nil _ _ _, by simp⟩, h, (Below.refl _ _).alloc (Nat.le_refl _) _, Nat.le_refl _, Nat.le_refl _, ?_⟩
    · rw [cell_new]; rfl
    · rw [cell_new]; rfl
    · rw [cell_new]; rfl
    · rw [cell_new]; rfl
    · intro j; exact frozen_new _ _ _ j
    · show _ = _
      simp
  case round =>
    obtain ⟨p, lv, T, n, b, hp, hrd, hrow, hbr, hT, hn, HS⟩ := hrel
    obtain ⟨tv, q0, q1, q2, q3, qf, qo, qB⟩ := id hrd
    rcases hx : xs.drop p with _ | ⟨c, r⟩
    · have hs := HS.out
      rw [hx, sread_nil] at hs
      rw [hx] at hrow
      obtain ⟨al, bl, ol, cl, rfl, _⟩ := id hrow.op
      have HS2 := Lib.hid hs
      clear hs HS hx
      go_wp2
      go_ret
      refine ⟨rfl, ⟨.slice al ([] : List Int).length cl, ?_⟩, hbr⟩
      rw [HS2.out]
      simp only [List.append_nil, Nat.add_zero, Bool.or_false]
      exact hrd
    · have hxc : xs[p]? = some c := by
        have h9 := congrArg (fun l : List Int => l[0]?) hx
        simp only [List.getElem?_drop, List.getElem?_cons_zero, Nat.add_zero] at h9
        exact h9
      have hpl := (List.getElem?_eq_some_iff.1 hxc).1
      have hr1 : xs.drop (p + 1) = r := by
        have h9 := congrArg (fun l : List Int => l.drop 1) hx
        simp only [List.drop_drop, List.drop_succ_cons, List.drop_zero] at h9
        exact h9
      have hs := HS.out
      rw [sread_at hxc, hr1] at hs
      rw [hx] at hrow
      have hsl := sout_len c r
      have hsr := srun_le c r
      have hsn := sn_le c r
      have hrl : r.length = xs.length - (p + 1) := by rw [← hr1, List.length_drop]
      have hgr : Rg 0 256 (c :: r) := by rw [← hx]; exact hg.drop p
      have hdr : r.drop (sn c r) = xs.drop (p + 1 + sn c r) := by rw [← hr1, List.drop_drop]
      obtain ⟨al, bl, ol, cl, rfl, _⟩ := id hrow.op
      have hst := step_any w wr _ c r T n b hrd hrow hbr hgr (by simp; omega) (by omega) (by omega) (by omega)
      have hQ : ∀ w', StPost w c r T n b w' → RDI w xs w' ∧ leftOf w.heap.size w' < leftOf w.heap.size wr := by
        rintro w' ⟨lv', z1, z2, z3⟩
        rw [hdr] at z2
        refine ⟨⟨p + 1 + sn c r, lv', _, n + srun c r, _, by omega, (by rw [Int.natCast_add]; exact z1), z2, z3, by rw [List.length_append]; omega, by omega, ?_⟩, ?_⟩
        · show _ = _
          rw [hs]
          simp only [List.append_assoc, Nat.add_assoc, Bool.or_assoc]
        · obtain ⟨_, y0, _⟩ := z1
          rw [leftOf, leftOf, y0, q0, Option.getD_some, Option.getD_some, z2.len, ints_length, List.length_drop]
          simp only [lenOf, List.length_cons]; omega
      generalize StPost w c r T n b = Q at *
      have HST := Lib.hid hst; have HQ := Lib.hid hQ
      have hlen : 0 < (c :: r).length := by simp
      clear hst hQ hs HS hsl hsr hsn hdr hx hr1 hxc
      go_wp2_with (go_at_call 102; refine (HST.out).mono ?_; rintro e w2 ⟨⟨v2, rfl⟩, hq2⟩)
      go_roundw
      case rel => exact (HQ.out _ hq2).1
      case measure => exact (HQ.out _ hq2).2
theorem oRead_any (v : Value) (xs : List Int) (w : World) (h : Row w v (ints .u8 xs)) (hg : Rg 0 256 xs) (hl : xs.length ≤ 10000) :
    Calls Try.prog 68 #[v] w fun e w' => ∃ t, e = .returned t ∧ Own w.heap.size 21 w' t (ints .i32 (sread xs).1) ∧ Below w.heap.size w w' := by
  go_enter Try.func68, Try.ntmps68
  go_wp2_with (go_at_call 88; refine (oread_any _ _ _ h hg hl).mono ?_; rintro e w1 ⟨rfl, ⟨lv, tv, q0, q1, q2, q3, qf, qo, qB⟩, hb⟩)
  go_ret
  exact ⟨_, rfl, qo.mono (Nat.le_succ _), hb⟩
/-- The text, if all is right. -/
def strictS (xs : List Int) : List Int := if (sread xs).2.2 then [] else (sread xs).1
def errS (xs : List Int) : Int := if (sread xs).2.2 then 3 else 0
end Go.Proofs.Ytbpjgmiedplidaa
