/- Walks: the layer's record. -/
import Derived.Test.YtieeafkbgmpofaaP22b
import Derived.Test.YtieeafkbgmpofaaW23j
namespace Go.Proofs.Ytieeafkbgmpofaa
open Go.RowKit
set_option maxHeartbeats 2000000
/-- The layer's record at block B: what is left, what is laid, how many runs. -/
def Ly (B : Nat) (w : World) (lv : Value) (O : List Int) (n : Int) : Prop :=
  ∃ ov, w.cell? ⟨B, 0, none⟩ = some lv ∧ w.cell? ⟨B, 1, none⟩ = some ov ∧ w.cell? ⟨B, 2, none⟩ = some (.int .i64 n) ∧ (∀ j, w.frozen? ⟨B, j, none⟩ = false) ∧ Own (B + 1) 5 w ov (ints .u8 O) ∧ B < w.heap.size
theorem Ly.below {B : Nat} {w w' : World} {lv : Value} {O : List Int} {n : Int} (h : Ly B w lv O n) (hb : Below w.heap.size w w') : Ly B w' lv O n := by
  obtain ⟨ov, h0, h1, h2, hf, ho, hB⟩ := h
  exact ⟨ov, (hb.cell (p := ⟨B, 0, none⟩) hB).trans h0, (hb.cell (p := ⟨B, 1, none⟩) hB).trans h1, (hb.cell (p := ⟨B, 2, none⟩) hB).trans h2, fun j => (hb.frozen (p := ⟨B, j, none⟩) hB).trans (hf j), ho.below hb, Nat.lt_of_lt_of_le hB hb.size⟩
theorem Ly.setL {B : Nat} {w : World} {lv : Value} {O : List Int} {n : Int} (h : Ly B w lv O n) (u : Value) : Ly B (w.setCell ⟨B, 0, none⟩ u) u O n := by
  obtain ⟨ov, h0, h1, h2, hf, ho, hB⟩ := h
  exact ⟨ov, World.cell?_setCell_same' _ _ _ (by rw [h0]; rfl), (cell_other (by decide)).trans h1, (cell_other (by decide)).trans h2, fun j => by rw [World.frozen?_setCell]; exact hf j, ho.kept (grownBy_set _ _ _ _) (by omega), by rw [World.size_setCell]; exact hB⟩
theorem Ly.setN {B : Nat} {w : World} {lv : Value} {O : List Int} {n : Int} (h : Ly B w lv O n) (m : Int) : Ly B (w.setCell ⟨B, 2, none⟩ (.int .i64 m)) lv O m := by
  obtain ⟨ov, h0, h1, h2, hf, ho, hB⟩ := h
  exact ⟨ov, (cell_other (by decide)).trans h0, (cell_other (by decide)).trans h1, World.cell?_setCell_same' _ _ _ (by rw [h2]; rfl), fun j => by rw [World.frozen?_setCell]; exact hf j, ho.kept (grownBy_set _ _ _ _) (by omega), by rw [World.size_setCell]; exact hB⟩
theorem Ly.setO {B : Nat} {w w' : World} {lv o2 : Value} {O2 : List Int} {n : Int} {ov : Value} (h0 : w.cell? ⟨B, 0, none⟩ = some lv) (h1 : w.cell? ⟨B, 1, none⟩ = some ov) (h2 : w.cell? ⟨B, 2, none⟩ = some (.int .i64 n)) (hf : ∀ j, w.frozen? ⟨B, j, none⟩ = false) (hB : B < w.heap.size)
    (hb : Below (B + 1) w w') (ho : Own (B + 1) 5 w' o2 (ints .u8 O2)) : Ly B (w'.setCell ⟨B, 1, none⟩ o2) lv O2 n := by
  have hs := hb.size
  have c : ∀ j, w'.cell? ⟨B, j, none⟩ = w.cell? ⟨B, j, none⟩ := fun j => hb.cell (p := ⟨B, j, none⟩) (Nat.lt_succ_self _)
  have f : ∀ j, w'.frozen? ⟨B, j, none⟩ = w.frozen? ⟨B, j, none⟩ := fun j => hb.frozen (p := ⟨B, j, none⟩) (Nat.lt_succ_self _)
  exact ⟨o2, ((cell_other (by decide)).trans (c _)).trans h0, World.cell?_setCell_same' _ _ _ (by rw [c, h1]; rfl), ((cell_other (by decide)).trans (c _)).trans h2, fun j => by rw [World.frozen?_setCell, f]; exact hf j, ho.kept (grownBy_set _ _ _ _) (by omega), by rw [World.size_setCell]; omega⟩
theorem one_any (w0 w : World) (lv : Value) (c : Int) (r O : List Int) (n : Int) (h : Ly w0.heap.size w lv O n) (hr : Row w0 lv (ints .i32 (c :: r))) (hb0 : Below w0.heap.size w0 w) :
    Calls Try.prog 116 #[.pointer (some ⟨w0.heap.size, 0, none⟩)] w fun e w' => ∃ lv', e = .returned (.int .i32 c) ∧ Ly w0.heap.size w' lv' O n ∧ Row w0 lv' (ints .i32 r) ∧ Below w0.heap.size w0 w' := by
  obtain ⟨a, bb, off, cp, rfl, HC⟩ := id hr.op
  obtain ⟨y, HY, rfl, hc⟩ := HC.out 0 (by simp)
  have ey : c = y := by have h9 := HY.out; rw [List.getElem?_cons_zero] at h9; exact Option.some.inj h9
  subst ey
  replace hc := hc _ hb0
  simp only [Nat.add_zero] at hc
  clear HC HY
  obtain ⟨tv, q0, q1, q2, qf, qo, qB⟩ := id h
  have f0 := qf 0
  go_enter Try.func116, Try.ntmps116
  go_wp2_with (refine wpList_slL slT_i32 _ _ rfl rfl rfl rfl (hr.below hb0) (by omega) (by simp [ints]; omega) ?_; intro v3 hv3; have r3 := hv3 w0 hr; rw [show (1 : Int).toNat = 1 from rfl, ints_drop] at r3; obtain ⟨a3, b3, o3, c3, rfl, _⟩ := id r3.op)
  go_ret
  exact ⟨_, rfl, h.setL _, r3, hb0.setCell (p := ⟨w0.heap.size, 0, none⟩) (Nat.le_refl _) _⟩
def RnPost (w0 : World) (xs : List Int) (m : Nat) (O : List Int) (n : Int) (e : Ending) (w' : World) : Prop :=
  ∃ rv lv', e = .returned rv ∧ Ly w0.heap.size w' lv' O n ∧ Row w0 rv (ints .i32 (xs.take m)) ∧ Row w0 lv' (ints .i32 (xs.drop m)) ∧ Below w0.heap.size w0 w'
set_option maxRecDepth 100000 in
theorem run_any (w0 w : World) (lv : Value) (c : Int) (r O : List Int) (n : Int) (h : Ly w0.heap.size w lv O n) (hr : Row w0 lv (ints .i32 (c :: r))) (hb0 : Below w0.heap.size w0 w) (hg : R32 (c :: r)) (hl : (c :: r).length ≤ 10000) :
    Calls Try.prog 115 #[.pointer (some ⟨w0.heap.size, 0, none⟩)] w fun e w' => RnPost w0 (c :: r) (rn (c :: r)) O n e w' := by
  obtain ⟨a, bb, off, cp, rfl, HC⟩ := id hr.op
  obtain ⟨y0, HY0, rfl, hc0⟩ := HC.out 0 (by simp)
  have ey : c = y0 := by have h9 := HY0.out; rw [List.getElem?_cons_zero] at h9; exact Option.some.inj h9
  subst ey
  replace hc0 := hc0 _ hb0
  simp only [Nat.add_zero] at hc0
  clear HY0
  obtain ⟨tv, q0, q1, q2, qf, qo, qB⟩ := id h
  have f0 := qf 0
  have hml := rn_le (c :: r)
  have hin : ∀ k, k < rn (c :: r) → (c ≠ 43 ∧ ∃ y, (c :: r)[k]? = some y ∧ dirB y = false) := fun k hk => by
    rw [rn] at hk
    split at hk
    · omega
    · rename_i h43; exact ⟨h43, dn_in _ k hk⟩
  have hout : c = 43 ∧ rn (c :: r) = 0 ∨ (c ≠ 43 ∧ ∀ y, (c :: r)[rn (c :: r)]? = some y → dirB y = true) := by
    by_cases h43 : c = 43
    · exact .inl ⟨h43, by rw [rn, if_pos h43]⟩
    · refine .inr ⟨h43, fun y hy => ?_⟩
      rw [rn, if_neg h43] at hy
      exact dn_out _ y hy
  generalize rn (c :: r) = m at *
  have hpos : 0 < (c :: r).length := by simp
  have h43d : dirB 43 = false := by decide
  generalize hxs : c :: r = xs at *
  have HIN := Lib.hid hin; have HOUT := Lib.hid hout; have HXS := Lib.hid hxs
  clear hin hout hxs
  have hrw := hr.below hb0
  go_enter Try.func115, Try.ntmps115
  go_wp2
  go_loopw [3] (fun i w2 => ∃ k : Nat, i = .int .i64 k ∧ k ≤ m ∧ w2 = w) (fun i _ => m - (intOf i).toNat)
  case atStart => exact ⟨0, rfl, Nat.zero_le _, rfl⟩
  case round =>
    obtain ⟨k, rfl, hk, hw0⟩ := hrel
    obtain rfl := hw0.symm
    by_cases hkm : k < m
    · obtain ⟨h43, y, hy, hd⟩ := HIN.out k hkm
      have hkl : k < xs.length := (List.getElem?_eq_some_iff.1 hy).1
      obtain ⟨y', HY, _, hc⟩ := HC.out k hkl
      have ey : y' = y := by have h9 := HY.out; rw [hy] at h9; exact (Option.some.inj h9).symm
      subst ey
      replace hc := hc _ hb0
      have hyr := hg.get HY.out
      have hdir := fun w => oDirect_any y' w hyr.1 hyr.2
      rw [hd] at hdir
      have HDIR := Lib.hid hdir
      have hne : (c != 43) = true := by simpa using h43
      clear hdir hd hy h43
      rcases Nat.eq_zero_or_pos k with rfl | hkp
      · have ey : c = y' := by have h9 := HY.out; rw [← HXS.out, List.getElem?_cons_zero] at h9; exact Option.some.inj h9
        subst ey
        clear hc
        go_wp2_with (go_at_call 23; refine (HDIR.out _).mono ?_; rintro e w' ⟨rfl, hw⟩; obtain rfl := hw.symm)
        go_roundw
        case rel => exact ⟨1, by go_num, by omega, by first | rfl | trivial⟩
        case measure => simp [intOf]; omega
      · go_wp2_with (go_at_call 23; refine (HDIR.out _).mono ?_; rintro e w' ⟨rfl, hw⟩; obtain rfl := hw.symm)
        go_roundw
        case rel => exact ⟨k + 1, by go_num, by omega, by first | rfl | trivial⟩
        case measure => simp [intOf]; omega
    · obtain rfl : k = m := by omega
      by_cases hkl : k < xs.length
      · obtain ⟨y', HY, _, hc⟩ := HC.out k hkl
        replace hc := hc _ hb0
        have hyr := hg.get HY.out
        have hdir := fun w => oDirect_any y' w hyr.1 hyr.2
        rcases HOUT.out with ⟨h43, h0⟩ | ⟨h43, hd⟩
        · subst h0
          have ey : c = y' := by have h9 := HY.out; rw [← HXS.out, List.getElem?_cons_zero] at h9; exact Option.some.inj h9
          subst ey
          subst h43
          rw [h43d] at hdir
          have HDIR := Lib.hid hdir
          clear hdir hc
          go_wp2_with (first | (go_at_call 23; refine (HDIR.out _).mono ?_; rintro e w' ⟨rfl, hw⟩; obtain rfl := hw.symm) | (refine wpList_slH slT_i32 _ _ rfl rfl rfl rfl hrw (by omega) (by first | (simp [ints]; done) | (simp [ints]; omega)) ?_; intro v2 hv2; have r2 : Row w0 v2 ((ints .i32 xs).take 0) := hv2 w0 hr; rw [ints_take] at r2) | (refine wpList_slL slT_i32 _ _ rfl rfl rfl rfl hrw (by omega) (by first | (simp [ints]; done) | (simp [ints]; omega)) ?_; intro v3 hv3; have r3 : Row w0 v3 ((ints .i32 xs).drop 0) := hv3 w0 hr; rw [ints_drop] at r3; obtain ⟨a3, b3, o3, c3, rfl, _⟩ := id r3.op))
          go_ret
          exact ⟨_, _, rfl, h.setL _, r2, by rw [List.length_drop, Nat.sub_zero] at r3; exact r3, hb0.setCell (p := ⟨w0.heap.size, 0, none⟩) (Nat.le_refl _) _⟩
        · rw [hd y' HY.out] at hdir
          have HDIR := Lib.hid hdir
          clear hdir hd
          rcases Nat.eq_zero_or_pos k with rfl | hkp
          · have ey : c = y' := by have h9 := HY.out; rw [← HXS.out, List.getElem?_cons_zero] at h9; exact Option.some.inj h9
            subst ey
            clear hc
            go_wp2_with (first | (go_at_call 23; refine (HDIR.out _).mono ?_; rintro e w' ⟨rfl, hw⟩; obtain rfl := hw.symm) | (refine wpList_slH slT_i32 _ _ rfl rfl rfl rfl hrw (by omega) (by first | (simp [ints]; done) | (simp [ints]; omega)) ?_; intro v2 hv2; have r2 : Row w0 v2 ((ints .i32 xs).take 0) := hv2 w0 hr; rw [ints_take] at r2) | (refine wpList_slL slT_i32 _ _ rfl rfl rfl rfl hrw (by omega) (by first | (simp [ints]; done) | (simp [ints]; omega)) ?_; intro v3 hv3; have r3 : Row w0 v3 ((ints .i32 xs).drop 0) := hv3 w0 hr; rw [ints_drop] at r3; obtain ⟨a3, b3, o3, c3, rfl, _⟩ := id r3.op))
            go_ret
            exact ⟨_, _, rfl, h.setL _, r2, by rw [List.length_drop, Nat.sub_zero] at r3; exact r3, hb0.setCell (p := ⟨w0.heap.size, 0, none⟩) (Nat.le_refl _) _⟩
          · go_wp2_with (first | (go_at_call 23; refine (HDIR.out _).mono ?_; rintro e w' ⟨rfl, hw⟩; obtain rfl := hw.symm) | (refine wpList_slH slT_i32 _ _ rfl rfl rfl rfl hrw (by omega) (by first | (simp [ints]; done) | (simp [ints]; omega)) ?_; intro v2 hv2; have r2 := hv2 w0 hr; rw [Int.toNat_natCast, ints_take] at r2) | (refine wpList_slL slT_i32 _ _ rfl rfl rfl rfl hrw (by omega) (by first | (simp [ints]; done) | (simp [ints]; omega)) ?_; intro v3 hv3; have r3 := hv3 w0 hr; rw [Int.toNat_natCast, ints_drop] at r3; obtain ⟨a3, b3, o3, c3, rfl, _⟩ := id r3.op))
            go_ret
            exact ⟨_, _, rfl, h.setL _, r2, by rw [List.length_drop] at r3; exact r3, hb0.setCell (p := ⟨w0.heap.size, 0, none⟩) (Nat.le_refl _) _⟩
      · have hkx : k = xs.length := by omega
        subst hkx
        go_wp2_with (first | (refine wpList_slH slT_i32 _ _ rfl rfl rfl rfl hrw (by omega) (by first | (simp [ints]; done) | (simp [ints]; omega)) ?_; intro v2 hv2; have r2 := hv2 w0 hr; rw [Int.toNat_natCast, ints_take] at r2) | (refine wpList_slL slT_i32 _ _ rfl rfl rfl rfl hrw (by omega) (by first | (simp [ints]; done) | (simp [ints]; omega)) ?_; intro v3 hv3; have r3 := hv3 w0 hr; rw [Int.toNat_natCast, ints_drop] at r3; obtain ⟨a3, b3, o3, c3, rfl, _⟩ := id r3.op))
        go_ret
        exact ⟨_, _, rfl, h.setL _, r2, by rw [List.length_drop, Nat.sub_self] at r3; exact r3, hb0.setCell (p := ⟨w0.heap.size, 0, none⟩) (Nat.le_refl _) _⟩
end Go.Proofs.Ytieeafkbgmpofaa
