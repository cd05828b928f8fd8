/- Walks: the reader's record. -/
import Derived.Test.YtieeafkbgmpofaaP23c
namespace Go.Proofs.Ytieeafkbgmpofaa
open Go.RowKit
set_option maxHeartbeats 1000000
/-- The reader's record at block B: what is left, the text so far, how many runs, whether something was wrong. -/
def Rd (B : Nat) (w : World) (lv : Value) (T : List Int) (n : Int) (b : Bool) : Prop :=
  ∃ tv, w.cell? ⟨B, 0, none⟩ = some lv ∧ w.cell? ⟨B, 1, none⟩ = some tv ∧ w.cell? ⟨B, 2, none⟩ = some (.int .i64 n) ∧ w.cell? ⟨B, 3, none⟩ = some (.bool b) ∧ (∀ j, w.frozen? ⟨B, j, none⟩ = false) ∧ Own (B + 1) 21 w tv (ints .i32 T) ∧ B < w.heap.size
theorem Rd.below {B : Nat} {w w' : World} {lv : Value} {T : List Int} {n : Int} {b : Bool} (h : Rd B w lv T n b) (hb : Below w.heap.size w w') : Rd B w' lv T n b := by
  obtain ⟨tv, h0, h1, h2, h3, hf, ho, hB⟩ := h
  exact ⟨tv, (hb.cell (p := ⟨B, 0, none⟩) hB).trans h0, (hb.cell (p := ⟨B, 1, none⟩) hB).trans h1, (hb.cell (p := ⟨B, 2, none⟩) hB).trans h2, (hb.cell (p := ⟨B, 3, none⟩) hB).trans h3, fun j => (hb.frozen (p := ⟨B, j, none⟩) hB).trans (hf j), ho.below hb, Nat.lt_of_lt_of_le hB hb.size⟩
theorem grownBy_set (W : World) (B i : Nat) (u : Value) : W.grownBy (W.setCell ⟨B, i, none⟩ u) (some B) :=
  ⟨rfl, rfl, rfl, by simp [World.setCell], fun k _ hk => Below.heap_setCell _ _ _ _ (fun e => hk (by simp [e]))⟩
theorem Own.kept {B : Nat} {E : TypeId} {w w' : World} {v : Value} {cs : List Value} (h : Own B E w v cs) {k : Nat} (hg : w.grownBy w' (some k)) (hk : k < B) : Own B E w' v cs := by
  refine ⟨h.1.kept hg ?_, h.2⟩
  rcases h.1.2 with ⟨rfl, _⟩ | ⟨g, cap, cur, rfl, hB, _⟩
  · exact .inl rfl
  · right; simp [Value.ownBlock]; omega
theorem cell_other {w : World} {B i j : Nat} {u : Value} (h : i ≠ j) : (w.setCell ⟨B, i, none⟩ u).cell? ⟨B, j, none⟩ = w.cell? ⟨B, j, none⟩ := World.cell?_setCell_other _ _ _ _ (fun e => h (by cases e; rfl))
theorem Rd.setL {B : Nat} {w : World} {lv : Value} {T : List Int} {n : Int} {b : Bool} (h : Rd B w lv T n b) (u : Value) : Rd B (w.setCell ⟨B, 0, none⟩ u) u T n b := by
  obtain ⟨tv, h0, h1, h2, h3, hf, ho, hB⟩ := h
  refine ⟨tv, World.cell?_setCell_same' _ _ _ (by rw [h0]; rfl), ?_, ?_, ?_, fun j => by rw [World.frozen?_setCell]; exact hf j, ho.kept (grownBy_set _ _ _ _) (by omega), by rw [World.size_setCell]; exact hB⟩
  · exact (cell_other (by decide)).trans h1
  · exact (cell_other (by decide)).trans h2
  · exact (cell_other (by decide)).trans h3
theorem Rd.setN {B : Nat} {w : World} {lv : Value} {T : List Int} {n : Int} {b : Bool} (h : Rd B w lv T n b) (m : Int) : Rd B (w.setCell ⟨B, 2, none⟩ (.int .i64 m)) lv T m b := by
  obtain ⟨tv, h0, h1, h2, h3, hf, ho, hB⟩ := h
  refine ⟨tv, ?_, ?_, World.cell?_setCell_same' _ _ _ (by rw [h2]; rfl), ?_, fun j => by rw [World.frozen?_setCell]; exact hf j, ho.kept (grownBy_set _ _ _ _) (by omega), by rw [World.size_setCell]; exact hB⟩
  · exact (cell_other (by decide)).trans h0
  · exact (cell_other (by decide)).trans h1
  · exact (cell_other (by decide)).trans h3
theorem Rd.setW {B : Nat} {w : World} {lv : Value} {T : List Int} {n : Int} {b : Bool} (h : Rd B w lv T n b) (q : Bool) : Rd B (w.setCell ⟨B, 3, none⟩ (.bool q)) lv T n q := by
  obtain ⟨tv, h0, h1, h2, h3, hf, ho, hB⟩ := h
  refine ⟨tv, ?_, ?_, ?_, World.cell?_setCell_same' _ _ _ (by rw [h3]; rfl), fun j => by rw [World.frozen?_setCell]; exact hf j, ho.kept (grownBy_set _ _ _ _) (by omega), by rw [World.size_setCell]; exact hB⟩
  · exact (cell_other (by decide)).trans h0
  · exact (cell_other (by decide)).trans h1
  · exact (cell_other (by decide)).trans h2
/-- The text grows: it is appended to, and the field is set. -/
theorem Rd.setT {B : Nat} {w w' : World} {lv tv t2 : Value} {T2 : List Int} {n : Int} {b : Bool} (h0 : w.cell? ⟨B, 0, none⟩ = some lv) (h1 : w.cell? ⟨B, 1, none⟩ = some tv) (h2 : w.cell? ⟨B, 2, none⟩ = some (.int .i64 n)) (h3 : w.cell? ⟨B, 3, none⟩ = some (.bool b)) (hf : ∀ j, w.frozen? ⟨B, j, none⟩ = false) (hB : B < w.heap.size)
    (hb : Below (B + 1) w w') (ho : Own (B + 1) 21 w' t2 (ints .i32 T2)) : Rd B (w'.setCell ⟨B, 1, none⟩ t2) lv T2 n b := by
  have hs := hb.size
  have c : ∀ j, w'.cell? ⟨B, j, none⟩ = w.cell? ⟨B, j, none⟩ := fun j => hb.cell (p := ⟨B, j, none⟩) (Nat.lt_succ_self _)
  have f : ∀ j, w'.frozen? ⟨B, j, none⟩ = w.frozen? ⟨B, j, none⟩ := fun j => hb.frozen (p := ⟨B, j, none⟩) (Nat.lt_succ_self _)
  refine ⟨t2, ?_, World.cell?_setCell_same' _ _ _ (by rw [c, h1]; rfl), ?_, ?_, fun j => by rw [World.frozen?_setCell, f]; exact hf j, ho.kept (grownBy_set _ _ _ _) (by omega), by rw [World.size_setCell]; omega⟩
  · exact ((cell_other (by decide)).trans (c _)).trans h0
  · exact ((cell_other (by decide)).trans (c _)).trans h2
  · exact ((cell_other (by decide)).trans (c _)).trans h3
theorem put_any (B : Nat) (w : World) (lv : Value) (T : List Int) (n : Int) (b : Bool) (c : Int) (h : Rd B w lv T n b) (hl : T.length ≤ 100000) :
    Calls Try.prog 105 #[.pointer (some ⟨B, 0, none⟩), .int .i32 c] w fun e w' => (∃ v, e = .returned v) ∧ Rd B w' lv (T ++ [c]) n b ∧ Below B w w' := by
  obtain ⟨tv, h0, h1, h2, h3, hf, ho, hB⟩ := id h
  go_enter Try.func105, Try.ntmps105
  go_wp2_with (at_builtin; refine wpList_app slT_i32 _ _ _ rfl rfl rfl rfl (ho.alloc _) (Row.ilit [_] [_] rfl (by simp)) (by simp [ints]; omega) (by simp; omega) ?_; intro t2 w2 hown2 hg2; rw [← ints_append] at hown2; have hb2 : Below (B + 1) w w2 := below_own ((Below.refl _ w).alloc hB _) (ho.alloc _) hg2 (by simp; omega) (Nat.le_refl _); have c1 := (hb2.cell (p := ⟨B, 1, none⟩) (Nat.lt_succ_self _)).trans h1; have f1 := (hb2.frozen (p := ⟨B, 1, none⟩) (Nat.lt_succ_self _)).trans (hf 1); obtain ⟨a2, b2, o2, c2, rfl, _⟩ := id hown2.row.op; rw [show (T ++ [c]).length = T.length + 1 by simp] at hown2)
  go_end0
  exact ⟨⟨_, rfl⟩, Rd.setT h0 h1 h2 h3 hf hB hb2 hown2, (hb2.mono (Nat.le_succ _)).setCell (p := ⟨B, 1, none⟩) (Nat.le_refl _) _⟩
theorem digits_any (w0 : World) (w : World) (lv : Value) (r T : List Int) (n : Int) (b : Bool) (h : Rd w0.heap.size w lv T n b) (hr : Row w0 lv (ints .u8 r)) (hb0 : Below w0.heap.size w0 w) (hg : Rg 0 256 r) (hl : r.length ≤ 10000) :
    Calls Try.prog 119 #[.pointer (some ⟨w0.heap.size, 0, none⟩)] w fun e w' => ∃ dv' lv', e = .returned dv' ∧ Rd w0.heap.size w' lv' T n b ∧ Row w0 dv' (ints .u8 (r.take (dl r))) ∧ Row w0 lv' (ints .u8 (r.drop (dl r))) ∧ Below w0.heap.size w0 w' := by
  obtain ⟨tv, h0, h1, h2, h3, hf, ho, hB⟩ := id h
  obtain ⟨a, bb, off, cp, rfl, HC⟩ := hr.op
  have hdl := dl_le r
  have hst := fun k hk => @dl_step r k hk
  generalize dl r = m at *
  have HST := Lib.hid hst; clear hst
  go_enter Try.func119, Try.ntmps119
  go_wp2
  go_loopw [3] (fun i wr => ∃ k : Nat, i = .int .i64 k ∧ k ≤ m ∧ wr = w) (fun i _ => m - (intOf i).toNat)
  case atStart => exact ⟨0, rfl, Nat.zero_le _, rfl⟩
  case round =>
    obtain ⟨k, rfl, hk, rfl⟩ := hrel
    have hrw := hr.below hb0
    by_cases hlt : k < r.length
    · obtain ⟨c, HX, rfl, hc⟩ := HC.out k hlt
      replace hc := hc _ hb0
      have hcr := hg.get HX.out
      have hv := fun w => bValue_any c w hcr.1 hcr.2
      rcases HST.out k hk with ⟨c', hx, hn, hlm⟩ | ⟨hkm, hout⟩
      · have e : c' = c := by have h9 := HX.out; rw [hx] at h9; exact Option.some.inj h9
        subst e
        rw [Int.max_eq_left hn, decide_eq_true hn] at hv
        have HV := Lib.hid hv; clear hv hx hn
        go_wp2_with (go_at_call 107; refine (HV.out _).mono ?_; rintro e w' ⟨rfl, rfl⟩)
        go_roundw
        case rel => exact ⟨k + 1, by go_num, by omega, by first | rfl | trivial⟩
        case measure => simp [intOf]; omega
      · have hn := hout c HX.out
        subst hkm
        rw [Int.max_eq_right (by omega), decide_eq_false (by omega)] at hv
        have HV := Lib.hid hv; clear hv hn hout
        go_wp2_with (first | (go_at_call 107; refine (HV.out _).mono ?_; rintro e w' ⟨rfl, rfl⟩) | (refine wpList_slH slT_u8 _ _ rfl rfl rfl rfl hrw (by omega) (by simp [ints]; omega) ?_; intro v2 hv2; have r2 := hv2 w0 hr; rw [Int.toNat_natCast, ints_take] at r2) | (refine wpList_slL slT_u8 _ _ rfl rfl rfl rfl hrw (by omega) (by simp [ints]; omega) ?_; intro v3 hv3; have r3 := hv3 w0 hr; rw [Int.toNat_natCast, ints_drop] at r3; obtain ⟨a3, b3, o3, c3, rfl, _⟩ := id r3.op; have f0 := hf 0))
        go_ret
        exact ⟨_, _, rfl, h.setL _, r2, by rw [List.length_drop] at r3; exact r3, hb0.setCell (p := ⟨w0.heap.size, 0, none⟩) (Nat.le_refl _) _⟩
    · have hkm : k = r.length := by omega
      have hm : m = r.length := by omega
      subst hm
      subst hkm
      go_wp2_with (first | (refine wpList_slH slT_u8 _ _ rfl rfl rfl rfl hrw (by omega) (by simp [ints]) ?_; intro v2 hv2; have r2 := hv2 w0 hr; rw [Int.toNat_natCast, ints_take] at r2) | (refine wpList_slL slT_u8 _ _ rfl rfl rfl rfl hrw (by omega) (by simp [ints]) ?_; intro v3 hv3; have r3 := hv3 w0 hr; rw [Int.toNat_natCast, ints_drop] at r3; obtain ⟨a3, b3, o3, c3, rfl, _⟩ := id r3.op; have f0 := hf 0))
      go_ret
      exact ⟨_, _, rfl, h.setL _, r2, by rw [List.length_drop, Nat.sub_self] at r3; exact r3, hb0.setCell (p := ⟨w0.heap.size, 0, none⟩) (Nat.le_refl _) _⟩
/-- A row's value with its length as the walk has it. -/
theorem Row.len_eq {w : World} {a : Option Addr} {n m cap : Nat} {cs : List Value} (h : Row w (.slice a n cap) cs) (e : n = m) : Row w (.slice a m cap) cs := e ▸ h
theorem Own.len_eq {B : Nat} {E : TypeId} {w : World} {a : Option Addr} {n m cap : Nat} {cs : List Value} (h : Own B E w (.slice a n cap) cs) (e : n = m) : Own B E w (.slice a m cap) cs := e ▸ h
end Go.Proofs.Ytieeafkbgmpofaa
