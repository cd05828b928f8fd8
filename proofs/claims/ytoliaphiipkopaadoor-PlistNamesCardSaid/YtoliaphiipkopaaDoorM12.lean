/- Walks: comments and gaps, by the program. · Walks: gaps, by the program and by the reference. (laid together by program out of single texts). -/
import Derived.Test.YtoliaphiipkopaaDoorM8
import Derived.Test.YtoliaphiipkopaaDoorM9
import Derived.Test.YtoliaphiipkopaaDoorM11
namespace Go.Proofs.YtoliaphiipkopaaDoor
open Go.RowKit
set_option maxHeartbeats 4000000
set_option maxRecDepth 100000
/-- The record of a comment at block P: how deep, how deep at most, whether the next octet is taken. -/
def Cm (P : Nat) (w : World) (d m : Int) (t : Bool) : Prop :=
  w.cell? ⟨P, 0, none⟩ = some (.int .i64 d) ∧ w.cell? ⟨P, 1, none⟩ = some (.int .i64 m) ∧ w.cell? ⟨P, 2, none⟩ = some (.bool t) ∧ (∀ j, w.frozen? ⟨P, j, none⟩ = false) ∧ P < w.heap.size
section
variable {P : Nat} {w w' : World} {d m : Int} {t : Bool}
theorem cm_other {B i j : Nat} {u : Value} (h : i ≠ j) : (w.setCell ⟨B, i, none⟩ u).cell? ⟨B, j, none⟩ = w.cell? ⟨B, j, none⟩ := World.cell?_setCell_other _ _ _ _ (fun e => h (by cases e; rfl))
theorem Cm.below (h : Cm P w d m t) (hb : Below w.heap.size w w') : Cm P w' d m t := by
  obtain ⟨h0, h1, h2, hf, hP⟩ := h
  exact ⟨(hb.cell (p := ⟨P, 0, none⟩) hP).trans h0, (hb.cell (p := ⟨P, 1, none⟩) hP).trans h1, (hb.cell (p := ⟨P, 2, none⟩) hP).trans h2, fun j => (hb.frozen (p := ⟨P, j, none⟩) hP).trans (hf j), Nat.lt_of_lt_of_le hP hb.size⟩
theorem Cm.setD (h : Cm P w d m t) (q : Int) : Cm P (w.setCell ⟨P, 0, none⟩ (.int .i64 q)) q m t := by
  obtain ⟨h0, h1, h2, hf, hP⟩ := h
  exact ⟨World.cell?_setCell_same' _ _ _ (by rw [h0]; rfl), (cm_other (by decide)).trans h1, (cm_other (by decide)).trans h2, fun j => by rw [World.frozen?_setCell]; exact hf j, by rw [World.size_setCell]; exact hP⟩
theorem Cm.setM (h : Cm P w d m t) (q : Int) : Cm P (w.setCell ⟨P, 1, none⟩ (.int .i64 q)) d q t := by
  obtain ⟨h0, h1, h2, hf, hP⟩ := h
  exact ⟨(cm_other (by decide)).trans h0, World.cell?_setCell_same' _ _ _ (by rw [h1]; rfl), (cm_other (by decide)).trans h2, fun j => by rw [World.frozen?_setCell]; exact hf j, by rw [World.size_setCell]; exact hP⟩
theorem Cm.setT (h : Cm P w d m t) (q : Bool) : Cm P (w.setCell ⟨P, 2, none⟩ (.bool q)) d m q := by
  obtain ⟨h0, h1, h2, hf, hP⟩ := h
  exact ⟨(cm_other (by decide)).trans h0, (cm_other (by decide)).trans h1, World.cell?_setCell_same' _ _ _ (by rw [h2]; rfl), fun j => by rw [World.frozen?_setCell]; exact hf j, by rw [World.size_setCell]; exact hP⟩
end
/-- What an octet does to a comment: how deep, whether the next one is taken, whether it ends. -/
def cmS (d : Int) (t : Bool) (c : Int) : Int × Bool × Bool :=
  if t = true then (d, false, false) else if c = 92 then (d, true, false) else if c = 40 then (d + 1, false, false) else if c = 41 then (d - 1, false, decide (d - 1 = 0)) else (d, false, false)
theorem take_any (P : Nat) (d m c : Int) (t : Bool) (w : World) (h : Cm P w d m t) (hd : -1000000 ≤ d) (hd2 : d ≤ 1000000) :
    Calls Tryd.prog 57 #[.pointer (some ⟨P, 0, none⟩), .int .u8 c] w fun e w' => ∃ m', e = .returned (.bool (cmS d t c).2.2) ∧ Cm P w' (cmS d t c).1 m' (cmS d t c).2.1 ∧ Below P w w' := by
  have hb := Below.refl P w
  obtain ⟨h0, h1, h2, hf, hP⟩ := id h
  have HF := Lib.hid hf
  have hf0 := hf 0; have hf1 := hf 1; have hf2 := hf 2
  have HH := Lib.hid h
  clear hf h
  rcases t with _ | _
  · by_cases c1 : c = 92
    · subst c1
      go_enter Tryd.func57, Tryd.ntmps57
      go_wp2
      go_ret
      exact ⟨m, rfl, HH.out.setT true, hb.setCell (Nat.le_refl _) _⟩
    · have b1 : (c == 92) = false := beq_false_of_ne c1
      by_cases c2 : c = 40
      · subst c2
        have w1 : IntKind.i64.wrap (d + 1) = d + 1 := IntWalk.i64_in _ (by omega)
        clear c1 b1
        go_enter Tryd.func57, Tryd.ntmps57
        go_wp2
        have H1 := HH.out.setD (d + 1)
        obtain ⟨g0, g1, g2, gf, gP⟩ := id H1
        have gf1 := gf 1
        clear gf
        clear h0 h1 h2 hf0 hf1 hf2
        go_region
        all_goals go_wp2
        all_goals go_ret
        all_goals exact ⟨_, rfl, (H1.below ((Below.refl _ _).drew)).setM _, ((hb.setCell (Nat.le_refl _) _).drew).setCell (Nat.le_refl _) _⟩
      · have b2 : (c == 40) = false := beq_false_of_ne c2
        by_cases c3 : c = 41
        · subst c3
          clear c1 c2
          go_enter Tryd.func57, Tryd.ntmps57
          go_wp2
          go_ret
          exact ⟨m, ret_bool (by rw [Bool.eq_iff_iff]; simp [cmS]), HH.out.setD (d - 1), hb.setCell (Nat.le_refl _) _⟩
        · have b3 : (c == 41) = false := beq_false_of_ne c3
          have e : cmS d false c = (d, false, false) := by rw [cmS, if_neg (by decide), if_neg c1, if_neg c2, if_neg c3]
          rw [e]
          clear c1 c2 c3 e
          go_enter Tryd.func57, Tryd.ntmps57
          go_wp2
          go_ret
          exact ⟨m, rfl, HH.out, hb⟩
  · go_enter Tryd.func57, Tryd.ntmps57
    go_wp2
    go_ret
    exact ⟨m, rfl, HH.out.setT false, hb.setCell (Nat.le_refl _) _⟩
theorem cmt_step (d : Int) (t : Bool) (c : Int) (r : List Int) : cmt d t (c :: r) = if (cmS d t c).2.2 = true then 1 else 1 + cmt (cmS d t c).1 (cmS d t c).2.1 r := by
  rw [cmt, cmS]
  by_cases h1 : t = true
  · rw [if_pos h1, if_pos h1]; rfl
  · rw [if_neg h1, if_neg h1]
    by_cases h2 : c = 92
    · rw [if_pos h2, if_pos h2]; rfl
    · rw [if_neg h2, if_neg h2]
      by_cases h3 : c = 40
      · rw [if_pos h3, if_pos h3]; rfl
      · rw [if_neg h3, if_neg h3]
        by_cases h4 : c = 41
        · rw [if_pos h4, if_pos h4]
          by_cases h5 : d - 1 = 0
          · rw [if_pos h5]; simp [h5]
          · rw [if_neg h5]; simp [h5]
        · rw [if_neg h4, if_neg h4]; rfl
theorem cmS_rng (d : Int) (t : Bool) (c : Int) (k : Nat) (h1 : -(k : Int) ≤ d) (h2 : d ≤ k) : -((k + 1 : Nat) : Int) ≤ (cmS d t c).1 ∧ (cmS d t c).1 ≤ ((k + 1 : Nat) : Int) := by
  unfold cmS
  split
  · simp only []; omega
  · split
    · simp only []; omega
    · split
      · simp only []; omega
      · split
        · simp only []; omega
        · simp only []; omega
theorem Cm.new (w : World) (T : TypeId) : Cm w.heap.size (w.alloc (.cells #[.int .i64 0, .int .i64 0, .bool false] T)) 0 0 false := by
  have hc := fun j => cell_of_row (w.alloc (.cells #[.int .i64 0, .int .i64 0, .bool false] T)) w.heap.size j #[.int .i64 0, .int .i64 0, .bool false] T (0, 0) (heap_alloc_new w _)
  refine ⟨by rw [hc]; rfl, by rw [hc]; rfl, by rw [hc]; rfl, fun j => ?_, by simp⟩
  unfold World.frozen?
  rw [heap_alloc_new w _]
  simp
theorem drop_cons {xs : List Int} {k : Nat} {c : Int} (h : xs[k]? = some c) : xs.drop k = c :: xs.drop (k + 1) := by
  obtain ⟨h1, h2⟩ := List.getElem?_eq_some_iff.1 h
  rw [List.drop_eq_getElem_cons h1, h2]
theorem over_any (v : Value) (xs : List Int) (w : World) (h : Row w v (ints .u8 xs)) (hl : xs.length ≤ 900000) :
    Calls Tryd.prog 49 #[v] w fun e w' => ∃ m, e = .returned (.tuple #[.int .i64 (cmt 0 false xs : Nat), .int .i64 m]) ∧ Below w.heap.size w w' := by
  have hmf : ∀ (fn : Fn) (first cap : Array Value) (w : World), (Instr.makeFunc fn first cap).run Tryd.prog w = .ok (.func fn first cap) w := fun _ _ _ _ => rfl
  obtain ⟨a, b, off, cp, rfl, HC⟩ := h.op
  obtain ⟨q, HQ⟩ : ∃ q, Hid (cmt 0 false xs = q) := ⟨_, rfl⟩
  rw [HQ.out]
  have hC0 := Cm.new w 78
  have hB0 := below_alloc w (.cells #[.int .i64 0, .int .i64 0, .bool false] 78)
  have HC0 := Lib.hid hC0; have HB0 := Lib.hid hB0
  clear hC0 hB0
  go_enter Tryd.func49, Tryd.ntmps49
  go_wp2
  go_loopw [14] (fun i wr => ∃ (k : Nat) (d m : Int) (t : Bool), i = .int .i64 k ∧ k ≤ xs.length ∧ -(k : Int) ≤ d ∧ d ≤ k ∧ Hid (Cm w.heap.size wr d m t) ∧ Hid (cmt d t (xs.drop k) + k = q) ∧ Below w.heap.size w wr) (fun i _ => xs.length - (intOf i).toNat)
  case atStart => exact ⟨0, 0, 0, false, rfl, Nat.zero_le _, by omega, by omega, HC0.out, HQ.out, HB0.out⟩
  case round =>
    obtain ⟨k, d, m, t, rfl, hk, hd1, hd2, HCM, HK, hb⟩ := hrel
    by_cases hlt : k < xs.length
    · obtain ⟨c, HX, rfl, hc⟩ := HC.out k hlt
      replace hc := hc _ hb
      have hT := take_any w.heap.size d m c t wr HCM.out (by omega) (by omega)
      have hst := cmt_step d t c (xs.drop (k + 1))
      have hrg := cmS_rng d t c k hd1 hd2
      rw [← drop_cons HX.out] at hst
      have hkk := HK.out
      rw [hst] at hkk
      generalize (cmS d t c).1 = d2 at *
      generalize (cmS d t c).2.1 = t2 at *
      generalize (cmS d t c).2.2 = e2 at *
      have HT := Lib.hid hT
      have HKK := Lib.hid hkk
      clear hT hst hkk hd1 hd2
      obtain ⟨hr1, hr2⟩ := hrg
      rcases e2 with _ | _
      · go_wp2_with (go_at_call 57; refine (HT.out).mono ?_; rintro e w2 ⟨m2, rfl, hcm2, hb2⟩; have HC2 := Lib.hid hcm2; have HB2 := Lib.hid hb2; clear hcm2 hb2)
        go_roundw
        case rel => exact ⟨k + 1, d2, m2, t2, by go_num, by omega, hr1, hr2, HC2.out, by (have h9 := HKK.out; simp only [Bool.false_eq_true, if_false] at h9; show _ = _; omega), hb.trans HB2.out⟩
        case measure => simp [intOf]; omega
      · have hq : q = k + 1 := by have h9 := HKK.out; simp only [if_true] at h9; omega
        subst hq
        go_wp2_with (go_at_call 57; refine (HT.out).mono ?_; rintro e w2 ⟨m2, rfl, hcm2, hb2⟩; obtain ⟨g0, g1, g2, gf, gP⟩ := hcm2; have HB2 := Lib.hid hb2; clear hb2 gf)
        go_region
        all_goals go_wp2
        all_goals go_ret2
        all_goals exact ⟨m2, ret2 (by go_num) rfl, (hb.trans HB2.out).drew⟩
    · have hkq : q = xs.length := by have h9 := HK.out; rw [List.drop_eq_nil_of_le (by omega)] at h9; simp only [cmt] at h9; omega
      subst hkq
      obtain ⟨g0, g1, g2, gf, gP⟩ := HCM.out
      clear gf
      go_wp2_with fail
      go_region
      all_goals go_wp2
      all_goals go_ret2
      all_goals exact ⟨m, rfl, hb.drew⟩
end Go.Proofs.YtoliaphiipkopaaDoor
namespace Go.Proofs.YtoliaphiipkopaaDoor
open Go.RowKit
set_option maxHeartbeats 4000000
set_option maxRecDepth 100000
theorem gp_at {xs : List Int} {k : Nat} {c : Int} (h : xs[k]? = some c) : gp (xs.drop k) = if c = 40 then cmt 0 false (xs.drop k) + gp (xs.drop (k + cmt 0 false (xs.drop k))) else if c = 13 ∨ c = 10 ∨ blB c = true then 1 + gp (xs.drop (k + 1)) else 0 := by
  rw [drop_cons h, gp_cons, ← drop_cons h, List.drop_drop]
theorem gap_any (v : Value) (xs : List Int) (at0 : Nat) (w : World) (h : Row w v (ints .u8 xs)) (hg : Rg 0 256 xs) (hl : xs.length ≤ 900000) (hat : at0 ≤ xs.length) :
    Calls Tryd.prog 36 #[v, .int .i64 at0] w fun e w' => e = .returned (.int .i64 (at0 + gp (xs.drop at0) : Nat)) ∧ Below w.heap.size w w' := by
  obtain ⟨a, b, off, cp, rfl, HC⟩ := id h.op
  obtain ⟨q, HQ⟩ : ∃ q, Hid (at0 + gp (xs.drop at0) = q) := ⟨_, rfl⟩
  rw [HQ.out]
  have hmx : max (at0 : Int) 0 = at0 := Int.max_eq_left (by omega)
  have hmn : min (at0 : Int) (xs.length : Int) = at0 := Int.min_eq_left (by omega)
  go_enter Tryd.func36, Tryd.ntmps36
  go_wp2
  clear hmx hmn
  go_loopw [1] (fun i wr => ∃ k : Nat, i = .int .i64 k ∧ k ≤ xs.length ∧ Hid (k + gp (xs.drop k) = q) ∧ Below w.heap.size w wr) (fun i _ => xs.length - (intOf i).toNat)
  case atStart => exact ⟨at0, rfl, hat, HQ.out, Below.refl _ _⟩
  case round =>
    obtain ⟨k, rfl, hk, HK, hb⟩ := hrel
    by_cases hlt : k < xs.length
    · obtain ⟨c, HX, rfl, hc⟩ := HC.out k hlt
      replace hc := hc _ hb
      have hcr := hg.get HX.out
      have hgp := gp_at HX.out
      have hkk := HK.out
      rw [hgp] at hkk
      clear hgp
      by_cases h40 : c = 40
      · rw [if_pos h40] at hkk
        have hO := fun v2 w' h' => over_any v2 (xs.drop k) w' h' (by rw [List.length_drop]; omega)
        have hcl := cmt_len (xs.drop k) 0 false
        have hcp : 1 ≤ cmt 0 false (xs.drop k) := by rw [drop_cons HX.out]; exact cmt_pos _ _ _ _
        rw [List.length_drop] at hcl
        generalize cmt 0 false (xs.drop k) = n at *
        have HO := Lib.hid hO; have HKK := Lib.hid hkk
        clear hO hkk
        subst h40
        go_wp2_with (first | (refine wpList_slL slT_u8 _ _ rfl rfl rfl rfl (h.below hb) (by omega) (by simp [ints]; omega) ?_; intro v2 hv2; have r2 := hv2 _ (h.below hb); rw [Int.toNat_natCast, ints_drop] at r2; clear hv2) | (go_at_call 49; refine (HO.out _ _ r2).mono ?_; rintro e w2 ⟨m2, rfl, hb2⟩))
        go_roundw
        case rel =>
          first
          | exact ⟨k + n, by go_num, by omega, by (show _ = _; have h9 := HKK.out; omega), below_trans hb hb2⟩
          | (repeat apply Exists.intro)
            refine And.intro ⟨k + n, by go_num, by omega, by (show _ = _; have h9 := HKK.out; omega), below_trans hb hb2⟩ ?_
            repeat apply And.intro
            all_goals rfl
        case measure => simp [intOf]; omega
      · have b40 : (c == 40) = false := beq_false_of_ne h40
        rw [if_neg h40] at hkk
        clear h40
        by_cases h13 : c = 13
        · rw [if_pos (.inl h13)] at hkk
          have HKK := Lib.hid hkk; clear hkk
          subst h13
          go_wp2
          go_roundw
          case rel =>
            first
            | exact ⟨k + 1, by go_num, by omega, by (show _ = _; have h9 := HKK.out; omega), hb⟩
            | (repeat apply Exists.intro)
              refine And.intro ⟨k + 1, by go_num, by omega, by (show _ = _; have h9 := HKK.out; omega), hb⟩ ?_
              repeat apply And.intro
              all_goals rfl
          case measure => simp [intOf]; omega
        · have b13 : (c == 13) = false := beq_false_of_ne h13
          by_cases h10 : c = 10
          · rw [if_pos (.inr (.inl h10))] at hkk
            have HKK := Lib.hid hkk; clear hkk
            subst h10
            go_wp2
            go_roundw
            case rel =>
              first
              | exact ⟨k + 1, by go_num, by omega, by (show _ = _; have h9 := HKK.out; omega), hb⟩
              | (repeat apply Exists.intro)
                refine And.intro ⟨k + 1, by go_num, by omega, by (show _ = _; have h9 := HKK.out; omega), hb⟩ ?_
                repeat apply And.intro
                all_goals rfl
            case measure => simp [intOf]; omega
          · have b10 : (c == 10) = false := beq_false_of_ne h10
            have hi := fun w => ois_any c 2 (blB c) w hcr.1 hcr.2 (kind_of kind_bl hcr.1 hcr.2)
            cases hbl : blB c with
            | true =>
              rw [if_pos (.inr (.inr hbl))] at hkk
              rw [hbl] at hi
              have HKK := Lib.hid hkk; have HI := Lib.hid hi; clear hkk hi h13 h10 hbl
              go_wp2_with (go_at_call 44; refine (HI.out _).mono ?_; rintro e w' ⟨rfl, hw⟩; obtain rfl := hw.symm)
              go_roundw
              case rel =>
                first
                | exact ⟨k + 1, by go_num, by omega, by (show _ = _; have h9 := HKK.out; omega), hb⟩
                | (repeat apply Exists.intro)
                  refine And.intro ⟨k + 1, by go_num, by omega, by (show _ = _; have h9 := HKK.out; omega), hb⟩ ?_
                  repeat apply And.intro
                  all_goals rfl
              case measure => simp [intOf]; omega
            | false =>
              rw [if_neg (by rw [hbl]; simp [h13, h10])] at hkk
              rw [hbl] at hi
              have HI := Lib.hid hi
              have hkq : k = q := by omega
              subst hkq
              clear hkk hi h13 h10 hbl
              go_wp2_with (go_at_call 44; refine (HI.out _).mono ?_; rintro e w' ⟨rfl, hw⟩; obtain rfl := hw.symm)
              go_ret
              exact ⟨rfl, hb⟩
    · have hkq : k = q := by have h9 := HK.out; rw [List.drop_eq_nil_of_le (by omega), gp_nil] at h9; omega
      subst hkq
      go_wp2
      go_ret
      exact ⟨rfl, hb⟩
end Go.Proofs.YtoliaphiipkopaaDoor
