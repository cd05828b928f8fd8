/- Walks: the reader's step; reading. -/
import Derived.Test.YtieeafkbgmpofaaW23h
namespace Go.Proofs.Ytieeafkbgmpofaa
open Go.RowKit
set_option maxHeartbeats 2000000
theorem sout_len (c : Int) (r : List Int) : (sout c r).length ≤ sn c r + 1 := by
  have h := runT_len (r.take (dl r))
  rw [List.length_take] at h
  have h2 := dl_le r
  unfold sout sn
  repeat' split
  all_goals (first | (simp only [List.length_append, List.length_cons, List.length_nil]; omega) | omega | simp)
theorem srun_le (c : Int) (r : List Int) : srun c r ≤ 1 := by unfold srun; split <;> omega
theorem sn_le (c : Int) (r : List Int) : sn c r ≤ r.length := by
  have := dl_le r
  unfold sn
  split
  · split
    · rename_i h
      have := (List.getElem?_eq_some_iff.1 h).1; omega
    · omega
  · omega
theorem shifted_any (w0 : World) (w : World) (lv : Value) (r T : List Int) (n : Int) (b : Bool) (h : Rd w0.heap.size w lv T n b) (hr : Row w0 lv (ints .u8 r)) (hb0 : Below w0.heap.size w0 w) (hg : Rg 0 256 r) (hl : r.length ≤ 10000) (hT : T.length ≤ 60000) (hn0 : 0 ≤ n) (hn1 : n ≤ 60000) :
    Calls Try.prog 106 #[.pointer (some ⟨w0.heap.size, 0, none⟩)] w fun e w' => (∃ v, e = .returned v) ∧ ShPost w0 r T n b w' := by
  rcases Nat.eq_zero_or_pos (dl r) with hm | hm
  · exact shifted0_any w0 w lv r T n b h hr hb0 hg hl hT hm
  · exact shiftedN_any w0 w lv r T n b h hr hb0 hg hl hT hn0 hn1 hm
def StPost (w0 : World) (c : Int) (r T : List Int) (n : Int) (b : Bool) (w' : World) : Prop :=
  ∃ lv', Rd w0.heap.size w' lv' (T ++ sout c r) (n + srun c r) (b || swr c r) ∧ Row w0 lv' (ints .u8 (r.drop (sn c r))) ∧ Below w0.heap.size w0 w'
set_option maxRecDepth 100000 in
theorem step_any (w0 : World) (w : World) (lv : Value) (c : Int) (r T : List Int) (n : Int) (b : Bool) (h : Rd w0.heap.size w lv T n b) (hr : Row w0 lv (ints .u8 (c :: r))) (hb0 : Below w0.heap.size w0 w) (hg : Rg 0 256 (c :: r)) (hl : (c :: r).length ≤ 10000) (hT : T.length ≤ 60000) (hn0 : 0 ≤ n) (hn1 : n ≤ 60000) :
    Calls Try.prog 80 #[.pointer (some ⟨w0.heap.size, 0, none⟩)] w fun e w' => (∃ v, e = .returned v) ∧ StPost w0 c r T n b w' := by
  have hcr := hg.cons.1
  have hgr := hg.cons.2
  have hlr : r.length ≤ 10000 := by simp at hl; omega
  obtain ⟨a, bb, off, cp, rfl, HC⟩ := id hr.op
  obtain ⟨y, HY, rfl, hc⟩ := HC.out 0 (by simp)
  have ey : c = y := by have h9 := HY.out; rw [List.getElem?_cons_zero] at h9; exact Option.some.inj h9
  subst ey
  replace hc := hc _ hb0
  simp only [Nat.add_zero] at hc
  clear HC HY
  obtain ⟨tv, q0, q1, q2, q3, qf, qo, qB⟩ := id h
  have f0 := qf 0
  have f3 := qf 3
  by_cases h1 : 128 ≤ c
  · have e1 : sout c r = [65533] := by rw [sout, if_pos h1]
    have e2 : srun c r = 0 := by rw [srun, if_neg (by omega)]
    have e3 : swr c r = true := by rw [swr, if_pos h1]
    have e4 : sn c r = 0 := by rw [sn, if_neg (by omega)]
    have hP : ∀ w', StPost w0 c r T n b w' = ∃ lv', Rd w0.heap.size w' lv' (T ++ [65533]) n true ∧ Row w0 lv' (ints .u8 r) ∧ Below w0.heap.size w0 w' := fun w' => by rw [StPost, e1, e2, e3, e4]; simp
    generalize StPost w0 c r T n b = Q at *
    have HPP := Lib.hid hP
    clear hP e1 e2 e3 e4
    go_enter Try.func80, Try.ntmps80
    go_wp2_with (first | (refine wpList_slL slT_u8 _ _ rfl rfl rfl rfl (hr.below hb0) (by omega) (by simp [ints]; omega) ?_; intro v3 hv3; have r3 := hv3 w0 hr; rw [show (1 : Int).toNat = 1 from rfl, ints_drop] at r3; obtain ⟨a3, b3, o3, c3, rfl, _⟩ := id r3.op) | (go_at_call 105; refine (put_any _ _ _ _ _ _ _ (h.setL _) (by omega)).mono ?_; rintro e w2 ⟨⟨v2, rfl⟩, hrd2, hb2⟩; obtain ⟨tv2, p0, p1, p2, p3, pf, po, pB⟩ := id hrd2; have g3 := pf 3))
    go_end0
    refine ⟨⟨_, rfl⟩, ?_⟩
    rw [HPP.out]
    exact ⟨_, hrd2.setW _, r3, ((hb0.setCell (p := ⟨w0.heap.size, 0, none⟩) (Nat.le_refl _) _).trans hb2).setCell (p := ⟨w0.heap.size, 3, none⟩) (Nat.le_refl _) _⟩
  · by_cases h43 : c = 43
    · subst h43
      clear h1
      have hQ : ∀ w', ShPost w0 r T n b w' → StPost w0 43 r T n b w' := fun w' h => h
      have hSh := fun w lv h hr hb0 => shifted_any w0 w lv r T n b h hr hb0 hgr hlr hT hn0 hn1
      generalize StPost w0 43 r T n b = Q at *
      generalize ShPost w0 r T n b = Q2 at *
      have HQ := Lib.hid hQ; have HSH := Lib.hid hSh
      clear hQ hSh
      go_enter Try.func80, Try.ntmps80
      go_wp2_with (first | (refine wpList_slL slT_u8 _ _ rfl rfl rfl rfl (hr.below hb0) (by omega) (by simp [ints]; omega) ?_; intro v3 hv3; have r3 := hv3 w0 hr; rw [show (1 : Int).toNat = 1 from rfl, ints_drop] at r3; obtain ⟨a3, b3, o3, c3, rfl, _⟩ := id r3.op) | (go_at_call 106; refine (HSH.out _ _ (h.setL _) r3 (hb0.setCell (p := ⟨w0.heap.size, 0, none⟩) (Nat.le_refl _) _)).mono ?_; rintro e w2 ⟨⟨v2, rfl⟩, hq2⟩))
      go_end0
      exact ⟨⟨_, rfl⟩, HQ.out _ hq2⟩
    · have e1 : sout c r = [c] := by rw [sout, if_neg h1, if_neg h43]
      have e2 : srun c r = 0 := by rw [srun, if_neg (by omega)]
      have e3 : swr c r = false := by rw [swr, if_neg h1, if_neg h43]
      have e4 : sn c r = 0 := by rw [sn, if_neg h43]
      have hP : ∀ w', StPost w0 c r T n b w' = ∃ lv', Rd w0.heap.size w' lv' (T ++ [c]) n b ∧ Row w0 lv' (ints .u8 r) ∧ Below w0.heap.size w0 w' := fun w' => by rw [StPost, e1, e2, e3, e4]; simp
      generalize StPost w0 c r T n b = Q at *
      have HPP := Lib.hid hP
      have hne : (c == 43) = false := beq_false_of_ne h43
      have hlt : c < 128 := by omega
      clear hP e1 e2 e3 e4 h1 h43
      go_enter Try.func80, Try.ntmps80
      go_wp2_with (first | (refine wpList_slL slT_u8 _ _ rfl rfl rfl rfl (hr.below hb0) (by omega) (by simp [ints]; omega) ?_; intro v3 hv3; have r3 := hv3 w0 hr; rw [show (1 : Int).toNat = 1 from rfl, ints_drop] at r3; obtain ⟨a3, b3, o3, c3, rfl, _⟩ := id r3.op) | (go_at_call 105; refine (put_any _ _ _ _ _ _ _ (h.setL _) (by omega)).mono ?_; rintro e w2 ⟨⟨v2, rfl⟩, hrd2, hb2⟩))
      go_end0
      refine ⟨⟨_, rfl⟩, ?_⟩
      rw [HPP.out]
      exact ⟨_, hrd2, r3, (hb0.setCell (p := ⟨w0.heap.size, 0, none⟩) (Nat.le_refl _) _).trans hb2⟩
end Go.Proofs.Ytieeafkbgmpofaa
