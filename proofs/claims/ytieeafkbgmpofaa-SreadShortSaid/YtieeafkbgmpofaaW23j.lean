/- Walks: reading, by the program. -/
import Derived.Test.YtieeafkbgmpofaaW23i
namespace Go.Proofs.Ytieeafkbgmpofaa
open Go.RowKit
set_option maxHeartbeats 2000000
theorem alloc_new (w : World) (o : Obj) : (w.alloc o).heap[w.heap.size]? = some o := by
  show (w.heap.push o)[w.heap.size]? = some o
  exact Array.getElem?_push_size
theorem cell_new (w : World) (cs : Array Value) (ty : TypeId) (i : Nat) : (w.alloc (.cells cs ty)).cell? ⟨w.heap.size, i, none⟩ = cs[i]? := by
  have h := alloc_new w (.cells cs ty)
  simp only [World.cell?, h]
  exact if_neg (by decide)
theorem frozen_new (w : World) (cs : Array Value) (ty : TypeId) (i : Nat) : (w.alloc (.cells cs ty)).frozen? ⟨w.heap.size, i, none⟩ = false := by
  have h := alloc_new w (.cells cs ty)
  simp only [World.frozen?, h]
  simp
/-- What the loop of read keeps. -/
def RDI (w : World) (xs : List Int) (wr : World) : Prop :=
  ∃ (p : Nat) (lv : Value) (T : List Int) (n : Nat) (b : Bool), p ≤ xs.length ∧ Rd w.heap.size wr lv T n b ∧ Row w lv (ints .u8 (xs.drop p)) ∧ Below w.heap.size w wr ∧ T.length ≤ p ∧ n ≤ p ∧
    Hid (sread xs = (T ++ (sread (xs.drop p)).1, n + (sread (xs.drop p)).2.1, b || (sread (xs.drop p)).2.2))
def leftOf (B : Nat) (wr : World) : Nat := lenOf ((wr.cell? ⟨B, 0, none⟩).getD undef)
set_option maxRecDepth 100000 in
theorem oread_any (v : Value) (xs : List Int) (w : World) (h : Row w v (ints .u8 xs)) (hg : Rg 0 256 xs) (hl : xs.length ≤ 10000) :
    Calls Try.prog 51 #[v] w fun e w' => e = .returned (.pointer (some ⟨w.heap.size, 0, none⟩)) ∧ (∃ lv, Rd w.heap.size w' lv (sread xs).1 (sread xs).2.1 (sread xs).2.2) ∧ Below w.heap.size w w' := by
  obtain ⟨a, bb, off, cp, rfl, _⟩ := id h.op
  go_enter Try.func51, Try.ntmps51
  go_wp2
  go_loopw [] (fun wr => RDI w xs wr) (fun wr => leftOf w.heap.size wr)
  case atStart =>
    refine ⟨0, .slice a xs.length cp, [], 0, false, Nat.zero_le _, ⟨.slice none 0 0, ?_, ?_, ?_, ?_, ?_, Own.nil _ _ _, by simp⟩, h, (Below.refl _ _).alloc (Nat.le_refl _) _, Nat.le_refl _, Nat.le_refl _, ?_⟩
    · rw [cell_new]; rfl
    · rw [cell_new]; rfl
    · rw [cell_new]; rfl
    · rw [cell_new]; rfl
    · intro j; exact frozen_new _ _ _ j
    · show _ = _
      simp
  case round =>
    obtain ⟨p, lv, T, n, b, hp, hrd, hrow, hbr, hT, hn, HS⟩ := hrel
    obtain ⟨tv, q0, q1, q2, q3, qf, qo, qB⟩ := id hrd
    rcases hx : xs.drop p with _ | ⟨c, r⟩
    · have hs := HS.out
      rw [hx, sread_nil] at hs
      rw [hx] at hrow
      obtain ⟨al, bl, ol, cl, rfl, _⟩ := id hrow.op
      have HS2 := Lib.hid hs
      clear hs HS hx
      go_wp2
      go_ret
      refine ⟨rfl, ⟨.slice al ([] : List Int).length cl, ?_⟩, hbr⟩
      rw [HS2.out]
      simp only [List.append_nil, Nat.add_zero, Bool.or_false]
      exact hrd
    · have hxc : xs[p]? = some c := by
        have h9 := congrArg (fun l : List Int => l[0]?) hx
        simp only [List.getElem?_drop, List.getElem?_cons_zero, Nat.add_zero] at h9
        exact h9
      have hpl := (List.getElem?_eq_some_iff.1 hxc).1
      have hr1 : xs.drop (p + 1) = r := by
        have h9 := congrArg (fun l : List Int => l.drop 1) hx
        simp only [List.drop_drop, List.drop_succ_cons, List.drop_zero] at h9
        exact h9
      have hs := HS.out
      rw [sread_at hxc, hr1] at hs
      rw [hx] at hrow
      have hsl := sout_len c r
      have hsr := srun_le c r
      have hsn := sn_le c r
      have hrl : r.length = xs.length - (p + 1) := by rw [← hr1, List.length_drop]
      have hgr : Rg 0 256 (c :: r) := by rw [← hx]; exact hg.drop p
      have hdr : r.drop (sn c r) = xs.drop (p + 1 + sn c r) := by rw [← hr1, List.drop_drop]
      obtain ⟨al, bl, ol, cl, rfl, _⟩ := id hrow.op
      have hst := step_any w wr _ c r T n b hrd hrow hbr hgr (by simp; omega) (by omega) (by omega) (by omega)
      have hQ : ∀ w', StPost w c r T n b w' → RDI w xs w' ∧ leftOf w.heap.size w' < leftOf w.heap.size wr := by
        rintro w' ⟨lv', z1, z2, z3⟩
        rw [hdr] at z2
        refine ⟨⟨p + 1 + sn c r, lv', _, n + srun c r, _, by omega, (by rw [Int.natCast_add]; exact z1), z2, z3, by rw [List.length_append]; omega, by omega, ?_⟩, ?_⟩
        · show _ = _
          rw [hs]
          simp only [List.append_assoc, Nat.add_assoc, Bool.or_assoc]
        · obtain ⟨_, y0, _⟩ := z1
          rw [leftOf, leftOf, y0, q0, Option.getD_some, Option.getD_some, z2.len, ints_length, List.length_drop]
          simp only [lenOf, List.length_cons]; omega
      generalize StPost w c r T n b = Q at *
      have HST := Lib.hid hst; have HQ := Lib.hid hQ
      have hlen : 0 < (c :: r).length := by simp
      clear hst hQ hs HS hsl hsr hsn hdr hx hr1 hxc
      go_wp2_with (go_at_call 80; refine (HST.out).mono ?_; rintro e w2 ⟨⟨v2, rfl⟩, hq2⟩)
      go_roundw
      case rel => exact (HQ.out _ hq2).1
      case measure => exact (HQ.out _ hq2).2
theorem oRead_any (v : Value) (xs : List Int) (w : World) (h : Row w v (ints .u8 xs)) (hg : Rg 0 256 xs) (hl : xs.length ≤ 10000) :
    Calls Try.prog 18 #[v] w fun e w' => ∃ t, e = .returned t ∧ Own w.heap.size 21 w' t (ints .i32 (sread xs).1) ∧ Below w.heap.size w w' := by
  go_enter Try.func18, Try.ntmps18
  go_wp2_with (go_at_call 51; refine (oread_any _ _ _ h hg hl).mono ?_; rintro e w1 ⟨rfl, ⟨lv, tv, q0, q1, q2, q3, qf, qo, qB⟩, hb⟩)
  go_ret
  exact ⟨_, rfl, qo.mono (Nat.le_succ _), hb⟩
theorem oShifts_any (v : Value) (xs : List Int) (w : World) (h : Row w v (ints .u8 xs)) (hg : Rg 0 256 xs) (hl : xs.length ≤ 10000) :
    Calls Try.prog 19 #[v] w fun e w' => e = .returned (.int .i64 (sread xs).2.1) ∧ Below w.heap.size w w' := by
  go_enter Try.func19, Try.ntmps19
  go_wp2_with (go_at_call 51; refine (oread_any _ _ _ h hg hl).mono ?_; rintro e w1 ⟨rfl, ⟨lv, tv, q0, q1, q2, q3, qf, qo, qB⟩, hb⟩)
  go_ret
  exact ⟨rfl, hb⟩
/-- The text, if all is right. -/
def strictS (xs : List Int) : List Int := if (sread xs).2.2 then [] else (sread xs).1
def errS (xs : List Int) : Int := if (sread xs).2.2 then 3 else 0
theorem oStrict_any (v : Value) (xs : List Int) (w : World) (h : Row w v (ints .u8 xs)) (hg : Rg 0 256 xs) (hl : xs.length ≤ 10000) :
    Calls Try.prog 16 #[v] w fun e w' => ∃ t, e = .returned (.tuple #[t, .int .i64 (errS xs)]) ∧ Own w.heap.size 21 w' t (ints .i32 (strictS xs)) ∧ Below w.heap.size w w' := by
  have hr := oread_any v xs w h hg hl
  have e1 : strictS xs = if (sread xs).2.2 then [] else (sread xs).1 := rfl
  have e2 : errS xs = if (sread xs).2.2 then 3 else 0 := rfl
  rw [e1, e2]
  clear e1 e2
  generalize (sread xs).1 = T at *
  generalize (sread xs).2.1 = n at *
  generalize (sread xs).2.2 = b at *
  have HR := Lib.hid hr; clear hr
  rcases b with _ | _
  all_goals
    go_enter Try.func16, Try.ntmps16
    go_wp2_with (go_at_call 51; refine (HR.out).mono ?_; rintro e w1 ⟨rfl, ⟨lv, tv, q0, q1, q2, q3, qf, qo, qB⟩, hb⟩)
    go_ret2
    first
      | exact ⟨_, ret2 rfl (iv rfl), qo.mono (Nat.le_succ _), hb⟩
      | exact ⟨_, ret2 rfl (iv rfl), Own.nil _ _ _, hb⟩
end Go.Proofs.Ytieeafkbgmpofaa
