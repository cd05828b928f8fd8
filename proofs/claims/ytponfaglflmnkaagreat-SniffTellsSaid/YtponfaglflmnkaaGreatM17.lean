/- Walks: wide texts: the other order, by the program. · Walks: wide texts: the other order, by the reference. · Walks: wide texts: laying, by the reference. · Walks: wide texts: the numbers of octets. (laid together by program out of single texts). -/
import Derived.Test.YtponfaglflmnkaaGreatM15
import Derived.Test.YtponfaglflmnkaaGreatM16
namespace Go.Proofs.YtponfaglflmnkaaGreat
open Go.RowKit
set_option maxHeartbeats 1000000
theorem len2 {S : List Int} (h : 2 ≤ S.length) : ∃ x y S', S = x :: y :: S' := by
  match S, h with
  | x :: y :: S', _ => exact ⟨x, y, S', rfl⟩
set_option maxRecDepth 100000 in
theorem oSwap2_any (v : Value) (xs : List Int) (w : World) (h : Row w v (ints .u8 xs)) (hl : xs.length ≤ 1000000) :
    Calls Tryz.prog 119 #[.int .i64 2, v] w fun e w' => ∃ t, e = .returned t ∧ Own w.heap.size 5 w' t (ints .u8 (sw2 xs)) ∧ Below w.heap.size w w' := by
  obtain ⟨a, b, off, cp, rfl, _⟩ := id h.op
  have HCL := Lib.hid (oclone45_any _ xs w h hl)
  have hI := fun w => is_two 2 w
  rw [show (((2 : Int) == 2) || ((2 : Int) == 4)) = true from rfl] at hI
  have HI := Lib.hid hI; clear hI
  cases xs with
  | nil =>
    go_enter Tryz.func119, Tryz.ntmps119
    go_wp2_with (first | (go_at_call 108; refine (HCL.out).mono ?_; rintro e w1 ⟨t1, rfl, ho1, hb1⟩; have r1 := ho1.row; obtain ⟨a1, b1, o1, c1, rfl, _⟩ := id r1.op) | (go_at_call 90; refine (HI.out _).mono ?_; rintro e w2 ⟨rfl, hw2⟩; obtain rfl := hw2.symm))
    go_loopw [6] (fun i wr => i = .int .i64 0 ∧ wr = w1) (fun _ _ => 0)
    case atStart => exact ⟨rfl, rfl⟩
    case round =>
      obtain ⟨rfl, hw9⟩ := hrel
      obtain rfl := hw9.symm
      go_wp2
      go_ret
      exact ⟨_, rfl, ho1, hb1⟩
  | cons x0 r0 =>
    have hne : 0 < (ints .u8 (x0 :: r0)).length := by simp [ints]
    generalize x0 :: r0 = xs at *
    go_enter Tryz.func119, Tryz.ntmps119
    go_wp2_with fail
    refine HCL.out.mono ?_
    rintro e w1 ⟨t1, rfl, ho1, hb1⟩
    obtain ⟨g, cap, rfl, hgB, hgl⟩ := ho1.form hne
    rw [ints_length] at ho1 ⊢
    go_wp2_with ((go_at_call 90; refine (HI.out _).mono ?_; rintro e w2 ⟨rfl, hw2⟩; obtain rfl := hw2.symm))
    go_loopw [6] (fun i wr => ∃ P S : List Int, i = .int .i64 P.length ∧ Hid (sw2 xs = P ++ sw2 S) ∧ Hid (P.length + S.length = xs.length) ∧ RevQ w.heap.size g xs.length cap w1 (P ++ S) wr) (fun i _ => xs.length - (intOf i).toNat)
    case atStart => exact ⟨[], xs, rfl, rfl, Nat.zero_add _, ⟨ho1, ⟨rfl, rfl, rfl, Nat.le_refl _, fun _ _ _ => rfl⟩⟩⟩
    case round =>
      obtain ⟨P, S, rfl, HS, HLEN, hq⟩ := hrel
      have hlen := HLEN.out
      rcases Nat.lt_or_ge S.length 2 with hS | hS
      · have HF : Hid (sw2 xs = P ++ S) := (by show _ = _; rw [HS.out, sw2_short hS])
        have hout : ¬ ((P.length : Int) + 2 ≤ xs.length) := by omega
        have HB : Hid (Below w.heap.size w wr) := hb1.grown hq.2 hb1.size (fun k hk => by cases hk; exact hgB)
        have HQ := Lib.hid hq.1
        clear hq hS
        go_wp2
        go_ret
        exact ⟨_, rfl, by rw [HF.out]; exact HQ.out, HB.out⟩
      · obtain ⟨x, y, S', rfl⟩ : ∃ x y S', S = x :: y :: S' := len2 hS
        simp only [List.length_cons] at hlen hS
        have hin : (P.length : Int) + 2 ≤ xs.length := by omega
        have hin2 : (P.length : Int) ≤ (P.length : Int) + 2 := by omega
        have hin3 : (P.length : Int) + 2 ≤ cap := by
          obtain ⟨_, _, _, _, hv, hc9, _⟩ := hq.1.row.int
          simp only [Value.slice.injEq] at hv
          have h8 := hv.2.1
          have h9 := hv.2.2
          omega
        have hin4 : ((P.length : Int) + 2).toNat = P.length + 2 := by omega
        have hin5 : ¬ (cap = P.length) := by omega
        have hin6 : P.length + 2 - P.length = 2 := by omega
        have HREV := Lib.hid (rev2_any wr w.heap.size g xs.length cap P.length (cap - P.length) P S' x y hq.1 rfl)
        have HQ := Lib.hid hq
        clear hq hS
        go_wp2_with fail
        refine HREV.out.mono ?_
        rintro e w5 ⟨⟨_, rfl⟩, hq5⟩
        have HQ5 : Hid (RevQ w.heap.size g xs.length cap w1 ((P ++ [y, x]) ++ S') w5) := by
          refine ⟨?_, grown_trans HQ.out.2 hq5.2⟩
          rw [List.append_assoc]; exact hq5.1
        clear hq5
        go_wp2
        go_roundw
        case rel => exact ⟨P ++ [y, x], S', iv (by rw [List.length_append]; simp), (by show _ = _; rw [HS.out, sw2, List.append_assoc]; rfl), (by show _ = _; rw [List.length_append]; simp; omega), HQ5.out⟩
        case measure => simp [intOf]; omega
theorem len4 {S : List Int} (h : 4 ≤ S.length) : ∃ x y z t S', S = x :: y :: z :: t :: S' := by
  match S, h with
  | x :: y :: z :: t :: S', _ => exact ⟨x, y, z, t, S', rfl⟩
set_option maxRecDepth 100000 in
theorem oSwap4_any (v : Value) (xs : List Int) (w : World) (h : Row w v (ints .u8 xs)) (hl : xs.length ≤ 1000000) :
    Calls Tryz.prog 119 #[.int .i64 4, v] w fun e w' => ∃ t, e = .returned t ∧ Own w.heap.size 5 w' t (ints .u8 (sw4 xs)) ∧ Below w.heap.size w w' := by
  obtain ⟨a, b, off, cp, rfl, _⟩ := id h.op
  have HCL := Lib.hid (oclone45_any _ xs w h hl)
  have hI := fun w => is_two 4 w
  rw [show (((4 : Int) == 2) || ((4 : Int) == 4)) = true from rfl] at hI
  have HI := Lib.hid hI; clear hI
  cases xs with
  | nil =>
    go_enter Tryz.func119, Tryz.ntmps119
    go_wp2_with (first | (go_at_call 108; refine (HCL.out).mono ?_; rintro e w1 ⟨t1, rfl, ho1, hb1⟩; have r1 := ho1.row; obtain ⟨a1, b1, o1, c1, rfl, _⟩ := id r1.op) | (go_at_call 90; refine (HI.out _).mono ?_; rintro e w2 ⟨rfl, hw2⟩; obtain rfl := hw2.symm))
    go_loopw [6] (fun i wr => i = .int .i64 0 ∧ wr = w1) (fun _ _ => 0)
    case atStart => exact ⟨rfl, rfl⟩
    case round =>
      obtain ⟨rfl, hw9⟩ := hrel
      obtain rfl := hw9.symm
      go_wp2
      go_ret
      exact ⟨_, rfl, ho1, hb1⟩
  | cons x0 r0 =>
    have hne : 0 < (ints .u8 (x0 :: r0)).length := by simp [ints]
    generalize x0 :: r0 = xs at *
    go_enter Tryz.func119, Tryz.ntmps119
    go_wp2_with fail
    refine HCL.out.mono ?_
    rintro e w1 ⟨t1, rfl, ho1, hb1⟩
    obtain ⟨g, cap, rfl, hgB, hgl⟩ := ho1.form hne
    rw [ints_length] at ho1 ⊢
    go_wp2_with ((go_at_call 90; refine (HI.out _).mono ?_; rintro e w2 ⟨rfl, hw2⟩; obtain rfl := hw2.symm))
    go_loopw [6] (fun i wr => ∃ P S : List Int, i = .int .i64 P.length ∧ Hid (sw4 xs = P ++ sw4 S) ∧ Hid (P.length + S.length = xs.length) ∧ RevQ w.heap.size g xs.length cap w1 (P ++ S) wr) (fun i _ => xs.length - (intOf i).toNat)
    case atStart => exact ⟨[], xs, rfl, rfl, Nat.zero_add _, ⟨ho1, ⟨rfl, rfl, rfl, Nat.le_refl _, fun _ _ _ => rfl⟩⟩⟩
    case round =>
      obtain ⟨P, S, rfl, HS, HLEN, hq⟩ := hrel
      have hlen := HLEN.out
      rcases Nat.lt_or_ge S.length 4 with hS | hS
      · have HF : Hid (sw4 xs = P ++ S) := (by show _ = _; rw [HS.out, sw4_short hS])
        have hout : ¬ ((P.length : Int) + 4 ≤ xs.length) := by omega
        have HB : Hid (Below w.heap.size w wr) := hb1.grown hq.2 hb1.size (fun k hk => by cases hk; exact hgB)
        have HQ := Lib.hid hq.1
        clear hq hS
        go_wp2
        go_ret
        exact ⟨_, rfl, by rw [HF.out]; exact HQ.out, HB.out⟩
      · obtain ⟨x, y, z, t, S', rfl⟩ : ∃ x y z t S', S = x :: y :: z :: t :: S' := len4 hS
        simp only [List.length_cons] at hlen hS
        have hin : (P.length : Int) + 4 ≤ xs.length := by omega
        have hin2 : (P.length : Int) ≤ (P.length : Int) + 4 := by omega
        have hin3 : (P.length : Int) + 4 ≤ cap := by
          obtain ⟨_, _, _, _, hv, hc9, _⟩ := hq.1.row.int
          simp only [Value.slice.injEq] at hv
          have h8 := hv.2.1
          have h9 := hv.2.2
          omega
        have hin4 : ((P.length : Int) + 4).toNat = P.length + 4 := by omega
        have hin5 : ¬ (cap = P.length) := by omega
        have hin6 : P.length + 4 - P.length = 4 := by omega
        have HREV := Lib.hid (rev4_any wr w.heap.size g xs.length cap P.length (cap - P.length) P S' x y z t hq.1 rfl)
        have HQ := Lib.hid hq
        clear hq hS
        go_wp2_with fail
        refine HREV.out.mono ?_
        rintro e w5 ⟨⟨_, rfl⟩, hq5⟩
        have HQ5 : Hid (RevQ w.heap.size g xs.length cap w1 ((P ++ [t, z, y, x]) ++ S') w5) := by
          refine ⟨?_, grown_trans HQ.out.2 hq5.2⟩
          rw [List.append_assoc]; exact hq5.1
        clear hq5
        go_wp2
        go_roundw
        case rel => exact ⟨P ++ [t, z, y, x], S', iv (by rw [List.length_append]; simp), (by show _ = _; rw [HS.out, sw4, List.append_assoc]; rfl), (by show _ = _; rw [List.length_append]; simp; omega), HQ5.out⟩
        case measure => simp [intOf]; omega
end Go.Proofs.YtponfaglflmnkaaGreat
namespace Go.Proofs.YtponfaglflmnkaaGreat
open Go.RowKit
set_option maxHeartbeats 1000000
theorem oSwap_any (wd : Int) (v : Value) (xs : List Int) (w : World) (h : Row w v (ints .u8 xs)) (hl : xs.length ≤ 1000000) :
    Calls Tryz.prog 119 #[.int .i64 wd, v] w fun e w' => ∃ t, e = .returned t ∧ Own w.heap.size 5 w' t (ints .u8 (sw wd xs)) ∧ Below w.heap.size w w' := by
  rcases Decidable.em (wd = 2) with rfl | h2
  · exact oSwap2_any v xs w h hl
  · rcases Decidable.em (wd = 4) with rfl | h4
    · exact oSwap4_any v xs w h hl
    · rw [sw, if_neg h4, if_neg h2]
      have hI := fun w => is_two wd w
      rw [beq_false_of_ne h2, beq_false_of_ne h4, Bool.or_self] at hI
      have HI := Lib.hid hI; clear hI
      have HCL := Lib.hid (oclone45_any _ xs w h hl)
      obtain ⟨a, b, off, cp, rfl, _⟩ := id h.op
      clear h2 h4
      go_enter Tryz.func119, Tryz.ntmps119
      go_wp2_with (first | (go_at_call 108; refine (HCL.out).mono ?_; rintro e w1 ⟨t1, rfl, ho1, hb1⟩) | (go_at_call 90; refine (HI.out _).mono ?_; rintro e w2 ⟨rfl, hw2⟩; obtain rfl := hw2.symm))
      go_ret
      exact ⟨_, rfl, ho1, hb1⟩
set_option maxRecDepth 100000 in
theorem rSwap2_any (v : Value) (xs : List Int) (w : World) (h : Row w v (ints .u8 xs)) (hl : xs.length ≤ 1000000) :
    Calls Tryz.prog 78 #[.int .i64 2, v] w fun e w' => ∃ t, e = .returned t ∧ Own w.heap.size 5 w' t (ints .u8 (sw2 xs)) ∧ Below w.heap.size w w' := by
  obtain ⟨a, b, off, cp, rfl, HC⟩ := id h.op
  cases xs with
  | nil =>
    go_enter Tryz.func78, Tryz.ntmps78
    go_wp2_with (at_builtin; refine wpList_app slT_u8 _ _ _ rfl rfl rfl rfl (Own.nil w.heap.size _ _) h (by simp [ints]) (Nat.le_refl _) ?_; intro t1 w1 ho1 hg1)
    have hb1 := below_own (E := 5) (Below.refl _ _) (Own.nil w.heap.size _ _) hg1 (Nat.le_refl _) (Nat.le_refl _)
    clear hg1
    go_loopw [6] (fun i wr => i = .int .i64 0 ∧ wr = w1) (fun _ _ => 0)
    case atStart => exact ⟨rfl, rfl⟩
    case round =>
      obtain ⟨rfl, hw9⟩ := hrel
      obtain rfl := hw9.symm
      go_wp2
      go_ret
      exact ⟨_, rfl, ho1, hb1⟩
  | cons x0 r0 =>
    have hne : 0 < (ints .u8 (x0 :: r0)).length := by simp [ints]
    generalize x0 :: r0 = xs at *
    go_enter Tryz.func78, Tryz.ntmps78
    go_wp2_with (at_builtin; refine wpList_app slT_u8 _ _ _ rfl rfl rfl rfl (Own.nil w.heap.size _ _) h (by rw [ints_length]; simp; omega) (Nat.le_refl _) ?_; intro t1 w1 ho1 hg1)
    have hb1 := below_own (E := 5) (Below.refl _ _) (Own.nil w.heap.size _ _) hg1 (Nat.le_refl _) (Nat.le_refl _)
    clear hg1
    rw [List.nil_append] at ho1
    obtain ⟨g, cap, rfl, hgB, hgl⟩ := ho1.form hne
    rw [ints_length] at ho1 ⊢
    go_loopw [6] (fun i wr => ∃ P S : List Int, i = .int .i64 P.length ∧ Hid (sw2 xs = P ++ sw2 S) ∧ Hid (P.length + S.length = xs.length) ∧ Hid (xs.drop P.length = S) ∧ RevQ w.heap.size g xs.length cap w1 (P ++ S) wr) (fun i _ => xs.length - (intOf i).toNat)
    case atStart => exact ⟨[], xs, rfl, rfl, Nat.zero_add _, rfl, ⟨ho1, ⟨rfl, rfl, rfl, Nat.le_refl _, fun _ _ _ => rfl⟩⟩⟩
    case round =>
      obtain ⟨P, S, rfl, HS, HLEN, HD, hq⟩ := hrel
      have hlen := HLEN.out
      rcases Nat.lt_or_ge S.length 2 with hS | hS
      · have HF : Hid (sw2 xs = P ++ S) := (by show _ = _; rw [HS.out, sw2_short hS])
        have hout : ¬ ((P.length : Int) + 2 ≤ xs.length) := by omega
        have HB : Hid (Below w.heap.size w wr) := hb1.grown hq.2 hb1.size (fun k hk => by cases hk; exact hgB)
        have HQ := Lib.hid hq.1
        clear hq hS
        go_wp2
        go_ret
        exact ⟨_, rfl, by rw [HF.out]; exact HQ.out, HB.out⟩
      · obtain ⟨x, y, S', rfl⟩ := len2 hS
        simp only [List.length_cons] at hlen hS
        have hin : (P.length : Int) + 2 ≤ xs.length := by omega
        have HQ := Lib.hid hq
        clear hq hS
        go_wp2_with fail
        go_loopw [7] (fun kv wq => ∃ k : Nat, kv = .int .i64 k ∧ k ≤ 2 ∧ RevQ w.heap.size g xs.length cap w1 (P ++ ((([y, x] : List Int).take k ++ ([x, y] : List Int).drop k) ++ S')) wq) (fun kv _ => 2 - (intOf kv).toNat)
        case atStart => exact ⟨0, rfl, Nat.zero_le _, HQ.out⟩
        case round =>
          obtain ⟨k, rfl, hk, hq⟩ := hrel
          have hR := Lib.hid hq
          by_cases hlt : k < 2
          · have f := fun j => hq.1.frozen j
            have hbq : Below w.heap.size w wr := hb1.grown hq.2 hb1.size (fun k hk => by cases hk; exact hgB)
            have hx0 : xs[P.length]? = some x := by have h9 := List.getElem?_drop (xs := xs) (i := P.length) (j := 0); rw [HD.out, Nat.add_zero] at h9; exact h9.symm
            have hx1 : xs[P.length + 1]? = some y := by rw [← List.getElem?_drop, HD.out]; rfl
            clear hq
            rcases (by omega : k = 0 ∨ k = 1) with rfl | rfl
            · obtain ⟨q, HX, rfl, hc⟩ := HC.out (P.length + 1) (by omega)
              have e9 := HX.out; rw [hx1] at e9; obtain rfl := Option.some.inj e9
              replace hc := hc _ hbq
              have c : wr.cell? ⟨g, P.length, none⟩ = some (.int .u8 x) := hR.out.cell (j := P.length + 0) (by rw [app_get (by simp)]; rfl)
              have hs9 := hR.out.set (P.length + 0) y
              rw [app_set (by simp)] at hs9
              have HS9 : Hid (RevQ w.heap.size g xs.length cap w1 (P ++ (([y, x].take 1 ++ [x, y].drop 1) ++ S')) (wr.setCell ⟨g, P.length, none⟩ (.int .u8 y))) := hs9
              clear hs9 hR e9
              go_wp2
              go_roundw
              case rel => exact ⟨1, by first | exact iv (by rfl) | go_num, by omega, HS9.out⟩
              case measure => simp [intOf]
            · obtain ⟨q, HX, rfl, hc⟩ := HC.out P.length (by omega)
              have e9 := HX.out; rw [hx0] at e9; obtain rfl := Option.some.inj e9
              replace hc := hc _ hbq
              have c : wr.cell? ⟨g, P.length + 1, none⟩ = some (.int .u8 y) := hR.out.cell (j := P.length + 1) (by rw [app_get (by simp)]; rfl)
              have hs9 := hR.out.set (P.length + 1) x
              rw [app_set (by simp)] at hs9
              have HS9 : Hid (RevQ w.heap.size g xs.length cap w1 (P ++ (([y, x].take 2 ++ [x, y].drop 2) ++ S')) (wr.setCell ⟨g, P.length + 1, none⟩ (.int .u8 x))) := hs9
              clear hs9 hR e9
              go_wp2
              go_roundw
              case rel => exact ⟨2, by first | exact iv (by rfl) | go_num, by omega, HS9.out⟩
              case measure => simp [intOf]
          · obtain rfl : k = 2 := by omega
            have HQ5 : Hid (RevQ w.heap.size g xs.length cap w1 ((P ++ [y, x]) ++ S') wr) := by
              have h9 := hR.out
              show RevQ _ _ _ _ _ _ _
              rw [List.append_assoc]; exact h9
            have HD2 : Hid (xs.drop (P.length + 2) = S') := by
              show _ = _
              rw [← List.drop_drop, HD.out]; rfl
            clear hq hR
            go_wp2
            go_roundw
            case rel => exact ⟨P ++ [y, x], S', iv (by rw [List.length_append]; simp), (by show _ = _; rw [HS.out, sw2, List.append_assoc]; rfl), (by show _ = _; rw [List.length_append]; simp; omega), (by show _ = _; rw [List.length_append]; exact HD2.out), HQ5.out⟩
            case measure => simp [intOf]; omega
set_option maxRecDepth 100000 in
theorem rSwap4_any (v : Value) (xs : List Int) (w : World) (h : Row w v (ints .u8 xs)) (hl : xs.length ≤ 1000000) :
    Calls Tryz.prog 78 #[.int .i64 4, v] w fun e w' => ∃ t, e = .returned t ∧ Own w.heap.size 5 w' t (ints .u8 (sw4 xs)) ∧ Below w.heap.size w w' := by
  obtain ⟨a, b, off, cp, rfl, HC⟩ := id h.op
  cases xs with
  | nil =>
    go_enter Tryz.func78, Tryz.ntmps78
    go_wp2_with (at_builtin; refine wpList_app slT_u8 _ _ _ rfl rfl rfl rfl (Own.nil w.heap.size _ _) h (by simp [ints]) (Nat.le_refl _) ?_; intro t1 w1 ho1 hg1)
    have hb1 := below_own (E := 5) (Below.refl _ _) (Own.nil w.heap.size _ _) hg1 (Nat.le_refl _) (Nat.le_refl _)
    clear hg1
    go_loopw [6] (fun i wr => i = .int .i64 0 ∧ wr = w1) (fun _ _ => 0)
    case atStart => exact ⟨rfl, rfl⟩
    case round =>
      obtain ⟨rfl, hw9⟩ := hrel
      obtain rfl := hw9.symm
      go_wp2
      go_ret
      exact ⟨_, rfl, ho1, hb1⟩
  | cons x0 r0 =>
    have hne : 0 < (ints .u8 (x0 :: r0)).length := by simp [ints]
    generalize x0 :: r0 = xs at *
    go_enter Tryz.func78, Tryz.ntmps78
    go_wp2_with (at_builtin; refine wpList_app slT_u8 _ _ _ rfl rfl rfl rfl (Own.nil w.heap.size _ _) h (by rw [ints_length]; simp; omega) (Nat.le_refl _) ?_; intro t1 w1 ho1 hg1)
    have hb1 := below_own (E := 5) (Below.refl _ _) (Own.nil w.heap.size _ _) hg1 (Nat.le_refl _) (Nat.le_refl _)
    clear hg1
    rw [List.nil_append] at ho1
    obtain ⟨g, cap, rfl, hgB, hgl⟩ := ho1.form hne
    rw [ints_length] at ho1 ⊢
    go_loopw [6] (fun i wr => ∃ P S : List Int, i = .int .i64 P.length ∧ Hid (sw4 xs = P ++ sw4 S) ∧ Hid (P.length + S.length = xs.length) ∧ Hid (xs.drop P.length = S) ∧ RevQ w.heap.size g xs.length cap w1 (P ++ S) wr) (fun i _ => xs.length - (intOf i).toNat)
    case atStart => exact ⟨[], xs, rfl, rfl, Nat.zero_add _, rfl, ⟨ho1, ⟨rfl, rfl, rfl, Nat.le_refl _, fun _ _ _ => rfl⟩⟩⟩
    case round =>
      obtain ⟨P, S, rfl, HS, HLEN, HD, hq⟩ := hrel
      have hlen := HLEN.out
      rcases Nat.lt_or_ge S.length 4 with hS | hS
      · have HF : Hid (sw4 xs = P ++ S) := (by show _ = _; rw [HS.out, sw4_short hS])
        have hout : ¬ ((P.length : Int) + 4 ≤ xs.length) := by omega
        have HB : Hid (Below w.heap.size w wr) := hb1.grown hq.2 hb1.size (fun k hk => by cases hk; exact hgB)
        have HQ := Lib.hid hq.1
        clear hq hS
        go_wp2
        go_ret
        exact ⟨_, rfl, by rw [HF.out]; exact HQ.out, HB.out⟩
      · obtain ⟨x, y, z, t, S', rfl⟩ := len4 hS
        simp only [List.length_cons] at hlen hS
        have hin : (P.length : Int) + 4 ≤ xs.length := by omega
        have HQ := Lib.hid hq
        clear hq hS
        go_wp2_with fail
        go_loopw [7] (fun kv wq => ∃ k : Nat, kv = .int .i64 k ∧ k ≤ 4 ∧ RevQ w.heap.size g xs.length cap w1 (P ++ ((([t, z, y, x] : List Int).take k ++ ([x, y, z, t] : List Int).drop k) ++ S')) wq) (fun kv _ => 4 - (intOf kv).toNat)
        case atStart => exact ⟨0, rfl, Nat.zero_le _, HQ.out⟩
        case round =>
          obtain ⟨k, rfl, hk, hq⟩ := hrel
          have hR := Lib.hid hq
          by_cases hlt : k < 4
          · have f := fun j => hq.1.frozen j
            have hbq : Below w.heap.size w wr := hb1.grown hq.2 hb1.size (fun k hk => by cases hk; exact hgB)
            have hx0 : xs[P.length]? = some x := by have h9 := List.getElem?_drop (xs := xs) (i := P.length) (j := 0); rw [HD.out, Nat.add_zero] at h9; exact h9.symm
            have hx1 : xs[P.length + 1]? = some y := by rw [← List.getElem?_drop, HD.out]; rfl
            have hx2 : xs[P.length + 2]? = some z := by rw [← List.getElem?_drop, HD.out]; rfl
            have hx3 : xs[P.length + 3]? = some t := by rw [← List.getElem?_drop, HD.out]; rfl
            clear hq
            rcases (by omega : k = 0 ∨ k = 1 ∨ k = 2 ∨ k = 3) with rfl | rfl | rfl | rfl
            · obtain ⟨q, HX, rfl, hc⟩ := HC.out (P.length + 3) (by omega)
              have e9 := HX.out; rw [hx3] at e9; obtain rfl := Option.some.inj e9
              replace hc := hc _ hbq
              have c : wr.cell? ⟨g, P.length, none⟩ = some (.int .u8 x) := hR.out.cell (j := P.length + 0) (by rw [app_get (by simp)]; rfl)
              have hs9 := hR.out.set (P.length + 0) t
              rw [app_set (by simp)] at hs9
              have HS9 : Hid (RevQ w.heap.size g xs.length cap w1 (P ++ (([t, z, y, x].take 1 ++ [x, y, z, t].drop 1) ++ S')) (wr.setCell ⟨g, P.length, none⟩ (.int .u8 t))) := hs9
              clear hs9 hR e9
              go_wp2
              go_roundw
              case rel => exact ⟨1, by first | exact iv (by rfl) | go_num, by omega, HS9.out⟩
              case measure => simp [intOf]
            · obtain ⟨q, HX, rfl, hc⟩ := HC.out (P.length + 2) (by omega)
              have e9 := HX.out; rw [hx2] at e9; obtain rfl := Option.some.inj e9
              replace hc := hc _ hbq
              have c : wr.cell? ⟨g, P.length + 1, none⟩ = some (.int .u8 y) := hR.out.cell (j := P.length + 1) (by rw [app_get (by simp)]; rfl)
              have hs9 := hR.out.set (P.length + 1) z
              rw [app_set (by simp)] at hs9
              have HS9 : Hid (RevQ w.heap.size g xs.length cap w1 (P ++ (([t, z, y, x].take 2 ++ [x, y, z, t].drop 2) ++ S')) (wr.setCell ⟨g, P.length + 1, none⟩ (.int .u8 z))) := hs9
              clear hs9 hR e9
              go_wp2
              go_roundw
              case rel => exact ⟨2, by first | exact iv (by rfl) | go_num, by omega, HS9.out⟩
              case measure => simp [intOf]
            · obtain ⟨q, HX, rfl, hc⟩ := HC.out (P.length + 1) (by omega)
              have e9 := HX.out; rw [hx1] at e9; obtain rfl := Option.some.inj e9
              replace hc := hc _ hbq
              have c : wr.cell? ⟨g, P.length + 2, none⟩ = some (.int .u8 z) := hR.out.cell (j := P.length + 2) (by rw [app_get (by simp)]; rfl)
              have hs9 := hR.out.set (P.length + 2) y
              rw [app_set (by simp)] at hs9
              have HS9 : Hid (RevQ w.heap.size g xs.length cap w1 (P ++ (([t, z, y, x].take 3 ++ [x, y, z, t].drop 3) ++ S')) (wr.setCell ⟨g, P.length + 2, none⟩ (.int .u8 y))) := hs9
              clear hs9 hR e9
              go_wp2
              go_roundw
              case rel => exact ⟨3, by first | exact iv (by rfl) | go_num, by omega, HS9.out⟩
              case measure => simp [intOf]
            · obtain ⟨q, HX, rfl, hc⟩ := HC.out P.length (by omega)
              have e9 := HX.out; rw [hx0] at e9; obtain rfl := Option.some.inj e9
              replace hc := hc _ hbq
              have c : wr.cell? ⟨g, P.length + 3, none⟩ = some (.int .u8 t) := hR.out.cell (j := P.length + 3) (by rw [app_get (by simp)]; rfl)
              have hs9 := hR.out.set (P.length + 3) x
              rw [app_set (by simp)] at hs9
              have HS9 : Hid (RevQ w.heap.size g xs.length cap w1 (P ++ (([t, z, y, x].take 4 ++ [x, y, z, t].drop 4) ++ S')) (wr.setCell ⟨g, P.length + 3, none⟩ (.int .u8 x))) := hs9
              clear hs9 hR e9
              go_wp2
              go_roundw
              case rel => exact ⟨4, by first | exact iv (by rfl) | go_num, by omega, HS9.out⟩
              case measure => simp [intOf]
          · obtain rfl : k = 4 := by omega
            have HQ5 : Hid (RevQ w.heap.size g xs.length cap w1 ((P ++ [t, z, y, x]) ++ S') wr) := by
              have h9 := hR.out
              show RevQ _ _ _ _ _ _ _
              rw [List.append_assoc]; exact h9
            have HD2 : Hid (xs.drop (P.length + 4) = S') := by
              show _ = _
              rw [← List.drop_drop, HD.out]; rfl
            clear hq hR
            go_wp2
            go_roundw
            case rel => exact ⟨P ++ [t, z, y, x], S', iv (by rw [List.length_append]; simp), (by show _ = _; rw [HS.out, sw4, List.append_assoc]; rfl), (by show _ = _; rw [List.length_append]; simp; omega), (by show _ = _; rw [List.length_append]; exact HD2.out), HQ5.out⟩
            case measure => simp [intOf]; omega
end Go.Proofs.YtponfaglflmnkaaGreat
namespace Go.Proofs.YtponfaglflmnkaaGreat
open Go.RowKit
set_option maxHeartbeats 1000000
set_option maxRecDepth 100000 in
theorem rSwap_any (wd : Int) (v : Value) (xs : List Int) (w : World) (h : Row w v (ints .u8 xs)) (hl : xs.length ≤ 1000000) :
    Calls Tryz.prog 78 #[.int .i64 wd, v] w fun e w' => ∃ t, e = .returned t ∧ Own w.heap.size 5 w' t (ints .u8 (sw wd xs)) ∧ Below w.heap.size w w' := by
  rcases Decidable.em (wd = 2) with rfl | h2
  · exact rSwap2_any v xs w h hl
  · rcases Decidable.em (wd = 4) with rfl | h4
    · exact rSwap4_any v xs w h hl
    · rw [sw, if_neg h4, if_neg h2]
      obtain ⟨a, b, off, cp, rfl, _⟩ := id h.op
      have e2 := beq_false_of_ne h2
      have e4 := beq_false_of_ne h4
      have n2 : (wd != 2) = true := by rw [bne, e2]; rfl
      have n4 : (wd != 4) = true := by rw [bne, e4]; rfl
      clear h2 h4 e2 e4
      go_enter Tryz.func78, Tryz.ntmps78
      go_wp2_with (at_builtin; refine wpList_app slT_u8 _ _ _ rfl rfl rfl rfl (Own.nil w.heap.size _ _) h (by rw [ints_length]; simp; omega) (Nat.le_refl _) ?_; intro t1 w1 ho1 hg1)
      have hb1 := below_own (E := 5) (Below.refl _ _) (Own.nil w.heap.size _ _) hg1 (Nat.le_refl _) (Nat.le_refl _)
      go_ret
      exact ⟨_, rfl, ho1, hb1⟩
end Go.Proofs.YtponfaglflmnkaaGreat
namespace Go.Proofs.YtponfaglflmnkaaGreat
open Go.RowKit
set_option maxHeartbeats 1000000
theorem u32_join8 (x y : Int) (hx0 : 0 ≤ x) (hx : x % 256 = 0) (hx1 : x < 4294967296) (hy0 : 0 ≤ y) (hy : y < 256) : bits .or .u32 x y = x + y :=
  bits_join .u32 32 (by decide) (fun n h0 h1 => by simp only [IntKind.wrap_u32]; omega) 8 x y hx0 hx hx1 hy0 hy (by omega)
def TkP (wd : Int) (w : World) (xs : List Int) (e : Ending) (w' : World) : Prop := ∃ t, e = .returned (.tuple #[t, .bool (overW wd xs)]) ∧ Own w.heap.size 87 w' t (ints .u32 (numW wd xs)) ∧ Below w.heap.size w w'
theorem TkP.mk {wd : Int} {w w' : World} {xs D : List Int} {t : Value} {o : Bool} (h1 : numW wd xs = D) (h2 : overW wd xs = o) (h3 : Own w.heap.size 87 w' t (ints .u32 D)) (h4 : Below w.heap.size w w') : TkP wd w xs (.returned (.tuple #[t, .bool o])) w' := ⟨t, by rw [h2], by rw [h1]; exact h3, h4⟩
set_option maxRecDepth 100000 in
theorem takeB2_any (v : Value) (xs : List Int) (w : World) (h : Row w v (ints .u8 xs)) (hg : Rg 0 256 xs) (hl : xs.length ≤ 100000) :
    Calls Tryz.prog 96 #[.int .i64 2, .bool true, v] w fun e w' => TkP 2 w xs e w' := by
  obtain ⟨a, b, off, cp, rfl, _⟩ := id h.op
  go_enter Tryz.func96, Tryz.ntmps96
  go_wp2
  go_loopw [2, 8] (fun sv u wr => ∃ S D : List Int, Row w sv (ints .u8 S) ∧ Own w.heap.size 87 wr u (ints .u32 D) ∧ Below w.heap.size w wr ∧ Hid (num2 xs = D ++ num2 S) ∧ Hid (D.length + S.length ≤ xs.length) ∧ Hid (S.length % 2 = xs.length % 2) ∧ Hid (Rg 0 256 S)) (fun sv _ _ => lenOf sv)
  case atStart => exact ⟨xs, [], h, Own.nil _ _ _, Below.refl _ _, rfl, by show _ ≤ _; simp, rfl, hg⟩
  case round =>
    obtain ⟨S, D, hrow, hown, hb, HN, HLEN, HMOD, HG⟩ := hrel
    have hlen := HLEN.out
    obtain ⟨a1, b1, o1, c1, rfl, C1⟩ := id hrow.op
    rcases Nat.lt_or_ge S.length 2 with hS | hS
    · have HF : Hid (num2 xs = D) := (by show _ = _; rw [HN.out, num2_short hS, List.append_nil])
      have HO : Hid (overW 2 xs = decide (0 < S.length)) := by
        show decide (0 < xs.length % 2) = _
        rw [← HMOD.out, Nat.mod_eq_of_lt hS]
      go_wp2
      go_ret2
      exact TkP.mk HF.out HO.out hown hb
    · obtain ⟨x, y, S', rfl⟩ := len2 hS
      have hrng := HG.out
      have hx := hrng.cons.1
      have hy := hrng.cons.2.cons.1
      have HG2 : Hid (Rg 0 256 S') := hrng.cons.2.cons.2
      have hj0 : bits .or .u32 (0) x = x := by have := u32_join8 0 x (by omega) (by omega) (by omega) hx.1 hx.2; rwa [Int.zero_add] at this
      have hj1 : bits .or .u32 (x * 256) y = x * 256 + y := u32_join8 _ _ (by omega) (by omega) (by omega) hy.1 hy.2
      clear hrng
      go_wp2_with (refine wpList_slH slT_u8 _ _ rfl rfl rfl rfl (hrow.below hb) (by omega) (by simp [ints]; omega) ?_; intro v2 hv2; have r2 : Row w v2 (ints .u8 [x, y]) := hv2 w hrow; clear hv2; obtain ⟨a2, b2, o2, c2, rfl, C2⟩ := r2.op)
      go_loopw [9, 25] (fun nv i wq => ∃ j : Nat, i = .int .i64 j ∧ j ≤ 2 ∧ nv = .int .u32 (([0, x, x * 256 + y] : List Int).getD j 0) ∧ wq = wr) (fun _ i _ => 2 - (intOf i).toNat)
      case atStart => exact ⟨0, rfl, Nat.zero_le _, rfl, rfl⟩
      case round =>
        obtain ⟨j, rfl, hj, rfl, hw9⟩ := hrel
        obtain rfl := hw9.symm
        by_cases hlj : j < 2
        · obtain ⟨m, hm⟩ : ∃ m : Nat, m = j + 1 := ⟨_, rfl⟩
          rcases (by omega : j = 0 ∨ j = 1) with rfl | rfl
          · obtain ⟨q, HX, rfl, hc⟩ := C2.out 0 (by simp)
            have e9 := HX.out; obtain rfl := Option.some.inj e9
            have hc2 : wr.cell? ⟨b2, o2, none⟩ = some (.int .u8 x) := hc _ hb
            clear hc
            go_wp2
            go_roundw
            case rel => exact ⟨m, by subst hm; first | exact iv (by rfl) | go_num, by omega, by subst hm; first | rfl | exact iv (by first | exact hj0 | rfl), by first | rfl | trivial⟩
            case measure => simp [intOf]
          · obtain ⟨q, HX, rfl, hc⟩ := C2.out 1 (by simp)
            have e9 := HX.out; obtain rfl := Option.some.inj e9
            have hc2 : wr.cell? ⟨b2, o2 + 1, none⟩ = some (.int .u8 y) := hc _ hb
            clear hc
            go_wp2
            go_roundw
            case rel => exact ⟨m, by subst hm; first | exact iv (by rfl) | go_num, by omega, by subst hm; first | rfl | exact iv (by first | exact hj1 | rfl), by first | rfl | trivial⟩
            case measure => simp [intOf]
        · obtain rfl : j = 2 := by omega
          have hN2 : num2 xs = (D ++ [x * 256 + y]) ++ num2 S' := by rw [HN.out, num2, List.append_assoc]; rfl
          have HN2 := Lib.hid hN2
          clear hN2 hj0
          simp only [List.length_cons] at hlen hS
          have HLEN2 : Hid ((D ++ [x * 256 + y]).length + S'.length ≤ xs.length) := by show _ ≤ _; rw [List.length_append]; simp only [List.length_cons, List.length_nil]; omega
          have HMOD2 : Hid (S'.length % 2 = xs.length % 2) := by
            show _ = _
            rw [← HMOD.out]
            simp only [List.length_cons]
            omega
          go_wp2_with (first | (at_builtin; refine wpList_app slT_u32 _ _ _ rfl rfl rfl rfl (hown.alloc _) (Row.ilit [x * 256 + y] [_] rfl (by simp)) (by rw [ints_length, ints_length]; simp only [List.length_cons, List.length_nil]; omega) (by have := hb.size; simp; omega) ?_; intro t3 w3 hown3 hg3) | (refine wpList_slL slT_u8 _ _ rfl rfl rfl rfl (hrow.below (below_app hb (below_alloc _ _) (hown.alloc _) hg3)) (by omega) (by simp [ints]; omega) ?_; intro v4 hv4; have r4 : Row w v4 (ints .u8 S') := hv4 w hrow; clear hv4))
          have hb3 := below_app hb (below_alloc _ _) (hown.alloc _) hg3
          rw [← ints_append] at hown3
          obtain ⟨a4, b4, o4, c4, rfl, _⟩ := id r4.op
          go_roundw
          case rel => exact ⟨S', _, r4, hown3, hb3, HN2, HLEN2, HMOD2, HG2⟩
          case measure => simp only [lenOf, List.length_cons]; omega
set_option maxRecDepth 100000 in
theorem takeB4_any (v : Value) (xs : List Int) (w : World) (h : Row w v (ints .u8 xs)) (hg : Rg 0 256 xs) (hl : xs.length ≤ 100000) :
    Calls Tryz.prog 96 #[.int .i64 4, .bool true, v] w fun e w' => TkP 4 w xs e w' := by
  obtain ⟨a, b, off, cp, rfl, _⟩ := id h.op
  go_enter Tryz.func96, Tryz.ntmps96
  go_wp2
  go_loopw [2, 8] (fun sv u wr => ∃ S D : List Int, Row w sv (ints .u8 S) ∧ Own w.heap.size 87 wr u (ints .u32 D) ∧ Below w.heap.size w wr ∧ Hid (num4 xs = D ++ num4 S) ∧ Hid (D.length + S.length ≤ xs.length) ∧ Hid (S.length % 4 = xs.length % 4) ∧ Hid (Rg 0 256 S)) (fun sv _ _ => lenOf sv)
  case atStart => exact ⟨xs, [], h, Own.nil _ _ _, Below.refl _ _, rfl, by show _ ≤ _; simp, rfl, hg⟩
  case round =>
    obtain ⟨S, D, hrow, hown, hb, HN, HLEN, HMOD, HG⟩ := hrel
    have hlen := HLEN.out
    obtain ⟨a1, b1, o1, c1, rfl, C1⟩ := id hrow.op
    rcases Nat.lt_or_ge S.length 4 with hS | hS
    · have HF : Hid (num4 xs = D) := (by show _ = _; rw [HN.out, num4_short hS, List.append_nil])
      have HO : Hid (overW 4 xs = decide (0 < S.length)) := by
        show decide (0 < xs.length % 4) = _
        rw [← HMOD.out, Nat.mod_eq_of_lt hS]
      go_wp2
      go_ret2
      exact TkP.mk HF.out HO.out hown hb
    · obtain ⟨x, y, z, t, S', rfl⟩ := len4 hS
      have hrng := HG.out
      have hx := hrng.cons.1
      have hy := hrng.cons.2.cons.1
      have hz := hrng.cons.2.cons.2.cons.1
      have ht := hrng.cons.2.cons.2.cons.2.cons.1
      have HG2 : Hid (Rg 0 256 S') := hrng.cons.2.cons.2.cons.2.cons.2
      have hj0 : bits .or .u32 (0) x = x := by have := u32_join8 0 x (by omega) (by omega) (by omega) hx.1 hx.2; rwa [Int.zero_add] at this
      have hj1 : bits .or .u32 (x * 256) y = x * 256 + y := u32_join8 _ _ (by omega) (by omega) (by omega) hy.1 hy.2
      have hj2 : bits .or .u32 ((x * 256 + y) * 256) z = (x * 256 + y) * 256 + z := u32_join8 _ _ (by omega) (by omega) (by omega) hz.1 hz.2
      have hj3 : bits .or .u32 (((x * 256 + y) * 256 + z) * 256) t = ((x * 256 + y) * 256 + z) * 256 + t := u32_join8 _ _ (by omega) (by omega) (by omega) ht.1 ht.2
      clear hrng
      go_wp2_with (refine wpList_slH slT_u8 _ _ rfl rfl rfl rfl (hrow.below hb) (by omega) (by simp [ints]; omega) ?_; intro v2 hv2; have r2 : Row w v2 (ints .u8 [x, y, z, t]) := hv2 w hrow; clear hv2; obtain ⟨a2, b2, o2, c2, rfl, C2⟩ := r2.op)
      go_loopw [9, 25] (fun nv i wq => ∃ j : Nat, i = .int .i64 j ∧ j ≤ 4 ∧ nv = .int .u32 (([0, x, x * 256 + y, (x * 256 + y) * 256 + z, ((x * 256 + y) * 256 + z) * 256 + t] : List Int).getD j 0) ∧ wq = wr) (fun _ i _ => 4 - (intOf i).toNat)
      case atStart => exact ⟨0, rfl, Nat.zero_le _, rfl, rfl⟩
      case round =>
        obtain ⟨j, rfl, hj, rfl, hw9⟩ := hrel
        obtain rfl := hw9.symm
        by_cases hlj : j < 4
        · obtain ⟨m, hm⟩ : ∃ m : Nat, m = j + 1 := ⟨_, rfl⟩
          rcases (by omega : j = 0 ∨ j = 1 ∨ j = 2 ∨ j = 3) with rfl | rfl | rfl | rfl
          · obtain ⟨q, HX, rfl, hc⟩ := C2.out 0 (by simp)
            have e9 := HX.out; obtain rfl := Option.some.inj e9
            have hc2 : wr.cell? ⟨b2, o2, none⟩ = some (.int .u8 x) := hc _ hb
            clear hc
            go_wp2
            go_roundw
            case rel => exact ⟨m, by subst hm; first | exact iv (by rfl) | go_num, by omega, by subst hm; first | rfl | exact iv (by first | exact hj0 | rfl), by first | rfl | trivial⟩
            case measure => simp [intOf]
          · obtain ⟨q, HX, rfl, hc⟩ := C2.out 1 (by simp)
            have e9 := HX.out; obtain rfl := Option.some.inj e9
            have hc2 : wr.cell? ⟨b2, o2 + 1, none⟩ = some (.int .u8 y) := hc _ hb
            clear hc
            go_wp2
            go_roundw
            case rel => exact ⟨m, by subst hm; first | exact iv (by rfl) | go_num, by omega, by subst hm; first | rfl | exact iv (by first | exact hj1 | rfl), by first | rfl | trivial⟩
            case measure => simp [intOf]
          · obtain ⟨q, HX, rfl, hc⟩ := C2.out 2 (by simp)
            have e9 := HX.out; obtain rfl := Option.some.inj e9
            have hc2 : wr.cell? ⟨b2, o2 + 2, none⟩ = some (.int .u8 z) := hc _ hb
            clear hc
            go_wp2
            go_roundw
            case rel => exact ⟨m, by subst hm; first | exact iv (by rfl) | go_num, by omega, by subst hm; first | rfl | exact iv (by first | exact hj2 | rfl), by first | rfl | trivial⟩
            case measure => simp [intOf]
          · obtain ⟨q, HX, rfl, hc⟩ := C2.out 3 (by simp)
            have e9 := HX.out; obtain rfl := Option.some.inj e9
            have hc2 : wr.cell? ⟨b2, o2 + 3, none⟩ = some (.int .u8 t) := hc _ hb
            clear hc
            go_wp2
            go_roundw
            case rel => exact ⟨m, by subst hm; first | exact iv (by rfl) | go_num, by omega, by subst hm; first | rfl | exact iv (by first | exact hj3 | rfl), by first | rfl | trivial⟩
            case measure => simp [intOf]
        · obtain rfl : j = 4 := by omega
          have hN2 : num4 xs = (D ++ [((x * 256 + y) * 256 + z) * 256 + t]) ++ num4 S' := by rw [HN.out, num4, List.append_assoc]; rfl
          have HN2 := Lib.hid hN2
          clear hN2 hj0
          simp only [List.length_cons] at hlen hS
          have HLEN2 : Hid ((D ++ [((x * 256 + y) * 256 + z) * 256 + t]).length + S'.length ≤ xs.length) := by show _ ≤ _; rw [List.length_append]; simp only [List.length_cons, List.length_nil]; omega
          have HMOD2 : Hid (S'.length % 4 = xs.length % 4) := by
            show _ = _
            rw [← HMOD.out]
            simp only [List.length_cons]
            omega
          go_wp2_with (first | (at_builtin; refine wpList_app slT_u32 _ _ _ rfl rfl rfl rfl (hown.alloc _) (Row.ilit [((x * 256 + y) * 256 + z) * 256 + t] [_] rfl (by simp)) (by rw [ints_length, ints_length]; simp only [List.length_cons, List.length_nil]; omega) (by have := hb.size; simp; omega) ?_; intro t3 w3 hown3 hg3) | (refine wpList_slL slT_u8 _ _ rfl rfl rfl rfl (hrow.below (below_app hb (below_alloc _ _) (hown.alloc _) hg3)) (by omega) (by simp [ints]; omega) ?_; intro v4 hv4; have r4 : Row w v4 (ints .u8 S') := hv4 w hrow; clear hv4))
          have hb3 := below_app hb (below_alloc _ _) (hown.alloc _) hg3
          rw [← ints_append] at hown3
          obtain ⟨a4, b4, o4, c4, rfl, _⟩ := id r4.op
          go_roundw
          case rel => exact ⟨S', _, r4, hown3, hb3, HN2, HLEN2, HMOD2, HG2⟩
          case measure => simp only [lenOf, List.length_cons]; omega
end Go.Proofs.YtponfaglflmnkaaGreat
