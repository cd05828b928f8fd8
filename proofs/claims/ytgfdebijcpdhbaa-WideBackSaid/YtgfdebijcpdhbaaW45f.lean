/- Walks: wide texts: the other order, by the reference. -/
import Derived.Test.YtgfdebijcpdhbaaW45e
namespace Go.Proofs.Ytgfdebijcpdhbaa
open Go.RowKit
set_option maxHeartbeats 1000000
theorem oSwap_any (wd : Int) (v : Value) (xs : List Int) (w : World) (h : Row w v (ints .u8 xs)) (hl : xs.length ≤ 1000000) :
    Calls Try.prog 16 #[.int .i64 wd, v] w fun e w' => ∃ t, e = .returned t ∧ Own w.heap.size 5 w' t (ints .u8 (sw wd xs)) ∧ Below w.heap.size w w' := by
  rcases Decidable.em (wd = 2) with rfl | h2
  · exact oSwap2_any v xs w h hl
  · rcases Decidable.em (wd = 4) with rfl | h4
    · exact oSwap4_any v xs w h hl
    · rw [sw, if_neg h4, if_neg h2]
      have hI := fun w => is_two wd w
      rw [beq_false_of_ne h2, beq_false_of_ne h4, Bool.or_self] at hI
      have HI := Lib.hid hI; clear hI
      have HCL := Lib.hid (oclone_any _ xs w h hl)
      obtain ⟨a, b, off, cp, rfl, _⟩ := id h.op
      clear h2 h4
      go_enter Try.func16, Try.ntmps16
      go_wp2_with (first | (go_at_call 33; refine (HCL.out).mono ?_; rintro e w1 ⟨t1, rfl, ho1, hb1⟩) | (go_at_call 22; refine (HI.out _).mono ?_; rintro e w2 ⟨rfl, hw2⟩; obtain rfl := hw2.symm))
      go_ret
      exact ⟨_, rfl, ho1, hb1⟩
set_option maxRecDepth 100000 in
theorem rSwap2_any (v : Value) (xs : List Int) (w : World) (h : Row w v (ints .u8 xs)) (hl : xs.length ≤ 1000000) :
    Calls Try.prog 17 #[.int .i64 2, v] w fun e w' => ∃ t, e = .returned t ∧ Own w.heap.size 5 w' t (ints .u8 (sw2 xs)) ∧ Below w.heap.size w w' := by
  obtain ⟨a, b, off, cp, rfl, HC⟩ := id h.op
  cases xs with
  | nil =>
    go_enter Try.func17, Try.ntmps17
    go_wp2_with (at_builtin; refine wpList_app slT_u8 _ _ _ rfl rfl rfl rfl (Own.nil w.heap.size _ _) h (by simp [ints]) (Nat.le_refl _) ?_; intro t1 w1 ho1 hg1)
    have hb1 := below_own (E := 5) (Below.refl _ _) (Own.nil w.heap.size _ _) hg1 (Nat.le_refl _) (Nat.le_refl _)
    clear hg1
    go_loopw [6] (fun i wr => i = .int .i64 0 ∧ wr = w1) (fun _ _ => 0)
    case atStart => exact ⟨rfl, rfl⟩
    case round =>
      obtain ⟨rfl, hw9⟩ := hrel
      obtain rfl := hw9.symm
      go_wp2
      go_ret
      exact ⟨_, rfl, ho1, hb1⟩
  | cons x0 r0 =>
    have hne : 0 < (ints .u8 (x0 :: r0)).length := by simp [ints]
    generalize x0 :: r0 = xs at *
    go_enter Try.func17, Try.ntmps17
    go_wp2_with (at_builtin; refine wpList_app slT_u8 _ _ _ rfl rfl rfl rfl (Own.nil w.heap.size _ _) h (by rw [ints_length]; simp; omega) (Nat.le_refl _) ?_; intro t1 w1 ho1 hg1)
    have hb1 := below_own (E := 5) (Below.refl _ _) (Own.nil w.heap.size _ _) hg1 (Nat.le_refl _) (Nat.le_refl _)
    clear hg1
    rw [List.nil_append] at ho1
    obtain ⟨g, cap, rfl, hgB, hgl⟩ := ho1.form hne
    rw [ints_length] at ho1 ⊢
    go_loopw [6] (fun i wr => ∃ P S : List Int, i = .int .i64 P.length ∧ Hid (sw2 xs = P ++ sw2 S) ∧ Hid (P.length + S.length = xs.length) ∧ Hid (xs.drop P.length = S) ∧ RevQ w.heap.size g xs.length cap w1 (P ++ S) wr) (fun i _ => xs.length - (intOf i).toNat)
    case atStart => exact ⟨[], xs, rfl, rfl, Nat.zero_add _, rfl, ⟨ho1, ⟨rfl, rfl, rfl, Nat.le_refl _, fun _ _ _ => rfl⟩⟩⟩
    case round =>
      obtain ⟨P, S, rfl, HS, HLEN, HD, hq⟩ := hrel
      have hlen := HLEN.out
      rcases Nat.lt_or_ge S.length 2 with hS | hS
      · have HF : Hid (sw2 xs = P ++ S) := (by show _ = _; rw [HS.out, sw2_short hS])
        have hout : ¬ ((P.length : Int) + 2 ≤ xs.length) := by omega
        have HB : Hid (Below w.heap.size w wr) := hb1.grown hq.2 hb1.size (fun k hk => by cases hk; exact hgB)
        have HQ := Lib.hid hq.1
        clear hq hS
        go_wp2
        go_ret
        exact ⟨_, rfl, by rw [HF.out]; exact HQ.out, HB.out⟩
      · obtain ⟨x, y, S', rfl⟩ := len2 hS
        simp only [List.length_cons] at hlen hS
        have hin : (P.length : Int) + 2 ≤ xs.length := by omega
        have HQ := Lib.hid hq
        clear hq hS
        go_wp2_with fail
        go_loopw [7] (fun kv wq => ∃ k : Nat, kv = .int .i64 k ∧ k ≤ 2 ∧ RevQ w.heap.size g xs.length cap w1 (P ++ ((([y, x] : List Int).take k ++ ([x, y] : List Int).drop k) ++ S')) wq) (fun kv _ => 2 - (intOf kv).toNat)
        case atStart => exact ⟨0, rfl, Nat.zero_le _, HQ.out⟩
        case round =>
          obtain ⟨k, rfl, hk, hq⟩ := hrel
          have hR := Lib.hid hq
          by_cases hlt : k < 2
          · have f := fun j => hq.1.frozen j
            have hbq : Below w.heap.size w wr := hb1.grown hq.2 hb1.size (fun k hk => by cases hk; exact hgB)
            have hx0 : xs[P.length]? = some x := by have h9 := List.getElem?_drop (xs := xs) (i := P.length) (j := 0); rw [HD.out, Nat.add_zero] at h9; exact h9.symm
            have hx1 : xs[P.length + 1]? = some y := by rw [← List.getElem?_drop, HD.out]; rfl
            clear hq
            rcases (by omega : k = 0 ∨ k = 1) with rfl | rfl
            · obtain ⟨q, HX, rfl, hc⟩ := HC.out (P.length + 1) (by omega)
              have e9 := HX.out; rw [hx1] at e9; obtain rfl := Option.some.inj e9
              replace hc := hc _ hbq
              have c : wr.cell? ⟨g, P.length, none⟩ = some (.int .u8 x) := hR.out.cell (j := P.length + 0) (by rw [app_get (by simp)]; rfl)
              have hs9 := hR.out.set (P.length + 0) y
              rw [app_set (by simp)] at hs9
              have HS9 : Hid (RevQ w.heap.size g xs.length cap w1 (P ++ (([y, x].take 1 ++ [x, y].drop 1) ++ S')) (wr.setCell ⟨g, P.length, none⟩ (.int .u8 y))) := hs9
              clear hs9 hR e9
              go_wp2
              go_roundw
              case rel => exact ⟨1, by first | exact iv (by rfl) | go_num, by omega, HS9.out⟩
              case measure => simp [intOf]
            · obtain ⟨q, HX, rfl, hc⟩ := HC.out P.length (by omega)
              have e9 := HX.out; rw [hx0] at e9; obtain rfl := Option.some.inj e9
              replace hc := hc _ hbq
              have c : wr.cell? ⟨g, P.length + 1, none⟩ = some (.int .u8 y) := hR.out.cell (j := P.length + 1) (by rw [app_get (by simp)]; rfl)
              have hs9 := hR.out.set (P.length + 1) x
              rw [app_set (by simp)] at hs9
              have HS9 : Hid (RevQ w.heap.size g xs.length cap w1 (P ++ (([y, x].take 2 ++ [x, y].drop 2) ++ S')) (wr.setCell ⟨g, P.length + 1, none⟩ (.int .u8 x))) := hs9
              clear hs9 hR e9
              go_wp2
              go_roundw
              case rel => exact ⟨2, by first | exact iv (by rfl) | go_num, by omega, HS9.out⟩
              case measure => simp [intOf]
          · obtain rfl : k = 2 := by omega
            have HQ5 : Hid (RevQ w.heap.size g xs.length cap w1 ((P ++ [y, x]) ++ S') wr) := by
              have h9 := hR.out
              show RevQ _ _ _ _ _ _ _
              rw [List.append_assoc]; exact h9
            have HD2 : Hid (xs.drop (P.length + 2) = S') := by
              show _ = _
              rw [← List.drop_drop, HD.out]; rfl
            clear hq hR
            go_wp2
            go_roundw
            case rel => exact ⟨P ++ [y, x], S', iv (by rw [List.length_append]; simp), (by show _ = _; rw [HS.out, sw2, List.append_assoc]; rfl), (by show _ = _; rw [List.length_append]; simp; omega), (by show _ = _; rw [List.length_append]; exact HD2.out), HQ5.out⟩
            case measure => simp [intOf]; omega
set_option maxRecDepth 100000 in
theorem rSwap4_any (v : Value) (xs : List Int) (w : World) (h : Row w v (ints .u8 xs)) (hl : xs.length ≤ 1000000) :
    Calls Try.prog 17 #[.int .i64 4, v] w fun e w' => ∃ t, e = .returned t ∧ Own w.heap.size 5 w' t (ints .u8 (sw4 xs)) ∧ Below w.heap.size w w' := by
  obtain ⟨a, b, off, cp, rfl, HC⟩ := id h.op
  cases xs with
  | nil =>
    go_enter Try.func17, Try.ntmps17
    go_wp2_with (at_builtin; refine wpList_app slT_u8 _ _ _ rfl rfl rfl rfl (Own.nil w.heap.size _ _) h (by simp [ints]) (Nat.le_refl _) ?_; intro t1 w1 ho1 hg1)
    have hb1 := below_own (E := 5) (Below.refl _ _) (Own.nil w.heap.size _ _) hg1 (Nat.le_refl _) (Nat.le_refl _)
    clear hg1
    go_loopw [6] (fun i wr => i = .int .i64 0 ∧ wr = w1) (fun _ _ => 0)
    case atStart => exact ⟨rfl, rfl⟩
    case round =>
      obtain ⟨rfl, hw9⟩ := hrel
      obtain rfl := hw9.symm
      go_wp2
      go_ret
      exact ⟨_, rfl, ho1, hb1⟩
  | cons x0 r0 =>
    have hne : 0 < (ints .u8 (x0 :: r0)).length := by simp [ints]
    generalize x0 :: r0 = xs at *
    go_enter Try.func17, Try.ntmps17
    go_wp2_with (at_builtin; refine wpList_app slT_u8 _ _ _ rfl rfl rfl rfl (Own.nil w.heap.size _ _) h (by rw [ints_length]; simp; omega) (Nat.le_refl _) ?_; intro t1 w1 ho1 hg1)
    have hb1 := below_own (E := 5) (Below.refl _ _) (Own.nil w.heap.size _ _) hg1 (Nat.le_refl _) (Nat.le_refl _)
    clear hg1
    rw [List.nil_append] at ho1
    obtain ⟨g, cap, rfl, hgB, hgl⟩ := ho1.form hne
    rw [ints_length] at ho1 ⊢
    go_loopw [6] (fun i wr => ∃ P S : List Int, i = .int .i64 P.length ∧ Hid (sw4 xs = P ++ sw4 S) ∧ Hid (P.length + S.length = xs.length) ∧ Hid (xs.drop P.length = S) ∧ RevQ w.heap.size g xs.length cap w1 (P ++ S) wr) (fun i _ => xs.length - (intOf i).toNat)
    case atStart => exact ⟨[], xs, rfl, rfl, Nat.zero_add _, rfl, ⟨ho1, ⟨rfl, rfl, rfl, Nat.le_refl _, fun _ _ _ => rfl⟩⟩⟩
    case round =>
      obtain ⟨P, S, rfl, HS, HLEN, HD, hq⟩ := hrel
      have hlen := HLEN.out
      rcases Nat.lt_or_ge S.length 4 with hS | hS
      · have HF : Hid (sw4 xs = P ++ S) := (by show _ = _; rw [HS.out, sw4_short hS])
        have hout : ¬ ((P.length : Int) + 4 ≤ xs.length) := by omega
        have HB : Hid (Below w.heap.size w wr) := hb1.grown hq.2 hb1.size (fun k hk => by cases hk; exact hgB)
        have HQ := Lib.hid hq.1
        clear hq hS
        go_wp2
        go_ret
        exact ⟨_, rfl, by rw [HF.out]; exact HQ.out, HB.out⟩
      · obtain ⟨x, y, z, t, S', rfl⟩ := len4 hS
        simp only [List.length_cons] at hlen hS
        have hin : (P.length : Int) + 4 ≤ xs.length := by omega
        have HQ := Lib.hid hq
        clear hq hS
        go_wp2_with fail
        go_loopw [7] (fun kv wq => ∃ k : Nat, kv = .int .i64 k ∧ k ≤ 4 ∧ RevQ w.heap.size g xs.length cap w1 (P ++ ((([t, z, y, x] : List Int).take k ++ ([x, y, z, t] : List Int).drop k) ++ S')) wq) (fun kv _ => 4 - (intOf kv).toNat)
        case atStart => exact ⟨0, rfl, Nat.zero_le _, HQ.out⟩
        case round =>
          obtain ⟨k, rfl, hk, hq⟩ := hrel
          have hR := Lib.hid hq
          by_cases hlt : k < 4
          · have f := fun j => hq.1.frozen j
            have hbq : Below w.heap.size w wr := hb1.grown hq.2 hb1.size (fun k hk => by cases hk; exact hgB)
            have hx0 : xs[P.length]? = some x := by have h9 := List.getElem?_drop (xs := xs) (i := P.length) (j := 0); rw [HD.out, Nat.add_zero] at h9; exact h9.symm
            have hx1 : xs[P.length + 1]? = some y := by rw [← List.getElem?_drop, HD.out]; rfl
            have hx2 : xs[P.length + 2]? = some z := by rw [← List.getElem?_drop, HD.out]; rfl
            have hx3 : xs[P.length + 3]? = some t := by rw [← List.getElem?_drop, HD.out]; rfl
            clear hq
            rcases (by omega : k = 0 ∨ k = 1 ∨ k = 2 ∨ k = 3) with rfl | rfl | rfl | rfl
            · obtain ⟨q, HX, rfl, hc⟩ := HC.out (P.length + 3) (by omega)
              have e9 := HX.out; rw [hx3] at e9; obtain rfl := Option.some.inj e9
              replace hc := hc _ hbq
              have c : wr.cell? ⟨g, P.length, none⟩ = some (.int .u8 x) := hR.out.cell (j := P.length + 0) (by rw [app_get (by simp)]; rfl)
              have hs9 := hR.out.set (P.length + 0) t
              rw [app_set (by simp)] at hs9
              have HS9 : Hid (RevQ w.heap.size g xs.length cap w1 (P ++ (([t, z, y, x].take 1 ++ [x, y, z, t].drop 1) ++ S')) (wr.setCell ⟨g, P.length, none⟩ (.int .u8 t))) := hs9
              clear hs9 hR e9
              go_wp2
              go_roundw
              case rel => exact ⟨1, by first | exact iv (by rfl) | go_num, by omega, HS9.out⟩
              case measure => simp [intOf]
            · obtain ⟨q, HX, rfl, hc⟩ := HC.out (P.length + 2) (by omega)
              have e9 := HX.out; rw [hx2] at e9; obtain rfl := Option.some.inj e9
              replace hc := hc _ hbq
              have c : wr.cell? ⟨g, P.length + 1, none⟩ = some (.int .u8 y) := hR.out.cell (j := P.length + 1) (by rw [app_get (by simp)]; rfl)
              have hs9 := hR.out.set (P.length + 1) z
              rw [app_set (by simp)] at hs9
              have HS9 : Hid (RevQ w.heap.size g xs.length cap w1 (P ++ (([t, z, y, x].take 2 ++ [x, y, z, t].drop 2) ++ S')) (wr.setCell ⟨g, P.length + 1, none⟩ (.int .u8 z))) := hs9
              clear hs9 hR e9
              go_wp2
              go_roundw
              case rel => exact ⟨2, by first | exact iv (by rfl) | go_num, by omega, HS9.out⟩
              case measure => simp [intOf]
            · obtain ⟨q, HX, rfl, hc⟩ := HC.out (P.length + 1) (by omega)
              have e9 := HX.out; rw [hx1] at e9; obtain rfl := Option.some.inj e9
              replace hc := hc _ hbq
              have c : wr.cell? ⟨g, P.length + 2, none⟩ = some (.int .u8 z) := hR.out.cell (j := P.length + 2) (by rw [app_get (by simp)]; rfl)
              have hs9 := hR.out.set (P.length + 2) y
              rw [app_set (by simp)] at hs9
              have HS9 : Hid (RevQ w.heap.size g xs.length cap w1 (P ++ (([t, z, y, x].take 3 ++ [x, y, z, t].drop 3) ++ S')) (wr.setCell ⟨g, P.length + 2, none⟩ (.int .u8 y))) := hs9
              clear hs9 hR e9
              go_wp2
              go_roundw
              case rel => exact ⟨3, by first | exact iv (by rfl) | go_num, by omega, HS9.out⟩
              case measure => simp [intOf]
            · obtain ⟨q, HX, rfl, hc⟩ := HC.out P.length (by omega)
              have e9 := HX.out; rw [hx0] at e9; obtain rfl := Option.some.inj e9
              replace hc := hc _ hbq
              have c : wr.cell? ⟨g, P.length + 3, none⟩ = some (.int .u8 t) := hR.out.cell (j := P.length + 3) (by rw [app_get (by simp)]; rfl)
              have hs9 := hR.out.set (P.length + 3) x
              rw [app_set (by simp)] at hs9
              have HS9 : Hid (RevQ w.heap.size g xs.length cap w1 (P ++ (([t, z, y, x].take 4 ++ [x, y, z, t].drop 4) ++ S')) (wr.setCell ⟨g, P.length + 3, none⟩ (.int .u8 x))) := hs9
              clear hs9 hR e9
              go_wp2
              go_roundw
              case rel => exact ⟨4, by first | exact iv (by rfl) | go_num, by omega, HS9.out⟩
              case measure => simp [intOf]
          · obtain rfl : k = 4 := by omega
            have HQ5 : Hid (RevQ w.heap.size g xs.length cap w1 ((P ++ [t, z, y, x]) ++ S') wr) := by
              have h9 := hR.out
              show RevQ _ _ _ _ _ _ _
              rw [List.append_assoc]; exact h9
            have HD2 : Hid (xs.drop (P.length + 4) = S') := by
              show _ = _
              rw [← List.drop_drop, HD.out]; rfl
            clear hq hR
            go_wp2
            go_roundw
            case rel => exact ⟨P ++ [t, z, y, x], S', iv (by rw [List.length_append]; simp), (by show _ = _; rw [HS.out, sw4, List.append_assoc]; rfl), (by show _ = _; rw [List.length_append]; simp; omega), (by show _ = _; rw [List.length_append]; exact HD2.out), HQ5.out⟩
            case measure => simp [intOf]; omega
end Go.Proofs.Ytgfdebijcpdhbaa
