/- Walks: wide texts: the numbers of a text. (laid together by program out of single texts). -/
import Derived.Test.YtponfaglflmnkaaGreatM4
import Derived.Test.YtponfaglflmnkaaGreatM11
import Derived.Test.YtponfaglflmnkaaGreatM13
namespace Go.Proofs.YtponfaglflmnkaaGreat
open Go.RowKit
set_option maxHeartbeats 1000000
theorem oclone45_any (v : Value) (xs : List Int) (w : World) (h : Row w v (ints .u8 xs)) (hl : xs.length ≤ 1000000) :
    Calls Tryz.prog 108 #[v] w fun e w' => ∃ t, e = .returned t ∧ Own w.heap.size 5 w' t (ints .u8 xs) ∧ Below w.heap.size w w' := by
  obtain ⟨a, b, off, cap, rfl, hlc, hm, ha, _⟩ := id h
  have hnil := fun w a n c n' c' => Lib.run_eql_slice_nil (P := Tryz.prog) w 22 5 a n c n' c' Tryz.underlying22
  cases a with
  | none =>
    obtain ⟨hn, hz⟩ : ints .u8 xs = [] ∧ ((none : Option Addr) = none → cap = 0) := by
      rcases ha with h | h
      · cases h
      · exact h
    obtain rfl : xs = [] := by simpa [ints] using hn
    obtain rfl := hz rfl
    go_enter Tryz.func108, Tryz.ntmps108
    go_wp2
    go_ret
    exact ⟨_, rfl, Own.nil _ _ _, Below.refl _ _⟩
  | some ad =>
    go_enter Tryz.func108, Tryz.ntmps108
    go_wp2_with (at_builtin; refine wpList_app slT_u8 _ _ _ rfl rfl rfl rfl (Own.ilit (k := .u8) [] [] rfl (Nat.le_refl _) (by simp)) (h.alloc _) (by simp [ints]; omega) (by simp) ?_; intro t2 w2 hown2 hg2)
    go_ret
    exact ⟨_, rfl, hown2, below_app (Below.refl _ _) (below_alloc _ _) (Own.ilit (k := .u8) [] [] rfl (Nat.le_refl _) (by simp)) hg2⟩
theorem slT_u32 : SlT Tryz.prog 85 87 := SlT.mk (z := .int .u32 0) (bytes := 4) (by kernel_rfl) (by kernel_rfl) (by omega) rfl
theorem is_two (wd : Int) (w : World) : Calls Tryz.prog 90 #[.int .i64 wd] w fun e w' => e = .returned (.bool (wd == 2 || wd == 4)) ∧ w' = w := by
  go_enter Tryz.func90, Tryz.ntmps90
  rcases Decidable.em (wd = 2) with rfl | h
  · go_wp2
    go_ret
    exact ⟨rfl, rfl⟩
  · have h2 : (wd == 2) = false := beq_false_of_ne h
    clear h
    go_wp2
    go_ret
    exact ⟨ret_bool (by rw [h2, Bool.false_or]), rfl⟩
set_option maxRecDepth 100000 in
theorem numbers_any (wd : Int) (v : Value) (xs : List Int) (w : World) (hw : wd = 2 ∨ wd = 4) (h : Row w v (ints .i32 xs)) (hs : allSc xs = true) (hl : xs.length ≤ 1000000) :
    Calls Tryz.prog 93 #[.int .i64 wd, v] w fun e w' => ∃ t, e = .returned t ∧ Own w.heap.size 87 w' t (ints .u32 (wnum wd xs)) ∧ Below w.heap.size w w' := by
  obtain ⟨a, b, off, cp, rfl, HC⟩ := h.op
  have hx4 := fun x (hx : x ∈ xs) => scB_iff.1 (List.all_eq_true.1 hs x hx)
  rcases hw with rfl | rfl
  · go_enter Tryz.func93, Tryz.ntmps93
    go_wp2
    go_loopw [5, 12] (fun u i wr => ∃ k : Nat, i = .int .i64 k ∧ k ≤ xs.length ∧ Own w.heap.size 87 wr u (ints .u32 (wnum 2 (xs.take k))) ∧ Below w.heap.size w wr) (fun _ i _ => xs.length - (intOf i).toNat)
    case atStart => exact ⟨0, rfl, Nat.zero_le _, Own.nil _ _ _, Below.refl _ _⟩
    case round =>
      obtain ⟨k, rfl, hk, hown, hb⟩ := hrel
      by_cases hlt : k < xs.length
      · obtain ⟨x, HX, rfl, hc⟩ := HC.out k hlt
        replace hc := hc _ hb
        have hxr := hx4 x (List.mem_of_getElem? HX.out)
        have hun := uof_any x wr (by omega) (by omega)
        have hur := uof_len x
        have hug : Rg 0 65536 (uof x) := by
          have := ulay_rng [x]
          rw [ulayL_cons] at this
          exact fun y hy => this y (List.mem_append_left _ hy)
        have hnl := wnum_len 2 (xs.take k)
        rw [List.length_take] at hnl
        have hsn := wnum_snoc (wd := 2) HX.out
        rw [if_neg (by omega)] at hsn
        generalize uof x = us at *
        generalize wnum 2 (xs.take k) = A at *
        have HU := Lib.hid hun; have HUG := Lib.hid hug; have HS := Lib.hid hsn; have HNL : Hid (A.length ≤ 2000000) := (by show _ ≤ _; omega); have HUR := Lib.hid hur
        clear hun hug hsn hnl hur
        go_wp2_with (go_at_call 112; refine (HU.out).mono ?_; rintro e w1 ⟨t1, rfl, ho1, hb1⟩; have hfr := Free.of_own ho1 hown.blk; have r1 := ho1.row; clear ho1; obtain ⟨a1, b1, o1, c1, rfl, _⟩ := id r1.op)
        replace hown := hown.below hb1
        replace hb := below_trans hb hb1
        clear hb1 r1
        go_loopw [5, 26] (fun u i wq => ∃ j : Nat, i = .int .i64 j ∧ j ≤ us.length ∧ Own w.heap.size 87 wq u (ints .u32 (A ++ us.take j)) ∧ Below w.heap.size w wq ∧ Free wq u (.slice a1 us.length c1) (ints .u16 us)) (fun _ i _ => us.length - (intOf i).toNat)
        case atStart => exact ⟨0, rfl, Nat.zero_le _, by simpa using hown, hb, hfr⟩
        case round =>
          obtain ⟨j, rfl, hj, hown, hb, hfr⟩ := hrel
          have hu2 := HUR.out
          by_cases hlj : j < us.length
          · obtain ⟨_, b1, o1, _, he, C1⟩ := hfr.row.op
            cases he
            obtain ⟨y, HY, rfl, hd⟩ := C1.out j hlj
            replace hd := hd _ (Below.refl _ _)
            clear C1
            have hyr := HUG.out.get HY.out
            have hwr : IntKind.u32.wrap y = y := by simp only [IntKind.wrap_u32]; omega
            have HJ : Hid ((A ++ us.take j).length ≤ 2000002) := by
              show _ ≤ _
              have := HNL.out
              have := HUR.out
              rw [List.length_append, List.length_take]; omega
            have HT : Hid (us.take (j + 1) = us.take j ++ [y]) := by show _ = _; rw [List.take_add_one, HY.out]; rfl
            clear hyr
            go_wp2_with (at_builtin; refine wpList_app2 slT_u32 _ _ _ rfl rfl rfl rfl (hown.alloc _) (Row.ilit [y] [_] rfl (by simp)) (by have := HJ.out; rw [ints_length, ints_length]; simp only [List.length_cons, List.length_nil]; omega) (by have := hb.size; simp; omega) ?_; intro t3 w3 hown3 hg3 hl3)
            have hb3 := below_app hb (below_alloc _ _) (hown.alloc _) hg3
            have hfr3 := (hfr.alloc _).app hg3 hl3
            rw [← ints_append, List.append_assoc, ← HT.out] at hown3
            go_roundw
            case rel => exact ⟨j + 1, by go_num, by omega, hown3, hb3, hfr3⟩
            case measure => simp [intOf]; omega
          · obtain rfl : j = us.length := by omega
            rw [List.take_length, ← HS.out] at hown
            go_wp2
            go_roundw
            case rel => exact ⟨k + 1, by go_num, by omega, hown, hb⟩
            case measure => simp [intOf]; omega
      · obtain rfl : k = xs.length := by omega
        rw [List.take_length] at hown
        go_wp2
        go_ret
        exact ⟨_, rfl, hown, hb⟩
  · go_enter Tryz.func93, Tryz.ntmps93
    go_wp2
    go_loopw [5, 12] (fun u i wr => ∃ k : Nat, i = .int .i64 k ∧ k ≤ xs.length ∧ Own w.heap.size 87 wr u (ints .u32 (wnum 4 (xs.take k))) ∧ Below w.heap.size w wr) (fun _ i _ => xs.length - (intOf i).toNat)
    case atStart => exact ⟨0, rfl, Nat.zero_le _, Own.nil _ _ _, Below.refl _ _⟩
    case round =>
      obtain ⟨k, rfl, hk, hown, hb⟩ := hrel
      by_cases hlt : k < xs.length
      · obtain ⟨x, HX, rfl, hc⟩ := HC.out k hlt
        replace hc := hc _ hb
        have hxr := hx4 x (List.mem_of_getElem? HX.out)
        have hwr : IntKind.u32.wrap x = x := by simp only [IntKind.wrap_u32]; omega
        have hnl := wnum_len 4 (xs.take k)
        rw [List.length_take] at hnl
        have hsn := wnum_snoc (wd := 4) HX.out
        rw [if_pos rfl] at hsn
        generalize wnum 4 (xs.take k) = A at *
        have HS := Lib.hid hsn; have HNL : Hid (A.length ≤ 2000000) := (by show _ ≤ _; omega)
        clear hsn hnl hxr
        go_wp2_with (at_builtin; refine wpList_app slT_u32 _ _ _ rfl rfl rfl rfl (hown.alloc _) (Row.ilit [x] [_] rfl (by simp)) (by have := HNL.out; simp only [ints_length]; simp; omega) (by have := hb.size; simp; omega) ?_; intro t3 w3 hown3 hg3)
        have hb3 := below_app hb (below_alloc _ _) (hown.alloc _) hg3
        rw [← ints_append] at hown3
        go_roundw
        case rel => exact ⟨k + 1, by go_num, by omega, by rw [HS.out]; exact hown3, hb3⟩
        case measure => simp [intOf]; omega
      · obtain rfl : k = xs.length := by omega
        rw [List.take_length] at hown
        go_wp2
        go_ret
        exact ⟨_, rfl, hown, hb⟩
end Go.Proofs.YtponfaglflmnkaaGreat
