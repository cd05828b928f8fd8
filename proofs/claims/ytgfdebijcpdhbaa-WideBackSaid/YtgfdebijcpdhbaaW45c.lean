/- Walks: wide texts: laying. -/
import Derived.Test.YtgfdebijcpdhbaaW45b
import Derived.Deep.OwnRows
namespace Go.Proofs.Ytgfdebijcpdhbaa
open Go.RowKit
set_option maxHeartbeats 1000000
theorem put_any (wd : Int) (big : Bool) (w : World) :
    Calls Try.prog 24 #[.int .i64 wd, .bool big] w fun e w' => e = .returned (.func (.func 37) #[] #[.pointer (some ⟨w.heap.size, 0, none⟩), .pointer (some ⟨w.heap.size + 1, 0, none⟩)]) ∧
      w'.cell? ⟨w.heap.size, 0, none⟩ = some (.int .i64 wd) ∧ w'.cell? ⟨w.heap.size + 1, 0, none⟩ = some (.bool big) ∧ Below w.heap.size w w' := by
  have hb := (below_alloc w (.cells #[.int .i64 wd] 3)).alloc (by simp) (.cells #[.bool big] 4)
  have c00 : (w.alloc (.cells #[.int .i64 wd] 3)).cell? ⟨w.heap.size, 0, none⟩ = some (.int .i64 wd) := by rw [cell_of_row _ _ 0 _ _ (0, 0) (heap_alloc_new w _)]; rfl
  have c0 : ((w.alloc (.cells #[.int .i64 wd] 3)).alloc (.cells #[.bool big] 4)).cell? ⟨w.heap.size, 0, none⟩ = some (.int .i64 wd) := by
    rw [← c00]; exact (below_alloc _ _).cell (World.block_lt_of_cell? _ _ c00)
  have c1 : ((w.alloc (.cells #[.int .i64 wd] 3)).alloc (.cells #[.bool big] 4)).cell? ⟨w.heap.size + 1, 0, none⟩ = some (.bool big) := by
    have h1 : (w.alloc (.cells #[.int .i64 wd] 3)).heap.size = w.heap.size + 1 := by simp
    rw [← h1, cell_of_row _ _ 0 _ _ (0, 0) (heap_alloc_new _ _)]; rfl
  have H := Lib.hid (And.intro hb (And.intro c0 c1))
  clear hb c0 c1
  go_enter Try.func24, Try.ntmps24
  go_wp2
  go_ret
  exact ⟨rfl, H.out.2.1, H.out.2.2, H.out.1⟩
set_option maxRecDepth 100000 in
theorem putc2_any (big : Bool) (p q : Nat) (w : World) (B : Nat) (v : Value) (O : List Int) (n : Int) (hp : w.cell? ⟨p, 0, none⟩ = some (.int .i64 2)) (hq : w.cell? ⟨q, 0, none⟩ = some (.bool big)) (ho : Own B 5 w v (ints .u8 O)) (hB : B ≤ w.heap.size) (_h0 : 0 ≤ n) (_h1 : n < 4294967296) (hl : O.length ≤ 1000000) :
    Calls Try.prog 37 #[v, .int .u32 n, .pointer (some ⟨p, 0, none⟩), .pointer (some ⟨q, 0, none⟩)] w fun e w' => ∃ t, e = .returned t ∧ Own B 5 w' t (ints .u8 (O ++ grp 2 big n)) ∧ Below B w w' := by
  have hmk : ∀ w : World, (Instr.makeSlice 24 (.int .i64 2) (.int .i64 2)).run Try.prog w = .ok (.slice (some ⟨w.heap.size, 0, none⟩) 2 2) (w.alloc (.cells #[.int .u8 0, .int .u8 0] 5)) := fun w => by
    have h9 := run_make_row' (P := Try.prog) 24 5 (.int .u8 0) 1 Try.underlying24 (by kernel_rfl) rfl .i64 .i64 2 (by omega) (by omega) w
    rw [show madeCells #[Value.int .u8 0] 2 = #[.int .u8 0, .int .u8 0] from Array.toList_inj.1 (by rw [toList_madeCells_one]; rfl)] at h9
    exact h9
  have hg0 : RevQ w.heap.size w.heap.size 2 2 (w.alloc (.cells #[.int .u8 0, .int .u8 0] 5)) [0, 0] (w.alloc (.cells #[.int .u8 0, .int .u8 0] 5)) := ⟨Own.ilit (k := .u8) [0, 0] [_, _] rfl (Nat.le_refl _) (by simp), ⟨rfl, rfl, rfl, Nat.le_refl _, fun _ _ _ => rfl⟩⟩
  have hbw := below_alloc w (.cells #[.int .u8 0, .int .u8 0] 5)
  have hpl := World.block_lt_of_cell? w _ hp
  have hql := World.block_lt_of_cell? w _ hq
  have hp1 : (w.alloc (.cells #[.int .u8 0, .int .u8 0] 5)).cell? ⟨p, 0, none⟩ = some (.int .i64 2) := by rw [← hp]; exact hbw.cell hpl
  have hq1 : (w.alloc (.cells #[.int .u8 0, .int .u8 0] 5)).cell? ⟨q, 0, none⟩ = some (.bool big) := by rw [← hq]; exact hbw.cell hql
  have ho1 := ho.below hbw
  have hvb := ho.blk
  have HG := Lib.hid hg0; have HP := Lib.hid hp1; have HQ := Lib.hid hq1; have HBW := Lib.hid hbw; have HO := Lib.hid ho1
  clear hg0 hp1 hq1 hbw ho1
  have HLEN : Hid (O.length ≤ 1000000) := hl
  clear hl
  go_enter Try.func37, Try.ntmps37
  go_wp2_with fail
  have hpl2 : p ≠ w.heap.size := Nat.ne_of_lt hpl
  have hql2 : q ≠ w.heap.size := Nat.ne_of_lt hql
  clear hpl hql hp hq hmk
  generalize hG : w.heap.size = G at *
  generalize w.alloc (.cells #[.int .u8 0, .int .u8 0] 5) = w1 at *
  go_loopw [13] (fun i wr => ∃ k : Nat, i = .int .i64 k ∧ k ≤ 2 ∧ RevQ G G 2 2 w1 ((([n % 256, n / 256 % 256] : List Int).take k) ++ List.replicate (2 - k) 0) wr) (fun i _ => 2 - (intOf i).toNat)
  case atStart => exact ⟨0, rfl, by omega, HG.out⟩
  case round =>
    obtain ⟨k, rfl, hk, hr⟩ := hrel
    have hR := Lib.hid hr
    by_cases hlt : k < 2
    · have f := fun j => hr.1.frozen j
      clear hr
      rcases (by omega : k = 0 ∨ k = 1) with rfl | rfl
      · have hw : IntKind.u8.wrap (n) = n % 256 := by simp only [IntKind.wrap_u8]
        have c := hR.out.cell (j := 0) (x := 0) rfl
        have HS := Lib.hid (hR.out.set 0 (n % 256))
        clear hR
        go_wp2
        go_roundw
        case rel => exact ⟨1, by first | exact iv (by rfl) | go_num, by omega, HS.out⟩
        case measure => simp [intOf]
      · have hw : IntKind.u8.wrap (n / 256) = n / 256 % 256 := by simp only [IntKind.wrap_u8]
        have c := hR.out.cell (j := 1) (x := 0) rfl
        have HS := Lib.hid (hR.out.set 1 (n / 256 % 256))
        clear hR
        go_wp2
        go_roundw
        case rel => exact ⟨2, by first | exact iv (by rfl) | go_num, by omega, HS.out⟩
        case measure => simp [intOf]
    · obtain rfl : k = 2 := by omega
      have hr2 : RevQ G G 2 2 w1 [n % 256, n / 256 % 256] wr := hR.out
      have hqr := hr2.2.cell HQ.out (by intro h9; exact hql2 (Option.some.inj h9))
      have hO2 : Own B 5 wr v (ints .u8 O) := ⟨HO.out.1.kept hr2.2 (by
        rcases hv : v.ownBlock with _ | g
        · exact .inl rfl
        · right
          intro h9
          have := hvb g hv
          have h8 := Option.some.inj h9
          omega), HO.out.2⟩
      have hbr : Below B w wr := (HBW.out.mono (by omega)).grown hr2.2 (by have := HBW.out.size; omega) (fun k hk => by cases hk; omega)
      have hsz := hbr.size
      have HR2 := Lib.hid hr2
      clear hR hr hr2
      cases big with
      | false =>
        have hrow := HR2.out.1.row
        go_wp2_with (at_builtin; refine wpList_app slT_u8 _ _ _ rfl rfl rfl rfl hO2 hrow (by have := HLEN.out; rw [ints_length, ints_length]; simp; omega) (by omega) ?_; intro t3 w3 hown3 hg3)
        rw [← ints_append] at hown3
        go_ret
        exact ⟨_, rfl, hown3, below_grown hbr hO2 hg3 (by omega)⟩
      | true =>
        have hrev := rev2_any wr G G 2 2 0 2 [] [] (n % 256) (n / 256 % 256) HR2.out.1 rfl
        have HREV := Lib.hid hrev
        clear hrev
        go_wp2_with fail
        refine HREV.out.mono ?_
        rintro e w2 ⟨⟨_, rfl⟩, hr4⟩
        have hrow := hr4.1.row
        have hO4 : Own B 5 w2 v (ints .u8 O) := ⟨hO2.1.kept hr4.2 (by
          rcases hv : v.ownBlock with _ | g
          · exact .inl rfl
          · right
            intro h9
            have := hvb g hv
            have h8 := Option.some.inj h9
            omega), hO2.2⟩
        have hbr4 : Below B w w2 := hbr.grown hr4.2 (by omega) (fun k hk => by cases hk; omega)
        have hsz4 := hbr4.size
        simp only [List.nil_append, List.append_nil] at hrow
        clear hr4 HREV
        go_wp2_with (at_builtin; refine wpList_app slT_u8 _ _ _ rfl rfl rfl rfl hO4 hrow (by have := HLEN.out; rw [ints_length, ints_length]; simp; omega) (by omega) ?_; intro t3 w3 hown3 hg3)
        rw [← ints_append] at hown3
        go_ret
        exact ⟨_, rfl, hown3, below_grown hbr4 hO4 hg3 (by omega)⟩
set_option maxRecDepth 100000 in
theorem putc4_any (big : Bool) (p q : Nat) (w : World) (B : Nat) (v : Value) (O : List Int) (n : Int) (hp : w.cell? ⟨p, 0, none⟩ = some (.int .i64 4)) (hq : w.cell? ⟨q, 0, none⟩ = some (.bool big)) (ho : Own B 5 w v (ints .u8 O)) (hB : B ≤ w.heap.size) (_h0 : 0 ≤ n) (_h1 : n < 4294967296) (hl : O.length ≤ 1000000) :
    Calls Try.prog 37 #[v, .int .u32 n, .pointer (some ⟨p, 0, none⟩), .pointer (some ⟨q, 0, none⟩)] w fun e w' => ∃ t, e = .returned t ∧ Own B 5 w' t (ints .u8 (O ++ grp 4 big n)) ∧ Below B w w' := by
  have hmk : ∀ w : World, (Instr.makeSlice 24 (.int .i64 4) (.int .i64 4)).run Try.prog w = .ok (.slice (some ⟨w.heap.size, 0, none⟩) 4 4) (w.alloc (.cells #[.int .u8 0, .int .u8 0, .int .u8 0, .int .u8 0] 5)) := fun w => by
    have h9 := run_make_row' (P := Try.prog) 24 5 (.int .u8 0) 1 Try.underlying24 (by kernel_rfl) rfl .i64 .i64 4 (by omega) (by omega) w
    rw [show madeCells #[Value.int .u8 0] 4 = #[.int .u8 0, .int .u8 0, .int .u8 0, .int .u8 0] from Array.toList_inj.1 (by rw [toList_madeCells_one]; rfl)] at h9
    exact h9
  have hg0 : RevQ w.heap.size w.heap.size 4 4 (w.alloc (.cells #[.int .u8 0, .int .u8 0, .int .u8 0, .int .u8 0] 5)) [0, 0, 0, 0] (w.alloc (.cells #[.int .u8 0, .int .u8 0, .int .u8 0, .int .u8 0] 5)) := ⟨Own.ilit (k := .u8) [0, 0, 0, 0] [_, _, _, _] rfl (Nat.le_refl _) (by simp), ⟨rfl, rfl, rfl, Nat.le_refl _, fun _ _ _ => rfl⟩⟩
  have hbw := below_alloc w (.cells #[.int .u8 0, .int .u8 0, .int .u8 0, .int .u8 0] 5)
  have hpl := World.block_lt_of_cell? w _ hp
  have hql := World.block_lt_of_cell? w _ hq
  have hp1 : (w.alloc (.cells #[.int .u8 0, .int .u8 0, .int .u8 0, .int .u8 0] 5)).cell? ⟨p, 0, none⟩ = some (.int .i64 4) := by rw [← hp]; exact hbw.cell hpl
  have hq1 : (w.alloc (.cells #[.int .u8 0, .int .u8 0, .int .u8 0, .int .u8 0] 5)).cell? ⟨q, 0, none⟩ = some (.bool big) := by rw [← hq]; exact hbw.cell hql
  have ho1 := ho.below hbw
  have hvb := ho.blk
  have HG := Lib.hid hg0; have HP := Lib.hid hp1; have HQ := Lib.hid hq1; have HBW := Lib.hid hbw; have HO := Lib.hid ho1
  clear hg0 hp1 hq1 hbw ho1
  have HLEN : Hid (O.length ≤ 1000000) := hl
  clear hl
  go_enter Try.func37, Try.ntmps37
  go_wp2_with fail
  have hpl2 : p ≠ w.heap.size := Nat.ne_of_lt hpl
  have hql2 : q ≠ w.heap.size := Nat.ne_of_lt hql
  clear hpl hql hp hq hmk
  generalize hG : w.heap.size = G at *
  generalize w.alloc (.cells #[.int .u8 0, .int .u8 0, .int .u8 0, .int .u8 0] 5) = w1 at *
  go_loopw [13] (fun i wr => ∃ k : Nat, i = .int .i64 k ∧ k ≤ 4 ∧ RevQ G G 4 4 w1 ((([n % 256, n / 256 % 256, n / 65536 % 256, n / 16777216 % 256] : List Int).take k) ++ List.replicate (4 - k) 0) wr) (fun i _ => 4 - (intOf i).toNat)
  case atStart => exact ⟨0, rfl, by omega, HG.out⟩
  case round =>
    obtain ⟨k, rfl, hk, hr⟩ := hrel
    have hR := Lib.hid hr
    by_cases hlt : k < 4
    · have f := fun j => hr.1.frozen j
      clear hr
      rcases (by omega : k = 0 ∨ k = 1 ∨ k = 2 ∨ k = 3) with rfl | rfl | rfl | rfl
      · have hw : IntKind.u8.wrap (n) = n % 256 := by simp only [IntKind.wrap_u8]
        have c := hR.out.cell (j := 0) (x := 0) rfl
        have HS := Lib.hid (hR.out.set 0 (n % 256))
        clear hR
        go_wp2
        go_roundw
        case rel => exact ⟨1, by first | exact iv (by rfl) | go_num, by omega, HS.out⟩
        case measure => simp [intOf]
      · have hw : IntKind.u8.wrap (n / 256) = n / 256 % 256 := by simp only [IntKind.wrap_u8]
        have c := hR.out.cell (j := 1) (x := 0) rfl
        have HS := Lib.hid (hR.out.set 1 (n / 256 % 256))
        clear hR
        go_wp2
        go_roundw
        case rel => exact ⟨2, by first | exact iv (by rfl) | go_num, by omega, HS.out⟩
        case measure => simp [intOf]
      · have hw : IntKind.u8.wrap (n / 65536) = n / 65536 % 256 := by simp only [IntKind.wrap_u8]
        have c := hR.out.cell (j := 2) (x := 0) rfl
        have HS := Lib.hid (hR.out.set 2 (n / 65536 % 256))
        clear hR
        go_wp2
        go_roundw
        case rel => exact ⟨3, by first | exact iv (by rfl) | go_num, by omega, HS.out⟩
        case measure => simp [intOf]
      · have hw : IntKind.u8.wrap (n / 16777216) = n / 16777216 % 256 := by simp only [IntKind.wrap_u8]
        have c := hR.out.cell (j := 3) (x := 0) rfl
        have HS := Lib.hid (hR.out.set 3 (n / 16777216 % 256))
        clear hR
        go_wp2
        go_roundw
        case rel => exact ⟨4, by first | exact iv (by rfl) | go_num, by omega, HS.out⟩
        case measure => simp [intOf]
    · obtain rfl : k = 4 := by omega
      have hr2 : RevQ G G 4 4 w1 [n % 256, n / 256 % 256, n / 65536 % 256, n / 16777216 % 256] wr := hR.out
      have hqr := hr2.2.cell HQ.out (by intro h9; exact hql2 (Option.some.inj h9))
      have hO2 : Own B 5 wr v (ints .u8 O) := ⟨HO.out.1.kept hr2.2 (by
        rcases hv : v.ownBlock with _ | g
        · exact .inl rfl
        · right
          intro h9
          have := hvb g hv
          have h8 := Option.some.inj h9
          omega), HO.out.2⟩
      have hbr : Below B w wr := (HBW.out.mono (by omega)).grown hr2.2 (by have := HBW.out.size; omega) (fun k hk => by cases hk; omega)
      have hsz := hbr.size
      have HR2 := Lib.hid hr2
      clear hR hr hr2
      cases big with
      | false =>
        have hrow := HR2.out.1.row
        go_wp2_with (at_builtin; refine wpList_app slT_u8 _ _ _ rfl rfl rfl rfl hO2 hrow (by have := HLEN.out; rw [ints_length, ints_length]; simp; omega) (by omega) ?_; intro t3 w3 hown3 hg3)
        rw [← ints_append] at hown3
        go_ret
        exact ⟨_, rfl, hown3, below_grown hbr hO2 hg3 (by omega)⟩
      | true =>
        have hrev := rev4_any wr G G 4 4 0 4 [] [] (n % 256) (n / 256 % 256) (n / 65536 % 256) (n / 16777216 % 256) HR2.out.1 rfl
        have HREV := Lib.hid hrev
        clear hrev
        go_wp2_with fail
        refine HREV.out.mono ?_
        rintro e w2 ⟨⟨_, rfl⟩, hr4⟩
        have hrow := hr4.1.row
        have hO4 : Own B 5 w2 v (ints .u8 O) := ⟨hO2.1.kept hr4.2 (by
          rcases hv : v.ownBlock with _ | g
          · exact .inl rfl
          · right
            intro h9
            have := hvb g hv
            have h8 := Option.some.inj h9
            omega), hO2.2⟩
        have hbr4 : Below B w w2 := hbr.grown hr4.2 (by omega) (fun k hk => by cases hk; omega)
        have hsz4 := hbr4.size
        simp only [List.nil_append, List.append_nil] at hrow
        clear hr4 HREV
        go_wp2_with (at_builtin; refine wpList_app slT_u8 _ _ _ rfl rfl rfl rfl hO4 hrow (by have := HLEN.out; rw [ints_length, ints_length]; simp; omega) (by omega) ?_; intro t3 w3 hown3 hg3)
        rw [← ints_append] at hown3
        go_ret
        exact ⟨_, rfl, hown3, below_grown hbr4 hO4 hg3 (by omega)⟩
end Go.Proofs.Ytgfdebijcpdhbaa
