/- Walks: wide texts: laying. · Walks: wide texts: laying, by the program. (laid together by program out of single texts). -/
import Derived.Deep.OwnRows
import Derived.Test.YtponfaglflmnkaaGreatM14
namespace Go.Proofs.YtponfaglflmnkaaGreat
open Go.RowKit
set_option maxHeartbeats 1000000
theorem put_any (wd : Int) (big : Bool) (w : World) :
    Calls Tryz.prog 92 #[.int .i64 wd, .bool big] w fun e w' => e = .returned (.func (.func 110) #[] #[.pointer (some ⟨w.heap.size, 0, none⟩), .pointer (some ⟨w.heap.size + 1, 0, none⟩)]) ∧
      w'.cell? ⟨w.heap.size, 0, none⟩ = some (.int .i64 wd) ∧ w'.cell? ⟨w.heap.size + 1, 0, none⟩ = some (.bool big) ∧ Below w.heap.size w w' := by
  have hb := (below_alloc w (.cells #[.int .i64 wd] 3)).alloc (by simp) (.cells #[.bool big] 4)
  have c00 : (w.alloc (.cells #[.int .i64 wd] 3)).cell? ⟨w.heap.size, 0, none⟩ = some (.int .i64 wd) := by rw [cell_of_row _ _ 0 _ _ (0, 0) (heap_alloc_new w _)]; rfl
  have c0 : ((w.alloc (.cells #[.int .i64 wd] 3)).alloc (.cells #[.bool big] 4)).cell? ⟨w.heap.size, 0, none⟩ = some (.int .i64 wd) := by
    rw [← c00]; exact (below_alloc _ _).cell (World.block_lt_of_cell? _ _ c00)
  have c1 : ((w.alloc (.cells #[.int .i64 wd] 3)).alloc (.cells #[.bool big] 4)).cell? ⟨w.heap.size + 1, 0, none⟩ = some (.bool big) := by
    have h1 : (w.alloc (.cells #[.int .i64 wd] 3)).heap.size = w.heap.size + 1 := by simp
    rw [← h1, cell_of_row _ _ 0 _ _ (0, 0) (heap_alloc_new _ _)]; rfl
  have H := Lib.hid (And.intro hb (And.intro c0 c1))
  clear hb c0 c1
  go_enter Tryz.func92, Tryz.ntmps92
  go_wp2
  go_ret
  exact ⟨rfl, H.out.2.1, H.out.2.2, H.out.1⟩
set_option maxRecDepth 100000 in
theorem putc2_any (big : Bool) (p q : Nat) (w : World) (B : Nat) (v : Value) (O : List Int) (n : Int) (hp : w.cell? ⟨p, 0, none⟩ = some (.int .i64 2)) (hq : w.cell? ⟨q, 0, none⟩ = some (.bool big)) (ho : Own B 5 w v (ints .u8 O)) (hB : B ≤ w.heap.size) (_h0 : 0 ≤ n) (_h1 : n < 4294967296) (hl : O.length ≤ 1000000) :
    Calls Tryz.prog 110 #[v, .int .u32 n, .pointer (some ⟨p, 0, none⟩), .pointer (some ⟨q, 0, none⟩)] w fun e w' => ∃ t, e = .returned t ∧ Own B 5 w' t (ints .u8 (O ++ grp 2 big n)) ∧ Below B w w' := by
  have hmk : ∀ w : World, (Instr.makeSlice 22 (.int .i64 2) (.int .i64 2)).run Tryz.prog w = .ok (.slice (some ⟨w.heap.size, 0, none⟩) 2 2) (w.alloc (.cells #[.int .u8 0, .int .u8 0] 5)) := fun w => by
    have h9 := run_make_row' (P := Tryz.prog) 22 5 (.int .u8 0) 1 Tryz.underlying22 (by kernel_rfl) rfl .i64 .i64 2 (by omega) (by omega) w
    rw [show madeCells #[Value.int .u8 0] 2 = #[.int .u8 0, .int .u8 0] from Array.toList_inj.1 (by rw [toList_madeCells_one]; rfl)] at h9
    exact h9
  have hg0 : RevQ w.heap.size w.heap.size 2 2 (w.alloc (.cells #[.int .u8 0, .int .u8 0] 5)) [0, 0] (w.alloc (.cells #[.int .u8 0, .int .u8 0] 5)) := ⟨Own.ilit (k := .u8) [0, 0] [_, _] rfl (Nat.le_refl _) (by simp), ⟨rfl, rfl, rfl, Nat.le_refl _, fun _ _ _ => rfl⟩⟩
  have hbw := below_alloc w (.cells #[.int .u8 0, .int .u8 0] 5)
  have hpl := World.block_lt_of_cell? w _ hp
  have hql := World.block_lt_of_cell? w _ hq
  have hp1 : (w.alloc (.cells #[.int .u8 0, .int .u8 0] 5)).cell? ⟨p, 0, none⟩ = some (.int .i64 2) := by rw [← hp]; exact hbw.cell hpl
  have hq1 : (w.alloc (.cells #[.int .u8 0, .int .u8 0] 5)).cell? ⟨q, 0, none⟩ = some (.bool big) := by rw [← hq]; exact hbw.cell hql
  have ho1 := ho.below hbw
  have hvb := ho.blk
  have HG := Lib.hid hg0; have HP := Lib.hid hp1; have HQ := Lib.hid hq1; have HBW := Lib.hid hbw; have HO := Lib.hid ho1
  clear hg0 hp1 hq1 hbw ho1
  have HLEN : Hid (O.length ≤ 1000000) := hl
  clear hl
  go_enter Tryz.func110, Tryz.ntmps110
  go_wp2_with fail
  have hpl2 : p ≠ w.heap.size := Nat.ne_of_lt hpl
  have hql2 : q ≠ w.heap.size := Nat.ne_of_lt hql
  clear hpl hql hp hq hmk
  generalize hG : w.heap.size = G at *
  generalize w.alloc (.cells #[.int .u8 0, .int .u8 0] 5) = w1 at *
  go_loopw [13] (fun i wr => ∃ k : Nat, i = .int .i64 k ∧ k ≤ 2 ∧ RevQ G G 2 2 w1 ((([n % 256, n / 256 % 256] : List Int).take k) ++ List.replicate (2 - k) 0) wr) (fun i _ => 2 - (intOf i).toNat)
  case atStart => exact ⟨0, rfl, by omega, HG.out⟩
  case round =>
    obtain ⟨k, rfl, hk, hr⟩ := hrel
    have hR := Lib.hid hr
    by_cases hlt : k < 2
    · have f := fun j => hr.1.frozen j
      clear hr
      rcases (by omega : k = 0 ∨ k = 1) with rfl | rfl
      · have hw : IntKind.u8.wrap (n) = n % 256 := by simp only [IntKind.wrap_u8]
        have c := hR.out.cell (j := 0) (x := 0) rfl
        have HS := Lib.hid (hR.out.set 0 (n % 256))
        clear hR
        go_wp2
        go_roundw
        case rel => exact ⟨1, by first | exact iv (by rfl) | go_num, by omega, HS.out⟩
        case measure => simp [intOf]
      · have hw : IntKind.u8.wrap (n / 256) = n / 256 % 256 := by simp only [IntKind.wrap_u8]
        have c := hR.out.cell (j := 1) (x := 0) rfl
        have HS := Lib.hid (hR.out.set 1 (n / 256 % 256))
        clear hR
        go_wp2
        go_roundw
        case rel => exact ⟨2, by first | exact iv (by rfl) | go_num, by omega, HS.out⟩
        case measure => simp [intOf]
    · obtain rfl : k = 2 := by omega
      have hr2 : RevQ G G 2 2 w1 [n % 256, n / 256 % 256] wr := hR.out
      have hqr := hr2.2.cell HQ.out (by intro h9; exact hql2 (Option.some.inj h9))
      have hO2 : Own B 5 wr v (ints .u8 O) := ⟨HO.out.1.kept hr2.2 (by
        rcases hv : v.ownBlock with _ | g
        · exact .inl rfl
        · right
          intro h9
          have := hvb g hv
          have h8 := Option.some.inj h9
          omega), HO.out.2⟩
      have hbr : Below B w wr := (HBW.out.mono (by omega)).grown hr2.2 (by have := HBW.out.size; omega) (fun k hk => by cases hk; omega)
      have hsz := hbr.size
      have HR2 := Lib.hid hr2
      clear hR hr hr2
      cases big with
      | false =>
        have hrow := HR2.out.1.row
        go_wp2_with (at_builtin; refine wpList_app slT_u8 _ _ _ rfl rfl rfl rfl hO2 hrow (by have := HLEN.out; rw [ints_length, ints_length]; simp; omega) (by omega) ?_; intro t3 w3 hown3 hg3)
        rw [← ints_append] at hown3
        go_ret
        exact ⟨_, rfl, hown3, below_grown hbr hO2 hg3 (by omega)⟩
      | true =>
        have hrev := rev2_any wr G G 2 2 0 2 [] [] (n % 256) (n / 256 % 256) HR2.out.1 rfl
        have HREV := Lib.hid hrev
        clear hrev
        go_wp2_with fail
        refine HREV.out.mono ?_
        rintro e w2 ⟨⟨_, rfl⟩, hr4⟩
        have hrow := hr4.1.row
        have hO4 : Own B 5 w2 v (ints .u8 O) := ⟨hO2.1.kept hr4.2 (by
          rcases hv : v.ownBlock with _ | g
          · exact .inl rfl
          · right
            intro h9
            have := hvb g hv
            have h8 := Option.some.inj h9
            omega), hO2.2⟩
        have hbr4 : Below B w w2 := hbr.grown hr4.2 (by omega) (fun k hk => by cases hk; omega)
        have hsz4 := hbr4.size
        simp only [List.nil_append, List.append_nil] at hrow
        clear hr4 HREV
        go_wp2_with (at_builtin; refine wpList_app slT_u8 _ _ _ rfl rfl rfl rfl hO4 hrow (by have := HLEN.out; rw [ints_length, ints_length]; simp; omega) (by omega) ?_; intro t3 w3 hown3 hg3)
        rw [← ints_append] at hown3
        go_ret
        exact ⟨_, rfl, hown3, below_grown hbr4 hO4 hg3 (by omega)⟩
set_option maxRecDepth 100000 in
theorem putc4_any (big : Bool) (p q : Nat) (w : World) (B : Nat) (v : Value) (O : List Int) (n : Int) (hp : w.cell? ⟨p, 0, none⟩ = some (.int .i64 4)) (hq : w.cell? ⟨q, 0, none⟩ = some (.bool big)) (ho : Own B 5 w v (ints .u8 O)) (hB : B ≤ w.heap.size) (_h0 : 0 ≤ n) (_h1 : n < 4294967296) (hl : O.length ≤ 1000000) :
    Calls Tryz.prog 110 #[v, .int .u32 n, .pointer (some ⟨p, 0, none⟩), .pointer (some ⟨q, 0, none⟩)] w fun e w' => ∃ t, e = .returned t ∧ Own B 5 w' t (ints .u8 (O ++ grp 4 big n)) ∧ Below B w w' := by
  have hmk : ∀ w : World, (Instr.makeSlice 22 (.int .i64 4) (.int .i64 4)).run Tryz.prog w = .ok (.slice (some ⟨w.heap.size, 0, none⟩) 4 4) (w.alloc (.cells #[.int .u8 0, .int .u8 0, .int .u8 0, .int .u8 0] 5)) := fun w => by
    have h9 := run_make_row' (P := Tryz.prog) 22 5 (.int .u8 0) 1 Tryz.underlying22 (by kernel_rfl) rfl .i64 .i64 4 (by omega) (by omega) w
    rw [show madeCells #[Value.int .u8 0] 4 = #[.int .u8 0, .int .u8 0, .int .u8 0, .int .u8 0] from Array.toList_inj.1 (by rw [toList_madeCells_one]; rfl)] at h9
    exact h9
  have hg0 : RevQ w.heap.size w.heap.size 4 4 (w.alloc (.cells #[.int .u8 0, .int .u8 0, .int .u8 0, .int .u8 0] 5)) [0, 0, 0, 0] (w.alloc (.cells #[.int .u8 0, .int .u8 0, .int .u8 0, .int .u8 0] 5)) := ⟨Own.ilit (k := .u8) [0, 0, 0, 0] [_, _, _, _] rfl (Nat.le_refl _) (by simp), ⟨rfl, rfl, rfl, Nat.le_refl _, fun _ _ _ => rfl⟩⟩
  have hbw := below_alloc w (.cells #[.int .u8 0, .int .u8 0, .int .u8 0, .int .u8 0] 5)
  have hpl := World.block_lt_of_cell? w _ hp
  have hql := World.block_lt_of_cell? w _ hq
  have hp1 : (w.alloc (.cells #[.int .u8 0, .int .u8 0, .int .u8 0, .int .u8 0] 5)).cell? ⟨p, 0, none⟩ = some (.int .i64 4) := by rw [← hp]; exact hbw.cell hpl
  have hq1 : (w.alloc (.cells #[.int .u8 0, .int .u8 0, .int .u8 0, .int .u8 0] 5)).cell? ⟨q, 0, none⟩ = some (.bool big) := by rw [← hq]; exact hbw.cell hql
  have ho1 := ho.below hbw
  have hvb := ho.blk
  have HG := Lib.hid hg0; have HP := Lib.hid hp1; have HQ := Lib.hid hq1; have HBW := Lib.hid hbw; have HO := Lib.hid ho1
  clear hg0 hp1 hq1 hbw ho1
  have HLEN : Hid (O.length ≤ 1000000) := hl
  clear hl
  go_enter Tryz.func110, Tryz.ntmps110
  go_wp2_with fail
  have hpl2 : p ≠ w.heap.size := Nat.ne_of_lt hpl
  have hql2 : q ≠ w.heap.size := Nat.ne_of_lt hql
  clear hpl hql hp hq hmk
  generalize hG : w.heap.size = G at *
  generalize w.alloc (.cells #[.int .u8 0, .int .u8 0, .int .u8 0, .int .u8 0] 5) = w1 at *
  go_loopw [13] (fun i wr => ∃ k : Nat, i = .int .i64 k ∧ k ≤ 4 ∧ RevQ G G 4 4 w1 ((([n % 256, n / 256 % 256, n / 65536 % 256, n / 16777216 % 256] : List Int).take k) ++ List.replicate (4 - k) 0) wr) (fun i _ => 4 - (intOf i).toNat)
  case atStart => exact ⟨0, rfl, by omega, HG.out⟩
  case round =>
    obtain ⟨k, rfl, hk, hr⟩ := hrel
    have hR := Lib.hid hr
    by_cases hlt : k < 4
    · have f := fun j => hr.1.frozen j
      clear hr
      rcases (by omega : k = 0 ∨ k = 1 ∨ k = 2 ∨ k = 3) with rfl | rfl | rfl | rfl
      · have hw : IntKind.u8.wrap (n) = n % 256 := by simp only [IntKind.wrap_u8]
        have c := hR.out.cell (j := 0) (x := 0) rfl
        have HS := Lib.hid (hR.out.set 0 (n % 256))
        clear hR
        go_wp2
        go_roundw
        case rel => exact ⟨1, by first | exact iv (by rfl) | go_num, by omega, HS.out⟩
        case measure => simp [intOf]
      · have hw : IntKind.u8.wrap (n / 256) = n / 256 % 256 := by simp only [IntKind.wrap_u8]
        have c := hR.out.cell (j := 1) (x := 0) rfl
        have HS := Lib.hid (hR.out.set 1 (n / 256 % 256))
        clear hR
        go_wp2
        go_roundw
        case rel => exact ⟨2, by first | exact iv (by rfl) | go_num, by omega, HS.out⟩
        case measure => simp [intOf]
      · have hw : IntKind.u8.wrap (n / 65536) = n / 65536 % 256 := by simp only [IntKind.wrap_u8]
        have c := hR.out.cell (j := 2) (x := 0) rfl
        have HS := Lib.hid (hR.out.set 2 (n / 65536 % 256))
        clear hR
        go_wp2
        go_roundw
        case rel => exact ⟨3, by first | exact iv (by rfl) | go_num, by omega, HS.out⟩
        case measure => simp [intOf]
      · have hw : IntKind.u8.wrap (n / 16777216) = n / 16777216 % 256 := by simp only [IntKind.wrap_u8]
        have c := hR.out.cell (j := 3) (x := 0) rfl
        have HS := Lib.hid (hR.out.set 3 (n / 16777216 % 256))
        clear hR
        go_wp2
        go_roundw
        case rel => exact ⟨4, by first | exact iv (by rfl) | go_num, by omega, HS.out⟩
        case measure => simp [intOf]
    · obtain rfl : k = 4 := by omega
      have hr2 : RevQ G G 4 4 w1 [n % 256, n / 256 % 256, n / 65536 % 256, n / 16777216 % 256] wr := hR.out
      have hqr := hr2.2.cell HQ.out (by intro h9; exact hql2 (Option.some.inj h9))
      have hO2 : Own B 5 wr v (ints .u8 O) := ⟨HO.out.1.kept hr2.2 (by
        rcases hv : v.ownBlock with _ | g
        · exact .inl rfl
        · right
          intro h9
          have := hvb g hv
          have h8 := Option.some.inj h9
          omega), HO.out.2⟩
      have hbr : Below B w wr := (HBW.out.mono (by omega)).grown hr2.2 (by have := HBW.out.size; omega) (fun k hk => by cases hk; omega)
      have hsz := hbr.size
      have HR2 := Lib.hid hr2
      clear hR hr hr2
      cases big with
      | false =>
        have hrow := HR2.out.1.row
        go_wp2_with (at_builtin; refine wpList_app slT_u8 _ _ _ rfl rfl rfl rfl hO2 hrow (by have := HLEN.out; rw [ints_length, ints_length]; simp; omega) (by omega) ?_; intro t3 w3 hown3 hg3)
        rw [← ints_append] at hown3
        go_ret
        exact ⟨_, rfl, hown3, below_grown hbr hO2 hg3 (by omega)⟩
      | true =>
        have hrev := rev4_any wr G G 4 4 0 4 [] [] (n % 256) (n / 256 % 256) (n / 65536 % 256) (n / 16777216 % 256) HR2.out.1 rfl
        have HREV := Lib.hid hrev
        clear hrev
        go_wp2_with fail
        refine HREV.out.mono ?_
        rintro e w2 ⟨⟨_, rfl⟩, hr4⟩
        have hrow := hr4.1.row
        have hO4 : Own B 5 w2 v (ints .u8 O) := ⟨hO2.1.kept hr4.2 (by
          rcases hv : v.ownBlock with _ | g
          · exact .inl rfl
          · right
            intro h9
            have := hvb g hv
            have h8 := Option.some.inj h9
            omega), hO2.2⟩
        have hbr4 : Below B w w2 := hbr.grown hr4.2 (by omega) (fun k hk => by cases hk; omega)
        have hsz4 := hbr4.size
        simp only [List.nil_append, List.append_nil] at hrow
        clear hr4 HREV
        go_wp2_with (at_builtin; refine wpList_app slT_u8 _ _ _ rfl rfl rfl rfl hO4 hrow (by have := HLEN.out; rw [ints_length, ints_length]; simp; omega) (by omega) ?_; intro t3 w3 hown3 hg3)
        rw [← ints_append] at hown3
        go_ret
        exact ⟨_, rfl, hown3, below_grown hbr4 hO4 hg3 (by omega)⟩
end Go.Proofs.YtponfaglflmnkaaGreat
namespace Go.Proofs.YtponfaglflmnkaaGreat
open Go.RowKit
set_option maxHeartbeats 1000000
theorem putc_any (wd : Int) (hw : wd = 2 ∨ wd = 4) (big : Bool) (p q : Nat) (w : World) (B : Nat) (v : Value) (O : List Int) (n : Int) (hp : w.cell? ⟨p, 0, none⟩ = some (.int .i64 wd)) (hq : w.cell? ⟨q, 0, none⟩ = some (.bool big)) (ho : Own B 5 w v (ints .u8 O)) (hB : B ≤ w.heap.size) (h0 : 0 ≤ n) (h1 : n < 4294967296) (hl : O.length ≤ 1000000) :
    Calls Tryz.prog 110 #[v, .int .u32 n, .pointer (some ⟨p, 0, none⟩), .pointer (some ⟨q, 0, none⟩)] w fun e w' => ∃ t, e = .returned t ∧ Own B 5 w' t (ints .u8 (O ++ grp wd big n)) ∧ Below B w w' := by
  rcases hw with rfl | rfl
  · exact putc2_any big p q w B v O n hp hq ho hB h0 h1 hl
  · exact putc4_any big p q w B v O n hp hq ho hB h0 h1 hl
set_option maxRecDepth 100000 in
theorem wideLayY_any (wd : Int) (big : Bool) (v : Value) (xs : List Int) (w : World) (hw : wd = 2 ∨ wd = 4) (h : Row w v (ints .i32 xs)) (hg : R32 xs) (hs : allSc xs = true) (hl : xs.length ≤ 10000) :
    Calls Tryz.prog 67 #[.int .i64 wd, .bool big, v] w fun e w' => ∃ t, e = .returned (.tuple #[t, .int .i64 0]) ∧ Own w.heap.size 5 w' t (ints .u8 (wideL wd big xs)) ∧ Below w.heap.size w w' := by
  have hN := fun w' (hb : Below w.heap.size w w') => numbers_any wd v xs w' hw (h.below hb) hs (by omega)
  have hR := fun w' (hb : Below w.heap.size w w') => right_any v xs w' (h.below hb) hg (by omega)
  rw [hs] at hR
  have hwb : (wd == 2 || wd == 4) = true := by rcases hw with rfl | rfl <;> rfl
  have hI := fun w => is_two wd w
  rw [hwb] at hI
  have hnr := (wnum_rng (wd := wd) hs).1
  have hnl := wnum_len wd xs
  have hP := fun p q w' B v O n => putc_any wd hw big p q w' B v O n
  have hPUT := put_any wd big w
  rw [wideL]
  generalize wnum wd xs = L at *
  have HN := Lib.hid hN; have HR := Lib.hid hR; have HI := Lib.hid hI; have HNR := Lib.hid hnr; have HP := Lib.hid hP; have HPUT := Lib.hid hPUT
  have HLL : Hid (L.length ≤ 20000) := by show _ ≤ _; omega
  clear hN hR hI hwb hnr hnl hP hPUT hs
  have hb := Below.refl w.heap.size w
  obtain ⟨a, b, off, cp, rfl, _⟩ := id h.op
  go_enter Tryz.func67, Tryz.ntmps67
  go_wp2_with (first | (go_at_call 90; refine (HI.out _).mono ?_; rintro e w1 ⟨rfl, hw1⟩; obtain rfl := hw1.symm) | (go_at_call 91; refine (HR.out _ hb).mono ?_; rintro e w2 ⟨rfl, hw2⟩; obtain rfl := hw2) | (go_at_call 92; refine (HPUT.out).mono ?_; rintro e w3 ⟨rfl, hcp, hcq, hb3⟩) | (go_at_call 93; refine (HN.out _ hb3).mono ?_; rintro e w4 ⟨t4, rfl, ho4, hb4⟩; have r4 := ho4.row; clear ho4; obtain ⟨a4, b4, o4, c4, rfl, C4⟩ := r4.op))
  have hcp4 : w4.cell? ⟨w.heap.size, 0, none⟩ = some (.int .i64 wd) := by rw [← hcp]; exact hb4.cell (World.block_lt_of_cell? _ _ hcp)
  have hcq4 : w4.cell? ⟨w.heap.size + 1, 0, none⟩ = some (.bool big) := by rw [← hcq]; exact hb4.cell (World.block_lt_of_cell? _ _ hcq)
  have hb34 := below_trans hb3 hb4
  clear hcp hcq r4
  go_loopw [8, 27] (fun u i wr => ∃ k : Nat, i = .int .i64 k ∧ k ≤ L.length ∧ Own w4.heap.size 5 wr u (ints .u8 ((L.take k).flatMap (grp wd big))) ∧ Below w4.heap.size w4 wr) (fun _ i _ => L.length - (intOf i).toNat)
  case atStart => exact ⟨0, rfl, Nat.zero_le _, Own.nil _ _ _, Below.refl _ _⟩
  case round =>
    obtain ⟨k, rfl, hk, hown, hbr⟩ := hrel
    have hll := HLL.out
    by_cases hlt : k < L.length
    · obtain ⟨n, HX, rfl, hc⟩ := C4.out k hlt
      replace hc := hc _ hbr
      have hnr := HNR.out n (List.mem_of_getElem? HX.out)
      have hcp5 : wr.cell? ⟨w.heap.size, 0, none⟩ = some (.int .i64 wd) := by rw [← hcp4]; exact hbr.cell (World.block_lt_of_cell? _ _ hcp4)
      have hcq5 : wr.cell? ⟨w.heap.size + 1, 0, none⟩ = some (.bool big) := by rw [← hcq4]; exact hbr.cell (World.block_lt_of_cell? _ _ hcq4)
      have hfl := flat_len (grp wd big) (grp_len wd big) (L.take k)
      rw [List.length_take] at hfl
      have hcall := HP.out w.heap.size (w.heap.size + 1) wr w4.heap.size _ _ n hcp5 hcq5 hown hbr.size hnr.1 hnr.2 (by omega)
      have hsn := flat_snoc (f := grp wd big) HX.out
      rw [← hsn] at hcall
      have HC := Lib.hid hcall
      clear hcp5 hcq5 hfl hcall hsn hnr
      go_wp2_with (go_at_call 110; refine (HC.out).mono ?_; rintro e w5 ⟨t5, rfl, ho5, hb5⟩)
      go_roundw
      case rel => exact ⟨k + 1, by go_num, by omega, ho5, hbr.trans hb5⟩
      case measure => simp [intOf]; omega
    · obtain rfl : k = L.length := by omega
      rw [List.take_length] at hown
      have HO := Lib.hid (hown.mono hb34.size)
      have HB := Lib.hid (below_trans hb34 hbr)
      clear hown
      go_wp2
      go_ret2
      exact ⟨_, ret2 rfl rfl, HO.out, HB.out⟩
def wideE (wd : Int) (xs : List Int) : Int := if wd = 2 ∨ wd = 4 then (if allSc xs then 0 else 7) else 1
def wideO (wd : Int) (big : Bool) (xs : List Int) : List Int := if wd = 2 ∨ wd = 4 then (if allSc xs then wideL wd big xs else []) else []
set_option maxRecDepth 100000 in
theorem wideLay_any (wd : Int) (big : Bool) (v : Value) (xs : List Int) (w : World) (h : Row w v (ints .i32 xs)) (hg : R32 xs) (hl : xs.length ≤ 10000) :
    Calls Tryz.prog 67 #[.int .i64 wd, .bool big, v] w fun e w' => ∃ t, e = .returned (.tuple #[t, .int .i64 (wideE wd xs)]) ∧ Own w.heap.size 5 w' t (ints .u8 (wideO wd big xs)) ∧ Below w.heap.size w w' := by
  have hb := Below.refl w.heap.size w
  rcases Decidable.em (wd = 2 ∨ wd = 4) with hw | hw
  · cases hs : allSc xs with
    | true =>
      rw [wideE, wideO, if_pos hw, if_pos hw, hs, if_pos rfl, if_pos rfl]
      exact wideLayY_any wd big v xs w hw h hg hs hl
    | false =>
      rw [wideE, wideO, if_pos hw, if_pos hw, hs]
      have hR := right_any v xs w h hg (by omega)
      rw [hs] at hR
      have hwb : (wd == 2 || wd == 4) = true := by rcases hw with rfl | rfl <;> rfl
      have hI := fun w => is_two wd w
      rw [hwb] at hI
      have HR := Lib.hid hR; have HI := Lib.hid hI
      clear hR hI hwb hw hs
      go_enter Tryz.func67, Tryz.ntmps67
      go_wp2_with (first | (go_at_call 90; refine (HI.out _).mono ?_; rintro e w1 ⟨rfl, hw1⟩; obtain rfl := hw1.symm) | (go_at_call 91; refine (HR.out).mono ?_; rintro e w2 ⟨rfl, hw2⟩; obtain rfl := hw2))
      go_ret2
      exact ⟨_, ret2 rfl rfl, Own.nil _ _ _, hb⟩
  · rw [wideE, wideO, if_neg hw, if_neg hw]
    have hwb : (wd == 2 || wd == 4) = false := by
      rw [beq_false_of_ne (by omega), beq_false_of_ne (by omega)]; rfl
    have hI := fun w => is_two wd w
    rw [hwb] at hI
    have HI := Lib.hid hI
    clear hI hwb hw
    go_enter Tryz.func67, Tryz.ntmps67
    go_wp2_with (first | (go_at_call 90; refine (HI.out _).mono ?_; rintro e w1 ⟨rfl, hw1⟩; obtain rfl := hw1.symm))
    go_ret2
    exact ⟨_, ret2 rfl rfl, Own.nil _ _ _, hb⟩
end Go.Proofs.YtponfaglflmnkaaGreat
