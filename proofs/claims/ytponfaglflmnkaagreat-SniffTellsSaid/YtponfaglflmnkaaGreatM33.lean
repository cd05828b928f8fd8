/- Walks: what the probe of the guesses asks: costs, and lines of seven bits. (laid together by program out of single texts). -/
import Derived.Lib.BytesEntry
import Derived.Test.YtponfaglflmnkaaGreatM8
import Derived.Test.YtponfaglflmnkaaGreatM21
import Derived.Test.YtponfaglflmnkaaGreatM29
namespace Go.Proofs.YtponfaglflmnkaaGreat
open Go.RowKit
set_option maxHeartbeats 4000000
set_option maxRecDepth 100000
theorem slT_bs : SlT Tryz.prog 80 22 := SlT.mk (z := .slice none 0 0) (bytes := 24) (by kernel_rfl) (by kernel_rfl) (by omega) rfl
theorem cell_keep {w w' : World} {a : Addr} {v : Value} (h : w.cell? a = some v) (hb : Below w.heap.size w w') : w'.cell? a = some v := by
  rw [← h]; exact hb.cell (World.block_lt_of_cell? w _ h)
theorem run_idxRow {v : Value} {x : Int} {w : World} (h : Row w v (ints .u8 [x])) (c : Int) :
    (Extern.BytealgIndexByte.indexByte #[v, .int .u8 c]).run Tryz.prog w = .ok (.int .i64 (Lib.indexByte (Lib.bytesOf [x]) c.toNat.toUInt8)) w := by
  obtain ⟨b, off, cap, rfl, HC⟩ := one_cell8 h
  refine Lib.run_indexByteSlice w b off 1 cap [x] rfl (fun i hi => ?_) c
  obtain rfl : i = 0 := by omega
  exact HC.out w (Below.refl _ _)
theorem bidx97_any (v : Value) (w : World) (h : Row w v (ints .u8 [97])) :
    Calls Tryz.prog 38 #[v, .int .u8 0] w fun e w' => e = .returned (.int .i64 (-1)) ∧ w' = w := by
  have hr := run_idxRow h 0
  have he : Lib.indexByte (Lib.bytesOf [97]) (0 : Int).toNat.toUInt8 = -1 := by decide
  rw [he] at hr
  clear h he
  go_enter Tryz.func38, Tryz.ntmps38
  go_wp2
  rw [run_callFunc_extern Tryz.func63 (by kernel_rfl) (by kernel_rfl) (by kernel_rfl) (e := Extern.BytealgIndexByte.indexByte) (by kernel_rfl), hr]
  simp only [Result.andThen]
  rw [Oper.upon_value]
  go_wp2
  go_ret
  exact ⟨rfl, rfl⟩
theorem bindexS_any (v v2 : Value) (x y z : Int) (w : World) (h : Row w v (ints .u8 [x])) (h2 : Row w v2 (ints .u8 [y, z])) :
    Calls Tryz.prog 59 #[v, v2] w fun e w' => e = .returned (.int .i64 (-1)) ∧ w' = w := by
  obtain ⟨a1, c1, rfl⟩ := h.formN0 (n := 1) rfl
  obtain ⟨a2, c2, rfl⟩ := h2.formN0 (n := 2) rfl
  clear h h2
  go_enter Tryz.func59, Tryz.ntmps59
  go_wp2
  go_ret
  exact ⟨rfl, rfl⟩
theorem bcountS_any (v v2 : Value) (x y z : Int) (w : World) (h : Row w v (ints .u8 [x])) (h2 : Row w v2 (ints .u8 [y, z])) :
    Calls Tryz.prog 33 #[v, v2] w fun e w' => e = .returned (.int .i64 0) ∧ w' = w := by
  have hI := bindexS_any v v2 x y z w h h2
  obtain ⟨a1, c1, rfl⟩ := h.formN0 (n := 1) rfl
  obtain ⟨a2, c2, rfl⟩ := h2.formN0 (n := 2) rfl
  have HI := Lib.hid hI
  clear h h2 hI
  go_enter Tryz.func33, Tryz.ntmps33
  go_wp2
  go_loopw [0, 5] (fun s n wr => s = .slice a1 1 c1 ∧ n = .int .i64 0 ∧ wr = w) (fun _ _ _ => 0)
  case atStart => exact ⟨rfl, rfl, rfl⟩
  case round =>
    obtain ⟨rfl, rfl, hw⟩ := hrel
    obtain rfl := hw.symm
    go_wp2_with (go_at_call 59; refine (HI.out).mono ?_; rintro e w' ⟨rfl, hw⟩; obtain rfl := hw.symm)
    go_ret
    exact ⟨rfl, rfl⟩
theorem bcut_any (v v2 : Value) (x y z : Int) (w : World) (h : Row w v (ints .u8 [x])) (h2 : Row w v2 (ints .u8 [y, z])) :
    Calls Tryz.prog 107 #[v, v2] w fun e w' => e = .returned (.tuple #[v, .slice none 0 0, .bool false]) ∧ w' = w := by
  have hI := bindexS_any v v2 x y z w h h2
  have HI := Lib.hid hI
  clear h h2 hI
  go_enter Tryz.func107, Tryz.ntmps107
  go_wp2_with (go_at_call 59; refine (HI.out).mono ?_; rintro e w' ⟨rfl, hw⟩; obtain rfl := hw.symm)
  go_ret3
  exact ⟨rfl, rfl⟩
theorem lSeven1_any (c : Int) (w : World) (h : c < 128) :
    Calls Tryz.prog 64 #[.int .u8 c] w fun e w' => e = .returned (.bool false) ∧ w' = w := by
  go_enter Tryz.func64, Tryz.ntmps64
  go_wp2
  go_ret
  exact ⟨ret_bool (decide_eq_false (by omega)), rfl⟩
theorem lBare1_any (c : Int) (b : Nat) (v : Value) (w : World) (hc : w.cell? ⟨b, 0, none⟩ = some v) (h : Row w v (ints .u8 [97])) (h0 : 0 ≤ c) (h1 : c < 97) :
    Calls Tryz.prog 88 #[.int .u8 c, .pointer (some ⟨b, 0, none⟩)] w fun e w' => e = .returned (.int .i64 0) ∧ Below w.heap.size w w' := by
  have hB := fun v2 w' h' h2 => bcount_any v v2 [97] c w' h' h2 (by intro y hy; simp at hy; omega) h0 (by omega)
  have hn : ([97] : List Int).count c = 0 := List.count_eq_zero.2 (by simp; omega)
  rw [hn] at hB
  have HB := Lib.hid hB
  clear hB hn
  go_enter Tryz.func88, Tryz.ntmps88
  go_wp2_with (go_at_call 33; refine (HB.out _ _ (h.alloc _) (by first | exact Row.ilit [_] [_] rfl (by simp) | exact Row.flit [_] [_] rfl (by simp))).mono ?_; rintro e w' ⟨rfl, hw⟩; obtain rfl := hw.symm)
  go_ret
  exact ⟨rfl, below_alloc _ _⟩
theorem lBare_any (v : Value) (w : World) (h : Row w v (ints .u8 [97])) :
    Calls Tryz.prog 65 #[v] w fun e w' => e = .returned (.int .i64 0) ∧ Below w.heap.size w w' := by
  have kc := fun (w : World) (C : Array Value) (n c : Nat) => Lib.run_convert_bytes_const (P := Tryz.prog) w 22 5 C n c Tryz.underlying22 Tryz.underlying5
  have hmf : ∀ (fn : Fn) (first cap : Array Value) (w : World), (Instr.makeFunc fn first cap).run Tryz.prog w = .ok (.func fn first cap) w := fun _ _ _ _ => rfl
  have kc1 : ∀ (w : World) (o : Obj) (C : Array Value) (n c : Nat), (convert 22 22 (.slice (some ⟨w.heap.size + 1, 0, none⟩) n c)).run Tryz.prog ((w.alloc o).alloc (.cells C 5)) = .ok (.slice (some ⟨w.heap.size + 1, 0, none⟩) n c) ((w.alloc o).alloc (.cells C 5 (C.size, C.size + 1))) := fun w o C n c => by
    have := kc (w.alloc o) C n c
    have e : (w.alloc o).heap.size = w.heap.size + 1 := by simp
    rw [e] at this
    exact this
  have kl : ∀ (w : World) (o : Obj), Row ((w.alloc o).alloc (.cells #[.int .u8 13, .int .u8 10] 5 (2, 3))) (.slice (some ⟨w.heap.size + 1, 0, none⟩) 2 2) (ints .u8 [13, 10]) := fun w o => by
    have : Row ((w.alloc o).alloc (.cells #[.int .u8 13, .int .u8 10] 5 (2, 3))) (.slice (some ⟨(w.alloc o).heap.size, 0, none⟩) 2 2) (ints .u8 [13, 10]) := Row.flit [13, 10] [_, _] rfl (by simp)
    have e : (w.alloc o).heap.size = w.heap.size + 1 := by simp
    rw [e] at this
    exact this
  have hb := Below.refl w.heap.size w
  obtain ⟨a1, c1, rfl⟩ := (id h).formN0 (n := 1) rfl
  have hcell := cell_keep (cell_of_one (heap_alloc_new w (.cells #[.slice a1 1 c1] 22))) (below_alloc (w.alloc (.cells #[.slice a1 1 c1] 22)) (.cells #[.int .u8 13, .int .u8 10] 5 (2, 3)))
  have hrow := (h.alloc (.cells #[.slice a1 1 c1] 22)).alloc (.cells #[.int .u8 13, .int .u8 10] 5 (2, 3))
  have hbb := (hb.alloc hb.size (.cells #[.slice a1 1 c1] 22)).alloc (hb.alloc hb.size (.cells #[.slice a1 1 c1] 22)).size (.cells #[.int .u8 13, .int .u8 10] 5 (2, 3))
  have HCELL := Lib.hid hcell; have HROW := Lib.hid hrow; have HBB := Lib.hid hbb
  clear hcell hrow hbb
  go_enter Tryz.func65, Tryz.ntmps65
  go_wp2_with (first | (go_at_call 33; refine (bcountS_any _ _ _ _ _ _ HROW.out (kl _ _)).mono ?_; rintro e w' ⟨rfl, hw⟩; obtain rfl := hw.symm))
  refine (lBare1_any 13 _ _ _ HCELL.out HROW.out (by omega) (by omega)).mono ?_
  rintro e w1 ⟨rfl, hb1⟩
  go_wp2_with fail
  refine (lBare1_any 10 _ _ _ (cell_keep HCELL.out hb1) (HROW.out.below hb1) (by omega) (by omega)).mono ?_
  rintro e w2 ⟨rfl, hb2⟩
  go_wp2
  go_ret
  exact ⟨rfl, below_trans (below_trans HBB.out hb1) hb2⟩
/-- The slice reads as one slice of one octet. -/
def OneL (w : World) (v : Value) : Prop := ∃ a c, Row w v [.slice a 1 c]
theorem lSplit_any (v : Value) (w : World) (h : Row w v (ints .u8 [97])) :
    Calls Tryz.prog 89 #[v] w fun e w' => ∃ t, e = .returned t ∧ OneL w' t ∧ Below w.heap.size w w' := by
  have kc := fun (w : World) (C : Array Value) (n c : Nat) => Lib.run_convert_bytes_const (P := Tryz.prog) w 22 5 C n c Tryz.underlying22 Tryz.underlying5
  have hb := Below.refl w.heap.size w
  obtain ⟨a1, c1, rfl⟩ := (id h).formN0 (n := 1) rfl
  go_enter Tryz.func89, Tryz.ntmps89
  go_wp2
  go_loopw [0, 3] (fun s o wr => (s = .slice a1 1 c1 ∧ o = .slice none 0 0 ∧ wr = w) ∨ (s = .slice none 0 0 ∧ Hid (OneL wr o) ∧ Below w.heap.size w wr)) (fun s _ _ => lenOf s)
  case atStart => exact .inl ⟨rfl, rfl, rfl⟩
  case round =>
    rcases hrel with ⟨rfl, rfl, hw⟩ | ⟨rfl, HO, hbw⟩
    · obtain rfl := hw.symm
      go_wp2_with (first | (go_at_call 107; refine (bcut_any _ _ _ _ _ _ (h.alloc _) (by first | exact Row.flit [_, _] [_, _] rfl (by simp) | exact Row.ilit [_, _] [_, _] rfl (by simp))).mono ?_; rintro e w' ⟨rfl, hw⟩; obtain rfl := hw.symm) | (go_at_call 108; refine (oclone_any _ _ _ (h.alloc _) (by simp)).mono ?_; rintro e w2 ⟨t2, rfl, ho2, hb2⟩; obtain ⟨a2, c2, rfl⟩ := ho2.row.formN0 (n := 1) rfl) | (at_builtin; refine wpList_app slT_bs _ _ _ rfl rfl rfl rfl (Own.nil w.heap.size _ _) (Row.lit [_] (by intro u hu; simp at hu; subst hu; rfl) (by simp)) (by simp) (by have := hb2.size; simp at this ⊢; omega) ?_; intro t4 w4 hown4 hg4))
      go_roundw
      case rel => exact .inr ⟨rfl, ⟨a2, c2, hown4.row⟩, below_app (below_alloc _ _) (hb2.alloc hb2.size _) (Own.nil _ 22 _) hg4⟩
      case measure => simp [lenOf]
    · go_wp2
      go_ret
      obtain ⟨a, c, hr⟩ := HO.out
      exact ⟨_, rfl, ⟨a, c, hr⟩, hbw⟩
theorem lLongest_any (v : Value) (w : World) (h : Row w v (ints .u8 [97])) :
    Calls Tryz.prog 66 #[v] w fun e w' => e = .returned (.int .i64 1) ∧ Below w.heap.size w w' := by
  have hS := lSplit_any v w h
  have HS := Lib.hid hS
  clear hS
  go_enter Tryz.func66, Tryz.ntmps66
  go_wp2_with (go_at_call 89; refine (HS.out).mono ?_; rintro e w1 ⟨t1, rfl, ⟨a, c, r1⟩, hb1⟩; obtain ⟨a2, b2, off2, cap2, hv2, hc2, hm2, ha2, _, hcell2⟩ := r1; replace hcell2 := hcell2 0 _ rfl; obtain rfl := hv2; obtain rfl : a2 = some ⟨b2, off2, none⟩ := (by rcases ha2 with h9 | ⟨h9, _⟩; exact h9; cases h9); simp only [Nat.add_zero] at hcell2)
  go_loopw [3, 9] (fun n i wr => ((n = .int .i64 0 ∧ i = .int .i64 0) ∨ (n = .int .i64 1 ∧ i = .int .i64 1)) ∧ wr = w1) (fun _ i _ => 1 - (intOf i).toNat)
  case atStart => exact ⟨.inl ⟨rfl, rfl⟩, rfl⟩
  case round =>
    obtain ⟨hk, hw⟩ := hrel
    obtain rfl := hw.symm
    rcases hk with ⟨rfl, rfl⟩ | ⟨rfl, rfl⟩
    · go_wp2
      go_roundw
      case rel => exact ⟨.inr ⟨by go_num, by go_num⟩, by first | rfl | trivial⟩
      case measure => simp [intOf]
    · go_wp2
      go_ret
      exact ⟨rfl, hb1⟩
theorem lSeven_any (v : Value) (w : World) (h : Row w v (ints .u8 [97])) :
    Calls Tryz.prog 40 #[v, .int .i64 76] w fun e w' => e = .returned (.int .i64 0) ∧ Below w.heap.size w w' := by
  obtain ⟨b, off, c1, rfl, HC⟩ := one_cell8 h
  have hc := HC.out w (Below.refl _ _)
  go_enter Tryz.func40, Tryz.ntmps40
  go_wp2
  go_loopw [6, 11] (fun q i wr => q = .bool false ∧ (i = .int .i64 0 ∨ i = .int .i64 1) ∧ wr = w) (fun _ i _ => 1 - (intOf i).toNat)
  case atStart => exact ⟨rfl, .inl rfl, rfl⟩
  case round =>
    obtain ⟨rfl, hk, hw⟩ := hrel
    obtain rfl := hw.symm
    rcases hk with rfl | rfl
    · go_wp2_with (first | (go_at_call 64; refine (lSeven1_any _ _ (by omega)).mono ?_; rintro e w' ⟨rfl, hw⟩; obtain rfl := hw.symm))
      go_roundw
      case rel => exact ⟨rfl, .inr (by go_num), by first | rfl | trivial⟩
      case measure => simp [intOf]
    · go_wp2_with (first | (go_at_call 65; refine (lBare_any _ _ h).mono ?_; rintro e w1 ⟨rfl, hb1⟩) | (go_at_call 38; refine (bidx97_any _ _ (h.below hb1)).mono ?_; rintro e w' ⟨rfl, hw⟩; obtain rfl := hw.symm) | (go_at_call 66; refine (lLongest_any _ _ (h.below hb1)).mono ?_; rintro e w2 ⟨rfl, hb2⟩))
      go_ret
      exact ⟨rfl, below_trans hb1 hb2⟩
theorem sCoding_any (v : Value) (w : World) (h : Row w v (ints .u8 [97])) :
    Calls Tryz.prog 18 #[v] w fun e w' => e = .returned (.int .i64 1) ∧ Below w.heap.size w w' := by
  go_enter Tryz.func18, Tryz.ntmps18
  go_wp2_with (go_at_call 40; refine (lSeven_any _ _ h).mono ?_; rintro e w1 ⟨rfl, hb1⟩)
  go_ret
  exact ⟨rfl, hb1⟩
theorem is6_any (w : World) :
    Calls Tryz.prog 37 #[.int .u8 97, .int .i64 6] w fun e w' => e = .returned (.bool true) ∧ w' = w := by
  have hk := okinds_any 97 w (by omega) (by omega)
  have hn : kindN 97 = 980 := by decide
  rw [hn] at hk
  have HK := Lib.hid hk; clear hk hn
  go_enter Tryz.func37, Tryz.ntmps37
  go_wp2_with (go_at_call 62; refine (HK.out).mono ?_; rintro e w' ⟨rfl, hw⟩; obtain rfl := hw.symm)
  go_ret
  exact ⟨rfl, rfl⟩
theorem sCost_any (v : Value) (w : World) (h : Row w v (ints .u8 [97, 61])) :
    Calls Tryz.prog 17 #[v] w fun e w' => e = .returned (.tuple #[.int .i64 4, .int .i64 4]) ∧ w' = w := by
  obtain ⟨a, b, off, cap, rfl, HC⟩ := h.op
  obtain ⟨x0, hx0, rfl, hc0⟩ := HC.out 0 (by simp)
  obtain ⟨x1, hx1, _, hc1⟩ := HC.out 1 (by simp)
  obtain rfl : 97 = x0 := Option.some.inj hx0.out
  obtain rfl : 61 = x1 := Option.some.inj hx1.out
  replace hc0 := hc0 w (Below.refl _ _)
  replace hc1 := hc1 w (Below.refl _ _)
  simp only [Nat.add_zero] at hc0
  clear HC hx0 hx1 h
  go_enter Tryz.func17, Tryz.ntmps17
  go_wp2
  go_loopw [4, 9] (fun n i wr => ((n = .int .i64 0 ∧ i = .int .i64 0) ∨ (n = .int .i64 1 ∧ i = .int .i64 1) ∨ (n = .int .i64 4 ∧ i = .int .i64 2)) ∧ wr = w) (fun _ i _ => 2 - (intOf i).toNat)
  case atStart => exact ⟨.inl ⟨rfl, rfl⟩, rfl⟩
  case round =>
    obtain ⟨hk, hw⟩ := hrel
    obtain rfl := hw.symm
    rcases hk with ⟨rfl, rfl⟩ | ⟨rfl, rfl⟩ | ⟨rfl, rfl⟩
    · go_wp2_with (go_at_call 37; refine (is6_any _).mono ?_; rintro e w' ⟨rfl, hw⟩; obtain rfl := hw.symm)
      go_roundw
      case rel => exact ⟨.inr (.inl ⟨by go_num, by go_num⟩), by first | rfl | trivial⟩
      case measure => simp [intOf]
    · go_wp2
      go_roundw
      case rel => exact ⟨.inr (.inr ⟨by go_num, by go_num⟩), by first | rfl | trivial⟩
      case measure => simp [intOf]
    · go_wp2_with go_in
      go_ret2
      exact ⟨rfl, rfl⟩
end Go.Proofs.YtponfaglflmnkaaGreat
