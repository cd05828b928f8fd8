/- Walks: an attribute's name laid. · Walks: an attribute's name laid, by the reference. (laid together by program out of single texts). -/
import Derived.Deep.RegionHeld3
import Derived.Lib.ItoaLen
import Derived.Test.YtoliaphiipkopaaDoorM20
import Derived.Test.YtoliaphiipkopaaDoorM21
import Derived.Test.YtoliaphiipkopaaDoorM22
namespace Go.Proofs.YtoliaphiipkopaaDoor
open Go.RowKit
set_option maxHeartbeats 4000000
set_option maxRecDepth 100000
/-- The powers of ten as they are laid. -/
def Tz (w : World) : Prop := Lib.TabIs Tryd.prog w "internal/strconv.uint64pow10" .u64 Lib.pow10Tab
theorem Tz.below {w w' : World} (h : Tz w) (hb : Below w.heap.size w w') : Tz w' := Lib.tabBelow_of_tabIs h _ hb
theorem itoa_cells {n : Int} (h : 0 ≤ n) : Lib.byteCells (Lib.itoa n) = ints .u8 (dgs n.toNat) ∧ (Lib.itoa n).length = (ints .u8 (dgs n.toNat)).length := by
  have e : Lib.itoa n = Lib.decDigits n.toNat := by unfold Lib.itoa; rw [if_neg (by omega)]
  have e2 := dec_bytes n.toNat
  rw [e]
  exact ⟨e2, by rw [← e2, List.length_map]⟩
theorem namM_0 {nm : List Int} {n : Int} (h : n < 0) : namM nm n false = nm := by rw [namM, if_neg (by omega)]; simp
theorem namM_1 {nm : List Int} {n : Int} (h : n < 0) : namM nm n true = nm ++ [42] := by rw [namM, if_neg (by omega)]; simp
theorem namM_2 {nm : List Int} {n : Int} (h : 0 ≤ n) : namM nm n false = nm ++ [42] ++ dgs n.toNat := by rw [namM, if_pos h]; simp
theorem namM_3 {nm : List Int} {n : Int} (h : 0 ≤ n) : namM nm n true = nm ++ [42] ++ dgs n.toNat ++ [42] := by rw [namM, if_pos h]; simp
theorem dgs_len {n : Int} (h0 : 0 ≤ n) (h1 : n ≤ 9223372036854775807) : (dgs n.toNat).length ≤ 21 := by
  have e : Lib.itoa n = Lib.decDigits n.toNat := by unfold Lib.itoa; rw [if_neg (by omega)]
  have := Lib.itoa_length_le n (by omega) h1
  rw [e] at this
  rw [← dgs_dec, List.length_map]; exact this
theorem pname_any (a b : Value) (nm : List Int) (n : Int) (x : Bool) (w : World) (hT : Tz w) (ha : Row w a (ints .u8 nm)) (hl : nm.length ≤ 200) (h0 : -9223372036854775808 ≤ n) (h1 : n ≤ 9223372036854775807) :
    Calls Tryd.prog 7 #[.agg #[a, .int .i64 n, .bool x, b]] w fun e w' => ∃ t, e = .returned t ∧ Own w.heap.size 5 w' t (ints .u8 (namM nm n x)) ∧ Below w.heap.size w w' := by
  have hB := below_alloc w (.cells #[a, .int .i64 n, .bool x, b] 28)
  obtain ⟨c0, c1, c2, _⟩ := cell_new4 w a (.int .i64 n) (.bool x) b 28
  have hPl : w.heap.size < (w.alloc (.cells #[a, .int .i64 n, .bool x, b] 28)).heap.size := by simp
  have ha2 := ha.below hB
  have hC := bclone_any a nm _ ha2 (by omega)
  have hT2 : Lib.TabBelow Tryd.prog (w.alloc (.cells #[a, .int .i64 n, .bool x, b] 28)).heap.size (w.alloc (.cells #[a, .int .i64 n, .bool x, b] 28)) "internal/strconv.uint64pow10" .u64 Lib.pow10Tab := Lib.tabBelow_of_tabIs (hT.below hB)
  have HC := Lib.hid hC; have HT := Lib.hid hT2
  have HK : Hid (∀ w', Below (w.alloc (.cells #[a, .int .i64 n, .bool x, b] 28)).heap.size (w.alloc (.cells #[a, .int .i64 n, .bool x, b] 28)) w' → w'.cell? ⟨w.heap.size, 1, none⟩ = some (.int .i64 n) ∧ w'.cell? ⟨w.heap.size, 2, none⟩ = some (.bool x)) := fun w' hb' => ⟨(hb'.cell (p := ⟨w.heap.size, 1, none⟩) hPl).trans c1, (hb'.cell (p := ⟨w.heap.size, 2, none⟩) hPl).trans c2⟩
  have HB := Lib.hid hB
  clear hC hT2 hPl hB c1 c2 hT
  by_cases hn : n < 0
  · have hn0 : ¬ 0 ≤ n := by omega
    rcases x with _ | _
    · rw [namM_0 hn]
      go_enter Tryd.func7, Tryd.ntmps7
      (go_wp2_with fail; generalize w.alloc (.cells #[a, .int .i64 n, .bool false, b] 28) = w2 at *; refine HC.out.mono ?_; rintro e w3 ⟨t3, rfl, ho3, hb3⟩; obtain ⟨k1, k2⟩ := HK.out w3 hb3)
      go_wp2
      go_ret
      exact ⟨_, rfl, ho3.mono HB.out.size, below_trans HB.out hb3⟩
    · rw [namM_1 hn, ints_append]
      go_enter Tryd.func7, Tryd.ntmps7
      (go_wp2_with fail; generalize w.alloc (.cells #[a, .int .i64 n, .bool true, b] 28) = w2 at *; refine HC.out.mono ?_; rintro e w3 ⟨t3, rfl, ho3, hb3⟩; obtain ⟨k1, k2⟩ := HK.out w3 hb3)
      go_wp2_with (at_builtin; refine wpList_app slT_u8 w2.heap.size _ _ rfl rfl rfl rfl (ho3.alloc _) (Row.ilit [42] [_] rfl (by simp)) (by simp only [ints_length, List.length_cons, List.length_nil]; omega) (by have := hb3.size; simp; omega) ?_; intro t6 w6 ho6 hg6; have hb6 : Below w2.heap.size w2 w6 := below_own (hb3.alloc hb3.size _) (ho3.alloc _) hg6 (by have := hb3.size; simp; omega) (Nat.le_refl _))
      go_ret
      exact ⟨_, rfl, ho6.mono HB.out.size, below_trans HB.out hb6⟩
  · have hn0 : 0 ≤ n := by omega
    have hdl := dgs_len hn0 h1
    have hi := itoa_cells hn0
    have HI1 := Lib.hid hi.1; have HI2 := Lib.hid hi.2
    clear hi
    rcases x with _ | _
    · rw [namM_2 hn0, ints_append, ints_append]
      go_enter Tryd.func7, Tryd.ntmps7
      (go_wp2_with fail; generalize w.alloc (.cells #[a, .int .i64 n, .bool false, b] 28) = w2 at *; refine HC.out.mono ?_; rintro e w3 ⟨t3, rfl, ho3, hb3⟩; obtain ⟨k1, k2⟩ := HK.out w3 hb3)
      go_wp2_with fail
      go_region_held3 (fun w' => w'.cell? ⟨w.heap.size, 1, none⟩ = some (.int .i64 n)) (first | exact (HK.out _ hb3.drew).1 | exact (HK.out _ hb3).1 | exact (HK.out _ (hb3.alloc hb3.size _).drew).1 | exact (HK.out _ (hb3.alloc hb3.size _)).1 | exact (HK.out _ hb5).1 | exact (HK.out _ hb4).1 | go_keep) (first | ((go_at_call 21; refine (appendInt10 w2.heap.size _ n h0 h1 t4 _ w4 ho4.1 hb4.size (by simp only [List.length_append, ints_length, List.length_cons, List.length_nil]; omega) (HT.out.on hb4)).mono ?_; rintro e w5 ⟨t5, rfl, ho5', hb5', _⟩; have hb5 : Below w2.heap.size w2 w5 := hb4.trans hb5')) | (refine step_app slT_u8 w2.heap.size _ _ (by rfl) (by rfl) (by rfl) (by rfl) ((ho3.alloc _).drew) ((Row.ilit (E := 5) (k := .u8) [42] [.int .u8 42] rfl (by simp)).drew) (by simp only [ints_length, List.length_cons, List.length_nil]; omega) (by have := hb3.size; simp; omega) ?_; intro t4 w4 ho4 hg4; have hb4 : Below w2.heap.size w2 w4 := below_own ((hb3.alloc hb3.size _).drew) ((ho3.alloc _).drew) hg4 (by have := hb3.size; simp; omega) (Nat.le_refl _)))
      all_goals
        have ho5 : Own w2.heap.size 5 w5 t5 (ints .u8 nm ++ ints .u8 [42] ++ ints .u8 (dgs n.toNat)) := by rw [HI1.out, HI2.out] at ho5'; exact own_apnd ho5' ho4.2 (ints_one _ _)
        obtain ⟨m1, m2⟩ := HK.out w5 hb5
        go_wp2
        go_ret
        exact ⟨_, rfl, ho5.mono HB.out.size, below_trans HB.out hb5⟩
    · rw [namM_3 hn0, ints_append, ints_append, ints_append]
      go_enter Tryd.func7, Tryd.ntmps7
      (go_wp2_with fail; generalize w.alloc (.cells #[a, .int .i64 n, .bool true, b] 28) = w2 at *; refine HC.out.mono ?_; rintro e w3 ⟨t3, rfl, ho3, hb3⟩; obtain ⟨k1, k2⟩ := HK.out w3 hb3)
      go_wp2_with fail
      go_region_held3 (fun w' => w'.cell? ⟨w.heap.size, 1, none⟩ = some (.int .i64 n)) (first | exact (HK.out _ hb3.drew).1 | exact (HK.out _ hb3).1 | exact (HK.out _ (hb3.alloc hb3.size _).drew).1 | exact (HK.out _ (hb3.alloc hb3.size _)).1 | exact (HK.out _ hb5).1 | exact (HK.out _ hb4).1 | go_keep) (first | ((go_at_call 21; refine (appendInt10 w2.heap.size _ n h0 h1 t4 _ w4 ho4.1 hb4.size (by simp only [List.length_append, ints_length, List.length_cons, List.length_nil]; omega) (HT.out.on hb4)).mono ?_; rintro e w5 ⟨t5, rfl, ho5', hb5', _⟩; have hb5 : Below w2.heap.size w2 w5 := hb4.trans hb5')) | (refine step_app slT_u8 w2.heap.size _ _ (by rfl) (by rfl) (by rfl) (by rfl) ((ho3.alloc _).drew) ((Row.ilit (E := 5) (k := .u8) [42] [.int .u8 42] rfl (by simp)).drew) (by simp only [ints_length, List.length_cons, List.length_nil]; omega) (by have := hb3.size; simp; omega) ?_; intro t4 w4 ho4 hg4; have hb4 : Below w2.heap.size w2 w4 := below_own ((hb3.alloc hb3.size _).drew) ((ho3.alloc _).drew) hg4 (by have := hb3.size; simp; omega) (Nat.le_refl _)))
      all_goals
        have ho5 : Own w2.heap.size 5 w5 t5 (ints .u8 nm ++ ints .u8 [42] ++ ints .u8 (dgs n.toNat)) := by rw [HI1.out, HI2.out] at ho5'; exact own_apnd ho5' ho4.2 (ints_one _ _)
        obtain ⟨m1, m2⟩ := HK.out w5 hb5
        go_wp2_with (at_builtin; refine wpList_app slT_u8 w2.heap.size _ _ rfl rfl rfl rfl (ho5.alloc _) (Row.ilit [42] [_] rfl (by simp)) (by simp only [List.length_append, ints_length, List.length_cons, List.length_nil]; omega) (by have := hb5.size; simp; omega) ?_; intro t6 w6 ho6 hg6; have hb6 : Below w2.heap.size w2 w6 := below_own (hb5.alloc hb5.size _) (ho5.alloc _) hg6 (by have := hb5.size; simp; omega) (Nat.le_refl _))
        go_ret
        exact ⟨_, rfl, ho6.mono HB.out.size, below_trans HB.out hb6⟩
end Go.Proofs.YtoliaphiipkopaaDoor
namespace Go.Proofs.YtoliaphiipkopaaDoor
open Go.RowKit
set_option maxHeartbeats 8000000
set_option maxRecDepth 100000
theorem strc_dec (N : Nat) : Lib.strCells ⟨(Lib.decDigits N).toArray⟩ = ints .u8 (dgs N) := dec_bytes N
theorem rname_any (a b : Value) (nm : List Int) (n : Int) (x : Bool) (w : World) (ha : Row w a (ints .u8 nm)) (hl : nm.length ≤ 200) (h1 : n ≤ 9223372036854775807) :
    Calls Tryd.prog 9 #[.agg #[a, .int .i64 n, .bool x, b]] w fun e w' => ∃ t, e = .returned t ∧ Own w.heap.size 5 w' t (ints .u8 (namM nm n x)) ∧ Below w.heap.size w w' := by
  have hB := below_alloc w (.cells #[a, .int .i64 n, .bool x, b] 24)
  obtain ⟨c0, c1, c2, _⟩ := cell_new4 w a (.int .i64 n) (.bool x) b 24
  have hPl : w.heap.size < (w.alloc (.cells #[a, .int .i64 n, .bool x, b] 24)).heap.size := by simp
  have ha2 := ha.below hB
  have HK : Hid (∀ w', Below (w.alloc (.cells #[a, .int .i64 n, .bool x, b] 24)).heap.size (w.alloc (.cells #[a, .int .i64 n, .bool x, b] 24)) w' → w'.cell? ⟨w.heap.size, 1, none⟩ = some (.int .i64 n) ∧ w'.cell? ⟨w.heap.size, 2, none⟩ = some (.bool x)) := fun w' hb' => ⟨(hb'.cell (p := ⟨w.heap.size, 1, none⟩) hPl).trans c1, (hb'.cell (p := ⟨w.heap.size, 2, none⟩) hPl).trans c2⟩
  have HB := Lib.hid hB
  clear hPl hB c1 c2
  by_cases hn : n < 0
  · have hn0 : ¬ 0 ≤ n := by omega
    rcases x with _ | _
    · rw [namM_0 hn]
      go_enter Tryd.func9, Tryd.ntmps9
      go_wp2_with (first | (at_builtin; refine wpList_app slT_u8 (w.alloc (.cells #[a, .int .i64 n, .bool false, b] 24)).heap.size _ _ rfl rfl rfl rfl (Own.nil _ _ _) ha2 (by simp only [ints_length, List.length_nil]; omega) (Nat.le_refl _) ?_; intro t3 w3 ho3 hg3; have hb3 : Below (w.alloc (.cells #[a, .int .i64 n, .bool false, b] 24)).heap.size (w.alloc (.cells #[a, .int .i64 n, .bool false, b] 24)) w3 := below_own (Below.refl _ _) (Own.nil (w.alloc (.cells #[a, .int .i64 n, .bool false, b] 24)).heap.size 5 (w.alloc (.cells #[a, .int .i64 n, .bool false, b] 24))) hg3 (Nat.le_refl _) (Nat.le_refl _); rw [List.nil_append] at ho3; obtain ⟨k1, k2⟩ := HK.out w3 hb3))
      generalize w.alloc (.cells #[a, .int .i64 n, .bool false, b] 24) = w2 at *
      go_ret
      exact ⟨_, rfl, ho3.mono HB.out.size, below_trans HB.out hb3⟩
    · rw [namM_1 hn, ints_append]
      go_enter Tryd.func9, Tryd.ntmps9
      go_wp2_with (first | (at_builtin; refine wpList_app slT_u8 (w.alloc (.cells #[a, .int .i64 n, .bool true, b] 24)).heap.size _ _ rfl rfl rfl rfl (Own.nil _ _ _) ha2 (by simp only [ints_length, List.length_nil]; omega) (Nat.le_refl _) ?_; intro t3 w3 ho3 hg3; have hb3 : Below (w.alloc (.cells #[a, .int .i64 n, .bool true, b] 24)).heap.size (w.alloc (.cells #[a, .int .i64 n, .bool true, b] 24)) w3 := below_own (Below.refl _ _) (Own.nil (w.alloc (.cells #[a, .int .i64 n, .bool true, b] 24)).heap.size 5 (w.alloc (.cells #[a, .int .i64 n, .bool true, b] 24))) hg3 (Nat.le_refl _) (Nat.le_refl _); rw [List.nil_append] at ho3; obtain ⟨k1, k2⟩ := HK.out w3 hb3) | (at_builtin; refine wpList_app slT_u8 (w.alloc (.cells #[a, .int .i64 n, .bool true, b] 24)).heap.size _ _ rfl rfl rfl rfl (ho3.alloc _) (Row.ilit [42] [_] rfl (by simp)) (by simp only [ints_length, List.length_cons, List.length_nil]; omega) (by have := hb3.size; simp at this ⊢; omega) ?_; intro t7 w7 ho7 hg7; have hb7 : Below (w.alloc (.cells #[a, .int .i64 n, .bool true, b] 24)).heap.size (w.alloc (.cells #[a, .int .i64 n, .bool true, b] 24)) w7 := below_own (hb3.alloc hb3.size _) (ho3.alloc _) hg7 (by have := hb3.size; simp at this ⊢; omega) (Nat.le_refl _)))
      generalize w.alloc (.cells #[a, .int .i64 n, .bool true, b] 24) = w2 at *
      go_ret
      exact ⟨_, rfl, ho7.mono HB.out.size, below_trans HB.out hb7⟩
  · obtain ⟨N, rfl⟩ : ∃ N : Nat, n = (N : Int) := ⟨n.toNat, by omega⟩
    have hn0 : (0 : Int) ≤ (N : Int) := by omega
    have hdl := dgs_len hn0 h1
    rw [Int.toNat_natCast] at hdl
    have hD := rdigits_any N (by omega)
    have hS := strc_dec N
    have hsl : (⟨(Lib.decDigits N).toArray⟩ : ByteArray).size = (dgs N).length := by
      rw [← Lib.strCells_length, hS, ints_length]
    generalize (⟨(Lib.decDigits N).toArray⟩ : ByteArray) = s at *
    have HD := Lib.hid hD; have HS := Lib.hid hS
    clear hD hS
    rcases x with _ | _
    · rw [namM_2 hn0, ints_append, ints_append, Int.toNat_natCast]
      go_enter Tryd.func9, Tryd.ntmps9
      go_wp2_with (first | (at_builtin; refine wpList_app slT_u8 (w.alloc (.cells #[a, .int .i64 (N : Int), .bool false, b] 24)).heap.size _ _ rfl rfl rfl rfl (Own.nil _ _ _) ha2 (by simp only [ints_length, List.length_nil]; omega) (Nat.le_refl _) ?_; intro t3 w3 ho3 hg3; have hb3 : Below (w.alloc (.cells #[a, .int .i64 (N : Int), .bool false, b] 24)).heap.size (w.alloc (.cells #[a, .int .i64 (N : Int), .bool false, b] 24)) w3 := below_own (Below.refl _ _) (Own.nil (w.alloc (.cells #[a, .int .i64 (N : Int), .bool false, b] 24)).heap.size 5 (w.alloc (.cells #[a, .int .i64 (N : Int), .bool false, b] 24))) hg3 (Nat.le_refl _) (Nat.le_refl _); rw [List.nil_append] at ho3; obtain ⟨k1, k2⟩ := HK.out w3 hb3))
      generalize w.alloc (.cells #[a, .int .i64 (N : Int), .bool false, b] 24) = w2 at *
      go_region_held3 (fun w' => w'.cell? ⟨w.heap.size, 1, none⟩ = some (.int .i64 (N : Int))) (first | exact (HK.out _ hb3.drew).1 | exact (HK.out _ hb3).1 | exact (HK.out _ (hb3.alloc hb3.size _).drew).1 | exact (HK.out _ (hb3.alloc hb3.size _)).1 | exact (HK.out _ hb6).1 | exact (HK.out _ hb5).1 | exact (HK.out _ hb4).1 | exact (HK.out _ hbq).1 | exact (HK.out _ (hbq.alloc hbq.size _)).1 | go_keep) (first | (refine step_appS w2.heap.size _ _ (by rfl) (by rfl) (by rfl) (by rfl) ho5 (by simp only [List.length_append, ints_length, List.length_cons, List.length_nil]; omega) hb5.size ?_; intro t6 w6 ho6 hg6; have hb6 : Below w2.heap.size w2 w6 := below_own hb5 ho5 hg6 hb5.size (Nat.le_refl _)) | ((go_at_call 22; refine (HD.out w4).mono ?_; rintro e w5 ⟨rfl, hbx⟩; have hb5 : Below w2.heap.size w2 w5 := hb4.trans (hbx.mono hb4.size); have ho5 := ho4.below hbx)) | (refine step_app slT_u8 w2.heap.size _ _ (by rfl) (by rfl) (by rfl) (by rfl) hoq rq (by simp only [ints_length, List.length_cons, List.length_nil]; omega) hbq.size ?_; intro t5 w5 ho5 hg5; have hb5 : Below w2.heap.size w2 w5 := below_own hbq hoq hg5 hbq.size (Nat.le_refl _)) | (refine step_app slT_u8 w2.heap.size _ _ (by rfl) (by rfl) (by rfl) (by rfl) (hoq.alloc _) ((Row.ilit (E := 5) (k := .u8) [42] [.int .u8 42] rfl (by simp))) (by simp only [ints_length, List.length_cons, List.length_nil]; omega) (by have := hbq.size; simp; omega) ?_; intro t5 w5 ho5 hg5; have hb5 : Below w2.heap.size w2 w5 := below_own (hbq.alloc hbq.size _) (hoq.alloc _) hg5 (by have := hbq.size; simp; omega) (Nat.le_refl _)) | ((go_at_call 22; refine (HD.out ((w3.alloc (.cells #[.int .u8 42] 5)).drew)).mono ?_; rintro e w4 ⟨rfl, hbx⟩; have hbq : Below w2.heap.size w2 w4 := below_trans ((hb3.alloc hb3.size _).drew) hbx; have hoq := ((ho3.alloc _).drew).below hbx; have rq := (((Row.ilit (E := 5) (k := .u8) [42] [.int .u8 42] rfl (by simp))).drew).below hbx)) | ((go_at_call 22; refine (HD.out w3.drew).mono ?_; rintro e w4 ⟨rfl, hbx⟩; have hbq : Below w2.heap.size w2 w4 := below_trans hb3.drew hbx; have hoq := ho3.drew.below hbx)) | (refine step_app slT_u8 w2.heap.size _ _ (by rfl) (by rfl) (by rfl) (by rfl) ((ho3.alloc _).drew) (((Row.ilit (E := 5) (k := .u8) [42] [.int .u8 42] rfl (by simp))).drew) (by simp only [ints_length, List.length_cons, List.length_nil]; omega) (by have := hb3.size; simp; omega) ?_; intro t4 w4 ho4 hg4; have hb4 : Below w2.heap.size w2 w4 := below_own ((hb3.alloc hb3.size _).drew) ((ho3.alloc _).drew) hg4 (by have := hb3.size; simp; omega) (Nat.le_refl _)))
      all_goals
        rw [HS.out] at ho6
        obtain ⟨m1, m2⟩ := HK.out w6 hb6
        go_wp2
        go_ret
        exact ⟨_, rfl, ho6.mono HB.out.size, below_trans HB.out hb6⟩
    · rw [namM_3 hn0, ints_append, ints_append, ints_append, Int.toNat_natCast]
      go_enter Tryd.func9, Tryd.ntmps9
      go_wp2_with (first | (at_builtin; refine wpList_app slT_u8 (w.alloc (.cells #[a, .int .i64 (N : Int), .bool true, b] 24)).heap.size _ _ rfl rfl rfl rfl (Own.nil _ _ _) ha2 (by simp only [ints_length, List.length_nil]; omega) (Nat.le_refl _) ?_; intro t3 w3 ho3 hg3; have hb3 : Below (w.alloc (.cells #[a, .int .i64 (N : Int), .bool true, b] 24)).heap.size (w.alloc (.cells #[a, .int .i64 (N : Int), .bool true, b] 24)) w3 := below_own (Below.refl _ _) (Own.nil (w.alloc (.cells #[a, .int .i64 (N : Int), .bool true, b] 24)).heap.size 5 (w.alloc (.cells #[a, .int .i64 (N : Int), .bool true, b] 24))) hg3 (Nat.le_refl _) (Nat.le_refl _); rw [List.nil_append] at ho3; obtain ⟨k1, k2⟩ := HK.out w3 hb3))
      generalize w.alloc (.cells #[a, .int .i64 (N : Int), .bool true, b] 24) = w2 at *
      go_region_held3 (fun w' => w'.cell? ⟨w.heap.size, 1, none⟩ = some (.int .i64 (N : Int))) (first | exact (HK.out _ hb3.drew).1 | exact (HK.out _ hb3).1 | exact (HK.out _ (hb3.alloc hb3.size _).drew).1 | exact (HK.out _ (hb3.alloc hb3.size _)).1 | exact (HK.out _ hb6).1 | exact (HK.out _ hb5).1 | exact (HK.out _ hb4).1 | exact (HK.out _ hbq).1 | exact (HK.out _ (hbq.alloc hbq.size _)).1 | go_keep) (first | (refine step_appS w2.heap.size _ _ (by rfl) (by rfl) (by rfl) (by rfl) ho5 (by simp only [List.length_append, ints_length, List.length_cons, List.length_nil]; omega) hb5.size ?_; intro t6 w6 ho6 hg6; have hb6 : Below w2.heap.size w2 w6 := below_own hb5 ho5 hg6 hb5.size (Nat.le_refl _)) | ((go_at_call 22; refine (HD.out w4).mono ?_; rintro e w5 ⟨rfl, hbx⟩; have hb5 : Below w2.heap.size w2 w5 := hb4.trans (hbx.mono hb4.size); have ho5 := ho4.below hbx)) | (refine step_app slT_u8 w2.heap.size _ _ (by rfl) (by rfl) (by rfl) (by rfl) hoq rq (by simp only [ints_length, List.length_cons, List.length_nil]; omega) hbq.size ?_; intro t5 w5 ho5 hg5; have hb5 : Below w2.heap.size w2 w5 := below_own hbq hoq hg5 hbq.size (Nat.le_refl _)) | (refine step_app slT_u8 w2.heap.size _ _ (by rfl) (by rfl) (by rfl) (by rfl) (hoq.alloc _) ((Row.ilit (E := 5) (k := .u8) [42] [.int .u8 42] rfl (by simp))) (by simp only [ints_length, List.length_cons, List.length_nil]; omega) (by have := hbq.size; simp; omega) ?_; intro t5 w5 ho5 hg5; have hb5 : Below w2.heap.size w2 w5 := below_own (hbq.alloc hbq.size _) (hoq.alloc _) hg5 (by have := hbq.size; simp; omega) (Nat.le_refl _)) | ((go_at_call 22; refine (HD.out ((w3.alloc (.cells #[.int .u8 42] 5)).drew)).mono ?_; rintro e w4 ⟨rfl, hbx⟩; have hbq : Below w2.heap.size w2 w4 := below_trans ((hb3.alloc hb3.size _).drew) hbx; have hoq := ((ho3.alloc _).drew).below hbx; have rq := (((Row.ilit (E := 5) (k := .u8) [42] [.int .u8 42] rfl (by simp))).drew).below hbx)) | ((go_at_call 22; refine (HD.out w3.drew).mono ?_; rintro e w4 ⟨rfl, hbx⟩; have hbq : Below w2.heap.size w2 w4 := below_trans hb3.drew hbx; have hoq := ho3.drew.below hbx)) | (refine step_app slT_u8 w2.heap.size _ _ (by rfl) (by rfl) (by rfl) (by rfl) ((ho3.alloc _).drew) (((Row.ilit (E := 5) (k := .u8) [42] [.int .u8 42] rfl (by simp))).drew) (by simp only [ints_length, List.length_cons, List.length_nil]; omega) (by have := hb3.size; simp; omega) ?_; intro t4 w4 ho4 hg4; have hb4 : Below w2.heap.size w2 w4 := below_own ((hb3.alloc hb3.size _).drew) ((ho3.alloc _).drew) hg4 (by have := hb3.size; simp; omega) (Nat.le_refl _)))
      all_goals
        rw [HS.out] at ho6
        obtain ⟨m1, m2⟩ := HK.out w6 hb6
        go_wp2_with (at_builtin; refine wpList_app slT_u8 w2.heap.size _ _ rfl rfl rfl rfl (ho6.alloc _) (Row.ilit [42] [_] rfl (by simp)) (by simp only [List.length_append, ints_length, List.length_cons, List.length_nil]; omega) (by have := hb6.size; simp; omega) ?_; intro t7 w7 ho7 hg7; have hb7 : Below w2.heap.size w2 w7 := below_own (hb6.alloc hb6.size _) (ho6.alloc _) hg7 (by have := hb6.size; simp; omega) (Nat.le_refl _))
        go_ret
        exact ⟨_, rfl, ho7.mono HB.out.size, below_trans HB.out hb7⟩
end Go.Proofs.YtoliaphiipkopaaDoor
