/- The statement of layer 35 on attributes' names, walked. (laid together by program out of single texts). -/
import Derived.BigQuiet
import Derived.Test.YtoliaphiipkopaaDoorM23
import Derived.Test.YtoliaphiipkopaaDoorM27
namespace Go.Proofs.YtoliaphiipkopaaDoor
open Go.RowKit
set_option maxHeartbeats 8000000
set_option maxRecDepth 100000
theorem atrM_len {a : List Int} (h : Rg 0 256 a) : (atrM a).1.length ≤ a.length := by
  rw [atrM_raw h]
  have hT := tw_len 42 a
  split
  · simp [len_low]
  · split
    · simp only [len_low]; exact hT
    · split
      · simp [len_low]
      · simp only [len_low]; exact hT
theorem namM_len {nm : List Int} {n : Int} {x : Bool} (h1 : n ≤ 9223372036854775807) : (namM nm n x).length ≤ nm.length + 24 := by
  rw [namM]
  by_cases h0 : 0 ≤ n
  · rw [if_pos h0]
    have := dgs_len h0 h1
    cases x <;> simp only [List.length_append, List.length_cons, List.length_nil, if_true, Bool.false_eq_true, if_false] <;> omega
  · rw [if_neg h0]
    cases x <;> simp only [List.length_append, List.length_cons, List.length_nil, if_true, Bool.false_eq_true, if_false] <;> omega
theorem namM_rg {nm : List Int} {n : Int} {x : Bool} (hg : Rg 0 256 nm) : Rg 0 256 (namM nm n x) := by
  intro c hc
  rw [namM] at hc
  rcases List.mem_append.1 hc with hc | hc
  · rcases List.mem_append.1 hc with hc | hc
    · exact hg c hc
    · split at hc
      · rcases List.mem_cons.1 hc with rfl | hc
        · omega
        · have := (dgs_dg _ n.toNat (Nat.le_refl _)).2 c hc; omega
      · simp at hc
  · split at hc
    · simp at hc; omega
    · simp at hc
theorem PlistNames_walk (v : Value) (xs : List Int) (a b : Value) (nm : List Int) (n : Int) (x : Bool) (w : World) (hT : Tz w) (h : Row w v (ints .u8 xs)) (g : Rg 0 256 xs) (ha : Row w a (ints .u8 nm)) (ga : Rg 0 256 nm) (hn : (Lit.int .i64 n).wf = true) :
    Calls Tryd.prog 3 #[v, .agg #[a, .int .i64 n, .bool x, b]] w fun e w' => e = .returned (.bool true) ∧ Below w.heap.size w w' := by
  obtain ⟨a0, c0, rfl⟩ := (id h).formN0 (n := xs.length) (by rw [ints_length])
  obtain ⟨a1, c1, rfl⟩ := (id ha).formN0 (n := nm.length) (by rw [ints_length])
  have hB := below_alloc w (.cells #[.slice a1 nm.length c1, .int .i64 n, .bool x, b] 24)
  obtain ⟨p0, p1, p2, p3⟩ := cell_new4 w (.slice a1 nm.length c1) (.int .i64 n) (.bool x) b 24
  by_cases hl : xs.length ≤ 200
  case' neg =>
    clear h ha
    go_enter Tryd.func3, Tryd.ntmps3
    go_wp2_with (go_at_call 4; refine (alive35_any _).mono ?_; rintro e w7 ⟨rfl, hb7⟩)
    go_ret
    exact ⟨rfl, below_trans hB hb7⟩
  by_cases hl2 : nm.length ≤ 200
  case' neg =>
    clear h ha
    go_enter Tryd.func3, Tryd.ntmps3
    go_wp2_with (go_at_call 4; refine (alive35_any _).mono ?_; rintro e w7 ⟨rfl, hb7⟩)
    go_ret
    exact ⟨rfl, below_trans hB hb7⟩
  have hn0 : -9223372036854775808 ≤ n := (wf_i64 hn).1
  have hn1 : n ≤ 9223372036854775807 := (wf_i64 hn).2
  have hA1 := fun w' h' => attr_any (.slice a0 xs.length c0) xs w' h' g (by omega)
  have hA2 := fun w' h' => rattr_any (.slice a0 xs.length c0) xs w' h' g (by omega)
  have hAl := atrM_len g
  have hN1 := fun w' hT' h' => pname_any (.slice a1 nm.length c1) (.slice none 0 0) nm n x w' hT' h' hl2 hn0 hn1
  have hN2 := fun w' h' => rname_any (.slice a1 nm.length c1) b nm n x w' h' hl2 hn1
  have hNl := namM_len (nm := nm) (x := x) hn1
  have hNg := namM_rg (n := n) (x := x) ga
  have hA3 := fun v w' h' => attr_any v (namM nm n x) w' h' hNg (by omega)
  have hback := atr_nam nm n x ga
  have hF := fun w' h' => r01fold_any (.slice a1 nm.length c1) nm w' h' ga (by omega)
  have hfl : (nm.map lowC).length = nm.length := List.length_map _
  have hCn := fun w' h' => rcount_any (.slice a1 nm.length c1) nm w' h' ga (by omega)
  have hatt := att_count (l := nm)
  have elow : lowS nm = nm.map lowC := rfl
  rw [elow] at hback
  generalize nm.map lowC = FM at *
  generalize nm.countP attB = cn at *
  generalize nm.all attB = q at *
  generalize namM nm n x = M at *
  generalize (atrM xs).1 = L at *
  generalize (atrM xs).2.1 = K1 at *
  generalize (atrM xs).2.2 = X1 at *
  have HA1 := Lib.hid hA1; have HA2 := Lib.hid hA2; have HN1 := Lib.hid hN1; have HN2 := Lib.hid hN2; have HA3 := Lib.hid hA3; have HF := Lib.hid hF; have HCN := Lib.hid hCn
  have HBK := Lib.hid hback; have HATT := Lib.hid hatt
  have hLL : L.length ≤ 200 := by omega
  have hML : M.length ≤ 224 := by omega
  have hFL : FM.length ≤ 200 := by omega
  clear hfl
  have hPl : w.heap.size < (w.alloc (.cells #[.slice a1 nm.length c1, .int .i64 n, .bool x, b] 24)).heap.size := by simp
  have h2 := h.below hB
  have ha2 := ha.below hB
  have hT2 := hT.below hB
  have HK : Hid (∀ w', Below (w.alloc (.cells #[.slice a1 nm.length c1, .int .i64 n, .bool x, b] 24)).heap.size (w.alloc (.cells #[.slice a1 nm.length c1, .int .i64 n, .bool x, b] 24)) w' → w'.cell? ⟨w.heap.size, 0, none⟩ = some (.slice a1 nm.length c1) ∧ w'.cell? ⟨w.heap.size, 1, none⟩ = some (.int .i64 n) ∧ w'.cell? ⟨w.heap.size, 2, none⟩ = some (.bool x) ∧ w'.cell? ⟨w.heap.size, 3, none⟩ = some b) := fun w' hb' => ⟨(hb'.cell (p := ⟨w.heap.size, 0, none⟩) hPl).trans p0, (hb'.cell (p := ⟨w.heap.size, 1, none⟩) hPl).trans p1, (hb'.cell (p := ⟨w.heap.size, 2, none⟩) hPl).trans p2, (hb'.cell (p := ⟨w.heap.size, 3, none⟩) hPl).trans p3⟩
  clear hA1 hA2 hN1 hN2 hA3 hF hCn hback hatt hPl elow hAl hNl hNg hn hT h ha
  go_enter Tryd.func3, Tryd.ntmps3
  go_wp2_with fail
  generalize w.alloc (.cells #[.slice a1 nm.length c1, .int .i64 n, .bool x, b] 24) = w2 at *
  refine (HA1.out _ h2).mono ?_
  rintro e w3 ⟨t5, rfl, o5, hb3⟩
  obtain ⟨a5, c5, rfl⟩ := (id o5.row).formN0 (n := L.length) (by rw [ints_length])
  go_wp2_with fail
  refine (HA2.out _ (h2.below hb3)).mono ?_
  rintro e w4 ⟨t8, rfl, o8, hb4⟩
  obtain ⟨a8, c8, rfl⟩ := (id o8.row).formN0 (n := L.length) (by rw [ints_length])
  have hb24 := below_trans hb3 hb4
  obtain ⟨q0, q1, q2, q3⟩ := HK.out w4 hb24
  have hb5 := below_alloc w4 (.cells #[.slice a1 nm.length c1, .int .i64 n, .bool x, .slice none 0 0] 28)
  obtain ⟨r0, r1, r2, r3⟩ := cell_new4 w4 (.slice a1 nm.length c1) (.int .i64 n) (.bool x) (.slice none 0 0) 28
  go_wp2_with fail
  have hb25 := below_trans hb24 hb5
  generalize w4.alloc (.cells #[.slice a1 nm.length c1, .int .i64 n, .bool x, .slice none 0 0] 28) = w5 at *
  refine (HN1.out _ (hT2.below hb25) (ha2.below hb25)).mono ?_
  rintro e w6 ⟨t12, rfl, o12, hb6⟩
  obtain ⟨a12, c12, rfl⟩ := (id o12.row).formN0 (n := M.length) (by rw [ints_length])
  have hb26 := below_trans hb25 hb6
  go_wp2_with fail
  refine (like1_any _ _ L L _ (o5.row.below (below_trans (below_trans hb4 hb5) hb6)) (o8.row.below (below_trans hb5 hb6)) (by omega) (by omega)).mono ?_
  rintro e w7 ⟨rfl, hb7⟩
  rw [decide_eq_true rfl]
  have hb27 := below_trans hb26 hb7
  clear q0 q1 q2 q3 r0 r1 r2 r3
  obtain ⟨q0, q1, q2, q3⟩ := HK.out w7 hb27
  go_wp2_with fail
  refine (HN2.out _ (ha2.below hb27)).mono ?_
  rintro e w8 ⟨t64, rfl, o64, hb8⟩
  obtain ⟨a64, c64, rfl⟩ := (id o64.row).formN0 (n := M.length) (by rw [ints_length])
  go_wp2_with fail
  refine (like1_any _ _ M M _ (o12.row.below (below_trans hb7 hb8)) o64.row (by omega) (by omega)).mono ?_
  rintro e w9 ⟨rfl, hb9⟩
  rw [decide_eq_true rfl]
  have hb29 := below_trans (below_trans hb27 hb8) hb9
  clear q0 q1 q2 q3
  obtain ⟨q0, q1, q2, q3⟩ := HK.out w9 hb29
  go_wp2_with fail
  have o12' := o12.below (below_trans (below_trans hb7 hb8) hb9)
  have ha9 := ha2.below hb29
  clear hb3 hb4 hb24 hb5 hb25 hb6 hb26 hb7 hb27 hb8 hb9 o12 o64 o5 o8 HN1 HN2 HA1 HA2 h2 hT2
  by_cases hz : nm.length = 0
  · have hzi : (nm.length : Int) = 0 := by omega
    go_quiet (fail)
    go_wp2_with (go_at_call 4; refine (alive35_any _).mono ?_; rintro e w7 ⟨rfl, hb7⟩)
    go_ret
    exact ⟨rfl, below_trans (below_trans hB (below_drewN hb29 _)) hb7⟩
  have hzb : ((nm.length : Int) == 0) = false := beq_false_of_ne (by omega)
  by_cases hq : q = false
  · have hnb : ((cn : Int) != (nm.length : Int)) = true := by
      have : (cn : Int) ≠ (nm.length : Int) := fun e => by have := HATT.out.1 e; rw [hq] at this; cases this
      simpa using this
    clear hz hq
    go_quiet (first | (go_at_call 10; refine Calls.quiet_of_same (HCN.out _ (ha9.below (below_drewN (Below.refl _ _) _)))))
    go_wp2_with (go_at_call 4; refine (alive35_any _).mono ?_; rintro e w7 ⟨rfl, hb7⟩)
    go_ret
    exact ⟨rfl, below_trans (below_trans hB (below_drewN hb29 _)) hb7⟩
  obtain rfl : q = true := by cases q with | true => rfl | false => exact absurd rfl hq
  obtain rfl : cn = nm.length := by have := HATT.out.2 rfl; omega
  by_cases hbig : 999 < n
  · clear hz hq
    go_quiet (first | (go_at_call 10; refine Calls.quiet_of_same (HCN.out _ (ha9.below (below_drewN (Below.refl _ _) _)))))
    go_wp2_with (go_at_call 4; refine (alive35_any _).mono ?_; rintro e w7 ⟨rfl, hb7⟩)
    go_ret
    exact ⟨rfl, below_trans (below_trans hB (below_drewN hb29 _)) hb7⟩
  by_cases hsm : n < -1
  · have hbig2 : ¬ 999 < n := hbig
    clear hz hq
    go_quiet (first | (go_at_call 10; refine Calls.quiet_of_same (HCN.out _ (ha9.below (below_drewN (Below.refl _ _) _)))))
    go_wp2_with (go_at_call 4; refine (alive35_any _).mono ?_; rintro e w7 ⟨rfl, hb7⟩)
    go_ret
    exact ⟨rfl, below_trans (below_trans hB (below_drewN hb29 _)) hb7⟩
  have hbk := HBK.out (by omega) rfl (by omega) (by omega)
  have hA3 := fun v w' h' => HA3.out v w' h'
  rw [hbk] at hA3
  dsimp only at hA3
  have HA4 := Lib.hid hA3
  have HO12 : Hid (∀ m, Row (w9.drewN m) (.slice a12 M.length c12) (ints .u8 M)) := fun m => o12'.row.below (below_drewN (Below.refl _ _) m)
  clear hz hq hA3 hbk HA3 HBK HATT o12'
  go_quiet (first | (go_at_call 10; refine Calls.quiet_of_same (HCN.out _ (ha9.below (below_drewN (Below.refl _ _) _)))))
  go_wp2_with fail
  refine (HA4.out _ _ (HO12.out _)).mono ?_
  rintro e w10 ⟨t13, rfl, o13, hb10⟩
  obtain ⟨a13, c13, rfl⟩ := (id o13.row).formN0 (n := FM.length) (by rw [ints_length])
  have hb2T : Below w2.heap.size w2 w10 := below_trans (below_drewN hb29 _) hb10
  clear q0 q1 q2 q3
  obtain ⟨q0, q1, q2, q3⟩ := HK.out w10 hb2T
  go_wp2_with fail
  refine (HF.out _ (ha2.below hb2T)).mono ?_
  rintro e w11 ⟨t101, rfl, o101, hb11⟩
  go_wp2_with fail
  have r13 : Row w11 (.slice a13 FM.length c13) (ints .u8 FM) := o13.row.below hb11
  have r101 : Row w11 t101 (ints .u8 FM) := o101.row
  have hfl2 : FM.length ≤ 1000000000 := by omega
  have hLike := like1_any _ _ FM FM w11 r13 r101 hfl2 hfl2
  refine hLike.mono ?_
  rintro e w12 ⟨rfl, hb12⟩
  rw [decide_eq_true rfl]
  have hb2U : Below w2.heap.size w2 w12 := below_trans (below_trans hb2T hb11) hb12
  clear q0 q1 q2 q3
  obtain ⟨q0, q1, q2, q3⟩ := HK.out w12 hb2U
  go_wp2_with (go_at_call 4; refine (alive35_any _).mono ?_; rintro e w7 ⟨rfl, hb7⟩)
  go_ret
  exact ⟨rfl, below_trans (below_trans hB hb2U) hb7⟩
end Go.Proofs.YtoliaphiipkopaaDoor
