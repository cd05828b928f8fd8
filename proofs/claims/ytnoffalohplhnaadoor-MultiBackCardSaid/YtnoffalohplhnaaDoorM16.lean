/- Walks: parts laid (multi.Lay). · Walks: the library's AppendInt behind a literal that the program's text lays (a boundary: the octet 98 and a number). · Walks: a boundary that no part has (multi.Fresh). · Walks: what the statement of layer 50 asks beside multi's own functions (far, same, alive). (laid together by program out of single texts). -/
import Derived.Test.YtnoffalohplhnaaDoorM5
import Derived.Test.YtnoffalohplhnaaDoorM14
import Derived.Test.YtnoffalohplhnaaDoorM15
namespace Go.Proofs.YtnoffalohplhnaaDoor
open Go.RowKit
set_option maxHeartbeats 4000000
set_option maxRecDepth 100000
/-- The lines laid ahead of the last mark. -/
def marksL (b : List Int) (ps : List (List Int)) : List (List Int) := ps.flatMap (fun p => [45 :: 45 :: b, p])
theorem endC_marks (b : List Int) : ∀ ps : List (List Int), endC (marksL b ps ++ [45 :: 45 :: (b ++ [45, 45])]) = layB b ps
  | [] => by simp [marksL, endC, layB]
  | p :: r => by
    have ih := endC_marks b r
    simp only [marksL, endC, layB, List.flatMap_cons, List.flatMap_append, List.flatMap_nil, List.append_nil] at ih ⊢
    rw [← ih]
    simp
theorem lensC_app (l l' : List (List Int)) : lensC (l ++ l') = lensC l + lensC l' := by simp [lensC]
theorem lensC_marks {b : List Int} (hb : b.length ≤ 1000) : ∀ {ps : List (List Int)}, (∀ p ∈ ps, p.length ≤ 1000) → lensC (marksL b ps) ≤ 3000 * ps.length
  | [], _ => by simp [marksL, lensC]
  | p :: r, h => by
    have ih := lensC_marks hb (ps := r) (fun q hq => h q (by simp [hq]))
    have h1 := h p (by simp)
    have e : marksL b (p :: r) = [45 :: 45 :: b, p] ++ marksL b r := rfl
    rw [e, lensC_app, List.length_cons]
    have : lensC [45 :: 45 :: b, p] = b.length + p.length + 6 := by simp [lensC]; omega
    omega
theorem marksL_snoc {b : List Int} {ps : List (List Int)} {k : Nat} {q : List Int} (h : ps[k]? = some q) : marksL b (ps.take (k + 1)) = marksL b (ps.take k) ++ [45 :: 45 :: b] ++ [q] := by
  rw [List.take_add_one, h]; simp [marksL]
theorem marksL_len (b : List Int) : ∀ ps : List (List Int), (marksL b ps).length = 2 * ps.length
  | [] => rfl
  | p :: r => by
    have e : marksL b (p :: r) = [45 :: 45 :: b, p] ++ marksL b r := rfl
    rw [e, List.length_append, marksL_len b r]; simp; omega
theorem strdash : Lib.strCells ⟨#[45, 45]⟩ = ints .u8 [45, 45] := by first | rfl | simp [Lib.strCells, ints]
theorem layM_ways (ps : List (List Int)) (b : List Int) :
    (mayB b = false → layM ps b = ([], 13)) ∧ (mayB b = true → ∀ q ∈ ps, hasM q b = true → layM ps b = ([], 3)) ∧ (mayB b = true → (∀ q ∈ ps, hasM q b = false) → layM ps b = (layB b ps, 0)) := by
  unfold layM
  refine ⟨fun h => by rw [if_pos h], fun h q hq h2 => ?_, fun h h2 => ?_⟩
  · rw [if_neg (by rw [h]; decide), if_pos (List.any_eq_true.2 ⟨q, hq, h2⟩)]
  · rw [if_neg (by rw [h]; decide), if_neg]
    intro h3
    obtain ⟨q, hq, h4⟩ := List.any_eq_true.1 h3
    rw [h2 q hq] at h4; cases h4
theorem lay_any (v v2 : Value) (vs : List Value) (ps : List (List Int)) (b : List Int) (w : World) (h : Row w v vs) (hp : Pvs w vs ps) (h2 : Row w v2 (ints .u8 b)) (hr : ∀ q ∈ ps, Rg 0 256 q ∧ q.length ≤ 1000) (hgb : Rg 0 256 b) (hlb : b.length ≤ 1000) (hlv : vs.length ≤ 100) (hm : Mx w) :
    Calls Tryd.prog 7 #[v, v2] w fun e w' => ∃ t, e = .returned (.tuple #[t, .int .i64 (layM ps b).2]) ∧ Row w' t (ints .u8 (layM ps b).1) ∧ Below w.heap.size w w' := by
  have kc := fun (w : World) (C : Array Value) (n c : Nat) => Lib.run_convert_bytes_const (P := Tryd.prog) w 23 5 C n c Tryd.underlying23 Tryd.underlying5
  obtain ⟨V, hV⟩ : ∃ V, layM ps b = V := ⟨_, rfl⟩
  obtain ⟨m1, m2, m3⟩ := layM_ways ps b
  rw [hV] at m1 m2 m3 ⊢
  have HMY := Lib.hid (may_any v2 b w h2 (by omega))
  generalize mayB b = q0 at *
  have HM1 := Lib.hid m1; have HM2 := Lib.hid m2; have HM3 := Lib.hid m3
  have HR2 := Lib.hid h2
  obtain ⟨a2, b2, o2, c2, rfl, _⟩ := id h2.op
  have HROW := Lib.hid h
  have HPV := Lib.hid hp
  have HRR := Lib.hid hr
  have HM := Lib.hid hm
  obtain ⟨a, b0, off, cp, rfl, hcp, hMx, ha, h1, hcell⟩ := id h
  have HCL := Lib.hid hcell
  have HA := Lib.hid ha
  have HLP := Lib.hid hp.1
  clear m1 m2 m3 hV h hp h2 hr hm hcell ha h1 hMx
  rcases q0 with _ | _
  · obtain rfl := HM1.out rfl
    go_enter Tryd.func7, Tryd.ntmps7
    go_wp2_with (go_at_call 10; refine (HMY.out).mono ?_; rintro e w1 ⟨rfl, hw⟩; obtain rfl := hw.symm)
    go_ret2
    exact ⟨_, rfl, Row.nil _, Below.refl _ _⟩
  · go_enter Tryd.func7, Tryd.ntmps7
    go_wp2_with (first | (go_at_call 10; refine (HMY.out).mono ?_; rintro e w1 ⟨rfl, hw⟩; obtain rfl := hw.symm) | (at_builtin; refine wpList_applit slT_u8 rfl _ _ rfl rfl rfl rfl (Row.flit [45, 45] [_, _] rfl (by simp)) (HR2.out.alloc _) (by simp [ints]; omega) ?_; intro t1 w1 hr1 hb1))
    have hbw1 : Below w.heap.size w w1 := below_trans (below_alloc w _) hb1
    rw [← ints_append] at hr1
    replace hr1 : Row w1 t1 (ints .u8 (45 :: 45 :: b)) := hr1
    obtain ⟨am, bm, om, cm, rfl, _⟩ := id hr1.op
    obtain ⟨nm, hnm⟩ : ∃ n, (45 :: 45 :: b).length = n := ⟨_, rfl⟩
    rw [hnm] at hr1 ⊢
    have HRM := Lib.hid hr1
    have honem := hr1.one
    clear hb1 hr1 HMY hnm
    go_wp2
    go_loopw [6, 19] (fun o i wr => ∃ (k : Nat) (vl : List Value), i = .int .i64 k ∧ k ≤ vs.length ∧ Hid (∀ q ∈ ps.take k, hasM q b = false) ∧ Hid (Own w1.heap.size 23 wr o vl) ∧ Hid (Pcs w1 wr vl (marksL b (ps.take k))) ∧ Below w1.heap.size w1 wr) (fun _ i _ => vs.length - (intOf i).toNat)
    case atStart => exact ⟨0, [], rfl, Nat.zero_le _, (fun y hy => by simp at hy : ∀ p ∈ ps.take 0, hasM p b = false), Own.nil _ _ _, Pcs.nil _ _, Below.refl _ _⟩
    case round =>
      obtain ⟨k, vl, rfl, hk, HK, HO, HC, hbw⟩ := hrel
      have hb0w := below_trans hbw1 hbw
      have hvl : vl.length ≤ 200 := by
        rw [HC.out.1, marksL_len, List.length_take]; omega
      by_cases hlt : k < vs.length
      · obtain ⟨u, q, hu, hpk, hru⟩ := HPV.out.get hlt
        have hcc := cell_keep50 (HCL.out k u hu) hb0w
        obtain rfl : a = some ⟨b0, off, none⟩ := by
          rcases HA.out with h9 | ⟨h9, _⟩
          · exact h9
          · rw [h9] at hlt; simp at hlt
        have hqr := HRR.out q (List.mem_of_getElem? hpk)
        have hH := has_any u (.slice a2 b.length c2) q b wr (hru.below hb0w) (HR2.out.below hb0w) hqr.1 hgb (by omega) (HM.out.below hb0w)
        obtain ⟨o, HO1⟩ : ∃ o, Hid (hasM q b = o) := ⟨_, rfl⟩
        rw [HO1.out] at hH
        have HH := Lib.hid hH
        have HPK := Lib.hid hpk
        have HQ1 := Lib.hid (hru.below hbw1)
        have honeu := hru.one
        obtain ⟨au, bu, ou, cu, rfl, _⟩ := id hru.op
        clear hH hpk hru hu hqr
        rcases o with _ | _
        · go_wp2_with fail
          refine HH.out.mono ?_
          rintro e w3 ⟨rfl, hb3⟩
          have hbw3 := below_trans hbw hb3
          go_wp2_with (at_builtin; refine wpList_app slT_bb _ _ _ rfl rfl rfl rfl ((HO.out.below hb3).alloc _) (Row.lit [_, _] (by intro u hu; simp at hu; rcases hu with rfl | rfl; exact honem; exact honeu) (by simp)) (by simp; omega) (by have := hbw3.size; simp at this ⊢; omega) ?_; intro t4 w4 hown4 hg4)
          go_roundw
          case rel =>
            have hP4 := ((((HC.out.below hb3).snoc (.inl HRM.out)).snoc (.inl HQ1.out)).below (below_alloc w3 _)).other ((HO.out.below hb3).alloc _) hg4
            rw [← marksL_snoc HPK.out, List.append_assoc] at hP4
            exact ⟨k + 1, _, by go_num, by omega, FI_step HK.out HPK.out HO1.out, hown4, hP4, below_app hbw3 (below_alloc _ _) ((HO.out.below hb3).alloc _) hg4⟩
          case measure => simp [intOf]; omega
        · obtain rfl := HM2.out (by first | trivial | rfl) q (List.mem_of_getElem? HPK.out) HO1.out
          go_wp2_with fail
          refine HH.out.mono ?_
          rintro e w3 ⟨rfl, hb3⟩
          go_wp2
          go_ret2
          exact ⟨_, rfl, Row.nil _, below_trans hb0w hb3⟩
      · have hall : ∀ q ∈ ps, hasM q b = false := by
          have := HK.out
          rwa [List.take_of_length_le (by rw [← HLP.out]; omega)] at this
        obtain rfl := HM3.out (by first | trivial | rfl) hall
        have hcs := HC.out
        rw [List.take_of_length_le (by rw [← HLP.out]; omega)] at hcs
        have hls := lensC_marks hlb (fun p hp => (HRR.out p hp).2)
        rw [← HLP.out] at hls
        have HLS := Lib.hid hls
        have HCS := Lib.hid hcs
        clear hall hcs hls HC
        go_wp2_with fail
        refine (bclone_any _ _ _ (HRM.out.below hbw) (by simp; omega)).mono ?_
        rintro e w3 ⟨t3, rfl, ho3, hb3⟩
        have hbw3 := below_trans hbw hb3
        go_wp2_with (first | (at_builtin; refine wpList_appS wr.heap.size _ _ rfl rfl rfl rfl ho3 (by simp only [ints_length, List.length_cons]; show _ + 2 ≤ _; omega) hb3.size ?_; intro t4 w4 ho4 hg4; have hbr4 : Below wr.heap.size wr w4 := below_own hb3 ho3 hg4 hb3.size (Nat.le_refl _); rw [strdash, ← ints_append] at ho4; obtain ⟨a4, b4, o4, c4, rfl, _⟩ := id ho4.row.op; obtain ⟨n4, hn4⟩ : ∃ n, (45 :: 45 :: b ++ [45, 45]).length = n := ⟨_, rfl⟩; rw [hn4] at ho4; rw [hn4]; have hone4 := ho4.row.one; have HO4 := Lib.hid ho4; clear ho4 hn4) | (at_builtin; refine wpList_app slT_bb _ _ _ rfl rfl rfl rfl ((HO.out.below hbr4).alloc _) (Row.lit [_] (by intro u hu; simp at hu; subst hu; exact hone4) (by simp)) (by simp; omega) (by have := hbr4.size; have := hbw.size; simp at this ⊢; omega) ?_; intro t5 w5 hown5 hg5))
        have hb45 : Below w1.heap.size w1 w5 := below_app (below_trans hbw hbr4) (below_alloc _ _) ((HO.out.below hbr4).alloc _) hg5
        have hP5 := (((HCS.out.below hbr4).snoc (.inr (HO4.out.mono hbw.size))).below (below_alloc w4 _)).other ((HO.out.below hbr4).alloc _) hg5
        have hlen5 : lensC (marksL b ps ++ [45 :: 45 :: b ++ [45, 45]]) ≤ 1000000 := by
          have h8 := HLS.out
          rw [lensC_app]
          have h9 : lensC [45 :: 45 :: b ++ [45, 45]] = b.length + 6 := by simp [lensC]
          omega
        have hJ := linesJoin_any t5 _ _ w5 hown5.row (hP5.pvs hb45) (by simp; omega) hlen5
        rw [show (45 :: 45 :: b ++ [45, 45]) = 45 :: 45 :: (b ++ [45, 45]) from rfl] at hJ
        rw [endC_marks] at hJ
        refine hJ.mono ?_
        rintro e w6 ⟨t6, rfl, ho6, hb6⟩
        go_wp2
        go_ret2
        exact ⟨_, rfl, ho6.row, below_trans hbw1 (below_trans hb45 hb6)⟩
end Go.Proofs.YtnoffalohplhnaaDoor
namespace Go.Proofs.YtnoffalohplhnaaDoor
open Go.RowKit
set_option maxHeartbeats 4000000
set_option maxRecDepth 100000
/-- append(s, str...): s a literal of the text, full. -/
theorem wpList_appSg {w : World} {ops : Array Oper} {rest : List Oper} {o : Oper} {a : Act} {Q : Exit → Act → World → Prop} (hg : o.guard = none)
    (s x : Operand) (ho : o.op = .call { callee := .builtin .append, args := #[s, x], argTypes := #[23, 9] })
    {b n : Nat} (hs : a.eval s = .slice (some ⟨b, 0, none⟩) n n) {str : ByteArray} (hx : a.eval x = .string str) {cs : List Value} (hl : cs.length = n) (hc : ∀ j u, cs[j]? = some u → w.cell? ⟨b, j, none⟩ = some u) (h1 : ∀ u ∈ cs, u.oneCell' = true) (h0 : 0 < str.size) (hb : n + str.size ≤ 1000000)
    (h : ∀ v' w', Own w.heap.size 5 w' v' (cs ++ Lib.strCells str) → w.grownBy w' none → wpList Tryd.prog ops Q rest (a.put o.dst v') w') : wpList Tryd.prog ops Q (o :: rest) a w := by
  obtain ⟨i, hi, hz, hsize, hby⟩ := info_parts (P := Tryd.prog) (e := 5) (z := Value.int .u8 0) (size := 1) (bytes := 1) (by kernel_rfl)
  have hrun := Lib.run_append_grow_string (P := Tryd.prog) w 23 9 o.type 5 i (.int .u8 0) Tryd.underlying23 Tryd.underlying9 hi hz ⟨b, 0, none⟩ n n cs (by rw [hsize]; omega) (fun j u hu => by rw [addr_add, Nat.zero_add]; exact hc j u hu) str (by omega) (by omega) (by rw [hby]; exact growslice_fits (by omega) (by omega))
  have hge := grownCap_ge w (n + str.size) n 5
  have hcm : grownCap w (n + str.size) n 5 ≤ maxLen := grownCap_le_maxLen w (n + str.size) n 5 (by unfold maxLen; omega)
  have hlen : (cs ++ Lib.strCells str).length = n + str.size := by rw [List.length_append, hl, Lib.strCells_length]
  refine wpList_plain hg fun K hK => ?_
  unfold Oper.wp
  simp [execOp, ho, resolve, invoke, builtin, hs, hx, hrun, Result.andThen]
  refine hK _ _ (h _ _ ⟨?_, ?_⟩ ⟨rfl, rfl, rfl, by simp, fun k hk _ => heap_alloc_old w.drew _ hk⟩)
  · rw [hlen]
    refine ⟨by rw [hlen]; omega, .inr ⟨w.heap.size, _, _, rfl, Nat.le_refl _, heap_alloc_new w.drew _, hge, hcm, ?_, ?_⟩⟩
    · have hz1 : (Value.int IntKind.u8 0).cells.size = 1 := rfl
      simp only [Array.size_append, List.size_toArray, size_zeroCells, hz1]
      omega
    · simp only [Array.toList_append, List.append_assoc, Nat.mul_one]
      rw [← List.append_assoc, ← hlen]
      exact List.take_left
  · intro u hu
    rcases List.mem_append.1 hu with hu | hu
    · exact h1 u hu
    · exact Lib.strCells_oneCell str u hu
theorem strc_digs (u : Nat) : [Value.int .u8 98] ++ Lib.strCells ⟨(Lib.decDigits u).toArray⟩ = ints .u8 (numB u) := by
  simp [Lib.strCells, ints, numB]
theorem bytc_digs (u : Nat) : [Value.int .u8 98] ++ Lib.byteCells (Lib.decDigits u) = ints .u8 (numB u) := by
  simp [Lib.byteCells, ints, numB]
theorem appU_small (b u : Nat) (w : World) (hu : u < 100) (hc : w.cell? ⟨b, 0, none⟩ = some (.int .u8 98)) :
    Calls Tryd.prog 31 #[.slice (some ⟨b, 0, none⟩) 1 1, .int .u64 u, .int .i64 10] w fun e w' => ∃ t, e = .returned t ∧ Own w.heap.size 5 w' t (ints .u8 (numB u)) ∧ Below w.heap.size w w' := by
  have hS := Any.internal_strconv_small (P := Tryd.prog) (ρ := layM176_ren) { layM176 with } u hu
  have hlen : 0 < (Lib.decDigits u).length := by rw [Lib.decDigits]; split <;> simp
  have hlen2 : (Lib.decDigits u).length ≤ 4 := by rw [Lib.decDigits_length]; exact nDigits_small4 u (by omega)
  have hsz : (⟨(Lib.decDigits u).toArray⟩ : ByteArray).size = (Lib.decDigits u).length := by simp [ByteArray.size]
  rw [← hsz] at hlen hlen2
  have HE := Lib.hid (strc_digs u)
  generalize (⟨(Lib.decDigits u).toArray⟩ : ByteArray) = str at *
  have hcs : ∀ (j : Nat) (v : Value), [Value.int .u8 98][j]? = some v → w.cell? ⟨b, j, none⟩ = some v := by
    intro j v hj
    match j, hj with
    | 0, hj => simp at hj; subst hj; exact hc
  have HCS := Lib.hid hcs
  have HS : Hid (∀ w, Calls Tryd.prog 36 #[.int .i64 u] w fun e w' => e = .returned (.string str) ∧ w' = w) := hS
  clear hS hcs hsz hc
  go_enter Tryd.func31, Tryd.ntmps31
  go_wp2_with (first | (go_at_call 36; refine (HS.out w).mono ?_; rintro e w' ⟨rfl, hw⟩; obtain rfl := hw.symm) | (at_builtin; refine wpList_appSg rfl _ _ rfl rfl rfl rfl HCS.out (by intro v hv; simp at hv; subst hv; rfl) hlen (by omega) ?_; intro t1 w1 ho1 hg1))
  go_ret
  rw [HE.out] at ho1
  exact ⟨_, rfl, ho1, (Below.refl _ _).grown hg1 (Nat.le_refl _) (fun k hk => by cases hk)⟩
theorem appU_big (b u : Nat) (w : World) (hu : 100 ≤ u) (hu2 : u < 10000) (hc : w.cell? ⟨b, 0, none⟩ = some (.int .u8 98)) (hT : Lib.TabIs Tryd.prog w "internal/strconv.uint64pow10" .u64 Lib.pow10Tab) :
    Calls Tryd.prog 31 #[.slice (some ⟨b, 0, none⟩) 1 1, .int .u64 u, .int .i64 10] w fun e w' => ∃ t, e = .returned t ∧ Own w.heap.size 5 w' t (ints .u8 (numB u)) ∧ Below w.heap.size w w' := by
  have hnd : Lib.nDigits u ≤ 4 := nDigits_small4 u (by omega)
  have hnd1 : 1 ≤ Lib.nDigits u := by
    have : 0 < (Lib.decDigits u).length := by rw [Lib.decDigits]; split <;> simp
    rwa [Lib.decDigits_length] at this
  have hal : Tryd.prog.arrayLen 59 = 24 := by simp [Program.arrayLen, Tryd.underlying59]
  have hsl : ∀ W, (Instr.sliceAt 59 (.pointer (some ⟨w.heap.size, 0, none⟩)) none (some (.int .i64 (Lib.nDigits u : Int))) none).run Tryd.prog W = .ok (.slice (some ⟨w.heap.size, 0, none⟩) (Lib.nDigits u) 24) W := fun W => by
    rw [run_sliceAt_array_h W 59 ⟨w.heap.size, 0, none⟩ (by simp [Program.arrayLen, Program.elem, Tryd.underlying59]) .i64 (Lib.nDigits u : Int) (by omega) (by rw [hal]; omega)]
    go_simp
  have hH0 := Lib.holds_zero0 w 59 (Lib.nDigits u) (by omega)
  have hfmt := Any.internal_strconv_formatBase10 (P := Tryd.prog) (ρ := layM176_ren) { layM176 with } w.heap.size 0 24 u (Array.replicate (Lib.nDigits u) 0) (w.alloc (.cells Lib.zeros24 59)) hH0 (by rw [Array.size_replicate]; exact Lib.lt_pow_nDigits u) (by omega) (by rw [Array.size_replicate]; omega)
  rw [Array.size_replicate] at hfmt
  have HND := Lib.hid (Any.internal_strconv_numDigits (P := Tryd.prog) (ρ := layM176_ren) { layM176 with } u (by omega) (by omega) _ (Lib.tabIs_alloc hT (.cells Lib.zeros24 59)))
  have HH0 := Lib.hid hH0
  have HF := Lib.hid hfmt
  have HC := Lib.hid hc
  have iu : (100 : Int) ≤ (u : Int) := by omega
  clear hH0 hal hfmt hc hT
  go_enter Tryd.func31, Tryd.ntmps31
  go_wp2_with (first | (go_at_call 37; refine (HND.out).mono ?_; rintro e w' ⟨rfl, hw⟩; obtain rfl := hw.symm))
  go_at_call 38
  refine HF.out.mono ?_
  rintro e w' ⟨rfl, k, v', dk, rfl, hF⟩
  obtain ⟨os, eo⟩ := Lib.fin_at w (.cells Lib.zeros24 59) dk k 0
  have hcells : ∀ j u', (Lib.byteCells (Lib.decDigits u))[j]? = some u' → ((Go.Sort.putRow (fun (b : UInt8) => Value.int .u8 (b.toNat : Int)) (w.alloc (.cells Lib.zeros24 59)) w.heap.size 0 dk).drewN k).cell? ((⟨w.heap.size, 0, none⟩ : Addr).add j) = some u' := by
    intro j u' hj
    have hjl : j < (Lib.decDigits u).length := by
      have h5 := (List.getElem?_eq_some_iff.1 hj).1
      rwa [Lib.byteCells_length] at h5
    have e5 : (Lib.byteCells (Lib.decDigits u))[j]? = some (Value.int .u8 ((Lib.decDigits u)[j].toNat : Int)) := by simp [Lib.byteCells, hjl]
    rw [e5] at hj
    cases hj
    rw [Lib.row_is_numeral hF j hjl, Lib.add_plain, World.cell?_drewN]
    exact Go.Sort.cell?_putRow (fun (b : UInt8) => Value.int .u8 (b.toNat : Int)) _ w.heap.size 0 _ dk HH0.out (by rw [hF.size, Array.size_replicate]) j (by rw [hF.size]; rw [Lib.decDigits_length] at hjl; exact hjl)
  have hnx : Below w.heap.size w ((Go.Sort.putRow (fun (b : UInt8) => Value.int .u8 (b.toNat : Int)) (w.alloc (.cells Lib.zeros24 59)) w.heap.size 0 dk).drewN k) := by rw [eo]; exact Lib.below_grow w.heap.size w (Nat.le_refl _) k os
  generalize (Go.Sort.putRow (fun (b : UInt8) => Value.int .u8 (b.toNat : Int)) (w.alloc (.cells Lib.zeros24 59)) w.heap.size 0 dk).drewN k = W2 at hcells hnx ⊢
  clear eo HH0 HF
  have hc2 := cell_keep50 HC.out hnx
  have HC2 : Hid (∀ p, some (⟨b, 0, none⟩ : Addr) = some p → ∀ (j : Nat) (v : Value), [Value.int .u8 98][j]? = some v → W2.cell? (p.add j) = some v) := by
    intro p hp j v hj
    obtain rfl := Option.some.inj hp
    match j, hj with
    | 0, hj => simp at hj; subst hj; rw [addr_add]; exact hc2
  have HCELLS := Lib.hid hcells
  obtain ⟨ht, i, z, hi, hz, hsize, hby, hzs⟩ := slT_u8
  have hib : (1 + Lib.nDigits u) * i.bytes ≤ 140737488355328 := by
    have := Nat.mul_le_mul (show 1 + Lib.nDigits u ≤ 5 by omega) hby
    omega
  have HIB := Lib.hid hib
  clear hcells hc2 hib
  go_wp2_with (at_builtin; refine wpList_append_grows _ rfl _ _ 23 rfl 5 i z 1 i.bytes ht hi hz hsize rfl hzs (by omega) (some ⟨b, 0, none⟩) 1 1 [Value.int .u8 98] rfl (by intro h9; cases h9) rfl HC2.out ⟨w.heap.size, 0, none⟩ (Lib.nDigits u) 24 (Lib.byteCells (Lib.decDigits u)) rfl ?c0 HCELLS.out ?c2 (by omega) ?c3 HIB.out ?_)
  case c0 => rw [Lib.byteCells_length, Lib.decDigits_length, Nat.mul_one]
  case c2 => intro u' hu'; simp only [Lib.byteCells, List.mem_map] at hu'; obtain ⟨b, _, rfl⟩ := hu'; rfl
  case c3 => unfold maxLen; omega
  intro v2 w3 ho2 hg2
  go_wp2
  go_ret
  refine ⟨v2, rfl, ?_, below_trans hnx ((Below.refl W2.heap.size W2).grown hg2 (Nat.le_refl _) (fun k hk => by cases hk))⟩
  replace ho2 : w3.ownsRow W2.heap.size 5 1 v2 (1 + Lib.nDigits u) (ints .u8 (numB u)) := by rw [← bytc_digs]; exact ho2
  have hl : 1 + Lib.nDigits u = (ints .u8 (numB u)).length := by rw [ints_length, numB, List.length_cons, List.length_map, Lib.decDigits_length]; omega
  rw [hl] at ho2
  have ho3 : Own W2.heap.size 5 w3 v2 (ints .u8 (numB u)) := ⟨ho2, ints_one _ _⟩
  exact ho3.mono hnx.size
/-- The boundary of a number, from the literal of the octet 98. -/
theorem appI_lit (b u : Nat) (w : World) (hu2 : u < 10000) (hc : w.cell? ⟨b, 0, none⟩ = some (.int .u8 98)) (hT : Lib.TabIs Tryd.prog w "internal/strconv.uint64pow10" .u64 Lib.pow10Tab) :
    Calls Tryd.prog 11 #[.slice (some ⟨b, 0, none⟩) 1 1, .int .i64 u, .int .i64 10] w fun e w' => ∃ t, e = .returned t ∧ Own w.heap.size 5 w' t (ints .u8 (numB u)) ∧ Below w.heap.size w w' := by
  have hU : Calls Tryd.prog 31 #[.slice (some ⟨b, 0, none⟩) 1 1, .int .u64 u, .int .i64 10] w fun e w' => ∃ t, e = .returned t ∧ Own w.heap.size 5 w' t (ints .u8 (numB u)) ∧ Below w.heap.size w w' := by
    by_cases h : u < 100
    · exact appU_small b u w h hc
    · exact appU_big b u w (by omega) hu2 hc hT
  have HU := Lib.hid hU
  have hI : Calls Tryd.prog 23 #[.slice (some ⟨b, 0, none⟩) 1 1, .int .i64 u, .int .i64 10] w fun e w' => ∃ t, e = .returned t ∧ Own w.heap.size 5 w' t (ints .u8 (numB u)) ∧ Below w.heap.size w w' := by
    clear hc hT hU
    go_enter Tryd.func23, Tryd.ntmps23
    go_wp2_with (go_at_call 31; refine (HU.out).mono ?_; rintro e w1 ⟨t, rfl, ho, hb⟩)
    go_ret
    exact ⟨_, rfl, ho, hb⟩
  have HI := Lib.hid hI
  clear hU hI HU hc hT
  go_enter Tryd.func11, Tryd.ntmps11
  go_wp2_with (go_at_call 23; refine (HI.out).mono ?_; rintro e w1 ⟨t, rfl, ho, hb⟩)
  go_ret
  exact ⟨_, rfl, ho, hb⟩
end Go.Proofs.YtnoffalohplhnaaDoor
namespace Go.Proofs.YtnoffalohplhnaaDoor
open Go.RowKit
set_option maxHeartbeats 4000000
set_option maxRecDepth 100000
theorem freshF_any (u : Value) (x b : List Int) (p : Addr) (vb : Value) (w : World) (hc : w.cell? p = some vb) (hb : Row w vb (ints .u8 b)) (hu : Row w u (ints .u8 x)) (hgx : Rg 0 256 x) (hgb : Rg 0 256 b) (hl : x.length ≤ 900000) (hm : Mx w) :
    Calls Tryd.prog 13 #[u, .pointer (some p)] w fun e w' => e = .returned (.bool (hasM x b)) ∧ Below w.heap.size w w' := by
  have HM := Lib.hid (has_any u vb x b w hu hb hgx hgb hl hm)
  generalize hasM x b = q at *
  clear hb hu hm
  go_enter Tryd.func13, Tryd.ntmps13
  go_wp2_with (go_at_call 14; refine (HM.out).mono ?_; rintro e w1 ⟨rfl, hb1⟩)
  go_ret
  exact ⟨rfl, hb1⟩
theorem conF_any (v : Value) (vs : List Value) (ps : List (List Int)) (b : List Int) (p : Addr) (w : World) (h : Row w v vs) (hp : Pvs w vs ps) (hr : ∀ q ∈ ps, Rg 0 256 q ∧ q.length ≤ 900000) (hl : vs.length ≤ 1000000)
    (hF : ∀ u q w', Below w.heap.size w w' → Row w' u (ints .u8 q) → Rg 0 256 q ∧ q.length ≤ 900000 → Calls Tryd.prog 13 #[u, .pointer (some p)] w' fun e w'' => e = .returned (.bool (hasM q b)) ∧ Below w'.heap.size w' w'') :
    Calls Tryd.prog 12 #[v, .func (.func 13) #[] #[.pointer (some p)]] w fun e w' => e = .returned (.bool (ps.any (fun q => hasM q b))) ∧ Below w.heap.size w w' := by
  have HI := Lib.hid (idxF_any v vs ps b p w h hp hr hl hF)
  obtain ⟨o, ho⟩ : ∃ o, ps.any (fun q => hasM q b) = o := ⟨_, rfl⟩
  rw [ho]
  have HO := Lib.hid ho
  clear h hp hr hF ho
  go_enter Tryd.func12, Tryd.ntmps12
  go_wp2_with (go_at_call 24; refine (HI.out).mono ?_; rintro e w1 ⟨⟨i, rfl, hi⟩, hb1⟩; have HII := Lib.hid (FI_any hi); clear hi)
  go_ret
  exact ⟨ret_bool (by rw [← HO.out, HII.out]), hb1⟩
theorem fresh_any (v : Value) (vs : List Value) (ps : List (List Int)) (w : World) (h : Row w v vs) (hp : Pvs w vs ps) (hr : ∀ q ∈ ps, Rg 0 256 q ∧ q.length ≤ 200) (hl : vs.length ≤ 10) (hm : Tz w) :
    Calls Tryd.prog 6 #[v] w fun e w' => ∃ t N, e = .returned t ∧ N ≤ 2010 ∧ metN ps N = false ∧ (∀ j, j < N → metN ps j = true) ∧ Row w' t (ints .u8 (numB N)) ∧ Below w.heap.size w w' := by
  have kc := fun (w : World) (C : Array Value) (n c : Nat) => Lib.run_convert_bytes_const (P := Tryd.prog) w 23 5 C n c Tryd.underlying23 Tryd.underlying5
  obtain ⟨N0, hN0, hN1⟩ := fresh_ex ps
  have hfl := flat_len ps (fun p hp => (hr p hp).2)
  have hN2 : N0 ≤ 2010 := by have := hp.1; omega
  have HROW := Lib.hid h; have HPV := Lib.hid hp; have HRR := Lib.hid hr; have HM := Lib.hid hm
  have HN1 := Lib.hid hN1
  obtain ⟨a, b0, off, cp, rfl, _⟩ := id h
  clear h hp hr hm hN1 hN0 hfl
  go_enter Tryd.func6, Tryd.ntmps6
  go_wp2
  go_loopw [3] (fun n wr => ∃ k : Nat, n = .int .i64 k ∧ k ≤ N0 ∧ Hid (∀ j, j < k → metN ps j = true) ∧ Below w.heap.size w wr) (fun n _ => N0 + 1 - (intOf n).toNat)
  case atStart => exact ⟨0, rfl, Nat.zero_le _, (fun j hj => absurd hj (Nat.not_lt_zero j) : ∀ j, j < 0 → metN ps j = true), Below.refl _ _⟩
  case round =>
    obtain ⟨k, rfl, hk, HJ, hbw⟩ := hrel
    have HA := Lib.hid (appI_lit wr.heap.size k (wr.alloc (.cells #[.int .u8 98] 5 (1, 2))) (by omega) (cell_of_row _ _ _ _ _ _ (heap_alloc_new wr _)) (HM.out.below (hbw.alloc hbw.size _)).2)
    go_wp2_with fail
    refine HA.out.mono ?_
    rintro e w2 ⟨t2, rfl, ho2, hb2⟩
    replace hb2 : Below wr.heap.size wr w2 := below_trans (below_alloc wr _) hb2
    obtain ⟨a3, b3, o3, c3, rfl, _⟩ := id ho2.row.op
    obtain ⟨n3, hn3⟩ : ∃ n, (numB k).length = n := ⟨_, rfl⟩
    rw [hn3] at ho2 ⊢
    have hr2 := ho2.row
    have HR2 := Lib.hid hr2
    clear ho2 hr2 hn3
    obtain ⟨W, hW⟩ : ∃ W, w2.alloc (.cells #[.slice a3 n3 c3] 23) = W := ⟨_, rfl⟩
    have hbW : Below w2.heap.size w2 W := by rw [← hW]; exact below_alloc w2 _
    have hc : W.cell? ⟨w2.heap.size, 0, none⟩ = some (.slice a3 n3 c3) := by rw [← hW]; exact cell_of_one (heap_alloc_new w2 _)
    have hrW := HR2.out.below hbW
    have hwW := below_trans hbw (below_trans hb2 hbW)
    have hcon := conF_any (.slice a vs.length cp) vs ps (numB k) ⟨w2.heap.size, 0, none⟩ W (HROW.out.below hwW) (HPV.out.below hwW) (fun q hq => ⟨(HRR.out q hq).1, by have := (HRR.out q hq).2; omega⟩) (by omega)
      (fun u q w' hb hu hq => freshF_any u q (numB k) _ (.slice a3 n3 c3) w' (cell_keep50 hc hb) (hrW.below hb) hu hq.1 (fun x hx => by have := numB_rng k x hx; omega) hq.2 (HM.out.1.below (below_trans hwW hb)))
    obtain ⟨o, ho⟩ : ∃ o, metN ps k = o := ⟨_, rfl⟩
    rw [show (ps.any fun q => hasM q (numB k)) = metN ps k from rfl, ho] at hcon
    have HCON := Lib.hid hcon
    have HO := Lib.hid ho
    have HC := Lib.hid hc
    have HRW := Lib.hid hrW
    have HW := Lib.hid hW
    clear hcon ho hc hrW hW
    rcases o with _ | _
    · go_wp2_with fail
      rw [HW.out]
      refine HCON.out.mono ?_
      rintro e w3 ⟨rfl, hb3⟩
      have hc3 := cell_keep50 HC.out hb3
      go_wp2
      go_ret
      exact ⟨_, k, rfl, by omega, HO.out, HJ.out, HRW.out.below hb3, below_trans hwW hb3⟩
    · have hne : k ≠ N0 := by
        rintro rfl
        have h1 := HO.out
        rw [HN1.out] at h1; cases h1
      go_wp2_with fail
      rw [HW.out]
      refine HCON.out.mono ?_
      rintro e w3 ⟨rfl, hb3⟩
      go_wp2
      go_roundw
      case rel => exact ⟨k + 1, by go_num, by omega, (by show ∀ j, j < k + 1 → metN ps j = true; intro j hj; rcases Nat.lt_or_ge j k with h9 | h9; exact HJ.out j h9; rw [show j = k by omega]; exact HO.out), below_trans hwW hb3⟩
      case measure => simp [intOf]; omega
end Go.Proofs.YtnoffalohplhnaaDoor
namespace Go.Proofs.YtnoffalohplhnaaDoor
open Go.RowKit
set_option maxHeartbeats 4000000
set_option maxRecDepth 100000
set_option maxRecDepth 100000 in
theorem like1_quiet (v1 v2 : Value) (xs ys : List Int) (w : World) (h1 : Row w v1 (ints .u8 xs)) (h2 : Row w v2 (ints .u8 ys)) (hl : xs.length ≤ 1000000000) (hl' : ys.length ≤ 1000000000) :
    Calls Tryd.prog 20 #[v1, v2] w fun e w' => e = .returned (.bool (decide (xs = ys))) ∧ ∃ m, w' = w.drewN m := by
  obtain ⟨a1, b1, o1, c1, rfl, HC1⟩ := h1.op
  obtain ⟨a2, b2, o2, c2, rfl, HC2⟩ := h2.op
  clear h1 h2
  by_cases hn : xs.length = ys.length
  · have hne : ((xs.length : Int) != (ys.length : Int)) = false := by simp [hn]
    have HN := Lib.hid hn; clear hn
    go_enter Tryd.func20, Tryd.ntmps20
    go_wp2
    clear hne
    go_loopw [5] (fun i wr => ∃ k : Nat, k ≤ xs.length ∧ i = .int .i64 k ∧ Hid (xs.take k = ys.take k) ∧ ∃ m, Hid (wr = w.drewN m)) (fun i _ => xs.length - (intOf i).toNat)
    case atStart => exact ⟨0, Nat.zero_le _, rfl, rfl, 0, rfl⟩
    case round =>
      obtain ⟨k, hk, rfl, HT, m0, HW⟩ := hrel
      have hb : Below w.heap.size w wr := by rw [HW.out]; exact below_drewN (Below.refl _ _) _
      by_cases hlt : k < xs.length
      · have hlt2 : k < ys.length := by have := HN.out; omega
        obtain ⟨x, HX, rfl, hc⟩ := HC1.out k hlt
        obtain ⟨y, HY, rfl, hd⟩ := HC2.out k hlt2
        replace hc := hc _ hb
        replace hd := hd _ hb
        by_cases hxy : x = y
        · subst hxy
          go_wp2_with fail
          go_quiet (fail)
          go_wp2
          go_roundw
          case rel => exact ⟨k + 1, by omega, by go_num, (by rw [List.take_add_one, List.take_add_one, HX.out, HY.out, HT.out] : xs.take (k + 1) = ys.take (k + 1)), m0 + nq, (by rw [HW.out, World.drewN_drewN] : wr.drewN nq = w.drewN (m0 + nq))⟩
          case measure => simp [intOf]; omega
        · have hne : (x != y) = true := by simpa using hxy
          go_wp2_with fail
          go_quiet (fail)
          go_wp2
          go_ret
          refine ⟨ret_bool (decide_eq_false ?_).symm, m0 + nq, by rw [HW.out, World.drewN_drewN]⟩
          intro he
          subst he
          exact hxy (Option.some.inj (HX.out.symm.trans HY.out))
      · go_wp2
        go_ret
        refine ⟨ret_bool (decide_eq_true ?_).symm, m0, HW.out⟩
        have := HT.out
        rwa [List.take_of_length_le (by omega), List.take_of_length_le (by have := HN.out; omega)] at this
  · have hne : ((xs.length : Int) != (ys.length : Int)) = true := by rw [bne_iff_ne]; omega
    have HN := Lib.hid hn; clear hn
    go_enter Tryd.func20, Tryd.ntmps20
    go_wp2
    go_ret
    exact ⟨ret_bool (decide_eq_false (fun h => HN.out (by rw [h]))).symm, 0, rfl⟩
theorem like1_same (v1 v2 : Value) (xs : List Int) (w : World) (h1 : Row w v1 (ints .u8 xs)) (h2 : Row w v2 (ints .u8 xs)) (hl : xs.length ≤ 1000000) :
    Calls Tryd.prog 20 #[v1, v2] w fun e w' => e = .returned (.bool true) ∧ ∃ m, w' = w.drewN m := by
  have := like1_quiet v1 v2 xs xs w h1 h2 (by omega) (by omega)
  rw [decide_eq_true rfl] at this; exact this
theorem same_any (v1 v2 : Value) (vs1 vs2 : List Value) (ps : List (List Int)) (w : World) (h1 : Row w v1 vs1) (p1 : Pvs w vs1 ps) (h2 : Row w v2 vs2) (p2 : Pvs w vs2 ps) (hl : ps.length ≤ 1000) (hpl : ∀ p ∈ ps, p.length ≤ 1000000) :
    Calls Tryd.prog 9 #[v1, v2] w fun e w' => e = .returned (.bool true) ∧ Below w.heap.size w w' := by
  obtain ⟨a1, b1, o1, c1, rfl, _, _, ha1, _, hc1⟩ := h1
  obtain ⟨a2, b2, o2, c2, rfl, _, _, ha2, _, hc2⟩ := h2
  have hl1 := p1.1
  have hl2 := p2.1
  have HV1 := Lib.hid p1.2; have HV2 := Lib.hid p2.2
  have HA1 := Lib.hid ha1; have HA2 := Lib.hid ha2; have HC1 := Lib.hid hc1; have HC2 := Lib.hid hc2
  have HPL := Lib.hid hpl
  clear ha1 ha2 hc1 hc2 p1 p2 hpl
  rw [hl1, hl2]
  go_enter Tryd.func9, Tryd.ntmps9
  go_wp2
  go_loopw [13] (fun i wr => ∃ (k : Nat), i = .int .i64 k ∧ k ≤ ps.length ∧ Below w.heap.size w wr) (fun i _ => ps.length - (intOf i).toNat)
  case atStart => exact ⟨0, rfl, Nat.zero_le _, Below.refl _ _⟩
  case round =>
    obtain ⟨k, rfl, hk, hbr⟩ := hrel
    by_cases hlt : k < ps.length
    · obtain ⟨p, hp⟩ : ∃ p, ps[k]? = some p := ⟨_, List.getElem?_eq_getElem hlt⟩
      obtain ⟨u1, hv1⟩ : ∃ v1, vs1[k]? = some v1 := ⟨_, List.getElem?_eq_getElem (by omega)⟩
      obtain ⟨u2, hv2⟩ : ∃ v2, vs2[k]? = some v2 := ⟨_, List.getElem?_eq_getElem (by omega)⟩
      have r1 := (HV1.out k u1 p hv1 hp).below hbr
      have r2 := (HV2.out k u2 p hv2 hp).below hbr
      have d1 := cell_keep50 (HC1.out k u1 hv1) hbr
      have d2 := cell_keep50 (HC2.out k u2 hv2) hbr
      rcases HA1.out with rfl | ⟨h0, _⟩
      case inr => rw [h0] at hl1; simp at hl1; omega
      rcases HA2.out with rfl | ⟨h0, _⟩
      case inr => rw [h0] at hl2; simp at hl2; omega
      obtain ⟨a3, b3, o3, c3, rfl, _⟩ := id r1.op
      obtain ⟨a4, b4, o4, c4, rfl, _⟩ := id r2.op
      have hpl := HPL.out p (List.mem_of_getElem? hp)
      clear hp hv1 hv2
      go_wp2_with fail
      go_quiet ((go_at_call 20; exact Calls.quiet_of (like1_same _ _ p _ (r1.drewN _) (r2.drewN _) hpl)))
      go_wp2
      go_roundw
      case rel => exact ⟨k + 1, by go_num, by omega, below_drewN hbr _⟩
      case measure => simp [intOf]; omega
    · go_wp2
      go_ret
      exact ⟨rfl, hbr⟩
def farF (ps : List (List Int)) : Bool := (ps.take (min ps.length 10)).any (fun p => decide (200 < p.length)) || decide (10 < ps.length)
theorem farF_no {ps : List (List Int)} (h : farF ps = false) : ps.length ≤ 10 ∧ ∀ p ∈ ps, p.length ≤ 200 := by
  unfold farF at h
  obtain ⟨h1, h2⟩ := Bool.or_eq_false_iff.1 h
  have h2 := of_decide_eq_false h2
  refine ⟨by omega, fun p hp => ?_⟩
  rw [List.take_of_length_le (by omega)] at h1
  have := List.any_eq_false.1 h1 p hp
  simp at this; omega
theorem far_any (v : Value) (vs : List Value) (ps : List (List Int)) (w : World) (h : Row w v vs) (hp : Pvs w vs ps) :
    Calls Tryd.prog 4 #[v] w fun e w' => e = .returned (.bool (farF ps)) ∧ w' = w := by
  obtain ⟨a, b, off, cp, rfl, hc, hM, ha, _, hcell⟩ := h
  have hlv := hp.1
  have HP := Lib.hid hp; have HA := Lib.hid ha; have HCL := Lib.hid hcell
  obtain ⟨m, hm⟩ : ∃ m, min ps.length 10 = m := ⟨_, rfl⟩
  have hm1 : m ≤ ps.length := by omega
  have hm2 : m ≤ 10 := by omega
  have hmi : min (vs.length : Int) 10 = (m : Int) := by omega
  have hmc : (m : Int) ≤ (cp : Int) := by omega
  have hm0 : (0 : Int) ≤ (m : Int) := by omega
  unfold farF
  rw [hm]
  obtain ⟨q, hq⟩ : ∃ q, (ps.take m).any (fun p => decide (200 < p.length)) = q := ⟨_, rfl⟩
  rw [hq]
  have HQ := Lib.hid hq
  have HM := Lib.hid hm
  clear hp ha hcell hq hm
  go_enter Tryd.func4, Tryd.ntmps4
  go_wp2
  go_loopw [11] (fun i wr => ∃ k : Nat, i = .int .i64 k ∧ k ≤ m ∧ Hid (∀ p ∈ ps.take k, p.length ≤ 200) ∧ wr = w) (fun i _ => m - (intOf i).toNat)
  case atStart => exact ⟨0, rfl, Nat.zero_le _, (fun y hy => by simp at hy : ∀ p ∈ ps.take 0, p.length ≤ 200), rfl⟩
  case round =>
    obtain ⟨k, rfl, hk, HK, hw0⟩ := hrel
    obtain rfl := hw0.symm
    by_cases hlt : k < m
    · obtain ⟨u, p, hu, hpk, hru⟩ := HP.out.get (i := k) (by omega)
      have hcc := HCL.out k u hu
      obtain rfl : a = some ⟨b, off, none⟩ := by
        rcases HA.out with h9 | ⟨h9, _⟩
        · exact h9
        · rw [h9] at hlv; simp at hlv; omega
      obtain ⟨au, bu, ou, cu, rfl, _⟩ := id hru.op
      have HPK := Lib.hid hpk
      clear hpk hru hu
      by_cases h200 : p.length ≤ 200
      · go_wp2
        go_roundw
        case rel => exact ⟨k + 1, by go_num, by omega, (by show ∀ p ∈ ps.take (k + 1), p.length ≤ 200; intro y hy; rw [List.take_add_one, HPK.out] at hy; rcases List.mem_append.1 hy with h9 | h9; exact HK.out y h9; simp at h9; subst h9; exact h200), by first | rfl | trivial⟩
        case measure => simp [intOf]; omega
      · obtain rfl : q = true := by
          rw [← HQ.out]
          refine List.any_eq_true.2 ⟨p, ?_, decide_eq_true (by omega)⟩
          refine List.mem_of_getElem? (i := k) ?_
          rw [List.getElem?_take, if_pos hlt]; exact HPK.out
        go_wp2
        go_ret
        exact ⟨ret_bool (by simp), rfl⟩
    · obtain rfl : q = false := by
        rw [← HQ.out]
        refine List.any_eq_false.2 fun p hp => ?_
        have := HK.out p (by rw [show k = m by omega]; exact hp)
        simp; omega
      go_wp2
      go_ret
      exact ⟨ret_bool (by rw [decide_eq_decide]; omega), rfl⟩
theorem size1 (w : World) (o : Obj) : (w.alloc o).heap.size = w.heap.size + 1 := by simp
theorem size2 (w : World) (o o2 : Obj) : ((w.alloc o).alloc o2).heap.size = w.heap.size + 1 + 1 := by simp
theorem kc_1 (w : World) (o : Obj) (C : Array Value) (n c : Nat) : (convert 23 23 (.slice (some ⟨w.heap.size + 1, 0, none⟩) n c)).run Tryd.prog ((w.alloc o).alloc (.cells C 5)) = .ok (.slice (some ⟨w.heap.size + 1, 0, none⟩) n c) ((w.alloc o).alloc (.cells C 5 (C.size, C.size + 1))) := by
  have := Lib.run_convert_bytes_const (P := Tryd.prog) (w.alloc o) 23 5 C n c Tryd.underlying23 Tryd.underlying5
  rw [size1] at this
  exact this
theorem kc_2 (w : World) (o o2 : Obj) (C : Array Value) (n c : Nat) : (convert 23 23 (.slice (some ⟨w.heap.size + 1 + 1, 0, none⟩) n c)).run Tryd.prog (((w.alloc o).alloc o2).alloc (.cells C 5)) = .ok (.slice (some ⟨w.heap.size + 1 + 1, 0, none⟩) n c) (((w.alloc o).alloc o2).alloc (.cells C 5 (C.size, C.size + 1))) := by
  have := Lib.run_convert_bytes_const (P := Tryd.prog) ((w.alloc o).alloc o2) 23 5 C n c Tryd.underlying23 Tryd.underlying5
  rw [size2] at this
  exact this
theorem flit_1 (w : World) (o : Obj) {E : TypeId} {k : IntKind} {f : Nat × Nat} (xs : List Int) (cs : List Value) (hx : ints k xs = cs) (hl : cs.length ≤ 1000000000) :
    Row ((w.alloc o).alloc (.cells cs.toArray E f)) (.slice (some ⟨w.heap.size + 1, 0, none⟩) cs.length cs.length) (ints k xs) := by
  have := Row.flit (w := w.alloc o) (E := E) (f := f) xs cs hx hl
  rw [size1] at this; exact this
theorem flit_2 (w : World) (o o2 : Obj) {E : TypeId} {k : IntKind} {f : Nat × Nat} (xs : List Int) (cs : List Value) (hx : ints k xs = cs) (hl : cs.length ≤ 1000000000) :
    Row (((w.alloc o).alloc o2).alloc (.cells cs.toArray E f)) (.slice (some ⟨w.heap.size + 1 + 1, 0, none⟩) cs.length cs.length) (ints k xs) := by
  have := Row.flit (w := (w.alloc o).alloc o2) (E := E) (f := f) xs cs hx hl
  rw [size2] at this; exact this
theorem lit_1 (w : World) (o : Obj) {E : TypeId} (cs : List Value) (h1 : ∀ u ∈ cs, u.oneCell' = true) (hl : cs.length ≤ 1000000000) :
    Row ((w.alloc o).alloc (.cells cs.toArray E)) (.slice (some ⟨w.heap.size + 1, 0, none⟩) cs.length cs.length) cs := by
  have := Row.lit (w := w.alloc o) (E := E) cs h1 hl
  rw [size1] at this; exact this
theorem facts50 : splitM [121, 13, 10, 45, 45, 120, 13, 10, 97, 13, 10, 45, 45, 120, 45, 45, 32, 13, 10, 122] [120] = ([[97]], true) ∧ layM [[97]] [120] = ([45, 45, 120, 13, 10, 97, 13, 10, 45, 45, 120, 45, 45, 13, 10], 0) := by
  refine ⟨?_, ?_⟩ <;> first | rfl | decide
theorem fact50b : numB 0 = [98, 48] := by
  rw [numB, Lib.decDigits]; simp
theorem alive50_any (w : World) (hm : Tz w) : Calls Tryd.prog 5 #[] w fun e w' => e = .returned (.bool true) ∧ Below w.heap.size w w' := by
  have kc := fun (w : World) (C : Array Value) (n c : Nat) => Lib.run_convert_bytes_const (P := Tryd.prog) w 23 5 C n c Tryd.underlying23 Tryd.underlying5
  obtain ⟨f1, f2⟩ := facts50
  have h1 := fun v v2 w' h h2 hm' => msplit_any v v2 [121, 13, 10, 45, 45, 120, 13, 10, 97, 13, 10, 45, 45, 120, 45, 45, 32, 13, 10, 122] [120] w' h h2 (by intro x hx; simp at hx; omega) (by intro x hx; simp at hx; omega) (by simp) hm'
  have h2 := fun v v2 vs w' h hp h2 hl hm' => lay_any v v2 vs [[97]] [120] w' h hp h2 (by intro q hq; simp at hq; subst hq; exact ⟨by intro x hx; simp at hx; omega, by simp⟩) (by intro x hx; simp at hx; omega) (by simp) hl hm'
  simp only [f1] at h1
  simp only [f2] at h2
  have h3 := fun w' hm' => fresh_any (.slice none 0 0) [] [] w' (Row.nil _) (Pvs.nil _) (by simp) (by simp) hm'
  have H1 := Lib.hid h1; have H2 := Lib.hid h2; have H3 := Lib.hid h3
  have HM := Lib.hid hm
  clear h1 h2 h3 f1 f2 hm
  have kc1 := kc_1
  have kc2 := kc_2
  go_enter Tryd.func5, Tryd.ntmps5
  go_wp2_with fail
  refine (H1.out _ _ _ ((Row.flit [121, 13, 10, 45, 45, 120, 13, 10, 97, 13, 10, 45, 45, 120, 45, 45, 32, 13, 10, 122] [_, _, _, _, _, _, _, _, _, _, _, _, _, _, _, _, _, _, _, _] rfl (by simp)).alloc _) (flit_1 w _ [120] [_] rfl (by simp)) (HM.out.1.below (((Below.refl w.heap.size w).alloc (Nat.le_refl _) _).alloc (by simp) _))).mono ?_
  rintro e w1 ⟨t, vs, rfl, hr, hp, hb1⟩
  have hB1 : Below w.heap.size w w1 := (((Below.refl w.heap.size w).alloc (Nat.le_refl _) _).alloc (by simp) _).trans (hb1.mono (by simp; omega))
  obtain ⟨u, rfl⟩ : ∃ u, vs = [u] := by
    have := hp.1
    match vs, this with
    | [u], _ => exact ⟨u, rfl⟩
  have hru := hp.2 0 u [97] rfl rfl
  obtain ⟨au, bu, ou, cu, rfl, _⟩ := id hru.op
  obtain ⟨a, b, off, cp, rfl, _, _, ha, _, hcell⟩ := hr
  obtain rfl : a = some ⟨b, off, none⟩ := by
    rcases ha with h9 | ⟨h9, _⟩
    · exact h9
    · cases h9
  have hc0 : w1.cell? ⟨b, off, none⟩ = some (.slice au 1 cu) := by
    have := hcell 0 _ rfl
    rw [Nat.add_zero] at this
    exact this
  replace hru : Row w1 (.slice au 1 cu) (ints .u8 [97]) := hru
  have HRU := Lib.hid hru
  clear hcell ha hp hb1
  go_wp2_with fail
  have hx1 : Row (w1.alloc (.cells #[.int .u8 97] 5 (1, 2))) (.slice (some ⟨w1.heap.size, 0, none⟩) 1 1) (ints .u8 [97]) := Row.flit [97] [_] rfl (by simp)
  have hx2 := lit_1 w1 (.cells #[.int .u8 97] 5 (1, 2)) (E := 23) [.slice (some ⟨w1.heap.size, 0, none⟩) 1 1] (by intro u hu; simp at hu; subst hu; rfl) (by simp)
  have hBB : Below w1.heap.size w1 (((w1.alloc (.cells #[.int .u8 97] 5 (1, 2))).alloc (.cells #[.slice (some ⟨w1.heap.size, 0, none⟩) 1 1] 23)).alloc (.cells #[.int .u8 120] 5 (1, 2))) := (((Below.refl w1.heap.size w1).alloc (Nat.le_refl _) _).alloc (by simp) _).alloc (by simp; omega) _
  refine (H2.out _ _ [.slice (some ⟨w1.heap.size, 0, none⟩) 1 1] _ (hx2.alloc _) (Pvs.cons ((hx1.alloc _).alloc _) (Pvs.nil _)) (flit_2 w1 _ _ [120] [_] rfl (by simp)) (by simp) (HM.out.1.below (below_trans hB1 hBB))).mono ?_
  rintro e w2 ⟨t2, rfl, hr2, hb2⟩
  have hB12 := below_trans hBB hb2
  have hB2 := below_trans hB1 hB12
  have hc02 := cell_keep50 hc0 hB12
  have hru2 := HRU.out.below hB12
  obtain ⟨a2, b2, o2, c2, rfl, _⟩ := id hr2.op
  replace hr2 : Row w2 (.slice a2 15 c2) (ints .u8 [45, 45, 120, 13, 10, 97, 13, 10, 45, 45, 120, 45, 45, 13, 10]) := hr2
  have cv1 := rowstr2 [97] hru2
  have cv2 := rowstr2 _ hr2
  rw [show strOfNums [97] = ⟨#[97]⟩ from by first | rfl | decide] at cv1
  rw [show strOfNums [45, 45, 120, 13, 10, 97, 13, 10, 45, 45, 120, 45, 45, 13, 10] = ⟨#[45, 45, 120, 13, 10, 97, 13, 10, 45, 45, 120, 45, 45, 13, 10]⟩ from by first | rfl | decide] at cv2
  have HT2 := Lib.hid (HM.out.below hB2)
  clear hx1 hx2 hBB hb2 hr2 hru2 hc0
  go_wp2_with fail
  refine (H3.out w2 HT2.out).mono ?_
  rintro e w3 ⟨t3, N, rfl, _, _, hmin, hr3, hb3⟩
  obtain rfl : N = 0 := by
    rcases Nat.eq_zero_or_pos N with h9 | h9
    · exact h9
    · have := hmin 0 h9
      simp [metN] at this
  rw [fact50b] at hr3
  obtain ⟨a3, b3, o3, c3, rfl, _⟩ := id hr3.op
  replace hr3 : Row w3 (.slice a3 2 c3) (ints .u8 [98, 48]) := hr3
  have cv3 := rowstr2 _ hr3
  rw [show strOfNums [98, 48] = ⟨#[98, 48]⟩ from by first | rfl | decide] at cv3
  clear hmin
  go_wp2
  go_ret
  exact ⟨rfl, below_trans hB2 hb3⟩
end Go.Proofs.YtnoffalohplhnaaDoor
