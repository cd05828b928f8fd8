/- Walks: lines split and joined (lines.Split, lines.Join). · Walks: whether a part has a mark, and the parts of any octets (multi.has, multi.Split). (laid together by program out of single texts). -/
import Derived.Test.YtnoffalohplhnaaDoorM12
import Derived.Test.YtnoffalohplhnaaDoorM13
namespace Go.Proofs.YtnoffalohplhnaaDoor
open Go.RowKit
set_option maxHeartbeats 4000000
set_option maxRecDepth 100000
theorem wpList_appS {w : World} {ops : Array Oper} {rest : List Oper} {o : Oper} {a : Act} {Q : Exit → Act → World → Prop} (B : Nat)
    (s x : Operand) (hg : Region.wanted o (yielded ops a.tmps) = true) (ho : o.op = .call { callee := .builtin .append, args := #[s, x], argTypes := #[23, 9] })
    {v : Value} {str : ByteArray} (hs : a.eval s = v) (hx : a.eval x = .string str) {cs : List Value} (hown : Own B 5 w v cs) (hb : cs.length + str.size ≤ 1000000000) (hB : B ≤ w.heap.size)
    (h : ∀ v' w', Own B 5 w' v' (cs ++ Lib.strCells str) → w.grownBy w' v.ownBlock → wpList Tryd.prog ops Q rest (a.put o.dst v') w') : wpList Tryd.prog ops Q (o :: rest) a w :=
  wpList_wanted hg (wp_appS B s x ho hs hx hown hb hB h)
/-- Slices of other elements lie in other blocks. -/
theorem Own.apart {B B' : Nat} {E E' : TypeId} {w : World} {v v' : Value} {cs cs' : List Value} (h : Own B E w v cs) (h' : Own B' E' w v' cs') (hE : E ≠ E') : v.ownBlock = none ∨ v.ownBlock ≠ v'.ownBlock := by
  rcases h.1.2 with ⟨rfl, _⟩ | ⟨g, cap, cur, rfl, _, hg, _⟩
  · exact .inl rfl
  · right
    rcases h'.1.2 with ⟨rfl, _⟩ | ⟨g', cap', cur', rfl, _, hg', _⟩
    · simp [Value.ownBlock]
    · intro e
      simp only [Value.ownBlock, Option.some.injEq] at e
      subst e
      rw [hg] at hg'
      injection hg' with e1
      injection e1 with _ e2
      exact hE e2
theorem Own.other {B B' : Nat} {E E' : TypeId} {w w' : World} {v v' : Value} {cs cs' : List Value} (h : Own B E w v cs) (h' : Own B' E' w v' cs') (hE : E ≠ E') (hg : w.grownBy w' v'.ownBlock) : Own B E w' v cs :=
  ⟨h.1.kept hg (h.apart h' hE), h.2⟩
/-- The slices vs hold the octets ps: slices of the world w1, or of blocks of their own behind it. -/
def Pcs (w1 w : World) (vs : List Value) (ps : List (List Int)) : Prop :=
  vs.length = ps.length ∧ ∀ (i : Nat) (v : Value) (p : List Int), vs[i]? = some v → ps[i]? = some p → Row w1 v (ints .u8 p) ∨ Own w1.heap.size 5 w v (ints .u8 p)
theorem Pcs.nil (w1 w : World) : Pcs w1 w [] [] := ⟨rfl, by simp⟩
theorem Pcs.pvs {w1 w : World} {vs : List Value} {ps : List (List Int)} (h : Pcs w1 w vs ps) (hb : Below w1.heap.size w1 w) : Pvs w vs ps :=
  ⟨h.1, fun i v p h1 h2 => by
    rcases h.2 i v p h1 h2 with h | h
    · exact h.below hb
    · exact h.row⟩
theorem Pcs.below {w1 w w' : World} {vs : List Value} {ps : List (List Int)} (h : Pcs w1 w vs ps) (hb : Below w.heap.size w w') : Pcs w1 w' vs ps :=
  ⟨h.1, fun i v p h1 h2 => (h.2 i v p h1 h2).imp id (·.below hb)⟩
theorem Pcs.other {w1 w w' : World} {B' : Nat} {vs : List Value} {ps : List (List Int)} {v' : Value} {cs' : List Value} (h : Pcs w1 w vs ps) (h' : Own B' 23 w v' cs') (hg : w.grownBy w' v'.ownBlock) : Pcs w1 w' vs ps :=
  ⟨h.1, fun i v p h1 h2 => (h.2 i v p h1 h2).imp id (·.other h' (by decide) hg)⟩
theorem Pcs.snoc {w1 w : World} {vs : List Value} {ps : List (List Int)} {v : Value} {p : List Int} (h : Pcs w1 w vs ps) (hv : Row w1 v (ints .u8 p) ∨ Own w1.heap.size 5 w v (ints .u8 p)) : Pcs w1 w (vs ++ [v]) (ps ++ [p]) := by
  refine ⟨by simp [h.1], fun i u q h1 h2 => ?_⟩
  rcases Nat.lt_or_ge i vs.length with hi | hi
  · rw [List.getElem?_append_left hi] at h1
    rw [List.getElem?_append_left (by rw [← h.1]; exact hi)] at h2
    exact h.2 i u q h1 h2
  · rw [List.getElem?_append_right hi] at h1
    rw [List.getElem?_append_right (by rw [← h.1]; exact hi), ← h.1] at h2
    cases hk : i - vs.length with
    | zero => rw [hk] at h1 h2; simp at h1 h2; subst h1 h2; exact hv
    | succ n => rw [hk] at h1; simp at h1
/-- Cut's two pieces, read in an elder world. -/
theorem cut2_at (v v2 : Value) (xs : List Int) (w0 w : World) (h0 : Row w0 v (ints .u8 xs)) (hb0 : Below w0.heap.size w0 w) (h2 : Row w v2 (ints .u8 [13, 10])) (hg : Rg 0 256 xs) (hl : xs.length ≤ 1000000) (hm : Mx w) :
    Calls Tryd.prog 28 #[v, v2] w fun e w' => ∃ a b ok, e = .returned (.tuple #[a, b, .bool ok]) ∧ Row w0 a (ints .u8 (pre2 xs)) ∧ Row w0 b (ints .u8 (suf2 xs)) ∧ Below w.heap.size w w' := by
  have h := h0.below hb0
  obtain ⟨a1, b1, o1, c1, rfl, _⟩ := id h.op
  obtain ⟨a2, b2, o2, c2, rfl, _⟩ := id h2.op
  obtain ⟨m, hm⟩ := hm
  obtain ⟨_, hc1, hc1m, hn1⟩ := h.ncap
  refine (Any.bytes_Cut_all laySlT4 a1 a2 xs.length c1 2 c2 xs [13, 10] m w rfl rfl hg (by decide) h.bin h2.bin (fun hp => (hn1 hp).1) hc1 (by omega) (by omega) hm).mono ?_
  rintro e w' ⟨rfl, q, rfl⟩
  have hbw : Below w.heap.size w (w.drewN q) := below_drewN (Below.refl _ _) q
  have hi := index2_eq xs hg
  rw [show Lib.bytesOf [13, 10] = [13, 10] from rfl, hi]
  have hs := idx2_spec xs
  unfold pre2 suf2
  cases hx : idx2 xs with
  | none => exact ⟨_, _, _, rfl, h0, Row.nil _, hbw⟩
  | some i =>
    obtain ⟨hlen, _, _⟩ := hs.2 i hx
    show ∃ a b ok, Ending.returned (Lib.cutV a1 xs.length c1 2 (i : Int)) = _ ∧ _
    unfold Lib.cutV
    rw [if_pos (by omega)]
    refine ⟨_, _, _, rfl, ?_, ?_, hbw⟩
    · have := h0.pre50 i c1 (by rw [ints_length]; omega) (by omega) (Nat.le_refl _)
      rw [ints_take] at this
      exact this
    · have := Row.sub h0 a1 c1 (by rw [ints_length]) (i + 2) xs.length (by omega) (by rw [ints_length]; omega)
      rw [ints_take, List.take_length, ints_drop] at this
      have e : sliced a1 (i + 2) xs.length c1 1 = Lib.fromV a1 xs.length c1 ((i : Int).toNat + 2) := by
        unfold sliced Lib.fromV
        simp
      rw [e] at this
      exact this
theorem linesSplit_any (v : Value) (xs : List Int) (w : World) (h : Row w v (ints .u8 xs)) (hg : Rg 0 256 xs) (hl : xs.length ≤ 1000000) (hm : Mx w) :
    Calls Tryd.prog 18 #[v] w fun e w' => ∃ t vs, e = .returned t ∧ Row w' t vs ∧ Pvs w' vs (lnS xs) ∧ Below w.heap.size w w' := by
  have kc := fun (w : World) (C : Array Value) (n c : Nat) => Lib.run_convert_bytes_const (P := Tryd.prog) w 23 5 C n c Tryd.underlying23 Tryd.underlying5
  have HM := Lib.hid hm
  have HV := Lib.hid h
  have HG := Lib.hid hg
  obtain ⟨a0, b0, o0, c0, rfl, _⟩ := id h.op
  clear hm h hg
  go_enter Tryd.func18, Tryd.ntmps18
  go_wp2
  go_loopw [0, 3] (fun s o wr => ∃ ys vs ds, Hid (Row w s (ints .u8 ys)) ∧ Hid (Own w.heap.size 23 wr o vs) ∧ Hid (Pcs w wr vs ds) ∧ Hid (ds ++ lnS ys = lnS xs) ∧ Hid (Rg 0 256 ys) ∧ vs.length + ys.length ≤ xs.length ∧ Below w.heap.size w wr) (fun s _ _ => lenOf s)
  case atStart => exact ⟨xs, [], [], HV.out, Own.nil _ _ _, Pcs.nil _ _, (by show [] ++ lnS xs = lnS xs; rfl), HG.out, by simp, Below.refl _ _⟩
  case round =>
    obtain ⟨ys, vs, ds, HR, HO, HP, HE, HGY, hlen, hbw⟩ := hrel
    obtain ⟨a1, b1, o1, c1, rfl, _⟩ := id HR.out.op
    by_cases hy : ys = []
    · subst hy
      go_wp2
      go_ret
      refine ⟨_, vs, rfl, HO.out.row, ?_, hbw⟩
      have := HE.out
      rw [lnS, List.append_nil] at this
      rw [← this]; exact HP.out.pvs hbw
    · obtain ⟨h8, h9⟩ := suf2_len hy
      have h0 : 0 < ys.length := List.length_pos_iff.2 hy
      have hC := cut2_at (.slice a1 ys.length c1) (.slice (some ⟨wr.heap.size, 0, none⟩) 2 2) ys w (wr.alloc (.cells #[.int .u8 13, .int .u8 10] 5 (2, 3))) HR.out (hbw.alloc hbw.size _) (Row.flit [_, _] [_, _] rfl (by simp)) HGY.out (by omega) (HM.out.below (hbw.alloc hbw.size _))
      have HC := Lib.hid hC
      have HNE := Lib.hid hy
      obtain ⟨k1, hk1⟩ : ∃ k, (pre2 ys).length = k := ⟨_, rfl⟩
      obtain ⟨k2, hk2⟩ : ∃ k, (suf2 ys).length = k := ⟨_, rfl⟩
      rw [hk2] at h8
      rw [hk1] at h9
      have HK1 := Lib.hid hk1
      have HK2 := Lib.hid hk2
      clear hC hy hk1 hk2
      go_wp2_with fail
      refine HC.out.mono ?_
      rintro e w2 ⟨t1, t2, ok, rfl, hr1, hr2, hb2⟩
      replace hb2 : Below wr.heap.size wr w2 := below_trans (below_alloc wr _) hb2
      go_wp2_with fail
      refine (bclone_any _ _ _ (hr1.below (below_trans hbw hb2)) (by rw [HK1.out]; omega)).mono ?_
      rintro e w3 ⟨t3, rfl, ho3, hb3⟩
      have hb23 := below_trans hb2 hb3
      have ho3' := ho3.mono (Nat.le_trans hbw.size hb2.size)
      obtain ⟨a3, b3, o3, c3, rfl, _⟩ := id ho3.row.op
      go_wp2_with (at_builtin; refine wpList_app slT_bb _ _ _ rfl rfl rfl rfl ((HO.out.below hb23).alloc _) (Row.lit [_] (by intro u hu; simp at hu; subst hu; exact ho3.row.one) (by simp)) (by simp; omega) (by have := hb23.size; have := hbw.size; simp at this ⊢; omega) ?_; intro t4 w4 hown4 hg4)
      go_roundw
      case rel =>
        have hP4 := (((HP.out.below hb23).snoc (.inr ho3')).below (below_alloc w3 _)).other ((HO.out.below hb23).alloc _) hg4
        refine ⟨suf2 ys, vs ++ [Value.slice a3 (pre2 ys).length c3], ds ++ [pre2 ys], hr2, hown4, hP4, ?_, HGY.out.suf2, ?_, ?_⟩
        · show ds ++ [pre2 ys] ++ lnS (suf2 ys) = lnS xs
          rw [← HE.out, lnS_pre2 HNE.out]; simp
        · rw [HK2.out]; simp; omega
        · exact below_app (below_trans hbw hb23) (below_alloc _ _) ((HO.out.below hb23).alloc _) hg4
      case measure =>
        obtain ⟨a2, b2, o2, c2, rfl, _⟩ := id hr2.op
        simp [lenOf]; rw [HK2.out]; omega
/-- Lines joined, each ended. -/
def endC (l : List (List Int)) : List Int := l.flatMap (fun p => p ++ [13, 10])
theorem endC_len (l : List (List Int)) : (endC l).length = lensC l := by
  induction l with
  | nil => rfl
  | cons p r ih => simp only [endC, lensC, List.flatMap_cons, List.length_append, List.map_cons, List.sum_cons, List.length_cons, List.length_nil] at ih ⊢; omega
theorem endC_snoc {l : List (List Int)} {k : Nat} {p : List Int} (h : l[k]? = some p) : endC (l.take (k + 1)) = endC (l.take k) ++ p ++ [13, 10] := by
  rw [List.take_add_one, h]; simp [endC]
theorem lensC_take (l : List (List Int)) (k : Nat) : lensC (l.take k) ≤ lensC l := by
  induction l generalizing k with
  | nil => simp
  | cons p r ih =>
    cases k with
    | zero => simp [lensC]
    | succ k => have := ih k; simp only [lensC, List.take_succ_cons, List.map_cons, List.sum_cons] at this ⊢; omega
theorem strcrlf : Lib.strCells ⟨#[13, 10]⟩ = ints .u8 [13, 10] := by first | rfl | simp [Lib.strCells, ints]
theorem linesJoin_any (v : Value) (vs : List Value) (ps : List (List Int)) (w : World) (h : Row w v vs) (hp : Pvs w vs ps) (hl : vs.length ≤ 1000000) (hs : lensC ps ≤ 1000000) :
    Calls Tryd.prog 15 #[v] w fun e w' => ∃ t, e = .returned t ∧ Own w.heap.size 5 w' t (ints .u8 (endC ps)) ∧ Below w.heap.size w w' := by
  obtain ⟨a, b0, off, cp, rfl, hcp, hM, ha, h1, hcell⟩ := h
  have HP := Lib.hid hp
  have HCL := Lib.hid hcell
  have HA := Lib.hid ha
  have HS := Lib.hid hs
  clear hp hcell ha h1 hcp hM hs
  go_enter Tryd.func15, Tryd.ntmps15
  go_wp2
  go_loopw [3, 8] (fun o i wr => ∃ k : Nat, i = .int .i64 k ∧ k ≤ vs.length ∧ Hid (Own w.heap.size 5 wr o (ints .u8 (endC (ps.take k)))) ∧ Below w.heap.size w wr) (fun _ i _ => vs.length - (intOf i).toNat)
  case atStart => exact ⟨0, rfl, Nat.zero_le _, Own.nil _ _ _, Below.refl _ _⟩
  case round =>
    obtain ⟨k, rfl, hk, HO, hbw⟩ := hrel
    by_cases hlt : k < vs.length
    · obtain ⟨u, q, hu, hpk, hru⟩ := HP.out.get hlt
      have hcc := cell_keep50 (HCL.out k u hu) hbw
      obtain rfl : a = some ⟨b0, off, none⟩ := by
        rcases HA.out with h9 | ⟨h9, _⟩
        · exact h9
        · rw [h9] at hlt; simp at hlt
      have hsz : (endC (ps.take k)).length + q.length + 2 ≤ 1000000 := by
        have := endC_snoc hpk
        have h7 := congrArg List.length this
        rw [endC_len] at h7
        have := lensC_take ps (k + 1)
        have := HS.out
        simp only [List.length_append, List.length_cons, List.length_nil] at h7
        omega
      have hru' := hru.below hbw
      have HPK := Lib.hid hpk
      clear hpk hru hu
      go_wp2_with (first | ((at_builtin; refine wpList_app slT_u8 _ _ _ rfl rfl rfl rfl HO.out hru' (by simp only [ints_length]; omega) hbw.size ?_; intro t3 w3 ho3 hg3); have hb3 : Below w.heap.size w w3 := below_own hbw HO.out hg3 hbw.size (Nat.le_refl _)) | (at_builtin; refine wpList_appS w.heap.size _ _ rfl rfl rfl rfl ho3 (by simp only [List.length_append, ints_length]; show _ + 2 ≤ _; omega) hb3.size ?_; intro t4 w4 ho4 hg4; have hb4 : Below w.heap.size w w4 := below_own hb3 ho3 hg4 hb3.size (Nat.le_refl _)))
      go_roundw
      case rel =>
        refine ⟨k + 1, by go_num, by omega, ?_, hb4⟩
        show Own _ _ _ _ _
        rw [endC_snoc HPK.out, ints_append, ints_append, ← strcrlf]
        exact ho4
      case measure => simp [intOf]; omega
    · go_wp2
      go_ret
      refine ⟨_, rfl, ?_, hbw⟩
      have := HO.out
      rwa [List.take_of_length_le (by rw [← HP.out.1]; omega)] at this
end Go.Proofs.YtnoffalohplhnaaDoor
namespace Go.Proofs.YtnoffalohplhnaaDoor
open Go.RowKit
set_option maxHeartbeats 4000000
set_option maxRecDepth 100000
theorem cutF_has (p b : List Int) : (cutF b (pc2 p)).2.1 ≠ 0 ↔ hasM p b = true := by
  have : ∀ l : List (List Int), (cutF b l).2.1 ≠ 0 ↔ l.any (isM b) = true := by
    intro l
    induction l with
    | nil => simp [cutF]
    | cons x r ih =>
      rw [cutF]
      by_cases h : isM b x = true
      · rw [if_pos h]
        simp only [List.any_cons, h, Bool.true_or, iff_true]
        exact of_decide_eq_true h
      · rw [if_neg h]
        simp only [List.any_cons]
        rw [ih]
        simp [h]
  exact this _
theorem has_any (v v2 : Value) (xs b : List Int) (w : World) (h : Row w v (ints .u8 xs)) (h2 : Row w v2 (ints .u8 b)) (hg : Rg 0 256 xs) (hgb : Rg 0 256 b) (hl : xs.length ≤ 900000) (hm : Mx w) :
    Calls Tryd.prog 14 #[v, v2] w fun e w' => e = .returned (.bool (hasM xs b)) ∧ Below w.heap.size w w' := by
  have kc := fun (w : World) (C : Array Value) (n c : Nat) => Lib.run_convert_bytes_const (P := Tryd.prog) w 23 5 C n c Tryd.underlying23 Tryd.underlying5
  have hS := split2_any v (.slice (some ⟨w.heap.size, 0, none⟩) 2 2) xs (w.alloc (.cells #[.int .u8 13, .int .u8 10] 5 (2, 3))) (h.alloc _) (Row.flit [_, _] [_, _] rfl (by simp)) hg (by omega) (hm.below (below_alloc w _))
  have HS := Lib.hid hS
  have hq : hasM xs b = decide ((((cutF b (pc2 xs)).2.1 : Nat) : Int) ≠ 0) := by
    rw [Bool.eq_iff_iff, ← cutF_has, decide_eq_true_iff]; omega
  rw [hq]
  obtain ⟨m, hm9⟩ : ∃ m, (((cutF b (pc2 xs)).2.1 : Nat) : Int) = m := ⟨_, rfl⟩
  rw [hm9]
  have HM9 := Lib.hid hm9
  clear hm9
  have hlen := pc2_len xs
  have HSUB := Lib.hid (pc2_sub xs)
  clear hS hq h
  go_enter Tryd.func14, Tryd.ntmps14
  go_wp2_with fail
  refine HS.out.mono ?_
  rintro e w1 ⟨t, vs, rfl, hr1, hp1, hb1⟩
  replace hb1 : Below w.heap.size w w1 := below_trans (below_alloc w _) hb1
  go_wp2_with fail
  refine (cut_any t v2 vs (pc2 xs) b w1 hr1 hp1 (h2.below hb1) (fun q hq => ⟨fun x hx => hg x ((HSUB.out q hq).1 x hx), by have := (HSUB.out q hq).2; omega⟩) hgb (by rw [hp1.1]; omega)).mono ?_
  rintro e w2 ⟨t1, t2, vs1, vs2, rfl, _, _, _, _, hb2⟩
  rw [HM9.out]
  go_wp2
  go_ret
  exact ⟨ret_bool (by by_cases h9 : m = 0 <;> simp [h9]), below_trans hb1 hb2⟩
theorem Row.grown {w w' : World} {v : Value} {cs : List Value} {k : Option Nat} (h : Row w v cs) (hg : w.grownBy w' k) (hk : cs = [] ∨ v.ownBlock ≠ k) : Row w' v cs := by
  obtain ⟨a, b, off, cap, rfl, hc, hM, ha, h1, hcell⟩ := h
  refine ⟨a, b, off, cap, rfl, hc, hM, ha, h1, fun i u hu => ?_⟩
  rw [← hcell i u hu]
  have hne : cs ≠ [] := by rintro rfl; simp at hu
  rcases hk with h9 | h9
  · exact absurd h9 hne
  · rcases ha with rfl | ⟨h8, _⟩
    · exact World.cell?_of_block (w := w) (hg.block b (World.block_lt_of_cell? w _ (hcell i u hu)) h9)
    · exact absurd h8 hne
theorem Row.blk {w : World} {v : Value} {cs : List Value} (h : Row w v cs) : cs = [] ∨ ∃ g, v.ownBlock = some g ∧ g < w.heap.size := by
  obtain ⟨a, b, off, cap, rfl, hc, hM, ha, h1, hcell⟩ := h
  cases cs with
  | nil => exact .inl rfl
  | cons c r =>
    rcases ha with rfl | ⟨h8, _⟩
    · exact .inr ⟨b, rfl, World.block_lt_of_cell? w _ (hcell 0 c rfl)⟩
    · cases h8
/-- The slices vs hold ps, and none of them lies in o's block. -/
def Aps (w : World) (o : Value) (vs : List Value) (ps : List (List Int)) : Prop :=
  vs.length = ps.length ∧ ∀ (i : Nat) (v : Value) (p : List Int), vs[i]? = some v → ps[i]? = some p → Row w v (ints .u8 p) ∧ (ints .u8 p = [] ∨ v.ownBlock ≠ o.ownBlock)
theorem Aps.nil (w : World) (o : Value) : Aps w o [] [] := ⟨rfl, by simp⟩
theorem Aps.pvs {w : World} {o : Value} {vs : List Value} {ps : List (List Int)} (h : Aps w o vs ps) : Pvs w vs ps := ⟨h.1, fun i v p h1 h2 => (h.2 i v p h1 h2).1⟩
theorem Aps.below {w w' : World} {o : Value} {vs : List Value} {ps : List (List Int)} (h : Aps w o vs ps) (hb : Below w.heap.size w w') : Aps w' o vs ps :=
  ⟨h.1, fun i v p h1 h2 => ⟨(h.2 i v p h1 h2).1.below hb, (h.2 i v p h1 h2).2⟩⟩
theorem Aps.snoc {w : World} {o : Value} {vs : List Value} {ps : List (List Int)} {v : Value} {p : List Int} (h : Aps w o vs ps) (hv : Row w v (ints .u8 p)) (hd : ints .u8 p = [] ∨ v.ownBlock ≠ o.ownBlock) : Aps w o (vs ++ [v]) (ps ++ [p]) := by
  refine ⟨by simp [h.1], fun i u q h1 h2 => ?_⟩
  rcases Nat.lt_or_ge i vs.length with hi | hi
  · rw [List.getElem?_append_left hi] at h1
    rw [List.getElem?_append_left (by rw [← h.1]; exact hi)] at h2
    exact h.2 i u q h1 h2
  · rw [List.getElem?_append_right hi] at h1
    rw [List.getElem?_append_right (by rw [← h.1]; exact hi), ← h.1] at h2
    cases hk : i - vs.length with
    | zero => rw [hk] at h1 h2; simp at h1 h2; subst h1 h2; exact ⟨hv, hd⟩
    | succ n => rw [hk] at h1; simp at h1
theorem Aps.grown {w w' : World} {o o' : Value} {vs : List Value} {ps : List (List Int)} (h : Aps w o vs ps) (hg : w.grownBy w' o.ownBlock) (ho : o'.ownBlock = o.ownBlock ∨ o'.ownBlock = some w.heap.size) : Aps w' o' vs ps := by
  refine ⟨h.1, fun i v p h1 h2 => ?_⟩
  obtain ⟨hr, hd⟩ := h.2 i v p h1 h2
  refine ⟨hr.grown hg hd, ?_⟩
  rcases hd with hd | hd
  · exact .inl hd
  · rcases ho with ho | ho
    · rw [ho]; exact .inr hd
    · rcases hr.blk with h9 | ⟨g, h9, h8⟩
      · exact .inl h9
      · right
        rw [h9, ho]
        intro e
        have := Option.some.inj e
        omega
/-- What is made behind does not lie in an owned block. -/
theorem new_apart {B : Nat} {E : TypeId} {w w2 : World} {o v : Value} {cs ds : List Value} (ho : Own B E w o ds) (hv : Row w2 v cs) (hn : ∀ g, v.ownBlock = some g → w.heap.size ≤ g) : cs = [] ∨ v.ownBlock ≠ o.ownBlock := by
  rcases hv.blk with h9 | ⟨g, h9, _⟩
  · exact .inl h9
  · right
    have hg := hn g h9
    rw [h9]
    intro e
    rcases ho.1.2 with ⟨rfl, _⟩ | ⟨g', cap, cur, rfl, _, hh, _⟩
    · cases e
    · have e2 := Option.some.inj e
      have : g' < w.heap.size := by
        rcases Nat.lt_or_ge g' w.heap.size with h7 | h7
        · exact h7
        · rw [Array.getElem?_eq_none h7] at hh; cases hh
      simp only at e2
      omega
theorem cutF_len (b : List Int) (l : List (List Int)) : (cutF b l).2.2.length ≤ l.length ∧ ((cutF b l).2.1 = 1 → (cutF b l).2.2.length < l.length) ∧ (∀ q ∈ (cutF b l).1, q ∈ l) ∧ (∀ q ∈ (cutF b l).2.2, q ∈ l) ∧ lensC (cutF b l).1 ≤ lensC l ∧ (cutF b l).1.length ≤ l.length := by
  induction l with
  | nil => simp [cutF]
  | cons x r ih =>
    rw [cutF]
    by_cases h : isM b x = true
    · rw [if_pos h]
      refine ⟨by simp, fun _ => by simp, by simp, fun q hq => by simp at hq; simp [hq], by simp [lensC], by simp⟩
    · rw [if_neg h]
      obtain ⟨h1, h2, h3, h4, h5, h6⟩ := ih
      refine ⟨by simp; omega, fun e => by have := h2 e; simp; omega, fun q hq => ?_, fun q hq => by simp [h4 q hq], ?_, by simp; omega⟩
      · rcases List.mem_cons.1 hq with rfl | hq
        · simp
        · simp [h3 q hq]
      · simp only [lensC, List.map_cons, List.sum_cons] at h5 ⊢; omega
theorem lensC_sub {l l' : List (List Int)} (h : l'.Sublist l) : lensC l' ≤ lensC l := by
  induction h with
  | slnil => exact Nat.le_refl _
  | cons a _ ih => simp only [lensC, List.map_cons, List.sum_cons] at ih ⊢; omega
  | cons_cons a _ ih => simp only [lensC, List.map_cons, List.sum_cons] at ih ⊢; omega
theorem cutF_sub (b : List Int) (l : List (List Int)) : (cutF b l).2.2.Sublist l := by
  induction l with
  | nil => simp [cutF]
  | cons x r ih =>
    rw [cutF]
    by_cases h : isM b x = true
    · rw [if_pos h]; exact List.sublist_cons_self _ _
    · rw [if_neg h]; exact ih.trans (List.sublist_cons_self _ _)
theorem kindF_one {b : List Int} {l : List (List Int)} : kindF b 1 l = (joinC (cutF b l).1 :: (kindF b (cutF b l).2.1 (cutF b l).2.2).1, (kindF b (cutF b l).2.1 (cutF b l).2.2).2) := by
  rw [kindF, if_pos rfl, partsF_cut, List.nil_append]
theorem msplit_any (v v2 : Value) (xs b : List Int) (w : World) (h : Row w v (ints .u8 xs)) (h2 : Row w v2 (ints .u8 b)) (hg : Rg 0 256 xs) (hgb : Rg 0 256 b) (hl : xs.length ≤ 900000) (hm : Mx w) :
    Calls Tryd.prog 8 #[v, v2] w fun e w' => ∃ t vs, e = .returned (.tuple #[t, .bool (splitM xs b).2]) ∧ Row w' t vs ∧ Pvs w' vs (splitM xs b).1 ∧ Below w.heap.size w w' := by
  have kc := fun (w : World) (C : Array Value) (n c : Nat) => Lib.run_convert_bytes_const (P := Tryd.prog) w 23 5 C n c Tryd.underlying23 Tryd.underlying5
  have HS := Lib.hid (linesSplit_any v xs w h hg (by omega) hm)
  obtain ⟨V, hV⟩ : ∃ V, splitM xs b = V := ⟨_, rfl⟩
  rw [hV]
  have HV := Lib.hid hV
  have hlen := lnS_len xs
  have hsum := (lnS_sum xs).1
  have HSUB : Hid (∀ q ∈ lnS xs, Rg 0 256 q ∧ q.length ≤ 1000000) := fun q hq => ⟨fun x hx => hg x ((lnS_sub xs q hq).1 x hx), by have := (lnS_sub xs q hq).2; omega⟩
  obtain ⟨L, hL⟩ : ∃ L, lnS xs = L := ⟨_, rfl⟩
  have HL := Lib.hid hL
  rw [hL] at hlen hsum HSUB HS
  obtain ⟨a2, b2, o2, c2, rfl, _⟩ := id h2.op
  have HM := Lib.hid hm
  have HR2 := Lib.hid h2
  clear hV h hm h2 hg hL
  go_enter Tryd.func8, Tryd.ntmps8
  go_wp2_with fail
  refine HS.out.mono ?_
  rintro e w1 ⟨t, vs, rfl, hr1, hp1, hb1⟩
  go_wp2_with fail
  refine (cut_any t _ vs L b w1 hr1 hp1 (HR2.out.below hb1) HSUB.out hgb (by rw [hp1.1]; omega)).mono ?_
  rintro e w2 ⟨t1, t2, vs1, vs2, rfl, _, _, hr2, hp2, hb2⟩
  have hb12 := below_trans hb1 hb2
  have HI0 : Hid (V = kindF b (cutF b L).2.1 (cutF b L).2.2) := by
    show _ = _
    rw [← HV.out, splitM, HL.out]
  have HLEN : Hid ((cutF b L).2.2.length ≤ 900000 ∧ lensC (cutF b L).2.2 ≤ 900002 ∧ ∀ q ∈ (cutF b L).2.2, q ∈ L) := by
    obtain ⟨h1, _, _, h4, _⟩ := cutF_len b L
    exact ⟨by omega, by have := lensC_sub (cutF_sub b L); omega, h4⟩
  obtain ⟨k0, hk0⟩ : ∃ k, (cutF b L).2.1 = k := ⟨_, rfl⟩
  obtain ⟨l0, hl0⟩ : ∃ l, (cutF b L).2.2 = l := ⟨_, rfl⟩
  rw [hk0, hl0] at HI0
  rw [hl0] at HLEN hp2
  rw [hk0]
  have HR3 := Lib.hid hr2
  have HP3 := Lib.hid hp2
  clear hr1 hp1 hr2 hp2 hk0 hl0
  go_wp2
  go_loopw [6, 8, 9] (fun o kd lv wr => ∃ (k : Nat) (l : List (List Int)) (vl vs : List Value) (ds : List (List Int)), kd = .int .i64 k ∧ Hid (Row w1 lv vl) ∧ Hid (Pvs w1 vl l) ∧ Hid (Own w1.heap.size 23 wr o vs) ∧ Hid (Aps wr o vs ds) ∧ Hid (V = (ds ++ (kindF b k l).1, (kindF b k l).2)) ∧ Hid (l.length ≤ 900000 ∧ lensC l ≤ 900002 ∧ ∀ q ∈ l, q ∈ L) ∧ vs.length + l.length + (if k = 1 then 1 else 0) ≤ 900001 ∧ Below w1.heap.size w1 wr) (fun _ kd lv _ => lenOf lv + (1 - (intOf kd - 1).natAbs))
  case atStart => exact ⟨k0, l0, vs2, [], [], rfl, HR3.out, HP3.out, Own.nil _ _ _, Aps.nil _ _, (by show V = _; rw [List.nil_append]; exact HI0.out), HLEN.out, (by have := HLEN.out.1; simp; split <;> omega), hb2⟩
  case round =>
    obtain ⟨k, l, vl, vs, ds, rfl, HR, HP, HO, HA, HE, HLL, hlen2, hbw⟩ := hrel
    by_cases hk : k = 1
    · subst hk
      obtain ⟨av, bv, ov, cv, rfl, hcv, _⟩ := id HR.out
      have HVL := Lib.hid HP.out.1
      replace hlen2 : vs.length + l.length + 1 ≤ 900001 := by simpa using hlen2
      have hll := HLL.out.1
      have hls := HLL.out.2.1
      obtain ⟨z1, z2, z3, z4, z5, z6⟩ := cutF_len b l
      have hj := lensC_sub (cutF_sub b l)
      have HC := Lib.hid (cut_at (.slice av vl.length cv) (.slice a2 b.length c2) vl l b w1 wr HR.out HP.out hbw (HR2.out.below (below_trans hb1 hbw)) (fun q hq => HSUB.out q (HLL.out.2.2 q hq)) hgb (by rw [HVL.out]; omega))
      have HZ : Hid (∀ q ∈ (cutF b l).1, Rg 0 256 q) := fun q hq => (HSUB.out q (HLL.out.2.2 q (z3 q hq))).1
      have HKF : Hid (kindF b 1 l = (joinC (cutF b l).1 :: (kindF b (cutF b l).2.1 (cutF b l).2.2).1, (kindF b (cutF b l).2.1 (cutF b l).2.2).2)) := kindF_one
      have HL3 : Hid ((cutF b l).2.2.length ≤ 900000 ∧ lensC (cutF b l).2.2 ≤ 900002 ∧ ∀ q ∈ (cutF b l).2.2, q ∈ L) := ⟨by omega, by omega, fun q hq => HLL.out.2.2 q (z4 q hq)⟩
      clear hj z3 z4
      obtain ⟨C1, hC1⟩ : ∃ C1, (cutF b l).1 = C1 := ⟨_, rfl⟩
      obtain ⟨k3, hk3⟩ : ∃ k, (cutF b l).2.1 = k := ⟨_, rfl⟩
      obtain ⟨l3, hl3⟩ : ∃ l3, (cutF b l).2.2 = l3 := ⟨_, rfl⟩
      rw [hC1] at HZ z5 z6
      rw [hk3] at z2
      rw [hl3] at z1 z2 HL3
      rw [hC1, hk3, hl3] at HKF HC
      clear hC1 hk3 hl3
      have HE2 : Hid (V = (ds ++ [joinC C1] ++ (kindF b k3 l3).1, (kindF b k3 l3).2)) := by
        show _ = _
        rw [HE.out, HKF.out]; simp
      have hk4 : (if k3 = 1 then 1 else 0) + l3.length ≤ l.length := by
        split
        · rename_i h9; have := z2 h9; omega
        · omega
      go_wp2_with fail
      refine HC.out.mono ?_
      rintro e w3 ⟨t3, t4, vs3, vs4, rfl, hr3, hp3, hr4, hp4, hb3⟩
      have hb13 := below_trans hbw hb3
      have HJ := Lib.hid (join2_any t3 (.slice (some ⟨w3.heap.size, 0, none⟩) 2 2) vs3 C1 (w3.alloc (.cells #[.int .u8 13, .int .u8 10] 5 (2, 3))) (hr3.below (hb13.alloc hb13.size _)) (hp3.below (hb13.alloc hb13.size _)) (Row.flit [_, _] [_, _] rfl (by simp)) HZ.out (by omega))
      have HR4 := Lib.hid hr4
      have HP4 := Lib.hid hp4
      clear hr3 hp3 hr4 hp4 HC
      go_wp2_with fail
      refine HJ.out.mono ?_
      rintro e w4 ⟨t5, rfl, hr5, hn5, hb5⟩
      have hb35 : Below w3.heap.size w3 w4 := below_trans (below_alloc w3 _) hb5
      have hb15 := below_trans hb13 hb35
      have hbr5 := below_trans hb3 hb35
      have ho5 := HO.out.below hbr5
      have ha5 := HA.out.below hbr5
      have hap := new_apart HO.out hr5 (fun g hg => Nat.le_trans (Nat.le_trans hb3.size (by simp)) (hn5 g hg))
      have ha6 := ha5.snoc hr5 hap
      have hone := hr5.one
      obtain ⟨a5, b5, o5, c5, rfl, _⟩ := id hr5.op
      clear hn5 hap ha5 HJ
      go_wp2_with (first | (at_builtin; refine wpList_app2 slT_bb w1.heap.size _ _ rfl rfl rfl rfl (ho5.alloc _) (Row.lit [_] (by intro u hu; simp at hu; subst hu; exact hone) (by simp)) (by simp; omega) (by have := hb15.size; simp at this ⊢; omega) ?_; intro t7 w7 ho7 hg7 hd7))
      go_roundw
      case rel =>
        have ha7 := (ha6.below (below_alloc w4 _)).grown hg7 hd7
        refine ⟨k3, l3, vs4, _, ds ++ [joinC C1], rfl, HR4.out, HP4.out, ho7, ha7, HE2.out, HL3.out, ?_, below_app hb15 (below_alloc _ _) (ho5.alloc _) hg7⟩
        simp; omega
      case measure =>
        obtain ⟨a8, b8, o8, c8, rfl, _⟩ := id HR4.out
        have h10 := HP4.out.1
        have h11 := HVL.out
        simp [lenOf, intOf]
        split at hk4 <;> omega
    · have he := HE.out
      rw [kindF, if_neg hk, List.append_nil, show decide (k = 2) = decide (((k : Nat) : Int) = 2) by rw [decide_eq_decide]; omega] at he
      obtain rfl := he
      go_wp2
      go_ret2
      exact ⟨_, (by first | rfl | trace_state), vs, HO.out.row, HA.out.pvs, below_trans hb1 hbw⟩
end Go.Proofs.YtnoffalohplhnaaDoor
