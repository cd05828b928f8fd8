/- The toolkit, more: slices.Insert of one number. (laid together by program out of single texts). -/
import Derived.Deep.RegionLaw
import Derived.Laws.CopyOwn
import Derived.Laws.Externs
import Derived.Lib.Overlaps
import Derived.Lib.AppendZerosOnto
import Derived.Test.YtfhfhfadebcbfaaM1
import Derived.Test.YtfhfhfadebcbfaaM2
import Derived.Test.YtfhfhfadebcbfaaM4
namespace Go.Proofs.Ytfhfhfadebcbfaa
open Go.RowKit
set_option maxHeartbeats 4000000
set_option maxRecDepth 100000
/-- copy into a row that is known whole, as one step of a region that draws. -/
theorem step_copy_row {P : Program} {ops : Array Oper} {o : Oper} {a : Act} {w : World} {K : Act → World → Prop} {Q : Exit → Act → World → Prop} {F : Prop} (hgd : o.guard = none) (d s : Operand) (dT sT : TypeId)
    (ho : o.op = .call { callee := .builtin .copy, args := #[d, s], argTypes := #[dT, sT] }) (g off dLen dCap : Nat) (ad : Addr) (sLen sCap : Nat) (hd : a.eval d = .slice (some ⟨g, off, none⟩) dLen dCap) (hs : a.eval s = .slice (some ad) sLen sCap)
    (cs : List Value) (A : Array Value) (hr : (Builtin.copy_ #[dT, sT] o.type #[.slice (some ⟨g, off, none⟩) dLen dCap, .slice (some ad) sLen sCap]).run P w = .ok (goInt cs.length) (w.setRow g A))
    (hK : K (a.put o.dst (goInt cs.length)) (w.setRow g A)) : if Region.wanted o (yielded ops a.tmps) = true then Oper.wp P o a w K Q else F := by
  have hw : Region.wanted o (yielded ops a.tmps) = true := by simp [Region.wanted, hgd]
  rw [if_pos hw]
  unfold Oper.wp
  simp [execOp, ho, resolve, invoke, builtin, hd, hs, hr, Result.andThen]
  exact hK
theorem wpList_copy_row {P : Program} {w : World} {ops : Array Oper} {rest : List Oper} {o : Oper} {a : Act} {Q : Exit → Act → World → Prop} (hgd : o.guard = none) (d s : Operand) (dT sT : TypeId)
    (ho : o.op = .call { callee := .builtin .copy, args := #[d, s], argTypes := #[dT, sT] }) {v u r : Value} {w' : World} (hd : a.eval d = v) (hs : a.eval s = u)
    (hr : (Builtin.copy_ #[dT, sT] o.type #[v, u]).run P w = .ok r w') (h : wpList P ops Q rest (a.put o.dst r) w') : wpList P ops Q (o :: rest) a w := by
  refine wpList_plain hgd fun K hK => ?_
  unfold Oper.wp
  simp [execOp, ho, resolve, invoke, builtin, hd, hs, hr, Result.andThen]
  exact hK _ _ h
theorem grown_alloc (w : World) (o : Obj) (r : Option Nat) : w.grownBy (w.alloc o) r := ⟨rfl, rfl, rfl, by simp, fun k hk _ => heap_alloc_old w o hk⟩
theorem grown_setRow (w : World) (g : Nat) (A : Array Value) : w.grownBy (w.setRow g A) (some g) := ⟨rfl, rfl, rfl, by simp, fun k _ hk => setRow_other w g k A (fun e => hk (by rw [e]))⟩
theorem splice_ins {α : Type} (L xs : List α) (x : α) (p : Nat) (hp : p ≤ xs.length) (hL : xs.length + 1 ≤ L.length) (h : L.take p = xs.take p) :
    (splice (splice L (p + 1) (xs.drop p)) p [x]).take (xs.length + 1) = xs.take p ++ x :: xs.drop p := by
  unfold splice
  have e1 : (L.take (p + 1) ++ (xs.drop p ++ L.drop (p + 1 + (xs.drop p).length))).take p = xs.take p := by
    rw [List.take_append_of_le_length (by simp; omega), List.take_take, Nat.min_eq_left (by omega), h]
  have e2 : (L.take (p + 1) ++ (xs.drop p ++ L.drop (p + 1 + (xs.drop p).length))).drop (p + [x].length) = xs.drop p ++ L.drop (p + 1 + (xs.drop p).length) := by
    rw [List.drop_left' (by simp; omega)]
  rw [e1, e2]
  have e3 : xs.take p ++ ([x] ++ (xs.drop p ++ L.drop (p + 1 + (xs.drop p).length))) = (xs.take p ++ x :: xs.drop p) ++ L.drop (p + 1 + (xs.drop p).length) := by simp
  rw [e3, List.take_left' (by simp; omega)]
theorem splice_ins2 {α : Type} (L xs : List α) (x : α) (p : Nat) (hp : p ≤ xs.length) (hL : xs.length + 1 ≤ L.length) (h : L.take p = xs.take p) :
    (splice (splice L p [x]) (p + 1) (xs.drop p)).take (xs.length + 1) = xs.take p ++ x :: xs.drop p := by
  unfold splice
  have e1 : (L.take p ++ ([x] ++ L.drop (p + [x].length))).take (p + 1) = xs.take p ++ [x] := by
    rw [← List.append_assoc, List.take_left' (by simp; omega), h]
  rw [e1]
  have e3 : ∀ Z, xs.take p ++ [x] ++ (xs.drop p ++ Z) = (xs.take p ++ x :: xs.drop p) ++ Z := fun Z => by simp
  rw [e3, List.take_left' (by simp; omega)]
theorem insert_any (B : Nat) (xs : List Int) (v : Value) (p : Nat) (x : Int) (w0 : World) (h : Own B 21 w0 v (ints .i32 xs)) (hp : p ≤ xs.length) (hl : xs.length ≤ 100000) (hB : B ≤ w0.heap.size) :
    Calls Try.prog 25 #[v, .int .i64 p, .slice (some ⟨w0.heap.size, 0, none⟩) 1 1] (w0.alloc (.cells #[.int .i32 x] 21)) fun e w' =>
      ∃ u, e = .returned u ∧ Own B 21 w' u (ints .i32 (xs.take p ++ x :: xs.drop p)) ∧ w0.grownBy w' v.ownBlock ∧ ∀ k, u.ownBlock = some k → v.ownBlock = some k ∨ w0.heap.size ≤ k := by
  by_cases hpe : p = xs.length
  · subst hpe
    have hR : Row (w0.alloc (.cells #[.int .i32 x] 21)) (.slice (some ⟨w0.heap.size, 0, none⟩) 1 1) (ints .i32 [x]) := Row.ilit [x] [_] rfl (by simp)
    have hO := h.alloc (.cells #[.int .i32 x] 21)
    have hBs : B ≤ (w0.alloc (.cells #[.int .i32 x] 21)).heap.size := by simp; omega
    have hg0 := grown_alloc w0 (.cells #[.int .i32 x] 21) v.ownBlock
    have hz : ints .i32 (xs.take xs.length ++ x :: xs.drop xs.length) = ints .i32 xs ++ ints .i32 [x] := by simp [ints]
    rw [hz]
    have hlen : (ints .i32 xs).length = xs.length := by simp [ints]
    obtain ⟨a, b, off, cap, rfl, hc, hm, ha, _⟩ := id h.row.int
    have hws : w0.heap.size ≤ (w0.alloc (.cells #[.int .i32 x] 21)).heap.size := by simp
    generalize w0.alloc (.cells #[.int .i32 x] 21) = w at *
    clear h hz
    cases xs with
    | nil =>
      go_enter Try.func25, Try.ntmps25
      go_wp2_with (at_builtin; refine wpList_app2 slT_i32 B _ _ rfl rfl rfl rfl hO hR (by simp [ints]) hBs ?_; intro t2 w2 hown2 hg2 hap; have hg3 := grown_trans hg0 hg2)
      all_goals go_ret
      all_goals exact ⟨_, rfl, hown2, hg3, fun k hk => by
        have hk2 : t2.ownBlock = some k := hk
        rcases hap with h9 | h9
        · exact .inl (h9.symm.trans hk2)
        · rw [h9] at hk2; have := Option.some.inj hk2; exact .inr (by omega)⟩
    | cons y ys =>
      obtain rfl : a = some ⟨b, off, none⟩ := by
        rcases ha with h9 | ⟨h9, _⟩
        · exact h9
        · cases h9
      go_enter Try.func25, Try.ntmps25
      go_wp2_with (at_builtin; refine wpList_app2 slT_i32 B _ _ rfl rfl rfl rfl hO hR (by rw [hlen]; simp [ints] at hl ⊢; omega) hBs ?_; intro t2 w2 hown2 hg2 hap; have hg3 := grown_trans hg0 hg2)
      all_goals go_ret
      all_goals exact ⟨_, rfl, hown2, hg3, fun k hk => by
        have hk2 : t2.ownBlock = some k := hk
        rcases hap with h9 | h9
        · exact .inl (h9.symm.trans hk2)
        · rw [h9] at hk2; have := Option.some.inj hk2; exact .inr (by omega)⟩
  · have hpl : p < xs.length := by omega
    obtain ⟨⟨h0, h1⟩, h1c⟩ := h
    have hlen : (ints .i32 xs).length = xs.length := by simp [ints]
    obtain ⟨cs, hcs⟩ : ∃ cs, ints .i32 xs = cs := ⟨_, rfl⟩
    have hz : ints .i32 (xs.take p ++ x :: xs.drop p) = cs.take p ++ .int .i32 x :: cs.drop p := by rw [← hcs]; simp [ints]
    rw [hz]
    rw [hcs] at h0 h1 h1c hlen
    clear hcs hz hpe
    obtain ⟨n, hn⟩ : ∃ n, n = xs.length := ⟨_, rfl⟩
    rw [← hn] at hlen hp hl hpl
    clear hn
    rcases h1 with ⟨_, h9⟩ | ⟨g, cap, cur, rfl, hBg, hgc, hcc, hcm, hsz, htk⟩
    · omega
    simp only [Nat.mul_one, hlen] at hsz htk hcc
    clear h0
    rw [hlen]
    have hgs : g < w0.heap.size := (Array.getElem?_eq_some_iff.1 hgc).1
    have hne : w0.heap.size ≠ g := by omega
    obtain ⟨w, hw⟩ : ∃ w, w = w0.alloc (.cells #[.int .i32 x] 21) := ⟨_, rfl⟩
    have hgw : w.heap[g]? = some (.cells cur 21 (0, 0)) := by rw [hw]; rw [heap_alloc_old w0 _ hgs]; exact hgc
    have hvw : w.heap[w0.heap.size]? = some (.cells #[.int .i32 x] 21 (0, 0)) := by rw [hw]; exact heap_alloc_new w0 _
    have hws : w.heap.size = w0.heap.size + 1 := by rw [hw]; simp
    have hg0 : w0.grownBy w (some g) := by rw [hw]; exact grown_alloc w0 _ _
    rw [← hw]
    clear hw
    have hcell : ∀ j u, cs[j]? = some u → w.cell? ⟨g, j, none⟩ = some u := fun j u hu => by
      rw [World.cell?, hgw]
      rw [← htk, List.getElem?_take] at hu
      split at hu
      · simpa using hu
      · cases hu
    have hvc : w.cell? ⟨w0.heap.size, 0, none⟩ = some (.int .i32 x) := by rw [World.cell?, hvw]; rfl
    have hsi : (Try.prog.info? 21).map (·.size) = some 1 := by rfl
    by_cases hroom : n + 1 ≤ cap
    · have hov : ∀ lb cb, (callFunc 46 #[.slice (some ⟨w0.heap.size, 0, none⟩) 1 1, .slice (some ⟨g, p + 1, none⟩) lb cb]).run Try.prog w = .ok (.value (.bool false)) w := fun lb cb => by
        rw [run_callFunc_extern Try.func46 (by kernel_rfl) (by kernel_rfl) (by kernel_rfl) (e := Extern.SlicesOverlaps.overlaps #[24, 24] #[4]) (by kernel_rfl),
          Lib.run_overlaps_apart w 24 4 21 Try.underlying24 1 (fun w => rfl) ⟨w0.heap.size, 0, none⟩ ⟨g, p + 1, none⟩ 1 1 lb cb hne 21 21 1 cap (by simp [World.shape?, hvw]) (by simp [World.shape?, hgw, hsz]) (by omega) (by simp [World.frozen?, hvw]) (by simp [World.frozen?, hvw])]
        rfl
      have hdl : (cs.drop p).length = n - p := by rw [List.length_drop, hlen]
      have hcl : cur.size = cur.toList.length := by simp
      obtain ⟨A1, hA1⟩ : ∃ A1, A1 = (cur.toList.take (p + 1) ++ cs.drop p ++ cur.toList.drop (p + 1 + (cs.drop p).length)).toArray := ⟨_, rfl⟩
      have hcp1 : ∀ ty dc sc, (Builtin.copy_ #[24, 24] ty #[.slice (some ⟨g, p + 1, none⟩) (n - p) dc, .slice (some ⟨g, p, none⟩) (n + 1 - p) sc]).run Try.prog w.drew = .ok (goInt (cs.drop p).length) (w.drew.setRow g A1) := fun ty dc sc => by
        rw [hA1]
        exact run_copy_row Try.prog w.drew _ _ ty 21 g (p + 1) (n - p) dc ⟨g, p, none⟩ (n + 1 - p) sc cur 21 (cs.drop p) Try.underlying24 hsi hgw (by rw [hdl]; simp only [Nat.min_def]; split <;> omega)
          (fun j u hj => by rw [addr_add]; rw [List.getElem?_drop] at hj; exact hcell _ u hj) (by rw [hdl, hsz]; omega) (fun u hu => h1c u (List.mem_of_mem_drop hu))
      have hA1s : A1.size = cap := by rw [hA1]; simp only [List.size_toArray, List.length_append, List.length_take, List.length_drop]; simp only [Array.length_toList, hsz]; omega
      obtain ⟨W1, hW1⟩ : ∃ W1, W1 = w.drew.setRow g A1 := ⟨_, rfl⟩
      have hg1 : W1.heap[g]? = some (.cells A1 21 (0, 0)) := by rw [hW1]; exact setRow_heap w.drew g cur A1 _ _ hgw
      have hv1 : W1.cell? ⟨w0.heap.size, 0, none⟩ = some (.int .i32 x) := by rw [hW1, cell_setRow_other w.drew g A1 _ hne]; exact hvc
      have hgr1 : w0.grownBy W1 (some g) := by rw [hW1]; exact grown_trans (grown_trans hg0 (grown_drew w _)) (grown_setRow w.drew g A1)
      obtain ⟨A2, hA2⟩ : ∃ A2, A2 = (A1.toList.take p ++ [Value.int .i32 x] ++ A1.toList.drop (p + 1)).toArray := ⟨_, rfl⟩
      have hcp2 : ∀ ty dc, (Builtin.copy_ #[24, 24] ty #[.slice (some ⟨g, p, none⟩) (n + 1 - p) dc, .slice (some ⟨w0.heap.size, 0, none⟩) 1 1]).run Try.prog W1 = .ok (goInt 1) (W1.setRow g A2) := fun ty dc => by
        rw [hA2]
        exact run_copy_row Try.prog W1 _ _ ty 21 g p (n + 1 - p) dc ⟨w0.heap.size, 0, none⟩ 1 1 A1 21 [.int .i32 x] Try.underlying24 hsi hg1 (by simp only [Nat.min_def, List.length_cons, List.length_nil]; split <;> omega)
          (fun j u hj => by
            cases j with
            | zero => simp at hj; subst hj; rw [addr_add]; exact hv1
            | succ j => simp at hj) (by simp only [List.length_cons, List.length_nil]; omega) (by intro u hu; simp at hu; subst hu; rfl)
      have hfin : Own B 21 (W1.setRow g A2) (.slice (some ⟨g, 0, none⟩) (n + 1) cap) (cs.take p ++ .int .i32 x :: cs.drop p) := by
        have hll : (cs.take p ++ Value.int .i32 x :: cs.drop p).length = n + 1 := by simp; omega
        refine ⟨⟨by simp, .inr ⟨g, cap, A2, ?_, hBg, setRow_heap W1 g A1 A2 _ _ hg1, by omega, hcm, ?_, ?_⟩⟩, ?_⟩
        · rw [hll]
        · rw [hA2]; simp only [List.size_toArray, List.length_append, List.length_take, List.length_drop, List.length_cons, List.length_nil]; simp only [Array.length_toList, hA1s]; omega
        · have := splice_ins cur.toList cs (.int .i32 x) p (by omega) (by rw [hlen, Array.length_toList, hsz]; omega) (by rw [← htk, List.take_take, Nat.min_eq_left (by omega)])
          rw [hll, Nat.mul_one, hA2, hA1]
          rw [hlen] at this
          rw [← this]
          simp [splice]
        · intro u hu
          rcases List.mem_append.1 hu with hu | hu
          · exact h1c u (List.mem_of_mem_take hu)
          · rcases List.mem_cons.1 hu with rfl | hu
            · rfl
            · exact h1c u (List.mem_of_mem_drop hu)
      have hgr2 : w0.grownBy (W1.setRow g A2) (some g) := grown_trans hgr1 (grown_setRow W1 g A2)
      have hc1 : ¬ (cap = p + 1) := by omega
      have hc2 : ¬ (cap = p) := by omega
      have hq1 : ¬ ((p : Int) = (n : Int)) := by omega
      have hw1 : IntKind.i64.wrap ((p : Int) + 1) = (p : Int) + 1 := IntWalk.i64_in _ (by omega)
      have hb1 : (0 : Int) ≤ (p : Int) + 1 := by omega
      have htn : ((p : Int) + 1).toNat = p + 1 := by omega
      have hb3 : (p : Int) ≤ (n : Int) + 1 := by omega
      clear hA1 hA2 hg1 hv1 hgr1 hgw hvw htk hcell hvc hgc h1c hg0 hgs
      rw [← hW1] at hcp1
      simp only [maxLen] at hcm
      go_enter Try.func25, Try.ntmps25
      go_wp2_with (simp only [hov])
      go_region_law (refine step_copy_row rfl _ _ 24 24 rfl g (p + 1) (n - p) (cap - (p + 1)) ⟨g, p, none⟩ (n + 1 - p) (cap - p) (by simp [Act.eval, Act.put]) (by simp [Act.eval, Act.put]) (cs.drop p) A1 (hcp1 _ _ _) ?_)
      rw [← hW1]
      clear hcp1 hW1
      go_wp2_with (at_builtin; refine wpList_copy_row rfl _ _ 24 24 rfl rfl rfl (hcp2 _ _) ?_)
      go_ret
      exact ⟨_, rfl, hfin, hgr2, fun k hk => .inl hk⟩
    · obtain rfl : cap = n := by omega
      have hdl : (cs.drop p).length = cap - p := by rw [List.length_drop, hlen]
      obtain ⟨i0, hi0, hz0, hzs, hzb⟩ := info_parts (P := Try.prog) (e := 21) (z := Value.int .i32 0) (size := 1) (bytes := 4) (by rfl)
      have hold : (Builtin.firstCells i0.size p (.slice (some ⟨g, 0, none⟩) p cap)).run Try.prog w.drew = .ok (cs.take p).toArray w.drew := by
        rw [hzs]
        exact run_firstCells_some w.drew 1 p ⟨g, 0, none⟩ p cap (cs.take p) (by rw [List.length_take]; omega) (fun j u hj => by
          rw [addr_add, Nat.zero_add]
          rw [List.getElem?_take] at hj
          split at hj
          · exact hcell j u hj
          · cases hj)
      have hik : p + (cap + 1 - p) = cap + 1 := by omega
      have hkk : (cap : Int) + 1 - (p : Int) = ((cap + 1 - p : Nat) : Int) := by omega
      have hrz : ∀ ty, (Builtin.append_ #[24, 3] ty #[.slice (some ⟨g, 0, none⟩) p cap, .int .i64 ((cap : Int) + 1 - (p : Int))]).run Try.prog w =
          .ok (.slice (some ⟨w.heap.size, 0, none⟩) (cap + 1) (grownCap w (cap + 1) cap 21)) (w.drew.alloc (.cells ((cs.take p).toArray ++ Builtin.zeroCells (Value.int .i32 0).cells (cap + 1 - p) ++ Builtin.zeroCells (Value.int .i32 0).cells (grownCap w (cap + 1) cap 21 - (cap + 1))) 21)) := fun ty => by
        have h := Lib.run_append_grow_zeros (P := Try.prog) w 24 3 ty 21 i0 _ .i64 .i64 Try.underlying24 Try.underlying3 hi0 hz0 (some ⟨g, 0, none⟩) p cap (cs.take p) hold (cap + 1 - p) (by omega) (by omega) (by omega) (by omega) (by rw [hzb]; omega) (by rw [hzb, hik]; exact growslice_fits (by omega) (by omega))
        rw [hik] at h
        rw [hkk]
        exact h
      obtain ⟨G, hG⟩ : ∃ G, G = grownCap w (cap + 1) cap 21 := ⟨_, rfl⟩
      obtain ⟨R, hR⟩ : ∃ R : Array Value, R = (cs.take p).toArray ++ Builtin.zeroCells (Value.int .i32 0).cells (cap + 1 - p) ++ Builtin.zeroCells (Value.int .i32 0).cells (G - (cap + 1)) := ⟨_, rfl⟩
      rw [← hG] at hrz
      rw [← hR] at hrz
      have hGn : cap + 1 ≤ G := by rw [hG]; exact grownCap_ge w _ _ _
      have hGm : G ≤ maxLen := by rw [hG]; exact grownCap_le_maxLen w (cap + 1) cap 21 (by unfold maxLen; omega)
      have hRs : R.size = G := by
        rw [hR]
        simp [Builtin.zeroCells, Value.cells]
        omega
      have hRt : R.toList.take p = cs.take p := by
        have h9 : R.toList = cs.take p ++ ((Builtin.zeroCells (Value.int .i32 0).cells (cap + 1 - p)).toList ++ (Builtin.zeroCells (Value.int .i32 0).cells (G - (cap + 1))).toList) := by rw [hR]; simp
        rw [h9, List.take_left' (by rw [List.length_take]; omega)]
      obtain ⟨g2, hg2⟩ : ∃ g2, g2 = w.heap.size := ⟨_, rfl⟩
      have hgg2 : g ≠ g2 := by omega
      have hvg2 : w0.heap.size ≠ g2 := by omega
      rw [← hg2] at hrz
      obtain ⟨W1, hW1⟩ : ∃ W1, W1 = w.drew.alloc (.cells R 21) := ⟨_, rfl⟩
      rw [← hW1] at hrz
      have hn1 : W1.heap[g2]? = some (.cells R 21 (0, 0)) := by rw [hW1, hg2]; exact heap_alloc_new w.drew _
      have hc1 : ∀ j u, cs[j]? = some u → W1.cell? ⟨g, j, none⟩ = some u := fun j u hu => by
        rw [hW1, World.cell?_alloc_past (w := w.drew) _ g j (show g < w.heap.size by omega)]; exact hcell j u hu
      have hv1 : W1.cell? ⟨w0.heap.size, 0, none⟩ = some (.int .i32 x) := by
        rw [hW1, World.cell?_alloc_past (w := w.drew) _ _ _ (show w0.heap.size < w.heap.size by omega)]; exact hvc
      have hgr1 : w0.grownBy W1 (some g) := by rw [hW1]; exact grown_trans (grown_trans hg0 (grown_drew w _)) (grown_alloc w.drew _ _)
      have hgs2 : ∀ (W : World) (A : Array Value), w0.grownBy W (some g) → w0.grownBy (W.setRow g2 A) (some g) := fun W A h => ⟨h.os, h.tape, h.output, by simpa using h.size, fun k hk hr => (setRow_other W g2 k A (by omega)).trans (h.block k hk hr)⟩
      obtain ⟨A1, hA1⟩ : ∃ A1, A1 = (R.toList.take p ++ [Value.int .i32 x] ++ R.toList.drop (p + 1)).toArray := ⟨_, rfl⟩
      have hcp1 : ∀ ty dc, (Builtin.copy_ #[24, 24] ty #[.slice (some ⟨g2, p, none⟩) (cap + 1 - p) dc, .slice (some ⟨w0.heap.size, 0, none⟩) 1 1]).run Try.prog W1 = .ok (goInt 1) (W1.setRow g2 A1) := fun ty dc => by
        rw [hA1]
        exact run_copy_row Try.prog W1 _ _ ty 21 g2 p (cap + 1 - p) dc ⟨w0.heap.size, 0, none⟩ 1 1 R 21 [.int .i32 x] Try.underlying24 hsi hn1 (by simp only [Nat.min_def, List.length_cons, List.length_nil]; split <;> omega)
          (fun j u hj => by
            cases j with
            | zero => simp at hj; subst hj; rw [addr_add]; exact hv1
            | succ j => simp at hj) (by simp only [List.length_cons, List.length_nil]; omega) (by intro u hu; simp at hu; subst hu; rfl)
      have hA1s : A1.size = G := by rw [hA1]; simp only [List.size_toArray, List.length_append, List.length_take, List.length_drop, List.length_cons, List.length_nil]; simp only [Array.length_toList, hRs]; omega
      obtain ⟨W2, hW2⟩ : ∃ W2, W2 = W1.setRow g2 A1 := ⟨_, rfl⟩
      rw [← hW2] at hcp1
      have hn2 : W2.drew.heap[g2]? = some (.cells A1 21 (0, 0)) := by rw [hW2]; exact setRow_heap W1 g2 R A1 _ _ hn1
      have hc2 : ∀ j u, cs[j]? = some u → W2.drew.cell? ⟨g, j, none⟩ = some u := fun j u hu => by
        rw [hW2]
        show (W1.setRow g2 A1).cell? ⟨g, j, none⟩ = _
        rw [cell_setRow_other W1 g2 A1 _ hgg2]; exact hc1 j u hu
      have hgr2 : w0.grownBy W2.drew (some g) := by rw [hW2]; exact grown_trans (hgs2 W1 A1 hgr1) (grown_drew _ _)
      obtain ⟨A2, hA2⟩ : ∃ A2, A2 = (A1.toList.take (p + 1) ++ cs.drop p ++ A1.toList.drop (p + 1 + (cs.drop p).length)).toArray := ⟨_, rfl⟩
      have hcp2 : ∀ ty dc sc, (Builtin.copy_ #[24, 24] ty #[.slice (some ⟨g2, p + 1, none⟩) (cap - p) dc, .slice (some ⟨g, p, none⟩) (cap - p) sc]).run Try.prog W2.drew = .ok (goInt (cs.drop p).length) (W2.drew.setRow g2 A2) := fun ty dc sc => by
        rw [hA2]
        exact run_copy_row Try.prog W2.drew _ _ ty 21 g2 (p + 1) (cap - p) dc ⟨g, p, none⟩ (cap - p) sc A1 21 (cs.drop p) Try.underlying24 hsi hn2 (by rw [hdl]; simp only [Nat.min_def]; split <;> omega)
          (fun j u hj => by rw [addr_add]; rw [List.getElem?_drop] at hj; exact hc2 _ u hj) (by rw [hdl, hA1s]; omega) (fun u hu => h1c u (List.mem_of_mem_drop hu))
      have hfin : Own B 21 (W2.drew.setRow g2 A2) (.slice (some ⟨g2, 0, none⟩) (cap + 1) G) (cs.take p ++ .int .i32 x :: cs.drop p) := by
        have hll : (cs.take p ++ Value.int .i32 x :: cs.drop p).length = cap + 1 := by simp; omega
        refine ⟨⟨by simp, .inr ⟨g2, G, A2, ?_, by omega, setRow_heap W2.drew g2 A1 A2 _ _ hn2, by omega, hGm, ?_, ?_⟩⟩, ?_⟩
        · rw [hll]
        · rw [hA2]; simp only [List.size_toArray, List.length_append, List.length_take, List.length_drop]; simp only [Array.length_toList, hA1s]; omega
        · have := splice_ins2 R.toList cs (.int .i32 x) p (by omega) (by rw [hlen, Array.length_toList, hRs]; omega) hRt
          rw [hll, Nat.mul_one, hA2, hA1]
          rw [hlen] at this
          rw [← this]
          simp [splice]
        · intro u hu
          rcases List.mem_append.1 hu with hu | hu
          · exact h1c u (List.mem_of_mem_take hu)
          · rcases List.mem_cons.1 hu with rfl | hu
            · rfl
            · exact h1c u (List.mem_of_mem_drop hu)
      have hgr3 : w0.grownBy (W2.drew.setRow g2 A2) (some g) := hgs2 _ A2 hgr2
      have hg2le : w0.heap.size ≤ g2 := by omega
      have hGi : ¬ (G = p) := by omega
      have hGim : ¬ (G = p + 1) := by omega
      have hci : ¬ (cap = p) := by omega
      have hq1 : ¬ ((p : Int) = (cap : Int)) := by omega
      have hw1 : IntKind.i64.wrap ((p : Int) + 1) = (p : Int) + 1 := IntWalk.i64_in _ (by omega)
      have hw2 : IntKind.i64.wrap ((cap : Int) + 1 - (p : Int)) = (cap : Int) + 1 - (p : Int) := IntWalk.i64_in _ (by omega)
      have hb1 : (0 : Int) ≤ (p : Int) + 1 := by omega
      have htn : ((p : Int) + 1).toNat = p + 1 := by omega
      have hb3 : (p : Int) ≤ (cap : Int) + 1 := by omega
      have hb4 : (p : Int) ≤ (cap : Int) := by omega
      clear hik hkk hold hR hG hRs hRt hA1 hA2 hn1 hc1 hv1 hgr1 hgs2 hn2 hc2 hgr2 hgw hvw htk hcell hvc hgc h1c hg0 hgs hW1 hW2 hg2 hA1s hi0 hz0 hzs hzb
      simp only [maxLen] at hcm hGm
      go_enter Try.func25, Try.ntmps25
      go_wp2_with (first | (at_builtin; refine Lib.wpList_append_run _ rfl _ _ _ _ rfl _ _ rfl rfl _ _ (hrz _) ?_) | (at_builtin; refine wpList_copy_row rfl _ _ 24 24 rfl rfl rfl (hcp1 _ _) ?_; clear hcp1))
      go_region_law (refine step_copy_row rfl _ _ 24 24 rfl g2 (p + 1) (cap - p) (G - (p + 1)) ⟨g, p, none⟩ (cap - p) (cap - p) (by simp [Act.eval, Act.put]) (by simp [Act.eval, Act.put]) (cs.drop p) A2 (hcp2 _ _ _) ?_)
      go_wp2
      go_ret
      exact ⟨_, rfl, hfin, hgr3, fun k hk => .inr (by have := Option.some.inj hk; show w0.heap.size ≤ k; rw [← this]; exact hg2le)⟩
end Go.Proofs.Ytfhfhfadebcbfaa
