/- Walks: the last place of an octet; what is kept where other blocks are written. · Walks: a short row sorted. · Walks: octets read. (laid together by program out of single texts). -/
import Derived.Test.YtfhfhfadebcbfaaM10
import Derived.Test.YtfhfhfadebcbfaaM11
import Derived.Test.YtfhfhfadebcbfaaM12
import Derived.Test.YtfhfhfadebcbfaaM15
import Derived.Test.YtfhfhfadebcbfaaM16
namespace Go.Proofs.Ytfhfhfadebcbfaa
open Go.RowKit
set_option maxHeartbeats 4000000
set_option maxRecDepth 100000
theorem Own.keep {B : Nat} {E : TypeId} {w w' : World} {v : Value} {cs : List Value} {r : Option Nat} (h : Own B E w v cs) (hg : w.grownBy w' r) (hne : ∀ k, r = some k → v.ownBlock ≠ some k) : Own B E w' v cs := by
  cases r with
  | none => exact ⟨h.1.kept hg (by cases v.ownBlock <;> simp), h.2⟩
  | some k => exact ⟨h.1.kept hg (.inr (hne k rfl)), h.2⟩
theorem St.keep {B P : Nat} {w w' : World} {s b m : Int} {f : Bool} {r : Option Nat} (h : St B P w s b m f) (hg : w.grownBy w' r) (hne : r ≠ some P) : St B P w' s b m f :=
  Own.keep h hg (fun k hk h9 => hne (by rw [hk]; exact h9.symm))
theorem St.at {B P : Nat} {w : World} {s b m : Int} {f : Bool} (h : St B P w s b m f) : B ≤ P ∧ P < w.heap.size := World.ownsRow.lt (And.left h) P rfl
theorem below_gr {B : Nat} {a w w' : World} {r : Option Nat} (h : Below B a w) (hg : w.grownBy w' r) (hB : B ≤ w.heap.size) (hr : ∀ k, r = some k → B ≤ k) : Below B a w' := h.grown hg hB hr
theorem exec_slH {P : Program} {o : Oper} {a : Act} {t E : TypeId} (hT : SlT P t E) {x l : Operand} (ho : o.op = .slice t x none (some l) none) {aa : Option Addr} {n cap : Nat} {kl : IntKind} {j : Int}
    (hx : a.eval x = .slice aa n cap) (hl : a.eval l = .int kl j) (h0 : 0 ≤ j) (h1 : j ≤ cap) (w : World) : (execOp a.eval o).run P w = .ok (.value (sliced aa 0 j.toNat cap 1)) w := by
  obtain ⟨ht, hs⟩ := SlT.run hT
  simp only [execOp, ho, Option.map_some, Option.map_none, hx, hl]
  simp [run_sliceAt_slice w t _ _ _ _ ht, run_slice_h w t aa n cap ht kl j h0 h1, hs, Result.andThen]
theorem exec_slL {P : Program} {o : Oper} {a : Act} {t E : TypeId} (hT : SlT P t E) {x l : Operand} (ho : o.op = .slice t x (some l) none none) {aa : Option Addr} {n cap : Nat} {kl : IntKind} {k : Int}
    (hx : a.eval x = .slice aa n cap) (hl : a.eval l = .int kl k) (h0 : 0 ≤ k) (h1 : k ≤ n) (w : World) : (execOp a.eval o).run P w = .ok (.value (sliced aa k.toNat n cap 1)) w := by
  obtain ⟨ht, hs⟩ := SlT.run hT
  simp only [execOp, ho, Option.map_some, Option.map_none, hx, hl]
  simp [run_sliceAt_slice w t _ _ _ _ ht, run_slice_l w t aa n cap ht kl k h0 h1, hs, Result.andThen]
theorem blast_any (v : Value) (xs : List Int) (w : World) (h : Row w v (ints .u8 xs)) (hl : xs.length ≤ 1000000) :
    Calls Try.prog 21 #[v, .int .u8 45] w fun e w' => ∃ q : Int, e = .returned (.int .i64 q) ∧ (q = (lstP xs : Nat) ∨ q = -1 ∧ lstP xs = 0) ∧ w' = w := by
  have hB : Calls Try.prog 43 #[v, .int .u8 45] w fun e w' => ∃ q : Int, e = .returned (.int .i64 q) ∧ (q = (lstP xs : Nat) ∨ q = -1 ∧ lstP xs = 0) ∧ w' = w := by
    obtain ⟨L, hL⟩ : ∃ L, lstP xs = L := ⟨_, rfl⟩
    rw [hL]
    have HL := Lib.hid hL
    clear hL
    obtain ⟨a, b, off, cap, rfl, HC⟩ := h.op
    go_enter Try.func43, Try.ntmps43
    go_wp2
    go_loopw [5] (fun iv wr => ∃ k : Nat, iv = .int .i64 ((k : Int) - 1) ∧ k ≤ xs.length ∧ Hid (lstF xs k = L) ∧ wr = w) (fun iv _ => (intOf iv + 1).toNat)
    case atStart => exact ⟨xs.length, rfl, Nat.le_refl _, HL.out, rfl⟩
    case round =>
      obtain ⟨k, rfl, hk, HF, hw⟩ := hrel
      obtain rfl := hw.symm
      cases k with
      | zero =>
        have hz := HF.out
        rw [lstF] at hz
        have HZ := Lib.hid hz
        clear hz
        go_wp2
        go_ret
        exact ⟨-1, rfl, .inr ⟨rfl, HZ.out.symm⟩, rfl⟩
      | succ k =>
        obtain ⟨x, HX, rfl, hc⟩ := HC.out k (by omega)
        have hcx := hc w (Below.refl _ _)
        have hf := HF.out
        rw [lstF, HX.out] at hf
        have hi : ((k + 1 : Nat) : Int) - 1 = (k : Int) := by omega
        clear hc
        by_cases h45 : x = 45
        · subst h45
          rw [if_pos rfl] at hf
          rw [hi]
          have HFF := Lib.hid hf
          clear hf
          go_wp2
          go_ret
          exact ⟨(k : Nat), rfl, .inl (by rw [HFF.out]), rfl⟩
        · rw [if_neg (fun e => h45 (Option.some.inj e))] at hf
          have hb45 : (x == 45) = false := beq_false_of_ne h45
          rw [hi]
          go_wp2
          go_roundw
          case rel => exact ⟨k, by go_num, by omega, hf, by first | rfl | trivial⟩
          case measure => simp [intOf]
  go_enter Try.func21, Try.ntmps21
  go_wp2_with (go_at_call 43; refine (hB).mono ?_; rintro e w' ⟨q, rfl, hq, hw⟩; obtain rfl := hw.symm)
  go_ret
  exact ⟨q, rfl, hq, rfl⟩
end Go.Proofs.Ytfhfhfadebcbfaa
namespace Go.Proofs.Ytfhfhfadebcbfaa
open Go.RowKit
set_option maxHeartbeats 8000000
set_option maxRecDepth 100000
theorem less_any (x y : Int) (w : World) :
    Calls Try.prog 65 #[.int .i32 x, .int .i32 y] w fun e w' => e = .returned (.bool (decide (x < y))) ∧ w' = w := by
  have hN : ∀ (x : Int) (w : World), Calls Try.prog 76 #[.int .i32 x] w fun e w' => e = .returned (.bool false) ∧ w' = w := fun x w => by
    go_enter Try.func76, Try.ntmps76
    go_wp2
    go_ret
    exact ⟨rfl, rfl⟩
  have HN := Lib.hid hN
  clear hN
  go_enter Try.func65, Try.ntmps65
  go_wp2_with ((go_at_call 76; refine (HN.out _ _).mono ?_; rintro e w' ⟨rfl, hw⟩; obtain rfl := hw.symm))
  go_ret
  exact ⟨rfl, rfl⟩
theorem grown_refl (w : World) (r : Option Nat) : w.grownBy w r := ⟨rfl, rfl, rfl, Nat.le_refl _, fun _ _ _ => rfl⟩
theorem grown_drewN (w : World) (q : Nat) (r : Option Nat) : w.grownBy (w.drewN q) r := ⟨rfl, rfl, rfl, Nat.le_refl _, fun _ _ _ => rfl⟩
theorem isort_any (B g n cap : Nat) (xs : List Int) (w : World) (h : Own B 21 w (.slice (some ⟨g, 0, none⟩) n cap) (ints .i32 xs)) (hn : xs.length = n) (hl : n ≤ 1000000) :
    Calls Try.prog 59 #[.slice (some ⟨g, 0, none⟩) n cap, .int .i64 0, .int .i64 n] w fun e w' => e = .returned (.tuple #[]) ∧ Own B 21 w' (.slice (some ⟨g, 0, none⟩) n cap) (ints .i32 (isrP (n - 1) 1 xs)) ∧ w.grownBy w' (some g) := by
  obtain ⟨V, HV⟩ : ∃ V, Hid (isrP (n - 1) 1 xs = V) := ⟨_, rfl⟩
  rw [HV.out]
  go_enter Try.func59, Try.ntmps59
  go_wp2
  go_loopw [6] (fun iv wr => ∃ (i : Nat) (cur : List Int), iv = .int .i64 i ∧ 1 ≤ i ∧ i ≤ n + 1 ∧ Hid (cur.length = n) ∧ Hid (Own B 21 wr (.slice (some ⟨g, 0, none⟩) n cap) (ints .i32 cur)) ∧ Hid (isrP (n - i) i cur = V) ∧ w.grownBy wr (some g)) (fun iv _ => n + 1 - (intOf iv).toNat)
  case atStart => exact ⟨1, xs, rfl, Nat.le_refl _, by omega, hn, h, HV.out, grown_refl w _⟩
  case round =>
    obtain ⟨i, cur, rfl, hi1, hi2, HL, HO, HS, hg⟩ := hrel
    rcases Nat.lt_or_ge i n with hlt | hlt
    case inr =>
      have hs := HS.out
      rw [show n - i = 0 by omega, isrP] at hs
      obtain rfl := hs
      go_wp2
      go_end0
      exact ⟨rfl, HO.out, hg⟩
    case inl =>
      have HS2 : Hid (isrP (n - (i + 1)) (i + 1) (bub i cur) = V) := by
        have hs := HS.out
        rw [show n - i = (n - (i + 1)) + 1 by omega, isrP] at hs
        exact hs
      go_wp2
      go_loopw [7] (fun jv wr2 => ∃ (j : Nat) (cu : List Int), jv = .int .i64 j ∧ j ≤ i ∧ Hid (cu.length = n) ∧ Hid (Own B 21 wr2 (.slice (some ⟨g, 0, none⟩) n cap) (ints .i32 cu)) ∧ Hid (bub j cu = bub i cur) ∧ w.grownBy wr2 (some g)) (fun jv _ => (intOf jv).toNat)
      case atStart => exact ⟨i, cur, rfl, Nat.le_refl _, HL.out, HO.out, rfl, hg⟩
      case round =>
        obtain ⟨j, cu, rfl, hj, HL2, HO2, HB, hg2⟩ := hrel
        have HE : Hid (∀ q, bub j cu = cu → ∃ (i2 : Nat) (cur2 : List Int), Value.int .i64 ((i : Int) + 1) = .int .i64 i2 ∧ 1 ≤ i2 ∧ i2 ≤ n + 1 ∧ Hid (cur2.length = n) ∧ Hid (Own B 21 (World.drewN wr q) (.slice (some ⟨g, 0, none⟩) n cap) (ints .i32 cur2)) ∧ Hid (isrP (n - i2) i2 cur2 = V) ∧ w.grownBy (World.drewN wr q) (some g)) := fun q h9 =>
          ⟨i + 1, cu, by go_num, by omega, by omega, HL2.out, (HO2.out.below ⟨rfl, rfl, rfl, Nat.le_refl _, fun _ _ => rfl⟩), (by rw [← h9, HB.out]; exact HS2.out), grown_trans hg2 ⟨rfl, rfl, rfl, Nat.le_refl _, fun _ _ _ => rfl⟩⟩
        cases j with
        | zero =>
          go_wp2
          go_quiet (first | (go_at_call 65; refine Calls.quiet_of_same (less_any _ _ _)))
          go_wp2
          go_roundw
          case rel => exact HE.out _ rfl
          case measure => simp [intOf]; omega
        | succ j =>
          have hlen := HL2.out
          obtain ⟨x, hx⟩ : ∃ x, cu[j + 1]? = some x := ⟨_, List.getElem?_eq_getElem (by omega)⟩
          obtain ⟨y, hy⟩ : ∃ y, cu[j]? = some y := ⟨_, List.getElem?_eq_getElem (by omega)⟩
          have c1 := Own.cell HO2.out (j := j + 1) (u := .int .i32 x) (by rw [ints_get, hx]; rfl)
          have c0 := Own.cell HO2.out (j := j) (u := .int .i32 y) (by rw [ints_get, hy]; rfl)
          have f1 := Own.frozen HO2.out (j + 1)
          have f0 := Own.frozen HO2.out j
          have dx : cu.getD (j + 1) 0 = x := by rw [List.getD, hx]; rfl
          have dy : cu.getD j 0 = y := by rw [List.getD, hy]; rfl
          have hjc : ((j + 1 : Nat) : Int) - 1 = (j : Int) := by omega
          have hjb : (j : Int) + 1 < (n : Int) := by omega
          have HB2 := HB.out
          rw [bub, dx, dy] at HB2
          have HX := Lib.hid hx; have HY := Lib.hid hy
          clear hx hy dx dy hlen
          by_cases hxy : x < y
          case neg =>
            rw [if_neg hxy] at HB2
            have HB3 : Hid (cu = bub i cur) := HB2
            have HB4 : Hid (bub (j + 1) cu = cu) := by show _ = _; rw [HB.out, ← HB3.out]
            clear HB2
            go_wp2
            go_quiet (first | (go_at_call 65; refine Calls.quiet_of_same (less_any _ _ _)))
            go_wp2
            go_roundw
            case rel => exact HE.out _ HB4.out
            case measure => simp [intOf]; omega
          case pos =>
            rw [if_pos hxy] at HB2
            have HB3 := Lib.hid HB2
            clear HB2
            go_wp2
            go_quiet (first | (go_at_call 65; refine Calls.quiet_of_same (less_any _ _ _)))
            go_wp2
            go_region
            all_goals go_wp2
            have hO3 : Hid (Own B 21 (((wr.drewN (nq + 1)).setCell ⟨g, j + 1, none⟩ (.int .i32 y)).setCell ⟨g, j, none⟩ (.int .i32 x)) (.slice (some ⟨g, 0, none⟩) n cap) (ints .i32 ((cu.set (j + 1) y).set j x))) := by
              have h9 := Own.set (Own.set (HO2.out.below (w' := wr.drewN (nq + 1)) ⟨rfl, rfl, rfl, Nat.le_refl _, fun _ _ => rfl⟩) (j + 1) (.int .i32 y) rfl) j (.int .i32 x) rfl
              rw [ints_set, ints_set] at h9
              exact h9
            have hg3 : w.grownBy (((wr.drewN (nq + 1)).setCell ⟨g, j + 1, none⟩ (.int .i32 y)).setCell ⟨g, j, none⟩ (.int .i32 x)) (some g) :=
              grown_trans (grown_trans (grown_trans hg2 (grown_drewN wr _ _)) (grown_set (wr.drewN (nq + 1)) g (j + 1) (.int .i32 y))) (grown_set _ g j (.int .i32 x))
            go_roundw
            case rel => exact ⟨j, (cu.set (j + 1) y).set j x, rfl, by omega, by rw [List.length_set, List.length_set]; exact HL2.out, hO3.out, HB3.out, hg3⟩
            case measure => simp [intOf]
end Go.Proofs.Ytfhfhfadebcbfaa
namespace Go.Proofs.Ytfhfhfadebcbfaa
open Go.RowKit
set_option maxHeartbeats 8000000
set_option maxRecDepth 100000
def RdI (w : World) (P : Nat) (V : List Int × Int) (cv tv pv : Value) (wr : World) : Prop :=
  ∃ (c t : List Int) (s : Int) (b p f : Nat) (z : Bool), pv = .int .i64 p ∧ Hid (Row w cv (ints .u8 c)) ∧ Hid (∀ x ∈ c, 0 ≤ x ∧ x < 256) ∧ Hid (c.length ≤ f ∧ f ≤ 10000) ∧ Hid (Own w.heap.size 21 wr tv (ints .i32 t)) ∧
    Hid (∀ k, tv.ownBlock = some k → k ≠ P) ∧ t.length ≤ 10000 ∧ p ≤ t.length ∧ 128 ≤ s ∧ s ≤ 1114111 ∧ b ≤ 100000000000000 ∧ St w.heap.size P wr s b t.length z ∧ Hid (rdP f t s b p c = V) ∧ Below w.heap.size w wr
theorem read_any (v : Value) (xs : List Int) (w : World) (h : Row w v (ints .u8 xs)) (hu : ∀ x ∈ xs, 0 ≤ x ∧ x < 256) (hl : xs.length ≤ 1000000) :
    Calls Try.prog 7 #[v] w fun e w' => ∃ t, e = .returned (.tuple #[t, .int .i64 (pnR xs).2]) ∧ Own w.heap.size 21 w' t (ints .i32 (pnR xs).1) ∧ Below w.heap.size w w' := by
  obtain ⟨V, hV⟩ : ∃ V, pnR xs = V := ⟨_, rfl⟩
  rw [hV]
  unfold pnR at hV
  by_cases hlong : 10000 < xs.length
  · rw [if_pos hlong] at hV
    obtain rfl := hV
    obtain ⟨a, b, off, cap, rfl, HC⟩ := h.op
    go_enter Try.func7, Try.ntmps7
    go_wp2
    go_ret2
    exact ⟨_, rfl, Own.nil _ _ _, Below.refl _ _⟩
  rw [if_neg hlong] at hV
  obtain ⟨L, hL⟩ : ∃ L, lstP xs = L := ⟨_, rfl⟩
  have hLlt := lstF_lt xs xs.length (Nat.le_refl _)
  rw [show lstF xs xs.length = L from hL] at hLlt
  have hblast := fun w h => blast_any v xs w h hl
  rw [hL] at hV hblast
  have HBL := Lib.hid hblast
  have HU := Lib.hid hu
  clear hblast hu hL
  have start : ∀ (P : Nat) (cv tv : Value) (wr : World) (t c : List Int), t = xs.take L → c = (if L = 0 then xs else xs.drop (L + 1)) → (xs.take L).any (fun c => decide (127 < c)) = false → Row w cv (ints .u8 c) → Own w.heap.size 21 wr tv (ints .i32 t) → (∀ k, tv.ownBlock = some k → k ≠ P) → St w.heap.size P wr 128 72 t.length false → Below w.heap.size w wr → RdI w P V cv tv (.int .i64 0) wr := by
    intro P cv tv wr t c ht hc hany hcv htv hne hst hb
    rw [hany] at hV
    refine ⟨c, t, 128, 72, 0, xs.length, false, rfl, hcv, ?_, ?_, htv, hne, ?_, Nat.zero_le _, by omega, by omega, by omega, hst, ?_, hb⟩
    · intro x hx
      rw [hc] at hx
      split at hx
      · exact HU.out x hx
      · exact HU.out x (List.mem_of_mem_drop hx)
    · show _ ∧ _
      rw [hc]
      refine ⟨?_, by omega⟩
      split
      · exact Nat.le_refl _
      · rw [List.length_drop]; omega
    · rw [ht, List.length_take]; omega
    · show _ = _
      rw [ht, hc]
      exact hV
  have bad : (xs.take L).any (fun c => decide (127 < c)) = true → V = ([], 3) := fun h9 => by rw [if_pos h9] at hV; exact hV.symm
  have START := Lib.hid start
  have BAD := Lib.hid bad
  clear start bad hV
  rcases Nat.eq_zero_or_pos L with h0 | h0
  case' inl =>
    obtain rfl := h0
    have hn : (xs.take 0).any (fun c => decide (127 < c)) = false := rfl
    have hst := Rq.new 45 w (.int .i64 128) (.int .i64 72) (.int .i64 0) (.bool false) ⟨rfl, rfl, rfl, rfl⟩
    have HI := Lib.hid (START.out w.heap.size v (.slice none 0 0) _ [] xs rfl rfl hn h (Own.nil _ _ _) (by intro k hk; cases hk) hst (below_alloc w _))
    clear hst hn
    obtain ⟨a, b, off, cap, rfl, HC⟩ := Row.op h
    go_enter Try.func7, Try.ntmps7
    go_wp2_with (go_at_call 21; refine (HBL.out _ h).mono ?_; rintro e w' ⟨q, rfl, hq, hw⟩; obtain rfl := hw.symm; have hq0 : q ≤ 0 := (by omega); clear hq)
    generalize w.alloc (.cells #[.int .i64 128, .int .i64 72, .int .i64 0, .bool false] 45) = w3 at HI ⊢
    generalize w.heap.size = P at HI ⊢
    clear HC h START BAD HBL
  case' inr =>
    have hLq : ∀ q : Int, (q = (L : Nat) ∨ q = -1 ∧ L = 0) → q = (L : Nat) := by omega
    have HLQ := Lib.hid hLq
    clear hLq
    have HXL : Hid (L < xs.length) := (by show _ < _; omega)
    have hL1 : ¬ ((L : Int) ≤ 0) := by omega
    have HTU : Hid (∀ x ∈ xs.take L, 0 ≤ x ∧ x < 256) := fun x hx => HU.out x (List.mem_of_mem_take hx)
    have HTL : Hid ((xs.take L).length = L) := by show _ = _; rw [List.length_take]; omega
    obtain ⟨T, HTT⟩ : ∃ T, Hid (xs.take L = T) := ⟨_, rfl⟩
    have hTT := HTT.out
    rw [hTT] at START BAD HTU HTL
    clear hTT
    have HT9 : Hid (T.length ≤ 10000) := by have := HTL.out; show _ ≤ _; omega
    obtain ⟨a, b, off, cap, rfl, HC⟩ := Row.op h
    go_enter Try.func7, Try.ntmps7
    go_wp2_with (first | (go_at_call 21; refine (HBL.out _ h).mono ?_; rintro e w' ⟨q, rfl, hq, hw⟩; obtain rfl := hw.symm; obtain rfl := HLQ.out q hq) | (refine wpList_slH slT_u8 _ _ rfl rfl rfl rfl h (by omega) (by have := HXL.out; simp [ints]; omega) ?_; intro v2 hv2; have r2 := hv2 _ h; rw [Int.toNat_natCast, ints_take, HTT.out] at r2; obtain ⟨a2, b2, o2, c2, rfl, HC2⟩ := r2.op; clear hv2 r2))
    go_loopw [4, 24] (fun tv iv wr => ∃ k : Nat, iv = .int .i64 k ∧ k ≤ T.length ∧ Hid (Own w.heap.size 21 wr tv (ints .i32 (T.take k))) ∧ Hid ((T.take k).any (fun c => decide (127 < c)) = false) ∧ Below w.heap.size w wr) (fun _ iv _ => T.length - (intOf iv).toNat)
    case atStart => exact ⟨0, rfl, Nat.zero_le _, Own.nil _ _ _, rfl, Below.refl _ _⟩
    case' round =>
      obtain ⟨k, rfl, hk, HO, HA, hb⟩ := hrel
      rcases Nat.lt_or_ge k T.length with hlt | hlt
      case' inl =>
        obtain ⟨x, HX, rfl, hc⟩ := HC2.out k hlt
        replace hc := hc _ hb
        have hx := HTU.out x (List.mem_of_getElem? HX.out)
        have hw1 : IntKind.i32.wrap x = x := IntWalk.i32_in _ (by omega)
        by_cases h128 : 128 ≤ x
        · obtain rfl : V = ([], 3) := BAD.out (List.any_eq_true.2 ⟨x, List.mem_of_getElem? HX.out, by simp; omega⟩)
          go_wp2
          go_ret2
          exact ⟨_, rfl, Own.nil _ _ _, hb⟩
        · have HT : Hid (ints .i32 (T.take k) ++ ints .i32 [x] = ints .i32 (T.take (k + 1))) := by
            show _ = _
            rw [List.take_add_one, HX.out]
            simp [ints]
          have HA2 : Hid ((T.take (k + 1)).any (fun c => decide (127 < c)) = false) := by
            show _ = _
            rw [List.take_add_one, HX.out, List.any_append, HA.out]
            simp; omega
          have hk9 : T.length ≤ 10000 := HT9.out
          have HLN : Hid ((ints .i32 (T.take k)).length ≤ 900000) := by
            have := HT9.out
            show _ ≤ _
            rw [ints_length, List.length_take]; omega
          go_wp2_with (at_builtin; refine wpList_app slT_i32 w.heap.size _ _ rfl rfl rfl rfl (HO.out.alloc _) (Row.ilit [x] [_] rfl (by simp)) (by have := HLN.out; simp only [ints_length, List.length_cons, List.length_nil] at this ⊢; omega) (by have := hb.size; simp; omega) ?_; intro t3 w3 ho3 hg3; have hb3 := below_app hb ((Below.refl _ _).alloc (Nat.le_refl _) _) (HO.out.alloc _) hg3; rw [HT.out] at ho3)
          go_roundw
          case rel => exact ⟨k + 1, by go_num, by omega, ho3, HA2.out, hb3⟩
          case measure => simp [intOf]; omega
      case' inr =>
        obtain rfl : k = T.length := by omega
        have ho := HO.out
        have ha := HA.out
        rw [List.take_of_length_le (Nat.le_refl _)] at ho ha
        obtain ⟨a4, b4, o4, c4, rfl, _⟩ := Row.op ho.row
        go_wp2_with (refine wpList_slL slT_u8 _ _ rfl rfl rfl rfl (h.below hb) (by omega) (by have := HXL.out; simp [ints]; omega) ?_; intro u2 hu2; have r3 := hu2 _ h; rw [show ((L : Int) + 1).toNat = L + 1 from (by omega), ints_drop] at r3; clear hu2)
        have hst := Rq.new 45 wr (.int .i64 128) (.int .i64 72) (.int .i64 T.length) (.bool false) ⟨rfl, rfl, rfl, rfl⟩
        have HI := Lib.hid (START.out wr.heap.size u2 (.slice a4 T.length c4) _ T _ rfl (if_neg (by omega)).symm ha r3 (ho.alloc _) (fun k hk => by have := (ho.1.lt k hk).2; omega) (Own.mono hst hb.size) (hb.alloc hb.size _))
        clear hst ho ha hb r3 HO HA HC2
        generalize wr.alloc (.cells #[.int .i64 128, .int .i64 72, .int .i64 T.length, .bool false] 45) = w3 at HI ⊢
        generalize wr.heap.size = P at HI ⊢
        clear HC h START BAD HBL HTU HTL HT9
  all_goals
    go_loopw [0, 4, 9] (fun cv tv pv wr => RdI w P V cv tv pv wr) (fun cv _ _ _ => lenOf cv)
    case atStart => exact HI.out
    case round =>
      obtain ⟨c, t, s, b, p, f, z, rfl, HC, HCU, HF, HO, HN, htl, hpt, hs0, hs1, hb0, hst, HV, hb⟩ := hrel
      cases c with
      | nil =>
        have hv := HV.out
        rw [rdP_nil] at hv
        obtain rfl := hv
        obtain ⟨aa, bb, off, cap, rfl, _⟩ := Row.op HC.out
        go_wp2
        go_ret2
        exact ⟨_, rfl, HO.out, hb⟩
      | cons x c =>
        have hv := HV.out
        have hf := HF.out
        obtain ⟨f, rfl⟩ : ∃ g, f = g + 1 := ⟨f - 1, by simp at hf; omega⟩
        rw [rdP, if_neg (by simp)] at hv
        have hrng := tkP_rng b (x :: c) 36 1 p (by omega) (by omega) (by omega)
        have hmem := tkP_mem b (x :: c) 36 1 p
        have hlen := tkP_len b (x :: c) 36 1 p
        have hT := fun v wx h1 h2 => take_any w.heap.size P s b t.length z (x :: c) v p wx h1 h2 HCU.out (by omega) (by omega) (by omega) (by omega) (by omega)
        obtain ⟨A, hA⟩ : ∃ A, tkP b (x :: c) 36 1 p = A := ⟨_, rfl⟩
        rw [hA] at hv hrng hmem hlen
        simp only [hA] at hT
        obtain ⟨n, r, e⟩ := A
        simp only [] at hv hrng hmem hlen hT
        obtain ⟨hn0, hn1⟩ := hrng
        have HT := Lib.hid hT
        have HCL := Lib.hid hlen
        have HM := Lib.hid hmem
        clear hT hlen hA hmem
        by_cases he : e = 0
        · obtain rfl := he
          rw [if_neg (by simp)] at hv
          have hclen := HCL.out rfl
          have hAD := fun (wx : World) (h9 : St w.heap.size P wx s b t.length ((p : Int) != 0)) => sadapt_any w.heap.size P s b t.length ((p : Int) != 0) (n - p) wx h9 (by omega)
          have hz : (!((p : Int) != 0)) = decide (p = 0) := by
            by_cases h9 : p = 0
            · subst h9; rfl
            · simp [h9]
          have hcast : ((t.length + 1 : Nat) : Int) = (t.length : Int) + 1 := by omega
          rw [hcast] at hv
          rw [hz] at hAD
          have hbd := adpP_bd (n - p) ((t.length : Int) + 1) (decide (p = 0))
          obtain ⟨b2, hb2⟩ : ∃ q, adpP (n - p) ((t.length : Int) + 1) (decide (p = 0)) = q := ⟨_, rfl⟩
          rw [hb2] at hv hAD hbd
          obtain ⟨m1, hm1⟩ : ∃ m1 : Int, (t.length : Int) + 1 = m1 := ⟨_, rfl⟩
          simp only [hm1] at hv
          have hq0 : 0 ≤ n / m1 := Int.ediv_nonneg hn0 (by omega)
          have hq1 : n / m1 ≤ n := Int.ediv_le_self _ hn0
          have hr0 : 0 ≤ n % m1 := Int.emod_nonneg _ (by omega)
          have hr1 : n % m1 < m1 := Int.emod_lt_of_pos _ (by omega)
          have HAD := Lib.hid hAD
          clear hAD hz hb2
          obtain ⟨aa, bb, off, cap, rfl, _⟩ := Row.op HC.out
          go_wp2_with (first | (go_at_call 22; refine (HT.out _ _ hst (HC.out.below hb)).mono ?_; rintro e' w1 ⟨v1, rfl, hrow1, hb1⟩; have hb2 := below_trans hb hb1; have hst1 := hst.below hb1; obtain ⟨c0, c1, c2, c3⟩ := hst1.cells; obtain ⟨z0, z1, z2, z3⟩ := Rq.unfrozen hst1) | (go_at_call 23; refine (HAD.out _ (Rq.set3 hst1 (.bool ((p : Int) != 0)) rfl)).mono ?_; rintro e' w3 ⟨rfl, hst3, hg3⟩; have hg4 := grown_trans (grown_set w1 P 3 (.bool ((p : Int) != 0))) hg3; clear hg3 c0 c1 c2 c3 z0 z1 z2 z3; obtain ⟨c0, c1, c2, c3⟩ := hst3.cells; obtain ⟨z0, z1, z2, z3⟩ := Rq.unfrozen hst3))
          go_region
          have hst4 := (Rq.set0 hst3 (.int .i64 (s + n / m1)) rfl).below ((Below.refl _ _).drew)
          have hg5 := grown_trans (grown_trans hg4 (grown_set w3 P 0 (.int .i64 (s + n / m1)))) (grown_drew _ _)
          have ho4 := (HO.out.below hb1).keep hg5 (fun k hk h9 => HN.out k h9 (Option.some.inj hk).symm)
          have hP := St.at hst4
          have hs4 : 128 ≤ s + n / m1 := by omega
          have hs5 : s + n / m1 ≤ 3000000000000 := by omega
          generalize (w3.setCell ⟨P, 0, none⟩ (.int .i64 (s + n / m1))).drew = w4 at *
          generalize s + n / m1 = S2 at *
          clear c0 c1 c2 c3 z0 z1 z2 z3 hst3 hg4 hst1 hst
          obtain ⟨c0, c1, c2, c3⟩ := St.cells hst4
          obtain ⟨z0, z1, z2, z3⟩ := Rq.unfrozen hst4
          have hb4 : Below w.heap.size w w4 := below_gr hb2 hg5 hb2.size (fun k hk => by obtain rfl := Option.some.inj hk; exact hP.1)
          by_cases hbig : 1114111 < S2
          · rw [if_pos (.inl (by unfold scB; simp; omega))] at hv
            obtain rfl := hv
            go_wp2
            go_ret2
            exact ⟨_, rfl, Own.nil _ _ _, hb4⟩
          · have hw32 : IntKind.i32.wrap S2 = S2 := IntWalk.i32_in _ (by omega)
            have hIS := fun wx => is_any S2 wx (by omega) (by omega)
            obtain ⟨o, ho⟩ : ∃ o, scB S2 = o := ⟨_, rfl⟩
            rw [ho] at hv hIS
            have HIS := Lib.hid hIS
            clear hIS ho
            cases o with
            | false =>
              rw [if_pos (.inl rfl)] at hv
              obtain rfl := hv
              go_wp2_with ((go_at_call 24; refine (HIS.out _).mono ?_; rintro e' w5 ⟨rfl, hw⟩; obtain rfl := hw))
              go_ret2
              exact ⟨_, rfl, Own.nil _ _ _, hb4⟩
            | true =>
              by_cases hmany : 1000 < m1
              · rw [if_pos (.inr (by omega))] at hv
                obtain rfl := hv
                go_wp2_with ((go_at_call 24; refine (HIS.out _).mono ?_; rintro e' w5 ⟨rfl, hw⟩; obtain rfl := hw))
                go_ret2
                exact ⟨_, rfl, Own.nil _ _ _, hb4⟩
              · rw [if_neg (by simp; omega)] at hv
                obtain ⟨p2, hp2⟩ : ∃ p2 : Nat, n % m1 = p2 := ⟨(n % m1).toNat, by omega⟩
                rw [hp2, Int.toNat_natCast] at hv
                have hlen2 : (t.take p2 ++ S2 :: t.drop p2).length = t.length + 1 := by simp; omega
                have HL2 := Lib.hid hlen2
                have HV2 := Lib.hid hv
                clear hlen2 hv
                go_wp2_with (first | (go_at_call 24; refine (HIS.out _).mono ?_; rintro e' w5 ⟨rfl, hw⟩; obtain rfl := hw) | (go_at_call 25; refine (insert_any w.heap.size t _ p2 S2 _ ho4 (by omega) (by omega) hb4.size).mono ?_; rintro e' w6 ⟨u6, rfl, ho6, hg6, hap6⟩))
                have hst6 := St.keep hst4 hg6 (fun h9 => HN.out P h9 rfl)
                have hb6 := below_gr hb4 hg6 hb4.size (fun k hk => (ho4.1.lt k hk).1)
                have HN6 : Hid (∀ k, u6.ownBlock = some k → k ≠ P) := fun k hk h9 => by
                  rcases hap6 k hk with h8 | h8
                  · exact HN.out k h8 h9
                  · omega
                go_roundw
                case rel => exact ⟨r, t.take p2 ++ S2 :: t.drop p2, S2, b2, p2 + 1, f, true, by go_num, hrow1 w HC.out, (fun y hy => HCU.out y (HM.out y hy)), ⟨by omega, by omega⟩, ho6, HN6.out, by rw [HL2.out]; omega, by rw [HL2.out]; omega, by omega, by omega, by omega, (by rw [HL2.out]; exact hst6), HV2.out, hb6⟩
                case measure => rw [Row.len (hrow1 w HC.out)]; simp [lenOf, ints]; simp at hclen; omega
        · rw [if_pos he] at hv
          obtain rfl := hv
          have heb : (e == 0) = false := beq_false_of_ne he
          obtain ⟨aa, bb, off, cap, rfl, _⟩ := Row.op HC.out
          go_wp2_with ((go_at_call 22; refine (HT.out _ _ hst (HC.out.below hb)).mono ?_; rintro e' w1 ⟨v1, rfl, hrow1, hb1⟩; have hb2 := below_trans hb hb1))
          go_ret2
          exact ⟨_, rfl, Own.nil _ _ _, hb2⟩
end Go.Proofs.Ytfhfhfadebcbfaa
