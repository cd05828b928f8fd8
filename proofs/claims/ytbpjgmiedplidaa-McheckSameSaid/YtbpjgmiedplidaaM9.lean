/- Walks: a name's pieces, one by one. · Walks: how many runs a name has; laying a name. · A region that draws its order, in the round of a range over a function: by the walk outside fences. · Plain: what is laid of a name is read; it is printable; what is read is scalar, and no longer than the octets. · Plain: how many runs a name has, sign by sign. (laid together by program out of single texts). -/
import Derived.OrdersIn
import Derived.Deep.RegionHeld3
import Derived.Test.YtbpjgmiedplidaaM5
import Derived.Test.YtbpjgmiedplidaaM6
import Derived.Test.YtbpjgmiedplidaaM8
namespace Go.Proofs.Ytbpjgmiedplidaa
open Go.RowKit Go.Shelf
attribute [local go_sem] Oper.semAt_some
/-- A piece: its place, and the slice that it is handed as. -/
abbrev Pc (w0 : World) (xs : List Int) := { x : Nat × Value // x.1 < xs.length ∧ Row w0 x.2 (ints .i32 ((xs.drop x.1).take (mk1 (xs.drop x.1)))) }
def encP {w0 : World} {xs : List Int} (x : Pc w0 xs) : Array Value := #[x.1.2, .bool (decide (0 < mn (xs.drop x.1.1)))]
/-- What the iterator's loop keeps. -/
def Itr (w0 : World) (xs : List Int) (Bs : Nat) (J : List (Pc w0 xs) → World → Prop) (wr : World) : Prop :=
  ∃ (pre : List (Pc w0 xs)) (p : Nat) (lv : Value), wr.cell? ⟨Bs, 0, none⟩ = some lv ∧ wr.frozen? ⟨Bs, 0, none⟩ = false ∧ Row w0 lv (ints .i32 (xs.drop p)) ∧ p ≤ xs.length ∧
    Hid (pre.map (·.1.1) ++ mpls (xs.drop p) p = mpls xs 0) ∧ pre.length ≤ p ∧ J pre wr ∧ Below w0.heap.size w0 wr
theorem cell_lt2 {w : World} {b o : Nat} {v : Value} (h : w.cell? ⟨b, o, none⟩ = some v) : b < w.heap.size := World.block_lt_of_cell? w _ h
theorem KpB.cell {n₀ Bs : Nat} {W W' : World} (h : KpB n₀ Bs W W') : W'.cell? ⟨Bs, 0, none⟩ = W.cell? ⟨Bs, 0, none⟩ := World.cell?_of_block h.2
theorem KpB.frozen {n₀ Bs : Nat} {W W' : World} (h : KpB n₀ Bs W W') : W'.frozen? ⟨Bs, 0, none⟩ = W.frozen? ⟨Bs, 0, none⟩ := by simp only [World.frozen?, h.2]
set_option maxRecDepth 100000 in
set_option maxHeartbeats 4000000 in
theorem runs1_in (n l Bs : Nat) (w0 : World) (v : Value) (xs : List Int) (h : Row w0 v (ints .i32 xs)) (hl : xs.length ≤ 1000000) (hBs : w0.heap.size ≤ Bs) (J : List (Pc w0 xs) → World → Prop) (hJc : ∀ s W u, J s W → J s (W.setCell ⟨Bs, 0, none⟩ u))
    (hY : ∀ pre x W1, J pre W1 → pre.length < xs.length → YieldAt Fence.wide (n - 1) Try.prog l (encP x) W1 fun e W' => e = .returned (.bool true) ∧ J (pre ++ [x]) W' ∧ KpB w0.heap.size Bs W1 W')
    (W : World) (hb0 : Below w0.heap.size w0 W) (hc0 : W.cell? ⟨Bs, 0, none⟩ = some v) (hf0 : W.frozen? ⟨Bs, 0, none⟩ = false) (h0 : J [] W) :
    CallsIn Fence.wide n Try.prog 59 #[.func (.yield l) #[] #[], .pointer (some ⟨Bs, 0, none⟩)] W fun e W' => (∃ v, e = .returned v) ∧ ∃ ys, ys.map (·.1.1) = mpls xs 0 ∧ J ys W' := by
  refine callsIn_of_wp Try.func59 rfl trivial ?_ rfl
  simp only [Try.ntmps59, List.size_toArray, List.length_cons, List.length_nil, Nat.reduceAdd, Nat.reduceSub, Array.replicate_succ, Array.replicate_zero, List.push_toArray, List.append_toArray, List.nil_append, List.cons_append]
  gi_wp2
  gi_loopw [3] (fun nv wr => Itr w0 xs Bs J wr) (fun _ wr => lenOf ((wr.cell? ⟨Bs, 0, none⟩).getD undef))
  case atStart => exact ⟨[], 0, v, hc0, hf0, by rw [List.drop_zero]; exact h, Nat.zero_le _, (by rw [List.drop_zero]; rfl : ([] : List (Pc w0 xs)).map (·.1.1) ++ mpls (xs.drop 0) 0 = mpls xs 0), Nat.le_refl _, h0, hb0⟩
  case round =>
    obtain ⟨pre, p, lv, hc, hf, hr, hp, HM, hpl, hJ, hb⟩ := hrel
    by_cases hlt : p < xs.length
    · obtain ⟨a, b, off, cap, rfl, HC⟩ := id hr.op
      have hcap : (xs.drop p).length ≤ cap := by
        obtain ⟨_, _, _, _, he, hce, _⟩ := hr.int
        cases he; exact hce
      have htl2 : (xs.drop p).length ≤ 1000000 := by rw [List.length_drop]; omega
      have hq0 := mn_le (xs.drop p)
      have hqin := mn_in (xs.drop p)
      have hqout := mn_out (xs.drop p)
      have hm1 := mpls_at hlt
      have htl : (xs.drop p).length = xs.length - p := List.length_drop
      have hml : mk1 (xs.drop p) ≤ (xs.drop p).length := by unfold mk1; omega
      have hsub := Row.sub hr a cap (by rw [ints_length]) 0 (mk1 (xs.drop p)) (Nat.zero_le _) (by rw [ints_length]; exact hml)
      have hrest := Row.sub hr a cap (by rw [ints_length]) (mk1 (xs.drop p)) (xs.drop p).length hml (by rw [ints_length]; exact Nat.le_refl _)
      have ha0 : sliced a 0 (mk1 (xs.drop p)) cap 1 = .slice a (mk1 (xs.drop p)) cap := by
        have h3 : a.map (fun x => x.add (0 * 1)) = a := by cases a <;> simp [Addr.add]
        simp only [sliced, h3, ite_self, Nat.sub_zero]
      rw [List.drop_zero, ints_take, ha0] at hsub
      rw [List.take_of_length_le (by rw [ints_length]; exact Nat.le_refl _), ints_drop, List.drop_drop] at hrest
      obtain ⟨x, hx1, hx2⟩ : ∃ x : Pc w0 xs, x.1.1 = p ∧ encP x = #[.slice a (mk1 (xs.drop p)) cap, .bool (decide (0 < mn (xs.drop p)))] := ⟨⟨(p, .slice a (mk1 (xs.drop p)) cap), hlt, hsub⟩, rfl, rfl⟩
      obtain ⟨fn, tmps, assign, body, hy, hR⟩ := hY pre x wr hJ (by omega)
      rw [hx2] at hy
      have hgo : ∀ (W3 : World) (x : Pc w0 xs) (u : Value), x.1.1 = p → J (pre ++ [x]) W3 → KpB w0.heap.size Bs wr W3 → Row w0 u (ints .i32 (xs.drop (p + mk1 (xs.drop p)))) → Itr w0 xs Bs J (W3.setCell ⟨Bs, 0, none⟩ u) := fun W3 x u hx hJ3 hk3 hu => by
        refine ⟨pre ++ [x], p + mk1 (xs.drop p), u, World.cell?_setCell_same' _ _ _ (by rw [hk3.cell, hc]; rfl), by rw [World.frozen?_setCell, hk3.frozen, hf], hu, by omega, ?_, by rw [List.length_append, List.length_singleton]; have := mk1_pos (xs.drop p); omega, hJc _ _ _ hJ3, (hb.trans hk3.1).setCell (p := ⟨Bs, 0, none⟩) hBs _⟩
        show _ = _
        rw [← HM.out, hm1, List.map_append, List.map_cons, List.map_nil, hx, List.append_assoc]; rfl
      have HGO := Lib.hid hgo
      have HREST := Lib.hid hrest
      have HR := Lib.hid hR
      have HMEAS : Hid (xs.length - (p + mk1 (xs.drop p)) < (xs.drop p).length) := by have := mk1_pos (xs.drop p); show _ < _; omega
      clear hsub hrest hm1 hgo ha0 HM hR hx2 hY hq0
      have hmk : mk1 (xs.drop p) = max (mn (xs.drop p)) 1 := rfl
      have hT0 : 0 < (xs.drop p).length := by omega
      generalize mk1 (xs.drop p) = m at *
      generalize mn (xs.drop p) = q at *
      clear htl
      generalize xs.drop p = T at *
      rcases Nat.eq_zero_or_pos q with h0q | h0q
      · obtain rfl : m = 1 := by omega
        rw [show decide (0 < q) = false from decide_eq_false (by omega)] at hy
        subst h0q
        clear hmk
        have hmx : max (0 : Int) 1 = 1 := by omega
        gi_wp2
        gi_loopw [3] (fun i w2 => i = .int .i64 0 ∧ w2 = wr) (fun _ _ => 0)
        case atStart => exact ⟨rfl, rfl⟩
        case round =>
          obtain ⟨rfl, hw⟩ := hrel
          obtain rfl := hw.symm
          obtain ⟨c, HX, rfl, hcc⟩ := HC.out 0 hT0
          replace hcc := hcc _ hb
          simp only [Nat.add_zero] at hcc
          have hc2 := hqout c HX.out
          have hd := mDirect_any c wr
          rcases hdd : mdirB c with _ | _
          · rw [mtak, hdd, Bool.false_or] at hc2
            obtain rfl : c = 38 := of_decide_eq_true hc2
            rw [hdd] at hd
            have HD := Lib.hid hd
            clear hd hc2 HX hdd
            gi_wp2_with (refine ⟨trivial, (fun h => by cases h), ?_⟩; refine (callsIn_wide.2 HD.out).mono ?_; rintro e w' ⟨rfl, hw⟩; obtain rfl := hw.symm)
            refine ⟨(fun h => by cases h), ?_⟩
            refine HR.out.mono ?_
            rintro e W3 ⟨rfl, hJ3, hk3⟩
            have hc3 := hk3.cell.trans hc
            have hf3 := hk3.frozen.trans hf
            gi_wp2
            go_roundw
            case rel => exact HGO.out W3 x _ hx1 hJ3 hk3 (by have h9 := HREST.out; simp only [sliced, Nat.mul_one] at h9; first | exact h9 | (rw [if_neg (by omega)] at h9; simpa [Addr.add] using h9))
            case measure => rw [World.cell?_setCell_same' _ _ _ (by rw [hc3]; rfl), hc]; simp only [Option.getD_some, lenOf]; omega
          · rw [hdd] at hd
            have HD := Lib.hid hd
            clear hd hc2 HX hdd
            gi_wp2_with (refine ⟨trivial, (fun h => by cases h), ?_⟩; refine (callsIn_wide.2 HD.out).mono ?_; rintro e w' ⟨rfl, hw⟩; obtain rfl := hw.symm)
            refine ⟨(fun h => by cases h), ?_⟩
            refine HR.out.mono ?_
            rintro e W3 ⟨rfl, hJ3, hk3⟩
            have hc3 := hk3.cell.trans hc
            have hf3 := hk3.frozen.trans hf
            gi_wp2
            go_roundw
            case rel => exact HGO.out W3 x _ hx1 hJ3 hk3 (by have h9 := HREST.out; simp only [sliced, Nat.mul_one] at h9; first | exact h9 | (rw [if_neg (by omega)] at h9; simpa [Addr.add] using h9))
            case measure => rw [World.cell?_setCell_same' _ _ _ (by rw [hc3]; rfl), hc]; simp only [Option.getD_some, lenOf]; omega
      · obtain rfl : m = q := by omega
        rw [show decide (0 < m) = true from decide_eq_true h0q] at hy
        have hmx : max ((m : Nat) : Int) 1 = (m : Int) := by omega
        clear hmk
        gi_wp2
        gi_loopw [3] (fun i w2 => ∃ k : Nat, i = .int .i64 k ∧ k ≤ m ∧ w2 = wr) (fun i _ => m - (intOf i).toNat)
        case atStart => exact ⟨0, rfl, Nat.zero_le _, rfl⟩
        case round =>
          obtain ⟨k, rfl, hk, hw⟩ := hrel
          obtain rfl := hw.symm
          by_cases hkq : k < m
          · obtain ⟨c, hc1, hc2⟩ := hqin k hkq
            obtain ⟨c', HX, rfl, hcc⟩ := HC.out k (List.getElem?_eq_some_iff.1 hc1).1
            obtain rfl : c' = c := Option.some.inj (HX.out.symm.trans hc1)
            replace hcc := hcc _ hb
            have hd := mDirect_any c' wr
            rw [mtak, Bool.or_eq_false_iff] at hc2
            rw [hc2.1] at hd
            have h38 : (c' != 38) = true := by have := of_decide_eq_false hc2.2; simpa using this
            have HD := Lib.hid hd
            clear hc1 hd hc2 HX
            gi_wp2_with (refine ⟨trivial, (fun h => by cases h), ?_⟩; refine (callsIn_wide.2 HD.out).mono ?_; rintro e w' ⟨rfl, hw⟩; obtain rfl := hw.symm)
            go_roundw
            case rel => exact ⟨k + 1, by go_num, by omega, by first | rfl | trivial⟩
            case measure => simp [intOf]; omega
          · obtain rfl : k = m := by omega
            by_cases hkl : k < T.length
            · obtain ⟨c, HX, rfl, hcc⟩ := HC.out k hkl
              replace hcc := hcc _ hb
              have hc2 := hqout c HX.out
              have hd := mDirect_any c wr
              rcases hdd : mdirB c with _ | _
              · rw [mtak, hdd, Bool.false_or] at hc2
                obtain rfl : c = 38 := of_decide_eq_true hc2
                rw [hdd] at hd
                have HD := Lib.hid hd
                clear hd hc2 HX hdd
                gi_wp2_with (refine ⟨trivial, (fun h => by cases h), ?_⟩; refine (callsIn_wide.2 HD.out).mono ?_; rintro e w' ⟨rfl, hw⟩; obtain rfl := hw.symm)
                refine ⟨(fun h => by cases h), ?_⟩
                refine HR.out.mono ?_
                rintro e W3 ⟨rfl, hJ3, hk3⟩
                have hc3 := hk3.cell.trans hc
                have hf3 := hk3.frozen.trans hf
                gi_wp2
                go_roundw
                case rel => exact HGO.out W3 x _ hx1 hJ3 hk3 (by have hk0 : ¬ k = 0 := (by omega); have h9 := HREST.out; simp only [sliced, Nat.mul_one] at h9; first | exact h9 | (rw [if_neg (by omega)] at h9; simpa [Addr.add, hk0] using h9))
                case measure => rw [World.cell?_setCell_same' _ _ _ (by rw [hc3]; rfl), hc]; simp only [Option.getD_some, lenOf]; omega
              · rw [hdd] at hd
                have HD := Lib.hid hd
                clear hd hc2 HX hdd
                gi_wp2_with (refine ⟨trivial, (fun h => by cases h), ?_⟩; refine (callsIn_wide.2 HD.out).mono ?_; rintro e w' ⟨rfl, hw⟩; obtain rfl := hw.symm)
                refine ⟨(fun h => by cases h), ?_⟩
                refine HR.out.mono ?_
                rintro e W3 ⟨rfl, hJ3, hk3⟩
                have hc3 := hk3.cell.trans hc
                have hf3 := hk3.frozen.trans hf
                gi_wp2
                go_roundw
                case rel => exact HGO.out W3 x _ hx1 hJ3 hk3 (by have hk0 : ¬ k = 0 := (by omega); have h9 := HREST.out; simp only [sliced, Nat.mul_one] at h9; first | exact h9 | (rw [if_neg (by omega)] at h9; simpa [Addr.add, hk0] using h9))
                case measure => rw [World.cell?_setCell_same' _ _ _ (by rw [hc3]; rfl), hc]; simp only [Option.getD_some, lenOf]; omega
            · gi_wp2
              refine ⟨trivial, ?_⟩
              gi_wp2
              refine ⟨(fun h => by cases h), ?_⟩
              refine HR.out.mono ?_
              rintro e W3 ⟨rfl, hJ3, hk3⟩
              have hc3 := hk3.cell.trans hc
              have hf3 := hk3.frozen.trans hf
              gi_wp2
              go_roundw
              case rel => exact HGO.out W3 x _ hx1 hJ3 hk3 (by have hk0 : ¬ k = 0 := (by omega); have h9 := HREST.out; simp only [sliced, Nat.mul_one] at h9; first | exact h9 | (rw [if_neg (by omega)] at h9; simpa [Addr.add, hk0] using h9))
              case measure => rw [World.cell?_setCell_same' _ _ _ (by rw [hc3]; rfl), hc]; simp only [Option.getD_some, lenOf]; omega
    · obtain rfl : p = xs.length := by omega
      rw [List.drop_length] at hr
      obtain ⟨a, b, off, cap, rfl, _⟩ := hr.op
      gi_wp2
      go_end0
      have hm := HM.out
      rw [List.drop_length, mpls_nil, List.append_nil] at hm
      exact ⟨⟨_, rfl⟩, pre, hm, hJ⟩
end Go.Proofs.Ytbpjgmiedplidaa
namespace Go.Proofs.Ytbpjgmiedplidaa
open Go.RowKit Go.Shelf
attribute [local go_sem] Oper.semAt_some
set_option maxHeartbeats 1000000 in
theorem mruns_in (F : Fence) (n : Nat) (h6 : F.fn 35) (hro : F.round = none) (a : Option Addr) (len cap : Nat) (w : World) :
    CallsIn F n Try.prog 35 #[.slice a len cap] w fun e w' => e = .returned (.func (.func 59) #[] #[.pointer (some ⟨w.heap.size, 0, none⟩)]) ∧ w' = w.alloc (.cells #[.slice a len cap] 22) := by
  refine callsIn_of_wp Try.func35 rfl h6 ?_ hro
  simp only [Try.ntmps35, List.size_toArray, List.length_cons, List.length_nil, Nat.reduceAdd, Nat.reduceSub, Array.replicate_succ, Array.replicate_zero, List.push_toArray, List.append_toArray, List.nil_append, List.cons_append]
  gi_wp2
  go_ret
  exact ⟨rfl, rfl⟩
set_option maxRecDepth 100000 in
set_option maxHeartbeats 2000000 in
theorem mRuns_any (v : Value) (xs : List Int) (w : World) (h : Row w v (ints .i32 xs)) (hl : xs.length ≤ 5000) :
    Calls Try.prog 15 #[v] w fun e w' => e = .returned (.int .i64 (mlay xs).2) ∧ Below w.heap.size w w' := by
  obtain ⟨a, b, off, cap, rfl, _⟩ := id h.op
  have hout := (mpls_out _ xs xs 0 (Nat.le_refl _) (List.drop_zero (l := xs))).2
  obtain ⟨q, HQ⟩ : ∃ q, Hid ((mlay xs).2 = q) := ⟨_, rfl⟩
  rw [HQ.out] at hout ⊢
  have HOUT := Lib.hid hout; clear hout
  refine (callsIn_wide (n := 6)).1 ?_
  refine callsIn_of_wp_marks Try.func15 rfl trivial ?_ rfl
  simp only [Try.ntmps15, List.size_toArray, List.length_cons, List.length_nil, Nat.reduceAdd, Nat.reduceSub, Array.replicate_succ, Array.replicate_zero, List.push_toArray, List.append_toArray, List.nil_append, List.cons_append]
  gi_wp2_with (refine ⟨trivial, ?_⟩; gi_at_call 35; refine (mruns_in Fence.wide _ trivial rfl _ _ _ _).mono ?_; rintro e w2 ⟨rfl, rfl⟩)
  have hz : ∀ o : Obj, (w.alloc o).heap.size = w.heap.size + 1 := fun o => by simp
  have bN := (Boxed.new w 3 (.int .i64 0)).alloc (.cells #[.slice a xs.length cap] 22)
  have bS := Boxed.new (w.alloc (.cells #[.int .i64 0] 3)) 22 (.slice a xs.length cap)
  rw [hz] at bS
  have hB2 : Below w.heap.size w ((w.alloc (.cells #[.int .i64 0] 3)).alloc (.cells #[.slice a xs.length cap] 22)) := ((Below.refl _ w).alloc (Nat.le_refl _) _).alloc (by simp) _
  have hs2 : ((w.alloc (.cells #[.int .i64 0] 3)).alloc (.cells #[.slice a xs.length cap] 22)).heap.size = w.heap.size + 2 := by simp
  generalize (w.alloc (.cells #[.int .i64 0] 3)).alloc (.cells #[.slice a xs.length cap] 22) = w2 at *
  refine range_all rfl (by omega) (gf := 59) (lb := #[.pointer (some ⟨w.heap.size + 1, 0, none⟩)]) rfl trivial (enters_of Try.func59 (by kernel_rfl) rfl) (encs := encP (w0 := w) (xs := xs)) (fun _ => rfl) w.heap.size (w.heap.size + 1) (by omega) (by omega)
    (S := fun ys => ys.map (·.1.1) = mpls xs 0) (N := xs.length) ?seq
    (fun pre W => (W.cell? ⟨w.heap.size, 0, none⟩ = some (.int .i64 (((pre.map (fun x => mi (xs.drop x.1.1))).sum : Nat) : Int)) ∧ W.frozen? ⟨w.heap.size, 0, none⟩ = false) ∧ Below w.heap.size w W)
    (OwnFrom.and (Own.from (fun s A B row hs hg hr => ⟨cell_kept hs.1 hg hr, (frozen_kept hs.1 hg hr).trans hs.2⟩) _) (ownFrom_below (Nat.le_refl _) (by omega)))
    ?cell ⟨⟨bN.cell, bN.frozen⟩, hB2⟩
    (fun x => { tmps := #[.slice a xs.length cap, undef, .int .i64 0, .pointer (some ⟨w.heap.size, 0, none⟩), undef, .bool (decide (0 < mn (xs.drop x.1.1))), .slice a xs.length cap, .func (.func 59) #[] #[.pointer (some ⟨w.heap.size + 1, 0, none⟩)], x.1.2, .bool (decide (0 < mn (xs.drop x.1.1))), undef, undef, undef, undef], defers := [] }) ?assign ?body ?done
  case seq =>
    intro l J hJ hY W hW hJ0
    exact runs1_in _ l (w.heap.size + 1) w (.slice a xs.length cap) xs h (by omega) (by omega) J hJ hY W (hB2.trans (hW.mono (by omega))) ((hW.cell (p := ⟨w.heap.size + 1, 0, none⟩) (by simp; omega)).trans bS.cell) ((hW.frozen (p := ⟨w.heap.size + 1, 0, none⟩) (by simp; omega)).trans bS.frozen) hJ0
  case cell =>
    rintro s W u ⟨⟨h1, h2⟩, h3⟩
    exact ⟨⟨(World.cell?_setCell_far W ⟨w.heap.size + 1, 0, none⟩ ⟨w.heap.size, 0, none⟩ u (by simp)).trans h1, by rw [World.frozen?_setCell]; exact h2⟩, h3.setCell (p := ⟨w.heap.size + 1, 0, none⟩) (by simp) _⟩
  case assign =>
    intro l x W K hK
    rw [show encP x = #[x.1.2, .bool (decide (0 < mn (xs.drop x.1.1)))] from rfl]
    gi_wp2
    exact hK
  case body =>
    rintro l pre x W ⟨⟨hc, hf⟩, hB⟩ hlen
    have hsm := sum_le (fun x : Pc w xs => mi (xs.drop x.1.1)) (fun x => mi_le _) pre
    have hst : ∀ m : Nat, mi (xs.drop x.1.1) = m → ((pre ++ [x]).map (fun x => mi (xs.drop x.1.1))).sum = (pre.map (fun x => mi (xs.drop x.1.1))).sum + m := fun m hm => by simp [hm]
    have hmi : mi (xs.drop x.1.1) = if 0 < mn (xs.drop x.1.1) then 1 else 0 := rfl
    rcases Nat.eq_zero_or_pos (mn (xs.drop x.1.1)) with h0 | h0
    · rw [if_neg (by omega)] at hmi
      have HST := Lib.hid (hst 0 hmi)
      have hd : decide (0 < mn (xs.drop x.1.1)) = false := decide_eq_false (by omega)
      rw [hd]
      clear hst hmi hd h0
      generalize (pre.map (fun x => mi (xs.drop x.1.1))).sum = sm at *
      gi_wp2
      exact ⟨KeepsOthers.refl _, ⟨Below.refl _ _, rfl⟩, ⟨by rw [HST.out]; exact hc, hf⟩, hB⟩
    · rw [if_pos h0] at hmi
      have HST := Lib.hid (hst 1 hmi)
      have hd : decide (0 < mn (xs.drop x.1.1)) = true := decide_eq_true h0
      rw [hd]
      clear hst hmi hd h0
      generalize (pre.map (fun x => mi (xs.drop x.1.1))).sum = sm at *
      gi_wp2
      exact ⟨KeepsOthers.setCell _ _ _, ⟨(Below.refl _ _).setCell (p := ⟨w.heap.size, 0, none⟩) (Nat.le_refl _) _, heap_setCell_other W ⟨w.heap.size, 0, none⟩ (w.heap.size + 1) _ (by simp)⟩, ⟨by rw [HST.out]; exact World.cell?_setCell_same' _ _ _ (by rw [hc]; rfl), by rw [World.frozen?_setCell]; exact hf⟩, hB.setCell (p := ⟨w.heap.size, 0, none⟩) (Nat.le_refl _) _⟩
  case done =>
    rintro D ys W hD hS ⟨⟨hc, hf⟩, hB⟩ hK
    have hq : (ys.map (fun x => mi (xs.drop x.1.1))).sum = q := by
      have h9 := HOUT.out
      rw [← hS, List.map_map] at h9
      exact h9
    rw [hq] at hc
    gi_wp2
    refine ⟨by simp, .inl ⟨_, _, rfl, run_takeDeferred hK, ?_⟩⟩
    refine ⟨.int .i64 q, ?_, rfl, hB.trans (belowK_b (w := w) (Nat.le_refl _) W D _ _ (by omega) hK rfl rfl)⟩
    simp [results, Try.f15, go_sem]
end Go.Proofs.Ytbpjgmiedplidaa
namespace Go.Proofs.Ytbpjgmiedplidaa
open Go.RowKit
theorem rows_in {l n : Nat} {P : Program} {row : String} {args : Array Value} {w : World} {R : Value → World → Prop} (h : Rows P row args w R) : RowsIn (Fence.wide.inRound l) n P row args w R := fun c cs _ => by
  obtain ⟨v, w', r, s⟩ := h c cs
  exact ⟨v, w', r, by rw [fenced_inRound]; exact stepsIn_wide.2 s⟩
theorem oper_in {l n : Nat} {P : Program} {o : Oper} {a : Act} {w : World} {K : Act → World → Prop} {Q : Exit → Act → World → Prop} (hd : ∀ c, o.op ≠ .defer c) (h : o.wp P a w K Q) : o.wpIn (Fence.wide.inRound l) n P a w K Q := by
  unfold Oper.wp at h
  unfold Oper.wpIn
  refine ⟨fun _ _ => trivial, ?_⟩
  rw [Oper.semAt_plain _ _ _ hd]
  generalize (execOp a.eval o).run P w = r at *
  cases r with
  | ok x w' =>
    cases x <;> simp only [Oper.upon, Oper.uponIn] at h ⊢ <;>
      first
        | exact h
        | exact ⟨(fun h => by cases h), CallsIn.inRound l (callsIn_wide.2 h)⟩
        | exact ⟨(fun h => by cases h), rows_in h⟩
  | halt x w' => cases x <;> simp only [Oper.upon, Oper.uponIn] at h ⊢ <;> exact h
def calmOps (l : List Oper) : Bool := l.all fun o => match o.op with | .defer _ => false | _ => true
theorem calm_at {ops : Array Oper} (h : calmOps ops.toList = true) {i : Nat} {o : Oper} (ho : ops[i]? = some o) : ∀ c, o.op ≠ .defer c := by
  intro c hc
  have h1 := List.all_eq_true.1 h o (by rw [← Array.getElem?_toList] at ho; exact List.mem_of_getElem? ho)
  rw [hc] at h1; cases h1
theorem any_in {l n : Nat} {P : Program} {md : Region.Mode} {ops : Array Oper} {Q : Exit → Act → World → Prop} (hd : calmOps ops.toList = true) (hL : ¬ LetsOut Q) :
    ∀ (fuel : Nat) (listed : Array Bool) (a : Act) (w : World), wpAny P md ops Q fuel listed a w → wpAnyIn (Fence.wide.inRound l) n P md ops Q fuel listed a w
  | 0, _, _, _, h => h
  | fuel + 1, listed, a, w, h => by
    refine ⟨h.1, fun i hi => ?_⟩
    have h1 := h.2 i hi
    unfold wpOp at h1
    unfold wpOpIn
    split
    · rename_i h0
      rw [h0] at h1
      exact any_in hd hL fuel _ _ _ h1
    · rename_i o ho
      rw [ho] at h1
      simp only at h1
      split
      · rename_i hw
        rw [if_pos hw] at h1
        rcases h1 with h1 | h1
        · exact oper_in (calm_at hd ho) (Oper.wp_mono (fun a w h => any_in hd hL fuel _ a w h) h1)
        · exact absurd h1.2 hL
      · rename_i hw
        rw [if_neg hw] at h1
        exact ⟨fun _ _ => trivial, any_in hd hL fuel _ _ _ h1⟩
theorem wpIn_region_any_drew {l n : Nat} {P : Program} {ops : Array Oper} {Q : Exit → Act → World → Prop} {id : Nat} {a : Act} {w : World} (hm : P.follows .mixedOrders = true) (hd : calmOps ops.toList = true) (hL : ¬ LetsOut Q)
    (h : wpAny P .any ops Q ops.size (Array.replicate ops.size false) a w.drew) : (Code.region id ops true).wpIn (Fence.wide.inRound l) n P Q a w :=
  wpIn_region_any hm (any_in hd hL _ _ _ _ h)
theorem wpIn_region_held_drew {l n : Nat} {P : Program} {ops : Array Oper} {Q : Exit → Act → World → Prop} {S : World → Prop} {id : Nat} {a : Act} {w : World} (hm : P.follows .mixedOrders = true) (hd : calmOps ops.toList = true) (hL : ¬ LetsOut Q) (hS : S w.drew)
    (h : S w.drew → wpAnyH P .any ops Q S ops.size (Array.replicate ops.size false) a w.drew) : (Code.region id ops true).wpIn (Fence.wide.inRound l) n P Q a w :=
  wpIn_region_any hm (any_in hd hL _ _ _ _ (wpAny_of_held _ _ _ _ (h hS)))
theorem Own.turned {B : Nat} {E : TypeId} {w w' : World} {row : Option Nat} {v : Value} {cs : List Value} (h : Own B E w v cs) (hg : w.grownBy w' row) (hr : ∀ r, row = some r → ∃ o : Obj, w.heap[r]? = some o ∧ o.isCells = false) : Own B E w' v cs := by
  refine ⟨h.1.kept hg ?_, h.2⟩
  rcases h.1.2 with ⟨rfl, _⟩ | ⟨g, cap, cur, rfl, hB, hc, _⟩
  · exact .inl rfl
  · right
    show some g ≠ row
    intro e
    obtain ⟨o, ho, hoc⟩ := hr g e.symm
    rw [hc] at ho; cases ho; cases hoc
theorem Own.put {B b : Nat} {E : TypeId} {w : World} {v : Value} {cs : List Value} (h : Own B E w v cs) (hb : b < B) (u : Value) : Own B E (w.setCell ⟨b, 0, none⟩ u) v cs := by
  refine ⟨h.1.kept (grown_set w b 0 u) ?_, h.2⟩
  rcases h.1.2 with ⟨rfl, _⟩ | ⟨g, cap, cur, rfl, hB, hc, _⟩
  · exact .inl rfl
  · right
    show some g ≠ some b
    simp; omega
end Go.Proofs.Ytbpjgmiedplidaa
namespace Go.Proofs.Ytbpjgmiedplidaa
theorem usuL_dig {d : List Int} (h : ∀ c ∈ d, 0 ≤ mv c) : ∀ c ∈ usuL d, 0 ≤ dv c := by
  intro x hx
  obtain ⟨c, hc, rfl⟩ := List.mem_map.1 hx
  rw [dv_usu (h c hc)]; exact h c hc
theorem usuL_ne {d : List Int} (h : d ≠ []) : usuL d ≠ [] := by
  intro h0; apply h
  have := congrArg List.length h0
  rw [usuL, subL_len] at this
  exact List.eq_nil_of_length_eq_zero this
theorem mwhole_eq {d : List Int} (h : ∀ c ∈ d, 0 ≤ mv c) (h0 : d ≠ []) : mwhole d = if runO (usuL d) then runT (usuL d) ++ [65533] else runT (usuL d) := by
  have hl : dl (usuL d) = (usuL d).length := by have := dl_app (usuL d) [] (usuL_dig h) (by simp); rwa [List.append_nil] at this
  have hp : (usuL d).length ≠ 0 := fun h9 => usuL_ne h0 (List.eq_nil_of_length_eq_zero h9)
  have hn : (usuL d)[(usuL d).length]? = none := List.getElem?_eq_none (Nat.le_refl _)
  have e1 : sn 43 (usuL d) = (usuL d).length := by rw [sn, if_pos rfl, hl, hn]; rfl
  have e2 : sout 43 (usuL d) = if runO (usuL d) then runT (usuL d) ++ [65533] else runT (usuL d) := by rw [sout, if_neg (by omega), if_pos rfl, hl, if_neg hp, List.take_length]
  rw [mwhole, sread_cons, e1, e2, List.drop_length, sread_nil]
  simp
theorem mcode_dig (t : List Int) : ∀ c ∈ mcodeL t, 0 ≤ mv c := by
  intro x hx
  obtain ⟨c, hc, rfl⟩ := List.mem_map.1 hx
  have h1 : 0 ≤ dv c := by
    rw [codeL] at hc
    split at hc
    · exact bare_dig _ c hc
    · cases hc
  rw [mv_mod h1]; exact h1
theorem usu_mcode (t : List Int) : usuL (mcodeL t) = codeL t := by
  refine usuL_modL fun c hc => ?_
  rw [codeL] at hc
  split at hc
  · exact bare_dig _ c hc
  · cases hc
theorem mcode_ne {c : Int} {t : List Int} (h : allSc (c :: t) = true) : mcodeL (c :: t) ≠ [] := by
  intro h0
  have := usu_mcode (c :: t)
  rw [h0] at this
  exact code_ne h this.symm
theorem mv_pr {c : Int} (h : 0 ≤ mv c) : 43 ≤ c ∧ c ≤ 122 := by
  unfold mv at h
  split at h
  · omega
  · split at h
    · omega
    · have h1 := dg_dv h
      have h2 := dv_rng c
      have h3 := dg_rng h (by omega)
      omega
theorem mread_run {d r : List Int} (hd : ∀ c ∈ d, 0 ≤ mv c) (h0 : d ≠ []) :
    (mread (38 :: d ++ [45] ++ r)).1 = mwhole d ++ (mread r).1 ∧ (mread (38 :: d ++ [45] ++ r)).2 = (runR (usuL d) && (mread r).2) := by
  have e : 38 :: d ++ [45] ++ r = 38 :: (d ++ (45 :: r)) := by simp
  have hl : ml (d ++ 45 :: r) = d.length := ml_app d _ hd (fun c hc => by simp at hc; subst hc; decide)
  have hlp : d.length ≠ 0 := fun h => h0 (List.eq_nil_of_length_eq_zero h)
  have ht : (d ++ 45 :: r).take d.length = d := by rw [List.take_append_of_le_length (Nat.le_refl _), List.take_length]
  have hg : (d ++ 45 :: r)[d.length]? = some 45 := by rw [List.getElem?_append_right (Nat.le_refl _), Nat.sub_self]; rfl
  have hm : mdirB 38 = false := by decide
  have h1 : msn 38 (d ++ 45 :: r) = d.length + 1 := by rw [msn, if_pos rfl, hl, if_pos hg]
  have h2 : msout 38 (d ++ 45 :: r) = mwhole d := by rw [msout, hm, if_neg (by decide), if_pos rfl, hl, if_neg hlp, ht]
  have h3 : mwr 38 (d ++ 45 :: r) = runR (usuL d) := by rw [mwr, hm, if_neg (by decide), if_pos rfl, hl, if_neg hlp, ht, hg]; simp
  have h4 : (d ++ 45 :: r).drop (d.length + 1) = r := by
    rw [← List.drop_drop, List.drop_append_of_le_length (Nat.le_refl _), List.drop_length]; rfl
  rw [e, mread_cons, h1, h2, h3, h4]
  exact ⟨rfl, rfl⟩
theorem mread_dir {c : Int} (r : List Int) (h : mdirB c = true) : (mread (c :: r)).1 = c :: (mread r).1 ∧ (mread (c :: r)).2 = (mread r).2 := by
  have hc : c ≠ 38 := by have := of_decide_eq_true h; omega
  have e1 : msn c r = 0 := by rw [msn, if_neg hc]
  have e2 : msout c r = [c] := by rw [msout, h]; rfl
  have e3 : mwr c r = true := by rw [mwr, h]; rfl
  rw [mread_cons, e1, e2, e3, List.drop_zero]
  exact ⟨rfl, rfl⟩
theorem mread_amp (r : List Int) : (mread (38 :: 45 :: r)).1 = 38 :: (mread r).1 ∧ (mread (38 :: 45 :: r)).2 = (mread r).2 := by
  have e0 : ml (45 :: r) = 0 := by rw [ml, if_neg (by decide)]
  have hm : mdirB 38 = false := by decide
  have e1 : msn 38 (45 :: r) = 1 := by rw [msn, if_pos rfl, e0]; rfl
  have e2 : msout 38 (45 :: r) = [38] := by rw [msout, hm, if_neg (by decide), if_pos rfl, e0, if_pos rfl]; rfl
  have e3 : mwr 38 (45 :: r) = true := by rw [mwr, hm, if_neg (by decide), if_pos rfl, e0, if_pos rfl]; rfl
  rw [mread_cons, e1, e2, e3]
  exact ⟨rfl, rfl⟩
theorem mtak_of_mn {c : Int} {r : List Int} (h : ¬ 0 < mn (c :: r)) (hc : c ≠ 38) : mdirB c = true := by
  rw [mn] at h
  split at h
  · rename_i h1
    rw [mtak, decide_eq_false hc, Bool.or_false] at h1; exact h1
  · omega
/-- What is laid is read. -/
theorem mread_mlay : ∀ (k : Nat) (xs : List Int), xs.length ≤ k → allSc xs = true → (mread (mlay xs).1).1 = xs ∧ (mread (mlay xs).1).2 = true
  | _, [], _, _ => by rw [mlay_nil, mread_nil]; exact ⟨rfl, rfl⟩
  | 0, c :: r, h, _ => by simp at h
  | k + 1, c :: r, h, hs => by
    have h1 := mk1_pos (c :: r)
    have ih := mread_mlay k ((c :: r).drop (mk1 (c :: r))) (by rw [List.length_drop]; simp only [List.length_cons] at *; omega) (allSc_sub hs fun y hy => List.mem_of_mem_drop hy)
    rw [mlay_cons]
    show (mread (mo c r ++ (mlay ((c :: r).drop (mk1 (c :: r)))).1)).1 = c :: r ∧ (mread (mo c r ++ (mlay ((c :: r).drop (mk1 (c :: r)))).1)).2 = true
    generalize (mlay ((c :: r).drop (mk1 (c :: r)))).1 = L at *
    by_cases hn : 0 < mn (c :: r)
    · have e1 : mo c r = 38 :: mcodeL ((c :: r).take (mn (c :: r))) ++ [45] := by rw [mo, if_pos hn]
      have e2 : mk1 (c :: r) = mn (c :: r) := by unfold mk1; omega
      have hsc : allSc ((c :: r).take (mn (c :: r))) = true := allSc_sub hs fun y hy => List.mem_of_mem_take hy
      have hc := code_run hsc
      have hne : mcodeL ((c :: r).take (mn (c :: r))) ≠ [] := by
        obtain ⟨m, hm⟩ : ∃ m, mn (c :: r) = m + 1 := ⟨mn (c :: r) - 1, by omega⟩
        rw [hm, List.take_succ_cons] at hsc ⊢
        exact mcode_ne hsc
      have hs2 := mread_run (r := L) (mcode_dig ((c :: r).take (mn (c :: r)))) hne
      rw [mwhole_eq (mcode_dig _) hne, usu_mcode, hc.2.2.1, hc.2.1, hc.2.2.2, ih.1, ih.2] at hs2
      rw [e1]
      refine ⟨hs2.1.trans ?_, hs2.2⟩
      rw [e2]
      simp only [Bool.false_eq_true, if_false]
      exact List.take_append_drop _ _
    · have e2 : mk1 (c :: r) = 1 := by unfold mk1; omega
      rw [e2, List.drop_succ_cons, List.drop_zero] at ih
      by_cases hc : c = 38
      · subst hc
        have e1 : mo 38 r = [38, 45] := by rw [mo, if_neg hn, if_pos rfl]
        have hp := mread_amp L
        rw [e1]
        exact ⟨hp.1.trans (by rw [ih.1]), hp.2.trans ih.2⟩
      · have e1 : mo c r = [c] := by rw [mo, if_neg hn, if_neg hc]
        have hp := mread_dir L (mtak_of_mn hn hc)
        rw [e1]
        exact ⟨hp.1.trans (by rw [ih.1]), hp.2.trans ih.2⟩
theorem mlay_pr : ∀ (k : Nat) (xs : List Int), xs.length ≤ k → ∀ c ∈ (mlay xs).1, 32 ≤ c ∧ c ≤ 126
  | _, [], _ => by rw [mlay_nil]; intro c hc; cases hc
  | 0, c :: r, h => by simp at h
  | k + 1, c :: r, h => by
    have h1 := mk1_pos (c :: r)
    have ih := mlay_pr k ((c :: r).drop (mk1 (c :: r))) (by rw [List.length_drop]; simp only [List.length_cons] at *; omega)
    rw [mlay_cons]
    intro x hx
    rcases List.mem_append.1 hx with h2 | h2
    · rw [mo] at h2
      split at h2
      · rcases List.mem_append.1 h2 with h3 | h3
        · rcases List.mem_cons.1 h3 with h4 | h4
          · omega
          · have := mv_pr (mcode_dig _ x h4); omega
        · have := List.mem_singleton.1 h3; omega
      · rename_i hn
        split at h2
        · rcases List.mem_cons.1 h2 with h4 | h4
          · omega
          · have := List.mem_singleton.1 h4; omega
        · rename_i hc
          have h5 := List.mem_singleton.1 h2
          have := of_decide_eq_true (mtak_of_mn hn hc)
          omega
    · exact ih x h2
theorem mwhole_len (d : List Int) (h : ∀ c ∈ d, 0 ≤ mv c) (h0 : d ≠ []) : (mwhole d).length ≤ d.length + 1 := by
  have h1 := runT_len (usuL d)
  rw [usuL, subL_len] at h1
  rw [mwhole_eq h h0]
  split
  · rw [List.length_append]; simp only [List.length_cons, List.length_nil]; unfold usuL; omega
  · unfold usuL; omega
theorem ml_dig (r : List Int) : ∀ c ∈ r.take (ml r), 0 ≤ mv c := fun c hc => of_decide_eq_true (List.all_eq_true.1 (ml_all r) c hc)
theorem ml_tne {r : List Int} (h : ml r ≠ 0) : r.take (ml r) ≠ [] := by
  intro h0
  have h2 : (r.take (ml r)).length = 0 := by rw [h0]; rfl
  have h1 := ml_le r
  rw [List.length_take] at h2; omega
theorem msout_len (c : Int) (r : List Int) : (msout c r).length ≤ msn c r + 1 := by
  have h2 := ml_le r
  unfold msout msn
  by_cases hm : mdirB c = true
  · rw [if_pos hm]; simp
  · rw [if_neg hm]
    by_cases hc : c = 38
    · rw [if_pos hc, if_pos hc]
      by_cases h0 : ml r = 0
      · rw [if_pos h0]; split <;> simp
      · rw [if_neg h0]
        have h1 := mwhole_len _ (ml_dig r) (ml_tne h0)
        rw [List.length_take] at h1
        have h3 : (mwhole (r.take (ml r))).length ≤ ml r + 1 := by omega
        split
        · exact Nat.le_succ_of_le h3
        · exact h3
    · rw [if_neg hc]; simp
theorem mread_len : ∀ (k : Nat) (xs : List Int), xs.length ≤ k → (mread xs).1.length ≤ xs.length
  | _, [], _ => by rw [mread_nil]; simp
  | 0, c :: r, h => by simp at h
  | k + 1, c :: r, h => by
    have h1 := msout_len c r
    have h2 := msn_le c r
    have ih := mread_len k (r.drop (msn c r)) (by rw [List.length_drop]; simp only [List.length_cons] at h; omega)
    rw [List.length_drop] at ih
    rw [mread_cons, List.length_append, List.length_cons]
    omega
theorem mwhole_sc (d : List Int) (h : ∀ c ∈ d, 0 ≤ mv c) (h0 : d ≠ []) : allSc (mwhole d) = true := by
  rw [mwhole_eq h h0]
  split
  · exact allSc_app (runT_sc _) (by decide)
  · exact runT_sc _
theorem msout_sc {c : Int} (r : List Int) (h0 : 0 ≤ c) (h1 : c < 256) : allSc (msout c r) = true := by
  have hb : allSc [65533] = true := by decide
  unfold msout
  split
  · rw [allSc, List.all_cons, List.all_nil, Bool.and_true]; exact decide_eq_true (by omega)
  · split
    · split
      · split
        · decide
        · exact hb
      · exact mwhole_sc _ (ml_dig r) (ml_tne (by assumption))
    · exact hb
theorem mread_sc : ∀ (k : Nat) (xs : List Int), xs.length ≤ k → Rg 0 256 xs → allSc (mread xs).1 = true
  | _, [], _, _ => by rw [mread_nil]; rfl
  | 0, c :: r, h, _ => by simp at h
  | k + 1, c :: r, h, hg => by
    rw [mread_cons]
    have hc := hg c List.mem_cons_self
    exact allSc_app (msout_sc r hc.1 hc.2) (mread_sc k _ (by rw [List.length_drop]; simp only [List.length_cons] at h; omega) fun x hx => hg x (List.mem_cons_of_mem _ (List.mem_of_mem_drop hx)))
end Go.Proofs.Ytbpjgmiedplidaa
namespace Go.Proofs.Ytbpjgmiedplidaa
def runsF : Bool → List Int → Nat
  | _, [] => 0
  | b, c :: r => (if mtak c || b then 0 else 1) + runsF (!mtak c) r
theorem runsF_true : ∀ t : List Int, runsF true t = runsF false (t.drop (mn t))
  | [] => rfl
  | c :: r => by
    have ih := runsF_true r
    rw [runsF, mn]
    cases h : mtak c with
    | true => simp only [if_true, eq_self, List.drop_zero]; rw [runsF, h]; simp
    | false => simp only [Bool.false_eq_true, if_false, List.drop_succ_cons]; rw [← ih]; simp
theorem runsF_eq : ∀ (k : Nat) (t : List Int), t.length ≤ k → runsF false t = (mlay t).2
  | _, [], _ => by rw [mlay_nil]; rfl
  | 0, c :: r, h => by simp at h
  | k + 1, c :: r, h => by
    have h1 := mk1_pos (c :: r)
    have ih := runsF_eq k ((c :: r).drop (mk1 (c :: r))) (by rw [List.length_drop]; simp only [List.length_cons] at *; omega)
    rw [mlay_cons, ← ih]
    show runsF false (c :: r) = mi (c :: r) + runsF false ((c :: r).drop (mk1 (c :: r)))
    cases h9 : mtak c with
    | true =>
      have e0 : mn (c :: r) = 0 := by rw [mn, h9]; rfl
      have e1 : mk1 (c :: r) = 1 := by rw [mk1, e0]; rfl
      have e2 : mi (c :: r) = 0 := by rw [mi, e0]; rfl
      rw [e1, e2, runsF, h9]; simp
    | false =>
      have e0 : mn (c :: r) = mn r + 1 := by rw [mn, h9]; rfl
      have e1 : mk1 (c :: r) = mn r + 1 := by rw [mk1, e0]; omega
      have e2 : mi (c :: r) = 1 := by rw [mi, e0, if_pos (by omega)]
      rw [e1, e2, runsF, h9, List.drop_succ_cons, ← runsF_true]; simp
theorem runsF_at {xs : List Int} {k : Nat} {c : Int} (b : Bool) (h : xs[k]? = some c) : runsF b (xs.drop k) = (if mtak c || b then 0 else 1) + runsF (!mtak c) (xs.drop (k + 1)) := by
  obtain ⟨k1, k2⟩ := List.getElem?_eq_some_iff.1 h
  rw [List.drop_eq_getElem_cons k1, k2, runsF]
theorem runsF_le : ∀ (b : Bool) (t : List Int), runsF b t ≤ t.length
  | _, [] => Nat.le_refl _
  | b, c :: r => by
    have := runsF_le (!mtak c) r
    rw [runsF, List.length_cons]
    split <;> omega
end Go.Proofs.Ytbpjgmiedplidaa
