/- Walks: wide texts: marks, by the program. -/
import Derived.Test.YtgfdebijcpdhbaaW45k
namespace Go.Proofs.Ytgfdebijcpdhbaa
open Go.RowKit
set_option maxHeartbeats 1000000
theorem row_str {w : World} {a : Option Addr} {n c : Nat} (xs : List Int) (h : Row w (.slice a n c) (ints .u8 xs)) :
    (convert 24 9 (.slice a n c)).run Try.prog w = .ok (.string (strOfNums xs)) w := by
  obtain ⟨a', b, off, cap, he, hc, hm, ha, hcell⟩ := h.int
  cases he
  cases a with
  | none =>
    have h0 : xs = [] := by
      rcases ha with h9 | ⟨h9, _⟩
      · cases h9
      · exact h9
    subst h0
    exact run_convert_bytes_nil w 24 5 Try.underlying24 Try.underlying5 _ _ 9 Try.underlying9
  | some ad =>
    rcases ha with h9 | ⟨h9, _⟩
    · obtain rfl := Option.some.inj h9
      exact run_convert_bytes_arg w 24 5 Try.underlying24 Try.underlying5 b off _ _ xs rfl (fun i hi => by
        rw [hcell i xs[i] (List.getElem?_eq_getElem hi)]; simp [List.getD, hi]) 9 Try.underlying9
    · subst h9
      have hl : (loadCells ad 0).run Try.prog w = .ok #[] w := by
        have := run_loadCells_list (P := Try.prog) w ad [] (fun j v hj => by simp at hj)
        simpa using this
      show (convert 24 9 (.slice (some ad) 0 c)).run Try.prog w = _
      rw [run_convert_bytes_string w 24 9 5 _ 0 c Try.underlying24 Try.underlying5 Try.underlying9, run_bytesToString w _ 0 c [] hl, foldl_push_bytes]
      rfl
theorem str_inj {xs ys : List Int} (hx : Rg 0 256 xs) (hy : Rg 0 256 ys) (h : strOfNums xs = strOfNums ys) : xs = ys := by
  have h1 : xs.map (fun n => UInt8.ofNat n.toNat) = ys.map (fun n => UInt8.ofNat n.toNat) := by
    rw [← strOfNums_data, ← strOfNums_data, h]
  have h2 : ∀ zs : List Int, Rg 0 256 zs → (zs.map (fun n => UInt8.ofNat n.toNat)).map (fun u => (u.toNat : Int)) = zs := fun zs hz => by
    rw [List.map_map]
    have : zs.map ((fun u : UInt8 => (u.toNat : Int)) ∘ fun n => UInt8.ofNat n.toNat) = zs.map id := List.map_congr_left fun z hz2 => by
      have := hz z hz2
      simp only [Function.comp, id, UInt8.toNat_ofNat']
      omega
    rw [this, List.map_id]
  rw [← h2 xs hx, h1, h2 ys hy]
set_option maxRecDepth 100000 in
theorem bEqual_any (v1 v2 : Value) (xs ys : List Int) (w : World) (h1 : Row w v1 (ints .u8 xs)) (h2 : Row w v2 (ints .u8 ys)) (g1 : Rg 0 256 xs) (g2 : Rg 0 256 ys) :
    Calls Try.prog 45 #[v1, v2] w fun e w' => e = .returned (.bool (decide (xs = ys))) ∧ w' = w := by
  obtain ⟨a1, b1, o1, c1, rfl, _⟩ := id h1.op
  obtain ⟨a2, b2, o2, c2, rfl, _⟩ := id h2.op
  have s1 := row_str xs h1
  have s2 := row_str ys h2
  have HF : Hid (decide (strOfNums xs = strOfNums ys) = decide (xs = ys)) := by
    show _ = _
    rw [decide_eq_decide]
    exact ⟨str_inj g1 g2, fun h => by rw [h]⟩
  generalize strOfNums xs = sx at *
  generalize strOfNums ys = sy at *
  clear h1 h2
  go_enter Try.func45, Try.ntmps45
  go_wp2
  go_ret
  refine ⟨ret_bool ?_, rfl⟩
  rw [← HF.out]
  have e : ∀ s t : ByteArray, (s.toList == t.toList) = decide (s = t) := fun s t => by
    rw [Bool.eq_iff_iff, beq_iff_eq, decide_eq_true_iff, ByteArray.toList_eq, ByteArray.toList_eq]
    exact ⟨fun h => ByteArray.ext (Array.toList_inj.1 h), fun h => by rw [h]⟩
  exact e sx sy
set_option maxRecDepth 100000 in
theorem hasPre_any (v1 v2 : Value) (xs ys : List Int) (w : World) (h1 : Row w v1 (ints .u8 xs)) (h2 : Row w v2 (ints .u8 ys)) (g1 : Rg 0 256 xs) (g2 : Rg 0 256 ys) (_hl : xs.length ≤ 1000000) (hl2 : ys.length ≤ 1000000) :
    Calls Try.prog 35 #[v1, v2] w fun e w' => e = .returned (.bool (decide (xs.take ys.length = ys))) ∧ w' = w := by
  obtain ⟨a1, b1, o1, c1, rfl, _⟩ := id h1.op
  obtain ⟨a2, b2, o2, c2, rfl, _⟩ := id h2.op
  rcases Nat.lt_or_ge xs.length ys.length with hlt | hge
  · have HF : Hid (decide (xs.take ys.length = ys) = false) := decide_eq_false fun h => by
      have := congrArg List.length h
      rw [List.length_take] at this; omega
    go_enter Try.func35, Try.ntmps35
    go_wp2
    go_ret
    exact ⟨ret_bool HF.out.symm, rfl⟩
  · have hE := fun v h => bEqual_any v (.slice a2 ys.length c2) (xs.take ys.length) ys w h h2 (fun x hx => g1 x (List.mem_of_mem_take hx)) g2
    have HE := Lib.hid hE; clear hE
    generalize decide (xs.take ys.length = ys) = q at *
    go_enter Try.func35, Try.ntmps35
    go_wp2_with (first | (refine wpList_slH slT_u8 _ _ rfl rfl rfl rfl h1 (by omega) (by simp [ints]; omega) ?_; intro u3 hu3; have r3 := hu3 w h1; rw [Int.toNat_natCast, ints_take] at r3) | (go_at_call 45; refine (HE.out _ r3).mono ?_; rintro e w1 ⟨rfl, hw⟩; obtain rfl := hw.symm))
    go_ret
    exact ⟨rfl, rfl⟩
theorem marked_any (wd : Int) (big : Bool) (v : Value) (xs : List Int) (w : World) (h : Row w v (ints .i32 xs)) (hg : R32 xs) (hl : xs.length ≤ 5000) :
    Calls Try.prog 10 #[.int .i64 wd, .bool big, v] w fun e w' => ∃ t, e = .returned (.tuple #[t, .int .i64 (wideE wd (65279 :: xs))]) ∧ Own w.heap.size 5 w' t (ints .u8 (wideO wd big (65279 :: xs))) ∧ Below w.heap.size w w' := by
  have hg2 : R32 (65279 :: xs) := fun x hx => by
    rcases List.mem_cons.1 hx with rfl | hx
    · omega
    · exact hg x hx
  have hL := fun v w' h' => wideLay_any wd big v (65279 :: xs) w' h' hg2 (by simp only [List.length_cons]; omega)
  have hl2 : xs.length ≤ 5000 := hl
  generalize wideE wd (65279 :: xs) = er at *
  generalize wideO wd big (65279 :: xs) = O at *
  have HL := Lib.hid hL; clear hL hg2
  obtain ⟨a, b, off, cp, rfl, _⟩ := id h.op
  have ho := Own.ilit (k := .i32) (E := 21) (w := w) (B := w.heap.size) [65279] [_] rfl (Nat.le_refl _) (by simp)
  go_enter Try.func10, Try.ntmps10
  go_wp2_with (first | (at_builtin; refine wpList_app slT_i32 _ _ _ rfl rfl rfl rfl ho (h.alloc _) (by rw [ints_length, ints_length]; simp only [List.length_cons, List.length_nil]; omega) (by simp) ?_; intro t3 w3 hown3 hg3) | (go_at_call 8; refine (HL.out _ _ hown3.row).mono ?_; rintro e w4 ⟨t4, rfl, ho4, hb4⟩))
  have hb3 := below_app (Below.refl w.heap.size w) (below_alloc _ _) ho hg3
  go_ret2
  exact ⟨_, ret2 rfl rfl, ho4.mono hb3.size, below_trans hb3 hb4⟩
/-- By which mark octets begin. -/
def mk4b (xs : List Int) : Bool := decide (xs.take 4 = [0, 0, 254, 255])
def mk4l (xs : List Int) : Bool := decide (xs.take 4 = [255, 254, 0, 0])
def mk2b (xs : List Int) : Bool := decide (xs.take 2 = [254, 255])
def mk2l (xs : List Int) : Bool := decide (xs.take 2 = [255, 254])
def mN (a b c d : Bool) : Int := if a then 4 else if b then 4 else if c then 2 else if d then 2 else 0
def mB (a b c : Bool) : Bool := if a then true else if b then false else c
def markN (xs : List Int) : Int := mN (mk4b xs) (mk4l xs) (mk2b xs) (mk2l xs)
def markB (xs : List Int) : Bool := mB (mk4b xs) (mk4l xs) (mk2b xs)
end Go.Proofs.Ytgfdebijcpdhbaa
