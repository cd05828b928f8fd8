/- Walks: the library's Split, Join, CutPrefix and TrimRight, told by rows. (laid together by program out of single texts). -/
import Derived.Lib.ItoaLen
import Derived.Test.YtnoffalohplhnaaDoorM9
namespace Go.Proofs.YtnoffalohplhnaaDoor
open Go.RowKit
set_option maxHeartbeats 1000000
set_option maxRecDepth 100000
/-- The library's variable holds some number, and the powers of ten lie as they are laid. -/
def Tz (w : World) : Prop := Mx w ∧ Lib.TabIs Tryd.prog w "internal/strconv.uint64pow10" .u64 Lib.pow10Tab
theorem Tz.below {w w' : World} (h : Tz w) (hb : Below w.heap.size w w') : Tz w' := ⟨h.1.below hb, Lib.tabBelow_of_tabIs h.2 _ hb⟩
theorem Pvs.cons {w : World} {vs : List Value} {ps : List (List Int)} {v : Value} {p : List Int} (hv : Row w v (ints .u8 p)) (h : Pvs w vs ps) : Pvs w (v :: vs) (p :: ps) := by
  refine ⟨by simp [h.1], fun i u q h1 h2 => ?_⟩
  cases i with
  | zero => simp at h1 h2; subst h1 h2; exact hv
  | succ i => simp at h1 h2; exact h.2 i u q h1 h2
theorem Row.one {w : World} {v : Value} {cs : List Value} (h : Row w v cs) : v.oneCell' = true := by
  obtain ⟨a, b, off, cap, rfl, _⟩ := h; rfl
theorem Pvs.one {w : World} {vs : List Value} {ps : List (List Int)} (h : Pvs w vs ps) : ∀ u ∈ vs, u.oneCell' = true := by
  intro u hu
  obtain ⟨i, hi, rfl⟩ := List.getElem_of_mem hu
  obtain ⟨v, p, h1, _, hr⟩ := h.get hi
  rw [List.getElem?_eq_getElem hi] at h1
  obtain rfl := Option.some.inj h1
  exact hr.one
/-- The pieces between 13, 10, as the library lays them. -/
theorem splitV_rows (w : World) : ∀ (k : Nat) (a : Addr) (cap : Nat) (xs : List Int), Row w (.slice (some a) xs.length cap) (ints .u8 xs) → Rg 0 256 xs → Lib.count (Lib.bytesOf xs) [13, 10] = k →
    Pvs w (Lib.splitV [13, 10] 0 k a cap (Lib.bytesOf xs)) (pc2 xs) := by
  intro k
  induction k with
  | zero =>
    intro a cap xs h hg hk
    have hi := index2_eq xs hg
    have hs := idx2_spec xs
    cases hx : idx2 xs with
    | none =>
      rw [(hs.1 hx).1, Lib.splitV, Lib.bytesOf_length]
      exact Pvs.cons h (Pvs.nil w)
    | some i =>
      rw [hx] at hi
      rw [Lib.count_hit (by simp) hi] at hk
      omega
  | succ k ih =>
    intro a cap xs h hg hk
    have hi := index2_eq xs hg
    have hs := idx2_spec xs
    cases hx : idx2 xs with
    | none =>
      rw [hx] at hi
      rw [Lib.count_miss hi] at hk
      omega
    | some i =>
      rw [hx] at hi
      obtain ⟨hlen, hp, _⟩ := hs.2 i hx
      rw [Lib.count_hit (by simp) hi] at hk
      obtain ⟨_, hc1, hc1m, _⟩ := h.ncap
      rw [Lib.splitV_hit _ _ _ _ _ _ i hi, hp]
      have hd : (Lib.bytesOf xs).drop (i + 2) = Lib.bytesOf (xs.drop (i + 2)) := by unfold Lib.bytesOf; rw [List.map_drop]
      rw [show ([13, 10] : List UInt8).length = 2 from rfl] at hk ⊢
      rw [hd] at hk ⊢
      refine Pvs.cons ?_ (ih _ _ _ ?_ (hg.drop _) (by omega))
      · have := h.pre50 i i (by rw [ints_length]; omega) (Nat.le_refl _) (by omega)
        rw [ints_take] at this
        exact this
      · have := Row.sub h (some a) cap (by rw [ints_length]) (i + 2) xs.length (by omega) (by rw [ints_length]; omega)
        rw [ints_take, List.take_length, ints_drop] at this
        have e : sliced (some a) (i + 2) xs.length cap 1 = .slice (some (Lib.tailAddr a cap (i + 2))) (xs.drop (i + 2)).length (cap - (i + 2)) := by
          unfold sliced Lib.tailAddr
          rw [List.length_drop]
          split <;> simp
        rw [e] at this
        exact this
theorem split2_any (v v2 : Value) (xs : List Int) (w : World) (h : Row w v (ints .u8 xs)) (h2 : Row w v2 (ints .u8 [13, 10])) (hg : Rg 0 256 xs) (hl : xs.length ≤ 1000000) (hm : Mx w) :
    Calls Tryd.prog 25 #[v, v2] w fun e w' => ∃ t vs, e = .returned t ∧ Row w' t vs ∧ Pvs w' vs (pc2 xs) ∧ Below w.heap.size w w' := by
  obtain ⟨a1, b1, o1, c1, rfl, _⟩ := id h.op
  obtain ⟨a2, b2, o2, c2, rfl, H2⟩ := id h2.op
  obtain ⟨m, hm⟩ := hm
  obtain ⟨_, hc1, hc1m, hn1⟩ := h.ncap
  obtain ⟨x2, hx2, rfl, hc2⟩ := H2.out 0 (by simp)
  cases a1 with
  | none =>
    obtain ⟨rfl, hnil⟩ := hn1 rfl
    obtain rfl : xs = [] := by simpa [ints] using hnil
    refine (Any.bytes_Split_nil laySlP7 (some ⟨b2, o2, none⟩) 2 c2 w (by omega) (by omega) (by omega)).mono ?_
    rintro e w' ⟨rfl, rfl⟩
    exact ⟨_, [.slice none 0 0], rfl, Row.lit [.slice none 0 0] (by intro u hu; simp at hu; subst hu; rfl) (by simp), by rw [pc2]; exact Pvs.cons (Row.nil _) (Pvs.nil _), below_alloc w _⟩
  | some a1 =>
    have hp := splitV_rows w _ a1 c1 xs h hg rfl
    have hlen : (Lib.splitV [13, 10] 0 (Lib.count (Lib.bytesOf xs) [13, 10]) a1 c1 (Lib.bytesOf xs)).length = Lib.count (Lib.bytesOf xs) [13, 10] + 1 := by
      have : ∀ (k : Nat) (a : Addr) (cap : Nat) (l : List UInt8), Lib.count l [13, 10] = k → (Lib.splitV [13, 10] 0 k a cap l).length = k + 1 := by
        intro k
        induction k with
        | zero => intro a cap l _; rfl
        | succ k ih =>
          intro a cap l hk
          by_cases hx : Lib.index l [13, 10] = -1
          · rw [Lib.count_miss hx] at hk; omega
          · have hge := Lib.index_ge l [13, 10]
            have hi : Lib.index l [13, 10] = ((Lib.index l [13, 10]).toNat : Int) := by omega
            rw [Lib.count_hit (by simp) hi] at hk
            rw [Lib.splitV_hit _ _ _ _ _ _ _ hi, List.length_cons, ih _ _ _ (by omega)]
      exact this _ _ _ _ rfl
    have hcell : ∀ i, i < xs.length → w.cell? (a1.add i) = some (.int .u8 (xs.getD i 0)) := by
      intro i hi
      obtain ⟨b, off, e, hc⟩ := h.bin (by omega)
      obtain rfl := Option.some.inj e
      rw [addr_add]; exact hc i hi
    have hcell2 : ∀ i, i < 2 → w.cell? ((⟨b2, o2, none⟩ : Addr).add i) = some (.int .u8 (([13, 10] : List Int).getD i 0)) := by
      intro i hi
      obtain ⟨b, off, e, hc⟩ := h2.bin (by decide)
      obtain ⟨rfl, rfl⟩ : b2 = b ∧ o2 = off := by simpa using e
      rw [addr_add]; exact hc i hi
    refine (Any.bytes_Split laySlP7 a1 ⟨b2, o2, none⟩ xs.length c1 2 c2 xs [13, 10] m w rfl rfl hg (by decide) hcell hcell2 hc1 (by omega) (by omega) (by have := maxLen_lt; omega) (by omega) hm).mono ?_
    rintro e w' ⟨rfl, q, rfl⟩
    rw [show Lib.bytesOf [13, 10] = [13, 10] from rfl]
    rw [← hlen]
    generalize Lib.splitV [13, 10] 0 (Lib.count (Lib.bytesOf xs) [13, 10]) a1 c1 (Lib.bytesOf xs) = vs at *
    have hb : Below w.heap.size w ((w.alloc (.cells vs.toArray (laySlP7_ren.t 22))).drewN q) := below_drewN (below_alloc w _) q
    have hvl : vs.length ≤ 1000000000 := by rw [hp.1]; have := pc2_len xs; omega
    exact ⟨_, vs, rfl, (Row.lit vs hp.one hvl).drewN q, hp.below hb, hb⟩
theorem Row.holds {w : World} {v : Value} {xs : List Int} (h : Row w v (ints .u8 xs)) (hg : Rg 0 256 xs) : Lib.HoldsBytes w v (Lib.bytesOf xs) := by
  obtain ⟨a, b, off, cap, rfl, _, _, ha, hc⟩ := h.int
  refine ⟨a, cap, by rw [Lib.bytesOf_length], fun hn => ?_, fun a' ha' i x hx => ?_⟩
  · rcases ha with h9 | ⟨rfl, _⟩
    · rw [hn] at h9; cases h9
    · rfl
  · have hi : i < xs.length := by have := (List.getElem?_eq_some_iff.1 hx).1; rwa [Lib.bytesOf_length] at this
    unfold Lib.bytesOf at hx
    rw [List.getElem?_map, List.getElem?_eq_getElem hi, Option.map_some, Option.some.injEq] at hx
    rcases ha with h9 | ⟨rfl, _⟩
    · rw [ha'] at h9
      obtain rfl := Option.some.inj h9
      have hr := hg.get (List.getElem?_eq_getElem hi)
      rw [addr_add, hc i xs[i] (List.getElem?_eq_getElem hi), ← hx, UInt8.toNat_ofNat']
      have : ((xs[i].toNat % 256 : Nat) : Int) = xs[i] := by omega
      simp only [Nat.reducePow]
      rw [this]
    · simp at hi
theorem Fresh_row {B : Nat} {w : World} {v : Value} {l : List UInt8} {xs : List Int} (h : Lib.FreshBytes B w v l) (he : l = Lib.bytesOf xs) (hg : Rg 0 256 xs) : Row w v (ints .u8 xs) := by
  obtain ⟨g, cap, zs, rfl, _, hlc, hcm, hz, hzr, hb, hc, _⟩ := h
  have hx : zs.take l.length = xs := bytesOf_inj (fun x hx => hzr x (List.mem_of_mem_take hx)) hg (by rw [hb, he])
  have hl : l.length = xs.length := by rw [he, Lib.bytesOf_length]
  refine ⟨some ⟨g, 0, none⟩, g, 0, cap, by rw [ints_length, hl], by rw [ints_length]; omega, hcm, .inl rfl, ints_one _ _, fun i u hu => ?_⟩
  rw [ints_get] at hu
  cases hxi : xs[i]? with
  | none => rw [hxi] at hu; simp at hu
  | some x =>
    rw [hxi] at hu
    simp only [Option.map_some, Option.some.injEq] at hu
    have hi : i < xs.length := (List.getElem?_eq_some_iff.1 hxi).1
    rw [Nat.zero_add, hc i (by omega), ← hu]
    rw [← hx, List.getElem?_take] at hxi
    rw [if_pos (by omega)] at hxi
    simp [List.getD, hxi]
theorem bytesOf_app (xs ys : List Int) : Lib.bytesOf (xs ++ ys) = Lib.bytesOf xs ++ Lib.bytesOf ys := by simp [Lib.bytesOf]
theorem join_bytes : ∀ (ps : List (List Int)), Lib.join (ps.map Lib.bytesOf) [13, 10] = Lib.bytesOf (joinC ps)
  | [] => rfl
  | [x] => by rw [List.map_cons, List.map_nil, Lib.join_one]; rfl
  | x :: y :: r => by
    have ih := join_bytes (y :: r)
    rw [List.map_cons, Lib.join_cons] at ih
    rw [List.map_cons, List.map_cons, Lib.join_cons, Lib.joinTail, List.map_cons, List.flatten_cons]
    rw [Lib.joinTail] at ih
    rw [joinC, bytesOf_app, bytesOf_cons, bytesOf_cons, ← ih]
    simp
theorem joinC_rg : ∀ {ps : List (List Int)}, (∀ p ∈ ps, Rg 0 256 p) → Rg 0 256 (joinC ps)
  | [], _ => Rg.nil _ _
  | [x], h => h x (by simp)
  | x :: y :: r, h => by
    have ih := joinC_rg (ps := y :: r) (fun p hp => h p (by simp [List.mem_cons.1 hp]))
    rw [joinC]
    refine (h x (by simp)).append fun z hz => ?_
    rcases List.mem_cons.1 hz with rfl | hz
    · omega
    · rcases List.mem_cons.1 hz with rfl | hz
      · omega
      · exact ih z hz
theorem lens_lensC (ps : List (List Int)) : Lib.lens (ps.map Lib.bytesOf) + 2 * ps.length = lensC ps := by
  induction ps with
  | nil => rfl
  | cons p r ih =>
    rw [List.map_cons, Lib.lens_cons, Lib.bytesOf_length, List.length_cons, lensC, List.map_cons, List.sum_cons]
    rw [lensC] at ih
    omega
theorem Fresh_block {B : Nat} {w : World} {v : Value} {l : List UInt8} (h : Lib.FreshBytes B w v l) : ∀ g, v.ownBlock = some g → B ≤ g := by
  obtain ⟨g, cap, zs, rfl, hB, _⟩ := h
  intro g' hg
  simp only [Value.ownBlock, Option.some.injEq] at hg
  omega
theorem join2_any (v v2 : Value) (vs : List Value) (ps : List (List Int)) (w : World) (h : Row w v vs) (hp : Pvs w vs ps) (h2 : Row w v2 (ints .u8 [13, 10])) (hg : ∀ p ∈ ps, Rg 0 256 p) (hl : lensC ps ≤ 1000000) :
    Calls Tryd.prog 19 #[v, v2] w fun e w' => ∃ t, e = .returned t ∧ Row w' t (ints .u8 (joinC ps)) ∧ (∀ g, t.ownBlock = some g → w.heap.size ≤ g) ∧ Below w.heap.size w w' := by
  obtain ⟨a, b, off, cap, rfl, hcap, hM, ha, h1, hcell⟩ := id h
  have hll := lens_lensC ps
  cases ps with
  | nil =>
    obtain rfl : vs = [] := List.eq_nil_of_length_eq_zero hp.1
    refine (Any.bytes_Join_none laySlJ14 a cap v2 w).mono ?_
    rintro e w' ⟨rfl, rfl⟩
    exact ⟨_, rfl, ⟨some ⟨w.heap.size, 0, none⟩, w.heap.size, 0, 0, rfl, Nat.le_refl _, Nat.zero_le _, .inl rfl, by simp [ints, joinC], by simp [ints, joinC]⟩, (by intro g hg; simp only [Value.ownBlock, Option.some.injEq] at hg; omega), below_alloc w _⟩
  | cons p r =>
    obtain ⟨v0, vr, rfl⟩ : ∃ v0 vr, vs = v0 :: vr := by
      cases vs with
      | nil => have := hp.1; simp at this
      | cons v0 vr => exact ⟨v0, vr, rfl⟩
    obtain rfl : a = some ⟨b, off, none⟩ := by
      rcases ha with h9 | ⟨h9, _⟩
      · exact h9
      · cases h9
    have hr0 := hp.2 0 v0 p rfl rfl
    have hc0 := hcell 0 v0 rfl
    rw [Nat.add_zero] at hc0
    cases r with
    | nil =>
      obtain rfl : vr = [] := List.eq_nil_of_length_eq_zero (by have := hp.1; simpa using this)
      obtain ⟨p0, c0, rfl, hn0, hcc⟩ := hr0.holds (hg p (by simp))
      rcases Nat.eq_zero_or_pos p.length with h0 | h0
      · obtain rfl := List.eq_nil_of_length_eq_zero h0
        refine (Any.bytes_Join_one_empty laySlJ14 b off cap p0 c0 v2 w hc0).mono ?_
        rintro e w' ⟨rfl, rfl⟩
        exact ⟨_, rfl, Row.nil _, (by intro g hg; simp [Value.ownBlock] at hg), Below.refl _ _⟩
      · cases p0 with
        | none => have := congrArg List.length (hn0 rfl); rw [Lib.bytesOf_length, List.length_nil] at this; omega
        | some ad0 =>
          refine (Any.bytes_Join_one laySlJ14 b off cap ad0 c0 (Lib.bytesOf p) v2 w hc0 (hcc ad0 rfl) (by rw [Lib.bytesOf_length]; exact h0) (by rw [Lib.bytesOf_length]; have h9 := hl; rw [lensC, List.map_cons, List.sum_cons] at h9; omega)).mono ?_
          rintro e w' ⟨t, rfl, hf, hb⟩
          exact ⟨t, rfl, Fresh_row hf rfl (hg p (by simp)), Fresh_block hf, hb⟩
    | cons q r =>
      have hP : Lib.PartsAt w ⟨b, off, none⟩ (v0 :: vr) ((p :: q :: r).map Lib.bytesOf) := by
        refine ⟨by rw [List.length_map]; exact hp.1, fun i u hu => by rw [addr_add]; exact hcell i u hu, fun i u l hu hl => ?_⟩
        rw [List.getElem?_map] at hl
        obtain ⟨y, hy, rfl⟩ := Option.map_eq_some_iff.1 hl
        exact (hp.2 i u y hu hy).holds (hg y (List.mem_of_getElem? hy))
      have hlen9 : (v0 :: vr).length = ((p :: q :: r).map Lib.bytesOf).length := by rw [List.length_map]; exact hp.1
      have hlen8 : (v0 :: vr).length = r.length + 2 := by rw [hp.1]; rfl
      have := Any.bytes_Join_many laySlJ14 b off (v0 :: vr).length cap (v0 :: vr) ((p :: q :: r).map Lib.bytesOf) v2 [13, 10] w hlen9.symm (by rw [hlen8]; omega) hP hcap (h2.holds (xs := [13, 10]) (by intro x hx; simp at hx; omega)) (by rw [hlen8]; simp only [List.length_cons] at hll; omega) (by rw [hlen8]; simp only [List.length_cons, List.length_nil] at hll ⊢; omega)
      refine this.mono ?_
      rintro e w' ⟨t, rfl, hf, hb⟩
      exact ⟨t, rfl, Fresh_row hf (join_bytes _) (joinC_rg hg), Fresh_block hf, hb⟩
/-- Is the second the first's head? -/
def preI (xs ys : List Int) : Bool := ys.isPrefixOf xs
theorem pre_bytes : ∀ {xs ys : List Int}, Rg 0 256 xs → Rg 0 256 ys → Lib.hasPrefix (Lib.bytesOf xs) (Lib.bytesOf ys) = preI xs ys
  | _, [], _, _ => by simp [Lib.hasPrefix, preI, Lib.bytesOf]
  | [], y :: ys, _, _ => by simp [Lib.hasPrefix, preI, Lib.bytesOf]
  | x :: xs, y :: ys, hx, hy => by
    have ih := pre_bytes hx.cons.2 hy.cons.2
    simp only [Lib.hasPrefix, preI] at ih ⊢
    rw [bytesOf_cons, bytesOf_cons, List.isPrefixOf, List.isPrefixOf, ih]
    congr 1
    have := byte_eq hy.cons.1 hx.cons.1
    rw [Bool.eq_iff_iff]
    simp only [beq_iff_eq]
    exact this
theorem cutprefix_any (v v2 : Value) (xs ys : List Int) (w : World) (h : Row w v (ints .u8 xs)) (h2 : Row w v2 (ints .u8 ys)) (hg : Rg 0 256 xs) (hg2 : Rg 0 256 ys) :
    Calls Tryd.prog 33 #[v, v2] w fun e w' => ∃ t, e = .returned (.tuple #[t, .bool (preI xs ys)]) ∧ (preI xs ys = true → Row w t (ints .u8 (xs.drop ys.length))) ∧ (preI xs ys = false → t = v) ∧ w' = w := by
  obtain ⟨a1, b1, o1, c1, rfl, _⟩ := id h.op
  obtain ⟨a2, b2, o2, c2, rfl, _⟩ := id h2.op
  obtain ⟨_, hc1, hc1m, hn1⟩ := h.ncap
  refine (Any.bytes_CutPrefix_all laynb141 a1 a2 xs.length c1 ys.length c2 xs ys w rfl rfl hc1 h.bin h2.bin).mono ?_
  rintro e w' ⟨rfl, rfl⟩
  rw [pre_bytes hg hg2]
  refine ⟨_, rfl, fun hq => ?_, fun hq => ?_, rfl⟩
  · have hyx : ys.length ≤ xs.length := by
      have := List.isPrefixOf_iff_prefix.1 hq
      exact this.length_le
    have hsub := Row.sub h a1 c1 (by rw [ints_length]) ys.length xs.length hyx (by rw [ints_length]; omega)
    rw [ints_take, List.take_length, ints_drop] at hsub
    unfold Lib.trimPrefixV
    cases ys with
    | nil =>
      rw [show ([] : List Int).length = 0 from rfl, List.drop_zero]
      rcases a1 with _ | ⟨b, o, _ | s⟩ <;> exact h
    | cons y ys =>
      have hx0 : 0 < xs.length := by simp only [List.length_cons] at hyx; omega
      obtain ⟨b, off, rfl, _⟩ := h.bin hx0
      show Row _ (Lib.bytesTrimPrefix b off xs.length c1 xs (y :: ys)) _
      unfold Lib.bytesTrimPrefix
      rw [pre_bytes hg hg2, if_pos hq]
      have e : sliced (some ⟨b, off, none⟩) (y :: ys).length xs.length c1 1 = Lib.sliceFrom b off xs.length c1 (y :: ys).length := by
        unfold sliced Lib.sliceFrom
        rw [Nat.mul_one, Option.map_some, addr_add]
      rw [e] at hsub
      exact hsub
  · unfold Lib.trimPrefixV
    cases ys with
    | nil => simp [preI] at hq
    | cons y ys =>
      rcases a1 with _ | ⟨b, o, _ | s⟩
      · rfl
      · show Lib.bytesTrimPrefix b o xs.length c1 xs (y :: ys) = _
        unfold Lib.bytesTrimPrefix
        rw [pre_bytes hg hg2, hq]; rfl
      · rfl
theorem trimR_bytes {xs : List Int} (hg : Rg 0 256 xs) : Lib.trimRightS (Lib.bytesOf xs) [32, 9] = Lib.bytesOf (trimR xs) := by
  have key : ∀ (l : List Int), Rg 0 256 l → (Lib.bytesOf l).dropWhile (([32, 9] : List UInt8).contains ·) = Lib.bytesOf (l.dropWhile blk2) := by
    intro l
    induction l with
    | nil => intro _; rfl
    | cons x r ih =>
      intro hg
      have hc : ([32, 9] : List UInt8).contains (UInt8.ofNat x.toNat) = blk2 x := by
        have h1 : (32 : UInt8) = UInt8.ofNat (32 : Int).toNat := rfl
        have h2 : (9 : UInt8) = UInt8.ofNat (9 : Int).toNat := rfl
        rw [h1, h2, Bool.eq_iff_iff]
        simp only [List.contains_cons, List.contains_nil, Bool.or_false, Bool.or_eq_true, beq_iff_eq, blk2, decide_eq_true_eq]
        rw [byte_eq hg.cons.1 (by omega), byte_eq hg.cons.1 (by omega)]
      rw [bytesOf_cons, List.dropWhile_cons, List.dropWhile_cons, hc, ih hg.cons.2]
      split <;> rfl
  have hrev : ∀ (l : List Int), (Lib.bytesOf l).reverse = Lib.bytesOf l.reverse := fun l => by simp [Lib.bytesOf]
  unfold Lib.trimRightS trimR
  rw [hrev, key _ (fun x hx => hg x (by simpa using hx)), hrev]
theorem trimR_take (xs : List Int) : trimR xs = xs.take (trimR xs).length ∧ (trimR xs).length ≤ xs.length := by
  have h1 : (xs.reverse.dropWhile blk2).reverse <+: xs.reverse.reverse := List.reverse_prefix.2 (List.dropWhile_suffix _)
  rw [List.reverse_reverse] at h1
  exact ⟨List.prefix_iff_eq_take.1 h1, h1.length_le⟩
theorem trim_any (v : Value) (s : ByteArray) (xs : List Int) (w : World) (h : Row w v (ints .u8 xs)) (hs : s.data.toList = [32, 9]) (hg : Rg 0 256 xs) :
    Calls Tryd.prog 34 #[v, .string s] w fun e w' => ∃ t, e = .returned t ∧ Row w' t (ints .u8 (trimR xs)) ∧ Below w.heap.size w w' := by
  obtain ⟨a1, b1, o1, c1, rfl, _⟩ := id h.op
  obtain ⟨_, hc1, hc1m, hn1⟩ := h.ncap
  have hsz : s.size = 2 := by
    have := congrArg List.length hs
    simpa using this
  refine (Any.bytes_TrimRight_laid laySlV7 (by kernel_rfl) a1 xs.length c1 xs s w rfl hc1 (by have := maxLen_lt; omega) h.bin hg (by omega) (by rw [hs]; intro j b hj; match j, hj with | 0, hj => (cases hj; decide) | 1, hj => (cases hj; decide))).mono ?_
  rintro e w' ⟨rfl, hb⟩
  rw [hs, trimR_bytes hg, Lib.bytesOf_length]
  obtain ⟨h1, h2⟩ := trimR_take xs
  refine ⟨_, rfl, ?_, hb⟩
  have := (h.below hb).pre50 (trimR xs).length c1 (by rw [ints_length]; exact h2) (by omega) (Nat.le_refl _)
  rw [ints_take, ← h1] at this
  exact this
theorem itoa_cells {n : Int} (h : 0 ≤ n) : Lib.byteCells (Lib.itoa n) = ints .u8 ((Lib.decDigits n.toNat).map (fun c => (c.toNat : Int))) ∧ (Lib.itoa n).length = (Lib.decDigits n.toNat).length := by
  have e : Lib.itoa n = Lib.decDigits n.toNat := by unfold Lib.itoa; rw [if_neg (by omega)]
  rw [e]
  exact ⟨by simp [Lib.byteCells, ints], rfl⟩
/-- A number behind what is owned. -/
theorem appInt_any (v : Value) (xs : List Int) (n : Int) (w : World) {B : Nat} (ho : Own B 5 w v (ints .u8 xs)) (hB : B ≤ w.heap.size) (hT : Lib.TabBelow Tryd.prog B w "internal/strconv.uint64pow10" .u64 Lib.pow10Tab) (h0 : 0 ≤ n) (h1 : n ≤ 9223372036854775807) (hl : xs.length ≤ 1000000) :
    Calls Tryd.prog 11 #[v, .int .i64 n, .int .i64 10] w fun e w' => ∃ t, e = .returned t ∧ Own B 5 w' t (ints .u8 (xs ++ (Lib.decDigits n.toNat).map (fun c => (c.toNat : Int)))) ∧ Below B w w' := by
  refine (Any.strconv_AppendInt_10 layM176 B _ n (by omega) h1 v _ w ho.1 hB (by rw [ints_length]; omega) hT).mono ?_
  rintro e w' ⟨t, rfl, ho', hb, _⟩
  obtain ⟨e1, e2⟩ := itoa_cells h0
  rw [e1, ← ints_append] at ho'
  refine ⟨t, rfl, ⟨?_, ints_one _ _⟩, hb⟩
  rw [ints_length] at ho' ⊢
  rw [List.length_append, List.length_map, ← e2]
  exact ho'
end Go.Proofs.YtnoffalohplhnaaDoor
