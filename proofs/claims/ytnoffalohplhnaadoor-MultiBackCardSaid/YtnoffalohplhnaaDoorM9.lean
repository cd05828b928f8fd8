/- Walks: the library's Cut, Split, Join, CutPrefix and TrimRight, told by rows. (laid together by program out of single texts). -/
import Derived.Test.YtnoffalohplhnaaDoorM1
import Derived.Test.YtnoffalohplhnaaDoorM2
import Derived.Test.YtnoffalohplhnaaDoorM3
import Derived.Test.YtnoffalohplhnaaDoorM5
import Derived.Test.YtnoffalohplhnaaDoorM8
namespace Go.Proofs.YtnoffalohplhnaaDoor
open Go.RowKit
set_option maxHeartbeats 1000000
set_option maxRecDepth 100000
/-- The library's variable holds some number, and the powers of ten lie as they are laid. -/
def Mx (w : World) : Prop := ∃ m, w.cell? ⟨0, 0, none⟩ = some (.int .i64 m)
theorem Mx.below {w w' : World} (h : Mx w) (hb : Below w.heap.size w w') : Mx w' := by
  obtain ⟨m, h⟩ := h
  exact ⟨m, by rw [← h]; exact hb.cell (World.block_lt_of_cell? w _ h)⟩
theorem bytesOf_cons (x : Int) (xs : List Int) : Lib.bytesOf (x :: xs) = UInt8.ofNat x.toNat :: Lib.bytesOf xs := rfl
theorem byte_eq {x y : Int} (hx : 0 ≤ x ∧ x < 256) (hy : 0 ≤ y ∧ y < 256) : UInt8.ofNat x.toNat = UInt8.ofNat y.toNat ↔ x = y := by
  refine ⟨fun h => ?_, fun h => by rw [h]⟩
  have h8 := congrArg UInt8.toNat h
  simp only [UInt8.toNat_ofNat'] at h8
  omega
theorem bytesOf_inj : ∀ {xs ys : List Int}, Rg 0 256 xs → Rg 0 256 ys → Lib.bytesOf xs = Lib.bytesOf ys → xs = ys
  | [], [], _, _, _ => rfl
  | [], _ :: _, _, _, h => by cases h
  | _ :: _, [], _, _, h => by cases h
  | x :: xs, y :: ys, hx, hy, h => by
    rw [bytesOf_cons, bytesOf_cons] at h
    obtain ⟨h1, h2⟩ := List.cons.inj h
    rw [(byte_eq hx.cons.1 hy.cons.1).1 h1, bytesOf_inj hx.cons.2 hy.cons.2 h2]
theorem Row.bin {w : World} {p : Option Addr} {n c : Nat} {xs : List Int} (h : Row w (.slice p n c) (ints .u8 xs)) : Lib.BytesIn w p n xs := by
  obtain ⟨a, b, off, cap, hv, _, _, ha, hc⟩ := h.int
  cases hv
  intro h0
  rcases ha with rfl | ⟨h9, _⟩
  · exact ⟨b, off, rfl, fun i hi => by rw [hc i xs[i] (List.getElem?_eq_getElem hi)]; simp [List.getD, hi]⟩
  · rw [h9] at h0; exact absurd h0 (by simp)
theorem Row.ncap {w : World} {p : Option Addr} {n c : Nat} {cs : List Value} (h : Row w (.slice p n c) cs) : n = cs.length ∧ n ≤ c ∧ c ≤ maxLen ∧ (p = none → c = 0 ∧ cs = []) := by
  obtain ⟨a, b, off, cap, hv, h1, h2, ha, _⟩ := h
  cases hv
  refine ⟨rfl, h1, h2, fun hn => ?_⟩
  subst hn
  rcases ha with h9 | ⟨h9, h8⟩
  · cases h9
  · exact ⟨h8 rfl, h9⟩
theorem Row.pre50 {w : World} {a : Option Addr} {n cp : Nat} {cs : List Value} (h : Row w (.slice a n cp) cs) (m c : Nat) (hm : m ≤ cs.length) (hmc : m ≤ c) (hc : c ≤ cp) : Row w (.slice a m c) (cs.take m) := by
  obtain ⟨a', b, off, cap, hv, hc', hM, ha, h1, hcell⟩ := h
  cases hv
  refine ⟨a, b, off, c, by rw [List.length_take, Nat.min_eq_left hm], by rw [List.length_take]; omega, by omega, ?_, fun u hu => h1 u (List.mem_of_mem_take hu), fun i u hu => ?_⟩
  · rcases ha with ha | ⟨rfl, ha⟩
    · exact .inl ha
    · exact .inr ⟨by simp, fun hn => by have := ha hn; omega⟩
  · rw [List.getElem?_take] at hu
    split at hu
    · exact hcell i u hu
    · cases hu
/-- Where 13, 10 first stands, as the library tells it. -/
theorem index2_eq : ∀ (xs : List Int), Rg 0 256 xs → Lib.index (Lib.bytesOf xs) [13, 10] = match idx2 xs with | none => -1 | some i => (i : Int)
  | [], _ => by rw [idx2]; rfl
  | c :: r, hg => by
    have ih := index2_eq r hg.cons.2
    rw [bytesOf_cons, Lib.index]
    rcases crlf_cases c r with ⟨r', rfl, rfl⟩ | h
    · rw [idx2_here, bytesOf_cons, if_pos (by simp [List.isPrefixOf])]; rfl
    · have hn : ([13, 10] : List UInt8).isPrefixOf (UInt8.ofNat c.toNat :: Lib.bytesOf r) = false := by
        rw [List.isPrefixOf]
        cases r with
        | nil => simp [Lib.bytesOf]
        | cons d r' =>
          rw [bytesOf_cons, List.isPrefixOf]
          have h1 : (13 : UInt8) = UInt8.ofNat (13 : Int).toNat := rfl
          have h2 : (10 : UInt8) = UInt8.ofNat (10 : Int).toNat := rfl
          have hd := hg.cons.2.cons.1
          have hc := hg.cons.1
          by_cases e1 : c = 13
          · have e2 : d ≠ 10 := fun e => h r' e1 (by rw [e])
            have : ((10 : UInt8) == UInt8.ofNat d.toNat) = false := by
              rw [beq_eq_false_iff_ne, h2]
              exact fun e => e2 ((byte_eq (by omega) hd).1 e).symm
            rw [this]; simp
          · have : ((13 : UInt8) == UInt8.ofNat c.toNat) = false := by
              rw [beq_eq_false_iff_ne, h1]
              exact fun e => e1 ((byte_eq (by omega) hc).1 e).symm
            rw [this]; simp
      rw [hn, idx2_cons h, ih]
      cases idx2 r with
      | none => rfl
      | some j =>
        have : ¬ ((j : Int) == -1) = true := fun e => by have := beq_iff_eq.1 e; omega
        simp [this]
def pre2 (xs : List Int) : List Int := match idx2 xs with | none => xs | some i => xs.take i
def suf2 (xs : List Int) : List Int := match idx2 xs with | none => [] | some i => xs.drop (i + 2)
theorem lnS_pre2 {xs : List Int} (h : xs ≠ []) : lnS xs = pre2 xs :: lnS (suf2 xs) := by
  unfold pre2 suf2
  have := idx2_spec xs
  cases hi : idx2 xs with
  | none => rw [(this.1 hi).2 h]; rfl
  | some i => exact (this.2 i hi).2.2
theorem suf2_len {xs : List Int} (h : xs ≠ []) : (suf2 xs).length < xs.length ∧ (pre2 xs).length ≤ xs.length := by
  have h0 : 0 < xs.length := List.length_pos_iff.2 h
  unfold pre2 suf2
  have := idx2_spec xs
  cases hi : idx2 xs with
  | none => simp [h0]
  | some i => have := (this.2 i hi).1; simp only [List.length_drop, List.length_take]; omega
theorem Rg.pre2 {xs : List Int} (h : Rg 0 256 xs) : Rg 0 256 (pre2 xs) := by
  unfold Proofs.YtnoffalohplhnaaDoor.pre2
  cases idx2 xs with
  | none => exact h
  | some i => exact h.take i
theorem Rg.suf2 {xs : List Int} (h : Rg 0 256 xs) : Rg 0 256 (suf2 xs) := by
  unfold Proofs.YtnoffalohplhnaaDoor.suf2
  cases idx2 xs with
  | none => exact Rg.nil _ _
  | some i => exact h.drop _
theorem maxLen_lt : maxLen ≤ 9223372036854775807 := by unfold maxLen; omega
theorem cut2_any (v v2 : Value) (xs : List Int) (w : World) (h : Row w v (ints .u8 xs)) (h2 : Row w v2 (ints .u8 [13, 10])) (hg : Rg 0 256 xs) (hl : xs.length ≤ 1000000) (hm : Mx w) :
    Calls Tryd.prog 28 #[v, v2] w fun e w' => ∃ a b ok, e = .returned (.tuple #[a, b, .bool ok]) ∧ Row w' a (ints .u8 (pre2 xs)) ∧ Row w' b (ints .u8 (suf2 xs)) ∧ Below w.heap.size w w' := by
  obtain ⟨a1, b1, o1, c1, rfl, _⟩ := id h.op
  obtain ⟨a2, b2, o2, c2, rfl, _⟩ := id h2.op
  obtain ⟨m, hm⟩ := hm
  obtain ⟨_, hc1, hc1m, hn1⟩ := h.ncap
  refine (Any.bytes_Cut_all laySlT4 a1 a2 xs.length c1 2 c2 xs [13, 10] m w rfl rfl hg (by decide) h.bin h2.bin (fun hp => (hn1 hp).1) hc1 (by omega) (by omega) hm).mono ?_
  rintro e w' ⟨rfl, q, rfl⟩
  have hbw : Below w.heap.size w (w.drewN q) := below_drewN (Below.refl _ _) q
  have hi := index2_eq xs hg
  rw [show Lib.bytesOf [13, 10] = [13, 10] from rfl, hi]
  have hs := idx2_spec xs
  unfold pre2 suf2
  cases hx : idx2 xs with
  | none => exact ⟨_, _, _, rfl, h.below hbw, Row.nil _, hbw⟩
  | some i =>
    obtain ⟨hlen, _, _⟩ := hs.2 i hx
    show ∃ a b ok, Ending.returned (Lib.cutV a1 xs.length c1 2 (i : Int)) = _ ∧ _
    unfold Lib.cutV
    rw [if_pos (by omega)]
    refine ⟨_, _, _, rfl, ?_, ?_, hbw⟩
    · have := (h.below hbw).pre50 i c1 (by rw [ints_length]; omega) (by omega) (Nat.le_refl _)
      rw [ints_take] at this
      exact this
    · have := Row.sub (h.below hbw) a1 c1 (by rw [ints_length]) (i + 2) xs.length (by omega) (by rw [ints_length]; omega)
      rw [ints_take, List.take_length, ints_drop] at this
      have e : sliced a1 (i + 2) xs.length c1 1 = Lib.fromV a1 xs.length c1 ((i : Int).toNat + 2) := by
        unfold sliced Lib.fromV
        simp
      rw [e] at this
      exact this
end Go.Proofs.YtnoffalohplhnaaDoor
