/- Walks: bytes.IndexByte, and bytes.Index and bytes.Cut at one octet. · Walks: a digit's number. · Walks: the state of a text that is laid or read: adapted. · Walks: a number taken from octets. · Walks: bytes.Split at a dot; dotted words. (laid together by program out of single texts). -/
import Derived.Lib.BytesEntry
import Derived.Deep.RegionHeld3
import Derived.Test.YtfhfhfadebcbfaaM4
import Derived.Test.YtfhfhfadebcbfaaM10
import Derived.Test.YtfhfhfadebcbfaaM12
import Derived.Test.YtfhfhfadebcbfaaM13
import Derived.Test.YtfhfhfadebcbfaaM14
namespace Go.Proofs.Ytfhfhfadebcbfaa
open Go.RowKit
set_option maxHeartbeats 4000000
set_option maxRecDepth 100000
def idxC (c : Int) (xs : List Int) : Int := if xs.contains c = true then ((tw c xs).length : Nat) else -1
theorem idxC_eq (c : Int) (h0 : 0 ≤ c) (h1 : c < 256) : ∀ (xs : List Int), Rg 0 256 xs → Lib.indexByte (Lib.bytesOf xs) c.toNat.toUInt8 = idxC c xs
  | [], _ => rfl
  | x :: xs, hg => by
    have hx := hg x (by simp)
    have ih := idxC_eq c h0 h1 xs (fun y hy => hg y (by simp [hy]))
    have e : Lib.bytesOf (x :: xs) = x.toNat.toUInt8 :: Lib.bytesOf xs := rfl
    rw [e, Lib.indexByte, ih]
    by_cases hc : x = c
    · subst hc
      simp [idxC, tw]
    · have h9 : ¬ x.toNat.toUInt8 = c.toNat.toUInt8 := fun h9 => hc (by
        have h8 := congrArg UInt8.toNat h9
        simp only [Nat.toUInt8, UInt8.toNat_ofNat'] at h8
        omega)
      have hc2 : ¬ c = x := fun h => hc h.symm
      unfold idxC
      have e1 : (x :: xs).contains c = xs.contains c := by simp [hc2]
      have e2 : tw c (x :: xs) = x :: tw c xs := by simp [tw, hc]
      rw [e1, e2]
      cases xs.contains c <;> simp [h9] <;> omega
theorem run_idxByteRow {v : Value} {xs : List Int} {w : World} (h : Row w v (ints .u8 xs)) (hg : Rg 0 256 xs) (c : Int) (h0 : 0 ≤ c) (h1 : c < 256) :
    (Extern.BytealgIndexByte.indexByte #[v, .int .u8 c]).run Try.prog w = .ok (.int .i64 (idxC c xs)) w := by
  obtain ⟨a, b, off, cap, rfl, hc, hm, ha, hcell⟩ := h.int
  rw [← idxC_eq c h0 h1 xs hg]
  rcases ha with rfl | ⟨rfl, h9⟩
  · exact Lib.run_indexByteSlice w b off _ cap xs rfl (fun i hi => by
      rw [hcell i xs[i] (List.getElem?_eq_getElem hi)]; simp [List.getD, hi]) c
  · cases a with
    | none => exact Lib.run_indexByteString (P := Try.prog) .empty c w
    | some ad => exact Lib.run_indexByteString (P := Try.prog) .empty c w
theorem bidx_any (v : Value) (xs : List Int) (c : Int) (w : World) (h : Row w v (ints .u8 xs)) (hg : Rg 0 256 xs) (h0 : 0 ≤ c) (h1 : c < 256) :
    Calls Try.prog 30 #[v, .int .u8 c] w fun e w' => e = .returned (.int .i64 (idxC c xs)) ∧ w' = w := by
  have hr := run_idxByteRow h hg c h0 h1
  generalize idxC c xs = n at *
  clear h
  go_enter Try.func30, Try.ntmps30
  go_wp2
  rw [run_callFunc_extern Try.func51 (by kernel_rfl) (by kernel_rfl) (by kernel_rfl) (e := Extern.BytealgIndexByte.indexByte) (by kernel_rfl), hr]
  simp only [Result.andThen]
  rw [Oper.upon_value]
  go_wp2
  go_ret
  exact ⟨rfl, rfl⟩
theorem idxC_yes {c : Int} {xs : List Int} (h : xs.contains c = true) : idxC c xs = ((tw c xs).length : Nat) := if_pos h
theorem idxC_no {c : Int} {xs : List Int} (h : xs.contains c = false) : idxC c xs = -1 := if_neg (by rw [h]; decide)
theorem Row.preK {w : World} {a : Option Addr} {n cp : Nat} {cs : List Value} (h : Row w (.slice a n cp) cs) (m : Nat) (hm : m ≤ cs.length) : Row w (.slice a m cp) (cs.take m) := by
  obtain ⟨a', b, off, cap, hv, hc, hM, ha, h1, hcell⟩ := h
  cases hv
  refine ⟨a, b, off, cp, by rw [List.length_take, Nat.min_eq_left hm], by rw [List.length_take]; omega, hM, ?_, fun u hu => h1 u (List.mem_of_mem_take hu), fun i u hu => ?_⟩
  · rcases ha with ha | ⟨rfl, ha⟩
    · exact .inl ha
    · exact .inr ⟨by simp, ha⟩
  · rw [List.getElem?_take] at hu
    split at hu
    · exact hcell i u hu
    · cases hu
end Go.Proofs.Ytfhfhfadebcbfaa
namespace Go.Proofs.Ytfhfhfadebcbfaa
open Go.RowKit
set_option maxHeartbeats 4000000
set_option maxRecDepth 100000
theorem or_low41 : ∀ n : Fin 26, bits .or .u8 (65 + (n.val : Int)) 32 = 65 + (n.val : Int) + 32 := by decide +kernel
theorem low41_any (c : Int) (w : World) (_h0 : 0 ≤ c) (_h1 : c < 256) :
    Calls Try.prog 31 #[.int .u8 c] w fun e w' => e = .returned (.int .u8 (lowC c)) ∧ w' = w := by
  unfold lowC
  by_cases h : 65 ≤ c ∧ c ≤ 90
  · rw [if_pos h]
    obtain ⟨ha, hb⟩ := h
    have ho : bits .or .u8 c 32 = c + 32 := by
      have := or_low41 ⟨(c - 65).toNat, by omega⟩
      have e : 65 + (((c - 65).toNat : Nat) : Int) = c := by omega
      simp only [e] at this
      exact this
    go_enter Try.func31, Try.ntmps31
    go_wp2
    go_ret
    first | exact ⟨rfl, rfl⟩ | exact ⟨congrArg Ending.returned (congrArg (Value.int .u8) ho), rfl⟩
  · rw [if_neg h]
    by_cases ha : 65 ≤ c
    · have hb : 90 < c := by omega
      clear h
      go_enter Try.func31, Try.ntmps31
      go_wp2
      go_ret
      exact ⟨rfl, rfl⟩
    · have hb : c < 65 := by omega
      clear h ha
      go_enter Try.func31, Try.ntmps31
      go_wp2
      go_ret
      exact ⟨rfl, rfl⟩
def dgL : List Int := [97, 98, 99, 100, 101, 102, 103, 104, 105, 106, 107, 108, 109, 110, 111, 112, 113, 114, 115, 116, 117, 118, 119, 120, 121, 122, 48, 49, 50, 51, 52, 53, 54, 55, 56, 57]
theorem dgL_val : ∀ c : Fin 256, valP (c.val : Int) = (max (idxC (lowC (c.val : Int)) dgL) 0, decide (0 ≤ idxC (lowC (c.val : Int)) dgL)) := by decide +kernel
theorem value_any (c : Int) (w : World) (h0 : 0 ≤ c) (h1 : c < 256) :
    Calls Try.prog 12 #[.int .u8 c] w fun e w' => e = .returned (.tuple #[.int .i64 (valP c).1, .bool (valP c).2]) ∧ Below w.heap.size w w' := by
  have hv : valP c = (max (idxC (lowC c) dgL) 0, decide (0 ≤ idxC (lowC c) dgL)) := by
    have := dgL_val ⟨c.toNat, by omega⟩
    simp only [Int.toNat_of_nonneg h0] at this
    exact this
  have hl := fun w => low41_any c w h0 h1
  have hlr : 0 ≤ lowC c ∧ lowC c < 256 := by unfold lowC; split <;> omega
  rw [hv]
  generalize lowC c = L at *
  have kc := fun (w : World) (C : Array Value) (n c : Nat) => Lib.run_convert_bytes_const (P := Try.prog) w 22 5 C n c Try.underlying22 Try.underlying5
  have hB := fun v w' h => bidx_any v [97, 98, 99, 100, 101, 102, 103, 104, 105, 106, 107, 108, 109, 110, 111, 112, 113, 114, 115, 116, 117, 118, 119, 120, 121, 122, 48, 49, 50, 51, 52, 53, 54, 55, 56, 57] L w' h (by intro x hx; simp at hx; omega) hlr.1 hlr.2
  have hD : dgL = [97, 98, 99, 100, 101, 102, 103, 104, 105, 106, 107, 108, 109, 110, 111, 112, 113, 114, 115, 116, 117, 118, 119, 120, 121, 122, 48, 49, 50, 51, 52, 53, 54, 55, 56, 57] := rfl
  rw [hD]
  generalize idxC L [97, 98, 99, 100, 101, 102, 103, 104, 105, 106, 107, 108, 109, 110, 111, 112, 113, 114, 115, 116, 117, 118, 119, 120, 121, 122, 48, 49, 50, 51, 52, 53, 54, 55, 56, 57] = q at *
  have HL := Lib.hid hl; have HB := Lib.hid hB
  clear hl hB hv hD hlr
  go_enter Try.func12, Try.ntmps12
  go_wp2_with (first | (go_at_call 31; refine (HL.out _).mono ?_; rintro e w' ⟨rfl, hw⟩; obtain rfl := hw.symm) | (go_at_call 30; refine (HB.out _ _ (Row.flit [97, 98, 99, 100, 101, 102, 103, 104, 105, 106, 107, 108, 109, 110, 111, 112, 113, 114, 115, 116, 117, 118, 119, 120, 121, 122, 48, 49, 50, 51, 52, 53, 54, 55, 56, 57] [_, _, _, _, _, _, _, _, _, _, _, _, _, _, _, _, _, _, _, _, _, _, _, _, _, _, _, _, _, _, _, _, _, _, _, _] rfl (by simp))).mono ?_; rintro e w' ⟨rfl, hw⟩; obtain rfl := hw.symm))
  go_ret2
  exact ⟨rfl, below_alloc w _⟩
end Go.Proofs.Ytfhfhfadebcbfaa
namespace Go.Proofs.Ytfhfhfadebcbfaa
open Go.RowKit
set_option maxHeartbeats 4000000
set_option maxRecDepth 100000
def St (B P : Nat) (w : World) (s b m : Int) (f : Bool) : Prop := Rq 45 B P w (.int .i64 s) (.int .i64 b) (.int .i64 m) (.bool f)
theorem sadapt_any (B P : Nat) (s b : Int) (m : Nat) (f : Bool) (n : Int) (w : World) (h : St B P w s b m f) (hm : m ≤ 1000000000) :
    Calls Try.prog 23 #[.pointer (some ⟨P, 0, none⟩), .int .i64 n] w fun e w' => e = .returned (.tuple #[]) ∧ St B P w' s (adpP n ((m : Int) + 1) (!f) : Nat) (m + 1 : Nat) true ∧ w.grownBy w' (some P) := by
  obtain ⟨c0, c1, c2, c3⟩ := Rq.cells h
  obtain ⟨z0, z1, z2, z3⟩ := Rq.unfrozen h
  have hA := fun w => adapt_any n ((m : Int) + 1) (!f) w
  obtain ⟨q, hq⟩ : ∃ q, adpP n ((m : Int) + 1) (!f) = q := ⟨_, rfl⟩
  rw [hq] at hA ⊢
  have HA := Lib.hid hA
  have h1 := Rq.set2 h (.int .i64 ((m : Int) + 1)) rfl
  have hg1 : w.grownBy (w.setCell ⟨P, 2, none⟩ (.int .i64 ((m : Int) + 1))) (some P) := grown_set w P 2 _
  clear hA
  go_enter Try.func23, Try.ntmps23
  go_wp2_with fail
  generalize w.setCell ⟨P, 2, none⟩ (.int .i64 ((m : Int) + 1)) = w1 at *
  clear c0 c1 c2 c3 z0 z1 z2 z3 h
  obtain ⟨c0, c1, c2, c3⟩ := Rq.cells h1
  obtain ⟨z0, z1, z2, z3⟩ := Rq.unfrozen h1
  have h2 := Rq.below (Rq.set1 h1 (.int .i64 (q : Nat)) rfl) ((Below.refl _ _).drew)
  obtain ⟨d0, d1, d2, d3⟩ := Rq.cells h2
  obtain ⟨y0, y1, y2, y3⟩ := Rq.unfrozen h2
  have h3 := Rq.set3 h2 (.bool true) rfl
  have hg3 : w.grownBy _ (some P) := grown_trans (grown_trans (grown_trans hg1 (grown_set w1 P 1 (.int .i64 (q : Nat)))) (grown_drew _ _)) (grown_set _ P 3 (.bool true))
  go_region_held3 (fun w' => w'.cell? ⟨P, 2, none⟩ = some (.int .i64 ((m : Int) + 1)) ∧ w'.cell? ⟨P, 3, none⟩ = some (.bool f)) (first | exact ⟨d2, d3⟩ | exact ⟨c2, c3⟩ | go_keep) ((go_at_call 16; refine (HA.out _).mono ?_; rintro e w' ⟨rfl, hw⟩; obtain rfl := hw.symm))
  all_goals go_wp2
  all_goals go_end0
  all_goals exact ⟨rfl, h3, hg3⟩
end Go.Proofs.Ytfhfhfadebcbfaa
namespace Go.Proofs.Ytfhfhfadebcbfaa
open Go.RowKit
set_option maxHeartbeats 4000000
set_option maxRecDepth 100000
theorem St.cells {B P : Nat} {w : World} {s b m : Int} {f : Bool} (h : St B P w s b m f) : w.cell? ⟨P, 0, none⟩ = some (.int .i64 s) ∧ w.cell? ⟨P, 1, none⟩ = some (.int .i64 b) ∧ w.cell? ⟨P, 2, none⟩ = some (.int .i64 m) ∧ w.cell? ⟨P, 3, none⟩ = some (.bool f) := Rq.cells h
theorem St.below {B P : Nat} {w w' : World} {s b m : Int} {f : Bool} (h : St B P w s b m f) (hb : Below w.heap.size w w') : St B P w' s b m f := Rq.below h hb
theorem take_any (B P : Nat) (s b m : Int) (f : Bool) (c : List Int) (v : Value) (n : Int) (w : World) (h : St B P w s b m f) (hc : Row w v (ints .u8 c)) (hu : ∀ x ∈ c, 0 ≤ x ∧ x < 256)
    (hl : c.length ≤ 10000) (hn : 0 ≤ n) (hn2 : n ≤ 1099511627776) (hb0 : 0 ≤ b) (hb1 : b ≤ 1000000000000000) :
    Calls Try.prog 22 #[.pointer (some ⟨P, 0, none⟩), v, .int .i64 n] w fun e w' =>
      ∃ v', e = .returned (.tuple #[.int .i64 (tkP b c 36 1 n).1, v', .int .i64 (tkP b c 36 1 n).2.2]) ∧ (∀ W, Row W v (ints .u8 c) → Row W v' (ints .u8 (tkP b c 36 1 n).2.1)) ∧ Below w.heap.size w w' := by
  obtain ⟨V, hV⟩ : ∃ V, tkP b c 36 1 n = V := ⟨_, rfl⟩
  rw [hV]
  have HU := Lib.hid hu
  have HV := Lib.hid hV
  clear hu hV
  go_enter Try.func22, Try.ntmps22
  go_wp2_with fail
  go_loopw [1, 2, 9, 10] (fun cv nv wv kv wr => ∃ (d : List Int) (a p k : Int), nv = .int .i64 a ∧ wv = .int .i64 p ∧ kv = .int .i64 k ∧ Hid (∀ W, Row W v (ints .u8 c) → Row W cv (ints .u8 d)) ∧ Hid (∀ x ∈ d, 0 ≤ x ∧ x < 256) ∧ d.length ≤ 10000 ∧ 0 ≤ a ∧ a ≤ 1099511627776 ∧ 1 ≤ p ∧ p ≤ 38482906972160 ∧ 36 ≤ k ∧ k + 36 * (d.length : Int) ≤ 360036 ∧ Hid (tkP b d k p a = V) ∧ Below w.heap.size w wr) (fun cv _ _ _ _ => lenOf cv)
  case atStart => exact ⟨c, n, 1, 36, rfl, rfl, rfl, (fun _ hW => hW), HU.out, hl, hn, hn2, by omega, by omega, by omega, by omega, HV.out, Below.refl _ _⟩
  case round =>
    obtain ⟨d, a, p, k, rfl, rfl, rfl, HR, HD, hdl, ha, ha2, hp, hp2, hk, hk2, HT, hb⟩ := hrel
    obtain ⟨z0, z1, z2, z3⟩ := (h.below hb).cells
    have HRR := HR.out wr (hc.below hb)
    cases d with
    | nil =>
      have hv := HT.out
      rw [tkP] at hv
      obtain rfl := hv
      obtain ⟨aa, bb, off, cap, rfl, HC⟩ := Row.op HRR
      go_wp2_with fail
      go_ret3
      exact ⟨_, rfl, fun W _ => Row.nil W, hb⟩
    | cons x d =>
      have hv := HT.out
      have hx := HD.out x (by simp)
      rw [tkP] at hv
      obtain ⟨r0, r1⟩ := valP_rng x
      have hva := fun w => value_any x w hx.1 hx.2
      obtain ⟨D, hD⟩ : ∃ D, (valP x).1 = D := ⟨_, rfl⟩
      obtain ⟨o, ho⟩ : ∃ o, (valP x).2 = o := ⟨_, rfl⟩
      have hmul : D * p ≤ 35 * p := Int.mul_le_mul_of_nonneg_right (by omega) (by omega)
      have hmul0 : 0 ≤ D * p := Int.mul_nonneg (by omega) (by omega)
      simp only [hD, ho] at hv hva r0 r1
      have HVA := Lib.hid hva
      clear hva hD ho HT
      obtain ⟨aa, bb, off, cap, rfl, HC⟩ := Row.op HRR
      obtain ⟨y, HX, rfl, hcy⟩ := HC.out 0 (by simp)
      obtain rfl : x = y := by have := HX.out; simpa using this
      have hcx : wr.cell? ⟨bb, off, none⟩ = some (.int .u8 x) := hcy wr (Below.refl _ _)
      clear hcy
      cases o with
      | false =>
        rw [if_pos (.inl rfl)] at hv
        obtain rfl := hv
        go_wp2_with ((go_at_call 12; refine (HVA.out _).mono ?_; rintro e w' ⟨rfl, hb1⟩; have hb2 := below_trans hb hb1))
        go_ret3
        exact ⟨_, rfl, fun W _ => Row.nil W, hb2⟩
      | true =>
        have hw1 : IntKind.i64.wrap (D * p) = D * p := IntWalk.i64_in _ (by omega)
        have hw2 : IntKind.i64.wrap (1099511627776 - a) = 1099511627776 - a := IntWalk.i64_in _ (by omega)
        by_cases h1 : 1099511627776 - a < D * p
        · rw [if_pos (.inr h1)] at hv
          obtain rfl := hv
          go_wp2_with ((go_at_call 12; refine (HVA.out _).mono ?_; rintro e w' ⟨rfl, hb1⟩; have hb2 := below_trans hb hb1))
          go_ret3
          exact ⟨_, rfl, fun W _ => Row.nil W, hb2⟩
        · rw [if_neg (by simpa using h1)] at hv
          have hw3 : IntKind.i64.wrap (a + D * p) = a + D * p := IntWalk.i64_in _ (by omega)
          have hedg := fun w => edge_any k b w (by omega) (by omega) hb0 (by omega)
          obtain ⟨t, ht⟩ : ∃ t, edgP k b = t := ⟨_, rfl⟩
          obtain ⟨t0, t1⟩ := edgP_rng k b
          rw [ht] at hv hedg t0 t1
          have HE := Lib.hid hedg
          have hR2 : ∀ w', Below w.heap.size w w' → ∀ v', (∀ w' : World, Row w' (.slice (some ⟨bb, off, none⟩) (x :: d).length cap) (ints .u8 (x :: d)) → Row w' v' ((ints .u8 (x :: d)).drop 1)) → True := fun _ _ _ _ => trivial
          have HSL := HRR
          clear hedg ht hR2
          by_cases h2 : D < t
          · rw [if_pos h2] at hv
            obtain rfl := hv
            go_wp2_with (first | (go_at_call 12; refine (HVA.out _).mono ?_; rintro e w' ⟨rfl, hb1⟩; have hb2 := below_trans hb hb1; obtain ⟨y0, y1, y2, y3⟩ := (h.below hb2).cells; have HSL2 := HSL.below hb1) | (go_at_call 44; refine (HE.out _).mono ?_; rintro e w' ⟨rfl, hw⟩; obtain rfl := hw.symm) | (refine wpList_slL slT_u8 _ _ rfl rfl rfl rfl HSL2 (by omega) (by simp [ints]; omega) ?_; intro u2 hu2; have HU2 : Hid (∀ W, Row W v (ints .u8 c) → Row W u2 (ints .u8 d)) := (fun W hW => by have r2 := hu2 W (HR.out W hW); rwa [ints_drop] at r2); clear hu2))
            go_ret3
            exact ⟨_, rfl, HU2.out, hb2⟩
          · rw [if_neg h2] at hv
            have hmul3 : p * (36 - t) ≤ p * 35 := Int.mul_le_mul_of_nonneg_left (by omega) (by omega)
            have hmul4 : p * 1 ≤ p * (36 - t) := Int.mul_le_mul_of_nonneg_left (by omega) (by omega)
            have hmul5 : 1 * p ≤ D * p := Int.mul_le_mul_of_nonneg_right (by omega) (by omega)
            have hw4 : IntKind.i64.wrap (p * (36 - t)) = p * (36 - t) := IntWalk.i64_in _ (by omega)
            have HD2 : Hid (∀ y ∈ d, 0 ≤ y ∧ y < 256) := fun y hy => HD.out y (List.mem_cons_of_mem _ hy)
            have HT2 : Hid (tkP b d (k + 36) (p * (36 - t)) (a + D * p) = V) := hv
            clear hv
            go_wp2_with (first | (go_at_call 12; refine (HVA.out _).mono ?_; rintro e w' ⟨rfl, hb1⟩; have hb2 := below_trans hb hb1; obtain ⟨y0, y1, y2, y3⟩ := (h.below hb2).cells; have HSL2 := HSL.below hb1) | (go_at_call 44; refine (HE.out _).mono ?_; rintro e w' ⟨rfl, hw⟩; obtain rfl := hw.symm) | (refine wpList_slL slT_u8 _ _ rfl rfl rfl rfl HSL2 (by omega) (by simp [ints]; omega) ?_; intro u2 hu2; have HU2 : Hid (∀ W, Row W v (ints .u8 c) → Row W u2 (ints .u8 d)) := (fun W hW => by have r2 := hu2 W (HR.out W hW); rwa [ints_drop] at r2); clear hu2))
            go_roundw
            case rel => exact ⟨d, a + D * p, p * (36 - t), k + 36, rfl, rfl, rfl, HU2.out, HD2.out, by simp at hdl; omega, by omega, by omega, by omega, by omega, by omega, by simp at hk2; omega, HT2.out, hb2⟩
            case measure => rw [Row.len (HU2.out _ (hc.below hb))]; simp [lenOf, ints]
end Go.Proofs.Ytfhfhfadebcbfaa
namespace Go.Proofs.Ytfhfhfadebcbfaa
open Go.RowKit
set_option maxHeartbeats 4000000
set_option maxRecDepth 100000
theorem infoBS : (Try.prog.info? 22).map (fun i => (i.zero, i.size, i.bytes)) = some (some (.slice none 0 0), 1, 24) := by kernel_rfl
theorem Row.preC {w : World} {a : Option Addr} {n cp : Nat} {cs : List Value} (h : Row w (.slice a n cp) cs) (m c : Nat) (hm : m ≤ cs.length) (hmc : m ≤ c) (hc : c ≤ cp) : Row w (.slice a m c) (cs.take m) := by
  obtain ⟨a', b, off, cap, hv, hc', hM, ha, h1, hcell⟩ := h
  cases hv
  refine ⟨a, b, off, c, by rw [List.length_take, Nat.min_eq_left hm], by rw [List.length_take]; omega, by omega, ?_, fun u hu => h1 u (List.mem_of_mem_take hu), fun i u hu => ?_⟩
  · rcases ha with ha | ⟨rfl, ha⟩
    · exact .inl ha
    · exact .inr ⟨by simp, fun hn => by have := ha hn; omega⟩
  · rw [List.getElem?_take] at hu
    split at hu
    · exact hcell i u hu
    · cases hu
/-- What the loop of genSplit keeps. -/
def GSI (w : World) (g N : Nat) (xs : List Int) (s i : Value) (wr : World) : Prop :=
  ∃ (m : Nat) (done : List (List Int)) (rest : List Int) (vs : List Value), i = .int .i64 m ∧ Row wr s (ints .u8 rest) ∧ Hid (Rg 0 256 rest) ∧ rest.length ≤ 900000 ∧ Hid (pcs xs = done ++ pcs rest) ∧ Hid (vs.length = m) ∧ Hid (rest.count 46 + m = N) ∧
    Hid (Own w.heap.size 22 wr (.slice (some ⟨g, 0, none⟩) (N + 1) (N + 1)) (vs ++ List.replicate (N + 1 - m) (.slice none 0 0))) ∧ Hid (Pvs w vs done) ∧ Hid (Row w s (ints .u8 rest)) ∧ Below w.heap.size w wr
theorem pcs_sub : ∀ (xs : List Int) (p : List Int), p ∈ pcs xs → (∀ x ∈ p, x ∈ xs) ∧ p.length ≤ xs.length
  | [], p, h => by simp [pcs] at h; subst h; simp
  | c :: r, p, h => by
    rw [pcs] at h
    split at h
    · rcases List.mem_cons.1 h with rfl | h
      · simp
      · have := pcs_sub r p h
        exact ⟨fun x hx => List.mem_cons_of_mem _ (this.1 x hx), by simp only [List.length_cons]; omega⟩
    · obtain ⟨q, l, hq⟩ := pcs_ne r
      rw [hq] at h
      simp only at h
      rcases List.mem_cons.1 h with rfl | h
      · have := pcs_sub r q (by rw [hq]; simp)
        exact ⟨fun x hx => by
          rcases List.mem_cons.1 hx with rfl | hx
          · simp
          · exact List.mem_cons_of_mem _ (this.1 x hx), by simp only [List.length_cons]; omega⟩
      · have := pcs_sub r p (by rw [hq]; exact List.mem_cons_of_mem _ h)
        exact ⟨fun x hx => List.mem_cons_of_mem _ (this.1 x hx), by simp only [List.length_cons]; omega⟩
end Go.Proofs.Ytfhfhfadebcbfaa
