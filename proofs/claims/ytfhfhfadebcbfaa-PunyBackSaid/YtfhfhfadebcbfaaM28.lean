/- Walks: a message's name, checked and laid. · Walks: octets folded; two names the same. (laid together by program out of single texts). -/
import Derived.Test.YtfhfhfadebcbfaaM10
import Derived.Test.YtfhfhfadebcbfaaM13
import Derived.Test.YtfhfhfadebcbfaaM15
import Derived.Test.YtfhfhfadebcbfaaM27
namespace Go.Proofs.Ytfhfhfadebcbfaa
open Go.RowKit
set_option maxHeartbeats 4000000
set_option maxRecDepth 100000
theorem cell_kept {w w' : World} {a : Addr} {v : Value} (h : w.cell? a = some v) (hb : Below w.heap.size w w') : w'.cell? a = some v := by
  rw [← h]; exact hb.cell (World.block_lt_of_cell? w _ h)
theorem pair_new (w : World) (a b : Value) (T : TypeId) : (w.alloc (.cells #[a, b] T)).cell? ⟨w.heap.size, 0, none⟩ = some a ∧ (w.alloc (.cells #[a, b] T)).cell? ⟨w.heap.size, 1, none⟩ = some b := by
  have hc := fun j => cell_of_row (w.alloc (.cells #[a, b] T)) w.heap.size j #[a, b] T (0, 0) (heap_alloc_new w _)
  exact ⟨by rw [hc]; rfl, by rw [hc]; rfl⟩
theorem flat_snoc {ps : List (List Int)} {k : Nat} {p : List Int} (h : ps[k]? = some p) : (ps.take (k + 1)).flatten = (ps.take k).flatten ++ p := by
  rw [List.take_add_one, h]; simp
theorem flat_take (ps : List (List Int)) (k : Nat) : ((ps.take k).flatten).length ≤ ps.flatten.length := by
  have h : ps.flatten = (ps.take k).flatten ++ (ps.drop k).flatten := by rw [← List.flatten_append, List.take_append_drop]
  rw [h, List.length_append]; omega
end Go.Proofs.Ytfhfhfadebcbfaa
namespace Go.Proofs.Ytfhfhfadebcbfaa
open Go.RowKit
set_option maxHeartbeats 4000000
set_option maxRecDepth 100000
theorem or_low : ∀ n : Fin 26, bits .or .u8 (65 + (n.val : Int)) 32 = 65 + (n.val : Int) + 32 := by decide +kernel
theorem low_any (c : Int) (w : World) (_h0 : 0 ≤ c) (_h1 : c < 256) :
    Calls Try.prog 31 #[.int .u8 c] w fun e w' => e = .returned (.int .u8 (lowC c)) ∧ w' = w := by
  unfold lowC
  by_cases h : 65 ≤ c ∧ c ≤ 90
  · rw [if_pos h]
    obtain ⟨ha, hb⟩ := h
    have ho : bits .or .u8 c 32 = c + 32 := by
      have := or_low ⟨(c - 65).toNat, by omega⟩
      have e : 65 + (((c - 65).toNat : Nat) : Int) = c := by omega
      simp only [e] at this
      exact this
    go_enter Try.func31, Try.ntmps31
    go_wp2
    go_ret
    first | exact ⟨rfl, rfl⟩ | exact ⟨congrArg Ending.returned (congrArg (Value.int .u8) ho), rfl⟩
  · rw [if_neg h]
    by_cases ha : 65 ≤ c
    · have hb : 90 < c := by omega
      clear h
      go_enter Try.func31, Try.ntmps31
      go_wp2
      go_ret
      exact ⟨rfl, rfl⟩
    · have hb : c < 65 := by omega
      clear h ha
      go_enter Try.func31, Try.ntmps31
      go_wp2
      go_ret
      exact ⟨rfl, rfl⟩
theorem lowC_rng {c : Int} (h0 : 0 ≤ c) (h1 : c < 256) : 0 ≤ lowC c ∧ lowC c < 256 := by
  unfold lowC; split <;> omega
theorem map_low_rng {xs : List Int} (hg : Rg 0 256 xs) : Rg 0 256 (xs.map lowC) := fun x hx => by
  obtain ⟨y, hy, rfl⟩ := List.mem_map.1 hx
  exact lowC_rng (hg y hy).1 (hg y hy).2
theorem fold_any (v : Value) (xs : List Int) (w : World) (h : Row w v (ints .u8 xs)) (hg : Rg 0 256 xs) (hl : xs.length ≤ 900000) :
    Calls Try.prog 50 #[v] w fun e w' => ∃ t, e = .returned t ∧ Own w.heap.size 5 w' t (ints .u8 (xs.map lowC)) ∧ Below w.heap.size w w' := by
  have hC := oclone_any v xs w h (by omega)
  have HC := Lib.hid hC; clear hC
  rcases Nat.eq_zero_or_pos xs.length with h0 | h0
  · obtain rfl := List.eq_nil_of_length_eq_zero h0
    go_enter Try.func50, Try.ntmps50
    go_wp2_with (go_at_call 57; refine (HC.out).mono ?_; rintro e w1 ⟨t1, rfl, ho1, hb1⟩; obtain ⟨a1, c1, rfl⟩ := ho1.row.formN0 (n := 0) rfl)
    go_loopw [10] (fun i wr => i = .int .i64 0 ∧ wr = w1) (fun _ _ => 0)
    case atStart => exact ⟨rfl, rfl⟩
    case round =>
      obtain ⟨rfl, hw⟩ := hrel
      obtain rfl := hw.symm
      go_wp2
      go_ret
      exact ⟨_, rfl, ho1, hb1⟩
  · have hst := fun k x (hx : xs[k]? = some x) => fill_step (ys := xs) lowC hx rfl
    have hgt := fun k (hk : k < xs.length) => fill_get (ys := xs) lowC hk rfl
    have hal := fill_all (xs := xs) (ys := xs) lowC rfl
    have HST := Lib.hid hst; have HGT := Lib.hid hgt; have HAL := Lib.hid hal
    clear hst hgt hal
    go_enter Try.func50, Try.ntmps50
    go_wp2_with (go_at_call 57; refine (HC.out).mono ?_; rintro e w1 ⟨t1, rfl, ho1, hb1⟩; obtain ⟨g, cap, rfl, hgB, hgl⟩ := ho1.form (by rw [ints_length]; exact h0); rw [ints_length] at *)
    have HQ0 : Hid (Own w.heap.size 5 w1 (.slice (some ⟨g, 0, none⟩) xs.length cap) (ints .u8 ((xs.take 0).map lowC ++ xs.drop 0))) := by rw [List.take_zero, List.drop_zero]; exact ho1
    have HB1 := Lib.hid hb1
    clear ho1 hb1 h0 HC
    go_loopw [10] (fun i wr => ∃ k : Nat, i = .int .i64 k ∧ k ≤ xs.length ∧ Hid (Own w.heap.size 5 wr (.slice (some ⟨g, 0, none⟩) xs.length cap) (ints .u8 ((xs.take k).map lowC ++ xs.drop k))) ∧ Below w.heap.size w wr) (fun i _ => xs.length - (intOf i).toNat)
    case atStart => exact ⟨0, rfl, Nat.zero_le _, HQ0.out, HB1.out⟩
    case round =>
      obtain ⟨k, rfl, hk, HO, hb⟩ := hrel
      by_cases hlt : k < xs.length
      · obtain ⟨x, hx⟩ : ∃ x, xs[k]? = some x := ⟨_, List.getElem?_eq_getElem hlt⟩
        obtain ⟨y, hy, hy2⟩ := HGT.out k hlt
        obtain rfl : x = y := by rw [hx] at hy2; exact Option.some.inj hy2
        have hxr := hg x (List.mem_of_getElem? hx)
        have hcell := Own.cell HO.out (j := k) (u := .int .u8 x) (by rw [ints_get, hy]; rfl)
        have hln : (ints .u8 ((xs.take k).map lowC ++ xs.drop k)).length = xs.length := by
          rw [ints_length, List.length_append, List.length_map, List.length_take, List.length_drop]; omega
        have hfz := (show wr.ownsRow w.heap.size 5 1 (.slice (some ⟨g, 0, none⟩) xs.length cap) xs.length _ from hln ▸ HO.out.1).frozenAt k
        have hs := Own.storeN HO.out k (.int .u8 (lowC x)) rfl
        rw [ints_set, HST.out k x hx] at hs
        have HS := Lib.hid hs
        have HM := Lib.hid fun w => low_any x w hxr.1 hxr.2
        clear hs hx hy hy2 hln hxr
        generalize lowC x = z at *
        go_wp2_with (go_at_call 31; refine (HM.out _).mono ?_; rintro e w2 ⟨rfl, hw2⟩; obtain rfl := hw2.symm)
        go_roundw
        case rel => exact ⟨k + 1, by go_num, by omega, HS.out.1, hb.setCell hgB _⟩
        case measure => simp [intOf]; omega
      · obtain rfl : k = xs.length := by omega
        have ho := HO.out
        rw [HAL.out] at ho
        go_wp2
        go_ret
        exact ⟨_, rfl, ho, hb⟩
theorem osame_any (v1 v2 : Value) (xs ys : List Int) (w : World) (h1 : Row w v1 (ints .u8 xs)) (h2 : Row w v2 (ints .u8 ys)) (g1 : Rg 0 256 xs) (g2 : Rg 0 256 ys) (hl1 : xs.length ≤ 900000) (hl2 : ys.length ≤ 900000) :
    Calls Try.prog 28 #[v1, v2] w fun e w' => e = .returned (.bool (decide (xs.map lowC = ys.map lowC))) ∧ Below w.heap.size w w' := by
  have hA := fun w' h' => fold_any v1 xs w' h' g1 hl1
  have hB := fun w' h' => fold_any v2 ys w' h' g2 hl2
  have r1 := map_low_rng g1
  have r2 := map_low_rng g2
  generalize xs.map lowC = X at *
  generalize ys.map lowC = Y at *
  have HA := Lib.hid hA; have HB := Lib.hid hB
  clear hA hB
  go_enter Try.func28, Try.ntmps28
  go_wp2_with fail
  refine (HA.out _ h1).mono ?_
  rintro e w1 ⟨t1, rfl, ho1, hb1⟩
  go_wp2_with fail
  refine (HB.out _ (h2.below hb1)).mono ?_
  rintro e w2 ⟨t2, rfl, ho2, hb2⟩
  go_wp2_with fail
  refine (beq_any _ _ X Y _ (ho1.row.below hb2) ho2.row r1 r2).mono ?_
  rintro e w3 ⟨rfl, hw3⟩
  obtain rfl := hw3.symm
  go_wp2
  go_ret
  exact ⟨rfl, below_trans hb1 hb2⟩
end Go.Proofs.Ytfhfhfadebcbfaa
