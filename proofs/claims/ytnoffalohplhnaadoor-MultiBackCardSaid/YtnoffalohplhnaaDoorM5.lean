/- Facts on the slice types of this translation. · Walks: are two lists the same? (laid together by program out of single texts). -/
import Derived.Test.YtnoffalohplhnaaDoorRows
import Derived.Test.YtnoffalohplhnaaDoorM4
namespace Go.Proofs.YtnoffalohplhnaaDoor
theorem slT_u8 : SlT Tryd.prog 23 5 := SlT.mk (z := .int .u8 0) (bytes := 1) (by kernel_rfl) (by kernel_rfl) (by omega) rfl
theorem slT_bb : SlT Tryd.prog 22 23 := SlT.mk (z := .slice none 0 0) (bytes := 24) (by kernel_rfl) (by kernel_rfl) (by omega) rfl
end Go.Proofs.YtnoffalohplhnaaDoor
namespace Go.Proofs.YtnoffalohplhnaaDoor
open Go.RowKit
set_option maxHeartbeats 400000
set_option maxRecDepth 100000 in
theorem like1_any (v1 v2 : Value) (xs ys : List Int) (w : World) (h1 : Row w v1 (ints .u8 xs)) (h2 : Row w v2 (ints .u8 ys)) (hl : xs.length ≤ 1000000000) (hl' : ys.length ≤ 1000000000) :
    Calls Tryd.prog 20 #[v1, v2] w fun e w' => e = .returned (.bool (decide (xs = ys))) ∧ Below w.heap.size w w' := by
  obtain ⟨a1, b1, o1, c1, rfl, HC1⟩ := h1.op
  obtain ⟨a2, b2, o2, c2, rfl, HC2⟩ := h2.op
  clear h1 h2
  by_cases hn : xs.length = ys.length
  · have hne : ((xs.length : Int) != (ys.length : Int)) = false := by simp [hn]
    have HN := Lib.hid hn; clear hn
    go_enter Tryd.func20, Tryd.ntmps20
    go_wp2
    clear hne
    go_loopw [5] (fun i wr => ∃ k : Nat, k ≤ xs.length ∧ i = .int .i64 k ∧ Hid (xs.take k = ys.take k) ∧ Below w.heap.size w wr) (fun i _ => xs.length - (intOf i).toNat)
    case atStart => exact ⟨0, Nat.zero_le _, rfl, rfl, Below.refl _ _⟩
    case round =>
      obtain ⟨k, hk, rfl, HT, hb⟩ := hrel
      by_cases hlt : k < xs.length
      · have hlt2 : k < ys.length := by have := HN.out; omega
        obtain ⟨x, HX, rfl, hc⟩ := HC1.out k hlt
        obtain ⟨y, HY, rfl, hd⟩ := HC2.out k hlt2
        replace hc := hc wr hb
        replace hd := hd wr hb
        by_cases hxy : x = y
        · subst hxy
          go_wp2_with fail
          go_quiet (fail)
          go_wp2
          go_roundw
          case rel => exact ⟨k + 1, by omega, by go_num, (by rw [List.take_add_one, List.take_add_one, HX.out, HY.out, HT.out] : xs.take (k + 1) = ys.take (k + 1)), below_drewN hb _⟩
          case measure => simp [intOf]; omega
        · have hne : (x != y) = true := by simpa using hxy
          go_wp2_with fail
          go_quiet (fail)
          go_wp2
          go_ret
          refine ⟨ret_bool (decide_eq_false ?_).symm, below_drewN hb _⟩
          intro he
          subst he
          exact hxy (Option.some.inj (HX.out.symm.trans HY.out))
      · go_wp2
        go_ret
        refine ⟨ret_bool (decide_eq_true ?_).symm, hb⟩
        have := HT.out
        rwa [List.take_of_length_le (by omega), List.take_of_length_le (by have := HN.out; omega)] at this
  · have hne : ((xs.length : Int) != (ys.length : Int)) = true := by rw [bne_iff_ne]; omega
    have HN := Lib.hid hn; clear hn
    go_enter Tryd.func20, Tryd.ntmps20
    go_wp2
    go_ret
    exact ⟨ret_bool (decide_eq_false (fun h => HN.out (by rw [h]))).symm, Below.refl _ _⟩
end Go.Proofs.YtnoffalohplhnaaDoor
