/- Walks: slices.Backward over places; Back. -/
import Derived.RangeFuncNested
import Derived.RangeFuncBox
import Derived.RangeFuncLeaves
import Derived.Shelf.Abstract
import Derived.WalkKit
import Derived.OwnWalkIn
import Derived.TacticsInMore
import Derived.LoopNIn
import Derived.LoopIn
import Derived.Test.YthjenihaogihpaaP07c
namespace Go.Proofs.Ythjenihaogihpaa
open Go.RowKit Go.Shelf
attribute [local go_sem] Oper.semAt_some
/-- What comes when k rounds are over: f 0, .., f (k - 1). -/
def gupto {α : Type} (f : Nat → α) (k : Nat) : List α := (List.range k).map f
theorem gupto_succ {α : Type} (f : Nat → α) (k : Nat) : gupto f (k + 1) = gupto f k ++ [f k] := by simp [gupto, List.range_succ]
theorem gupto_length {α : Type} (f : Nat → α) (k : Nat) : (gupto f k).length = k := by simp [gupto]
set_option maxRecDepth 100000 in
set_option maxHeartbeats 2000000 in
theorem back1_in {α : Type} (f : Nat → α) (encs : α → Array Value) (F : Fence) (n : Nat) (h8 : F.fn 60) (hro : F.round = none) (hn : 1 ≤ n) (l Bs n₀ b off cap : Nat) (zs : List Int) (hreach : zs.length ≤ 2000000) (he : ∀ k, k < zs.length → encs (f k) = #[.int .i64 ((zs.length - 1 - k : Nat) : Int), .int .i64 (zs[zs.length - 1 - k]?.getD 0)]) (hb : b < n₀) (J Jx : List α → World → Prop)
    (hY : ∀ pre x W, J pre W → pre.length < zs.length → YieldAt F (n - 1) Try.prog l (encs x) W fun e W' =>
      (e = .returned (.bool true) ∧ J (pre ++ [x]) W' ∧ Below n₀ W W') ∨ (e = .returned (.bool false) ∧ Jx (pre ++ [x]) W'))
    (W : World) (hBs : W.cell? ⟨Bs, 0, none⟩ = some (.slice (some ⟨b, off, none⟩) zs.length cap)) (hc : ∀ j, j < zs.length → W.cell? ⟨b, off + j, none⟩ = some (.int .i64 (zs[j]?.getD 0))) (hBl : Bs < n₀) (h0 : J [] W) :
    CallsIn F n Try.prog 60 #[.func (.yield l) #[] #[], .pointer (some ⟨Bs, 0, none⟩)] W fun e W' => (∃ v, e = .returned v) ∧
      ((∃ ys, ys = gupto f zs.length ∧ J ys W') ∨ (∃ pre, (∃ k, k ≤ zs.length ∧ pre = gupto f k) ∧ Jx pre W')) := by
  refine callsIn_of_wp Try.func60 rfl h8 ?_ hro
  simp only [Try.ntmps60, List.size_toArray, List.length_cons, List.length_nil, Nat.reduceAdd, Nat.reduceSub, Array.replicate_succ, Array.replicate_zero, List.push_toArray, List.append_toArray, List.nil_append, List.cons_append]
  gi_wp2
  gi_loopw [3] (fun i wr => ∃ k : Nat, k ≤ zs.length ∧ i = .int .i64 ((zs.length : Int) - 1 - k) ∧ J (gupto f k) wr ∧ Below n₀ W wr)
    (fun i _ => (intOf i + 1).toNat)
  case atStart => exact ⟨0, Nat.zero_le _, by simp, h0, Below.refl _ _⟩
  case round =>
    obtain ⟨k, hk, rfl, hJs, hnx⟩ := hrel
    have hBs2 := (hnx.cell (p := ⟨Bs, 0, none⟩) hBl).trans hBs
    by_cases hlt : k < zs.length
    · obtain ⟨m, HM⟩ : ∃ m : Nat, Hid (zs.length - 1 - k = m) := ⟨_, rfl⟩
      have hmi : (zs.length : Int) - 1 - k = (m : Int) := by have := HM.out; omega
      have hml : m < zs.length := by have := HM.out; omega
      obtain ⟨y, HZ⟩ : ∃ y, Hid (zs[m]?.getD 0 = y) := ⟨_, rfl⟩
      obtain ⟨fn, tmps, assign, body, hy, hR⟩ := hY _ (f k) wr hJs (by rw [gupto_length]; exact hlt)
      rw [he k hlt, HM.out, HZ.out] at hy
      have hcx' := (hnx.cell (p := ⟨b, off + m, none⟩) hb).trans (hc m hml)
      rw [HZ.out] at hcx'
      rw [hmi]
      clear hmi he
      gi_wp2
      refine hR.mono ?_
      rintro e W3 (⟨rfl, hJ3, hk3⟩ | ⟨rfl, hJx3⟩)
      · gi_wp2
        go_roundw
        case rel => exact ⟨k + 1, by omega, by congr 1; have := HM.out; omega, by rw [gupto_succ]; exact hJ3, hnx.trans hk3⟩
        case measure => simp [intOf]
      · gi_wp2
        refine bodyPost_ret (results_none rfl _ _ _) rfl ?_
        exact ⟨⟨_, rfl⟩, .inr ⟨_, ⟨k + 1, by omega, by rw [gupto_succ]⟩, hJx3⟩⟩
    · obtain rfl : k = zs.length := by omega
      rw [show (zs.length : Int) - 1 - zs.length = -1 by omega]
      gi_wp2
      go_end0
      exact ⟨⟨_, rfl⟩, .inl ⟨_, rfl, hJs⟩⟩
set_option maxHeartbeats 1000000 in
theorem back_in (F : Fence) (n : Nat) (h6 : F.fn 48) (hro : F.round = none) (a : Option Addr) (len cap : Nat) (w : World) :
    CallsIn F n Try.prog 48 #[.slice a len cap] w fun e w' => e = .returned (.func (.func 60) #[] #[.pointer (some ⟨w.heap.size, 0, none⟩)]) ∧ w' = w.alloc (.cells #[.slice a len cap] 36) := by
  refine callsIn_of_wp Try.func48 rfl h6 ?_ hro
  simp only [Try.ntmps48, List.size_toArray, List.length_cons, List.length_nil, Nat.reduceAdd, Nat.reduceSub, Array.replicate_succ, Array.replicate_zero, List.push_toArray, List.append_toArray, List.nil_append, List.cons_append]
  gi_wp2
  go_ret
  exact ⟨rfl, rfl⟩
theorem back_stops {α : Type} (f : Nat → α) (encs : α → Array Value) (F : Fence) (n : Nat) (h8 : F.fn 60) (hro : F.round = none) (hn : 1 ≤ n) (Bs n₀ b off cap : Nat) (zs : List Int) (hreach : zs.length ≤ 2000000) (he : ∀ k, k < zs.length → encs (f k) = #[.int .i64 ((zs.length - 1 - k : Nat) : Int), .int .i64 (zs[zs.length - 1 - k]?.getD 0)]) (w : World) (hBs : Bs < n₀) (hn₀ : n₀ ≤ w.heap.size)
    (hc : w.cell? ⟨Bs, 0, none⟩ = some (.slice (some ⟨b, off, none⟩) zs.length cap)) (hb : b < n₀) (hI : ∀ j, j < zs.length → w.cell? ⟨b, off + j, none⟩ = some (.int .i64 (zs[j]?.getD 0))) :
    SeqStopsK F n Try.prog 60 #[.pointer (some ⟨Bs, 0, none⟩)] encs (Below n₀) (fun ys => ys = gupto f zs.length)
      (fun pre => ∃ k, k ≤ zs.length ∧ pre = gupto f k) zs.length w := fun l J Jx W hW _ _ hY h0 => by
  have hW' := hW.mono hn₀
  exact back1_in f encs F n h8 hro hn l Bs n₀ b off cap zs hreach he hb J Jx hY W ((hW'.cell (p := ⟨Bs, 0, none⟩) hBs).trans hc) (fun j hj => (hW'.cell (p := ⟨b, off + j, none⟩) hb).trans (hI j hj)) hBs h0
end Go.Proofs.Ythjenihaogihpaa
