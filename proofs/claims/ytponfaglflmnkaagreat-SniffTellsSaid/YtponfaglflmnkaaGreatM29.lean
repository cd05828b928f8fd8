/- Walks: controls and highs, counted. (laid together by program out of single texts). -/
import Derived.Shelf.Bytes.SlCountOne
import Derived.Test.YtponfaglflmnkaaGreatM28
namespace Go.Proofs.YtponfaglflmnkaaGreat
open Go.RowKit
set_option maxHeartbeats 2000000
set_option maxRecDepth 100000
theorem countB_eq (c : Int) (h0 : 0 ≤ c) (h1 : c < 256) : ∀ (xs : List Int), Rg 0 256 xs → Lib.countByte (Lib.bytesOf xs) c.toNat.toUInt8 = xs.count c
  | [], _ => rfl
  | x :: xs, hg => by
    have hx := hg x (by simp)
    have ih := countB_eq c h0 h1 xs (fun y hy => hg y (by simp [hy]))
    have e : Lib.bytesOf (x :: xs) = x.toNat.toUInt8 :: Lib.bytesOf xs := rfl
    rw [e]
    unfold Lib.countByte at ih ⊢
    rw [List.count_cons, List.count_cons, ih]
    congr 1
    by_cases hc : x = c
    · subst hc; simp
    · have : ¬ x.toNat.toUInt8 = c.toNat.toUInt8 := fun h9 => hc (by
        have h8 := congrArg UInt8.toNat h9
        simp only [Nat.toUInt8, UInt8.toNat_ofNat'] at h8
        omega)
      simp [this, hc]
theorem run_countRow {v : Value} {xs : List Int} {w : World} (h : Row w v (ints .u8 xs)) (hg : Rg 0 256 xs) (c : Int) (h0 : 0 ≤ c) (h1 : c < 256) :
    (Extern.BytealgCount.count #[v, .int .u8 c]).run Tryz.prog w = .ok (.int .i64 (xs.count c : Nat)) w := by
  obtain ⟨a, b, off, cap, rfl, hc, hm, ha, hcell⟩ := h.int
  rw [← countB_eq c h0 h1 xs hg]
  cases a with
  | none =>
    have h9 : xs = [] := by
      rcases ha with h9 | ⟨h9, _⟩
      · cases h9
      · exact h9
    subst h9
    exact Lib.run_countNil w _ _ _
  | some ad =>
    refine Lib.run_countAt w ad _ _ xs rfl (fun i hi => ?_) c
    rcases ha with h9 | ⟨h9, _⟩
    · obtain rfl := Option.some.inj h9
      have e : (⟨b, off, none⟩ : Addr).add i = ⟨b, off + i, none⟩ := by unfold Addr.add; split <;> simp_all
      rw [e, hcell i xs[i] (List.getElem?_eq_getElem hi)]; simp [List.getD, hi]
    · subst h9; simp at hi
theorem one_cell8 {w : World} {v : Value} {x : Int} (h : Row w v (ints .u8 [x])) : ∃ b off cap, v = .slice (some ⟨b, off, none⟩) 1 cap ∧ Hid (∀ w', Below w.heap.size w w' → w'.cell? ⟨b, off, none⟩ = some (.int .u8 x)) := by
  obtain ⟨a, b, off, cap, he, hc⟩ := h.op
  obtain ⟨y, hy, rfl, hc⟩ := hc.out 0 (by simp)
  obtain rfl : x = y := Option.some.inj hy.out
  exact ⟨b, off, cap, he, hc⟩
theorem bcount_any (v v2 : Value) (xs : List Int) (c : Int) (w : World) (h : Row w v (ints .u8 xs)) (h2 : Row w v2 (ints .u8 [c])) (hg : Rg 0 256 xs) (h0 : 0 ≤ c) (h1 : c < 256) :
    Calls Tryz.prog 33 #[v, v2] w fun e w' => e = .returned (.int .i64 (xs.count c : Nat)) ∧ w' = w := by
  obtain ⟨b, off, cap, rfl, HC⟩ := one_cell8 h2
  have hc := HC.out w (Below.refl _ _)
  have hr := run_countRow h hg c h0 h1
  generalize xs.count c = n at *
  clear h h2 HC
  go_enter Tryz.func33, Tryz.ntmps33
  go_wp2
  rw [run_callFunc_extern Tryz.func58 (by kernel_rfl) (by kernel_rfl) (by kernel_rfl) (e := Extern.BytealgCount.count) (by kernel_rfl), hr]
  simp only [Result.andThen]
  rw [Oper.upon_value]
  go_wp2
  go_ret
  exact ⟨rfl, rfl⟩
theorem ocount1_any (v : Value) (xs : List Int) (w : World) (h : Row w v (ints .u8 xs)) (hg : Rg 0 256 xs) (hl : xs.length ≤ 1000000) :
    Calls Tryz.prog 32 #[v, .int .i64 1] w fun e w' => e = .returned (.int .i64 (xs.countP isCtl : Nat)) ∧ w' = w := by
  obtain ⟨a, b, off, cp, rfl, HC⟩ := h.op
  obtain ⟨q, HQ⟩ : ∃ q : Nat, Hid (xs.countP isCtl = q) := ⟨_, rfl⟩
  rw [HQ.out]
  go_enter Tryz.func32, Tryz.ntmps32
  go_wp2
  go_loopw [5, 10] (fun n i wr => ∃ (k m : Nat), i = .int .i64 k ∧ n = .int .i64 m ∧ k ≤ xs.length ∧ m ≤ k ∧ Hid ((xs.take k).countP isCtl = m) ∧ wr = w) (fun _ i _ => xs.length - (intOf i).toNat)
  case atStart => exact ⟨0, 0, rfl, rfl, Nat.zero_le _, Nat.le_refl _, rfl, rfl⟩
  case round =>
    obtain ⟨k, m, rfl, rfl, hk, hmk, HK, hw0⟩ := hrel
    obtain rfl := hw0.symm
    by_cases hlt : k < xs.length
    · obtain ⟨c, HX, rfl, hc⟩ := HC.out k hlt
      replace hc := hc _ (Below.refl _ _)
      have hcr := hg.get HX.out
      have hs := cnt_snoc (p := isCtl) HX.out
      have hi1 := fun w => is1_any c w hcr.1 hcr.2
      rw [HK.out] at hs
      generalize isCtl c = C at *
      have HS := Lib.hid hs; have HI := Lib.hid hi1
      clear hs hi1
      rcases C with _ | _
      · go_wp2_with (first | (go_at_call 37; refine (HI.out _).mono ?_; rintro e w' ⟨rfl, hw⟩; obtain rfl := hw.symm))
        go_roundw
        case rel => exact ⟨k + 1, m, by go_num, rfl, by omega, by omega, HS.out, by first | rfl | trivial⟩
        case measure => simp [intOf]; omega
      · go_wp2_with (first | (go_at_call 37; refine (HI.out _).mono ?_; rintro e w' ⟨rfl, hw⟩; obtain rfl := hw.symm))
        go_roundw
        case rel => exact ⟨k + 1, m + 1, by go_num, by go_num, by omega, by omega, HS.out, by first | rfl | trivial⟩
        case measure => simp [intOf]; omega
    · have hq : m = q := by
        rw [← HQ.out, ← HK.out, List.take_of_length_le (by omega)]
      subst hq
      go_wp2
      go_ret
      exact ⟨rfl, rfl⟩
theorem sHighs_any (v : Value) (xs : List Int) (w : World) (h : Row w v (ints .u8 xs)) (hl : xs.length ≤ 1000000) :
    Calls Tryz.prog 13 #[v] w fun e w' => e = .returned (.int .i64 (hiN xs : Nat)) ∧ w' = w := by
  obtain ⟨a, b, off, cp, rfl, HC⟩ := h.op
  obtain ⟨q, HQ⟩ : ∃ q : Nat, Hid (hiN xs = q) := ⟨_, rfl⟩
  rw [HQ.out]
  go_enter Tryz.func13, Tryz.ntmps13
  go_wp2
  go_loopw [3, 8] (fun n i wr => ∃ (k m : Nat), i = .int .i64 k ∧ n = .int .i64 m ∧ k ≤ xs.length ∧ m ≤ k ∧ Hid (hiN (xs.take k) = m) ∧ wr = w) (fun _ i _ => xs.length - (intOf i).toNat)
  case atStart => exact ⟨0, 0, rfl, rfl, Nat.zero_le _, Nat.le_refl _, rfl, rfl⟩
  case round =>
    obtain ⟨k, m, rfl, rfl, hk, hmk, HK, hw0⟩ := hrel
    obtain rfl := hw0.symm
    by_cases hlt : k < xs.length
    · obtain ⟨c, HX, rfl, hc⟩ := HC.out k hlt
      replace hc := hc _ (Below.refl _ _)
      have hs : hiN (xs.take (k + 1)) = hiN (xs.take k) + (if decide (128 ≤ c) then 1 else 0) := cnt_snoc (p := fun c => decide (128 ≤ c)) HX.out
      rw [HK.out] at hs
      have HS := Lib.hid hs
      clear hs
      by_cases h1 : 128 ≤ c
      · have HT := Lib.hid (HS.out.trans (by rw [decide_eq_true h1]; rfl : _ = m + 1))
        go_wp2
        go_roundw
        case rel => exact ⟨k + 1, m + 1, by go_num, by go_num, by omega, by omega, HT.out, by first | rfl | trivial⟩
        case measure => simp [intOf]; omega
      · have HT := Lib.hid (HS.out.trans (by rw [decide_eq_false h1]; rfl : _ = m))
        have h1' : c < 128 := by omega
        go_wp2
        go_roundw
        case rel => exact ⟨k + 1, m, by go_num, rfl, by omega, by omega, HT.out, by first | rfl | trivial⟩
        case measure => simp [intOf]; omega
    · have hq : m = q := by
        rw [← HQ.out, ← HK.out, List.take_of_length_le (by omega)]
      subst hq
      go_wp2
      go_ret
      exact ⟨rfl, rfl⟩
end Go.Proofs.YtponfaglflmnkaaGreat
