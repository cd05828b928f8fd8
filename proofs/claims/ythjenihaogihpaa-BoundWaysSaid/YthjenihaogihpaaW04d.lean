/- Walks: UTF-8, taking one sign. -/
import Derived.Test.YthjenihaogihpaaW04c
namespace Go.Proofs.Ythjenihaogihpaa
open Go.RowKit
set_option maxHeartbeats 1000000

theorem far_N {a : Int} {r : List Int} (h : wideI a ≠ 0) : far (a :: r) = farL a 1 r := by simp [far, h]
set_option maxRecDepth 100000 in
theorem oTake_any (v : Value) (xs : List Int) (w : World) (h : Row w v (ints .u8 xs)) (hg : Rg 0 256 xs) (hl : xs.length ≤ 1000000) :
    Calls Try.prog 47 #[v] w fun e w' => e = .returned (.tuple #[.int .i32 (takeR xs).1, .int .i64 (takeR xs).2.1, .int .i64 (takeR xs).2.2]) ∧ Below w.heap.size w w' := by
  cases xs with
  | nil =>
    obtain ⟨ad, b, off, cap, rfl, HC⟩ := h.op
    go_enter Try.func47, Try.ntmps47
    go_wp2
    go_ret3
    exact ⟨rfl, Below.refl _ _⟩
  | cons a r =>
    have hfar := fun w' h' => ofar_any v a r w' h' hg hl
    obtain ⟨ad, b, off, cap, rfl, HC⟩ := id h.op
    obtain ⟨⟨ha0, ha1⟩, hg'⟩ := hg.cons
    obtain ⟨a', HA, rfl, hca⟩ := HC.out 0 (by simp)
    obtain rfl : a = a' := by simpa using HA.out
    have HCA := Lib.hid hca; clear hca HA
    have hst := fun w => oStarts_any a w ha0 ha1
    have hfb := farL_bounds a r 1
    have hand := andNot_lead ha0 ha1
    have hle := fun w => olead_any (wideI a) w
    have hok := farL_ok a r 1 (Nat.le_refl _)
    have hwr := wideI_rng a
    by_cases hw0 : wideI a = 0
    · rw [takeR_bad hw0]
      rw [show far (a :: r) = 0 by simp [far, hw0]] at hfar
      have HF := Lib.hid hfar; clear hfar hst hw0 hle hok hand hfb hwr
      go_enter Try.func47, Try.ntmps47
      go_wp2_with (go_at_call 57; refine (HF.out _ h).mono ?_; rintro e w' ⟨rfl, hb1⟩)
      go_ret3
      exact ⟨rfl, hb1⟩
    · rw [far_N hw0] at hfar
      by_cases hN : (farL a 1 r : Int) = wideI a
      · rw [takeR_ok hw0 hN]
        rcases hand with hh | ⟨hand, hd0, hd1, hd2⟩
        · exact absurd hh hw0
        rw [← hN] at hle hand hst
        generalize hn : farL a 1 r = n at *
        generalize hq : wideI a = q at *
        generalize hL : leadI q = ld at *
        rw [← hN] at hL
        rw [hL] at hand hle
        have hn1 := hfb.1
        have hn2 := hfb.2.1
        have hn4 : n ≤ 4 := by omega
        have hb0 : (0 : Int) ≤ (n : Int) := by omega
        have hz0 : ((n : Int) == 0) = false := by rw [beq_eq_false_iff_ne]; omega
        have hlt : ¬ ((n : Int) < (n : Int)) := by omega
        obtain ⟨c0, hc0e⟩ : ∃ c0, a - ld = c0 := ⟨_, rfl⟩
        rw [hc0e] at hand hd0 hd1 ⊢
        clear hc0e
        have HF := Lib.hid hfar; have HS := Lib.hid hst; have HLD := Lib.hid hle; have HAND := Lib.hid hand; have HOK := Lib.hid hok
        clear hfar hst hle hand hok hfb hN hq hL hn hw0 hwr
        obtain ⟨rs, hrs⟩ : ∃ rs, r.take (n - 1) = rs := ⟨_, rfl⟩
        have hrl : rs.length = n - 1 := by rw [← hrs, List.length_take]; omega
        have hsub : ((ints .u8 (a :: r)).take ((n : Int).toNat)).drop ((1 : Int).toNat) = ints .u8 rs := by
          rw [← hrs, Int.toNat_natCast, show ((1 : Int).toNat) = 1 from rfl, ints_take, ints_drop]
          obtain ⟨m, rfl⟩ : ∃ m, n = m + 1 := ⟨n - 1, by omega⟩
          simp
        have HRS := Lib.hid hrs; have HRL := Lib.hid hrl; have HSUB := Lib.hid hsub
        have hok2 : Hid (∀ y ∈ rs, folB y = true) := by rw [← HRS.out]; exact HOK.out
        rw [HRS.out]
        clear hrs hrl hsub
        go_enter Try.func47, Try.ntmps47
        go_wp2_with (first | (go_at_call 57; refine (HF.out _ h).mono ?_; rintro e w1 ⟨rfl, hb1⟩; have hc0 : w1.cell? ⟨b, off, none⟩ = some (.int .u8 a) := by simpa using HCA.out w1 hb1) | (go_at_call 58; refine (HS.out _).mono ?_; rintro e w' ⟨rfl, rfl⟩))
        have hwi : IntKind.i32.wrap c0 = c0 := IntWalk.i32_in _ (by omega)
        have hand := HAND.out
        go_quiet ((go_at_call 59; exact quiet_same (HLD.out _)))
        clear hand hwi
        have hb2 := below_drewN hb1 nq
        generalize w1.drewN nq = w2 at *
        have hv0 : Hid (0 ≤ c0 ∧ c0 < 128) := ⟨hd0, hd1⟩
        have hn1' : (1 : Int) ≤ (n : Int) := by omega
        have hn2' : (n : Int) ≤ (r.length : Int) + 1 := by omega
        go_wp2_with (refine wpList_slLH slT_u8 _ _ _ rfl rfl rfl rfl rfl (h.below hb2) (by omega) (by omega) (by simp [ints]; omega) ?_; intro v2 hv2; have r2 := hv2 w h; rw [HSUB.out] at r2; obtain ⟨a2, b2, o2, c2, rfl, HC2⟩ := r2.op; clear hv2 r2)
        have hrl3 : rs.length ≤ 3 := by have := HRL.out; omega
        go_loopw [6, 50] (fun c i wr => ∃ k : Nat, i = .int .i64 k ∧ k ≤ rs.length ∧ c = .int .i32 (valL c0 (rs.take k)) ∧ Hid (0 ≤ valL c0 (rs.take k) ∧ valL c0 (rs.take k) < bnd k) ∧ wr = w2) (fun _ i _ => rs.length - (intOf i).toNat)
        case atStart => exact ⟨0, rfl, Nat.zero_le _, rfl, by simp [valL]; exact ⟨hv0.out.1, hv0.out.2⟩, rfl⟩
        case round =>
          obtain ⟨k, rfl, hk, rfl, hv, rfl⟩ := hrel
          by_cases hlt : k < rs.length
          · obtain ⟨y, HY, rfl, hcy⟩ := HC2.out k hlt
            replace hcy := hcy wr hb2
            have hfy := hok2.out y (List.mem_of_getElem? HY.out)
            have hyb := folB_iff.1 hfy
            have hval : valL c0 (rs.take (k + 1)) = 64 * valL c0 (rs.take k) + (y - 128) := by
              rw [List.take_add_one, HY.out]; exact valL_snoc _ _ _
            have hbs := bnd_succ (k := k) (by have := HRL.out; omega) hv.out.1 hv.out.2 hfy
            rw [← hval] at hbs
            have hle := bnd_le k
            obtain ⟨m, hm⟩ : ∃ m, valL c0 (rs.take k) = m := ⟨_, rfl⟩
            rw [hm] at hv hval ⊢
            have hvo := hv.out
            have HV := Lib.hid hval; have HB := Lib.hid hbs
            have hm0 : 0 ≤ m := hvo.1
            have hm1 : m < 33554432 := by omega
            clear hval hbs hm hvo hle hv hfy
            go_wp2
            go_roundw
            case rel => exact ⟨k + 1, by go_num, by omega, iv (by rw [HV.out]; omega), HB.out, (by first | rfl | trivial)⟩
            case measure => simp [intOf]; omega
          · have hv1 : valL c0 (rs.take k) = valL c0 rs := by rw [List.take_of_length_le (by omega)]
            have HV := Lib.hid hv1; clear hv1
            go_wp2
            go_ret3
            exact ⟨ret3 (iv HV.out) rfl rfl, hb2⟩
      · have hfq := hfb.2.2 (by omega)
        by_cases hE : farL a 1 r = r.length + 1
        · rw [takeR_end hw0 hN hE]
          generalize hn : farL a 1 r = n at *
          generalize hq : wideI a = q at *
          have hlt : (n : Int) < q := by omega
          have hz0 : ((n : Int) == 0) = false := by rw [beq_eq_false_iff_ne]; omega
          have he : ((n : Int) == (r.length : Int) + 1) = true := by rw [beq_iff_eq]; omega
          have HF := Lib.hid hfar; have HS := Lib.hid hst
          clear hfar hst hle hand hok hfb hN hq hn hw0 hwr hE
          go_enter Try.func47, Try.ntmps47
          go_wp2_with (first | (go_at_call 57; refine (HF.out _ h).mono ?_; rintro e w1 ⟨rfl, hb1⟩; have hc0 : w1.cell? ⟨b, off, none⟩ = some (.int .u8 a) := by simpa using HCA.out w1 hb1) | (go_at_call 58; refine (HS.out _).mono ?_; rintro e w' ⟨rfl, rfl⟩))
          go_ret3
          exact ⟨rfl, hb1⟩
        · rw [takeR_form hw0 hN hE]
          generalize hn : farL a 1 r = n at *
          generalize hq : wideI a = q at *
          have hlt : (n : Int) < q := by omega
          have hz0 : ((n : Int) == 0) = false := by rw [beq_eq_false_iff_ne]; omega
          have he : ((n : Int) == (r.length : Int) + 1) = false := by rw [beq_eq_false_iff_ne]; omega
          have HF := Lib.hid hfar; have HS := Lib.hid hst
          clear hfar hst hle hand hok hfb hN hq hn hw0 hwr hE
          go_enter Try.func47, Try.ntmps47
          go_wp2_with (first | (go_at_call 57; refine (HF.out _ h).mono ?_; rintro e w1 ⟨rfl, hb1⟩; have hc0 : w1.cell? ⟨b, off, none⟩ = some (.int .u8 a) := by simpa using HCA.out w1 hb1) | (go_at_call 58; refine (HS.out _).mono ?_; rintro e w' ⟨rfl, rfl⟩))
          go_ret3
          exact ⟨rfl, hb1⟩
end Go.Proofs.Ythjenihaogihpaa
