/- Walks: UTF-8, the reference's taking; subparts; the statements' own example. -/
import Derived.Test.YthjenihaogihpaaW04d
namespace Go.Proofs.Ythjenihaogihpaa
open Go.RowKit
set_option maxHeartbeats 1000000

set_option maxRecDepth 100000 in
theorem rTake_any (v : Value) (xs : List Int) (w : World) (h : Row w v (ints .u8 xs)) (hg : Rg 0 256 xs) (hl : xs.length ≤ 1000000) :
    Calls Try.prog 40 #[v] w fun e w' => e = .returned (.tuple #[.int .i32 (takeR xs).1, .int .i64 (takeR xs).2.1, .int .i64 (takeR xs).2.2]) ∧ Below w.heap.size w w' := by
  cases xs with
  | nil =>
    obtain ⟨ad, b, off, cap, rfl, HC⟩ := h.op
    go_enter Try.func40, Try.ntmps40
    go_wp2
    go_ret3
    exact ⟨rfl, Below.refl _ _⟩
  | cons a r =>
    have hfar := fun w' h' => rfar_any v a r w' h' hg hl
    obtain ⟨ad, b, off, cap, rfl, HC⟩ := id h.op
    obtain ⟨⟨ha0, ha1⟩, hg'⟩ := hg.cons
    obtain ⟨a', HA, rfl, hca⟩ := HC.out 0 (by simp)
    obtain rfl : a = a' := by simpa using HA.out
    have hc0 : w.cell? ⟨b, off, none⟩ = some (.int .u8 a) := by simpa using hca w (Below.refl _ _)
    have HCA := Lib.hid hca; clear hca HA
    have hst := fun w => rwide_any a w ha0 ha1
    have hfb := farL_bounds a r 1
    have hand := andNot_lead ha0 ha1
    have hok := farL_ok a r 1 (Nat.le_refl _)
    have hwr := wideI_rng a
    have hz1 : ((r.length : Int) + 1 == 0) = false := by rw [beq_eq_false_iff_ne]; omega
    by_cases hw0 : wideI a = 0
    · rw [takeR_bad hw0]
      rw [show far (a :: r) = 0 by simp [far, hw0]] at hfar
      have hz2 : ((0 : Int) == (r.length : Int) + 1) = false := by rw [beq_eq_false_iff_ne]; omega
      have HF := Lib.hid hfar; clear hfar hst hw0 hok hand hfb hwr
      go_enter Try.func40, Try.ntmps40
      go_wp2_with (go_at_call 55; refine (HF.out _ h).mono ?_; rintro e w' ⟨rfl, rfl⟩)
      go_ret3
      exact ⟨rfl, Below.refl _ _⟩
    · rw [far_N hw0] at hfar
      by_cases hN : (farL a 1 r : Int) = wideI a
      · rw [takeR_ok hw0 hN]
        rcases hand with hh | ⟨hand, hd0, hd1, hd2⟩
        · exact absurd hh hw0
        clear hand
        have hn4 : farL a 1 r = 1 ∨ farL a 1 r = 2 ∨ farL a 1 r = 3 ∨ farL a 1 r = 4 := by omega
        rw [← hN] at hst
        rw [← hN] at hd0 hd1 ⊢
        generalize hn : farL a 1 r = n at *
        have hn1 := hfb.1
        have hn2 := hfb.2.1
        obtain ⟨rs, hrs⟩ : ∃ rs, r.take (n - 1) = rs := ⟨_, rfl⟩
        have hrl : rs.length = n - 1 := by rw [← hrs, List.length_take]; omega
        have HRS := Lib.hid hrs; have HRL := Lib.hid hrl
        have hok2 : Hid (∀ y ∈ rs, folB y = true) := by rw [← HRS.out]; exact hok
        rw [HRS.out]
        clear hrs hrl
        have hrl3 : rs.length ≤ 3 := by have := HRL.out; omega
        obtain ⟨c0, hc0e⟩ : ∃ c0, a - leadI n = c0 := ⟨_, rfl⟩
        have HC0 := Lib.hid hc0e
        rw [hc0e] at hd0 hd1 ⊢
        have hv0 : Hid (0 ≤ c0 ∧ c0 < 128) := ⟨hd0, hd1⟩
        have hn2' : (n : Int) ≤ (r.length : Int) + 1 := by omega
        have HF := Lib.hid hfar; have HS := Lib.hid hst
        clear hfar hst hok hfb hN hn hw0 hwr hc0e
        have hw1 : IntKind.i64.wrap a = a := IntWalk.i64_in _ (by omega)
        have hcA : ∀ o, (w.alloc o).cell? ⟨b, off, none⟩ = some (.int .u8 a) := fun o => by simpa using HCA.out _ (below_alloc w o)
        obtain ⟨ld, hld⟩ : ∃ ld, leadI n = ld := ⟨_, rfl⟩
        have hA1 : (#[Value.int .i64 0, .int .i64 0, .int .i64 192, .int .i64 224, .int .i64 240] : Array Value)[n]? = some (.int .i64 ld) := by
          rw [← hld]; rcases hn4 with rfl | rfl | rfl | rfl <;> rfl
        have hA2 : ([Value.int .i64 0, .int .i64 0, .int .i64 192, .int .i64 224, .int .i64 240] : List Value)[n]? = some (.int .i64 ld) := by
          rw [← hld]; rcases hn4 with rfl | rfl | rfl | rfl <;> rfl
        have hcc : a - ld = c0 := by rw [← hld]; exact HC0.out
        have hw2 : IntKind.i64.wrap c0 = c0 := IntWalk.i64_in _ (by omega)
        have hn0 : (0 : Int) ≤ (n : Int) := by omega
        have hn5 : (n : Int) < 5 := by omega
        have h0n : (0 : Int) < (n : Int) := by omega
        clear hld hd2
        go_enter Try.func40, Try.ntmps40
        go_wp2_with (first | (go_at_call 55; refine (HF.out _ h).mono ?_; rintro e w1 ⟨rfl, rfl⟩) | (go_at_call 56; refine (HS.out _).mono ?_; rintro e w' ⟨rfl, rfl⟩))
        go_quiet (fail)
        clear hcc hw2 hA1 hA2 hcA hw1
        have hb2 := below_drewN (below_alloc w (.cells #[.int .i64 0, .int .i64 0, .int .i64 192, .int .i64 224, .int .i64 240] 3)) nq
        generalize (w.alloc (.cells #[.int .i64 0, .int .i64 0, .int .i64 192, .int .i64 224, .int .i64 240] 3)).drewN nq = w2 at *
        go_wp2
        go_loop [7, 8] (fun c i => ∃ k : Nat, i = .int .i64 (k + 1) ∧ k ≤ rs.length ∧ c = .int .i64 (valL c0 (rs.take k)) ∧ Hid (0 ≤ valL c0 (rs.take k) ∧ valL c0 (rs.take k) < bnd k)) (fun _ i => rs.length + 1 - (intOf i).toNat)
        case atStart => exact ⟨0, rfl, Nat.zero_le _, rfl, by simp [valL]; exact ⟨hv0.out.1, hv0.out.2⟩⟩
        case round =>
          obtain ⟨k, rfl, hk, rfl, hv⟩ := hrel
          by_cases hlt : k < rs.length
          · have hkn : (k : Int) + 1 < (n : Int) := by have := HRL.out; omega
            obtain ⟨y, HY, _, hcy⟩ := HC.out (k + 1) (by have := HRL.out; simp; omega)
            replace hcy := hcy w2 hb2
            have hyr : rs[k]? = some y := by
              have := HY.out
              rw [List.getElem?_cons_succ] at this
              rw [← HRS.out, List.getElem?_take, if_pos (by omega), this]
            have hfy := hok2.out y (List.mem_of_getElem? hyr)
            have hyb := folB_iff.1 hfy
            have hval : valL c0 (rs.take (k + 1)) = 64 * valL c0 (rs.take k) + (y - 128) := by
              rw [List.take_add_one, hyr]; exact valL_snoc _ _ _
            have hbs := bnd_succ (k := k) (by omega) hv.out.1 hv.out.2 hfy
            rw [← hval] at hbs
            have hle := bnd_le k
            obtain ⟨m, hm⟩ : ∃ m, valL c0 (rs.take k) = m := ⟨_, rfl⟩
            rw [hm] at hv hval ⊢
            have hvo := hv.out
            have HV := Lib.hid hval; have HB := Lib.hid hbs
            have hm0 : 0 ≤ m := hvo.1
            have hm1 : m < 33554432 := by omega
            have hkr : (k : Int) + 1 < (r.length : Int) + 1 := by omega
            have hkt : ((k : Int) + 1).toNat = k + 1 := by omega
            clear hval hbs hm hvo hle hv hfy hyr
            go_wp2
            go_round
            case rel => exact ⟨k + 1, by go_num, by omega, iv (by rw [HV.out]; omega), HB.out⟩
            case measure => simp [intOf]; omega
          · have hkn : ¬ (k : Int) + 1 < (n : Int) := by have := HRL.out; omega
            have hv1 : valL c0 (rs.take k) = valL c0 rs := by rw [List.take_of_length_le (by omega)]
            have hle := bnd_le k
            have hvo := hv.out
            obtain ⟨m, hm⟩ : ∃ m, valL c0 (rs.take k) = m := ⟨_, rfl⟩
            rw [hm] at hv1 hvo ⊢
            have HV := Lib.hid hv1
            have hm0 : 0 ≤ m := hvo.1
            have hm1 : m < 33554432 := by omega
            clear hv1 hvo hm hle
            go_wp2
            go_ret3
            exact ⟨ret3 (iv HV.out) rfl rfl, hb2⟩
      · have hfq := hfb.2.2 (by omega)
        by_cases hE : farL a 1 r = r.length + 1
        · rw [takeR_end hw0 hN hE]
          generalize hn : farL a 1 r = n at *
          generalize hq : wideI a = q at *
          have h0n : (0 : Int) < (n : Int) := by omega
          have hnq : ((n : Int) == q) = false := by rw [beq_eq_false_iff_ne]; omega
          have he : ((n : Int) == (r.length : Int) + 1) = true := by rw [beq_iff_eq]; omega
          have HF := Lib.hid hfar; have HS := Lib.hid hst
          clear hfar hst hand hok hfb hN hq hn hw0 hwr hE
          go_enter Try.func40, Try.ntmps40
          go_wp2_with (first | (go_at_call 55; refine (HF.out _ h).mono ?_; rintro e w1 ⟨rfl, rfl⟩) | (go_at_call 56; refine (HS.out _).mono ?_; rintro e w' ⟨rfl, rfl⟩))
          go_ret3
          exact ⟨rfl, Below.refl _ _⟩
        · rw [takeR_form hw0 hN hE]
          generalize hn : farL a 1 r = n at *
          generalize hq : wideI a = q at *
          have h0n : (0 : Int) < (n : Int) := by omega
          have hnq : ((n : Int) == q) = false := by rw [beq_eq_false_iff_ne]; omega
          have he : ((n : Int) == (r.length : Int) + 1) = false := by rw [beq_eq_false_iff_ne]; omega
          have h1n := hfb.1
          have HF := Lib.hid hfar; have HS := Lib.hid hst
          clear hfar hst hand hok hfb hN hq hn hw0 hwr hE
          go_enter Try.func40, Try.ntmps40
          go_wp2_with (first | (go_at_call 55; refine (HF.out _ h).mono ?_; rintro e w1 ⟨rfl, rfl⟩) | (go_at_call 56; refine (HS.out _).mono ?_; rintro e w' ⟨rfl, rfl⟩))
          go_ret3
          exact ⟨ret3 rfl (iv (by omega)) rfl, Below.refl _ _⟩

def subR (t : Int × Int × Int) : Int := if t.2.2 = 0 then 0 else t.2.1
end Go.Proofs.Ythjenihaogihpaa
