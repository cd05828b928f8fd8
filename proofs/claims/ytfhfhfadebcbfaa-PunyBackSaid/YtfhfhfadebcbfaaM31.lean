/- The statement PunyBack of layer 41, walked. (laid together by program out of single texts). -/
import Derived.Test.YtfhfhfadebcbfaaM26
import Derived.Test.YtfhfhfadebcbfaaM30
namespace Go.Proofs.Ytfhfhfadebcbfaa
open Go.RowKit
set_option maxHeartbeats 8000000
set_option maxRecDepth 100000
theorem PunyBack_walk (v : Value) (xs : List Int) (w : World) (h : Row w v (ints .i32 xs)) (g : WF .i32 xs) :
    Calls Try.prog 5 #[v] w fun e w' => e = .returned (.bool true) ∧ Below w.heap.size w w' := by
  obtain ⟨a, b, off, cap, rfl, _⟩ := id h.op
  have hgx : R32 xs := fun x hx => wf_i32 (g x hx)
  by_cases hl : 100 < xs.length
  · clear h g hgx
    go_enter Try.func5, Try.ntmps5
    go_wp2_with (go_at_call 6; refine (alive41_any _).mono ?_; rintro e w1 ⟨rfl, hb1⟩)
    go_ret
    exact ⟨rfl, hb1⟩
  have hA := lay_all (.slice a xs.length cap) xs w h hgx (by omega)
  have hb := Below.refl w.heap.size w
  have hl2 : ¬ ((100 : Int) < xs.length) := by omega
  cases ho : allSc xs with
  | false =>
    have e : layP xs (sgP xs) = ([], 7) := by unfold layP; rw [if_neg (by omega), if_pos ho]
    rw [e] at hA
    have hF := fun w' h' => rfirst_any (.slice a xs.length cap) xs w' h' (by omega)
    have hidx : decide (0 ≤ idx (fun c => !scB c) xs) = true := by
      rw [idx_any]
      unfold allSc at ho
      rw [List.all_eq_false] at ho
      obtain ⟨x, hx, h9⟩ := ho
      exact List.any_eq_true.2 ⟨x, hx, by simpa using h9⟩
    have hi := of_decide_eq_true hidx
    generalize idx (fun c => !scB c) xs = fi at *
    have HA := Lib.hid hA; have HF := Lib.hid hF
    clear hA hF hidx e ho g hgx
    go_enter Try.func5, Try.ntmps5
    go_wp2_with fail
    refine HA.out.mono ?_
    rintro e w1 ⟨t, rfl, ho1, hb1⟩
    obtain ⟨a1, b1, o1, c1, rfl, _⟩ := Row.op ho1.row
    replace hb := below_trans hb hb1
    clear ho1 hb1
    go_wp2_with fail
    refine (HF.out _ (h.below hb)).mono ?_
    rintro e w2 ⟨rfl, hw⟩
    obtain rfl := hw
    go_wp2_with fail
    refine (alive41_any _).mono ?_
    rintro e w3 ⟨rfl, hb3⟩
    replace hb := below_trans hb hb3
    go_wp2
    go_ret
    exact ⟨rfl, hb⟩
  | true =>
    obtain ⟨h1, h2, h3, h4⟩ := back_P xs (fun x hx => List.all_eq_true.1 ho x hx) (by omega)
    obtain ⟨⟨L, er⟩, hL⟩ : ∃ T, layP xs (sgP xs) = T := ⟨_, rfl⟩
    rw [hL] at h1 h2 h3 h4 hA
    dsimp only at h1 h2 h3 h4 hA
    subst h1
    have hB := fun v w' h' => read_any v L w' h' (fun x hx => by have := h3 x hx; omega) (by omega)
    rw [h2] at hB
    have HA := Lib.hid hA; have HB := Lib.hid hB; have H3 := Lib.hid h3
    clear hA hB h2 h3 hL ho g hgx
    go_enter Try.func5, Try.ntmps5
    go_wp2_with fail
    refine HA.out.mono ?_
    rintro e w1 ⟨t, rfl, ho1, hb1⟩
    replace hb := below_trans hb hb1
    have r1 := ho1.row
    obtain ⟨a1, b1, o1, c1, rfl, HC1⟩ := id r1.op
    clear ho1 hb1
    have hll : (L.length : Int) ≤ 10000 := by omega
    go_wp2
    go_loopw [33] (fun iv wr => ∃ k : Nat, iv = .int .i64 k ∧ k ≤ L.length ∧ wr = w1) (fun iv _ => L.length - (intOf iv).toNat)
    case atStart => exact ⟨0, rfl, Nat.zero_le _, rfl⟩
    case round =>
      obtain ⟨k, rfl, hk, hwr⟩ := hrel
      obtain rfl := hwr.symm
      rcases Nat.lt_or_ge k L.length with hlt | hge
      case inl =>
        obtain ⟨x, HX, rfl, hcx⟩ := HC1.out k hlt
        have hc0 := hcx _ (Below.refl _ _)
        have hx9 := H3.out x (List.mem_of_getElem? HX.out)
        have hkb : (k : Int) < (L.length : Int) := by omega
        have hx7 : ¬ ((127 : Int) < x) := by omega
        clear hcx
        go_wp2
        go_roundw
        case rel => exact ⟨k + 1, by go_num, by omega, by first | rfl | trivial⟩
        case measure => simp [intOf]; omega
      case inr =>
        obtain rfl : k = L.length := by omega
        clear HC1
        go_wp2_with fail
        refine (HB.out _ _ r1).mono ?_
        rintro e w4 ⟨t4, rfl, ho4, hb4⟩
        replace hb := below_trans hb hb4
        have r4 := ho4.row
        clear ho4 hb4
        go_wp2_with fail
        refine (like3_any _ _ xs xs _ r4 (h.below hb) (by omega) (by omega)).mono ?_
        rintro e w5 ⟨rfl, hb5⟩
        rw [decide_eq_true rfl]
        replace hb := below_trans hb hb5
        go_wp2_with fail
        refine (alive41_any _).mono ?_
        rintro e w7 ⟨rfl, hb7⟩
        replace hb := below_trans hb hb7
        go_wp2
        go_ret
        exact ⟨rfl, hb⟩
end Go.Proofs.Ytfhfhfadebcbfaa
