/- Walks: a part's order broken. (laid together by program out of single texts). -/
import Derived.Test.YtfhfhfadebcbfaaM19
import Derived.Test.YtfhfhfadebcbfaaM20
namespace Go.Proofs.Ytfhfhfadebcbfaa
open Go.RowKit
set_option maxHeartbeats 8000000
set_option maxRecDepth 100000
theorem len_any (n : Nat) (hn : n ≤ 100) (w : World) : Calls Try.prog 54 #[.int .u64 n] w fun e w' => e = .returned (.int .i64 (Sort.bitsLen n : Nat)) ∧ w' = w := by
  have HL := Lib.hid (fun w => len64_any n hn w)
  generalize Sort.bitsLen n = k at *
  go_enter Try.func54, Try.ntmps54
  go_wp2_with ((go_at_call 69; refine (HL.out _).mono ?_; rintro e w' ⟨rfl, hw⟩; obtain rfl := hw.symm))
  go_ret
  exact ⟨rfl, rfl⟩
theorem npow_any (n : Nat) (hn : n ≤ 100) (w : World) : Calls Try.prog 72 #[.int .i64 n] w fun e w' => e = .returned (.int .u64 ((1 <<< Sort.bitsLen n : Nat) : Int)) ∧ w' = w := by
  have HL := Lib.hid (fun w => len_any n hn w)
  have hk : Sort.bitsLen n ≤ 62 := (Sort.bitsLen_le_iff n 62).2 (by omega)
  have hp := wrap_two_pow (Sort.bitsLen n) hk
  have hwn : IntKind.u64.wrap (n : Int) = (n : Int) := by rw [IntKind.wrap_u64]; omega
  generalize Sort.bitsLen n = k at *
  go_enter Try.func72, Try.ntmps72
  go_wp2_with ((go_at_call 54; refine (HL.out _).mono ?_; rintro e w' ⟨rfl, hw⟩; obtain rfl := hw.symm))
  go_ret
  exact ⟨rfl, rfl⟩
def bpS (a len m i0 : Nat) (d : Array Int) : Nat → UInt64 × Array Int
  | 0 => (UInt64.ofNat len, d)
  | t + 1 => Sort.breakStep a len m (bpS a len m i0 d t) (i0 + t)
theorem grown_newQ {w wr w2 : World} {g Q : Nat} (h : w.grownBy wr (some g)) (h2 : wr.grownBy w2 (some Q)) (hQ : w.heap.size ≤ Q) : w.grownBy w2 (some g) :=
  ⟨h2.os.trans h.os, h2.tape.trans h.tape, h2.output.trans h.output, Nat.le_trans h.size h2.size, fun k hk hr => (h2.block k (Nat.lt_of_lt_of_le hk h.size) (fun e => by have := Option.some.inj e; omega)).trans (h.block k hk hr)⟩
theorem break_any (B g n cap : Nat) (d : Array Int) (a b : Nat) (w : World) (h : SO B g n cap w d) (hB : B ≤ w.heap.size) (h8 : a + 8 ≤ b) (hbn : b ≤ n) (hl : n ≤ 100) :
    Calls Try.prog 61 #[.slice (some ⟨g, 0, none⟩) n cap, .int .i64 a, .int .i64 b] w fun e w' => e = .returned (.tuple #[]) ∧ SO B g n cap w' (Sort.breakPatterns d a b) ∧ w.grownBy w' (some g) := by
  obtain ⟨l, hlc⟩ : ∃ l, b - a = l := ⟨_, rfl⟩
  obtain ⟨q, hqc⟩ : ∃ q, l / 4 = q := ⟨_, rfl⟩
  obtain ⟨i0, hi0⟩ : ∃ i0, a + q * 2 - 1 = i0 := ⟨_, rfl⟩
  obtain ⟨M, hM⟩ : ∃ M : Nat, 1 <<< Sort.bitsLen l = M := ⟨_, rfl⟩
  have hV : Sort.breakPatterns d a b = (bpS a l M i0 d 3).2 := by
    unfold Sort.breakPatterns
    simp only [hlc, hqc, hM, hi0]
    rw [if_pos (by omega)]
    rfl
  have hM2 : M ≤ 2 * l := by rw [← hM, Nat.one_shiftLeft]; exact Sort.two_pow_bitsLen_le (by omega)
  have hM1 : 1 ≤ M := by rw [← hM, Nat.one_shiftLeft]; exact Nat.one_le_two_pow
  rw [hV]
  have HN := Lib.hid (fun w => npow_any l (by omega) w)
  simp only [hM] at HN
  have h1 : (b : Int) - (a : Int) = (l : Int) := by omega
  have h2 : (l : Int) / 4 = (q : Int) := by omega
  have h3 : (a : Int) + (q : Int) * 2 - 1 = (i0 : Int) := by omega
  have h3b : (a : Int) + (q : Int) * 2 = (i0 : Int) + 1 := by omega
  have hwl : IntKind.i64.wrap (l : Int) = (l : Int) := IntWalk.i64_in _ (by omega)
  have hwq : IntKind.i64.wrap (q : Int) = (q : Int) := IntWalk.i64_in _ (by omega)
  have hwu : IntKind.u64.wrap (l : Int) = (l : Int) := by rw [IntKind.wrap_u64]; omega
  have h8l : (8 : Int) ≤ (l : Int) := by omega
  have hx0 : (UInt64.ofNat l).toNat = l := by simp; omega
  have hin : i0 + 3 ≤ n := by omega
  have hal : a + l ≤ n := by omega
  have hQg : w.heap.size ≠ g := by
    have := (h.1.1.lt g rfl).2
    omega
  have hX1 : Xs B w.heap.size (w.alloc (.cells #[.int .u64 l] 78)) (bpS a l M i0 d 0).1.toNat := by
    show Xs B w.heap.size _ (UInt64.ofNat l).toNat
    rw [hx0]
    exact Own.lit (w := w) (E := 78) (B := B) [.int .u64 l] (by intro u hu; simp at hu; subst hu; rfl) hB (by simp)
  have hO1 := SO.below h (below_alloc w (.cells #[.int .u64 l] 78))
  have hg1 := grown_alloc w (.cells #[.int .u64 l] 78) (some g)
  have HX1 := Lib.hid hX1
  have HO1 := Lib.hid hO1
  obtain ⟨Q, hQ⟩ : ∃ Q, w.heap.size = Q := ⟨_, rfl⟩
  have hQw : w.heap.size ≤ Q := by omega
  clear hM hlc hqc hi0 hV hX1 hO1 hx0
  go_enter Try.func61, Try.ntmps61
  go_wp2_with ((go_at_call 72; refine (HN.out _).mono ?_; rintro e w' ⟨rfl, hw⟩; obtain rfl := hw.symm))
  rw [hQ] at HX1 hQg
  try simp only [hQ]
  generalize w.alloc (.cells #[.int .u64 l] 78) = w1 at *
  clear hQ
  go_loopw [9] (fun iv wr => ∃ t : Nat, iv = .int .i64 ((i0 + t : Nat) : Int) ∧ t ≤ 3 ∧ Hid (SO B g n cap wr (bpS a l M i0 d t).2) ∧ Hid (Xs B Q wr (bpS a l M i0 d t).1.toNat) ∧ w.grownBy wr (some g)) (fun iv _ => i0 + 3 - (intOf iv).toNat)
  case atStart => exact ⟨0, rfl, by omega, HO1.out, HX1.out, hg1⟩
  case round =>
    clear HO1 HX1 hg1
    obtain ⟨t, rfl, ht, HO, HX, hg⟩ := hrel
    obtain ⟨ix, hix⟩ : ∃ ix, i0 + t = ix := ⟨_, rfl⟩
    rw [hix]
    rcases Nat.lt_or_ge t 3 with hlt | hge
    case inr =>
      obtain rfl : t = 3 := by omega
      have hgi : ¬ ((ix : Int) ≤ (i0 : Int) + 1 + 1) := by omega
      go_wp2
      go_end0
      exact ⟨rfl, HO.out, hg⟩
    case inl =>
      have hgi : (ix : Int) ≤ (i0 : Int) + 1 + 1 := by omega
      have hbp : bpS a l M i0 d (t + 1) = Sort.breakStep a l M (bpS a l M i0 d t) ix := by rw [bpS, hix]
      obtain ⟨st, hst⟩ : ∃ st, bpS a l M i0 d t = st := ⟨_, rfl⟩
      rw [hst] at HO HX hbp
      obtain ⟨x, c⟩ := st
      dsimp only at HO HX
      have hxl : x.toNat < 18446744073709551616 := x.toNat_lt
      have HNX := Lib.hid (next_any B Q x.toNat wr HX.out hxl)
      obtain ⟨r, hr⟩ : ∃ r, Sort.xorNextN x.toNat = r := ⟨_, rfl⟩
      have hrl : r < 18446744073709551616 := by rw [← hr]; exact Sort.xorNextN_lt _ hxl
      have hrx : (Sort.xorNext x).toNat = r := by rw [Sort.xorNext_toNat, hr]
      rw [hr] at HNX
      obtain ⟨o0, ho0⟩ : ∃ o0 : Nat, r &&& (M - 1) = o0 := ⟨_, rfl⟩
      have ho9 : o0 ≤ M - 1 := by rw [← ho0]; exact Nat.and_le_right
      have hand : bits .and .u64 (r : Int) ((M : Int) - 1) = (o0 : Int) := by
        rw [show ((M : Int) - 1) = ((M - 1 : Nat) : Int) by omega, bits_and_u64_nat _ _ hrl (by omega), ho0]
      have hwm : IntKind.u64.wrap ((M : Int) - 1) = (M : Int) - 1 := by rw [IntKind.wrap_u64]; omega
      have hwo : IntKind.i64.wrap (o0 : Int) = (o0 : Int) := IntWalk.i64_in _ (by omega)
      obtain ⟨o, ho⟩ : ∃ o : Nat, (if o0 ≥ l then o0 - l else o0) = o := ⟨_, rfl⟩
      have hol : o < l := by rw [← ho]; split <;> omega
      have hbq : bpS a l M i0 d (t + 1) = (Sort.xorNext x, Sort.swp c ix (a + o)) := by
        rw [hbp]
        unfold Sort.breakStep
        simp only [hrx, ho0, ho]
      obtain ⟨p, hp⟩ : ∃ p : Nat, a + o = p := ⟨_, rfl⟩
      rw [hp] at hbq
      have hpi : (a : Int) + (o : Int) = (p : Int) := by omega
      have hwp : IntKind.i64.wrap (p : Int) = (p : Int) := IntWalk.i64_in _ (by omega)
      have HBQ := Lib.hid hbq
      have HRX := Lib.hid hrx
      clear hbq hbp hst hr hrx ho0
      go_wp2_with fail
      refine HNX.out.mono ?_
      rintro e w2 ⟨rfl, hx2, hg2⟩
      have ho2 := HO.out.keep hg2 (fun h9 => hQg (Option.some.inj h9))
      have hg3 := grown_newQ hg hg2 hQw
      have hixn : ix < n := by omega
      have hpn : p < n := by omega
      have hbi2 : (ix : Int) < (n : Int) := by omega
      have hbj2 : (p : Int) < (n : Int) := by omega
      have ka := ho2.cell ix hixn
      have kb := ho2.cell p hpn
      have fa := ho2.frz ix
      have fb := ho2.frz p
      obtain ⟨xa, hxa⟩ : ∃ x, c[ix]! = x := ⟨_, rfl⟩
      obtain ⟨xb, hxb⟩ : ∃ x, c[p]! = x := ⟨_, rfl⟩
      rw [hxa] at ka
      rw [hxb] at kb
      have hsc := ho2.cellset ix p hpn
      rw [hxb] at hsc
      have hO3 := (ho2.drewN 1).swp ix p
      rw [hxa, hxb] at hO3
      have hgs := grown_trans (grown_drewN w2 1 (some g)) (grown_swp (w2.drewN 1) g ix p (.int .i32 xb) (.int .i32 xa))
      have hX3 : Xs B Q (((w2.drewN 1).setCell ⟨g, ix, none⟩ (.int .i32 xb)).setCell ⟨g, p, none⟩ (.int .i32 xa)) _ := Own.keep hx2 hgs (fun k hk h9 => hQg ((Option.some.inj h9).trans (Option.some.inj hk).symm))
      have hg4 := grown_trans hg3 hgs
      have HO3 : Hid (SO B g n cap (((w2.drewN 1).setCell ⟨g, ix, none⟩ (.int .i32 xb)).setCell ⟨g, p, none⟩ (.int .i32 xa)) (bpS a l M i0 d (t + 1)).2) := by show SO _ _ _ _ _ _; rw [HBQ.out]; exact hO3
      have HX3 : Hid (Xs B Q (((w2.drewN 1).setCell ⟨g, ix, none⟩ (.int .i32 xb)).setCell ⟨g, p, none⟩ (.int .i32 xa)) (bpS a l M i0 d (t + 1)).1.toNat) := by show Xs _ _ _ _; rw [HBQ.out, HRX.out]; exact hX3
      have HIX : Hid (((i0 + (t + 1) : Nat) : Int) = (ix : Int) + 1) := by show _ = _; omega
      clear hO3 hX3 hxa hxb hix
      by_cases hge : o0 ≥ l
      case' pos =>
        have hsub : (o0 : Int) - (l : Int) = (o : Int) := by rw [if_pos hge] at ho; omega
        have hgel : (l : Int) ≤ (o0 : Int) := by omega
        clear ho
        go_wp2_with fail
      case' neg =>
        obtain rfl : o0 = o := by rw [if_neg hge] at ho; exact ho
        have hgel : ¬ ((l : Int) ≤ (o0 : Int)) := by omega
        clear ho
        go_wp2_with fail
      all_goals
        go_region
        all_goals go_wp2
        go_roundw
        case rel => exact ⟨t + 1, by first | go_num | (congr 1; exact HIX.out.symm), by omega, HO3.out, HX3.out, hg4⟩
        case measure => simp [intOf]; omega
end Go.Proofs.Ytfhfhfadebcbfaa
