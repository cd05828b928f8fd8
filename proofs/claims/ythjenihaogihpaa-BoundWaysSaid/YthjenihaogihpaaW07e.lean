/- Walks: Split. -/
import Derived.Test.YthjenihaogihpaaW07d
namespace Go.Proofs.Ythjenihaogihpaa
open Go.RowKit
set_option maxHeartbeats 1000000
/-- What the loop of Split keeps. -/
def SI (B : Nat) (w1 : World) (most : Int) (xs : List Int) (u fv iv : Value) (wr : World) : Prop :=
  ∃ (i f p : Nat) (vs : List Value) (ps : List (List Int)), iv = .int .i64 i ∧ fv = .int .i64 f ∧ i ≤ (places xs).length ∧ f ≤ p ∧ p ≤ xs.length ∧ (i = 0 → f = 0 ∧ p = 0) ∧
    Hid ((places xs).drop (max i 1) = psum p (esg (xs.drop p))) ∧ Hid (pieces most xs = ps ++ psplit most ((xs.take p).drop f) (esg (xs.drop p))) ∧
    Own B 22 wr u vs ∧ Hid (Owns B wr vs ps) ∧ Hid (vs.length ≤ i) ∧ Below w1.heap.size w1 wr
theorem oSplit_any (v : Value) (xs : List Int) (most : Int) (w : World) (h : Row w v (ints .u8 xs)) (hg : Rg 0 256 xs) (hl : xs.length ≤ 1000000) (hm0 : -9223372036854775808 ≤ most) (hm1 : most ≤ 9223372036854775807) :
    Calls Try.prog 20 #[v, .int .i64 most] w fun e w' => ∃ t vs, e = .returned t ∧ Own w.heap.size 22 w' t vs ∧ Owns w.heap.size w' vs (pieces most xs) ∧ Below w.heap.size w w' := by
  obtain ⟨a, b, off, cp, rfl, _⟩ := id h.op
  have hpl := places_max hl

  have HPR : Hid (∀ (i : Nat) (y : Int), (places xs)[i]? = some y → 0 ≤ y ∧ y ≤ xs.length) := fun i y h => places_rng xs y (List.mem_of_getElem? h)
  go_enter Try.func20, Try.ntmps20
  go_wp2_with (go_at_call 21; refine (oPlaces_any _ _ _ h hg hl).mono ?_; rintro e w1 ⟨t, rfl, ho, hb⟩; obtain ⟨a2, b2, o2, c2, rfl, HC⟩ := ho.row.op)
  go_loopw [5, 7, 14] (fun u fv iv wr => SI w1.heap.size w1 most xs u fv iv wr) (fun _ _ i _ => (places xs).length - (intOf i).toNat)
  case atStart =>
    refine ⟨0, 0, 0, [], [], rfl, rfl, Nat.zero_le _, Nat.le_refl _, Nat.zero_le _, fun _ => ⟨rfl, rfl⟩, ?_, ?_, Own.nil _ _ _, Owns.nil _ _, Nat.le_refl _, Below.refl _ _⟩
    · show _ = _
      rfl
    · show _ = _
      rfl
  case round =>
    obtain ⟨i, f, p, vs, ps, rfl, rfl, hi, hfp, hp, hi0, HD, HS, hown, HO, HV, hbr⟩ := hrel
    have hbb := below_trans hb hbr
    by_cases hlt : i < (places xs).length
    · obtain ⟨y, HX, rfl, hc⟩ := HC.out i hlt
      replace hc := hc wr hbr
      have hyr := HPR.out i y HX.out
      by_cases hz : i = 0
      · subst hz
        obtain ⟨rfl, rfl⟩ := hi0 rfl
        obtain rfl : y = 0 := by have := HX.out; simp [places] at this; exact this.symm
        simp only [Nat.add_zero] at hc
        go_wp2
        go_roundw
        case rel => exact ⟨1, 0, 0, vs, ps, by go_num, rfl, by omega, Nat.le_refl _, Nat.zero_le _, fun h => absurd h (by omega), HD, HS, hown, HO, Nat.le_trans HV.out (Nat.zero_le _), hbr⟩
        case measure => simp [intOf]; omega
      · have hmx : max i 1 = i := by omega
        rw [hmx] at HD
        obtain ⟨q, rfl, hpq, hq, hd, hways⟩ := split_step hfp hp HD.out HS.out HX.out
        have HD2 := Lib.hid hd; clear hd
        have hne : ((q : Int) == (f : Int)) = false := by simp; omega
        have hsl : ((xs.take q).drop f).length ≤ 1000000 := by rw [List.length_drop, List.length_take]; omega
        rcases hways with ⟨hlast, hs⟩ | ⟨hnl, y2, hy2, ⟨hgt, hs⟩ | ⟨hgt, hs⟩⟩
        case' inr.inr =>
          have HS2 := Lib.hid hs; clear hs HS HD
          obtain ⟨y3, HX2, _, hc2⟩ := HC.out (i + 1) hnl
          replace hc2 := hc2 wr hbr
          obtain rfl : y3 = y2 := by have h9 := HX2.out; rw [hy2] at h9; exact (Option.some.inj h9).symm
          clear hy2
          have hyr2 := HPR.out _ _ HX2.out
          have hg1 : ((i : Int) == ((places xs).length : Int) - 1) = false := beq_false_of_ne (by omega)
          have hg2 : (y3 : Int) - (f : Int) ≤ most := by omega
          go_wp2
          go_roundw
          case rel => exact ⟨i + 1, f, q, vs, ps, by go_num, rfl, by omega, by omega, hq, fun h => absurd h (by omega), by rw [show max (i + 1) 1 = i + 1 by omega]; exact HD2, HS2, hown, HO, Nat.le_trans HV.out (by omega), hbr⟩
          case measure => simp [intOf]; omega
        case' inr.inl =>
          obtain ⟨y3, HX2, _, hc2⟩ := HC.out (i + 1) hnl
          replace hc2 := hc2 wr hbr
          obtain rfl : y3 = y2 := by have h9 := HX2.out; rw [hy2] at h9; exact (Option.some.inj h9).symm
          clear hy2
          have hyr2 := HPR.out _ _ HX2.out
          have hg1 : ((i : Int) == ((places xs).length : Int) - 1) = false := beq_false_of_ne (by omega)
        case' neg.inl =>
          have hg1 : ((i : Int) == ((places xs).length : Int) - 1) = true := beq_iff_eq.2 (by omega)
        all_goals
          obtain ⟨pc, HPC⟩ : ∃ pc, Hid ((xs.take q).drop f = pc) := ⟨_, rfl⟩
          rw [HPC.out] at hs hsl
          have HS2 := Lib.hid hs; clear hs HS HD
          go_wp2_with (first | (refine wpList_slLH slT_u8 _ _ _ rfl rfl rfl rfl rfl (h.below hbb) (by omega) (by omega) (by simp [ints]; omega) ?_; intro v2 hv2; have r2 := hv2 wr (h.below hbb); simp only [Int.toNat_natCast] at r2; rw [ints_take, ints_drop, HPC.out] at r2) | (go_at_call 46; refine (oclone_any _ _ _ r2 hsl).mono ?_; rintro e w2 ⟨v3, rfl, ho3, hb3⟩; obtain ⟨a3, b3, o3, c3, rfl, _⟩ := id ho3.row.op) | (at_builtin; refine wpList_app slT_bs _ _ _ rfl rfl rfl rfl ((hown.below hb3).alloc _) (Row.lit [_] (by intro u hu; simp at hu; subst hu; rfl) (by simp)) (by have := HV.out; simp only [List.length_cons, List.length_nil]; omega) (by have := below_size2 hbr hb3; simp; omega) ?_; intro t4 w4 hown4 hg4))
          have HO4 : Hid (Owns w1.heap.size w4 (vs ++ [_]) (ps ++ [pc])) := ((((HO.out.below hb3).snoc (ho3.mono hbr.size)).below (below_alloc _ _)).other ((hown.below hb3).alloc _) hg4)
          have hb4 := below_app hbr (hb3.alloc hb3.size _) ((hown.below hb3).alloc _) hg4
          go_roundw
          case rel => exact ⟨i + 1, q, q, _, _, by go_num, rfl, by omega, Nat.le_refl _, hq, fun h => absurd h (by omega), by rw [show max (i + 1) 1 = i + 1 by omega]; exact HD2, HS2, hown4, HO4, (by have := HV.out; show _ ≤ _; simp; omega), hb4⟩
          case measure => simp [intOf]; omega
    · go_wp2
      go_ret
      have hd := HD.out
      have hs := HS.out
      rw [List.drop_eq_nil_of_le (by omega)] at hd
      have he : esg (xs.drop p) = [] := by
        cases hx : esg (xs.drop p) with
        | nil => rfl
        | cons g t => rw [hx, psum] at hd; simp at hd
      rw [he, psplit, List.append_nil] at hs
      rw [hs]
      exact ⟨_, _, rfl, hown.mono hb.size, ⟨HO.out.1, fun i v p h1 h2 => (HO.out.2 i v p h1 h2).mono hb.size⟩, hbb⟩
end Go.Proofs.Ythjenihaogihpaa
