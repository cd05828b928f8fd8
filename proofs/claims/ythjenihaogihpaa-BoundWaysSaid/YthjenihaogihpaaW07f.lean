/- Walks: the reference's places. -/
import Derived.Test.YthjenihaogihpaaW07c
namespace Go.Proofs.Ythjenihaogihpaa
open Go.RowKit
set_option maxHeartbeats 1000000
theorem rPlaces_any (v : Value) (xs : List Int) (w : World) (h : Row w v (ints .u8 xs)) (hg : Rg 0 256 xs) (hl : xs.length ≤ 1000000) :
    Calls Try.prog 26 #[v] w fun e w' => ∃ t, e = .returned t ∧ Own w.heap.size 3 w' t (ints .i64 (places xs)) ∧ Below w.heap.size w w' := by
  obtain ⟨a, b, off, cp, rfl, _⟩ := id h.op
  go_enter Try.func26, Try.ntmps26
  go_wp2
  go_loopw [3, 4] (fun u i wr => ∃ (k : Nat) (ps : List Int), i = .int .i64 k ∧ k ≤ xs.length ∧ Own w.heap.size 3 wr u (ints .i64 ps) ∧ Hid (places xs = ps ++ psum k (esg (xs.drop k))) ∧ Hid (ps.length ≤ k + 1) ∧ Below w.heap.size w wr) (fun _ i _ => xs.length - (intOf i).toNat)
  case atStart => exact ⟨0, [0], rfl, Nat.zero_le _, Own.ilit [0] _ rfl (Nat.le_refl _) (by simp), rfl, (by simp : ([0] : List Int).length ≤ 0 + 1), below_alloc _ _⟩
  case round =>
    obtain ⟨k, ps, rfl, hk, hown, HP, HL, hb⟩ := hrel
    by_cases hlt : k < xs.length
    · have hT := fun v w' h' => rTake_any v (xs.drop k) w' h' (hg.drop _) (by rw [List.length_drop]; omega)
      have hd : xs.drop k ≠ [] := by intro e; have := congrArg List.length e; rw [List.length_drop] at this; simp at this; omega
      obtain ⟨x, r, hxr⟩ := List.exists_cons_of_ne_nil hd
      have hdl : (xs.drop k).length = xs.length - k := List.length_drop
      have hdd : ∀ n : Nat, (xs.drop k).drop n = xs.drop (k + n) := fun n => List.drop_drop
      have hps := psum_snoc_drop k x r
      have hpos := takeR_pos x r
      have hle := (takeR_n (x :: r)).2.1
      rw [← hxr] at hps hpos hle
      rw [hdd] at hps
      generalize takeR (xs.drop k) = tk at *
      obtain ⟨c, n, e⟩ := tk
      simp only [] at hT hps hpos hle
      rw [hdl] at hle
      obtain ⟨m, rfl⟩ : ∃ m : Nat, n = (m : Int) := ⟨n.toNat, by omega⟩
      rw [Int.toNat_natCast] at hps
      have HT := Lib.hid hT; have HU := Lib.hid hps
      clear hT hps hxr hd hdd hdl
      have HB := Lib.hid hb
      go_wp2_with (first | (go_at_call 40; refine (HT.out _ _ (by assumption)).mono ?_; rintro e' w1 ⟨rfl, hb1⟩) | (refine wpList_slL slT_u8 _ _ rfl rfl rfl rfl (h.below hb) (by omega) (by simp [ints]; omega) ?_; intro u2 hu2; have r2 := hu2 _ (h.below hb); rw [Int.toNat_natCast, ints_drop] at r2) | (at_builtin; refine wpList_app slT_int _ _ _ rfl rfl rfl rfl ((hown.below hb1).alloc _) (Row.ilit [_] [_] rfl (by simp)) (by have := HL.out; simp only [ints_length, List.length_cons, List.length_nil]; omega) (by have := below_size2 hb hb1; simp; omega) ?_; intro t2 w2 hown2 hg2))
      go_roundw
      case rel =>
        refine ⟨k + m, ps ++ [((k + m : Nat) : Int)], by go_num, by omega, ?_, ?_, ?_, below_app hb (hb1.alloc hb1.size _) ((hown.below hb1).alloc _) hg2⟩
        · rw [ints_append]; exact hown2
        · show _ = _
          rw [HP.out, HU.out, List.append_assoc]; rfl
        · show _ ≤ _
          have := HL.out; rw [List.length_append]; simp; omega
      case measure => simp [intOf]; omega
    · go_wp2
      go_ret
      obtain rfl : k = xs.length := by omega
      rw [List.drop_length, esg_nil, psum, List.append_nil] at HP
      exact ⟨_, rfl, by rw [HP.out]; exact hown, hb⟩
theorem rNext_any (v : Value) (xs : List Int) (n : Int) (w : World) (h : Row w v (ints .u8 xs)) (hg : Rg 0 256 xs) (hl : xs.length ≤ 1000000) :
    Calls Try.prog 29 #[v, .int .i64 n] w fun e w' => e = .returned (.int .i64 (pnext xs n)) ∧ Below w.heap.size w w' := by
  obtain ⟨a, b, off, cp, rfl, _⟩ := id h.op
  obtain ⟨q, HQ⟩ : ∃ q, Hid (pnext xs n = q) := ⟨_, rfl⟩
  rw [HQ.out]
  have hpl := places_max hl
  have HST := Lib.hid (pnext_go xs n)
  have H0 : Hid (q = (((places xs).drop 0).find? (fun p => decide (p > n))).getD xs.length) := HQ.out.symm
  have HST2 : Hid (∀ k y, (places xs)[k]? = some y → q = (((places xs).drop k).find? (fun p => decide (p > n))).getD xs.length → if y > n then q = y else q = (((places xs).drop (k + 1)).find? (fun p => decide (p > n))).getD xs.length) := by
    intro k y h1 h2; have := HST.out k y h1 (HQ.out.trans h2); rw [HQ.out] at this; exact this
  clear HST HQ
  go_enter Try.func29, Try.ntmps29
  go_wp2_with (go_at_call 26; refine (rPlaces_any _ _ _ h hg hl).mono ?_; rintro e w1 ⟨t, rfl, ho, hb⟩; generalize places xs = l at *; obtain ⟨a2, b2, o2, c2, rfl, HC⟩ := ho.row.op)
  go_loopw [6] (fun i wr => ∃ k : Nat, i = .int .i64 k ∧ k ≤ l.length ∧ Hid (q = ((l.drop k).find? (fun p => decide (p > n))).getD xs.length) ∧ Below w1.heap.size w1 wr) (fun i _ => l.length - (intOf i).toNat)
  case atStart => exact ⟨0, rfl, Nat.zero_le _, H0, Below.refl _ _⟩
  case round =>
    obtain ⟨k, rfl, hk, HK, hbr⟩ := hrel
    by_cases hlt : k < l.length
    · obtain ⟨y, HX, rfl, hc⟩ := HC.out k hlt
      replace hc := hc wr hbr
      have h2 := HST2.out k y HX.out HK.out
      by_cases hy : y > n
      · rw [if_pos hy] at h2
        have H2 := Lib.hid h2; clear h2
        go_wp2
        go_ret
        exact ⟨ret_int H2.out.symm, below_trans hb hbr⟩
      · rw [if_neg hy] at h2
        have H2 := Lib.hid h2; clear h2
        go_wp2
        go_roundw
        case rel => exact ⟨k + 1, by go_num, by omega, H2, hbr⟩
        case measure => simp [intOf]; omega
    · go_wp2
      go_ret
      have h2 := HK.out
      rw [List.drop_eq_nil_of_le (by omega)] at h2
      exact ⟨ret_int (by rw [h2]; simp), below_trans hb hbr⟩
end Go.Proofs.Ythjenihaogihpaa
