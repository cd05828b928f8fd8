/- Walks: places. -/
import Derived.Test.YthjenihaogihpaaP07
import Derived.Test.YthjenihaogihpaaW05b
namespace Go.Proofs.Ythjenihaogihpaa
open Go.RowKit
set_option maxHeartbeats 1000000

theorem oPlaces_any (v : Value) (xs : List Int) (w : World) (h : Row w v (ints .u8 xs)) (hg : Rg 0 256 xs) (hl : xs.length ≤ 1000000) :
    Calls Try.prog 21 #[v] w fun e w' => ∃ t, e = .returned t ∧ Own w.heap.size 3 w' t (ints .i64 (places xs)) ∧ Below w.heap.size w w' := by
  obtain ⟨a, b, off, cp, rfl, _⟩ := id h.op
  go_enter Try.func21, Try.ntmps21
  go_wp2
  go_loopw [3, 4] (fun u i wr => ∃ (k : Nat) (ps : List Int), i = .int .i64 k ∧ k ≤ xs.length ∧ Own w.heap.size 3 wr u (ints .i64 ps) ∧ Hid (places xs = ps ++ psum k (esg (xs.drop k))) ∧ Hid (ps.length ≤ k + 1) ∧ Below w.heap.size w wr) (fun _ i _ => xs.length - (intOf i).toNat)
  case atStart => exact ⟨0, [0], rfl, Nat.zero_le _, Own.ilit [0] _ rfl (Nat.le_refl _) (by simp), rfl, (by simp : ([0] : List Int).length ≤ 0 + 1), below_alloc _ _⟩
  case round =>
    obtain ⟨k, ps, rfl, hk, hown, HP, HL, hb⟩ := hrel
    by_cases hlt : k < xs.length
    · have hT := fun v w' h' => oTake_any v (xs.drop k) w' h' (hg.drop _) (by rw [List.length_drop]; omega)
      have hd : xs.drop k ≠ [] := by intro e; have := congrArg List.length e; rw [List.length_drop] at this; simp at this; omega
      obtain ⟨x, r, hxr⟩ := List.exists_cons_of_ne_nil hd
      have hdl : (xs.drop k).length = xs.length - k := List.length_drop
      have hdd : ∀ n : Nat, (xs.drop k).drop n = xs.drop (k + n) := fun n => List.drop_drop
      have hps := psum_snoc_drop k x r
      have hpos := takeR_pos x r
      have hle := (takeR_n (x :: r)).2.1
      rw [← hxr] at hps hpos hle
      rw [hdd] at hps
      generalize takeR (xs.drop k) = tk at *
      obtain ⟨c, n, e⟩ := tk
      simp only [] at hT hps hpos hle
      rw [hdl] at hle
      obtain ⟨m, rfl⟩ : ∃ m : Nat, n = (m : Int) := ⟨n.toNat, by omega⟩
      rw [Int.toNat_natCast] at hps
      have HT := Lib.hid hT; have HU := Lib.hid hps
      clear hT hps hxr hd hdd hdl
      have HB := Lib.hid hb
      go_wp2_with (first | (go_at_call 47; refine (HT.out _ _ (by assumption)).mono ?_; rintro e' w1 ⟨rfl, hb1⟩) | (refine wpList_slL slT_u8 _ _ rfl rfl rfl rfl (h.below hb) (by omega) (by simp [ints]; omega) ?_; intro u2 hu2; have r2 := hu2 _ (h.below hb); rw [Int.toNat_natCast, ints_drop] at r2) | (at_builtin; refine wpList_app slT_int _ _ _ rfl rfl rfl rfl ((hown.below hb1).alloc _) (Row.ilit [_] [_] rfl (by simp)) (by have := HL.out; simp only [ints_length, List.length_cons, List.length_nil]; omega) (by have := below_size2 hb hb1; simp; omega) ?_; intro t2 w2 hown2 hg2))
      go_roundw
      case rel =>
        refine ⟨k + m, ps ++ [((k + m : Nat) : Int)], by go_num, by omega, ?_, ?_, ?_, below_app hb (hb1.alloc hb1.size _) ((hown.below hb1).alloc _) hg2⟩
        · rw [ints_append]; exact hown2
        · show _ = _
          rw [HP.out, HU.out, List.append_assoc]; rfl
        · show _ ≤ _
          have := HL.out; rw [List.length_append]; simp; omega
      case measure => simp [intOf]; omega
    · go_wp2
      go_ret
      obtain rfl : k = xs.length := by omega
      rw [List.drop_length, esg_nil, psum, List.append_nil] at HP
      exact ⟨_, rfl, by rw [HP.out]; exact hown, hb⟩
end Go.Proofs.Ythjenihaogihpaa
