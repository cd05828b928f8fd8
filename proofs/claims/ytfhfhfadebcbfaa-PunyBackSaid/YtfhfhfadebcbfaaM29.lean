/- Walks: a host's name read. (laid together by program out of single texts). -/
import Derived.Test.YtfhfhfadebcbfaaM17
import Derived.Test.YtfhfhfadebcbfaaM28
namespace Go.Proofs.Ytfhfhfadebcbfaa
open Go.RowKit
set_option maxHeartbeats 8000000
set_option maxRecDepth 100000
theorem xn_low : ([120, 110, 45, 45] : List Int).map lowC = [120, 110, 45, 45] := by decide
theorem flabel_any (v : Value) (xs : List Int) (w : World) (h : Row w v (ints .u8 xs)) (hu : ∀ x ∈ xs, 0 ≤ x ∧ x < 256) (hl : xs.length ≤ 900000) :
    Calls Try.prog 9 #[v] w fun e w' => ∃ t, e = .returned (.tuple #[t, .int .i64 (flP xs).2]) ∧ Own w.heap.size 21 w' t (ints .i32 (flP xs).1) ∧ Below w.heap.size w w' := by
  obtain ⟨V, hV⟩ : ∃ V, flP xs = V := ⟨_, rfl⟩
  rw [hV]
  unfold flP at hV
  have HU := Lib.hid hu
  have hg : Rg 0 256 xs := hu
  have hRd := fun v' wx h9 => read_any v' (xs.drop 4) wx h9 (fun x hx => hu x (List.mem_of_mem_drop hx)) (by simp; omega)
  have hSm := fun v1 v2 wx h1 h2 => osame_any v1 v2 (xs.take 4) [120, 110, 45, 45] wx h1 h2 (fun x hx => hu x (List.mem_of_mem_take hx)) (by intro x hx; simp at hx; omega) (by simp; omega) (by simp)
  rw [xn_low] at hSm
  obtain ⟨z, hz⟩ : ∃ z, decide ((xs.take 4).map lowC = [120, 110, 45, 45]) = z := ⟨_, rfl⟩
  rw [hz] at hSm
  have bad : V = ([], 3) ∨ V = (xs, 0) ∧ xs.any (fun c => decide (127 < c)) = false ∨ z = true ∧ 4 ≤ xs.length := by
    by_cases h4 : 4 ≤ xs.length ∧ (xs.take 4).map lowC = [120, 110, 45, 45]
    · exact .inr (.inr ⟨by rw [← hz]; exact decide_eq_true h4.2, h4.1⟩)
    · rw [if_neg h4] at hV
      cases h9 : xs.any (fun c => decide (127 < c)) with
      | true => rw [if_pos h9] at hV; exact .inl hV.symm
      | false => rw [if_neg (by rw [h9]; simp)] at hV; exact .inr (.inl ⟨hV.symm, rfl⟩)
  have kc := fun (w : World) (C : Array Value) (n c : Nat) => Lib.run_convert_bytes_const (P := Try.prog) w 22 5 C n c Try.underlying22 Try.underlying5
  have HRD := Lib.hid hRd
  have HSM := Lib.hid hSm
  clear hRd hSm hg
  by_cases h4 : 4 ≤ xs.length
  case' pos => cases z
  case' pos.true =>
    rw [if_pos ⟨h4, of_decide_eq_true hz⟩] at hV
    rw [hV] at HRD
    clear bad hz hV
    obtain ⟨a, b, off, cap, rfl, HC⟩ := Row.op h
    go_enter Try.func9, Try.ntmps9
    go_wp2_with (first | (refine wpList_slH slT_u8 _ _ rfl rfl rfl rfl h (by omega) (by simp [ints]; omega) ?_; intro v2 hv2; have r2 : Row w v2 (ints .u8 (xs.take 4)) := (by have h9 := hv2 _ h; rw [ints_take] at h9; exact h9); have hl2 := Row.flit (E := 5) (w := w) (k := .u8) (f := (4, 5)) [120, 110, 45, 45] [_, _, _, _] rfl (by simp)) | (go_at_call 28; refine (HSM.out _ _ _ (r2.alloc _) hl2).mono ?_; rintro e w1 ⟨rfl, hb1⟩; have hb2 := below_trans (below_alloc w _) hb1) | (refine wpList_slL slT_u8 _ _ rfl rfl rfl rfl (h.below hb2) (by omega) (by simp [ints]; omega) ?_; intro v3 hv3; have r3 : Row w1 v3 (ints .u8 (xs.drop 4)) := (by have h9 := hv3 _ (h.below hb2); rw [ints_drop] at h9; exact h9)) | (go_at_call 7; refine (HRD.out _ _ r3).mono ?_; rintro e w3 ⟨t3, rfl, ho3, hb3⟩; have hb4 := below_trans hb2 hb3; have ho4 := Own.mono ho3 hb2.size))
    go_ret2
    exact ⟨_, rfl, ho4, hb4⟩
  case' pos.false =>
    have bad2 : V = ([], 3) ∨ V = (xs, 0) ∧ xs.any (fun c => decide (127 < c)) = false := by
      rcases bad with h9 | h9 | h9
      · exact .inl h9
      · exact .inr h9
      · cases h9.1
  case' neg =>
    have bad2 : V = ([], 3) ∨ V = (xs, 0) ∧ xs.any (fun c => decide (127 < c)) = false := by
      rcases bad with h9 | h9 | h9
      · exact .inl h9
      · exact .inr h9
      · exact absurd h9.2 h4
  all_goals
    have bad3 : xs.any (fun c => decide (127 < c)) = true → V = ([], 3) := fun h9 => by
      rcases bad2 with h8 | ⟨_, h8⟩
      · exact h8
      · rw [h9] at h8; cases h8
    have good : xs.any (fun c => decide (127 < c)) = false → V = (xs, 0) := fun h9 => by
      rw [if_neg (by intro h8; first | exact h4 h8.1 | exact absurd h8.2 (of_decide_eq_false hz)), if_neg (by rw [h9]; simp)] at hV
      exact hV.symm
    have BAD := Lib.hid bad3
    have GOOD := Lib.hid good
    clear bad bad2 bad3 good hV hz
    obtain ⟨a, b, off, cap, rfl, HC⟩ := Row.op h
  case' pos.false =>
    go_enter Try.func9, Try.ntmps9
    go_wp2_with (first | (refine wpList_slH slT_u8 _ _ rfl rfl rfl rfl h (by omega) (by simp [ints]; omega) ?_; intro v2 hv2; have r2 : Row w v2 (ints .u8 (xs.take 4)) := (by have h9 := hv2 _ h; rw [ints_take] at h9; exact h9); have hl2 := Row.flit (E := 5) (w := w) (k := .u8) (f := (4, 5)) [120, 110, 45, 45] [_, _, _, _] rfl (by simp)) | (go_at_call 28; refine (HSM.out _ _ _ (r2.alloc _) hl2).mono ?_; rintro e w1 ⟨rfl, hb1⟩; have hb2 := below_trans (below_alloc w _) hb1))
  case' neg =>
    go_enter Try.func9, Try.ntmps9
    go_wp2
    have hb2 := Below.refl w.heap.size w
  all_goals
    go_loopw [4, 24] (fun tv iv wr => ∃ k : Nat, iv = .int .i64 k ∧ k ≤ xs.length ∧ Hid (Own w.heap.size 21 wr tv (ints .i32 (xs.take k))) ∧ Hid ((xs.take k).any (fun c => decide (127 < c)) = false) ∧ Below w.heap.size w wr) (fun _ iv _ => xs.length - (intOf iv).toNat)
    case atStart => exact ⟨0, rfl, Nat.zero_le _, Own.nil _ _ _, rfl, hb2⟩
    case round =>
      obtain ⟨k, rfl, hk, HO, HA, hb⟩ := hrel
      rcases Nat.lt_or_ge k xs.length with hlt | hlt
      case inl =>
        obtain ⟨x, HX, rfl, hc⟩ := HC.out k hlt
        replace hc := hc _ hb
        have hx := HU.out x (List.mem_of_getElem? HX.out)
        have hw1 : IntKind.i32.wrap x = x := IntWalk.i32_in _ (by omega)
        by_cases h128 : 128 ≤ x
        · obtain rfl : V = ([], 3) := BAD.out (List.any_eq_true.2 ⟨x, List.mem_of_getElem? HX.out, by simp; omega⟩)
          go_wp2
          go_ret2
          exact ⟨_, rfl, Own.nil _ _ _, hb⟩
        · have HT : Hid (ints .i32 (xs.take k) ++ ints .i32 [x] = ints .i32 (xs.take (k + 1))) := by
            show _ = _
            rw [List.take_add_one, HX.out]
            simp [ints]
          have HA2 : Hid ((xs.take (k + 1)).any (fun c => decide (127 < c)) = false) := by
            show _ = _
            rw [List.take_add_one, HX.out, List.any_append, HA.out]
            simp; omega
          have HLN : Hid ((ints .i32 (xs.take k)).length ≤ 900000) := by
            show _ ≤ _
            rw [ints_length, List.length_take]; omega
          go_wp2_with (at_builtin; refine wpList_app slT_i32 w.heap.size _ _ rfl rfl rfl rfl (HO.out.alloc _) (Row.ilit [x] [_] rfl (by simp)) (by have := HLN.out; simp only [ints_length, List.length_cons, List.length_nil] at this ⊢; omega) (by have := hb.size; simp; omega) ?_; intro t3 w3 ho3 hg3; have hb3 := below_app hb ((Below.refl _ _).alloc (Nat.le_refl _) _) (HO.out.alloc _) hg3; rw [HT.out] at ho3)
          go_roundw
          case rel => exact ⟨k + 1, by go_num, by omega, ho3, HA2.out, hb3⟩
          case measure => simp [intOf]; omega
      case inr =>
        obtain rfl : k = xs.length := by omega
        have ho := HO.out
        have ha := HA.out
        rw [List.take_of_length_le (Nat.le_refl _)] at ho ha
        obtain rfl := GOOD.out ha
        go_wp2
        go_ret2
        exact ⟨_, rfl, ho, hb⟩
end Go.Proofs.Ytfhfhfadebcbfaa
