/- The statements of layer 7, walked. -/
import Derived.Test.YthjenihaogihpaaW07e
import Derived.Test.YthjenihaogihpaaL0
namespace Go.Proofs.Ythjenihaogihpaa
open Go.RowKit
set_option maxHeartbeats 1000000

theorem esg_alive : esg [97, 195, 169] = [[97], [195, 169]] := by
  have t1 : takeR [97, 195, 169] = (97, 1, 0) := by decide
  have t2 : takeR [195, 169] = (233, 2, 0) := by decide
  rw [esg_cons, t1, show ([97, 195, 169] : List Int).drop (1 : Int).toNat = [195, 169] from rfl, esg_cons, t2, show ([195, 169] : List Int).drop (2 : Int).toNat = [] from rfl, esg_nil]; rfl
set_option maxRecDepth 100000 in
theorem alive07_any (w : World) : Calls Try.prog 19 #[] w fun e w' => e = .returned (.bool true) ∧ Below w.heap.size w w' := by
  have hpl : places [97, 195, 169] = [0, 1, 3] := by rw [places, esg_alive]; rfl
  have hpc : pieces 2 [97, 195, 169] = [[97], [195, 169]] := by rw [pieces, esg_alive]; rfl
  have e1 : (places [97, 195, 169]).contains 1 = true := by rw [hpl]; rfl
  have e2 : (places [97, 195, 169]).contains 2 = false := by rw [hpl]; rfl
  have e3 : pnext [97, 195, 169] 1 = 3 := by rw [pnext, hpl]; rfl
  have hg : Rg 0 256 [97, 195, 169] := by intro x hx; simp at hx; omega
  have hA1 := fun v w' h' => oAt_any v [97, 195, 169] 1 w' h' hg (by simp)
  have hA2 := fun v w' h' => oAt_any v [97, 195, 169] 2 w' h' hg (by simp)
  have hN := fun v w' h' => oNext_any v [97, 195, 169] 1 w' h' hg (by simp)
  have hS := fun v w' h' => oSplit_any v [97, 195, 169] 2 w' h' hg (by simp) (by omega) (by omega)
  rw [e1] at hA1; rw [e2] at hA2; rw [e3] at hN; rw [hpc] at hS
  have HA1 := Lib.hid hA1; have HA2 := Lib.hid hA2; have HN := Lib.hid hN; have HS := Lib.hid hS
  clear hA1 hA2 hN hS e1 e2 e3 hpl hpc hg
  have hb := Below.refl w.heap.size w
  have kc := fun (w : World) (C : Array Value) (n c : Nat) => Lib.run_convert_bytes_const (P := Try.prog) w 22 5 C n c Try.underlying22 Try.underlying5
  go_enter Try.func19, Try.ntmps19
  go_wp2_with fail
  refine (HS.out _ _ (Row.flit _ [_, _, _] rfl (by simp))).mono ?_
  rintro e w1 ⟨t, vs, rfl, ho1, hO, hb1⟩
  replace hb := (by first | exact below_trans hb hb1 | exact below_trans (hb.alloc hb.size _) hb1 | exact below_trans ((hb.alloc hb.size _).alloc (hb.alloc hb.size _).size _) hb1 : Below w.heap.size w _)
  have hrow := Row.below (Row.flit (k := .u8) [97, 195, 169] [_, _, _] rfl (by simp)) hb1
  obtain ⟨hvl, hvo⟩ := hO
  obtain ⟨v0, v1, rfl⟩ : ∃ v0 v1, vs = [v0, v1] := by
    cases vs with
    | nil => simp at hvl
    | cons v0 vs => cases vs with
      | nil => simp at hvl
      | cons v1 vs => cases vs with
        | nil => exact ⟨v0, v1, rfl⟩
        | cons v2 vs => simp at hvl
  have r0 := (hvo 0 v0 [97] rfl rfl).row
  have r1 := (hvo 1 v1 [195, 169] rfl rfl).row
  have rt := ho1.row
  clear hb1 hvo hvl ho1
  obtain ⟨a0, b0, o0, c0, rfl, C0⟩ := id r0.op
  obtain ⟨a1, b1, o1, c1, rfl, _⟩ := id r1.op
  obtain ⟨x, hx, rfl, d1⟩ := C0.out 0 (by simp)
  obtain rfl : x = 97 := by have := hx.out; simpa using this.symm
  replace d1 : w1.cell? ⟨b0, o0, none⟩ = some (.int .u8 97) := by simpa using d1 _ (Below.refl _ _)
  clear hx C0 r0 r1
  obtain ⟨at', bt, ot, ct, rfl, ht1, ht2, ht3, _, ht4⟩ := rt
  rcases ht3 with rfl | ⟨ht3, _⟩
  case inr => simp at ht3
  have T0 : w1.cell? ⟨bt, ot, none⟩ = some (.slice (some ⟨b0, o0, none⟩) 1 c0) := by simpa using ht4 0 _ rfl
  have T1 : w1.cell? ⟨bt, ot + 1, none⟩ = some (.slice a1 2 c1) := ht4 1 _ rfl
  clear ht4
  have hcv := run_convert_bytes_arg w1 22 5 Try.underlying22 Try.underlying5 b0 o0 1 c0 [97] rfl (by
    intro i hi
    obtain rfl : i = 0 := by omega
    exact d1) 9 Try.underlying9
  rw [show strOfNums [97] = ⟨#[97]⟩ from rfl] at hcv
  clear d1
  go_wp2_with fail
  refine (HA1.out _ _ hrow).mono ?_
  rintro e w2 ⟨rfl, hb2⟩
  replace hb := (by first | exact below_trans hb hb2 | exact below_trans (hb.alloc hb.size _) hb2 | exact below_trans ((hb.alloc hb.size _).alloc (hb.alloc hb.size _).size _) hb2 : Below w.heap.size w _)
  replace hrow := hrow.below hb2
  clear hb2
  go_wp2_with fail
  refine (HA2.out _ _ hrow).mono ?_
  rintro e w3 ⟨rfl, hb3⟩
  replace hb := (by first | exact below_trans hb hb3 | exact below_trans (hb.alloc hb.size _) hb3 | exact below_trans ((hb.alloc hb.size _).alloc (hb.alloc hb.size _).size _) hb3 : Below w.heap.size w _)
  replace hrow := hrow.below hb3
  clear hb3
  go_wp2_with fail
  refine (HN.out _ _ hrow).mono ?_
  rintro e w4 ⟨rfl, hb4⟩
  replace hb := (by first | exact below_trans hb hb4 | exact below_trans (hb.alloc hb.size _) hb4 | exact below_trans ((hb.alloc hb.size _).alloc (hb.alloc hb.size _).size _) hb4 : Below w.heap.size w _)
  clear hb4
  go_wp2
  go_ret
  exact ⟨rfl, hb⟩
theorem piece_facts {n : Int} {xs : List Int} (hg : Rg 0 256 xs) : ∀ p ∈ pieces n xs, 0 < p.length ∧ ((p.length : Int) ≤ n ∨ (places p).length = 2) ∧ (ebad xs = 0 → ebad p = 0) ∧ p.length ≤ xs.length ∧ Rg 0 256 p := by
  intro p hp
  have h1 := piece_ok hg hp
  refine ⟨h1.1, h1.2.1, h1.2.2, pieces_mem_len hp, fun y hy => hg y ?_⟩
  have h2 := pieces_flat n xs
  rw [← h2]; exact List.mem_flatten.2 ⟨p, hp, hy⟩
set_option maxRecDepth 100000 in
theorem BoundWhole_walk (v : Value) (xs : List Int) (n : Int) (w : World) (h : Row w v (ints .u8 xs)) (g : WF .u8 xs) (gn : (Lit.int .i64 n).wf = true) :
    Calls Try.prog 4 #[v, .int .i64 n] w fun e w' => e = .returned (.bool true) ∧ Below w.heap.size w w' := by
  obtain ⟨a, b, off, cap, rfl, _⟩ := id h.op
  have hb := Below.refl w.heap.size w
  have hn := wf_i64 gn
  by_cases hl : xs.length ≤ 300
  · have hgx := g.u8
    have hS := fun v w' h' => oSplit_any v xs n w' h' hgx (by omega) hn.1 hn.2
    have hf := pieces_flat n xs
    have hpf := piece_facts (n := n) hgx
    have hpl : (pieces n xs).length ≤ xs.length := Nat.le_trans (psplit_len _ _ _) (esg_len xs)
    have hR := fun v w' h' => reRead_any v xs w' h' hgx (by omega)
    generalize pieces n xs = L at *
    obtain ⟨B, HBX⟩ : ∃ B : Nat, Hid (ebad xs = B) := ⟨_, rfl⟩
    rw [HBX.out] at hR hpf
    have HS := Lib.hid hS; have HF := Lib.hid hf; have HPF := Lib.hid hpf; have HR := Lib.hid hR
    clear hS hf hpf hR HBX
    have hrow := h
    go_enter Try.func4, Try.ntmps4
    go_wp2_with fail
    refine (HR.out _ _ hrow).mono ?_
    rintro e w1 ⟨t1, rfl, ho1, hb1⟩
    replace hb := (by first | exact below_trans hb hb1 | exact below_trans (hb.alloc hb.size _) hb1 | exact below_trans ((hb.alloc hb.size _).alloc (hb.alloc hb.size _).size _) hb1 : Below w.heap.size w _)
    replace hrow := hrow.below hb1
    clear ho1 hb1
    go_wp2_with (go_at_call 20; refine (HS.out _ _ hrow).mono ?_; rintro e w2 ⟨t, vs, rfl, ho2, hO, hb2⟩; replace hb : Below w.heap.size w w2 := below_trans hb hb2; replace hrow := hrow.below hb2; have rt := ho2.row; clear ho2 hb2; obtain ⟨hvl, hvo⟩ := hO; obtain ⟨at', bt, ot, ct, rfl, ht1, ht2, ht3, _, ht4⟩ := rt; have HT3 := Lib.hid ht3; have HT4 := Lib.hid ht4; have HVO := Lib.hid hvo; clear ht1 ht2 ht3 ht4 hvo h)
    go_loopw [5, 28] (fun u i wr => ∃ k : Nat, i = .int .i64 k ∧ k ≤ vs.length ∧ Own w2.heap.size 5 wr u (ints .u8 (L.take k).flatten) ∧ Below w2.heap.size w2 wr) (fun _ i _ => vs.length - (intOf i).toNat)
    case atStart => exact ⟨0, rfl, Nat.zero_le _, Own.nil _ _ _, Below.refl _ _⟩
    case round =>
      obtain ⟨k, rfl, hk, hown, hbr⟩ := hrel
      by_cases hlt : k < vs.length
      · obtain ⟨p, hp⟩ : ∃ p, L[k]? = some p := ⟨_, List.getElem?_eq_getElem (by omega)⟩
        obtain ⟨vk, hvk⟩ : ∃ vk, vs[k]? = some vk := ⟨_, List.getElem?_eq_getElem hlt⟩
        have rk := (HVO.out k vk p hvk hp).row.below hbr
        have hc := HT4.out k vk hvk
        rcases HT3.out with rfl | ⟨h0, _⟩
        case inr => rw [h0] at hlt; simp at hlt
        replace hc : wr.cell? ⟨bt, ot + k, none⟩ = some vk := by rw [← hc]; exact hbr.cell (World.block_lt_of_cell? w2 _ hc)
        obtain ⟨ak, bk, ok, ck, rfl, _⟩ := id rk.op
        obtain ⟨f1, f2, f3, f4, f5⟩ := HPF.out p (List.mem_of_getElem? hp)
        have HU : Hid ((L.take (k + 1)).flatten = (L.take k).flatten ++ p) := by
          show _ = _
          rw [List.take_add_one, hp]; simp
        have HLB : Hid ((L.take k).flatten.length ≤ 300) := by
          have h1 : ((L.take k).flatten ++ (L.drop k).flatten).length = xs.length := by rw [← List.flatten_append, List.take_append_drop, HF.out]
          rw [List.length_append] at h1
          show _ ≤ _; omega
        have hP := fun v w' h' => oPlaces_any v p w' h' f5 (by omega)
        have hR := fun v w' h' => reRead_any v p w' h' f5 (by omega)
        generalize ebad p = bp at *
        have HP := Lib.hid hP; have HR2 := Lib.hid hR
        clear hP hR f5 hvk hp
        have hz : ((p.length : Int) == 0) = false := beq_false_of_ne (by omega)
        have hB : (B = 0 ∧ bp = 0) ∨ ((B : Int) == 0) = false := by
          rcases Nat.eq_zero_or_pos B with h0 | h0
          · exact .inl ⟨h0, f3 h0⟩
          · exact .inr (beq_false_of_ne (by omega))
        by_cases hle : (p.length : Int) ≤ n
        · rcases hB with ⟨rfl, rfl⟩ | hB
          all_goals
            go_wp2_with (first | (go_at_call 12; refine (HR2.out _ _ rk).mono ?_; rintro e w3 ⟨t3, rfl, ho3, hb3⟩; clear ho3) | (at_builtin; refine wpList_app slT_u8 _ _ _ rfl rfl rfl rfl (hown.below hb3) (rk.below hb3) (by have := HLB.out; simp only [ints_length]; omega) (below_size2 hbr hb3) ?_; intro t5 w5 hown5 hg5))
            go_roundw
            case rel =>
              have hres : ∃ k' : Nat, Value.int .i64 ((k : Int) + 1) = .int .i64 k' ∧ k' ≤ vs.length ∧ Own w2.heap.size 5 w5 t5 (ints .u8 (L.take k').flatten) ∧ Below w2.heap.size w2 w5 := ⟨k + 1, by go_num, by omega, by rw [HU.out, ints_append]; exact hown5, below_app hbr hb3 (hown.below hb3) hg5⟩
              obtain ⟨k', q1, q2, q3, q4⟩ := hres
              first
                | exact ⟨k', q1, hvl ▸ q2, q3, q4⟩
                | (repeat apply Exists.intro
                   refine And.intro ⟨k', q1, hvl ▸ q2, q3, q4⟩ ?_
                   repeat' apply And.intro
                   all_goals rfl)
            case measure => simp [intOf]; omega
        · have f6 : (places p).length = 2 := by rcases f2 with f2 | f2; exact absurd f2 hle; exact f2
          rcases hB with ⟨rfl, rfl⟩ | hB
          all_goals
            go_wp2_with (first | (go_at_call 12; refine (HR2.out _ _ rk).mono ?_; rintro e w3 ⟨t3, rfl, ho3, hb3⟩; clear ho3) | (go_at_call 21; refine (HP.out _ _ (rk.below hb3)).mono ?_; rintro e w4 ⟨t4, rfl, ho4, hb4⟩; obtain ⟨a4, b4, o4, c4, rfl, _⟩ := ho4.row.op; rw [f6]; replace hb4 := below_trans hb3 hb4; clear ho4) | (at_builtin; refine wpList_app slT_u8 _ _ _ rfl rfl rfl rfl (hown.below hb4) (rk.below hb4) (by have := HLB.out; simp only [ints_length]; omega) (below_size2 hbr hb4) ?_; intro t5 w5 hown5 hg5))
            go_roundw
            case rel =>
              have hres : ∃ k' : Nat, Value.int .i64 ((k : Int) + 1) = .int .i64 k' ∧ k' ≤ vs.length ∧ Own w2.heap.size 5 w5 t5 (ints .u8 (L.take k').flatten) ∧ Below w2.heap.size w2 w5 := ⟨k + 1, by go_num, by omega, by rw [HU.out, ints_append]; exact hown5, below_app hbr hb4 (hown.below hb4) hg5⟩
              obtain ⟨k', q1, q2, q3, q4⟩ := hres
              first
                | exact ⟨k', q1, hvl ▸ q2, q3, q4⟩
                | (repeat apply Exists.intro
                   refine And.intro ⟨k', q1, hvl ▸ q2, q3, q4⟩ ?_
                   repeat' apply And.intro
                   all_goals rfl)
            case measure => simp [intOf]; omega
      · have hall : (L.take k).flatten = xs := by rw [List.take_of_length_le (by omega), HF.out]
        rw [hall] at hown
        replace hb := below_trans hb hbr
        clear hall
        go_wp2_with (first | (go_at_call 22; refine (like1_any _ _ _ _ _ hown.row (hrow.below hbr) (by omega) (by omega)).mono ?_; rintro e w6 ⟨rfl, hb6⟩; rw [decide_eq_true rfl]) | (go_at_call 19; refine (alive07_any _).mono ?_; rintro e w7 ⟨rfl, hb7⟩))
        go_ret
        exact ⟨rfl, below_trans (below_trans hb hb6) hb7⟩
  · go_enter Try.func4, Try.ntmps4
    go_wp2_with (go_at_call 19; refine (alive07_any _).mono ?_; rintro e w7 ⟨rfl, hb7⟩)
    go_ret
    exact ⟨rfl, hb7⟩
end Go.Proofs.Ythjenihaogihpaa
