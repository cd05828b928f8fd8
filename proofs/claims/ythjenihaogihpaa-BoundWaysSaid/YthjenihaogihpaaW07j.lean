/- Walks: the reference's Split. -/
import Derived.Test.YthjenihaogihpaaW07i
namespace Go.Proofs.Ythjenihaogihpaa
open Go.RowKit
set_option maxHeartbeats 1000000
/-- What the loop of the reference's Split keeps. -/
def RI (w1 : World) (most : Int) (xs : List Int) (u iv : Value) (wr : World) : Prop :=
  ∃ (i p : Nat) (vs : List Value) (ps : List (List Int)), iv = .int .i64 i ∧ i + 1 ≤ (places xs).length ∧ p ≤ xs.length ∧ Hid ((places xs)[i]? = some (p : Int)) ∧
    Hid ((places xs).drop (i + 1) = psum p (esg (xs.drop p))) ∧ Hid (pieces most xs = (esg (xs.drop p)).foldl (rstep most) ps) ∧
    Own w1.heap.size 22 wr u vs ∧ Hid (Pcs w1 wr vs ps) ∧ Hid (vs.length ≤ i) ∧ Hid (∀ q ∈ ps, q.length ≤ p) ∧ Below w1.heap.size w1 wr
theorem Own.unfrozen {B : Nat} {E : TypeId} {w : World} {g n cap : Nat} {cs : List Value} (h : Own B E w (.slice (some ⟨g, 0, none⟩) n cap) cs) (j : Nat) : w.frozen? ⟨g, j, none⟩ = false := by
  obtain ⟨⟨h0, h⟩, h1⟩ := h
  rcases h with ⟨hn, _⟩ | ⟨g', cap', cur, e, hB, hg, hc, hm, hs, ht⟩
  · cases hn
  · cases e
    exact World.ownsRow.frozenAt (base := B) (e := E) (size := 1) ⟨h0, .inr ⟨g, cap, cur, rfl, hB, hg, hc, hm, hs, ht⟩⟩ j
theorem Own.glt {B : Nat} {E : TypeId} {w : World} {g n cap : Nat} {cs : List Value} (h : Own B E w (.slice (some ⟨g, 0, none⟩) n cap) cs) : g < w.heap.size := by
  obtain ⟨⟨h0, h⟩, h1⟩ := h
  rcases h with ⟨hn, _⟩ | ⟨g', cap', cur, e, hB, hg, hc, hm, hs, ht⟩
  · cases hn
  · cases e
    exact (Array.getElem?_eq_some_iff.1 hg).1
theorem set_snoc {α : Type} (l : List α) (x y : α) : (l ++ [x]).set l.length y = l ++ [y] := by simp
theorem Pcs.init {w1 w : World} {vs : List Value} {ps : List (List Int)} {v : Value} {p : List Int} (h : Pcs w1 w (vs ++ [v]) (ps ++ [p])) : Pcs w1 w vs ps := by
  have hl : vs.length = ps.length := by have := h.1; simp at this; exact this
  refine ⟨hl, fun i u q h1 h2 => h.2 i u q ?_ ?_⟩
  · rw [List.getElem?_append_left (List.getElem?_eq_some_iff.1 h1).1]; exact h1
  · rw [List.getElem?_append_left (List.getElem?_eq_some_iff.1 h2).1]; exact h2
theorem rSplit_any (v : Value) (xs : List Int) (most : Int) (w : World) (h : Row w v (ints .u8 xs)) (hg : Rg 0 256 xs) (hl : xs.length ≤ 1000000) (hm0 : -9223372036854775808 ≤ most) (hm1 : most ≤ 9223372036854775807) :
    Calls Try.prog 23 #[v, .int .i64 most] w fun e w' => ∃ t vs, e = .returned t ∧ Own w.heap.size 22 w' t vs ∧ (vs.length = (pieces most xs).length ∧ ∀ (i : Nat) (v : Value) (p : List Int), vs[i]? = some v → (pieces most xs)[i]? = some p → Row w' v (ints .u8 p)) ∧ Below w.heap.size w w' := by
  obtain ⟨a, b, off, cp, rfl, hcp, _⟩ := id h.int
  have hpl := places_max hl
  have HPR : Hid (∀ (i : Nat) (y : Int), (places xs)[i]? = some y → 0 ≤ y ∧ y ≤ xs.length) := fun i y h => places_rng xs y (List.mem_of_getElem? h)
  have hpos : 0 < (places xs).length := by rw [places_length]; omega
  go_enter Try.func23, Try.ntmps23
  go_wp2_with (go_at_call 26; refine (rPlaces_any _ _ _ h hg hl).mono ?_; rintro e w1 ⟨t, rfl, ho, hb⟩; obtain ⟨a2, b2, o2, c2, rfl, HC⟩ := ho.row.op)
  go_loopw [6, 7] (fun u iv wr => RI w1 most xs u iv wr) (fun _ i _ => (places xs).length - (intOf i).toNat)
  case atStart => exact ⟨0, 0, [], [], rfl, by omega, Nat.zero_le _, (rfl : (places xs)[0]? = some 0), (rfl : (places xs).drop 1 = psum 0 (esg xs)), (rfold_pieces most xs).symm, Own.nil _ _ _, Pcs.nil _ _, Nat.le_refl _, (by simp : ∀ q ∈ ([] : List (List Int)), q.length ≤ 0), Below.refl _ _⟩
  case round =>
    obtain ⟨i, p, vs, ps, rfl, hi, hp, HI, HD, HS, hown, HO, HV, HQ, hbr⟩ := hrel
    have hbb := below_trans hb hbr
    by_cases hlt : i + 1 < (places xs).length
    · obtain ⟨y0, HX0, rfl, hc0⟩ := HC.out i (by omega)
      obtain rfl : y0 = (p : Int) := by have h9 := HX0.out; rw [HI.out] at h9; exact (Option.some.inj h9).symm
      obtain ⟨y1, HX1, _, hc1⟩ := HC.out (i + 1) hlt
      obtain ⟨q, rfl, hpq, hq, hd, he⟩ := rsplit_step hp HD.out HX1.out
      rw [he, List.foldl_cons] at HS
      have HD2 := Lib.hid hd; have HS2 := Lib.hid HS.out
      replace hc0 := hc0 wr hbr
      replace hc1 := hc1 wr hbr
      clear hd he HD HS
      obtain ⟨pc, HPC⟩ : ∃ pc, Hid ((xs.take q).drop p = pc) := ⟨_, rfl⟩
      rw [HPC.out] at HS2
      have rpc := Row.sub (h.below hb) a cp (by rw [ints_length]) p q (by omega) (by rw [ints_length]; omega)
      rw [ints_take, ints_drop, HPC.out, sliced, if_neg (by omega), Nat.mul_one] at rpc
      have hpcl : pc.length = q - p := by rw [← HPC.out, List.length_drop, List.length_take]; omega
      have hvl := HV.out
      have hbn := fun nq => below_drewN hbr nq
      rcases List.eq_nil_or_concat vs with rfl | ⟨vs', vl, rfl⟩
      · have hps : ps = [] := by have := HO.out.1; simp at this; exact List.eq_nil_of_length_eq_zero this.symm
        subst hps
        obtain ⟨a3, b3, o3, c3, rfl, _⟩ := id hown.row
        rw [show rstep most [] pc = [] ++ [pc] from rfl] at HS2
        go_wp2_with fail
        go_quiet (fail)
        go_wp2_with ((at_builtin; refine wpList_app slT_bs _ _ _ rfl rfl rfl rfl ((hown.below (below_drewN (Below.refl _ _) _)).alloc _) (Row.lit [_] (by intro u hu; simp at hu; subst hu; rfl) (by simp)) (by have h9 := HV.out; simp only [List.length_cons, List.length_nil] at h9 ⊢; omega) (by have := hbr.size; simp; omega) ?_; intro t4 w4 hown4 hg4))
        have hb3 : Below wr.heap.size wr ((wr.drewN nq).alloc (.cells #[Value.slice (Option.map (fun x => x.add p) a) (q - p) (cp - p)] 22)) := (below_drewN (Below.refl _ _) _).alloc (Nat.le_refl _) _
        have HO4 := Lib.hid (((HO.out.snoc (.inl rpc)).below hb3).other (hown.below hb3) hg4)
        have hb4 := below_app hbr hb3 (hown.below hb3) hg4
        go_roundw
        case rel => exact ⟨i + 1, q, _, _, by go_num, hlt, hq, HX1, HD2, HS2, hown4, HO4, by have h9 := HV.out; show _ ≤ _; simp only [List.length_append, List.length_cons, List.length_nil] at h9 ⊢; omega, fun c hc => by rcases List.mem_append.1 hc with h1 | h1 <;> first | exact Nat.le_trans (HQ.out c h1) (by omega) | (simp at h1; subst h1; omega), hb4⟩
        case measure => simp [intOf]; omega
      · rw [List.concat_eq_append] at *
        obtain ⟨ps', cl, rfl⟩ : ∃ ps' cl, ps = ps' ++ [cl] := by
          rcases List.eq_nil_or_concat ps with rfl | ⟨ps', cl, rfl⟩
          · have := HO.out.1; simp at this
          · exact ⟨ps', cl, by rw [List.concat_eq_append]⟩
        have HLL : Hid (vs'.length = ps'.length) := by have := HO.out.1; simp at this; exact this
        have rvl : Row wr vl (ints .u8 cl) := HO.out.row hbr (i := vs'.length) (by simp) (by rw [HLL.out]; simp)
        obtain ⟨a5, b5, o5, c5, rfl, _⟩ := id rvl.op
        have hcl : cl.length ≤ p := HQ.out cl (by simp)
        obtain ⟨g, cap, rfl, hcap, hBg, hcell, hfz⟩ := hown.opened (by simp)
        have hce := hcell vs'.length _ (by simp; rfl)
        have hgl := hown.glt
        have hvb : vs'.length + 1 ≤ 2000000 := by have h9 := HV.out; simp only [List.length_append, List.length_cons, List.length_nil] at h9; omega
        rw [rstep_snoc] at HS2
        have HLN : Hid ((vs' ++ [Value.slice a5 cl.length c5]).length = vs'.length + 1) := (by simp : (vs' ++ [Value.slice a5 cl.length c5]).length = vs'.length + 1)
        rw [HLN.out] at hown
        by_cases hcm : (cl.length : Int) + pc.length ≤ most
        · rw [if_pos hcm] at HS2
          go_wp2_with fail
          go_quiet (fail)
          have hb3 : Below wr.heap.size wr (wr.drewN nq) := below_drewN (Below.refl _ _) _
          have e1 := Own.nil wr.heap.size 5 (wr.drewN nq)
          have e2 := rvl.below hb3
          go_wp2_with (first | (at_builtin; refine wpList_app slT_u8 _ _ _ rfl rfl rfl rfl e1 e2 (by simp [ints]; omega) (by simp) ?_; intro t6 w6 hown6 hg6; have hb6 : Below wr.heap.size wr w6 := below_own hb3 e1 hg6 (by simp) (Nat.le_refl _); have e3 := rpc.below (hbr.trans (hb6.mono hbr.size)); have hs6 := hb6.size) | (at_builtin; (refine wpList_app slT_u8 _ _ _ rfl rfl rfl rfl hown6 e3 (by simp [ints]; omega) hs6 ?_; intro t7 w7 hown7 hg7; rw [List.nil_append, ← ints_append] at hown7; have hb7 : Below wr.heap.size wr w7 := below_own hb6 hown6 hg7 hs6 (Nat.le_refl _); have ho7 := hown.below hb7; have hc7 := (hb7.cell (p := ⟨g, vs'.length, none⟩) hgl).trans hce; have hf7 := ho7.unfrozen vs'.length; obtain ⟨a7, b7, o7, c7, rfl, _⟩ := id hown7.row.op)))
          rw [← HLN.out] at ho7
          rw [show (cl ++ pc).length = cl.length + (q - p) by rw [List.length_append, hpcl]] at hown7
          have hst := ho7.store vs'.length (Value.slice a7 (cl.length + (q - p)) c7) rfl
          have HO7 := Lib.hid ((((HO.out.below hb7).other ho7 hst.2).init).snoc (.inr ((hown7.mono hbr.size).other ho7 (by decide) hst.2)))
          have hb8 := below_app hbr hb7 ho7 hst.2
          have ho8 := hst.1
          rw [set_snoc, HLN.out] at ho8
          go_roundw
          case rel => exact ⟨i + 1, q, _, _, by go_num, hlt, hq, HX1, HD2, HS2, ho8, HO7, by have h9 := HV.out; show _ ≤ _; simp only [List.length_append, List.length_cons, List.length_nil] at h9 ⊢; omega, fun c hc => by rcases List.mem_append.1 hc with h1 | h1 <;> first | exact Nat.le_trans (HQ.out c (List.mem_append_left _ h1)) (by omega) | (simp at h1; subst h1; simp; omega), hb8⟩
          case measure => simp [intOf]; omega
        · rw [if_neg hcm] at HS2
          go_wp2_with fail
          go_quiet (fail)
          go_wp2_with ((at_builtin; refine wpList_app slT_bs _ _ _ rfl rfl rfl rfl ((hown.below (below_drewN (Below.refl _ _) _)).alloc _) (Row.lit [_] (by intro u hu; simp at hu; subst hu; rfl) (by simp)) (by have h9 := HV.out; simp only [List.length_append, List.length_cons, List.length_nil] at h9 ⊢; omega) (by have := hbr.size; simp; omega) ?_; intro t4 w4 hown4 hg4))
          have hb3 : Below wr.heap.size wr ((wr.drewN nq).alloc (.cells #[Value.slice (Option.map (fun x => x.add p) a) (q - p) (cp - p)] 22)) := (below_drewN (Below.refl _ _) _).alloc (Nat.le_refl _) _
          have HO4 := Lib.hid (((HO.out.snoc (.inl rpc)).below hb3).other (hown.below hb3) hg4)
          have hb4 := below_app hbr hb3 (hown.below hb3) hg4
          go_roundw
          case rel => exact ⟨i + 1, q, _, _, by go_num, hlt, hq, HX1, HD2, HS2, hown4, HO4, by have h9 := HV.out; show _ ≤ _; simp only [List.length_append, List.length_cons, List.length_nil] at h9 ⊢; omega, fun c hc => by rcases List.mem_append.1 hc with h1 | h1 <;> first | exact Nat.le_trans (HQ.out c h1) (by omega) | (simp at h1; subst h1; omega), hb4⟩
          case measure => simp [intOf]; omega
    · go_wp2
      go_ret
      have hd := HD.out
      have hs := HS.out
      rw [List.drop_eq_nil_of_le (by omega)] at hd
      have he : esg (xs.drop p) = [] := by
        cases hx : esg (xs.drop p) with
        | nil => rfl
        | cons g t => rw [hx, psum] at hd; simp at hd
      rw [he, List.foldl_nil] at hs
      rw [hs]
      exact ⟨_, vs, rfl, hown.mono hb.size, ⟨HO.out.1, fun _ _ _ h1 h2 => HO.out.row hbr h1 h2⟩, hbb⟩
end Go.Proofs.Ythjenihaogihpaa
