/- Walks: a text laid, where its signs can be sorted, and no two alike kept. · Walks: a row with no two alike side by side kept, in place. (laid together by program out of single texts). -/
import Derived.Test.YtfhfhfadebcbfaaM12
import Derived.Test.YtfhfhfadebcbfaaM24
namespace Go.Proofs.Ytfhfhfadebcbfaa
open Go.RowKit
set_option maxHeartbeats 8000000
set_option maxRecDepth 100000
/-- Sorted in place. -/
def SortTo (xs ys : List Int) : Prop := ∀ (B g cap : Nat) (w : World), Own B 21 w (.slice (some ⟨g, 0, none⟩) xs.length cap) (ints .i32 xs) →
  Calls Try.prog 36 #[.slice (some ⟨g, 0, none⟩) xs.length cap] w fun e w' => e = .returned (.tuple #[]) ∧ Own B 21 w' (.slice (some ⟨g, 0, none⟩) xs.length cap) (ints .i32 ys) ∧ w.grownBy w' (some g)
/-- No two alike kept, in place. -/
def CompTo (ys zs : List Int) : Prop := ∀ (B g cap : Nat) (w : World), Own B 21 w (.slice (some ⟨g, 0, none⟩) ys.length cap) (ints .i32 ys) →
  Calls Try.prog 38 #[.slice (some ⟨g, 0, none⟩) ys.length cap] w fun e w' => e = .returned (.slice (some ⟨g, 0, none⟩) zs.length cap) ∧ Own B 21 w' (.slice (some ⟨g, 0, none⟩) zs.length cap) (ints .i32 zs) ∧ w.grownBy w' (some g)
def Apt (v : Value) (g P : Nat) : Prop := ∀ k, v.ownBlock = some k → k ≠ g ∧ k ≠ P
def LyI (w : World) (P g n cap : Nat) (ds xs : List Int) (V : LS × Int) (ov gv iv : Value) (wr : World) : Prop :=
  ∃ (k : Nat) (S : LS) (sg : Int), iv = .int .i64 k ∧ gv = .int .i64 S.g ∧ k ≤ n ∧ Hid (Own w.heap.size 5 wr ov (ints .u8 S.out)) ∧ Hid (Apt ov g P) ∧ St w.heap.size P wr sg S.b S.m S.z ∧ Hid (Own w.heap.size 21 wr (.slice (some ⟨g, 0, none⟩) n cap) (ints .i32 ds)) ∧
    Hid ((ds.drop k).foldl (ouP xs) (S, sg) = V) ∧ S.b ≤ 100000000000000 ∧ S.m ≤ 1000 + k * 1000 ∧ Hid (S.out.length ≤ 1001 + k * 61000) ∧ S.g ≤ (k : Int) * 2000000000000 ∧ -((k : Int) * 2000000000000) ≤ S.g ∧ 0 ≤ sg ∧ sg ≤ 1114112 ∧ Below w.heap.size w wr
/-- Inside the round for the sign c. -/
def LzI (w : World) (P g n cap k : Nat) (ds xs : List Int) (c sg : Int) (S2 : LS) (ov gv jv : Value) (wr : World) : Prop :=
  ∃ (j : Nat) (T : LS), jv = .int .i64 j ∧ gv = .int .i64 T.g ∧ j ≤ xs.length ∧ Hid (Own w.heap.size 5 wr ov (ints .u8 T.out)) ∧ Hid (Apt ov g P) ∧ St w.heap.size P wr sg T.b T.m T.z ∧ Hid (Own w.heap.size 21 wr (.slice (some ⟨g, 0, none⟩) n cap) (ints .i32 ds)) ∧
    Hid ((xs.drop j).foldl (inP c) T = S2) ∧ T.b ≤ 100000000000000 ∧ T.m ≤ 1000 + k * 1000 + j ∧ Hid (T.out.length ≤ 1001 + k * 61000 + 61 * j) ∧ T.g ≤ (k : Int) * 2000000000000 + 1200000000000 + j ∧ -((k : Int) * 2000000000000 + 1200000000000) ≤ T.g ∧ Below w.heap.size w wr
theorem own_gr {B : Nat} {E : TypeId} {w w' : World} {v : Value} {cs : List Value} (_h : Own B E w v cs) (hg : w.grownBy w' v.ownBlock) : w.grownBy w' v.ownBlock := hg
theorem own_ap {B : Nat} {E : TypeId} {w : World} {v v' : Value} {cs : List Value} (_h : Own B E w v cs) (ha : v'.ownBlock = v.ownBlock ∨ v'.ownBlock = some w.heap.size) : v'.ownBlock = v.ownBlock ∨ v'.ownBlock = some w.heap.size := ha
theorem lit45 (w1 : World) (o : Obj) : Row ((w1.alloc o).alloc (.cells #[.int .u8 45] 5)) (.slice (some ⟨w1.heap.size + 1, 0, none⟩) 1 1) (ints .u8 [45]) := by
  have h9 := Row.ilit (w := w1.alloc o) (E := 5) (k := .u8) [45] [_] rfl (by simp)
  have e9 : (w1.alloc o).heap.size = w1.heap.size + 1 := by simp
  rw [e9] at h9
  exact h9
theorem lay_any (v : Value) (xs ys zs : List Int) (w : World) (h : Row w v (ints .i32 xs)) (hr : R32 xs) (hne : xs ≠ []) (hl : xs.length ≤ 1000000) (hS : SortTo xs ys) (hC : CompTo ys zs) (hyl : ys.length = xs.length) (hzl : zs.length ≤ 1000) (hzr : ∀ x ∈ zs, 0 ≤ x ∧ x ≤ 1114111) :
    Calls Try.prog 18 #[v] w fun e w' => ∃ t, e = .returned (.tuple #[t, .int .i64 (layP xs (zs.filter (fun c => !decide (c < 128)))).2]) ∧ Own w.heap.size 5 w' t (ints .u8 (layP xs (zs.filter (fun c => !decide (c < 128)))).1) ∧ Below w.heap.size w w' := by
  obtain ⟨ds, HDS⟩ : ∃ ds, Hid (zs.filter (fun c => !decide (c < 128)) = ds) := ⟨_, rfl⟩
  rw [HDS.out]
  obtain ⟨V, hV⟩ : ∃ V, layP xs ds = V := ⟨_, rfl⟩
  rw [hV]
  have HDR : Hid (∀ x ∈ ds, 0 ≤ x ∧ x ≤ 1114111) := fun x hx => by rw [← HDS.out] at hx; exact hzr x (List.mem_filter.1 hx).1
  have hzr32 : R32 zs := fun x hx => by have := hzr x hx; omega
  unfold layP at hV
  obtain ⟨a, b, off, cap, rfl, HC⟩ := h.op
  by_cases hlong : 1000 < xs.length
  · rw [if_pos hlong] at hV
    obtain rfl := hV
    go_enter Try.func18, Try.ntmps18
    go_wp2
    go_ret2
    exact ⟨_, rfl, Own.nil _ _ _, Below.refl _ _⟩
  rw [if_neg hlong] at hV
  have hright := fun wx h9 => right_any (.slice a xs.length cap) xs wx h9 hr (by omega)
  obtain ⟨o, ho⟩ : ∃ o, allSc xs = o := ⟨_, rfl⟩
  rw [ho] at hV hright
  have HRT := Lib.hid hright
  clear hright
  cases o with
  | false =>
    rw [if_pos rfl] at hV
    obtain rfl := hV
    go_enter Try.func18, Try.ntmps18
    go_wp2_with ((go_at_call 33; refine (HRT.out _ h).mono ?_; rintro e w' ⟨rfl, hw⟩; obtain rfl := hw))
    go_ret2
    exact ⟨_, rfl, Own.nil _ _ _, Below.refl _ _⟩
  | true =>
    rw [if_neg (by simp)] at hV
    have hsc : ∀ x ∈ xs, 0 ≤ x ∧ x ≤ 1114111 := fun x hx => by
      have := scB_iff.1 (List.all_eq_true.1 ho x hx)
      omega
    have hpl := fun wx h9 => plain_any (.slice a xs.length cap) xs wx h9 hsc (by omega)
    have hcl := fun wx h9 => rclone_any (.slice a xs.length cap) xs wx h9 hne hl
    have hplen : (plP xs).length ≤ 1000 := Nat.le_trans (List.length_filter_le _ _) (by omega)
    have HSC := Lib.hid hsc
    have HPL := Lib.hid hpl
    have HCL := Lib.hid hcl
    have HS := Lib.hid hS
    have HCO := Lib.hid hC
    clear hsc hpl hcl ho
    generalize plP xs = pl at *
    obtain ⟨m0, hm0⟩ : ∃ m0 : Nat, pl.length = m0 := ⟨_, rfl⟩
    rw [hm0] at hV hplen
    obtain ⟨T0, hT0⟩ : ∃ T0 : List Int, pl ++ (if m0 = 0 then [] else [45]) = T0 := ⟨_, rfl⟩
    rw [hT0] at hV
    have HV := Lib.hid hV
    clear hV hS hC
    by_cases hp0 : m0 = 0
    case' pos =>
      rw [if_pos hp0, List.append_nil] at hT0
      subst hT0
      obtain rfl := hp0
      go_enter Try.func18, Try.ntmps18
      go_wp2_with (first | (go_at_call 33; refine (HRT.out _ h).mono ?_; rintro e w' ⟨rfl, hw⟩; obtain rfl := hw) | (go_at_call 34; refine (HPL.out _ h).mono ?_; rintro e w1 ⟨t1, rfl, ho1, hb1⟩; obtain ⟨a1, b1, o1, c1, rfl, _⟩ := Row.op ho1.row; rw [hm0] at ho1))
      have hst2 := Own.mono (Rq.new 45 w1 (.int .i64 128) (.int .i64 72) (.int .i64 0) (.bool false) ⟨rfl, rfl, rfl, rfl⟩) hb1.size
      have ho2 := ho1.alloc (.cells #[.int .i64 128, .int .i64 72, .int .i64 0, .bool false] 45)
      have hap2 : ∀ k, (Value.slice a1 0 c1).ownBlock = some k → k ≠ w1.heap.size := fun k hk => by
        have := (ho1.1.lt k hk).2
        omega
      have hb2 := hb1.alloc hb1.size (.cells #[.int .i64 128, .int .i64 72, .int .i64 0, .bool false] 45)
      generalize w1.alloc (.cells #[.int .i64 128, .int .i64 72, .int .i64 0, .bool false] 45) = W2 at hst2 ho2 hb2 ⊢
      generalize w1.heap.size = P at hst2 hap2 ⊢
      generalize Value.slice a1 0 c1 = tv at ho2 hap2 ⊢
      have hst3 : St w.heap.size P W2 128 72 (0 : Nat) false := hst2
      have HG : ∃ S0 : LS, S0.g = 0 ∧ S0.b = 72 ∧ Own w.heap.size 5 W2 tv (ints .u8 S0.out) ∧ St w.heap.size P W2 128 S0.b S0.m S0.z ∧ S0.m ≤ 1000 ∧ S0.out.length ≤ 1001 ∧ ((ds.foldl (ouP xs) (S0, 128)).1.out, (0 : Int)) = V :=
        ⟨⟨pl, 0, 72, 0, false⟩, rfl, rfl, ho2, hst3, Nat.zero_le _, by show pl.length ≤ _; omega, HV.out⟩
      clear ho1 hb1 hst2 hst3 ho2 HV
    case' neg =>
      rw [if_neg hp0] at hT0
      go_enter Try.func18, Try.ntmps18
      go_wp2_with (first | (go_at_call 33; refine (HRT.out _ h).mono ?_; rintro e w' ⟨rfl, hw⟩; obtain rfl := hw) | (go_at_call 34; refine (HPL.out _ h).mono ?_; rintro e w1 ⟨t1, rfl, ho1, hb1⟩; obtain ⟨a1, b1, o1, c1, rfl, _⟩ := Row.op ho1.row; rw [hm0] at ho1) | (at_builtin; refine wpList_app2 slT_u8 w.heap.size _ _ rfl rfl rfl rfl ((ho1.alloc _).alloc _) (lit45 w1 _) (by simp only [ints_length, List.length_cons, List.length_nil]; omega) (by have := hb1.size; simp; omega) ?_; intro t3 w3 ho3 hg3 hap3))
      have hg4 : ((w1.alloc (.cells #[.int .i64 128, .int .i64 72, .int .i64 m0, .bool false] 45)).alloc (.cells #[.int .u8 45] 5)).grownBy w3 (Value.slice a1 m0 c1).ownBlock := hg3
      have hap4 : t3.ownBlock = (Value.slice a1 m0 c1).ownBlock ∨ t3.ownBlock = some ((w1.alloc (.cells #[.int .i64 128, .int .i64 72, .int .i64 m0, .bool false] 45)).alloc (.cells #[.int .u8 45] 5)).heap.size := hap3
      clear hg3 hap3
      have hst1 : St w.heap.size w1.heap.size (w1.alloc (.cells #[.int .i64 128, .int .i64 72, .int .i64 m0, .bool false] 45)) 128 72 m0 false := Own.mono (Rq.new 45 w1 (.int .i64 128) (.int .i64 72) (.int .i64 m0) (.bool false) ⟨rfl, rfl, rfl, rfl⟩) hb1.size
      have hst3 := St.keep (Own.alloc hst1 (.cells #[.int .u8 45] 5)) hg4 (fun h9 => by have := (ho1.1.lt _ h9).2; omega)
      have hap2 : ∀ k, t3.ownBlock = some k → k ≠ w1.heap.size := fun k hk => by
        rcases hap4 with h9 | h9
        · have := (ho1.1.lt k (h9.symm.trans hk)).2; omega
        · rw [h9] at hk; have := Option.some.inj hk; simp at this; omega
      have hb2 := below_gr ((hb1.alloc hb1.size _).alloc (by have := hb1.size; simp; omega) _) hg4 (by have := hb1.size; simp; omega) (fun k hk => (ho1.1.lt k hk).1)
      rw [← ints_append, hT0] at ho3
      have ho2 := ho3
      generalize w3 = W2 at hst3 ho2 hb2 ⊢
      generalize w1.heap.size = P at hst3 hap2 ⊢
      generalize t3 = tv at ho2 hap2 ⊢
      have HG : ∃ S0 : LS, S0.g = 0 ∧ S0.b = 72 ∧ Own w.heap.size 5 W2 tv (ints .u8 S0.out) ∧ St w.heap.size P W2 128 S0.b S0.m S0.z ∧ S0.m ≤ 1000 ∧ S0.out.length ≤ 1001 ∧ ((ds.foldl (ouP xs) (S0, 128)).1.out, (0 : Int)) = V :=
        ⟨⟨T0, 0, 72, m0, false⟩, rfl, rfl, ho2, hst3, hplen, by show T0.length ≤ _; rw [← hT0]; simp; omega, HV.out⟩
      clear ho1 hb1 ho3 hst1 hg4 hap4 hst3 ho2 HV
    all_goals
      try clear hp0
      clear hm0
      obtain ⟨S0, hg0, hb0, ho2, hst, hm, hol, hV⟩ := HG
      have HV := Lib.hid hV
      clear hV
      refine (HCL.out _ (h.below hb2)).mono ?_
      rintro e W3 ⟨t3, rfl, ho3, hb3⟩
      obtain ⟨g, cap3, rfl, hgB, hgl⟩ := ho3.form (by rw [ints_length]; exact Nat.pos_of_ne_zero (fun h9 => hne (List.eq_nil_of_length_eq_zero h9)))
      rw [ints_length] at ho3 ⊢
      have hst3 := hst.below hb3
      have ho4 := ho2.below hb3
      have hPl := (St.at hst).2
      have hPg : g ≠ P := by omega
      have hap : Apt tv g P := fun k hk => ⟨by have := (ho2.1.lt k hk).2; omega, hap2 k hk⟩
      have hB3 := below_trans hb2 hb3
      have hs3 := Own.mono ho3 hb2.size
      have hgw : w.heap.size ≤ g := Nat.le_trans hb2.size hgB
      have hwP := (St.at hst).1
      clear ho3 hst ho2 hap2 hb2 hb3
      go_wp2_with fail
      refine (HS.out w.heap.size g cap3 W3 hs3).mono ?_
      rintro e W4 ⟨rfl, hs4, hg4⟩
      go_wp2_with fail
      have hcmp := HCO.out w.heap.size g cap3 W4
      rw [hyl] at hcmp
      refine (hcmp hs4).mono ?_
      rintro e W5 ⟨rfl, hs5, hg5⟩
      go_wp2_with fail
      refine (delf_any w.heap.size g zs.length cap3 zs W5 hs5 rfl hzr32 (by omega)).mono ?_
      rintro e W6 ⟨i6, rfl, hi6, hs6, hg6⟩
      rw [HDS.out] at hs6
      have hg7 := grown_trans (grown_trans hg4 hg5) hg6
      have hst6 := St.keep hst3 hg7 (fun h9 => hPg (Option.some.inj h9))
      have ho6 := ho4.keep hg7 (fun k hk h9 => (hap k h9).1 (Option.some.inj hk).symm)
      have hB6 := below_gr hB3 hg7 hB3.size (fun k hk => by obtain rfl := Option.some.inj hk; exact hgw)
      have hd6 : ds.length = i6 := by
        obtain ⟨_, _, _, _, hv9, _⟩ := hs6.row
        simp only [Value.slice.injEq, ints_length] at hv9
        exact hv9.2.1.symm
      have HD6 := Lib.hid hd6
      have hi1000 : i6 ≤ 1000 := by omega
      clear hs3 hs4 hs5 hg4 hg5 hg6 hg7 hst3 ho4 hB3 hd6 hcmp
      have HI : Hid (LyI w P g i6 cap3 ds xs (ds.foldl (ouP xs) (S0, 128)) tv (.int .i64 0) (.int .i64 0) W6) :=
        ⟨0, S0, 128, rfl, by rw [hg0], Nat.zero_le _, ho6, hap, hst6, hs6, rfl, by omega, by omega, by show _ ≤ _; omega, by omega, by omega, by omega, by omega, hB6⟩
      clear ho6 hap hst6 hs6 hB6 hg0 hb0 hm hol
      obtain ⟨VV, hVV⟩ : ∃ VV, ds.foldl (ouP xs) (S0, 128) = VV := ⟨_, rfl⟩
      have hv := HV.out
      rw [hVV] at hv
      obtain rfl := hv
      rw [hVV] at HI
      clear HV hVV
      go_wp2_with fail
      go_loopw [4, 7, 41] (fun ov gv iv wr => LyI w P g i6 cap3 ds xs VV ov gv iv wr) (fun _ _ iv _ => i6 - (intOf iv).toNat)
      case atStart => exact HI.out
      case round =>
        obtain ⟨k, S, sg, rfl, rfl, hk, HO, HAP, hst, HSG, HF, hb9, hm9, HOL, hg8, hg9, hsg0, hsg1, hb⟩ := hrel
        rcases Nat.lt_or_ge k i6 with hlt | hlt
        case inr =>
          obtain rfl : k = i6 := by omega
          have hf := HF.out
          rw [List.drop_of_length_le (by rw [HD6.out]; exact Nat.le_refl _)] at hf
          obtain rfl := hf
          go_wp2
          go_ret2
          exact ⟨_, rfl, HO.out, hb⟩
        case inl =>
          obtain ⟨c, hc⟩ : ∃ c, ds[k]? = some c := ⟨_, List.getElem?_eq_getElem (by rw [HD6.out]; exact hlt)⟩
          have hcr := HDR.out c (List.mem_of_getElem? hc)
          have hcc := Own.cell HSG.out (j := k) (u := .int .i32 c) (by rw [ints_get, hc]; rfl)
          have hf := HF.out
          have hdk : ds.drop k = c :: ds.drop (k + 1) := by
            have h9 := (List.getElem?_eq_some_iff.1 hc).2
            rw [List.drop_eq_getElem_cons (by rw [HD6.out]; exact hlt), h9]
          rw [hdk, List.foldl_cons] at hf
          unfold ouP at hf
          simp only [] at hf
          obtain ⟨S2, hS2⟩ : ∃ S2, xs.foldl (inP c) ⟨S.out, S.g + (c - sg) * ((S.m : Int) + 1), S.b, S.m, S.z⟩ = S2 := ⟨_, rfl⟩
          rw [hS2] at hf
          change (ds.drop (k + 1)).foldl (ouP xs) _ = VV at hf
          have HF2 := Lib.hid hf
          have HS2 := Lib.hid hS2
          clear hf hS2 hdk hc
          have hM1 : (S.m : Int) + 1 ≤ 1001001 := by omega
          have hd1 : (c - sg) * ((S.m : Int) + 1) ≤ 1114112 * ((S.m : Int) + 1) := Int.mul_le_mul_of_nonneg_right (by omega) (by omega)
          have hd2 : (-1114112) * ((S.m : Int) + 1) ≤ (c - sg) * ((S.m : Int) + 1) := Int.mul_le_mul_of_nonneg_right (by omega) (by omega)
          have hwp : IntKind.i64.wrap ((c - sg) * ((S.m : Int) + 1)) = (c - sg) * ((S.m : Int) + 1) := IntWalk.i64_in _ (by omega)
          have hwg : IntKind.i64.wrap (S.g + (c - sg) * ((S.m : Int) + 1)) = S.g + (c - sg) * ((S.m : Int) + 1) := IntWalk.i64_in _ (by omega)
          obtain ⟨c0, c1', c2, c3⟩ := St.cells hst
          go_wp2
          go_quiet (fail)
          go_wp2
          have hD := below_drewN (Below.refl wr.heap.size wr) nq
          have hI2 : LzI w P g i6 cap3 k ds xs c sg S2 u4 (.int .i64 (S.g + (c - sg) * ((S.m : Int) + 1))) (.int .i64 0) (wr.drewN nq) :=
            ⟨0, ⟨S.out, S.g + (c - sg) * ((S.m : Int) + 1), S.b, S.m, S.z⟩, rfl, rfl, Nat.zero_le _, HO.out.below hD, HAP.out, hst.below hD, HSG.out.below hD, HS2.out, hb9, by show S.m ≤ _; omega, by have := HOL.out; show S.out.length ≤ _; omega, by show S.g + (c - sg) * ((S.m : Int) + 1) ≤ _; omega, by show _ ≤ S.g + (c - sg) * ((S.m : Int) + 1); omega, below_drewN hb nq⟩
          have HI2 := Lib.hid hI2
          clear hI2 hD hst HO HAP HSG HOL hg8 hg9 hm9 hb9 c0 c1' c2 c3 hcc hd1 hd2 hwp hwg hM1 HS2 HF
          go_loopw [4, 7, 62] (fun ov gv jv wr2 => LzI w P g i6 cap3 k ds xs c sg S2 ov gv jv wr2) (fun _ _ jv _ => xs.length - (intOf jv).toNat)
          case atStart => exact HI2.out
          case round =>
            obtain ⟨j, T, rfl, rfl, hj, HO, HAP, hst, HSG, HF, hb9, hm9, HOL, hg8, hg9, hb2⟩ := hrel
            rcases Nat.lt_or_ge j xs.length with hlt2 | hlt2
            case inr =>
              obtain rfl : j = xs.length := by omega
              have hf := HF.out
              rw [List.drop_of_length_le (Nat.le_refl _)] at hf
              obtain rfl := hf
              have hw1 : IntKind.i64.wrap (T.g + 1) = T.g + 1 := IntWalk.i64_in _ (by omega)
              obtain ⟨c0, c1', c2, c3⟩ := St.cells hst
              obtain ⟨z0, z1, z2, z3⟩ := Rq.unfrozen hst
              have hst2 : St w.heap.size P _ (c + 1) T.b T.m T.z := Rq.set0 hst (.int .i64 (c + 1)) rfl
              have hg2 := grown_set wr P 0 (.int .i64 (c + 1))
              have ho2 := HO.out.keep hg2 (fun q hq h9 => (HAP.out q h9).2 (Option.some.inj hq).symm)
              have hs2 := HSG.out.keep hg2 (fun q hq h9 => hPg ((Option.some.inj h9).trans (Option.some.inj hq).symm))
              have hb3 := below_gr hb2 hg2 hb2.size (fun q hq => by obtain rfl := Option.some.inj hq; exact hwP)
              go_wp2
              go_roundw
              case rel => exact ⟨k + 1, ⟨T.out, T.g + 1, T.b, T.m, T.z⟩, c + 1, by go_num, rfl, by omega, ho2, HAP.out, hst2, hs2, HF2.out, hb9, by show T.m ≤ _; omega, by have := HOL.out; show T.out.length ≤ _; omega, by show T.g + 1 ≤ _; omega, by show _ ≤ T.g + 1; omega, by omega, by omega, hb3⟩
              case measure => simp [intOf]; omega
            case inl =>
              obtain ⟨x, HX, rfl, hcx⟩ := HC.out j hlt2
              replace hcx := hcx _ hb2
              have hf := HF.out
              have hdj : xs.drop j = x :: xs.drop (j + 1) := by
                have h9 := (List.getElem?_eq_some_iff.1 HX.out).2
                rw [List.drop_eq_getElem_cons hlt2, h9]
              rw [hdj, List.foldl_cons] at hf
              obtain ⟨T2, hT2⟩ : ∃ T2, inP c T x = T2 := ⟨_, rfl⟩
              rw [hT2] at hf
              have HF3 := Lib.hid hf
              unfold inP at hT2
              clear hf hdj HF
              have hw1 : IntKind.i64.wrap (T.g + 1) = T.g + 1 := IntWalk.i64_in _ (by omega)
              by_cases hxc : x < c
              case pos =>
                rw [if_pos hxc] at hT2
                subst hT2
                go_wp2
                go_roundw
                case rel => exact ⟨j + 1, ⟨T.out, T.g + 1, T.b, T.m, T.z⟩, by go_num, rfl, by omega, HO.out, HAP.out, hst, HSG.out, HF3.out, hb9, by show T.m ≤ _; omega, by have := HOL.out; show T.out.length ≤ _; omega, by show T.g + 1 ≤ _; omega, by show _ ≤ T.g + 1; omega, hb2⟩
                case measure => simp [intOf]; omega
              case neg =>
                rw [if_neg hxc] at hT2
                by_cases hec : x = c
                case neg =>
                  rw [if_neg hec] at hT2
                  subst hT2
                  have hbc : (x == c) = false := beq_false_of_ne hec
                  go_wp2
                  go_roundw
                  case rel => exact ⟨j + 1, T, by go_num, rfl, by omega, HO.out, HAP.out, hst, HSG.out, HF3.out, hb9, by omega, by have := HOL.out; show T.out.length ≤ _; omega, by omega, by omega, hb2⟩
                  case measure => simp [intOf]; omega
                case pos =>
                  rw [if_pos hec] at hT2
                  subst hec
                  have hNU := fun wx h9 => number_any w.heap.size P sg T.b T.m T.z T.g wx h9 hb9 (by omega) (by omega)
                  have hAD := fun wx h9 => sadapt_any w.heap.size P sg T.b T.m T.z T.g wx h9 (by omega)
                  have hbd := adpP_bd T.g ((T.m : Int) + 1) (!T.z)
                  obtain ⟨N, hN⟩ : ∃ N, numP T.b (T.g.toNat + 1) T.g 36 = N := ⟨_, rfl⟩
                  obtain ⟨b2, hb2'⟩ : ∃ b2, adpP T.g ((T.m : Int) + 1) (!T.z) = b2 := ⟨_, rfl⟩
                  rw [hN, hb2'] at hT2
                  rw [hN] at hNU
                  rw [hb2'] at hAD hbd
                  subst hT2
                  have HNU := Lib.hid hNU
                  have HAD := Lib.hid hAD
                  clear hNU hAD hN hb2'
                  go_wp2_with fail
                  refine (HNU.out _ hst).mono ?_
                  rintro e w5 ⟨t5, rfl, ho5, hb5, hNl⟩
                  have ho6 := HO.out.below hb5
                  have hst6 := hst.below hb5
                  have hs6 := HSG.out.below hb5
                  have hb6 := below_trans hb2 hb5
                  have hgl6 : g < w5.heap.size := (hs6.1.lt g rfl).2
                  have hPl6 := (St.at hst6).2
                  have hbnd : (ints .u8 T.out).length + (ints .u8 N).length ≤ 1000000000 := by
                    have := HOL.out
                    rw [ints_length, ints_length]; omega
                  go_wp2_with (at_builtin; refine wpList_app2 slT_u8 w.heap.size _ _ rfl rfl rfl rfl ho6 ho5.row hbnd hb6.size ?_; intro t7 w7 ho7 hg7 hap7)
                  have hg8' := own_gr ho6 hg7
                  have hap8 := own_ap ho6 hap7
                  clear hg7 hap7
                  have hst7 := hst6.keep hg8' (fun h9 => (HAP.out P h9).2 rfl)
                  have hs7 := hs6.keep hg8' (fun q hq h9 => (HAP.out q hq).1 (Option.some.inj h9).symm)
                  have hb7 := below_gr hb6 hg8' hb6.size (fun q hq => (ho6.1.lt q hq).1)
                  have hap9 : Apt t7 g P := fun q hq => by
                    rcases hap8 with h9 | h9
                    · exact HAP.out q (h9.symm.trans hq)
                    · rw [h9] at hq
                      have := Option.some.inj hq
                      exact ⟨by omega, by omega⟩
                  refine (HAD.out _ hst7).mono ?_
                  rintro e w8 ⟨rfl, hst8, hg9'⟩
                  have ho8 := ho7.keep hg9' (fun q hq h9 => (hap9 q h9).2 (Option.some.inj hq).symm)
                  have hs8 := hs7.keep hg9' (fun q hq h9 => hPg ((Option.some.inj h9).trans (Option.some.inj hq).symm))
                  have hb8 := below_gr hb7 hg9' hb7.size (fun q hq => by obtain rfl := Option.some.inj hq; exact hwP)
                  rw [← ints_append] at ho8
                  have hlen8 : (T.out ++ N).length ≤ 1001 + k * 61000 + 61 * (j + 1) := by
                    have := HOL.out
                    rw [List.length_append]; omega
                  have HLEN8 := Lib.hid hlen8
                  clear hlen8 hst6 hs6 hb6 hst7 hs7 hb7 ho5 ho6 ho7 hst HSG HO HAP hb5 hg8' hg9' hap8
                  go_wp2_with fail
                  go_roundw
                  case rel => exact ⟨j + 1, ⟨T.out ++ N, 0, b2, T.m + 1, true⟩, by go_num, rfl, by omega, ho8, hap9, hst8, hs8, HF3.out, by show b2 ≤ _; omega, by show T.m + 1 ≤ _; omega, HLEN8.out, by show (0 : Int) ≤ _; omega, by show _ ≤ (0 : Int); omega, hb8⟩
                  case measure => simp [intOf]; omega
end Go.Proofs.Ytfhfhfadebcbfaa
namespace Go.Proofs.Ytfhfhfadebcbfaa
open Go.RowKit
set_option maxHeartbeats 16000000
set_option maxRecDepth 100000
theorem comp_any (ys : List Int) (hl : ys.length ≤ 1000000) : CompTo ys (ddL ys) := by
  intro B g cap w h
  obtain ⟨n, hn⟩ : ∃ n, ys.length = n := ⟨_, rfl⟩
  obtain ⟨Z, HZ⟩ : ∃ Z, Hid (ddL ys = Z) := ⟨_, rfl⟩
  rw [HZ.out]
  rw [hn] at h hl ⊢
  have HN := Lib.hid hn
  have hcap : n ≤ cap := by
    obtain ⟨_, _, _, _, hv, hc, _⟩ := h.row
    simp only [Value.slice.injEq] at hv
    obtain ⟨h5, h6, h7⟩ := hv
    omega
  by_cases h2 : n < 2
  case pos =>
    have e : Z = ys := by
      rw [← HZ.out]
      match ys, hn with
      | [], _ => rfl
      | [_], _ => rfl
      | _ :: _ :: _, hn => simp at hn; omega
    rw [e, hn]
    clear hn e
    go_enter Try.func38, Try.ntmps38
    go_wp2
    go_ret
    exact ⟨rfl, h, grown_refl w _⟩
  have h0 : Hid (∃ p, ys[1 - 1]? = some p ∧ ys.take 1 ++ ddP p (ys.drop 1) = Z) := by
    show ∃ _, _
    rw [← HZ.out]
    match ys, hn with
    | [], hn => simp at hn; omega
    | y :: r, _ => exact ⟨y, rfl, rfl⟩
  have H := Lib.hid h
  clear hn h
  go_enter Try.func38, Try.ntmps38
  go_wp2
  go_loopw [3] (fun kv wr => ∃ k : Nat, kv = .int .i64 k ∧ 1 ≤ k ∧ k ≤ n ∧ Hid (∃ p, ys[k - 1]? = some p ∧ ys.take k ++ ddP p (ys.drop k) = Z) ∧ Hid (Own B 21 wr (.slice (some ⟨g, 0, none⟩) n cap) (ints .i32 ys)) ∧ w.grownBy wr (some g)) (fun kv _ => n - (intOf kv).toNat)
  case atStart => exact ⟨1, rfl, Nat.le_refl _, by omega, h0.out, H.out, grown_refl w _⟩
  case round =>
    clear h0 H HZ
    obtain ⟨k, rfl, hk1, hk, HP, HO, hg⟩ := hrel
    obtain ⟨x, hx, hz⟩ := HP.out
    clear HP
    rcases Nat.lt_or_ge k n with hlt | hlt
    case inr =>
      obtain rfl : k = n := by omega
      have e : Z = ys := by
        rw [← hz, List.take_of_length_le (by rw [HN.out]; exact Nat.le_refl _), List.drop_of_length_le (by rw [HN.out]; exact Nat.le_refl _)]
        simp [ddP]
      have HE := Lib.hid e
      clear hz hx e
      go_wp2
      go_ret
      rw [HE.out, HN.out]
      exact ⟨rfl, HO.out, hg⟩
    case inl =>
      obtain ⟨k1, hk1c⟩ : ∃ k1, k - 1 = k1 := ⟨_, rfl⟩
      rw [hk1c] at hx
      obtain ⟨y, hy⟩ : ∃ y, ys[k]? = some y := ⟨_, List.getElem?_eq_getElem (by rw [HN.out]; exact hlt)⟩
      have c0 := Own.cell HO.out (j := k1) (u := .int .i32 x) (by rw [ints_get, hx]; rfl)
      have c1 := Own.cell HO.out (j := k) (u := .int .i32 y) (by rw [ints_get, hy]; rfl)
      have hkc : (k : Int) - 1 = (k1 : Int) := by omega
      have hkb : (k : Int) < (n : Int) := by omega
      have hkb2 : (k1 : Int) < (n : Int) := by omega
      have HX := Lib.hid hx
      have HY := Lib.hid hy
      have HZ := Lib.hid hz
      clear hx hy hz hk1c
      by_cases hxy : y = x
      case neg =>
        have hbq : (y == x) = false := beq_false_of_ne hxy
        have hs : Hid (∃ p, ys[k + 1 - 1]? = some p ∧ ys.take (k + 1) ++ ddP p (ys.drop (k + 1)) = Z) := by
          refine ⟨y, HY.out, ?_⟩
          rw [← HZ.out, ddP_ne ys k x y HY.out hxy, List.take_add_one, HY.out]
          simp
        clear hxy
        go_wp2
        go_quiet (fail)
        go_wp2
        go_roundw
        case rel => exact ⟨k + 1, by go_num, by omega, by omega, hs.out, HO.out.below (below_drewN (Below.refl _ _) nq), grown_trans hg (grown_drewN wr nq _)⟩
        case measure => simp [intOf]; omega
      case pos =>
        have hz2 : ys.take k ++ ddP y (ys.drop (k + 1)) = Z := by rw [← HZ.out, ddP_eq ys k x y HY.out hxy]
        have HZ2 := Lib.hid hz2
        subst hxy
        clear hz2 HZ HX
        obtain ⟨m, hm⟩ : ∃ m, n - k = m := ⟨_, rfl⟩
        have hmc : ((n - k : Nat) : Int) = (m : Int) := by omega
        have hkcap : (k : Int) ≤ (cap : Int) := by omega
        go_wp2
        go_quiet (fail)
        have HO1 := Lib.hid (HO.out.below (below_drewN (Below.refl _ _) nq))
        have hg1 := grown_trans hg (grown_drewN wr nq _)
        clear HO hg c0 c1
        generalize wr.drewN nq = w1 at HO1 hg1 ⊢
        go_wp2
        have hst : Hid (∃ p, ys[k + 1 - 1]? = some p ∧ ys.take k ++ ddP p (ys.drop (k + 1)) = Z) := ⟨y, HY.out, HZ2.out⟩
        clear HY HZ2
        go_loopw [3, 5] (fun kv jv wr => ∃ (i j q : Nat) (L : List Int), kv = .int .i64 i ∧ jv = .int .i64 j ∧ 1 ≤ j ∧ j ≤ m ∧ k + j = q ∧ k ≤ i ∧ i < q ∧ Hid (L.length = n) ∧ Hid (L.drop (q - 1) = ys.drop (q - 1)) ∧ Hid (∃ p, ys[q - 1]? = some p ∧ L.take i ++ ddP p (ys.drop q) = Z) ∧ Hid (Own B 21 wr (.slice (some ⟨g, 0, none⟩) n cap) (ints .i32 L)) ∧ w.grownBy wr (some g)) (fun _ jv _ => m - (intOf jv).toNat)
        case atStart => exact ⟨k, 1, k + 1, ys, rfl, rfl, Nat.le_refl _, by omega, rfl, Nat.le_refl _, by omega, HN.out, rfl, hst.out, HO1.out, hg1⟩
        case round =>
          clear hst HO1 hg1
          obtain ⟨i, j, q, L, rfl, rfl, hj1, hj, hq, hki, hiq, HL, HD, HP, HO, hg⟩ := hrel
          obtain ⟨x, hx, hz⟩ := HP.out
          clear HP
          rcases Nat.lt_or_ge j m with hlt2 | hge2
          case inr =>
            obtain rfl : j = m := by omega
            have hqn : q = n := by omega
            rw [hqn] at hiq hz
            have hz2 : L.take i = Z := by rw [← hz, List.drop_of_length_le (by rw [HN.out]; exact Nat.le_refl _)]; simp [ddP]
            have hL := HL.out
            have hvz : ∀ w, (zeroValue 21).run Try.prog w = .ok (.int .i32 0) w := fun w => by rfl
            have hclr := fun ty => Lib.run_clear_slice (P := Try.prog) wr 24 21 ty (.int .i32 0) Try.underlying24 hvz rfl rfl g i (n - i) (cap - i) (by omega) (fun q hq => by
              rw [Own.cell HO.out (j := i + q) (u := .int .i32 (L[i + q]'(by omega))) (by rw [ints_get, List.getElem?_eq_getElem (by omega)]; rfl)]; rfl) (fun q _ => Own.frozen HO.out (i + q))
            obtain ⟨cs', ho2, hl2, ht2⟩ := Own.setCells (List.replicate (n - i) (Value.int .i32 0)) i _ _ HO.out (by intro u hu; rw [List.eq_of_mem_replicate hu]; rfl)
            have ho3 := Own.trunc ho2 i (by rw [hl2, ints_length]; omega)
            have hzl : Z.length = i := by rw [← hz2, List.length_take]; omega
            rw [ht2, ints_take, hz2] at ho3
            have hg2 := grown_trans hg (grown_setCells (g := g) (List.replicate (n - i) (Value.int .i32 0)) i wr)
            generalize wr.setCells g i (List.replicate (n - i) (Value.int .i32 0)) = w9 at *
            have hci : ¬ (cap = i) := by omega
            have hij2 : (i : Int) ≤ (n : Int) := by omega
            have hic : (i : Int) ≤ (cap : Int) := by omega
            have HO3 := Lib.hid ho3
            have HZL := Lib.hid hzl
            clear ho2 ho3 hl2 ht2 hL HO HL HD hx hz hz2 hzl hq hqn
            go_wp2_with (at_builtin; refine wpList_clear_run rfl _ 24 rfl rfl (hclr _) ?_)
            go_ret
            rw [HZL.out]
            exact ⟨rfl, HO3.out, hg2⟩
          case inl =>
            obtain ⟨j1, hj1c⟩ : ∃ j1 : Nat, (j : Int) - 1 = j1 := ⟨j - 1, by omega⟩
            obtain ⟨q1, hq1⟩ : ∃ q1, q - 1 = q1 := ⟨_, rfl⟩
            rw [hq1] at hx
            have hkq : k + j1 = q1 := by omega
            have hqn : q < n := by omega
            obtain ⟨y', hy⟩ : ∃ y, ys[q]? = some y := ⟨_, List.getElem?_eq_getElem (by rw [HN.out]; exact hqn)⟩
            have hLx : L[q1]? = some x := by
              have h8 : (L.drop (q - 1))[0]? = (ys.drop (q - 1))[0]? := by rw [HD.out]
              rw [List.getElem?_drop, List.getElem?_drop, Nat.add_zero, hq1, hx] at h8
              exact h8
            have hLy : L[q]? = some y' := by
              have h8 : (L.drop (q - 1))[1]? = (ys.drop (q - 1))[1]? := by rw [HD.out]
              rw [List.getElem?_drop, List.getElem?_drop, show q - 1 + 1 = q by omega, hy] at h8
              exact h8
            have hD2 : L.drop q = ys.drop q := by
              have h8 := congrArg (List.drop 1) HD.out
              rw [List.drop_drop, List.drop_drop, show q - 1 + 1 = q by omega] at h8
              exact h8
            have c0 := Own.cell HO.out (j := q1) (u := .int .i32 x) (by rw [ints_get, hLx]; rfl)
            have c1 := Own.cell HO.out (j := q) (u := .int .i32 y') (by rw [ints_get, hLy]; rfl)
            obtain ⟨z, hzi⟩ : ∃ y, L[i]? = some y := ⟨_, List.getElem?_eq_getElem (by have := HL.out; omega)⟩
            have c2 := Own.cell HO.out (j := i) (u := .int .i32 z) (by rw [ints_get, hzi]; rfl)
            have hfi := Own.frozen HO.out i
            have hjb : (j : Int) < (m : Int) := by omega
            have hjb1 : (j1 : Int) < (m : Int) := by omega
            have hib : (i : Int) < (n : Int) := by omega
            have HX := Lib.hid hx
            have HY := Lib.hid hy
            have HZ := Lib.hid hz
            have HDD := Lib.hid hD2
            have hil : i < q := hiq
            clear hx hy hz hLx hLy hD2 hzi hq1
            by_cases hxy : y' = x
            case pos =>
              have hs : Hid (∃ p, ys[q + 1 - 1]? = some p ∧ L.take i ++ ddP p (ys.drop (q + 1)) = Z) := ⟨y', HY.out, by rw [← HZ.out, ddP_eq ys q x y' HY.out hxy]⟩
              subst hxy
              have hbq : (y' != y') = false := by simp
              go_wp2
              go_quiet (fail)
              go_wp2
              go_roundw
              case rel => exact ⟨i, j + 1, q + 1, L, rfl, by go_num, by omega, by omega, by omega, hki, by omega, HL.out, HDD.out, hs.out, HO.out.below (below_drewN (Below.refl _ _) nq), grown_trans hg (grown_drewN wr nq _)⟩
              case measure => simp [intOf]; omega
            case neg =>
              have hs : Hid (∃ p, ys[q + 1 - 1]? = some p ∧ (L.set i y').take (i + 1) ++ ddP p (ys.drop (q + 1)) = Z) := by
                refine ⟨y', HY.out, ?_⟩
                rw [← HZ.out, ddP_ne ys q x y' HY.out hxy, List.take_add_one, List.getElem?_set_self (by have := HL.out; omega), List.take_set_of_le (Nat.le_refl _)]
                simp
              have hbq : (y' != x) = true := by simp [hxy]
              have HDS : Hid ((L.set i y').drop (q + 1 - 1) = ys.drop (q + 1 - 1)) := by
                show _ = _
                rw [Nat.add_sub_cancel, List.drop_set_of_lt hil, HDD.out]
              have HLS : Hid ((L.set i y').length = n) := by show _ = _; rw [List.length_set]; exact HL.out
              clear hxy
              go_wp2
              go_quiet (fail)
              have ho2 := Own.set (HO.out.below (below_drewN (Below.refl _ _) nq)) i (.int .i32 y') rfl
              rw [ints_set] at ho2
              have HO2 := Lib.hid ho2
              have hg2 := grown_trans (grown_trans hg (grown_drewN wr nq _)) (grown_set (wr.drewN nq) g i (.int .i32 y'))
              clear ho2 hg HO
              go_wp2
              go_roundw
              case rel => exact ⟨i + 1, j + 1, q + 1, L.set i y', by go_num, by go_num, by omega, by omega, by omega, by omega, by omega, HLS.out, HDS.out, hs.out, HO2.out, hg2⟩
              case measure => simp [intOf]; omega
end Go.Proofs.Ytfhfhfadebcbfaa
