/- Walks: the bits of digits. -/
import Derived.Test.YtieeafkbgmpofaaW23c
import Derived.Test.YtieeafkbgmpofaaP23b
namespace Go.Proofs.Ytieeafkbgmpofaa
open Go.RowKit
set_option maxHeartbeats 1000000
theorem results_tmp4 {fn : Func} {t u v x : Tmp} (h : fn.results = #[.tmp t, .tmp u, .tmp v, .tmp x]) (tmps : Array Value) (P : Program) (w : World) :
    Sem.run P (results fn tmps) w = .ok (.tuple #[tmps.getD t undef, tmps.getD u undef, tmps.getD v undef, tmps.getD x undef]) w := by
  simp [results, h]
theorem ret4 {a a' b b' c c' d d' : Value} (h1 : a = a') (h2 : b = b') (h3 : c = c') (h4 : d = d') : Ending.returned (.tuple #[a, b, c, d]) = .returned (.tuple #[a', b', c', d']) := by rw [h1, h2, h3, h4]
theorem allD_snoc {d : List Int} {k : Nat} {c : Int} (h : d[k]? = some c) (ha : allD (d.take k) = true) (hn : 0 ≤ dv c) : allD (d.take (k + 1)) = true := by
  rw [List.take_add_one, h]
  simp only [allD, List.all_append] at ha ⊢
  rw [ha]; simp [hn]
/-- What the loop of bits keeps. -/
def BI (w : World) (d : List Int) (u hv mv iv : Value) (wr : World) : Prop :=
  ∃ (k m : Nat) (z : Int), iv = .int .i64 k ∧ k ≤ d.length ∧ hv = .int .i64 z ∧ mv = .int .i64 m ∧ Hid (allD (d.take k) = true) ∧ Hid (num (left 16 (dbits (d.take k))) = z) ∧ Hid ((left 16 (dbits (d.take k))).length = m) ∧
    Own w.heap.size 63 wr u (ints .u16 (wholes 16 (dbits (d.take k)))) ∧ Below w.heap.size w wr
set_option maxRecDepth 100000 in
theorem obits_any (v : Value) (d : List Int) (w : World) (h : Row w v (ints .u8 d)) (hg : Rg 0 256 d) (hl : d.length ≤ 10000) :
    Calls Try.prog 81 #[v] w fun e w' => (allD d = true ∧ ∃ t, e = .returned (.tuple #[t, .int .i64 (left 16 (dbits d)).length, .bool (num (left 16 (dbits d)) != 0), .bool true]) ∧ Own w.heap.size 63 w' t (ints .u16 (runU d)) ∧ Below w.heap.size w w') ∨
      (allD d = false ∧ e = .returned (.tuple #[.slice none 0 0, .int .i64 0, .bool false, .bool false]) ∧ Below w.heap.size w w') := by
  obtain ⟨a, b, off, cp, rfl, HC⟩ := h.op
  go_enter Try.func81, Try.ntmps81
  go_wp2
  go_loopw [6, 7, 8, 15] (fun u hv mv iv wr => BI w d u hv mv iv wr) (fun _ _ _ i _ => d.length - (intOf i).toNat)
  case atStart => exact ⟨0, 0, 0, rfl, Nat.zero_le _, rfl, rfl, (rfl : allD [] = true), (rfl : num (left 16 []) = 0), (rfl : (left 16 []).length = 0), by rw [show wholes 16 (dbits (d.take 0)) = [] by simp [wholes, chunk, dbits]]; exact Own.nil _ _ _, Below.refl _ _⟩
  case round =>
    obtain ⟨k, m, z, rfl, hk, rfl, rfl, HA, HZ, HM, hown, hbr⟩ := hrel
    by_cases hlt : k < d.length
    · obtain ⟨c, HX, rfl, hc⟩ := HC.out k hlt
      replace hc := hc _ hbr
      have hcr := hg.get HX.out
      have hv := fun w => bValue_any c w hcr.1 hcr.2
      by_cases hn : 0 ≤ dv c
      · rw [Int.max_eq_left hn, decide_eq_true hn] at hv
        have hn1 := (dv_rng c).2
        have HA2 := Lib.hid (allD_snoc HX.out HA.out hn)
        have hsn := dbits_snoc HX.out
        have hbl : (bits6 (dv c)).length = 6 := rfl
        have hbn := bits6_num hn hn1
        have hbb := bits6_bit (dv c)
        have hLb := dbits_bit (d.take k)
        have hcl : (ints .u16 (wholes 16 (dbits (d.take k)))).length ≤ 10000 := by
          rw [ints_length, wholes, chunk_len, dbits_len, List.length_take]; omega
        have hm16 : m < 16 := by rw [← HM.out, left_len]; omega
        generalize dbits (d.take k) = L at *
        generalize bits6 (dv c) = b6 at *
        generalize dv c = n at *
        have hzr := num_rng (hLb.drop (16 * (L.length / 16)))
        have hzr2 : 0 ≤ num (left 16 L) ∧ num (left 16 L) < 2 ^ (left 16 L).length := hzr
        rw [HZ.out, HM.out] at hzr2
        have hz0 := hzr2.1
        have hz1 := hzr2.2
        clear hzr hzr2
        have hPb : Bit (left 16 L ++ b6) := fun x hx => (List.mem_append.1 hx).elim (hLb.drop _ x) (hbb x)
        have hPn : num (left 16 L ++ b6) = z * 64 + n := by rw [num_append, hbl, HZ.out, hbn]; rfl
        have hPl : (left 16 L ++ b6).length = m + 6 := by rw [List.length_append, hbl, HM.out]
        have HV := Lib.hid hv; have HCL := Lib.hid hcl; have HSN := Lib.hid hsn
        clear hv hcl hsn hbn hbb hcr
        by_cases hsm : m + 6 < 16
        · obtain ⟨e1, e2⟩ := left_small (L := L) (b := b6) (by rw [HM.out, hbl]; exact hsm)
          have hown2 := hown
          rw [← e1, ← HSN.out] at hown2
          rw [← e2, ← HSN.out] at hPn hPl
          have HPN := Lib.hid hPn; have HPL := Lib.hid hPl
          clear e1 e2 hPn hPl hPb hbl
          have hz2 : z < 32768 := by
            have h3 : (2 : Nat) ^ m ≤ 2 ^ 15 := Nat.pow_le_pow_right (by omega) (by omega)
            have h4 := Int.ofNat_le.2 h3
            simp only [Int.natCast_pow] at h4
            have h5 : ((2 : Nat) : Int) ^ 15 = 32768 := rfl
            rw [h5] at h4
            exact Int.lt_of_lt_of_le hz1 h4
          have eo := i64_join6 (z * 64) n (by omega) (by omega) (by omega) hn hn1
          clear hz1
          go_wp2_with (go_at_call 107; refine (HV.out _).mono ?_; rintro e w' ⟨rfl, rfl⟩)
          go_roundw
          case rel => exact ⟨k + 1, m + 6, z * 64 + n, by go_num, by omega, rfl, by go_num, HA2, HPN, HPL, hown2, hbr⟩
          case measure => simp [intOf]; omega
        · obtain ⟨e1, e2⟩ := left_big (L := L) (b := b6) (by rw [HM.out, hbl]; omega) (by rw [hbl]; omega)
          obtain ⟨q1, q2⟩ := num_cut hPb 16
          have hr := num_rng (hPb.take 16)
          have hrl : ((left 16 L ++ b6).take 16).length = 16 := by rw [List.length_take, hPl]; omega
          rw [hrl] at hr
          rw [hPn, hPl] at q1 q2
          have hr1 : num ((left 16 L ++ b6).take 16) < 65536 := hr.2
          have hdl : ((left 16 L ++ b6).drop 16).length = m + 6 - 16 := by rw [List.length_drop, hPl]
          rw [← HSN.out] at e1 e2
          rw [← e2] at q2 hdl
          rw [← q1] at hr1 e1
          have Q2 := Lib.hid q2.symm; have HDL := Lib.hid hdl; have E1 := Lib.hid e1; have HR1 := Lib.hid hr1
          clear e1 e2 q1 q2 hr hrl hr1 hdl hPn hPl hPb hbl hLb
          rcases (by omega : m = 10 ∨ m = 11 ∨ m = 12 ∨ m = 13 ∨ m = 14 ∨ m = 15) with rfl | rfl | rfl | rfl | rfl | rfl
          case' inl =>
            have hz2 : z < 1024 := hz1
            have em := i64_mask 0 (by omega) (z * 64 + n) (by omega) (by omega)
            have hz3 : (z * 64 + n) / 1 < 65536 := HR1.out
          case' inr.inl =>
            have hz2 : z < 2048 := hz1
            have em := i64_mask 1 (by omega) (z * 64 + n) (by omega) (by omega)
            have hz3 : (z * 64 + n) / 2 < 65536 := HR1.out
          case' inr.inr.inl =>
            have hz2 : z < 4096 := hz1
            have em := i64_mask 2 (by omega) (z * 64 + n) (by omega) (by omega)
            have hz3 : (z * 64 + n) / 4 < 65536 := HR1.out
          case' inr.inr.inr.inl =>
            have hz2 : z < 8192 := hz1
            have em := i64_mask 3 (by omega) (z * 64 + n) (by omega) (by omega)
            have hz3 : (z * 64 + n) / 8 < 65536 := HR1.out
          case' inr.inr.inr.inr.inl =>
            have hz2 : z < 16384 := hz1
            have em := i64_mask 4 (by omega) (z * 64 + n) (by omega) (by omega)
            have hz3 : (z * 64 + n) / 16 < 65536 := HR1.out
          case' inr.inr.inr.inr.inr =>
            have hz2 : z < 32768 := hz1
            have em := i64_mask 5 (by omega) (z * 64 + n) (by omega) (by omega)
            have hz3 : (z * 64 + n) / 32 < 65536 := HR1.out
          all_goals
            clear hz1
            have eo := i64_join6 (z * 64) n (by omega) (by omega) (by omega) hn hn1
            go_wp2_with (first | (go_at_call 107; refine (HV.out _).mono ?_; rintro e w' ⟨rfl, rfl⟩) | (at_builtin; refine wpList_app slT_u16 _ _ _ rfl rfl rfl rfl (hown.alloc _) (Row.ilit [_] [_] rfl (by simp)) (by have h9 := HCL.out; simp [ints] at h9 ⊢; omega) (by have := hbr.size; simp; omega) ?_; intro t3 w3 hown3 hg3))
            have hb3 := below_app hbr (below_alloc _ _) (hown.alloc _) hg3
            rw [← ints_append] at hown3
            have hown4 : Own w.heap.size 63 w3 t3 (ints .u16 (wholes 16 (dbits (d.take (k + 1))))) := by rw [E1.out]; first | exact hown3 | (rw [show (z * 64 + n) / 2 ^ (10 + 6 - 16) = z * 64 + n from Int.ediv_one _]; exact hown3)
            go_roundw
            case rel =>
              refine ⟨k + 1, _, _, by go_num, by omega, ?_, ?_, HA2, Q2, HDL, hown4, hb3⟩
              · first | exact iv em | exact iv (Int.emod_one _).symm
              · rfl
            case measure => simp [intOf]; omega
      · have hall := allD_none HX.out (by omega)
        rw [Int.max_eq_right (by omega), decide_eq_false hn] at hv
        have HV := Lib.hid hv; clear hv
        go_wp2_with (go_at_call 107; refine (HV.out _).mono ?_; rintro e w' ⟨rfl, rfl⟩)
        (try simp only [Exit.inBlock, Exit.then])
        refine bodyPost_ret (results_tmp4 rfl _ _ _) rfl ?_
        exact .inr ⟨hall, rfl, hbr⟩
    · have ha := HA.out
      have hz := HZ.out
      have hm := HM.out
      rw [List.take_of_length_le (by omega)] at ha hz hm hown
      go_wp2
      (try simp only [Exit.inBlock, Exit.then])
      refine bodyPost_ret (results_tmp4 rfl _ _ _) rfl ?_
      exact .inl ⟨ha, _, ret4 rfl (iv (by rw [← hm])) (bv (by rw [hz])) rfl, hown, hbr⟩
end Go.Proofs.Ytieeafkbgmpofaa
