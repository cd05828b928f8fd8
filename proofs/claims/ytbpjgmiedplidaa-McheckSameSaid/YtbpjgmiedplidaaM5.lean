/- Walks: the bits of digits. · Walks: a run, by both. · Plain: the reading of shifted text. · Plain: what is laid is read; what is read is scalar. · Plain: names in seven bits: digits, runs. · Plain: the places of a name's pieces. (laid together by program out of single texts). -/
import Derived.Test.YtbpjgmiedplidaaM2
import Derived.Test.YtbpjgmiedplidaaM4
namespace Go.Proofs.Ytbpjgmiedplidaa
open Go.RowKit
set_option maxHeartbeats 1000000
theorem results_tmp4 {fn : Func} {t u v x : Tmp} (h : fn.results = #[.tmp t, .tmp u, .tmp v, .tmp x]) (tmps : Array Value) (P : Program) (w : World) :
    Sem.run P (results fn tmps) w = .ok (.tuple #[tmps.getD t undef, tmps.getD u undef, tmps.getD v undef, tmps.getD x undef]) w := by
  simp [results, h]
theorem ret4 {a a' b b' c c' d d' : Value} (h1 : a = a') (h2 : b = b') (h3 : c = c') (h4 : d = d') : Ending.returned (.tuple #[a, b, c, d]) = .returned (.tuple #[a', b', c', d']) := by rw [h1, h2, h3, h4]
theorem allD_snoc {d : List Int} {k : Nat} {c : Int} (h : d[k]? = some c) (ha : allD (d.take k) = true) (hn : 0 ≤ dv c) : allD (d.take (k + 1)) = true := by
  rw [List.take_add_one, h]
  simp only [allD, List.all_append] at ha ⊢
  rw [ha]; simp [hn]
/-- What the loop of bits keeps. -/
def BI (w : World) (d : List Int) (u hv mv iv : Value) (wr : World) : Prop :=
  ∃ (k m : Nat) (z : Int), iv = .int .i64 k ∧ k ≤ d.length ∧ hv = .int .i64 z ∧ mv = .int .i64 m ∧ Hid (allD (d.take k) = true) ∧ Hid (num (left 16 (dbits (d.take k))) = z) ∧ Hid ((left 16 (dbits (d.take k))).length = m) ∧
    Own w.heap.size 76 wr u (ints .u16 (wholes 16 (dbits (d.take k)))) ∧ Below w.heap.size w wr
set_option maxRecDepth 100000 in
theorem obits_any (v : Value) (d : List Int) (w : World) (h : Row w v (ints .u8 d)) (hg : Rg 0 256 d) (hl : d.length ≤ 10000) :
    Calls Try.prog 94 #[v] w fun e w' => (allD d = true ∧ ∃ t, e = .returned (.tuple #[t, .int .i64 (left 16 (dbits d)).length, .bool (num (left 16 (dbits d)) != 0), .bool true]) ∧ Own w.heap.size 76 w' t (ints .u16 (runU d)) ∧ Below w.heap.size w w') ∨
      (allD d = false ∧ e = .returned (.tuple #[.slice none 0 0, .int .i64 0, .bool false, .bool false]) ∧ Below w.heap.size w w') := by
  obtain ⟨a, b, off, cp, rfl, HC⟩ := h.op
  go_enter Try.func94, Try.ntmps94
  go_wp2
  go_loopw [6, 7, 8, 15] (fun u hv mv iv wr => BI w d u hv mv iv wr) (fun _ _ _ i _ => d.length - (intOf i).toNat)
  case atStart => exact ⟨0, 0, 0, rfl, Nat.zero_le _, rfl, rfl, (rfl : allD [] = true), (rfl : num (left 16 []) = 0), (rfl : (left 16 []).length = 0), by rw [show wholes 16 (dbits (d.take 0)) = [] by simp [wholes, chunk, dbits]]; exact Own.nil _ _ _, Below.refl _ _⟩
  case round =>
    obtain ⟨k, m, z, rfl, hk, rfl, rfl, HA, HZ, HM, hown, hbr⟩ := hrel
    by_cases hlt : k < d.length
    · obtain ⟨c, HX, rfl, hc⟩ := HC.out k hlt
      replace hc := hc _ hbr
      have hcr := hg.get HX.out
      have hv := fun w => bValue_any c w hcr.1 hcr.2
      by_cases hn : 0 ≤ dv c
      · rw [Int.max_eq_left hn, decide_eq_true hn] at hv
        have hn1 := (dv_rng c).2
        have HA2 := Lib.hid (allD_snoc HX.out HA.out hn)
        have hsn := dbits_snoc HX.out
        have hbl : (bits6 (dv c)).length = 6 := rfl
        have hbn := bits6_num hn hn1
        have hbb := bits6_bit (dv c)
        have hLb := dbits_bit (d.take k)
        have hcl : (ints .u16 (wholes 16 (dbits (d.take k)))).length ≤ 10000 := by
          rw [ints_length, wholes, chunk_len, dbits_len, List.length_take]; omega
        have hm16 : m < 16 := by rw [← HM.out, left_len]; omega
        generalize dbits (d.take k) = L at *
        generalize bits6 (dv c) = b6 at *
        generalize dv c = n at *
        have hzr := num_rng (hLb.drop (16 * (L.length / 16)))
        have hzr2 : 0 ≤ num (left 16 L) ∧ num (left 16 L) < 2 ^ (left 16 L).length := hzr
        rw [HZ.out, HM.out] at hzr2
        have hz0 := hzr2.1
        have hz1 := hzr2.2
        clear hzr hzr2
        have hPb : Bit (left 16 L ++ b6) := fun x hx => (List.mem_append.1 hx).elim (hLb.drop _ x) (hbb x)
        have hPn : num (left 16 L ++ b6) = z * 64 + n := by rw [num_append, hbl, HZ.out, hbn]; rfl
        have hPl : (left 16 L ++ b6).length = m + 6 := by rw [List.length_append, hbl, HM.out]
        have HV := Lib.hid hv; have HCL := Lib.hid hcl; have HSN := Lib.hid hsn
        clear hv hcl hsn hbn hbb hcr
        by_cases hsm : m + 6 < 16
        · obtain ⟨e1, e2⟩ := left_small (L := L) (b := b6) (by rw [HM.out, hbl]; exact hsm)
          have hown2 := hown
          rw [← e1, ← HSN.out] at hown2
          rw [← e2, ← HSN.out] at hPn hPl
          have HPN := Lib.hid hPn; have HPL := Lib.hid hPl
          clear e1 e2 hPn hPl hPb hbl
          have hz2 : z < 32768 := by
            have h3 : (2 : Nat) ^ m ≤ 2 ^ 15 := Nat.pow_le_pow_right (by omega) (by omega)
            have h4 := Int.ofNat_le.2 h3
            simp only [Int.natCast_pow] at h4
            have h5 : ((2 : Nat) : Int) ^ 15 = 32768 := rfl
            rw [h5] at h4
            exact Int.lt_of_lt_of_le hz1 h4
          have eo := i64_join6 (z * 64) n (by omega) (by omega) (by omega) hn hn1
          clear hz1
          go_wp2_with (go_at_call 93; refine (HV.out _).mono ?_; rintro e w' ⟨rfl, rfl⟩)
          go_roundw
          case rel => exact ⟨k + 1, m + 6, z * 64 + n, by go_num, by omega, rfl, by go_num, HA2, HPN, HPL, hown2, hbr⟩
          case measure => simp [intOf]; omega
        · obtain ⟨e1, e2⟩ := left_big (L := L) (b := b6) (by rw [HM.out, hbl]; omega) (by rw [hbl]; omega)
          obtain ⟨q1, q2⟩ := num_cut hPb 16
          have hr := num_rng (hPb.take 16)
          have hrl : ((left 16 L ++ b6).take 16).length = 16 := by rw [List.length_take, hPl]; omega
          rw [hrl] at hr
          rw [hPn, hPl] at q1 q2
          have hr1 : num ((left 16 L ++ b6).take 16) < 65536 := hr.2
          have hdl : ((left 16 L ++ b6).drop 16).length = m + 6 - 16 := by rw [List.length_drop, hPl]
          rw [← HSN.out] at e1 e2
          rw [← e2] at q2 hdl
          rw [← q1] at hr1 e1
          have Q2 := Lib.hid q2.symm; have HDL := Lib.hid hdl; have E1 := Lib.hid e1; have HR1 := Lib.hid hr1
          clear e1 e2 q1 q2 hr hrl hr1 hdl hPn hPl hPb hbl hLb
          rcases (by omega : m = 10 ∨ m = 11 ∨ m = 12 ∨ m = 13 ∨ m = 14 ∨ m = 15) with rfl | rfl | rfl | rfl | rfl | rfl
          case' inl =>
            have hz2 : z < 1024 := hz1
            have em := i64_mask 0 (by omega) (z * 64 + n) (by omega) (by omega)
            have hz3 : (z * 64 + n) / 1 < 65536 := HR1.out
          case' inr.inl =>
            have hz2 : z < 2048 := hz1
            have em := i64_mask 1 (by omega) (z * 64 + n) (by omega) (by omega)
            have hz3 : (z * 64 + n) / 2 < 65536 := HR1.out
          case' inr.inr.inl =>
            have hz2 : z < 4096 := hz1
            have em := i64_mask 2 (by omega) (z * 64 + n) (by omega) (by omega)
            have hz3 : (z * 64 + n) / 4 < 65536 := HR1.out
          case' inr.inr.inr.inl =>
            have hz2 : z < 8192 := hz1
            have em := i64_mask 3 (by omega) (z * 64 + n) (by omega) (by omega)
            have hz3 : (z * 64 + n) / 8 < 65536 := HR1.out
          case' inr.inr.inr.inr.inl =>
            have hz2 : z < 16384 := hz1
            have em := i64_mask 4 (by omega) (z * 64 + n) (by omega) (by omega)
            have hz3 : (z * 64 + n) / 16 < 65536 := HR1.out
          case' inr.inr.inr.inr.inr =>
            have hz2 : z < 32768 := hz1
            have em := i64_mask 5 (by omega) (z * 64 + n) (by omega) (by omega)
            have hz3 : (z * 64 + n) / 32 < 65536 := HR1.out
          all_goals
            clear hz1
            have eo := i64_join6 (z * 64) n (by omega) (by omega) (by omega) hn hn1
            go_wp2_with (first | (go_at_call 93; refine (HV.out _).mono ?_; rintro e w' ⟨rfl, rfl⟩) | (at_builtin; refine wpList_app slT_u16 _ _ _ rfl rfl rfl rfl (hown.alloc _) (Row.ilit [_] [_] rfl (by simp)) (by have h9 := HCL.out; simp [ints] at h9 ⊢; omega) (by have := hbr.size; simp; omega) ?_; intro t3 w3 hown3 hg3))
            have hb3 := below_app hbr (below_alloc _ _) (hown.alloc _) hg3
            rw [← ints_append] at hown3
            have hown4 : Own w.heap.size 76 w3 t3 (ints .u16 (wholes 16 (dbits (d.take (k + 1))))) := by rw [E1.out]; first | exact hown3 | (rw [show (z * 64 + n) / 2 ^ (10 + 6 - 16) = z * 64 + n from Int.ediv_one _]; exact hown3)
            go_roundw
            case rel =>
              refine ⟨k + 1, _, _, by go_num, by omega, ?_, ?_, HA2, Q2, HDL, hown4, hb3⟩
              · first | exact iv em | exact iv (Int.emod_one _).symm
              · rfl
            case measure => simp [intOf]; omega
      · have hall := allD_none HX.out (by omega)
        rw [Int.max_eq_right (by omega), decide_eq_false hn] at hv
        have HV := Lib.hid hv; clear hv
        go_wp2_with (go_at_call 93; refine (HV.out _).mono ?_; rintro e w' ⟨rfl, rfl⟩)
        (try simp only [Exit.inBlock, Exit.then])
        refine bodyPost_ret (results_tmp4 rfl _ _ _) rfl ?_
        exact .inr ⟨hall, rfl, hbr⟩
    · have ha := HA.out
      have hz := HZ.out
      have hm := HM.out
      rw [List.take_of_length_le (by omega)] at ha hz hm hown
      go_wp2
      (try simp only [Exit.inBlock, Exit.then])
      refine bodyPost_ret (results_tmp4 rfl _ _ _) rfl ?_
      exact .inl ⟨ha, _, ret4 rfl (iv (by rw [← hm])) (bv (by rw [hz])) rfl, hown, hbr⟩
end Go.Proofs.Ytbpjgmiedplidaa
namespace Go.Proofs.Ytbpjgmiedplidaa
open Go.RowKit
set_option maxHeartbeats 1000000
theorem rleft_any (v : Value) (d : List Int) (w : World) (h : Row w v (ints .u8 d)) (hl : d.length ≤ 10000) (ha : allD d = true) :
    Calls Try.prog 80 #[v] w fun e w' => e = .returned (.bool (runO d)) ∧ Below w.heap.size w w' := by
  have hv := rValues_any v d w h (by omega)
  have hL : valsL d = dbits d := by rw [valsL, ha]; rfl
  rw [ha, hL] at hv
  have hbit := dbits_bit d
  have hlen := dbits_len d
  have hO : runO d = (decide (6 ≤ (left 16 (dbits d)).length) || (num (left 16 (dbits d)) != 0)) := rfl
  generalize runO d = O at *
  generalize dbits d = L at *
  have hl2 : L.length ≤ 60000 := by omega
  have hll := left_len 16 L
  have hnum := fun v w' h' => rnumber_any v (left 16 L) w' h' (hbit.drop _) (by omega)
  have hd : L.drop (16 * (L.length / 16)) = left 16 L := rfl
  have hdm := Nat.div_add_mod L.length 16
  have hll2 : (left 16 L).length = L.length - 16 * (L.length / 16) := by omega
  rw [hll2] at hO
  generalize num (left 16 L) = z at *
  generalize left 16 L = P at *
  generalize hi : L.length / 16 = i at *
  have hi2 : ((L.length : Int) / 16) = (i : Int) := by omega
  have HV := Lib.hid hv; have HN := Lib.hid hnum; have HO := Lib.hid hO; have HD := Lib.hid hd; have HI := Lib.hid hi
  clear hv hnum hO hd hi hll hdm hll2 hlen hL
  have hile : 16 * i ≤ L.length := by have := HI.out; omega
  by_cases hn : 6 ≤ L.length - 16 * i
  case' pos =>
    have hn2 : 6 ≤ (L.length : Int) - i * 16 := by omega
    have hn3 : decide (6 ≤ (L.length : Int) - i * 16) = true := decide_eq_true hn2
    have e6 : decide (6 ≤ L.length - 16 * i) = true := decide_eq_true hn
  case' neg =>
    have hn2 : (L.length : Int) - i * 16 < 6 := by omega
    have hn3 : decide (6 ≤ (L.length : Int) - i * 16) = false := decide_eq_false (by omega)
    have e6 : decide (6 ≤ L.length - 16 * i) = false := decide_eq_false hn
  all_goals
    rcases hz : (z == 0) with _ | _
    all_goals
      have HO2 := HO.out
      rw [e6, show (z != 0) = !(z == 0) from rfl, hz] at HO2
      subst HO2
      have HZ := Lib.hid hz
      clear hn HO
      go_enter Try.func80, Try.ntmps80
      go_wp2_with (first | (go_at_call 76; refine (HV.out).mono ?_; rintro e w1 ⟨t, rfl, ho, hb⟩; have rL := ho.row; clear ho; obtain ⟨a, b, off, cp, rfl, hcp, _⟩ := id rL.int) | ((refine wpList_slL slT_int _ _ rfl rfl rfl rfl rL (by omega) (by simp [ints]; omega) ?_; intro v2 hv2; have r2 := hv2 w1 rL; rw [show ((i : Int) * 16).toNat = 16 * i by omega, ints_drop, HD.out] at r2)) | (go_at_call 77; refine (HN.out _ _ r2).mono ?_; rintro e w3 ⟨rfl, rfl⟩))
      go_ret
      exact ⟨ret_bool (by first | rfl | (rw [show (z != 0) = !(z == 0) from rfl, HZ.out]; rfl)), hb⟩
def digB : Option Int → Bool
  | some c => decide (0 ≤ dv c)
  | none => false
theorem rdigit_any (v : Value) (xs : List Int) (k : Nat) (w : World) (h : Row w v (ints .u8 xs)) :
    Calls Try.prog 79 #[v, .int .i64 k] w fun e w' => e = .returned (.bool (digB xs[k]?)) ∧ w' = w := by
  obtain ⟨a, b, off, cp, rfl, HC⟩ := h.op
  by_cases hk : k < xs.length
  · obtain ⟨c, HX, rfl, hc⟩ := HC.out k hk
    replace hc := hc _ (Below.refl _ _)
    have hb : digB xs[k]? = decide (0 ≤ dv c) := by rw [HX.out]; rfl
    rw [hb]
    have hv := fun w => rValue_any c w
    generalize decide (0 ≤ dv c) = q at *
    have HV := Lib.hid hv; clear hv hb
    go_enter Try.func79, Try.ntmps79
    go_wp2_with (go_at_call 74; refine (HV.out _).mono ?_; rintro e w' ⟨rfl, rfl⟩)
    go_ret
    exact ⟨rfl, rfl⟩
  · have hb : digB xs[k]? = false := by rw [List.getElem?_eq_none (by omega)]; rfl
    rw [hb]
    clear hb
    go_enter Try.func79, Try.ntmps79
    go_wp2
    go_ret
    exact ⟨rfl, rfl⟩
theorem orun_any (v : Value) (d : List Int) (w : World) (h : Row w v (ints .u8 d)) (hg : Rg 0 256 d) (hl : d.length ≤ 10000) :
    Calls Try.prog 71 #[v] w fun e w' => ∃ t, e = .returned (.tuple #[t, .bool (runR d), .bool (allD d && runO d)]) ∧ Own w.heap.size 21 w' t (ints .i32 (runT d)) ∧ Below w.heap.size w w' := by
  have hbt := obits_any v d w h hg hl
  have hU := fun v w' h' => uRead_any v (runU d) w' h' (runU_rng d) (Nat.le_trans (runU_len d) (by omega))
  have hQ := fun v w' h' => uRight_any v (runU d) w' h' (runU_rng d) (Nat.le_trans (runU_len d) (by omega))
  have hT : allD d = true → runT d = (uread (runU d)).map Prod.fst := fun ha => by rw [runT, ha]; rfl
  have hT2 : allD d = false → runT d = [] := fun ha => by rw [runT, ha]; rfl
  have hR : runR d = (allD d && (ferr ((uread (runU d)).map Prod.snd) == 0 && !runO d)) := rfl
  have hO : runO d = (decide (6 ≤ (left 16 (dbits d)).length) || (num (left 16 (dbits d)) != 0)) := rfl
  generalize runT d = T at *
  generalize runR d = R at *
  generalize runO d = O at *
  generalize (uread (runU d)).map Prod.fst = T1 at *
  generalize runU d = U at *
  have hll : (left 16 (dbits d)).length ≤ 15 := by rw [left_len]; omega
  generalize (left 16 (dbits d)).length = m at *
  generalize (num (left 16 (dbits d)) != 0) = z at *
  generalize (ferr ((uread U).map Prod.snd) == 0) = q at *
  generalize allD d = A at *
  have HB := Lib.hid hbt; have HU := Lib.hid hU; have HQ := Lib.hid hQ
  clear hbt hU hQ
  cases A with
  | false =>
    obtain rfl := hT2 rfl
    have hR2 : R = false := hR
    subst hR2
    clear hT hT2 hR hO
    go_enter Try.func71, Try.ntmps71
    go_wp2_with (go_at_call 94; refine (HB.out).mono ?_; rintro e w1 (⟨⟨⟩, _⟩ | ⟨_, rfl, hb⟩))
    go_ret3
    exact ⟨_, ret3 rfl rfl (bv rfl), Own.nil _ _ _, hb⟩
  | true =>
    obtain rfl := hT rfl
    have hR2 : R = (q && !O) := hR
    clear hT hT2 hR
    have HR2 := Lib.hid hR2; have HO := Lib.hid hO
    clear hR2 hO
    by_cases hm : 6 ≤ m
    case' pos =>
      have hd : decide (6 ≤ m) = true := decide_eq_true hm
      have hd2 : decide (6 ≤ (m : Int)) = true := decide_eq_true (by omega)
      have hm2 : 6 ≤ (m : Int) := by omega
    case' neg =>
      have hd : decide (6 ≤ m) = false := decide_eq_false hm
      have hd2 : decide (6 ≤ (m : Int)) = false := decide_eq_false (by omega)
      have hm2 : (m : Int) < 6 := by omega
    all_goals
      have HDD := Lib.hid hd
      clear hd hm
      rcases z with _ | _ <;> rcases q with _ | _
      all_goals
        have hO2 := HO.out
        rw [HDD.out] at hO2
        have hR3 := HR2.out
        rw [hO2] at hR3
        have HO3 := Lib.hid hO2; have HR3 := Lib.hid hR3
        clear hO2 hR3 HO HR2
        go_enter Try.func71, Try.ntmps71
        go_wp2_with (first | (go_at_call 94; refine (HB.out).mono ?_; rintro e w1 (⟨_, t, rfl, ho, hb⟩ | ⟨⟨⟩, _⟩)) | (go_at_call 95; refine (HU.out _ _ ho.row).mono ?_; rintro e w2 ⟨t2, rfl, ho2, hb2⟩) | (go_at_call 96; refine (HQ.out _ _ (ho.row.below hb2)).mono ?_; rintro e w3 ⟨rfl, hb3⟩))
        go_ret3
        exact ⟨t2, ret3 rfl (bv (by rw [HR3.out]; rfl)) (bv (by rw [HO3.out]; rfl)), (ho2.below hb3).mono hb.size, below_trans (below_trans hb hb2) hb3⟩
theorem oRun_any (v : Value) (d : List Int) (w : World) (h : Row w v (ints .u8 d)) (hg : Rg 0 256 d) (hl : d.length ≤ 10000) :
    Calls Try.prog 51 #[v] w fun e w' => ∃ t, e = .returned (.tuple #[t, .bool (runR d)]) ∧ Own w.heap.size 21 w' t (ints .i32 (runT d)) ∧ Below w.heap.size w w' := by
  have hr := orun_any v d w h hg hl
  generalize runR d = R at *
  generalize (allD d && runO d) = O at *
  have HR := Lib.hid hr; clear hr
  go_enter Try.func51, Try.ntmps51
  go_wp2_with (go_at_call 71; refine (HR.out).mono ?_; rintro e w1 ⟨t, rfl, ho, hb⟩)
  go_ret2
  exact ⟨t, ret2 rfl rfl, ho, hb⟩
end Go.Proofs.Ytbpjgmiedplidaa
namespace Go.Proofs.Ytbpjgmiedplidaa
/-- How many digits stand ahead. -/
def dl : List Int → Nat
  | [] => 0
  | c :: r => if 0 ≤ dv c then dl r + 1 else 0
/-- How many octets are taken behind the first. -/
def sn (c : Int) (r : List Int) : Nat := if c = 43 then (if r[dl r]? = some 45 then dl r + 1 else dl r) else 0
def sout (c : Int) (r : List Int) : List Int :=
  if 128 ≤ c then [65533] else if c = 43 then (if dl r = 0 then [43] else if runO (r.take (dl r)) then runT (r.take (dl r)) ++ [65533] else runT (r.take (dl r))) else [c]
def srun (c : Int) (r : List Int) : Nat := if c = 43 ∧ dl r ≠ 0 then 1 else 0
def swr (c : Int) (r : List Int) : Bool := if 128 ≤ c then true else if c = 43 then (if dl r = 0 then !decide (r[dl r]? = some 45) else !runR (r.take (dl r))) else false
def sread : List Int → List Int × Nat × Bool
  | [] => ([], 0, false)
  | c :: r => (sout c r ++ (sread (r.drop (sn c r))).1, srun c r + (sread (r.drop (sn c r))).2.1, swr c r || (sread (r.drop (sn c r))).2.2)
termination_by l => l.length
decreasing_by all_goals (simp only [List.length_drop, List.length_cons]; omega)
theorem sread_nil : sread [] = ([], 0, false) := by rw [sread]
theorem sread_cons (c : Int) (r : List Int) : sread (c :: r) = (sout c r ++ (sread (r.drop (sn c r))).1, srun c r + (sread (r.drop (sn c r))).2.1, swr c r || (sread (r.drop (sn c r))).2.2) := by rw [sread]
theorem dl_le : ∀ r : List Int, dl r ≤ r.length
  | [] => Nat.le_refl _
  | c :: r => by
    have := dl_le r
    rw [dl]; split <;> simp <;> omega
theorem dl_all : ∀ r : List Int, allD (r.take (dl r)) = true
  | [] => rfl
  | c :: r => by
    rw [dl]; split
    · rename_i h
      have := dl_all r
      rw [allD] at this ⊢
      rw [List.take_succ_cons, List.all_cons, this, decide_eq_true h]; rfl
    · rfl
theorem dl_in : ∀ (r : List Int) (k : Nat), k < dl r → ∃ c, r[k]? = some c ∧ 0 ≤ dv c
  | [], k, h => by simp [dl] at h
  | c :: r, k, h => by
    rw [dl] at h
    split at h
    · rename_i hc
      cases k with
      | zero => exact ⟨c, rfl, hc⟩
      | succ k => rw [List.getElem?_cons_succ]; exact dl_in r k (by omega)
    · omega
theorem dl_out : ∀ (r : List Int) (c : Int), r[dl r]? = some c → dv c < 0
  | [], c, h => by simp [dl] at h
  | x :: r, c, h => by
    rw [dl] at h
    split at h
    · rw [List.getElem?_cons_succ] at h; exact dl_out r c h
    · simp at h; subst h; omega
theorem dl_step {r : List Int} {k : Nat} (hk : k ≤ dl r) : (∃ c, r[k]? = some c ∧ 0 ≤ dv c ∧ k < dl r) ∨ (k = dl r ∧ ∀ c, r[k]? = some c → dv c < 0) := by
  rcases Nat.lt_or_ge k (dl r) with h | h
  · obtain ⟨c, h1, h2⟩ := dl_in r k h
    exact .inl ⟨c, h1, h2, h⟩
  · obtain rfl : k = dl r := by omega
    exact .inr ⟨rfl, dl_out r⟩
/-- Once more, from a place on. -/
theorem sread_at {xs : List Int} {p : Nat} {c : Int} (h : xs[p]? = some c) :
    sread (xs.drop p) = (sout c (xs.drop (p + 1)) ++ (sread (xs.drop (p + 1 + sn c (xs.drop (p + 1))))).1, srun c (xs.drop (p + 1)) + (sread (xs.drop (p + 1 + sn c (xs.drop (p + 1))))).2.1, swr c (xs.drop (p + 1)) || (sread (xs.drop (p + 1 + sn c (xs.drop (p + 1))))).2.2) := by
  obtain ⟨k1, k2⟩ := List.getElem?_eq_some_iff.1 h
  rw [List.drop_eq_getElem_cons k1, k2, sread_cons, List.drop_drop]
end Go.Proofs.Ytbpjgmiedplidaa
namespace Go.Proofs.Ytbpjgmiedplidaa
theorem bits6_of {l : List Int} (h : Bit l) (hl : l.length = 6) : bits6 (num l) = l := by
  match l, hl with
  | [a, b, c, d, e, f], _ =>
    have ha := h a (by simp); have hb := h b (by simp); have hc := h c (by simp); have hd := h d (by simp); have he := h e (by simp); have hf := h f (by simp)
    simp only [bits6, num, List.foldl_cons, List.foldl_nil, List.cons.injEq, and_true]
    omega
/-- The digits' bits are the bits that were laid. -/
theorem dbits_chunk {l : List Int} (h : Bit l) : ∀ k : Nat, 6 * k ≤ l.length → dbits ((chunk 6 l k).map dg) = l.take (6 * k)
  | 0, _ => by simp [chunk, dbits]
  | k + 1, hk => by
    have ih := dbits_chunk h k (by omega)
    have hl : ((l.drop (6 * k)).take 6).length = 6 := by rw [List.length_take, List.length_drop]; omega
    have hr := num_rng ((h.drop (6 * k)).take 6)
    rw [hl] at hr
    have e1 : dv (dg (num ((l.drop (6 * k)).take 6))) = num ((l.drop (6 * k)).take 6) := dv_dg hr.1 (by have := hr.2; omega)
    have e2 : dbits [dg (num ((l.drop (6 * k)).take 6))] = (l.drop (6 * k)).take 6 := by
      simp only [dbits, List.flatMap_cons, List.flatMap_nil, List.append_nil, e1]
      exact bits6_of ((h.drop (6 * k)).take 6) hl
    have e3 : dbits ((chunk 6 l k).map dg ++ [dg (num ((l.drop (6 * k)).take 6))]) = dbits ((chunk 6 l k).map dg) ++ dbits [dg (num ((l.drop (6 * k)).take 6))] := by simp only [dbits, List.flatMap_append]
    rw [chunk_succ, List.map_append, List.map_cons, List.map_nil, e3, ih, e2, Nat.mul_succ, List.take_add]
theorem pad6_len (l : List Int) : (pad6 l).length % 6 = 0 := by
  rw [pad6, List.length_append, List.length_replicate]; omega
theorem dbits_bare (xs : List Int) : dbits (bare xs) = pad6 (obits xs) := by
  have h0 := pad6_len (obits xs)
  rw [bare, wholes, dbits_chunk (pad6_bit (obits_bit xs)) _ (by omega)]
  exact List.take_of_length_le (by omega)
theorem dg_dig {n : Int} (h0 : 0 ≤ n) (h1 : n < 64) : 0 ≤ dv (dg n) := by rw [dv_dg h0 h1]; exact h0
theorem bare_dig (xs : List Int) : ∀ c ∈ bare xs, 0 ≤ dv c := by
  intro c hc
  rw [bare] at hc
  obtain ⟨n, hn, rfl⟩ := List.mem_map.1 hc
  have h1 := wholes6_rng (pad6_bit (obits_bit xs)) n hn
  exact dg_dig h1.1 h1.2
theorem bare_allD (xs : List Int) : allD (bare xs) = true := List.all_eq_true.2 fun c hc => decide_eq_true (bare_dig xs c hc)
/-- The bits of a unit's octets. -/
theorem bits16_num {u : Int} (h0 : 0 ≤ u) (h1 : u < 65536) : num (bits8 (u / 256) ++ bits8 (u % 256)) = u := by
  rw [num_append, bits8_num (by omega) (by omega), bits8_num (by omega) (by omega)]
  have h8 : (bits8 (u % 256)).length = 8 := rfl
  rw [h8, show (2 : Int) ^ 8 = 256 from by decide]; omega
theorem obits_uoct_cons (u : Int) (us : List Int) : obits (uoct (u :: us)) = (bits8 (u / 256) ++ bits8 (u % 256)) ++ obits (uoct us) := by
  simp [obits, uoct]
theorem chunk_obits : ∀ us : List Int, Rg 0 65536 us → ∀ z, chunk 16 (obits (uoct us) ++ z) us.length = us
  | [], _, z => by simp [chunk]
  | u :: us, h, z => by
    have ih := chunk_obits us h.cons.2 z
    have h16 : (bits8 (u / 256) ++ bits8 (u % 256)).length = 16 := rfl
    have e1 : chunk 16 (obits (uoct (u :: us)) ++ z) (1 + us.length) = chunk 16 (obits (uoct (u :: us)) ++ z) 1 ++ chunk 16 ((obits (uoct (u :: us)) ++ z).drop (16 * 1)) us.length := chunk_add 16 _ 1 us.length
    rw [obits_uoct_cons, List.append_assoc] at e1
    rw [List.length_cons, Nat.add_comm, obits_uoct_cons, List.append_assoc, e1, List.drop_append_of_le_length (by rw [h16]; omega), List.drop_eq_nil_of_le (by rw [h16]; omega), List.nil_append, ih, show (1 : Nat) = 0 + 1 from rfl, chunk_succ, show chunk 16 ((bits8 (u / 256) ++ bits8 (u % 256)) ++ (obits (uoct us) ++ z)) 0 = [] from rfl, Nat.mul_zero, List.drop_zero, List.take_append_of_le_length (by rw [h16]; exact Nat.le_refl _), List.take_of_length_le (by rw [h16]; exact Nat.le_refl _), bits16_num h.cons.1.1 h.cons.1.2]
    rfl
theorem runU_bare {us : List Int} (h : Rg 0 65536 us) : runU (bare (uoct us)) = us ∧ left 16 (dbits (bare (uoct us))) = List.replicate ((6 - (obits (uoct us)).length % 6) % 6) 0 := by
  have h1 : (obits (uoct us)).length = 16 * us.length := by rw [obits_len, uoct_len]; omega
  have h2 : (pad6 (obits (uoct us))).length / 16 = us.length := by rw [pad6, List.length_append, List.length_replicate]; omega
  refine ⟨?_, ?_⟩
  · rw [runU, dbits_bare, wholes, h2, pad6, chunk_obits us h]
  · rw [left, dbits_bare, h2, pad6, List.drop_append_of_le_length (by omega), List.drop_eq_nil_of_le (by omega), List.nil_append]
theorem code_run {t : List Int} (h : allSc t = true) : allD (codeL t) = true ∧ runT (codeL t) = t ∧ runO (codeL t) = false ∧ runR (codeL t) = true := by
  have e : codeL t = bare (uoct (ulayL t)) := by rw [codeL, if_pos h]
  have hu := runU_bare (ulay_rng t)
  have ha := bare_allD (uoct (ulayL t))
  have ht : (uread (ulayL t)).map Prod.fst = t := by rw [uread_ulay t h, List.map_map]; exact (List.map_congr_left fun _ _ => rfl).trans (List.map_id _)
  have hs : ferr ((uread (ulayL t)).map Prod.snd) = 0 := by
    rw [uread_ulay t h, List.map_map]
    exact ferr_all (fun y hy => by obtain ⟨c, _, rfl⟩ := List.mem_map.1 hy; rfl)
  have ho : runO (bare (uoct (ulayL t))) = false := by
    rw [runO, hu.2, num_zeros, List.length_replicate]
    simp
    omega
  rw [e]
  refine ⟨ha, ?_, ho, ?_⟩
  · rw [runT, ha, if_pos rfl, hu.1, ht]
  · rw [runR, ha, hu.1, hs, ho]; rfl
theorem dl_app : ∀ (d r : List Int), (∀ c ∈ d, 0 ≤ dv c) → (∀ c, r[0]? = some c → dv c < 0) → dl (d ++ r) = d.length
  | [], [], _, _ => rfl
  | [], x :: r, _, h => by
    have := h x rfl
    rw [List.nil_append, dl, if_neg (by omega)]; rfl
  | c :: d, r, h, hr => by
    have h1 := h c List.mem_cons_self
    have ih := dl_app d r (fun x hx => h x (List.mem_cons_of_mem _ hx)) hr
    rw [List.cons_append, dl, if_pos h1, ih]; rfl
theorem sread_run {d r : List Int} (hd : ∀ c ∈ d, 0 ≤ dv c) (h0 : d ≠ []) (ho : runO d = false) (hR : runR d = true) :
    (sread (43 :: (d ++ [45]) ++ r)).1 = runT d ++ (sread r).1 ∧ (sread (43 :: (d ++ [45]) ++ r)).2.2 = (sread r).2.2 := by
  have e : 43 :: (d ++ [45]) ++ r = 43 :: (d ++ (45 :: r)) := by simp
  have hl : dl (d ++ 45 :: r) = d.length := dl_app d _ hd (fun c hc => by simp at hc; subst hc; decide)
  have hlp : d.length ≠ 0 := fun h => h0 (List.eq_nil_of_length_eq_zero h)
  have ht : (d ++ 45 :: r).take d.length = d := by rw [List.take_append_of_le_length (Nat.le_refl _), List.take_length]
  have hg : (d ++ 45 :: r)[d.length]? = some 45 := by rw [List.getElem?_append_right (Nat.le_refl _), Nat.sub_self]; rfl
  have h1 : sn 43 (d ++ 45 :: r) = d.length + 1 := by rw [sn, if_pos rfl, hl, if_pos hg]
  have h2 : sout 43 (d ++ 45 :: r) = runT d := by rw [sout, if_neg (by omega), if_pos rfl, hl, if_neg hlp, ht, ho]; rfl
  have h3 : swr 43 (d ++ 45 :: r) = false := by rw [swr, if_neg (by omega), if_pos rfl, hl, if_neg hlp, ht, hR]; rfl
  have h4 : (d ++ 45 :: r).drop (d.length + 1) = r := by
    rw [← List.drop_drop, List.drop_append_of_le_length (Nat.le_refl _), List.drop_length]; rfl
  rw [e, sread_cons, h1, h2, h3, h4]
  exact ⟨rfl, rfl⟩
theorem sread_dir {c : Int} (r : List Int) (h : dirB c = true) : (sread (c :: r)).1 = c :: (sread r).1 ∧ (sread (c :: r)).2.2 = (sread r).2.2 := by
  have h1 := dir_ne h
  have h2 := dir_cases h
  have e1 : sn c r = 0 := by rw [sn, if_neg h1]
  have e2 : sout c r = [c] := by rw [sout, if_neg (by omega), if_neg h1]
  have e3 : swr c r = false := by rw [swr, if_neg (by omega), if_neg h1]
  rw [sread_cons, e1, e2, e3, List.drop_zero]
  exact ⟨rfl, rfl⟩
theorem sread_plus (r : List Int) : (sread (43 :: 45 :: r)).1 = 43 :: (sread r).1 ∧ (sread (43 :: 45 :: r)).2.2 = (sread r).2.2 := by
  have e0 : dl (45 :: r) = 0 := by rw [dl, if_neg (by decide)]
  have e1 : sn 43 (45 :: r) = 1 := by rw [sn, if_pos rfl, e0]; rfl
  have e2 : sout 43 (45 :: r) = [43] := by rw [sout, if_neg (by omega), if_pos rfl, e0, if_pos rfl]
  have e3 : swr 43 (45 :: r) = false := by rw [swr, if_neg (by omega), if_pos rfl, e0, if_pos rfl]; rfl
  rw [sread_cons, e1, e2, e3]
  exact ⟨rfl, rfl⟩
theorem allSc_sub {xs ys : List Int} (h : allSc xs = true) (hs : ∀ y ∈ ys, y ∈ xs) : allSc ys = true := List.all_eq_true.2 fun y hy => List.all_eq_true.1 h y (hs y hy)
theorem code_ne {c : Int} {t : List Int} (h : allSc (c :: t) = true) : codeL (c :: t) ≠ [] := by
  intro h0
  have h1 := (code_run h).2.1
  rw [h0] at h1
  have : runT [] = [] := by rw [runT, if_pos (by rfl : allD [] = true), show runU [] = [] from rfl, uread_nil]; rfl
  rw [this] at h1; cases h1
/-- What is laid is read. -/
theorem sread_lay : ∀ (k : Nat) (xs : List Int), xs.length ≤ k → allSc xs = true → (sread (lay xs).1).1 = xs ∧ (sread (lay xs).1).2.2 = false
  | _, [], _, _ => by rw [lay_nil, sread_nil]; exact ⟨rfl, rfl⟩
  | 0, c :: r, h, _ => by simp at h
  | k + 1, c :: r, h, hs => by
    have h1 := lk_pos c r
    have ih := sread_lay k ((c :: r).drop (lk c r)) (by rw [List.length_drop]; simp only [List.length_cons] at *; omega) (allSc_sub hs fun y hy => List.mem_of_mem_drop hy)
    rw [lay_cons]
    show (sread (lo c r ++ (lay ((c :: r).drop (lk c r))).1)).1 = c :: r ∧ (sread (lo c r ++ (lay ((c :: r).drop (lk c r))).1)).2.2 = false
    generalize (lay ((c :: r).drop (lk c r))).1 = L at *
    by_cases hn : 0 < rn (c :: r)
    · have e1 : lo c r = 43 :: (codeL ((c :: r).take (rn (c :: r))) ++ [45]) := by rw [lo, if_pos hn]; rfl
      have e2 : lk c r = rn (c :: r) := by rw [lk, if_pos hn]
      have hsc : allSc ((c :: r).take (rn (c :: r))) = true := allSc_sub hs fun y hy => List.mem_of_mem_take hy
      have hc := code_run hsc
      have hne : codeL ((c :: r).take (rn (c :: r))) ≠ [] := by
        obtain ⟨m, hm⟩ : ∃ m, rn (c :: r) = m + 1 := ⟨rn (c :: r) - 1, by omega⟩
        rw [hm, List.take_succ_cons] at hsc ⊢
        exact code_ne hsc
      have hs2 := sread_run (r := L) (d := codeL ((c :: r).take (rn (c :: r)))) (fun x hx => of_decide_eq_true (List.all_eq_true.1 hc.1 x hx)) hne hc.2.2.1 hc.2.2.2
      rw [e1]
      rw [e2] at ih
      refine ⟨hs2.1.trans ?_, hs2.2.trans ih.2⟩
      rw [hc.2.1, ih.1, List.take_append_drop]
    · have e2 : lk c r = 1 := by rw [lk, if_neg hn]
      rw [e2, List.drop_succ_cons, List.drop_zero] at ih
      by_cases hc : c = 43
      · subst hc
        have e1 : lo 43 r = [43, 45] := by rw [lo, if_neg hn, if_pos rfl]
        have hp := sread_plus L
        rw [e1]
        exact ⟨hp.1.trans (by rw [ih.1]), hp.2.trans ih.2⟩
      · have e1 : lo c r = [c] := by rw [lo, if_neg hn, if_neg hc]
        have hp := sread_dir L (dir_of_rn hn hc)
        rw [e1]
        exact ⟨hp.1.trans (by rw [ih.1]), hp.2.trans ih.2⟩
theorem allSc_app {a b : List Int} (ha : allSc a = true) (hb : allSc b = true) : allSc (a ++ b) = true := by rw [allSc, List.all_append]; exact Bool.and_eq_true _ _ |>.mpr ⟨ha, hb⟩
theorem runT_sc (d : List Int) : allSc (runT d) = true := by
  unfold runT
  split
  · exact uread_sc (runU_rng d)
  · rfl
theorem sout_sc {c : Int} (r : List Int) (h0 : 0 ≤ c) : allSc (sout c r) = true := by
  have hb : allSc [65533] = true := by decide
  rw [sout]
  split
  · exact hb
  · split
    · split
      · decide
      · split
        · exact allSc_app (runT_sc _) hb
        · exact runT_sc _
    · rw [allSc, List.all_cons, List.all_nil, Bool.and_true]; exact decide_eq_true (by omega)
/-- What is read is scalar. -/
theorem sread_sc : ∀ (k : Nat) (xs : List Int), xs.length ≤ k → (∀ c ∈ xs, 0 ≤ c) → allSc (sread xs).1 = true
  | _, [], _, _ => by rw [sread_nil]; rfl
  | 0, c :: r, h, _ => by simp at h
  | k + 1, c :: r, h, hg => by
    rw [sread_cons]
    exact allSc_app (sout_sc r (hg c List.mem_cons_self)) (sread_sc k _ (by rw [List.length_drop]; simp only [List.length_cons] at h; omega) fun x hx => hg x (List.mem_cons_of_mem _ (List.mem_of_mem_drop hx)))
end Go.Proofs.Ytbpjgmiedplidaa
namespace Go.Proofs.Ytbpjgmiedplidaa
/-- A digit's number, by the modified table, or -1. -/
def mv (c : Int) : Int := if c = 44 then 63 else if c = 47 then -1 else dv c
theorem mv_rng (c : Int) : -1 ≤ mv c ∧ mv c < 64 := by have := dv_rng c; unfold mv; split <;> (try split) <;> omega
/-- One octet as another one. -/
def sub1 (a b c : Int) : Int := if c = a then b else c
def subL (a b : Int) (l : List Int) : List Int := l.map (sub1 a b)
theorem subL_len (a b : Int) (l : List Int) : (subL a b l).length = l.length := by simp [subL]
theorem subL_snoc {a b : Int} {xs : List Int} {k : Nat} {x : Int} (h : xs[k]? = some x) : subL a b (xs.take (k + 1)) = subL a b (xs.take k) ++ [sub1 a b x] := by
  rw [List.take_add_one, h, subL, List.map_append]; rfl
theorem subL_rng {a b : Int} {l : List Int} (h : Rg 0 256 l) (h0 : 0 ≤ b) (h1 : b < 256) : Rg 0 256 (subL a b l) := by
  intro x hx
  obtain ⟨c, hc, rfl⟩ := List.mem_map.1 hx
  have := h c hc
  unfold sub1; split <;> omega
def usuL (l : List Int) : List Int := subL 44 47 l
def modL (l : List Int) : List Int := subL 47 44 l
theorem dv_usu {c : Int} (h : 0 ≤ mv c) : dv (sub1 44 47 c) = mv c := by
  unfold sub1 mv at *
  split
  · rfl
  · rename_i h1
    rw [if_neg h1] at h
    split at h
    · omega
    · rename_i h2; rw [if_neg h2]
theorem mv_mod {c : Int} (h : 0 ≤ dv c) : mv (sub1 47 44 c) = dv c := by
  unfold sub1
  split
  · rename_i h1; subst h1; rfl
  · rename_i h1
    unfold mv
    rw [if_neg (by intro h2; subst h2; revert h; decide), if_neg h1]
theorem usu_mod {c : Int} (h : 0 ≤ dv c) : sub1 44 47 (sub1 47 44 c) = c := by
  unfold sub1
  by_cases h1 : c = 47
  · subst h1; rfl
  · rw [if_neg h1, if_neg (by intro h2; subst h2; revert h; decide)]
theorem usuL_modL {l : List Int} (h : ∀ c ∈ l, 0 ≤ dv c) : usuL (modL l) = l := by
  rw [usuL, modL, subL, subL, List.map_map]
  exact (List.map_congr_left fun c hc => usu_mod (h c hc)).trans (List.map_id _)
def allM (d : List Int) : Bool := d.all fun c => decide (0 ≤ mv c)
theorem allM_none {d : List Int} {k : Nat} {c : Int} (h : d[k]? = some c) (hn : mv c < 0) : allM d = false := by
  cases ha : allM d with
  | false => rfl
  | true => have := List.all_eq_true.1 ha c (List.mem_of_getElem? h); simp at this; omega
theorem allM_snoc {d : List Int} {k : Nat} {c : Int} (h : d[k]? = some c) (ha : allM (d.take k) = true) (hn : 0 ≤ mv c) : allM (d.take (k + 1)) = true := by
  rw [List.take_add_one, h]
  simp only [allM, List.all_append] at ha ⊢
  rw [ha]; simp [hn]
theorem allD_usu {d : List Int} (h : allM d = true) : allD (usuL d) = true := by
  rw [allD, usuL, subL, List.all_map]
  refine List.all_eq_true.2 fun c hc => ?_
  have h1 : 0 ≤ mv c := of_decide_eq_true (List.all_eq_true.1 h c hc)
  exact decide_eq_true (by rw [dv_usu h1]; exact h1)
/-- Signs that are laid by themselves; those a run is of. -/
def mdirB (c : Int) : Bool := decide (32 ≤ c ∧ c ≤ 126 ∧ c ≠ 38)
def mtak (c : Int) : Bool := mdirB c || decide (c = 38)
def mcodeL (t : List Int) : List Int := modL (codeL t)
theorem mcodeL_len (t : List Int) : (mcodeL t).length ≤ 8 * t.length + 1 := by rw [mcodeL, modL, subL_len]; exact codeL_len t
def mn : List Int → Nat
  | [] => 0
  | c :: r => if mtak c then 0 else mn r + 1
theorem mn_le : ∀ t : List Int, mn t ≤ t.length
  | [] => Nat.le_refl _
  | c :: r => by
    have := mn_le r
    rw [mn]; split <;> simp <;> omega
theorem mn_in : ∀ (t : List Int) (k : Nat), k < mn t → ∃ c, t[k]? = some c ∧ mtak c = false
  | [], k, h => by simp [mn] at h
  | c :: r, k, h => by
    rw [mn] at h
    split at h
    · omega
    · rename_i hc
      cases k with
      | zero => exact ⟨c, rfl, by simpa using hc⟩
      | succ k => rw [List.getElem?_cons_succ]; exact mn_in r k (by omega)
theorem mn_out : ∀ (t : List Int) (c : Int), t[mn t]? = some c → mtak c = true
  | [], c, h => by simp [mn] at h
  | x :: r, c, h => by
    rw [mn] at h
    split at h
    · rename_i hx
      simp at h; subst h; exact hx
    · rw [List.getElem?_cons_succ] at h; exact mn_out r c h
/-- The first piece: how many signs it has. -/
def mk1 (t : List Int) : Nat := max (mn t) 1
/-- What is laid of the first piece. -/
def mo (c : Int) (r : List Int) : List Int := if 0 < mn (c :: r) then 38 :: mcodeL ((c :: r).take (mn (c :: r))) ++ [45] else if c = 38 then [38, 45] else [c]
def mi (t : List Int) : Nat := if 0 < mn t then 1 else 0
theorem mk1_pos (t : List Int) : 0 < mk1 t := by unfold mk1; omega
theorem mk1_le (c : Int) (r : List Int) : mk1 (c :: r) ≤ (c :: r).length := by
  have := mn_le (c :: r)
  unfold mk1; simp only [List.length_cons] at *; omega
theorem mk1_eq (t : List Int) : mk1 t - 1 + 1 = mk1 t := by have := mk1_pos t; omega
def mlay : List Int → List Int × Nat
  | [] => ([], 0)
  | c :: r => (mo c r ++ (mlay (r.drop (mk1 (c :: r) - 1))).1, mi (c :: r) + (mlay (r.drop (mk1 (c :: r) - 1))).2)
termination_by l => l.length
decreasing_by all_goals (simp only [List.length_drop, List.length_cons]; omega)
theorem mlay_nil : mlay [] = ([], 0) := by rw [mlay]
theorem mlay_cons (c : Int) (r : List Int) : mlay (c :: r) = (mo c r ++ (mlay ((c :: r).drop (mk1 (c :: r)))).1, mi (c :: r) + (mlay ((c :: r).drop (mk1 (c :: r)))).2) := by
  rw [mlay]
  conv => rhs; rw [← mk1_eq (c :: r), List.drop_succ_cons]
theorem mo_len (c : Int) (r : List Int) : (mo c r).length ≤ 11 * mk1 (c :: r) := by
  have h1 := mcodeL_len ((c :: r).take (mn (c :: r)))
  have h2 := mn_le (c :: r)
  rw [List.length_take] at h1
  unfold mo mk1
  split
  · simp only [List.length_append, List.length_cons, List.length_nil]; omega
  · split <;> simp <;> omega
theorem mi_le (t : List Int) : mi t ≤ 1 := by unfold mi; split <;> omega
theorem mlay_len : ∀ (k : Nat) (xs : List Int), xs.length ≤ k → (mlay xs).1.length ≤ 11 * xs.length ∧ (mlay xs).2 ≤ xs.length
  | _, [], _ => by rw [mlay_nil]; simp
  | 0, c :: r, h => by simp at h
  | k + 1, c :: r, h => by
    have h1 := mk1_pos (c :: r)
    have h2 := mk1_le c r
    have h3 := mo_len c r
    have h4 := mi_le (c :: r)
    have ih := mlay_len k ((c :: r).drop (mk1 (c :: r))) (by rw [List.length_drop]; simp only [List.length_cons] at *; omega)
    rw [List.length_drop] at ih
    rw [mlay_cons, List.length_append]
    simp only
    omega
/-- How many digits stand ahead. -/
def ml : List Int → Nat
  | [] => 0
  | c :: r => if 0 ≤ mv c then ml r + 1 else 0
theorem ml_le : ∀ r : List Int, ml r ≤ r.length
  | [] => Nat.le_refl _
  | c :: r => by
    have := ml_le r
    rw [ml]; split <;> simp <;> omega
theorem ml_all : ∀ r : List Int, allM (r.take (ml r)) = true
  | [] => rfl
  | c :: r => by
    rw [ml]; split
    · rename_i h
      have := ml_all r
      rw [allM] at this ⊢
      rw [List.take_succ_cons, List.all_cons, this, decide_eq_true h]; rfl
    · rfl
theorem ml_in : ∀ (r : List Int) (k : Nat), k < ml r → ∃ c, r[k]? = some c ∧ 0 ≤ mv c
  | [], k, h => by simp [ml] at h
  | c :: r, k, h => by
    rw [ml] at h
    split at h
    · rename_i hc
      cases k with
      | zero => exact ⟨c, rfl, hc⟩
      | succ k => rw [List.getElem?_cons_succ]; exact ml_in r k (by omega)
    · omega
theorem ml_out : ∀ (r : List Int) (c : Int), r[ml r]? = some c → mv c < 0
  | [], c, h => by simp [ml] at h
  | x :: r, c, h => by
    rw [ml] at h
    split at h
    · rw [List.getElem?_cons_succ] at h; exact ml_out r c h
    · simp at h; subst h; omega
theorem ml_app : ∀ (d r : List Int), (∀ c ∈ d, 0 ≤ mv c) → (∀ c, r[0]? = some c → mv c < 0) → ml (d ++ r) = d.length
  | [], [], _, _ => rfl
  | [], x :: r, _, h => by
    have := h x rfl
    rw [List.nil_append, ml, if_neg (by omega)]; rfl
  | c :: d, r, h, hr => by
    have h1 := h c List.mem_cons_self
    have ih := ml_app d r (fun x hx => h x (List.mem_cons_of_mem _ hx)) hr
    rw [List.cons_append, ml, if_pos h1, ih]; rfl
/-- The signs of a run's digits, and one for what is left over. -/
def mwhole (d : List Int) : List Int := (sread (43 :: usuL d)).1
/-- How many octets are taken behind the first; what is read; whether it is right. -/
def msn (c : Int) (r : List Int) : Nat := if c = 38 then (if r[ml r]? = some 45 then ml r + 1 else ml r) else 0
def msout (c : Int) (r : List Int) : List Int :=
  if mdirB c then [c] else if c = 38 then (if ml r = 0 then (if r[0]? = some 45 then [38] else [65533]) else mwhole (r.take (ml r))) else [65533]
def mwr (c : Int) (r : List Int) : Bool :=
  if mdirB c then true else if c = 38 then (if ml r = 0 then decide (r[0]? = some 45) else runR (usuL (r.take (ml r))) && decide (r[ml r]? = some 45)) else false
def mread : List Int → List Int × Bool
  | [] => ([], true)
  | c :: r => (msout c r ++ (mread (r.drop (msn c r))).1, mwr c r && (mread (r.drop (msn c r))).2)
termination_by l => l.length
decreasing_by all_goals (simp only [List.length_drop, List.length_cons]; omega)
theorem mread_nil : mread [] = ([], true) := by rw [mread]
theorem mread_cons (c : Int) (r : List Int) : mread (c :: r) = (msout c r ++ (mread (r.drop (msn c r))).1, mwr c r && (mread (r.drop (msn c r))).2) := by rw [mread]
theorem mread_at {xs : List Int} {p : Nat} {c : Int} (h : xs[p]? = some c) :
    mread (xs.drop p) = (msout c (xs.drop (p + 1)) ++ (mread (xs.drop (p + 1 + msn c (xs.drop (p + 1))))).1, mwr c (xs.drop (p + 1)) && (mread (xs.drop (p + 1 + msn c (xs.drop (p + 1))))).2) := by
  obtain ⟨k1, k2⟩ := List.getElem?_eq_some_iff.1 h
  rw [List.drop_eq_getElem_cons k1, k2, mread_cons, List.drop_drop]
theorem msn_le (c : Int) (r : List Int) : msn c r ≤ r.length := by
  have h1 := ml_le r
  unfold msn
  split
  · split
    · rename_i h2
      have := (List.getElem?_eq_some_iff.1 h2).1
      omega
    · exact h1
  · exact Nat.zero_le _
end Go.Proofs.Ytbpjgmiedplidaa
namespace Go.Proofs.Ytbpjgmiedplidaa
def mpls : List Int → Nat → List Nat
  | [], _ => []
  | c :: r, o => o :: mpls (r.drop (mk1 (c :: r) - 1)) (o + mk1 (c :: r))
termination_by l => l.length
decreasing_by all_goals (simp only [List.length_drop, List.length_cons]; omega)
theorem mpls_nil (o : Nat) : mpls [] o = [] := by rw [mpls]
theorem mpls_cons (c : Int) (r : List Int) (o : Nat) : mpls (c :: r) o = o :: mpls ((c :: r).drop (mk1 (c :: r))) (o + mk1 (c :: r)) := by
  rw [mpls]
  conv => rhs; rw [← mk1_eq (c :: r), List.drop_succ_cons]
  rw [mk1_eq]
theorem mpls_at {xs : List Int} {p : Nat} (h : p < xs.length) : mpls (xs.drop p) p = p :: mpls (xs.drop (p + mk1 (xs.drop p))) (p + mk1 (xs.drop p)) := by
  rw [← List.drop_drop]
  generalize hx : xs.drop p = t
  cases t with
  | nil => have := congrArg List.length hx; rw [List.length_drop] at this; simp at this; omega
  | cons c r => exact mpls_cons c r p
def mo2 : List Int → List Int
  | [] => []
  | c :: r => mo c r
theorem mpls_out : ∀ (k : Nat) (t xs : List Int) (o : Nat), t.length ≤ k → xs.drop o = t →
    (mpls t o).flatMap (fun p => mo2 (xs.drop p)) = (mlay t).1 ∧ ((mpls t o).map (fun p => mi (xs.drop p))).sum = (mlay t).2
  | _, [], xs, o, _, _ => by rw [mpls_nil, mlay_nil]; exact ⟨rfl, rfl⟩
  | 0, c :: r, xs, o, h, _ => by simp at h
  | k + 1, c :: r, xs, o, h, hx => by
    have h1 := mk1_pos (c :: r)
    have ih := mpls_out k ((c :: r).drop (mk1 (c :: r))) xs (o + mk1 (c :: r)) (by rw [List.length_drop]; simp only [List.length_cons] at *; omega) (by rw [← List.drop_drop, hx])
    rw [mpls_cons, mlay_cons, List.flatMap_cons, List.map_cons, List.sum_cons, ih.1, ih.2, hx]
    exact ⟨rfl, rfl⟩
theorem mo2_len (t : List Int) : (mo2 t).length ≤ 11 * t.length := by
  cases t with
  | nil => simp [mo2]
  | cons c r =>
    have h1 := mo_len c r
    have h2 := mk1_le c r
    show (mo c r).length ≤ _
    omega
theorem flat_le {α : Type} (f : α → List Int) (c : Nat) (h : ∀ x, (f x).length ≤ c) (l : List α) : (l.flatMap f).length ≤ l.length * c := by
  induction l with
  | nil => simp
  | cons x r ih => rw [List.flatMap_cons, List.length_append, List.length_cons, Nat.add_mul, Nat.one_mul]; have := h x; omega
theorem sum_le {α : Type} (f : α → Nat) (h : ∀ x, f x ≤ 1) (l : List α) : (l.map f).sum ≤ l.length := by
  induction l with
  | nil => simp
  | cons x r ih => rw [List.map_cons, List.sum_cons, List.length_cons]; have := h x; omega
end Go.Proofs.Ytbpjgmiedplidaa
