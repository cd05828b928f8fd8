/- Walks: UTF-8, taking one sign. · Walks: UTF-8, the reference's taking; subparts; the statements' own example. · Walks: UTF-8, texts: laying, lengths, the reference's reading. · Walks: UTF-8, texts: going through the signs by a closure. · Walks: codecs, by the program. (laid together by program out of single texts). -/
import Derived.Test.YtponfaglflmnkaaDoorM2
import Derived.Test.YtponfaglflmnkaaDoorM3
import Derived.Test.YtponfaglflmnkaaDoorM5
import Derived.Test.YtponfaglflmnkaaDoorM6
namespace Go.Proofs.YtponfaglflmnkaaDoor
open Go.RowKit
set_option maxHeartbeats 1000000

theorem far_N {a : Int} {r : List Int} (h : wideI a ≠ 0) : far (a :: r) = farL a 1 r := by simp [far, h]
set_option maxRecDepth 100000 in
theorem oTake_any (v : Value) (xs : List Int) (w : World) (h : Row w v (ints .u8 xs)) (hg : Rg 0 256 xs) (hl : xs.length ≤ 1000000) :
    Calls Tryd.prog 54 #[v] w fun e w' => e = .returned (.tuple #[.int .i32 (takeR xs).1, .int .i64 (takeR xs).2.1, .int .i64 (takeR xs).2.2]) ∧ Below w.heap.size w w' := by
  cases xs with
  | nil =>
    obtain ⟨ad, b, off, cap, rfl, HC⟩ := h.op
    go_enter Tryd.func54, Tryd.ntmps54
    go_wp2
    go_ret3
    exact ⟨rfl, Below.refl _ _⟩
  | cons a r =>
    have hfar := fun w' h' => ofar_any v a r w' h' hg hl
    obtain ⟨ad, b, off, cap, rfl, HC⟩ := id h.op
    obtain ⟨⟨ha0, ha1⟩, hg'⟩ := hg.cons
    obtain ⟨a', HA, rfl, hca⟩ := HC.out 0 (by simp)
    obtain rfl : a = a' := by simpa using HA.out
    have HCA := Lib.hid hca; clear hca HA
    have hst := fun w => oStarts_any a w ha0 ha1
    have hfb := farL_bounds a r 1
    have hand := andNot_lead ha0 ha1
    have hle := fun w => olead_any (wideI a) w
    have hok := farL_ok a r 1 (Nat.le_refl _)
    have hwr := wideI_rng a
    by_cases hw0 : wideI a = 0
    · rw [takeR_bad hw0]
      rw [show far (a :: r) = 0 by simp [far, hw0]] at hfar
      have HF := Lib.hid hfar; clear hfar hst hw0 hle hok hand hfb hwr
      go_enter Tryd.func54, Tryd.ntmps54
      go_wp2_with (go_at_call 70; refine (HF.out _ h).mono ?_; rintro e w' ⟨rfl, hb1⟩)
      go_ret3
      exact ⟨rfl, hb1⟩
    · rw [far_N hw0] at hfar
      by_cases hN : (farL a 1 r : Int) = wideI a
      · rw [takeR_ok hw0 hN]
        rcases hand with hh | ⟨hand, hd0, hd1, hd2⟩
        · exact absurd hh hw0
        rw [← hN] at hle hand hst
        generalize hn : farL a 1 r = n at *
        generalize hq : wideI a = q at *
        generalize hL : leadI q = ld at *
        rw [← hN] at hL
        rw [hL] at hand hle
        have hn1 := hfb.1
        have hn2 := hfb.2.1
        have hn4 : n ≤ 4 := by omega
        have hb0 : (0 : Int) ≤ (n : Int) := by omega
        have hz0 : ((n : Int) == 0) = false := by rw [beq_eq_false_iff_ne]; omega
        have hlt : ¬ ((n : Int) < (n : Int)) := by omega
        obtain ⟨c0, hc0e⟩ : ∃ c0, a - ld = c0 := ⟨_, rfl⟩
        rw [hc0e] at hand hd0 hd1 ⊢
        clear hc0e
        have HF := Lib.hid hfar; have HS := Lib.hid hst; have HLD := Lib.hid hle; have HAND := Lib.hid hand; have HOK := Lib.hid hok
        clear hfar hst hle hand hok hfb hN hq hL hn hw0 hwr
        obtain ⟨rs, hrs⟩ : ∃ rs, r.take (n - 1) = rs := ⟨_, rfl⟩
        have hrl : rs.length = n - 1 := by rw [← hrs, List.length_take]; omega
        have hsub : ((ints .u8 (a :: r)).take ((n : Int).toNat)).drop ((1 : Int).toNat) = ints .u8 rs := by
          rw [← hrs, Int.toNat_natCast, show ((1 : Int).toNat) = 1 from rfl, ints_take, ints_drop]
          obtain ⟨m, rfl⟩ : ∃ m, n = m + 1 := ⟨n - 1, by omega⟩
          simp
        have HRS := Lib.hid hrs; have HRL := Lib.hid hrl; have HSUB := Lib.hid hsub
        have hok2 : Hid (∀ y ∈ rs, folB y = true) := by rw [← HRS.out]; exact HOK.out
        rw [HRS.out]
        clear hrs hrl hsub
        go_enter Tryd.func54, Tryd.ntmps54
        go_wp2_with (first | (go_at_call 70; refine (HF.out _ h).mono ?_; rintro e w1 ⟨rfl, hb1⟩; have hc0 : w1.cell? ⟨b, off, none⟩ = some (.int .u8 a) := by simpa using HCA.out w1 hb1) | (go_at_call 71; refine (HS.out _).mono ?_; rintro e w' ⟨rfl, rfl⟩))
        have hwi : IntKind.i32.wrap c0 = c0 := IntWalk.i32_in _ (by omega)
        have hand := HAND.out
        go_quiet ((go_at_call 58; exact quiet_same (HLD.out _)))
        clear hand hwi
        have hb2 := below_drewN hb1 nq
        generalize w1.drewN nq = w2 at *
        have hv0 : Hid (0 ≤ c0 ∧ c0 < 128) := ⟨hd0, hd1⟩
        have hn1' : (1 : Int) ≤ (n : Int) := by omega
        have hn2' : (n : Int) ≤ (r.length : Int) + 1 := by omega
        go_wp2_with (refine wpList_slLH slT_u8 _ _ _ rfl rfl rfl rfl rfl (h.below hb2) (by omega) (by omega) (by simp [ints]; omega) ?_; intro v2 hv2; have r2 := hv2 w h; rw [HSUB.out] at r2; obtain ⟨a2, b2, o2, c2, rfl, HC2⟩ := r2.op; clear hv2 r2)
        have hrl3 : rs.length ≤ 3 := by have := HRL.out; omega
        go_loopw [6, 50] (fun c i wr => ∃ k : Nat, i = .int .i64 k ∧ k ≤ rs.length ∧ c = .int .i32 (valL c0 (rs.take k)) ∧ Hid (0 ≤ valL c0 (rs.take k) ∧ valL c0 (rs.take k) < bnd k) ∧ wr = w2) (fun _ i _ => rs.length - (intOf i).toNat)
        case atStart => exact ⟨0, rfl, Nat.zero_le _, rfl, by simp [valL]; exact ⟨hv0.out.1, hv0.out.2⟩, rfl⟩
        case round =>
          obtain ⟨k, rfl, hk, rfl, hv, rfl⟩ := hrel
          by_cases hlt : k < rs.length
          · obtain ⟨y, HY, rfl, hcy⟩ := HC2.out k hlt
            replace hcy := hcy wr hb2
            have hfy := hok2.out y (List.mem_of_getElem? HY.out)
            have hyb := folB_iff.1 hfy
            have hval : valL c0 (rs.take (k + 1)) = 64 * valL c0 (rs.take k) + (y - 128) := by
              rw [List.take_add_one, HY.out]; exact valL_snoc _ _ _
            have hbs := bnd_succ (k := k) (by have := HRL.out; omega) hv.out.1 hv.out.2 hfy
            rw [← hval] at hbs
            have hle := bnd_le k
            obtain ⟨m, hm⟩ : ∃ m, valL c0 (rs.take k) = m := ⟨_, rfl⟩
            rw [hm] at hv hval ⊢
            have hvo := hv.out
            have HV := Lib.hid hval; have HB := Lib.hid hbs
            have hm0 : 0 ≤ m := hvo.1
            have hm1 : m < 33554432 := by omega
            clear hval hbs hm hvo hle hv hfy
            go_wp2
            go_roundw
            case rel => exact ⟨k + 1, by go_num, by omega, iv (by rw [HV.out]; omega), HB.out, (by first | rfl | trivial)⟩
            case measure => simp [intOf]; omega
          · have hv1 : valL c0 (rs.take k) = valL c0 rs := by rw [List.take_of_length_le (by omega)]
            have HV := Lib.hid hv1; clear hv1
            go_wp2
            go_ret3
            exact ⟨ret3 (iv HV.out) rfl rfl, hb2⟩
      · have hfq := hfb.2.2 (by omega)
        by_cases hE : farL a 1 r = r.length + 1
        · rw [takeR_end hw0 hN hE]
          generalize hn : farL a 1 r = n at *
          generalize hq : wideI a = q at *
          have hlt : (n : Int) < q := by omega
          have hz0 : ((n : Int) == 0) = false := by rw [beq_eq_false_iff_ne]; omega
          have he : ((n : Int) == (r.length : Int) + 1) = true := by rw [beq_iff_eq]; omega
          have HF := Lib.hid hfar; have HS := Lib.hid hst
          clear hfar hst hle hand hok hfb hN hq hn hw0 hwr hE
          go_enter Tryd.func54, Tryd.ntmps54
          go_wp2_with (first | (go_at_call 70; refine (HF.out _ h).mono ?_; rintro e w1 ⟨rfl, hb1⟩; have hc0 : w1.cell? ⟨b, off, none⟩ = some (.int .u8 a) := by simpa using HCA.out w1 hb1) | (go_at_call 71; refine (HS.out _).mono ?_; rintro e w' ⟨rfl, rfl⟩))
          go_ret3
          exact ⟨rfl, hb1⟩
        · rw [takeR_form hw0 hN hE]
          generalize hn : farL a 1 r = n at *
          generalize hq : wideI a = q at *
          have hlt : (n : Int) < q := by omega
          have hz0 : ((n : Int) == 0) = false := by rw [beq_eq_false_iff_ne]; omega
          have he : ((n : Int) == (r.length : Int) + 1) = false := by rw [beq_eq_false_iff_ne]; omega
          have HF := Lib.hid hfar; have HS := Lib.hid hst
          clear hfar hst hle hand hok hfb hN hq hn hw0 hwr hE
          go_enter Tryd.func54, Tryd.ntmps54
          go_wp2_with (first | (go_at_call 70; refine (HF.out _ h).mono ?_; rintro e w1 ⟨rfl, hb1⟩; have hc0 : w1.cell? ⟨b, off, none⟩ = some (.int .u8 a) := by simpa using HCA.out w1 hb1) | (go_at_call 71; refine (HS.out _).mono ?_; rintro e w' ⟨rfl, rfl⟩))
          go_ret3
          exact ⟨rfl, hb1⟩
end Go.Proofs.YtponfaglflmnkaaDoor
namespace Go.Proofs.YtponfaglflmnkaaDoor
open Go.RowKit
set_option maxHeartbeats 1000000

def subR (t : Int × Int × Int) : Int := if t.2.2 = 0 then 0 else t.2.1
end Go.Proofs.YtponfaglflmnkaaDoor
namespace Go.Proofs.YtponfaglflmnkaaDoor
open Go.RowKit
set_option maxHeartbeats 1000000

/-- A text laid, or the error. -/
def elayR (xs : List Int) : List Int × Int := if allSc xs then (elay xs, 0) else ([], 7)
theorem eLay_any (v : Value) (xs : List Int) (w : World) (h : Row w v (ints .i32 xs)) (hr : R32 xs) (hl : xs.length ≤ 1000000) :
    Calls Tryd.prog 24 #[v] w fun e w' => ∃ t, e = .returned (.tuple #[t, .int .i64 (elayR xs).2]) ∧ Own w.heap.size 5 w' t (ints .u8 (elayR xs).1) ∧ Below w.heap.size w w' := by
  by_cases ha : allSc xs = true
  · rw [show elayR xs = (elay xs, 0) by rw [elayR, if_pos ha]]
    have hsc : ∀ x ∈ xs, scB x = true := List.all_eq_true.1 ha
    have HSC := Lib.hid hsc; clear hsc
    obtain ⟨a, b, off, cap, rfl, HC⟩ := id h.op
    go_enter Tryd.func24, Tryd.ntmps24
    go_wp2_with (go_at_call 38; refine (right_any _ _ _ h hr (by omega)).mono ?_; rintro e w' ⟨rfl, rfl⟩)
    clear h ha
    go_loopw [4, 14] (fun u i wr => ∃ k : Nat, i = .int .i64 k ∧ k ≤ xs.length ∧ Own w.heap.size 5 wr u (ints .u8 (elay (xs.take k))) ∧ Below w.heap.size w wr) (fun _ i _ => xs.length - (intOf i).toNat)
    case atStart => exact ⟨0, rfl, Nat.zero_le _, Own.nil _ _ _, Below.refl _ _⟩
    case round =>
      obtain ⟨k, rfl, hk, hown, hb⟩ := hrel
      by_cases hlt : k < xs.length
      · obtain ⟨x, HX, rfl, hc⟩ := HC.out k hlt
        replace hc := hc wr hb
        have hxr := hr.get HX.out
        have HU := Lib.hid (elay_snoc HX.out)
        have hput := fun w => oPut_any _ [] x w (Row.nil w) (by simp) hxr.1 hxr.2
        rw [show putR [] x = (octs x, 0) by rw [putR, if_pos (HSC.out x (List.mem_of_getElem? HX.out))]; rfl] at hput
        have HPUT := Lib.hid hput; clear hput
        have HLb : Hid ((ints .u8 (elay (xs.take k))).length + (ints .u8 (octs x)).length ≤ 1000000000) := by
          have h1 := elay_len (xs.take k); have h2 := octs_len4 x; rw [List.length_take] at h1; show _ ≤ _; simp only [ints_length]; omega
        go_wp2_with (first | (go_at_call 39; refine (HPUT.out _).mono ?_; rintro e' w1 ⟨v2, rfl, ho1, hb1⟩) | (at_builtin; refine wpList_app slT_u8 _ _ _ rfl rfl rfl rfl (hown.below hb1) ho1.row HLb.out (below_size2 hb hb1) ?_; intro t2 w2 hown2 hg2))
        go_roundw
        case rel => exact ⟨k + 1, by go_num, by omega, by rw [HU.out, ints_append]; exact hown2, below_app hb hb1 (hown.below hb1) hg2⟩
        case measure => simp [intOf]; omega
      · go_wp2
        go_ret2
        rw [List.take_of_length_le (by omega)] at hown
        exact ⟨_, rfl, hown, hb⟩
  · rw [show elayR xs = ([], 7) by rw [elayR, if_neg ha]]
    replace ha : allSc xs = false := by simpa using ha
    go_enter Tryd.func24, Tryd.ntmps24
    go_wp2_with (go_at_call 38; refine (right_any _ _ _ h hr (by omega)).mono ?_; rintro e w' ⟨rfl, rfl⟩)
    go_ret2
    exact ⟨_, rfl, Own.nil _ _ _, Below.refl _ _⟩
theorem elen_rng (xs : List Int) : 0 ≤ elen xs ∧ elen xs ≤ 4 * xs.length := by
  rw [elen_eq]; have := elay_len xs; omega
/-- What the reference's loop keeps. -/
def EU (w : World) (xs : List Int) (t n f i : Value) (wr : World) : Prop :=
  ∃ (ps : List (Int × Int)) (k : Nat) (q : Int), i = .int .i64 k ∧ k ≤ xs.length ∧ Hid (eread xs = ps ++ eread (xs.drop k)) ∧ ps.length ≤ k ∧
    Own w.heap.size 21 wr t (ints .i32 (ps.map rd)) ∧ n = .int .i64 ((ps.filter bad).length : Nat) ∧ f = .int .i64 q ∧ Hid (ferr (ps.map Prod.snd) = q) ∧ Below w.heap.size w wr
theorem EU_step {w : World} {xs : List Int} {ps : List (Int × Int)} {k n : Nat} {q q' c e m : Int} {t2 : Value} {w2 : World}
    (HP : Hid (eread xs = ps ++ eread (xs.drop k))) (HU : eread (xs.drop k) = (c, e) :: eread ((xs.drop k).drop n)) (hlen : ps.length ≤ k) (hk : k + n ≤ xs.length) (hn : 1 ≤ n)
    (hown2 : Own w.heap.size 21 w2 t2 (ints .i32 (ps.map rd) ++ ints .i32 [rd (c, e)])) (hb2 : Below w.heap.size w w2) (HQ : Hid (ferr (ps.map Prod.snd) = q)) (hq : q' = if q = 0 then e else q)
    (hm : m = ((ps.filter bad).length : Nat) + (if e = 0 then 0 else 1)) {j : Int} (hj : j = ((k + n : Nat) : Int)) :
    EU w xs t2 (.int .i64 m) (.int .i64 q') (.int .i64 j) w2 := by
  refine ⟨ps ++ [(c, e)], k + n, q', by rw [hj], hk, ?_, by simp; omega, by rw [List.map_append, ints_append]; exact hown2, ?_, rfl, ?_, hb2⟩
  · show _ = _
    rw [HP.out, HU, List.drop_drop, List.append_assoc]; rfl
  · rw [hm, List.filter_append]
    congr 1
    by_cases he : e = 0
    · subst he
      have hb : List.filter bad [(c, 0)] = [] := rfl
      rw [hb]; simp
    · have hb : bad (c, e) = true := by simpa [bad] using he
      rw [List.filter_cons, if_pos hb]; simp [he]
  · show _ = _
    rw [List.map_append, List.map_cons, List.map_nil, ferr_snoc, HQ.out, hq]
end Go.Proofs.YtponfaglflmnkaaDoor
namespace Go.Proofs.YtponfaglflmnkaaDoor
open Go.RowKit
set_option maxHeartbeats 1000000

/-- Going through the signs: whatever the closure keeps. w0: the world ahead of the variable that the closure captures. -/
theorem each_any (f : Nat) (hf : Fnc f) (cap : Array Value) (w0 : World) (I : List (Int × Int) → World → Prop)
    (hB : ∀ ps w', I ps w' → Below w0.heap.size w0 w') (hS : ∀ ps w' w'', I ps w' → Below w'.heap.size w' w'' → I ps w'')
    (hI : ∀ ps c e w', I ps w' → -2147483648 ≤ c → c ≤ 2147483647 → ps.length < 1000000 → Calls Tryd.prog f (#[.int .i32 c, .int .i64 e] ++ cap) w' fun en w'' => en = .returned (.tuple #[]) ∧ I (ps ++ [(c, e)]) w'')
    (v : Value) (xs : List Int) (w : World) (h : Row w0 v (ints .u8 xs)) (hg : Rg 0 256 xs) (hl : xs.length ≤ 1000000) (h0 : I [] w) :
    Calls Tryd.prog 35 #[v, .func (Fn.func f) #[] cap] w fun e w' => e = .returned (.tuple #[]) ∧ I (eread xs) w' := by
  have HB := Lib.hid hB; have HS := Lib.hid hS; have HI := Lib.hid hI; clear hB hS hI
  unfold Fnc at hf
  go_enter Tryd.func35, Tryd.ntmps35
  go_wp2
  go_loopw [0] (fun u wr => ∃ ps rest, Row w0 u (ints .u8 rest) ∧ Rg 0 256 rest ∧ Hid (eread xs = ps ++ eread rest) ∧ Hid (ps.length + rest.length ≤ xs.length) ∧ I ps wr) (fun u _ => lenOf u)
  case atStart => exact ⟨[], xs, h, hg, rfl, (by simp : ([] : List (Int × Int)).length + xs.length ≤ xs.length), h0⟩
  case round =>
    clear h hg h0
    obtain ⟨ps, rest, hrow, hgr, HP, HL, hinv⟩ := hrel
    cases rest with
    | nil =>
      obtain ⟨a, b, off, cp, rfl, HC⟩ := hrow.op
      go_wp2
      go_end0
      rw [eread_nil, List.append_nil] at HP
      exact ⟨rfl, by rw [HP.out]; exact hinv⟩
    | cons x r =>
      obtain ⟨a, b, off, cp, rfl, _⟩ := id hrow.op
      have hT := fun v w' h' => oTake_any v (x :: r) w' h' hgr (by have := HL.out; omega)
      have hcons := eread_cons x r
      have hpos := takeR_pos x r
      have hle := (takeR_n (x :: r)).2.1
      have h32 := takeR_32 hgr
      generalize takeR (x :: r) = tk at *
      obtain ⟨c, n, e⟩ := tk
      simp only [List.length_cons] at hT hcons hpos hle h32
      have HT := Lib.hid hT; have HU := Lib.hid hcons
      have hle' : n ≤ (r.length : Int) + 1 := by omega
      clear hT hcons hle
      have hb := HB.out _ _ hinv
      have HINV := Lib.hid hinv; clear hinv
      go_wp2_with fail
      refine (HT.out _ _ (hrow.below hb)).mono ?_
      rintro e' w1 ⟨rfl, hb1⟩
      have HINV1 := Lib.hid (HS.out _ _ _ HINV.out hb1)
      go_wp2_with fail
      refine (HI.out ps c e w1 HINV1.out h32.1 h32.2 (by have := HL.out; simp at this; omega)).mono ?_
      rintro e' w2 ⟨rfl, hinv2⟩
      have hb2 := HB.out _ _ hinv2
      have HINV2 := Lib.hid hinv2; clear hinv2
      go_wp2_with (refine wpList_slL slT_u8 _ _ rfl rfl rfl rfl (hrow.below hb2) (by omega) (by simp [ints]; omega) ?_; intro u2 hu2)
      have r2 := hu2 _ hrow
      go_roundw
      case rel =>
        refine ⟨ps ++ [(c, e)], (x :: r).drop n.toNat, by rw [← ints_drop]; exact r2, hgr.drop _, ?_, ?_, HINV2.out⟩
        · show _ = _
          rw [HP.out, HU.out, List.append_assoc]; rfl
        · have := HL.out
          show _ ≤ _
          simp only [List.length_append, List.length_drop, List.length_cons, List.length_nil] at this ⊢; omega
      case measure => rw [r2.len]; simp [lenOf, ints]; omega

/-- A captured list of signs: what the cell at block b holds. -/
def TI (w0 : World) (b : Nat) (ys : List Int) (w' : World) : Prop :=
  ∃ tv, w'.heap[b]? = some (.cells #[tv] 22 (0, 0)) ∧ Own (b + 1) 21 w' tv (ints .i32 ys) ∧ Below w0.heap.size w0 w' ∧ w0.heap.size ≤ b
theorem TI.stay {w0 : World} {b : Nat} {ys : List Int} {w' w'' : World} (h : TI w0 b ys w') (hb : Below w'.heap.size w' w'') : TI w0 b ys w'' := by
  obtain ⟨tv, h1, h2, h3, h4⟩ := h
  exact ⟨tv, by rw [hb.block b (lt_of_block h1)]; exact h1, h2.below hb, below_trans h3 hb, h4⟩
/-- A captured number. -/
def NI (w0 : World) (b : Nat) (T : TypeId) (n : Int) (w' : World) : Prop :=
  w'.heap[b]? = some (.cells #[.int .i64 n] T (0, 0)) ∧ Below w0.heap.size w0 w' ∧ w0.heap.size ≤ b
theorem NI.stay {w0 : World} {b : Nat} {T : TypeId} {n : Int} {w' w'' : World} (h : NI w0 b T n w') (hb : Below w'.heap.size w' w'') : NI w0 b T n w'' := by
  obtain ⟨h1, h3, h4⟩ := h
  exact ⟨by rw [hb.block b (lt_of_block h1)]; exact h1, below_trans h3 hb, h4⟩
theorem NI.set {w0 : World} {b : Nat} {T : TypeId} {n m : Int} {w' : World} (h : NI w0 b T n w') : NI w0 b T m (w'.setCell ⟨b, 0, none⟩ (.int .i64 m)) := by
  obtain ⟨h1, h3, h4⟩ := h
  exact ⟨one_setCell h1, h3.setCell h4 _, h4⟩

/-- A step of an append to a captured list. -/
theorem TI.step {w0 : World} {b : Nat} {ys : List Int} {c : Int} {w w2 : World} {tv t2 : Value} (h1 : w.heap[b]? = some (.cells #[tv] 22 (0, 0))) (hown : Own (b + 1) 21 w tv (ints .i32 ys)) (hb : Below w0.heap.size w0 w) (h4 : w0.heap.size ≤ b)
    (o : Obj) (hown2 : Own (b + 1) 21 w2 t2 (ints .i32 ys ++ ints .i32 [c])) (hg2 : (w.alloc o).grownBy w2 tv.ownBlock) :
    w2.cell? ⟨b, 0, none⟩ = some tv ∧ w2.frozen? ⟨b, 0, none⟩ = false ∧ TI w0 b (ys ++ [c]) (w2.setCell ⟨b, 0, none⟩ t2) := by
  have hlt := lt_of_block h1
  have hne : some b ≠ tv.ownBlock := by
    intro he
    have := (hown.1.lt b he.symm).1
    omega
  have h2 : w2.heap[b]? = some (.cells #[tv] 22 (0, 0)) := by
    rw [hg2.block b (by simp; omega) hne, Below.heap_alloc w o b hlt]; exact h1
  have hbw : Below w0.heap.size w0 w2 := below_own (hb.alloc hb.size o) (hown.alloc o) hg2 (by have := hb.size; simp; omega) (by omega)
  refine ⟨cell_of_one h2, free_of_one h2, t2, one_setCell h2, ⟨ownsRow_setCell_below (by rw [ints_append]; exact hown2.1) (Nat.lt_succ_self b) t2, by rw [ints_append]; exact hown2.2⟩, hbw.setCell h4 _, h4⟩
theorem read1_any (w0 : World) (b : Nat) (ys : List Int) (c e : Int) (w : World) (h : TI w0 b ys w) (hl : ys.length ≤ 1000000) :
    Calls Tryd.prog 36 #[.int .i32 c, .int .i64 e, .pointer (some ⟨b, 0, none⟩)] w fun en w' => en = .returned (.tuple #[]) ∧ TI w0 b (ys ++ [rd (c, e)]) w' := by
  obtain ⟨tv, h1, hown, hb, h4⟩ := h
  have hc := cell_of_one h1
  have hfz := free_of_one h1
  have hlt := lt_of_block h1
  have H1 := Lib.hid h1
  clear h1
  by_cases he : e = 0
  · rw [show rd (c, e) = c by simp [rd, he]]
    have he' : (e != 0) = false := by simpa using he
    clear he
    go_enter Tryd.func36, Tryd.ntmps36
    go_wp2_with (at_builtin; refine wpList_app slT_i32 _ _ _ rfl rfl rfl rfl (hown.alloc _) (Row.ilit [_] [_] rfl (by simp)) (by simp [ints]; omega) (by simp; omega) ?_; intro t2 w2 hown2 hg2; obtain ⟨hc2, hf2, HT⟩ := TI.step H1.out hown hb h4 _ hown2 hg2; replace HT := Lib.hid HT; clear hc hfz; obtain ⟨a9, b9, o9, c9, rfl, _⟩ := hown2.row)
    go_end0
    exact ⟨rfl, by have h := HT.out; rw [List.length_append] at h; exact h⟩
  · rw [show rd (c, e) = 65533 by simp [rd, he]]
    have he' : (e != 0) = true := by simpa using he
    clear he
    go_enter Tryd.func36, Tryd.ntmps36
    go_wp2_with (at_builtin; refine wpList_app slT_i32 _ _ _ rfl rfl rfl rfl (hown.alloc _) (Row.ilit [_] [_] rfl (by simp)) (by simp [ints]; omega) (by simp; omega) ?_; intro t2 w2 hown2 hg2; obtain ⟨hc2, hf2, HT⟩ := TI.step H1.out hown hb h4 _ hown2 hg2; replace HT := Lib.hid HT; clear hc hfz; obtain ⟨a9, b9, o9, c9, rfl, _⟩ := hown2.row)
    go_end0
    exact ⟨rfl, by have h := HT.out; rw [List.length_append] at h; exact h⟩
theorem read1_fnc : Fnc 36 := fun args w => by kernel_rfl
theorem TI.new (w : World) : TI w w.heap.size [] (w.alloc (.cells #[.slice none 0 0] 22)) :=
  ⟨_, heap_alloc_new w _, Own.nil _ _ _, below_alloc _ _, Nat.le_refl _⟩
theorem NI.new (w : World) (T : TypeId) (n : Int) : NI w w.heap.size T n (w.alloc (.cells #[.int .i64 n] T)) :=
  ⟨heap_alloc_new w _, below_alloc _ _, Nat.le_refl _⟩
theorem eRead_any (v : Value) (xs : List Int) (w : World) (h : Row w v (ints .u8 xs)) (hg : Rg 0 256 xs) (hl : xs.length ≤ 1000000) :
    Calls Tryd.prog 19 #[v] w fun e w' => ∃ t, e = .returned t ∧ Own w.heap.size 21 w' t (ints .i32 (etext xs)) ∧ Below w.heap.size w w' := by
  have hmf : ∀ (fn : Fn) (first cap : Array Value) (w : World), (Instr.makeFunc fn first cap).run Tryd.prog w = .ok (.func fn first cap) w := fun _ _ _ _ => rfl
  go_enter Tryd.func19, Tryd.ntmps19
  go_wp2_with fail
  refine (each_any _ read1_fnc #[.pointer (some ⟨w.heap.size, 0, none⟩)] w (fun ps w' => TI w w.heap.size (ps.map rd) w') (fun ps w' ⟨_, _, _, h, _⟩ => h) ?_ ?_ v xs _ h hg hl (TI.new w)).mono ?_
  · intro ps w' w'' h hb; exact h.stay hb
  · intro ps c e w' h h1 h2 h3
    refine (read1_any w w.heap.size (ps.map rd) c e w' h (by simp; omega)).mono ?_
    rintro en w'' ⟨rfl, h⟩
    exact ⟨rfl, by rw [List.map_append]; exact h⟩
  · rintro e w1 ⟨rfl, tv, h1, hown, hb, _⟩
    have hc := cell_of_one h1
    clear h1
    go_wp2
    go_ret
    exact ⟨_, rfl, hown.mono (by omega), hb⟩
theorem ebad_snoc (ps : List (Int × Int)) (c e : Int) : (((ps ++ [(c, e)]).filter bad).length : Int) = (ps.filter bad).length + if e = 0 then 0 else 1 := by
  rw [List.filter_append]
  by_cases he : e = 0
  · subst he
    have hb : List.filter bad [(c, 0)] = [] := rfl
    rw [hb]; simp
  · have hb : bad (c, e) = true := by simpa [bad] using he
    rw [List.filter_cons, if_pos hb]; simp [he]
end Go.Proofs.YtponfaglflmnkaaDoor
namespace Go.Proofs.YtponfaglflmnkaaDoor
open Go.RowKit
set_option maxHeartbeats 2000000
theorem mend_any (c : Int) (w : World) :
    Calls Tryd.prog 32 #[.int .i32 c] w fun e w' => e = .returned (.int .i32 (sgn 1 c)) ∧ w' = w := by
  have e : sgn 1 c = if c < 128 then c else 65533 := rfl
  rw [e]
  by_cases h : 128 ≤ c
  · rw [if_neg (by omega)]
    go_enter Tryd.func32, Tryd.ntmps32
    go_wp2
    go_ret
    exact ⟨rfl, rfl⟩
  · rw [if_pos (by omega)]
    go_enter Tryd.func32, Tryd.ntmps32
    go_wp2
    go_ret
    exact ⟨rfl, rfl⟩
set_option maxRecDepth 100000 in
theorem plain_any (v : Value) (xs : List Int) (w : World) (h : Row w v (ints .u8 xs)) (hg : Rg 0 256 xs) (hl : xs.length ≤ 1000000) :
    Calls Tryd.prog 16 #[v] w fun e w' => ∃ t, e = .returned t ∧ Own w.heap.size 21 w' t (ints .i32 (xs.map (sgn 1))) ∧ Below w.heap.size w w' := by
  have hR := laRead_any v xs w h hg hl
  have HR := Lib.hid hR; clear hR
  rcases Nat.eq_zero_or_pos xs.length with h0 | h0
  · obtain rfl := List.eq_nil_of_length_eq_zero h0
    go_enter Tryd.func16, Tryd.ntmps16
    go_wp2_with (go_at_call 20; refine (HR.out).mono ?_; rintro e w1 ⟨t1, rfl, ho1, hb1⟩; obtain ⟨a1, b1, o1, c1, rfl, _⟩ := id ho1.row.op)
    go_loopw [11] (fun i wr => i = .int .i64 0 ∧ wr = w1) (fun i _ => 0)
    case atStart => exact ⟨rfl, rfl⟩
    case round =>
      obtain ⟨rfl, hw⟩ := hrel
      obtain rfl := hw.symm
      go_wp2
      go_ret
      exact ⟨_, rfl, ho1, hb1⟩
  · have hst := fun k x (hx : xs[k]? = some x) => fill_step (ys := xs) (sgn 1) hx rfl
    have hgt := fun k (hk : k < xs.length) => fill_get (ys := xs) (sgn 1) hk rfl
    have hal := fill_all (xs := xs) (ys := xs) (sgn 1) rfl
    have HST := Lib.hid hst; have HGT := Lib.hid hgt; have HAL := Lib.hid hal
    clear hst hgt hal
    go_enter Tryd.func16, Tryd.ntmps16
    go_wp2_with (go_at_call 20; refine (HR.out).mono ?_; rintro e w1 ⟨t1, rfl, ho1, hb1⟩; obtain ⟨g, cap, rfl, hgB, hgl⟩ := ho1.form (by rw [ints_length]; exact h0); rw [ints_length] at *)
    have HQ0 : Hid (SetQ .i32 21 w.heap.size g xs.length cap w1 ((xs.take 0).map (sgn 1) ++ xs.drop 0) w1) := ⟨by rw [List.take_zero, List.drop_zero]; exact ho1, ⟨rfl, rfl, rfl, Nat.le_refl _, fun _ _ _ => rfl⟩⟩
    have HB1 := Lib.hid hb1
    have HGB := Lib.hid hgB
    clear ho1 hb1 hgB h0 HR
    go_loopw [11] (fun i wr => ∃ k : Nat, i = .int .i64 k ∧ k ≤ xs.length ∧ SetQ .i32 21 w.heap.size g xs.length cap w1 ((xs.take k).map (sgn 1) ++ xs.drop k) wr) (fun i _ => xs.length - (intOf i).toNat)
    case atStart => exact ⟨0, rfl, Nat.zero_le _, HQ0.out⟩
    case round =>
      obtain ⟨k, rfl, hk, hr⟩ := hrel
      by_cases hlt : k < xs.length
      · obtain ⟨x, hx⟩ : ∃ x, xs[k]? = some x := ⟨_, List.getElem?_eq_getElem hlt⟩
        obtain ⟨y, hy, hy2⟩ := HGT.out k hlt
        obtain rfl : x = y := by rw [hx] at hy2; exact Option.some.inj hy2
        have f := fun j => hr.1.frozen j
        have c := hr.cell hy
        have hs := hr.set k (sgn 1 x)
        rw [HST.out k x hx] at hs
        have HS := Lib.hid hs
        have HM := Lib.hid fun w => mend_any x w
        clear hs hx hy hy2 hr
        generalize sgn 1 x = z at *
        go_wp2_with (go_at_call 32; refine (HM.out _).mono ?_; rintro e w2 ⟨rfl, hw2⟩; obtain rfl := hw2.symm)
        go_roundw
        case rel => exact ⟨k + 1, by go_num, by omega, HS.out⟩
        case measure => simp [intOf]; omega
      · obtain rfl : k = xs.length := by omega
        rw [HAL.out] at hr
        go_wp2
        go_ret
        exact ⟨_, rfl, hr.1, HB1.out.grown hr.2 (Nat.le_of_lt (by have := HGB.out; omega)) (fun k hk => by cases hk; exact HGB.out)⟩
theorem cread_3 (s : List Int) : creadL 3 s = s.map sign9 := by rw [creadL, if_neg (by decide)]; exact List.map_congr_left fun x _ => rfl
theorem cread_4 (s : List Int) : creadL 4 s = wreadL s := by rw [creadL, if_neg (by decide), wreadL]; exact List.map_congr_left fun x _ => rfl
theorem cread_1 (s : List Int) : creadL 1 s = s.map (sgn 1) := by rw [creadL, if_neg (by decide)]
theorem cread_5 (s : List Int) : creadL 5 s = etext s := by rw [creadL, if_pos rfl]
theorem cread_o {n : Int} (s : List Int) (h1 : n ≠ 1) (h3 : n ≠ 3) (h4 : n ≠ 4) (h5 : n ≠ 5) : creadL n s = s := by
  rw [creadL, if_neg h5]
  refine (List.map_congr_left fun x _ => ?_).trans (List.map_id _)
  rw [sgn, if_neg h1, if_neg h3, if_neg h4]; rfl
theorem five (n : Int) : n = 1 ∨ n = 3 ∨ n = 4 ∨ n = 5 ∨ (n ≠ 1 ∧ n ≠ 3 ∧ n ≠ 4 ∧ n ≠ 5) := by omega
theorem cRead_any (n : Int) (v : Value) (xs : List Int) (w : World) (h : Row w v (ints .u8 xs)) (hg : Rg 0 256 xs) (hl : xs.length ≤ 1000000) :
    Calls Tryd.prog 9 #[.int .i64 n, v] w fun e w' => ∃ t, e = .returned t ∧ Own w.heap.size 21 w' t (ints .i32 (creadL n xs)) ∧ Below w.heap.size w w' := by
  rcases five n with rfl | rfl | rfl | rfl | ⟨h1, h3, h4, h5⟩
  · have H := Lib.hid (plain_any v xs w h hg hl)
    rw [cread_1]
    go_enter Tryd.func9, Tryd.ntmps9
    go_wp2_with (go_at_call 16; refine (H.out).mono ?_; rintro e w1 ⟨t1, rfl, ho1, hb1⟩)
    go_ret
    exact ⟨_, rfl, ho1, hb1⟩
  · have H := Lib.hid (latRead_any v xs w h hg hl)
    rw [cread_3]
    go_enter Tryd.func9, Tryd.ntmps9
    go_wp2_with (go_at_call 17; refine (H.out).mono ?_; rintro e w1 ⟨t1, rfl, ho1, hb1⟩)
    go_ret
    exact ⟨_, rfl, ho1, hb1⟩
  · have H := Lib.hid (wRead_any v xs w h hg hl)
    rw [cread_4]
    go_enter Tryd.func9, Tryd.ntmps9
    go_wp2_with (go_at_call 18; refine (H.out).mono ?_; rintro e w1 ⟨t1, rfl, ho1, hb1⟩)
    go_ret
    exact ⟨_, rfl, ho1, hb1⟩
  · have H := Lib.hid (eRead_any v xs w h hg hl)
    rw [cread_5]
    go_enter Tryd.func9, Tryd.ntmps9
    go_wp2_with (go_at_call 19; refine (H.out).mono ?_; rintro e w1 ⟨t1, rfl, ho1, hb1⟩)
    go_ret
    exact ⟨_, rfl, ho1, hb1⟩
  · have H := Lib.hid (laRead_any v xs w h hg hl)
    rw [cread_o xs h1 h3 h4 h5]
    have b1 := beqs n 1 h1; have b3 := beqs n 3 h3; have b4 := beqs n 4 h4; have b5 := beqs n 5 h5
    clear h1 h3 h4 h5
    go_enter Tryd.func9, Tryd.ntmps9
    go_wp2_with (go_at_call 20; refine (H.out).mono ?_; rintro e w1 ⟨t1, rfl, ho1, hb1⟩)
    go_ret
    exact ⟨_, rfl, ho1, hb1⟩
theorem cla_no {n : Int} (t : List Int) (h : ¬ (1 ≤ n ∧ n ≤ 5)) : claY n t = [] ∧ claE n t = 10 := by
  rw [claY, claE, if_neg (fun hh => h ⟨hh.1, hh.2.1⟩), if_neg h]; exact ⟨rfl, rfl⟩
theorem cla_char {n : Int} {t : List Int} (h : 1 ≤ n ∧ n ≤ 5) (ha : t.all (hasB n) = false) : claY n t = [] ∧ claE n t = 9 := by
  rw [claY, claE, if_neg (fun hh => by rw [ha] at hh; exact absurd hh.2.2 (by decide)), if_pos h, ha]; exact ⟨rfl, rfl⟩
theorem cla_yes {n : Int} {t : List Int} (h : 1 ≤ n ∧ n ≤ 5) (ha : t.all (hasB n) = true) : claY n t = claL n t ∧ claE n t = 0 := by
  rw [claY, claE, if_pos ⟨h.1, h.2, ha⟩, if_pos h, ha]; exact ⟨rfl, rfl⟩
theorem claL_map {n : Int} (t : List Int) (h5 : n ≠ 5) : claL n t = t.map (oct1 n) := by
  rw [claL]
  induction t with
  | nil => rfl
  | cons c r ih => rw [List.flatMap_cons, ih, coct, if_neg h5]; rfl
theorem wlay_all {xs : List Int} (h : xs.all (fun c => (wput c).2) = true) : wlayR xs = (xs.map fun c => (wput c).1, 0) := by
  have : wlacks xs < 0 := by
    have : wlacks xs = -1 := idx_none fun y hy => by have := List.all_eq_true.1 h y hy; simp [this]
    omega
  rw [wlayR, if_pos this]
theorem cLay_any (n : Int) (v : Value) (xs : List Int) (w : World) (h : Row w v (ints .i32 xs)) (hr : R32 xs) (hw : WF .i32 xs) (hl : xs.length ≤ 1000000) :
    Calls Tryd.prog 12 #[.int .i64 n, v] w fun e w' => ∃ t, e = .returned (.tuple #[t, .int .i64 (claE n xs)]) ∧ Own w.heap.size 5 w' t (ints .u8 (claY n xs)) ∧ Below w.heap.size w w' := by
  have hS := pSize_any n w
  have hA := fun w' h' => pAll_any n v xs w' h' hr hl
  by_cases hn : 1 ≤ n ∧ n ≤ 5
  · have hsp := size_pos hn
    have hal : allN n xs = xs.all (hasB n) := by rw [allN, decide_eq_true hn]; rfl
    rw [hal] at hA
    have hz : (sizeL n == 0) = false := beq_false_of_ne (by omega)
    generalize sizeL n = s at *
    have HS := Lib.hid hS; clear hS hsp hal
    cases ha : xs.all (hasB n) with
    | false =>
      rw [ha] at hA
      rw [(cla_char hn ha).1, (cla_char hn ha).2]
      have HA := Lib.hid hA; clear hA ha hn
      go_enter Tryd.func12, Tryd.ntmps12
      go_wp2_with (first | (go_at_call 22; refine (HS.out).mono ?_; rintro e w' ⟨rfl, hw0⟩; obtain rfl := hw0.symm; have hb1 := Below.refl w.heap.size w) | (go_at_call 23; refine (HA.out _ (h.below hb1)).mono ?_; rintro e w2 ⟨rfl, hb2⟩))
      go_ret2
      exact ⟨_, rfl, Own.nil _ _ _, below_trans hb1 hb2⟩
    | true =>
      rw [ha] at hA
      rw [(cla_yes hn ha).1, (cla_yes hn ha).2]
      have HA := Lib.hid hA; clear hA
      rcases (by omega : n = 1 ∨ n = 2 ∨ n = 3 ∨ n = 4 ∨ n = 5) with rfl | rfl | rfl | rfl | rfl
      · have ho : xs.all oneB = true := List.all_eq_true.2 fun c hc => by
          have := of_decide_eq_true (show decide (0 ≤ c ∧ c < 128) = true from List.all_eq_true.1 ha c hc)
          exact decide_eq_true (by omega)
        have hL := fun w' h' => laLay_any v xs w' h' hr ho hl
        rw [claL_map xs (by decide), show xs.map (oct1 1) = xs from (List.map_congr_left fun x _ => rfl).trans (List.map_id _)]
        have HL := Lib.hid hL; clear hL ho ha hn
        go_enter Tryd.func12, Tryd.ntmps12
        go_wp2_with (first | (go_at_call 22; refine (HS.out).mono ?_; rintro e w' ⟨rfl, hw0⟩; obtain rfl := hw0.symm; have hb1 := Below.refl w.heap.size w) | (go_at_call 23; refine (HA.out _ (h.below hb1)).mono ?_; rintro e w2 ⟨rfl, hb2⟩; have hb12 := below_trans hb1 hb2) | (go_at_call 27; refine (HL.out _ (h.below hb12)).mono ?_; rintro e w3 ⟨t3, rfl, ho3, hb3⟩))
        go_ret2
        exact ⟨_, rfl, ho3.mono hb12.size, below_trans hb12 hb3⟩
      · have ho : xs.all oneB = true := ha
        have hL := fun w' h' => laLay_any v xs w' h' hr ho hl
        rw [claL_map xs (by decide), show xs.map (oct1 2) = xs from (List.map_congr_left fun x _ => rfl).trans (List.map_id _)]
        have HL := Lib.hid hL; clear hL ho ha hn
        go_enter Tryd.func12, Tryd.ntmps12
        go_wp2_with (first | (go_at_call 22; refine (HS.out).mono ?_; rintro e w' ⟨rfl, hw0⟩; obtain rfl := hw0.symm; have hb1 := Below.refl w.heap.size w) | (go_at_call 23; refine (HA.out _ (h.below hb1)).mono ?_; rintro e w2 ⟨rfl, hb2⟩; have hb12 := below_trans hb1 hb2) | (go_at_call 27; refine (HL.out _ (h.below hb12)).mono ?_; rintro e w3 ⟨t3, rfl, ho3, hb3⟩))
        go_ret2
        exact ⟨_, rfl, ho3.mono hb12.size, below_trans hb12 hb3⟩
      · have ho : xs.all nineB = true := ha
        have hL := fun w' h' => latLay_any v xs w' h' hr ho hl
        rw [claL_map xs (by decide), show xs.map (oct1 3) = xs.map oct9 from List.map_congr_left fun x _ => rfl]
        have HL := Lib.hid hL; clear hL ho ha hn
        go_enter Tryd.func12, Tryd.ntmps12
        go_wp2_with (first | (go_at_call 22; refine (HS.out).mono ?_; rintro e w' ⟨rfl, hw0⟩; obtain rfl := hw0.symm; have hb1 := Below.refl w.heap.size w) | (go_at_call 23; refine (HA.out _ (h.below hb1)).mono ?_; rintro e w2 ⟨rfl, hb2⟩; have hb12 := below_trans hb1 hb2) | (go_at_call 25; refine (HL.out _ (h.below hb12)).mono ?_; rintro e w3 ⟨t3, rfl, ho3, hb3⟩))
        go_ret2
        exact ⟨_, rfl, ho3.mono hb12.size, below_trans hb12 hb3⟩
      · have hL := fun w' h' => wLay_any v xs w' h' hw hl
        rw [wlay_all ha] at hL
        rw [claL_map xs (by decide), show xs.map (oct1 4) = xs.map (fun c => (wput c).1) from List.map_congr_left fun x _ => rfl]
        have HL := Lib.hid hL; clear hL ha hn
        go_enter Tryd.func12, Tryd.ntmps12
        go_wp2_with (first | (go_at_call 22; refine (HS.out).mono ?_; rintro e w' ⟨rfl, hw0⟩; obtain rfl := hw0.symm; have hb1 := Below.refl w.heap.size w) | (go_at_call 23; refine (HA.out _ (h.below hb1)).mono ?_; rintro e w2 ⟨rfl, hb2⟩; have hb12 := below_trans hb1 hb2) | (go_at_call 26; refine (HL.out _ (h.below hb12)).mono ?_; rintro e w3 ⟨t3, rfl, ho3, hb3⟩))
        go_ret2
        exact ⟨_, rfl, ho3.mono hb12.size, below_trans hb12 hb3⟩
      · have ho : allSc xs = true := ha
        have hL := fun w' h' => eLay_any v xs w' h' hr hl
        rw [elayR, if_pos ho] at hL
        rw [show claL 5 xs = elay xs from rfl]
        have HL := Lib.hid hL; clear hL ho ha hn
        go_enter Tryd.func12, Tryd.ntmps12
        go_wp2_with (first | (go_at_call 22; refine (HS.out).mono ?_; rintro e w' ⟨rfl, hw0⟩; obtain rfl := hw0.symm; have hb1 := Below.refl w.heap.size w) | (go_at_call 23; refine (HA.out _ (h.below hb1)).mono ?_; rintro e w2 ⟨rfl, hb2⟩; have hb12 := below_trans hb1 hb2) | (go_at_call 24; refine (HL.out _ (h.below hb12)).mono ?_; rintro e w3 ⟨t3, rfl, ho3, hb3⟩))
        go_ret2
        exact ⟨_, rfl, ho3.mono hb12.size, below_trans hb12 hb3⟩
  · rw [size_none hn] at hS
    rw [(cla_no xs hn).1, (cla_no xs hn).2]
    have HS := Lib.hid hS; clear hS hA hn
    go_enter Tryd.func12, Tryd.ntmps12
    go_wp2_with (go_at_call 22; refine (HS.out).mono ?_; rintro e w' ⟨rfl, hw0⟩; obtain rfl := hw0.symm; have hb1 := Below.refl w.heap.size w)
    go_ret2
    exact ⟨_, rfl, Own.nil _ _ _, hb1⟩
def clenL (n c : Int) : Int := (coctL n c).length
theorem cread_wf {n : Int} {xs : List Int} (hg : Rg 0 256 xs) : R32 (creadL n xs) ∧ WF .i32 (creadL n xs) := by
  have hs := List.all_eq_true.1 (cread_sc (n := n) hg)
  have h1 : R32 (creadL n xs) := fun x hx => by have := scB_iff.1 (hs x hx); omega
  exact ⟨h1, fun x hx => by have := h1 x hx; simp [Lit.wf, IntKind.min, IntKind.max, IntKind.bits, IntKind.signed]; omega⟩
theorem cMove_any (m n : Int) (v : Value) (xs : List Int) (w : World) (h : Row w v (ints .u8 xs)) (hg : Rg 0 256 xs) (hl : xs.length ≤ 1000000) :
    Calls Tryd.prog 11 #[.int .i64 m, .int .i64 n, v] w fun e w' => ∃ t, e = .returned (.tuple #[t, .int .i64 (claE n (creadL m xs))]) ∧ Own w.heap.size 5 w' t (ints .u8 (claY n (creadL m xs))) ∧ Below w.heap.size w w' := by
  have hR := cRead_any m v xs w h hg hl
  have hL := fun v w' h' => cLay_any n v (creadL m xs) w' h' (cread_wf hg).1 (cread_wf hg).2 (by have := (cread_len m xs).1; omega)
  generalize claE n (creadL m xs) = E at *
  generalize claY n (creadL m xs) = Y at *
  generalize creadL m xs = T at *
  have HR := Lib.hid hR; have HL := Lib.hid hL; clear hR hL
  go_enter Tryd.func11, Tryd.ntmps11
  go_wp2_with (first | (go_at_call 9; refine (HR.out).mono ?_; rintro e w1 ⟨t1, rfl, ho1, hb1⟩) | (go_at_call 12; refine (HL.out _ _ ho1.row).mono ?_; rintro e w2 ⟨t2, rfl, ho2, hb2⟩))
  go_ret2
  exact ⟨_, rfl, ho2.mono hb1.size, below_trans hb1 hb2⟩
def cexB (n : Int) (s : List Int) : Bool := (claE n (creadL n s) == 0) && decide (claY n (creadL n s) = s)
theorem cExact_any (n : Int) (v : Value) (xs : List Int) (w : World) (h : Row w v (ints .u8 xs)) (hg : Rg 0 256 xs) (hl : xs.length ≤ 200000) :
    Calls Tryd.prog 10 #[.int .i64 n, v] w fun e w' => e = .returned (.bool (cexB n xs)) ∧ Below w.heap.size w w' := by
  have hM := cMove_any n n v xs w h hg (by omega)
  have hE := fun v1 v2 w' h1 h2 => beq_any v1 v2 (claY n (creadL n xs)) xs w' h1 h2 (claY_rng _ _) hg
  rw [cexB]
  generalize claE n (creadL n xs) = E at *
  generalize claY n (creadL n xs) = Y at *
  rcases Decidable.em (E = 0) with rfl | hne
  · have hd : ((0 : Int) == 0) = true := rfl
    rw [hd, Bool.true_and]
    generalize decide (Y = xs) = q at *
    have HM := Lib.hid hM; have HE := Lib.hid hE; clear hM hE hd
    go_enter Tryd.func10, Tryd.ntmps10
    go_wp2_with (first | (go_at_call 11; refine (HM.out).mono ?_; rintro e w1 ⟨t1, rfl, ho1, hb1⟩) | (go_at_call 21; refine (HE.out _ _ _ ho1.row (h.below hb1)).mono ?_; rintro e w2 ⟨rfl, hw⟩; obtain rfl := hw.symm))
    go_ret
    exact ⟨rfl, hb1⟩
  · have hd : (E == 0) = false := beq_false_of_ne hne
    rw [hd, Bool.false_and]
    have HM := Lib.hid hM; clear hM hE hne
    go_enter Tryd.func10, Tryd.ntmps10
    go_wp2_with (go_at_call 11; refine (HM.out).mono ?_; rintro e w1 ⟨t1, rfl, ho1, hb1⟩)
    go_ret
    exact ⟨rfl, hb1⟩
end Go.Proofs.YtponfaglflmnkaaDoor
