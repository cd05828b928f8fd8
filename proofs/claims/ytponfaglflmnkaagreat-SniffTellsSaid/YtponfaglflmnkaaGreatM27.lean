/- Walks: codecs, by the program. · Walks: codecs, by the reference. (laid together by program out of single texts). -/
import Derived.Test.YtponfaglflmnkaaGreatM2
import Derived.Test.YtponfaglflmnkaaGreatM21
import Derived.Test.YtponfaglflmnkaaGreatM22
import Derived.Test.YtponfaglflmnkaaGreatM24
import Derived.Test.YtponfaglflmnkaaGreatM25
import Derived.Test.YtponfaglflmnkaaGreatM26
namespace Go.Proofs.YtponfaglflmnkaaGreat
open Go.RowKit
set_option maxHeartbeats 2000000
theorem mend_any (c : Int) (w : World) :
    Calls Tryz.prog 75 #[.int .i32 c] w fun e w' => e = .returned (.int .i32 (sgn 1 c)) ∧ w' = w := by
  have e : sgn 1 c = if c < 128 then c else 65533 := rfl
  rw [e]
  by_cases h : 128 ≤ c
  · rw [if_neg (by omega)]
    go_enter Tryz.func75, Tryz.ntmps75
    go_wp2
    go_ret
    exact ⟨rfl, rfl⟩
  · rw [if_pos (by omega)]
    go_enter Tryz.func75, Tryz.ntmps75
    go_wp2
    go_ret
    exact ⟨rfl, rfl⟩
set_option maxRecDepth 100000 in
theorem plain_any (v : Value) (xs : List Int) (w : World) (h : Row w v (ints .u8 xs)) (hg : Rg 0 256 xs) (hl : xs.length ≤ 1000000) :
    Calls Tryz.prog 50 #[v] w fun e w' => ∃ t, e = .returned t ∧ Own w.heap.size 21 w' t (ints .i32 (xs.map (sgn 1))) ∧ Below w.heap.size w w' := by
  have hR := laRead_any v xs w h hg hl
  have HR := Lib.hid hR; clear hR
  rcases Nat.eq_zero_or_pos xs.length with h0 | h0
  · obtain rfl := List.eq_nil_of_length_eq_zero h0
    go_enter Tryz.func50, Tryz.ntmps50
    go_wp2_with (go_at_call 53; refine (HR.out).mono ?_; rintro e w1 ⟨t1, rfl, ho1, hb1⟩; obtain ⟨a1, b1, o1, c1, rfl, _⟩ := id ho1.row.op)
    go_loopw [11] (fun i wr => i = .int .i64 0 ∧ wr = w1) (fun i _ => 0)
    case atStart => exact ⟨rfl, rfl⟩
    case round =>
      obtain ⟨rfl, hw⟩ := hrel
      obtain rfl := hw.symm
      go_wp2
      go_ret
      exact ⟨_, rfl, ho1, hb1⟩
  · have hst := fun k x (hx : xs[k]? = some x) => fill_step (ys := xs) (sgn 1) hx rfl
    have hgt := fun k (hk : k < xs.length) => fill_get (ys := xs) (sgn 1) hk rfl
    have hal := fill_all (xs := xs) (ys := xs) (sgn 1) rfl
    have HST := Lib.hid hst; have HGT := Lib.hid hgt; have HAL := Lib.hid hal
    clear hst hgt hal
    go_enter Tryz.func50, Tryz.ntmps50
    go_wp2_with (go_at_call 53; refine (HR.out).mono ?_; rintro e w1 ⟨t1, rfl, ho1, hb1⟩; obtain ⟨g, cap, rfl, hgB, hgl⟩ := ho1.form (by rw [ints_length]; exact h0); rw [ints_length] at *)
    have HQ0 : Hid (SetQ .i32 21 w.heap.size g xs.length cap w1 ((xs.take 0).map (sgn 1) ++ xs.drop 0) w1) := ⟨by rw [List.take_zero, List.drop_zero]; exact ho1, ⟨rfl, rfl, rfl, Nat.le_refl _, fun _ _ _ => rfl⟩⟩
    have HB1 := Lib.hid hb1
    have HGB := Lib.hid hgB
    clear ho1 hb1 hgB h0 HR
    go_loopw [11] (fun i wr => ∃ k : Nat, i = .int .i64 k ∧ k ≤ xs.length ∧ SetQ .i32 21 w.heap.size g xs.length cap w1 ((xs.take k).map (sgn 1) ++ xs.drop k) wr) (fun i _ => xs.length - (intOf i).toNat)
    case atStart => exact ⟨0, rfl, Nat.zero_le _, HQ0.out⟩
    case round =>
      obtain ⟨k, rfl, hk, hr⟩ := hrel
      by_cases hlt : k < xs.length
      · obtain ⟨x, hx⟩ : ∃ x, xs[k]? = some x := ⟨_, List.getElem?_eq_getElem hlt⟩
        obtain ⟨y, hy, hy2⟩ := HGT.out k hlt
        obtain rfl : x = y := by rw [hx] at hy2; exact Option.some.inj hy2
        have f := fun j => hr.1.frozen j
        have c := hr.cell hy
        have hs := hr.set k (sgn 1 x)
        rw [HST.out k x hx] at hs
        have HS := Lib.hid hs
        have HM := Lib.hid fun w => mend_any x w
        clear hs hx hy hy2 hr
        generalize sgn 1 x = z at *
        go_wp2_with (go_at_call 75; refine (HM.out _).mono ?_; rintro e w2 ⟨rfl, hw2⟩; obtain rfl := hw2.symm)
        go_roundw
        case rel => exact ⟨k + 1, by go_num, by omega, HS.out⟩
        case measure => simp [intOf]; omega
      · obtain rfl : k = xs.length := by omega
        rw [HAL.out] at hr
        go_wp2
        go_ret
        exact ⟨_, rfl, hr.1, HB1.out.grown hr.2 (Nat.le_of_lt (by have := HGB.out; omega)) (fun k hk => by cases hk; exact HGB.out)⟩
theorem cread_3 (s : List Int) : creadL 3 s = s.map sign9 := by rw [creadL, if_neg (by decide)]; exact List.map_congr_left fun x _ => rfl
theorem cread_4 (s : List Int) : creadL 4 s = wreadL s := by rw [creadL, if_neg (by decide), wreadL]; exact List.map_congr_left fun x _ => rfl
theorem cread_1 (s : List Int) : creadL 1 s = s.map (sgn 1) := by rw [creadL, if_neg (by decide)]
theorem cread_5 (s : List Int) : creadL 5 s = etext s := by rw [creadL, if_pos rfl]
theorem cread_o {n : Int} (s : List Int) (h1 : n ≠ 1) (h3 : n ≠ 3) (h4 : n ≠ 4) (h5 : n ≠ 5) : creadL n s = s := by
  rw [creadL, if_neg h5]
  refine (List.map_congr_left fun x _ => ?_).trans (List.map_id _)
  rw [sgn, if_neg h1, if_neg h3, if_neg h4]; rfl
theorem five (n : Int) : n = 1 ∨ n = 3 ∨ n = 4 ∨ n = 5 ∨ (n ≠ 1 ∧ n ≠ 3 ∧ n ≠ 4 ∧ n ≠ 5) := by omega
theorem cRead_any (n : Int) (v : Value) (xs : List Int) (w : World) (h : Row w v (ints .u8 xs)) (hg : Rg 0 256 xs) (hl : xs.length ≤ 1000000) :
    Calls Tryz.prog 29 #[.int .i64 n, v] w fun e w' => ∃ t, e = .returned t ∧ Own w.heap.size 21 w' t (ints .i32 (creadL n xs)) ∧ Below w.heap.size w w' := by
  rcases five n with rfl | rfl | rfl | rfl | ⟨h1, h3, h4, h5⟩
  · have H := Lib.hid (plain_any v xs w h hg hl)
    rw [cread_1]
    go_enter Tryz.func29, Tryz.ntmps29
    go_wp2_with (go_at_call 50; refine (H.out).mono ?_; rintro e w1 ⟨t1, rfl, ho1, hb1⟩)
    go_ret
    exact ⟨_, rfl, ho1, hb1⟩
  · have H := Lib.hid (latRead_any v xs w h hg hl)
    rw [cread_3]
    go_enter Tryz.func29, Tryz.ntmps29
    go_wp2_with (go_at_call 51; refine (H.out).mono ?_; rintro e w1 ⟨t1, rfl, ho1, hb1⟩)
    go_ret
    exact ⟨_, rfl, ho1, hb1⟩
  · have H := Lib.hid (wRead_any v xs w h hg hl)
    rw [cread_4]
    go_enter Tryz.func29, Tryz.ntmps29
    go_wp2_with (go_at_call 52; refine (H.out).mono ?_; rintro e w1 ⟨t1, rfl, ho1, hb1⟩)
    go_ret
    exact ⟨_, rfl, ho1, hb1⟩
  · have H := Lib.hid (eRead_any v xs w h hg hl)
    rw [cread_5]
    go_enter Tryz.func29, Tryz.ntmps29
    go_wp2_with (go_at_call 28; refine (H.out).mono ?_; rintro e w1 ⟨t1, rfl, ho1, hb1⟩)
    go_ret
    exact ⟨_, rfl, ho1, hb1⟩
  · have H := Lib.hid (laRead_any v xs w h hg hl)
    rw [cread_o xs h1 h3 h4 h5]
    have b1 := beqs n 1 h1; have b3 := beqs n 3 h3; have b4 := beqs n 4 h4; have b5 := beqs n 5 h5
    clear h1 h3 h4 h5
    go_enter Tryz.func29, Tryz.ntmps29
    go_wp2_with (go_at_call 53; refine (H.out).mono ?_; rintro e w1 ⟨t1, rfl, ho1, hb1⟩)
    go_ret
    exact ⟨_, rfl, ho1, hb1⟩
theorem cla_no {n : Int} (t : List Int) (h : ¬ (1 ≤ n ∧ n ≤ 5)) : claY n t = [] ∧ claE n t = 10 := by
  rw [claY, claE, if_neg (fun hh => h ⟨hh.1, hh.2.1⟩), if_neg h]; exact ⟨rfl, rfl⟩
theorem cla_char {n : Int} {t : List Int} (h : 1 ≤ n ∧ n ≤ 5) (ha : t.all (hasB n) = false) : claY n t = [] ∧ claE n t = 9 := by
  rw [claY, claE, if_neg (fun hh => by rw [ha] at hh; exact absurd hh.2.2 (by decide)), if_pos h, ha]; exact ⟨rfl, rfl⟩
theorem cla_yes {n : Int} {t : List Int} (h : 1 ≤ n ∧ n ≤ 5) (ha : t.all (hasB n) = true) : claY n t = claL n t ∧ claE n t = 0 := by
  rw [claY, claE, if_pos ⟨h.1, h.2, ha⟩, if_pos h, ha]; exact ⟨rfl, rfl⟩
theorem claL_map {n : Int} (t : List Int) (h5 : n ≠ 5) : claL n t = t.map (oct1 n) := by
  rw [claL]
  induction t with
  | nil => rfl
  | cons c r ih => rw [List.flatMap_cons, ih, coct, if_neg h5]; rfl
theorem wlay_all {xs : List Int} (h : xs.all (fun c => (wput c).2) = true) : wlayR xs = (xs.map fun c => (wput c).1, 0) := by
  have : wlacks xs < 0 := by
    have : wlacks xs = -1 := idx_none fun y hy => by have := List.all_eq_true.1 h y hy; simp [this]
    omega
  rw [wlayR, if_pos this]
theorem cLay_any (n : Int) (v : Value) (xs : List Int) (w : World) (h : Row w v (ints .i32 xs)) (hr : R32 xs) (hw : WF .i32 xs) (hl : xs.length ≤ 1000000) :
    Calls Tryz.prog 94 #[.int .i64 n, v] w fun e w' => ∃ t, e = .returned (.tuple #[t, .int .i64 (claE n xs)]) ∧ Own w.heap.size 5 w' t (ints .u8 (claY n xs)) ∧ Below w.heap.size w w' := by
  have hS := pSize_any n w
  have hA := fun w' h' => pAll_any n v xs w' h' hr hl
  by_cases hn : 1 ≤ n ∧ n ≤ 5
  · have hsp := size_pos hn
    have hal : allN n xs = xs.all (hasB n) := by rw [allN, decide_eq_true hn]; rfl
    rw [hal] at hA
    have hz : (sizeL n == 0) = false := beq_false_of_ne (by omega)
    generalize sizeL n = s at *
    have HS := Lib.hid hS; clear hS hsp hal
    cases ha : xs.all (hasB n) with
    | false =>
      rw [ha] at hA
      rw [(cla_char hn ha).1, (cla_char hn ha).2]
      have HA := Lib.hid hA; clear hA ha hn
      go_enter Tryz.func94, Tryz.ntmps94
      go_wp2_with (first | (go_at_call 113; refine (HS.out).mono ?_; rintro e w' ⟨rfl, hw0⟩; obtain rfl := hw0.symm; have hb1 := Below.refl w.heap.size w) | (go_at_call 114; refine (HA.out _ (h.below hb1)).mono ?_; rintro e w2 ⟨rfl, hb2⟩))
      go_ret2
      exact ⟨_, rfl, Own.nil _ _ _, below_trans hb1 hb2⟩
    | true =>
      rw [ha] at hA
      rw [(cla_yes hn ha).1, (cla_yes hn ha).2]
      have HA := Lib.hid hA; clear hA
      rcases (by omega : n = 1 ∨ n = 2 ∨ n = 3 ∨ n = 4 ∨ n = 5) with rfl | rfl | rfl | rfl | rfl
      · have ho : xs.all oneB = true := List.all_eq_true.2 fun c hc => by
          have := of_decide_eq_true (show decide (0 ≤ c ∧ c < 128) = true from List.all_eq_true.1 ha c hc)
          exact decide_eq_true (by omega)
        have hL := fun w' h' => laLay_any v xs w' h' hr ho hl
        rw [claL_map xs (by decide), show xs.map (oct1 1) = xs from (List.map_congr_left fun x _ => rfl).trans (List.map_id _)]
        have HL := Lib.hid hL; clear hL ho ha hn
        go_enter Tryz.func94, Tryz.ntmps94
        go_wp2_with (first | (go_at_call 113; refine (HS.out).mono ?_; rintro e w' ⟨rfl, hw0⟩; obtain rfl := hw0.symm; have hb1 := Below.refl w.heap.size w) | (go_at_call 114; refine (HA.out _ (h.below hb1)).mono ?_; rintro e w2 ⟨rfl, hb2⟩; have hb12 := below_trans hb1 hb2) | (go_at_call 118; refine (HL.out _ (h.below hb12)).mono ?_; rintro e w3 ⟨t3, rfl, ho3, hb3⟩))
        go_ret2
        exact ⟨_, rfl, ho3.mono hb12.size, below_trans hb12 hb3⟩
      · have ho : xs.all oneB = true := ha
        have hL := fun w' h' => laLay_any v xs w' h' hr ho hl
        rw [claL_map xs (by decide), show xs.map (oct1 2) = xs from (List.map_congr_left fun x _ => rfl).trans (List.map_id _)]
        have HL := Lib.hid hL; clear hL ho ha hn
        go_enter Tryz.func94, Tryz.ntmps94
        go_wp2_with (first | (go_at_call 113; refine (HS.out).mono ?_; rintro e w' ⟨rfl, hw0⟩; obtain rfl := hw0.symm; have hb1 := Below.refl w.heap.size w) | (go_at_call 114; refine (HA.out _ (h.below hb1)).mono ?_; rintro e w2 ⟨rfl, hb2⟩; have hb12 := below_trans hb1 hb2) | (go_at_call 118; refine (HL.out _ (h.below hb12)).mono ?_; rintro e w3 ⟨t3, rfl, ho3, hb3⟩))
        go_ret2
        exact ⟨_, rfl, ho3.mono hb12.size, below_trans hb12 hb3⟩
      · have ho : xs.all nineB = true := ha
        have hL := fun w' h' => latLay_any v xs w' h' hr ho hl
        rw [claL_map xs (by decide), show xs.map (oct1 3) = xs.map oct9 from List.map_congr_left fun x _ => rfl]
        have HL := Lib.hid hL; clear hL ho ha hn
        go_enter Tryz.func94, Tryz.ntmps94
        go_wp2_with (first | (go_at_call 113; refine (HS.out).mono ?_; rintro e w' ⟨rfl, hw0⟩; obtain rfl := hw0.symm; have hb1 := Below.refl w.heap.size w) | (go_at_call 114; refine (HA.out _ (h.below hb1)).mono ?_; rintro e w2 ⟨rfl, hb2⟩; have hb12 := below_trans hb1 hb2) | (go_at_call 116; refine (HL.out _ (h.below hb12)).mono ?_; rintro e w3 ⟨t3, rfl, ho3, hb3⟩))
        go_ret2
        exact ⟨_, rfl, ho3.mono hb12.size, below_trans hb12 hb3⟩
      · have hL := fun w' h' => wLay_any v xs w' h' hw hl
        rw [wlay_all ha] at hL
        rw [claL_map xs (by decide), show xs.map (oct1 4) = xs.map (fun c => (wput c).1) from List.map_congr_left fun x _ => rfl]
        have HL := Lib.hid hL; clear hL ha hn
        go_enter Tryz.func94, Tryz.ntmps94
        go_wp2_with (first | (go_at_call 113; refine (HS.out).mono ?_; rintro e w' ⟨rfl, hw0⟩; obtain rfl := hw0.symm; have hb1 := Below.refl w.heap.size w) | (go_at_call 114; refine (HA.out _ (h.below hb1)).mono ?_; rintro e w2 ⟨rfl, hb2⟩; have hb12 := below_trans hb1 hb2) | (go_at_call 117; refine (HL.out _ (h.below hb12)).mono ?_; rintro e w3 ⟨t3, rfl, ho3, hb3⟩))
        go_ret2
        exact ⟨_, rfl, ho3.mono hb12.size, below_trans hb12 hb3⟩
      · have ho : allSc xs = true := ha
        have hL := fun w' h' => eLay_any v xs w' h' hr hl
        rw [elayR, if_pos ho] at hL
        rw [show claL 5 xs = elay xs from rfl]
        have HL := Lib.hid hL; clear hL ho ha hn
        go_enter Tryz.func94, Tryz.ntmps94
        go_wp2_with (first | (go_at_call 113; refine (HS.out).mono ?_; rintro e w' ⟨rfl, hw0⟩; obtain rfl := hw0.symm; have hb1 := Below.refl w.heap.size w) | (go_at_call 114; refine (HA.out _ (h.below hb1)).mono ?_; rintro e w2 ⟨rfl, hb2⟩; have hb12 := below_trans hb1 hb2) | (go_at_call 115; refine (HL.out _ (h.below hb12)).mono ?_; rintro e w3 ⟨t3, rfl, ho3, hb3⟩))
        go_ret2
        exact ⟨_, rfl, ho3.mono hb12.size, below_trans hb12 hb3⟩
  · rw [size_none hn] at hS
    rw [(cla_no xs hn).1, (cla_no xs hn).2]
    have HS := Lib.hid hS; clear hS hA hn
    go_enter Tryz.func94, Tryz.ntmps94
    go_wp2_with (go_at_call 113; refine (HS.out).mono ?_; rintro e w' ⟨rfl, hw0⟩; obtain rfl := hw0.symm; have hb1 := Below.refl w.heap.size w)
    go_ret2
    exact ⟨_, rfl, Own.nil _ _ _, hb1⟩
def clenL (n c : Int) : Int := (coctL n c).length
theorem cread_wf {n : Int} {xs : List Int} (hg : Rg 0 256 xs) : R32 (creadL n xs) ∧ WF .i32 (creadL n xs) := by
  have hs := List.all_eq_true.1 (cread_sc (n := n) hg)
  have h1 : R32 (creadL n xs) := fun x hx => by have := scB_iff.1 (hs x hx); omega
  exact ⟨h1, fun x hx => by have := h1 x hx; simp [Lit.wf, IntKind.min, IntKind.max, IntKind.bits, IntKind.signed]; omega⟩
theorem cMove_any (m n : Int) (v : Value) (xs : List Int) (w : World) (h : Row w v (ints .u8 xs)) (hg : Rg 0 256 xs) (hl : xs.length ≤ 1000000) :
    Calls Tryz.prog 70 #[.int .i64 m, .int .i64 n, v] w fun e w' => ∃ t, e = .returned (.tuple #[t, .int .i64 (claE n (creadL m xs))]) ∧ Own w.heap.size 5 w' t (ints .u8 (claY n (creadL m xs))) ∧ Below w.heap.size w w' := by
  have hR := cRead_any m v xs w h hg hl
  have hL := fun v w' h' => cLay_any n v (creadL m xs) w' h' (cread_wf hg).1 (cread_wf hg).2 (by have := (cread_len m xs).1; omega)
  generalize claE n (creadL m xs) = E at *
  generalize claY n (creadL m xs) = Y at *
  generalize creadL m xs = T at *
  have HR := Lib.hid hR; have HL := Lib.hid hL; clear hR hL
  go_enter Tryz.func70, Tryz.ntmps70
  go_wp2_with (first | (go_at_call 29; refine (HR.out).mono ?_; rintro e w1 ⟨t1, rfl, ho1, hb1⟩) | (go_at_call 94; refine (HL.out _ _ ho1.row).mono ?_; rintro e w2 ⟨t2, rfl, ho2, hb2⟩))
  go_ret2
  exact ⟨_, rfl, ho2.mono hb1.size, below_trans hb1 hb2⟩
def cexB (n : Int) (s : List Int) : Bool := (claE n (creadL n s) == 0) && decide (claY n (creadL n s) = s)
theorem cExact_any (n : Int) (v : Value) (xs : List Int) (w : World) (h : Row w v (ints .u8 xs)) (hg : Rg 0 256 xs) (hl : xs.length ≤ 200000) :
    Calls Tryz.prog 45 #[.int .i64 n, v] w fun e w' => e = .returned (.bool (cexB n xs)) ∧ Below w.heap.size w w' := by
  have hM := cMove_any n n v xs w h hg (by omega)
  have hE := fun v1 v2 w' h1 h2 => beq_any v1 v2 (claY n (creadL n xs)) xs w' h1 h2 (claY_rng _ _) hg
  rw [cexB]
  generalize claE n (creadL n xs) = E at *
  generalize claY n (creadL n xs) = Y at *
  rcases Decidable.em (E = 0) with rfl | hne
  · have hd : ((0 : Int) == 0) = true := rfl
    rw [hd, Bool.true_and]
    generalize decide (Y = xs) = q at *
    have HM := Lib.hid hM; have HE := Lib.hid hE; clear hM hE hd
    go_enter Tryz.func45, Tryz.ntmps45
    go_wp2_with (first | (go_at_call 70; refine (HM.out).mono ?_; rintro e w1 ⟨t1, rfl, ho1, hb1⟩) | (go_at_call 68; refine (HE.out _ _ _ ho1.row (h.below hb1)).mono ?_; rintro e w2 ⟨rfl, hw⟩; obtain rfl := hw.symm))
    go_ret
    exact ⟨rfl, hb1⟩
  · have hd : (E == 0) = false := beq_false_of_ne hne
    rw [hd, Bool.false_and]
    have HM := Lib.hid hM; clear hM hE hne
    go_enter Tryz.func45, Tryz.ntmps45
    go_wp2_with (go_at_call 70; refine (HM.out).mono ?_; rintro e w1 ⟨t1, rfl, ho1, hb1⟩)
    go_ret
    exact ⟨rfl, hb1⟩
end Go.Proofs.YtponfaglflmnkaaGreat
namespace Go.Proofs.YtponfaglflmnkaaGreat
open Go.RowKit
set_option maxHeartbeats 2000000
theorem one_own {w : World} {B : Nat} (x : Int) (hB : B ≤ w.heap.size) : Own B 5 (w.alloc (.cells #[.int .u8 x] 5)) (.slice (some ⟨w.heap.size, 0, none⟩) 1 1) (ints .u8 [x]) := Own.ilit [x] [_] rfl hB (by simp)
theorem octs_ne {c : Int} (h : scB c = true) : 0 < (octs c).length := by
  obtain ⟨a, r, e⟩ := octs_cons h
  rw [e]; simp
theorem coct_ne {n c : Int} (h : hasB n c = true) : 0 < (coct n c).length := by
  unfold coct; split
  · rename_i h5; subst h5; exact octs_ne h
  · simp
theorem all_take {f : Int → Bool} {xs : List Int} {k : Nat} {x : Int} (h : (xs.take k).all f = true) (hx : xs[k]? = some x) (hf : f x = true) : (xs.take (k + 1)).all f = true := by
  rw [List.take_add_one, hx, List.all_append, h]; simp [hf]
theorem sgn_o {n : Int} (x : Int) (h1 : n ≠ 1) (h3 : n ≠ 3) (h4 : n ≠ 4) : sgn n x = x := by rw [sgn, if_neg h1, if_neg h3, if_neg h4]
set_option maxRecDepth 100000 in
theorem rRead13_any (n : Int) (v : Value) (xs : List Int) (w : World) (h : Row w v (ints .u8 xs)) (hg : Rg 0 256 xs) (hl : xs.length ≤ 1000000) :
    Calls Tryz.prog 31 #[.int .i64 n, v] w fun e w' => ∃ t, e = .returned t ∧ Own w.heap.size 21 w' t (ints .i32 (creadL n xs)) ∧ Below w.heap.size w w' := by
  rcases Decidable.em (n = 5) with rfl | h5
  · have H := Lib.hid (reRead_any v xs w h hg hl)
    rw [cread_5]
    go_enter Tryz.func31, Tryz.ntmps31
    go_wp2_with (go_at_call 25; refine (H.out).mono ?_; rintro e w1 ⟨t1, rfl, ho1, hb1⟩)
    go_ret
    exact ⟨_, rfl, ho1, hb1⟩
  · obtain ⟨a, b, off, cp, rfl, HC⟩ := id h.op
    have b5 := beqs n 5 h5
    rw [creadL, if_neg h5]
    have HLT : Hid ((xs.take xs.length).map (sgn n) = xs.map (sgn n)) := by show _ = _; rw [List.take_length]
    have hsg1 : n = 1 → ∀ x, sgn n x = if x < 128 then x else 65533 := fun h x => by subst h; rfl
    have hsg3 : n = 3 → ∀ x, sgn n x = sign9 x := fun h x => by subst h; rfl
    have hsg4 : n = 4 → ∀ x, sgn n x = wsign x := fun h x => by subst h; rfl
    have hsgo : n ≠ 1 → n ≠ 3 → n ≠ 4 → ∀ x, sgn n x = x := fun a b c x => sgn_o x a b c
    have HS1 := Lib.hid hsg1; have HS3 := Lib.hid hsg3; have HS4 := Lib.hid hsg4; have HSO := Lib.hid hsgo
    have HSN : Hid (∀ (k : Nat) (x : Int), xs[k]? = some x → (xs.take (k + 1)).map (sgn n) = (xs.take k).map (sgn n) ++ [sgn n x]) := fun k x hx => map_snoc (sgn n) hx
    have HLN : Hid (∀ (k : Nat) (y : Int), (ints .i32 ((xs.take k).map (sgn n))).length + (ints .i32 [y]).length ≤ 1000000000) := fun k y => by
      have := map_len (sgn n) xs k; simp only [ints_length, List.length_cons, List.length_nil]; omega
    clear hsg1 hsg3 hsg4 hsgo h5
    go_enter Tryz.func31, Tryz.ntmps31
    go_wp2
    go_loopw [8, 9] (fun u i wr => ∃ k : Nat, i = .int .i64 k ∧ k ≤ xs.length ∧ Own w.heap.size 21 wr u (ints .i32 ((xs.take k).map (sgn n))) ∧ Below w.heap.size w wr) (fun _ i _ => xs.length - (intOf i).toNat)
    case atStart => exact ⟨0, rfl, Nat.zero_le _, Own.nil _ _ _, Below.refl _ _⟩
    case round =>
      obtain ⟨k, rfl, hk, hown, hb⟩ := hrel
      by_cases hlt : k < xs.length
      · obtain ⟨x, HX, rfl, hc⟩ := HC.out k hlt
        replace hc := hc wr hb
        have hcr := hg.get HX.out
        have hx0 := hcr.1
        have hx1 := hcr.2
        have hw32 : IntKind.i32.wrap x = x := by rw [IntKind.wrap_i32]; omega
        have HSK := Lib.hid (HSN.out k x HX.out)
        rcases five n with rfl | rfl | rfl | rfl | ⟨h1, h3, h4, _⟩
        · by_cases h127 : 127 < x
          · have HE : Hid (sgn 1 x = 65533) := by show _ = _; rw [HS1.out rfl, if_neg (by omega)]
            go_wp2_with (at_builtin; refine wpList_app slT_i32 _ _ _ rfl rfl rfl rfl (hown.alloc _) (Row.ilit [_] [_] rfl (by simp)) (HLN.out k _) (by have := hb.size; simp; omega) ?_; intro t3 w3 hown3 hg3)
            have hb3 := below_app hb (below_alloc _ _) (hown.alloc _) hg3
            rw [← ints_append] at hown3
            go_roundw
            case rel => exact ⟨k + 1, by go_num, by omega, by rw [HSK.out, HE.out]; exact hown3, hb3⟩
            case measure => simp [intOf]; omega
          · have HE : Hid (sgn 1 x = x) := by show _ = _; rw [HS1.out rfl, if_pos (by omega)]
            go_wp2_with (at_builtin; refine wpList_app slT_i32 _ _ _ rfl rfl rfl rfl (hown.alloc _) (Row.ilit [_] [_] rfl (by simp)) (HLN.out k _) (by have := hb.size; simp; omega) ?_; intro t3 w3 hown3 hg3)
            have hb3 := below_app hb (below_alloc _ _) (hown.alloc _) hg3
            rw [← ints_append] at hown3
            go_roundw
            case rel => exact ⟨k + 1, by go_num, by omega, by rw [HSK.out, HE.out]; exact hown3, hb3⟩
            case measure => simp [intOf]; omega
        · have hP := fun w => rSign9_any x w hcr.1 hcr.2
          have HE := Lib.hid (HS3.out rfl x)
          generalize sign9 x = y at *
          have HP := Lib.hid hP; clear hP
          go_wp2_with (first | (go_at_call 55; refine (HP.out _).mono ?_; rintro e w' ⟨rfl, hw⟩; obtain rfl := hw.symm) | (at_builtin; refine wpList_app slT_i32 _ _ _ rfl rfl rfl rfl (hown.alloc _) (Row.ilit [_] [_] rfl (by simp)) (HLN.out k _) (by have := hb.size; simp; omega) ?_; intro t3 w3 hown3 hg3))
          have hb3 := below_app hb (below_alloc _ _) (hown.alloc _) hg3
          rw [← ints_append] at hown3
          go_roundw
          case rel => exact ⟨k + 1, by go_num, by omega, by rw [HSK.out, HE.out]; exact hown3, hb3⟩
          case measure => simp [intOf]; omega
        · have hP := fun w => rwSign_any x w hcr.1 hcr.2
          have HE := Lib.hid (HS4.out rfl x)
          generalize wsign x = y at *
          have HP := Lib.hid hP; clear hP
          go_wp2_with (first | (go_at_call 56; refine (HP.out _).mono ?_; rintro e w1 ⟨rfl, hb1⟩; have hb01 := below_trans hb hb1; have hown1 := hown.below hb1) | (at_builtin; refine wpList_app slT_i32 _ _ _ rfl rfl rfl rfl (hown1.alloc _) (Row.ilit [_] [_] rfl (by simp)) (HLN.out k _) (by have := hb01.size; simp; omega) ?_; intro t3 w3 hown3 hg3))
          have hb3 := below_own (hb01.alloc hb01.size _) (hown1.alloc _) hg3 (by have := hb01.size; simp; omega) (Nat.le_refl _)
          rw [← ints_append] at hown3
          go_roundw
          case rel => exact ⟨k + 1, by go_num, by omega, by rw [HSK.out, HE.out]; exact hown3, hb3⟩
          case measure => simp [intOf]; omega
        · exact absurd b5 (by decide)
        · have HE := Lib.hid (HSO.out h1 h3 h4 x)
          have b1 := beqs n 1 h1; have b3 := beqs n 3 h3; have b4 := beqs n 4 h4
          clear h1 h3 h4
          go_wp2_with (at_builtin; refine wpList_app slT_i32 _ _ _ rfl rfl rfl rfl (hown.alloc _) (Row.ilit [_] [_] rfl (by simp)) (HLN.out k _) (by have := hb.size; simp; omega) ?_; intro t3 w3 hown3 hg3)
          have hb3 := below_app hb (below_alloc _ _) (hown.alloc _) hg3
          rw [← ints_append] at hown3
          go_roundw
          case rel => exact ⟨k + 1, by go_num, by omega, by rw [HSK.out, HE.out]; exact hown3, hb3⟩
          case measure => simp [intOf]; omega
      · obtain rfl : k = xs.length := by omega
        rw [HLT.out] at hown
        go_wp2
        go_ret
        exact ⟨_, rfl, hown, hb⟩
end Go.Proofs.YtponfaglflmnkaaGreat
