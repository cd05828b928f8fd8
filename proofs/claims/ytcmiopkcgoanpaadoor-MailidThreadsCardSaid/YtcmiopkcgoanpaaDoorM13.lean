/- Walks: bytes.IndexByte, and bytes.Index and bytes.Cut at one octet. · Walks: bytes.Split at a dot; dotted words. (laid together by program out of single texts). -/
import Derived.Lib.BytesEntry
import Derived.Test.YtcmiopkcgoanpaaDoorM8
import Derived.Test.YtcmiopkcgoanpaaDoorM11
import Derived.Test.YtcmiopkcgoanpaaDoorM12
namespace Go.Proofs.YtcmiopkcgoanpaaDoor
open Go.RowKit
set_option maxHeartbeats 4000000
set_option maxRecDepth 100000
def idxC (c : Int) (xs : List Int) : Int := if xs.contains c = true then ((tw c xs).length : Nat) else -1
theorem idxC_eq (c : Int) (h0 : 0 ≤ c) (h1 : c < 256) : ∀ (xs : List Int), Rg 0 256 xs → Lib.indexByte (Lib.bytesOf xs) c.toNat.toUInt8 = idxC c xs
  | [], _ => rfl
  | x :: xs, hg => by
    have hx := hg x (by simp)
    have ih := idxC_eq c h0 h1 xs (fun y hy => hg y (by simp [hy]))
    have e : Lib.bytesOf (x :: xs) = x.toNat.toUInt8 :: Lib.bytesOf xs := rfl
    rw [e, Lib.indexByte, ih]
    by_cases hc : x = c
    · subst hc
      simp [idxC, tw]
    · have h9 : ¬ x.toNat.toUInt8 = c.toNat.toUInt8 := fun h9 => hc (by
        have h8 := congrArg UInt8.toNat h9
        simp only [Nat.toUInt8, UInt8.toNat_ofNat'] at h8
        omega)
      have hc2 : ¬ c = x := fun h => hc h.symm
      unfold idxC
      have e1 : (x :: xs).contains c = xs.contains c := by simp [hc2]
      have e2 : tw c (x :: xs) = x :: tw c xs := by simp [tw, hc]
      rw [e1, e2]
      cases xs.contains c <;> simp [h9] <;> omega
theorem run_idxByteRow {v : Value} {xs : List Int} {w : World} (h : Row w v (ints .u8 xs)) (hg : Rg 0 256 xs) (c : Int) (h0 : 0 ≤ c) (h1 : c < 256) :
    (Extern.BytealgIndexByte.indexByte #[v, .int .u8 c]).run Tryd.prog w = .ok (.int .i64 (idxC c xs)) w := by
  obtain ⟨a, b, off, cap, rfl, hc, hm, ha, hcell⟩ := h.int
  rw [← idxC_eq c h0 h1 xs hg]
  rcases ha with rfl | ⟨rfl, h9⟩
  · exact Lib.run_indexByteSlice w b off _ cap xs rfl (fun i hi => by
      rw [hcell i xs[i] (List.getElem?_eq_getElem hi)]; simp [List.getD, hi]) c
  · cases a with
    | none => exact Lib.run_indexByteString (P := Tryd.prog) .empty c w
    | some ad => exact Lib.run_indexByteString (P := Tryd.prog) .empty c w
theorem bidx_any (v : Value) (xs : List Int) (c : Int) (w : World) (h : Row w v (ints .u8 xs)) (hg : Rg 0 256 xs) (h0 : 0 ≤ c) (h1 : c < 256) :
    Calls Tryd.prog 25 #[v, .int .u8 c] w fun e w' => e = .returned (.int .i64 (idxC c xs)) ∧ w' = w := by
  have hr := run_idxByteRow h hg c h0 h1
  generalize idxC c xs = n at *
  clear h
  go_enter Tryd.func25, Tryd.ntmps25
  go_wp2
  rw [run_callFunc_extern Tryd.func46 (by kernel_rfl) (by kernel_rfl) (by kernel_rfl) (e := Extern.BytealgIndexByte.indexByte) (by kernel_rfl), hr]
  simp only [Result.andThen]
  rw [Oper.upon_value]
  go_wp2
  go_ret
  exact ⟨rfl, rfl⟩
theorem bindex1_any (v v2 : Value) (xs : List Int) (c : Int) (w : World) (h : Row w v (ints .u8 xs)) (h2 : Row w v2 (ints .u8 [c])) (hg : Rg 0 256 xs) (h0 : 0 ≤ c) (h1 : c < 256) :
    Calls Tryd.prog 57 #[v, v2] w fun e w' => e = .returned (.int .i64 (idxC c xs)) ∧ w' = w := by
  have hB := bidx_any v xs c w h hg h0 h1
  obtain ⟨b, off, cap, rfl, HC⟩ := one_cell8 h2
  have hc := HC.out w (Below.refl _ _)
  generalize idxC c xs = n at *
  have HB := Lib.hid hB
  clear h h2 HC hB
  go_enter Tryd.func57, Tryd.ntmps57
  go_wp2_with (go_at_call 25; refine (HB.out).mono ?_; rintro e w' ⟨rfl, hw⟩; obtain rfl := hw.symm)
  go_ret
  exact ⟨rfl, rfl⟩
theorem idxC_yes {c : Int} {xs : List Int} (h : xs.contains c = true) : idxC c xs = ((tw c xs).length : Nat) := if_pos h
theorem idxC_no {c : Int} {xs : List Int} (h : xs.contains c = false) : idxC c xs = -1 := if_neg (by rw [h]; decide)
theorem bcut1_no (v v2 : Value) (xs : List Int) (c : Int) (w : World) (h : Row w v (ints .u8 xs)) (h2 : Row w v2 (ints .u8 [c])) (hg : Rg 0 256 xs) (h0 : 0 ≤ c) (h1 : c < 256) (hc : xs.contains c = false) :
    Calls Tryd.prog 41 #[v, v2] w fun e w' => e = .returned (.tuple #[v, .slice none 0 0, .bool false]) ∧ w' = w := by
  have hI := bindex1_any v v2 xs c w h h2 hg h0 h1
  rw [idxC_no hc] at hI
  have HI := Lib.hid hI
  clear h h2 hI hc
  go_enter Tryd.func41, Tryd.ntmps41
  go_wp2_with (go_at_call 57; refine (HI.out).mono ?_; rintro e w' ⟨rfl, hw⟩; obtain rfl := hw.symm)
  go_ret3
  exact ⟨rfl, rfl⟩
theorem Row.preK {w : World} {a : Option Addr} {n cp : Nat} {cs : List Value} (h : Row w (.slice a n cp) cs) (m : Nat) (hm : m ≤ cs.length) : Row w (.slice a m cp) (cs.take m) := by
  obtain ⟨a', b, off, cap, hv, hc, hM, ha, h1, hcell⟩ := h
  cases hv
  refine ⟨a, b, off, cp, by rw [List.length_take, Nat.min_eq_left hm], by rw [List.length_take]; omega, hM, ?_, fun u hu => h1 u (List.mem_of_mem_take hu), fun i u hu => ?_⟩
  · rcases ha with ha | ⟨rfl, ha⟩
    · exact .inl ha
    · exact .inr ⟨by simp, ha⟩
  · rw [List.getElem?_take] at hu
    split at hu
    · exact hcell i u hu
    · cases hu
theorem bcut1_yes (v v2 : Value) (xs : List Int) (c : Int) (w : World) (h : Row w v (ints .u8 xs)) (h2 : Row w v2 (ints .u8 [c])) (hg : Rg 0 256 xs) (h0 : 0 ≤ c) (h1 : c < 256) (hc : xs.contains c = true) (hl : xs.length ≤ 1000000) :
    Calls Tryd.prog 41 #[v, v2] w fun e w' => ∃ a b, e = .returned (.tuple #[a, b, .bool true]) ∧ Row w' a (ints .u8 (tw c xs)) ∧ Row w' b (ints .u8 (xs.drop ((tw c xs).length + 1))) ∧ Below w.heap.size w w' := by
  have hI := bindex1_any v v2 xs c w h h2 hg h0 h1
  rw [idxC_yes hc] at hI
  have hlt := tw_lt hc
  have htk := tw_take (c := c) xs
  obtain ⟨b2, off2, cp2, rfl, _⟩ := one_cell8 h2
  have hcp : ∀ a cp, v = .slice a xs.length cp → xs.length ≤ cp := fun a cp hv => by
    obtain ⟨_, _, _, _, hv2, hc9, _⟩ := h.int
    rw [hv2] at hv; cases hv; omega
  obtain ⟨a, b, off, cp, rfl, HC⟩ := id h.op
  replace hcp := hcp _ _ rfl
  obtain ⟨c0, _, rfl, _⟩ := HC.out 0 (by omega)
  clear HC
  generalize tw c xs = T at *
  generalize hk : T.length = k at *
  have hI0 : (0 : Int) ≤ (k : Int) := by omega
  have hI1 : (k : Int) ≤ xs.length := by omega
  have hI2 : (k : Int) ≤ cp := by omega
  have hI3 : (k : Int) + 1 ≤ xs.length := by omega
  have hI4 : (k : Int) + 1 ≤ cp := by omega
  have HI := Lib.hid hI
  have hA := h.drew.preK k (by rw [ints_length]; omega)
  rw [ints_take, ← htk] at hA
  have hB := Row.sub h.drew (some ⟨b, off, none⟩) cp (by rw [ints_length]) (k + 1) xs.length (by omega) (by rw [ints_length]; omega)
  rw [ints_take, List.take_length, ints_drop] at hB
  have HA := Lib.hid hA
  have HB := Lib.hid hB
  clear hI hc htk hk hA hB h
  go_enter Tryd.func41, Tryd.ntmps41
  go_wp2_with (go_at_call 57; refine (HI.out).mono ?_; rintro e w' ⟨rfl, hw⟩; obtain rfl := hw.symm)
  go_region
  all_goals go_wp2
  all_goals go_ret3
  all_goals refine ⟨_, _, rfl, Eq.mp (congrArg (fun v => Row w.drew v _) ?_) HA.out, Eq.mp (congrArg (fun v => Row w.drew v _) ?_) HB.out, (Below.refl _ _).drew⟩
  all_goals simp [sliced, addr_add, *]
end Go.Proofs.YtcmiopkcgoanpaaDoor
namespace Go.Proofs.YtcmiopkcgoanpaaDoor
open Go.RowKit
set_option maxHeartbeats 4000000
set_option maxRecDepth 100000
theorem infoBS : (Tryd.prog.info? 22).map (fun i => (i.zero, i.size, i.bytes)) = some (some (.slice none 0 0), 1, 24) := by kernel_rfl
theorem Row.preC {w : World} {a : Option Addr} {n cp : Nat} {cs : List Value} (h : Row w (.slice a n cp) cs) (m c : Nat) (hm : m ≤ cs.length) (hmc : m ≤ c) (hc : c ≤ cp) : Row w (.slice a m c) (cs.take m) := by
  obtain ⟨a', b, off, cap, hv, hc', hM, ha, h1, hcell⟩ := h
  cases hv
  refine ⟨a, b, off, c, by rw [List.length_take, Nat.min_eq_left hm], by rw [List.length_take]; omega, by omega, ?_, fun u hu => h1 u (List.mem_of_mem_take hu), fun i u hu => ?_⟩
  · rcases ha with ha | ⟨rfl, ha⟩
    · exact .inl ha
    · exact .inr ⟨by simp, fun hn => by have := ha hn; omega⟩
  · rw [List.getElem?_take] at hu
    split at hu
    · exact hcell i u hu
    · cases hu
/-- What the loop of genSplit keeps. -/
def GSI (w : World) (g N : Nat) (xs : List Int) (s i : Value) (wr : World) : Prop :=
  ∃ (m : Nat) (done : List (List Int)) (rest : List Int) (vs : List Value), i = .int .i64 m ∧ Row wr s (ints .u8 rest) ∧ Hid (Rg 0 256 rest) ∧ rest.length ≤ 900000 ∧ Hid (pcs xs = done ++ pcs rest) ∧ Hid (vs.length = m) ∧ Hid (rest.count 46 + m = N) ∧
    Hid (Own w.heap.size 22 wr (.slice (some ⟨g, 0, none⟩) (N + 1) (N + 1)) (vs ++ List.replicate (N + 1 - m) (.slice none 0 0))) ∧ Hid (Pvs w vs done) ∧ Hid (Row w s (ints .u8 rest)) ∧ Below w.heap.size w wr
theorem bgsplit_any (v v2 : Value) (xs : List Int) (w : World) (h : Row w v (ints .u8 xs)) (h2 : Row w v2 (ints .u8 [46])) (hg : Rg 0 256 xs) (hl : xs.length ≤ 900000) :
    Calls Tryd.prog 49 #[v, v2, .int .i64 0, .int .i64 (-1)] w fun e w' => ∃ t vs, e = .returned t ∧ Row w' t vs ∧ Pvs w' vs (pcs xs) ∧ Below w.heap.size w w' := by
  have hC := bcount_any v v2 xs 46 w h h2 hg (by omega) (by omega)
  have hN : xs.count 46 ≤ xs.length := List.count_le_length
  have HC0 : Hid (xs.count 46 = xs.count 46) := rfl
  generalize hNe : xs.count 46 = N at *
  have HNE := Lib.hid hNe
  have HC := Lib.hid hC
  clear hC hNe HC0
  obtain ⟨a, b, off, cp, rfl, _⟩ := id h.op
  obtain ⟨b2, off2, cp2, rfl, _⟩ := one_cell8 h2
  have hmin : min (N : Int) (xs.length : Int) = N := Int.min_eq_left (by omega)
  go_enter Tryd.func49, Tryd.ntmps49
  go_wp2_with (first | (go_at_call 59; refine (HC.out).mono ?_; rintro e w' ⟨rfl, hw⟩; obtain rfl := hw.symm) | (at_make; refine wpList_mkn 58 22 (.slice none 0 0) 24 Tryd.underlying58 infoBS rfl rfl (by omega) _ _ rfl rfl rfl rfl (n := N + 1) (by omega) ?_; intro w1 ho1 hb1))
  have HO1 := Lib.hid ho1
  clear ho1 hmin
  go_loopw [0, 10] (fun s i wr => GSI w w.heap.size N xs s i wr) (fun _ i _ => N + 1 - (intOf i).toNat)
  case atStart => exact ⟨0, [], xs, [], rfl, h.below hb1, hg, hl, rfl, rfl, by show _ = _; rw [HNE.out]; rfl, HO1.out, Pvs.nil w, h, hb1⟩
  case round =>
    obtain ⟨m, done, rest, vs, rfl, hs, HRG, hrl, HP, HV, HCN, HO, HPV, HS, hb⟩ := hrel
    obtain ⟨a3, b3, off3, cp3, rfl, HC3⟩ := id hs.op
    have hcp3 : rest.length ≤ cp3 := by
      obtain ⟨_, _, _, _, hv2, hc9, _⟩ := hs.int
      cases hv2; omega
    have hcn := HCN.out
    by_cases hlt : m < N
    · have hct : rest.contains 46 = true := by rw [count_has]; exact decide_eq_true (by omega)
      have hrl1 : 0 < rest.length := by have := tw_lt hct; omega
      obtain ⟨c0, _, rfl, _⟩ := HC3.out 0 hrl1
      clear HC3
      have hI := bindex1_any _ _ rest 46 wr hs (h2.below hb) HRG.out (by omega) (by omega)
      rw [idxC_yes hct] at hI
      have hk := tw_lt hct
      have htk := tw_take (c := 46) rest
      have hpy := pcs_yes hct
      have hcy := count_yes hct
      generalize tw 46 rest = T at *
      generalize hke : T.length = k at *
      have HI := Lib.hid hI
      have hcell := Own.cell HO.out (j := m) (u := .slice none 0 0) (by rw [List.getElem?_append_right (by rw [HV.out]; omega), HV.out, Nat.sub_self, show N + 1 - m = (N - m) + 1 by omega, List.replicate_succ]; rfl)
      have HLN : Hid ((vs ++ List.replicate (N + 1 - m) (Value.slice none 0 0)).length = N + 1) := by show _ = _; rw [List.length_append, List.length_replicate, HV.out]; omega
      have hfz := (show wr.ownsRow w.heap.size 22 1 (.slice (some ⟨w.heap.size, 0, none⟩) (N + 1) (N + 1)) (N + 1) _ from HLN.out ▸ HO.out.1).frozenAt m
      have HTK := Lib.hid htk; have HPY := Lib.hid hpy; have HCY := Lib.hid hcy; have HKE := Lib.hid hke
      have hrp := HS.out.preC k k (by rw [ints_length]; omega) (Nat.le_refl _) (by omega)
      rw [ints_take, ← htk] at hrp
      have HRP := Lib.hid hrp
      have hsub := Row.sub HS.out (some ⟨b3, off3, none⟩) cp3 (by rw [ints_length]) (k + 1) rest.length (by omega) (by rw [ints_length]; omega)
      rw [ints_take, List.take_length, ints_drop] at hsub
      have hrs : Row w (.slice (if cp3 = k + 1 then some ⟨b3, off3, none⟩ else some ⟨b3, off3 + (k + 1), none⟩) (rest.length - (k + 1)) (cp3 - (k + 1))) (ints .u8 (rest.drop (k + 1))) := by simpa [sliced, addr_add] using hsub
      have HRS := Lib.hid hrs
      have hst := Own.storeN HO.out m (.slice (some ⟨b3, off3, none⟩) k k) rfl
      have hset : (vs ++ List.replicate (N + 1 - m) (Value.slice none 0 0)).set m (.slice (some ⟨b3, off3, none⟩) k k) = (vs ++ [.slice (some ⟨b3, off3, none⟩) k k]) ++ List.replicate (N + 1 - (m + 1)) (.slice none 0 0) := by
        have h9 := set_fill (vs := vs) (z := Value.slice none 0 0) (v := .slice (some ⟨b3, off3, none⟩) k k) (m := N - m)
        rw [HV.out] at h9
        rw [show N + 1 - m = (N - m) + 1 by omega, h9, show N + 1 - (m + 1) = N - m by omega]
      rw [hset] at hst
      have HST := Lib.hid hst
      clear hsub hrs hst hset
      clear hI htk hpy hcy hke hct hcn hrp hrl1
      have hk0 : (0 : Int) ≤ (k : Int) := by omega
      have hk1 : (k : Int) ≤ cp3 := by omega
      have hm1 : (m : Int) < (N : Int) + 1 := by omega
      go_wp2_with (first | (go_at_call 57; refine (HI.out).mono ?_; rintro e w' ⟨rfl, hw⟩; obtain rfl := hw.symm))
      go_roundw
      case rel => exact ⟨m + 1, done ++ [T], rest.drop (k + 1), vs ++ [_], by go_num, HRS.out.below (hb.setCell (Nat.le_refl _) _), HRG.out.drop _, by rw [List.length_drop]; omega, by show _ = _; rw [HP.out, HPY.out, List.append_assoc]; rfl, by show _ = _; rw [List.length_append, HV.out]; rfl, by show _ = _; have h8 := HCN.out; have h9 := HCY.out; omega, HST.out.1, HPV.out.snoc HRP.out, HRS.out, hb.setCell (Nat.le_refl _) _⟩
      case measure => simp [intOf]; omega
    · have hmN : m = N := by have := hcn; omega
      subst hmN
      have hct : rest.contains 46 = false := by rw [count_has]; exact decide_eq_false (by omega)
      have hpn := pcs_no hct
      have hcell := Own.cell HO.out (j := m) (u := .slice none 0 0) (by rw [List.getElem?_append_right (by rw [HV.out]; omega), HV.out, Nat.sub_self, show m + 1 - m = 0 + 1 by omega, List.replicate_succ]; rfl)
      have HLN : Hid ((vs ++ List.replicate (m + 1 - m) (Value.slice none 0 0)).length = m + 1) := by show _ = _; rw [List.length_append, List.length_replicate, HV.out]; omega
      have hfz := (show wr.ownsRow w.heap.size 22 1 (.slice (some ⟨w.heap.size, 0, none⟩) (m + 1) (m + 1)) (m + 1) _ from HLN.out ▸ HO.out.1).frozenAt m
      have hst := Own.storeN HO.out m (.slice a3 rest.length cp3) rfl
      have hset : (vs ++ List.replicate (m + 1 - m) (Value.slice none 0 0)).set m (.slice a3 rest.length cp3) = vs ++ [.slice a3 rest.length cp3] := by
        have h9 := set_fill (vs := vs) (z := Value.slice none 0 0) (v := .slice a3 rest.length cp3) (m := 0)
        rw [HV.out] at h9
        rw [show m + 1 - m = 0 + 1 by omega, h9]; simp
      rw [hset] at hst
      have HST := Lib.hid hst
      have HPN := Lib.hid hpn
      clear hset hst hpn hct hcn
      go_wp2
      go_ret
      exact ⟨_, vs ++ [.slice a3 rest.length cp3], rfl, Eq.mp (congrArg (fun v => Row _ v _) (by simp)) HST.out.1.row, by rw [HP.out, HPN.out]; exact (HPV.out.snoc HS.out).below (hb.setCell (Nat.le_refl _) _), hb.setCell (Nat.le_refl _) _⟩
theorem bsplit_any (v v2 : Value) (xs : List Int) (w : World) (h : Row w v (ints .u8 xs)) (h2 : Row w v2 (ints .u8 [46])) (hg : Rg 0 256 xs) (hl : xs.length ≤ 900000) :
    Calls Tryd.prog 29 #[v, v2] w fun e w' => ∃ t vs, e = .returned t ∧ Row w' t vs ∧ Pvs w' vs (pcs xs) ∧ Below w.heap.size w w' := by
  have hS := bgsplit_any v v2 xs w h h2 hg hl
  have HS := Lib.hid hS
  clear hS
  go_enter Tryd.func29, Tryd.ntmps29
  go_wp2_with (go_at_call 49; refine (HS.out).mono ?_; rintro e w1 ⟨t1, vs, rfl, hr1, hp1, hb1⟩)
  go_ret
  exact ⟨_, vs, rfl, hr1, hp1, hb1⟩
/-- The odd word. -/
theorem dotF_any (v : Value) (p : List Int) (w : World) (h : Row w v (ints .u8 p)) (hg : Rg 0 256 p) (hl : p.length ≤ 1000000) :
    Calls Tryd.prog 26 #[v] w fun e w' => e = .returned (.bool (!okP p)) ∧ w' = w := by
  have hA := oall_any 64 tokB v p w kind_tok h hg hl
  obtain ⟨a, b, off, cp, rfl, _⟩ := h.op
  unfold okP
  generalize p.all tokB = q at *
  have HA := Lib.hid hA; clear hA
  rcases Nat.eq_zero_or_pos p.length with h0 | h0
  · rw [decide_eq_false (by omega)]
    obtain rfl := List.eq_nil_of_length_eq_zero h0
    clear h0
    go_enter Tryd.func26, Tryd.ntmps26
    go_wp2
    go_ret
    exact ⟨rfl, rfl⟩
  · rw [decide_eq_true h0]
    have b0 : (((p.length : Nat) : Int) == 0) = false := beq_false_of_ne (by omega)
    go_enter Tryd.func26, Tryd.ntmps26
    go_wp2_with (go_at_call 27; refine (HA.out).mono ?_; rintro e w' ⟨rfl, hw⟩; obtain rfl := hw.symm)
    go_ret
    exact ⟨ret_bool (by cases q <;> simp), rfl⟩
theorem idxP_any (v : Value) (vs : List Value) (ps : List (List Int)) (w : World) (h : Row w v vs) (hp : Pvs w vs ps) (hr : Hid (∀ p ∈ ps, Rg 0 256 p ∧ p.length ≤ 1000000)) (hl : vs.length ≤ 1000000) :
    Calls Tryd.prog 48 #[v, .func (.func 26) #[] #[]] w fun e w' => (∃ i : Int, e = .returned (.int .i64 i) ∧ decide (0 ≤ i) = !ps.all okP) ∧ w' = w := by
  obtain ⟨a, b, off, cp, rfl, hcp, hM, ha, h1, hcell⟩ := h
  obtain ⟨q, HQ⟩ : ∃ q, Hid (ps.all okP = q) := ⟨_, rfl⟩
  rw [HQ.out]
  have HP := Lib.hid hp
  have HCL := Lib.hid hcell
  have HA := Lib.hid ha
  clear hp hcell ha h1 hcp hM
  go_enter Tryd.func48, Tryd.ntmps48
  go_wp2
  go_loopw [8] (fun i wr => ∃ k : Nat, i = .int .i64 k ∧ k ≤ vs.length ∧ Hid (∀ p ∈ ps.take k, okP p = true) ∧ wr = w) (fun i _ => vs.length - (intOf i).toNat)
  case atStart => exact ⟨0, rfl, Nat.zero_le _, (fun y hy => by simp at hy : ∀ p ∈ ps.take 0, okP p = true), rfl⟩
  case round =>
    obtain ⟨k, rfl, hk, HK, hw0⟩ := hrel
    obtain rfl := hw0.symm
    by_cases hlt : k < vs.length
    · obtain ⟨u, p, hu, hpk, hru⟩ := HP.out.get hlt
      have hcc := HCL.out k u hu
      obtain rfl : a = some ⟨b, off, none⟩ := by
        rcases HA.out with h9 | ⟨h9, _⟩
        · exact h9
        · rw [h9] at hlt; simp at hlt
      have hpr := hr.out p (List.mem_of_getElem? hpk)
      have hF := fun w' h' => dotF_any u p w' h' hpr.1 hpr.2
      obtain ⟨o, HO⟩ : ∃ o, Hid (okP p = o) := ⟨_, rfl⟩
      rw [HO.out] at hF
      have HF := Lib.hid hF
      have HPK := Lib.hid hpk
      have HRU := Lib.hid hru
      clear hF hpk hru hu hpr
      rcases o with _ | _
      · have hq : q = false := by
          rw [← HQ.out]
          cases hx : ps.all okP with
          | false => rfl
          | true => have := List.all_eq_true.1 hx p (List.mem_of_getElem? HPK.out); rw [HO.out] at this; cases this
        subst hq
        go_wp2_with (go_at_call 26; refine (HF.out _ HRU.out).mono ?_; rintro e w' ⟨rfl, hw⟩; obtain rfl := hw.symm)
        go_ret
        exact ⟨⟨_, rfl, decide_eq_true (by omega)⟩, rfl⟩
      · go_wp2_with (go_at_call 26; refine (HF.out _ HRU.out).mono ?_; rintro e w' ⟨rfl, hw⟩; obtain rfl := hw.symm)
        go_roundw
        case rel => exact ⟨k + 1, by go_num, by omega, (by show ∀ p ∈ ps.take (k + 1), okP p = true; intro y hy; rw [List.take_add_one, HPK.out] at hy; rcases List.mem_append.1 hy with h9 | h9; exact HK.out y h9; simp at h9; subst h9; exact HO.out), by first | rfl | trivial⟩
        case measure => simp [intOf]; omega
    · have hq : q = true := by
        rw [← HQ.out]
        have := HK.out
        rw [List.take_of_length_le (by rw [← HP.out.1]; omega)] at this
        exact List.all_eq_true.2 this
      subst hq
      go_wp2
      go_ret
      exact ⟨⟨_, rfl, by first | decide | simp⟩, rfl⟩
theorem conP_any (v : Value) (vs : List Value) (ps : List (List Int)) (w : World) (h : Row w v vs) (hp : Pvs w vs ps) (hr : Hid (∀ p ∈ ps, Rg 0 256 p ∧ p.length ≤ 1000000)) (hl : vs.length ≤ 1000000) :
    Calls Tryd.prog 28 #[v, .func (.func 26) #[] #[]] w fun e w' => e = .returned (.bool (!ps.all okP)) ∧ w' = w := by
  have hI := idxP_any v vs ps w h hp hr hl
  generalize ps.all okP = q at *
  have HI := Lib.hid hI; clear hI
  go_enter Tryd.func28, Tryd.ntmps28
  go_wp2_with (go_at_call 48; refine (HI.out).mono ?_; rintro e w' ⟨⟨i, rfl, hi⟩, hw⟩; obtain rfl := hw.symm; have HQ := Lib.hid hi; clear hi hw)
  go_ret
  exact ⟨ret_bool HQ.out, rfl⟩
theorem pcs_sub : ∀ (xs : List Int) (p : List Int), p ∈ pcs xs → (∀ x ∈ p, x ∈ xs) ∧ p.length ≤ xs.length
  | [], p, h => by simp [pcs] at h; subst h; simp
  | c :: r, p, h => by
    rw [pcs] at h
    split at h
    · rcases List.mem_cons.1 h with rfl | h
      · simp
      · have := pcs_sub r p h
        exact ⟨fun x hx => List.mem_cons_of_mem _ (this.1 x hx), by simp only [List.length_cons]; omega⟩
    · obtain ⟨q, l, hq⟩ := pcs_ne r
      rw [hq] at h
      simp only at h
      rcases List.mem_cons.1 h with rfl | h
      · have := pcs_sub r q (by rw [hq]; simp)
        exact ⟨fun x hx => by
          rcases List.mem_cons.1 hx with rfl | hx
          · simp
          · exact List.mem_cons_of_mem _ (this.1 x hx), by simp only [List.length_cons]; omega⟩
      · have := pcs_sub r p (by rw [hq]; exact List.mem_cons_of_mem _ h)
        exact ⟨fun x hx => List.mem_cons_of_mem _ (this.1 x hx), by simp only [List.length_cons]; omega⟩
theorem mDotted_any (v : Value) (xs : List Int) (w : World) (h : Row w v (ints .u8 xs)) (hg : Rg 0 256 xs) (hl : xs.length ≤ 900000) :
    Calls Tryd.prog 13 #[v] w fun e w' => e = .returned (.bool (dotB xs)) ∧ Below w.heap.size w w' := by
  have kc := fun (w : World) (C : Array Value) (n c : Nat) => Lib.run_convert_bytes_const (P := Tryd.prog) w 22 5 C n c Tryd.underlying22 Tryd.underlying5
  have hS := fun v2 w' h' h2' => bsplit_any v v2 xs w' h' h2' hg hl
  have hr : Hid (∀ p ∈ pcs xs, Rg 0 256 p ∧ p.length ≤ 1000000) := fun p hp => by
    have := pcs_sub xs p hp
    exact ⟨fun x hx => hg x (this.1 x hx), by omega⟩
  have hpl : (pcs xs).length ≤ 1000000 := by
    have h1 := pcs_len xs
    have h2 : xs.count 46 ≤ xs.length := List.count_le_length
    omega
  have hC := fun v2 vs w' h' hp' hl' => conP_any v2 vs (pcs xs) w' h' hp' hr hl'
  rw [dotB]
  generalize (pcs xs).all okP = q at *
  generalize pcs xs = P at *
  have HS := Lib.hid hS; have HC := Lib.hid hC; have HPL := Lib.hid hpl
  clear hS hC hr hpl
  go_enter Tryd.func13, Tryd.ntmps13
  go_wp2_with (first | (go_at_call 29; refine (HS.out _ _ (h.alloc _) (by first | exact Row.flit [_] [_] rfl (by simp) | exact Row.ilit [_] [_] rfl (by simp))).mono ?_; rintro e w1 ⟨t1, vs, rfl, hr1, hp1, hb1⟩) | (go_at_call 28; refine (HC.out _ vs _ hr1 hp1 (by rw [hp1.1]; exact HPL.out)).mono ?_; rintro e w' ⟨rfl, hw⟩; obtain rfl := hw.symm))
  go_ret
  exact ⟨ret_bool (by cases q <;> rfl), below_trans (below_alloc _ _) hb1⟩
end Go.Proofs.YtcmiopkcgoanpaaDoor
