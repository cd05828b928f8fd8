/- Walks: bytes.IndexByte, and bytes.Index and bytes.Cut at one octet. · Walks: quoted texts; lists' parts. · Walks: bytes.Split at a dot; dotted words. (laid together by program out of single texts). -/
import Derived.Lib.BytesEntry
import Derived.Test.YtoliaphiipkopaaDoorM8
import Derived.Test.YtoliaphiipkopaaDoorM9
import Derived.Test.YtoliaphiipkopaaDoorM12
import Derived.Test.YtoliaphiipkopaaDoorM14
import Derived.Test.YtoliaphiipkopaaDoorM15
namespace Go.Proofs.YtoliaphiipkopaaDoor
open Go.RowKit
set_option maxHeartbeats 4000000
set_option maxRecDepth 100000
def idxC (c : Int) (xs : List Int) : Int := if xs.contains c = true then ((tw c xs).length : Nat) else -1
theorem idxC_eq (c : Int) (h0 : 0 ≤ c) (h1 : c < 256) : ∀ (xs : List Int), Rg 0 256 xs → Lib.indexByte (Lib.bytesOf xs) c.toNat.toUInt8 = idxC c xs
  | [], _ => rfl
  | x :: xs, hg => by
    have hx := hg x (by simp)
    have ih := idxC_eq c h0 h1 xs (fun y hy => hg y (by simp [hy]))
    have e : Lib.bytesOf (x :: xs) = x.toNat.toUInt8 :: Lib.bytesOf xs := rfl
    rw [e, Lib.indexByte, ih]
    by_cases hc : x = c
    · subst hc
      simp [idxC, tw]
    · have h9 : ¬ x.toNat.toUInt8 = c.toNat.toUInt8 := fun h9 => hc (by
        have h8 := congrArg UInt8.toNat h9
        simp only [Nat.toUInt8, UInt8.toNat_ofNat'] at h8
        omega)
      have hc2 : ¬ c = x := fun h => hc h.symm
      unfold idxC
      have e1 : (x :: xs).contains c = xs.contains c := by simp [hc2]
      have e2 : tw c (x :: xs) = x :: tw c xs := by simp [tw, hc]
      rw [e1, e2]
      cases xs.contains c <;> simp [h9] <;> omega
theorem run_idxByteRow {v : Value} {xs : List Int} {w : World} (h : Row w v (ints .u8 xs)) (hg : Rg 0 256 xs) (c : Int) (h0 : 0 ≤ c) (h1 : c < 256) :
    (Extern.BytealgIndexByte.indexByte #[v, .int .u8 c]).run Tryd.prog w = .ok (.int .i64 (idxC c xs)) w := by
  obtain ⟨a, b, off, cap, rfl, hc, hm, ha, hcell⟩ := h.int
  rw [← idxC_eq c h0 h1 xs hg]
  rcases ha with rfl | ⟨rfl, h9⟩
  · exact Lib.run_indexByteSlice w b off _ cap xs rfl (fun i hi => by
      rw [hcell i xs[i] (List.getElem?_eq_getElem hi)]; simp [List.getD, hi]) c
  · cases a with
    | none => exact Lib.run_indexByteString (P := Tryd.prog) .empty c w
    | some ad => exact Lib.run_indexByteString (P := Tryd.prog) .empty c w
theorem bidx_any (v : Value) (xs : List Int) (c : Int) (w : World) (h : Row w v (ints .u8 xs)) (hg : Rg 0 256 xs) (h0 : 0 ≤ c) (h1 : c < 256) :
    Calls Tryd.prog 39 #[v, .int .u8 c] w fun e w' => e = .returned (.int .i64 (idxC c xs)) ∧ w' = w := by
  have hr := run_idxByteRow h hg c h0 h1
  generalize idxC c xs = n at *
  clear h
  go_enter Tryd.func39, Tryd.ntmps39
  go_wp2
  rw [run_callFunc_extern Tryd.func50 (by kernel_rfl) (by kernel_rfl) (by kernel_rfl) (e := Extern.BytealgIndexByte.indexByte) (by kernel_rfl), hr]
  simp only [Result.andThen]
  rw [Oper.upon_value]
  go_wp2
  go_ret
  exact ⟨rfl, rfl⟩
theorem bindex1_any (v v2 : Value) (xs : List Int) (c : Int) (w : World) (h : Row w v (ints .u8 xs)) (h2 : Row w v2 (ints .u8 [c])) (hg : Rg 0 256 xs) (h0 : 0 ≤ c) (h1 : c < 256) :
    Calls Tryd.prog 29 #[v, v2] w fun e w' => e = .returned (.int .i64 (idxC c xs)) ∧ w' = w := by
  have hB := bidx_any v xs c w h hg h0 h1
  obtain ⟨b, off, cap, rfl, HC⟩ := one_cell8 h2
  have hc := HC.out w (Below.refl _ _)
  generalize idxC c xs = n at *
  have HB := Lib.hid hB
  clear h h2 HC hB
  go_enter Tryd.func29, Tryd.ntmps29
  go_wp2_with (go_at_call 39; refine (HB.out).mono ?_; rintro e w' ⟨rfl, hw⟩; obtain rfl := hw.symm)
  go_ret
  exact ⟨rfl, rfl⟩
theorem idxC_yes {c : Int} {xs : List Int} (h : xs.contains c = true) : idxC c xs = ((tw c xs).length : Nat) := if_pos h
theorem idxC_no {c : Int} {xs : List Int} (h : xs.contains c = false) : idxC c xs = -1 := if_neg (by rw [h]; decide)
theorem bcut1_no (v v2 : Value) (xs : List Int) (c : Int) (w : World) (h : Row w v (ints .u8 xs)) (h2 : Row w v2 (ints .u8 [c])) (hg : Rg 0 256 xs) (h0 : 0 ≤ c) (h1 : c < 256) (hc : xs.contains c = false) :
    Calls Tryd.prog 15 #[v, v2] w fun e w' => e = .returned (.tuple #[v, .slice none 0 0, .bool false]) ∧ w' = w := by
  have hI := bindex1_any v v2 xs c w h h2 hg h0 h1
  rw [idxC_no hc] at hI
  have HI := Lib.hid hI
  clear h h2 hI hc
  go_enter Tryd.func15, Tryd.ntmps15
  go_wp2_with (go_at_call 29; refine (HI.out).mono ?_; rintro e w' ⟨rfl, hw⟩; obtain rfl := hw.symm)
  go_ret3
  exact ⟨rfl, rfl⟩
theorem Row.preK {w : World} {a : Option Addr} {n cp : Nat} {cs : List Value} (h : Row w (.slice a n cp) cs) (m : Nat) (hm : m ≤ cs.length) : Row w (.slice a m cp) (cs.take m) := by
  obtain ⟨a', b, off, cap, hv, hc, hM, ha, h1, hcell⟩ := h
  cases hv
  refine ⟨a, b, off, cp, by rw [List.length_take, Nat.min_eq_left hm], by rw [List.length_take]; omega, hM, ?_, fun u hu => h1 u (List.mem_of_mem_take hu), fun i u hu => ?_⟩
  · rcases ha with ha | ⟨rfl, ha⟩
    · exact .inl ha
    · exact .inr ⟨by simp, ha⟩
  · rw [List.getElem?_take] at hu
    split at hu
    · exact hcell i u hu
    · cases hu
theorem bcut1_yes (v v2 : Value) (xs : List Int) (c : Int) (w : World) (h : Row w v (ints .u8 xs)) (h2 : Row w v2 (ints .u8 [c])) (hg : Rg 0 256 xs) (h0 : 0 ≤ c) (h1 : c < 256) (hc : xs.contains c = true) (hl : xs.length ≤ 1000000) :
    Calls Tryd.prog 15 #[v, v2] w fun e w' => ∃ a b, e = .returned (.tuple #[a, b, .bool true]) ∧ Row w' a (ints .u8 (tw c xs)) ∧ Row w' b (ints .u8 (xs.drop ((tw c xs).length + 1))) ∧ Below w.heap.size w w' := by
  have hI := bindex1_any v v2 xs c w h h2 hg h0 h1
  rw [idxC_yes hc] at hI
  have hlt := tw_lt hc
  have htk := tw_take (c := c) xs
  obtain ⟨b2, off2, cp2, rfl, _⟩ := one_cell8 h2
  have hcp : ∀ a cp, v = .slice a xs.length cp → xs.length ≤ cp := fun a cp hv => by
    obtain ⟨_, _, _, _, hv2, hc9, _⟩ := h.int
    rw [hv2] at hv; cases hv; omega
  obtain ⟨a, b, off, cp, rfl, HC⟩ := id h.op
  replace hcp := hcp _ _ rfl
  obtain ⟨c0, _, rfl, _⟩ := HC.out 0 (by omega)
  clear HC
  generalize tw c xs = T at *
  generalize hk : T.length = k at *
  have hI0 : (0 : Int) ≤ (k : Int) := by omega
  have hI1 : (k : Int) ≤ xs.length := by omega
  have hI2 : (k : Int) ≤ cp := by omega
  have hI3 : (k : Int) + 1 ≤ xs.length := by omega
  have hI4 : (k : Int) + 1 ≤ cp := by omega
  have HI := Lib.hid hI
  have hA := h.drew.preK k (by rw [ints_length]; omega)
  rw [ints_take, ← htk] at hA
  have hB := Row.sub h.drew (some ⟨b, off, none⟩) cp (by rw [ints_length]) (k + 1) xs.length (by omega) (by rw [ints_length]; omega)
  rw [ints_take, List.take_length, ints_drop] at hB
  have HA := Lib.hid hA
  have HB := Lib.hid hB
  clear hI hc htk hk hA hB h
  go_enter Tryd.func15, Tryd.ntmps15
  go_wp2_with (go_at_call 29; refine (HI.out).mono ?_; rintro e w' ⟨rfl, hw⟩; obtain rfl := hw.symm)
  go_region
  all_goals go_wp2
  all_goals go_ret3
  all_goals refine ⟨_, _, rfl, Eq.mp (congrArg (fun v => Row w.drew v _) ?_) HA.out, Eq.mp (congrArg (fun v => Row w.drew v _) ?_) HB.out, (Below.refl _ _).drew⟩
  all_goals simp [sliced, addr_add, *]
end Go.Proofs.YtoliaphiipkopaaDoor
namespace Go.Proofs.YtoliaphiipkopaaDoor
open Go.RowKit
set_option maxHeartbeats 4000000
set_option maxRecDepth 100000
/-- What the loop of Unquote keeps. -/
def UqI (w : World) (r : List Int) (ov tv iv : Value) (wr : World) : Prop :=
  ∃ (k : Nat) (acc : List Int) (t : Bool), iv = .int .i64 k ∧ tv = .bool t ∧ k ≤ r.length ∧ Hid (Own w.heap.size 5 wr ov (ints .u8 acc)) ∧ Hid (uqG false 0 [] r = uqG t k acc (r.drop k)) ∧ Hid (acc.length ≤ k) ∧ Below w.heap.size w wr
theorem drop_at1 {α : Type} : ∀ {l : List α} {k : Nat} {x : α}, l[k]? = some x → l.drop k = x :: l.drop (k + 1)
  | [], k, x, h => by simp at h
  | a :: l, 0, x, h => by simp at h; subst h; rfl
  | a :: l, k + 1, x, h => drop_at1 (l := l) (k := k) (by simpa using h)
theorem uq_any (v : Value) (xs : List Int) (w : World) (h : Row w v (ints .u8 xs)) (hl : xs.length ≤ 900000) :
    Calls Tryd.prog 47 #[v] w fun e w' => ∃ t, e = .returned (.tuple #[t, .int .i64 ((uqM xs).2.1 : Nat), .int .i64 (uqM xs).2.2]) ∧ Own w.heap.size 5 w' t (ints .u8 (uqM xs).1) ∧ Below w.heap.size w w' := by
  cases xs with
  | nil =>
    obtain ⟨a, c, rfl⟩ := h.formN0 (n := 0) rfl
    go_enter Tryd.func47, Tryd.ntmps47
    go_wp2
    go_ret3
    exact ⟨_, rfl, Own.nil _ _ _, Below.refl _ _⟩
  | cons c r =>
    obtain ⟨a, b, off, cap, rfl, HC⟩ := id h.op
    obtain ⟨x, HX, rfl, hc⟩ := HC.out 0 (by simp)
    obtain rfl : c = x := Option.some.inj HX.out
    have hc0 := hc w (Below.refl _ _)
    simp only [Nat.add_zero] at hc0
    clear hc HX HC
    by_cases h34 : c = 34
    · subst h34
      have hu : uqM (34 :: r) = uqE (uqG false 0 [] r) := by rw [uqM, if_pos rfl]
      have HU := Lib.hid hu
      clear hu
      have hrl : r.length ≤ 900000 := by simp only [List.length_cons] at hl; omega
      have hdr : Hid ((ints .u8 (34 :: r)).drop 1 = ints .u8 r) := rfl
      have H : Hid (Row w (.slice (some ⟨b, off, none⟩) (r.length + 1) cap) (ints .u8 (34 :: r))) := h
      have HLN : Hid ((1 : Int) ≤ (ints .u8 (34 :: r)).length) := by show _ ≤ _; rw [ints_length, List.length_cons]; omega
      simp only [List.length_cons]
      clear h hl
      go_enter Tryd.func47, Tryd.ntmps47
      go_wp2_with (refine wpList_slL slT_u8 _ _ rfl rfl rfl rfl H.out (by omega) HLN.out ?_; intro v2 hv2; have r2 : Row w v2 (ints .u8 r) := (by have := hv2 w H.out; exact this); clear hv2; obtain ⟨a2, b2, off2, cap2, rfl, HC2⟩ := id r2.op; clear r2)
      go_loopw [5, 6, 21] (fun ov tv iv wr => UqI w r ov tv iv wr) (fun _ _ iv _ => r.length - (intOf iv).toNat)
      case atStart => exact ⟨0, [], false, rfl, rfl, Nat.zero_le _, Own.nil _ _ _, rfl, Nat.le_refl _, Below.refl _ _⟩
      case round =>
        obtain ⟨k, acc, t, rfl, rfl, hk, HO, HU2, HAL, hb⟩ := hrel
        by_cases hlt : k < r.length
        · obtain ⟨x, HX, rfl, hc⟩ := HC2.out k hlt
          replace hc := hc _ hb
          have HD := Lib.hid (drop_at1 HX.out)
          rcases t with _ | _
          · by_cases h34 : x = 34
            · subst h34
              have hw : IntKind.i64.wrap ((k : Int) + 2) = ((k + 2 : Nat) : Int) := by rw [IntWalk.i64_in _ (by omega)]; omega
              have hf : uqM (34 :: r) = (acc, k + 2, 0) := by rw [HU.out, HU2.out, HD.out, uqG]; simp [uqE]
              have HF := Lib.hid hf
              clear hf
              go_wp2
              go_ret3
              rw [HF.out]
              exact ⟨_, rfl, HO.out, hb⟩
            · have b1 : (x == 34) = false := beq_false_of_ne h34
              by_cases h92 : x = 92
              · subst h92
                go_wp2
                go_roundw
                case rel => exact ⟨k + 1, acc, true, by go_num, rfl, by omega, HO.out, (by show _ = _; rw [HU2.out, HD.out, uqG]; simp), (by have := HAL.out; show _ ≤ _; omega), hb⟩
                case measure => simp [intOf]; omega
              · have b2 : (x == 92) = false := beq_false_of_ne h92
                go_wp2_with (at_builtin; refine wpList_app slT_u8 w.heap.size _ _ rfl rfl rfl rfl (HO.out.alloc _) (Row.ilit [x] [_] rfl (by simp)) (by have := HAL.out; simp only [ints_length, List.length_cons, List.length_nil]; omega) (by have := hb.size; simp; omega) ?_; intro t3 w3 ho3 hg3; have hb3 : Below w.heap.size w w3 := below_own (hb.alloc hb.size _) (HO.out.alloc _) hg3 (by have := hb.size; simp; omega) (Nat.le_refl _); rw [← ints_append] at ho3)
                go_roundw
                case rel => exact ⟨k + 1, acc ++ [x], false, by go_num, rfl, by omega, ho3, (by show _ = _; rw [HU2.out, HD.out, uqG, if_neg (by decide), if_neg h34, if_neg h92]), (by have := HAL.out; show _ ≤ _; simp; omega), hb3⟩
                case measure => simp [intOf]; omega
          · go_wp2_with (at_builtin; refine wpList_app slT_u8 w.heap.size _ _ rfl rfl rfl rfl (HO.out.alloc _) (Row.ilit [x] [_] rfl (by simp)) (by have := HAL.out; simp only [ints_length, List.length_cons, List.length_nil]; omega) (by have := hb.size; simp; omega) ?_; intro t3 w3 ho3 hg3; have hb3 : Below w.heap.size w w3 := below_own (hb.alloc hb.size _) (HO.out.alloc _) hg3 (by have := hb.size; simp; omega) (Nat.le_refl _); rw [← ints_append] at ho3)
            go_roundw
            case rel => exact ⟨k + 1, acc ++ [x], false, by go_num, rfl, by omega, ho3, (by show _ = _; rw [HU2.out, HD.out, uqG, if_pos rfl]), (by have := HAL.out; show _ ≤ _; simp; omega), hb3⟩
            case measure => simp [intOf]; omega
        · have hf : uqM (34 :: r) = ([], 0, 4) := by rw [HU.out, HU2.out, List.drop_eq_nil_of_le (by omega), uqG, uqE]
          have HF := Lib.hid hf
          clear hf
          go_wp2
          go_ret3
          rw [HF.out]
          exact ⟨_, rfl, Own.nil _ _ _, hb⟩
    · have b1 : (c != 34) = true := by simpa using h34
      rw [show uqM (c :: r) = ([], 0, 3) by rw [uqM, if_neg h34]]
      go_enter Tryd.func47, Tryd.ntmps47
      go_wp2
      go_ret3
      exact ⟨_, rfl, Own.nil _ _ _, Below.refl _ _⟩
theorem gap00_any (v : Value) (xs : List Int) (w : World) (h : Row w v (ints .u8 xs)) (hg : Rg 0 256 xs) (hl : xs.length ≤ 900000) :
    Calls Tryd.prog 36 #[v, .int .i64 0] w fun e w' => e = .returned (.int .i64 (gp xs : Nat)) ∧ Below w.heap.size w w' := by
  have := gap_any v xs 0 w h hg hl (Nat.zero_le _)
  rw [List.drop_zero, Nat.zero_add] at this
  exact this
theorem pover_any (v : Value) (xs : List Int) (w : World) (h : Row w v (ints .u8 xs)) (hg : Rg 0 256 xs) (hl : xs.length ≤ 900000) (h0 : 0 < xs.length) :
    Calls Tryd.prog 34 #[v] w fun e w' => e = .returned (.int .i64 (ovM xs : Nat)) ∧ Below w.heap.size w w' := by
  cases xs with
  | nil => simp at h0
  | cons c r =>
    have hU := uq_any v (c :: r) w h hl
    have hG := gap00_any v (c :: r) w h hg hl
    have ho : ovM (c :: r) = if c = 34 then (if (uqM (c :: r)).2.2 = 0 then (uqM (c :: r)).2.1 else (c :: r).length) else if c = 40 then gp (c :: r) else 1 := rfl
    rw [ho]
    generalize (uqM (c :: r)).2.2 = e at *
    generalize (uqM (c :: r)).2.1 = n at *
    generalize (uqM (c :: r)).1 = o at *
    generalize gp (c :: r) = g at *
    obtain ⟨a, b, off, cap, rfl, HC⟩ := id h.op
    obtain ⟨x, HX, rfl, hc⟩ := HC.out 0 h0
    obtain rfl : c = x := Option.some.inj HX.out
    have hc0 := hc w (Below.refl _ _)
    simp only [Nat.add_zero] at hc0
    have HU := Lib.hid hU; have HG := Lib.hid hG
    clear hc HX HC hU hG ho h
    by_cases h34 : c = 34
    · subst h34
      rw [if_pos rfl]
      by_cases he : e = 0
      case' pos => rw [if_pos he]; subst he
      case' neg => rw [if_neg he]; have be : (e != 0) = true := by simpa using he
      all_goals
        go_enter Tryd.func34, Tryd.ntmps34
        go_wp2_with fail
        refine HU.out.mono ?_
        rintro e w1 ⟨t1, rfl, ho1, hb1⟩
        go_wp2
        go_ret
        exact ⟨rfl, hb1⟩
    · have b1 : (c == 34) = false := beq_false_of_ne h34
      rw [if_neg h34]
      by_cases h40 : c = 40
      · subst h40
        rw [if_pos rfl]
        go_enter Tryd.func34, Tryd.ntmps34
        go_wp2_with fail
        refine HG.out.mono ?_
        rintro e w1 ⟨rfl, hb1⟩
        go_wp2
        go_ret
        exact ⟨rfl, hb1⟩
      · have b2 : (c == 40) = false := beq_false_of_ne h40
        rw [if_neg h40]
        go_enter Tryd.func34, Tryd.ntmps34
        go_wp2
        go_ret
        exact ⟨rfl, Below.refl _ _⟩
end Go.Proofs.YtoliaphiipkopaaDoor
namespace Go.Proofs.YtoliaphiipkopaaDoor
open Go.RowKit
set_option maxHeartbeats 4000000
set_option maxRecDepth 100000
theorem infoBS : (Tryd.prog.info? 22).map (fun i => (i.zero, i.size, i.bytes)) = some (some (.slice none 0 0), 1, 24) := by kernel_rfl
theorem Row.preC {w : World} {a : Option Addr} {n cp : Nat} {cs : List Value} (h : Row w (.slice a n cp) cs) (m c : Nat) (hm : m ≤ cs.length) (hmc : m ≤ c) (hc : c ≤ cp) : Row w (.slice a m c) (cs.take m) := by
  obtain ⟨a', b, off, cap, hv, hc', hM, ha, h1, hcell⟩ := h
  cases hv
  refine ⟨a, b, off, c, by rw [List.length_take, Nat.min_eq_left hm], by rw [List.length_take]; omega, by omega, ?_, fun u hu => h1 u (List.mem_of_mem_take hu), fun i u hu => ?_⟩
  · rcases ha with ha | ⟨rfl, ha⟩
    · exact .inl ha
    · exact .inr ⟨by simp, fun hn => by have := ha hn; omega⟩
  · rw [List.getElem?_take] at hu
    split at hu
    · exact hcell i u hu
    · cases hu
/-- What the loop of genSplit keeps. -/
def GSI (w : World) (g N : Nat) (xs : List Int) (s i : Value) (wr : World) : Prop :=
  ∃ (m : Nat) (done : List (List Int)) (rest : List Int) (vs : List Value), i = .int .i64 m ∧ Row wr s (ints .u8 rest) ∧ Hid (Rg 0 256 rest) ∧ rest.length ≤ 900000 ∧ Hid (pcs xs = done ++ pcs rest) ∧ Hid (vs.length = m) ∧ Hid (rest.count 46 + m = N) ∧
    Hid (Own w.heap.size 22 wr (.slice (some ⟨g, 0, none⟩) (N + 1) (N + 1)) (vs ++ List.replicate (N + 1 - m) (.slice none 0 0))) ∧ Hid (Pvs w vs done) ∧ Hid (Row w s (ints .u8 rest)) ∧ Below w.heap.size w wr
theorem pcs_sub : ∀ (xs : List Int) (p : List Int), p ∈ pcs xs → (∀ x ∈ p, x ∈ xs) ∧ p.length ≤ xs.length
  | [], p, h => by simp [pcs] at h; subst h; simp
  | c :: r, p, h => by
    rw [pcs] at h
    split at h
    · rcases List.mem_cons.1 h with rfl | h
      · simp
      · have := pcs_sub r p h
        exact ⟨fun x hx => List.mem_cons_of_mem _ (this.1 x hx), by simp only [List.length_cons]; omega⟩
    · obtain ⟨q, l, hq⟩ := pcs_ne r
      rw [hq] at h
      simp only at h
      rcases List.mem_cons.1 h with rfl | h
      · have := pcs_sub r q (by rw [hq]; simp)
        exact ⟨fun x hx => by
          rcases List.mem_cons.1 hx with rfl | hx
          · simp
          · exact List.mem_cons_of_mem _ (this.1 x hx), by simp only [List.length_cons]; omega⟩
      · have := pcs_sub r p (by rw [hq]; exact List.mem_cons_of_mem _ h)
        exact ⟨fun x hx => List.mem_cons_of_mem _ (this.1 x hx), by simp only [List.length_cons]; omega⟩
end Go.Proofs.YtoliaphiipkopaaDoor
