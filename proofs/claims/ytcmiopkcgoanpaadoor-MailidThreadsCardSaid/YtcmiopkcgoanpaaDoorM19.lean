/- Walks: gaps, by the program and by the reference. (laid together by program out of single texts). -/
import Derived.Test.YtcmiopkcgoanpaaDoorM17
import Derived.Test.YtcmiopkcgoanpaaDoorM18
namespace Go.Proofs.YtcmiopkcgoanpaaDoor
open Go.RowKit
set_option maxHeartbeats 4000000
set_option maxRecDepth 100000
theorem gp_at {xs : List Int} {k : Nat} {c : Int} (h : xs[k]? = some c) : gp (xs.drop k) = if c = 40 then cmt 0 false (xs.drop k) + gp (xs.drop (k + cmt 0 false (xs.drop k))) else if c = 13 ∨ c = 10 ∨ blB c = true then 1 + gp (xs.drop (k + 1)) else 0 := by
  rw [drop_cons h, gp_cons, ← drop_cons h, List.drop_drop]
theorem gap_any (v : Value) (xs : List Int) (at0 : Nat) (w : World) (h : Row w v (ints .u8 xs)) (hg : Rg 0 256 xs) (hl : xs.length ≤ 900000) (hat : at0 ≤ xs.length) :
    Calls Tryd.prog 21 #[v, .int .i64 at0] w fun e w' => e = .returned (.int .i64 (at0 + gp (xs.drop at0) : Nat)) ∧ Below w.heap.size w w' := by
  obtain ⟨a, b, off, cp, rfl, HC⟩ := id h.op
  obtain ⟨q, HQ⟩ : ∃ q, Hid (at0 + gp (xs.drop at0) = q) := ⟨_, rfl⟩
  rw [HQ.out]
  have hmx : max (at0 : Int) 0 = at0 := Int.max_eq_left (by omega)
  have hmn : min (at0 : Int) (xs.length : Int) = at0 := Int.min_eq_left (by omega)
  go_enter Tryd.func21, Tryd.ntmps21
  go_wp2
  clear hmx hmn
  go_loopw [1] (fun i wr => ∃ k : Nat, i = .int .i64 k ∧ k ≤ xs.length ∧ Hid (k + gp (xs.drop k) = q) ∧ Below w.heap.size w wr) (fun i _ => xs.length - (intOf i).toNat)
  case atStart => exact ⟨at0, rfl, hat, HQ.out, Below.refl _ _⟩
  case round =>
    obtain ⟨k, rfl, hk, HK, hb⟩ := hrel
    by_cases hlt : k < xs.length
    · obtain ⟨c, HX, rfl, hc⟩ := HC.out k hlt
      replace hc := hc _ hb
      have hcr := hg.get HX.out
      have hgp := gp_at HX.out
      have hkk := HK.out
      rw [hgp] at hkk
      clear hgp
      by_cases h40 : c = 40
      · rw [if_pos h40] at hkk
        have hO := fun v2 w' h' => over_any v2 (xs.drop k) w' h' (by rw [List.length_drop]; omega)
        have hcl := cmt_len (xs.drop k) 0 false
        have hcp : 1 ≤ cmt 0 false (xs.drop k) := by rw [drop_cons HX.out]; exact cmt_pos _ _ _ _
        rw [List.length_drop] at hcl
        generalize cmt 0 false (xs.drop k) = n at *
        have HO := Lib.hid hO; have HKK := Lib.hid hkk
        clear hO hkk
        subst h40
        go_wp2_with (first | (refine wpList_slL slT_u8 _ _ rfl rfl rfl rfl (h.below hb) (by omega) (by simp [ints]; omega) ?_; intro v2 hv2; have r2 := hv2 _ (h.below hb); rw [Int.toNat_natCast, ints_drop] at r2; clear hv2) | (go_at_call 39; refine (HO.out _ _ r2).mono ?_; rintro e w2 ⟨m2, rfl, hb2⟩))
        go_roundw
        case rel =>
          first
          | exact ⟨k + n, by go_num, by omega, by (show _ = _; have h9 := HKK.out; omega), below_trans hb hb2⟩
          | (repeat apply Exists.intro)
            refine And.intro ⟨k + n, by go_num, by omega, by (show _ = _; have h9 := HKK.out; omega), below_trans hb hb2⟩ ?_
            repeat apply And.intro
            all_goals rfl
        case measure => simp [intOf]; omega
      · have b40 : (c == 40) = false := beq_false_of_ne h40
        rw [if_neg h40] at hkk
        clear h40
        by_cases h13 : c = 13
        · rw [if_pos (.inl h13)] at hkk
          have HKK := Lib.hid hkk; clear hkk
          subst h13
          go_wp2
          go_roundw
          case rel =>
            first
            | exact ⟨k + 1, by go_num, by omega, by (show _ = _; have h9 := HKK.out; omega), hb⟩
            | (repeat apply Exists.intro)
              refine And.intro ⟨k + 1, by go_num, by omega, by (show _ = _; have h9 := HKK.out; omega), hb⟩ ?_
              repeat apply And.intro
              all_goals rfl
          case measure => simp [intOf]; omega
        · have b13 : (c == 13) = false := beq_false_of_ne h13
          by_cases h10 : c = 10
          · rw [if_pos (.inr (.inl h10))] at hkk
            have HKK := Lib.hid hkk; clear hkk
            subst h10
            go_wp2
            go_roundw
            case rel =>
              first
              | exact ⟨k + 1, by go_num, by omega, by (show _ = _; have h9 := HKK.out; omega), hb⟩
              | (repeat apply Exists.intro)
                refine And.intro ⟨k + 1, by go_num, by omega, by (show _ = _; have h9 := HKK.out; omega), hb⟩ ?_
                repeat apply And.intro
                all_goals rfl
            case measure => simp [intOf]; omega
          · have b10 : (c == 10) = false := beq_false_of_ne h10
            have hi := fun w => ois_any c 2 (blB c) w hcr.1 hcr.2 (kind_of kind_bl hcr.1 hcr.2)
            cases hbl : blB c with
            | true =>
              rw [if_pos (.inr (.inr hbl))] at hkk
              rw [hbl] at hi
              have HKK := Lib.hid hkk; have HI := Lib.hid hi; clear hkk hi h13 h10 hbl
              go_wp2_with (go_at_call 40; refine (HI.out _).mono ?_; rintro e w' ⟨rfl, hw⟩; obtain rfl := hw.symm)
              go_roundw
              case rel =>
                first
                | exact ⟨k + 1, by go_num, by omega, by (show _ = _; have h9 := HKK.out; omega), hb⟩
                | (repeat apply Exists.intro)
                  refine And.intro ⟨k + 1, by go_num, by omega, by (show _ = _; have h9 := HKK.out; omega), hb⟩ ?_
                  repeat apply And.intro
                  all_goals rfl
              case measure => simp [intOf]; omega
            | false =>
              rw [if_neg (by rw [hbl]; simp [h13, h10])] at hkk
              rw [hbl] at hi
              have HI := Lib.hid hi
              have hkq : k = q := by omega
              subst hkq
              clear hkk hi h13 h10 hbl
              go_wp2_with (go_at_call 40; refine (HI.out _).mono ?_; rintro e w' ⟨rfl, hw⟩; obtain rfl := hw.symm)
              go_ret
              exact ⟨rfl, hb⟩
    · have hkq : k = q := by have h9 := HK.out; rw [List.drop_eq_nil_of_le (by omega), gp_nil] at h9; omega
      subst hkq
      go_wp2
      go_ret
      exact ⟨rfl, hb⟩
theorem rcomment_any (v : Value) (xs : List Int) (at0 : Nat) (w : World) (h : Row w v (ints .u8 xs)) (hl : xs.length ≤ 900000) (hat : at0 ≤ xs.length) :
    Calls Tryd.prog 45 #[v, .int .i64 at0] w fun e w' => ∃ m, e = .returned (.tuple #[.int .i64 (at0 + cmt 0 false (xs.drop at0) : Nat), .int .i64 m]) ∧ w' = w := by
  obtain ⟨a, b, off, cp, rfl, HC⟩ := id h.op
  obtain ⟨q, HQ⟩ : ∃ q, Hid (at0 + cmt 0 false (xs.drop at0) = q) := ⟨_, rfl⟩
  rw [HQ.out]
  go_enter Tryd.func45, Tryd.ntmps45
  go_wp2
  go_loopw [6, 7, 8] (fun d m i wr => ∃ (k : Nat) (d0 m0 : Int), d = .int .i64 d0 ∧ m = .int .i64 m0 ∧ i = .int .i64 k ∧ k ≤ xs.length + 1 ∧ -(k : Int) ≤ d0 ∧ d0 ≤ k ∧ Hid ((k ≤ xs.length → k + cmt d0 false (xs.drop k) = q) ∧ (k = xs.length + 1 → q = xs.length)) ∧ wr = w) (fun _ _ i _ => xs.length + 1 - (intOf i).toNat)
  case atStart => exact ⟨at0, 0, 0, rfl, rfl, rfl, by omega, by omega, by omega, ⟨fun _ => HQ.out, fun h9 => by omega⟩, rfl⟩
  case round =>
    obtain ⟨k, d, m, rfl, rfl, rfl, hk, hd1, hd2, HK, hw0⟩ := hrel
    obtain rfl := hw0.symm
    by_cases hlt : k < xs.length
    · obtain ⟨c, HX, rfl, hc⟩ := HC.out k hlt
      replace hc := hc _ (Below.refl _ _)
      have hkk := HK.out.1 (by omega)
      have hdr := drop_cons HX.out
      rw [hdr, cmt, if_neg (by decide)] at hkk
      by_cases h92 : c = 92
      · rw [if_pos h92] at hkk
        subst h92
        have hnx : Hid ((k + 2 ≤ xs.length → (k + 2) + cmt d false (xs.drop (k + 2)) = q) ∧ (k + 2 = xs.length + 1 → q = xs.length)) := by
          refine ⟨fun h9 => ?_, fun h9 => ?_⟩
          · have h8 : k + 1 < xs.length := by omega
            rw [drop_cons (List.getElem?_eq_getElem h8), cmt, if_pos rfl] at hkk
            show (k + 1 + 1) + cmt d false (xs.drop (k + 1 + 1)) = q
            omega
          · rw [List.drop_eq_nil_of_le (by omega)] at hkk
            simp only [cmt] at hkk
            omega
        clear hkk hdr
        go_wp2
        go_roundw
        case rel =>
          first
          | exact ⟨k + 2, d, m, rfl, rfl, by go_num, by omega, by omega, by omega, hnx.out, by first | rfl | trivial⟩
          | (repeat apply Exists.intro)
            refine And.intro ⟨k + 2, d, m, rfl, rfl, by go_num, by omega, by omega, by omega, hnx.out, by first | rfl | trivial⟩ ?_
            repeat apply And.intro
            all_goals rfl
        case measure => simp [intOf]; omega
      · have b92 : (c == 92) = false := beq_false_of_ne h92
        rw [if_neg h92] at hkk
        clear h92
        by_cases h40 : c = 40
        · rw [if_pos h40] at hkk
          subst h40
          have hnx : Hid ((k + 1 ≤ xs.length → (k + 1) + cmt (d + 1) false (xs.drop (k + 1)) = q) ∧ (k + 1 = xs.length + 1 → q = xs.length)) := ⟨fun h9 => by omega, fun h9 => by omega⟩
          clear hkk hdr
          go_wp2
          go_roundw
          case rel =>
            first
            | exact ⟨k + 1, d + 1, _, by go_num, rfl, by go_num, by omega, by omega, by omega, hnx.out, by first | rfl | trivial⟩
            | (repeat apply Exists.intro)
              refine And.intro ⟨k + 1, d + 1, _, by go_num, rfl, by go_num, by omega, by omega, by omega, hnx.out, by first | rfl | trivial⟩ ?_
              repeat apply And.intro
              all_goals rfl
          case measure => simp [intOf]; omega
        · have b40 : (c == 40) = false := beq_false_of_ne h40
          rw [if_neg h40] at hkk
          clear h40
          by_cases h41 : c = 41
          · rw [if_pos h41] at hkk
            subst h41
            by_cases h1 : d - 1 = 0
            · rw [if_pos h1] at hkk
              have hq : q = k + 1 := by omega
              obtain rfl : d = 1 := by omega
              subst hq
              clear hkk hdr h1
              go_wp2
              go_ret2
              first | exact ⟨m, ret2 (by go_num) rfl, rfl⟩ | exact ⟨⟨m, ret2 (by go_num) rfl⟩, rfl⟩
            · rw [if_neg h1] at hkk
              have hnx : Hid ((k + 1 ≤ xs.length → (k + 1) + cmt (d - 1) false (xs.drop (k + 1)) = q) ∧ (k + 1 = xs.length + 1 → q = xs.length)) := ⟨fun h9 => by omega, fun h9 => by omega⟩
              have b1 : (d - 1 == 0) = false := beq_false_of_ne h1
              clear hkk hdr h1
              go_wp2
              go_roundw
              case rel =>
                first
                | exact ⟨k + 1, d - 1, m, by go_num, rfl, by go_num, by omega, by omega, by omega, hnx.out, by first | rfl | trivial⟩
                | (repeat apply Exists.intro)
                  refine And.intro ⟨k + 1, d - 1, m, by go_num, rfl, by go_num, by omega, by omega, by omega, hnx.out, by first | rfl | trivial⟩ ?_
                  repeat apply And.intro
                  all_goals rfl
              case measure => simp [intOf]; omega
          · have b41 : (c == 41) = false := beq_false_of_ne h41
            rw [if_neg h41] at hkk
            have hnx : Hid ((k + 1 ≤ xs.length → (k + 1) + cmt d false (xs.drop (k + 1)) = q) ∧ (k + 1 = xs.length + 1 → q = xs.length)) := ⟨fun h9 => by omega, fun h9 => by omega⟩
            clear hkk hdr h41
            go_wp2
            go_roundw
            case rel =>
              first
              | exact ⟨k + 1, d, m, rfl, rfl, by go_num, by omega, by omega, by omega, hnx.out, by first | rfl | trivial⟩
              | (repeat apply Exists.intro)
                refine And.intro ⟨k + 1, d, m, rfl, rfl, by go_num, by omega, by omega, by omega, hnx.out, by first | rfl | trivial⟩ ?_
                repeat apply And.intro
                all_goals rfl
            case measure => simp [intOf]; omega
    · have hq : q = xs.length := by
        rcases Nat.lt_or_ge xs.length k with h9 | h9
        · exact HK.out.2 (by omega)
        · have h8 := HK.out.1 h9
          rw [List.drop_eq_nil_of_le (by omega)] at h8
          simp only [cmt] at h8
          omega
      subst hq
      go_wp2
      go_ret2
      first | exact ⟨m, rfl, rfl⟩ | exact ⟨⟨m, rfl⟩, rfl⟩
theorem rgap_any (v : Value) (xs : List Int) (at0 : Nat) (w : World) (h : Row w v (ints .u8 xs)) (hg : Rg 0 256 xs) (hl : xs.length ≤ 900000) (hat : at0 ≤ xs.length) :
    Calls Tryd.prog 24 #[v, .int .i64 at0] w fun e w' => e = .returned (.int .i64 (at0 + gp (xs.drop at0) : Nat)) ∧ w' = w := by
  obtain ⟨a, b, off, cp, rfl, HC⟩ := id h.op
  obtain ⟨q, HQ⟩ : ∃ q, Hid (at0 + gp (xs.drop at0) = q) := ⟨_, rfl⟩
  rw [HQ.out]
  have hmx : max (at0 : Int) 0 = at0 := Int.max_eq_left (by omega)
  have hmn : min (at0 : Int) (xs.length : Int) = at0 := Int.min_eq_left (by omega)
  go_enter Tryd.func24, Tryd.ntmps24
  go_wp2
  clear hmx hmn
  go_loopw [5] (fun i wr => ∃ k : Nat, i = .int .i64 k ∧ k ≤ xs.length ∧ Hid (k + gp (xs.drop k) = q) ∧ wr = w) (fun i _ => xs.length - (intOf i).toNat)
  case atStart => exact ⟨at0, rfl, hat, HQ.out, rfl⟩
  case round =>
    obtain ⟨k, rfl, hk, HK, hw0⟩ := hrel
    obtain rfl := hw0.symm
    by_cases hlt : k < xs.length
    · obtain ⟨c, HX, rfl, hc⟩ := HC.out k hlt
      replace hc := hc _ (Below.refl _ _)
      have hcr := hg.get HX.out
      have hgp := gp_at HX.out
      have hkk := HK.out
      rw [hgp] at hkk
      clear hgp
      have hi := fun w => ris_any c 2 (blB c) w hcr.1 hcr.2 (kind_of kind_bl hcr.1 hcr.2)
      by_cases h40 : c = 40
      · rw [if_pos h40] at hkk
        have hO := rcomment_any _ xs k w h hl hk
        have hcl := cmt_len (xs.drop k) 0 false
        have hcp : 1 ≤ cmt 0 false (xs.drop k) := by rw [drop_cons HX.out]; exact cmt_pos _ _ _ _
        rw [List.length_drop] at hcl
        generalize cmt 0 false (xs.drop k) = n at *
        subst h40
        rw [show blB 40 = false by decide] at hi
        have HO := Lib.hid hO; have HKK := Lib.hid hkk; have HI := Lib.hid hi
        clear hO hkk hi
        go_wp2_with (first | (go_at_call 30; refine (HI.out _).mono ?_; rintro e w' ⟨rfl, hw⟩; obtain rfl := hw.symm) | (go_at_call 45; refine (HO.out).mono ?_; rintro e w2 ⟨m2, rfl, hw⟩; obtain rfl := hw.symm))
        go_roundw
        case rel =>
          first
          | exact ⟨k + n, by go_num, by omega, by (show _ = _; have h9 := HKK.out; omega), by first | rfl | trivial⟩
          | (repeat apply Exists.intro)
            refine And.intro ⟨k + n, by go_num, by omega, by (show _ = _; have h9 := HKK.out; omega), by first | rfl | trivial⟩ ?_
            repeat apply And.intro
            all_goals rfl
        case measure => simp [intOf]; omega
      · have b40 : (c == 40) = false := beq_false_of_ne h40
        rw [if_neg h40] at hkk
        clear h40
        cases hbl : blB c with
        | true =>
          rw [if_pos (.inr (.inr hbl))] at hkk
          rw [hbl] at hi
          have HKK := Lib.hid hkk; have HI := Lib.hid hi; clear hkk hi hbl
          go_wp2_with (go_at_call 30; refine (HI.out _).mono ?_; rintro e w' ⟨rfl, hw⟩; obtain rfl := hw.symm)
          go_roundw
          case rel =>
            first
            | exact ⟨k + 1, by go_num, by omega, by (show _ = _; have h9 := HKK.out; omega), by first | rfl | trivial⟩
            | (repeat apply Exists.intro)
              refine And.intro ⟨k + 1, by go_num, by omega, by (show _ = _; have h9 := HKK.out; omega), by first | rfl | trivial⟩ ?_
              repeat apply And.intro
              all_goals rfl
          case measure => simp [intOf]; omega
        | false =>
          rw [hbl] at hi
          have HI := Lib.hid hi; clear hi
          by_cases h13 : c = 13
          · rw [if_pos (.inl h13)] at hkk
            have HKK := Lib.hid hkk; clear hkk hbl
            subst h13
            go_wp2_with (go_at_call 30; refine (HI.out _).mono ?_; rintro e w' ⟨rfl, hw⟩; obtain rfl := hw.symm)
            go_roundw
            case rel =>
              first
              | exact ⟨k + 1, by go_num, by omega, by (show _ = _; have h9 := HKK.out; omega), by first | rfl | trivial⟩
              | (repeat apply Exists.intro)
                refine And.intro ⟨k + 1, by go_num, by omega, by (show _ = _; have h9 := HKK.out; omega), by first | rfl | trivial⟩ ?_
                repeat apply And.intro
                all_goals rfl
            case measure => simp [intOf]; omega
          · have b13 : (c == 13) = false := beq_false_of_ne h13
            by_cases h10 : c = 10
            · rw [if_pos (.inr (.inl h10))] at hkk
              have HKK := Lib.hid hkk; clear hkk hbl
              subst h10
              go_wp2_with (go_at_call 30; refine (HI.out _).mono ?_; rintro e w' ⟨rfl, hw⟩; obtain rfl := hw.symm)
              go_roundw
              case rel =>
                first
                | exact ⟨k + 1, by go_num, by omega, by (show _ = _; have h9 := HKK.out; omega), by first | rfl | trivial⟩
                | (repeat apply Exists.intro)
                  refine And.intro ⟨k + 1, by go_num, by omega, by (show _ = _; have h9 := HKK.out; omega), by first | rfl | trivial⟩ ?_
                  repeat apply And.intro
                  all_goals rfl
              case measure => simp [intOf]; omega
            · have b10 : (c == 10) = false := beq_false_of_ne h10
              rw [if_neg (by rw [hbl]; simp [h13, h10])] at hkk
              have hkq : k = q := by omega
              subst hkq
              clear hkk hbl h13 h10
              go_wp2_with (go_at_call 30; refine (HI.out _).mono ?_; rintro e w' ⟨rfl, hw⟩; obtain rfl := hw.symm)
              go_ret
              exact ⟨rfl, rfl⟩
    · have hkq : k = q := by have h9 := HK.out; rw [List.drop_eq_nil_of_le (by omega), gp_nil] at h9; omega
      subst hkq
      go_wp2
      go_ret
      exact ⟨rfl, rfl⟩
end Go.Proofs.YtcmiopkcgoanpaaDoor
