/- Walks: kinds of octets, by the reference. · Walks: kinds of octets, asked of the reference. (laid together by program out of single texts). -/
import Derived.Test.YtcmiopkcgoanpaaDoorM8
namespace Go.Proofs.YtcmiopkcgoanpaaDoor
open Go.RowKit
set_option maxHeartbeats 4000000
set_option maxRecDepth 100000
theorem rhas_any (s : ByteArray) (xs : List Int) (c : Int) (w : World) (hxs : s.data.toList.map (fun u => ((u.toNat : Nat) : Int)) = xs) (hsz : s.size ≤ 1000) :
    Calls Tryd.prog 60 #[.string s, .int .u8 c] w fun e w' => e = .returned (.bool (xs.contains c)) ∧ w' = w := by
  have hlen : xs.length = s.size := by rw [← hxs, List.length_map]; exact Array.length_toList
  have HG : Hid (∀ k : Nat, k < s.size → ∃ x, Hid (xs[k]? = some x) ∧ (Instr.index 9 (.string s) (.int .i64 (k : Nat))).run Tryd.prog w = .ok (.int .u8 x) w) := fun k hk => by
    refine ⟨((s[k]'hk).toNat : Nat), ?_, ?_⟩
    · show _ = _
      rw [← hxs, List.getElem?_map, Array.getElem?_toList, Array.getElem?_eq_getElem (show k < s.data.size from hk)]
      rfl
    · rw [run_index_string _ _ _ _ _ Tryd.underlying9, dif_pos ⟨by omega, by omega⟩]
      rfl
  obtain ⟨q, HQ⟩ : ∃ q, Hid (xs.contains c = q) := ⟨_, rfl⟩
  rw [HQ.out]
  have HL := Lib.hid hlen
  clear hxs hlen
  generalize hn : s.size = n at *
  have HN := Lib.hid hn; clear hn
  have hlen2 : (Builtin.len_ #[9] 3 #[.string s]).run Tryd.prog w = .ok (.int .i64 (n : Nat)) w := by
    rw [run_len_string _ _ _ _ Tryd.underlying9, HN.out]; rfl
  go_enter Tryd.func60, Tryd.ntmps60
  go_wp2
  go_loopw [5] (fun i wr => ∃ k : Nat, i = .int .i64 k ∧ k ≤ n ∧ Hid (∀ y ∈ xs.take k, (y == c) = false) ∧ wr = w) (fun i _ => n - (intOf i).toNat)
  case atStart => exact ⟨0, rfl, Nat.zero_le _, (fun y hy => by simp at hy : ∀ y ∈ xs.take 0, (y == c) = false), rfl⟩
  case round =>
    obtain ⟨k, rfl, hk, HK, hw0⟩ := hrel
    obtain rfl := hw0.symm
    by_cases hlt : k < n
    · obtain ⟨x, HX, hx⟩ := HG.out k hlt
      have hno : (x == c) = true → q = true := fun hf => by
        rw [← HQ.out]
        have := List.mem_of_getElem? HX.out
        rw [eq_of_beq hf] at this
        simpa using this
      have NO := Lib.hid hno; clear hno
      obtain ⟨e, he⟩ : ∃ e, (x == c) = e := ⟨_, rfl⟩
      rcases e with _ | _
      · go_wp2
        go_roundw
        case rel => exact ⟨k + 1, by go_num, by omega, (by show ∀ y ∈ xs.take (k + 1), (y == c) = false; intro y hy; rw [List.take_add_one, HX.out] at hy; rcases List.mem_append.1 hy with h9 | h9; exact HK.out y h9; simp at h9; subst h9; exact he), by first | rfl | trivial⟩
        case measure => simp [intOf]; omega
      · obtain rfl := NO.out he
        go_wp2
        go_ret
        exact ⟨rfl, rfl⟩
    · have hq : q = false := by
        rw [← HQ.out]
        have := HK.out
        rw [List.take_of_length_le (by rw [HL.out]; omega)] at this
        cases hx : xs.contains c with
        | false => rfl
        | true =>
          have h8 := this c (by simpa using hx)
          simp at h8
      subst hq
      go_wp2
      go_ret
      exact ⟨rfl, rfl⟩
def hasV (s : ByteArray) (c : Int) : Bool := (s.data.toList.map (fun u => ((u.toNat : Nat) : Int))).contains c
theorem hasV_any (s : ByteArray) (c : Int) (w : World) (hs : s.size ≤ 1000) :
    Calls Tryd.prog 60 #[.string s, .int .u8 c] w fun e w' => e = .returned (.bool (hasV s c)) ∧ w' = w := rhas_any s _ c w rfl hs
theorem rkinds_any (c : Int) (w : World) (h0 : 0 ≤ c) (h1 : c < 256) :
    Calls Tryd.prog 50 #[.int .u8 c] w fun e w' => e = .returned (.int .i64 (kindN c)) ∧ w' = w := by
  have hS : hasV ⟨#[40, 41, 60, 62, 64, 44, 59, 58, 92, 34, 47, 91, 93, 63, 61]⟩ c = spB c := rfl
  have hW : hasV ⟨#[33, 42, 43, 45, 47]⟩ c = wdB c := rfl
  have hA : hasV ⟨#[42, 39, 37]⟩ c = naB c := rfl
  have hB : hasV ⟨#[43, 47]⟩ c = bsB c := rfl
  rcases kcl c with rfl | rfl | hc | rfl | hc | hc | hc | hc | hc
  · -- c9
    have e_isCtl : isCtl 9 = true := by decide
    have e_blB : blB 9 = true := by decide
    have e_dgB : dgB 9 = false := by decide
    have e_ltB : ltB 9 = false := by decide
    have e_prB : prB 9 = false := by decide
    obtain ⟨s1, s2, s3, s4⟩ := sp_out (c := 9) (by omega)
    rw [kindN, e_isCtl, e_blB, e_dgB, e_ltB, e_prB, s1, s2, s3, s4]
    rw [s1] at hS; rw [s2] at hW; rw [s3] at hA; rw [s4] at hB
    clear s1 s2 s3 s4
    clear e_isCtl e_blB e_dgB e_ltB e_prB
    go_enter Tryd.func50, Tryd.ntmps50
    go_wp2_with (first | (go_at_call 60; refine (hasV_any _ _ _ (by decide)).mono ?_; rintro e w' ⟨rfl, hw⟩; obtain rfl := hw.symm) | go_in)
    all_goals
      go_ret
      exact ⟨rfl, rfl⟩
  · -- c32
    have e_isCtl : isCtl 32 = false := by decide
    have e_blB : blB 32 = true := by decide
    have e_dgB : dgB 32 = false := by decide
    have e_ltB : ltB 32 = false := by decide
    have e_prB : prB 32 = false := by decide
    obtain ⟨s1, s2, s3, s4⟩ := sp_out (c := 32) (by omega)
    rw [kindN, e_isCtl, e_blB, e_dgB, e_ltB, e_prB, s1, s2, s3, s4]
    rw [s1] at hS; rw [s2] at hW; rw [s3] at hA; rw [s4] at hB
    clear s1 s2 s3 s4
    clear e_isCtl e_blB e_dgB e_ltB e_prB
    go_enter Tryd.func50, Tryd.ntmps50
    go_wp2_with (first | (go_at_call 60; refine (hasV_any _ _ _ (by decide)).mono ?_; rintro e w' ⟨rfl, hw⟩; obtain rfl := hw.symm) | go_in)
    all_goals
      go_ret
      exact ⟨rfl, rfl⟩
  · -- lo
    have e_isCtl : isCtl c = true := decide_eq_true (by omega)
    have e_blB : blB c = false := decide_eq_false (by omega)
    have e_dgB : dgB c = false := decide_eq_false (by omega)
    have e_ltB : ltB c = false := decide_eq_false (by omega)
    have e_prB : prB c = false := decide_eq_false (by omega)
    obtain ⟨s1, s2, s3, s4⟩ := sp_out (c := c) (by omega)
    rw [kindN, e_isCtl, e_blB, e_dgB, e_ltB, e_prB, s1, s2, s3, s4]
    rw [s1] at hS; rw [s2] at hW; rw [s3] at hA; rw [s4] at hB
    clear s1 s2 s3 s4
    have b9 : (c == 9) = false := beq_false_of_ne (by omega); have b32 : (c == 32) = false := beq_false_of_ne (by omega); have b127 : (c == 127) = false := beq_false_of_ne (by omega)
    clear e_isCtl e_blB e_dgB e_ltB e_prB
    go_enter Tryd.func50, Tryd.ntmps50
    go_wp2_with (first | (go_at_call 60; refine (hasV_any _ _ _ (by decide)).mono ?_; rintro e w' ⟨rfl, hw⟩; obtain rfl := hw.symm) | go_in)
    all_goals
      go_ret
      exact ⟨rfl, rfl⟩
  · -- c127
    have e_isCtl : isCtl 127 = true := by decide
    have e_blB : blB 127 = false := by decide
    have e_dgB : dgB 127 = false := by decide
    have e_ltB : ltB 127 = false := by decide
    have e_prB : prB 127 = false := by decide
    obtain ⟨s1, s2, s3, s4⟩ := sp_out (c := 127) (by omega)
    rw [kindN, e_isCtl, e_blB, e_dgB, e_ltB, e_prB, s1, s2, s3, s4]
    rw [s1] at hS; rw [s2] at hW; rw [s3] at hA; rw [s4] at hB
    clear s1 s2 s3 s4
    clear e_isCtl e_blB e_dgB e_ltB e_prB
    go_enter Tryd.func50, Tryd.ntmps50
    go_wp2_with (first | (go_at_call 60; refine (hasV_any _ _ _ (by decide)).mono ?_; rintro e w' ⟨rfl, hw⟩; obtain rfl := hw.symm) | go_in)
    all_goals
      go_ret
      exact ⟨rfl, rfl⟩
  · -- dg
    have e_isCtl : isCtl c = false := decide_eq_false (by omega)
    have e_blB : blB c = false := decide_eq_false (by omega)
    have e_dgB : dgB c = true := decide_eq_true (by omega)
    have e_ltB : ltB c = false := decide_eq_false (by omega)
    have e_prB : prB c = true := decide_eq_true (by omega)
    obtain ⟨s1, s2, s3, s4⟩ := sp_al (c := c) (by omega)
    rw [kindN, e_isCtl, e_blB, e_dgB, e_ltB, e_prB, s1, s2, s3, s4]
    rw [s1] at hS; rw [s2] at hW; rw [s3] at hA; rw [s4] at hB
    clear s1 s2 s3 s4
    have b9 : (c == 9) = false := beq_false_of_ne (by omega); have b32 : (c == 32) = false := beq_false_of_ne (by omega); have b127 : (c == 127) = false := beq_false_of_ne (by omega)
    clear e_isCtl e_blB e_dgB e_ltB e_prB
    go_enter Tryd.func50, Tryd.ntmps50
    go_wp2_with (first | (go_at_call 60; refine (hasV_any _ _ _ (by decide)).mono ?_; rintro e w' ⟨rfl, hw⟩; obtain rfl := hw.symm) | go_in)
    all_goals
      go_ret
      exact ⟨rfl, rfl⟩
  · -- up
    have e_isCtl : isCtl c = false := decide_eq_false (by omega)
    have e_blB : blB c = false := decide_eq_false (by omega)
    have e_dgB : dgB c = false := decide_eq_false (by omega)
    have e_ltB : ltB c = true := decide_eq_true (by omega)
    have e_prB : prB c = true := decide_eq_true (by omega)
    obtain ⟨s1, s2, s3, s4⟩ := sp_al (c := c) (by omega)
    rw [kindN, e_isCtl, e_blB, e_dgB, e_ltB, e_prB, s1, s2, s3, s4]
    rw [s1] at hS; rw [s2] at hW; rw [s3] at hA; rw [s4] at hB
    clear s1 s2 s3 s4
    have b9 : (c == 9) = false := beq_false_of_ne (by omega); have b32 : (c == 32) = false := beq_false_of_ne (by omega); have b127 : (c == 127) = false := beq_false_of_ne (by omega)
    clear e_isCtl e_blB e_dgB e_ltB e_prB
    go_enter Tryd.func50, Tryd.ntmps50
    go_wp2_with (first | (go_at_call 60; refine (hasV_any _ _ _ (by decide)).mono ?_; rintro e w' ⟨rfl, hw⟩; obtain rfl := hw.symm) | go_in)
    all_goals
      go_ret
      exact ⟨rfl, rfl⟩
  · -- lw
    have e_isCtl : isCtl c = false := decide_eq_false (by omega)
    have e_blB : blB c = false := decide_eq_false (by omega)
    have e_dgB : dgB c = false := decide_eq_false (by omega)
    have e_ltB : ltB c = true := decide_eq_true (by omega)
    have e_prB : prB c = true := decide_eq_true (by omega)
    obtain ⟨s1, s2, s3, s4⟩ := sp_al (c := c) (by omega)
    rw [kindN, e_isCtl, e_blB, e_dgB, e_ltB, e_prB, s1, s2, s3, s4]
    rw [s1] at hS; rw [s2] at hW; rw [s3] at hA; rw [s4] at hB
    clear s1 s2 s3 s4
    have b9 : (c == 9) = false := beq_false_of_ne (by omega); have b32 : (c == 32) = false := beq_false_of_ne (by omega); have b127 : (c == 127) = false := beq_false_of_ne (by omega)
    clear e_isCtl e_blB e_dgB e_ltB e_prB
    go_enter Tryd.func50, Tryd.ntmps50
    go_wp2_with (first | (go_at_call 60; refine (hasV_any _ _ _ (by decide)).mono ?_; rintro e w' ⟨rfl, hw⟩; obtain rfl := hw.symm) | go_in)
    all_goals
      go_ret
      exact ⟨rfl, rfl⟩
  · -- hi
    have e_isCtl : isCtl c = false := decide_eq_false (by omega)
    have e_blB : blB c = false := decide_eq_false (by omega)
    have e_dgB : dgB c = false := decide_eq_false (by omega)
    have e_ltB : ltB c = false := decide_eq_false (by omega)
    have e_prB : prB c = false := decide_eq_false (by omega)
    obtain ⟨s1, s2, s3, s4⟩ := sp_out (c := c) (by omega)
    rw [kindN, e_isCtl, e_blB, e_dgB, e_ltB, e_prB, s1, s2, s3, s4]
    rw [s1] at hS; rw [s2] at hW; rw [s3] at hA; rw [s4] at hB
    clear s1 s2 s3 s4
    have b9 : (c == 9) = false := beq_false_of_ne (by omega); have b32 : (c == 32) = false := beq_false_of_ne (by omega); have b127 : (c == 127) = false := beq_false_of_ne (by omega)
    clear e_isCtl e_blB e_dgB e_ltB e_prB
    go_enter Tryd.func50, Tryd.ntmps50
    go_wp2_with (first | (go_at_call 60; refine (hasV_any _ _ _ (by decide)).mono ?_; rintro e w' ⟨rfl, hw⟩; obtain rfl := hw.symm) | go_in)
    all_goals
      go_ret
      exact ⟨rfl, rfl⟩
  · -- pr
    have e_isCtl : isCtl c = false := decide_eq_false (by omega)
    have e_blB : blB c = false := decide_eq_false (by omega)
    have e_dgB : dgB c = false := decide_eq_false (by omega)
    have e_ltB : ltB c = false := decide_eq_false (by omega)
    have e_prB : prB c = true := decide_eq_true (by omega)
    rw [kindN, e_isCtl, e_blB, e_dgB, e_ltB, e_prB]
    generalize spB c = S at *; generalize wdB c = W at *; generalize naB c = A at *; generalize bsB c = B at *
    have b9 : (c == 9) = false := beq_false_of_ne (by omega); have b32 : (c == 32) = false := beq_false_of_ne (by omega); have b127 : (c == 127) = false := beq_false_of_ne (by omega)
    clear e_isCtl e_blB e_dgB e_ltB e_prB
    rcases S with _ | _ <;> rcases W with _ | _ <;> rcases A with _ | _ <;> rcases B with _ | _
    all_goals
      go_enter Tryd.func50, Tryd.ntmps50
      go_wp2_with (first | (go_at_call 60; refine (hasV_any _ _ _ (by decide)).mono ?_; rintro e w' ⟨rfl, hw⟩; obtain rfl := hw.symm) | go_in)
      all_goals
        go_ret
        exact ⟨rfl, rfl⟩
end Go.Proofs.YtcmiopkcgoanpaaDoor
namespace Go.Proofs.YtcmiopkcgoanpaaDoor
open Go.RowKit
set_option maxHeartbeats 4000000
set_option maxRecDepth 100000
theorem ris_any (c k : Int) (q : Bool) (w : World) (h0 : 0 ≤ c) (h1 : c < 256) (hq : (bits .and .i64 (kindN c) k != 0) = q) :
    Calls Tryd.prog 30 #[.int .u8 c, .int .i64 k] w fun e w' => e = .returned (.bool q) ∧ w' = w := by
  have hk := rkinds_any c w h0 h1
  generalize kindN c = K at *
  have HK := Lib.hid hk; have HQ := Lib.hid hq
  clear hk hq
  go_enter Tryd.func30, Tryd.ntmps30
  go_wp2_with (go_at_call 50; refine (HK.out).mono ?_; rintro e w' ⟨rfl, hw⟩; obtain rfl := hw.symm)
  go_ret
  exact ⟨ret_bool HQ.out, rfl⟩
end Go.Proofs.YtcmiopkcgoanpaaDoor
