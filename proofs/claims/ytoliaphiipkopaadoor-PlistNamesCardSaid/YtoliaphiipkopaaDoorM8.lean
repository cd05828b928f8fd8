/- Walks: direct signs, seven bits. · Walks: kinds of octets, whole: the program's and the reference's. · Plain: gaps, comments, dotted words, messages' names. · Plain: words between dots, cut one behind the other. · Plain: a message's name, laid and read. · Plain: a thread of messages' names. · Walks: tokens and blanks, told and counted. (laid together by program out of single texts). -/
import Derived.Test.YtoliaphiipkopaaDoorM4
import Derived.Test.YtoliaphiipkopaaDoorM6
import Derived.Test.YtoliaphiipkopaaDoorM7
namespace Go.Proofs.YtoliaphiipkopaaDoor
open Go.RowKit
set_option maxHeartbeats 2000000
theorem is24_any (c : Int) (w : World) (h0 : 0 ≤ c) (h1 : c < 256) :
    Calls Tryd.prog 44 #[.int .u8 c, .int .i64 24] w fun e w' => e = .returned (.bool (isAl c)) ∧ w' = w := by
  have hk := kinds_any c w h0 h1
  generalize isAl c = A at *
  have HK := Lib.hid hk; clear hk
  go_enter Tryd.func44, Tryd.ntmps44
  go_wp2_with (go_at_call 52; refine (HK.out).mono ?_; rintro e w' ⟨n, rfl, rfl, hA, _⟩)
  go_ret
  exact ⟨rfl, rfl⟩
theorem is1_any (c : Int) (w : World) (h0 : 0 ≤ c) (h1 : c < 256) :
    Calls Tryd.prog 44 #[.int .u8 c, .int .i64 1] w fun e w' => e = .returned (.bool (isCtl c)) ∧ w' = w := by
  have hk := kinds_any c w h0 h1
  generalize isCtl c = A at *
  have HK := Lib.hid hk; clear hk
  go_enter Tryd.func44, Tryd.ntmps44
  go_wp2_with (go_at_call 52; refine (HK.out).mono ?_; rintro e w' ⟨n, rfl, rfl, _, hA⟩)
  go_ret
  exact ⟨rfl, rfl⟩
def dirL : List Int := [39, 40, 41, 44, 45, 46, 47, 58, 63, 32, 9, 13, 10]
def dirB (c : Int) : Bool := isAl c || dirL.contains c
def sevB (c : Int) : Bool := decide (c ≤ 126 ∧ (32 ≤ c ∨ c = 9 ∨ c = 10 ∨ c = 13))
theorem idx_dir {c : Int} (h0 : 0 ≤ c) (h1 : c < 256) : decide (0 ≤ Lib.indexByte [39, 40, 41, 44, 45, 46, 47, 58, 63, 32, 9, 13, 10] c.toNat.toUInt8) = dirL.contains c := by
  have key : ∀ n : Nat, n < 256 → decide (0 ≤ Lib.indexByte [39, 40, 41, 44, 45, 46, 47, 58, 63, 32, 9, 13, 10] n.toUInt8) = dirL.contains (n : Int) := by decide +kernel
  have := key c.toNat (by omega)
  rwa [Int.toNat_of_nonneg h0] at this
theorem idx_lines {c : Int} (h0 : 0 ≤ c) (h1 : c < 256) : decide (Lib.indexByte [9, 13, 10] c.toNat.toUInt8 < 0) = !decide (c = 9 ∨ c = 10 ∨ c = 13) := by
  have key : ∀ n : Nat, n < 256 → decide (Lib.indexByte [9, 13, 10] n.toUInt8 < 0) = !decide ((n : Int) = 9 ∨ (n : Int) = 10 ∨ (n : Int) = 13) := by decide +kernel
  have := key c.toNat (by omega)
  rwa [Int.toNat_of_nonneg h0] at this
theorem sev_eq {c : Int} (h0 : 0 ≤ c) (h1 : c < 256) : sevB c = !(decide (128 ≤ c) || (isCtl c && !decide (c = 9 ∨ c = 10 ∨ c = 13))) := by
  rw [sevB, isCtl]
  by_cases a : c ≤ 126 ∧ (32 ≤ c ∨ c = 9 ∨ c = 10 ∨ c = 13)
  · rw [decide_eq_true a]
    by_cases b : c < 32 ∨ c = 127
    · rw [decide_eq_true b, decide_eq_false (show ¬ 128 ≤ c by omega), decide_eq_true (show c = 9 ∨ c = 10 ∨ c = 13 by omega)]; rfl
    · rw [decide_eq_false b, decide_eq_false (show ¬ 128 ≤ c by omega)]; rfl
  · rw [decide_eq_false a]
    by_cases b : 128 ≤ c
    · rw [decide_eq_true b]; rfl
    · rw [decide_eq_true (show c < 32 ∨ c = 127 by omega), decide_eq_false (show ¬ (c = 9 ∨ c = 10 ∨ c = 13) by omega), decide_eq_false b]; rfl
end Go.Proofs.YtoliaphiipkopaaDoor
namespace Go.Proofs.YtoliaphiipkopaaDoor
open Go.RowKit
set_option maxHeartbeats 4000000
set_option maxRecDepth 100000
def blB (c : Int) : Bool := decide (c = 32 ∨ c = 9)
def dgB (c : Int) : Bool := decide (48 ≤ c ∧ c ≤ 57)
def ltB (c : Int) : Bool := decide ((65 ≤ c ∧ c ≤ 90) ∨ (97 ≤ c ∧ c ≤ 122))
def prB (c : Int) : Bool := decide (33 ≤ c ∧ c ≤ 126)
def spB (c : Int) : Bool := [40, 41, 60, 62, 64, 44, 59, 58, 92, 34, 47, 91, 93, 63, 61].contains c
def wdB (c : Int) : Bool := [33, 42, 43, 45, 47].contains c
def naB (c : Int) : Bool := [42, 39, 37].contains c
def bsB (c : Int) : Bool := [43, 47].contains c
def b2i (b : Bool) (n : Int) : Int := if b then n else 0
def kindS (ct bl dg lt pr sp wd na bs : Bool) : Int :=
  b2i ct 1 + b2i bl 2 + b2i pr 4 + b2i dg 8 + b2i lt 16 + b2i sp 32 + b2i (pr && !sp) 64 + b2i (lt || (dg || wd)) 128 + b2i (pr && (!sp && !na)) 256 + b2i (lt || (dg || bs)) 512
def kindN (c : Int) : Int := kindS (isCtl c) (blB c) (dgB c) (ltB c) (prB c) (spB c) (wdB c) (naB c) (bsB c)
theorem kcl (c : Int) : (c = 9 ∨ c = 32 ∨ (c < 32 ∧ c ≠ 9) ∨ c = 127 ∨ (48 ≤ c ∧ c ≤ 57) ∨ (65 ≤ c ∧ c ≤ 90) ∨ (97 ≤ c ∧ c ≤ 122) ∨ 127 < c ∨ (32 < c ∧ c < 127 ∧ ¬ (48 ≤ c ∧ c ≤ 57) ∧ ¬ (65 ≤ c ∧ c ≤ 90) ∧ ¬ (97 ≤ c ∧ c ≤ 122))) := by
  omega
theorem sp_al {c : Int} (h : (48 ≤ c ∧ c ≤ 57) ∨ (65 ≤ c ∧ c ≤ 90) ∨ (97 ≤ c ∧ c ≤ 122)) : spB c = false ∧ wdB c = false ∧ naB c = false ∧ bsB c = false := by
  refine ⟨?_, ?_, ?_, ?_⟩ <;> (simp only [spB, wdB, naB, bsB, List.contains_eq_mem, decide_eq_false_iff_not, List.mem_cons, List.not_mem_nil, or_false]; omega)
theorem sp_out {c : Int} (h : c < 33 ∨ 126 < c) : spB c = false ∧ wdB c = false ∧ naB c = false ∧ bsB c = false := by
  refine ⟨?_, ?_, ?_, ?_⟩ <;> (simp only [spB, wdB, naB, bsB, List.contains_eq_mem, decide_eq_false_iff_not, List.mem_cons, List.not_mem_nil, or_false]; omega)
theorem idx_in (l : List UInt8) (zs : List Int) (h : ∀ n : Nat, n < 256 → decide (0 ≤ Lib.indexByte l n.toUInt8) = zs.contains (n : Int)) {c : Int} (h0 : 0 ≤ c) (h1 : c < 256) : decide (0 ≤ Lib.indexByte l c.toNat.toUInt8) = zs.contains c := by
  have := h c.toNat (by omega)
  rwa [Int.toNat_of_nonneg h0] at this
def inV (s : ByteArray) (c : Int) : Bool := decide (0 ≤ Lib.indexByte s.data.toList c.toNat.toUInt8)
theorem inV_any (s : ByteArray) (c : Int) (w : World) :
    Calls Tryd.prog 59 #[.string s, .int .u8 c] w fun e w' => e = .returned (.bool (inV s c)) ∧ w' = w := by
  have hs := sIndexByte_any s c w
  unfold inV
  generalize Lib.indexByte s.data.toList c.toNat.toUInt8 = n at *
  have HS := Lib.hid hs
  clear hs
  go_enter Tryd.func59, Tryd.ntmps59
  go_wp2_with (go_at_call 65; refine (HS.out).mono ?_; rintro e w' ⟨rfl, hw⟩; obtain rfl := hw.symm)
  go_ret
  exact ⟨rfl, rfl⟩
theorem keyS : ∀ n : Nat, n < 256 → decide (0 ≤ Lib.indexByte [40, 41, 60, 62, 64, 44, 59, 58, 92, 34, 47, 91, 93, 63, 61] n.toUInt8) = ([40, 41, 60, 62, 64, 44, 59, 58, 92, 34, 47, 91, 93, 63, 61] : List Int).contains (n : Int) := by decide +kernel
theorem keyW : ∀ n : Nat, n < 256 → decide (0 ≤ Lib.indexByte [33, 42, 43, 45, 47] n.toUInt8) = ([33, 42, 43, 45, 47] : List Int).contains (n : Int) := by decide +kernel
theorem keyA : ∀ n : Nat, n < 256 → decide (0 ≤ Lib.indexByte [42, 39, 37] n.toUInt8) = ([42, 39, 37] : List Int).contains (n : Int) := by decide +kernel
theorem keyB : ∀ n : Nat, n < 256 → decide (0 ≤ Lib.indexByte [43, 47] n.toUInt8) = ([43, 47] : List Int).contains (n : Int) := by decide +kernel
theorem okinds_any (c : Int) (w : World) (h0 : 0 ≤ c) (h1 : c < 256) :
    Calls Tryd.prog 52 #[.int .u8 c] w fun e w' => e = .returned (.int .i64 (kindN c)) ∧ w' = w := by
  have hS : inV ⟨#[40, 41, 60, 62, 64, 44, 59, 58, 92, 34, 47, 91, 93, 63, 61]⟩ c = spB c := (idx_in _ _ keyS h0 h1)
  have hW : inV ⟨#[33, 42, 43, 45, 47]⟩ c = wdB c := (idx_in _ _ keyW h0 h1)
  have hA : inV ⟨#[42, 39, 37]⟩ c = naB c := (idx_in _ _ keyA h0 h1)
  have hB : inV ⟨#[43, 47]⟩ c = bsB c := (idx_in _ _ keyB h0 h1)
  rcases kcl c with rfl | rfl | hc | rfl | hc | hc | hc | hc | hc
  · -- c9
    have e0 : kindN 9 = _ := rfl
    have e_isCtl : isCtl 9 = true := by decide
    have e_blB : blB 9 = true := by decide
    have e_dgB : dgB 9 = false := by decide
    have e_ltB : ltB 9 = false := by decide
    have e_prB : prB 9 = false := by decide
    obtain ⟨s1, s2, s3, s4⟩ := sp_out (c := 9) (by omega)
    rw [kindN, e_isCtl, e_blB, e_dgB, e_ltB, e_prB, s1, s2, s3, s4]
    rw [s1] at hS; rw [s2] at hW; rw [s3] at hA; rw [s4] at hB
    clear s1 s2 s3 s4
    clear e0 e_isCtl e_blB e_dgB e_ltB e_prB
    go_enter Tryd.func52, Tryd.ntmps52
    go_wp2_with (first | (go_at_call 59; refine (inV_any _ _ _).mono ?_; rintro e w' ⟨rfl, hw⟩; obtain rfl := hw.symm) | go_in)
    all_goals
      go_ret
      exact ⟨rfl, rfl⟩
  · -- c32
    have e0 : kindN 32 = _ := rfl
    have e_isCtl : isCtl 32 = false := by decide
    have e_blB : blB 32 = true := by decide
    have e_dgB : dgB 32 = false := by decide
    have e_ltB : ltB 32 = false := by decide
    have e_prB : prB 32 = false := by decide
    obtain ⟨s1, s2, s3, s4⟩ := sp_out (c := 32) (by omega)
    rw [kindN, e_isCtl, e_blB, e_dgB, e_ltB, e_prB, s1, s2, s3, s4]
    rw [s1] at hS; rw [s2] at hW; rw [s3] at hA; rw [s4] at hB
    clear s1 s2 s3 s4
    clear e0 e_isCtl e_blB e_dgB e_ltB e_prB
    go_enter Tryd.func52, Tryd.ntmps52
    go_wp2_with (first | (go_at_call 59; refine (inV_any _ _ _).mono ?_; rintro e w' ⟨rfl, hw⟩; obtain rfl := hw.symm) | go_in)
    all_goals
      go_ret
      exact ⟨rfl, rfl⟩
  · -- lo
    have e0 : kindN c = _ := rfl
    have e_isCtl : isCtl c = true := decide_eq_true (by omega)
    have e_blB : blB c = false := decide_eq_false (by omega)
    have e_dgB : dgB c = false := decide_eq_false (by omega)
    have e_ltB : ltB c = false := decide_eq_false (by omega)
    have e_prB : prB c = false := decide_eq_false (by omega)
    obtain ⟨s1, s2, s3, s4⟩ := sp_out (c := c) (by omega)
    rw [kindN, e_isCtl, e_blB, e_dgB, e_ltB, e_prB, s1, s2, s3, s4]
    rw [s1] at hS; rw [s2] at hW; rw [s3] at hA; rw [s4] at hB
    clear s1 s2 s3 s4
    have b9 : (c == 9) = false := beq_false_of_ne (by omega); have b32 : (c == 32) = false := beq_false_of_ne (by omega); have b127 : (c == 127) = false := beq_false_of_ne (by omega)
    clear e0 e_isCtl e_blB e_dgB e_ltB e_prB
    go_enter Tryd.func52, Tryd.ntmps52
    go_wp2_with (first | (go_at_call 59; refine (inV_any _ _ _).mono ?_; rintro e w' ⟨rfl, hw⟩; obtain rfl := hw.symm) | go_in)
    all_goals
      go_ret
      exact ⟨rfl, rfl⟩
  · -- c127
    have e0 : kindN 127 = _ := rfl
    have e_isCtl : isCtl 127 = true := by decide
    have e_blB : blB 127 = false := by decide
    have e_dgB : dgB 127 = false := by decide
    have e_ltB : ltB 127 = false := by decide
    have e_prB : prB 127 = false := by decide
    obtain ⟨s1, s2, s3, s4⟩ := sp_out (c := 127) (by omega)
    rw [kindN, e_isCtl, e_blB, e_dgB, e_ltB, e_prB, s1, s2, s3, s4]
    rw [s1] at hS; rw [s2] at hW; rw [s3] at hA; rw [s4] at hB
    clear s1 s2 s3 s4
    clear e0 e_isCtl e_blB e_dgB e_ltB e_prB
    go_enter Tryd.func52, Tryd.ntmps52
    go_wp2_with (first | (go_at_call 59; refine (inV_any _ _ _).mono ?_; rintro e w' ⟨rfl, hw⟩; obtain rfl := hw.symm) | go_in)
    all_goals
      go_ret
      exact ⟨rfl, rfl⟩
  · -- dg
    have e0 : kindN c = _ := rfl
    have e_isCtl : isCtl c = false := decide_eq_false (by omega)
    have e_blB : blB c = false := decide_eq_false (by omega)
    have e_dgB : dgB c = true := decide_eq_true (by omega)
    have e_ltB : ltB c = false := decide_eq_false (by omega)
    have e_prB : prB c = true := decide_eq_true (by omega)
    obtain ⟨s1, s2, s3, s4⟩ := sp_al (c := c) (by omega)
    rw [kindN, e_isCtl, e_blB, e_dgB, e_ltB, e_prB, s1, s2, s3, s4]
    rw [s1] at hS; rw [s2] at hW; rw [s3] at hA; rw [s4] at hB
    clear s1 s2 s3 s4
    have b9 : (c == 9) = false := beq_false_of_ne (by omega); have b32 : (c == 32) = false := beq_false_of_ne (by omega); have b127 : (c == 127) = false := beq_false_of_ne (by omega)
    clear e0 e_isCtl e_blB e_dgB e_ltB e_prB
    go_enter Tryd.func52, Tryd.ntmps52
    go_wp2_with (first | (go_at_call 59; refine (inV_any _ _ _).mono ?_; rintro e w' ⟨rfl, hw⟩; obtain rfl := hw.symm) | go_in)
    all_goals
      go_ret
      exact ⟨rfl, rfl⟩
  · -- up
    have e0 : kindN c = _ := rfl
    have e_isCtl : isCtl c = false := decide_eq_false (by omega)
    have e_blB : blB c = false := decide_eq_false (by omega)
    have e_dgB : dgB c = false := decide_eq_false (by omega)
    have e_ltB : ltB c = true := decide_eq_true (by omega)
    have e_prB : prB c = true := decide_eq_true (by omega)
    obtain ⟨s1, s2, s3, s4⟩ := sp_al (c := c) (by omega)
    rw [kindN, e_isCtl, e_blB, e_dgB, e_ltB, e_prB, s1, s2, s3, s4]
    rw [s1] at hS; rw [s2] at hW; rw [s3] at hA; rw [s4] at hB
    clear s1 s2 s3 s4
    have b9 : (c == 9) = false := beq_false_of_ne (by omega); have b32 : (c == 32) = false := beq_false_of_ne (by omega); have b127 : (c == 127) = false := beq_false_of_ne (by omega)
    clear e0 e_isCtl e_blB e_dgB e_ltB e_prB
    go_enter Tryd.func52, Tryd.ntmps52
    go_wp2_with (first | (go_at_call 59; refine (inV_any _ _ _).mono ?_; rintro e w' ⟨rfl, hw⟩; obtain rfl := hw.symm) | go_in)
    all_goals
      go_ret
      exact ⟨rfl, rfl⟩
  · -- lw
    have e0 : kindN c = _ := rfl
    have e_isCtl : isCtl c = false := decide_eq_false (by omega)
    have e_blB : blB c = false := decide_eq_false (by omega)
    have e_dgB : dgB c = false := decide_eq_false (by omega)
    have e_ltB : ltB c = true := decide_eq_true (by omega)
    have e_prB : prB c = true := decide_eq_true (by omega)
    obtain ⟨s1, s2, s3, s4⟩ := sp_al (c := c) (by omega)
    rw [kindN, e_isCtl, e_blB, e_dgB, e_ltB, e_prB, s1, s2, s3, s4]
    rw [s1] at hS; rw [s2] at hW; rw [s3] at hA; rw [s4] at hB
    clear s1 s2 s3 s4
    have b9 : (c == 9) = false := beq_false_of_ne (by omega); have b32 : (c == 32) = false := beq_false_of_ne (by omega); have b127 : (c == 127) = false := beq_false_of_ne (by omega)
    clear e0 e_isCtl e_blB e_dgB e_ltB e_prB
    go_enter Tryd.func52, Tryd.ntmps52
    go_wp2_with (first | (go_at_call 59; refine (inV_any _ _ _).mono ?_; rintro e w' ⟨rfl, hw⟩; obtain rfl := hw.symm) | go_in)
    all_goals
      go_ret
      exact ⟨rfl, rfl⟩
  · -- hi
    have e0 : kindN c = _ := rfl
    have e_isCtl : isCtl c = false := decide_eq_false (by omega)
    have e_blB : blB c = false := decide_eq_false (by omega)
    have e_dgB : dgB c = false := decide_eq_false (by omega)
    have e_ltB : ltB c = false := decide_eq_false (by omega)
    have e_prB : prB c = false := decide_eq_false (by omega)
    obtain ⟨s1, s2, s3, s4⟩ := sp_out (c := c) (by omega)
    rw [kindN, e_isCtl, e_blB, e_dgB, e_ltB, e_prB, s1, s2, s3, s4]
    rw [s1] at hS; rw [s2] at hW; rw [s3] at hA; rw [s4] at hB
    clear s1 s2 s3 s4
    have b9 : (c == 9) = false := beq_false_of_ne (by omega); have b32 : (c == 32) = false := beq_false_of_ne (by omega); have b127 : (c == 127) = false := beq_false_of_ne (by omega)
    clear e0 e_isCtl e_blB e_dgB e_ltB e_prB
    go_enter Tryd.func52, Tryd.ntmps52
    go_wp2_with (first | (go_at_call 59; refine (inV_any _ _ _).mono ?_; rintro e w' ⟨rfl, hw⟩; obtain rfl := hw.symm) | go_in)
    all_goals
      go_ret
      exact ⟨rfl, rfl⟩
  · -- pr
    have e0 : kindN c = _ := rfl
    have e_isCtl : isCtl c = false := decide_eq_false (by omega)
    have e_blB : blB c = false := decide_eq_false (by omega)
    have e_dgB : dgB c = false := decide_eq_false (by omega)
    have e_ltB : ltB c = false := decide_eq_false (by omega)
    have e_prB : prB c = true := decide_eq_true (by omega)
    rw [kindN, e_isCtl, e_blB, e_dgB, e_ltB, e_prB]
    generalize spB c = S at *; generalize wdB c = W at *; generalize naB c = A at *; generalize bsB c = B at *
    have b9 : (c == 9) = false := beq_false_of_ne (by omega); have b32 : (c == 32) = false := beq_false_of_ne (by omega); have b127 : (c == 127) = false := beq_false_of_ne (by omega)
    clear e0 e_isCtl e_blB e_dgB e_ltB e_prB
    rcases S with _ | _ <;> rcases W with _ | _ <;> rcases A with _ | _ <;> rcases B with _ | _
    all_goals
      go_enter Tryd.func52, Tryd.ntmps52
      go_wp2_with (first | (go_at_call 59; refine (inV_any _ _ _).mono ?_; rintro e w' ⟨rfl, hw⟩; obtain rfl := hw.symm) | go_in)
      all_goals
        go_ret
        exact ⟨rfl, rfl⟩
end Go.Proofs.YtoliaphiipkopaaDoor
namespace Go.Proofs.YtoliaphiipkopaaDoor
def tokB (c : Int) : Bool := prB c && !spB c
/-- How many octets a comment has, so deep, the next octet taken or not. -/
def cmt : Int → Bool → List Int → Nat
  | _, _, [] => 0
  | d, t, c :: r => if t = true then 1 + cmt d false r else if c = 92 then 1 + cmt d true r else if c = 40 then 1 + cmt (d + 1) false r else if c = 41 then (if d - 1 = 0 then 1 else 1 + cmt (d - 1) false r) else 1 + cmt d false r
theorem cmt_len : ∀ (xs : List Int) (d : Int) (t : Bool), cmt d t xs ≤ xs.length
  | [], _, _ => Nat.le_refl _
  | c :: r, d, t => by
    have h := fun d t => cmt_len r d t
    rw [cmt, List.length_cons]
    split
    · have := h d false; omega
    · split
      · have := h d true; omega
      · split
        · have := h (d + 1) false; omega
        · split
          · split
            · omega
            · have := h (d - 1) false; omega
          · have := h d false; omega
theorem cmt_pos (c : Int) (r : List Int) (d : Int) (t : Bool) : 1 ≤ cmt d t (c :: r) := by
  rw [cmt]
  split
  · omega
  · split
    · omega
    · split
      · omega
      · split
        · split <;> omega
        · omega
/-- How many octets a gap has. -/
def gp : List Int → Nat
  | [] => 0
  | c :: r => if c = 40 then cmt 0 false (c :: r) + gp ((c :: r).drop (cmt 0 false (c :: r))) else if c = 13 ∨ c = 10 ∨ blB c = true then 1 + gp r else 0
termination_by xs => xs.length
decreasing_by
  · have := cmt_pos c r 0 false
    simp only [List.length_drop, List.length_cons]; omega
  · simp
theorem gp_nil : gp [] = 0 := by rw [gp]
theorem gp_cons (c : Int) (r : List Int) : gp (c :: r) = if c = 40 then cmt 0 false (c :: r) + gp ((c :: r).drop (cmt 0 false (c :: r))) else if c = 13 ∨ c = 10 ∨ blB c = true then 1 + gp r else 0 := by rw [gp]
theorem gp_le : ∀ (n : Nat) (xs : List Int), xs.length ≤ n → gp xs ≤ xs.length
  | 0, xs, h => by obtain rfl : xs = [] := List.eq_nil_of_length_eq_zero (by omega); rw [gp_nil]; omega
  | n + 1, [], _ => by rw [gp_nil]; omega
  | n + 1, c :: r, h => by
    rw [gp_cons]
    have h1 := cmt_len (c :: r) 0 false
    have h2 := cmt_pos c r 0 false
    simp only [List.length_cons] at h h1 ⊢
    split
    · have := gp_le n ((c :: r).drop (cmt 0 false (c :: r))) (by simp only [List.length_drop, List.length_cons]; omega)
      simp only [List.length_drop, List.length_cons] at this
      omega
    · split
      · have := gp_le n r (by omega); omega
      · omega
theorem gp_len (xs : List Int) : gp xs ≤ xs.length := gp_le _ xs (Nat.le_refl _)
/-- Words between dots. -/
def pcs : List Int → List (List Int)
  | [] => [[]]
  | c :: r => if c = 46 then [] :: pcs r else match pcs r with
    | [] => [[c]]
    | p :: l => (c :: p) :: l
def okP (p : List Int) : Bool := decide (0 < p.length) && p.all tokB
def dotB (xs : List Int) : Bool := (pcs xs).all okP
def dotR : Nat → List Int → Bool
  | n, [] => decide (0 < n)
  | n, c :: r => if c = 46 then decide (0 < n) && dotR 0 r else tokB c && dotR (n + 1) r
theorem pcs_ne (xs : List Int) : ∃ p l, pcs xs = p :: l := by
  cases xs with
  | nil => exact ⟨_, _, rfl⟩
  | cons c r =>
    rw [pcs]; split
    · exact ⟨_, _, rfl⟩
    · split <;> exact ⟨_, _, rfl⟩
theorem dotR_eq : ∀ (xs : List Int) (n : Nat) (p : List Int) (l : List (List Int)), pcs xs = p :: l → dotR n xs = (decide (0 < n + p.length) && (p.all tokB && l.all okP))
  | [], n, p, l, h => by
    rw [pcs] at h
    cases h
    simp [dotR]
  | c :: r, n, p, l, h => by
    obtain ⟨p2, l2, h2⟩ := pcs_ne r
    rw [pcs] at h
    rw [dotR]
    split
    · rename_i hc
      rw [if_pos hc, h2] at h
      cases h
      rw [dotR_eq r 0 p2 l2 h2]
      simp [okP, Bool.and_assoc]
    · rename_i hc
      rw [if_neg hc, h2] at h
      simp only at h
      cases h
      rw [dotR_eq r (n + 1) _ _ h2]
      have e1 : decide (0 < n + 1 + p2.length) = true := decide_eq_true (by omega)
      have e2 : decide (0 < n + (c :: p2).length) = true := decide_eq_true (by simp only [List.length_cons]; omega)
      rw [e1, e2, Bool.true_and, Bool.true_and, List.all_cons, Bool.and_assoc]
theorem dotR_dot (xs : List Int) : dotR 0 xs = dotB xs := by
  obtain ⟨p, l, h⟩ := pcs_ne xs
  rw [dotR_eq xs 0 p l h, dotB, h, List.all_cons, okP, Nat.zero_add, Bool.and_assoc]
/-- What stands ahead of an octet. -/
def tw (c : Int) (xs : List Int) : List Int := xs.takeWhile (fun y => y != c)
theorem tw_len (c : Int) (xs : List Int) : (tw c xs).length ≤ xs.length := by
  rw [tw]; exact (List.takeWhile_sublist _).length_le
theorem tw_lt {c : Int} : ∀ {xs : List Int}, xs.contains c = true → (tw c xs).length < xs.length
  | [], h => by simp at h
  | y :: r, h => by
    rw [tw, List.takeWhile_cons]
    split
    · rename_i hy
      have hc : r.contains c = true := by
        simp only [List.contains_cons, Bool.or_eq_true] at h
        rcases h with h | h
        · simp at h hy; exact absurd h.symm hy
        · exact h
      have := tw_lt hc
      rw [tw] at this
      simp only [List.length_cons]; omega
    · simp
theorem tw_take {c : Int} : ∀ (xs : List Int), tw c xs = xs.take (tw c xs).length
  | [] => rfl
  | y :: r => by
    rw [tw, List.takeWhile_cons]
    split
    · have := tw_take (c := c) r
      rw [tw] at this
      rw [List.length_cons, List.take_succ_cons, ← this]
    · rfl
/-- A message's name that octets are: its parts, and the error. -/
def readM (xs : List Int) : List Int × List Int × Int :=
  let y := xs.drop (gp xs)
  if y.length = 0 then ([], [], 4)
  else if y.contains 62 = false then ([], [], 3)
  else match tw 62 y with
    | [] => ([], [], 3)
    | c :: i =>
      if c ≠ 60 ∨ i.contains 64 = false then ([], [], 3)
      else if gp (y.drop ((tw 62 y).length + 1)) ≠ (y.drop ((tw 62 y).length + 1)).length then ([], [], 3)
      else if (dotB (tw 64 i) && dotB (i.drop ((tw 64 i).length + 1))) = false then ([], [], 3)
      else if 250 < (tw 64 i).length + (i.drop ((tw 64 i).length + 1)).length + 3 then ([], [], 12)
      else (tw 64 i, i.drop ((tw 64 i).length + 1), 0)
/-- How many octets of a list stand up to a name's end. -/
def ndM (y : List Int) : Nat := if y.contains 62 = true then (tw 62 y).length + 1 else y.length
theorem ndM_pos {y : List Int} (h : y.length ≠ 0) : 1 ≤ ndM y := by
  unfold ndM; split <;> omega
theorem ndM_le (y : List Int) : ndM y ≤ y.length := by
  unfold ndM; split
  · rename_i h; have := tw_lt h; omega
  · omega
/-- The names of a list, and how many are odd. -/
def listM (xs : List Int) : List (List Int × List Int) × Nat :=
  if h : (xs.drop (gp xs)).length = 0 then ([], 0)
  else
    let t := listM ((xs.drop (gp xs)).drop (ndM (xs.drop (gp xs))))
    let x := readM ((xs.drop (gp xs)).take (ndM (xs.drop (gp xs))))
    if x.2.2 = 0 then ((x.1, x.2.1) :: t.1, t.2) else (t.1, t.2 + 1)
termination_by xs.length
decreasing_by
  have := ndM_pos h
  simp only [List.length_drop] at h this ⊢; omega
end Go.Proofs.YtoliaphiipkopaaDoor
namespace Go.Proofs.YtoliaphiipkopaaDoor
theorem pcs_yes : ∀ {xs : List Int}, xs.contains 46 = true → pcs xs = tw 46 xs :: pcs (xs.drop ((tw 46 xs).length + 1))
  | [], h => by simp at h
  | y :: r, h => by
    rw [pcs]
    by_cases hy : y = 46
    · subst hy
      rw [if_pos rfl]
      simp [tw]
    · rw [if_neg hy]
      have hc : r.contains 46 = true := by
        simp only [List.contains_cons, Bool.or_eq_true] at h
        rcases h with h | h
        · simp at h; exact absurd h.symm hy
        · exact h
      have e2 : tw 46 (y :: r) = y :: tw 46 r := by simp [tw, hy]
      rw [pcs_yes hc, e2]
      simp
theorem pcs_no : ∀ {xs : List Int}, xs.contains 46 = false → pcs xs = [xs]
  | [], _ => rfl
  | y :: r, h => by
    simp only [List.contains_cons, Bool.or_eq_false_iff] at h
    have hy : ¬ y = 46 := fun h9 => by subst h9; simp at h
    rw [pcs, if_neg hy, pcs_no h.2]
theorem count_yes {c : Int} : ∀ {xs : List Int}, xs.contains c = true → xs.count c = 1 + (xs.drop ((tw c xs).length + 1)).count c
  | [], h => by simp at h
  | y :: r, h => by
    by_cases hy : y = c
    · subst hy
      simp [tw]; omega
    · have hc : r.contains c = true := by
        simp only [List.contains_cons, Bool.or_eq_true] at h
        rcases h with h | h
        · simp at h; exact absurd h.symm hy
        · exact h
      have e2 : tw c (y :: r) = y :: tw c r := by simp [tw, hy]
      rw [e2, List.count_cons_of_ne hy, count_yes hc]
      simp
theorem count_has {c : Int} {xs : List Int} : xs.contains c = decide (0 < xs.count c) := by
  rw [Bool.eq_iff_iff]
  simp [List.count_pos_iff]
theorem pcs_len (xs : List Int) : (pcs xs).length = xs.count 46 + 1 := by
  induction xs with
  | nil => rfl
  | cons y r ih =>
    rw [pcs]
    by_cases hy : y = 46
    · subst hy
      rw [if_pos rfl]
      simp [ih]
    · rw [if_neg hy]
      obtain ⟨p, l, h⟩ := pcs_ne r
      rw [h] at ih ⊢
      simp [hy] at ih ⊢
      exact ih
end Go.Proofs.YtoliaphiipkopaaDoor
namespace Go.Proofs.YtoliaphiipkopaaDoor
def textM (L R : List Int) : List Int := 60 :: (L ++ 64 :: (R ++ [62]))
def layM (L R : List Int) : List Int × Int := if (dotB L && dotB R) = false then ([], 3) else if 250 < (textM L R).length then ([], 12) else (textM L R, 0)
theorem textM_len (L R : List Int) : (textM L R).length = L.length + R.length + 3 := by simp [textM]; omega
theorem dotR_tok : ∀ (xs : List Int) (n : Nat), dotR n xs = true → ∀ x ∈ xs, tokB x = true
  | [], _, _, x, hx => by simp at hx
  | c :: r, n, h, x, hx => by
    rw [dotR] at h
    by_cases hc : c = 46
    · subst hc
      rw [if_pos rfl, Bool.and_eq_true] at h
      rcases List.mem_cons.1 hx with rfl | hx
      · decide
      · exact dotR_tok r 0 h.2 x hx
    · rw [if_neg hc, Bool.and_eq_true] at h
      rcases List.mem_cons.1 hx with rfl | hx
      · exact h.1
      · exact dotR_tok r (n + 1) h.2 x hx
theorem dotB_tok {xs : List Int} (h : dotB xs = true) : ∀ x ∈ xs, tokB x = true := dotR_tok xs 0 (by rw [dotR_dot]; exact h)
theorem dotB_not {xs : List Int} (h : dotB xs = true) {c : Int} (hc : tokB c = false) : ∀ x ∈ xs, x ≠ c := fun x hx h9 => by
  have := dotB_tok h x hx
  rw [h9, hc] at this; cases this
theorem tw_app {c : Int} {B : List Int} : ∀ {A : List Int}, (∀ x ∈ A, x ≠ c) → tw c (A ++ c :: B) = A
  | [], _ => by simp [tw]
  | y :: A, h => by
    have hy := h y (by simp)
    have ih := tw_app (c := c) (B := B) (A := A) (fun x hx => h x (by simp [hx]))
    rw [tw] at ih ⊢
    rw [List.cons_append, List.takeWhile_cons, if_pos (by simpa using hy), ih]
theorem gp_60 (r : List Int) : gp (60 :: r) = 0 := by
  rw [gp_cons, if_neg (by decide), if_neg (by decide)]
theorem text_tw62 {L R : List Int} (hL : dotB L = true) (hR : dotB R = true) (B : List Int) : tw 62 (60 :: (L ++ 64 :: (R ++ 62 :: B))) = 60 :: (L ++ 64 :: R) := by
  have : (60 : Int) :: (L ++ 64 :: (R ++ 62 :: B)) = (60 :: (L ++ 64 :: R)) ++ 62 :: B := by simp
  rw [this]
  refine tw_app fun x hx => ?_
  simp only [List.mem_cons, List.mem_append] at hx
  rcases hx with rfl | hx | rfl | hx
  · decide
  · exact dotB_not hL (by decide) x hx
  · decide
  · exact dotB_not hR (by decide) x hx
theorem read_text {L R : List Int} (hL : dotB L = true) (hR : dotB R = true) (hl : L.length + R.length + 3 ≤ 250) : readM (textM L R) = (L, R, 0) := by
  have h62 := text_tw62 hL hR []
  have h64 : tw 64 (L ++ 64 :: R) = L := tw_app (dotB_not hL (by decide))
  have hd : (L ++ 64 :: R).drop (L.length + 1) = R := by
    rw [List.drop_append]; simp
  have hc : (60 :: (L ++ 64 :: (R ++ [62]))).contains (62 : Int) = true := by simp
  have hc4 : (L ++ 64 :: R).contains (64 : Int) = true := by simp
  have hrest : (60 :: (L ++ 64 :: (R ++ [(62 : Int)]))).drop ((60 :: (L ++ 64 :: R) : List Int).length + 1) = [] := by
    apply List.drop_eq_nil_of_le
    simp; omega
  unfold readM
  simp only [textM, gp_60, List.drop_zero]
  rw [if_neg (by simp), if_neg (by rw [hc]; decide), h62]
  simp only []
  rw [if_neg (by rw [hc4]; decide), hrest, if_neg (by rw [gp_nil]; decide), h64, hd, if_neg (by rw [hL, hR]; decide), if_neg (by omega)]
theorem nd_text {L R : List Int} (hL : dotB L = true) (hR : dotB R = true) (B : List Int) : ndM (textM L R ++ B) = (textM L R).length := by
  have e : textM L R ++ B = 60 :: (L ++ 64 :: (R ++ 62 :: B)) := by simp [textM]
  rw [e, ndM, if_pos (by simp), text_tw62 hL hR B]
  simp [textM]; omega
theorem list_text {L R : List Int} (hL : dotB L = true) (hR : dotB R = true) (hl : L.length + R.length + 3 ≤ 250) (B : List Int) : listM (textM L R ++ B) = ((L, R) :: (listM B).1, (listM B).2) := by
  have hg : gp (textM L R ++ B) = 0 := by
    have e : textM L R ++ B = 60 :: (L ++ 64 :: (R ++ 62 :: B)) := by simp [textM]
    rw [e, gp_60]
  have hn := nd_text hL hR B
  rw [listM]
  rw [hg, List.drop_zero, hn]
  rw [dif_neg (by simp [textM])]
  simp only [List.take_left, List.drop_left, read_text hL hR hl, if_pos]
theorem list_nil : listM [] = ([], 0) := by
  rw [listM, gp_nil, dif_pos (by simp)]
theorem list_gap (xs : List Int) : listM (32 :: xs) = listM xs := by
  have h : gp (32 :: xs) = 1 + gp xs := by rw [gp_cons, if_neg (by decide), if_pos (by decide)]
  have e : (32 :: xs).drop (1 + gp xs) = xs.drop (gp xs) := by rw [Nat.add_comm]; rfl
  rw [listM, h, e]
  conv => rhs; rw [listM]
theorem list_two {L R : List Int} (hL : dotB L = true) (hR : dotB R = true) (hl : L.length + R.length + 3 ≤ 250) : listM (textM L R ++ 32 :: textM L R) = ([(L, R), (L, R)], 0) := by
  rw [list_text hL hR hl, list_gap]
  have h := list_text hL hR hl []
  rw [List.append_nil, list_nil] at h
  rw [h]
end Go.Proofs.YtoliaphiipkopaaDoor
namespace Go.Proofs.YtoliaphiipkopaaDoor
def lowC (c : Int) : Int := if 65 ≤ c ∧ c ≤ 90 then c + 32 else c
def samM (a b : List Int × List Int) : Bool := decide (a.1 = b.1) && decide (a.2.map lowC = b.2.map lowC)
theorem samM_comm (a b : List Int × List Int) : samM a b = samM b a := by
  rw [samM, samM, Bool.eq_iff_iff]
  simp only [Bool.and_eq_true, decide_eq_true_eq]
  exact ⟨fun h => ⟨h.1.symm, h.2.symm⟩, fun h => ⟨h.1.symm, h.2.symm⟩⟩
theorem samM_refl (a : List Int × List Int) : samM a a = true := by simp [samM]
theorem samM_trans {a b c : List Int × List Int} (h1 : samM a b = true) (h2 : samM b c = true) : samM a c = true := by
  simp only [samM, Bool.and_eq_true, decide_eq_true_eq] at *
  exact ⟨h1.1.trans h2.1, h1.2.trans h2.2⟩
theorem samM_left {a b c : List Int × List Int} (h : samM a b = true) : samM a c = samM b c := by
  cases hc : samM b c with
  | true => exact samM_trans h hc
  | false =>
    cases ha : samM a c with
    | false => rfl
    | true =>
      have := samM_trans ((samM_comm b a).trans h) ha
      rw [hc] at this; exact this.symm
def stepT (out : List (List Int × List Int)) (y : List Int × List Int) : List (List Int × List Int) := out.filter (fun z => !samM y z) ++ [y]
/-- The names that are no more there behind. -/
def thR : List (List Int × List Int) → List (List Int × List Int)
  | [] => []
  | a :: r => if r.any (samM a) = true then thR r else a :: thR r
theorem thR_sub : ∀ (l : List (List Int × List Int)) (z : List Int × List Int), z ∈ thR l → z ∈ l
  | [], _, h => by simp [thR] at h
  | a :: r, z, h => by
    rw [thR] at h
    split at h
    · exact List.mem_cons_of_mem _ (thR_sub r z h)
    · rcases List.mem_cons.1 h with rfl | h
      · exact List.mem_cons_self
      · exact List.mem_cons_of_mem _ (thR_sub r z h)
theorem thR_snoc (y : List Int × List Int) : ∀ l : List (List Int × List Int), thR (l ++ [y]) = stepT (thR l) y
  | [] => by simp [thR, stepT]
  | a :: r => by
    have ih := thR_snoc y r
    rw [List.cons_append, thR, thR, ih, List.any_append]
    have e : [y].any (samM a) = samM a y := by simp
    rw [e]
    cases h1 : r.any (samM a) with
    | true => simp [stepT]
    | false =>
      cases h2 : samM a y with
      | true =>
        have h3 : samM y a = true := (samM_comm y a).trans h2
        simp [stepT, h3]
      | false =>
        have h3 : samM y a = false := (samM_comm y a).trans h2
        simp [stepT, h3]
theorem thR_fold (l : List (List Int × List Int)) : ∀ (m : List (List Int × List Int)), l.foldl stepT (thR m) = thR (m ++ l) := by
  induction l with
  | nil => intro m; simp
  | cons y l ih =>
    intro m
    rw [List.foldl_cons, ← thR_snoc, ih]
    simp
theorem thR_distinct : ∀ (l : List (List Int × List Int)), (thR l).Pairwise (fun a b => samM a b = false)
  | [] => List.Pairwise.nil
  | a :: r => by
    have ih := thR_distinct r
    rw [thR]
    split
    · exact ih
    · rename_i h
      refine List.Pairwise.cons (fun b hb => ?_) ih
      cases hs : samM a b with
      | false => rfl
      | true => exact absurd (List.any_eq_true.2 ⟨b, thR_sub r b hb, hs⟩) h
/-- The last ones, at most so many. -/
def lastN (most : Int) (l : List (List Int × List Int)) : List (List Int × List Int) := l.drop (l.length - min l.length (max most 0).toNat)
theorem lastN_last (most : Int) (hm : 0 < most) (l : List (List Int × List Int)) (x : List Int × List Int) : ∃ m, lastN most (l ++ [x]) = m ++ [x] := by
  refine ⟨l.drop ((l ++ [x]).length - min (l ++ [x]).length (max most 0).toNat), ?_⟩
  rw [lastN, List.drop_append_of_le_length]
  simp only [List.length_append, List.length_cons, List.length_nil]
  omega
end Go.Proofs.YtoliaphiipkopaaDoor
namespace Go.Proofs.YtoliaphiipkopaaDoor
open Go.RowKit
set_option maxHeartbeats 4000000
set_option maxRecDepth 100000
theorem cnt_snoc2 {p : Int → Bool} {xs : List Int} {k : Nat} {x : Int} (h : xs[k]? = some x) : (xs.take (k + 1)).countP p = (xs.take k).countP p + (if p x then 1 else 0) := by
  rw [List.take_add_one, h]
  simp [List.countP_append, List.countP_cons]
theorem kind_tok : ∀ n : Fin 256, (bits .and .i64 (kindN (n.val : Int)) 64 != 0) = tokB (n.val : Int) := by decide +kernel
theorem kind_bl : ∀ n : Fin 256, (bits .and .i64 (kindN (n.val : Int)) 2 != 0) = blB (n.val : Int) := by decide +kernel
theorem kind_of {p : Int → Bool} {k : Int} (h : ∀ n : Fin 256, (bits .and .i64 (kindN (n.val : Int)) k != 0) = p (n.val : Int)) {c : Int} (h0 : 0 ≤ c) (h1 : c < 256) : (bits .and .i64 (kindN c) k != 0) = p c := by
  have := h ⟨c.toNat, by omega⟩
  simp only [Int.toNat_of_nonneg h0] at this
  exact this
theorem ois_any (c k : Int) (q : Bool) (w : World) (h0 : 0 ≤ c) (h1 : c < 256) (hq : (bits .and .i64 (kindN c) k != 0) = q) :
    Calls Tryd.prog 44 #[.int .u8 c, .int .i64 k] w fun e w' => e = .returned (.bool q) ∧ w' = w := by
  have hk := okinds_any c w h0 h1
  generalize kindN c = K at *
  have HK := Lib.hid hk; have HQ := Lib.hid hq
  clear hk hq
  go_enter Tryd.func44, Tryd.ntmps44
  go_wp2_with (go_at_call 52; refine (HK.out).mono ?_; rintro e w' ⟨rfl, hw⟩; obtain rfl := hw.symm)
  go_ret
  exact ⟨ret_bool HQ.out, rfl⟩
theorem ocount_any (kd : Int) (p : Int → Bool) (v : Value) (xs : List Int) (w : World) (hp : ∀ n : Fin 256, (bits .and .i64 (kindN (n.val : Int)) kd != 0) = p (n.val : Int)) (h : Row w v (ints .u8 xs)) (hg : Rg 0 256 xs) (hl : xs.length ≤ 1000000) :
    Calls Tryd.prog 30 #[v, .int .i64 kd] w fun e w' => e = .returned (.int .i64 (xs.countP p : Nat)) ∧ w' = w := by
  obtain ⟨a, b, off, cp, rfl, HC⟩ := h.op
  obtain ⟨q, HQ⟩ : ∃ q : Nat, Hid (xs.countP p = q) := ⟨_, rfl⟩
  rw [HQ.out]
  have HP := Lib.hid hp
  clear hp
  go_enter Tryd.func30, Tryd.ntmps30
  go_wp2
  go_loopw [5, 10] (fun n i wr => ∃ (k m : Nat), i = .int .i64 k ∧ n = .int .i64 m ∧ k ≤ xs.length ∧ m ≤ k ∧ Hid ((xs.take k).countP p = m) ∧ wr = w) (fun _ i _ => xs.length - (intOf i).toNat)
  case atStart => exact ⟨0, 0, rfl, rfl, Nat.zero_le _, Nat.le_refl _, rfl, rfl⟩
  case round =>
    obtain ⟨k, m, rfl, rfl, hk, hmk, HK, hw0⟩ := hrel
    obtain rfl := hw0.symm
    by_cases hlt : k < xs.length
    · obtain ⟨c, HX, rfl, hc⟩ := HC.out k hlt
      replace hc := hc _ (Below.refl _ _)
      have hcr := hg.get HX.out
      have hs := cnt_snoc2 (p := p) HX.out
      have hi1 := fun w => ois_any c kd (p c) w hcr.1 hcr.2 (kind_of HP.out hcr.1 hcr.2)
      rw [HK.out] at hs
      generalize p c = C at *
      have HS := Lib.hid hs; have HI := Lib.hid hi1
      clear hs hi1
      rcases C with _ | _
      · go_wp2_with (first | (go_at_call 44; refine (HI.out _).mono ?_; rintro e w' ⟨rfl, hw⟩; obtain rfl := hw.symm))
        go_roundw
        case rel => exact ⟨k + 1, m, by go_num, rfl, by omega, by omega, HS.out, by first | rfl | trivial⟩
        case measure => simp [intOf]; omega
      · go_wp2_with (first | (go_at_call 44; refine (HI.out _).mono ?_; rintro e w' ⟨rfl, hw⟩; obtain rfl := hw.symm))
        go_roundw
        case rel => exact ⟨k + 1, m + 1, by go_num, by go_num, by omega, by omega, HS.out, by first | rfl | trivial⟩
        case measure => simp [intOf]; omega
    · have hq : m = q := by
        rw [← HQ.out, ← HK.out, List.take_of_length_le (by omega)]
      subst hq
      go_wp2
      go_ret
      exact ⟨rfl, rfl⟩
theorem countP_all (p : Int → Bool) (xs : List Int) : decide (xs.countP p = xs.length) = xs.all p := by
  rw [Bool.eq_iff_iff, decide_eq_true_eq, List.countP_eq_length, List.all_eq_true]
theorem oall_any (kd : Int) (p : Int → Bool) (v : Value) (xs : List Int) (w : World) (hp : ∀ n : Fin 256, (bits .and .i64 (kindN (n.val : Int)) kd != 0) = p (n.val : Int)) (h : Row w v (ints .u8 xs)) (hg : Rg 0 256 xs) (hl : xs.length ≤ 1000000) :
    Calls Tryd.prog 16 #[v, .int .i64 kd] w fun e w' => e = .returned (.bool (xs.all p)) ∧ w' = w := by
  have hC := ocount_any kd p v xs w hp h hg hl
  rw [← countP_all p xs]
  obtain ⟨a, b, off, cp, rfl, _⟩ := h.op
  generalize xs.countP p = n at *
  have HC := Lib.hid hC; clear hC
  clear hp
  by_cases hn : n = xs.length
  · rw [decide_eq_true hn]
    subst hn
    go_enter Tryd.func16, Tryd.ntmps16
    go_wp2_with (go_at_call 30; refine (HC.out).mono ?_; rintro e w' ⟨rfl, hw⟩; obtain rfl := hw.symm)
    go_ret
    first | exact ⟨rfl, rfl⟩ | exact ⟨ret_bool (by simp), rfl⟩
  · rw [decide_eq_false hn]
    have hb : (((n : Nat) : Int) == ((xs.length : Nat) : Int)) = false := beq_false_of_ne (by omega)
    clear hn
    go_enter Tryd.func16, Tryd.ntmps16
    go_wp2_with (go_at_call 30; refine (HC.out).mono ?_; rintro e w' ⟨rfl, hw⟩; obtain rfl := hw.symm)
    go_ret
    first | exact ⟨rfl, rfl⟩ | exact ⟨ret_bool hb, rfl⟩
end Go.Proofs.YtoliaphiipkopaaDoor
