/- Walks: direct signs, seven bits. · Walks: kinds of octets, whole: the program's and the reference's. · Walks: kinds of octets, by the reference. (laid together by program out of single texts). -/
import Derived.Test.YtponfaglflmnkaaGreatM4
import Derived.Test.YtponfaglflmnkaaGreatM6
import Derived.Test.YtponfaglflmnkaaGreatM7
namespace Go.Proofs.YtponfaglflmnkaaGreat
open Go.RowKit
set_option maxHeartbeats 2000000
theorem is24_any (c : Int) (w : World) (h0 : 0 ≤ c) (h1 : c < 256) :
    Calls Tryz.prog 37 #[.int .u8 c, .int .i64 24] w fun e w' => e = .returned (.bool (isAl c)) ∧ w' = w := by
  have hk := kinds_any c w h0 h1
  generalize isAl c = A at *
  have HK := Lib.hid hk; clear hk
  go_enter Tryz.func37, Tryz.ntmps37
  go_wp2_with (go_at_call 62; refine (HK.out).mono ?_; rintro e w' ⟨n, rfl, rfl, hA, _⟩)
  go_ret
  exact ⟨rfl, rfl⟩
theorem is1_any (c : Int) (w : World) (h0 : 0 ≤ c) (h1 : c < 256) :
    Calls Tryz.prog 37 #[.int .u8 c, .int .i64 1] w fun e w' => e = .returned (.bool (isCtl c)) ∧ w' = w := by
  have hk := kinds_any c w h0 h1
  generalize isCtl c = A at *
  have HK := Lib.hid hk; clear hk
  go_enter Tryz.func37, Tryz.ntmps37
  go_wp2_with (go_at_call 62; refine (HK.out).mono ?_; rintro e w' ⟨n, rfl, rfl, _, hA⟩)
  go_ret
  exact ⟨rfl, rfl⟩
def dirL : List Int := [39, 40, 41, 44, 45, 46, 47, 58, 63, 32, 9, 13, 10]
def dirB (c : Int) : Bool := isAl c || dirL.contains c
def sevB (c : Int) : Bool := decide (c ≤ 126 ∧ (32 ≤ c ∨ c = 9 ∨ c = 10 ∨ c = 13))
theorem idx_dir {c : Int} (h0 : 0 ≤ c) (h1 : c < 256) : decide (0 ≤ Lib.indexByte [39, 40, 41, 44, 45, 46, 47, 58, 63, 32, 9, 13, 10] c.toNat.toUInt8) = dirL.contains c := by
  have key : ∀ n : Nat, n < 256 → decide (0 ≤ Lib.indexByte [39, 40, 41, 44, 45, 46, 47, 58, 63, 32, 9, 13, 10] n.toUInt8) = dirL.contains (n : Int) := by decide +kernel
  have := key c.toNat (by omega)
  rwa [Int.toNat_of_nonneg h0] at this
theorem idx_lines {c : Int} (h0 : 0 ≤ c) (h1 : c < 256) : decide (Lib.indexByte [9, 13, 10] c.toNat.toUInt8 < 0) = !decide (c = 9 ∨ c = 10 ∨ c = 13) := by
  have key : ∀ n : Nat, n < 256 → decide (Lib.indexByte [9, 13, 10] n.toUInt8 < 0) = !decide ((n : Int) = 9 ∨ (n : Int) = 10 ∨ (n : Int) = 13) := by decide +kernel
  have := key c.toNat (by omega)
  rwa [Int.toNat_of_nonneg h0] at this
theorem sev_eq {c : Int} (h0 : 0 ≤ c) (h1 : c < 256) : sevB c = !(decide (128 ≤ c) || (isCtl c && !decide (c = 9 ∨ c = 10 ∨ c = 13))) := by
  rw [sevB, isCtl]
  by_cases a : c ≤ 126 ∧ (32 ≤ c ∨ c = 9 ∨ c = 10 ∨ c = 13)
  · rw [decide_eq_true a]
    by_cases b : c < 32 ∨ c = 127
    · rw [decide_eq_true b, decide_eq_false (show ¬ 128 ≤ c by omega), decide_eq_true (show c = 9 ∨ c = 10 ∨ c = 13 by omega)]; rfl
    · rw [decide_eq_false b, decide_eq_false (show ¬ 128 ≤ c by omega)]; rfl
  · rw [decide_eq_false a]
    by_cases b : 128 ≤ c
    · rw [decide_eq_true b]; rfl
    · rw [decide_eq_true (show c < 32 ∨ c = 127 by omega), decide_eq_false (show ¬ (c = 9 ∨ c = 10 ∨ c = 13) by omega), decide_eq_false b]; rfl
end Go.Proofs.YtponfaglflmnkaaGreat
namespace Go.Proofs.YtponfaglflmnkaaGreat
open Go.RowKit
set_option maxHeartbeats 4000000
set_option maxRecDepth 100000
def blB (c : Int) : Bool := decide (c = 32 ∨ c = 9)
def dgB (c : Int) : Bool := decide (48 ≤ c ∧ c ≤ 57)
def ltB (c : Int) : Bool := decide ((65 ≤ c ∧ c ≤ 90) ∨ (97 ≤ c ∧ c ≤ 122))
def prB (c : Int) : Bool := decide (33 ≤ c ∧ c ≤ 126)
def spB (c : Int) : Bool := [40, 41, 60, 62, 64, 44, 59, 58, 92, 34, 47, 91, 93, 63, 61].contains c
def wdB (c : Int) : Bool := [33, 42, 43, 45, 47].contains c
def naB (c : Int) : Bool := [42, 39, 37].contains c
def bsB (c : Int) : Bool := [43, 47].contains c
def b2i (b : Bool) (n : Int) : Int := if b then n else 0
def kindS (ct bl dg lt pr sp wd na bs : Bool) : Int :=
  b2i ct 1 + b2i bl 2 + b2i pr 4 + b2i dg 8 + b2i lt 16 + b2i sp 32 + b2i (pr && !sp) 64 + b2i (lt || (dg || wd)) 128 + b2i (pr && (!sp && !na)) 256 + b2i (lt || (dg || bs)) 512
def kindN (c : Int) : Int := kindS (isCtl c) (blB c) (dgB c) (ltB c) (prB c) (spB c) (wdB c) (naB c) (bsB c)
theorem kcl (c : Int) : (c = 9 ∨ c = 32 ∨ (c < 32 ∧ c ≠ 9) ∨ c = 127 ∨ (48 ≤ c ∧ c ≤ 57) ∨ (65 ≤ c ∧ c ≤ 90) ∨ (97 ≤ c ∧ c ≤ 122) ∨ 127 < c ∨ (32 < c ∧ c < 127 ∧ ¬ (48 ≤ c ∧ c ≤ 57) ∧ ¬ (65 ≤ c ∧ c ≤ 90) ∧ ¬ (97 ≤ c ∧ c ≤ 122))) := by
  omega
theorem sp_al {c : Int} (h : (48 ≤ c ∧ c ≤ 57) ∨ (65 ≤ c ∧ c ≤ 90) ∨ (97 ≤ c ∧ c ≤ 122)) : spB c = false ∧ wdB c = false ∧ naB c = false ∧ bsB c = false := by
  refine ⟨?_, ?_, ?_, ?_⟩ <;> (simp only [spB, wdB, naB, bsB, List.contains_eq_mem, decide_eq_false_iff_not, List.mem_cons, List.not_mem_nil, or_false]; omega)
theorem sp_out {c : Int} (h : c < 33 ∨ 126 < c) : spB c = false ∧ wdB c = false ∧ naB c = false ∧ bsB c = false := by
  refine ⟨?_, ?_, ?_, ?_⟩ <;> (simp only [spB, wdB, naB, bsB, List.contains_eq_mem, decide_eq_false_iff_not, List.mem_cons, List.not_mem_nil, or_false]; omega)
theorem idx_in (l : List UInt8) (zs : List Int) (h : ∀ n : Nat, n < 256 → decide (0 ≤ Lib.indexByte l n.toUInt8) = zs.contains (n : Int)) {c : Int} (h0 : 0 ≤ c) (h1 : c < 256) : decide (0 ≤ Lib.indexByte l c.toNat.toUInt8) = zs.contains c := by
  have := h c.toNat (by omega)
  rwa [Int.toNat_of_nonneg h0] at this
def inV (s : ByteArray) (c : Int) : Bool := decide (0 ≤ Lib.indexByte s.data.toList c.toNat.toUInt8)
theorem inV_any (s : ByteArray) (c : Int) (w : World) :
    Calls Tryz.prog 87 #[.string s, .int .u8 c] w fun e w' => e = .returned (.bool (inV s c)) ∧ w' = w := by
  have hs := sIndexByte_any s c w
  unfold inV
  generalize Lib.indexByte s.data.toList c.toNat.toUInt8 = n at *
  have HS := Lib.hid hs
  clear hs
  go_enter Tryz.func87, Tryz.ntmps87
  go_wp2_with (go_at_call 106; refine (HS.out).mono ?_; rintro e w' ⟨rfl, hw⟩; obtain rfl := hw.symm)
  go_ret
  exact ⟨rfl, rfl⟩
theorem keyS : ∀ n : Nat, n < 256 → decide (0 ≤ Lib.indexByte [40, 41, 60, 62, 64, 44, 59, 58, 92, 34, 47, 91, 93, 63, 61] n.toUInt8) = ([40, 41, 60, 62, 64, 44, 59, 58, 92, 34, 47, 91, 93, 63, 61] : List Int).contains (n : Int) := by decide +kernel
theorem keyW : ∀ n : Nat, n < 256 → decide (0 ≤ Lib.indexByte [33, 42, 43, 45, 47] n.toUInt8) = ([33, 42, 43, 45, 47] : List Int).contains (n : Int) := by decide +kernel
theorem keyA : ∀ n : Nat, n < 256 → decide (0 ≤ Lib.indexByte [42, 39, 37] n.toUInt8) = ([42, 39, 37] : List Int).contains (n : Int) := by decide +kernel
theorem keyB : ∀ n : Nat, n < 256 → decide (0 ≤ Lib.indexByte [43, 47] n.toUInt8) = ([43, 47] : List Int).contains (n : Int) := by decide +kernel
theorem okinds_any (c : Int) (w : World) (h0 : 0 ≤ c) (h1 : c < 256) :
    Calls Tryz.prog 62 #[.int .u8 c] w fun e w' => e = .returned (.int .i64 (kindN c)) ∧ w' = w := by
  have hS : inV ⟨#[40, 41, 60, 62, 64, 44, 59, 58, 92, 34, 47, 91, 93, 63, 61]⟩ c = spB c := (idx_in _ _ keyS h0 h1)
  have hW : inV ⟨#[33, 42, 43, 45, 47]⟩ c = wdB c := (idx_in _ _ keyW h0 h1)
  have hA : inV ⟨#[42, 39, 37]⟩ c = naB c := (idx_in _ _ keyA h0 h1)
  have hB : inV ⟨#[43, 47]⟩ c = bsB c := (idx_in _ _ keyB h0 h1)
  rcases kcl c with rfl | rfl | hc | rfl | hc | hc | hc | hc | hc
  · -- c9
    have e0 : kindN 9 = _ := rfl
    have e_isCtl : isCtl 9 = true := by decide
    have e_blB : blB 9 = true := by decide
    have e_dgB : dgB 9 = false := by decide
    have e_ltB : ltB 9 = false := by decide
    have e_prB : prB 9 = false := by decide
    obtain ⟨s1, s2, s3, s4⟩ := sp_out (c := 9) (by omega)
    rw [kindN, e_isCtl, e_blB, e_dgB, e_ltB, e_prB, s1, s2, s3, s4]
    rw [s1] at hS; rw [s2] at hW; rw [s3] at hA; rw [s4] at hB
    clear s1 s2 s3 s4
    clear e0 e_isCtl e_blB e_dgB e_ltB e_prB
    go_enter Tryz.func62, Tryz.ntmps62
    go_wp2_with (first | (go_at_call 87; refine (inV_any _ _ _).mono ?_; rintro e w' ⟨rfl, hw⟩; obtain rfl := hw.symm) | go_in)
    all_goals
      go_ret
      exact ⟨rfl, rfl⟩
  · -- c32
    have e0 : kindN 32 = _ := rfl
    have e_isCtl : isCtl 32 = false := by decide
    have e_blB : blB 32 = true := by decide
    have e_dgB : dgB 32 = false := by decide
    have e_ltB : ltB 32 = false := by decide
    have e_prB : prB 32 = false := by decide
    obtain ⟨s1, s2, s3, s4⟩ := sp_out (c := 32) (by omega)
    rw [kindN, e_isCtl, e_blB, e_dgB, e_ltB, e_prB, s1, s2, s3, s4]
    rw [s1] at hS; rw [s2] at hW; rw [s3] at hA; rw [s4] at hB
    clear s1 s2 s3 s4
    clear e0 e_isCtl e_blB e_dgB e_ltB e_prB
    go_enter Tryz.func62, Tryz.ntmps62
    go_wp2_with (first | (go_at_call 87; refine (inV_any _ _ _).mono ?_; rintro e w' ⟨rfl, hw⟩; obtain rfl := hw.symm) | go_in)
    all_goals
      go_ret
      exact ⟨rfl, rfl⟩
  · -- lo
    have e0 : kindN c = _ := rfl
    have e_isCtl : isCtl c = true := decide_eq_true (by omega)
    have e_blB : blB c = false := decide_eq_false (by omega)
    have e_dgB : dgB c = false := decide_eq_false (by omega)
    have e_ltB : ltB c = false := decide_eq_false (by omega)
    have e_prB : prB c = false := decide_eq_false (by omega)
    obtain ⟨s1, s2, s3, s4⟩ := sp_out (c := c) (by omega)
    rw [kindN, e_isCtl, e_blB, e_dgB, e_ltB, e_prB, s1, s2, s3, s4]
    rw [s1] at hS; rw [s2] at hW; rw [s3] at hA; rw [s4] at hB
    clear s1 s2 s3 s4
    have b9 : (c == 9) = false := beq_false_of_ne (by omega); have b32 : (c == 32) = false := beq_false_of_ne (by omega); have b127 : (c == 127) = false := beq_false_of_ne (by omega)
    clear e0 e_isCtl e_blB e_dgB e_ltB e_prB
    go_enter Tryz.func62, Tryz.ntmps62
    go_wp2_with (first | (go_at_call 87; refine (inV_any _ _ _).mono ?_; rintro e w' ⟨rfl, hw⟩; obtain rfl := hw.symm) | go_in)
    all_goals
      go_ret
      exact ⟨rfl, rfl⟩
  · -- c127
    have e0 : kindN 127 = _ := rfl
    have e_isCtl : isCtl 127 = true := by decide
    have e_blB : blB 127 = false := by decide
    have e_dgB : dgB 127 = false := by decide
    have e_ltB : ltB 127 = false := by decide
    have e_prB : prB 127 = false := by decide
    obtain ⟨s1, s2, s3, s4⟩ := sp_out (c := 127) (by omega)
    rw [kindN, e_isCtl, e_blB, e_dgB, e_ltB, e_prB, s1, s2, s3, s4]
    rw [s1] at hS; rw [s2] at hW; rw [s3] at hA; rw [s4] at hB
    clear s1 s2 s3 s4
    clear e0 e_isCtl e_blB e_dgB e_ltB e_prB
    go_enter Tryz.func62, Tryz.ntmps62
    go_wp2_with (first | (go_at_call 87; refine (inV_any _ _ _).mono ?_; rintro e w' ⟨rfl, hw⟩; obtain rfl := hw.symm) | go_in)
    all_goals
      go_ret
      exact ⟨rfl, rfl⟩
  · -- dg
    have e0 : kindN c = _ := rfl
    have e_isCtl : isCtl c = false := decide_eq_false (by omega)
    have e_blB : blB c = false := decide_eq_false (by omega)
    have e_dgB : dgB c = true := decide_eq_true (by omega)
    have e_ltB : ltB c = false := decide_eq_false (by omega)
    have e_prB : prB c = true := decide_eq_true (by omega)
    obtain ⟨s1, s2, s3, s4⟩ := sp_al (c := c) (by omega)
    rw [kindN, e_isCtl, e_blB, e_dgB, e_ltB, e_prB, s1, s2, s3, s4]
    rw [s1] at hS; rw [s2] at hW; rw [s3] at hA; rw [s4] at hB
    clear s1 s2 s3 s4
    have b9 : (c == 9) = false := beq_false_of_ne (by omega); have b32 : (c == 32) = false := beq_false_of_ne (by omega); have b127 : (c == 127) = false := beq_false_of_ne (by omega)
    clear e0 e_isCtl e_blB e_dgB e_ltB e_prB
    go_enter Tryz.func62, Tryz.ntmps62
    go_wp2_with (first | (go_at_call 87; refine (inV_any _ _ _).mono ?_; rintro e w' ⟨rfl, hw⟩; obtain rfl := hw.symm) | go_in)
    all_goals
      go_ret
      exact ⟨rfl, rfl⟩
  · -- up
    have e0 : kindN c = _ := rfl
    have e_isCtl : isCtl c = false := decide_eq_false (by omega)
    have e_blB : blB c = false := decide_eq_false (by omega)
    have e_dgB : dgB c = false := decide_eq_false (by omega)
    have e_ltB : ltB c = true := decide_eq_true (by omega)
    have e_prB : prB c = true := decide_eq_true (by omega)
    obtain ⟨s1, s2, s3, s4⟩ := sp_al (c := c) (by omega)
    rw [kindN, e_isCtl, e_blB, e_dgB, e_ltB, e_prB, s1, s2, s3, s4]
    rw [s1] at hS; rw [s2] at hW; rw [s3] at hA; rw [s4] at hB
    clear s1 s2 s3 s4
    have b9 : (c == 9) = false := beq_false_of_ne (by omega); have b32 : (c == 32) = false := beq_false_of_ne (by omega); have b127 : (c == 127) = false := beq_false_of_ne (by omega)
    clear e0 e_isCtl e_blB e_dgB e_ltB e_prB
    go_enter Tryz.func62, Tryz.ntmps62
    go_wp2_with (first | (go_at_call 87; refine (inV_any _ _ _).mono ?_; rintro e w' ⟨rfl, hw⟩; obtain rfl := hw.symm) | go_in)
    all_goals
      go_ret
      exact ⟨rfl, rfl⟩
  · -- lw
    have e0 : kindN c = _ := rfl
    have e_isCtl : isCtl c = false := decide_eq_false (by omega)
    have e_blB : blB c = false := decide_eq_false (by omega)
    have e_dgB : dgB c = false := decide_eq_false (by omega)
    have e_ltB : ltB c = true := decide_eq_true (by omega)
    have e_prB : prB c = true := decide_eq_true (by omega)
    obtain ⟨s1, s2, s3, s4⟩ := sp_al (c := c) (by omega)
    rw [kindN, e_isCtl, e_blB, e_dgB, e_ltB, e_prB, s1, s2, s3, s4]
    rw [s1] at hS; rw [s2] at hW; rw [s3] at hA; rw [s4] at hB
    clear s1 s2 s3 s4
    have b9 : (c == 9) = false := beq_false_of_ne (by omega); have b32 : (c == 32) = false := beq_false_of_ne (by omega); have b127 : (c == 127) = false := beq_false_of_ne (by omega)
    clear e0 e_isCtl e_blB e_dgB e_ltB e_prB
    go_enter Tryz.func62, Tryz.ntmps62
    go_wp2_with (first | (go_at_call 87; refine (inV_any _ _ _).mono ?_; rintro e w' ⟨rfl, hw⟩; obtain rfl := hw.symm) | go_in)
    all_goals
      go_ret
      exact ⟨rfl, rfl⟩
  · -- hi
    have e0 : kindN c = _ := rfl
    have e_isCtl : isCtl c = false := decide_eq_false (by omega)
    have e_blB : blB c = false := decide_eq_false (by omega)
    have e_dgB : dgB c = false := decide_eq_false (by omega)
    have e_ltB : ltB c = false := decide_eq_false (by omega)
    have e_prB : prB c = false := decide_eq_false (by omega)
    obtain ⟨s1, s2, s3, s4⟩ := sp_out (c := c) (by omega)
    rw [kindN, e_isCtl, e_blB, e_dgB, e_ltB, e_prB, s1, s2, s3, s4]
    rw [s1] at hS; rw [s2] at hW; rw [s3] at hA; rw [s4] at hB
    clear s1 s2 s3 s4
    have b9 : (c == 9) = false := beq_false_of_ne (by omega); have b32 : (c == 32) = false := beq_false_of_ne (by omega); have b127 : (c == 127) = false := beq_false_of_ne (by omega)
    clear e0 e_isCtl e_blB e_dgB e_ltB e_prB
    go_enter Tryz.func62, Tryz.ntmps62
    go_wp2_with (first | (go_at_call 87; refine (inV_any _ _ _).mono ?_; rintro e w' ⟨rfl, hw⟩; obtain rfl := hw.symm) | go_in)
    all_goals
      go_ret
      exact ⟨rfl, rfl⟩
  · -- pr
    have e0 : kindN c = _ := rfl
    have e_isCtl : isCtl c = false := decide_eq_false (by omega)
    have e_blB : blB c = false := decide_eq_false (by omega)
    have e_dgB : dgB c = false := decide_eq_false (by omega)
    have e_ltB : ltB c = false := decide_eq_false (by omega)
    have e_prB : prB c = true := decide_eq_true (by omega)
    rw [kindN, e_isCtl, e_blB, e_dgB, e_ltB, e_prB]
    generalize spB c = S at *; generalize wdB c = W at *; generalize naB c = A at *; generalize bsB c = B at *
    have b9 : (c == 9) = false := beq_false_of_ne (by omega); have b32 : (c == 32) = false := beq_false_of_ne (by omega); have b127 : (c == 127) = false := beq_false_of_ne (by omega)
    clear e0 e_isCtl e_blB e_dgB e_ltB e_prB
    rcases S with _ | _ <;> rcases W with _ | _ <;> rcases A with _ | _ <;> rcases B with _ | _
    all_goals
      go_enter Tryz.func62, Tryz.ntmps62
      go_wp2_with (first | (go_at_call 87; refine (inV_any _ _ _).mono ?_; rintro e w' ⟨rfl, hw⟩; obtain rfl := hw.symm) | go_in)
      all_goals
        go_ret
        exact ⟨rfl, rfl⟩
end Go.Proofs.YtponfaglflmnkaaGreat
namespace Go.Proofs.YtponfaglflmnkaaGreat
open Go.RowKit
set_option maxHeartbeats 4000000
set_option maxRecDepth 100000
theorem rhas_any (s : ByteArray) (xs : List Int) (c : Int) (w : World) (hxs : s.data.toList.map (fun u => ((u.toNat : Nat) : Int)) = xs) (hsz : s.size ≤ 1000) :
    Calls Tryz.prog 85 #[.string s, .int .u8 c] w fun e w' => e = .returned (.bool (xs.contains c)) ∧ w' = w := by
  have hlen : xs.length = s.size := by rw [← hxs, List.length_map]; exact Array.length_toList
  have HG : Hid (∀ k : Nat, k < s.size → ∃ x, Hid (xs[k]? = some x) ∧ (Instr.index 9 (.string s) (.int .i64 (k : Nat))).run Tryz.prog w = .ok (.int .u8 x) w) := fun k hk => by
    refine ⟨((s[k]'hk).toNat : Nat), ?_, ?_⟩
    · show _ = _
      rw [← hxs, List.getElem?_map, Array.getElem?_toList, Array.getElem?_eq_getElem (show k < s.data.size from hk)]
      rfl
    · rw [run_index_string _ _ _ _ _ Tryz.underlying9, dif_pos ⟨by omega, by omega⟩]
      rfl
  obtain ⟨q, HQ⟩ : ∃ q, Hid (xs.contains c = q) := ⟨_, rfl⟩
  rw [HQ.out]
  have HL := Lib.hid hlen
  clear hxs hlen
  generalize hn : s.size = n at *
  have HN := Lib.hid hn; clear hn
  have hlen2 : (Builtin.len_ #[9] 3 #[.string s]).run Tryz.prog w = .ok (.int .i64 (n : Nat)) w := by
    rw [run_len_string _ _ _ _ Tryz.underlying9, HN.out]; rfl
  go_enter Tryz.func85, Tryz.ntmps85
  go_wp2
  go_loopw [5] (fun i wr => ∃ k : Nat, i = .int .i64 k ∧ k ≤ n ∧ Hid (∀ y ∈ xs.take k, (y == c) = false) ∧ wr = w) (fun i _ => n - (intOf i).toNat)
  case atStart => exact ⟨0, rfl, Nat.zero_le _, (fun y hy => by simp at hy : ∀ y ∈ xs.take 0, (y == c) = false), rfl⟩
  case round =>
    obtain ⟨k, rfl, hk, HK, hw0⟩ := hrel
    obtain rfl := hw0.symm
    by_cases hlt : k < n
    · obtain ⟨x, HX, hx⟩ := HG.out k hlt
      have hno : (x == c) = true → q = true := fun hf => by
        rw [← HQ.out]
        have := List.mem_of_getElem? HX.out
        rw [eq_of_beq hf] at this
        simpa using this
      have NO := Lib.hid hno; clear hno
      obtain ⟨e, he⟩ : ∃ e, (x == c) = e := ⟨_, rfl⟩
      rcases e with _ | _
      · go_wp2
        go_roundw
        case rel => exact ⟨k + 1, by go_num, by omega, (by show ∀ y ∈ xs.take (k + 1), (y == c) = false; intro y hy; rw [List.take_add_one, HX.out] at hy; rcases List.mem_append.1 hy with h9 | h9; exact HK.out y h9; simp at h9; subst h9; exact he), by first | rfl | trivial⟩
        case measure => simp [intOf]; omega
      · obtain rfl := NO.out he
        go_wp2
        go_ret
        exact ⟨rfl, rfl⟩
    · have hq : q = false := by
        rw [← HQ.out]
        have := HK.out
        rw [List.take_of_length_le (by rw [HL.out]; omega)] at this
        cases hx : xs.contains c with
        | false => rfl
        | true =>
          have h8 := this c (by simpa using hx)
          simp at h8
      subst hq
      go_wp2
      go_ret
      exact ⟨rfl, rfl⟩
def hasV (s : ByteArray) (c : Int) : Bool := (s.data.toList.map (fun u => ((u.toNat : Nat) : Int))).contains c
theorem hasV_any (s : ByteArray) (c : Int) (w : World) (hs : s.size ≤ 1000) :
    Calls Tryz.prog 85 #[.string s, .int .u8 c] w fun e w' => e = .returned (.bool (hasV s c)) ∧ w' = w := rhas_any s _ c w rfl hs
theorem rkinds_any (c : Int) (w : World) (h0 : 0 ≤ c) (h1 : c < 256) :
    Calls Tryz.prog 60 #[.int .u8 c] w fun e w' => e = .returned (.int .i64 (kindN c)) ∧ w' = w := by
  have hS : hasV ⟨#[40, 41, 60, 62, 64, 44, 59, 58, 92, 34, 47, 91, 93, 63, 61]⟩ c = spB c := rfl
  have hW : hasV ⟨#[33, 42, 43, 45, 47]⟩ c = wdB c := rfl
  have hA : hasV ⟨#[42, 39, 37]⟩ c = naB c := rfl
  have hB : hasV ⟨#[43, 47]⟩ c = bsB c := rfl
  rcases kcl c with rfl | rfl | hc | rfl | hc | hc | hc | hc | hc
  · -- c9
    have e_isCtl : isCtl 9 = true := by decide
    have e_blB : blB 9 = true := by decide
    have e_dgB : dgB 9 = false := by decide
    have e_ltB : ltB 9 = false := by decide
    have e_prB : prB 9 = false := by decide
    obtain ⟨s1, s2, s3, s4⟩ := sp_out (c := 9) (by omega)
    rw [kindN, e_isCtl, e_blB, e_dgB, e_ltB, e_prB, s1, s2, s3, s4]
    rw [s1] at hS; rw [s2] at hW; rw [s3] at hA; rw [s4] at hB
    clear s1 s2 s3 s4
    clear e_isCtl e_blB e_dgB e_ltB e_prB
    go_enter Tryz.func60, Tryz.ntmps60
    go_wp2_with (first | (go_at_call 85; refine (hasV_any _ _ _ (by decide)).mono ?_; rintro e w' ⟨rfl, hw⟩; obtain rfl := hw.symm) | go_in)
    all_goals
      go_ret
      exact ⟨rfl, rfl⟩
  · -- c32
    have e_isCtl : isCtl 32 = false := by decide
    have e_blB : blB 32 = true := by decide
    have e_dgB : dgB 32 = false := by decide
    have e_ltB : ltB 32 = false := by decide
    have e_prB : prB 32 = false := by decide
    obtain ⟨s1, s2, s3, s4⟩ := sp_out (c := 32) (by omega)
    rw [kindN, e_isCtl, e_blB, e_dgB, e_ltB, e_prB, s1, s2, s3, s4]
    rw [s1] at hS; rw [s2] at hW; rw [s3] at hA; rw [s4] at hB
    clear s1 s2 s3 s4
    clear e_isCtl e_blB e_dgB e_ltB e_prB
    go_enter Tryz.func60, Tryz.ntmps60
    go_wp2_with (first | (go_at_call 85; refine (hasV_any _ _ _ (by decide)).mono ?_; rintro e w' ⟨rfl, hw⟩; obtain rfl := hw.symm) | go_in)
    all_goals
      go_ret
      exact ⟨rfl, rfl⟩
  · -- lo
    have e_isCtl : isCtl c = true := decide_eq_true (by omega)
    have e_blB : blB c = false := decide_eq_false (by omega)
    have e_dgB : dgB c = false := decide_eq_false (by omega)
    have e_ltB : ltB c = false := decide_eq_false (by omega)
    have e_prB : prB c = false := decide_eq_false (by omega)
    obtain ⟨s1, s2, s3, s4⟩ := sp_out (c := c) (by omega)
    rw [kindN, e_isCtl, e_blB, e_dgB, e_ltB, e_prB, s1, s2, s3, s4]
    rw [s1] at hS; rw [s2] at hW; rw [s3] at hA; rw [s4] at hB
    clear s1 s2 s3 s4
    have b9 : (c == 9) = false := beq_false_of_ne (by omega); have b32 : (c == 32) = false := beq_false_of_ne (by omega); have b127 : (c == 127) = false := beq_false_of_ne (by omega)
    clear e_isCtl e_blB e_dgB e_ltB e_prB
    go_enter Tryz.func60, Tryz.ntmps60
    go_wp2_with (first | (go_at_call 85; refine (hasV_any _ _ _ (by decide)).mono ?_; rintro e w' ⟨rfl, hw⟩; obtain rfl := hw.symm) | go_in)
    all_goals
      go_ret
      exact ⟨rfl, rfl⟩
  · -- c127
    have e_isCtl : isCtl 127 = true := by decide
    have e_blB : blB 127 = false := by decide
    have e_dgB : dgB 127 = false := by decide
    have e_ltB : ltB 127 = false := by decide
    have e_prB : prB 127 = false := by decide
    obtain ⟨s1, s2, s3, s4⟩ := sp_out (c := 127) (by omega)
    rw [kindN, e_isCtl, e_blB, e_dgB, e_ltB, e_prB, s1, s2, s3, s4]
    rw [s1] at hS; rw [s2] at hW; rw [s3] at hA; rw [s4] at hB
    clear s1 s2 s3 s4
    clear e_isCtl e_blB e_dgB e_ltB e_prB
    go_enter Tryz.func60, Tryz.ntmps60
    go_wp2_with (first | (go_at_call 85; refine (hasV_any _ _ _ (by decide)).mono ?_; rintro e w' ⟨rfl, hw⟩; obtain rfl := hw.symm) | go_in)
    all_goals
      go_ret
      exact ⟨rfl, rfl⟩
  · -- dg
    have e_isCtl : isCtl c = false := decide_eq_false (by omega)
    have e_blB : blB c = false := decide_eq_false (by omega)
    have e_dgB : dgB c = true := decide_eq_true (by omega)
    have e_ltB : ltB c = false := decide_eq_false (by omega)
    have e_prB : prB c = true := decide_eq_true (by omega)
    obtain ⟨s1, s2, s3, s4⟩ := sp_al (c := c) (by omega)
    rw [kindN, e_isCtl, e_blB, e_dgB, e_ltB, e_prB, s1, s2, s3, s4]
    rw [s1] at hS; rw [s2] at hW; rw [s3] at hA; rw [s4] at hB
    clear s1 s2 s3 s4
    have b9 : (c == 9) = false := beq_false_of_ne (by omega); have b32 : (c == 32) = false := beq_false_of_ne (by omega); have b127 : (c == 127) = false := beq_false_of_ne (by omega)
    clear e_isCtl e_blB e_dgB e_ltB e_prB
    go_enter Tryz.func60, Tryz.ntmps60
    go_wp2_with (first | (go_at_call 85; refine (hasV_any _ _ _ (by decide)).mono ?_; rintro e w' ⟨rfl, hw⟩; obtain rfl := hw.symm) | go_in)
    all_goals
      go_ret
      exact ⟨rfl, rfl⟩
  · -- up
    have e_isCtl : isCtl c = false := decide_eq_false (by omega)
    have e_blB : blB c = false := decide_eq_false (by omega)
    have e_dgB : dgB c = false := decide_eq_false (by omega)
    have e_ltB : ltB c = true := decide_eq_true (by omega)
    have e_prB : prB c = true := decide_eq_true (by omega)
    obtain ⟨s1, s2, s3, s4⟩ := sp_al (c := c) (by omega)
    rw [kindN, e_isCtl, e_blB, e_dgB, e_ltB, e_prB, s1, s2, s3, s4]
    rw [s1] at hS; rw [s2] at hW; rw [s3] at hA; rw [s4] at hB
    clear s1 s2 s3 s4
    have b9 : (c == 9) = false := beq_false_of_ne (by omega); have b32 : (c == 32) = false := beq_false_of_ne (by omega); have b127 : (c == 127) = false := beq_false_of_ne (by omega)
    clear e_isCtl e_blB e_dgB e_ltB e_prB
    go_enter Tryz.func60, Tryz.ntmps60
    go_wp2_with (first | (go_at_call 85; refine (hasV_any _ _ _ (by decide)).mono ?_; rintro e w' ⟨rfl, hw⟩; obtain rfl := hw.symm) | go_in)
    all_goals
      go_ret
      exact ⟨rfl, rfl⟩
  · -- lw
    have e_isCtl : isCtl c = false := decide_eq_false (by omega)
    have e_blB : blB c = false := decide_eq_false (by omega)
    have e_dgB : dgB c = false := decide_eq_false (by omega)
    have e_ltB : ltB c = true := decide_eq_true (by omega)
    have e_prB : prB c = true := decide_eq_true (by omega)
    obtain ⟨s1, s2, s3, s4⟩ := sp_al (c := c) (by omega)
    rw [kindN, e_isCtl, e_blB, e_dgB, e_ltB, e_prB, s1, s2, s3, s4]
    rw [s1] at hS; rw [s2] at hW; rw [s3] at hA; rw [s4] at hB
    clear s1 s2 s3 s4
    have b9 : (c == 9) = false := beq_false_of_ne (by omega); have b32 : (c == 32) = false := beq_false_of_ne (by omega); have b127 : (c == 127) = false := beq_false_of_ne (by omega)
    clear e_isCtl e_blB e_dgB e_ltB e_prB
    go_enter Tryz.func60, Tryz.ntmps60
    go_wp2_with (first | (go_at_call 85; refine (hasV_any _ _ _ (by decide)).mono ?_; rintro e w' ⟨rfl, hw⟩; obtain rfl := hw.symm) | go_in)
    all_goals
      go_ret
      exact ⟨rfl, rfl⟩
  · -- hi
    have e_isCtl : isCtl c = false := decide_eq_false (by omega)
    have e_blB : blB c = false := decide_eq_false (by omega)
    have e_dgB : dgB c = false := decide_eq_false (by omega)
    have e_ltB : ltB c = false := decide_eq_false (by omega)
    have e_prB : prB c = false := decide_eq_false (by omega)
    obtain ⟨s1, s2, s3, s4⟩ := sp_out (c := c) (by omega)
    rw [kindN, e_isCtl, e_blB, e_dgB, e_ltB, e_prB, s1, s2, s3, s4]
    rw [s1] at hS; rw [s2] at hW; rw [s3] at hA; rw [s4] at hB
    clear s1 s2 s3 s4
    have b9 : (c == 9) = false := beq_false_of_ne (by omega); have b32 : (c == 32) = false := beq_false_of_ne (by omega); have b127 : (c == 127) = false := beq_false_of_ne (by omega)
    clear e_isCtl e_blB e_dgB e_ltB e_prB
    go_enter Tryz.func60, Tryz.ntmps60
    go_wp2_with (first | (go_at_call 85; refine (hasV_any _ _ _ (by decide)).mono ?_; rintro e w' ⟨rfl, hw⟩; obtain rfl := hw.symm) | go_in)
    all_goals
      go_ret
      exact ⟨rfl, rfl⟩
  · -- pr
    have e_isCtl : isCtl c = false := decide_eq_false (by omega)
    have e_blB : blB c = false := decide_eq_false (by omega)
    have e_dgB : dgB c = false := decide_eq_false (by omega)
    have e_ltB : ltB c = false := decide_eq_false (by omega)
    have e_prB : prB c = true := decide_eq_true (by omega)
    rw [kindN, e_isCtl, e_blB, e_dgB, e_ltB, e_prB]
    generalize spB c = S at *; generalize wdB c = W at *; generalize naB c = A at *; generalize bsB c = B at *
    have b9 : (c == 9) = false := beq_false_of_ne (by omega); have b32 : (c == 32) = false := beq_false_of_ne (by omega); have b127 : (c == 127) = false := beq_false_of_ne (by omega)
    clear e_isCtl e_blB e_dgB e_ltB e_prB
    rcases S with _ | _ <;> rcases W with _ | _ <;> rcases A with _ | _ <;> rcases B with _ | _
    all_goals
      go_enter Tryz.func60, Tryz.ntmps60
      go_wp2_with (first | (go_at_call 85; refine (hasV_any _ _ _ (by decide)).mono ?_; rintro e w' ⟨rfl, hw⟩; obtain rfl := hw.symm) | go_in)
      all_goals
        go_ret
        exact ⟨rfl, rfl⟩
end Go.Proofs.YtponfaglflmnkaaGreat
