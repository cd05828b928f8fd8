/- Walks: wide texts: which mark, by the reference; what is read by it. -/
import Derived.Test.YtgfdebijcpdhbaaW45p
namespace Go.Proofs.Ytgfdebijcpdhbaa
open Go.RowKit
set_option maxHeartbeats 1000000
theorem Row.pre {w : World} {a : Option Addr} {n cp : Nat} {cs : List Value} (h : Row w (.slice a n cp) cs) (m : Nat) (hm : m ≤ cs.length) : Row w (.slice a m cp) (cs.take m) := by
  obtain ⟨a', b, off, cap, hv, hc, hM, ha, h1, hcell⟩ := h
  cases hv
  refine ⟨a, b, off, cp, by rw [List.length_take, Nat.min_eq_left hm], by rw [List.length_take]; omega, hM, ?_, fun u hu => h1 u (List.mem_of_mem_take hu), fun i u hu => ?_⟩
  · rcases ha with ha | ⟨rfl, ha⟩
    · exact .inl ha
    · exact .inr ⟨by simp, ha⟩
  · rw [List.getElem?_take] at hu
    split at hu
    · exact hcell i u hu
    · cases hu
theorem str_lit {xs ys : List Int} (hx : Rg 0 256 xs) (hy : Rg 0 256 ys) (bs : List UInt8) (hb : (strOfNums ys).toList = bs) : ((strOfNums xs).toList == bs) = decide (xs = ys) := by
  rw [← hb, Bool.eq_iff_iff, beq_iff_eq, decide_eq_true_iff, ByteArray.toList_eq, ByteArray.toList_eq]
  refine ⟨fun h => str_inj hx hy (ByteArray.ext (Array.toList_inj.1 h)), fun h => by rw [h]⟩
/-- The two strings that are compared, and the four answers. -/
def MkF (S4 S2 : ByteArray) (q1 q2 q3 q4 : Bool) : Prop := (S4.toList == [0, 0, 254, 255]) = q1 ∧ (S4.toList == [255, 254, 0, 0]) = q2 ∧ (S2.toList == [254, 255]) = q3 ∧ (S2.toList == [255, 254]) = q4
theorem mkf {xs : List Int} (hg : Rg 0 256 xs) : MkF (strOfNums (xs.take 4)) (strOfNums (xs.take 2)) (mk4b xs) (mk4l xs) (mk2b xs) (mk2l xs) := by
  have r1 : Rg 0 256 [0, 0, 254, 255] := by intro x hx; simp at hx; omega
  have r2 : Rg 0 256 [255, 254, 0, 0] := by intro x hx; simp at hx; omega
  have r3 : Rg 0 256 [254, 255] := by intro x hx; simp at hx; omega
  have r4 : Rg 0 256 [255, 254] := by intro x hx; simp at hx; omega
  exact ⟨str_lit (hg.take 4) r1 _ (by rw [ByteArray.toList_eq]; rfl), str_lit (hg.take 4) r2 _ (by rw [ByteArray.toList_eq]; rfl), str_lit (hg.take 2) r3 _ (by rw [ByteArray.toList_eq]; rfl), str_lit (hg.take 2) r4 _ (by rw [ByteArray.toList_eq]; rfl)⟩
set_option maxRecDepth 100000 in
theorem rMarkS_any (a : Option Addr) (n cp k4 k2 : Nat) (S4 S2 : ByteArray) (q1 q2 q3 q4 : Bool) (w : World) (hF : MkF S4 S2 q1 q2 q3 q4) (hcap : n ≤ cp)
    (s4 : (convert 24 9 (.slice a k4 cp)).run Try.prog w = .ok (.string S4) w) (s2 : (convert 24 9 (.slice a k2 cp)).run Try.prog w = .ok (.string S2) w)
    (h4 : (4 < n ∧ k4 = 4) ∨ (n ≤ 4 ∧ k4 = n)) (h2 : (2 < n ∧ k2 = 2) ∨ (n ≤ 2 ∧ k2 = n)) (hS : k4 = k2 → S4 = S2) :
    Calls Try.prog 19 #[.slice a n cp] w fun e w' => e = .returned (.tuple #[.int .i64 (mN q1 q2 q3 q4), .bool (mB q1 q2 q3), .int .i64 (mN q1 q2 q3 q4)]) ∧ w' = w := by
  obtain ⟨f1, f2, f3, f4⟩ := hF
  rcases h4 with ⟨h4, rfl⟩ | ⟨h4, rfl⟩
  · rcases h2 with ⟨h2, rfl⟩ | ⟨h2, rfl⟩
    case inr => omega
    have i4 : (4 : Int) < n := by omega
    have i2 : (2 : Int) < n := by omega
    clear hS h4 h2
    rcases Bool.eq_false_or_eq_true q1 with hq | hq
    case' inl => have HR : Hid (mN q1 q2 q3 q4 = 4 ∧ mB q1 q2 q3 = true) := (by show _ ∧ _; rw [hq]; exact ⟨rfl, rfl⟩)
    case' inr =>
      rcases Bool.eq_false_or_eq_true q2 with hq2 | hq2
      case' inl => have HR : Hid (mN q1 q2 q3 q4 = 4 ∧ mB q1 q2 q3 = false) := (by show _ ∧ _; rw [hq, hq2]; exact ⟨rfl, rfl⟩)
      case' inr =>
        rcases Bool.eq_false_or_eq_true q3 with hq3 | hq3
        case' inl => have HR : Hid (mN q1 q2 q3 q4 = 2 ∧ mB q1 q2 q3 = true) := (by show _ ∧ _; rw [hq, hq2, hq3]; exact ⟨rfl, rfl⟩)
        case' inr =>
          rcases Bool.eq_false_or_eq_true q4 with hq4 | hq4
          case' inl => have HR : Hid (mN q1 q2 q3 q4 = 2 ∧ mB q1 q2 q3 = false) := (by show _ ∧ _; rw [hq, hq2, hq3, hq4]; exact ⟨rfl, rfl⟩)
          case' inr => have HR : Hid (mN q1 q2 q3 q4 = 0 ∧ mB q1 q2 q3 = false) := (by show _ ∧ _; rw [hq, hq2, hq3, hq4]; exact ⟨rfl, rfl⟩)
    all_goals
      go_enter Try.func19, Try.ntmps19
      go_wp2
      go_ret3
      first | exact ⟨rfl, rfl⟩ | exact ⟨ret3 (iv HR.out.1.symm) (bv HR.out.2.symm) (iv HR.out.1.symm), rfl⟩
  · rcases h2 with ⟨h2, rfl⟩ | ⟨h2, rfl⟩
    · have i4 : ¬ ((4 : Int) < k4) := by omega
      have i2 : (2 : Int) < k4 := by omega
      have i3 : 2 ≤ cp := by omega
      clear hS h4 h2
      rcases Bool.eq_false_or_eq_true q1 with hq | hq
      case' inl => have HR : Hid (mN q1 q2 q3 q4 = 4 ∧ mB q1 q2 q3 = true) := (by show _ ∧ _; rw [hq]; exact ⟨rfl, rfl⟩)
      case' inr =>
        rcases Bool.eq_false_or_eq_true q2 with hq2 | hq2
        case' inl => have HR : Hid (mN q1 q2 q3 q4 = 4 ∧ mB q1 q2 q3 = false) := (by show _ ∧ _; rw [hq, hq2]; exact ⟨rfl, rfl⟩)
        case' inr =>
          rcases Bool.eq_false_or_eq_true q3 with hq3 | hq3
          case' inl => have HR : Hid (mN q1 q2 q3 q4 = 2 ∧ mB q1 q2 q3 = true) := (by show _ ∧ _; rw [hq, hq2, hq3]; exact ⟨rfl, rfl⟩)
          case' inr =>
            rcases Bool.eq_false_or_eq_true q4 with hq4 | hq4
            case' inl => have HR : Hid (mN q1 q2 q3 q4 = 2 ∧ mB q1 q2 q3 = false) := (by show _ ∧ _; rw [hq, hq2, hq3, hq4]; exact ⟨rfl, rfl⟩)
            case' inr => have HR : Hid (mN q1 q2 q3 q4 = 0 ∧ mB q1 q2 q3 = false) := (by show _ ∧ _; rw [hq, hq2, hq3, hq4]; exact ⟨rfl, rfl⟩)
      all_goals
        go_enter Try.func19, Try.ntmps19
        go_wp2
        go_ret3
        first | exact ⟨rfl, rfl⟩ | exact ⟨ret3 (iv HR.out.1.symm) (bv HR.out.2.symm) (iv HR.out.1.symm), rfl⟩
    · obtain rfl := hS rfl
      clear s2
      have i4 : ¬ ((4 : Int) < k2) := by omega
      have i2 : ¬ ((2 : Int) < k2) := by omega
      clear hS h4 h2
      rcases Bool.eq_false_or_eq_true q1 with hq | hq
      case' inl => have HR : Hid (mN q1 q2 q3 q4 = 4 ∧ mB q1 q2 q3 = true) := (by show _ ∧ _; rw [hq]; exact ⟨rfl, rfl⟩)
      case' inr =>
        rcases Bool.eq_false_or_eq_true q2 with hq2 | hq2
        case' inl => have HR : Hid (mN q1 q2 q3 q4 = 4 ∧ mB q1 q2 q3 = false) := (by show _ ∧ _; rw [hq, hq2]; exact ⟨rfl, rfl⟩)
        case' inr =>
          rcases Bool.eq_false_or_eq_true q3 with hq3 | hq3
          case' inl => have HR : Hid (mN q1 q2 q3 q4 = 2 ∧ mB q1 q2 q3 = true) := (by show _ ∧ _; rw [hq, hq2, hq3]; exact ⟨rfl, rfl⟩)
          case' inr =>
            rcases Bool.eq_false_or_eq_true q4 with hq4 | hq4
            case' inl => have HR : Hid (mN q1 q2 q3 q4 = 2 ∧ mB q1 q2 q3 = false) := (by show _ ∧ _; rw [hq, hq2, hq3, hq4]; exact ⟨rfl, rfl⟩)
            case' inr => have HR : Hid (mN q1 q2 q3 q4 = 0 ∧ mB q1 q2 q3 = false) := (by show _ ∧ _; rw [hq, hq2, hq3, hq4]; exact ⟨rfl, rfl⟩)
      all_goals
        go_enter Try.func19, Try.ntmps19
        go_wp2
        go_ret3
        first | exact ⟨rfl, rfl⟩ | exact ⟨ret3 (iv HR.out.1.symm) (bv HR.out.2.symm) (iv HR.out.1.symm), rfl⟩
theorem rMark_any (v : Value) (xs : List Int) (w : World) (h : Row w v (ints .u8 xs)) (hg : Rg 0 256 xs) :
    Calls Try.prog 19 #[v] w fun e w' => e = .returned (.tuple #[.int .i64 (markN xs), .bool (markB xs), .int .i64 (markN xs)]) ∧ w' = w := by
  obtain ⟨a, b, off, cp, rfl, _⟩ := id h.op
  have hcap : xs.length ≤ cp := by
    obtain ⟨_, _, _, _, hv, hc9, _⟩ := h.int
    cases hv
    exact hc9
  have hk : ∀ k m : Nat, (m < xs.length ∧ k = m) ∨ (xs.length ≤ m ∧ k = xs.length) → (convert 24 9 (.slice a k cp)).run Try.prog w = .ok (.string (strOfNums (xs.take m))) w := fun k m hkm => by
    have hk9 : k ≤ xs.length := by omega
    have r := Row.pre h k (by rw [ints_length]; exact hk9)
    have e : xs.take k = xs.take m := by
      rcases hkm with ⟨_, rfl⟩ | ⟨h1, rfl⟩
      · rfl
      · rw [List.take_length, List.take_of_length_le h1]
    rw [ints_take, e] at r
    have hlen : (xs.take m).length = k := by rw [List.length_take]; omega
    have r2 : Row w (.slice a (xs.take m).length cp) (ints .u8 (xs.take m)) := by rw [hlen]; exact r
    exact row_str (n := k) _ r
  rcases Nat.lt_or_ge 4 xs.length with h4 | h4
  · exact rMarkS_any a xs.length cp 4 2 _ _ _ _ _ _ w (mkf hg) hcap (hk 4 4 (.inl ⟨h4, rfl⟩)) (hk 2 2 (.inl ⟨by omega, rfl⟩)) (.inl ⟨h4, rfl⟩) (.inl ⟨by omega, rfl⟩) (fun h9 => by omega)
  · rcases Nat.lt_or_ge 2 xs.length with h2 | h2
    · exact rMarkS_any a xs.length cp xs.length 2 _ _ _ _ _ _ w (mkf hg) hcap (hk xs.length 4 (.inr ⟨h4, rfl⟩)) (hk 2 2 (.inl ⟨h2, rfl⟩)) (.inr ⟨h4, rfl⟩) (.inl ⟨h2, rfl⟩) (fun h9 => by omega)
    · exact rMarkS_any a xs.length cp xs.length xs.length _ _ _ _ _ _ w (mkf hg) hcap (hk xs.length 4 (.inr ⟨h4, rfl⟩)) (hk xs.length 2 (.inr ⟨h2, rfl⟩)) (.inr ⟨h4, rfl⟩) (.inr ⟨h2, rfl⟩) (fun _ => by rw [List.take_of_length_le (by omega : xs.length ≤ 4), List.take_of_length_le h2])
end Go.Proofs.Ytgfdebijcpdhbaa
