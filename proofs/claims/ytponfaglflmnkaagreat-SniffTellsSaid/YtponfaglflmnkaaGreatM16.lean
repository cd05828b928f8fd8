/- Plain: the other order. · Plain: wide texts, read. · Plain: wide texts, read by the document. (laid together by program out of single texts). -/
import Derived.Test.YtponfaglflmnkaaGreatM13
namespace Go.Proofs.YtponfaglflmnkaaGreat
def sw2 : List Int → List Int
  | x :: y :: r => y :: x :: sw2 r
  | l => l
def sw4 : List Int → List Int
  | x :: y :: z :: t :: r => t :: z :: y :: x :: sw4 r
  | l => l
def sw (wd : Int) (xs : List Int) : List Int := if wd = 4 then sw4 xs else if wd = 2 then sw2 xs else xs
theorem sw2_short {l : List Int} (h : l.length < 2) : sw2 l = l := by
  match l, h with
  | [], _ => rfl
  | [_], _ => rfl
theorem sw4_short {l : List Int} (h : l.length < 4) : sw4 l = l := by
  match l, h with
  | [], _ => rfl
  | [_], _ => rfl
  | [_, _], _ => rfl
  | [_, _, _], _ => rfl
theorem sw2_len : ∀ l : List Int, (sw2 l).length = l.length
  | [] => rfl
  | [_] => rfl
  | x :: y :: r => by rw [sw2, List.length_cons, List.length_cons, sw2_len r]; rfl
theorem sw4_len : ∀ l : List Int, (sw4 l).length = l.length
  | [] => rfl
  | [_] => rfl
  | [_, _] => rfl
  | [_, _, _] => rfl
  | x :: y :: z :: t :: r => by rw [sw4, List.length_cons, List.length_cons, List.length_cons, List.length_cons, sw4_len r]; rfl
theorem sw_len (wd : Int) (l : List Int) : (sw wd l).length = l.length := by
  unfold sw; split
  · exact sw4_len l
  · split
    · exact sw2_len l
    · rfl
theorem sw2_rng : ∀ l : List Int, Rg 0 256 l → Rg 0 256 (sw2 l)
  | [], h => h
  | [_], h => h
  | x :: y :: r, h => by
    have h1 := h.cons
    have h2 := h1.2.cons
    have h3 := sw2_rng r h2.2
    intro c hc
    rw [sw2] at hc
    rcases List.mem_cons.1 hc with rfl | hc
    · exact h2.1
    · rcases List.mem_cons.1 hc with rfl | hc
      · exact h1.1
      · exact h3 c hc
theorem sw4_rng : ∀ l : List Int, Rg 0 256 l → Rg 0 256 (sw4 l)
  | [], h => h
  | [_], h => h
  | [_, _], h => h
  | [_, _, _], h => h
  | x :: y :: z :: t :: r, h => by
    have h1 := h.cons
    have h2 := h1.2.cons
    have h3 := h2.2.cons
    have h4 := h3.2.cons
    have h5 := sw4_rng r h4.2
    intro c hc
    rw [sw4] at hc
    rcases List.mem_cons.1 hc with rfl | hc
    · exact h4.1
    · rcases List.mem_cons.1 hc with rfl | hc
      · exact h3.1
      · rcases List.mem_cons.1 hc with rfl | hc
        · exact h2.1
        · rcases List.mem_cons.1 hc with rfl | hc
          · exact h1.1
          · exact h5 c hc
theorem sw_rng {wd : Int} {l : List Int} (h : Rg 0 256 l) : Rg 0 256 (sw wd l) := by
  unfold sw; split
  · exact sw4_rng l h
  · split
    · exact sw2_rng l h
    · exact h
theorem sw_grp2 : ∀ l : List Int, sw2 (l.flatMap (grp 2 true)) = l.flatMap (grp 2 false)
  | [] => rfl
  | n :: l => by
    rw [List.flatMap_cons, List.flatMap_cons, ← sw_grp2 l]; rfl
theorem sw_grp4 : ∀ l : List Int, sw4 (l.flatMap (grp 4 true)) = l.flatMap (grp 4 false)
  | [] => rfl
  | n :: l => by
    rw [List.flatMap_cons, List.flatMap_cons, ← sw_grp4 l]; rfl
theorem sw_wide {wd : Int} (hw : wd = 2 ∨ wd = 4) (t : List Int) : sw wd (wideL wd true t) = wideL wd false t := by
  rcases hw with rfl | rfl
  · exact sw_grp2 _
  · exact sw_grp4 _
theorem uoct_grp {l : List Int} (h : Rg 0 65536 l) : uoct l = l.flatMap (grp 2 true) := by
  induction l with
  | nil => rfl
  | cons u l ih =>
    have h1 := h.cons
    have e : u / 256 % 256 = u / 256 := by omega
    have h2 := ih h1.2
    rw [uoct] at h2 ⊢
    rw [List.flatMap_cons, List.flatMap_cons, h2]
    show [u / 256, u % 256] ++ _ = [u / 256 % 256, u % 256] ++ _
    rw [e]
end Go.Proofs.YtponfaglflmnkaaGreat
namespace Go.Proofs.YtponfaglflmnkaaGreat
def num2 : List Int → List Int
  | x :: y :: r => (x * 256 + y) :: num2 r
  | _ => []
def num4 : List Int → List Int
  | x :: y :: z :: t :: r => (((x * 256 + y) * 256 + z) * 256 + t) :: num4 r
  | _ => []
theorem num2_short {l : List Int} (h : l.length < 2) : num2 l = [] := by
  match l, h with
  | [], _ => rfl
  | [_], _ => rfl
theorem num4_short {l : List Int} (h : l.length < 4) : num4 l = [] := by
  match l, h with
  | [], _ => rfl
  | [_], _ => rfl
  | [_, _], _ => rfl
  | [_, _, _], _ => rfl
theorem num2_len : ∀ l : List Int, (num2 l).length = l.length / 2
  | [] => by simp [num2]
  | [_] => by simp [num2]
  | x :: y :: r => by rw [num2, List.length_cons, num2_len r]; simp only [List.length_cons]; omega
theorem num4_len : ∀ l : List Int, (num4 l).length = l.length / 4
  | [] => by simp [num4]
  | [_] => by simp [num4]
  | [_, _] => by simp [num4]
  | [_, _, _] => by simp [num4]
  | x :: y :: z :: t :: r => by rw [num4, List.length_cons, num4_len r]; simp only [List.length_cons]; omega
theorem num2_rng : ∀ l : List Int, Rg 0 256 l → Rg 0 65536 (num2 l)
  | [], _ => Rg.nil _ _
  | [_], _ => Rg.nil _ _
  | x :: y :: r, h => by
    have h1 := h.cons
    have h2 := h1.2.cons
    have h3 := num2_rng r h2.2
    intro c hc
    rw [num2] at hc
    rcases List.mem_cons.1 hc with rfl | hc
    · omega
    · exact h3 c hc
theorem num4_rng : ∀ l : List Int, Rg 0 256 l → Rg 0 4294967296 (num4 l)
  | [], _ => Rg.nil _ _
  | [_], _ => Rg.nil _ _
  | [_, _], _ => Rg.nil _ _
  | [_, _, _], _ => Rg.nil _ _
  | x :: y :: z :: t :: r, h => by
    have h1 := h.cons
    have h2 := h1.2.cons
    have h3 := h2.2.cons
    have h4 := h3.2.cons
    have h5 := num4_rng r h4.2
    intro c hc
    rw [num4] at hc
    rcases List.mem_cons.1 hc with rfl | hc
    · omega
    · exact h5 c hc
def numW (wd : Int) (l : List Int) : List Int := if wd = 4 then num4 l else num2 l
/-- The signs of the numbers, and whether they are right. -/
def fix4 (n : Int) : Int := if scB n then n else 65533
def textW (wd : Int) (l : List Int) : List Int := if wd = 4 then l.map fix4 else (uread l).map Prod.fst
def rightW (wd : Int) (l : List Int) : Bool := if wd = 4 then l.all scB else ferr ((uread l).map Prod.snd) == 0
def big1 (wd : Int) (big : Bool) (xs : List Int) : List Int := if big then xs else sw wd xs
def overW (wd : Int) (xs : List Int) : Bool := decide (0 < xs.length % wd.toNat)
/-- What is read, and the error. -/
def readT (wd : Int) (big : Bool) (xs : List Int) : List Int :=
  if wd = 2 ∨ wd = 4 then (if overW wd xs then textW wd (numW wd (big1 wd big xs)) ++ [65533] else textW wd (numW wd (big1 wd big xs))) else []
def readE (wd : Int) (big : Bool) (xs : List Int) : Int :=
  if wd = 2 ∨ wd = 4 then (if overW wd xs then 4 else if rightW wd (numW wd (big1 wd big xs)) then 0 else 3) else 1
end Go.Proofs.YtponfaglflmnkaaGreat
namespace Go.Proofs.YtponfaglflmnkaaGreat
theorem num2_from : ∀ l : List Int, fromO (l.take (2 * (l.length / 2))) = num2 l
  | [] => by simp [fromO, num2]
  | [x] => by simp [fromO, num2]
  | x :: y :: r => by
    have ih := num2_from r
    have e : 2 * ((x :: y :: r).length / 2) = 2 * (r.length / 2) + 1 + 1 := by simp only [List.length_cons]; omega
    rw [e, List.take_succ_cons, List.take_succ_cons, fromO, ih, num2]
    congr 1
    omega
theorem num4_all {ys D S : List Int} (h : num4 ys = D ++ num4 S) (hs : S.length < 4) : num4 ys = D := by rw [h, num4_short hs, List.append_nil]
end Go.Proofs.YtponfaglflmnkaaGreat
