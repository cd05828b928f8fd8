/- Plain: wide texts, read. -/
import Derived.Test.YtgfdebijcpdhbaaP45b
namespace Go.Proofs.Ytgfdebijcpdhbaa
def num2 : List Int → List Int
  | x :: y :: r => (x * 256 + y) :: num2 r
  | _ => []
def num4 : List Int → List Int
  | x :: y :: z :: t :: r => (((x * 256 + y) * 256 + z) * 256 + t) :: num4 r
  | _ => []
theorem num2_short {l : List Int} (h : l.length < 2) : num2 l = [] := by
  match l, h with
  | [], _ => rfl
  | [_], _ => rfl
theorem num4_short {l : List Int} (h : l.length < 4) : num4 l = [] := by
  match l, h with
  | [], _ => rfl
  | [_], _ => rfl
  | [_, _], _ => rfl
  | [_, _, _], _ => rfl
theorem num2_len : ∀ l : List Int, (num2 l).length = l.length / 2
  | [] => by simp [num2]
  | [_] => by simp [num2]
  | x :: y :: r => by rw [num2, List.length_cons, num2_len r]; simp only [List.length_cons]; omega
theorem num4_len : ∀ l : List Int, (num4 l).length = l.length / 4
  | [] => by simp [num4]
  | [_] => by simp [num4]
  | [_, _] => by simp [num4]
  | [_, _, _] => by simp [num4]
  | x :: y :: z :: t :: r => by rw [num4, List.length_cons, num4_len r]; simp only [List.length_cons]; omega
theorem num2_rng : ∀ l : List Int, Rg 0 256 l → Rg 0 65536 (num2 l)
  | [], _ => Rg.nil _ _
  | [_], _ => Rg.nil _ _
  | x :: y :: r, h => by
    have h1 := h.cons
    have h2 := h1.2.cons
    have h3 := num2_rng r h2.2
    intro c hc
    rw [num2] at hc
    rcases List.mem_cons.1 hc with rfl | hc
    · omega
    · exact h3 c hc
theorem num4_rng : ∀ l : List Int, Rg 0 256 l → Rg 0 4294967296 (num4 l)
  | [], _ => Rg.nil _ _
  | [_], _ => Rg.nil _ _
  | [_, _], _ => Rg.nil _ _
  | [_, _, _], _ => Rg.nil _ _
  | x :: y :: z :: t :: r, h => by
    have h1 := h.cons
    have h2 := h1.2.cons
    have h3 := h2.2.cons
    have h4 := h3.2.cons
    have h5 := num4_rng r h4.2
    intro c hc
    rw [num4] at hc
    rcases List.mem_cons.1 hc with rfl | hc
    · omega
    · exact h5 c hc
def numW (wd : Int) (l : List Int) : List Int := if wd = 4 then num4 l else num2 l
/-- The signs of the numbers, and whether they are right. -/
def fix4 (n : Int) : Int := if scB n then n else 65533
def textW (wd : Int) (l : List Int) : List Int := if wd = 4 then l.map fix4 else (uread l).map Prod.fst
def rightW (wd : Int) (l : List Int) : Bool := if wd = 4 then l.all scB else ferr ((uread l).map Prod.snd) == 0
def big1 (wd : Int) (big : Bool) (xs : List Int) : List Int := if big then xs else sw wd xs
def overW (wd : Int) (xs : List Int) : Bool := decide (0 < xs.length % wd.toNat)
/-- What is read, and the error. -/
def readT (wd : Int) (big : Bool) (xs : List Int) : List Int :=
  if wd = 2 ∨ wd = 4 then (if overW wd xs then textW wd (numW wd (big1 wd big xs)) ++ [65533] else textW wd (numW wd (big1 wd big xs))) else []
def readE (wd : Int) (big : Bool) (xs : List Int) : Int :=
  if wd = 2 ∨ wd = 4 then (if overW wd xs then 4 else if rightW wd (numW wd (big1 wd big xs)) then 0 else 3) else 1
end Go.Proofs.Ytgfdebijcpdhbaa
