/-
  No cell of these rows narrows 'for every input' (looked for: loops, veiled, ifaces, maps, wideKeys, modest, calm, conditions, laid).
  DERIVED. THE GIVEN ROWS OF THIS SEAT. 4 by the template 'for every input the law returns true; each argument reads behind the call as it read before'; 0 by the template 'total and deterministic' (their statements: YtgfdebijcpdhbaaTotals.lean).
  GIVEN WITH THE SEED: the statements are not yours to turn. If you find one false, say at which input.
  Laid BY PROGRAM, IN A SANDBOX (cutbox-rows.mjs): the forced cells as the released guide's own fill.sh prints them over the translation 7559881706bac819… (all of the seat's roots in one cut). By AI agents, Wed Nov 11 2026. No macro, syntax, notation, axiom, sorry.
-/
import Derived.Test.YtgfdebijcpdhbaaChecked
import GoSem.Claim
import GoSem.ClaimJoined
import GoSem.ClaimMapViews
import Derived.JoinedTies
import Derived.KernelRfl
namespace Go.Proofs.Ytgfdebijcpdhbaa
/- THE CELL 'sum', in the pinned program and in every row, IS THE sha256 OF THE DUMP (.gsa) THAT YtgfdebijcpdhbaaProg.lean LOADS. Nothing in Lean hashes anything: it is a label: what it is worth is what the hold of that sum in a sandbox is worth. -/
noncomputable def Try.pinned : Pinned := { name := "ytgfdebijcpdhbaa", sum := "7559881706bac8197557551fd4c2e39ffe175e9546231678e8dfcd6485db79bf", checked := Try.checked }
namespace Rows
def none {H : Type} : Left H := { results := [], args := [] }

/-- 'sheavelaw45.WideLays': WHATEVER THE INPUT: true; the input reads as it did. -/
def wideLaysSpec : ChangeSpec := { name := "wideLays", fn := fun _ => fun
  | [d1, d2, d3] => { results := [.lit (.bool true)], args := [d1, d2, d3] }
  | _ => none }
def wideLaysRow : OpenClaim := { program := "ytgfdebijcpdhbaa", sum := "7559881706bac8197557551fd4c2e39ffe175e9546231678e8dfcd6485db79bf", func := "sheave/sheavelaw45.WideLays", spec := "wideLays", unfollowed := true, recurses := true, apart := false }
def WideLaysSaid : Prop := wideLaysRow.holds Try.pinned (OpenSpec.ofChange wideLaysSpec)

/-- ITS FALSE NEIGHBOUR: 'it returns false'. Refute it at one input. -/
def wideLaysWrong : ChangeSpec := { name := "wideLays", fn := fun _ => fun
  | [d1, d2, d3] => { results := [.lit (.bool false)], args := [d1, d2, d3] }
  | _ => none }
def WideLaysWrongFalsely : Prop := wideLaysRow.holds Try.pinned (OpenSpec.ofChange wideLaysWrong)

/-- 'sheavelaw45.WideReads': WHATEVER THE INPUT: true; the input reads as it did. -/
def wideReadsSpec : ChangeSpec := { name := "wideReads", fn := fun _ => fun
  | [d1, d2, d3] => { results := [.lit (.bool true)], args := [d1, d2, d3] }
  | _ => none }
def wideReadsRow : OpenClaim := { program := "ytgfdebijcpdhbaa", sum := "7559881706bac8197557551fd4c2e39ffe175e9546231678e8dfcd6485db79bf", func := "sheave/sheavelaw45.WideReads", spec := "wideReads", unfollowed := true, recurses := true, apart := false }
def WideReadsSaid : Prop := wideReadsRow.holds Try.pinned (OpenSpec.ofChange wideReadsSpec)

/-- ITS FALSE NEIGHBOUR: 'it returns false'. Refute it at one input. -/
def wideReadsWrong : ChangeSpec := { name := "wideReads", fn := fun _ => fun
  | [d1, d2, d3] => { results := [.lit (.bool false)], args := [d1, d2, d3] }
  | _ => none }
def WideReadsWrongFalsely : Prop := wideReadsRow.holds Try.pinned (OpenSpec.ofChange wideReadsWrong)

/-- 'sheavelaw45.WideMarks': WHATEVER THE INPUT: true; the input reads as it did. -/
def wideMarksSpec : ChangeSpec := { name := "wideMarks", fn := fun _ => fun
  | [d] => { results := [.lit (.bool true)], args := [d] }
  | _ => none }
def wideMarksRow : OpenClaim := { program := "ytgfdebijcpdhbaa", sum := "7559881706bac8197557551fd4c2e39ffe175e9546231678e8dfcd6485db79bf", func := "sheave/sheavelaw45.WideMarks", spec := "wideMarks", unfollowed := true, recurses := true, apart := false }
def WideMarksSaid : Prop := wideMarksRow.holds Try.pinned (OpenSpec.ofChange wideMarksSpec)

/-- ITS FALSE NEIGHBOUR: 'it returns false'. Refute it at one input. -/
def wideMarksWrong : ChangeSpec := { name := "wideMarks", fn := fun _ => fun
  | [d] => { results := [.lit (.bool false)], args := [d] }
  | _ => none }
def WideMarksWrongFalsely : Prop := wideMarksRow.holds Try.pinned (OpenSpec.ofChange wideMarksWrong)

/-- 'sheavelaw45.WideBack': WHATEVER THE INPUT: true; the input reads as it did. -/
def wideBackSpec : ChangeSpec := { name := "wideBack", fn := fun _ => fun
  | [d1, d2, d3] => { results := [.lit (.bool true)], args := [d1, d2, d3] }
  | _ => none }
def wideBackRow : OpenClaim := { program := "ytgfdebijcpdhbaa", sum := "7559881706bac8197557551fd4c2e39ffe175e9546231678e8dfcd6485db79bf", func := "sheave/sheavelaw45.WideBack", spec := "wideBack", unfollowed := true, recurses := true, apart := false }
def WideBackSaid : Prop := wideBackRow.holds Try.pinned (OpenSpec.ofChange wideBackSpec)

/-- ITS FALSE NEIGHBOUR: 'it returns false'. Refute it at one input. -/
def wideBackWrong : ChangeSpec := { name := "wideBack", fn := fun _ => fun
  | [d1, d2, d3] => { results := [.lit (.bool false)], args := [d1, d2, d3] }
  | _ => none }
def WideBackWrongFalsely : Prop := wideBackRow.holds Try.pinned (OpenSpec.ofChange wideBackWrong)

/- THE SECOND FORM. 'bulk': how many values and letters a reading holds, each counted each time it is reached (what is shared counts as often as it is met; a slice's spare places count too). A statement '..UptoSaid' is the law's where the arguments, and the package variables that the reading takes, are together of bulk at most 1048576: NARROWER than '..Said'. Prove '..Said' where nothing that the law and all that it calls make is longer than what came in: it says more and counts as full. Else prove '..UptoSaid'. A law counts once. -/
mutual
def uptoBulk {H : Type} : DataW H → Nat
  | .lit (.string bytes) => bytes.length + 1
  | .lit _ => 1
  | .nil => 1
  | .ptr d => uptoBulk d + 1
  | .slice elems spare => uptoBulkAll elems + uptoBulkAll spare + 1
  | .agg parts => uptoBulkAll parts + 1
  | .iface _ d => uptoBulk d + 1
  | .map entries => uptoBulkEntries entries + 1
  | .held _ => 1
def uptoBulkAll {H : Type} : List (DataW H) → Nat
  | [] => 0
  | d :: r => uptoBulk d + uptoBulkAll r
def uptoBulkEntries {H : Type} : List (Lit × DataW H) → Nat
  | [] => 0
  | x :: r => uptoBulkEntry x + uptoBulkEntries r
def uptoBulkEntry {H : Type} : Lit × DataW H → Nat
  | (.string bytes, d) => bytes.length + uptoBulk d + 1
  | (_, d) => uptoBulk d + 1
 end
def uptoSmall : (H : Type) → List (DataW H) → Bool := fun _ ds => decide (uptoBulkAll ds ≤ 1048576)
def OpenSpec.upto (s : _root_.Go.ChangeSpec) : _root_.Go.OpenSpec := { _root_.Go.OpenSpec.ofChange s with cond := some uptoSmall }

/-- 'sheavelaw45.WideLays', WHERE WHAT IT READS IS OF BULK AT MOST 1048576: true; the input reads as it did. -/
def wideLaysUptoRow : OpenClaim := { program := "ytgfdebijcpdhbaa", sum := "7559881706bac8197557551fd4c2e39ffe175e9546231678e8dfcd6485db79bf", func := "sheave/sheavelaw45.WideLays", spec := "wideLays", unfollowed := true, recurses := true, apart := false, narrowed := true }
def WideLaysUptoSaid : Prop := wideLaysUptoRow.holds Try.pinned (OpenSpec.upto wideLaysSpec)

/-- 'sheavelaw45.WideReads', WHERE WHAT IT READS IS OF BULK AT MOST 1048576: true; the input reads as it did. -/
def wideReadsUptoRow : OpenClaim := { program := "ytgfdebijcpdhbaa", sum := "7559881706bac8197557551fd4c2e39ffe175e9546231678e8dfcd6485db79bf", func := "sheave/sheavelaw45.WideReads", spec := "wideReads", unfollowed := true, recurses := true, apart := false, narrowed := true }
def WideReadsUptoSaid : Prop := wideReadsUptoRow.holds Try.pinned (OpenSpec.upto wideReadsSpec)

/-- 'sheavelaw45.WideMarks', WHERE WHAT IT READS IS OF BULK AT MOST 1048576: true; the input reads as it did. -/
def wideMarksUptoRow : OpenClaim := { program := "ytgfdebijcpdhbaa", sum := "7559881706bac8197557551fd4c2e39ffe175e9546231678e8dfcd6485db79bf", func := "sheave/sheavelaw45.WideMarks", spec := "wideMarks", unfollowed := true, recurses := true, apart := false, narrowed := true }
def WideMarksUptoSaid : Prop := wideMarksUptoRow.holds Try.pinned (OpenSpec.upto wideMarksSpec)

/-- 'sheavelaw45.WideBack', WHERE WHAT IT READS IS OF BULK AT MOST 1048576: true; the input reads as it did. -/
def wideBackUptoRow : OpenClaim := { program := "ytgfdebijcpdhbaa", sum := "7559881706bac8197557551fd4c2e39ffe175e9546231678e8dfcd6485db79bf", func := "sheave/sheavelaw45.WideBack", spec := "wideBack", unfollowed := true, recurses := true, apart := false, narrowed := true }
def WideBackUptoSaid : Prop := wideBackUptoRow.holds Try.pinned (OpenSpec.upto wideBackSpec)

end Rows
end Go.Proofs.Ytgfdebijcpdhbaa
