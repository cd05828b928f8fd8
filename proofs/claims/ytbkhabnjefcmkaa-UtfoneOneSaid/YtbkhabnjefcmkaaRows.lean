/-
  No cell of these rows narrows 'for every input' (looked for: loops, veiled, ifaces, maps, wideKeys, modest, calm, conditions, laid).
  DERIVED. THE GIVEN ROWS OF THIS SEAT. 11 by the template 'for every input the law returns true; each argument reads behind the call as it read before'; 0 by the template 'total and deterministic' (their statements: YtbkhabnjefcmkaaTotals.lean).
  GIVEN WITH THE SEED: the statements are not yours to turn. If you find one false, say at which input.
  Laid BY PROGRAM, IN A SANDBOX (cutbox-rows.mjs): the forced cells as the released guide's own fill.sh prints them over the translation 057970b8a874b71b… (all of the seat's roots in one cut). By AI agents, Wed Nov 11 2026. No macro, syntax, notation, axiom, sorry.
-/
import Derived.Test.YtbkhabnjefcmkaaChecked
import GoSem.Claim
import GoSem.ClaimJoined
import GoSem.ClaimMapViews
import Derived.JoinedTies
import Derived.KernelRfl
namespace Go.Proofs.Ytbkhabnjefcmkaa
/- THE CELL 'sum', in the pinned program and in every row, IS THE sha256 OF THE DUMP (.gsa) THAT YtbkhabnjefcmkaaProg.lean LOADS. Nothing in Lean hashes anything: it is a label: what it is worth is what the hold of that sum in a sandbox is worth. -/
noncomputable def Try.pinned : Pinned := { name := "ytbkhabnjefcmkaa", sum := "057970b8a874b71b3d1b3c1968c9b0830b77d8e1a7e26068ccdda0b0c729f181", checked := Try.checked }
namespace Rows
def none {H : Type} : Left H := { results := [], args := [] }

/-- 'sheavelaw06.UnitsReads': WHATEVER THE INPUT: true; the input reads as it did. -/
def unitsReadsSpec : ChangeSpec := { name := "unitsReads", fn := fun _ => fun
  | [d] => { results := [.lit (.bool true)], args := [d] }
  | _ => none }
def unitsReadsRow : OpenClaim := { program := "ytbkhabnjefcmkaa", sum := "057970b8a874b71b3d1b3c1968c9b0830b77d8e1a7e26068ccdda0b0c729f181", func := "sheave/sheavelaw06.UnitsReads", spec := "unitsReads", unfollowed := true, recurses := true, apart := false }
def UnitsReadsSaid : Prop := unitsReadsRow.holds Try.pinned (OpenSpec.ofChange unitsReadsSpec)

/-- ITS FALSE NEIGHBOUR: 'it returns false'. Refute it at one input. -/
def unitsReadsWrong : ChangeSpec := { name := "unitsReads", fn := fun _ => fun
  | [d] => { results := [.lit (.bool false)], args := [d] }
  | _ => none }
def UnitsReadsWrongFalsely : Prop := unitsReadsRow.holds Try.pinned (OpenSpec.ofChange unitsReadsWrong)

/-- 'sheavelaw10.WinoneOne': WHATEVER THE INPUT: true; the input reads as it did. -/
def winoneOneSpec : ChangeSpec := { name := "winoneOne", fn := fun _ => fun
  | [d1, d2] => { results := [.lit (.bool true)], args := [d1, d2] }
  | _ => none }
def winoneOneRow : OpenClaim := { program := "ytbkhabnjefcmkaa", sum := "057970b8a874b71b3d1b3c1968c9b0830b77d8e1a7e26068ccdda0b0c729f181", func := "sheave/sheavelaw10.WinoneOne", spec := "winoneOne", apart := false }
def WinoneOneSaid : Prop := winoneOneRow.holds Try.pinned (OpenSpec.ofChange winoneOneSpec)

/-- ITS FALSE NEIGHBOUR: 'it returns false'. Refute it at one input. -/
def winoneOneWrong : ChangeSpec := { name := "winoneOne", fn := fun _ => fun
  | [d1, d2] => { results := [.lit (.bool false)], args := [d1, d2] }
  | _ => none }
def WinoneOneWrongFalsely : Prop := winoneOneRow.holds Try.pinned (OpenSpec.ofChange winoneOneWrong)

/-- 'sheavelaw06.UnitsOctets': WHATEVER THE INPUT: true; the input reads as it did. -/
def unitsOctetsSpec : ChangeSpec := { name := "unitsOctets", fn := fun _ => fun
  | [d1, d2] => { results := [.lit (.bool true)], args := [d1, d2] }
  | _ => none }
def unitsOctetsRow : OpenClaim := { program := "ytbkhabnjefcmkaa", sum := "057970b8a874b71b3d1b3c1968c9b0830b77d8e1a7e26068ccdda0b0c729f181", func := "sheave/sheavelaw06.UnitsOctets", spec := "unitsOctets", unfollowed := true, recurses := true, apart := false }
def UnitsOctetsSaid : Prop := unitsOctetsRow.holds Try.pinned (OpenSpec.ofChange unitsOctetsSpec)

/-- ITS FALSE NEIGHBOUR: 'it returns false'. Refute it at one input. -/
def unitsOctetsWrong : ChangeSpec := { name := "unitsOctets", fn := fun _ => fun
  | [d1, d2] => { results := [.lit (.bool false)], args := [d1, d2] }
  | _ => none }
def UnitsOctetsWrongFalsely : Prop := unitsOctetsRow.holds Try.pinned (OpenSpec.ofChange unitsOctetsWrong)

/-- 'sheavelaw06.UnitsLays': WHATEVER THE INPUT: true; the input reads as it did. -/
def unitsLaysSpec : ChangeSpec := { name := "unitsLays", fn := fun _ => fun
  | [d1, d2] => { results := [.lit (.bool true)], args := [d1, d2] }
  | _ => none }
def unitsLaysRow : OpenClaim := { program := "ytbkhabnjefcmkaa", sum := "057970b8a874b71b3d1b3c1968c9b0830b77d8e1a7e26068ccdda0b0c729f181", func := "sheave/sheavelaw06.UnitsLays", spec := "unitsLays", unfollowed := true, recurses := true, apart := false }
def UnitsLaysSaid : Prop := unitsLaysRow.holds Try.pinned (OpenSpec.ofChange unitsLaysSpec)

/-- ITS FALSE NEIGHBOUR: 'it returns false'. Refute it at one input. -/
def unitsLaysWrong : ChangeSpec := { name := "unitsLays", fn := fun _ => fun
  | [d1, d2] => { results := [.lit (.bool false)], args := [d1, d2] }
  | _ => none }
def UnitsLaysWrongFalsely : Prop := unitsLaysRow.holds Try.pinned (OpenSpec.ofChange unitsLaysWrong)

/-- 'sheavelaw10.WinoneTexts': WHATEVER THE INPUT: true; the input reads as it did. -/
def winoneTextsSpec : ChangeSpec := { name := "winoneTexts", fn := fun _ => fun
  | [d1, d2] => { results := [.lit (.bool true)], args := [d1, d2] }
  | _ => none }
def winoneTextsRow : OpenClaim := { program := "ytbkhabnjefcmkaa", sum := "057970b8a874b71b3d1b3c1968c9b0830b77d8e1a7e26068ccdda0b0c729f181", func := "sheave/sheavelaw10.WinoneTexts", spec := "winoneTexts", apart := false }
def WinoneTextsSaid : Prop := winoneTextsRow.holds Try.pinned (OpenSpec.ofChange winoneTextsSpec)

/-- ITS FALSE NEIGHBOUR: 'it returns false'. Refute it at one input. -/
def winoneTextsWrong : ChangeSpec := { name := "winoneTexts", fn := fun _ => fun
  | [d1, d2] => { results := [.lit (.bool false)], args := [d1, d2] }
  | _ => none }
def WinoneTextsWrongFalsely : Prop := winoneTextsRow.holds Try.pinned (OpenSpec.ofChange winoneTextsWrong)

/-- 'sheavelaw10.WinoneBack': WHATEVER THE INPUT: true; the input reads as it did. -/
def winoneBackSpec : ChangeSpec := { name := "winoneBack", fn := fun _ => fun
  | [d1, d2] => { results := [.lit (.bool true)], args := [d1, d2] }
  | _ => none }
def winoneBackRow : OpenClaim := { program := "ytbkhabnjefcmkaa", sum := "057970b8a874b71b3d1b3c1968c9b0830b77d8e1a7e26068ccdda0b0c729f181", func := "sheave/sheavelaw10.WinoneBack", spec := "winoneBack", apart := false }
def WinoneBackSaid : Prop := winoneBackRow.holds Try.pinned (OpenSpec.ofChange winoneBackSpec)

/-- ITS FALSE NEIGHBOUR: 'it returns false'. Refute it at one input. -/
def winoneBackWrong : ChangeSpec := { name := "winoneBack", fn := fun _ => fun
  | [d1, d2] => { results := [.lit (.bool false)], args := [d1, d2] }
  | _ => none }
def WinoneBackWrongFalsely : Prop := winoneBackRow.holds Try.pinned (OpenSpec.ofChange winoneBackWrong)

/-- 'sheavelaw06.UnitsBack': WHATEVER THE INPUT: true; the input reads as it did. -/
def unitsBackSpec : ChangeSpec := { name := "unitsBack", fn := fun _ => fun
  | [d1, d2] => { results := [.lit (.bool true)], args := [d1, d2] }
  | _ => none }
def unitsBackRow : OpenClaim := { program := "ytbkhabnjefcmkaa", sum := "057970b8a874b71b3d1b3c1968c9b0830b77d8e1a7e26068ccdda0b0c729f181", func := "sheave/sheavelaw06.UnitsBack", spec := "unitsBack", unfollowed := true, recurses := true, apart := false }
def UnitsBackSaid : Prop := unitsBackRow.holds Try.pinned (OpenSpec.ofChange unitsBackSpec)

/-- ITS FALSE NEIGHBOUR: 'it returns false'. Refute it at one input. -/
def unitsBackWrong : ChangeSpec := { name := "unitsBack", fn := fun _ => fun
  | [d1, d2] => { results := [.lit (.bool false)], args := [d1, d2] }
  | _ => none }
def UnitsBackWrongFalsely : Prop := unitsBackRow.holds Try.pinned (OpenSpec.ofChange unitsBackWrong)

/-- 'sheavelaw04.UtfoneOctets': WHATEVER THE INPUT: true; the input reads as it did. -/
def utfoneOctetsSpec : ChangeSpec := { name := "utfoneOctets", fn := fun _ => fun
  | [d1, d2, d3] => { results := [.lit (.bool true)], args := [d1, d2, d3] }
  | _ => none }
def utfoneOctetsRow : OpenClaim := { program := "ytbkhabnjefcmkaa", sum := "057970b8a874b71b3d1b3c1968c9b0830b77d8e1a7e26068ccdda0b0c729f181", func := "sheave/sheavelaw04.UtfoneOctets", spec := "utfoneOctets", apart := false }
def UtfoneOctetsSaid : Prop := utfoneOctetsRow.holds Try.pinned (OpenSpec.ofChange utfoneOctetsSpec)

/-- ITS FALSE NEIGHBOUR: 'it returns false'. Refute it at one input. -/
def utfoneOctetsWrong : ChangeSpec := { name := "utfoneOctets", fn := fun _ => fun
  | [d1, d2, d3] => { results := [.lit (.bool false)], args := [d1, d2, d3] }
  | _ => none }
def UtfoneOctetsWrongFalsely : Prop := utfoneOctetsRow.holds Try.pinned (OpenSpec.ofChange utfoneOctetsWrong)

/-- 'sheavelaw04.UtfoneTakes': WHATEVER THE INPUT: true; the input reads as it did. -/
def utfoneTakesSpec : ChangeSpec := { name := "utfoneTakes", fn := fun _ => fun
  | [d] => { results := [.lit (.bool true)], args := [d] }
  | _ => none }
def utfoneTakesRow : OpenClaim := { program := "ytbkhabnjefcmkaa", sum := "057970b8a874b71b3d1b3c1968c9b0830b77d8e1a7e26068ccdda0b0c729f181", func := "sheave/sheavelaw04.UtfoneTakes", spec := "utfoneTakes", apart := false }
def UtfoneTakesSaid : Prop := utfoneTakesRow.holds Try.pinned (OpenSpec.ofChange utfoneTakesSpec)

/-- ITS FALSE NEIGHBOUR: 'it returns false'. Refute it at one input. -/
def utfoneTakesWrong : ChangeSpec := { name := "utfoneTakes", fn := fun _ => fun
  | [d] => { results := [.lit (.bool false)], args := [d] }
  | _ => none }
def UtfoneTakesWrongFalsely : Prop := utfoneTakesRow.holds Try.pinned (OpenSpec.ofChange utfoneTakesWrong)

/-- 'sheavelaw04.UtfoneBack': WHATEVER THE INPUT: true; the input reads as it did. -/
def utfoneBackSpec : ChangeSpec := { name := "utfoneBack", fn := fun _ => fun
  | [d1, d2] => { results := [.lit (.bool true)], args := [d1, d2] }
  | _ => none }
def utfoneBackRow : OpenClaim := { program := "ytbkhabnjefcmkaa", sum := "057970b8a874b71b3d1b3c1968c9b0830b77d8e1a7e26068ccdda0b0c729f181", func := "sheave/sheavelaw04.UtfoneBack", spec := "utfoneBack", apart := false }
def UtfoneBackSaid : Prop := utfoneBackRow.holds Try.pinned (OpenSpec.ofChange utfoneBackSpec)

/-- ITS FALSE NEIGHBOUR: 'it returns false'. Refute it at one input. -/
def utfoneBackWrong : ChangeSpec := { name := "utfoneBack", fn := fun _ => fun
  | [d1, d2] => { results := [.lit (.bool false)], args := [d1, d2] }
  | _ => none }
def UtfoneBackWrongFalsely : Prop := utfoneBackRow.holds Try.pinned (OpenSpec.ofChange utfoneBackWrong)

/-- 'sheavelaw04.UtfoneOne': WHATEVER THE INPUT: true; the input reads as it did. -/
def utfoneOneSpec : ChangeSpec := { name := "utfoneOne", fn := fun _ => fun
  | [d1, d2] => { results := [.lit (.bool true)], args := [d1, d2] }
  | _ => none }
def utfoneOneRow : OpenClaim := { program := "ytbkhabnjefcmkaa", sum := "057970b8a874b71b3d1b3c1968c9b0830b77d8e1a7e26068ccdda0b0c729f181", func := "sheave/sheavelaw04.UtfoneOne", spec := "utfoneOne", apart := false }
def UtfoneOneSaid : Prop := utfoneOneRow.holds Try.pinned (OpenSpec.ofChange utfoneOneSpec)

/-- ITS FALSE NEIGHBOUR: 'it returns false'. Refute it at one input. -/
def utfoneOneWrong : ChangeSpec := { name := "utfoneOne", fn := fun _ => fun
  | [d1, d2] => { results := [.lit (.bool false)], args := [d1, d2] }
  | _ => none }
def UtfoneOneWrongFalsely : Prop := utfoneOneRow.holds Try.pinned (OpenSpec.ofChange utfoneOneWrong)

/- THE SECOND FORM. 'bulk': how many values and letters a reading holds, each counted each time it is reached (what is shared counts as often as it is met; a slice's spare places count too). A statement '..UptoSaid' is the law's where the arguments, and the package variables that the reading takes, are together of bulk at most 1048576: NARROWER than '..Said'. Prove '..Said' where nothing that the law and all that it calls make is longer than what came in: it says more and counts as full. Else prove '..UptoSaid'. A law counts once. -/
mutual
def uptoBulk {H : Type} : DataW H → Nat
  | .lit (.string bytes) => bytes.length + 1
  | .lit _ => 1
  | .nil => 1
  | .ptr d => uptoBulk d + 1
  | .slice elems spare => uptoBulkAll elems + uptoBulkAll spare + 1
  | .agg parts => uptoBulkAll parts + 1
  | .iface _ d => uptoBulk d + 1
  | .map entries => uptoBulkEntries entries + 1
  | .held _ => 1
def uptoBulkAll {H : Type} : List (DataW H) → Nat
  | [] => 0
  | d :: r => uptoBulk d + uptoBulkAll r
def uptoBulkEntries {H : Type} : List (Lit × DataW H) → Nat
  | [] => 0
  | x :: r => uptoBulkEntry x + uptoBulkEntries r
def uptoBulkEntry {H : Type} : Lit × DataW H → Nat
  | (.string bytes, d) => bytes.length + uptoBulk d + 1
  | (_, d) => uptoBulk d + 1
 end
def uptoSmall : (H : Type) → List (DataW H) → Bool := fun _ ds => decide (uptoBulkAll ds ≤ 1048576)
def OpenSpec.upto (s : _root_.Go.ChangeSpec) : _root_.Go.OpenSpec := { _root_.Go.OpenSpec.ofChange s with cond := some uptoSmall }

/-- 'sheavelaw06.UnitsReads', WHERE WHAT IT READS IS OF BULK AT MOST 1048576: true; the input reads as it did. -/
def unitsReadsUptoRow : OpenClaim := { program := "ytbkhabnjefcmkaa", sum := "057970b8a874b71b3d1b3c1968c9b0830b77d8e1a7e26068ccdda0b0c729f181", func := "sheave/sheavelaw06.UnitsReads", spec := "unitsReads", unfollowed := true, recurses := true, apart := false, narrowed := true }
def UnitsReadsUptoSaid : Prop := unitsReadsUptoRow.holds Try.pinned (OpenSpec.upto unitsReadsSpec)

/-- 'sheavelaw10.WinoneOne', WHERE WHAT IT READS IS OF BULK AT MOST 1048576: true; the input reads as it did. -/
def winoneOneUptoRow : OpenClaim := { program := "ytbkhabnjefcmkaa", sum := "057970b8a874b71b3d1b3c1968c9b0830b77d8e1a7e26068ccdda0b0c729f181", func := "sheave/sheavelaw10.WinoneOne", spec := "winoneOne", apart := false, narrowed := true }
def WinoneOneUptoSaid : Prop := winoneOneUptoRow.holds Try.pinned (OpenSpec.upto winoneOneSpec)

/-- 'sheavelaw06.UnitsOctets', WHERE WHAT IT READS IS OF BULK AT MOST 1048576: true; the input reads as it did. -/
def unitsOctetsUptoRow : OpenClaim := { program := "ytbkhabnjefcmkaa", sum := "057970b8a874b71b3d1b3c1968c9b0830b77d8e1a7e26068ccdda0b0c729f181", func := "sheave/sheavelaw06.UnitsOctets", spec := "unitsOctets", unfollowed := true, recurses := true, apart := false, narrowed := true }
def UnitsOctetsUptoSaid : Prop := unitsOctetsUptoRow.holds Try.pinned (OpenSpec.upto unitsOctetsSpec)

/-- 'sheavelaw06.UnitsLays', WHERE WHAT IT READS IS OF BULK AT MOST 1048576: true; the input reads as it did. -/
def unitsLaysUptoRow : OpenClaim := { program := "ytbkhabnjefcmkaa", sum := "057970b8a874b71b3d1b3c1968c9b0830b77d8e1a7e26068ccdda0b0c729f181", func := "sheave/sheavelaw06.UnitsLays", spec := "unitsLays", unfollowed := true, recurses := true, apart := false, narrowed := true }
def UnitsLaysUptoSaid : Prop := unitsLaysUptoRow.holds Try.pinned (OpenSpec.upto unitsLaysSpec)

/-- 'sheavelaw10.WinoneTexts', WHERE WHAT IT READS IS OF BULK AT MOST 1048576: true; the input reads as it did. -/
def winoneTextsUptoRow : OpenClaim := { program := "ytbkhabnjefcmkaa", sum := "057970b8a874b71b3d1b3c1968c9b0830b77d8e1a7e26068ccdda0b0c729f181", func := "sheave/sheavelaw10.WinoneTexts", spec := "winoneTexts", apart := false, narrowed := true }
def WinoneTextsUptoSaid : Prop := winoneTextsUptoRow.holds Try.pinned (OpenSpec.upto winoneTextsSpec)

/-- 'sheavelaw10.WinoneBack', WHERE WHAT IT READS IS OF BULK AT MOST 1048576: true; the input reads as it did. -/
def winoneBackUptoRow : OpenClaim := { program := "ytbkhabnjefcmkaa", sum := "057970b8a874b71b3d1b3c1968c9b0830b77d8e1a7e26068ccdda0b0c729f181", func := "sheave/sheavelaw10.WinoneBack", spec := "winoneBack", apart := false, narrowed := true }
def WinoneBackUptoSaid : Prop := winoneBackUptoRow.holds Try.pinned (OpenSpec.upto winoneBackSpec)

/-- 'sheavelaw06.UnitsBack', WHERE WHAT IT READS IS OF BULK AT MOST 1048576: true; the input reads as it did. -/
def unitsBackUptoRow : OpenClaim := { program := "ytbkhabnjefcmkaa", sum := "057970b8a874b71b3d1b3c1968c9b0830b77d8e1a7e26068ccdda0b0c729f181", func := "sheave/sheavelaw06.UnitsBack", spec := "unitsBack", unfollowed := true, recurses := true, apart := false, narrowed := true }
def UnitsBackUptoSaid : Prop := unitsBackUptoRow.holds Try.pinned (OpenSpec.upto unitsBackSpec)

/-- 'sheavelaw04.UtfoneOctets', WHERE WHAT IT READS IS OF BULK AT MOST 1048576: true; the input reads as it did. -/
def utfoneOctetsUptoRow : OpenClaim := { program := "ytbkhabnjefcmkaa", sum := "057970b8a874b71b3d1b3c1968c9b0830b77d8e1a7e26068ccdda0b0c729f181", func := "sheave/sheavelaw04.UtfoneOctets", spec := "utfoneOctets", apart := false, narrowed := true }
def UtfoneOctetsUptoSaid : Prop := utfoneOctetsUptoRow.holds Try.pinned (OpenSpec.upto utfoneOctetsSpec)

/-- 'sheavelaw04.UtfoneTakes', WHERE WHAT IT READS IS OF BULK AT MOST 1048576: true; the input reads as it did. -/
def utfoneTakesUptoRow : OpenClaim := { program := "ytbkhabnjefcmkaa", sum := "057970b8a874b71b3d1b3c1968c9b0830b77d8e1a7e26068ccdda0b0c729f181", func := "sheave/sheavelaw04.UtfoneTakes", spec := "utfoneTakes", apart := false, narrowed := true }
def UtfoneTakesUptoSaid : Prop := utfoneTakesUptoRow.holds Try.pinned (OpenSpec.upto utfoneTakesSpec)

/-- 'sheavelaw04.UtfoneBack', WHERE WHAT IT READS IS OF BULK AT MOST 1048576: true; the input reads as it did. -/
def utfoneBackUptoRow : OpenClaim := { program := "ytbkhabnjefcmkaa", sum := "057970b8a874b71b3d1b3c1968c9b0830b77d8e1a7e26068ccdda0b0c729f181", func := "sheave/sheavelaw04.UtfoneBack", spec := "utfoneBack", apart := false, narrowed := true }
def UtfoneBackUptoSaid : Prop := utfoneBackUptoRow.holds Try.pinned (OpenSpec.upto utfoneBackSpec)

/-- 'sheavelaw04.UtfoneOne', WHERE WHAT IT READS IS OF BULK AT MOST 1048576: true; the input reads as it did. -/
def utfoneOneUptoRow : OpenClaim := { program := "ytbkhabnjefcmkaa", sum := "057970b8a874b71b3d1b3c1968c9b0830b77d8e1a7e26068ccdda0b0c729f181", func := "sheave/sheavelaw04.UtfoneOne", spec := "utfoneOne", apart := false, narrowed := true }
def UtfoneOneUptoSaid : Prop := utfoneOneUptoRow.holds Try.pinned (OpenSpec.upto utfoneOneSpec)

end Rows
end Go.Proofs.Ytbkhabnjefcmkaa
