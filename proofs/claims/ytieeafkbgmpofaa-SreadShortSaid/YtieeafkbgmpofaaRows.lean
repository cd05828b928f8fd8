/-
  No cell of these rows narrows 'for every input' (looked for: loops, veiled, ifaces, maps, wideKeys, modest, calm, conditions, laid).
  DERIVED. THE GIVEN ROWS OF THIS SEAT. 11 by the template 'for every input the law returns true; each argument reads behind the call as it read before'; 0 by the template 'total and deterministic' (their statements: YtieeafkbgmpofaaTotals.lean).
  GIVEN WITH THE SEED: the statements are not yours to turn. If you find one false, say at which input.
  Laid BY PROGRAM, IN A SANDBOX (cutbox-rows.mjs): the forced cells as the released guide's own fill.sh prints them over the translation b0cd31881374bde3… (all of the seat's roots in one cut). By AI agents, Wed Nov 11 2026. No macro, syntax, notation, axiom, sorry.
-/
import Derived.Test.YtieeafkbgmpofaaChecked
import GoSem.Claim
import GoSem.ClaimJoined
import GoSem.ClaimMapViews
import Derived.JoinedTies
import Derived.KernelRfl
namespace Go.Proofs.Ytieeafkbgmpofaa
/- THE CELL 'sum', in the pinned program and in every row, IS THE sha256 OF THE DUMP (.gsa) THAT YtieeafkbgmpofaaProg.lean LOADS. Nothing in Lean hashes anything: it is a label: what it is worth is what the hold of that sum in a sandbox is worth. -/
noncomputable def Try.pinned : Pinned := { name := "ytieeafkbgmpofaa", sum := "b0cd31881374bde342788b79aeacea6c3fadb9316e663a9b0a9c7bc23e972fa6", checked := Try.checked }
namespace Rows
def none {H : Type} : Left H := { results := [], args := [] }

/-- 'sheavelaw23.SreadReads': WHATEVER THE INPUT: true; the input reads as it did. -/
def sreadReadsSpec : ChangeSpec := { name := "sreadReads", fn := fun _ => fun
  | [d] => { results := [.lit (.bool true)], args := [d] }
  | _ => none }
def sreadReadsRow : OpenClaim := { program := "ytieeafkbgmpofaa", sum := "b0cd31881374bde342788b79aeacea6c3fadb9316e663a9b0a9c7bc23e972fa6", func := "sheave/sheavelaw23.SreadReads", spec := "sreadReads", inPlace := ["internal/bytealg.IndexByteString"], unfollowed := true, recurses := true, apart := false }
def SreadReadsSaid : Prop := sreadReadsRow.holds Try.pinned (OpenSpec.ofChange sreadReadsSpec)

/-- ITS FALSE NEIGHBOUR: 'it returns false'. Refute it at one input. -/
def sreadReadsWrong : ChangeSpec := { name := "sreadReads", fn := fun _ => fun
  | [d] => { results := [.lit (.bool false)], args := [d] }
  | _ => none }
def SreadReadsWrongFalsely : Prop := sreadReadsRow.holds Try.pinned (OpenSpec.ofChange sreadReadsWrong)

/-- 'sheavelaw23.SreadRuns': WHATEVER THE INPUT: true; the input reads as it did. -/
def sreadRunsSpec : ChangeSpec := { name := "sreadRuns", fn := fun _ => fun
  | [d] => { results := [.lit (.bool true)], args := [d] }
  | _ => none }
def sreadRunsRow : OpenClaim := { program := "ytieeafkbgmpofaa", sum := "b0cd31881374bde342788b79aeacea6c3fadb9316e663a9b0a9c7bc23e972fa6", func := "sheave/sheavelaw23.SreadRuns", spec := "sreadRuns", inPlace := ["internal/bytealg.IndexByteString"], unfollowed := true, recurses := true, apart := false }
def SreadRunsSaid : Prop := sreadRunsRow.holds Try.pinned (OpenSpec.ofChange sreadRunsSpec)

/-- ITS FALSE NEIGHBOUR: 'it returns false'. Refute it at one input. -/
def sreadRunsWrong : ChangeSpec := { name := "sreadRuns", fn := fun _ => fun
  | [d] => { results := [.lit (.bool false)], args := [d] }
  | _ => none }
def SreadRunsWrongFalsely : Prop := sreadRunsRow.holds Try.pinned (OpenSpec.ofChange sreadRunsWrong)

/-- 'sheavelaw22.UsevenSigns': WHATEVER THE INPUT: true; the input reads as it did. -/
def usevenSignsSpec : ChangeSpec := { name := "usevenSigns", fn := fun _ => fun
  | [d1, d2] => { results := [.lit (.bool true)], args := [d1, d2] }
  | _ => none }
def usevenSignsRow : OpenClaim := { program := "ytieeafkbgmpofaa", sum := "b0cd31881374bde342788b79aeacea6c3fadb9316e663a9b0a9c7bc23e972fa6", func := "sheave/sheavelaw22.UsevenSigns", spec := "usevenSigns", inPlace := ["internal/bytealg.IndexByteString"], unfollowed := true, recurses := true, apart := false }
def UsevenSignsSaid : Prop := usevenSignsRow.holds Try.pinned (OpenSpec.ofChange usevenSignsSpec)

/-- ITS FALSE NEIGHBOUR: 'it returns false'. Refute it at one input. -/
def usevenSignsWrong : ChangeSpec := { name := "usevenSigns", fn := fun _ => fun
  | [d1, d2] => { results := [.lit (.bool false)], args := [d1, d2] }
  | _ => none }
def UsevenSignsWrongFalsely : Prop := usevenSignsRow.holds Try.pinned (OpenSpec.ofChange usevenSignsWrong)

/-- 'sheavelaw22.UsevenSeven': WHATEVER THE INPUT: true; the input reads as it did. -/
def usevenSevenSpec : ChangeSpec := { name := "usevenSeven", fn := fun _ => fun
  | [d] => { results := [.lit (.bool true)], args := [d] }
  | _ => none }
def usevenSevenRow : OpenClaim := { program := "ytieeafkbgmpofaa", sum := "b0cd31881374bde342788b79aeacea6c3fadb9316e663a9b0a9c7bc23e972fa6", func := "sheave/sheavelaw22.UsevenSeven", spec := "usevenSeven", inPlace := ["internal/bytealg.IndexByteString"], unfollowed := true, recurses := true, apart := false }
def UsevenSevenSaid : Prop := usevenSevenRow.holds Try.pinned (OpenSpec.ofChange usevenSevenSpec)

/-- ITS FALSE NEIGHBOUR: 'it returns false'. Refute it at one input. -/
def usevenSevenWrong : ChangeSpec := { name := "usevenSeven", fn := fun _ => fun
  | [d] => { results := [.lit (.bool false)], args := [d] }
  | _ => none }
def UsevenSevenWrongFalsely : Prop := usevenSevenRow.holds Try.pinned (OpenSpec.ofChange usevenSevenWrong)

/-- 'sheavelaw22.UsevenLays': WHATEVER THE INPUT: true; the input reads as it did. -/
def usevenLaysSpec : ChangeSpec := { name := "usevenLays", fn := fun _ => fun
  | [d] => { results := [.lit (.bool true)], args := [d] }
  | _ => none }
def usevenLaysRow : OpenClaim := { program := "ytieeafkbgmpofaa", sum := "b0cd31881374bde342788b79aeacea6c3fadb9316e663a9b0a9c7bc23e972fa6", func := "sheave/sheavelaw22.UsevenLays", spec := "usevenLays", inPlace := ["internal/bytealg.IndexByteString"], unfollowed := true, recurses := true, apart := false }
def UsevenLaysSaid : Prop := usevenLaysRow.holds Try.pinned (OpenSpec.ofChange usevenLaysSpec)

/-- ITS FALSE NEIGHBOUR: 'it returns false'. Refute it at one input. -/
def usevenLaysWrong : ChangeSpec := { name := "usevenLays", fn := fun _ => fun
  | [d] => { results := [.lit (.bool false)], args := [d] }
  | _ => none }
def UsevenLaysWrongFalsely : Prop := usevenLaysRow.holds Try.pinned (OpenSpec.ofChange usevenLaysWrong)

/-- 'sheavelaw23.SreadBack': WHATEVER THE INPUT: true; the input reads as it did. -/
def sreadBackSpec : ChangeSpec := { name := "sreadBack", fn := fun _ => fun
  | [d] => { results := [.lit (.bool true)], args := [d] }
  | _ => none }
def sreadBackRow : OpenClaim := { program := "ytieeafkbgmpofaa", sum := "b0cd31881374bde342788b79aeacea6c3fadb9316e663a9b0a9c7bc23e972fa6", func := "sheave/sheavelaw23.SreadBack", spec := "sreadBack", inPlace := ["internal/bytealg.IndexByteString"], unfollowed := true, recurses := true, apart := false }
def SreadBackSaid : Prop := sreadBackRow.holds Try.pinned (OpenSpec.ofChange sreadBackSpec)

/-- ITS FALSE NEIGHBOUR: 'it returns false'. Refute it at one input. -/
def sreadBackWrong : ChangeSpec := { name := "sreadBack", fn := fun _ => fun
  | [d] => { results := [.lit (.bool false)], args := [d] }
  | _ => none }
def SreadBackWrongFalsely : Prop := sreadBackRow.holds Try.pinned (OpenSpec.ofChange sreadBackWrong)

/-- 'sheavelaw23.SreadShort': WHATEVER THE INPUT: true; the input reads as it did. -/
def sreadShortSpec : ChangeSpec := { name := "sreadShort", fn := fun _ => fun
  | [d] => { results := [.lit (.bool true)], args := [d] }
  | _ => none }
def sreadShortRow : OpenClaim := { program := "ytieeafkbgmpofaa", sum := "b0cd31881374bde342788b79aeacea6c3fadb9316e663a9b0a9c7bc23e972fa6", func := "sheave/sheavelaw23.SreadShort", spec := "sreadShort", inPlace := ["internal/bytealg.IndexByteString"], unfollowed := true, recurses := true, apart := false }
def SreadShortSaid : Prop := sreadShortRow.holds Try.pinned (OpenSpec.ofChange sreadShortSpec)

/-- ITS FALSE NEIGHBOUR: 'it returns false'. Refute it at one input. -/
def sreadShortWrong : ChangeSpec := { name := "sreadShort", fn := fun _ => fun
  | [d] => { results := [.lit (.bool false)], args := [d] }
  | _ => none }
def SreadShortWrongFalsely : Prop := sreadShortRow.holds Try.pinned (OpenSpec.ofChange sreadShortWrong)

/-- 'sheavelaw24.MsevenLays': WHATEVER THE INPUT: true; the input reads as it did. -/
def msevenLaysSpec : ChangeSpec := { name := "msevenLays", fn := fun _ => fun
  | [d1, d2] => { results := [.lit (.bool true)], args := [d1, d2] }
  | _ => none }
def msevenLaysRow : OpenClaim := { program := "ytieeafkbgmpofaa", sum := "b0cd31881374bde342788b79aeacea6c3fadb9316e663a9b0a9c7bc23e972fa6", func := "sheave/sheavelaw24.MsevenLays", spec := "msevenLays", inPlace := ["internal/bytealg.IndexByteString"], unfollowed := true, recurses := true, apart := false }
def MsevenLaysSaid : Prop := msevenLaysRow.holds Try.pinned (OpenSpec.ofChange msevenLaysSpec)

/-- ITS FALSE NEIGHBOUR: 'it returns false'. Refute it at one input. -/
def msevenLaysWrong : ChangeSpec := { name := "msevenLays", fn := fun _ => fun
  | [d1, d2] => { results := [.lit (.bool false)], args := [d1, d2] }
  | _ => none }
def MsevenLaysWrongFalsely : Prop := msevenLaysRow.holds Try.pinned (OpenSpec.ofChange msevenLaysWrong)

/-- 'sheavelaw24.MsevenBack': WHATEVER THE INPUT: true; the input reads as it did. -/
def msevenBackSpec : ChangeSpec := { name := "msevenBack", fn := fun _ => fun
  | [d] => { results := [.lit (.bool true)], args := [d] }
  | _ => none }
def msevenBackRow : OpenClaim := { program := "ytieeafkbgmpofaa", sum := "b0cd31881374bde342788b79aeacea6c3fadb9316e663a9b0a9c7bc23e972fa6", func := "sheave/sheavelaw24.MsevenBack", spec := "msevenBack", inPlace := ["internal/bytealg.IndexByteString"], unfollowed := true, recurses := true, apart := false }
def MsevenBackSaid : Prop := msevenBackRow.holds Try.pinned (OpenSpec.ofChange msevenBackSpec)

/-- ITS FALSE NEIGHBOUR: 'it returns false'. Refute it at one input. -/
def msevenBackWrong : ChangeSpec := { name := "msevenBack", fn := fun _ => fun
  | [d] => { results := [.lit (.bool false)], args := [d] }
  | _ => none }
def MsevenBackWrongFalsely : Prop := msevenBackRow.holds Try.pinned (OpenSpec.ofChange msevenBackWrong)

/-- 'sheavelaw24.MsevenShort': WHATEVER THE INPUT: true; the input reads as it did. -/
def msevenShortSpec : ChangeSpec := { name := "msevenShort", fn := fun _ => fun
  | [d] => { results := [.lit (.bool true)], args := [d] }
  | _ => none }
def msevenShortRow : OpenClaim := { program := "ytieeafkbgmpofaa", sum := "b0cd31881374bde342788b79aeacea6c3fadb9316e663a9b0a9c7bc23e972fa6", func := "sheave/sheavelaw24.MsevenShort", spec := "msevenShort", inPlace := ["internal/bytealg.IndexByteString"], unfollowed := true, recurses := true, apart := false }
def MsevenShortSaid : Prop := msevenShortRow.holds Try.pinned (OpenSpec.ofChange msevenShortSpec)

/-- ITS FALSE NEIGHBOUR: 'it returns false'. Refute it at one input. -/
def msevenShortWrong : ChangeSpec := { name := "msevenShort", fn := fun _ => fun
  | [d] => { results := [.lit (.bool false)], args := [d] }
  | _ => none }
def MsevenShortWrongFalsely : Prop := msevenShortRow.holds Try.pinned (OpenSpec.ofChange msevenShortWrong)

/-- 'sheavelaw24.MsevenReads': WHATEVER THE INPUT: true; the input reads as it did. -/
def msevenReadsSpec : ChangeSpec := { name := "msevenReads", fn := fun _ => fun
  | [d1, d2] => { results := [.lit (.bool true)], args := [d1, d2] }
  | _ => none }
def msevenReadsRow : OpenClaim := { program := "ytieeafkbgmpofaa", sum := "b0cd31881374bde342788b79aeacea6c3fadb9316e663a9b0a9c7bc23e972fa6", func := "sheave/sheavelaw24.MsevenReads", spec := "msevenReads", inPlace := ["internal/bytealg.IndexByteString"], unfollowed := true, recurses := true, apart := false }
def MsevenReadsSaid : Prop := msevenReadsRow.holds Try.pinned (OpenSpec.ofChange msevenReadsSpec)

/-- ITS FALSE NEIGHBOUR: 'it returns false'. Refute it at one input. -/
def msevenReadsWrong : ChangeSpec := { name := "msevenReads", fn := fun _ => fun
  | [d1, d2] => { results := [.lit (.bool false)], args := [d1, d2] }
  | _ => none }
def MsevenReadsWrongFalsely : Prop := msevenReadsRow.holds Try.pinned (OpenSpec.ofChange msevenReadsWrong)

/- THE SECOND FORM. 'bulk': how many values and letters a reading holds, each counted each time it is reached (what is shared counts as often as it is met; a slice's spare places count too). A statement '..UptoSaid' is the law's where the arguments, and the package variables that the reading takes, are together of bulk at most 1048576: NARROWER than '..Said'. Prove '..Said' where nothing that the law and all that it calls make is longer than what came in: it says more and counts as full. Else prove '..UptoSaid'. A law counts once. -/
mutual
def uptoBulk {H : Type} : DataW H → Nat
  | .lit (.string bytes) => bytes.length + 1
  | .lit _ => 1
  | .nil => 1
  | .ptr d => uptoBulk d + 1
  | .slice elems spare => uptoBulkAll elems + uptoBulkAll spare + 1
  | .agg parts => uptoBulkAll parts + 1
  | .iface _ d => uptoBulk d + 1
  | .map entries => uptoBulkEntries entries + 1
  | .held _ => 1
def uptoBulkAll {H : Type} : List (DataW H) → Nat
  | [] => 0
  | d :: r => uptoBulk d + uptoBulkAll r
def uptoBulkEntries {H : Type} : List (Lit × DataW H) → Nat
  | [] => 0
  | x :: r => uptoBulkEntry x + uptoBulkEntries r
def uptoBulkEntry {H : Type} : Lit × DataW H → Nat
  | (.string bytes, d) => bytes.length + uptoBulk d + 1
  | (_, d) => uptoBulk d + 1
 end
def uptoSmall : (H : Type) → List (DataW H) → Bool := fun _ ds => decide (uptoBulkAll ds ≤ 1048576)
def OpenSpec.upto (s : _root_.Go.ChangeSpec) : _root_.Go.OpenSpec := { _root_.Go.OpenSpec.ofChange s with cond := some uptoSmall }

/-- 'sheavelaw23.SreadReads', WHERE WHAT IT READS IS OF BULK AT MOST 1048576: true; the input reads as it did. -/
def sreadReadsUptoRow : OpenClaim := { program := "ytieeafkbgmpofaa", sum := "b0cd31881374bde342788b79aeacea6c3fadb9316e663a9b0a9c7bc23e972fa6", func := "sheave/sheavelaw23.SreadReads", spec := "sreadReads", inPlace := ["internal/bytealg.IndexByteString"], unfollowed := true, recurses := true, apart := false, narrowed := true }
def SreadReadsUptoSaid : Prop := sreadReadsUptoRow.holds Try.pinned (OpenSpec.upto sreadReadsSpec)

/-- 'sheavelaw23.SreadRuns', WHERE WHAT IT READS IS OF BULK AT MOST 1048576: true; the input reads as it did. -/
def sreadRunsUptoRow : OpenClaim := { program := "ytieeafkbgmpofaa", sum := "b0cd31881374bde342788b79aeacea6c3fadb9316e663a9b0a9c7bc23e972fa6", func := "sheave/sheavelaw23.SreadRuns", spec := "sreadRuns", inPlace := ["internal/bytealg.IndexByteString"], unfollowed := true, recurses := true, apart := false, narrowed := true }
def SreadRunsUptoSaid : Prop := sreadRunsUptoRow.holds Try.pinned (OpenSpec.upto sreadRunsSpec)

/-- 'sheavelaw22.UsevenSigns', WHERE WHAT IT READS IS OF BULK AT MOST 1048576: true; the input reads as it did. -/
def usevenSignsUptoRow : OpenClaim := { program := "ytieeafkbgmpofaa", sum := "b0cd31881374bde342788b79aeacea6c3fadb9316e663a9b0a9c7bc23e972fa6", func := "sheave/sheavelaw22.UsevenSigns", spec := "usevenSigns", inPlace := ["internal/bytealg.IndexByteString"], unfollowed := true, recurses := true, apart := false, narrowed := true }
def UsevenSignsUptoSaid : Prop := usevenSignsUptoRow.holds Try.pinned (OpenSpec.upto usevenSignsSpec)

/-- 'sheavelaw22.UsevenSeven', WHERE WHAT IT READS IS OF BULK AT MOST 1048576: true; the input reads as it did. -/
def usevenSevenUptoRow : OpenClaim := { program := "ytieeafkbgmpofaa", sum := "b0cd31881374bde342788b79aeacea6c3fadb9316e663a9b0a9c7bc23e972fa6", func := "sheave/sheavelaw22.UsevenSeven", spec := "usevenSeven", inPlace := ["internal/bytealg.IndexByteString"], unfollowed := true, recurses := true, apart := false, narrowed := true }
def UsevenSevenUptoSaid : Prop := usevenSevenUptoRow.holds Try.pinned (OpenSpec.upto usevenSevenSpec)

/-- 'sheavelaw22.UsevenLays', WHERE WHAT IT READS IS OF BULK AT MOST 1048576: true; the input reads as it did. -/
def usevenLaysUptoRow : OpenClaim := { program := "ytieeafkbgmpofaa", sum := "b0cd31881374bde342788b79aeacea6c3fadb9316e663a9b0a9c7bc23e972fa6", func := "sheave/sheavelaw22.UsevenLays", spec := "usevenLays", inPlace := ["internal/bytealg.IndexByteString"], unfollowed := true, recurses := true, apart := false, narrowed := true }
def UsevenLaysUptoSaid : Prop := usevenLaysUptoRow.holds Try.pinned (OpenSpec.upto usevenLaysSpec)

/-- 'sheavelaw23.SreadBack', WHERE WHAT IT READS IS OF BULK AT MOST 1048576: true; the input reads as it did. -/
def sreadBackUptoRow : OpenClaim := { program := "ytieeafkbgmpofaa", sum := "b0cd31881374bde342788b79aeacea6c3fadb9316e663a9b0a9c7bc23e972fa6", func := "sheave/sheavelaw23.SreadBack", spec := "sreadBack", inPlace := ["internal/bytealg.IndexByteString"], unfollowed := true, recurses := true, apart := false, narrowed := true }
def SreadBackUptoSaid : Prop := sreadBackUptoRow.holds Try.pinned (OpenSpec.upto sreadBackSpec)

/-- 'sheavelaw23.SreadShort', WHERE WHAT IT READS IS OF BULK AT MOST 1048576: true; the input reads as it did. -/
def sreadShortUptoRow : OpenClaim := { program := "ytieeafkbgmpofaa", sum := "b0cd31881374bde342788b79aeacea6c3fadb9316e663a9b0a9c7bc23e972fa6", func := "sheave/sheavelaw23.SreadShort", spec := "sreadShort", inPlace := ["internal/bytealg.IndexByteString"], unfollowed := true, recurses := true, apart := false, narrowed := true }
def SreadShortUptoSaid : Prop := sreadShortUptoRow.holds Try.pinned (OpenSpec.upto sreadShortSpec)

/-- 'sheavelaw24.MsevenLays', WHERE WHAT IT READS IS OF BULK AT MOST 1048576: true; the input reads as it did. -/
def msevenLaysUptoRow : OpenClaim := { program := "ytieeafkbgmpofaa", sum := "b0cd31881374bde342788b79aeacea6c3fadb9316e663a9b0a9c7bc23e972fa6", func := "sheave/sheavelaw24.MsevenLays", spec := "msevenLays", inPlace := ["internal/bytealg.IndexByteString"], unfollowed := true, recurses := true, apart := false, narrowed := true }
def MsevenLaysUptoSaid : Prop := msevenLaysUptoRow.holds Try.pinned (OpenSpec.upto msevenLaysSpec)

/-- 'sheavelaw24.MsevenBack', WHERE WHAT IT READS IS OF BULK AT MOST 1048576: true; the input reads as it did. -/
def msevenBackUptoRow : OpenClaim := { program := "ytieeafkbgmpofaa", sum := "b0cd31881374bde342788b79aeacea6c3fadb9316e663a9b0a9c7bc23e972fa6", func := "sheave/sheavelaw24.MsevenBack", spec := "msevenBack", inPlace := ["internal/bytealg.IndexByteString"], unfollowed := true, recurses := true, apart := false, narrowed := true }
def MsevenBackUptoSaid : Prop := msevenBackUptoRow.holds Try.pinned (OpenSpec.upto msevenBackSpec)

/-- 'sheavelaw24.MsevenShort', WHERE WHAT IT READS IS OF BULK AT MOST 1048576: true; the input reads as it did. -/
def msevenShortUptoRow : OpenClaim := { program := "ytieeafkbgmpofaa", sum := "b0cd31881374bde342788b79aeacea6c3fadb9316e663a9b0a9c7bc23e972fa6", func := "sheave/sheavelaw24.MsevenShort", spec := "msevenShort", inPlace := ["internal/bytealg.IndexByteString"], unfollowed := true, recurses := true, apart := false, narrowed := true }
def MsevenShortUptoSaid : Prop := msevenShortUptoRow.holds Try.pinned (OpenSpec.upto msevenShortSpec)

/-- 'sheavelaw24.MsevenReads', WHERE WHAT IT READS IS OF BULK AT MOST 1048576: true; the input reads as it did. -/
def msevenReadsUptoRow : OpenClaim := { program := "ytieeafkbgmpofaa", sum := "b0cd31881374bde342788b79aeacea6c3fadb9316e663a9b0a9c7bc23e972fa6", func := "sheave/sheavelaw24.MsevenReads", spec := "msevenReads", inPlace := ["internal/bytealg.IndexByteString"], unfollowed := true, recurses := true, apart := false, narrowed := true }
def MsevenReadsUptoSaid : Prop := msevenReadsUptoRow.holds Try.pinned (OpenSpec.upto msevenReadsSpec)

end Rows
end Go.Proofs.Ytieeafkbgmpofaa
