/-
  No cell of these rows narrows 'for every input' (looked for: loops, veiled, ifaces, maps, wideKeys, modest, calm, conditions, laid).
  DERIVED. THE GIVEN ROWS OF THIS SEAT. 8 by the template 'for every input the law returns true; each argument reads behind the call as it read before'; 0 by the template 'total and deterministic' (their statements: YtbpjgmiedplidaaTotals.lean).
  GIVEN WITH THE SEED: the statements are not yours to turn. If you find one false, say at which input.
  Laid BY PROGRAM, IN A SANDBOX (cutbox-rows.mjs): the forced cells as the released guide's own fill.sh prints them over the translation 0038b515d94582df… (all of the seat's roots in one cut). By AI agents, Wed Nov 11 2026. No macro, syntax, notation, axiom, sorry.
-/
import Derived.Test.YtbpjgmiedplidaaChecked
import GoSem.Claim
import GoSem.ClaimJoined
import GoSem.ClaimMapViews
import Derived.JoinedTies
import Derived.KernelRfl
namespace Go.Proofs.Ytbpjgmiedplidaa
/- THE CELL 'sum', in the pinned program and in every row, IS THE sha256 OF THE DUMP (.gsa) THAT YtbpjgmiedplidaaProg.lean LOADS. Nothing in Lean hashes anything: it is a label: what it is worth is what the hold of that sum in a sandbox is worth. -/
noncomputable def Try.pinned : Pinned := { name := "ytbpjgmiedplidaa", sum := "0038b515d94582df9925b6e4a7ad90908e4938703809583d84d8ce7780719982", checked := Try.checked }
namespace Rows
def none {H : Type} : Left H := { results := [], args := [] }

/-- 'sheavelaw24.MsevenLays': WHATEVER THE INPUT: true; the input reads as it did. -/
def msevenLaysSpec : ChangeSpec := { name := "msevenLays", fn := fun _ => fun
  | [d1, d2] => { results := [.lit (.bool true)], args := [d1, d2] }
  | _ => none }
def msevenLaysRow : OpenClaim := { program := "ytbpjgmiedplidaa", sum := "0038b515d94582df9925b6e4a7ad90908e4938703809583d84d8ce7780719982", func := "sheave/sheavelaw24.MsevenLays", spec := "msevenLays", inPlace := ["internal/bytealg.IndexByteString"], unfollowed := true, recurses := true, apart := false }
def MsevenLaysSaid : Prop := msevenLaysRow.holds Try.pinned (OpenSpec.ofChange msevenLaysSpec)

/-- ITS FALSE NEIGHBOUR: 'it returns false'. Refute it at one input. -/
def msevenLaysWrong : ChangeSpec := { name := "msevenLays", fn := fun _ => fun
  | [d1, d2] => { results := [.lit (.bool false)], args := [d1, d2] }
  | _ => none }
def MsevenLaysWrongFalsely : Prop := msevenLaysRow.holds Try.pinned (OpenSpec.ofChange msevenLaysWrong)

/-- 'sheavelaw24.MsevenBack': WHATEVER THE INPUT: true; the input reads as it did. -/
def msevenBackSpec : ChangeSpec := { name := "msevenBack", fn := fun _ => fun
  | [d] => { results := [.lit (.bool true)], args := [d] }
  | _ => none }
def msevenBackRow : OpenClaim := { program := "ytbpjgmiedplidaa", sum := "0038b515d94582df9925b6e4a7ad90908e4938703809583d84d8ce7780719982", func := "sheave/sheavelaw24.MsevenBack", spec := "msevenBack", inPlace := ["internal/bytealg.IndexByteString"], unfollowed := true, recurses := true, apart := false }
def MsevenBackSaid : Prop := msevenBackRow.holds Try.pinned (OpenSpec.ofChange msevenBackSpec)

/-- ITS FALSE NEIGHBOUR: 'it returns false'. Refute it at one input. -/
def msevenBackWrong : ChangeSpec := { name := "msevenBack", fn := fun _ => fun
  | [d] => { results := [.lit (.bool false)], args := [d] }
  | _ => none }
def MsevenBackWrongFalsely : Prop := msevenBackRow.holds Try.pinned (OpenSpec.ofChange msevenBackWrong)

/-- 'sheavelaw24.MsevenShort': WHATEVER THE INPUT: true; the input reads as it did. -/
def msevenShortSpec : ChangeSpec := { name := "msevenShort", fn := fun _ => fun
  | [d] => { results := [.lit (.bool true)], args := [d] }
  | _ => none }
def msevenShortRow : OpenClaim := { program := "ytbpjgmiedplidaa", sum := "0038b515d94582df9925b6e4a7ad90908e4938703809583d84d8ce7780719982", func := "sheave/sheavelaw24.MsevenShort", spec := "msevenShort", inPlace := ["internal/bytealg.IndexByteString"], unfollowed := true, recurses := true, apart := false }
def MsevenShortSaid : Prop := msevenShortRow.holds Try.pinned (OpenSpec.ofChange msevenShortSpec)

/-- ITS FALSE NEIGHBOUR: 'it returns false'. Refute it at one input. -/
def msevenShortWrong : ChangeSpec := { name := "msevenShort", fn := fun _ => fun
  | [d] => { results := [.lit (.bool false)], args := [d] }
  | _ => none }
def MsevenShortWrongFalsely : Prop := msevenShortRow.holds Try.pinned (OpenSpec.ofChange msevenShortWrong)

/-- 'sheavelaw25.McheckWhy': WHATEVER THE INPUT: true; the input reads as it did. -/
def mcheckWhySpec : ChangeSpec := { name := "mcheckWhy", fn := fun _ => fun
  | [d] => { results := [.lit (.bool true)], args := [d] }
  | _ => none }
def mcheckWhyRow : OpenClaim := { program := "ytbpjgmiedplidaa", sum := "0038b515d94582df9925b6e4a7ad90908e4938703809583d84d8ce7780719982", func := "sheave/sheavelaw25.McheckWhy", spec := "mcheckWhy", inPlace := ["internal/bytealg.IndexByteString"], unfollowed := true, recurses := true, apart := false }
def McheckWhySaid : Prop := mcheckWhyRow.holds Try.pinned (OpenSpec.ofChange mcheckWhySpec)

/-- ITS FALSE NEIGHBOUR: 'it returns false'. Refute it at one input. -/
def mcheckWhyWrong : ChangeSpec := { name := "mcheckWhy", fn := fun _ => fun
  | [d] => { results := [.lit (.bool false)], args := [d] }
  | _ => none }
def McheckWhyWrongFalsely : Prop := mcheckWhyRow.holds Try.pinned (OpenSpec.ofChange mcheckWhyWrong)

/-- 'sheavelaw25.McheckReads': WHATEVER THE INPUT: true; the input reads as it did. -/
def mcheckReadsSpec : ChangeSpec := { name := "mcheckReads", fn := fun _ => fun
  | [d] => { results := [.lit (.bool true)], args := [d] }
  | _ => none }
def mcheckReadsRow : OpenClaim := { program := "ytbpjgmiedplidaa", sum := "0038b515d94582df9925b6e4a7ad90908e4938703809583d84d8ce7780719982", func := "sheave/sheavelaw25.McheckReads", spec := "mcheckReads", inPlace := ["internal/bytealg.IndexByteString"], unfollowed := true, recurses := true, apart := false }
def McheckReadsSaid : Prop := mcheckReadsRow.holds Try.pinned (OpenSpec.ofChange mcheckReadsSpec)

/-- ITS FALSE NEIGHBOUR: 'it returns false'. Refute it at one input. -/
def mcheckReadsWrong : ChangeSpec := { name := "mcheckReads", fn := fun _ => fun
  | [d] => { results := [.lit (.bool false)], args := [d] }
  | _ => none }
def McheckReadsWrongFalsely : Prop := mcheckReadsRow.holds Try.pinned (OpenSpec.ofChange mcheckReadsWrong)

/-- 'sheavelaw25.McheckJust': WHATEVER THE INPUT: true; the input reads as it did. -/
def mcheckJustSpec : ChangeSpec := { name := "mcheckJust", fn := fun _ => fun
  | [d] => { results := [.lit (.bool true)], args := [d] }
  | _ => none }
def mcheckJustRow : OpenClaim := { program := "ytbpjgmiedplidaa", sum := "0038b515d94582df9925b6e4a7ad90908e4938703809583d84d8ce7780719982", func := "sheave/sheavelaw25.McheckJust", spec := "mcheckJust", inPlace := ["internal/bytealg.IndexByteString"], unfollowed := true, recurses := true, apart := false }
def McheckJustSaid : Prop := mcheckJustRow.holds Try.pinned (OpenSpec.ofChange mcheckJustSpec)

/-- ITS FALSE NEIGHBOUR: 'it returns false'. Refute it at one input. -/
def mcheckJustWrong : ChangeSpec := { name := "mcheckJust", fn := fun _ => fun
  | [d] => { results := [.lit (.bool false)], args := [d] }
  | _ => none }
def McheckJustWrongFalsely : Prop := mcheckJustRow.holds Try.pinned (OpenSpec.ofChange mcheckJustWrong)

/-- 'sheavelaw24.MsevenReads': WHATEVER THE INPUT: true; the input reads as it did. -/
def msevenReadsSpec : ChangeSpec := { name := "msevenReads", fn := fun _ => fun
  | [d1, d2] => { results := [.lit (.bool true)], args := [d1, d2] }
  | _ => none }
def msevenReadsRow : OpenClaim := { program := "ytbpjgmiedplidaa", sum := "0038b515d94582df9925b6e4a7ad90908e4938703809583d84d8ce7780719982", func := "sheave/sheavelaw24.MsevenReads", spec := "msevenReads", inPlace := ["internal/bytealg.IndexByteString"], unfollowed := true, recurses := true, apart := false }
def MsevenReadsSaid : Prop := msevenReadsRow.holds Try.pinned (OpenSpec.ofChange msevenReadsSpec)

/-- ITS FALSE NEIGHBOUR: 'it returns false'. Refute it at one input. -/
def msevenReadsWrong : ChangeSpec := { name := "msevenReads", fn := fun _ => fun
  | [d1, d2] => { results := [.lit (.bool false)], args := [d1, d2] }
  | _ => none }
def MsevenReadsWrongFalsely : Prop := msevenReadsRow.holds Try.pinned (OpenSpec.ofChange msevenReadsWrong)

/-- 'sheavelaw25.McheckSame': WHATEVER THE INPUT: true; the input reads as it did. -/
def mcheckSameSpec : ChangeSpec := { name := "mcheckSame", fn := fun _ => fun
  | [d1, d2, d3] => { results := [.lit (.bool true)], args := [d1, d2, d3] }
  | _ => none }
def mcheckSameRow : OpenClaim := { program := "ytbpjgmiedplidaa", sum := "0038b515d94582df9925b6e4a7ad90908e4938703809583d84d8ce7780719982", func := "sheave/sheavelaw25.McheckSame", spec := "mcheckSame", inPlace := ["internal/bytealg.IndexByteString"], unfollowed := true, recurses := true, apart := false }
def McheckSameSaid : Prop := mcheckSameRow.holds Try.pinned (OpenSpec.ofChange mcheckSameSpec)

/-- ITS FALSE NEIGHBOUR: 'it returns false'. Refute it at one input. -/
def mcheckSameWrong : ChangeSpec := { name := "mcheckSame", fn := fun _ => fun
  | [d1, d2, d3] => { results := [.lit (.bool false)], args := [d1, d2, d3] }
  | _ => none }
def McheckSameWrongFalsely : Prop := mcheckSameRow.holds Try.pinned (OpenSpec.ofChange mcheckSameWrong)

/- THE SECOND FORM. 'bulk': how many values and letters a reading holds, each counted each time it is reached (what is shared counts as often as it is met; a slice's spare places count too). A statement '..UptoSaid' is the law's where the arguments, and the package variables that the reading takes, are together of bulk at most 1048576: NARROWER than '..Said'. Prove '..Said' where nothing that the law and all that it calls make is longer than what came in: it says more and counts as full. Else prove '..UptoSaid'. A law counts once. -/
mutual
def uptoBulk {H : Type} : DataW H → Nat
  | .lit (.string bytes) => bytes.length + 1
  | .lit _ => 1
  | .nil => 1
  | .ptr d => uptoBulk d + 1
  | .slice elems spare => uptoBulkAll elems + uptoBulkAll spare + 1
  | .agg parts => uptoBulkAll parts + 1
  | .iface _ d => uptoBulk d + 1
  | .map entries => uptoBulkEntries entries + 1
  | .held _ => 1
def uptoBulkAll {H : Type} : List (DataW H) → Nat
  | [] => 0
  | d :: r => uptoBulk d + uptoBulkAll r
def uptoBulkEntries {H : Type} : List (Lit × DataW H) → Nat
  | [] => 0
  | x :: r => uptoBulkEntry x + uptoBulkEntries r
def uptoBulkEntry {H : Type} : Lit × DataW H → Nat
  | (.string bytes, d) => bytes.length + uptoBulk d + 1
  | (_, d) => uptoBulk d + 1
 end
def uptoSmall : (H : Type) → List (DataW H) → Bool := fun _ ds => decide (uptoBulkAll ds ≤ 1048576)
def OpenSpec.upto (s : _root_.Go.ChangeSpec) : _root_.Go.OpenSpec := { _root_.Go.OpenSpec.ofChange s with cond := some uptoSmall }

/-- 'sheavelaw24.MsevenLays', WHERE WHAT IT READS IS OF BULK AT MOST 1048576: true; the input reads as it did. -/
def msevenLaysUptoRow : OpenClaim := { program := "ytbpjgmiedplidaa", sum := "0038b515d94582df9925b6e4a7ad90908e4938703809583d84d8ce7780719982", func := "sheave/sheavelaw24.MsevenLays", spec := "msevenLays", inPlace := ["internal/bytealg.IndexByteString"], unfollowed := true, recurses := true, apart := false, narrowed := true }
def MsevenLaysUptoSaid : Prop := msevenLaysUptoRow.holds Try.pinned (OpenSpec.upto msevenLaysSpec)

/-- 'sheavelaw24.MsevenBack', WHERE WHAT IT READS IS OF BULK AT MOST 1048576: true; the input reads as it did. -/
def msevenBackUptoRow : OpenClaim := { program := "ytbpjgmiedplidaa", sum := "0038b515d94582df9925b6e4a7ad90908e4938703809583d84d8ce7780719982", func := "sheave/sheavelaw24.MsevenBack", spec := "msevenBack", inPlace := ["internal/bytealg.IndexByteString"], unfollowed := true, recurses := true, apart := false, narrowed := true }
def MsevenBackUptoSaid : Prop := msevenBackUptoRow.holds Try.pinned (OpenSpec.upto msevenBackSpec)

/-- 'sheavelaw24.MsevenShort', WHERE WHAT IT READS IS OF BULK AT MOST 1048576: true; the input reads as it did. -/
def msevenShortUptoRow : OpenClaim := { program := "ytbpjgmiedplidaa", sum := "0038b515d94582df9925b6e4a7ad90908e4938703809583d84d8ce7780719982", func := "sheave/sheavelaw24.MsevenShort", spec := "msevenShort", inPlace := ["internal/bytealg.IndexByteString"], unfollowed := true, recurses := true, apart := false, narrowed := true }
def MsevenShortUptoSaid : Prop := msevenShortUptoRow.holds Try.pinned (OpenSpec.upto msevenShortSpec)

/-- 'sheavelaw25.McheckWhy', WHERE WHAT IT READS IS OF BULK AT MOST 1048576: true; the input reads as it did. -/
def mcheckWhyUptoRow : OpenClaim := { program := "ytbpjgmiedplidaa", sum := "0038b515d94582df9925b6e4a7ad90908e4938703809583d84d8ce7780719982", func := "sheave/sheavelaw25.McheckWhy", spec := "mcheckWhy", inPlace := ["internal/bytealg.IndexByteString"], unfollowed := true, recurses := true, apart := false, narrowed := true }
def McheckWhyUptoSaid : Prop := mcheckWhyUptoRow.holds Try.pinned (OpenSpec.upto mcheckWhySpec)

/-- 'sheavelaw25.McheckReads', WHERE WHAT IT READS IS OF BULK AT MOST 1048576: true; the input reads as it did. -/
def mcheckReadsUptoRow : OpenClaim := { program := "ytbpjgmiedplidaa", sum := "0038b515d94582df9925b6e4a7ad90908e4938703809583d84d8ce7780719982", func := "sheave/sheavelaw25.McheckReads", spec := "mcheckReads", inPlace := ["internal/bytealg.IndexByteString"], unfollowed := true, recurses := true, apart := false, narrowed := true }
def McheckReadsUptoSaid : Prop := mcheckReadsUptoRow.holds Try.pinned (OpenSpec.upto mcheckReadsSpec)

/-- 'sheavelaw25.McheckJust', WHERE WHAT IT READS IS OF BULK AT MOST 1048576: true; the input reads as it did. -/
def mcheckJustUptoRow : OpenClaim := { program := "ytbpjgmiedplidaa", sum := "0038b515d94582df9925b6e4a7ad90908e4938703809583d84d8ce7780719982", func := "sheave/sheavelaw25.McheckJust", spec := "mcheckJust", inPlace := ["internal/bytealg.IndexByteString"], unfollowed := true, recurses := true, apart := false, narrowed := true }
def McheckJustUptoSaid : Prop := mcheckJustUptoRow.holds Try.pinned (OpenSpec.upto mcheckJustSpec)

/-- 'sheavelaw24.MsevenReads', WHERE WHAT IT READS IS OF BULK AT MOST 1048576: true; the input reads as it did. -/
def msevenReadsUptoRow : OpenClaim := { program := "ytbpjgmiedplidaa", sum := "0038b515d94582df9925b6e4a7ad90908e4938703809583d84d8ce7780719982", func := "sheave/sheavelaw24.MsevenReads", spec := "msevenReads", inPlace := ["internal/bytealg.IndexByteString"], unfollowed := true, recurses := true, apart := false, narrowed := true }
def MsevenReadsUptoSaid : Prop := msevenReadsUptoRow.holds Try.pinned (OpenSpec.upto msevenReadsSpec)

/-- 'sheavelaw25.McheckSame', WHERE WHAT IT READS IS OF BULK AT MOST 1048576: true; the input reads as it did. -/
def mcheckSameUptoRow : OpenClaim := { program := "ytbpjgmiedplidaa", sum := "0038b515d94582df9925b6e4a7ad90908e4938703809583d84d8ce7780719982", func := "sheave/sheavelaw25.McheckSame", spec := "mcheckSame", inPlace := ["internal/bytealg.IndexByteString"], unfollowed := true, recurses := true, apart := false, narrowed := true }
def McheckSameUptoSaid : Prop := mcheckSameUptoRow.holds Try.pinned (OpenSpec.upto mcheckSameSpec)

end Rows
end Go.Proofs.Ytbpjgmiedplidaa
