/-
  No cell of these rows narrows 'for every input' (looked for: loops, veiled, ifaces, maps, wideKeys, modest, calm, conditions, laid).
  DERIVED. THE GIVEN ROWS OF THIS SEAT. 3 by the template 'for every input the law returns true; each argument reads behind the call as it read before'; 0 by the template 'total and deterministic' (their statements: YtfhfhfadebcbfaaTotals.lean).
  GIVEN WITH THE SEED: the statements are not yours to turn. If you find one false, say at which input.
  Laid BY PROGRAM, IN A SANDBOX (cutbox-rows.mjs): the forced cells as the released guide's own fill.sh prints them over the translation 316f870ab3a9a23c… (all of the seat's roots in one cut). By AI agents, Wed Nov 11 2026. No macro, syntax, notation, axiom, sorry.
-/
import Derived.Test.YtfhfhfadebcbfaaChecked
import GoSem.Claim
import GoSem.ClaimJoined
import GoSem.ClaimMapViews
import Derived.JoinedTies
import Derived.KernelRfl
namespace Go.Proofs.Ytfhfhfadebcbfaa
/- THE CELL 'sum', in the pinned program and in every row, IS THE sha256 OF THE DUMP (.gsa) THAT YtfhfhfadebcbfaaProg.lean LOADS. Nothing in Lean hashes anything: it is a label: what it is worth is what the hold of that sum in a sandbox is worth. -/
noncomputable def Try.pinned : Pinned := { name := "ytfhfhfadebcbfaa", sum := "316f870ab3a9a23cc3ac47d52b6d0e5b99b5cd556d59847b73237940d8e24671", checked := Try.checked }
namespace Rows
def none {H : Type} : Left H := { results := [], args := [] }

/-- 'sheavelaw41.PunyReads': WHATEVER THE INPUT: true; the input reads as it did. -/
def punyReadsSpec : ChangeSpec := { name := "punyReads", fn := fun _ => fun
  | [d] => { results := [.lit (.bool true)], args := [d] }
  | _ => none }
def punyReadsRow : OpenClaim := { program := "ytfhfhfadebcbfaa", sum := "316f870ab3a9a23cc3ac47d52b6d0e5b99b5cd556d59847b73237940d8e24671", func := "sheave/sheavelaw41.PunyReads", spec := "punyReads", inPlace := ["internal/bytealg.IndexByte", "slices.overlaps[rune]"], unfollowed := true, recurses := true, apart := false }
def PunyReadsSaid : Prop := punyReadsRow.holds Try.pinned (OpenSpec.ofChange punyReadsSpec)

/-- ITS FALSE NEIGHBOUR: 'it returns false'. Refute it at one input. -/
def punyReadsWrong : ChangeSpec := { name := "punyReads", fn := fun _ => fun
  | [d] => { results := [.lit (.bool false)], args := [d] }
  | _ => none }
def PunyReadsWrongFalsely : Prop := punyReadsRow.holds Try.pinned (OpenSpec.ofChange punyReadsWrong)

/-- 'sheavelaw41.PunyNumbers': WHATEVER THE INPUT: true; the input reads as it did. -/
def punyNumbersSpec : ChangeSpec := { name := "punyNumbers", fn := fun _ => fun
  | [d1, d2, d3] => { results := [.lit (.bool true)], args := [d1, d2, d3] }
  | _ => none }
def punyNumbersRow : OpenClaim := { program := "ytfhfhfadebcbfaa", sum := "316f870ab3a9a23cc3ac47d52b6d0e5b99b5cd556d59847b73237940d8e24671", func := "sheave/sheavelaw41.PunyNumbers", spec := "punyNumbers", inPlace := ["internal/bytealg.IndexByte", "slices.overlaps[rune]"], unfollowed := true, recurses := true, apart := false }
def PunyNumbersSaid : Prop := punyNumbersRow.holds Try.pinned (OpenSpec.ofChange punyNumbersSpec)

/-- ITS FALSE NEIGHBOUR: 'it returns false'. Refute it at one input. -/
def punyNumbersWrong : ChangeSpec := { name := "punyNumbers", fn := fun _ => fun
  | [d1, d2, d3] => { results := [.lit (.bool false)], args := [d1, d2, d3] }
  | _ => none }
def PunyNumbersWrongFalsely : Prop := punyNumbersRow.holds Try.pinned (OpenSpec.ofChange punyNumbersWrong)

/-- 'sheavelaw41.PunyBack': WHATEVER THE INPUT: true; the input reads as it did. -/
def punyBackSpec : ChangeSpec := { name := "punyBack", fn := fun _ => fun
  | [d] => { results := [.lit (.bool true)], args := [d] }
  | _ => none }
def punyBackRow : OpenClaim := { program := "ytfhfhfadebcbfaa", sum := "316f870ab3a9a23cc3ac47d52b6d0e5b99b5cd556d59847b73237940d8e24671", func := "sheave/sheavelaw41.PunyBack", spec := "punyBack", inPlace := ["internal/bytealg.IndexByte", "slices.overlaps[rune]"], unfollowed := true, recurses := true, apart := false }
def PunyBackSaid : Prop := punyBackRow.holds Try.pinned (OpenSpec.ofChange punyBackSpec)

/-- ITS FALSE NEIGHBOUR: 'it returns false'. Refute it at one input. -/
def punyBackWrong : ChangeSpec := { name := "punyBack", fn := fun _ => fun
  | [d] => { results := [.lit (.bool false)], args := [d] }
  | _ => none }
def PunyBackWrongFalsely : Prop := punyBackRow.holds Try.pinned (OpenSpec.ofChange punyBackWrong)

/- THE SECOND FORM. 'bulk': how many values and letters a reading holds, each counted each time it is reached (what is shared counts as often as it is met; a slice's spare places count too). A statement '..UptoSaid' is the law's where the arguments, and the package variables that the reading takes, are together of bulk at most 1048576: NARROWER than '..Said'. Prove '..Said' where nothing that the law and all that it calls make is longer than what came in: it says more and counts as full. Else prove '..UptoSaid'. A law counts once. -/
mutual
def uptoBulk {H : Type} : DataW H → Nat
  | .lit (.string bytes) => bytes.length + 1
  | .lit _ => 1
  | .nil => 1
  | .ptr d => uptoBulk d + 1
  | .slice elems spare => uptoBulkAll elems + uptoBulkAll spare + 1
  | .agg parts => uptoBulkAll parts + 1
  | .iface _ d => uptoBulk d + 1
  | .map entries => uptoBulkEntries entries + 1
  | .held _ => 1
def uptoBulkAll {H : Type} : List (DataW H) → Nat
  | [] => 0
  | d :: r => uptoBulk d + uptoBulkAll r
def uptoBulkEntries {H : Type} : List (Lit × DataW H) → Nat
  | [] => 0
  | x :: r => uptoBulkEntry x + uptoBulkEntries r
def uptoBulkEntry {H : Type} : Lit × DataW H → Nat
  | (.string bytes, d) => bytes.length + uptoBulk d + 1
  | (_, d) => uptoBulk d + 1
 end
def uptoSmall : (H : Type) → List (DataW H) → Bool := fun _ ds => decide (uptoBulkAll ds ≤ 1048576)
def OpenSpec.upto (s : _root_.Go.ChangeSpec) : _root_.Go.OpenSpec := { _root_.Go.OpenSpec.ofChange s with cond := some uptoSmall }

/-- 'sheavelaw41.PunyReads', WHERE WHAT IT READS IS OF BULK AT MOST 1048576: true; the input reads as it did. -/
def punyReadsUptoRow : OpenClaim := { program := "ytfhfhfadebcbfaa", sum := "316f870ab3a9a23cc3ac47d52b6d0e5b99b5cd556d59847b73237940d8e24671", func := "sheave/sheavelaw41.PunyReads", spec := "punyReads", inPlace := ["internal/bytealg.IndexByte", "slices.overlaps[rune]"], unfollowed := true, recurses := true, apart := false, narrowed := true }
def PunyReadsUptoSaid : Prop := punyReadsUptoRow.holds Try.pinned (OpenSpec.upto punyReadsSpec)

/-- 'sheavelaw41.PunyNumbers', WHERE WHAT IT READS IS OF BULK AT MOST 1048576: true; the input reads as it did. -/
def punyNumbersUptoRow : OpenClaim := { program := "ytfhfhfadebcbfaa", sum := "316f870ab3a9a23cc3ac47d52b6d0e5b99b5cd556d59847b73237940d8e24671", func := "sheave/sheavelaw41.PunyNumbers", spec := "punyNumbers", inPlace := ["internal/bytealg.IndexByte", "slices.overlaps[rune]"], unfollowed := true, recurses := true, apart := false, narrowed := true }
def PunyNumbersUptoSaid : Prop := punyNumbersUptoRow.holds Try.pinned (OpenSpec.upto punyNumbersSpec)

/-- 'sheavelaw41.PunyBack', WHERE WHAT IT READS IS OF BULK AT MOST 1048576: true; the input reads as it did. -/
def punyBackUptoRow : OpenClaim := { program := "ytfhfhfadebcbfaa", sum := "316f870ab3a9a23cc3ac47d52b6d0e5b99b5cd556d59847b73237940d8e24671", func := "sheave/sheavelaw41.PunyBack", spec := "punyBack", inPlace := ["internal/bytealg.IndexByte", "slices.overlaps[rune]"], unfollowed := true, recurses := true, apart := false, narrowed := true }
def PunyBackUptoSaid : Prop := punyBackUptoRow.holds Try.pinned (OpenSpec.upto punyBackSpec)

end Rows
end Go.Proofs.Ytfhfhfadebcbfaa
