/-
  No cell of these rows narrows 'for every input' (looked for: loops, veiled, ifaces, maps, wideKeys, modest, calm, conditions, laid).
  DERIVED. THE GIVEN ROWS OF THIS SEAT. 8 by the template 'for every input the law returns true; each argument reads behind the call as it read before'; 0 by the template 'total and deterministic' (their statements: YthjenihaogihpaaTotals.lean).
  GIVEN WITH THE SEED: the statements are not yours to turn. If you find one false, say at which input.
  Laid BY PROGRAM, IN A SANDBOX (cutbox-rows.mjs): the forced cells as the released guide's own fill.sh prints them over the translation 344d300e45a72008… (all of the seat's roots in one cut). By AI agents, Wed Nov 11 2026. No macro, syntax, notation, axiom, sorry.
-/
import Derived.Test.YthjenihaogihpaaChecked
import GoSem.Claim
import GoSem.ClaimJoined
import GoSem.ClaimMapViews
import Derived.JoinedTies
import Derived.KernelRfl
namespace Go.Proofs.Ythjenihaogihpaa
/- THE CELL 'sum', in the pinned program and in every row, IS THE sha256 OF THE DUMP (.gsa) THAT YthjenihaogihpaaProg.lean LOADS. Nothing in Lean hashes anything: it is a label: what it is worth is what the hold of that sum in a sandbox is worth. -/
noncomputable def Try.pinned : Pinned := { name := "ythjenihaogihpaa", sum := "344d300e45a72008696e9994f7997e07aa3de8625c2c149647afe42230819bf7", checked := Try.checked }
namespace Rows
def none {H : Type} : Left H := { results := [], args := [] }

/-- 'sheavelaw05.UtfallReads': WHATEVER THE INPUT: true; the input reads as it did. -/
def utfallReadsSpec : ChangeSpec := { name := "utfallReads", fn := fun _ => fun
  | [d] => { results := [.lit (.bool true)], args := [d] }
  | _ => none }
def utfallReadsRow : OpenClaim := { program := "ythjenihaogihpaa", sum := "344d300e45a72008696e9994f7997e07aa3de8625c2c149647afe42230819bf7", func := "sheave/sheavelaw05.UtfallReads", spec := "utfallReads", unfollowed := true, recurses := true, apart := false }
def UtfallReadsSaid : Prop := utfallReadsRow.holds Try.pinned (OpenSpec.ofChange utfallReadsSpec)

/-- ITS FALSE NEIGHBOUR: 'it returns false'. Refute it at one input. -/
def utfallReadsWrong : ChangeSpec := { name := "utfallReads", fn := fun _ => fun
  | [d] => { results := [.lit (.bool false)], args := [d] }
  | _ => none }
def UtfallReadsWrongFalsely : Prop := utfallReadsRow.holds Try.pinned (OpenSpec.ofChange utfallReadsWrong)

/-- 'sheavelaw07.BoundWhole': WHATEVER THE INPUT: true; the input reads as it did. -/
def boundWholeSpec : ChangeSpec := { name := "boundWhole", fn := fun _ => fun
  | [d1, d2] => { results := [.lit (.bool true)], args := [d1, d2] }
  | _ => none }
def boundWholeRow : OpenClaim := { program := "ythjenihaogihpaa", sum := "344d300e45a72008696e9994f7997e07aa3de8625c2c149647afe42230819bf7", func := "sheave/sheavelaw07.BoundWhole", spec := "boundWhole", apart := false }
def BoundWholeSaid : Prop := boundWholeRow.holds Try.pinned (OpenSpec.ofChange boundWholeSpec)

/-- ITS FALSE NEIGHBOUR: 'it returns false'. Refute it at one input. -/
def boundWholeWrong : ChangeSpec := { name := "boundWhole", fn := fun _ => fun
  | [d1, d2] => { results := [.lit (.bool false)], args := [d1, d2] }
  | _ => none }
def BoundWholeWrongFalsely : Prop := boundWholeRow.holds Try.pinned (OpenSpec.ofChange boundWholeWrong)

/-- 'sheavelaw07.BoundCuts': WHATEVER THE INPUT: true; the input reads as it did. -/
def boundCutsSpec : ChangeSpec := { name := "boundCuts", fn := fun _ => fun
  | [d1, d2] => { results := [.lit (.bool true)], args := [d1, d2] }
  | _ => none }
def boundCutsRow : OpenClaim := { program := "ythjenihaogihpaa", sum := "344d300e45a72008696e9994f7997e07aa3de8625c2c149647afe42230819bf7", func := "sheave/sheavelaw07.BoundCuts", spec := "boundCuts", unfollowed := true, recurses := true, apart := false }
def BoundCutsSaid : Prop := boundCutsRow.holds Try.pinned (OpenSpec.ofChange boundCutsSpec)

/-- ITS FALSE NEIGHBOUR: 'it returns false'. Refute it at one input. -/
def boundCutsWrong : ChangeSpec := { name := "boundCuts", fn := fun _ => fun
  | [d1, d2] => { results := [.lit (.bool false)], args := [d1, d2] }
  | _ => none }
def BoundCutsWrongFalsely : Prop := boundCutsRow.holds Try.pinned (OpenSpec.ofChange boundCutsWrong)

/-- 'sheavelaw07.BoundPlaces': WHATEVER THE INPUT: true; the input reads as it did. -/
def boundPlacesSpec : ChangeSpec := { name := "boundPlaces", fn := fun _ => fun
  | [d1, d2] => { results := [.lit (.bool true)], args := [d1, d2] }
  | _ => none }
def boundPlacesRow : OpenClaim := { program := "ythjenihaogihpaa", sum := "344d300e45a72008696e9994f7997e07aa3de8625c2c149647afe42230819bf7", func := "sheave/sheavelaw07.BoundPlaces", spec := "boundPlaces", unfollowed := true, recurses := true, apart := false }
def BoundPlacesSaid : Prop := boundPlacesRow.holds Try.pinned (OpenSpec.ofChange boundPlacesSpec)

/-- ITS FALSE NEIGHBOUR: 'it returns false'. Refute it at one input. -/
def boundPlacesWrong : ChangeSpec := { name := "boundPlaces", fn := fun _ => fun
  | [d1, d2] => { results := [.lit (.bool false)], args := [d1, d2] }
  | _ => none }
def BoundPlacesWrongFalsely : Prop := boundPlacesRow.holds Try.pinned (OpenSpec.ofChange boundPlacesWrong)

/-- 'sheavelaw07.BoundWays': WHATEVER THE INPUT: true; the input reads as it did. -/
def boundWaysSpec : ChangeSpec := { name := "boundWays", fn := fun _ => fun
  | [d] => { results := [.lit (.bool true)], args := [d] }
  | _ => none }
def boundWaysRow : OpenClaim := { program := "ythjenihaogihpaa", sum := "344d300e45a72008696e9994f7997e07aa3de8625c2c149647afe42230819bf7", func := "sheave/sheavelaw07.BoundWays", spec := "boundWays", unfollowed := true, recurses := true, apart := false }
def BoundWaysSaid : Prop := boundWaysRow.holds Try.pinned (OpenSpec.ofChange boundWaysSpec)

/-- ITS FALSE NEIGHBOUR: 'it returns false'. Refute it at one input. -/
def boundWaysWrong : ChangeSpec := { name := "boundWays", fn := fun _ => fun
  | [d] => { results := [.lit (.bool false)], args := [d] }
  | _ => none }
def BoundWaysWrongFalsely : Prop := boundWaysRow.holds Try.pinned (OpenSpec.ofChange boundWaysWrong)

/-- 'sheavelaw05.UtfallLays': WHATEVER THE INPUT: true; the input reads as it did. -/
def utfallLaysSpec : ChangeSpec := { name := "utfallLays", fn := fun _ => fun
  | [d] => { results := [.lit (.bool true)], args := [d] }
  | _ => none }
def utfallLaysRow : OpenClaim := { program := "ythjenihaogihpaa", sum := "344d300e45a72008696e9994f7997e07aa3de8625c2c149647afe42230819bf7", func := "sheave/sheavelaw05.UtfallLays", spec := "utfallLays", unfollowed := true, recurses := true, apart := false }
def UtfallLaysSaid : Prop := utfallLaysRow.holds Try.pinned (OpenSpec.ofChange utfallLaysSpec)

/-- ITS FALSE NEIGHBOUR: 'it returns false'. Refute it at one input. -/
def utfallLaysWrong : ChangeSpec := { name := "utfallLays", fn := fun _ => fun
  | [d] => { results := [.lit (.bool false)], args := [d] }
  | _ => none }
def UtfallLaysWrongFalsely : Prop := utfallLaysRow.holds Try.pinned (OpenSpec.ofChange utfallLaysWrong)

/-- 'sheavelaw05.UtfallMends': WHATEVER THE INPUT: true; the input reads as it did. -/
def utfallMendsSpec : ChangeSpec := { name := "utfallMends", fn := fun _ => fun
  | [d] => { results := [.lit (.bool true)], args := [d] }
  | _ => none }
def utfallMendsRow : OpenClaim := { program := "ythjenihaogihpaa", sum := "344d300e45a72008696e9994f7997e07aa3de8625c2c149647afe42230819bf7", func := "sheave/sheavelaw05.UtfallMends", spec := "utfallMends", unfollowed := true, recurses := true, apart := false }
def UtfallMendsSaid : Prop := utfallMendsRow.holds Try.pinned (OpenSpec.ofChange utfallMendsSpec)

/-- ITS FALSE NEIGHBOUR: 'it returns false'. Refute it at one input. -/
def utfallMendsWrong : ChangeSpec := { name := "utfallMends", fn := fun _ => fun
  | [d] => { results := [.lit (.bool false)], args := [d] }
  | _ => none }
def UtfallMendsWrongFalsely : Prop := utfallMendsRow.holds Try.pinned (OpenSpec.ofChange utfallMendsWrong)

/-- 'sheavelaw05.UtfallBack': WHATEVER THE INPUT: true; the input reads as it did. -/
def utfallBackSpec : ChangeSpec := { name := "utfallBack", fn := fun _ => fun
  | [d1, d2] => { results := [.lit (.bool true)], args := [d1, d2] }
  | _ => none }
def utfallBackRow : OpenClaim := { program := "ythjenihaogihpaa", sum := "344d300e45a72008696e9994f7997e07aa3de8625c2c149647afe42230819bf7", func := "sheave/sheavelaw05.UtfallBack", spec := "utfallBack", unfollowed := true, recurses := true, apart := false }
def UtfallBackSaid : Prop := utfallBackRow.holds Try.pinned (OpenSpec.ofChange utfallBackSpec)

/-- ITS FALSE NEIGHBOUR: 'it returns false'. Refute it at one input. -/
def utfallBackWrong : ChangeSpec := { name := "utfallBack", fn := fun _ => fun
  | [d1, d2] => { results := [.lit (.bool false)], args := [d1, d2] }
  | _ => none }
def UtfallBackWrongFalsely : Prop := utfallBackRow.holds Try.pinned (OpenSpec.ofChange utfallBackWrong)

/- THE SECOND FORM. 'bulk': how many values and letters a reading holds, each counted each time it is reached (what is shared counts as often as it is met; a slice's spare places count too). A statement '..UptoSaid' is the law's where the arguments, and the package variables that the reading takes, are together of bulk at most 1048576: NARROWER than '..Said'. Prove '..Said' where nothing that the law and all that it calls make is longer than what came in: it says more and counts as full. Else prove '..UptoSaid'. A law counts once. -/
mutual
def uptoBulk {H : Type} : DataW H → Nat
  | .lit (.string bytes) => bytes.length + 1
  | .lit _ => 1
  | .nil => 1
  | .ptr d => uptoBulk d + 1
  | .slice elems spare => uptoBulkAll elems + uptoBulkAll spare + 1
  | .agg parts => uptoBulkAll parts + 1
  | .iface _ d => uptoBulk d + 1
  | .map entries => uptoBulkEntries entries + 1
  | .held _ => 1
def uptoBulkAll {H : Type} : List (DataW H) → Nat
  | [] => 0
  | d :: r => uptoBulk d + uptoBulkAll r
def uptoBulkEntries {H : Type} : List (Lit × DataW H) → Nat
  | [] => 0
  | x :: r => uptoBulkEntry x + uptoBulkEntries r
def uptoBulkEntry {H : Type} : Lit × DataW H → Nat
  | (.string bytes, d) => bytes.length + uptoBulk d + 1
  | (_, d) => uptoBulk d + 1
 end
def uptoSmall : (H : Type) → List (DataW H) → Bool := fun _ ds => decide (uptoBulkAll ds ≤ 1048576)
def OpenSpec.upto (s : _root_.Go.ChangeSpec) : _root_.Go.OpenSpec := { _root_.Go.OpenSpec.ofChange s with cond := some uptoSmall }

/-- 'sheavelaw05.UtfallReads', WHERE WHAT IT READS IS OF BULK AT MOST 1048576: true; the input reads as it did. -/
def utfallReadsUptoRow : OpenClaim := { program := "ythjenihaogihpaa", sum := "344d300e45a72008696e9994f7997e07aa3de8625c2c149647afe42230819bf7", func := "sheave/sheavelaw05.UtfallReads", spec := "utfallReads", unfollowed := true, recurses := true, apart := false, narrowed := true }
def UtfallReadsUptoSaid : Prop := utfallReadsUptoRow.holds Try.pinned (OpenSpec.upto utfallReadsSpec)

/-- 'sheavelaw07.BoundWhole', WHERE WHAT IT READS IS OF BULK AT MOST 1048576: true; the input reads as it did. -/
def boundWholeUptoRow : OpenClaim := { program := "ythjenihaogihpaa", sum := "344d300e45a72008696e9994f7997e07aa3de8625c2c149647afe42230819bf7", func := "sheave/sheavelaw07.BoundWhole", spec := "boundWhole", apart := false, narrowed := true }
def BoundWholeUptoSaid : Prop := boundWholeUptoRow.holds Try.pinned (OpenSpec.upto boundWholeSpec)

/-- 'sheavelaw07.BoundCuts', WHERE WHAT IT READS IS OF BULK AT MOST 1048576: true; the input reads as it did. -/
def boundCutsUptoRow : OpenClaim := { program := "ythjenihaogihpaa", sum := "344d300e45a72008696e9994f7997e07aa3de8625c2c149647afe42230819bf7", func := "sheave/sheavelaw07.BoundCuts", spec := "boundCuts", unfollowed := true, recurses := true, apart := false, narrowed := true }
def BoundCutsUptoSaid : Prop := boundCutsUptoRow.holds Try.pinned (OpenSpec.upto boundCutsSpec)

/-- 'sheavelaw07.BoundPlaces', WHERE WHAT IT READS IS OF BULK AT MOST 1048576: true; the input reads as it did. -/
def boundPlacesUptoRow : OpenClaim := { program := "ythjenihaogihpaa", sum := "344d300e45a72008696e9994f7997e07aa3de8625c2c149647afe42230819bf7", func := "sheave/sheavelaw07.BoundPlaces", spec := "boundPlaces", unfollowed := true, recurses := true, apart := false, narrowed := true }
def BoundPlacesUptoSaid : Prop := boundPlacesUptoRow.holds Try.pinned (OpenSpec.upto boundPlacesSpec)

/-- 'sheavelaw07.BoundWays', WHERE WHAT IT READS IS OF BULK AT MOST 1048576: true; the input reads as it did. -/
def boundWaysUptoRow : OpenClaim := { program := "ythjenihaogihpaa", sum := "344d300e45a72008696e9994f7997e07aa3de8625c2c149647afe42230819bf7", func := "sheave/sheavelaw07.BoundWays", spec := "boundWays", unfollowed := true, recurses := true, apart := false, narrowed := true }
def BoundWaysUptoSaid : Prop := boundWaysUptoRow.holds Try.pinned (OpenSpec.upto boundWaysSpec)

/-- 'sheavelaw05.UtfallLays', WHERE WHAT IT READS IS OF BULK AT MOST 1048576: true; the input reads as it did. -/
def utfallLaysUptoRow : OpenClaim := { program := "ythjenihaogihpaa", sum := "344d300e45a72008696e9994f7997e07aa3de8625c2c149647afe42230819bf7", func := "sheave/sheavelaw05.UtfallLays", spec := "utfallLays", unfollowed := true, recurses := true, apart := false, narrowed := true }
def UtfallLaysUptoSaid : Prop := utfallLaysUptoRow.holds Try.pinned (OpenSpec.upto utfallLaysSpec)

/-- 'sheavelaw05.UtfallMends', WHERE WHAT IT READS IS OF BULK AT MOST 1048576: true; the input reads as it did. -/
def utfallMendsUptoRow : OpenClaim := { program := "ythjenihaogihpaa", sum := "344d300e45a72008696e9994f7997e07aa3de8625c2c149647afe42230819bf7", func := "sheave/sheavelaw05.UtfallMends", spec := "utfallMends", unfollowed := true, recurses := true, apart := false, narrowed := true }
def UtfallMendsUptoSaid : Prop := utfallMendsUptoRow.holds Try.pinned (OpenSpec.upto utfallMendsSpec)

/-- 'sheavelaw05.UtfallBack', WHERE WHAT IT READS IS OF BULK AT MOST 1048576: true; the input reads as it did. -/
def utfallBackUptoRow : OpenClaim := { program := "ythjenihaogihpaa", sum := "344d300e45a72008696e9994f7997e07aa3de8625c2c149647afe42230819bf7", func := "sheave/sheavelaw05.UtfallBack", spec := "utfallBack", unfollowed := true, recurses := true, apart := false, narrowed := true }
def UtfallBackUptoSaid : Prop := utfallBackUptoRow.holds Try.pinned (OpenSpec.upto utfallBackSpec)

end Rows
end Go.Proofs.Ythjenihaogihpaa
