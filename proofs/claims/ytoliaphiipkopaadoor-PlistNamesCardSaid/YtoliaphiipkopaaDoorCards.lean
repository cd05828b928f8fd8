/-
  DERIVED. GIVEN WITH THE SEED: THE CARDS: each row of YtoliaphiipkopaaDoorRows.lean that lists a variable, with what it lists TIED to the program's text (the seventh form; the later family's looks); each row that meets fmt, with fmt's text TOLD by the authors' own Lean function (tested against real Go, not proved from fmt's source: count such statements apart). THE CARD IS WHAT COUNTS. Prove the row's statement (the work); the ties are given (YtoliaphiipkopaaDoorTie.lean); close each card by the builder's one call (the guide's Derived/Test/ToyasCard.lean, 'card_holds'). Laid BY PROGRAM, IN A SANDBOX (cutbox-door.mjs). By AI agents, Wed Nov 11 2026. No macro, syntax, notation, axiom, sorry.
-/
import Derived.Test.YtoliaphiipkopaaDoorRows
import GoSem.ClaimSeven
namespace Go.Proofs.YtoliaphiipkopaaDoor
namespace Rows

/-- THE TIED CARD OF 'sheavelaw35.PlistNames'. -/
def plistNamesCard : Claim7 := { stood := { row := plistNamesRow, standIns := [], harness := (true, "d3d865740543f2a8cb980f296378bb9cdded8b346dcc58d63a56e1ff2b8d7391"), looks := false }, kinds := [], alts := [], laidByText := true, laidKinds := [.data, .data, .data], laidTests := true, laidLooks := .later }
def PlistNamesCardSaid : Prop := Claim7.holds Tryd.pinned (.plain (OpenSpec.ofChange plistNamesSpec)) plistNamesCard

/-- THE SECOND FORM's CARD OF 'sheavelaw35.PlistNames'. -/
def plistNamesUptoCard : Claim7 := { stood := { row := plistNamesUptoRow, standIns := [], harness := (true, "d3d865740543f2a8cb980f296378bb9cdded8b346dcc58d63a56e1ff2b8d7391"), looks := false }, kinds := [], alts := [], laidByText := true, laidKinds := [.data, .data, .data], laidTests := true, laidLooks := .later }
def PlistNamesUptoCardSaid : Prop := Claim7.holds Tryd.pinned (.plain (OpenSpec.upto plistNamesSpec)) plistNamesUptoCard
end Rows
end Go.Proofs.YtoliaphiipkopaaDoor
