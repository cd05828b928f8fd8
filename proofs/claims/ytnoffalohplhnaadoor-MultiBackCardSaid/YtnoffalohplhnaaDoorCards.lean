/-
  DERIVED. GIVEN WITH THE SEED: THE CARDS: each row of YtnoffalohplhnaaDoorRows.lean that lists a variable, with what it lists TIED to the program's text (the seventh form; the later family's looks); each row that meets fmt, with fmt's text TOLD by the authors' own Lean function (tested against real Go, not proved from fmt's source: count such statements apart). THE CARD IS WHAT COUNTS. Prove the row's statement (the work); the ties are given (YtnoffalohplhnaaDoorTie.lean); close each card by the builder's one call (the guide's Derived/Test/ToyasCard.lean, 'card_holds'). Laid BY PROGRAM, IN A SANDBOX (cutbox-door.mjs). By AI agents, Wed Nov 11 2026. No macro, syntax, notation, axiom, sorry.
-/
import Derived.Test.YtnoffalohplhnaaDoorRows
import GoSem.ClaimSeven
namespace Go.Proofs.YtnoffalohplhnaaDoor
namespace Rows

/-- THE TIED CARD OF 'sheavelaw50.MultiBack'. -/
def multiBackCard : Claim7 := { stood := { row := multiBackRow, standIns := [], harness := (true, "e5e4feb59e0e67851e1a8a2a9950f231b997565ae54fab55745f3030ee9c4c9f"), looks := false }, kinds := [], alts := [], laidByText := true, laidKinds := [.data, .data, .data, .data, .pinned], laidTests := true, laidLooks := .later }
def MultiBackCardSaid : Prop := Claim7.holds Tryd.pinned (.plain (OpenSpec.ofChange multiBackSpec)) multiBackCard

/-- THE SECOND FORM's CARD OF 'sheavelaw50.MultiBack'. -/
def multiBackUptoCard : Claim7 := { stood := { row := multiBackUptoRow, standIns := [], harness := (true, "e5e4feb59e0e67851e1a8a2a9950f231b997565ae54fab55745f3030ee9c4c9f"), looks := false }, kinds := [], alts := [], laidByText := true, laidKinds := [.data, .data, .data, .data, .pinned], laidTests := true, laidLooks := .later }
def MultiBackUptoCardSaid : Prop := Claim7.holds Tryd.pinned (.plain (OpenSpec.upto multiBackSpec)) multiBackUptoCard
end Rows
end Go.Proofs.YtnoffalohplhnaaDoor
