/-
  DERIVED. GIVEN WITH THE SEED: THE CARDS: each row of YtponfaglflmnkaaDoorRows.lean that lists a variable, with what it lists TIED to the program's text (the seventh form; the later family's looks); each row that meets fmt, with fmt's text TOLD by the authors' own Lean function (tested against real Go, not proved from fmt's source: count such statements apart). THE CARD IS WHAT COUNTS. Prove the row's statement (the work); the ties are given (YtponfaglflmnkaaDoorTie.lean); close each card by the builder's one call (the guide's Derived/Test/ToyasCard.lean, 'card_holds'). Laid BY PROGRAM, IN A SANDBOX (cutbox-door.mjs). By AI agents, Wed Nov 11 2026. No macro, syntax, notation, axiom, sorry.
-/
import Derived.Test.YtponfaglflmnkaaDoorRows
import GoSem.ClaimSeven
namespace Go.Proofs.YtponfaglflmnkaaDoor
namespace Rows

/-- THE TIED CARD OF 'sheavelaw13.CodecAuto'. -/
def codecAutoCard : Claim7 := { stood := { row := codecAutoRow, standIns := [], harness := (true, "24d86d7c01c6d404d8b2bba7420e5de7b9bc128d5e740e6cd8be18dcaed1393e"), looks := false }, kinds := [], alts := [], laidByText := true, laidKinds := [.data, .data], laidTests := true, laidLooks := .later }
def CodecAutoCardSaid : Prop := Claim7.holds Tryd.pinned (.plain (OpenSpec.ofChange codecAutoSpec)) codecAutoCard

/-- THE SECOND FORM's CARD OF 'sheavelaw13.CodecAuto'. -/
def codecAutoUptoCard : Claim7 := { stood := { row := codecAutoUptoRow, standIns := [], harness := (true, "24d86d7c01c6d404d8b2bba7420e5de7b9bc128d5e740e6cd8be18dcaed1393e"), looks := false }, kinds := [], alts := [], laidByText := true, laidKinds := [.data, .data], laidTests := true, laidLooks := .later }
def CodecAutoUptoCardSaid : Prop := Claim7.holds Tryd.pinned (.plain (OpenSpec.upto codecAutoSpec)) codecAutoUptoCard
end Rows
end Go.Proofs.YtponfaglflmnkaaDoor
