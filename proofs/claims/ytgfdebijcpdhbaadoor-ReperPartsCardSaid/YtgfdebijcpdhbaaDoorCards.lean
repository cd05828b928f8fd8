/-
  DERIVED. GIVEN WITH THE SEED: THE CARDS: each row of YtgfdebijcpdhbaaDoorRows.lean that lists a variable, with what it lists TIED to the program's text (the seventh form; the later family's looks); each row that meets fmt, with fmt's text TOLD by the authors' own Lean function (tested against real Go, not proved from fmt's source: count such statements apart). THE CARD IS WHAT COUNTS. Prove the row's statement (the work); the ties are given (YtgfdebijcpdhbaaDoorTie.lean); close each card by the builder's one call (the guide's Derived/Test/ToyasCard.lean, 'card_holds'). Laid BY PROGRAM, IN A SANDBOX (cutbox-door.mjs). By AI agents, Wed Nov 11 2026. No macro, syntax, notation, axiom, sorry.
-/
import Derived.Test.YtgfdebijcpdhbaaDoorRows
import GoSem.ClaimSeven
namespace Go.Proofs.YtgfdebijcpdhbaaDoor
namespace Rows

/-- THE TIED CARD OF 'sheavelaw12.ReperHas'. -/
def reperHasCard : Claim7 := { stood := { row := reperHasRow, standIns := [], harness := (true, "97e96751b2c7fafc437d13bd0da480e476a94b6411b602e1ce512f739319edb9"), looks := false }, kinds := [], alts := [], laidByText := true, laidKinds := [.data, .data], laidTests := true, laidLooks := .later }
def ReperHasCardSaid : Prop := Claim7.holds Tryd.pinned (.plain (OpenSpec.ofChange reperHasSpec)) reperHasCard

/-- THE TIED CARD OF 'sheavelaw12.ReperSizes'. -/
def reperSizesCard : Claim7 := { stood := { row := reperSizesRow, standIns := [], harness := (true, "97e96751b2c7fafc437d13bd0da480e476a94b6411b602e1ce512f739319edb9"), looks := false }, kinds := [], alts := [], laidByText := true, laidKinds := [.data, .data], laidTests := true, laidLooks := .later }
def ReperSizesCardSaid : Prop := Claim7.holds Tryd.pinned (.plain (OpenSpec.ofChange reperSizesSpec)) reperSizesCard

/-- THE TIED CARD OF 'sheavelaw12.ReperSelects'. -/
def reperSelectsCard : Claim7 := { stood := { row := reperSelectsRow, standIns := [], harness := (true, "97e96751b2c7fafc437d13bd0da480e476a94b6411b602e1ce512f739319edb9"), looks := false }, kinds := [], alts := [], laidByText := true, laidKinds := [.data, .data], laidTests := true, laidLooks := .later }
def ReperSelectsCardSaid : Prop := Claim7.holds Tryd.pinned (.plain (OpenSpec.ofChange reperSelectsSpec)) reperSelectsCard

/-- THE TIED CARD OF 'sheavelaw12.ReperParts'. -/
def reperPartsCard : Claim7 := { stood := { row := reperPartsRow, standIns := [], harness := (true, "97e96751b2c7fafc437d13bd0da480e476a94b6411b602e1ce512f739319edb9"), looks := false }, kinds := [], alts := [], laidByText := true, laidKinds := [.data, .data], laidTests := true, laidLooks := .later }
def ReperPartsCardSaid : Prop := Claim7.holds Tryd.pinned (.plain (OpenSpec.ofChange reperPartsSpec)) reperPartsCard

/-- THE SECOND FORM's CARD OF 'sheavelaw12.ReperHas'. -/
def reperHasUptoCard : Claim7 := { stood := { row := reperHasUptoRow, standIns := [], harness := (true, "97e96751b2c7fafc437d13bd0da480e476a94b6411b602e1ce512f739319edb9"), looks := false }, kinds := [], alts := [], laidByText := true, laidKinds := [.data, .data], laidTests := true, laidLooks := .later }
def ReperHasUptoCardSaid : Prop := Claim7.holds Tryd.pinned (.plain (OpenSpec.upto reperHasSpec)) reperHasUptoCard

/-- THE SECOND FORM's CARD OF 'sheavelaw12.ReperSizes'. -/
def reperSizesUptoCard : Claim7 := { stood := { row := reperSizesUptoRow, standIns := [], harness := (true, "97e96751b2c7fafc437d13bd0da480e476a94b6411b602e1ce512f739319edb9"), looks := false }, kinds := [], alts := [], laidByText := true, laidKinds := [.data, .data], laidTests := true, laidLooks := .later }
def ReperSizesUptoCardSaid : Prop := Claim7.holds Tryd.pinned (.plain (OpenSpec.upto reperSizesSpec)) reperSizesUptoCard

/-- THE SECOND FORM's CARD OF 'sheavelaw12.ReperSelects'. -/
def reperSelectsUptoCard : Claim7 := { stood := { row := reperSelectsUptoRow, standIns := [], harness := (true, "97e96751b2c7fafc437d13bd0da480e476a94b6411b602e1ce512f739319edb9"), looks := false }, kinds := [], alts := [], laidByText := true, laidKinds := [.data, .data], laidTests := true, laidLooks := .later }
def ReperSelectsUptoCardSaid : Prop := Claim7.holds Tryd.pinned (.plain (OpenSpec.upto reperSelectsSpec)) reperSelectsUptoCard

/-- THE SECOND FORM's CARD OF 'sheavelaw12.ReperParts'. -/
def reperPartsUptoCard : Claim7 := { stood := { row := reperPartsUptoRow, standIns := [], harness := (true, "97e96751b2c7fafc437d13bd0da480e476a94b6411b602e1ce512f739319edb9"), looks := false }, kinds := [], alts := [], laidByText := true, laidKinds := [.data, .data], laidTests := true, laidLooks := .later }
def ReperPartsUptoCardSaid : Prop := Claim7.holds Tryd.pinned (.plain (OpenSpec.upto reperPartsSpec)) reperPartsUptoCard
end Rows
end Go.Proofs.YtgfdebijcpdhbaaDoor
