/-
  DERIVED. GIVEN WITH THE SEED: THE CARDS: each row of YtcmiopkcgoanpaaDoorRows.lean that lists a variable, with what it lists TIED to the program's text (the seventh form; the later family's looks); each row that meets fmt, with fmt's text TOLD by the authors' own Lean function (tested against real Go, not proved from fmt's source: count such statements apart). THE CARD IS WHAT COUNTS. Prove the row's statement (the work); the ties are given (YtcmiopkcgoanpaaDoorTie.lean); close each card by the builder's one call (the guide's Derived/Test/ToyasCard.lean, 'card_holds'). Laid BY PROGRAM, IN A SANDBOX (cutbox-door.mjs). By AI agents, Wed Nov 11 2026. No macro, syntax, notation, axiom, sorry.
-/
import Derived.Test.YtcmiopkcgoanpaaDoorRows
import GoSem.ClaimSeven
namespace Go.Proofs.YtcmiopkcgoanpaaDoor
namespace Rows

/-- THE TIED CARD OF 'sheavelaw51.MailidReads'. -/
def mailidReadsCard : Claim7 := { stood := { row := mailidReadsRow, standIns := [], harness := (true, "69b9849445b112d83c8040095cd3339032efc159d550e9870a60eabd1f348826"), looks := false }, kinds := [], alts := [], laidByText := true, laidKinds := [.data, .pinned], laidTests := true, laidLooks := .later }
def MailidReadsCardSaid : Prop := Claim7.holds Tryd.pinned (.plain (OpenSpec.ofChange mailidReadsSpec)) mailidReadsCard

/-- THE TIED CARD OF 'sheavelaw51.MailidLays'. -/
def mailidLaysCard : Claim7 := { stood := { row := mailidLaysRow, standIns := [], harness := (true, "69b9849445b112d83c8040095cd3339032efc159d550e9870a60eabd1f348826"), looks := false }, kinds := [], alts := [], laidByText := true, laidKinds := [.data, .pinned], laidTests := true, laidLooks := .later }
def MailidLaysCardSaid : Prop := Claim7.holds Tryd.pinned (.plain (OpenSpec.ofChange mailidLaysSpec)) mailidLaysCard

/-- THE TIED CARD OF 'sheavelaw51.MailidThreads'. -/
def mailidThreadsCard : Claim7 := { stood := { row := mailidThreadsRow, standIns := [], harness := (true, "69b9849445b112d83c8040095cd3339032efc159d550e9870a60eabd1f348826"), looks := false }, kinds := [], alts := [], laidByText := true, laidKinds := [.data, .pinned], laidTests := true, laidLooks := .later }
def MailidThreadsCardSaid : Prop := Claim7.holds Tryd.pinned (.plain (OpenSpec.ofChange mailidThreadsSpec)) mailidThreadsCard

/-- THE SECOND FORM's CARD OF 'sheavelaw51.MailidReads'. -/
def mailidReadsUptoCard : Claim7 := { stood := { row := mailidReadsUptoRow, standIns := [], harness := (true, "69b9849445b112d83c8040095cd3339032efc159d550e9870a60eabd1f348826"), looks := false }, kinds := [], alts := [], laidByText := true, laidKinds := [.data, .pinned], laidTests := true, laidLooks := .later }
def MailidReadsUptoCardSaid : Prop := Claim7.holds Tryd.pinned (.plain (OpenSpec.upto mailidReadsSpec)) mailidReadsUptoCard

/-- THE SECOND FORM's CARD OF 'sheavelaw51.MailidLays'. -/
def mailidLaysUptoCard : Claim7 := { stood := { row := mailidLaysUptoRow, standIns := [], harness := (true, "69b9849445b112d83c8040095cd3339032efc159d550e9870a60eabd1f348826"), looks := false }, kinds := [], alts := [], laidByText := true, laidKinds := [.data, .pinned], laidTests := true, laidLooks := .later }
def MailidLaysUptoCardSaid : Prop := Claim7.holds Tryd.pinned (.plain (OpenSpec.upto mailidLaysSpec)) mailidLaysUptoCard

/-- THE SECOND FORM's CARD OF 'sheavelaw51.MailidThreads'. -/
def mailidThreadsUptoCard : Claim7 := { stood := { row := mailidThreadsUptoRow, standIns := [], harness := (true, "69b9849445b112d83c8040095cd3339032efc159d550e9870a60eabd1f348826"), looks := false }, kinds := [], alts := [], laidByText := true, laidKinds := [.data, .pinned], laidTests := true, laidLooks := .later }
def MailidThreadsUptoCardSaid : Prop := Claim7.holds Tryd.pinned (.plain (OpenSpec.upto mailidThreadsSpec)) mailidThreadsUptoCard
end Rows
end Go.Proofs.YtcmiopkcgoanpaaDoor
