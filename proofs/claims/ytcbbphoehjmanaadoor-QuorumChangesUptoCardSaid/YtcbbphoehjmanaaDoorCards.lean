/-
  DERIVED. GIVEN WITH THE SEED: THE CARDS: each row of YtcbbphoehjmanaaDoorRows.lean that lists a variable, with what it lists TIED to the program's text (the seventh form; the later family's looks); each row that meets fmt, with fmt's text TOLD by the authors' own Lean function (tested against real Go, not proved from fmt's source: count such statements apart). THE CARD IS WHAT COUNTS. Prove the row's statement (the work); the ties are given (YtcbbphoehjmanaaDoorTie.lean); close each card by the builder's one call (the guide's Derived/Test/ToyasCard.lean, 'card_holds'). Laid BY PROGRAM, IN A SANDBOX (cutbox-door.mjs). By AI agents, Wed Nov 11 2026. No macro, syntax, notation, axiom, sorry.
-/
import Derived.Test.YtcbbphoehjmanaaDoorRows
import GoSem.ClaimSeven
namespace Go.Proofs.YtcbbphoehjmanaaDoor
namespace Rows

/-- THE TIED CARD OF 'dovecotelaw16.QuorumEnough'. -/
def quorumEnoughCard : Claim7 := { stood := { row := quorumEnoughRow, standIns := [], harness := (true, "b031ccfb40d44c3a42a62da3acd427587bf7dca588646adc1cb92548dea40e1d"), looks := true }, kinds := [], alts := [], laidByText := true, laidKinds := [.handle], laidTests := true, laidLooks := .later }
def QuorumEnoughCardSaid : Prop := Claim7.holds Tryd.pinned (.plain (OpenSpec.ofChange quorumEnoughSpec)) quorumEnoughCard

/-- THE TIED CARD OF 'dovecotelaw16.QuorumChecks'. -/
def quorumChecksCard : Claim7 := { stood := { row := quorumChecksRow, standIns := [], harness := (true, "b031ccfb40d44c3a42a62da3acd427587bf7dca588646adc1cb92548dea40e1d"), looks := true }, kinds := [], alts := [], laidByText := true, laidKinds := [.handle], laidTests := true, laidLooks := .later }
def QuorumChecksCardSaid : Prop := Claim7.holds Tryd.pinned (.plain (OpenSpec.ofChange quorumChecksSpec)) quorumChecksCard

/-- THE TIED CARD OF 'dovecotelaw16.QuorumChanges'. -/
def quorumChangesCard : Claim7 := { stood := { row := quorumChangesRow, standIns := [], harness := (true, "b031ccfb40d44c3a42a62da3acd427587bf7dca588646adc1cb92548dea40e1d"), looks := true }, kinds := [], alts := [], laidByText := true, laidKinds := [.handle], laidTests := true, laidLooks := .later }
def QuorumChangesCardSaid : Prop := Claim7.holds Tryd.pinned (.plain (OpenSpec.ofChange quorumChangesSpec)) quorumChangesCard

/-- THE TIED CARD OF 'dovecotelaw16.QuorumMeet'. -/
def quorumMeetCard : Claim7 := { stood := { row := quorumMeetRow, standIns := [], harness := (true, "b031ccfb40d44c3a42a62da3acd427587bf7dca588646adc1cb92548dea40e1d"), looks := true }, kinds := [], alts := [], laidByText := true, laidKinds := [.handle], laidTests := true, laidLooks := .later }
def QuorumMeetCardSaid : Prop := Claim7.holds Tryd.pinned (.plain (OpenSpec.ofChange quorumMeetSpec)) quorumMeetCard

/-- THE TIED CARD OF 'dovecotelaw16.QuorumExact'. -/
def quorumExactCard : Claim7 := { stood := { row := quorumExactRow, standIns := [], harness := (true, "b031ccfb40d44c3a42a62da3acd427587bf7dca588646adc1cb92548dea40e1d"), looks := true }, kinds := [], alts := [], laidByText := true, laidKinds := [.handle], laidTests := true, laidLooks := .later }
def QuorumExactCardSaid : Prop := Claim7.holds Tryd.pinned (.plain (OpenSpec.ofChange quorumExactSpec)) quorumExactCard

/-- THE SECOND FORM's CARD OF 'dovecotelaw16.QuorumEnough'. -/
def quorumEnoughUptoCard : Claim7 := { stood := { row := quorumEnoughUptoRow, standIns := [], harness := (true, "b031ccfb40d44c3a42a62da3acd427587bf7dca588646adc1cb92548dea40e1d"), looks := true }, kinds := [], alts := [], laidByText := true, laidKinds := [.handle], laidTests := true, laidLooks := .later }
def QuorumEnoughUptoCardSaid : Prop := Claim7.holds Tryd.pinned (.plain (OpenSpec.upto quorumEnoughSpec)) quorumEnoughUptoCard

/-- THE SECOND FORM's CARD OF 'dovecotelaw16.QuorumChecks'. -/
def quorumChecksUptoCard : Claim7 := { stood := { row := quorumChecksUptoRow, standIns := [], harness := (true, "b031ccfb40d44c3a42a62da3acd427587bf7dca588646adc1cb92548dea40e1d"), looks := true }, kinds := [], alts := [], laidByText := true, laidKinds := [.handle], laidTests := true, laidLooks := .later }
def QuorumChecksUptoCardSaid : Prop := Claim7.holds Tryd.pinned (.plain (OpenSpec.upto quorumChecksSpec)) quorumChecksUptoCard

/-- THE SECOND FORM's CARD OF 'dovecotelaw16.QuorumChanges'. -/
def quorumChangesUptoCard : Claim7 := { stood := { row := quorumChangesUptoRow, standIns := [], harness := (true, "b031ccfb40d44c3a42a62da3acd427587bf7dca588646adc1cb92548dea40e1d"), looks := true }, kinds := [], alts := [], laidByText := true, laidKinds := [.handle], laidTests := true, laidLooks := .later }
def QuorumChangesUptoCardSaid : Prop := Claim7.holds Tryd.pinned (.plain (OpenSpec.upto quorumChangesSpec)) quorumChangesUptoCard

/-- THE SECOND FORM's CARD OF 'dovecotelaw16.QuorumMeet'. -/
def quorumMeetUptoCard : Claim7 := { stood := { row := quorumMeetUptoRow, standIns := [], harness := (true, "b031ccfb40d44c3a42a62da3acd427587bf7dca588646adc1cb92548dea40e1d"), looks := true }, kinds := [], alts := [], laidByText := true, laidKinds := [.handle], laidTests := true, laidLooks := .later }
def QuorumMeetUptoCardSaid : Prop := Claim7.holds Tryd.pinned (.plain (OpenSpec.upto quorumMeetSpec)) quorumMeetUptoCard

/-- THE SECOND FORM's CARD OF 'dovecotelaw16.QuorumExact'. -/
def quorumExactUptoCard : Claim7 := { stood := { row := quorumExactUptoRow, standIns := [], harness := (true, "b031ccfb40d44c3a42a62da3acd427587bf7dca588646adc1cb92548dea40e1d"), looks := true }, kinds := [], alts := [], laidByText := true, laidKinds := [.handle], laidTests := true, laidLooks := .later }
def QuorumExactUptoCardSaid : Prop := Claim7.holds Tryd.pinned (.plain (OpenSpec.upto quorumExactSpec)) quorumExactUptoCard
end Rows
end Go.Proofs.YtcbbphoehjmanaaDoor
