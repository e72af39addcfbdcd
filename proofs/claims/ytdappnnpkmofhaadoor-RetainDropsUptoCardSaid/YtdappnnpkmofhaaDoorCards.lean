/-
  DERIVED. GIVEN WITH THE SEED: THE CARDS: each row of YtdappnnpkmofhaaDoorRows.lean that lists a variable, with what it lists TIED to the program's text (the seventh form; the later family's looks); each row that meets fmt, with fmt's text TOLD by the authors' own Lean function (tested against real Go, not proved from fmt's source: count such statements apart). THE CARD IS WHAT COUNTS. Prove the row's statement (the work); the ties are given (YtdappnnpkmofhaaDoorTie.lean); close each card by the builder's one call (the guide's Derived/Test/ToyasCard.lean, 'card_holds'). Laid BY PROGRAM, IN A SANDBOX (cutbox-door.mjs). By AI agents, Wed Nov 11 2026. No macro, syntax, notation, axiom, sorry.
-/
import Derived.Test.YtdappnnpkmofhaaDoorRows
import GoSem.ClaimSeven
namespace Go.Proofs.YtdappnnpkmofhaaDoor
namespace Rows

/-- THE TIED CARD OF 'dovecotelaw8.RetainPuts'. -/
def retainPutsCard : Claim7 := { stood := { row := retainPutsRow, standIns := [], harness := (true, "9e1d5adf718bcdd96d180ec811f38f0a591544d5c47b98eb106c08eb0cdcdc6d"), looks := true }, kinds := [], alts := [], laidByText := true, laidKinds := [.data, .handle, .pinned], laidTests := true, laidLooks := .later }
def RetainPutsCardSaid : Prop := Claim7.holds Tryd.pinned (.plain (OpenSpec.ofChange retainPutsSpec)) retainPutsCard

/-- THE TIED CARD OF 'dovecotelaw8.RetainDrops'. -/
def retainDropsCard : Claim7 := { stood := { row := retainDropsRow, standIns := [], harness := (true, "9e1d5adf718bcdd96d180ec811f38f0a591544d5c47b98eb106c08eb0cdcdc6d"), looks := true }, kinds := [], alts := [], laidByText := true, laidKinds := [.data, .handle, .pinned], laidTests := true, laidLooks := .later }
def RetainDropsCardSaid : Prop := Claim7.holds Tryd.pinned (.plain (OpenSpec.ofChange retainDropsSpec)) retainDropsCard

/-- THE SECOND FORM's CARD OF 'dovecotelaw8.RetainPuts'. -/
def retainPutsUptoCard : Claim7 := { stood := { row := retainPutsUptoRow, standIns := [], harness := (true, "9e1d5adf718bcdd96d180ec811f38f0a591544d5c47b98eb106c08eb0cdcdc6d"), looks := true }, kinds := [], alts := [], laidByText := true, laidKinds := [.data, .handle, .pinned], laidTests := true, laidLooks := .later }
def RetainPutsUptoCardSaid : Prop := Claim7.holds Tryd.pinned (.plain (OpenSpec.upto retainPutsSpec)) retainPutsUptoCard

/-- THE SECOND FORM's CARD OF 'dovecotelaw8.RetainDrops'. -/
def retainDropsUptoCard : Claim7 := { stood := { row := retainDropsUptoRow, standIns := [], harness := (true, "9e1d5adf718bcdd96d180ec811f38f0a591544d5c47b98eb106c08eb0cdcdc6d"), looks := true }, kinds := [], alts := [], laidByText := true, laidKinds := [.data, .handle, .pinned], laidTests := true, laidLooks := .later }
def RetainDropsUptoCardSaid : Prop := Claim7.holds Tryd.pinned (.plain (OpenSpec.upto retainDropsSpec)) retainDropsUptoCard
end Rows
end Go.Proofs.YtdappnnpkmofhaaDoor
