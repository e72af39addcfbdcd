/-
  DERIVED. GIVEN WITH THE SEED: THE CARDS: each row of YtefjmcoecidfnaaDoorRows.lean that lists a variable, with what it lists TIED to the program's text (the seventh form; the later family's looks); each row that meets fmt, with fmt's text TOLD by the authors' own Lean function (tested against real Go, not proved from fmt's source: count such statements apart). THE CARD IS WHAT COUNTS. Prove the row's statement (the work); the ties are given (YtefjmcoecidfnaaDoorTie.lean); close each card by the builder's one call (the guide's Derived/Test/ToyasCard.lean, 'card_holds'). Laid BY PROGRAM, IN A SANDBOX (cutbox-door.mjs). By AI agents, Wed Nov 11 2026. No macro, syntax, notation, axiom, sorry.
-/
import Derived.Test.YtefjmcoecidfnaaDoorRows
import GoSem.ClaimSeven
namespace Go.Proofs.YtefjmcoecidfnaaDoor
namespace Rows

/-- THE TIED CARD OF 'dovecotelaw6.TopicMatches'. -/
def topicMatchesCard : Claim7 := { stood := { row := topicMatchesRow, standIns := [], harness := (true, "31c0c24aebcade2c9ab7157b47997728ea161b43abdf8958c4294565f9c20bc1"), looks := true }, kinds := [], alts := [], laidByText := true, laidKinds := [.data, .handle, .pinned], laidTests := true, laidLooks := .later }
def TopicMatchesCardSaid : Prop := Claim7.holds Tryd.pinned (.plain (OpenSpec.ofChange topicMatchesSpec)) topicMatchesCard

/-- THE TIED CARD OF 'dovecotelaw6.TopicNames'. -/
def topicNamesCard : Claim7 := { stood := { row := topicNamesRow, standIns := [], harness := (true, "31c0c24aebcade2c9ab7157b47997728ea161b43abdf8958c4294565f9c20bc1"), looks := true }, kinds := [], alts := [], laidByText := true, laidKinds := [.data, .handle, .pinned], laidTests := true, laidLooks := .later }
def TopicNamesCardSaid : Prop := Claim7.holds Tryd.pinned (.plain (OpenSpec.ofChange topicNamesSpec)) topicNamesCard

/-- THE TIED CARD OF 'dovecotelaw6.TopicFilters'. -/
def topicFiltersCard : Claim7 := { stood := { row := topicFiltersRow, standIns := [], harness := (true, "31c0c24aebcade2c9ab7157b47997728ea161b43abdf8958c4294565f9c20bc1"), looks := true }, kinds := [], alts := [], laidByText := true, laidKinds := [.data, .handle, .pinned], laidTests := true, laidLooks := .later }
def TopicFiltersCardSaid : Prop := Claim7.holds Tryd.pinned (.plain (OpenSpec.ofChange topicFiltersSpec)) topicFiltersCard

/-- THE TIED CARD OF 'dovecotelaw6.TopicShares'. -/
def topicSharesCard : Claim7 := { stood := { row := topicSharesRow, standIns := [], harness := (true, "31c0c24aebcade2c9ab7157b47997728ea161b43abdf8958c4294565f9c20bc1"), looks := true }, kinds := [], alts := [], laidByText := true, laidKinds := [.data, .handle, .pinned], laidTests := true, laidLooks := .later }
def TopicSharesCardSaid : Prop := Claim7.holds Tryd.pinned (.plain (OpenSpec.ofChange topicSharesSpec)) topicSharesCard

/-- THE TIED CARD OF 'dovecotelaw6.TopicLaws'. -/
def topicLawsCard : Claim7 := { stood := { row := topicLawsRow, standIns := [], harness := (true, "31c0c24aebcade2c9ab7157b47997728ea161b43abdf8958c4294565f9c20bc1"), looks := true }, kinds := [], alts := [], laidByText := true, laidKinds := [.data, .handle, .pinned], laidTests := true, laidLooks := .later }
def TopicLawsCardSaid : Prop := Claim7.holds Tryd.pinned (.plain (OpenSpec.ofChange topicLawsSpec)) topicLawsCard

/-- THE SECOND FORM's CARD OF 'dovecotelaw6.TopicMatches'. -/
def topicMatchesUptoCard : Claim7 := { stood := { row := topicMatchesUptoRow, standIns := [], harness := (true, "31c0c24aebcade2c9ab7157b47997728ea161b43abdf8958c4294565f9c20bc1"), looks := true }, kinds := [], alts := [], laidByText := true, laidKinds := [.data, .handle, .pinned], laidTests := true, laidLooks := .later }
def TopicMatchesUptoCardSaid : Prop := Claim7.holds Tryd.pinned (.plain (OpenSpec.upto topicMatchesSpec)) topicMatchesUptoCard

/-- THE SECOND FORM's CARD OF 'dovecotelaw6.TopicNames'. -/
def topicNamesUptoCard : Claim7 := { stood := { row := topicNamesUptoRow, standIns := [], harness := (true, "31c0c24aebcade2c9ab7157b47997728ea161b43abdf8958c4294565f9c20bc1"), looks := true }, kinds := [], alts := [], laidByText := true, laidKinds := [.data, .handle, .pinned], laidTests := true, laidLooks := .later }
def TopicNamesUptoCardSaid : Prop := Claim7.holds Tryd.pinned (.plain (OpenSpec.upto topicNamesSpec)) topicNamesUptoCard

/-- THE SECOND FORM's CARD OF 'dovecotelaw6.TopicFilters'. -/
def topicFiltersUptoCard : Claim7 := { stood := { row := topicFiltersUptoRow, standIns := [], harness := (true, "31c0c24aebcade2c9ab7157b47997728ea161b43abdf8958c4294565f9c20bc1"), looks := true }, kinds := [], alts := [], laidByText := true, laidKinds := [.data, .handle, .pinned], laidTests := true, laidLooks := .later }
def TopicFiltersUptoCardSaid : Prop := Claim7.holds Tryd.pinned (.plain (OpenSpec.upto topicFiltersSpec)) topicFiltersUptoCard

/-- THE SECOND FORM's CARD OF 'dovecotelaw6.TopicShares'. -/
def topicSharesUptoCard : Claim7 := { stood := { row := topicSharesUptoRow, standIns := [], harness := (true, "31c0c24aebcade2c9ab7157b47997728ea161b43abdf8958c4294565f9c20bc1"), looks := true }, kinds := [], alts := [], laidByText := true, laidKinds := [.data, .handle, .pinned], laidTests := true, laidLooks := .later }
def TopicSharesUptoCardSaid : Prop := Claim7.holds Tryd.pinned (.plain (OpenSpec.upto topicSharesSpec)) topicSharesUptoCard

/-- THE SECOND FORM's CARD OF 'dovecotelaw6.TopicLaws'. -/
def topicLawsUptoCard : Claim7 := { stood := { row := topicLawsUptoRow, standIns := [], harness := (true, "31c0c24aebcade2c9ab7157b47997728ea161b43abdf8958c4294565f9c20bc1"), looks := true }, kinds := [], alts := [], laidByText := true, laidKinds := [.data, .handle, .pinned], laidTests := true, laidLooks := .later }
def TopicLawsUptoCardSaid : Prop := Claim7.holds Tryd.pinned (.plain (OpenSpec.upto topicLawsSpec)) topicLawsUptoCard
end Rows
end Go.Proofs.YtefjmcoecidfnaaDoor
