/-
  DERIVED. GIVEN WITH THE SEED: THE CARDS: each row of YtiihihgjiklnoaaGreatDoorRows.lean that lists a variable, with what it lists TIED to the program's text (the seventh form; the later family's looks); each row that meets fmt, with fmt's text TOLD by the authors' own Lean function (tested against real Go, not proved from fmt's source: count such statements apart). THE CARD IS WHAT COUNTS. Prove the row's statement (the work); the ties are given (YtiihihgjiklnoaaGreatDoorTie.lean); close each card by the builder's one call (the guide's Derived/Test/ToyasCard.lean, 'card_holds'). Laid BY PROGRAM, IN A SANDBOX (cutbox-door.mjs). By AI agents, Wed Nov 11 2026. No macro, syntax, notation, axiom, sorry.
-/
import Derived.Test.YtiihihgjiklnoaaGreatDoorRows
import GoSem.ClaimSeven
namespace Go.Proofs.YtiihihgjiklnoaaGreatDoor
namespace Rows

/-- THE TIED CARD OF 'laws.FnExactNewImage'. -/
def fnExactNewImageCard : Claim7 := { stood := { row := fnExactNewImageRow, standIns := [], harness := (true, "67e96185c9c03327c784ec714fabe18eeacecbd8b8ce9b977b20335d3b513c86"), looks := false }, kinds := [], alts := [], laidByText := true, laidKinds := [.data, .pinned], laidTests := true, laidLooks := .later }
def FnExactNewImageCardSaid : Prop := Claim7.holds Tryz.pinned (.plain (OpenSpec.ofChange fnExactNewImageSpec)) fnExactNewImageCard

/-- THE TIED CARD OF 'laws.FnExactReachableCounts'. -/
def fnExactReachableCountsCard : Claim7 := { stood := { row := fnExactReachableCountsRow, standIns := [], harness := (true, "67e96185c9c03327c784ec714fabe18eeacecbd8b8ce9b977b20335d3b513c86"), looks := false }, kinds := [], alts := [], laidByText := true, laidKinds := [.data, .pinned], laidTests := true, laidLooks := .later }
def FnExactReachableCountsCardSaid : Prop := Claim7.holds Tryz.pinned (.plain (OpenSpec.ofChange fnExactReachableCountsSpec)) fnExactReachableCountsCard

/-- THE TIED CARD OF 'laws.FnExactOwnFields'. -/
def fnExactOwnFieldsCard : Claim7 := { stood := { row := fnExactOwnFieldsRow, standIns := [], harness := (true, "67e96185c9c03327c784ec714fabe18eeacecbd8b8ce9b977b20335d3b513c86"), looks := false }, kinds := [], alts := [], laidByText := true, laidKinds := [.data, .pinned], laidTests := true, laidLooks := .later }
def FnExactOwnFieldsCardSaid : Prop := Claim7.holds Tryz.pinned (.plain (OpenSpec.ofChange fnExactOwnFieldsSpec)) fnExactOwnFieldsCard

/-- THE TIED CARD OF 'laws.FnExactFramesOf'. -/
def fnExactFramesOfCard : Claim7 := { stood := { row := fnExactFramesOfRow, standIns := [], harness := (true, "67e96185c9c03327c784ec714fabe18eeacecbd8b8ce9b977b20335d3b513c86"), looks := false }, kinds := [], alts := [], laidByText := true, laidKinds := [.data, .pinned], laidTests := true, laidLooks := .later }
def FnExactFramesOfCardSaid : Prop := Claim7.holds Tryz.pinned (.plain (OpenSpec.ofChange fnExactFramesOfSpec)) fnExactFramesOfCard

/-- THE TIED CARD OF 'laws.FnExactSwapObjects'. -/
def fnExactSwapObjectsCard : Claim7 := { stood := { row := fnExactSwapObjectsRow, standIns := [], harness := (true, "67e96185c9c03327c784ec714fabe18eeacecbd8b8ce9b977b20335d3b513c86"), looks := false }, kinds := [], alts := [], laidByText := true, laidKinds := [.data, .pinned], laidTests := true, laidLooks := .later }
def FnExactSwapObjectsCardSaid : Prop := Claim7.holds Tryz.pinned (.plain (OpenSpec.ofChange fnExactSwapObjectsSpec)) fnExactSwapObjectsCard

/-- THE TIED CARD OF 'laws.FnExactRemoveMethod'. -/
def fnExactRemoveMethodCard : Claim7 := { stood := { row := fnExactRemoveMethodRow, standIns := [], harness := (true, "67e96185c9c03327c784ec714fabe18eeacecbd8b8ce9b977b20335d3b513c86"), looks := false }, kinds := [], alts := [], laidByText := true, laidKinds := [.data, .pinned], laidTests := true, laidLooks := .later }
def FnExactRemoveMethodCardSaid : Prop := Claim7.holds Tryz.pinned (.plain (OpenSpec.ofChange fnExactRemoveMethodSpec)) fnExactRemoveMethodCard

/-- THE TIED CARD OF 'laws.FnExactSwapReferences'. -/
def fnExactSwapReferencesCard : Claim7 := { stood := { row := fnExactSwapReferencesRow, standIns := [], harness := (true, "67e96185c9c03327c784ec714fabe18eeacecbd8b8ce9b977b20335d3b513c86"), looks := false }, kinds := [], alts := [], laidByText := true, laidKinds := [.data, .pinned], laidTests := true, laidLooks := .later }
def FnExactSwapReferencesCardSaid : Prop := Claim7.holds Tryz.pinned (.plain (OpenSpec.ofChange fnExactSwapReferencesSpec)) fnExactSwapReferencesCard

/-- THE TIED CARD OF 'laws.FnExactRestartFrame'. -/
def fnExactRestartFrameCard : Claim7 := { stood := { row := fnExactRestartFrameRow, standIns := [], harness := (true, "67e96185c9c03327c784ec714fabe18eeacecbd8b8ce9b977b20335d3b513c86"), looks := false }, kinds := [], alts := [], laidByText := true, laidKinds := [.data, .pinned], laidTests := true, laidLooks := .later }
def FnExactRestartFrameCardSaid : Prop := Claim7.holds Tryz.pinned (.plain (OpenSpec.ofChange fnExactRestartFrameSpec)) fnExactRestartFrameCard

/-- THE TIED CARD OF 'laws.FnExactCollectImage'. -/
def fnExactCollectImageCard : Claim7 := { stood := { row := fnExactCollectImageRow, standIns := [], harness := (true, "67e96185c9c03327c784ec714fabe18eeacecbd8b8ce9b977b20335d3b513c86"), looks := false }, kinds := [], alts := [], laidByText := true, laidKinds := [.data, .pinned], laidTests := true, laidLooks := .later }
def FnExactCollectImageCardSaid : Prop := Claim7.holds Tryz.pinned (.plain (OpenSpec.ofChange fnExactCollectImageSpec)) fnExactCollectImageCard

/-- THE SECOND FORM's CARD OF 'laws.FnExactNewImage'. -/
def fnExactNewImageUptoCard : Claim7 := { stood := { row := fnExactNewImageUptoRow, standIns := [], harness := (true, "67e96185c9c03327c784ec714fabe18eeacecbd8b8ce9b977b20335d3b513c86"), looks := false }, kinds := [], alts := [], laidByText := true, laidKinds := [.data, .pinned], laidTests := true, laidLooks := .later }
def FnExactNewImageUptoCardSaid : Prop := Claim7.holds Tryz.pinned (.plain (OpenSpec.upto fnExactNewImageSpec)) fnExactNewImageUptoCard

/-- THE SECOND FORM's CARD OF 'laws.FnExactReachableCounts'. -/
def fnExactReachableCountsUptoCard : Claim7 := { stood := { row := fnExactReachableCountsUptoRow, standIns := [], harness := (true, "67e96185c9c03327c784ec714fabe18eeacecbd8b8ce9b977b20335d3b513c86"), looks := false }, kinds := [], alts := [], laidByText := true, laidKinds := [.data, .pinned], laidTests := true, laidLooks := .later }
def FnExactReachableCountsUptoCardSaid : Prop := Claim7.holds Tryz.pinned (.plain (OpenSpec.upto fnExactReachableCountsSpec)) fnExactReachableCountsUptoCard

/-- THE SECOND FORM's CARD OF 'laws.FnExactOwnFields'. -/
def fnExactOwnFieldsUptoCard : Claim7 := { stood := { row := fnExactOwnFieldsUptoRow, standIns := [], harness := (true, "67e96185c9c03327c784ec714fabe18eeacecbd8b8ce9b977b20335d3b513c86"), looks := false }, kinds := [], alts := [], laidByText := true, laidKinds := [.data, .pinned], laidTests := true, laidLooks := .later }
def FnExactOwnFieldsUptoCardSaid : Prop := Claim7.holds Tryz.pinned (.plain (OpenSpec.upto fnExactOwnFieldsSpec)) fnExactOwnFieldsUptoCard

/-- THE SECOND FORM's CARD OF 'laws.FnExactFramesOf'. -/
def fnExactFramesOfUptoCard : Claim7 := { stood := { row := fnExactFramesOfUptoRow, standIns := [], harness := (true, "67e96185c9c03327c784ec714fabe18eeacecbd8b8ce9b977b20335d3b513c86"), looks := false }, kinds := [], alts := [], laidByText := true, laidKinds := [.data, .pinned], laidTests := true, laidLooks := .later }
def FnExactFramesOfUptoCardSaid : Prop := Claim7.holds Tryz.pinned (.plain (OpenSpec.upto fnExactFramesOfSpec)) fnExactFramesOfUptoCard

/-- THE SECOND FORM's CARD OF 'laws.FnExactSwapObjects'. -/
def fnExactSwapObjectsUptoCard : Claim7 := { stood := { row := fnExactSwapObjectsUptoRow, standIns := [], harness := (true, "67e96185c9c03327c784ec714fabe18eeacecbd8b8ce9b977b20335d3b513c86"), looks := false }, kinds := [], alts := [], laidByText := true, laidKinds := [.data, .pinned], laidTests := true, laidLooks := .later }
def FnExactSwapObjectsUptoCardSaid : Prop := Claim7.holds Tryz.pinned (.plain (OpenSpec.upto fnExactSwapObjectsSpec)) fnExactSwapObjectsUptoCard

/-- THE SECOND FORM's CARD OF 'laws.FnExactRemoveMethod'. -/
def fnExactRemoveMethodUptoCard : Claim7 := { stood := { row := fnExactRemoveMethodUptoRow, standIns := [], harness := (true, "67e96185c9c03327c784ec714fabe18eeacecbd8b8ce9b977b20335d3b513c86"), looks := false }, kinds := [], alts := [], laidByText := true, laidKinds := [.data, .pinned], laidTests := true, laidLooks := .later }
def FnExactRemoveMethodUptoCardSaid : Prop := Claim7.holds Tryz.pinned (.plain (OpenSpec.upto fnExactRemoveMethodSpec)) fnExactRemoveMethodUptoCard

/-- THE SECOND FORM's CARD OF 'laws.FnExactSwapReferences'. -/
def fnExactSwapReferencesUptoCard : Claim7 := { stood := { row := fnExactSwapReferencesUptoRow, standIns := [], harness := (true, "67e96185c9c03327c784ec714fabe18eeacecbd8b8ce9b977b20335d3b513c86"), looks := false }, kinds := [], alts := [], laidByText := true, laidKinds := [.data, .pinned], laidTests := true, laidLooks := .later }
def FnExactSwapReferencesUptoCardSaid : Prop := Claim7.holds Tryz.pinned (.plain (OpenSpec.upto fnExactSwapReferencesSpec)) fnExactSwapReferencesUptoCard

/-- THE SECOND FORM's CARD OF 'laws.FnExactRestartFrame'. -/
def fnExactRestartFrameUptoCard : Claim7 := { stood := { row := fnExactRestartFrameUptoRow, standIns := [], harness := (true, "67e96185c9c03327c784ec714fabe18eeacecbd8b8ce9b977b20335d3b513c86"), looks := false }, kinds := [], alts := [], laidByText := true, laidKinds := [.data, .pinned], laidTests := true, laidLooks := .later }
def FnExactRestartFrameUptoCardSaid : Prop := Claim7.holds Tryz.pinned (.plain (OpenSpec.upto fnExactRestartFrameSpec)) fnExactRestartFrameUptoCard

/-- THE SECOND FORM's CARD OF 'laws.FnExactCollectImage'. -/
def fnExactCollectImageUptoCard : Claim7 := { stood := { row := fnExactCollectImageUptoRow, standIns := [], harness := (true, "67e96185c9c03327c784ec714fabe18eeacecbd8b8ce9b977b20335d3b513c86"), looks := false }, kinds := [], alts := [], laidByText := true, laidKinds := [.data, .pinned], laidTests := true, laidLooks := .later }
def FnExactCollectImageUptoCardSaid : Prop := Claim7.holds Tryz.pinned (.plain (OpenSpec.upto fnExactCollectImageSpec)) fnExactCollectImageUptoCard
end Rows
end Go.Proofs.YtiihihgjiklnoaaGreatDoor
