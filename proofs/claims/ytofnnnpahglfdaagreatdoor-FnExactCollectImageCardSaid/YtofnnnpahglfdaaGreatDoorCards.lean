/-
  DERIVED. GIVEN WITH THE SEED: THE CARDS: each row of YtofnnnpahglfdaaGreatDoorRows.lean that lists a variable, with what it lists TIED to the program's text (the seventh form; the later family's looks); each row that meets fmt, with fmt's text TOLD by the authors' own Lean function (tested against real Go, not proved from fmt's source: count such statements apart). THE CARD IS WHAT COUNTS. Prove the row's statement (the work); the ties are given (YtofnnnpahglfdaaGreatDoorTie.lean); close each card by the builder's one call (the guide's Derived/Test/ToyasCard.lean, 'card_holds'). Laid BY PROGRAM, IN A SANDBOX (cutbox-door.mjs). By AI agents, Wed Nov 11 2026. No macro, syntax, notation, axiom, sorry.
-/
import Derived.Test.YtofnnnpahglfdaaGreatDoorRows
import GoSem.ClaimSeven
namespace Go.Proofs.YtofnnnpahglfdaaGreatDoor
namespace Rows

/-- THE TIED CARD OF 'laws.FnExactOutcomeOf'. -/
def fnExactOutcomeOfCard : Claim7 := { stood := { row := fnExactOutcomeOfRow, standIns := [], harness := (true, "df930fbc439ddfd4fb8a0075bcf56ab99d1c9a7c809596c7ddb65ae3a19f7556"), looks := false }, kinds := [], alts := [], laidByText := true, laidKinds := [.data, .data, .data, .data, .pinned], laidTests := true, laidLooks := .later }
def FnExactOutcomeOfCardSaid : Prop := Claim7.holds Tryz.pinned (.plain (OpenSpec.ofChange fnExactOutcomeOfSpec)) fnExactOutcomeOfCard

/-- THE TIED CARD OF 'laws.FnExactFrameTexts'. -/
def fnExactFrameTextsCard : Claim7 := { stood := { row := fnExactFrameTextsRow, standIns := [], harness := (true, "df930fbc439ddfd4fb8a0075bcf56ab99d1c9a7c809596c7ddb65ae3a19f7556"), looks := false }, kinds := [], alts := [], laidByText := true, laidKinds := [.data, .data, .data, .data, .pinned], laidTests := true, laidLooks := .later }
def FnExactFrameTextsCardSaid : Prop := Claim7.holds Tryz.pinned (.plain (OpenSpec.ofChange fnExactFrameTextsSpec)) fnExactFrameTextsCard

/-- THE TIED CARD OF 'laws.FnExactReturnFrame'. -/
def fnExactReturnFrameCard : Claim7 := { stood := { row := fnExactReturnFrameRow, standIns := [], harness := (true, "df930fbc439ddfd4fb8a0075bcf56ab99d1c9a7c809596c7ddb65ae3a19f7556"), looks := false }, kinds := [], alts := [], laidByText := true, laidKinds := [.data, .pinned], laidTests := true, laidLooks := .later }
def FnExactReturnFrameCardSaid : Prop := Claim7.holds Tryz.pinned (.plain (OpenSpec.ofChange fnExactReturnFrameSpec)) fnExactReturnFrameCard

/-- THE TIED CARD OF 'laws.FnExactCollectImage'. -/
def fnExactCollectImageCard : Claim7 := { stood := { row := fnExactCollectImageRow, standIns := [], harness := (true, "df930fbc439ddfd4fb8a0075bcf56ab99d1c9a7c809596c7ddb65ae3a19f7556"), looks := false }, kinds := [], alts := [], laidByText := true, laidKinds := [.data, .pinned], laidTests := true, laidLooks := .later }
def FnExactCollectImageCardSaid : Prop := Claim7.holds Tryz.pinned (.plain (OpenSpec.ofChange fnExactCollectImageSpec)) fnExactCollectImageCard

/-- THE SECOND FORM's CARD OF 'laws.FnExactOutcomeOf'. -/
def fnExactOutcomeOfUptoCard : Claim7 := { stood := { row := fnExactOutcomeOfUptoRow, standIns := [], harness := (true, "df930fbc439ddfd4fb8a0075bcf56ab99d1c9a7c809596c7ddb65ae3a19f7556"), looks := false }, kinds := [], alts := [], laidByText := true, laidKinds := [.data, .data, .data, .data, .pinned], laidTests := true, laidLooks := .later }
def FnExactOutcomeOfUptoCardSaid : Prop := Claim7.holds Tryz.pinned (.plain (OpenSpec.upto fnExactOutcomeOfSpec)) fnExactOutcomeOfUptoCard

/-- THE SECOND FORM's CARD OF 'laws.FnExactFrameTexts'. -/
def fnExactFrameTextsUptoCard : Claim7 := { stood := { row := fnExactFrameTextsUptoRow, standIns := [], harness := (true, "df930fbc439ddfd4fb8a0075bcf56ab99d1c9a7c809596c7ddb65ae3a19f7556"), looks := false }, kinds := [], alts := [], laidByText := true, laidKinds := [.data, .data, .data, .data, .pinned], laidTests := true, laidLooks := .later }
def FnExactFrameTextsUptoCardSaid : Prop := Claim7.holds Tryz.pinned (.plain (OpenSpec.upto fnExactFrameTextsSpec)) fnExactFrameTextsUptoCard

/-- THE SECOND FORM's CARD OF 'laws.FnExactReturnFrame'. -/
def fnExactReturnFrameUptoCard : Claim7 := { stood := { row := fnExactReturnFrameUptoRow, standIns := [], harness := (true, "df930fbc439ddfd4fb8a0075bcf56ab99d1c9a7c809596c7ddb65ae3a19f7556"), looks := false }, kinds := [], alts := [], laidByText := true, laidKinds := [.data, .pinned], laidTests := true, laidLooks := .later }
def FnExactReturnFrameUptoCardSaid : Prop := Claim7.holds Tryz.pinned (.plain (OpenSpec.upto fnExactReturnFrameSpec)) fnExactReturnFrameUptoCard

/-- THE SECOND FORM's CARD OF 'laws.FnExactCollectImage'. -/
def fnExactCollectImageUptoCard : Claim7 := { stood := { row := fnExactCollectImageUptoRow, standIns := [], harness := (true, "df930fbc439ddfd4fb8a0075bcf56ab99d1c9a7c809596c7ddb65ae3a19f7556"), looks := false }, kinds := [], alts := [], laidByText := true, laidKinds := [.data, .pinned], laidTests := true, laidLooks := .later }
def FnExactCollectImageUptoCardSaid : Prop := Claim7.holds Tryz.pinned (.plain (OpenSpec.upto fnExactCollectImageSpec)) fnExactCollectImageUptoCard
end Rows
end Go.Proofs.YtofnnnpahglfdaaGreatDoor
