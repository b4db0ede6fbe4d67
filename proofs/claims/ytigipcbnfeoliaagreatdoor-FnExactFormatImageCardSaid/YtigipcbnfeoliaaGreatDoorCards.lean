/-
  DERIVED. GIVEN WITH THE SEED: THE CARDS: each row of YtigipcbnfeoliaaGreatDoorRows.lean that lists a variable, with what it lists TIED to the program's text (the seventh form; the later family's looks); each row that meets fmt, with fmt's text TOLD by the authors' own Lean function (tested against real Go, not proved from fmt's source: count such statements apart). THE CARD IS WHAT COUNTS. Prove the row's statement (the work); the ties are given (YtigipcbnfeoliaaGreatDoorTie.lean); close each card by the builder's one call (the guide's Derived/Test/ToyasCard.lean, 'card_holds'). Laid BY PROGRAM, IN A SANDBOX (cutbox-door.mjs). By AI agents, Wed Nov 11 2026. No macro, syntax, notation, axiom, sorry.
-/
import Derived.Test.YtigipcbnfeoliaaGreatDoorRows
import GoSem.ClaimSeven
namespace Go.Proofs.YtigipcbnfeoliaaGreatDoor
namespace Rows

/-- THE TIED CARD OF 'laws.FnExactRestartFrame'. -/
def fnExactRestartFrameCard : Claim7 := { stood := { row := fnExactRestartFrameRow, standIns := [], harness := (true, "c47b1416cc6c7f1437f517945cffad794f89ea6873bd743fbe53c38a56571921"), looks := false }, kinds := [], alts := [], laidByText := true, laidKinds := [.data, .pinned], laidTests := true, laidLooks := .later }
def FnExactRestartFrameCardSaid : Prop := Claim7.holds Tryz.pinned (.plain (OpenSpec.ofChange fnExactRestartFrameSpec)) fnExactRestartFrameCard

/-- THE TIED CARD OF 'laws.FnExactFormatImage'. -/
def fnExactFormatImageCard : Claim7 := { stood := { row := fnExactFormatImageRow, standIns := [], harness := (true, "c47b1416cc6c7f1437f517945cffad794f89ea6873bd743fbe53c38a56571921"), looks := false }, kinds := [], alts := [], laidByText := true, laidKinds := [.data, .data, .data, .data, .pinned], laidTests := true, laidLooks := .later }
def FnExactFormatImageCardSaid : Prop := Claim7.holds Tryz.pinned (.plain (OpenSpec.ofChange fnExactFormatImageSpec)) fnExactFormatImageCard

/-- THE TIED CARD OF 'laws.FnExactOutcomeOf'. -/
def fnExactOutcomeOfCard : Claim7 := { stood := { row := fnExactOutcomeOfRow, standIns := [], harness := (true, "c47b1416cc6c7f1437f517945cffad794f89ea6873bd743fbe53c38a56571921"), looks := false }, kinds := [], alts := [], laidByText := true, laidKinds := [.data, .data, .data, .data, .pinned], laidTests := true, laidLooks := .later }
def FnExactOutcomeOfCardSaid : Prop := Claim7.holds Tryz.pinned (.plain (OpenSpec.ofChange fnExactOutcomeOfSpec)) fnExactOutcomeOfCard

/-- THE TIED CARD OF 'laws.FnExactFrameTexts'. -/
def fnExactFrameTextsCard : Claim7 := { stood := { row := fnExactFrameTextsRow, standIns := [], harness := (true, "c47b1416cc6c7f1437f517945cffad794f89ea6873bd743fbe53c38a56571921"), looks := false }, kinds := [], alts := [], laidByText := true, laidKinds := [.data, .data, .data, .data, .pinned], laidTests := true, laidLooks := .later }
def FnExactFrameTextsCardSaid : Prop := Claim7.holds Tryz.pinned (.plain (OpenSpec.ofChange fnExactFrameTextsSpec)) fnExactFrameTextsCard

/-- THE TIED CARD OF 'laws.FnExactCollectImage'. -/
def fnExactCollectImageCard : Claim7 := { stood := { row := fnExactCollectImageRow, standIns := [], harness := (true, "c47b1416cc6c7f1437f517945cffad794f89ea6873bd743fbe53c38a56571921"), looks := false }, kinds := [], alts := [], laidByText := true, laidKinds := [.data, .pinned], laidTests := true, laidLooks := .later }
def FnExactCollectImageCardSaid : Prop := Claim7.holds Tryz.pinned (.plain (OpenSpec.ofChange fnExactCollectImageSpec)) fnExactCollectImageCard

/-- THE SECOND FORM's CARD OF 'laws.FnExactRestartFrame'. -/
def fnExactRestartFrameUptoCard : Claim7 := { stood := { row := fnExactRestartFrameUptoRow, standIns := [], harness := (true, "c47b1416cc6c7f1437f517945cffad794f89ea6873bd743fbe53c38a56571921"), looks := false }, kinds := [], alts := [], laidByText := true, laidKinds := [.data, .pinned], laidTests := true, laidLooks := .later }
def FnExactRestartFrameUptoCardSaid : Prop := Claim7.holds Tryz.pinned (.plain (OpenSpec.upto fnExactRestartFrameSpec)) fnExactRestartFrameUptoCard

/-- THE SECOND FORM's CARD OF 'laws.FnExactFormatImage'. -/
def fnExactFormatImageUptoCard : Claim7 := { stood := { row := fnExactFormatImageUptoRow, standIns := [], harness := (true, "c47b1416cc6c7f1437f517945cffad794f89ea6873bd743fbe53c38a56571921"), looks := false }, kinds := [], alts := [], laidByText := true, laidKinds := [.data, .data, .data, .data, .pinned], laidTests := true, laidLooks := .later }
def FnExactFormatImageUptoCardSaid : Prop := Claim7.holds Tryz.pinned (.plain (OpenSpec.upto fnExactFormatImageSpec)) fnExactFormatImageUptoCard

/-- THE SECOND FORM's CARD OF 'laws.FnExactOutcomeOf'. -/
def fnExactOutcomeOfUptoCard : Claim7 := { stood := { row := fnExactOutcomeOfUptoRow, standIns := [], harness := (true, "c47b1416cc6c7f1437f517945cffad794f89ea6873bd743fbe53c38a56571921"), looks := false }, kinds := [], alts := [], laidByText := true, laidKinds := [.data, .data, .data, .data, .pinned], laidTests := true, laidLooks := .later }
def FnExactOutcomeOfUptoCardSaid : Prop := Claim7.holds Tryz.pinned (.plain (OpenSpec.upto fnExactOutcomeOfSpec)) fnExactOutcomeOfUptoCard

/-- THE SECOND FORM's CARD OF 'laws.FnExactFrameTexts'. -/
def fnExactFrameTextsUptoCard : Claim7 := { stood := { row := fnExactFrameTextsUptoRow, standIns := [], harness := (true, "c47b1416cc6c7f1437f517945cffad794f89ea6873bd743fbe53c38a56571921"), looks := false }, kinds := [], alts := [], laidByText := true, laidKinds := [.data, .data, .data, .data, .pinned], laidTests := true, laidLooks := .later }
def FnExactFrameTextsUptoCardSaid : Prop := Claim7.holds Tryz.pinned (.plain (OpenSpec.upto fnExactFrameTextsSpec)) fnExactFrameTextsUptoCard

/-- THE SECOND FORM's CARD OF 'laws.FnExactCollectImage'. -/
def fnExactCollectImageUptoCard : Claim7 := { stood := { row := fnExactCollectImageUptoRow, standIns := [], harness := (true, "c47b1416cc6c7f1437f517945cffad794f89ea6873bd743fbe53c38a56571921"), looks := false }, kinds := [], alts := [], laidByText := true, laidKinds := [.data, .pinned], laidTests := true, laidLooks := .later }
def FnExactCollectImageUptoCardSaid : Prop := Claim7.holds Tryz.pinned (.plain (OpenSpec.upto fnExactCollectImageSpec)) fnExactCollectImageUptoCard
end Rows
end Go.Proofs.YtigipcbnfeoliaaGreatDoor
