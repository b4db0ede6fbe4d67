/-
  DERIVED. GIVEN WITH THE SEED: THE CARDS: each row of YtoflhemcjmhmkaaDoorRows.lean that lists a variable, with what it lists TIED to the program's text (the seventh form; the later family's looks); each row that meets fmt, with fmt's text TOLD by the authors' own Lean function (tested against real Go, not proved from fmt's source: count such statements apart). THE CARD IS WHAT COUNTS. Prove the row's statement (the work); the ties are given (YtoflhemcjmhmkaaDoorTie.lean); close each card by the builder's one call (the guide's Derived/Test/ToyasCard.lean, 'card_holds'). Laid BY PROGRAM, IN A SANDBOX (cutbox-door.mjs). By AI agents, Wed Nov 11 2026. No macro, syntax, notation, axiom, sorry.
-/
import Derived.Test.YtoflhemcjmhmkaaDoorRows
import GoSem.ClaimSeven
namespace Go.Proofs.YtoflhemcjmhmkaaDoor
namespace Rows

/-- THE TIED CARD OF 'laws.FnExactLibrarySource'. -/
def fnExactLibrarySourceCard : Claim7 := { stood := { row := fnExactLibrarySourceRow, standIns := [], harness := (true, "d8dec1d6e076ea2d1affbc0543b2d2aae16510f42457c2138316471d7a2d7180"), looks := false }, kinds := [], alts := [], laidByText := true, laidKinds := [.data, .data, .data], laidTests := true, laidLooks := .later }
def FnExactLibrarySourceCardSaid : Prop := Claim7.holds Tryd.pinned (.plain (OpenSpec.ofChange fnExactLibrarySourceSpec)) fnExactLibrarySourceCard

/-- THE TIED CARD OF 'laws.FnExactFormatValue'. -/
def fnExactFormatValueCard : Claim7 := { stood := { row := fnExactFormatValueRow, standIns := [], harness := (true, "d8dec1d6e076ea2d1affbc0543b2d2aae16510f42457c2138316471d7a2d7180"), looks := false }, kinds := [], alts := [], laidByText := true, laidKinds := [.data, .data, .data, .data, .pinned], laidTests := true, laidLooks := .later }
def FnExactFormatValueCardSaid : Prop := Claim7.holds Tryd.pinned (.plain (OpenSpec.ofChange fnExactFormatValueSpec)) fnExactFormatValueCard

/-- THE TIED CARD OF 'laws.FnExactStackDepths'. -/
def fnExactStackDepthsCard : Claim7 := { stood := { row := fnExactStackDepthsRow, standIns := [], harness := (true, "d8dec1d6e076ea2d1affbc0543b2d2aae16510f42457c2138316471d7a2d7180"), looks := false }, kinds := [], alts := [], laidByText := true, laidKinds := [.data, .pinned], laidTests := true, laidLooks := .later }
def FnExactStackDepthsCardSaid : Prop := Claim7.holds Tryd.pinned (.plain (OpenSpec.ofChange fnExactStackDepthsSpec)) fnExactStackDepthsCard

/-- THE TIED CARD OF 'laws.FnExactLibraryAnswer'. -/
def fnExactLibraryAnswerCard : Claim7 := { stood := { row := fnExactLibraryAnswerRow, standIns := [], harness := (true, "d8dec1d6e076ea2d1affbc0543b2d2aae16510f42457c2138316471d7a2d7180"), looks := false }, kinds := [], alts := [], laidByText := true, laidKinds := [.data, .data, .data], laidTests := true, laidLooks := .later }
def FnExactLibraryAnswerCardSaid : Prop := Claim7.holds Tryd.pinned (.plain (OpenSpec.ofChange fnExactLibraryAnswerSpec)) fnExactLibraryAnswerCard

/-- THE SECOND FORM's CARD OF 'laws.FnExactLibrarySource'. -/
def fnExactLibrarySourceUptoCard : Claim7 := { stood := { row := fnExactLibrarySourceUptoRow, standIns := [], harness := (true, "d8dec1d6e076ea2d1affbc0543b2d2aae16510f42457c2138316471d7a2d7180"), looks := false }, kinds := [], alts := [], laidByText := true, laidKinds := [.data, .data, .data], laidTests := true, laidLooks := .later }
def FnExactLibrarySourceUptoCardSaid : Prop := Claim7.holds Tryd.pinned (.plain (OpenSpec.upto fnExactLibrarySourceSpec)) fnExactLibrarySourceUptoCard

/-- THE SECOND FORM's CARD OF 'laws.FnExactFormatValue'. -/
def fnExactFormatValueUptoCard : Claim7 := { stood := { row := fnExactFormatValueUptoRow, standIns := [], harness := (true, "d8dec1d6e076ea2d1affbc0543b2d2aae16510f42457c2138316471d7a2d7180"), looks := false }, kinds := [], alts := [], laidByText := true, laidKinds := [.data, .data, .data, .data, .pinned], laidTests := true, laidLooks := .later }
def FnExactFormatValueUptoCardSaid : Prop := Claim7.holds Tryd.pinned (.plain (OpenSpec.upto fnExactFormatValueSpec)) fnExactFormatValueUptoCard

/-- THE SECOND FORM's CARD OF 'laws.FnExactStackDepths'. -/
def fnExactStackDepthsUptoCard : Claim7 := { stood := { row := fnExactStackDepthsUptoRow, standIns := [], harness := (true, "d8dec1d6e076ea2d1affbc0543b2d2aae16510f42457c2138316471d7a2d7180"), looks := false }, kinds := [], alts := [], laidByText := true, laidKinds := [.data, .pinned], laidTests := true, laidLooks := .later }
def FnExactStackDepthsUptoCardSaid : Prop := Claim7.holds Tryd.pinned (.plain (OpenSpec.upto fnExactStackDepthsSpec)) fnExactStackDepthsUptoCard

/-- THE SECOND FORM's CARD OF 'laws.FnExactLibraryAnswer'. -/
def fnExactLibraryAnswerUptoCard : Claim7 := { stood := { row := fnExactLibraryAnswerUptoRow, standIns := [], harness := (true, "d8dec1d6e076ea2d1affbc0543b2d2aae16510f42457c2138316471d7a2d7180"), looks := false }, kinds := [], alts := [], laidByText := true, laidKinds := [.data, .data, .data], laidTests := true, laidLooks := .later }
def FnExactLibraryAnswerUptoCardSaid : Prop := Claim7.holds Tryd.pinned (.plain (OpenSpec.upto fnExactLibraryAnswerSpec)) fnExactLibraryAnswerUptoCard
end Rows
end Go.Proofs.YtoflhemcjmhmkaaDoor
