/-
  DERIVED. GIVEN WITH THE SEED: THE CARDS: each row of YtagmokkjkmiblaaDoorRows.lean that lists a variable, with what it lists TIED to the program's text (the seventh form; the later family's looks); each row that meets fmt, with fmt's text TOLD by the authors' own Lean function (tested against real Go, not proved from fmt's source: count such statements apart). THE CARD IS WHAT COUNTS. Prove the row's statement (the work); the ties are given (YtagmokkjkmiblaaDoorTie.lean); close each card by the builder's one call (the guide's Derived/Test/ToyasCard.lean, 'card_holds'). Laid BY PROGRAM, IN A SANDBOX (cutbox-door.mjs). By AI agents, Wed Nov 11 2026. No macro, syntax, notation, axiom, sorry.
-/
import Derived.Test.YtagmokkjkmiblaaDoorRows
import GoSem.ClaimSeven
namespace Go.Proofs.YtagmokkjkmiblaaDoor
namespace Rows

/-- THE TIED CARD OF 'laws.FnExactStackDepths'. -/
def fnExactStackDepthsCard : Claim7 := { stood := { row := fnExactStackDepthsRow, standIns := [], harness := (true, "3b4f26fb5d99645229422665a7f62d233d1f4da30e9570afa9151b0e789b9d04"), looks := true }, kinds := [], alts := [], laidByText := true, laidKinds := [.data, .pinned], laidTests := true, laidLooks := .later }
def FnExactStackDepthsCardSaid : Prop := Claim7.holds Tryd.pinned (.plain (OpenSpec.ofChange fnExactStackDepthsSpec)) fnExactStackDepthsCard

/-- THE TIED CARD OF 'laws.FnExactLibraryAnswer'. -/
def fnExactLibraryAnswerCard : Claim7 := { stood := { row := fnExactLibraryAnswerRow, standIns := [], harness := (true, "3b4f26fb5d99645229422665a7f62d233d1f4da30e9570afa9151b0e789b9d04"), looks := true }, kinds := [], alts := [], laidByText := true, laidKinds := [.data, .data, .data], laidTests := true, laidLooks := .later }
def FnExactLibraryAnswerCardSaid : Prop := Claim7.holds Tryd.pinned (.plain (OpenSpec.ofChange fnExactLibraryAnswerSpec)) fnExactLibraryAnswerCard

/-- THE TIED CARD OF 'laws.FnExactParseValue'. -/
def fnExactParseValueCard : Claim7 := { stood := { row := fnExactParseValueRow, standIns := [], harness := (true, "3b4f26fb5d99645229422665a7f62d233d1f4da30e9570afa9151b0e789b9d04"), looks := true }, kinds := [], alts := [], laidByText := true, laidKinds := [.data, .data, .data, .data, .sentinel, .sentinel, .pinned], laidTests := true, laidLooks := .later }
def FnExactParseValueCardSaid : Prop := Claim7.holds Tryd.pinned (.plain (OpenSpec.ofChange fnExactParseValueSpec)) fnExactParseValueCard

/-- THE SECOND FORM's CARD OF 'laws.FnExactStackDepths'. -/
def fnExactStackDepthsUptoCard : Claim7 := { stood := { row := fnExactStackDepthsUptoRow, standIns := [], harness := (true, "3b4f26fb5d99645229422665a7f62d233d1f4da30e9570afa9151b0e789b9d04"), looks := true }, kinds := [], alts := [], laidByText := true, laidKinds := [.data, .pinned], laidTests := true, laidLooks := .later }
def FnExactStackDepthsUptoCardSaid : Prop := Claim7.holds Tryd.pinned (.plain (OpenSpec.upto fnExactStackDepthsSpec)) fnExactStackDepthsUptoCard

/-- THE SECOND FORM's CARD OF 'laws.FnExactLibraryAnswer'. -/
def fnExactLibraryAnswerUptoCard : Claim7 := { stood := { row := fnExactLibraryAnswerUptoRow, standIns := [], harness := (true, "3b4f26fb5d99645229422665a7f62d233d1f4da30e9570afa9151b0e789b9d04"), looks := true }, kinds := [], alts := [], laidByText := true, laidKinds := [.data, .data, .data], laidTests := true, laidLooks := .later }
def FnExactLibraryAnswerUptoCardSaid : Prop := Claim7.holds Tryd.pinned (.plain (OpenSpec.upto fnExactLibraryAnswerSpec)) fnExactLibraryAnswerUptoCard

/-- THE SECOND FORM's CARD OF 'laws.FnExactParseValue'. -/
def fnExactParseValueUptoCard : Claim7 := { stood := { row := fnExactParseValueUptoRow, standIns := [], harness := (true, "3b4f26fb5d99645229422665a7f62d233d1f4da30e9570afa9151b0e789b9d04"), looks := true }, kinds := [], alts := [], laidByText := true, laidKinds := [.data, .data, .data, .data, .sentinel, .sentinel, .pinned], laidTests := true, laidLooks := .later }
def FnExactParseValueUptoCardSaid : Prop := Claim7.holds Tryd.pinned (.plain (OpenSpec.upto fnExactParseValueSpec)) fnExactParseValueUptoCard
end Rows
end Go.Proofs.YtagmokkjkmiblaaDoor
