/-
  DERIVED. GIVEN WITH THE SEED: THE CARDS: each row of YtdeokcbbjibkoaaDoorRows.lean that lists a variable, with what it lists TIED to the program's text (the seventh form; the later family's looks); each row that meets fmt, with fmt's text TOLD by the authors' own Lean function (tested against real Go, not proved from fmt's source: count such statements apart). THE CARD IS WHAT COUNTS. Prove the row's statement (the work); the ties are given (YtdeokcbbjibkoaaDoorTie.lean); close each card by the builder's one call (the guide's Derived/Test/ToyasCard.lean, 'card_holds'). Laid BY PROGRAM, IN A SANDBOX (cutbox-door.mjs). By AI agents, Wed Nov 11 2026. No macro, syntax, notation, axiom, sorry.
-/
import Derived.Test.YtdeokcbbjibkoaaDoorRows
import GoSem.ClaimSeven
namespace Go.Proofs.YtdeokcbbjibkoaaDoor
namespace Rows

/-- THE TIED CARD OF 'laws.FnExactStackDepths'. -/
def fnExactStackDepthsCard : Claim7 := { stood := { row := fnExactStackDepthsRow, standIns := [], harness := (true, "2019e43a743aa2a19fefa8408f3b3d279a8ed724b7dd8738ffc8492ec600c389"), looks := false }, kinds := [], alts := [], laidByText := true, laidKinds := [.data, .pinned], laidTests := true, laidLooks := .later }
def FnExactStackDepthsCardSaid : Prop := Claim7.holds Tryd.pinned (.plain (OpenSpec.ofChange fnExactStackDepthsSpec)) fnExactStackDepthsCard

/-- THE TIED CARD OF 'laws.FnExactLibraryAnswer'. -/
def fnExactLibraryAnswerCard : Claim7 := { stood := { row := fnExactLibraryAnswerRow, standIns := [], harness := (true, "2019e43a743aa2a19fefa8408f3b3d279a8ed724b7dd8738ffc8492ec600c389"), looks := false }, kinds := [], alts := [], laidByText := true, laidKinds := [.data, .data, .data], laidTests := true, laidLooks := .later }
def FnExactLibraryAnswerCardSaid : Prop := Claim7.holds Tryd.pinned (.plain (OpenSpec.ofChange fnExactLibraryAnswerSpec)) fnExactLibraryAnswerCard

/-- THE SECOND FORM's CARD OF 'laws.FnExactStackDepths'. -/
def fnExactStackDepthsUptoCard : Claim7 := { stood := { row := fnExactStackDepthsUptoRow, standIns := [], harness := (true, "2019e43a743aa2a19fefa8408f3b3d279a8ed724b7dd8738ffc8492ec600c389"), looks := false }, kinds := [], alts := [], laidByText := true, laidKinds := [.data, .pinned], laidTests := true, laidLooks := .later }
def FnExactStackDepthsUptoCardSaid : Prop := Claim7.holds Tryd.pinned (.plain (OpenSpec.upto fnExactStackDepthsSpec)) fnExactStackDepthsUptoCard

/-- THE SECOND FORM's CARD OF 'laws.FnExactLibraryAnswer'. -/
def fnExactLibraryAnswerUptoCard : Claim7 := { stood := { row := fnExactLibraryAnswerUptoRow, standIns := [], harness := (true, "2019e43a743aa2a19fefa8408f3b3d279a8ed724b7dd8738ffc8492ec600c389"), looks := false }, kinds := [], alts := [], laidByText := true, laidKinds := [.data, .data, .data], laidTests := true, laidLooks := .later }
def FnExactLibraryAnswerUptoCardSaid : Prop := Claim7.holds Tryd.pinned (.plain (OpenSpec.upto fnExactLibraryAnswerSpec)) fnExactLibraryAnswerUptoCard
end Rows
end Go.Proofs.YtdeokcbbjibkoaaDoor
