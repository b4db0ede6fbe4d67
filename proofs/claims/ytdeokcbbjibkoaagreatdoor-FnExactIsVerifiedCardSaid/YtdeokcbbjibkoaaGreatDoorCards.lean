/-
  DERIVED. GIVEN WITH THE SEED: THE CARDS: each row of YtdeokcbbjibkoaaGreatDoorRows.lean that lists a variable, with what it lists TIED to the program's text (the seventh form; the later family's looks); each row that meets fmt, with fmt's text TOLD by the authors' own Lean function (tested against real Go, not proved from fmt's source: count such statements apart). THE CARD IS WHAT COUNTS. Prove the row's statement (the work); the ties are given (YtdeokcbbjibkoaaGreatDoorTie.lean); close each card by the builder's one call (the guide's Derived/Test/ToyasCard.lean, 'card_holds'). Laid BY PROGRAM, IN A SANDBOX (cutbox-door.mjs). By AI agents, Wed Nov 11 2026. No macro, syntax, notation, axiom, sorry.
-/
import Derived.Test.YtdeokcbbjibkoaaGreatDoorRows
import GoSem.ClaimSeven
namespace Go.Proofs.YtdeokcbbjibkoaaGreatDoor
namespace Rows

/-- THE TIED CARD OF 'laws.FnExactIsVerified'. -/
def fnExactIsVerifiedCard : Claim7 := { stood := { row := fnExactIsVerifiedRow, standIns := [], harness := (true, "4f831765a8c5b82a51c4c87069c8dfec707490238dfb8c1e8dd8b19c7e956372"), looks := false }, kinds := [], alts := [], laidByText := true, laidKinds := [.data, .pinned], laidTests := true, laidLooks := .later }
def FnExactIsVerifiedCardSaid : Prop := Claim7.holds Tryz.pinned (.plain (OpenSpec.ofChange fnExactIsVerifiedSpec)) fnExactIsVerifiedCard

/-- THE TIED CARD OF 'laws.FnExactReachableSelectors'. -/
def fnExactReachableSelectorsCard : Claim7 := { stood := { row := fnExactReachableSelectorsRow, standIns := [], harness := (true, "4f831765a8c5b82a51c4c87069c8dfec707490238dfb8c1e8dd8b19c7e956372"), looks := false }, kinds := [], alts := [], laidByText := true, laidKinds := [.data, .pinned], laidTests := true, laidLooks := .later }
def FnExactReachableSelectorsCardSaid : Prop := Claim7.holds Tryz.pinned (.plain (OpenSpec.ofChange fnExactReachableSelectorsSpec)) fnExactReachableSelectorsCard

/-- THE TIED CARD OF 'laws.FnExactEditsOf'. -/
def fnExactEditsOfCard : Claim7 := { stood := { row := fnExactEditsOfRow, standIns := [], harness := (true, "4f831765a8c5b82a51c4c87069c8dfec707490238dfb8c1e8dd8b19c7e956372"), looks := false }, kinds := [], alts := [], laidByText := true, laidKinds := [.data, .pinned], laidTests := true, laidLooks := .later }
def FnExactEditsOfCardSaid : Prop := Claim7.holds Tryz.pinned (.plain (OpenSpec.ofChange fnExactEditsOfSpec)) fnExactEditsOfCard

/-- THE SECOND FORM's CARD OF 'laws.FnExactIsVerified'. -/
def fnExactIsVerifiedUptoCard : Claim7 := { stood := { row := fnExactIsVerifiedUptoRow, standIns := [], harness := (true, "4f831765a8c5b82a51c4c87069c8dfec707490238dfb8c1e8dd8b19c7e956372"), looks := false }, kinds := [], alts := [], laidByText := true, laidKinds := [.data, .pinned], laidTests := true, laidLooks := .later }
def FnExactIsVerifiedUptoCardSaid : Prop := Claim7.holds Tryz.pinned (.plain (OpenSpec.upto fnExactIsVerifiedSpec)) fnExactIsVerifiedUptoCard

/-- THE SECOND FORM's CARD OF 'laws.FnExactReachableSelectors'. -/
def fnExactReachableSelectorsUptoCard : Claim7 := { stood := { row := fnExactReachableSelectorsUptoRow, standIns := [], harness := (true, "4f831765a8c5b82a51c4c87069c8dfec707490238dfb8c1e8dd8b19c7e956372"), looks := false }, kinds := [], alts := [], laidByText := true, laidKinds := [.data, .pinned], laidTests := true, laidLooks := .later }
def FnExactReachableSelectorsUptoCardSaid : Prop := Claim7.holds Tryz.pinned (.plain (OpenSpec.upto fnExactReachableSelectorsSpec)) fnExactReachableSelectorsUptoCard

/-- THE SECOND FORM's CARD OF 'laws.FnExactEditsOf'. -/
def fnExactEditsOfUptoCard : Claim7 := { stood := { row := fnExactEditsOfUptoRow, standIns := [], harness := (true, "4f831765a8c5b82a51c4c87069c8dfec707490238dfb8c1e8dd8b19c7e956372"), looks := false }, kinds := [], alts := [], laidByText := true, laidKinds := [.data, .pinned], laidTests := true, laidLooks := .later }
def FnExactEditsOfUptoCardSaid : Prop := Claim7.holds Tryz.pinned (.plain (OpenSpec.upto fnExactEditsOfSpec)) fnExactEditsOfUptoCard
end Rows
end Go.Proofs.YtdeokcbbjibkoaaGreatDoor
