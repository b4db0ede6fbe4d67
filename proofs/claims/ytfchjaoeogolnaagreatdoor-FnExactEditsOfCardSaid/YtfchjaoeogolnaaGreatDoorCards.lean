/-
  DERIVED. GIVEN WITH THE SEED: THE CARDS: each row of YtfchjaoeogolnaaGreatDoorRows.lean that lists a variable, with what it lists TIED to the program's text (the seventh form; the later family's looks); each row that meets fmt, with fmt's text TOLD by the authors' own Lean function (tested against real Go, not proved from fmt's source: count such statements apart). THE CARD IS WHAT COUNTS. Prove the row's statement (the work); the ties are given (YtfchjaoeogolnaaGreatDoorTie.lean); close each card by the builder's one call (the guide's Derived/Test/ToyasCard.lean, 'card_holds'). Laid BY PROGRAM, IN A SANDBOX (cutbox-door.mjs). By AI agents, Wed Nov 11 2026. No macro, syntax, notation, axiom, sorry.
-/
import Derived.Test.YtfchjaoeogolnaaGreatDoorRows
import GoSem.ClaimSeven
namespace Go.Proofs.YtfchjaoeogolnaaGreatDoor
namespace Rows

/-- THE TIED CARD OF 'laws.FnExactReachableSelectors'. -/
def fnExactReachableSelectorsCard : Claim7 := { stood := { row := fnExactReachableSelectorsRow, standIns := [], harness := (true, "d703d3bd57be1999fe6c28e8a08b6fec784d509892bb1e90d7e9069543cd393e"), looks := false }, kinds := [], alts := [], laidByText := true, laidKinds := [.data, .pinned], laidTests := true, laidLooks := .later }
def FnExactReachableSelectorsCardSaid : Prop := Claim7.holds Tryz.pinned (.plain (OpenSpec.ofChange fnExactReachableSelectorsSpec)) fnExactReachableSelectorsCard

/-- THE TIED CARD OF 'laws.FnExactEditsOf'. -/
def fnExactEditsOfCard : Claim7 := { stood := { row := fnExactEditsOfRow, standIns := [], harness := (true, "d703d3bd57be1999fe6c28e8a08b6fec784d509892bb1e90d7e9069543cd393e"), looks := false }, kinds := [], alts := [], laidByText := true, laidKinds := [.data, .pinned], laidTests := true, laidLooks := .later }
def FnExactEditsOfCardSaid : Prop := Claim7.holds Tryz.pinned (.plain (OpenSpec.ofChange fnExactEditsOfSpec)) fnExactEditsOfCard

/-- THE TIED CARD OF 'laws.FnExactShakeBase'. -/
def fnExactShakeBaseCard : Claim7 := { stood := { row := fnExactShakeBaseRow, standIns := [], harness := (true, "d703d3bd57be1999fe6c28e8a08b6fec784d509892bb1e90d7e9069543cd393e"), looks := false }, kinds := [], alts := [], laidByText := true, laidKinds := [.data, .pinned], laidTests := true, laidLooks := .later }
def FnExactShakeBaseCardSaid : Prop := Claim7.holds Tryz.pinned (.plain (OpenSpec.ofChange fnExactShakeBaseSpec)) fnExactShakeBaseCard

/-- THE TIED CARD OF 'laws.FnExactApplyEdit'. -/
def fnExactApplyEditCard : Claim7 := { stood := { row := fnExactApplyEditRow, standIns := [], harness := (true, "d703d3bd57be1999fe6c28e8a08b6fec784d509892bb1e90d7e9069543cd393e"), looks := false }, kinds := [], alts := [], laidByText := true, laidKinds := [.data, .pinned], laidTests := true, laidLooks := .later }
def FnExactApplyEditCardSaid : Prop := Claim7.holds Tryz.pinned (.plain (OpenSpec.ofChange fnExactApplyEditSpec)) fnExactApplyEditCard

/-- THE TIED CARD OF 'laws.FnExactOptimizeBase'. -/
def fnExactOptimizeBaseCard : Claim7 := { stood := { row := fnExactOptimizeBaseRow, standIns := [], harness := (true, "d703d3bd57be1999fe6c28e8a08b6fec784d509892bb1e90d7e9069543cd393e"), looks := false }, kinds := [], alts := [], laidByText := true, laidKinds := [.data, .pinned], laidTests := true, laidLooks := .later }
def FnExactOptimizeBaseCardSaid : Prop := Claim7.holds Tryz.pinned (.plain (OpenSpec.ofChange fnExactOptimizeBaseSpec)) fnExactOptimizeBaseCard

/-- THE SECOND FORM's CARD OF 'laws.FnExactReachableSelectors'. -/
def fnExactReachableSelectorsUptoCard : Claim7 := { stood := { row := fnExactReachableSelectorsUptoRow, standIns := [], harness := (true, "d703d3bd57be1999fe6c28e8a08b6fec784d509892bb1e90d7e9069543cd393e"), looks := false }, kinds := [], alts := [], laidByText := true, laidKinds := [.data, .pinned], laidTests := true, laidLooks := .later }
def FnExactReachableSelectorsUptoCardSaid : Prop := Claim7.holds Tryz.pinned (.plain (OpenSpec.upto fnExactReachableSelectorsSpec)) fnExactReachableSelectorsUptoCard

/-- THE SECOND FORM's CARD OF 'laws.FnExactEditsOf'. -/
def fnExactEditsOfUptoCard : Claim7 := { stood := { row := fnExactEditsOfUptoRow, standIns := [], harness := (true, "d703d3bd57be1999fe6c28e8a08b6fec784d509892bb1e90d7e9069543cd393e"), looks := false }, kinds := [], alts := [], laidByText := true, laidKinds := [.data, .pinned], laidTests := true, laidLooks := .later }
def FnExactEditsOfUptoCardSaid : Prop := Claim7.holds Tryz.pinned (.plain (OpenSpec.upto fnExactEditsOfSpec)) fnExactEditsOfUptoCard

/-- THE SECOND FORM's CARD OF 'laws.FnExactShakeBase'. -/
def fnExactShakeBaseUptoCard : Claim7 := { stood := { row := fnExactShakeBaseUptoRow, standIns := [], harness := (true, "d703d3bd57be1999fe6c28e8a08b6fec784d509892bb1e90d7e9069543cd393e"), looks := false }, kinds := [], alts := [], laidByText := true, laidKinds := [.data, .pinned], laidTests := true, laidLooks := .later }
def FnExactShakeBaseUptoCardSaid : Prop := Claim7.holds Tryz.pinned (.plain (OpenSpec.upto fnExactShakeBaseSpec)) fnExactShakeBaseUptoCard

/-- THE SECOND FORM's CARD OF 'laws.FnExactApplyEdit'. -/
def fnExactApplyEditUptoCard : Claim7 := { stood := { row := fnExactApplyEditUptoRow, standIns := [], harness := (true, "d703d3bd57be1999fe6c28e8a08b6fec784d509892bb1e90d7e9069543cd393e"), looks := false }, kinds := [], alts := [], laidByText := true, laidKinds := [.data, .pinned], laidTests := true, laidLooks := .later }
def FnExactApplyEditUptoCardSaid : Prop := Claim7.holds Tryz.pinned (.plain (OpenSpec.upto fnExactApplyEditSpec)) fnExactApplyEditUptoCard

/-- THE SECOND FORM's CARD OF 'laws.FnExactOptimizeBase'. -/
def fnExactOptimizeBaseUptoCard : Claim7 := { stood := { row := fnExactOptimizeBaseUptoRow, standIns := [], harness := (true, "d703d3bd57be1999fe6c28e8a08b6fec784d509892bb1e90d7e9069543cd393e"), looks := false }, kinds := [], alts := [], laidByText := true, laidKinds := [.data, .pinned], laidTests := true, laidLooks := .later }
def FnExactOptimizeBaseUptoCardSaid : Prop := Claim7.holds Tryz.pinned (.plain (OpenSpec.upto fnExactOptimizeBaseSpec)) fnExactOptimizeBaseUptoCard
end Rows
end Go.Proofs.YtfchjaoeogolnaaGreatDoor
