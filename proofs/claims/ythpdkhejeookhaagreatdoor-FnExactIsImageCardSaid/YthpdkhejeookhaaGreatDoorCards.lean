/-
  DERIVED. GIVEN WITH THE SEED: THE CARDS: each row of YthpdkhejeookhaaGreatDoorRows.lean that lists a variable, with what it lists TIED to the program's text (the seventh form; the later family's looks); each row that meets fmt, with fmt's text TOLD by the authors' own Lean function (tested against real Go, not proved from fmt's source: count such statements apart). THE CARD IS WHAT COUNTS. Prove the row's statement (the work); the ties are given (YthpdkhejeookhaaGreatDoorTie.lean); close each card by the builder's one call (the guide's Derived/Test/ToyasCard.lean, 'card_holds'). Laid BY PROGRAM, IN A SANDBOX (cutbox-door.mjs). By AI agents, Wed Nov 11 2026. No macro, syntax, notation, axiom, sorry.
-/
import Derived.Test.YthpdkhejeookhaaGreatDoorRows
import GoSem.ClaimSeven
namespace Go.Proofs.YthpdkhejeookhaaGreatDoor
namespace Rows

/-- THE TIED CARD OF 'laws.FnExactShakeBase'. -/
def fnExactShakeBaseCard : Claim7 := { stood := { row := fnExactShakeBaseRow, standIns := [], harness := (true, "bfb9c27a0297885d0d6e0520243ed9da0a59ae31c63d21b9d1dc2e4ee64f458d"), looks := false }, kinds := [], alts := [], laidByText := true, laidKinds := [.data, .pinned], laidTests := true, laidLooks := .later }
def FnExactShakeBaseCardSaid : Prop := Claim7.holds Tryz.pinned (.plain (OpenSpec.ofChange fnExactShakeBaseSpec)) fnExactShakeBaseCard

/-- THE TIED CARD OF 'laws.FnExactApplyEdit'. -/
def fnExactApplyEditCard : Claim7 := { stood := { row := fnExactApplyEditRow, standIns := [], harness := (true, "bfb9c27a0297885d0d6e0520243ed9da0a59ae31c63d21b9d1dc2e4ee64f458d"), looks := false }, kinds := [], alts := [], laidByText := true, laidKinds := [.data, .pinned], laidTests := true, laidLooks := .later }
def FnExactApplyEditCardSaid : Prop := Claim7.holds Tryz.pinned (.plain (OpenSpec.ofChange fnExactApplyEditSpec)) fnExactApplyEditCard

/-- THE TIED CARD OF 'laws.FnExactOptimizeBase'. -/
def fnExactOptimizeBaseCard : Claim7 := { stood := { row := fnExactOptimizeBaseRow, standIns := [], harness := (true, "bfb9c27a0297885d0d6e0520243ed9da0a59ae31c63d21b9d1dc2e4ee64f458d"), looks := false }, kinds := [], alts := [], laidByText := true, laidKinds := [.data, .pinned], laidTests := true, laidLooks := .later }
def FnExactOptimizeBaseCardSaid : Prop := Claim7.holds Tryz.pinned (.plain (OpenSpec.ofChange fnExactOptimizeBaseSpec)) fnExactOptimizeBaseCard

/-- THE TIED CARD OF 'laws.FnExactNewImage'. -/
def fnExactNewImageCard : Claim7 := { stood := { row := fnExactNewImageRow, standIns := [], harness := (true, "bfb9c27a0297885d0d6e0520243ed9da0a59ae31c63d21b9d1dc2e4ee64f458d"), looks := false }, kinds := [], alts := [], laidByText := true, laidKinds := [.data, .pinned], laidTests := true, laidLooks := .later }
def FnExactNewImageCardSaid : Prop := Claim7.holds Tryz.pinned (.plain (OpenSpec.ofChange fnExactNewImageSpec)) fnExactNewImageCard

/-- THE TIED CARD OF 'laws.FnExactIsImage'. -/
def fnExactIsImageCard : Claim7 := { stood := { row := fnExactIsImageRow, standIns := [], harness := (true, "bfb9c27a0297885d0d6e0520243ed9da0a59ae31c63d21b9d1dc2e4ee64f458d"), looks := false }, kinds := [], alts := [], laidByText := true, laidKinds := [.data, .pinned], laidTests := true, laidLooks := .later }
def FnExactIsImageCardSaid : Prop := Claim7.holds Tryz.pinned (.plain (OpenSpec.ofChange fnExactIsImageSpec)) fnExactIsImageCard

/-- THE SECOND FORM's CARD OF 'laws.FnExactShakeBase'. -/
def fnExactShakeBaseUptoCard : Claim7 := { stood := { row := fnExactShakeBaseUptoRow, standIns := [], harness := (true, "bfb9c27a0297885d0d6e0520243ed9da0a59ae31c63d21b9d1dc2e4ee64f458d"), looks := false }, kinds := [], alts := [], laidByText := true, laidKinds := [.data, .pinned], laidTests := true, laidLooks := .later }
def FnExactShakeBaseUptoCardSaid : Prop := Claim7.holds Tryz.pinned (.plain (OpenSpec.upto fnExactShakeBaseSpec)) fnExactShakeBaseUptoCard

/-- THE SECOND FORM's CARD OF 'laws.FnExactApplyEdit'. -/
def fnExactApplyEditUptoCard : Claim7 := { stood := { row := fnExactApplyEditUptoRow, standIns := [], harness := (true, "bfb9c27a0297885d0d6e0520243ed9da0a59ae31c63d21b9d1dc2e4ee64f458d"), looks := false }, kinds := [], alts := [], laidByText := true, laidKinds := [.data, .pinned], laidTests := true, laidLooks := .later }
def FnExactApplyEditUptoCardSaid : Prop := Claim7.holds Tryz.pinned (.plain (OpenSpec.upto fnExactApplyEditSpec)) fnExactApplyEditUptoCard

/-- THE SECOND FORM's CARD OF 'laws.FnExactOptimizeBase'. -/
def fnExactOptimizeBaseUptoCard : Claim7 := { stood := { row := fnExactOptimizeBaseUptoRow, standIns := [], harness := (true, "bfb9c27a0297885d0d6e0520243ed9da0a59ae31c63d21b9d1dc2e4ee64f458d"), looks := false }, kinds := [], alts := [], laidByText := true, laidKinds := [.data, .pinned], laidTests := true, laidLooks := .later }
def FnExactOptimizeBaseUptoCardSaid : Prop := Claim7.holds Tryz.pinned (.plain (OpenSpec.upto fnExactOptimizeBaseSpec)) fnExactOptimizeBaseUptoCard

/-- THE SECOND FORM's CARD OF 'laws.FnExactNewImage'. -/
def fnExactNewImageUptoCard : Claim7 := { stood := { row := fnExactNewImageUptoRow, standIns := [], harness := (true, "bfb9c27a0297885d0d6e0520243ed9da0a59ae31c63d21b9d1dc2e4ee64f458d"), looks := false }, kinds := [], alts := [], laidByText := true, laidKinds := [.data, .pinned], laidTests := true, laidLooks := .later }
def FnExactNewImageUptoCardSaid : Prop := Claim7.holds Tryz.pinned (.plain (OpenSpec.upto fnExactNewImageSpec)) fnExactNewImageUptoCard

/-- THE SECOND FORM's CARD OF 'laws.FnExactIsImage'. -/
def fnExactIsImageUptoCard : Claim7 := { stood := { row := fnExactIsImageUptoRow, standIns := [], harness := (true, "bfb9c27a0297885d0d6e0520243ed9da0a59ae31c63d21b9d1dc2e4ee64f458d"), looks := false }, kinds := [], alts := [], laidByText := true, laidKinds := [.data, .pinned], laidTests := true, laidLooks := .later }
def FnExactIsImageUptoCardSaid : Prop := Claim7.holds Tryz.pinned (.plain (OpenSpec.upto fnExactIsImageSpec)) fnExactIsImageUptoCard
end Rows
end Go.Proofs.YthpdkhejeookhaaGreatDoor
