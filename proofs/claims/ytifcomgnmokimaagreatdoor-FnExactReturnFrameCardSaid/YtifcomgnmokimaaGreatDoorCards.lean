/-
  DERIVED. GIVEN WITH THE SEED: THE CARDS: each row of YtifcomgnmokimaaGreatDoorRows.lean that lists a variable, with what it lists TIED to the program's text (the seventh form; the later family's looks); each row that meets fmt, with fmt's text TOLD by the authors' own Lean function (tested against real Go, not proved from fmt's source: count such statements apart). THE CARD IS WHAT COUNTS. Prove the row's statement (the work); the ties are given (YtifcomgnmokimaaGreatDoorTie.lean); close each card by the builder's one call (the guide's Derived/Test/ToyasCard.lean, 'card_holds'). Laid BY PROGRAM, IN A SANDBOX (cutbox-door.mjs). By AI agents, Wed Nov 11 2026. No macro, syntax, notation, axiom, sorry.
-/
import Derived.Test.YtifcomgnmokimaaGreatDoorRows
import GoSem.ClaimSeven
namespace Go.Proofs.YtifcomgnmokimaaGreatDoor
namespace Rows

/-- THE TIED CARD OF 'laws.FnExactSameImages'. -/
def fnExactSameImagesCard : Claim7 := { stood := { row := fnExactSameImagesRow, standIns := [], harness := (true, "462006cfb557acc2ef5afffbd446b534bd4aec1f12618846ae5f17a313978827"), looks := false }, kinds := [], alts := [], laidByText := true, laidKinds := [.data, .data, .data, .data, .pinned], laidTests := true, laidLooks := .later }
def FnExactSameImagesCardSaid : Prop := Claim7.holds Tryz.pinned (.plain (OpenSpec.ofChange fnExactSameImagesSpec)) fnExactSameImagesCard

/-- THE TIED CARD OF 'laws.FnExactReturnFrame'. -/
def fnExactReturnFrameCard : Claim7 := { stood := { row := fnExactReturnFrameRow, standIns := [], harness := (true, "462006cfb557acc2ef5afffbd446b534bd4aec1f12618846ae5f17a313978827"), looks := false }, kinds := [], alts := [], laidByText := true, laidKinds := [.data, .pinned], laidTests := true, laidLooks := .later }
def FnExactReturnFrameCardSaid : Prop := Claim7.holds Tryz.pinned (.plain (OpenSpec.ofChange fnExactReturnFrameSpec)) fnExactReturnFrameCard

/-- THE SECOND FORM's CARD OF 'laws.FnExactSameImages'. -/
def fnExactSameImagesUptoCard : Claim7 := { stood := { row := fnExactSameImagesUptoRow, standIns := [], harness := (true, "462006cfb557acc2ef5afffbd446b534bd4aec1f12618846ae5f17a313978827"), looks := false }, kinds := [], alts := [], laidByText := true, laidKinds := [.data, .data, .data, .data, .pinned], laidTests := true, laidLooks := .later }
def FnExactSameImagesUptoCardSaid : Prop := Claim7.holds Tryz.pinned (.plain (OpenSpec.upto fnExactSameImagesSpec)) fnExactSameImagesUptoCard

/-- THE SECOND FORM's CARD OF 'laws.FnExactReturnFrame'. -/
def fnExactReturnFrameUptoCard : Claim7 := { stood := { row := fnExactReturnFrameUptoRow, standIns := [], harness := (true, "462006cfb557acc2ef5afffbd446b534bd4aec1f12618846ae5f17a313978827"), looks := false }, kinds := [], alts := [], laidByText := true, laidKinds := [.data, .pinned], laidTests := true, laidLooks := .later }
def FnExactReturnFrameUptoCardSaid : Prop := Claim7.holds Tryz.pinned (.plain (OpenSpec.upto fnExactReturnFrameSpec)) fnExactReturnFrameUptoCard
end Rows
end Go.Proofs.YtifcomgnmokimaaGreatDoor
