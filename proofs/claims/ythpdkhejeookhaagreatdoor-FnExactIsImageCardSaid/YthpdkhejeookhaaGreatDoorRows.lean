/-
  NARROWER THAN 'FOR EVERY INPUT', by the rows' own cells (each row's printed sentence says how): FnExactShakeBase: laid · FnExactApplyEdit: laid · FnExactOptimizeBase: laid · FnExactNewImage: laid · FnExactIsImage: laid.
  DERIVED. THE GIVEN ROWS OF THIS SEAT. 5 by the template 'for every input the law returns true; each argument reads behind the call as it read before'; 0 by the template 'total and deterministic' (their statements: YthpdkhejeookhaaGreatDoorTotals.lean).
  GIVEN WITH THE SEED: the statements are not yours to turn. If you find one false, say at which input.
  Laid BY PROGRAM, IN A SANDBOX (cutbox-rows.mjs): the forced cells as the released guide's own fill.sh prints them over the translation 4c21c33c8238238f… (all of the seat's roots in one cut). By AI agents, Wed Nov 11 2026. No macro, syntax, notation, axiom, sorry.
-/
import Derived.Test.YthpdkhejeookhaaGreatDoorChecked
import GoSem.PinnedTables
import GoSem.Claim
import GoSem.ClaimJoined
import GoSem.ClaimMapViews
import Derived.JoinedTies
import Derived.KernelRfl
namespace Go.Proofs.YthpdkhejeookhaaGreatDoor
/- THE CELL 'sum', in the pinned program and in every row, IS THE sha256 OF THE DUMP (.gsa) THAT YthpdkhejeookhaaGreatDoorProg.lean LOADS. Nothing in Lean hashes anything: it is a label: what it is worth is what the hold of that sum in a sandbox is worth. -/
noncomputable def Tryz.pinned : Pinned := { name := "ythpdkhejeookhaagreatdoor", sum := "4c21c33c8238238fe9310a57046e3f5668e61acb0f105c8e0cff8c00bab3f5d2", checked := Tryz.checked }
namespace Rows
def none {H : Type} : Left H := { results := [], args := [] }

/- WHAT THE LISTED PACKAGE-LEVEL VARIABLES READ AS WHEN THE CALL BEGINS. Each datum BY PROGRAM (the guide's laid-datum.mjs) off the statement by which the dump's own 'gosem.cut.vars' lays the variable. In a bare row this is a premise. The card (YthpdkhejeookhaaGreatDoorCards.lean) ties it to the program's text. -/
def laid_unicode_utf8_acceptRanges {H : Type} : DataW H := .agg [.agg [.lit (.int .u8 128), .lit (.int .u8 191)], .agg [.lit (.int .u8 160), .lit (.int .u8 191)], .agg [.lit (.int .u8 128), .lit (.int .u8 159)], .agg [.lit (.int .u8 144), .lit (.int .u8 191)], .agg [.lit (.int .u8 128), .lit (.int .u8 143)], .agg [.lit (.int .u8 0), .lit (.int .u8 0)], .agg [.lit (.int .u8 0), .lit (.int .u8 0)], .agg [.lit (.int .u8 0), .lit (.int .u8 0)], .agg [.lit (.int .u8 0), .lit (.int .u8 0)], .agg [.lit (.int .u8 0), .lit (.int .u8 0)], .agg [.lit (.int .u8 0), .lit (.int .u8 0)], .agg [.lit (.int .u8 0), .lit (.int .u8 0)], .agg [.lit (.int .u8 0), .lit (.int .u8 0)], .agg [.lit (.int .u8 0), .lit (.int .u8 0)], .agg [.lit (.int .u8 0), .lit (.int .u8 0)], .agg [.lit (.int .u8 0), .lit (.int .u8 0)]]
/-- One of Go's own tables, pinned by name: the form's constant. -/
def laid_unicode_utf8_first : DataW Unit := Go.Pinned.utf8First

/-- 'laws.FnExactShakeBase': WHATEVER THE INPUT: true; the input reads as it did. -/
def fnExactShakeBaseSpec : ChangeSpec := { name := "fnExactShakeBase", fn := fun _ => fun
  | [d] => { results := [.lit (.bool true)], args := [d] }
  | _ => none }
def fnExactShakeBaseRow : OpenClaim := { program := "ythpdkhejeookhaagreatdoor", sum := "4c21c33c8238238fe9310a57046e3f5668e61acb0f105c8e0cff8c00bab3f5d2", func := "loop.example/g03108/laws.FnExactShakeBase", spec := "fnExactShakeBase", inPlace := ["internal/bytealg.CountString", "internal/bytealg.IndexByteString", "internal/bytealg.IndexString"], unfollowed := true, recurses := true, named := ["unicode/utf8.first", "unicode/utf8.acceptRanges", "internal/bytealg.MaxLen"], apart := false, laid := [("unicode/utf8.acceptRanges", laid_unicode_utf8_acceptRanges), ("unicode/utf8.first", laid_unicode_utf8_first)] }
def FnExactShakeBaseSaid : Prop := fnExactShakeBaseRow.holds Tryz.pinned (OpenSpec.ofChange fnExactShakeBaseSpec)

/-- ITS FALSE NEIGHBOUR: 'it returns false'. Refute it at one input. -/
def fnExactShakeBaseWrong : ChangeSpec := { name := "fnExactShakeBase", fn := fun _ => fun
  | [d] => { results := [.lit (.bool false)], args := [d] }
  | _ => none }
def FnExactShakeBaseWrongFalsely : Prop := fnExactShakeBaseRow.holds Tryz.pinned (OpenSpec.ofChange fnExactShakeBaseWrong)

/-- 'laws.FnExactApplyEdit': WHATEVER THE INPUT: true; the input reads as it did. -/
def fnExactApplyEditSpec : ChangeSpec := { name := "fnExactApplyEdit", fn := fun _ => fun
  | [d1, d2] => { results := [.lit (.bool true)], args := [d1, d2] }
  | _ => none }
def fnExactApplyEditRow : OpenClaim := { program := "ythpdkhejeookhaagreatdoor", sum := "4c21c33c8238238fe9310a57046e3f5668e61acb0f105c8e0cff8c00bab3f5d2", func := "loop.example/g03108/laws.FnExactApplyEdit", spec := "fnExactApplyEdit", inPlace := ["internal/bytealg.CountString", "internal/bytealg.IndexByteString", "internal/bytealg.IndexString"], unfollowed := true, recurses := true, named := ["unicode/utf8.first", "unicode/utf8.acceptRanges", "internal/bytealg.MaxLen"], apart := false, laid := [("unicode/utf8.acceptRanges", laid_unicode_utf8_acceptRanges), ("unicode/utf8.first", laid_unicode_utf8_first)] }
def FnExactApplyEditSaid : Prop := fnExactApplyEditRow.holds Tryz.pinned (OpenSpec.ofChange fnExactApplyEditSpec)

/-- ITS FALSE NEIGHBOUR: 'it returns false'. Refute it at one input. -/
def fnExactApplyEditWrong : ChangeSpec := { name := "fnExactApplyEdit", fn := fun _ => fun
  | [d1, d2] => { results := [.lit (.bool false)], args := [d1, d2] }
  | _ => none }
def FnExactApplyEditWrongFalsely : Prop := fnExactApplyEditRow.holds Tryz.pinned (OpenSpec.ofChange fnExactApplyEditWrong)

/-- 'laws.FnExactOptimizeBase': WHATEVER THE INPUT: true; the input reads as it did. -/
def fnExactOptimizeBaseSpec : ChangeSpec := { name := "fnExactOptimizeBase", fn := fun _ => fun
  | [d1, d2] => { results := [.lit (.bool true)], args := [d1, d2] }
  | _ => none }
def fnExactOptimizeBaseRow : OpenClaim := { program := "ythpdkhejeookhaagreatdoor", sum := "4c21c33c8238238fe9310a57046e3f5668e61acb0f105c8e0cff8c00bab3f5d2", func := "loop.example/g03108/laws.FnExactOptimizeBase", spec := "fnExactOptimizeBase", inPlace := ["internal/bytealg.CountString", "internal/bytealg.IndexByteString", "internal/bytealg.IndexString"], unfollowed := true, recurses := true, named := ["unicode/utf8.first", "unicode/utf8.acceptRanges", "internal/bytealg.MaxLen"], apart := false, laid := [("unicode/utf8.acceptRanges", laid_unicode_utf8_acceptRanges), ("unicode/utf8.first", laid_unicode_utf8_first)] }
def FnExactOptimizeBaseSaid : Prop := fnExactOptimizeBaseRow.holds Tryz.pinned (OpenSpec.ofChange fnExactOptimizeBaseSpec)

/-- ITS FALSE NEIGHBOUR: 'it returns false'. Refute it at one input. -/
def fnExactOptimizeBaseWrong : ChangeSpec := { name := "fnExactOptimizeBase", fn := fun _ => fun
  | [d1, d2] => { results := [.lit (.bool false)], args := [d1, d2] }
  | _ => none }
def FnExactOptimizeBaseWrongFalsely : Prop := fnExactOptimizeBaseRow.holds Tryz.pinned (OpenSpec.ofChange fnExactOptimizeBaseWrong)

/-- 'laws.FnExactNewImage': WHATEVER THE INPUT: true; the input reads as it did. -/
def fnExactNewImageSpec : ChangeSpec := { name := "fnExactNewImage", fn := fun _ => fun
  | [d1, d2] => { results := [.lit (.bool true)], args := [d1, d2] }
  | _ => none }
def fnExactNewImageRow : OpenClaim := { program := "ythpdkhejeookhaagreatdoor", sum := "4c21c33c8238238fe9310a57046e3f5668e61acb0f105c8e0cff8c00bab3f5d2", func := "loop.example/g03108/laws.FnExactNewImage", spec := "fnExactNewImage", inPlace := ["internal/bytealg.CountString", "internal/bytealg.IndexByteString", "internal/bytealg.IndexString"], unfollowed := true, recurses := true, named := ["unicode/utf8.first", "unicode/utf8.acceptRanges", "internal/bytealg.MaxLen"], apart := false, laid := [("unicode/utf8.acceptRanges", laid_unicode_utf8_acceptRanges), ("unicode/utf8.first", laid_unicode_utf8_first)] }
def FnExactNewImageSaid : Prop := fnExactNewImageRow.holds Tryz.pinned (OpenSpec.ofChange fnExactNewImageSpec)

/-- ITS FALSE NEIGHBOUR: 'it returns false'. Refute it at one input. -/
def fnExactNewImageWrong : ChangeSpec := { name := "fnExactNewImage", fn := fun _ => fun
  | [d1, d2] => { results := [.lit (.bool false)], args := [d1, d2] }
  | _ => none }
def FnExactNewImageWrongFalsely : Prop := fnExactNewImageRow.holds Tryz.pinned (OpenSpec.ofChange fnExactNewImageWrong)

/-- 'laws.FnExactIsImage': WHATEVER THE INPUT: true; the input reads as it did. -/
def fnExactIsImageSpec : ChangeSpec := { name := "fnExactIsImage", fn := fun _ => fun
  | [d] => { results := [.lit (.bool true)], args := [d] }
  | _ => none }
def fnExactIsImageRow : OpenClaim := { program := "ythpdkhejeookhaagreatdoor", sum := "4c21c33c8238238fe9310a57046e3f5668e61acb0f105c8e0cff8c00bab3f5d2", func := "loop.example/g03108/laws.FnExactIsImage", spec := "fnExactIsImage", inPlace := ["internal/bytealg.CountString", "internal/bytealg.IndexByteString", "internal/bytealg.IndexString"], unfollowed := true, recurses := true, named := ["unicode/utf8.first", "unicode/utf8.acceptRanges", "internal/bytealg.MaxLen"], apart := false, laid := [("unicode/utf8.acceptRanges", laid_unicode_utf8_acceptRanges), ("unicode/utf8.first", laid_unicode_utf8_first)] }
def FnExactIsImageSaid : Prop := fnExactIsImageRow.holds Tryz.pinned (OpenSpec.ofChange fnExactIsImageSpec)

/-- ITS FALSE NEIGHBOUR: 'it returns false'. Refute it at one input. -/
def fnExactIsImageWrong : ChangeSpec := { name := "fnExactIsImage", fn := fun _ => fun
  | [d] => { results := [.lit (.bool false)], args := [d] }
  | _ => none }
def FnExactIsImageWrongFalsely : Prop := fnExactIsImageRow.holds Tryz.pinned (OpenSpec.ofChange fnExactIsImageWrong)

/- THE SECOND FORM. 'bulk': how many values and letters a reading holds, each counted each time it is reached (what is shared counts as often as it is met; a slice's spare places count too). A statement '..UptoSaid' is the law's where the arguments, and the package variables that the reading takes, are together of bulk at most 1048576: NARROWER than '..Said'. Prove '..Said' where nothing that the law and all that it calls make is longer than what came in: it says more and counts as full. Else prove '..UptoSaid'. A law counts once. -/
mutual
def uptoBulk {H : Type} : DataW H → Nat
  | .lit (.string bytes) => bytes.length + 1
  | .lit _ => 1
  | .nil => 1
  | .ptr d => uptoBulk d + 1
  | .slice elems spare => uptoBulkAll elems + uptoBulkAll spare + 1
  | .agg parts => uptoBulkAll parts + 1
  | .iface _ d => uptoBulk d + 1
  | .map entries => uptoBulkEntries entries + 1
  | .held _ => 1
def uptoBulkAll {H : Type} : List (DataW H) → Nat
  | [] => 0
  | d :: r => uptoBulk d + uptoBulkAll r
def uptoBulkEntries {H : Type} : List (Lit × DataW H) → Nat
  | [] => 0
  | x :: r => uptoBulkEntry x + uptoBulkEntries r
def uptoBulkEntry {H : Type} : Lit × DataW H → Nat
  | (.string bytes, d) => bytes.length + uptoBulk d + 1
  | (_, d) => uptoBulk d + 1
 end
def uptoSmall : (H : Type) → List (DataW H) → Bool := fun _ ds => decide (uptoBulkAll ds ≤ 1048576)
def OpenSpec.upto (s : _root_.Go.ChangeSpec) : _root_.Go.OpenSpec := { _root_.Go.OpenSpec.ofChange s with cond := some uptoSmall }

/-- 'laws.FnExactShakeBase', WHERE WHAT IT READS IS OF BULK AT MOST 1048576: true; the input reads as it did. -/
def fnExactShakeBaseUptoRow : OpenClaim := { program := "ythpdkhejeookhaagreatdoor", sum := "4c21c33c8238238fe9310a57046e3f5668e61acb0f105c8e0cff8c00bab3f5d2", func := "loop.example/g03108/laws.FnExactShakeBase", spec := "fnExactShakeBase", inPlace := ["internal/bytealg.CountString", "internal/bytealg.IndexByteString", "internal/bytealg.IndexString"], unfollowed := true, recurses := true, named := ["unicode/utf8.first", "unicode/utf8.acceptRanges", "internal/bytealg.MaxLen"], apart := false, laid := [("unicode/utf8.acceptRanges", laid_unicode_utf8_acceptRanges), ("unicode/utf8.first", laid_unicode_utf8_first)], narrowed := true }
def FnExactShakeBaseUptoSaid : Prop := fnExactShakeBaseUptoRow.holds Tryz.pinned (OpenSpec.upto fnExactShakeBaseSpec)

/-- 'laws.FnExactApplyEdit', WHERE WHAT IT READS IS OF BULK AT MOST 1048576: true; the input reads as it did. -/
def fnExactApplyEditUptoRow : OpenClaim := { program := "ythpdkhejeookhaagreatdoor", sum := "4c21c33c8238238fe9310a57046e3f5668e61acb0f105c8e0cff8c00bab3f5d2", func := "loop.example/g03108/laws.FnExactApplyEdit", spec := "fnExactApplyEdit", inPlace := ["internal/bytealg.CountString", "internal/bytealg.IndexByteString", "internal/bytealg.IndexString"], unfollowed := true, recurses := true, named := ["unicode/utf8.first", "unicode/utf8.acceptRanges", "internal/bytealg.MaxLen"], apart := false, laid := [("unicode/utf8.acceptRanges", laid_unicode_utf8_acceptRanges), ("unicode/utf8.first", laid_unicode_utf8_first)], narrowed := true }
def FnExactApplyEditUptoSaid : Prop := fnExactApplyEditUptoRow.holds Tryz.pinned (OpenSpec.upto fnExactApplyEditSpec)

/-- 'laws.FnExactOptimizeBase', WHERE WHAT IT READS IS OF BULK AT MOST 1048576: true; the input reads as it did. -/
def fnExactOptimizeBaseUptoRow : OpenClaim := { program := "ythpdkhejeookhaagreatdoor", sum := "4c21c33c8238238fe9310a57046e3f5668e61acb0f105c8e0cff8c00bab3f5d2", func := "loop.example/g03108/laws.FnExactOptimizeBase", spec := "fnExactOptimizeBase", inPlace := ["internal/bytealg.CountString", "internal/bytealg.IndexByteString", "internal/bytealg.IndexString"], unfollowed := true, recurses := true, named := ["unicode/utf8.first", "unicode/utf8.acceptRanges", "internal/bytealg.MaxLen"], apart := false, laid := [("unicode/utf8.acceptRanges", laid_unicode_utf8_acceptRanges), ("unicode/utf8.first", laid_unicode_utf8_first)], narrowed := true }
def FnExactOptimizeBaseUptoSaid : Prop := fnExactOptimizeBaseUptoRow.holds Tryz.pinned (OpenSpec.upto fnExactOptimizeBaseSpec)

/-- 'laws.FnExactNewImage', WHERE WHAT IT READS IS OF BULK AT MOST 1048576: true; the input reads as it did. -/
def fnExactNewImageUptoRow : OpenClaim := { program := "ythpdkhejeookhaagreatdoor", sum := "4c21c33c8238238fe9310a57046e3f5668e61acb0f105c8e0cff8c00bab3f5d2", func := "loop.example/g03108/laws.FnExactNewImage", spec := "fnExactNewImage", inPlace := ["internal/bytealg.CountString", "internal/bytealg.IndexByteString", "internal/bytealg.IndexString"], unfollowed := true, recurses := true, named := ["unicode/utf8.first", "unicode/utf8.acceptRanges", "internal/bytealg.MaxLen"], apart := false, laid := [("unicode/utf8.acceptRanges", laid_unicode_utf8_acceptRanges), ("unicode/utf8.first", laid_unicode_utf8_first)], narrowed := true }
def FnExactNewImageUptoSaid : Prop := fnExactNewImageUptoRow.holds Tryz.pinned (OpenSpec.upto fnExactNewImageSpec)

/-- 'laws.FnExactIsImage', WHERE WHAT IT READS IS OF BULK AT MOST 1048576: true; the input reads as it did. -/
def fnExactIsImageUptoRow : OpenClaim := { program := "ythpdkhejeookhaagreatdoor", sum := "4c21c33c8238238fe9310a57046e3f5668e61acb0f105c8e0cff8c00bab3f5d2", func := "loop.example/g03108/laws.FnExactIsImage", spec := "fnExactIsImage", inPlace := ["internal/bytealg.CountString", "internal/bytealg.IndexByteString", "internal/bytealg.IndexString"], unfollowed := true, recurses := true, named := ["unicode/utf8.first", "unicode/utf8.acceptRanges", "internal/bytealg.MaxLen"], apart := false, laid := [("unicode/utf8.acceptRanges", laid_unicode_utf8_acceptRanges), ("unicode/utf8.first", laid_unicode_utf8_first)], narrowed := true }
def FnExactIsImageUptoSaid : Prop := fnExactIsImageUptoRow.holds Tryz.pinned (OpenSpec.upto fnExactIsImageSpec)

end Rows
end Go.Proofs.YthpdkhejeookhaaGreatDoor
