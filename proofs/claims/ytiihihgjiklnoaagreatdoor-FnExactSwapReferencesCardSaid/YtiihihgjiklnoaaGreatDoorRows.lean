/-
  NARROWER THAN 'FOR EVERY INPUT', by the rows' own cells (each row's printed sentence says how): FnExactNewImage: laid · FnExactReachableCounts: laid · FnExactOwnFields: laid · FnExactFramesOf: laid · FnExactSwapObjects: laid · FnExactRemoveMethod: laid · FnExactSwapReferences: laid · FnExactRestartFrame: laid · FnExactCollectImage: laid.
  DERIVED. THE GIVEN ROWS OF THIS SEAT. 9 by the template 'for every input the law returns true; each argument reads behind the call as it read before'; 0 by the template 'total and deterministic' (their statements: YtiihihgjiklnoaaGreatDoorTotals.lean).
  GIVEN WITH THE SEED: the statements are not yours to turn. If you find one false, say at which input.
  Laid BY PROGRAM, IN A SANDBOX (cutbox-rows.mjs): the forced cells as the released guide's own fill.sh prints them over the translation 41100aebdb8d3eaf… (all of the seat's roots in one cut). By AI agents, Wed Nov 11 2026. No macro, syntax, notation, axiom, sorry.
-/
import Derived.Test.YtiihihgjiklnoaaGreatDoorChecked
import GoSem.PinnedTables
import GoSem.Claim
import GoSem.ClaimJoined
import GoSem.ClaimMapViews
import Derived.JoinedTies
import Derived.KernelRfl
namespace Go.Proofs.YtiihihgjiklnoaaGreatDoor
/- THE CELL 'sum', in the pinned program and in every row, IS THE sha256 OF THE DUMP (.gsa) THAT YtiihihgjiklnoaaGreatDoorProg.lean LOADS. Nothing in Lean hashes anything: it is a label: what it is worth is what the hold of that sum in a sandbox is worth. -/
noncomputable def Tryz.pinned : Pinned := { name := "ytiihihgjiklnoaagreatdoor", sum := "41100aebdb8d3eaf5e2f08c8ed767a7f3c3974b1aefc09dab02f2004ea2fe000", checked := Tryz.checked }
namespace Rows
def none {H : Type} : Left H := { results := [], args := [] }

/- WHAT THE LISTED PACKAGE-LEVEL VARIABLES READ AS WHEN THE CALL BEGINS. Each datum BY PROGRAM (the guide's laid-datum.mjs) off the statement by which the dump's own 'gosem.cut.vars' lays the variable. In a bare row this is a premise. The card (YtiihihgjiklnoaaGreatDoorCards.lean) ties it to the program's text. -/
def laid_unicode_utf8_acceptRanges {H : Type} : DataW H := .agg [.agg [.lit (.int .u8 128), .lit (.int .u8 191)], .agg [.lit (.int .u8 160), .lit (.int .u8 191)], .agg [.lit (.int .u8 128), .lit (.int .u8 159)], .agg [.lit (.int .u8 144), .lit (.int .u8 191)], .agg [.lit (.int .u8 128), .lit (.int .u8 143)], .agg [.lit (.int .u8 0), .lit (.int .u8 0)], .agg [.lit (.int .u8 0), .lit (.int .u8 0)], .agg [.lit (.int .u8 0), .lit (.int .u8 0)], .agg [.lit (.int .u8 0), .lit (.int .u8 0)], .agg [.lit (.int .u8 0), .lit (.int .u8 0)], .agg [.lit (.int .u8 0), .lit (.int .u8 0)], .agg [.lit (.int .u8 0), .lit (.int .u8 0)], .agg [.lit (.int .u8 0), .lit (.int .u8 0)], .agg [.lit (.int .u8 0), .lit (.int .u8 0)], .agg [.lit (.int .u8 0), .lit (.int .u8 0)], .agg [.lit (.int .u8 0), .lit (.int .u8 0)]]
/-- One of Go's own tables, pinned by name: the form's constant. -/
def laid_unicode_utf8_first : DataW Unit := Go.Pinned.utf8First

/-- 'laws.FnExactNewImage': WHATEVER THE INPUT: true; the input reads as it did. -/
def fnExactNewImageSpec : ChangeSpec := { name := "fnExactNewImage", fn := fun _ => fun
  | [d1, d2] => { results := [.lit (.bool true)], args := [d1, d2] }
  | _ => none }
def fnExactNewImageRow : OpenClaim := { program := "ytiihihgjiklnoaagreatdoor", sum := "41100aebdb8d3eaf5e2f08c8ed767a7f3c3974b1aefc09dab02f2004ea2fe000", func := "loop.example/g03108/laws.FnExactNewImage", spec := "fnExactNewImage", inPlace := ["internal/bytealg.CountString", "internal/bytealg.IndexByteString", "internal/bytealg.IndexString"], unfollowed := true, recurses := true, named := ["unicode/utf8.first", "unicode/utf8.acceptRanges", "internal/bytealg.MaxLen"], apart := false, laid := [("unicode/utf8.acceptRanges", laid_unicode_utf8_acceptRanges), ("unicode/utf8.first", laid_unicode_utf8_first)] }
def FnExactNewImageSaid : Prop := fnExactNewImageRow.holds Tryz.pinned (OpenSpec.ofChange fnExactNewImageSpec)

/-- ITS FALSE NEIGHBOUR: 'it returns false'. Refute it at one input. -/
def fnExactNewImageWrong : ChangeSpec := { name := "fnExactNewImage", fn := fun _ => fun
  | [d1, d2] => { results := [.lit (.bool false)], args := [d1, d2] }
  | _ => none }
def FnExactNewImageWrongFalsely : Prop := fnExactNewImageRow.holds Tryz.pinned (OpenSpec.ofChange fnExactNewImageWrong)

/-- 'laws.FnExactReachableCounts': WHATEVER THE INPUT: true; the input reads as it did. -/
def fnExactReachableCountsSpec : ChangeSpec := { name := "fnExactReachableCounts", fn := fun _ => fun
  | [d] => { results := [.lit (.bool true)], args := [d] }
  | _ => none }
def fnExactReachableCountsRow : OpenClaim := { program := "ytiihihgjiklnoaagreatdoor", sum := "41100aebdb8d3eaf5e2f08c8ed767a7f3c3974b1aefc09dab02f2004ea2fe000", func := "loop.example/g03108/laws.FnExactReachableCounts", spec := "fnExactReachableCounts", inPlace := ["internal/bytealg.CountString", "internal/bytealg.IndexByteString", "internal/bytealg.IndexString"], unfollowed := true, recurses := true, named := ["unicode/utf8.first", "unicode/utf8.acceptRanges", "internal/bytealg.MaxLen"], apart := false, laid := [("unicode/utf8.acceptRanges", laid_unicode_utf8_acceptRanges), ("unicode/utf8.first", laid_unicode_utf8_first)] }
def FnExactReachableCountsSaid : Prop := fnExactReachableCountsRow.holds Tryz.pinned (OpenSpec.ofChange fnExactReachableCountsSpec)

/-- ITS FALSE NEIGHBOUR: 'it returns false'. Refute it at one input. -/
def fnExactReachableCountsWrong : ChangeSpec := { name := "fnExactReachableCounts", fn := fun _ => fun
  | [d] => { results := [.lit (.bool false)], args := [d] }
  | _ => none }
def FnExactReachableCountsWrongFalsely : Prop := fnExactReachableCountsRow.holds Tryz.pinned (OpenSpec.ofChange fnExactReachableCountsWrong)

/-- 'laws.FnExactOwnFields': WHATEVER THE INPUT: true; the input reads as it did. -/
def fnExactOwnFieldsSpec : ChangeSpec := { name := "fnExactOwnFields", fn := fun _ => fun
  | [d1, d2] => { results := [.lit (.bool true)], args := [d1, d2] }
  | _ => none }
def fnExactOwnFieldsRow : OpenClaim := { program := "ytiihihgjiklnoaagreatdoor", sum := "41100aebdb8d3eaf5e2f08c8ed767a7f3c3974b1aefc09dab02f2004ea2fe000", func := "loop.example/g03108/laws.FnExactOwnFields", spec := "fnExactOwnFields", inPlace := ["internal/bytealg.CountString", "internal/bytealg.IndexByteString", "internal/bytealg.IndexString"], unfollowed := true, recurses := true, named := ["unicode/utf8.first", "unicode/utf8.acceptRanges", "internal/bytealg.MaxLen"], apart := false, laid := [("unicode/utf8.acceptRanges", laid_unicode_utf8_acceptRanges), ("unicode/utf8.first", laid_unicode_utf8_first)] }
def FnExactOwnFieldsSaid : Prop := fnExactOwnFieldsRow.holds Tryz.pinned (OpenSpec.ofChange fnExactOwnFieldsSpec)

/-- ITS FALSE NEIGHBOUR: 'it returns false'. Refute it at one input. -/
def fnExactOwnFieldsWrong : ChangeSpec := { name := "fnExactOwnFields", fn := fun _ => fun
  | [d1, d2] => { results := [.lit (.bool false)], args := [d1, d2] }
  | _ => none }
def FnExactOwnFieldsWrongFalsely : Prop := fnExactOwnFieldsRow.holds Tryz.pinned (OpenSpec.ofChange fnExactOwnFieldsWrong)

/-- 'laws.FnExactFramesOf': WHATEVER THE INPUT: true; the input reads as it did. -/
def fnExactFramesOfSpec : ChangeSpec := { name := "fnExactFramesOf", fn := fun _ => fun
  | [d] => { results := [.lit (.bool true)], args := [d] }
  | _ => none }
def fnExactFramesOfRow : OpenClaim := { program := "ytiihihgjiklnoaagreatdoor", sum := "41100aebdb8d3eaf5e2f08c8ed767a7f3c3974b1aefc09dab02f2004ea2fe000", func := "loop.example/g03108/laws.FnExactFramesOf", spec := "fnExactFramesOf", inPlace := ["internal/bytealg.CountString", "internal/bytealg.IndexByteString", "internal/bytealg.IndexString"], unfollowed := true, recurses := true, named := ["unicode/utf8.first", "unicode/utf8.acceptRanges", "internal/bytealg.MaxLen"], apart := false, laid := [("unicode/utf8.acceptRanges", laid_unicode_utf8_acceptRanges), ("unicode/utf8.first", laid_unicode_utf8_first)] }
def FnExactFramesOfSaid : Prop := fnExactFramesOfRow.holds Tryz.pinned (OpenSpec.ofChange fnExactFramesOfSpec)

/-- ITS FALSE NEIGHBOUR: 'it returns false'. Refute it at one input. -/
def fnExactFramesOfWrong : ChangeSpec := { name := "fnExactFramesOf", fn := fun _ => fun
  | [d] => { results := [.lit (.bool false)], args := [d] }
  | _ => none }
def FnExactFramesOfWrongFalsely : Prop := fnExactFramesOfRow.holds Tryz.pinned (OpenSpec.ofChange fnExactFramesOfWrong)

/-- 'laws.FnExactSwapObjects': WHATEVER THE INPUT: true; the input reads as it did. -/
def fnExactSwapObjectsSpec : ChangeSpec := { name := "fnExactSwapObjects", fn := fun _ => fun
  | [d1, d2, d3] => { results := [.lit (.bool true)], args := [d1, d2, d3] }
  | _ => none }
def fnExactSwapObjectsRow : OpenClaim := { program := "ytiihihgjiklnoaagreatdoor", sum := "41100aebdb8d3eaf5e2f08c8ed767a7f3c3974b1aefc09dab02f2004ea2fe000", func := "loop.example/g03108/laws.FnExactSwapObjects", spec := "fnExactSwapObjects", inPlace := ["internal/bytealg.CountString", "internal/bytealg.IndexByteString", "internal/bytealg.IndexString"], unfollowed := true, recurses := true, named := ["unicode/utf8.first", "unicode/utf8.acceptRanges", "internal/bytealg.MaxLen"], apart := false, laid := [("unicode/utf8.acceptRanges", laid_unicode_utf8_acceptRanges), ("unicode/utf8.first", laid_unicode_utf8_first)] }
def FnExactSwapObjectsSaid : Prop := fnExactSwapObjectsRow.holds Tryz.pinned (OpenSpec.ofChange fnExactSwapObjectsSpec)

/-- ITS FALSE NEIGHBOUR: 'it returns false'. Refute it at one input. -/
def fnExactSwapObjectsWrong : ChangeSpec := { name := "fnExactSwapObjects", fn := fun _ => fun
  | [d1, d2, d3] => { results := [.lit (.bool false)], args := [d1, d2, d3] }
  | _ => none }
def FnExactSwapObjectsWrongFalsely : Prop := fnExactSwapObjectsRow.holds Tryz.pinned (OpenSpec.ofChange fnExactSwapObjectsWrong)

/-- 'laws.FnExactRemoveMethod': WHATEVER THE INPUT: true; the input reads as it did. -/
def fnExactRemoveMethodSpec : ChangeSpec := { name := "fnExactRemoveMethod", fn := fun _ => fun
  | [d1, d2, d3, d4] => { results := [.lit (.bool true)], args := [d1, d2, d3, d4] }
  | _ => none }
def fnExactRemoveMethodRow : OpenClaim := { program := "ytiihihgjiklnoaagreatdoor", sum := "41100aebdb8d3eaf5e2f08c8ed767a7f3c3974b1aefc09dab02f2004ea2fe000", func := "loop.example/g03108/laws.FnExactRemoveMethod", spec := "fnExactRemoveMethod", inPlace := ["internal/bytealg.CountString", "internal/bytealg.IndexByteString", "internal/bytealg.IndexString"], unfollowed := true, recurses := true, named := ["unicode/utf8.first", "unicode/utf8.acceptRanges", "internal/bytealg.MaxLen"], apart := false, laid := [("unicode/utf8.acceptRanges", laid_unicode_utf8_acceptRanges), ("unicode/utf8.first", laid_unicode_utf8_first)] }
def FnExactRemoveMethodSaid : Prop := fnExactRemoveMethodRow.holds Tryz.pinned (OpenSpec.ofChange fnExactRemoveMethodSpec)

/-- ITS FALSE NEIGHBOUR: 'it returns false'. Refute it at one input. -/
def fnExactRemoveMethodWrong : ChangeSpec := { name := "fnExactRemoveMethod", fn := fun _ => fun
  | [d1, d2, d3, d4] => { results := [.lit (.bool false)], args := [d1, d2, d3, d4] }
  | _ => none }
def FnExactRemoveMethodWrongFalsely : Prop := fnExactRemoveMethodRow.holds Tryz.pinned (OpenSpec.ofChange fnExactRemoveMethodWrong)

/-- 'laws.FnExactSwapReferences': WHATEVER THE INPUT: true; the input reads as it did. -/
def fnExactSwapReferencesSpec : ChangeSpec := { name := "fnExactSwapReferences", fn := fun _ => fun
  | [d1, d2, d3] => { results := [.lit (.bool true)], args := [d1, d2, d3] }
  | _ => none }
def fnExactSwapReferencesRow : OpenClaim := { program := "ytiihihgjiklnoaagreatdoor", sum := "41100aebdb8d3eaf5e2f08c8ed767a7f3c3974b1aefc09dab02f2004ea2fe000", func := "loop.example/g03108/laws.FnExactSwapReferences", spec := "fnExactSwapReferences", inPlace := ["internal/bytealg.CountString", "internal/bytealg.IndexByteString", "internal/bytealg.IndexString"], unfollowed := true, recurses := true, named := ["unicode/utf8.first", "unicode/utf8.acceptRanges", "internal/bytealg.MaxLen"], apart := false, laid := [("unicode/utf8.acceptRanges", laid_unicode_utf8_acceptRanges), ("unicode/utf8.first", laid_unicode_utf8_first)] }
def FnExactSwapReferencesSaid : Prop := fnExactSwapReferencesRow.holds Tryz.pinned (OpenSpec.ofChange fnExactSwapReferencesSpec)

/-- ITS FALSE NEIGHBOUR: 'it returns false'. Refute it at one input. -/
def fnExactSwapReferencesWrong : ChangeSpec := { name := "fnExactSwapReferences", fn := fun _ => fun
  | [d1, d2, d3] => { results := [.lit (.bool false)], args := [d1, d2, d3] }
  | _ => none }
def FnExactSwapReferencesWrongFalsely : Prop := fnExactSwapReferencesRow.holds Tryz.pinned (OpenSpec.ofChange fnExactSwapReferencesWrong)

/-- 'laws.FnExactRestartFrame': WHATEVER THE INPUT: true; the input reads as it did. -/
def fnExactRestartFrameSpec : ChangeSpec := { name := "fnExactRestartFrame", fn := fun _ => fun
  | [d1, d2] => { results := [.lit (.bool true)], args := [d1, d2] }
  | _ => none }
def fnExactRestartFrameRow : OpenClaim := { program := "ytiihihgjiklnoaagreatdoor", sum := "41100aebdb8d3eaf5e2f08c8ed767a7f3c3974b1aefc09dab02f2004ea2fe000", func := "loop.example/g03108/laws.FnExactRestartFrame", spec := "fnExactRestartFrame", inPlace := ["internal/bytealg.CountString", "internal/bytealg.IndexByteString", "internal/bytealg.IndexString"], unfollowed := true, recurses := true, named := ["unicode/utf8.first", "unicode/utf8.acceptRanges", "internal/bytealg.MaxLen"], apart := false, laid := [("unicode/utf8.acceptRanges", laid_unicode_utf8_acceptRanges), ("unicode/utf8.first", laid_unicode_utf8_first)] }
def FnExactRestartFrameSaid : Prop := fnExactRestartFrameRow.holds Tryz.pinned (OpenSpec.ofChange fnExactRestartFrameSpec)

/-- ITS FALSE NEIGHBOUR: 'it returns false'. Refute it at one input. -/
def fnExactRestartFrameWrong : ChangeSpec := { name := "fnExactRestartFrame", fn := fun _ => fun
  | [d1, d2] => { results := [.lit (.bool false)], args := [d1, d2] }
  | _ => none }
def FnExactRestartFrameWrongFalsely : Prop := fnExactRestartFrameRow.holds Tryz.pinned (OpenSpec.ofChange fnExactRestartFrameWrong)

/-- 'laws.FnExactCollectImage': WHATEVER THE INPUT: true; the input reads as it did. -/
def fnExactCollectImageSpec : ChangeSpec := { name := "fnExactCollectImage", fn := fun _ => fun
  | [d] => { results := [.lit (.bool true)], args := [d] }
  | _ => none }
def fnExactCollectImageRow : OpenClaim := { program := "ytiihihgjiklnoaagreatdoor", sum := "41100aebdb8d3eaf5e2f08c8ed767a7f3c3974b1aefc09dab02f2004ea2fe000", func := "loop.example/g03108/laws.FnExactCollectImage", spec := "fnExactCollectImage", inPlace := ["internal/bytealg.CountString", "internal/bytealg.IndexByteString", "internal/bytealg.IndexString"], unfollowed := true, recurses := true, named := ["unicode/utf8.first", "unicode/utf8.acceptRanges", "internal/bytealg.MaxLen"], apart := false, laid := [("unicode/utf8.acceptRanges", laid_unicode_utf8_acceptRanges), ("unicode/utf8.first", laid_unicode_utf8_first)] }
def FnExactCollectImageSaid : Prop := fnExactCollectImageRow.holds Tryz.pinned (OpenSpec.ofChange fnExactCollectImageSpec)

/-- ITS FALSE NEIGHBOUR: 'it returns false'. Refute it at one input. -/
def fnExactCollectImageWrong : ChangeSpec := { name := "fnExactCollectImage", fn := fun _ => fun
  | [d] => { results := [.lit (.bool false)], args := [d] }
  | _ => none }
def FnExactCollectImageWrongFalsely : Prop := fnExactCollectImageRow.holds Tryz.pinned (OpenSpec.ofChange fnExactCollectImageWrong)

/- THE SECOND FORM. 'bulk': how many values and letters a reading holds, each counted each time it is reached (what is shared counts as often as it is met; a slice's spare places count too). A statement '..UptoSaid' is the law's where the arguments, and the package variables that the reading takes, are together of bulk at most 1048576: NARROWER than '..Said'. Prove '..Said' where nothing that the law and all that it calls make is longer than what came in: it says more and counts as full. Else prove '..UptoSaid'. A law counts once. -/
mutual
def uptoBulk {H : Type} : DataW H → Nat
  | .lit (.string bytes) => bytes.length + 1
  | .lit _ => 1
  | .nil => 1
  | .ptr d => uptoBulk d + 1
  | .slice elems spare => uptoBulkAll elems + uptoBulkAll spare + 1
  | .agg parts => uptoBulkAll parts + 1
  | .iface _ d => uptoBulk d + 1
  | .map entries => uptoBulkEntries entries + 1
  | .held _ => 1
def uptoBulkAll {H : Type} : List (DataW H) → Nat
  | [] => 0
  | d :: r => uptoBulk d + uptoBulkAll r
def uptoBulkEntries {H : Type} : List (Lit × DataW H) → Nat
  | [] => 0
  | x :: r => uptoBulkEntry x + uptoBulkEntries r
def uptoBulkEntry {H : Type} : Lit × DataW H → Nat
  | (.string bytes, d) => bytes.length + uptoBulk d + 1
  | (_, d) => uptoBulk d + 1
 end
def uptoSmall : (H : Type) → List (DataW H) → Bool := fun _ ds => decide (uptoBulkAll ds ≤ 1048576)
def OpenSpec.upto (s : _root_.Go.ChangeSpec) : _root_.Go.OpenSpec := { _root_.Go.OpenSpec.ofChange s with cond := some uptoSmall }

/-- 'laws.FnExactNewImage', WHERE WHAT IT READS IS OF BULK AT MOST 1048576: true; the input reads as it did. -/
def fnExactNewImageUptoRow : OpenClaim := { program := "ytiihihgjiklnoaagreatdoor", sum := "41100aebdb8d3eaf5e2f08c8ed767a7f3c3974b1aefc09dab02f2004ea2fe000", func := "loop.example/g03108/laws.FnExactNewImage", spec := "fnExactNewImage", inPlace := ["internal/bytealg.CountString", "internal/bytealg.IndexByteString", "internal/bytealg.IndexString"], unfollowed := true, recurses := true, named := ["unicode/utf8.first", "unicode/utf8.acceptRanges", "internal/bytealg.MaxLen"], apart := false, laid := [("unicode/utf8.acceptRanges", laid_unicode_utf8_acceptRanges), ("unicode/utf8.first", laid_unicode_utf8_first)], narrowed := true }
def FnExactNewImageUptoSaid : Prop := fnExactNewImageUptoRow.holds Tryz.pinned (OpenSpec.upto fnExactNewImageSpec)

/-- 'laws.FnExactReachableCounts', WHERE WHAT IT READS IS OF BULK AT MOST 1048576: true; the input reads as it did. -/
def fnExactReachableCountsUptoRow : OpenClaim := { program := "ytiihihgjiklnoaagreatdoor", sum := "41100aebdb8d3eaf5e2f08c8ed767a7f3c3974b1aefc09dab02f2004ea2fe000", func := "loop.example/g03108/laws.FnExactReachableCounts", spec := "fnExactReachableCounts", inPlace := ["internal/bytealg.CountString", "internal/bytealg.IndexByteString", "internal/bytealg.IndexString"], unfollowed := true, recurses := true, named := ["unicode/utf8.first", "unicode/utf8.acceptRanges", "internal/bytealg.MaxLen"], apart := false, laid := [("unicode/utf8.acceptRanges", laid_unicode_utf8_acceptRanges), ("unicode/utf8.first", laid_unicode_utf8_first)], narrowed := true }
def FnExactReachableCountsUptoSaid : Prop := fnExactReachableCountsUptoRow.holds Tryz.pinned (OpenSpec.upto fnExactReachableCountsSpec)

/-- 'laws.FnExactOwnFields', WHERE WHAT IT READS IS OF BULK AT MOST 1048576: true; the input reads as it did. -/
def fnExactOwnFieldsUptoRow : OpenClaim := { program := "ytiihihgjiklnoaagreatdoor", sum := "41100aebdb8d3eaf5e2f08c8ed767a7f3c3974b1aefc09dab02f2004ea2fe000", func := "loop.example/g03108/laws.FnExactOwnFields", spec := "fnExactOwnFields", inPlace := ["internal/bytealg.CountString", "internal/bytealg.IndexByteString", "internal/bytealg.IndexString"], unfollowed := true, recurses := true, named := ["unicode/utf8.first", "unicode/utf8.acceptRanges", "internal/bytealg.MaxLen"], apart := false, laid := [("unicode/utf8.acceptRanges", laid_unicode_utf8_acceptRanges), ("unicode/utf8.first", laid_unicode_utf8_first)], narrowed := true }
def FnExactOwnFieldsUptoSaid : Prop := fnExactOwnFieldsUptoRow.holds Tryz.pinned (OpenSpec.upto fnExactOwnFieldsSpec)

/-- 'laws.FnExactFramesOf', WHERE WHAT IT READS IS OF BULK AT MOST 1048576: true; the input reads as it did. -/
def fnExactFramesOfUptoRow : OpenClaim := { program := "ytiihihgjiklnoaagreatdoor", sum := "41100aebdb8d3eaf5e2f08c8ed767a7f3c3974b1aefc09dab02f2004ea2fe000", func := "loop.example/g03108/laws.FnExactFramesOf", spec := "fnExactFramesOf", inPlace := ["internal/bytealg.CountString", "internal/bytealg.IndexByteString", "internal/bytealg.IndexString"], unfollowed := true, recurses := true, named := ["unicode/utf8.first", "unicode/utf8.acceptRanges", "internal/bytealg.MaxLen"], apart := false, laid := [("unicode/utf8.acceptRanges", laid_unicode_utf8_acceptRanges), ("unicode/utf8.first", laid_unicode_utf8_first)], narrowed := true }
def FnExactFramesOfUptoSaid : Prop := fnExactFramesOfUptoRow.holds Tryz.pinned (OpenSpec.upto fnExactFramesOfSpec)

/-- 'laws.FnExactSwapObjects', WHERE WHAT IT READS IS OF BULK AT MOST 1048576: true; the input reads as it did. -/
def fnExactSwapObjectsUptoRow : OpenClaim := { program := "ytiihihgjiklnoaagreatdoor", sum := "41100aebdb8d3eaf5e2f08c8ed767a7f3c3974b1aefc09dab02f2004ea2fe000", func := "loop.example/g03108/laws.FnExactSwapObjects", spec := "fnExactSwapObjects", inPlace := ["internal/bytealg.CountString", "internal/bytealg.IndexByteString", "internal/bytealg.IndexString"], unfollowed := true, recurses := true, named := ["unicode/utf8.first", "unicode/utf8.acceptRanges", "internal/bytealg.MaxLen"], apart := false, laid := [("unicode/utf8.acceptRanges", laid_unicode_utf8_acceptRanges), ("unicode/utf8.first", laid_unicode_utf8_first)], narrowed := true }
def FnExactSwapObjectsUptoSaid : Prop := fnExactSwapObjectsUptoRow.holds Tryz.pinned (OpenSpec.upto fnExactSwapObjectsSpec)

/-- 'laws.FnExactRemoveMethod', WHERE WHAT IT READS IS OF BULK AT MOST 1048576: true; the input reads as it did. -/
def fnExactRemoveMethodUptoRow : OpenClaim := { program := "ytiihihgjiklnoaagreatdoor", sum := "41100aebdb8d3eaf5e2f08c8ed767a7f3c3974b1aefc09dab02f2004ea2fe000", func := "loop.example/g03108/laws.FnExactRemoveMethod", spec := "fnExactRemoveMethod", inPlace := ["internal/bytealg.CountString", "internal/bytealg.IndexByteString", "internal/bytealg.IndexString"], unfollowed := true, recurses := true, named := ["unicode/utf8.first", "unicode/utf8.acceptRanges", "internal/bytealg.MaxLen"], apart := false, laid := [("unicode/utf8.acceptRanges", laid_unicode_utf8_acceptRanges), ("unicode/utf8.first", laid_unicode_utf8_first)], narrowed := true }
def FnExactRemoveMethodUptoSaid : Prop := fnExactRemoveMethodUptoRow.holds Tryz.pinned (OpenSpec.upto fnExactRemoveMethodSpec)

/-- 'laws.FnExactSwapReferences', WHERE WHAT IT READS IS OF BULK AT MOST 1048576: true; the input reads as it did. -/
def fnExactSwapReferencesUptoRow : OpenClaim := { program := "ytiihihgjiklnoaagreatdoor", sum := "41100aebdb8d3eaf5e2f08c8ed767a7f3c3974b1aefc09dab02f2004ea2fe000", func := "loop.example/g03108/laws.FnExactSwapReferences", spec := "fnExactSwapReferences", inPlace := ["internal/bytealg.CountString", "internal/bytealg.IndexByteString", "internal/bytealg.IndexString"], unfollowed := true, recurses := true, named := ["unicode/utf8.first", "unicode/utf8.acceptRanges", "internal/bytealg.MaxLen"], apart := false, laid := [("unicode/utf8.acceptRanges", laid_unicode_utf8_acceptRanges), ("unicode/utf8.first", laid_unicode_utf8_first)], narrowed := true }
def FnExactSwapReferencesUptoSaid : Prop := fnExactSwapReferencesUptoRow.holds Tryz.pinned (OpenSpec.upto fnExactSwapReferencesSpec)

/-- 'laws.FnExactRestartFrame', WHERE WHAT IT READS IS OF BULK AT MOST 1048576: true; the input reads as it did. -/
def fnExactRestartFrameUptoRow : OpenClaim := { program := "ytiihihgjiklnoaagreatdoor", sum := "41100aebdb8d3eaf5e2f08c8ed767a7f3c3974b1aefc09dab02f2004ea2fe000", func := "loop.example/g03108/laws.FnExactRestartFrame", spec := "fnExactRestartFrame", inPlace := ["internal/bytealg.CountString", "internal/bytealg.IndexByteString", "internal/bytealg.IndexString"], unfollowed := true, recurses := true, named := ["unicode/utf8.first", "unicode/utf8.acceptRanges", "internal/bytealg.MaxLen"], apart := false, laid := [("unicode/utf8.acceptRanges", laid_unicode_utf8_acceptRanges), ("unicode/utf8.first", laid_unicode_utf8_first)], narrowed := true }
def FnExactRestartFrameUptoSaid : Prop := fnExactRestartFrameUptoRow.holds Tryz.pinned (OpenSpec.upto fnExactRestartFrameSpec)

/-- 'laws.FnExactCollectImage', WHERE WHAT IT READS IS OF BULK AT MOST 1048576: true; the input reads as it did. -/
def fnExactCollectImageUptoRow : OpenClaim := { program := "ytiihihgjiklnoaagreatdoor", sum := "41100aebdb8d3eaf5e2f08c8ed767a7f3c3974b1aefc09dab02f2004ea2fe000", func := "loop.example/g03108/laws.FnExactCollectImage", spec := "fnExactCollectImage", inPlace := ["internal/bytealg.CountString", "internal/bytealg.IndexByteString", "internal/bytealg.IndexString"], unfollowed := true, recurses := true, named := ["unicode/utf8.first", "unicode/utf8.acceptRanges", "internal/bytealg.MaxLen"], apart := false, laid := [("unicode/utf8.acceptRanges", laid_unicode_utf8_acceptRanges), ("unicode/utf8.first", laid_unicode_utf8_first)], narrowed := true }
def FnExactCollectImageUptoSaid : Prop := fnExactCollectImageUptoRow.holds Tryz.pinned (OpenSpec.upto fnExactCollectImageSpec)

end Rows
end Go.Proofs.YtiihihgjiklnoaaGreatDoor
