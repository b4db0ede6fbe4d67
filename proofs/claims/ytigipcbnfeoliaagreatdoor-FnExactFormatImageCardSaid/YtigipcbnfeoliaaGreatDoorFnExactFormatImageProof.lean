/- The statement Rows.FnExactFormatImageCardSaid: for every input the law returns true, and its arguments read afterwards as they read before; the tied card. The frame follows the guide's worked example of a law that lists a pinned table; the walk is eD. Written by gen_proof.py. -/
import Derived.Test.YtigipcbnfeoliaaGreatDoorRows
import Derived.Test.YtigipcbnfeoliaaGreatDoorCards
import Derived.Test.YtigipcbnfeoliaaGreatDoorTie
import Derived.Test.YtigipcbnfeoliaaGreatDoorFi10
import Derived.Test.YtigipcbnfeoliaaGreatDoorFi48
import Derived.LaidOnce
import Derived.SevenTiedAt
import Derived.Carry
import Derived.Test.YtigipcbnfeoliaaGreatDoorFnExactFormatImageOver
namespace Go.Proofs.YtigipcbnfeoliaaGreatDoor.fnExactFormatImage
open Go.ChangeShapes Go.WideShapes Go.ChangeAt Go.RowKit
set_option maxHeartbeats 8000000
set_option maxRecDepth 100000
/-- ████ THE STATEMENT ████ -/
theorem proved : Rows.FnExactFormatImageCardSaid :=
  Claim7.holds_tied_plain_at .later [] [.data, .data, .data, .data, .pinned] true (true, "c47b1416cc6c7f1437f517945cffad794f89ea6873bd743fbe53c38a56571921") false over (fun _ h => by cases h) (by as_aux_lemma => kernel_rfl) (fun _ h => by cases h) fnExactFormatImage_row_tie rfl ⟨rfl, rfl⟩ (by as_aux_lemma => kernel_rfl) rfl
    (fun f fn hf hfn => by
      obtain rfl : f = 4 := Option.some.inj ((show Tryz.prog.funcNamed "loop.example/g03108/laws.FnExactFormatImage" = some 4 by as_aux_lemma => kernel_rfl).symm.trans hf) |>.symm
      obtain rfl : fn = Tryz.f4 := (Option.some.inj (Tryz.func4.symm.trans hfn)).symm
      exact ⟨by as_aux_lemma => kernel_rfl, fun j t ht => by
        rw [Tryz.params4] at ht
        have hm : t ∈ [38] := by simpa using Array.mem_of_getElem? ht
        have hall : ([38].all fun u => !Tryz.prog.wantsStandIn u) = true := by as_aux_lemma => kernel_rfl
        exact (show Tryz.prog.wantsStandIn t = false by simpa using List.all_eq_true.1 hall t hm)⟩)
    (by as_aux_lemma => kernel_rfl)
#print axioms proved
end Go.Proofs.YtigipcbnfeoliaaGreatDoor.fnExactFormatImage
