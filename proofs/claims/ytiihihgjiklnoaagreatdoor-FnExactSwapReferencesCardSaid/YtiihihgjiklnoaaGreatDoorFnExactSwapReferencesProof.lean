/- The statement Rows.FnExactSwapReferencesCardSaid: for every input the law returns true, and its arguments read afterwards as they read before; the tied card. The frame follows the guide's worked example of a law that lists a pinned table; the walk is dZ. Written by gen_proof.py. -/
import Derived.Test.YtiihihgjiklnoaaGreatDoorRows
import Derived.Test.YtiihihgjiklnoaaGreatDoorCards
import Derived.Test.YtiihihgjiklnoaaGreatDoorTie
import Derived.Test.YtiihihgjiklnoaaGreatDoorSr10
import Derived.Test.YtiihihgjiklnoaaGreatDoorSr45
import Derived.LaidOnce
import Derived.SevenTiedAt
import Derived.Carry
import Derived.Test.YtiihihgjiklnoaaGreatDoorFnExactSwapReferencesOver
namespace Go.Proofs.YtiihihgjiklnoaaGreatDoor.fnExactSwapReferences
open Go.ChangeShapes Go.WideShapes Go.ChangeAt Go.RowKit
set_option maxHeartbeats 8000000
set_option maxRecDepth 100000
/-- ████ THE STATEMENT ████ -/
theorem proved : Rows.FnExactSwapReferencesCardSaid :=
  Claim7.holds_tied_plain_at .later [] [.data, .pinned] true (true, "67e96185c9c03327c784ec714fabe18eeacecbd8b8ce9b977b20335d3b513c86") false over (fun _ h => by cases h) (by as_aux_lemma => kernel_rfl) (fun _ h => by cases h) fnExactSwapReferences_row_tie rfl ⟨rfl, rfl⟩ (by as_aux_lemma => kernel_rfl) rfl
    (fun f fn hf hfn => by
      obtain rfl : f = 9 := Option.some.inj ((show Tryz.prog.funcNamed "loop.example/g03108/laws.FnExactSwapReferences" = some 9 by as_aux_lemma => kernel_rfl).symm.trans hf) |>.symm
      obtain rfl : fn = Tryz.f9 := (Option.some.inj (Tryz.func9.symm.trans hfn)).symm
      exact ⟨by as_aux_lemma => kernel_rfl, fun j t ht => by
        rw [Tryz.params9] at ht
        have hm : t ∈ [61, 3, 3] := by simpa using Array.mem_of_getElem? ht
        have hall : ([61, 3, 3].all fun u => !Tryz.prog.wantsStandIn u) = true := by as_aux_lemma => kernel_rfl
        exact (show Tryz.prog.wantsStandIn t = false by simpa using List.all_eq_true.1 hall t hm)⟩)
    (by as_aux_lemma => kernel_rfl)
#print axioms proved
end Go.Proofs.YtiihihgjiklnoaaGreatDoor.fnExactSwapReferences
