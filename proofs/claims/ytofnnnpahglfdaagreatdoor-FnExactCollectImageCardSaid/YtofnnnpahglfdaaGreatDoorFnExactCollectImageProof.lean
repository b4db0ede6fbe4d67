/- The statement Rows.FnExactCollectImageCardSaid: for every input the law returns true, and its arguments read afterwards as they read before; the tied card. The frame follows the guide's worked example of a law that lists a pinned table; the walk is fa. Written by gen_proof.py. -/
import Derived.Test.YtofnnnpahglfdaaGreatDoorRows
import Derived.Test.YtofnnnpahglfdaaGreatDoorCards
import Derived.Test.YtofnnnpahglfdaaGreatDoorTie
import Derived.Test.YtofnnnpahglfdaaGreatDoorCo10
import Derived.Test.YtofnnnpahglfdaaGreatDoorCo44
import Derived.LaidOnce
import Derived.SevenTiedAt
import Derived.Carry
import Derived.Test.YtofnnnpahglfdaaGreatDoorFnExactCollectImageOver
namespace Go.Proofs.YtofnnnpahglfdaaGreatDoor.fnExactCollectImage
open Go.ChangeShapes Go.WideShapes Go.ChangeAt Go.RowKit
set_option maxHeartbeats 8000000
set_option maxRecDepth 100000
/-- ████ THE STATEMENT ████ -/
theorem proved : Rows.FnExactCollectImageCardSaid :=
  Claim7.holds_tied_plain_at .later [] [.data, .pinned] true (true, "df930fbc439ddfd4fb8a0075bcf56ab99d1c9a7c809596c7ddb65ae3a19f7556") false over (fun _ h => by cases h) (by as_aux_lemma => kernel_rfl) (fun _ h => by cases h) fnExactCollectImage_row_tie rfl ⟨rfl, rfl⟩ (by as_aux_lemma => kernel_rfl) rfl
    (fun f fn hf hfn => by
      obtain rfl : f = 6 := Option.some.inj ((show Tryz.prog.funcNamed "loop.example/g03108/laws.FnExactCollectImage" = some 6 by as_aux_lemma => kernel_rfl).symm.trans hf) |>.symm
      obtain rfl : fn = Tryz.f6 := (Option.some.inj (Tryz.func6.symm.trans hfn)).symm
      exact ⟨by as_aux_lemma => kernel_rfl, fun j t ht => by
        rw [Tryz.params6] at ht
        have hm : t ∈ [38] := by simpa using Array.mem_of_getElem? ht
        have hall : ([38].all fun u => !Tryz.prog.wantsStandIn u) = true := by as_aux_lemma => kernel_rfl
        exact (show Tryz.prog.wantsStandIn t = false by simpa using List.all_eq_true.1 hall t hm)⟩)
    (by as_aux_lemma => kernel_rfl)
#print axioms proved
end Go.Proofs.YtofnnnpahglfdaaGreatDoor.fnExactCollectImage
