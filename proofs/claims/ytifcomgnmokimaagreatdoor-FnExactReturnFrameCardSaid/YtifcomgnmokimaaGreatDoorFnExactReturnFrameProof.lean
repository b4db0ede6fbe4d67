/- The statement Rows.FnExactReturnFrameCardSaid: for every input the law returns true, and its arguments read afterwards as they read before; the tied card. The frame follows the guide's worked example of a law that lists a pinned table; the walk is fx. Written by gen_proof.py. -/
import Derived.Test.YtifcomgnmokimaaGreatDoorRows
import Derived.Test.YtifcomgnmokimaaGreatDoorCards
import Derived.Test.YtifcomgnmokimaaGreatDoorTie
import Derived.Test.YtifcomgnmokimaaGreatDoorRt9
import Derived.Test.YtifcomgnmokimaaGreatDoorRt45
import Derived.LaidOnce
import Derived.SevenTiedAt
import Derived.Carry
import Derived.Test.YtifcomgnmokimaaGreatDoorFnExactReturnFrameOver
namespace Go.Proofs.YtifcomgnmokimaaGreatDoor.fnExactReturnFrame
open Go.ChangeShapes Go.WideShapes Go.ChangeAt Go.RowKit
set_option maxHeartbeats 8000000
set_option maxRecDepth 100000
/-- ████ THE STATEMENT ████ -/
theorem proved : Rows.FnExactReturnFrameCardSaid :=
  Claim7.holds_tied_plain_at .later [] [.data, .pinned] true (true, "462006cfb557acc2ef5afffbd446b534bd4aec1f12618846ae5f17a313978827") false over (fun _ h => by cases h) (by as_aux_lemma => kernel_rfl) (fun _ h => by cases h) fnExactReturnFrame_row_tie rfl ⟨rfl, rfl⟩ (by as_aux_lemma => kernel_rfl) rfl
    (fun f fn hf hfn => by
      obtain rfl : f = 4 := Option.some.inj ((show Tryz.prog.funcNamed "loop.example/g03108/laws.FnExactReturnFrame" = some 4 by as_aux_lemma => kernel_rfl).symm.trans hf) |>.symm
      obtain rfl : fn = Tryz.f4 := (Option.some.inj (Tryz.func4.symm.trans hfn)).symm
      exact ⟨by as_aux_lemma => kernel_rfl, fun j t ht => by
        rw [Tryz.params4] at ht
        have hm : t ∈ [38, 3, 36] := by simpa using Array.mem_of_getElem? ht
        have hall : ([38, 3, 36].all fun u => !Tryz.prog.wantsStandIn u) = true := by as_aux_lemma => kernel_rfl
        exact (show Tryz.prog.wantsStandIn t = false by simpa using List.all_eq_true.1 hall t hm)⟩)
    (by as_aux_lemma => kernel_rfl)
#print axioms proved
end Go.Proofs.YtifcomgnmokimaaGreatDoor.fnExactReturnFrame
