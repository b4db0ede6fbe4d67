/- The law on FormatValue: the walk. -/
import Derived.Test.YtoflhemcjmhmkaaDoorFmtD
import Derived.Test.YtoflhemcjmhmkaaDoorFmtE
namespace Go.Proofs.YtoflhemcjmhmkaaDoor
open Go Go.RowKit

theorem toValue_any (x : TValue) (w : World) : Calls Tryd.prog 11 #[.agg #[.int .i64 x.kind, .int .i64 x.number, .string x.text]] w fun e w' => e = .returned (.agg #[.int .i64 x.kind, .int .i64 x.number, .string x.text]) ∧ Below w.heap.size w w' := by
  go_enter Tryd.func11, Tryd.ntmps11
  go_wp2
  go_returns
  exact ⟨rfl, (((Below.refl _ _).alloc (Nat.le_refl _) _).alloc (by simp) _).alloc (by simp; omega) _⟩

set_option maxHeartbeats 1000000 in
theorem fnExactFormatValue_any (x : TValue) (w : World) (hm : MaxL w) (ht : TabL w) (hx : x.sane) :
    Calls Tryd.prog 4 #[.agg #[.int .i64 x.kind, .int .i64 x.number, .string x.text]] w fun e w' => e = .returned (.bool true) ∧ Below w.heap.size w w' := by
  go_enter Tryd.func4, Tryd.ntmps4
  go_wp2_with (first
    | (go_at_call 9; refine (szValue_any x _ _ (TValue.flat.seen _ _ _) hx (by omega) (by omega)).mono ?_; rintro e w1 ⟨r, q, rfl, hb1⟩; obtain ⟨p0, p1, p2, hB⟩ := box3 hb1)
    | (go_at_call 11; refine (toValue_any x _).mono ?_; rintro e w2 ⟨rfl, hb2⟩; have p0 := cellB hb2 p0; have p1 := cellB hb2 p1; have p2 := cellB hb2 p2; have hB := hB.trans (hb2.mono hB.size))
    | (go_at_call 12; refine (formatValue_any x _ (hm.below hB) (ht.below hB) hx (by have := q (by omega); simp only [TValue.bulk] at this; omega)).mono ?_; rintro e w2 ⟨rfl, hb2⟩; have p0 := cellB hb2 p0; have p1 := cellB hb2 p1; have p2 := cellB hb2 p2; have hB := hB.trans (hb2.mono hB.size))
    | (go_at_call 10; refine (specFormatValue_any x _ (hm.below hB) (ht.below hB) hx (by have := q (by omega); simp only [TValue.bulk] at this; omega)).mono ?_; rintro e w2 ⟨rfl, hb2⟩; have p0 := cellB hb2 p0; have p1 := cellB hb2 p1; have p2 := cellB hb2 p2; have hB := hB.trans (hb2.mono hB.size)))
  all_goals
    go_ret
    exact ⟨rfl, hB⟩
end Go.Proofs.YtoflhemcjmhmkaaDoor
