/- The law on LibrarySource: the walk. -/
import Derived.Test.YtoflhemcjmhmkaaDoorLibS
import Derived.Test.YtoflhemcjmhmkaaDoorLibR
import Derived.Test.YtoflhemcjmhmkaaDoorSel
namespace Go.Proofs.YtoflhemcjmhmkaaDoor
open Go Go.RowKit

theorem LibPost.has {k : Int} {s : ByteArray} {w : World} {e : Ending} {w' : World} (h : LibPost k s w e w') : ∃ (x : ByteArray) (b : Bool), e = .returned (.tuple #[.string x, .bool b]) ∧ (x, b) = (if okLib k s = true then (⟨(libL k s.data.toList).toArray⟩, true) else (⟨#[]⟩, false)) ∧ Below w.heap.size w w' := by
  obtain ⟨he, hb⟩ := h
  by_cases ho : okLib k s = true
  · rw [if_pos ho] at he; exact ⟨_, _, he, by rw [if_pos ho], hb⟩
  · rw [if_neg ho] at he; exact ⟨_, _, he, by rw [if_neg ho], hb⟩

set_option maxHeartbeats 1000000 in
theorem fnExactLibrarySource_any (k : Int) (_ : i64 k) (s : ByteArray) (hs : s.size ≤ maxLen) (w : World) (_ : MaxL w) (ht : TabL w) :
    Calls Tryd.prog 3 #[.int .i64 k, .string s] w fun e w' => e = .returned (.bool true) ∧ Below w.heap.size w w' := by
  simp only [maxLen] at hs
  by_cases h : s.size ≤ 1048576
  · go_enter Tryd.func3, Tryd.ntmps3
    go_wp2_with fail
    refine (specLibSource_any k s _ h).mono ?_
    intro e w1 hp
    obtain ⟨x, b, rfl, hx, hb1⟩ := hp.has
    clear hp
    have Hx := Lib.hid hx
    clear hx
    go_wp2_with fail
    refine (libSource_any k s _ h (ht.below hb1)).mono ?_
    intro e w2 hp
    obtain ⟨x2, b2, rfl, hx, hb2⟩ := hp.has
    clear hp
    have hq := hx.trans Hx.out.symm
    simp only [Prod.mk.injEq] at hq
    obtain ⟨rfl, rfl⟩ := hq
    clear hx Hx
    cases b2
    all_goals
      go_wp2
      go_ret
      exact ⟨rfl, hb1.trans (hb2.mono hb1.size)⟩
  · go_enter Tryd.func3, Tryd.ntmps3
    go_wp2
    go_ret
    exact ⟨rfl, Below.refl _ _⟩
end Go.Proofs.YtoflhemcjmhmkaaDoor
