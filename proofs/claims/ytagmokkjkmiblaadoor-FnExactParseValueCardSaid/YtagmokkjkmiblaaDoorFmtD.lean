/- The texts of values, all of the program. -/
import Derived.Test.YtagmokkjkmiblaaDoorFmtC
import Derived.Deep.RegionWith
namespace Go.Proofs.YtagmokkjkmiblaaDoor
open Go Go.RowKit

theorem formatValue_none (x : TValue) (w : World) (hm : MaxL w) (hs : x.text.size ≤ 1048576) (h : x.isL = false) :
    Calls Tryd.prog 51 #[.agg #[.int .i64 x.kind, .int .i64 x.number, .string x.text]] w fun e w' => e = .returned (.string x.fmt) ∧ Below w.heap.size w w' := by
  have hM : ∀ o, MaxL (w.alloc o) := fun o => hm.below ((Below.refl _ _).alloc (Nat.le_refl _) o)
  have HF := Lib.hid (show x.fmt = _ by unfold TValue.fmt; rw [if_pos h])
  go_enter Tryd.func51, Tryd.ntmps51
  go_wp2_with (go_at_call 80; refine (isValue_any x _ hs (hM _)).mono ?_; rintro e w1 ⟨rfl, hb⟩; obtain ⟨p0, p1, p2, hb⟩ := box3 hb)
  go_ret
  exact ⟨ret_str (by rw [HF.out]), hb⟩

theorem formatValue_any (x : TValue) (w : World) (hm : MaxL w) (ht : TabL w) (hx : x.sane) (hs : x.text.size ≤ 1048576) :
    Calls Tryd.prog 51 #[.agg #[.int .i64 x.kind, .int .i64 x.number, .string x.text]] w fun e w' => e = .returned (.string x.fmt) ∧ Below w.heap.size w w' := by
  cases h : x.isL
  · exact formatValue_none x w hm hs h
  · obtain ⟨k, n, t⟩ := x
    have hn := hx.2.1
    simp only [i64] at hn
    obtain ⟨hn0, hn1⟩ := hn
    rcases TValue.isL_kinds h with hk | hk | hk | hk | hk | hk | hk | hk
    all_goals (simp only at hk; subst hk)
    · exact formatValue_k0 n t w hm ht hn0 hn1 hs h
    · exact formatValue_k1 n t w hm ht hn0 hn1 hs h
    · exact formatValue_k2 n t w hm ht hn0 hn1 hs h
    · exact formatValue_k3 n t w hm ht hn0 hn1 hs h
    · exact formatValue_k4 n t w hm ht hn0 hn1 hs h
    · exact formatValue_k5 n t w hm ht hn0 hn1 hs h
    · exact formatValue_k6 n t w hm ht hn0 hn1 hs h
    · exact formatValue_k7 n t w hm ht hn0 hn1 hs h

end Go.Proofs.YtagmokkjkmiblaaDoor
