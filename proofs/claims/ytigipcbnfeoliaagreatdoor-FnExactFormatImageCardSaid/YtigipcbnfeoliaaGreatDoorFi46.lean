/- Part 46 of the proof: the texts ImU. -/
import Derived.Test.YtigipcbnfeoliaaGreatDoorFi42
import Derived.Test.YtigipcbnfeoliaaGreatDoorFi43
import Derived.Test.YtigipcbnfeoliaaGreatDoorFi29
set_option linter.all false
set_option maxHeartbeats 2000000
set_option maxRecDepth 20000
namespace Go.Proofs.YtigipcbnfeoliaaGreatDoor
open Go Go.RowKit
theorem aaa (x : ab) : x.pt.tvs = x.tw 0 := by simp [PT.tvs, PT.tvsL, ab.pt, ab.tw]
theorem yU {t : PT} {x : au} (h : fF t x) : t.tvs = x.tw 0 := by
 obtain ⟨A2, c2, A3, c3, rfl⟩ := h
 simp [PT.tvs, PT.tvsL, au.tw, ab.pt, ab.tw, aR, PT.rowsL_map, Function.comp_def]
theorem abt {t : PT} {x : aQ} (h : gl t x) : t.tvs = x.tw 0 := by
 obtain ⟨A0, c0, l0, A1, c1, l1, A2, c2, h0, h1, rfl⟩ := h
 simp only [PT.tvs, PT.tvsL, aQ.tw, nG h0 (fun _ _ => lx), nG h1 (fun _ _ => yU), PT.rowsL_map, List.map_map, List.append_nil, List.cons_append, List.nil_append]
 rfl
theorem uY {t : PT} {x : aj} (h : eK t x) : t.tvs = x.tw 0 := by
 obtain ⟨A7, c7, A8, c8, A9, c9, rfl⟩ := h
 simp [PT.tvs, PT.tvsL, aj.tw, ab.pt, ab.tw, PT.rowsL_map, Function.comp_def]
theorem abA {t : PT} {x : ao} (h : f9 t x) : t.tvs = x.tw 0 := by
 obtain ⟨t0, t1, A2, c2, A3, c3, l3, A4, c4, A5, c5, h0, h1, h3, rfl⟩ := h
 simp only [PT.tvs, PT.tvsL, uo h0, abt h1, ao.tw, aA.tw, aQ.tw, nG h3 (fun _ _ => uY), PT.rowsL_map, List.map_map, List.append_nil, List.cons_append, List.nil_append, aaa]
 rfl
theorem sT {w : World} {S : Nat -> Prop} {t : PT} {x : au} (h : fF t x) (hs : d9 w S t) (hx : x.sane) : au.small 9223372036854775807 x := by
 obtain ⟨A2, c2, A3, c3, rfl⟩ := h
 simp only [d9, cx] at hs
 obtain ⟨_, _, ⟨a1, a2, _⟩, ⟨b1, b2, _⟩, _⟩ := hs
 simp only [List.length_map] at a1 b1
 exact ⟨⟨Nat.le_trans a1 a2, fun y hy => (hx.2.2.1 y hy).2.2⟩, Nat.le_trans b1 b2⟩
theorem vu {w : World} {S : Nat -> Prop} {t : PT} {x : aQ} (h : gl t x) (hs : d9 w S t) (hx : x.sane) : aQ.small 9223372036854775807 x := by
 obtain ⟨A0, c0, l0, A1, c1, l1, A2, c2, h0, h1, rfl⟩ := h
 simp only [d9, cx] at hs
 obtain ⟨⟨a1, a2, _, _, a5⟩, ⟨b1, b2, _, _, b5⟩, ⟨d1, d2, _, _, _⟩, _⟩ := hs
 simp only [List.length_map] at d1
 exact ⟨⟨by rw [<- h0.1]; exact Nat.le_trans a1 a2, iP h0 a5 (fun _ _ => iX) hx.1⟩, ⟨by rw [<- h1.1]; exact Nat.le_trans b1 b2, iP h1 b5 (fun _ _ => sT) hx.2.1⟩, Nat.le_trans d1 d2, hx.2.2.1⟩
theorem rf {w : World} {S : Nat -> Prop} {t : PT} {x : aj} (h : eK t x) (hs : d9 w S t) (hx : x.sane) : aj.small 9223372036854775807 x := by
 obtain ⟨A7, c7, A8, c8, A9, c9, rfl⟩ := h
 simp only [d9, cx] at hs
 obtain ⟨_, _, _, _, _, _, _, ⟨a1, a2, _⟩, ⟨b1, b2, _⟩, ⟨d1, d2, _⟩, _⟩ := hs
 simp only [List.length_map] at a1 b1 d1
 obtain ⟨_, _, _, _, _, _, g6, g7, g8, g9, _⟩ := hx
 exact ⟨g6.2.2, ⟨Nat.le_trans a1 a2, fun y hy => (g7 y hy).2.2⟩, ⟨Nat.le_trans b1 b2, fun y hy => (g8 y hy).2.2⟩, ⟨Nat.le_trans d1 d2, fun y hy => (g9 y hy).2.2⟩⟩
theorem wq {w : World} {S : Nat -> Prop} {t : PT} {x : ao} (h : f9 t x) (hs : d9 w S t) (hx : x.sane) : ao.small 9223372036854775807 x := by
 obtain ⟨t0, t1, A2, c2, A3, c3, l3, A4, c4, A5, c5, h0, h1, h3, rfl⟩ := h
 simp only [d9, cx] at hs
 obtain ⟨s0, s1, ⟨a1, a2, _⟩, ⟨b1, b2, _, _, b5⟩, ⟨d1, d2, _⟩, ⟨e1, e2, _⟩, _⟩ := hs
 simp only [List.length_map] at a1 d1 e1
 obtain ⟨g0, g1, g2, g3, _, _, _, _, g8, g9⟩ := hx
 exact ⟨pi h0 s0 g0, vu h1 s1 g1, ⟨Nat.le_trans a1 a2, fun y hy => (g2 y hy).2.2.2.2.2⟩, ⟨by rw [<- h3.1]; exact Nat.le_trans b1 b2, iP h3 b5 (fun _ _ => rf) g3⟩, ⟨Nat.le_trans d1 d2, fun _ _ => trivial⟩, Nat.le_trans e1 e2, g8.2.2, g9⟩
end Go.Proofs.YtigipcbnfeoliaaGreatDoor
