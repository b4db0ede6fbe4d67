/- Part 44 of the proof: the texts ImU. -/
import Derived.Test.YtiihihgjiklnoaaGreatDoorSr41
import Derived.Test.YtiihihgjiklnoaaGreatDoorSr40
import Derived.Test.YtiihihgjiklnoaaGreatDoorSr27
set_option linter.all false
set_option maxHeartbeats 2000000
set_option maxRecDepth 20000
namespace Go.Proofs.YtiihihgjiklnoaaGreatDoor
open Go Go.RowKit
theorem aaJ (x : ab) : x.pt.tvs = x.tw 0 := by simp [PT.tvs, PT.tvsL, ab.pt, ab.tw]
theorem xX {t : PT} {x : au} (h : fP t x) : t.tvs = x.tw 0 := by
 obtain ⟨A2, c2, A3, c3, rfl⟩ := h
 simp [PT.tvs, PT.tvsL, au.tw, ab.pt, ab.tw, aS, PT.rowsL_map, Function.comp_def]
theorem z6 {t : PT} {x : aR} (h : gn t x) : t.tvs = x.tw 0 := by
 obtain ⟨A0, c0, l0, A1, c1, l1, A2, c2, h0, h1, rfl⟩ := h
 simp only [PT.tvs, PT.tvsL, aR.tw, oz h0 (fun _ _ => kb), oz h1 (fun _ _ => xX), PT.rowsL_map, List.map_map, List.append_nil, List.cons_append, List.nil_append]
 rfl
theorem vM {t : PT} {x : ap} (h : fa t x) : t.tvs = x.tw 0 := by
 obtain ⟨A7, c7, A8, c8, A9, c9, rfl⟩ := h
 simp [PT.tvs, PT.tvsL, ap.tw, ab.pt, ab.tw, PT.rowsL_map, Function.comp_def]
theorem aaq {t : PT} {x : ao} (h : gw t x) : t.tvs = x.tw 0 := by
 obtain ⟨t0, t1, A2, c2, A3, c3, l3, A4, c4, A5, c5, h0, h1, h3, rfl⟩ := h
 simp only [PT.tvs, PT.tvsL, ut h0, z6 h1, ao.tw, aD.tw, aR.tw, oz h3 (fun _ _ => vM), PT.rowsL_map, List.map_map, List.append_nil, List.cons_append, List.nil_append, aaJ]
 rfl
theorem tQ {w : World} {S : Nat -> Prop} {t : PT} {x : au} (h : fP t x) (hs : en w S t) (hx : x.sane) : au.small 9223372036854775807 x := by
 obtain ⟨A2, c2, A3, c3, rfl⟩ := h
 simp only [en, cF] at hs
 obtain ⟨_, _, ⟨a1, a2, _⟩, ⟨b1, b2, _⟩, _⟩ := hs
 simp only [List.length_map] at a1 b1
 exact ⟨⟨Nat.le_trans a1 a2, fun y hy => (hx.2.2.1 y hy).2.2⟩, Nat.le_trans b1 b2⟩
theorem uJ {w : World} {S : Nat -> Prop} {t : PT} {x : aR} (h : gn t x) (hs : en w S t) (hx : x.sane) : aR.small 9223372036854775807 x := by
 obtain ⟨A0, c0, l0, A1, c1, l1, A2, c2, h0, h1, rfl⟩ := h
 simp only [en, cF] at hs
 obtain ⟨⟨a1, a2, _, _, a5⟩, ⟨b1, b2, _, _, b5⟩, ⟨d1, d2, _, _, _⟩, _⟩ := hs
 simp only [List.length_map] at d1
 exact ⟨⟨by rw [<- h0.1]; exact Nat.le_trans a1 a2, iX h0 a5 (fun _ _ => jg) hx.1⟩, ⟨by rw [<- h1.1]; exact Nat.le_trans b1 b2, iX h1 b5 (fun _ _ => tQ) hx.2.1⟩, Nat.le_trans d1 d2, hx.2.2.1⟩
theorem rQ {w : World} {S : Nat -> Prop} {t : PT} {x : ap} (h : fa t x) (hs : en w S t) (hx : x.sane) : ap.small 9223372036854775807 x := by
 obtain ⟨A7, c7, A8, c8, A9, c9, rfl⟩ := h
 simp only [en, cF] at hs
 obtain ⟨_, _, _, _, _, _, _, ⟨a1, a2, _⟩, ⟨b1, b2, _⟩, ⟨d1, d2, _⟩, _⟩ := hs
 simp only [List.length_map] at a1 b1 d1
 obtain ⟨_, _, _, _, _, _, g6, g7, g8, g9, _⟩ := hx
 exact ⟨g6.2.2, ⟨Nat.le_trans a1 a2, fun y hy => (g7 y hy).2.2⟩, ⟨Nat.le_trans b1 b2, fun y hy => (g8 y hy).2.2⟩, ⟨Nat.le_trans d1 d2, fun y hy => (g9 y hy).2.2⟩⟩
theorem wh {w : World} {S : Nat -> Prop} {t : PT} {x : ao} (h : gw t x) (hs : en w S t) (hx : x.sane) : ao.small 9223372036854775807 x := by
 obtain ⟨t0, t1, A2, c2, A3, c3, l3, A4, c4, A5, c5, h0, h1, h3, rfl⟩ := h
 simp only [en, cF] at hs
 obtain ⟨s0, s1, ⟨a1, a2, _⟩, ⟨b1, b2, _, _, b5⟩, ⟨d1, d2, _⟩, ⟨e1, e2, _⟩, _⟩ := hs
 simp only [List.length_map] at a1 d1 e1
 obtain ⟨g0, g1, g2, g3, _, _, _, _, g8, g9⟩ := hx
 exact ⟨o8 h0 s0 g0, uJ h1 s1 g1, ⟨Nat.le_trans a1 a2, fun y hy => (g2 y hy).2.2.2.2.2⟩, ⟨by rw [<- h3.1]; exact Nat.le_trans b1 b2, iX h3 b5 (fun _ _ => rQ) g3⟩, ⟨Nat.le_trans d1 d2, fun _ _ => trivial⟩, Nat.le_trans e1 e2, g8.2.2, g9⟩
end Go.Proofs.YtiihihgjiklnoaaGreatDoor
