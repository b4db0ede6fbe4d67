/- Part 49 of the proof: the texts ImU. -/
import Derived.Test.YtiihihgjiklnoaaGreatDoorQb46
import Derived.Test.YtiihihgjiklnoaaGreatDoorQb47
import Derived.Test.YtiihihgjiklnoaaGreatDoorQb33
/- The law FnExactIsImage, walked. -/
namespace Go.Proofs.YtiihihgjiklnoaaGreatDoor
set_option maxRecDepth 20000
set_option maxHeartbeats 2000000
open Go Go.RowKit
theorem yn (x : ae) : x.pt.tvs = x.tw 0 := by simp [PT.tvs, PT.tvsL, ae.pt, ae.tw]
theorem wE {t : PT} {x : au} (h : fb t x) : t.tvs = x.tw 0 := by
  obtain ⟨A2, c2, A3, c3, rfl⟩ := h
  simp [PT.tvs, PT.tvsL, au.tw, ae.pt, ae.tw, aO, PT.rowsL_map, Function.comp_def]
theorem yo {t : PT} {x : aM} (h : ft t x) : t.tvs = x.tw 0 := by
  obtain ⟨A0, c0, l0, A1, c1, l1, A2, c2, h0, h1, rfl⟩ := h
  simp only [PT.tvs, PT.tvsL, aM.tw, nA h0 (fun _ _ => j1), nA h1 (fun _ _ => wE), PT.rowsL_map, List.map_map, List.append_nil, List.cons_append, List.nil_append]
  rfl
theorem tg {t : PT} {x : am} (h : ep t x) : t.tvs = x.tw 0 := by
  obtain ⟨A7, c7, A8, c8, A9, c9, rfl⟩ := h
  simp [PT.tvs, PT.tvsL, am.tw, ae.pt, ae.tw, PT.rowsL_map, Function.comp_def]
theorem rW {t : PT} {x : ak} (h : ez t x) : t.tvs = x.tw 0 := by
  obtain ⟨t0, t1, A2, c2, A3, c3, l3, A4, c4, A5, c5, h0, h1, h3, rfl⟩ := h
  simp only [PT.tvs, PT.tvsL, q1 h0, yo h1, ak.tw, aA.tw, aM.tw, nA h3 (fun _ _ => tg), PT.rowsL_map, List.map_map, List.append_nil, List.cons_append, List.nil_append, yn]
  rfl
theorem rM {w : World} {S : Nat → Prop} {t : PT} {x : au} (h : fb t x) (hs : dK w S t) (hx : x.sane) : au.small 9223372036854775807 x := by
  obtain ⟨A2, c2, A3, c3, rfl⟩ := h
  simp only [dK, cm] at hs
  obtain ⟨_, _, ⟨a1, a2, _⟩, ⟨b1, b2, _⟩, _⟩ := hs
  simp only [List.length_map] at a1 b1
  exact ⟨⟨Nat.le_trans a1 a2, fun y hy => (hx.2.2.1 y hy).2.2⟩, Nat.le_trans b1 b2⟩
theorem t7 {w : World} {S : Nat → Prop} {t : PT} {x : aM} (h : ft t x) (hs : dK w S t) (hx : x.sane) : aM.small 9223372036854775807 x := by
  obtain ⟨A0, c0, l0, A1, c1, l1, A2, c2, h0, h1, rfl⟩ := h
  simp only [dK, cm] at hs
  obtain ⟨⟨a1, a2, _, _, a5⟩, ⟨b1, b2, _, _, b5⟩, ⟨d1, d2, _, _, _⟩, _⟩ := hs
  simp only [List.length_map] at d1
  exact ⟨⟨by rw [← h0.1]; exact Nat.le_trans a1 a2, ic h0 a5 (fun _ _ => gU) hx.1⟩, ⟨by rw [← h1.1]; exact Nat.le_trans b1 b2, ic h1 b5 (fun _ _ => rM) hx.2.1⟩, Nat.le_trans d1 d2, hx.2.2.1⟩
theorem qO {w : World} {S : Nat → Prop} {t : PT} {x : am} (h : ep t x) (hs : dK w S t) (hx : x.sane) : am.small 9223372036854775807 x := by
  obtain ⟨A7, c7, A8, c8, A9, c9, rfl⟩ := h
  simp only [dK, cm] at hs
  obtain ⟨_, _, _, _, _, _, _, ⟨a1, a2, _⟩, ⟨b1, b2, _⟩, ⟨d1, d2, _⟩, _⟩ := hs
  simp only [List.length_map] at a1 b1 d1
  obtain ⟨_, _, _, _, _, _, g6, g7, g8, g9, _⟩ := hx
  exact ⟨g6.2.2, ⟨Nat.le_trans a1 a2, fun y hy => (g7 y hy).2.2⟩, ⟨Nat.le_trans b1 b2, fun y hy => (g8 y hy).2.2⟩, ⟨Nat.le_trans d1 d2, fun y hy => (g9 y hy).2.2⟩⟩
theorem mM {w : World} {S : Nat → Prop} {t : PT} {x : ak} (h : ez t x) (hs : dK w S t) (hx : x.sane) : ak.small 9223372036854775807 x := by
  obtain ⟨t0, t1, A2, c2, A3, c3, l3, A4, c4, A5, c5, h0, h1, h3, rfl⟩ := h
  simp only [dK, cm] at hs
  obtain ⟨s0, s1, ⟨a1, a2, _⟩, ⟨b1, b2, _, _, b5⟩, ⟨d1, d2, _⟩, ⟨e1, e2, _⟩, _⟩ := hs
  simp only [List.length_map] at a1 d1 e1
  obtain ⟨g0, g1, g2, g3, _, _, _, _, g8, g9⟩ := hx
  exact ⟨nG h0 s0 g0, t7 h1 s1 g1, ⟨Nat.le_trans a1 a2, fun y hy => (g2 y hy).2.2.2.2.2⟩, ⟨by rw [← h3.1]; exact Nat.le_trans b1 b2, ic h3 b5 (fun _ _ => qO) g3⟩, ⟨Nat.le_trans d1 d2, fun _ _ => trivial⟩, Nat.le_trans e1 e2, g8.2.2, g9⟩
end Go.Proofs.YtiihihgjiklnoaaGreatDoor
