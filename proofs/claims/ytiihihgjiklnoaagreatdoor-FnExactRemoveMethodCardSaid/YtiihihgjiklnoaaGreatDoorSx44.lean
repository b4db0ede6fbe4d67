/- Part 44 of the proof. -/
import Derived.Test.YtiihihgjiklnoaaGreatDoorSx41
import Derived.Test.YtiihihgjiklnoaaGreatDoorSx40
import Derived.Test.YtiihihgjiklnoaaGreatDoorSx27
set_option maxHeartbeats 2000000
set_option maxRecDepth 20000
namespace Go.Proofs.YtiihihgjiklnoaaGreatDoor
open Go Go.RowKit
theorem aaU (x : ad) : x.pt.tvs = x.tw 0 := by simp [PT.tvs, PT.tvsL, ad.pt, ad.tw]
theorem yT {t : PT} {x : av} (h : f4 t x) : t.tvs = x.tw 0 := by
 obtain ⟨A2, c2, A3, c3, rfl⟩ := h
 simp [PT.tvs, PT.tvsL, av.tw, ad.pt, ad.tw, aS, PT.rowsL_map, Function.comp_def]
theorem aaw {t : PT} {x : aP} (h : gB t x) : t.tvs = x.tw 0 := by
 obtain ⟨A0, c0, l0, A1, c1, l1, A2, c2, h0, h1, rfl⟩ := h
 simp only [PT.tvs, PT.tvsL, aP.tw, nw h0 (fun _ _ => ln), nw h1 (fun _ _ => yT), PT.rowsL_map, List.map_map, List.append_nil, List.cons_append, List.nil_append]
 rfl
theorem uY {t : PT} {x : ao} (h : fb t x) : t.tvs = x.tw 0 := by
 obtain ⟨A7, c7, A8, c8, A9, c9, rfl⟩ := h
 simp [PT.tvs, PT.tvsL, ao.tw, ad.pt, ad.tw, PT.rowsL_map, Function.comp_def]
theorem ue {t : PT} {x : ak} (h : fm t x) : t.tvs = x.tw 0 := by
 obtain ⟨t0, t1, A2, c2, A3, c3, l3, A4, c4, A5, c5, h0, h1, h3, rfl⟩ := h
 simp only [PT.tvs, PT.tvsL, su h0, aaw h1, ak.tw, aB.tw, aP.tw, nw h3 (fun _ _ => uY), PT.rowsL_map, List.map_map, List.append_nil, List.cons_append, List.nil_append, aaU]
 rfl
theorem sK {w : World} {S : Nat -> Prop} {t : PT} {x : av} (h : f4 t x) (hs : ed w S t) (hx : x.sane) : av.small 9223372036854775807 x := by
 obtain ⟨A2, c2, A3, c3, rfl⟩ := h
 simp only [ed, cJ] at hs
 obtain ⟨_, _, ⟨a1, a2, _⟩, ⟨b1, b2, _⟩, _⟩ := hs
 simp only [List.length_map] at a1 b1
 exact ⟨⟨Nat.le_trans a1 a2, fun y hy => (hx.2.2.1 y hy).2.2⟩, Nat.le_trans b1 b2⟩
theorem vW {w : World} {S : Nat -> Prop} {t : PT} {x : aP} (h : gB t x) (hs : ed w S t) (hx : x.sane) : aP.small 9223372036854775807 x := by
 obtain ⟨A0, c0, l0, A1, c1, l1, A2, c2, h0, h1, rfl⟩ := h
 simp only [ed, cJ] at hs
 obtain ⟨⟨a1, a2, _, _, a5⟩, ⟨b1, b2, _, _, b5⟩, ⟨d1, d2, _, _, _⟩, _⟩ := hs
 simp only [List.length_map] at d1
 exact ⟨⟨by rw [<- h0.1]; exact Nat.le_trans a1 a2, je h0 a5 (fun _ _ => iW) hx.1⟩, ⟨by rw [<- h1.1]; exact Nat.le_trans b1 b2, je h1 b5 (fun _ _ => sK) hx.2.1⟩, Nat.le_trans d1 d2, hx.2.2.1⟩
theorem rz {w : World} {S : Nat -> Prop} {t : PT} {x : ao} (h : fb t x) (hs : ed w S t) (hx : x.sane) : ao.small 9223372036854775807 x := by
 obtain ⟨A7, c7, A8, c8, A9, c9, rfl⟩ := h
 simp only [ed, cJ] at hs
 obtain ⟨_, _, _, _, _, _, _, ⟨a1, a2, _⟩, ⟨b1, b2, _⟩, ⟨d1, d2, _⟩, _⟩ := hs
 simp only [List.length_map] at a1 b1 d1
 obtain ⟨_, _, _, _, _, _, g6, g7, g8, g9, _⟩ := hx
 exact ⟨g6.2.2, ⟨Nat.le_trans a1 a2, fun y hy => (g7 y hy).2.2⟩, ⟨Nat.le_trans b1 b2, fun y hy => (g8 y hy).2.2⟩, ⟨Nat.le_trans d1 d2, fun y hy => (g9 y hy).2.2⟩⟩
theorem oK {w : World} {S : Nat -> Prop} {t : PT} {x : ak} (h : fm t x) (hs : ed w S t) (hx : x.sane) : ak.small 9223372036854775807 x := by
 obtain ⟨t0, t1, A2, c2, A3, c3, l3, A4, c4, A5, c5, h0, h1, h3, rfl⟩ := h
 simp only [ed, cJ] at hs
 obtain ⟨s0, s1, ⟨a1, a2, _⟩, ⟨b1, b2, _, _, b5⟩, ⟨d1, d2, _⟩, ⟨e1, e2, _⟩, _⟩ := hs
 simp only [List.length_map] at a1 d1 e1
 obtain ⟨g0, g1, g2, g3, _, _, _, _, g8, g9⟩ := hx
 exact ⟨pD h0 s0 g0, vW h1 s1 g1, ⟨Nat.le_trans a1 a2, fun y hy => (g2 y hy).2.2.2.2.2⟩, ⟨by rw [<- h3.1]; exact Nat.le_trans b1 b2, je h3 b5 (fun _ _ => rz) g3⟩, ⟨Nat.le_trans d1 d2, fun _ _ => trivial⟩, Nat.le_trans e1 e2, g8.2.2, g9⟩
end Go.Proofs.YtiihihgjiklnoaaGreatDoor
