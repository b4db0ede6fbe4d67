/- Part 27 of the proof. -/
import Derived.Test.YtiihihgjiklnoaaGreatDoorSx3
import Derived.Test.YtiihihgjiklnoaaGreatDoorSx22
import Derived.Test.YtiihihgjiklnoaaGreatDoorSx23
import Derived.Test.YtiihihgjiklnoaaGreatDoorSx8
set_option maxHeartbeats 2000000
set_option maxRecDepth 20000
namespace Go.Proofs.YtiihihgjiklnoaaGreatDoor
open Go Go.RowKit
theorem nw {α : Type} {R : PT -> α -> Prop} {f : α -> List TV} {l : List PT} {xs : List α} (h : AtL R l xs) (hf : ∀ t x, R t x -> t.tvs = f x) : PT.rowsL l = xs.map f := by
 rw [PT.rowsL_map]
 apply List.ext_getElem?
 intro i
 simp only [List.getElem?_map]
 by_cases hi : i < l.length
 ·have hj : i < xs.length := by rw [<- h.1]; exact hi
  rw [List.getElem?_eq_getElem hi, List.getElem?_eq_getElem hj]
  simp only [Option.map_some]
  rw [hf _ _ (h.get hi)]
 ·rw [List.getElem?_eq_none (by omega), List.getElem?_eq_none (by rw [<- h.1]; omega)]; rfl
theorem ln {t : PT} {x : aa} (h : dk t x) : t.tvs = x.tw 0 := by
 obtain ⟨A, c, rfl⟩ := h
 simp [PT.tvs, PT.tvsL, aa.tw, cg, PT.rowsL_map, Function.comp_def]
theorem abI {t : PT} {x : az} (h : j2 t x) : t.tvs = x.tw 0 := by
 obtain ⟨A, c, rfl⟩ := h
 simp [PT.tvs, PT.tvsL, az.tw, ah.pt, ah.tw, PT.rowsL_map, Function.comp_def]
theorem su {t : PT} {x : aB} (h : dG t x) : t.tvs = x.tw 0 := by
 obtain ⟨A0, c0, l0, A1, c1, l1, A2, c2, h0, h1, rfl⟩ := h
 simp only [PT.tvs, PT.tvsL, aB.tw, nw h0 (fun _ _ => ln), nw h1 (fun _ _ => abI), PT.rowsL_map, List.map_map, List.append_nil, List.cons_append, List.nil_append]
 rfl
theorem iW {w : World} {S : Nat -> Prop} {t : PT} {x : aa} (h : dk t x) (hs : ed w S t) (hx : x.sane) : aa.small 9223372036854775807 x := by
 obtain ⟨A, c, rfl⟩ := h
 simp only [ed, cJ] at hs
 have h1 := hs.2.2.1.1
 have h2 := hs.2.2.1.2.1
 simp only [List.length_map] at h1
 exact ⟨hx.1, Nat.le_trans h1 h2, hx.2.2⟩
theorem ye {w : World} {S : Nat -> Prop} {t : PT} {x : az} (h : j2 t x) (hs : ed w S t) (hx : x.sane) : az.small 9223372036854775807 x := by
 obtain ⟨A, c, rfl⟩ := h
 simp only [ed, cJ] at hs
 have h1 := hs.2.2.2.1.1
 have h2 := hs.2.2.2.1.2.1
 simp only [List.length_map] at h1
 exact ⟨Nat.le_trans h1 h2, fun y hy => (hx.2.2 y hy).2.2.2⟩
theorem uk {w : World} {S : Nat -> Prop} : ∀ {l : List PT}, cJ w S l -> ∀ t ∈ l, ed w S t
 | _ :: _, h, t, ht => by
   simp only [cJ] at h
   rcases List.mem_cons.1 ht with rfl | ht
   ·exact h.1
   ·exact uk h.2 t ht
theorem je {α : Type} {R : PT -> α -> Prop} {w : World} {S : Nat -> Prop} {l : List PT} {xs : List α} (h : AtL R l xs) (hs : cJ w S l) {p q : α -> Prop} (hp : ∀ t x, R t x -> ed w S t -> p x -> q x) (ha : ∀ x ∈ xs, p x) : ∀ x ∈ xs, q x := fun x hx => by
 obtain ⟨i, hi, rfl⟩ := List.getElem_of_mem hx
 have hj : i < l.length := by rw [h.1]; exact hi
 exact hp l[i] _ (h.get hj) (uk hs _ (List.getElem_mem hj)) (ha _ hx)
theorem pD {w : World} {S : Nat -> Prop} {t : PT} {x : aB} (h : dG t x) (hs : ed w S t) (hx : x.sane) : aB.small 9223372036854775807 x := by
 obtain ⟨A0, c0, l0, A1, c1, l1, A2, c2, h0, h1, rfl⟩ := h
 simp only [ed, cJ] at hs
 obtain ⟨⟨a1, a2, _, _, a5⟩, ⟨b1, b2, _, _, b5⟩, ⟨d1, d2, _, _, _⟩, _⟩ := hs
 simp only [List.length_map] at d1
 exact ⟨⟨by rw [<- h0.1]; exact Nat.le_trans a1 a2, je h0 a5 (fun _ _ => iW) hx.1⟩, ⟨by rw [<- h1.1]; exact Nat.le_trans b1 b2, je h1 b5 (fun _ _ => ye) hx.2.1⟩, ⟨Nat.le_trans d1 d2, fun y hy => (hx.2.2.1 y hy).2.1⟩⟩
end Go.Proofs.YtiihihgjiklnoaaGreatDoor
