/- Part 27 of the proof: the texts IvW. -/
import Derived.Test.YtiihihgjiklnoaaGreatDoorSr3
import Derived.Test.YtiihihgjiklnoaaGreatDoorSr22
import Derived.Test.YtiihihgjiklnoaaGreatDoorSr23
import Derived.Test.YtiihihgjiklnoaaGreatDoorSr8
set_option linter.all false
set_option maxHeartbeats 2000000
set_option maxRecDepth 20000
namespace Go.Proofs.YtiihihgjiklnoaaGreatDoor
open Go Go.RowKit
theorem oz {α : Type} {R : PT -> α -> Prop} {f : α -> List TV} {l : List PT} {xs : List α} (h : AtL R l xs) (hf : ∀ t x, R t x -> t.tvs = f x) : PT.rowsL l = xs.map f := by
 rw [PT.rowsL_map]
 apply List.ext_getElem?
 intro i
 simp only [List.getElem?_map]
 by_cases hi : i < l.length
 ·have hj : i < xs.length := by rw [<- h.1]; exact hi
  rw [List.getElem?_eq_getElem hi, List.getElem?_eq_getElem hj]
  simp only [Option.map_some]
  rw [hf _ _ (h.get hi)]
 ·rw [List.getElem?_eq_none (by omega), List.getElem?_eq_none (by rw [<- h.1]; omega)]; rfl
theorem kb {t : PT} {x : aa} (h : df t x) : t.tvs = x.tw 0 := by
 obtain ⟨A, c, rfl⟩ := h
 simp [PT.tvs, PT.tvsL, aa.tw, bN, PT.rowsL_map, Function.comp_def]
theorem abZ {t : PT} {x : aC} (h : j4 t x) : t.tvs = x.tw 0 := by
 obtain ⟨A, c, rfl⟩ := h
 simp [PT.tvs, PT.tvsL, aC.tw, ah.pt, ah.tw, PT.rowsL_map, Function.comp_def]
theorem ut {t : PT} {x : aD} (h : dI t x) : t.tvs = x.tw 0 := by
 obtain ⟨A0, c0, l0, A1, c1, l1, A2, c2, h0, h1, rfl⟩ := h
 simp only [PT.tvs, PT.tvsL, aD.tw, oz h0 (fun _ _ => kb), oz h1 (fun _ _ => abZ), PT.rowsL_map, List.map_map, List.append_nil, List.cons_append, List.nil_append]
 rfl
theorem jg {w : World} {S : Nat -> Prop} {t : PT} {x : aa} (h : df t x) (hs : en w S t) (hx : x.sane) : aa.small 9223372036854775807 x := by
 obtain ⟨A, c, rfl⟩ := h
 simp only [en, cF] at hs
 have h1 := hs.2.2.1.1
 have h2 := hs.2.2.1.2.1
 simp only [List.length_map] at h1
 exact ⟨hx.1, Nat.le_trans h1 h2, hx.2.2⟩
theorem xY {w : World} {S : Nat -> Prop} {t : PT} {x : aC} (h : j4 t x) (hs : en w S t) (hx : x.sane) : aC.small 9223372036854775807 x := by
 obtain ⟨A, c, rfl⟩ := h
 simp only [en, cF] at hs
 have h1 := hs.2.2.2.1.1
 have h2 := hs.2.2.2.1.2.1
 simp only [List.length_map] at h1
 exact ⟨Nat.le_trans h1 h2, fun y hy => (hx.2.2 y hy).2.2.2⟩
theorem tY {w : World} {S : Nat -> Prop} : ∀ {l : List PT}, cF w S l -> ∀ t ∈ l, en w S t
 | _ :: _, h, t, ht => by
   simp only [cF] at h
   rcases List.mem_cons.1 ht with rfl | ht
   ·exact h.1
   ·exact tY h.2 t ht
theorem iX {α : Type} {R : PT -> α -> Prop} {w : World} {S : Nat -> Prop} {l : List PT} {xs : List α} (h : AtL R l xs) (hs : cF w S l) {p q : α -> Prop} (hp : ∀ t x, R t x -> en w S t -> p x -> q x) (ha : ∀ x ∈ xs, p x) : ∀ x ∈ xs, q x := fun x hx => by
 obtain ⟨i, hi, rfl⟩ := List.getElem_of_mem hx
 have hj : i < l.length := by rw [h.1]; exact hi
 exact hp l[i] _ (h.get hj) (tY hs _ (List.getElem_mem hj)) (ha _ hx)
theorem o8 {w : World} {S : Nat -> Prop} {t : PT} {x : aD} (h : dI t x) (hs : en w S t) (hx : x.sane) : aD.small 9223372036854775807 x := by
 obtain ⟨A0, c0, l0, A1, c1, l1, A2, c2, h0, h1, rfl⟩ := h
 simp only [en, cF] at hs
 obtain ⟨⟨a1, a2, _, _, a5⟩, ⟨b1, b2, _, _, b5⟩, ⟨d1, d2, _, _, _⟩, _⟩ := hs
 simp only [List.length_map] at d1
 exact ⟨⟨by rw [<- h0.1]; exact Nat.le_trans a1 a2, iX h0 a5 (fun _ _ => jg) hx.1⟩, ⟨by rw [<- h1.1]; exact Nat.le_trans b1 b2, iX h1 b5 (fun _ _ => xY) hx.2.1⟩, ⟨Nat.le_trans d1 d2, fun y hy => (hx.2.2.1 y hy).2.1⟩⟩
end Go.Proofs.YtiihihgjiklnoaaGreatDoor
