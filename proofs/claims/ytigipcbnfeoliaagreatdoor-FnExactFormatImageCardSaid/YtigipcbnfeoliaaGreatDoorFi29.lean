/- Part 29 of the proof: the texts IvW. -/
import Derived.Test.YtigipcbnfeoliaaGreatDoorFi3
import Derived.Test.YtigipcbnfeoliaaGreatDoorFi23
import Derived.Test.YtigipcbnfeoliaaGreatDoorFi25
import Derived.Test.YtigipcbnfeoliaaGreatDoorFi8
set_option linter.all false
set_option maxHeartbeats 2000000
set_option maxRecDepth 20000
namespace Go.Proofs.YtigipcbnfeoliaaGreatDoor
open Go Go.RowKit
theorem nG {α : Type} {R : PT -> α -> Prop} {f : α -> List TV} {l : List PT} {xs : List α} (h : AtL R l xs) (hf : ∀ t x, R t x -> t.tvs = f x) : PT.rowsL l = xs.map f := by
 rw [PT.rowsL_map]
 apply List.ext_getElem?
 intro i
 simp only [List.getElem?_map]
 by_cases hi : i < l.length
 ·have hj : i < xs.length := by rw [<- h.1]; exact hi
  rw [List.getElem?_eq_getElem hi, List.getElem?_eq_getElem hj]
  simp only [Option.map_some]
  rw [hf _ _ (h.get hi)]
 ·rw [List.getElem?_eq_none (by omega), List.getElem?_eq_none (by rw [<- h.1]; omega)]; rfl
theorem lx {t : PT} {x : aa} (h : cQ t x) : t.tvs = x.tw 0 := by
 obtain ⟨A, c, rfl⟩ := h
 simp [PT.tvs, PT.tvsL, aa.tw, aT, PT.rowsL_map, Function.comp_def]
theorem ab4 {t : PT} {x : aw} (h : kd t x) : t.tvs = x.tw 0 := by
 obtain ⟨A, c, rfl⟩ := h
 simp [PT.tvs, PT.tvsL, aw.tw, ag.pt, ag.tw, PT.rowsL_map, Function.comp_def]
theorem uo {t : PT} {x : aA} (h : dr t x) : t.tvs = x.tw 0 := by
 obtain ⟨A0, c0, l0, A1, c1, l1, A2, c2, h0, h1, rfl⟩ := h
 simp only [PT.tvs, PT.tvsL, aA.tw, nG h0 (fun _ _ => lx), nG h1 (fun _ _ => ab4), PT.rowsL_map, List.map_map, List.append_nil, List.cons_append, List.nil_append]
 rfl
theorem iX {w : World} {S : Nat -> Prop} {t : PT} {x : aa} (h : cQ t x) (hs : d9 w S t) (hx : x.sane) : aa.small 9223372036854775807 x := by
 obtain ⟨A, c, rfl⟩ := h
 simp only [d9, cx] at hs
 have h1 := hs.2.2.1.1
 have h2 := hs.2.2.1.2.1
 simp only [List.length_map] at h1
 exact ⟨hx.1, Nat.le_trans h1 h2, hx.2.2⟩
theorem yk {w : World} {S : Nat -> Prop} {t : PT} {x : aw} (h : kd t x) (hs : d9 w S t) (hx : x.sane) : aw.small 9223372036854775807 x := by
 obtain ⟨A, c, rfl⟩ := h
 simp only [d9, cx] at hs
 have h1 := hs.2.2.2.1.1
 have h2 := hs.2.2.2.1.2.1
 simp only [List.length_map] at h1
 exact ⟨Nat.le_trans h1 h2, fun y hy => (hx.2.2 y hy).2.2.2⟩
theorem sK {w : World} {S : Nat -> Prop} : ∀ {l : List PT}, cx w S l -> ∀ t ∈ l, d9 w S t
 | _ :: _, h, t, ht => by
   simp only [cx] at h
   rcases List.mem_cons.1 ht with rfl | ht
   ·exact h.1
   ·exact sK h.2 t ht
theorem iP {α : Type} {R : PT -> α -> Prop} {w : World} {S : Nat -> Prop} {l : List PT} {xs : List α} (h : AtL R l xs) (hs : cx w S l) {p q : α -> Prop} (hp : ∀ t x, R t x -> d9 w S t -> p x -> q x) (ha : ∀ x ∈ xs, p x) : ∀ x ∈ xs, q x := fun x hx => by
 obtain ⟨i, hi, rfl⟩ := List.getElem_of_mem hx
 have hj : i < l.length := by rw [h.1]; exact hi
 exact hp l[i] _ (h.get hj) (sK hs _ (List.getElem_mem hj)) (ha _ hx)
theorem pi {w : World} {S : Nat -> Prop} {t : PT} {x : aA} (h : dr t x) (hs : d9 w S t) (hx : x.sane) : aA.small 9223372036854775807 x := by
 obtain ⟨A0, c0, l0, A1, c1, l1, A2, c2, h0, h1, rfl⟩ := h
 simp only [d9, cx] at hs
 obtain ⟨⟨a1, a2, _, _, a5⟩, ⟨b1, b2, _, _, b5⟩, ⟨d1, d2, _, _, _⟩, _⟩ := hs
 simp only [List.length_map] at d1
 exact ⟨⟨by rw [<- h0.1]; exact Nat.le_trans a1 a2, iP h0 a5 (fun _ _ => iX) hx.1⟩, ⟨by rw [<- h1.1]; exact Nat.le_trans b1 b2, iP h1 b5 (fun _ _ => yk) hx.2.1⟩, ⟨Nat.le_trans d1 d2, fun y hy => (hx.2.2.1 y hy).2.1⟩⟩
end Go.Proofs.YtigipcbnfeoliaaGreatDoor
