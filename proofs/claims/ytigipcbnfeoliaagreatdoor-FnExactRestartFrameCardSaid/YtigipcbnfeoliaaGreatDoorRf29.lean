/- Part 29 of the proof: the texts IvW. -/
import Derived.Test.YtigipcbnfeoliaaGreatDoorRf7
import Derived.Test.YtigipcbnfeoliaaGreatDoorRf24
import Derived.Test.YtigipcbnfeoliaaGreatDoorRf25
import Derived.Test.YtigipcbnfeoliaaGreatDoorRf9
set_option linter.all false
set_option maxHeartbeats 2000000
set_option maxRecDepth 20000
namespace Go.Proofs.YtigipcbnfeoliaaGreatDoor
open Go Go.RowKit
theorem nG {α : Type} {R : PT -> α -> Prop} {f : α -> List TV} {l : List PT} {xs : List α} (h : AtL R l xs) (hf : ∀ t x, R t x -> t.tvs = f x) : PT.rowsL l = xs.map f := by
 rw [PT.rowsL_map]
 apply List.ext_getElem?
 intro i
 simp only [List.getElem?_map]
 by_cases hi : i < l.length
 ·have hj : i < xs.length := by rw [<- h.1]; exact hi
  rw [List.getElem?_eq_getElem hi, List.getElem?_eq_getElem hj]
  simp only [Option.map_some]
  rw [hf _ _ (h.get hi)]
 ·rw [List.getElem?_eq_none (by omega), List.getElem?_eq_none (by rw [<- h.1]; omega)]; rfl
theorem j0 {t : PT} {x : aa} (h : cX t x) : t.tvs = x.tw 0 := by
 obtain ⟨A, c, rfl⟩ := h
 simp [PT.tvs, PT.tvsL, aa.tw, bK, PT.rowsL_map, Function.comp_def]
theorem abi {t : PT} {x : aC} (h : jx t x) : t.tvs = x.tw 0 := by
 obtain ⟨A, c, rfl⟩ := h
 simp [PT.tvs, PT.tvsL, aC.tw, ai.pt, ai.tw, PT.rowsL_map, Function.comp_def]
theorem ue {t : PT} {x : aD} (h : dw t x) : t.tvs = x.tw 0 := by
 obtain ⟨A0, c0, l0, A1, c1, l1, A2, c2, h0, h1, rfl⟩ := h
 simp only [PT.tvs, PT.tvsL, aD.tw, nG h0 (fun _ _ => j0), nG h1 (fun _ _ => abi), PT.rowsL_map, List.map_map, List.append_nil, List.cons_append, List.nil_append]
 rfl
theorem iP {w : World} {S : Nat -> Prop} {t : PT} {x : aa} (h : cX t x) (hs : gG w S t) (hx : x.sane) : aa.small 9223372036854775807 x := by
 obtain ⟨A, c, rfl⟩ := h
 simp only [gG, dY] at hs
 have h1 := hs.2.2.1.1
 have h2 := hs.2.2.1.2.1
 simp only [List.length_map] at h1
 exact ⟨hx.1, Nat.le_trans h1 h2, hx.2.2⟩
theorem xO {w : World} {S : Nat -> Prop} {t : PT} {x : aC} (h : jx t x) (hs : gG w S t) (hx : x.sane) : aC.small 9223372036854775807 x := by
 obtain ⟨A, c, rfl⟩ := h
 simp only [gG, dY] at hs
 have h1 := hs.2.2.2.1.1
 have h2 := hs.2.2.2.1.2.1
 simp only [List.length_map] at h1
 exact ⟨Nat.le_trans h1 h2, fun y hy => (hx.2.2 y hy).2.2.2⟩
theorem tO {w : World} {S : Nat -> Prop} : ∀ {l : List PT}, dY w S l -> ∀ t ∈ l, gG w S t
 | _ :: _, h, t, ht => by
   simp only [dY] at h
   rcases List.mem_cons.1 ht with rfl | ht
   ·exact h.1
   ·exact tO h.2 t ht
theorem iz {α : Type} {R : PT -> α -> Prop} {w : World} {S : Nat -> Prop} {l : List PT} {xs : List α} (h : AtL R l xs) (hs : dY w S l) {p q : α -> Prop} (hp : ∀ t x, R t x -> gG w S t -> p x -> q x) (ha : ∀ x ∈ xs, p x) : ∀ x ∈ xs, q x := fun x hx => by
 obtain ⟨i, hi, rfl⟩ := List.getElem_of_mem hx
 have hj : i < l.length := by rw [h.1]; exact hi
 exact hp l[i] _ (h.get hj) (tO hs _ (List.getElem_mem hj)) (ha _ hx)
theorem oZ {w : World} {S : Nat -> Prop} {t : PT} {x : aD} (h : dw t x) (hs : gG w S t) (hx : x.sane) : aD.small 9223372036854775807 x := by
 obtain ⟨A0, c0, l0, A1, c1, l1, A2, c2, h0, h1, rfl⟩ := h
 simp only [gG, dY] at hs
 obtain ⟨⟨a1, a2, _, _, a5⟩, ⟨b1, b2, _, _, b5⟩, ⟨d1, d2, _, _, _⟩, _⟩ := hs
 simp only [List.length_map] at d1
 exact ⟨⟨by rw [<- h0.1]; exact Nat.le_trans a1 a2, iz h0 a5 (fun _ _ => iP) hx.1⟩, ⟨by rw [<- h1.1]; exact Nat.le_trans b1 b2, iz h1 b5 (fun _ _ => xO) hx.2.1⟩, ⟨Nat.le_trans d1 d2, fun y hy => (hx.2.2.1 y hy).2.1⟩⟩
end Go.Proofs.YtigipcbnfeoliaaGreatDoor
