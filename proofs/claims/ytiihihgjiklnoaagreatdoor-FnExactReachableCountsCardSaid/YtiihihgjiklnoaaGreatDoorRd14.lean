/- Part 14 of the proof. -/
import Derived.Test.YtiihihgjiklnoaaGreatDoorRd3
import Derived.Test.YtiihihgjiklnoaaGreatDoorRd8
import Derived.Test.YtiihihgjiklnoaaGreatDoorRd9
set_option maxHeartbeats 2000000
set_option maxRecDepth 20000
namespace Go.Proofs.YtiihihgjiklnoaaGreatDoor
open Go Go.RowKit
section
variable {α : Type} {mk : Int -> α -> α} {nx : Int -> α -> Int}
end
section
variable {G : World -> Prop}
end
def CbP : Type := ((Nat × Nat) × List (Nat × Nat)) × ((Nat × Nat) × List (Nat × Nat)) × (Nat × Nat)
section
variable {G : World -> Prop}
end
def oA (objs : aK) (l l' : List TV) : Prop := l'.length = l.length /\ ∀ (j : Nat) (t t' : TV), l[j]? = some t -> l'[j]? = some t' -> cF objs t t'
theorem oA.nil {objs : aK} : oA objs [] [] := ⟨rfl, by simp⟩
theorem oA.cons {objs : aK} {t t' : TV} {l l' : List TV} (h : cF objs t t') (hr : oA objs l l') : oA objs (t :: l) (t' :: l') := ⟨by simp [hr.1], fun j u u' h1 h2 => by
 cases j with
 | zero => simp at h1 h2; subst h1; subst h2; exact h
 | succ j => exact hr.2 j u u' (by simpa using h1) (by simpa using h2)⟩
theorem oA.append {objs : aK} {a a' b b' : List TV} (h : oA objs a a') (k : oA objs b b') : oA objs (a ++ b) (a' ++ b') := ⟨by simp [h.1, k.1], fun j u u' h1 h2 => by
 by_cases hj : j < a.length
 ·rw [List.getElem?_append_left hj] at h1
  rw [List.getElem?_append_left (by rw [h.1]; exact hj)] at h2
  exact h.2 j u u' h1 h2
 ·rw [List.getElem?_append_right (by omega)] at h1
  rw [List.getElem?_append_right (by rw [h.1]; omega)] at h2
  rw [h.1] at h2
  exact k.2 _ u u' h1 h2⟩
section
variable {G : World -> Prop}
end
section
variable {G : World -> Prop}
end
section
variable {G : World -> Prop}
end
section
variable {G : World -> Prop}
end
section
variable {G : World -> Prop}
end
end Go.Proofs.YtiihihgjiklnoaaGreatDoor
