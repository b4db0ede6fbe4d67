/- Part 25 of the proof. -/
import Derived.Test.YtiihihgjiklnoaaGreatDoorSx3
import Derived.Test.YtiihihgjiklnoaaGreatDoorSx14
import Derived.Test.YtiihihgjiklnoaaGreatDoorSx22
set_option maxHeartbeats 2000000
set_option maxRecDepth 20000
namespace Go.Proofs.YtiihihgjiklnoaaGreatDoor
open Go Go.RowKit
section
variable {P : Program} {w0 : World} {N : Nat} {Q : Exit -> Act -> World -> Prop} {env : Env} {objs : aI}
theorem gL {x : Exit} {s b : Nat} {cells : List TV} (i m : Nat) (hm : 0 < m) (hi : cells[i]? = some .nils) (h : ∀ ss, AQ w0 N Q x env ((s, b, .box (cells.set i (.ms ss 0 0 0))) :: (ss, 0, .row m []) :: objs)) : AQ w0 N Q x env ((s, b, .box cells) :: objs) := ⟨fun a w hs => by
 obtain ⟨ss, h1⟩ := hs.nilC i m hm hi
 exact (h ss).run a w h1⟩
end
theorem uB (p : ar -> Bool) {l : List ar} {i : Nat} (h : i < l.length) (hp : p l[i] = true) : (l.take (i + 1)).filter p = (l.take i).filter p ++ [l[i]] := by
 rw [cY h, List.filter_append, List.filter_cons_of_pos hp, List.filter_nil]
theorem lb (p : ar -> Bool) {l : List ar} {i : Nat} (h : i < l.length) (hp : p l[i] = false) : (l.take (i + 1)).filter p = (l.take i).filter p := by
 rw [cY h, List.filter_append, List.filter_cons_of_neg (by rw [hp]; decide), List.filter_nil, List.append_nil]
def aeq (p : ar -> Bool) (l : List ar) : Int := if l.all (fun e => !p e) then -1 else l.findIdx p
theorem tM {p : ar -> Bool} {l : List ar} (h : ∀ y ∈ l, p y = false) : aeq p l = -1 := by
 unfold aeq
 rw [if_pos (List.all_eq_true.2 fun y hy => by rw [h y hy]; rfl)]
theorem abn {p : ar -> Bool} {l : List ar} {i : Nat} (hi : i < l.length) (e : p l[i] = true) (h : ∀ y ∈ l.take i, p y = false) : aeq p l = i := by
 unfold aeq
 rw [if_neg (fun ha => by have := List.all_eq_true.1 ha _ (List.getElem_mem hi); rw [e] at this; cases this), (List.findIdx_eq hi).2 ⟨e, fun j hj => ?_⟩]
 refine h _ (List.mem_take_iff_getElem.2 ⟨j, by omega, rfl⟩)
section
variable {G : World -> Prop}
def aeo (p : ar -> Bool) (l : List ar) (y : Nat × List ar) : Prop := y.1 <= l.length /\ y.2.length = l.length /\ y.2.take ((l.take y.1).filter (fun e => !p e)).length = (l.take y.1).filter (fun e => !p e) /\ y.2.drop y.1 = l.drop y.1 /\ ((l.take y.1).filter (fun e => !p e)).length < y.1
theorem aa4 {p : ar -> Bool} {l c : List ar} {j : Nat} (h : aeo p l (j, c)) (hj : j < l.length) (hp : p l[j] = true) : aeo p l (j + 1, c) /\ (l.take (j + 1)).filter (fun e => !p e) = (l.take j).filter (fun e => !p e) := by
 have e := lb (fun e => !p e) hj (by simp [hp])
 obtain ⟨h1, h2, h3, h4, h5⟩ := h
 dsimp only at h1 h2 h3 h4 h5
 refine ⟨⟨by dsimp only; omega, h2, ?_, ?_, ?_⟩, e⟩ <;> dsimp only
 ·rw [e]; exact h3
 ·rw [<- List.drop_drop, <- List.drop_drop, h4]
 ·rw [e]; omega
theorem abc {p : ar -> Bool} {l c : List ar} {j : Nat} (h : aeo p l (j, c)) (hj : j < l.length) (hp : p l[j] = false) : aeo p l (j + 1, c.set ((l.take j).filter (fun e => !p e)).length l[j]) /\ ((l.take (j + 1)).filter (fun e => !p e)).length = ((l.take j).filter (fun e => !p e)).length + 1 := by
 have e := uB (fun e => !p e) hj (by simp [hp])
 obtain ⟨h1, h2, h3, h4, h5⟩ := h
 dsimp only at h1 h2 h3 h4 h5
 have e2 : ((l.take (j + 1)).filter (fun e => !p e)).length = ((l.take j).filter (fun e => !p e)).length + 1 := by rw [e, List.length_append]; rfl
 refine ⟨⟨by dsimp only; omega, by dsimp only; rw [List.length_set]; exact h2, ?_, ?_, ?_⟩, e2⟩ <;> dsimp only
 ·rw [e2, cY (by rw [List.length_set]; omega), List.getElem_set_self, List.take_set_of_le (Nat.le_refl _), h3, e]
 ·rw [List.drop_set_of_lt (by omega), <- List.drop_drop, <- List.drop_drop, h4]
 ·omega
end
section
variable {G : World -> Prop}
end
end Go.Proofs.YtiihihgjiklnoaaGreatDoor
