/- Part 42 of the proof. -/
import Derived.Test.YtiihihgjiklnoaaGreatDoorSx3
import Derived.Test.YtiihihgjiklnoaaGreatDoorSx38
import Derived.Test.YtiihihgjiklnoaaGreatDoorSx39
import Derived.Test.YtiihihgjiklnoaaGreatDoorSx34
namespace Go.Proofs.YtiihihgjiklnoaaGreatDoor
open Go Go.RowKit
def imH (x : ak) (y : dE) : aI := cbO x.base y.1 ++ qe x.store.classes y.2.1.1
def imT (x : ak) (y : dE) : aI := [(y.2.1.2.2.1, y.2.1.2.2.2, .row 1 (cg x.store.output))] ++ ([(y.2.2.1.1, y.2.2.1.2, .row 6 (x.blocks.map (aq.tw 0)))] ++ (abx x.contexts y.2.2.2.1 ++ ([(y.2.2.2.2.1.1, y.2.2.2.2.1.2, .row 2 (x.processes.map (au.tw 0)))] ++ [(y.2.2.2.2.2.1, y.2.2.2.2.2.2, .row 1 (aS x.ready))])))
theorem aaq (x : ak) (y : dE) : imO x y = imH x y ++ ((y.2.1.2.1.1.1, y.2.1.2.1.1.2, .row 4 (nRg bQ x.store.objects y.2.1.2.1.2)) :: (nOg dh x.store.objects y.2.1.2.1.2 ++ imT x y)) := by
 simp [imO, stO, ad7, imH, imT]
theorem yH (x : ak) (y : dE) (R : aI) : cC (imO x y ++ R) ((y.2.1.2.1.1.1, y.2.1.2.1.1.2, .row 4 (nRg bQ x.store.objects y.2.1.2.1.2)) :: (imH x y ++ (nOg dh x.store.objects y.2.1.2.1.2 ++ (imT x y ++ R)))) := .perm (by
 rw [aaq]
 simp)
theorem t7 (x : ak) (y : dE) (z : Nat × Nat × ba) (R : aI) : cC ((y.2.1.2.1.1.1, y.2.1.2.1.1.2, .row 4 (nRg bQ x.store.objects y.2.1.2.1.2)) :: z :: (imH x y ++ (nOg dh x.store.objects y.2.1.2.1.2 ++ (imT x y ++ R)))) (imO x y ++ (z :: R)) := .perm (by
 rw [aaq]
 have h := iK (n := 6) [imH x y, [(y.2.1.2.1.1.1, y.2.1.2.1.1.2, ba.row 4 (nRg bQ x.store.objects y.2.1.2.1.2))], nOg dh x.store.objects y.2.1.2.1.2, imT x y, [z], R] [1, 4, 0, 2, 3, 5] rfl (by decide)
 simpa using h)
def zW (y : dE) (i j : Nat) : dE := (y.1, (y.2.1.1, (y.2.1.2.1.1, gM y.2.1.2.1.2 i j), y.2.1.2.2), y.2.2)
def aby (m : ak) (i j : Nat) : ak := ⟨m.base, ⟨m.store.classes, gM m.store.objects i j, m.store.output, m.store.ticks, m.store.budget, m.store.made⟩, m.blocks, m.contexts, m.processes, m.ready, m.now, m.status, m.value, m.fault⟩
theorem adi {m : ak} {y : dE} (h : imI m y) (i j : Nat) : imI (aby m i j) (zW y i j) := by
 obtain ⟨h1, ⟨h2, h3⟩, h4⟩ := h
 exact ⟨h1, ⟨h2, by show (gM _ i j).length = (gM _ i j).length; rw [kr, kr]; exact h3⟩, h4⟩
theorem acR (m : ak) (y : dE) (i j : Nat) : imC (aby m i j) (zW y i j) = imC m y := by
 simp [imC, aby, zW, kr]
theorem sA (m : ak) (y : dE) (h : imI m y) {i j : Nat} (hi : i < m.store.objects.length) (hj : j < m.store.objects.length) (R : aI) : cC (imO (aby m i j) (zW y i j) ++ R) ((y.2.1.2.1.1.1, y.2.1.2.1.1.2, .row 4 (gM (nRg bQ m.store.objects y.2.1.2.1.2) i j)) :: (imH m y ++ (nOg dh m.store.objects y.2.1.2.1.2 ++ (imT m y ++ R)))) := by
 have hp : y.2.1.2.1.2.length = m.store.objects.length := h.2.1.2
 have e1 : nRg bQ (aby m i j).store.objects (zW y i j).2.1.2.1.2 = gM (nRg bQ m.store.objects y.2.1.2.1.2) i j := sX bQ hp hi hj
 have e2 : (nOg dh (aby m i j).store.objects (zW y i j).2.1.2.1.2).Perm (nOg dh m.store.objects y.2.1.2.1.2) := by
   have h1 := sX dh (l := m.store.objects) (ps := y.2.1.2.1.2) hp hi hj
   show (List.zipWith dh (gM m.store.objects i j) (gM y.2.1.2.1.2 i j)).flatten.Perm _
   rw [h1]
   exact ji (yU _ (by simp [hp]; omega) (by simp [hp]; omega))
 have k := yH (aby m i j) (zW y i j) R
 rw [e1] at k
 refine k.trans (.perm ?_)
 exact (((e2.append_right _).append_left _).cons _)
theorem tO {m : ak} {y : dE} (h : imI m y) {i j : Nat} (hi : i < m.store.objects.length) (hj : j < m.store.objects.length) : ∃ p q, (nRg bQ m.store.objects y.2.1.2.1.2)[i]? = some (bQ m.store.objects[i] p) /\ (nRg bQ m.store.objects y.2.1.2.1.2)[j]? = some (bQ m.store.objects[j] q) /\ ((nRg bQ m.store.objects y.2.1.2.1.2).set i (bQ m.store.objects[j] q)).set j (bQ m.store.objects[i] p) = gM (nRg bQ m.store.objects y.2.1.2.1.2) i j := by
 have hp : y.2.1.2.1.2.length = m.store.objects.length := h.2.1.2
 have hl : (nRg bQ m.store.objects y.2.1.2.1.2).length = m.store.objects.length := gF _ hp
 have gi : (nRg bQ m.store.objects y.2.1.2.1.2)[i]'(by omega) = bQ m.store.objects[i] (y.2.1.2.1.2[i]'(by omega)) := by simp [nRg]
 have gj : (nRg bQ m.store.objects y.2.1.2.1.2)[j]'(by omega) = bQ m.store.objects[j] (y.2.1.2.1.2[j]'(by omega)) := by simp [nRg]
 refine ⟨y.2.1.2.1.2[i]'(by omega), y.2.1.2.1.2[j]'(by omega), ?_, ?_, ?_⟩
 ·rw [<- gi]; exact List.getElem?_eq_getElem _
 ·rw [<- gj]; exact List.getElem?_eq_getElem _
 ·rw [lc (l := nRg bQ m.store.objects y.2.1.2.1.2) (by omega) (by omega), gi, gj]
end Go.Proofs.YtiihihgjiklnoaaGreatDoor
