/- Part 17 of the proof. -/
import Derived.Test.YtiihihgjiklnoaaGreatDoorRd3
import Derived.Test.YtiihihgjiklnoaaGreatDoorRd14
import Derived.Test.YtiihihgjiklnoaaGreatDoorRd13
set_option maxHeartbeats 2000000
set_option maxRecDepth 20000
namespace Go.Proofs.YtiihihgjiklnoaaGreatDoor
open Go Go.RowKit
def Pl : Type := Nat × Nat
def StP : Type := ((Nat × Nat) × List (Nat × Nat)) × (Pl × List (Pl × Pl)) × Pl
def abm : Type := CbP × StP × Pl × (Pl × List (Pl × Pl × Pl)) × Pl × Pl
section
variable {G : World -> Prop}
end
section
variable {G : World -> Prop}
end
theorem xo {a b : List aK} (h : a.Perm b) : a.flatten.Perm b.flatten := by
 induction h with
 | nil => exact .refl _
 | cons x _ ih => exact ih.append_left x
 | swap x y l => exact List.perm_append_comm_assoc y x l.flatten
 | trans _ _ h1 h2 => exact h1.trans h2
def k9 (k : Int) : Int := k + 1 + 1 + 1 + 1 + 1 + 1 + 1 + 1 + 1
section
variable {G : World -> Prop}
end
section
variable {G : World -> Prop}
end
end Go.Proofs.YtiihihgjiklnoaaGreatDoor
