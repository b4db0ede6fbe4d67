/- Part 45 of the proof. -/
import Derived.Test.YtiihihgjiklnoaaGreatDoorSx3
import Derived.Test.YtiihihgjiklnoaaGreatDoorSx43
import Derived.Test.YtiihihgjiklnoaaGreatDoorSx17
import Derived.Test.YtiihihgjiklnoaaGreatDoorSx44
import Derived.Test.YtiihihgjiklnoaaGreatDoorSx34
import Derived.Test.YtiihihgjiklnoaaGreatDoorSx31
set_option maxHeartbeats 4000000
set_option maxRecDepth 20000
namespace Go.Proofs.YtiihihgjiklnoaaGreatDoor
open Go Go.RowKit
theorem iZ (x : ak) (hb : x.small 9223372036854775807) (q0 : Int) (q1 : Int) : Ct Tryz.prog GL 7 [.agg (x.tw 0), .int .i64 q0, .int .i64 q1] (fun _ => .bool true) := by
 have hst := dx
 have hto := fun hx => qt hst 0 x hx
 have htw := fun hx => oo hst 0 x hx
 refine ap Tryz.func7 rfl Tryz.ntmps7 rfl rfl fun w0 _ hG => ?_
 have hsp := fun hx => ke w0.heap.size x hx q0 q1
 have him := fun (hx : x.small 1048576) => f5 0 x hx q0 q1
 have him2 := fun (hx : x.small 1048576) => f5 w0.heap.size x hx q0 q1
 have heq := fun hx => jG hst 0 w0.heap.size x hx
 have hmk := fun (hx : x.small 1048576) y hy => fL hst x y hy hx 1 (by omega)
 have hsm : x.small 1048576 -> (bB x q0 q1).small 1048576 := fun h => kP h q0 q1
 have hvw : ∀ {objs : aI} {y : dE}, imI x y -> (∀ o ∈ imO x y, o ∈ objs) -> bR objs (.agg (imC x y)) (.agg (x.tw 0)) := fun h1 h2 => oJ h1 h2
 have hnk := fun hx => jt (x := x) hx 1
 have hsz := qx hst 0 x 1048576 (by omega) hb
 generalize bB x q0 q1 = sx at hsp him him2 hsm
 generalize cf x q0 q1 = vb at hsp him him2
 have hnew := zO sx vb
 have hvs : ∀ {objs : aI} {y : dE}, imI sx y -> (∀ o ∈ imO sx y, o ∈ objs) -> bR objs (.agg (imC sx y)) (.agg (sx.tw 0)) := fun h1 h2 => oJ h1 h2
 unfold ak.tw at hto htw hsp heq hvw him him2 hsz |-
 unfold imC at hsp him him2 hnew hvs
 repeat' (first | refine H_ 3 ?_ | refine aL ?_ | ((with_reducible apply aJ); rfl; kernel_rfl; (repeat (first | exact aH.nil | ((with_reducible apply aH.cons); rfl))); exact hG; exact hsz; exact .nil _; intro y hy; refine bO ?_))
 refine ⟨?_⟩
 by_cases hneg : y < 0
 ·repeat' refine W_ ?_
  exact r1_
 have hx := hy.2.2 (by omega)
 replace hto := hto hx
 replace htw := htw hx
 replace hsp := hsp hx
 replace him := him hx
 replace him2 := him2 hx
 replace heq := heq hx
 replace hnk := hnk hx
 replace hmk := hmk hx
 replace hsm := hsm hx
 have hqs := jG hst 0 0 sx hsm
 clear hb hy hsz
 repeat' (first | refine H_ 6 ?_ | (refine ai ?_; intro ss bb) | refine ac ?_ | refine ab hG hst (hto) ?_ | ((with_reducible apply aJ); rfl; kernel_rfl; (repeat (first | exact aH.nil | ((with_reducible apply aH.cons); rfl))); exact hG; exact hsp; exact .nil _; intro ys hys))
 refine ⟨?_⟩
 generalize ss = s4; generalize bb = b4
 repeat' (first | refine H_ 7 ?_ | ((with_reducible apply aJ); rfl; kernel_rfl; (repeat (first | exact aH.nil | ((with_reducible apply aH.cons); rfl))); exact hG; exact htw; exact .nil _; intro y hy) | (refine ai ?_; intro ss bb) | refine ac ?_)
 refine ⟨?_⟩
 generalize ss = s5; generalize bb = b5
 have hl1 := hmk y hy
 clear hmk
 unfold imC at hl1 hvw
 repeat' (first | refine H_ 8 ?_ | (refine ai ?_; intro ss bb) | refine ac ?_ | ((with_reducible apply eQ); rfl; kernel_rfl; exact hG; exact hst; exact him; ((with_reducible apply bI.cons); rfl; exact hvw hy (fun o h => List.mem_cons_of_mem _ (List.mem_append_left _ h))); (repeat (first | exact bI.nil | ((with_reducible apply bI.cons); rfl; exact bR.same _))); exact hnew; intro yi hyi))
 refine ⟨?_⟩
 generalize ss = s7; generalize bb = b7
 refine dg (sS _ _ _ _ _ _) ?_
 repeat' (first | refine HV_ 10 ?_ | ((with_reducible apply fS); rfl; kernel_rfl; exact hG; exact hst; exact hqs; ((with_reducible apply bI.cons); rfl; exact hvs hyi fun o h => List.mem_cons_of_mem _ (List.mem_cons_of_mem _ (List.mem_cons_of_mem _ (List.mem_append_left _ h)))); ((with_reducible apply bI.cons); rfl; exact hvs hys fun o h => List.mem_cons_of_mem _ (List.mem_cons_of_mem _ (List.mem_cons_of_mem _ (List.mem_append_right _ (List.mem_append_right _ (List.mem_append_left _ h)))))); exact .nil) | refine c_ (fun hc => ?_) (fun hc => ?_))
 all_goals first
   | (exfalso; simp at hc; done)
   | skip
 refine ⟨?_⟩
 repeat' (first | refine HV_ 13 ?_ | refine ae hG hst (hto) ?_ | ((with_reducible apply aaO); rfl; kernel_rfl; exact hG; exact hst; exact heq; ((with_reducible apply bI.cons); rfl; exact hvw hy fun o h => List.mem_cons_of_mem _ (List.mem_cons_of_mem _ (List.mem_cons_of_mem _ (List.mem_append_right _ (List.mem_append_left _ h))))); (repeat (first | exact bI.nil | ((with_reducible apply bI.cons); rfl; exact bR.same _)))))
 all_goals first
   | (exfalso; simp at hc; done)
   | skip
 refine ⟨?_⟩
 repeat' refine W_ ?_
 refine i6 (.perm (xx _ _ _ _ (imO x y) _)) ?_
 repeat' (first | refine HV_ 16 ?_ | ((with_reducible apply aJ); rfl; kernel_rfl; (repeat (first | exact aH.nil | ((with_reducible apply aH.cons); rfl))); exact hG; exact hl1; exact .app _ _; rintro ⟨⟩ -; refine cm (.perm (xx _ _ _ _ _ _).symm) ?_) | ((with_reducible apply fS); rfl; kernel_rfl; exact hG; exact hst; exact hqs; ((with_reducible apply bI.cons); rfl; exact hvs hyi fun o h => List.mem_cons_of_mem _ (List.mem_cons_of_mem _ (List.mem_cons_of_mem _ (List.mem_append_left _ h)))); ((with_reducible apply bI.cons); rfl; exact hvs hys fun o h => List.mem_cons_of_mem _ (List.mem_cons_of_mem _ (List.mem_cons_of_mem _ (List.mem_append_right _ (List.mem_append_right _ (List.mem_append_left _ h)))))); exact .nil) | refine c_ (fun hc => ?_) (fun hc => ?_))
 all_goals first
   | (exfalso; simp at hc; done)
   | skip
 refine ⟨?_⟩
 have hl2 := fL hst sx yi hyi hsm 1 (by omega)
 unfold imC at hl2
 repeat' refine W_ ?_
 refine i6 (.perm (xy _ _ _ (imO sx yi) _)) ?_
 repeat' (first | refine H_ 18 ?_ | ((with_reducible apply aJ); rfl; kernel_rfl; (repeat (first | exact aH.nil | ((with_reducible apply aH.cons); rfl))); exact hG; exact hl2; exact .app _ _; rintro ⟨⟩ -; refine cm (.perm (xy _ _ _ _ _).symm) ?_))
 refine ⟨?_⟩
 have hhd := n9 hst 0 sx hsm 1 (by omega)
 have hkS := jt (x := sx) hsm 1
 have hvm : ∀ {objs : aI}, (∀ o ∈ imO (ez 1 sx) yi, o ∈ objs) -> bR objs (.agg (imC sx yi)) (.agg ((ez 1 sx).tw 0)) := fun h => wQ hyi h
 unfold imC at hvm
 generalize iE 1 sx = kq at hhd hkS |-
 repeat' (first | refine H_ 24 ?_ | ((with_reducible apply fS); rfl; kernel_rfl; exact hG; exact hst; exact hhd; ((with_reducible apply bI.cons); rfl; exact hvm fun o h => List.mem_cons_of_mem _ (List.mem_cons_of_mem _ (List.mem_cons_of_mem _ (List.mem_append_left _ h)))); ((with_reducible apply bI.cons); rfl; exact bR.same _); exact bI.nil))
 all_goals first
   | (exfalso; simp at hc; done)
   | skip
 refine ⟨?_⟩
 repeat' (first | refine H_ 25 ?_ | (refine ai ?_; intro ss bb) | refine ac ?_ | refine ab hG hst (hto) ?_ | ((with_reducible apply eQ); rfl; kernel_rfl; exact hG; exact hst; exact him2; ((repeat (first | exact bI.nil | ((with_reducible apply bI.cons); rfl; (first | with_reducible exact bR.same _ | ((with_reducible apply bR.msAll); (repeat (first | with_reducible exact mh | with_reducible refine mt ?_)); (first | with_reducible assumption | exact aG _ | exact am _ | exact aF _ | exact List.length_map _ | assumption | rfl)) | ((with_reducible apply du); (repeat (first | with_reducible exact mh | with_reducible refine mt ?_)); (first | with_reducible assumption | exact aG _ | exact am _ | exact aF _ | exact List.length_map _ | assumption | rfl)) | ((with_reducible apply bR.cut); exact bR.cp0 _ _; rfl)))))); exact hnew; intro yj hyj))
 refine ⟨?_⟩
 generalize ss = s9; generalize bb = b9
 refine dg (uz _ _ _ _ _ _) ?_
 repeat' (first | refine HV_ 28 ?_ | ((with_reducible apply fS); rfl; kernel_rfl; exact hG; exact hst; exact hqs; ((with_reducible apply bI.cons); rfl; exact hvs hyj fun o h => List.mem_cons_of_mem _ (List.mem_cons_of_mem _ (List.mem_cons_of_mem _ (List.mem_cons_of_mem _ (List.mem_append_left _ h))))); ((with_reducible apply bI.cons); rfl; exact hvs hys fun o h => List.mem_cons_of_mem _ (List.mem_cons_of_mem _ (List.mem_cons_of_mem _ (List.mem_cons_of_mem _ (List.mem_append_right _ (List.mem_append_right _ (List.mem_append_right _ (List.mem_append_left _ h)))))))); exact .nil) | refine c_ (fun hc => ?_) (fun hc => ?_))
 all_goals first
   | (exfalso; simp at hc; done)
   | skip
 refine ⟨?_⟩
 repeat' (first | refine W_ ?_ | ((with_reducible apply fS); rfl; kernel_rfl; exact hG; exact hst; exact hhd; ((with_reducible apply bI.cons); rfl; exact hvm fun o h => List.mem_cons_of_mem _ (List.mem_cons_of_mem _ (List.mem_cons_of_mem _ (List.mem_cons_of_mem _ (List.mem_append_right _ (List.mem_append_left _ h)))))); ((with_reducible apply bI.cons); rfl; exact bR.same _); exact bI.nil))
 all_goals first
   | (exact r1_)
   | (exfalso; simp at hc; done)
theorem eU (w : World) (t : PT) (x : ak) (hat : fm t x) (hsee : ed w (· < w.heap.size) t) (hx : x.sane) (q0 : Int) (_ : i64 q0) (q1 : Int) (_ : i64 q1) (hm : si w) : Calls Tryz.prog 7 #[.agg t.cells.toArray, .int .i64 q0, .int .i64 q1] w fun e w' => e = .returned (.bool true) /\ Below w.heap.size w w' := by
 have h0 : 0 < w.heap.size := by
   obtain ⟨m, hm⟩ := hm
   have := World.block_lt_of_cell? w _ hm
   omega
 have hok := abO w _ _ hsee
 have hsm := oK hat hsee hx
 rw [ue hat] at hok
 refine (iZ x hsm q0 q1 w _ h0 hm rfl ?_).mono ?_
 ·intro i t v h1 h2
  match i, h1, h2 with
  | 0, h1, h2 =>
    cases h1; cases h2
    exact .agg _ _ hok.2.1 (by simpa using hok.1) (fun i t v ht hv => hok.2.2 i t v ht (by simpa using hv))
  | 1, h1, h2 =>
    cases h1; cases h2
    first
      | exact .int _
      | exact .int _ _
      | exact .int
      | constructor
  | 2, h1, h2 =>
    cases h1; cases h2
    first
      | exact .int _
      | exact .int _ _
      | exact .int
      | constructor
 ·rintro e w' ⟨v, rfl, hb, hr⟩
  have := (hr 0 (Nat.zero_le _)).bool_inv
  subst this
  exact ⟨rfl, hb⟩
end Go.Proofs.YtiihihgjiklnoaaGreatDoor
