/- The further declarations of the proof. -/
import Derived.WalkKit
import Derived.WalkSpells
import Derived.WalkLawsBesides
import Derived.Deep.LoopGhost
import Derived.Deep.OwnRows
import Derived.Lib.Hide
import Derived.Handy
import Derived.Maps.AppendAt
import Derived.Deep.AppendLies
import Derived.RegionTactic
import Derived.OwnWalk
import Derived.Test.YthpdkhejeookhaaGreatDoorChecked
import Derived.Deep.QuietTactic
import Derived.BigQuiet
import Derived.Lib.Strings
import Derived.WideShapes
import Derived.Shelf.Strings.Search1
import Derived.Shelf.Strings.Search2
import Derived.Shelf.Strings.Search3
import Derived.Shelf.Strings.Count
import Derived.Shelf.LaysM
import Derived.Shelf.Strings.Shaped
import Derived.Shelf.Strings.Prefix
import Derived.Shelf.Strings.Split
import Derived.Shelf.Unicode.Decode
import Derived.Shelf.Strings.RuneCount
import Derived.Shelf.Strings.Explode
import Derived.Shelf.Bits.Mul64
import Derived.Shelf.Unicode.DecodeSlow
import Derived.Shelf.Unicode.DecodeAny
import Derived.Test.YthpdkhejeookhaaGreatDoorProg
import Derived.Lib.AppendIntMem
import Derived.Lib.SplitLaws
import Derived.Deep.RegionLaw
import Derived.ProofKit
import Derived.Deep.Slices
import Derived.Test.YthpdkhejeookhaaGreatDoorRows
import Derived.Shelf.Vars
import Derived.Lib.LaidU8
import Derived.Lib.LaidTab
import Derived.Lay
import Derived.MakeChecks
import Derived.OpenShut
import Derived.ShutString
import Derived.ChangeOld
import Derived.Handed
import Derived.Orders
import Derived.IntWalk
import Derived.Great.BuildSlice
import Derived.Laws.MakeOwn
import Derived.Laws.RangeString
import Derived.Lib.AppendStr
import Derived.Laws.StructEq
import Derived.Laws.CopyOwn
import Derived.Deep.RegionHeld3
import Derived.Test.YthpdkhejeookhaaGreatDoorPart1
import Derived.Test.YthpdkhejeookhaaGreatDoorPart2
import Derived.Test.YthpdkhejeookhaaGreatDoorPart3
import Derived.Test.YthpdkhejeookhaaGreatDoorPart4
import Derived.Test.YthpdkhejeookhaaGreatDoorPart5
import Derived.Test.YthpdkhejeookhaaGreatDoorPart6
import Derived.Test.YthpdkhejeookhaaGreatDoorPart7
import Derived.Test.YthpdkhejeookhaaGreatDoorPart8
import Derived.Test.YthpdkhejeookhaaGreatDoorPart9
import Derived.Test.YthpdkhejeookhaaGreatDoorPart10
import Derived.Test.YthpdkhejeookhaaGreatDoorPart11
import Derived.Test.YthpdkhejeookhaaGreatDoorPart12
import Derived.Test.YthpdkhejeookhaaGreatDoorPart13
import Derived.Test.YthpdkhejeookhaaGreatDoorPart14
import Derived.Test.YthpdkhejeookhaaGreatDoorPart15
/- The further declarations of the proof. -/






































































/- The program's struct types as plain structures, and what they are in memory. Written by gen_types.py. -/

namespace Go.Proofs.YthpdkhejeookhaaGreatDoor
open Go Go.RowKit

def TEditAt (t : PT) (x : TEdit) : Prop := t = x.pt

end Go.Proofs.YthpdkhejeookhaaGreatDoor

/- The abstract walk, part 7: contracts, calls, what is given back. -/

namespace Go.Proofs.YthpdkhejeookhaaGreatDoor
open Go Go.RowKit

section
variable {P : Program} {w0 : World} {N : Nat} {Q : Exit → Act → World → Prop} {env : Env} {objs objs' : Objs} {o : Oper}

/- What the results are. -/
/- Calls. -/
end
end Go.Proofs.YthpdkhejeookhaaGreatDoor

/- The abstract walk, part 9: the rules with the operation written in the conclusion, by program. -/

namespace Go.Proofs.YthpdkhejeookhaaGreatDoor
open Go Go.RowKit
section
variable {P : Program} {w0 : World} {N : Nat} {Q : Exit → Act → World → Prop} {env : Env} {objs : Objs} {ops : Array Oper} {rest : List Oper} {d T0 : Nat} {pos : String} {af : Array Edge} {g : Option (Nat × Bool)}
end
end Go.Proofs.YthpdkhejeookhaaGreatDoor

/- The laws' own helpers sz, to, eq, walked (frozen copies). Written by gen_lw.py. -/




namespace Go.Proofs.YthpdkhejeookhaaGreatDoor
set_option maxRecDepth 20000
open Go Go.RowKit
section
variable {G : World → Prop}
end
section
variable {G : World → Prop}
end
section
variable {G : World → Prop}
end
section
variable {G : World → Prop}
end
section
variable {G : World → Prop}
end
section
variable {G : World → Prop}
end
section
variable {G : World → Prop}
theorem toEdit_ct (_hst : Stable G) (lo : Nat) (x : TEdit) (_hb : x.small 1048576) : Ct Tryz.prog G 16 [.agg (x.tw lo)] (fun K => .agg (x.tw K)) := by
  refine ct_enter Tryz.func16 rfl Tryz.ntmps16 rfl rfl fun w0 _ hG => ?_
  unfold TEdit.small at _hb
  skip
  repeat' (first | ((with_reducible apply o_y); exact y_; rfl) | refine e_box ?_ | (refine e_alloc ?_; intro ss bb) | refine e_storep ?_  | with_reducible refine al_none rfl ?_ | (with_reducible first | apply aw_seq | apply aw_region | apply al_nil | apply aq_then | apply aw_block | apply aw_exit | apply aw_skip | apply aw_ret | apply aq_block_hit | apply (aq_block_miss rfl) | apply aq_then_exit | apply aq_then_ret | apply aq_block_ret | apply aq_block) | refine al_run rfl rfl rfl rr_ ?_ | refine al_skip rfl rfl rfl rr_ rfl rfl rfl ?_ | refine al_skip2 rfl rfl rfl rr_ rfl rfl ?_ | (refine al_gt rfl rfl rfl rr_ dd_ ?_) | (refine al_gf rfl rfl rfl rr_ dd_ ?_) | (refine al_gsplit rfl rfl rfl rr_ (fun hg => ?_) (fun hg => ?_)) | (refine al_gsplit_b rfl rfl rfl rr_ (fun hg => ?_) (fun hg => ?_)) | refine aw_cond_t rfl rr_ ?_ | refine aw_cond_f rfl rr_ ?_ | (refine aw_cond_dt rfl rr_ dd_ ?_) | (refine aw_cond_df rfl rr_ dd_ ?_) | (refine aw_cond rfl rr_ (fun hc => ?_) (fun hc => ?_)) | (refine aw_cond_b rfl rr_ (fun hc => ?_) (fun hc => ?_)))
  refine aq_ret1 x_ rfl (.cell _ _ _ _ _ rfl mm_ (by kernel_rfl) (by kernel_rfl) (by kernel_rfl)) (fun _ => ?_)
  exact fin_agg (TEdit.fin _ _ _ x)
end
end Go.Proofs.YthpdkhejeookhaaGreatDoor

/- The abstract walk, part 24: the steps of a drawn region that makes memory. Written by gen_eng3.py. -/

namespace Go.Proofs.YthpdkhejeookhaaGreatDoor
open Go Go.RowKit
section
variable {P : Program} {w0 : World} {N : Nat} {Q : Exit → Act → World → Prop} {objs : Objs} {ops : Array Oper} {K : List Mki → (Pt → Env) → Prop} {c : Nat} {L : List Mki} {rest : List Oper} {E : Pt → Env} {d T0 : Nat} {pos : String} {af : Array Edge}
theorem m_callq {G : World → Prop} {f : Nat} {xs : List Operand} {ts : Array TypeId} {args : List TV} {r : Nat → TV} (hG : G w0) (hst : Stable G) (hct : Ct P G f args r) (hN : Nat.blt d N = true) (hc : callB P f = true) (hargs : ∀ p, Args (E p) objs xs args)
    (h : DM P w0 N ops objs K (c + 1) L rest (fun p => (d, r w0.heap.size) :: E p)) : DM P w0 N ops objs K c L (⟨some d, .call { callee := .value (.func f), args := xs.toArray, argTypes := ts }, T0, pos, af, none⟩ :: rest) E :=
  .run c L _ rest E d (fun _ => r w0.heap.size) rfl hN rfl (fun _ _ _ => rfl) (fun p _R hR => y_call rfl hc ((hargs p).mono hR) hct hG hst) h
end
end Go.Proofs.YthpdkhejeookhaaGreatDoor

/- The law FnExactApplyEdit, walked. -/




namespace Go.Proofs.YthpdkhejeookhaaGreatDoor
set_option maxRecDepth 20000
open Go Go.RowKit
set_option maxRecDepth 4000 in
set_option maxHeartbeats 4000000 in
theorem fnExactApplyEdit_ct (x : TCodeBase) (e : TEdit) (hat : i64 e.at_) (hb : x.small 9223372036854775807) : Ct Tryz.prog GL 4 [.agg (x.tw 0), .agg [.int .i64 e.code, .int .i64 e.at_, .int .i64 e.kind]] (fun _ => .bool true) := by
  have hst := GL_st
  have hto := fun hx => toCodeBase_ct hst 0 x hx
  have htw := fun hx => toCodeBase_own hst 0 x hx
  refine ct_enter Tryz.func4 rfl Tryz.ntmps4 rfl rfl fun w0 _ hG => ?_
  have hsp := fun hx => specApplyEdit_ctm w0.heap.size x hx e hat
  have him := fun (hx : x.small 1048576) => implApplyEdit_ctm hst 0 x hx e
  have him2 := fun (hx : x.small 1048576) => implApplyEdit_ctm hst w0.heap.size x hx e
  have hte := toEdit_ct hst 0 e trivial
  unfold TEdit.tw at hte
  have hte1 := fun lo => toEdit_ct hst lo e trivial
  unfold TEdit.tw at hte1
  have heq := fun hx => eqCodeBase_ct hst 0 w0.heap.size x hx
  have hmk := fun (hx : x.small 1048576) y hy => markCodeBase_own hst x y hy hx 1 (by omega)
  have hsm : x.small 1048576 → (applyB x e).small 1048576 := fun h => applyB_small h e
  have hvw : ∀ {objs : Objs} {y : CbP}, cbI x y → (∀ o ∈ cbO x y, o ∈ objs) → View objs (.agg (cbC x y)) (.agg (x.tw 0)) := fun h1 h2 => view_cb h1 h2
  have hnk := fun hx => nxCodeBase_in (x := x) hx 1
  generalize applyB x e = sx at hsp him him2 hsm
  generalize okE x e = vb at hsp him him2
  have hnew := cb_new2 sx vb
  have hvs : ∀ {objs : Objs} {y : CbP}, cbI sx y → (∀ o ∈ cbO sx y, o ∈ objs) → View objs (.agg (cbC sx y)) (.agg (sx.tw 0)) := fun h1 h2 => view_cb h1 h2
  unfold TCodeBase.tw at hto htw hsp heq hvw him him2 ⊢
  repeat' (first | ((with_reducible apply o_y); exact y_; rfl) | refine e_box ?_ | ((with_reducible apply o_callM); rfl; kernel_rfl; (repeat (first | exact ArgsM.nil | ((with_reducible apply ArgsM.cons); rfl))); exact hG; exact szCodeBase_ct hst _ x _ (by omega) hb; exact .nil _; intro y hy; refine al_app0 ?_) | with_reducible refine aw_hold_r (id := 3) ?_  | with_reducible refine al_none rfl ?_ | (with_reducible first | apply aw_seq | apply aw_region | apply al_nil | apply aq_then | apply aw_block | apply aw_exit | apply aw_skip | apply aw_ret | apply aq_block_hit | apply (aq_block_miss rfl) | apply aq_then_exit | apply aq_then_ret | apply aq_block_ret | apply aq_block) | refine al_run rfl rfl rfl rr_ ?_ | refine al_skip rfl rfl rfl rr_ rfl rfl rfl ?_ | refine al_skip2 rfl rfl rfl rr_ rfl rfl ?_ | (refine al_gt rfl rfl rfl rr_ dd_ ?_) | (refine al_gf rfl rfl rfl rr_ dd_ ?_) | (refine al_gsplit rfl rfl rfl rr_ (fun hg => ?_) (fun hg => ?_)) | (refine al_gsplit_b rfl rfl rfl rr_ (fun hg => ?_) (fun hg => ?_)) | refine aw_cond_t rfl rr_ ?_ | refine aw_cond_f rfl rr_ ?_ | (refine aw_cond_dt rfl rr_ dd_ ?_) | (refine aw_cond_df rfl rr_ dd_ ?_) | (refine aw_cond rfl rr_ (fun hc => ?_) (fun hc => ?_)) | (refine aw_cond_b rfl rr_ (fun hc => ?_) (fun hc => ?_)))
  refine ⟨?_⟩
  by_cases hneg : y < 0
  · repeat' (first | ((with_reducible apply o_y); exact y_; rfl)  | with_reducible refine al_none rfl ?_ | (with_reducible first | apply aw_seq | apply aw_region | apply al_nil | apply aq_then | apply aw_block | apply aw_exit | apply aw_skip | apply aw_ret | apply aq_block_hit | apply (aq_block_miss rfl) | apply aq_then_exit | apply aq_then_ret | apply aq_block_ret | apply aq_block) | refine al_run rfl rfl rfl rr_ ?_ | refine al_skip rfl rfl rfl rr_ rfl rfl rfl ?_ | refine al_skip2 rfl rfl rfl rr_ rfl rfl ?_ | (refine al_gt rfl rfl rfl rr_ dd_ ?_) | (refine al_gf rfl rfl rfl rr_ dd_ ?_) | (refine al_gsplit rfl rfl rfl rr_ (fun hg => ?_) (fun hg => ?_)) | (refine al_gsplit_b rfl rfl rfl rr_ (fun hg => ?_) (fun hg => ?_)) | refine aw_cond_t rfl rr_ ?_ | refine aw_cond_f rfl rr_ ?_ | (refine aw_cond_dt rfl rr_ dd_ ?_) | (refine aw_cond_df rfl rr_ dd_ ?_) | (refine aw_cond rfl rr_ (fun hc => ?_) (fun hc => ?_)) | (refine aw_cond_b rfl rr_ (fun hc => ?_) (fun hc => ?_)))
    refine aq_ret1 x_ rfl (.tmp _ _ rfl) (fun _ => ?_)
    exact Fin.flat rfl
  have hx := hy.2.2 (by omega)
  replace hto := hto hx
  replace htw := htw hx
  replace hsp := hsp hx
  replace him := him hx
  replace him2 := him2 hx
  replace heq := heq hx
  replace hnk := hnk hx
  replace hmk := hmk hx
  replace hsm := hsm hx
  have hqs := eqCodeBase_ct hst 0 0 sx hsm
  clear hb hy
  repeat' (first | ((with_reducible apply o_y); exact y_; rfl) | with_reducible refine aw_hold_r (id := 5) ?_  | with_reducible refine al_none rfl ?_ | (with_reducible first | apply aw_seq | apply aw_region | apply al_nil | apply aq_then | apply aw_block | apply aw_exit | apply aw_skip | apply aw_ret | apply aq_block_hit | apply (aq_block_miss rfl) | apply aq_then_exit | apply aq_then_ret | apply aq_block_ret | apply aq_block) | refine al_run rfl rfl rfl rr_ ?_ | refine al_skip rfl rfl rfl rr_ rfl rfl rfl ?_ | refine al_skip2 rfl rfl rfl rr_ rfl rfl ?_ | (refine al_gt rfl rfl rfl rr_ dd_ ?_) | (refine al_gf rfl rfl rfl rr_ dd_ ?_) | (refine al_gsplit rfl rfl rfl rr_ (fun hg => ?_) (fun hg => ?_)) | (refine al_gsplit_b rfl rfl rfl rr_ (fun hg => ?_) (fun hg => ?_)) | refine aw_cond_t rfl rr_ ?_ | refine aw_cond_f rfl rr_ ?_ | (refine aw_cond_dt rfl rr_ dd_ ?_) | (refine aw_cond_df rfl rr_ dd_ ?_) | (refine aw_cond rfl rr_ (fun hc => ?_) (fun hc => ?_)) | (refine aw_cond_b rfl rr_ (fun hc => ?_) (fun hc => ?_)))
  refine ⟨?_⟩
  repeat' (first | ((with_reducible apply o_y); exact y_; rfl) | ((with_reducible apply aw_drawM (id := 5) 10); kernel_rfl; kernel_rfl; kernel_rfl; rfl; (repeat (first | exact Cut.zero _ | apply Cut.succ))) | ((with_reducible apply m_q); exact ym_; rfl; exact ind_) | ((with_reducible apply m_build); rfl; (intro p; try dsimp only); (repeat (first | exact TB.nil _ | ((with_reducible apply TB.cons); rfl; rfl; (first | exact .nil _ | exact .put _ _ _ _ _ (.nil _) | exact .skip _ _ _ _ _ (.put _ _ _ _ _ (.nil _)) | exact .skip _ _ _ _ _ (.skip _ _ _ _ _ (.put _ _ _ _ _ (.nil _))) | (repeat (first | exact .nil _ | apply Splice.put | apply Splice.skip))); kernel_rfl))); rfl; kernel_rfl; kernel_rfl; exact ind_) | ((with_reducible apply m_alloc); rfl; rfl; kernel_rfl) | ((with_reducible apply m_store); (intro p; rfl); (intro p; rfl); (intro p; rfl); kernel_rfl; (intro p; rfl); (intro p; (first | exact .nil _ | exact .put _ _ _ _ _ (.nil _) | exact .skip _ _ _ _ _ (.put _ _ _ _ _ (.nil _)) | exact .skip _ _ _ _ _ (.skip _ _ _ _ _ (.put _ _ _ _ _ (.nil _))) | (repeat (first | exact .nil _ | apply Splice.put | apply Splice.skip)))); (intro p; kernel_rfl); exact ⟨by decide, ah_⟩; exact inds_; rfl; (focus (simp; done))) | ((with_reducible apply m_callq hG hst hto); rfl; kernel_rfl; (intro p; (repeat (first | exact Args.nil | ((with_reducible apply Args.cons); rfl; exact .same _))))) | ((with_reducible apply m_callq hG hst hte); rfl; kernel_rfl; (intro p; (repeat (first | exact Args.nil | ((with_reducible apply Args.cons); rfl; exact .same _))))) | ((with_reducible apply m_call hG hst hsp); rfl; kernel_rfl; (intro p; (repeat (first | exact Args.nil | ((with_reducible apply Args.cons); rfl; exact .same _)))); exact hnew) | (with_reducible refine DM.nil _ _ _ ?_)  | with_reducible refine al_none rfl ?_ | (with_reducible first | apply aw_seq | apply aw_region | apply al_nil | apply aq_then | apply aw_block | apply aw_exit | apply aw_skip | apply aw_ret | apply aq_block_hit | apply (aq_block_miss rfl) | apply aq_then_exit | apply aq_then_ret | apply aq_block_ret | apply aq_block) | refine al_run rfl rfl rfl rr_ ?_ | refine al_skip rfl rfl rfl rr_ rfl rfl rfl ?_ | refine al_skip2 rfl rfl rfl rr_ rfl rfl ?_ | (refine al_gt rfl rfl rfl rr_ dd_ ?_) | (refine al_gf rfl rfl rfl rr_ dd_ ?_) | (refine al_gsplit rfl rfl rfl rr_ (fun hg => ?_) (fun hg => ?_)) | (refine al_gsplit_b rfl rfl rfl rr_ (fun hg => ?_) (fun hg => ?_)) | refine aw_cond_t rfl rr_ ?_ | refine aw_cond_f rfl rr_ ?_ | (refine aw_cond_dt rfl rr_ dd_ ?_) | (refine aw_cond_df rfl rr_ dd_ ?_) | (refine aw_cond rfl rr_ (fun hc => ?_) (fun hc => ?_)) | (refine aw_cond_b rfl rr_ (fun hc => ?_) (fun hc => ?_)))
  intro p hp
  simp only [List.forall_mem_cons] at hp
  obtain ⟨_, _, hys, _⟩ := hp
  refine al_obj (objs' := ((p 8).a, (p 8).b, .box (cbC sx (Enc.dec (p 4)))) :: (cbO sx (Enc.dec (p 4)) ++ [])) (by rw [show liveL _ = [_, _] from rfl]; (try simp only [List.flatMap_cons, List.flatMap_nil, List.append_nil, List.cons_append, List.nil_append]); (try rfl)) ?_
  dsimp only [Nat.reduceAdd] at hys ⊢
  generalize (Enc.dec (p 4) : CbP) = ys at hys ⊢
  generalize Yu.a (p 8) = s4
  generalize Yu.b (p 8) = b4
  unfold cbC
  repeat' (first | ((with_reducible apply o_y); exact y_; rfl) | ((with_reducible apply o_callM); rfl; kernel_rfl; (repeat (first | exact ArgsM.nil | ((with_reducible apply ArgsM.cons); rfl))); exact hG; exact htw; exact .nil _; intro y hy) | (refine e_alloc ?_; intro ss bb) | refine e_storep ?_ | with_reducible refine aw_hold_r (id := 7) ?_  | with_reducible refine al_none rfl ?_ | (with_reducible first | apply aw_seq | apply aw_region | apply al_nil | apply aq_then | apply aw_block | apply aw_exit | apply aw_skip | apply aw_ret | apply aq_block_hit | apply (aq_block_miss rfl) | apply aq_then_exit | apply aq_then_ret | apply aq_block_ret | apply aq_block) | refine al_run rfl rfl rfl rr_ ?_ | refine al_skip rfl rfl rfl rr_ rfl rfl rfl ?_ | refine al_skip2 rfl rfl rfl rr_ rfl rfl ?_ | (refine al_gt rfl rfl rfl rr_ dd_ ?_) | (refine al_gf rfl rfl rfl rr_ dd_ ?_) | (refine al_gsplit rfl rfl rfl rr_ (fun hg => ?_) (fun hg => ?_)) | (refine al_gsplit_b rfl rfl rfl rr_ (fun hg => ?_) (fun hg => ?_)) | refine aw_cond_t rfl rr_ ?_ | refine aw_cond_f rfl rr_ ?_ | (refine aw_cond_dt rfl rr_ dd_ ?_) | (refine aw_cond_df rfl rr_ dd_ ?_) | (refine aw_cond rfl rr_ (fun hc => ?_) (fun hc => ?_)) | (refine aw_cond_b rfl rr_ (fun hc => ?_) (fun hc => ?_)))
  refine ⟨?_⟩
  generalize ss = s5; generalize bb = b5
  have hl1 := hmk y hy
  clear hmk
  unfold cbC at hl1 hvw hvs
  repeat' (first | ((with_reducible apply o_y); exact y_; rfl) | ((with_reducible apply aw_drawM (id := 7) 9); kernel_rfl; kernel_rfl; kernel_rfl; rfl; (repeat (first | exact Cut.zero _ | apply Cut.succ))) | ((with_reducible apply m_q); exact ym_; rfl; exact ind_) | ((with_reducible apply m_build); rfl; (intro p; try dsimp only); (repeat (first | exact TB.nil _ | ((with_reducible apply TB.cons); rfl; rfl; (first | exact .nil _ | exact .put _ _ _ _ _ (.nil _) | exact .skip _ _ _ _ _ (.put _ _ _ _ _ (.nil _)) | exact .skip _ _ _ _ _ (.skip _ _ _ _ _ (.put _ _ _ _ _ (.nil _))) | (repeat (first | exact .nil _ | apply Splice.put | apply Splice.skip))); kernel_rfl))); rfl; kernel_rfl; kernel_rfl; exact ind_) | ((with_reducible apply m_alloc); rfl; rfl; kernel_rfl) | ((with_reducible apply m_store); (intro p; rfl); (intro p; rfl); (intro p; rfl); kernel_rfl; (intro p; rfl); (intro p; (first | exact .nil _ | exact .put _ _ _ _ _ (.nil _) | exact .skip _ _ _ _ _ (.put _ _ _ _ _ (.nil _)) | exact .skip _ _ _ _ _ (.skip _ _ _ _ _ (.put _ _ _ _ _ (.nil _))) | (repeat (first | exact .nil _ | apply Splice.put | apply Splice.skip)))); (intro p; kernel_rfl); exact ⟨by decide, ah_⟩; exact inds_; rfl; (focus (simp; done))) | ((with_reducible apply m_callq hG hst hte); rfl; kernel_rfl; (intro p; (repeat (first | exact Args.nil | ((with_reducible apply Args.cons); rfl; exact .same _))))) | ((with_reducible apply m_call hG hst him); rfl; kernel_rfl; (intro p; ((with_reducible apply Args.cons); rfl; exact hvw hy (fun o h => List.mem_cons_of_mem _ (List.mem_append_left _ h))); ((with_reducible apply Args.cons); rfl; exact View.same _); exact Args.nil); exact hnew) | (with_reducible refine DM.nil _ _ _ ?_)  | with_reducible refine al_none rfl ?_ | (with_reducible first | apply aw_seq | apply aw_region | apply al_nil | apply aq_then | apply aw_block | apply aw_exit | apply aw_skip | apply aw_ret | apply aq_block_hit | apply (aq_block_miss rfl) | apply aq_then_exit | apply aq_then_ret | apply aq_block_ret | apply aq_block) | refine al_run rfl rfl rfl rr_ ?_ | refine al_skip rfl rfl rfl rr_ rfl rfl rfl ?_ | refine al_skip2 rfl rfl rfl rr_ rfl rfl ?_ | (refine al_gt rfl rfl rfl rr_ dd_ ?_) | (refine al_gf rfl rfl rfl rr_ dd_ ?_) | (refine al_gsplit rfl rfl rfl rr_ (fun hg => ?_) (fun hg => ?_)) | (refine al_gsplit_b rfl rfl rfl rr_ (fun hg => ?_) (fun hg => ?_)) | refine aw_cond_t rfl rr_ ?_ | refine aw_cond_f rfl rr_ ?_ | (refine aw_cond_dt rfl rr_ dd_ ?_) | (refine aw_cond_df rfl rr_ dd_ ?_) | (refine aw_cond rfl rr_ (fun hc => ?_) (fun hc => ?_)) | (refine aw_cond_b rfl rr_ (fun hc => ?_) (fun hc => ?_)))
  intro p hp
  simp only [List.forall_mem_cons] at hp
  obtain ⟨_, _, hyi, _⟩ := hp
  refine al_obj (objs' := ((p 7).a, (p 7).b, .box (cbC sx (Enc.dec (p 3)))) :: (cbO sx (Enc.dec (p 3)) ++ ((s5, b5, .box [.ms y.1.1.1 y.1.1.2 0 x.classes.length, .ms y.2.1.1.1 y.2.1.1.2 0 x.codes.length, .ms y.2.2.1 y.2.2.2 0 x.entries.length, .int .i64 x.main]) :: (cbO x y ++ ((s4, b4, .box [.ms ys.1.1.1 ys.1.1.2 0 sx.classes.length, .ms ys.2.1.1.1 ys.2.1.1.2 0 sx.codes.length, .ms ys.2.2.1 ys.2.2.2 0 sx.entries.length, .int .i64 sx.main]) :: (cbO sx ys ++ [])))))) (by rw [show liveL _ = [_, _] from rfl]; (try simp only [List.flatMap_cons, List.flatMap_nil, List.append_nil, List.cons_append, List.nil_append]); (try rfl)) ?_
  dsimp only [Nat.reduceAdd] at hyi ⊢
  generalize (Enc.dec (p 3) : CbP) = yi at hyi ⊢
  generalize Yu.a (p 7) = s7
  generalize Yu.b (p 7) = b7
  unfold cbC
  repeat' (first | ((with_reducible apply o_y); exact y_; rfl) | with_reducible refine aw_hold_r (id := 8) ?_  | with_reducible refine al_none rfl ?_ | (with_reducible first | apply aw_seq | apply aw_region | apply al_nil | apply aq_then | apply aw_block | apply aw_exit | apply aw_skip | apply aw_ret | apply aq_block_hit | apply (aq_block_miss rfl) | apply aq_then_exit | apply aq_then_ret | apply aq_block_ret | apply aq_block) | refine al_run rfl rfl rfl rr_ ?_ | refine al_skip rfl rfl rfl rr_ rfl rfl rfl ?_ | refine al_skip2 rfl rfl rfl rr_ rfl rfl ?_ | (refine al_gt rfl rfl rfl rr_ dd_ ?_) | (refine al_gf rfl rfl rfl rr_ dd_ ?_) | (refine al_gsplit rfl rfl rfl rr_ (fun hg => ?_) (fun hg => ?_)) | (refine al_gsplit_b rfl rfl rfl rr_ (fun hg => ?_) (fun hg => ?_)) | refine aw_cond_t rfl rr_ ?_ | refine aw_cond_f rfl rr_ ?_ | (refine aw_cond_dt rfl rr_ dd_ ?_) | (refine aw_cond_df rfl rr_ dd_ ?_) | (refine aw_cond rfl rr_ (fun hc => ?_) (fun hc => ?_)) | (refine aw_cond_b rfl rr_ (fun hc => ?_) (fun hc => ?_)))
  refine ⟨?_⟩
  refine aw_pick (pick_box3 _ _ _ _ _ _) ?_
  repeat' (first | ((with_reducible apply o_y); exact y_; rfl) | with_reducible refine aw_draw (by kernel_rfl) (by kernel_rfl) ?_ | with_reducible refine dr_nil ?_ | with_reducible refine dr_nil2 ?_ | with_reducible refine dr_none rfl ?_ | refine dr_run rfl rfl rfl rr_ ?_ | refine dr_skip rfl rfl rfl rr_ rfl rfl rfl ?_ | refine dr_skip2 rfl rfl rfl rr_ rfl rfl ?_ | (refine dr_gt rfl rfl rfl rr_ dd_ ?_) | (refine dr_gf rfl rfl rfl rr_ dd_ ?_) | (refine dr_gsplit rfl rfl rfl rr_ (fun hg => ?_) (fun hg => ?_)) | (refine dr_gsplit_b rfl rfl rfl rr_ (fun hg => ?_) (fun hg => ?_)) | ((with_reducible apply d_y); exact y_; rfl) | ((with_reducible apply o_callV); rfl; kernel_rfl; exact hG; exact hst; exact hqs; ((with_reducible apply Args.cons); rfl; exact hvs hyi fun o h => List.mem_cons_of_mem _ (List.mem_cons_of_mem _ (List.mem_cons_of_mem _ (List.mem_append_left _ h)))); ((with_reducible apply Args.cons); rfl; exact hvs hys fun o h => List.mem_cons_of_mem _ (List.mem_cons_of_mem _ (List.mem_cons_of_mem _ (List.mem_append_right _ (List.mem_append_right _ (List.mem_append_left _ h)))))); exact .nil) | with_reducible refine aw_hold_r (id := 10) ?_  | with_reducible refine al_none rfl ?_ | (with_reducible first | apply aw_seq | apply aw_region | apply al_nil | apply aq_then | apply aw_block | apply aw_exit | apply aw_skip | apply aw_ret | apply aq_block_hit | apply (aq_block_miss rfl) | apply aq_then_exit | apply aq_then_ret | apply aq_block_ret | apply aq_block) | refine al_run rfl rfl rfl rr_ ?_ | refine al_skip rfl rfl rfl rr_ rfl rfl rfl ?_ | refine al_skip2 rfl rfl rfl rr_ rfl rfl ?_ | (refine al_gt rfl rfl rfl rr_ dd_ ?_) | (refine al_gf rfl rfl rfl rr_ dd_ ?_) | (refine al_gsplit rfl rfl rfl rr_ (fun hg => ?_) (fun hg => ?_)) | (refine al_gsplit_b rfl rfl rfl rr_ (fun hg => ?_) (fun hg => ?_)) | refine aw_cond_t rfl rr_ ?_ | refine aw_cond_f rfl rr_ ?_ | (refine aw_cond_dt rfl rr_ dd_ ?_) | (refine aw_cond_df rfl rr_ dd_ ?_) | (refine aw_cond rfl rr_ (fun hc => ?_) (fun hc => ?_)) | (refine aw_cond_b rfl rr_ (fun hc => ?_) (fun hc => ?_)))
  all_goals first
    | (exfalso; simp at hc; done)
    | skip
  refine ⟨?_⟩
  repeat' (first | ((with_reducible apply o_y); exact y_; rfl) | with_reducible refine aw_draw (by kernel_rfl) (by kernel_rfl) ?_ | with_reducible refine dr_nil ?_ | with_reducible refine dr_nil2 ?_ | with_reducible refine dr_none rfl ?_ | refine dr_run rfl rfl rfl rr_ ?_ | refine dr_skip rfl rfl rfl rr_ rfl rfl rfl ?_ | refine dr_skip2 rfl rfl rfl rr_ rfl rfl ?_ | (refine dr_gt rfl rfl rfl rr_ dd_ ?_) | (refine dr_gf rfl rfl rfl rr_ dd_ ?_) | (refine dr_gsplit rfl rfl rfl rr_ (fun hg => ?_) (fun hg => ?_)) | (refine dr_gsplit_b rfl rfl rfl rr_ (fun hg => ?_) (fun hg => ?_)) | ((with_reducible apply d_y); exact y_; rfl) | refine e_calld hG hst (hto) ?_ | ((with_reducible apply d_callV); rfl; kernel_rfl; exact hG; exact hst; exact heq; (repeat (first | exact Args.nil | ((with_reducible apply Args.cons); rfl; (first | (with_reducible exact View.same _) | exact hvw hy fun o h => List.mem_cons_of_mem _ (List.mem_cons_of_mem _ (List.mem_cons_of_mem _ (List.mem_append_right _ (List.mem_append_left _ h))))))))) | with_reducible refine aw_hold_r (id := 13) ?_  | with_reducible refine al_none rfl ?_ | (with_reducible first | apply aw_seq | apply aw_region | apply al_nil | apply aq_then | apply aw_block | apply aw_exit | apply aw_skip | apply aw_ret | apply aq_block_hit | apply (aq_block_miss rfl) | apply aq_then_exit | apply aq_then_ret | apply aq_block_ret | apply aq_block) | refine al_run rfl rfl rfl rr_ ?_ | refine al_skip rfl rfl rfl rr_ rfl rfl rfl ?_ | refine al_skip2 rfl rfl rfl rr_ rfl rfl ?_ | (refine al_gt rfl rfl rfl rr_ dd_ ?_) | (refine al_gf rfl rfl rfl rr_ dd_ ?_) | (refine al_gsplit rfl rfl rfl rr_ (fun hg => ?_) (fun hg => ?_)) | (refine al_gsplit_b rfl rfl rfl rr_ (fun hg => ?_) (fun hg => ?_)) | refine aw_cond_t rfl rr_ ?_ | refine aw_cond_f rfl rr_ ?_ | (refine aw_cond_dt rfl rr_ dd_ ?_) | (refine aw_cond_df rfl rr_ dd_ ?_) | (refine aw_cond rfl rr_ (fun hc => ?_) (fun hc => ?_)) | (refine aw_cond_b rfl rr_ (fun hc => ?_) (fun hc => ?_)))
  all_goals first
    | (exfalso; simp at hc; done)
    | skip
  refine ⟨?_⟩
  repeat' (first | ((with_reducible apply o_y); exact y_; rfl)  | with_reducible refine al_none rfl ?_ | (with_reducible first | apply aw_seq | apply aw_region | apply al_nil | apply aq_then | apply aw_block | apply aw_exit | apply aw_skip | apply aw_ret | apply aq_block_hit | apply (aq_block_miss rfl) | apply aq_then_exit | apply aq_then_ret | apply aq_block_ret | apply aq_block) | refine al_run rfl rfl rfl rr_ ?_ | refine al_skip rfl rfl rfl rr_ rfl rfl rfl ?_ | refine al_skip2 rfl rfl rfl rr_ rfl rfl ?_ | (refine al_gt rfl rfl rfl rr_ dd_ ?_) | (refine al_gf rfl rfl rfl rr_ dd_ ?_) | (refine al_gsplit rfl rfl rfl rr_ (fun hg => ?_) (fun hg => ?_)) | (refine al_gsplit_b rfl rfl rfl rr_ (fun hg => ?_) (fun hg => ?_)) | refine aw_cond_t rfl rr_ ?_ | refine aw_cond_f rfl rr_ ?_ | (refine aw_cond_dt rfl rr_ dd_ ?_) | (refine aw_cond_df rfl rr_ dd_ ?_) | (refine aw_cond rfl rr_ (fun hc => ?_) (fun hc => ?_)) | (refine aw_cond_b rfl rr_ (fun hc => ?_) (fun hc => ?_)))
  refine ao_pick (.perm (perm_m _ _ _ _ (cbO x y) _)) ?_
  repeat' (first | ((with_reducible apply o_y); exact y_; rfl) | ((with_reducible apply o_callM); rfl; kernel_rfl; (repeat (first | exact ArgsM.nil | ((with_reducible apply ArgsM.cons); rfl))); exact hG; exact hl1; exact .app _ _; rintro ⟨⟩ -; refine al_pick (.perm (perm_m _ _ _ _ _ _).symm) ?_) | with_reducible refine aw_draw (by kernel_rfl) (by kernel_rfl) ?_ | with_reducible refine dr_nil ?_ | with_reducible refine dr_nil2 ?_ | with_reducible refine dr_none rfl ?_ | refine dr_run rfl rfl rfl rr_ ?_ | refine dr_skip rfl rfl rfl rr_ rfl rfl rfl ?_ | refine dr_skip2 rfl rfl rfl rr_ rfl rfl ?_ | (refine dr_gt rfl rfl rfl rr_ dd_ ?_) | (refine dr_gf rfl rfl rfl rr_ dd_ ?_) | (refine dr_gsplit rfl rfl rfl rr_ (fun hg => ?_) (fun hg => ?_)) | (refine dr_gsplit_b rfl rfl rfl rr_ (fun hg => ?_) (fun hg => ?_)) | ((with_reducible apply d_y); exact y_; rfl) | ((with_reducible apply o_callV); rfl; kernel_rfl; exact hG; exact hst; exact hqs; ((with_reducible apply Args.cons); rfl; exact hvs hyi fun o h => List.mem_cons_of_mem _ (List.mem_cons_of_mem _ (List.mem_cons_of_mem _ (List.mem_append_left _ h)))); ((with_reducible apply Args.cons); rfl; exact hvs hys fun o h => List.mem_cons_of_mem _ (List.mem_cons_of_mem _ (List.mem_cons_of_mem _ (List.mem_append_right _ (List.mem_append_right _ (List.mem_append_left _ h)))))); exact .nil) | with_reducible refine aw_hold_r (id := 16) ?_  | with_reducible refine al_none rfl ?_ | (with_reducible first | apply aw_seq | apply aw_region | apply al_nil | apply aq_then | apply aw_block | apply aw_exit | apply aw_skip | apply aw_ret | apply aq_block_hit | apply (aq_block_miss rfl) | apply aq_then_exit | apply aq_then_ret | apply aq_block_ret | apply aq_block) | refine al_run rfl rfl rfl rr_ ?_ | refine al_skip rfl rfl rfl rr_ rfl rfl rfl ?_ | refine al_skip2 rfl rfl rfl rr_ rfl rfl ?_ | (refine al_gt rfl rfl rfl rr_ dd_ ?_) | (refine al_gf rfl rfl rfl rr_ dd_ ?_) | (refine al_gsplit rfl rfl rfl rr_ (fun hg => ?_) (fun hg => ?_)) | (refine al_gsplit_b rfl rfl rfl rr_ (fun hg => ?_) (fun hg => ?_)) | refine aw_cond_t rfl rr_ ?_ | refine aw_cond_f rfl rr_ ?_ | (refine aw_cond_dt rfl rr_ dd_ ?_) | (refine aw_cond_df rfl rr_ dd_ ?_) | (refine aw_cond rfl rr_ (fun hc => ?_) (fun hc => ?_)) | (refine aw_cond_b rfl rr_ (fun hc => ?_) (fun hc => ?_)))
  all_goals first
    | (exfalso; simp at hc; done)
    | skip
  refine ⟨?_⟩
  have hl2 := markCodeBase_own hst sx yi hyi hsm 1 (by omega)
  unfold cbC at hl2
  repeat' (first | ((with_reducible apply o_y); exact y_; rfl)  | with_reducible refine al_none rfl ?_ | (with_reducible first | apply aw_seq | apply aw_region | apply al_nil | apply aq_then | apply aw_block | apply aw_exit | apply aw_skip | apply aw_ret | apply aq_block_hit | apply (aq_block_miss rfl) | apply aq_then_exit | apply aq_then_ret | apply aq_block_ret | apply aq_block) | refine al_run rfl rfl rfl rr_ ?_ | refine al_skip rfl rfl rfl rr_ rfl rfl rfl ?_ | refine al_skip2 rfl rfl rfl rr_ rfl rfl ?_ | (refine al_gt rfl rfl rfl rr_ dd_ ?_) | (refine al_gf rfl rfl rfl rr_ dd_ ?_) | (refine al_gsplit rfl rfl rfl rr_ (fun hg => ?_) (fun hg => ?_)) | (refine al_gsplit_b rfl rfl rfl rr_ (fun hg => ?_) (fun hg => ?_)) | refine aw_cond_t rfl rr_ ?_ | refine aw_cond_f rfl rr_ ?_ | (refine aw_cond_dt rfl rr_ dd_ ?_) | (refine aw_cond_df rfl rr_ dd_ ?_) | (refine aw_cond rfl rr_ (fun hc => ?_) (fun hc => ?_)) | (refine aw_cond_b rfl rr_ (fun hc => ?_) (fun hc => ?_)))
  refine ao_pick (.perm (perm_n _ _ _ (cbO sx yi) _)) ?_
  repeat' (first | ((with_reducible apply o_y); exact y_; rfl) | ((with_reducible apply o_callM); rfl; kernel_rfl; (repeat (first | exact ArgsM.nil | ((with_reducible apply ArgsM.cons); rfl))); exact hG; exact hl2; exact .app _ _; rintro ⟨⟩ -; refine al_pick (.perm (perm_n _ _ _ _ _).symm) ?_) | with_reducible refine aw_hold_r (id := 18) ?_  | with_reducible refine al_none rfl ?_ | (with_reducible first | apply aw_seq | apply aw_region | apply al_nil | apply aq_then | apply aw_block | apply aw_exit | apply aw_skip | apply aw_ret | apply aq_block_hit | apply (aq_block_miss rfl) | apply aq_then_exit | apply aq_then_ret | apply aq_block_ret | apply aq_block) | refine al_run rfl rfl rfl rr_ ?_ | refine al_skip rfl rfl rfl rr_ rfl rfl rfl ?_ | refine al_skip2 rfl rfl rfl rr_ rfl rfl ?_ | (refine al_gt rfl rfl rfl rr_ dd_ ?_) | (refine al_gf rfl rfl rfl rr_ dd_ ?_) | (refine al_gsplit rfl rfl rfl rr_ (fun hg => ?_) (fun hg => ?_)) | (refine al_gsplit_b rfl rfl rfl rr_ (fun hg => ?_) (fun hg => ?_)) | refine aw_cond_t rfl rr_ ?_ | refine aw_cond_f rfl rr_ ?_ | (refine aw_cond_dt rfl rr_ dd_ ?_) | (refine aw_cond_df rfl rr_ dd_ ?_) | (refine aw_cond rfl rr_ (fun hc => ?_) (fun hc => ?_)) | (refine aw_cond_b rfl rr_ (fun hc => ?_) (fun hc => ?_)))
  refine ⟨?_⟩
  have hhd := heldCodeBase_m hst 0 sx hsm 1 (by omega)
  have hkS := nxCodeBase_in (x := sx) hsm 1
  have hvm : ∀ {objs : Objs}, (∀ o ∈ cbO (mkCodeBase 1 sx) yi, o ∈ objs) → View objs (.agg (cbC sx yi)) (.agg ((mkCodeBase 1 sx).tw 0)) := fun h => view_cbm hyi h
  unfold cbC at hvm
  generalize nxCodeBase 1 sx = kq at hhd hkS ⊢
  repeat' (first | ((with_reducible apply o_y); exact y_; rfl) | ((with_reducible apply o_callV); rfl; kernel_rfl; exact hG; exact hst; exact hhd; ((with_reducible apply Args.cons); rfl; exact hvm fun o h => List.mem_cons_of_mem _ (List.mem_cons_of_mem _ (List.mem_cons_of_mem _ (List.mem_append_left _ h)))); ((with_reducible apply Args.cons); rfl; exact View.same _); exact Args.nil) | with_reducible refine aw_hold_r (id := 24) ?_  | with_reducible refine al_none rfl ?_ | (with_reducible first | apply aw_seq | apply aw_region | apply al_nil | apply aq_then | apply aw_block | apply aw_exit | apply aw_skip | apply aw_ret | apply aq_block_hit | apply (aq_block_miss rfl) | apply aq_then_exit | apply aq_then_ret | apply aq_block_ret | apply aq_block) | refine al_run rfl rfl rfl rr_ ?_ | refine al_skip rfl rfl rfl rr_ rfl rfl rfl ?_ | refine al_skip2 rfl rfl rfl rr_ rfl rfl ?_ | (refine al_gt rfl rfl rfl rr_ dd_ ?_) | (refine al_gf rfl rfl rfl rr_ dd_ ?_) | (refine al_gsplit rfl rfl rfl rr_ (fun hg => ?_) (fun hg => ?_)) | (refine al_gsplit_b rfl rfl rfl rr_ (fun hg => ?_) (fun hg => ?_)) | refine aw_cond_t rfl rr_ ?_ | refine aw_cond_f rfl rr_ ?_ | (refine aw_cond_dt rfl rr_ dd_ ?_) | (refine aw_cond_df rfl rr_ dd_ ?_) | (refine aw_cond rfl rr_ (fun hc => ?_) (fun hc => ?_)) | (refine aw_cond_b rfl rr_ (fun hc => ?_) (fun hc => ?_)))
  all_goals first
    | (exfalso; simp at hc; done)
    | skip
  refine ⟨?_⟩
  obtain ⟨Z, hZ⟩ : ∃ Z : Objs, Z = cbO (mkCodeBase 1 sx) yi ++ (cbO (mkCodeBase 1 x) y ++ (cbO sx ys ++ [])) := ⟨_, rfl⟩
  rw [← hZ]
  repeat' (first | ((with_reducible apply o_y); exact y_; rfl) | ((with_reducible apply aw_drawM (id := 24) 10); kernel_rfl; kernel_rfl; kernel_rfl; rfl; (repeat (first | exact Cut.zero _ | apply Cut.succ))) | ((with_reducible apply m_q); exact ym_; rfl; exact ind_) | ((with_reducible apply m_build); rfl; (intro p; try dsimp only); (repeat (first | exact TB.nil _ | ((with_reducible apply TB.cons); rfl; rfl; (first | exact .nil _ | exact .put _ _ _ _ _ (.nil _) | exact .skip _ _ _ _ _ (.put _ _ _ _ _ (.nil _)) | exact .skip _ _ _ _ _ (.skip _ _ _ _ _ (.put _ _ _ _ _ (.nil _))) | (repeat (first | exact .nil _ | apply Splice.put | apply Splice.skip))); kernel_rfl))); rfl; kernel_rfl; kernel_rfl; exact ind_) | ((with_reducible apply m_alloc); rfl; rfl; kernel_rfl) | ((with_reducible apply m_store); (intro p; rfl); (intro p; rfl); (intro p; rfl); kernel_rfl; (intro p; rfl); (intro p; (first | exact .nil _ | exact .put _ _ _ _ _ (.nil _) | exact .skip _ _ _ _ _ (.put _ _ _ _ _ (.nil _)) | exact .skip _ _ _ _ _ (.skip _ _ _ _ _ (.put _ _ _ _ _ (.nil _))) | (repeat (first | exact .nil _ | apply Splice.put | apply Splice.skip)))); (intro p; kernel_rfl); exact ⟨by decide, ah_⟩; exact inds_; rfl; (focus (simp; done))) | ((with_reducible apply m_callq hG hst hto); rfl; kernel_rfl; (intro p; (repeat (first | exact Args.nil | ((with_reducible apply Args.cons); rfl; exact .same _))))) | ((with_reducible apply m_callq hG hst hte); rfl; kernel_rfl; (intro p; (repeat (first | exact Args.nil | ((with_reducible apply Args.cons); rfl; exact .same _))))) | ((with_reducible apply m_call hG hst him2); rfl; kernel_rfl; (intro p; (repeat (first | exact Args.nil | ((with_reducible apply Args.cons); rfl; exact .same _)))); exact hnew) | (with_reducible refine DM.nil _ _ _ ?_)  | with_reducible refine al_none rfl ?_ | (with_reducible first | apply aw_seq | apply aw_region | apply al_nil | apply aq_then | apply aw_block | apply aw_exit | apply aw_skip | apply aw_ret | apply aq_block_hit | apply (aq_block_miss rfl) | apply aq_then_exit | apply aq_then_ret | apply aq_block_ret | apply aq_block) | refine al_run rfl rfl rfl rr_ ?_ | refine al_skip rfl rfl rfl rr_ rfl rfl rfl ?_ | refine al_skip2 rfl rfl rfl rr_ rfl rfl ?_ | (refine al_gt rfl rfl rfl rr_ dd_ ?_) | (refine al_gf rfl rfl rfl rr_ dd_ ?_) | (refine al_gsplit rfl rfl rfl rr_ (fun hg => ?_) (fun hg => ?_)) | (refine al_gsplit_b rfl rfl rfl rr_ (fun hg => ?_) (fun hg => ?_)) | refine aw_cond_t rfl rr_ ?_ | refine aw_cond_f rfl rr_ ?_ | (refine aw_cond_dt rfl rr_ dd_ ?_) | (refine aw_cond_df rfl rr_ dd_ ?_) | (refine aw_cond rfl rr_ (fun hc => ?_) (fun hc => ?_)) | (refine aw_cond_b rfl rr_ (fun hc => ?_) (fun hc => ?_)))
  intro p hp
  simp only [List.forall_mem_cons] at hp
  obtain ⟨_, _, hyj, _⟩ := hp
  refine al_obj (objs' := ((p 8).a, (p 8).b, .box (cbC sx (Enc.dec (p 4)))) :: (cbO sx (Enc.dec (p 4)) ++ ((s7, b7, .box [.ms yi.1.1.1 yi.1.1.2 0 sx.classes.length, .ms yi.2.1.1.1 yi.2.1.1.2 0 sx.codes.length, .ms yi.2.2.1 yi.2.2.2 0 sx.entries.length, .int .i64 sx.main]) :: (s5, b5, .box [.ms y.1.1.1 y.1.1.2 0 x.classes.length, .ms y.2.1.1.1 y.2.1.1.2 0 x.codes.length, .ms y.2.2.1 y.2.2.2 0 x.entries.length, .int .i64 x.main]) :: (s4, b4, .box [.ms ys.1.1.1 ys.1.1.2 0 sx.classes.length, .ms ys.2.1.1.1 ys.2.1.1.2 0 sx.codes.length, .ms ys.2.2.1 ys.2.2.2 0 sx.entries.length, .int .i64 sx.main]) :: Z))) (by rw [show liveL _ = [_, _] from rfl]; (try simp only [List.flatMap_cons, List.flatMap_nil, List.append_nil, List.cons_append, List.nil_append]); (try rfl)) ?_
  dsimp only [Nat.reduceAdd] at hyj ⊢
  generalize (Enc.dec (p 4) : CbP) = yj at hyj ⊢
  generalize Yu.a (p 8) = s9
  generalize Yu.b (p 8) = b9
  unfold cbC
  rw [hZ]
  repeat' (first | ((with_reducible apply o_y); exact y_; rfl) | with_reducible refine aw_hold_r (id := 25) ?_  | with_reducible refine al_none rfl ?_ | (with_reducible first | apply aw_seq | apply aw_region | apply al_nil | apply aq_then | apply aw_block | apply aw_exit | apply aw_skip | apply aw_ret | apply aq_block_hit | apply (aq_block_miss rfl) | apply aq_then_exit | apply aq_then_ret | apply aq_block_ret | apply aq_block) | refine al_run rfl rfl rfl rr_ ?_ | refine al_skip rfl rfl rfl rr_ rfl rfl rfl ?_ | refine al_skip2 rfl rfl rfl rr_ rfl rfl ?_ | (refine al_gt rfl rfl rfl rr_ dd_ ?_) | (refine al_gf rfl rfl rfl rr_ dd_ ?_) | (refine al_gsplit rfl rfl rfl rr_ (fun hg => ?_) (fun hg => ?_)) | (refine al_gsplit_b rfl rfl rfl rr_ (fun hg => ?_) (fun hg => ?_)) | refine aw_cond_t rfl rr_ ?_ | refine aw_cond_f rfl rr_ ?_ | (refine aw_cond_dt rfl rr_ dd_ ?_) | (refine aw_cond_df rfl rr_ dd_ ?_) | (refine aw_cond rfl rr_ (fun hc => ?_) (fun hc => ?_)) | (refine aw_cond_b rfl rr_ (fun hc => ?_) (fun hc => ?_)))
  refine ⟨?_⟩
  refine aw_pick (pick_box4 _ _ _ _ _ _) ?_
  repeat' (first | ((with_reducible apply o_y); exact y_; rfl) | with_reducible refine aw_draw (by kernel_rfl) (by kernel_rfl) ?_ | with_reducible refine dr_nil ?_ | with_reducible refine dr_nil2 ?_ | with_reducible refine dr_none rfl ?_ | refine dr_run rfl rfl rfl rr_ ?_ | refine dr_skip rfl rfl rfl rr_ rfl rfl rfl ?_ | refine dr_skip2 rfl rfl rfl rr_ rfl rfl ?_ | (refine dr_gt rfl rfl rfl rr_ dd_ ?_) | (refine dr_gf rfl rfl rfl rr_ dd_ ?_) | (refine dr_gsplit rfl rfl rfl rr_ (fun hg => ?_) (fun hg => ?_)) | (refine dr_gsplit_b rfl rfl rfl rr_ (fun hg => ?_) (fun hg => ?_)) | ((with_reducible apply d_y); exact y_; rfl) | ((with_reducible apply o_callV); rfl; kernel_rfl; exact hG; exact hst; exact hqs; ((with_reducible apply Args.cons); rfl; exact hvs hyj fun o h => List.mem_cons_of_mem _ (List.mem_cons_of_mem _ (List.mem_cons_of_mem _ (List.mem_cons_of_mem _ (List.mem_append_left _ h))))); ((with_reducible apply Args.cons); rfl; exact hvs hys fun o h => List.mem_cons_of_mem _ (List.mem_cons_of_mem _ (List.mem_cons_of_mem _ (List.mem_cons_of_mem _ (List.mem_append_right _ (List.mem_append_right _ (List.mem_append_right _ (List.mem_append_left _ h)))))))); exact .nil) | with_reducible refine aw_hold_r (id := 28) ?_  | with_reducible refine al_none rfl ?_ | (with_reducible first | apply aw_seq | apply aw_region | apply al_nil | apply aq_then | apply aw_block | apply aw_exit | apply aw_skip | apply aw_ret | apply aq_block_hit | apply (aq_block_miss rfl) | apply aq_then_exit | apply aq_then_ret | apply aq_block_ret | apply aq_block) | refine al_run rfl rfl rfl rr_ ?_ | refine al_skip rfl rfl rfl rr_ rfl rfl rfl ?_ | refine al_skip2 rfl rfl rfl rr_ rfl rfl ?_ | (refine al_gt rfl rfl rfl rr_ dd_ ?_) | (refine al_gf rfl rfl rfl rr_ dd_ ?_) | (refine al_gsplit rfl rfl rfl rr_ (fun hg => ?_) (fun hg => ?_)) | (refine al_gsplit_b rfl rfl rfl rr_ (fun hg => ?_) (fun hg => ?_)) | refine aw_cond_t rfl rr_ ?_ | refine aw_cond_f rfl rr_ ?_ | (refine aw_cond_dt rfl rr_ dd_ ?_) | (refine aw_cond_df rfl rr_ dd_ ?_) | (refine aw_cond rfl rr_ (fun hc => ?_) (fun hc => ?_)) | (refine aw_cond_b rfl rr_ (fun hc => ?_) (fun hc => ?_)))
  all_goals first
    | (exfalso; simp at hc; done)
    | skip
  refine ⟨?_⟩
  repeat' (first | ((with_reducible apply o_y); exact y_; rfl) | ((with_reducible apply o_callV); rfl; kernel_rfl; exact hG; exact hst; exact hhd; ((with_reducible apply Args.cons); rfl; exact hvm fun o h => List.mem_cons_of_mem _ (List.mem_cons_of_mem _ (List.mem_cons_of_mem _ (List.mem_cons_of_mem _ (List.mem_append_right _ (List.mem_append_left _ h)))))); ((with_reducible apply Args.cons); rfl; exact View.same _); exact Args.nil)  | with_reducible refine al_none rfl ?_ | (with_reducible first | apply aw_seq | apply aw_region | apply al_nil | apply aq_then | apply aw_block | apply aw_exit | apply aw_skip | apply aw_ret | apply aq_block_hit | apply (aq_block_miss rfl) | apply aq_then_exit | apply aq_then_ret | apply aq_block_ret | apply aq_block) | refine al_run rfl rfl rfl rr_ ?_ | refine al_skip rfl rfl rfl rr_ rfl rfl rfl ?_ | refine al_skip2 rfl rfl rfl rr_ rfl rfl ?_ | (refine al_gt rfl rfl rfl rr_ dd_ ?_) | (refine al_gf rfl rfl rfl rr_ dd_ ?_) | (refine al_gsplit rfl rfl rfl rr_ (fun hg => ?_) (fun hg => ?_)) | (refine al_gsplit_b rfl rfl rfl rr_ (fun hg => ?_) (fun hg => ?_)) | refine aw_cond_t rfl rr_ ?_ | refine aw_cond_f rfl rr_ ?_ | (refine aw_cond_dt rfl rr_ dd_ ?_) | (refine aw_cond_df rfl rr_ dd_ ?_) | (refine aw_cond rfl rr_ (fun hc => ?_) (fun hc => ?_)) | (refine aw_cond_b rfl rr_ (fun hc => ?_) (fun hc => ?_)))
  all_goals first
    | (refine aq_ret1 x_ rfl (.tmp _ _ rfl) (fun _ => ?_)
       exact Fin.flat rfl)
    | (exfalso; simp at hc; done)
/-- The law, with its arguments as the row's data give them. -/
theorem fnExactApplyEdit_any (w : World) (t : PT) (x : TCodeBase) (hat : TCodeBaseAt t x) (hsee : Seen w (· < w.heap.size) t) (hx : x.sane) (t1 : PT) (e : TEdit) (hat1 : TEditAt t1 e) (_ : Seen w (· < w.heap.size) t1) (hx1 : e.sane) (hm : MaxL w) :
    Calls Tryz.prog 4 #[.agg t.cells.toArray, .agg t1.cells.toArray] w fun e w' => e = .returned (.bool true) ∧ Below w.heap.size w w' := by
  have h0 : 0 < w.heap.size := by
    obtain ⟨m, hm⟩ := hm
    have := World.block_lt_of_cell? w _ hm
    omega
  have hok := tv_ok w _ _ hsee
  have hsm := codeBase_small hat hsee hx
  rw [codeBase_tvs hat] at hok
  subst hat1
  refine (fnExactApplyEdit_ct x e hx1.2.1 hsm w _ h0 hm rfl ?_).mono ?_
  · intro i t v h1 h2
    match i, h1, h2 with
    | 0, h1, h2 =>
      cases h1; cases h2
      exact .agg _ _ hok.2.1 (by simpa using hok.1) (fun i t v ht hv => hok.2.2 i t v ht (by simpa using hv))
    | 1, h1, h2 =>
      cases h1; cases h2
      refine .agg _ _ (by simp [TV.isCell]) rfl fun i t v ht hv => ?_
      match i, ht, hv with
      | 0, ht, hv => cases ht; cases hv; exact .int _ _
      | 1, ht, hv => cases ht; cases hv; exact .int _ _
      | 2, ht, hv => cases ht; cases hv; exact .int _ _
  · rintro e w' ⟨v, rfl, hb, hr⟩
    have := (hr 0 (Nat.zero_le _)).bool_inv
    subst this
    exact ⟨rfl, hb⟩
end Go.Proofs.YthpdkhejeookhaaGreatDoor


