/- Part 12 of the proof: the texts IvN, IvV, EdF, NeA, MkT. -/
import Derived.Test.YtfchjaoeogolnaaGreatDoorPart6
import Derived.Test.YtfchjaoeogolnaaGreatDoorPart9
import Derived.Test.YtfchjaoeogolnaaGreatDoorPart5
import Derived.Test.YtfchjaoeogolnaaGreatDoorPart11
import Derived.Test.YtfchjaoeogolnaaGreatDoorPart10
import Derived.Test.YtfchjaoeogolnaaGreatDoorPart7
import Derived.Test.YtfchjaoeogolnaaGreatDoorPart2
import Derived.Test.YtfchjaoeogolnaaGreatDoorPart1
import Derived.Deep.RegionHeld3
/- IsVerified: an instruction, on the side of the program (instrOk and its two function literals). -/
namespace Go.Proofs.YtfchjaoeogolnaaGreatDoor
set_option maxRecDepth 20000
open Go Go.RowKit
section
variable {G : World → Prop}
theorem instrOk1_ct (hst : Stable G) (lo : Nat) (n : Int) (bl : Bool) (pr sl : Int) (is : List TInstr) (hn : is.length ≤ 1048576) : Ct Tryz.prog G 120 [.int .i64 n, .cp 0 [.bool bl, .int .i64 pr, .int .i64 sl, .sl lo 4 (is.map (TInstr.tw lo))]] (fun _ => .bool (inR n 0 ((is.length : Int) - 1))) := by
  refine ct_enter Tryz.func120 rfl Tryz.ntmps120 rfl rfl fun w0 _ hG => ?_
  have hil := TInstr.len lo is
  repeat' (first | ((with_reducible apply o_y); exact y_; rfl) | refine e_call hG hst (within_ct _ _ _) ?_ | with_reducible refine al_none rfl ?_ | (with_reducible first | apply aw_seq | apply aw_region | apply al_nil | apply aq_then | apply aw_ret))
  refine aq_ret1 x_ rfl (.tmp _ _ rfl) (fun _ => ?_)
  exact Fin.flat rfl
theorem instrOk2_ct (hst : Stable G) (n least : Int) (bl : Bool) (pr sl : Int) (t : TV) : Ct Tryz.prog G 121 [.int .i64 n, .agg [.bool bl, .int .i64 pr, .int .i64 sl, t], .int .i64 least] (fun _ => .bool (inR n least (IntKind.i64.wrap (sl - 1)))) := by
  refine ct_enter Tryz.func121 rfl Tryz.ntmps121 rfl rfl fun w0 _ hG => ?_
  repeat' (first | ((with_reducible apply o_y); exact y_; rfl) | refine e_box ?_ | refine e_call hG hst (within_ct _ _ _) ?_ | with_reducible refine al_none rfl ?_ | (with_reducible first | apply aw_seq | apply aw_region | apply al_nil | apply aq_then | apply aw_ret))
  refine aq_ret1 x_ rfl (.tmp _ _ rfl) (fun _ => ?_)
  exact Fin.flat rfl
set_option maxRecDepth 8000 in
set_option maxHeartbeats 8000000 in
theorem instrOk_ct (hst : Stable G) (hse : ∀ s : ByteArray, s.size ≤ 1048576 → Ct Tryz.prog G 79 [.str s] (fun _ => .bool (isSelL s.data.toList)))
    (lo lo2 : Nat) (cl : List TClassInfo) (cen : TV) (cs : List TCode) (mn : Int) (hcl : cl.length ≤ 1048576) (hcs : cs.length ≤ 1048576 ∧ ∀ y ∈ cs, TCode.small 1048576 y) (o : List Int) (hinv : outInv cs.length o) (k : Nat) (own : TCode) (hk : cs[k]? = some own) (hsl : 0 ≤ own.slots ∧ own.slots ≤ 30)
    (x : TInstr) (hx : x.text.size ≤ 1048576) :
    Ct Tryz.prog G 82 [.agg [.sl lo 3 (cl.map (TClassInfo.tw lo)), .sl lo 4 (cs.map (TCode.tw lo)), cen, .int .i64 mn], .sl lo2 1 (intR o), .int .i64 (k : Int), .agg [.int .i64 x.op, .int .i64 x.a, .int .i64 x.b, .str x.text]] (fun _ => .bool (instrB cs cl.length o k own x)) := by
  obtain ⟨op, a, b, t⟩ := x
  dsimp only at hx ⊢
  refine ct_enter Tryz.func82 rfl Tryz.ntmps82 rfl rfl fun w0 _ hG => ?_
  have hl1 := TClassInfo.len lo cl
  have hl2 := TCode.len lo cs
  have hll := intR_length o
  have hkl : k < cs.length := (List.getElem?_eq_some_iff.1 hk).1
  have hrk : (cs.map (TCode.tw lo))[k]? = some [.bool own.block, .int .i64 own.params, .int .i64 own.slots, .sl lo 4 (own.instrs.map (TInstr.tw lo))] := by rw [List.getElem?_map, hk]; rfl
  have hil := TInstr.len lo own.instrs
  have hin : own.instrs.length ≤ 1048576 := (hcs.2 own (List.mem_of_getElem? hk)).1
  have hw : IntKind.i64.wrap (own.slots - 1) = own.slots - 1 := IntWalk.i64_in _ (by omega)
  repeat' (first | ((with_reducible apply o_y); exact y_; rfl) | refine e_box ?_ | refine e_call hG hst (writes_ct _) ?_ | with_reducible refine aw_hold_r (id := 2) ?_ | with_reducible refine al_none rfl ?_ | (with_reducible first | apply aw_seq | apply aw_region | apply al_nil | apply aq_then))
  refine ⟨aw_seq ?_⟩
  apply aw_join (X := Unit) [1, 2, 4, 7] (fun _ => [(54, .bool (!decide (instrHead ⟨op, a, b, t⟩)))]) (fun _ => []) (fun _ => True)
  case hk => (repeat (first | exact Kept.nil | (apply Kept.cons; rfl)))
  · clear hrk hk hinv hse hl1 hl2 hll hin hil
    repeat' (first | ((with_reducible apply o_y); exact y_; rfl) | refine e_call hG hst (within_ct _ _ _) ?_ | with_reducible refine al_none rfl ?_ | (with_reducible first | apply aw_region | apply al_nil) | refine al_run rfl rfl rfl rr_ ?_ | refine al_skip rfl rfl rfl rr_ rfl rfl rfl ?_ | refine al_skip2 rfl rfl rfl rr_ rfl rfl ?_ | (refine al_gsplit rfl rfl rfl rr_ (fun hg => ?_) (fun hg => ?_)) | (refine al_gsplit_b rfl rfl rfl rr_ (fun hg => ?_) (fun hg => ?_)))
    all_goals
      refine aq_mid () trivial (.of _ (Weak.envCons (lk_bool rfl ?_) Weak.envNil) od_ pk_)
      simp only [Bool.not_eq_true', Bool.not_eq_false', ne_eq, Decidable.not_not] at *
      first
        | (simp [instrHead, *]; done)
  intro _ _
  by_cases hh : instrHead ⟨op, a, b, t⟩
  case neg =>
    have hB : instrB cs cl.length o k own ⟨op, a, b, t⟩ = false := by unfold instrB; rw [decide_eq_false hh]; rfl
    rw [hB, decide_eq_false hh, Bool.not_false]
    repeat' (first | ((with_reducible apply o_y); exact y_; rfl) | with_reducible refine al_none rfl ?_ | (with_reducible first | apply aw_seq | apply aw_region | apply al_nil | apply aq_then | apply aw_ret | apply aq_then_ret) | refine aw_cond_t rfl rr_ ?_)
    refine aq_ret1 x_ rfl (.tmp _ _ rfl) (fun _ => ?_)
    exact Fin.flat rfl
  have hB : instrB cs cl.length o k own ⟨op, a, b, t⟩ = instrTail cs cl.length o k own ⟨op, a, b, t⟩ := by unfold instrB; rw [decide_eq_true hh]; rfl
  rw [hB, decide_eq_true hh, Bool.not_true]
  have hinv' : outInv o.length o := by rw [hinv.1]; exact hinv
  have hvf : levelOf cs o k b = none → varOk cs o k ⟨op, a, b, t⟩ = false := fun h => by
    unfold varOk
    dsimp only
    rw [h]
  clear hB hk
  repeat' (first | ((with_reducible apply o_y); exact y_; rfl) | (refine e_alloc ?_; intro ss bb) | refine e_storep ?_ | refine e_mkf ?_ | refine e_call hG hst (within_ct _ _ _) ?_ | refine e_call hG hst (plainText_ct hst _ hx) ?_ | refine e_call hG hst (hse _ hx) ?_ | refine e_call hG hst (implIsName_ct _ hx) ?_ | ((with_reducible apply o_callF); rfl; rfl; kernel_rfl; exact hG; exact hst; (repeat (first | exact Args.nil | ((with_reducible apply Args.cons); rfl; exact .same _))); (repeat (first | exact Views.nil | ((with_reducible apply Views.cons); (((with_reducible apply View.mpSame); (repeat (with_reducible exact mh))))))); rfl; first | exact instrOk1_ct hst lo _ _ _ _ _ hin | exact instrOk2_ct hst _ _ _ _ _ _) | with_reducible refine aw_hold_r (id := 24) ?_ | with_reducible refine al_none rfl ?_ | (with_reducible first | apply aw_seq | apply aw_region | apply al_nil | apply aq_then | apply aw_block | apply aw_skip | apply aw_ret | apply aq_then_ret | apply aq_block_ret | apply aq_block) | refine al_run rfl rfl rfl rr_ ?_ | refine al_skip rfl rfl rfl rr_ rfl rfl rfl ?_ | (refine al_gsplit_b rfl rfl rfl rr_ (fun hg => ?_) (fun hg => ?_)) | refine aw_cond_f rfl rr_ ?_ | (refine aw_cond_dt rfl rr_ dd_ ?_) | (refine aw_cond rfl rr_ (fun hc => ?_) (fun hc => ?_)))
  all_goals first
    | (refine aq_ret1 x_ rfl (.tmp _ _ rfl) (fun _ => ?_)
       clear hrk hl1 hl2 hll hil hcs hse hh hinv
       refine fin_bool ?_
       first
         | (simp [instrTail, *]; done))
    | (refine ⟨?_⟩
       generalize ss = s12; generalize bb = b12
       repeat' (first | ((with_reducible apply o_y); exact y_; rfl) | with_reducible refine al_none rfl ?_ | (with_reducible first | apply aw_seq | apply aw_region | apply al_nil | apply aq_then | apply aw_block))
       apply aw_loopk (X := Nat) [1, 4, 7, 12, 14, 62] (fun n => [(15, .int .i64 (upN o n (k : Int))), (16, .int .i64 (n : Int))]) (fun _ => [(s12, b12, .box [.bool own.block, .int .i64 own.params, .int .i64 own.slots, .sl lo 4 (own.instrs.map (TInstr.tw lo))])]) (fun n => n ≤ b.toNat) (fun n => b.toNat - n) 0 (Nat.zero_le _)
       exact kp_; (repeat (first | exact Weak.envNil | refine Weak.envCons we_ ?_))
       · exact .refl _
       intro n hn
       try dsimp only at hn ⊢
       have hol : o.length = cs.length := hinv.1
       have hup := upN_in hinv' n (k : Int) (.inr ⟨by omega, by omega⟩)
       by_cases hnb : (n : Int) < b
       · by_cases hat : 0 ≤ upN o n (k : Int)
         · obtain ⟨j, hj⟩ : ∃ j : Nat, upN o n (k : Int) = j := ⟨(upN o n (k : Int)).toNat, by omega⟩
           have hs := upN_succ o n (k : Int)
           rw [if_neg (by omega), hj] at hs
           have hge := upN_ge hinv' (k := (k : Int)) ⟨by omega, by omega⟩ n hat
           rw [hj] at hup hge
           have hcl2 := hcs.1
           have hrow := intR_gd (o := o) (j := j) (by omega)
           rw [hj]
           repeat' (first | ((with_reducible apply o_y); exact y_; rfl) | with_reducible refine al_none rfl ?_ | (with_reducible first | apply aw_seq | apply aw_region | apply al_nil | apply aq_then | apply aw_block | apply aw_skip | apply aq_block) | refine al_run rfl rfl rfl rr_ ?_ | (refine al_gt rfl rfl rfl rr_ dd_ ?_) | (refine aw_cond_dt rfl rr_ dd_ ?_))
           exact aq_round (n + 1) (by omega) (by omega) (.of _ nw_ od_ pk_)
         · have hv := hvf (level_off (n := n) (by omega) (by omega))
           repeat' (first | ((with_reducible apply o_y); exact y_; rfl) | with_reducible refine al_none rfl ?_ | (with_reducible first | apply aw_seq | apply aw_region | apply al_nil | apply aq_then | apply aw_exit | apply aw_ret | apply aq_block_hit | apply aq_then_exit | apply aq_then_ret | apply aq_block_ret) | refine al_run rfl rfl rfl rr_ ?_ | refine al_skip rfl rfl rfl rr_ rfl rfl rfl ?_ | (refine al_gt rfl rfl rfl rr_ dd_ ?_) | refine aw_cond_t rfl rr_ ?_ | (refine aw_cond_df rfl rr_ dd_ ?_))
           refine aq_ret1 x_ rfl (.tmp _ _ rfl) (fun _ => ?_)
           refine fin_bool ?_
           clear hrk hl1 hl2 hll hil hcs hse hh hinv hvf
           subst_vars
           simp [instrTail, hv]
       · by_cases hb0 : b < 0
         · have hv := hvf (level_neg hb0)
           repeat' (first | ((with_reducible apply o_y); exact y_; rfl) | with_reducible refine al_none rfl ?_ | (with_reducible first | apply aw_seq | apply aw_region | apply al_nil | apply aq_then | apply aw_exit | apply aw_ret | apply aq_block_hit | apply aq_then_exit | apply aq_then_ret | apply aq_block_ret) | refine al_run rfl rfl rfl rr_ ?_ | refine al_skip rfl rfl rfl rr_ rfl rfl rfl ?_ | (refine al_gf rfl rfl rfl rr_ dd_ ?_) | (refine al_gsplit rfl rfl rfl rr_ (fun hg => ?_) (fun hg => ?_)) | refine aw_cond_t rfl rr_ ?_ | refine aw_cond_f rfl rr_ ?_ | (refine aw_cond_dt rfl rr_ dd_ ?_))
           all_goals
             refine aq_ret1 x_ rfl (.tmp _ _ rfl) (fun _ => ?_)
             refine fin_bool ?_
             clear hrk hl1 hl2 hll hil hcs hse hh hinv hvf
             subst_vars
             simp [instrTail, hv]
         · obtain rfl : b = (n : Int) := by omega
           by_cases hat : 0 ≤ upN o n (k : Int)
           · obtain ⟨j, hj⟩ : ∃ j : Nat, upN o n (k : Int) = j := ⟨(upN o n (k : Int)).toNat, by omega⟩
             rw [hj] at hup
             have hjl : j < cs.length := by omega
             have hry := tcode_row (lo := lo) hjl
             have hlev : levelOf cs o k (n : Int) = some cs[j] := level_on (by omega) (by rw [Int.toNat_natCast]; exact hj) (List.getElem?_eq_getElem hjl)
             generalize cs[j] = y at hry hlev
             rw [hj]
             repeat' (first | ((with_reducible apply o_y); exact y_; rfl) | with_reducible refine aw_draw (by kernel_rfl) (by kernel_rfl) ?_ | with_reducible refine dr_nil ?_ | with_reducible refine dr_none rfl ?_ | ((with_reducible apply d_y); exact y_; rfl) | ((with_reducible apply d_callF); rfl; rfl; kernel_rfl; exact hG; exact hst; (repeat (first | exact Args.nil | ((with_reducible apply Args.cons); rfl; exact .same _))); (repeat (exact Views.nil)); rfl; exact instrOk2_ct hst _ _ _ _ _ _) | with_reducible refine al_none rfl ?_ | (with_reducible first | apply aw_seq | apply aw_region | apply al_nil | apply aq_then | apply aw_exit | apply aw_skip | apply aw_ret | apply aq_block_hit | apply aq_then_exit | apply aq_then_ret | apply aq_block_ret) | refine al_run rfl rfl rfl rr_ ?_ | refine al_skip rfl rfl rfl rr_ rfl rfl rfl ?_ | (refine al_gf rfl rfl rfl rr_ dd_ ?_) | refine aw_cond_f rfl rr_ ?_ | (refine aw_cond_dt rfl rr_ dd_ ?_) | (refine aw_cond_df rfl rr_ dd_ ?_))
             all_goals first
               | (refine aq_ret1 x_ rfl (.tmp _ _ rfl) (fun _ => ?_)
                  refine fin_bool ?_
                  clear hrk hl1 hl2 hll hil hcs hse hh hinv hvf
                  subst_vars
                  simp [instrTail, varOk, hlev]; done)
           · have hv := hvf (level_off (n := n) (by omega) (by omega))
             repeat' (first | ((with_reducible apply o_y); exact y_; rfl) | with_reducible refine al_none rfl ?_ | (with_reducible first | apply aw_seq | apply aw_region | apply al_nil | apply aq_then | apply aw_exit | apply aw_ret | apply aq_block_hit | apply aq_then_exit | apply aq_then_ret | apply aq_block_ret) | refine al_skip rfl rfl rfl rr_ rfl rfl rfl ?_ | (refine al_gt rfl rfl rfl rr_ dd_ ?_) | (refine al_gf rfl rfl rfl rr_ dd_ ?_) | refine aw_cond_t rfl rr_ ?_ | refine aw_cond_f rfl rr_ ?_)
             refine aq_ret1 x_ rfl (.tmp _ _ rfl) (fun _ => ?_)
             refine fin_bool ?_
             clear hrk hl1 hl2 hll hil hcs hse hh hinv hvf
             subst_vars
             simp [instrTail, hv])
end
end Go.Proofs.YtfchjaoeogolnaaGreatDoor
/- IsVerified of the program. -/
namespace Go.Proofs.YtfchjaoeogolnaaGreatDoor
set_option maxRecDepth 20000
open Go Go.RowKit
set_option maxRecDepth 8000 in
set_option maxHeartbeats 16000000 in
theorem implIsVerified_ct (lo : Nat) (cl : List TClassInfo) (es : List TEntry) (cs : List TCode) (mn : Int) (hcl : cl.length ≤ 1048576 ∧ ∀ y ∈ cl, TClassInfo.small 1048576 y) (hcs : cs.length ≤ 1048576 ∧ ∀ y ∈ cs, TCode.small 1048576 y) (hes : es.length ≤ 1048576 ∧ ∀ y ∈ es, TEntry.small 1048576 y) :
    Ct Tryz.prog GL 38 [.agg [.sl lo 3 (cl.map (TClassInfo.tw lo)), .sl lo 4 (cs.map (TCode.tw lo)), .sl lo 4 (es.map (TEntry.tw lo)), .int .i64 mn]] (fun _ => .bool (verifiedB ⟨cl, cs, es, mn⟩)) := by
  refine ct_enter Tryz.func38 rfl Tryz.ntmps38 rfl rfl fun w0 _ hG => ?_
  have hst := GL_st
  have hvF := verified_f (x := ⟨cl, cs, es, mn⟩)
  have hvT := verified_t (x := ⟨cl, cs, es, mn⟩)
  unfold verifiedP mainOk outerOk at hvF hvT
  dsimp only at hvF hvT
  generalize verifiedB ⟨cl, cs, es, mn⟩ = V at hvF hvT ⊢
  have hl1 := TClassInfo.len lo cl
  have hl2 := TCode.len lo cs
  have hl3 := TEntry.len lo es
  have hcsl := hcs.1
  have hesl := hes.1
  have hcll := hcl.1
  have c1 := classesOk_ct hst lo cl hcl
  have c3 := within_ct (G := GL) mn 0 ((cs.length : Int) - 1)
  by_cases h1 : classesOkB cl = true
  case neg =>
    rw [hvF fun h => h1 h.1]
    rw [Bool.eq_false_iff.2 h1] at c1
    repeat' (first | ((with_reducible apply o_y); exact y_; rfl) | refine e_box ?_ | refine e_call hG hst (c1) ?_ | with_reducible refine al_none rfl ?_ | (with_reducible first | apply aw_seq | apply aw_region | apply al_nil | apply aq_then | apply aw_ret | apply aq_then_ret) | refine al_skip rfl rfl rfl rr_ rfl rfl rfl ?_ | refine aw_cond_t rfl rr_ ?_)
    refine aq_ret1 x_ rfl (.tmp _ _ rfl) (fun _ => ?_)
    exact Fin.flat rfl
  rw [h1] at c1
  by_cases h2 : cs.length ≤ 200
  case neg =>
    rw [hvF fun h => h2 h.2.1]
    repeat' (first | ((with_reducible apply o_y); exact y_; rfl) | refine e_box ?_ | refine e_call hG hst (c1) ?_ | with_reducible refine al_none rfl ?_ | (with_reducible first | apply aw_seq | apply aw_region | apply al_nil | apply aq_then | apply aw_ret | apply aq_then_ret) | refine al_run rfl rfl rfl rr_ ?_ | refine al_skip rfl rfl rfl rr_ rfl rfl rfl ?_ | (refine al_gt rfl rfl rfl rr_ dd_ ?_) | refine aw_cond_t rfl rr_ ?_)
    refine aq_ret1 x_ rfl (.tmp _ _ rfl) (fun _ => ?_)
    exact Fin.flat rfl
  by_cases h9 : es.length ≤ 96
  case neg =>
    rw [hvF fun h => by have := h.2.2.2.1; rw [entriesB_long h9] at this; cases this]
    repeat' (first | ((with_reducible apply o_y); exact y_; rfl) | refine e_box ?_ | refine e_call hG hst (c1) ?_ | with_reducible refine al_none rfl ?_ | (with_reducible first | apply aw_seq | apply aw_region | apply al_nil | apply aq_then | apply aw_ret | apply aq_then_ret) | refine al_run rfl rfl rfl rr_ ?_ | refine al_skip rfl rfl rfl rr_ rfl rfl rfl ?_ | (refine al_gt rfl rfl rfl rr_ dd_ ?_) | (refine al_gf rfl rfl rfl rr_ dd_ ?_) | refine aw_cond_t rfl rr_ ?_)
    refine aq_ret1 x_ rfl (.tmp _ _ rfl) (fun _ => ?_)
    exact Fin.flat rfl
  by_cases h3 : inR mn 0 ((cs.length : Int) - 1) = true
  case neg =>
    rw [hvF fun h => h3 h.2.2.1.1]
    rw [Bool.eq_false_iff.2 h3] at c3
    repeat' (first | ((with_reducible apply o_y); exact y_; rfl) | refine e_box ?_ | refine e_call hG hst (c1) ?_ | refine e_call hG hst (c3) ?_ | with_reducible refine al_none rfl ?_ | (with_reducible first | apply aw_seq | apply aw_region | apply al_nil | apply aq_then | apply aw_ret | apply aq_then_ret) | refine al_run rfl rfl rfl rr_ ?_ | refine al_skip rfl rfl rfl rr_ rfl rfl rfl ?_ | (refine al_gf rfl rfl rfl rr_ dd_ ?_) | refine aw_cond_t rfl rr_ ?_)
    refine aq_ret1 x_ rfl (.tmp _ _ rfl) (fun _ => ?_)
    exact Fin.flat rfl
  have h3' := of_decide_eq_true h3
  obtain ⟨q, rfl⟩ : ∃ q : Nat, mn = q := ⟨mn.toNat, by omega⟩
  have hql : q < cs.length := by omega
  have hrq := tcode_row (lo := lo) hql
  have hpl := plainAt_iff (n := 0) rfl (List.getElem?_eq_getElem hql)
  generalize cs[q] = y at hrq hpl
  obtain ⟨yb, yp, ys, yi⟩ := y
  dsimp only at hrq hpl
  rw [h3, show (cs.length : Int) - 1 = ((cs.length - 1 : Nat) : Int) by omega] at c3
  cases yb
  case true =>
    rw [hvF fun h => by have := hpl.1 h.2.2.1.2; cases this.1]
    repeat' (first | ((with_reducible apply o_y); exact y_; rfl) | refine e_box ?_ | refine e_call hG hst (c1) ?_ | refine e_call hG hst (c3) ?_ | with_reducible refine al_none rfl ?_ | (with_reducible first | apply aw_seq | apply aw_region | apply al_nil | apply aq_then | apply aw_ret | apply aq_then_ret) | refine al_run rfl rfl rfl rr_ ?_ | refine al_skip rfl rfl rfl rr_ rfl rfl rfl ?_ | (refine al_gf rfl rfl rfl rr_ dd_ ?_) | refine aw_cond_t rfl rr_ ?_)
    refine aq_ret1 x_ rfl (.tmp _ _ rfl) (fun _ => ?_)
    exact Fin.flat rfl
  by_cases h4 : yp = 0
  case neg =>
    rw [hvF fun h => by have := hpl.1 h.2.2.1.2; exact h4 this.2]
    repeat' (first | ((with_reducible apply o_y); exact y_; rfl) | refine e_box ?_ | refine e_call hG hst (c1) ?_ | refine e_call hG hst (c3) ?_ | with_reducible refine al_none rfl ?_ | (with_reducible first | apply aw_seq | apply aw_region | apply al_nil | apply aq_then | apply aw_ret | apply aq_then_ret) | refine al_run rfl rfl rfl rr_ ?_ | (refine al_gf rfl rfl rfl rr_ dd_ ?_) | (refine aw_cond_dt rfl rr_ dd_ ?_))
    refine aq_ret1 x_ rfl (.tmp _ _ rfl) (fun _ => ?_)
    exact Fin.flat rfl
  have h4' : ¬ yp ≠ 0 := fun h => h h4
  have hhead := hpl.2 ⟨rfl, h4⟩
  repeat' (first | ((with_reducible apply o_y); exact y_; rfl) | refine e_box ?_ | refine e_call hG hst (c1) ?_ | refine e_call hG hst (c3) ?_ | with_reducible refine al_none rfl ?_ | (with_reducible first | apply aw_seq | apply aw_region | apply al_nil | apply aq_then | apply aw_block | apply aw_skip) | refine al_run rfl rfl rfl rr_ ?_ | (refine al_gf rfl rfl rfl rr_ dd_ ?_) | (refine aw_cond_df rfl rr_ dd_ ?_))
  clear hrq hpl c1 c3 h4 h4'
  -- the entries
  apply aw_loopk (X := Nat) [1, 61, 62] (fun i => [(63, .int .i64 (i : Int))]) (fun _ => []) (fun i => i ≤ es.length ∧ ∀ j, j < i → ∀ h : j < es.length, entryOk cl.length cs es[j] ∧ newEntry es j es[j]) (fun i => es.length - i) 0 ⟨Nat.zero_le _, by omega⟩
  exact kp_; (repeat (first | exact Weak.envNil | refine Weak.envCons we_ ?_))
  · exact .refl _
  rintro i ⟨hi, hk⟩
  try dsimp only
  by_cases hlt : i < es.length
  · have hra := tentry_row (lo := lo) hlt
    have hsm := hes.2 _ (List.getElem_mem hlt)
    have hbad : ¬ (entryOk cl.length cs es[i] ∧ newEntry es i es[i]) → V = false := fun h => hvF fun k => by
      have := k.2.2.2.1
      rw [entriesB_bad hlt h] at this; cases this
    have hks : entryOk cl.length cs es[i] ∧ newEntry es i es[i] → ∀ j, j < i + 1 → ∀ h : j < es.length, entryOk cl.length cs es[j] ∧ newEntry es j es[j] := fun ho => below_succ hk fun _ => ho
    clear hvF hvT
    generalize es[i] = e at hra hsm hbad hks
    obtain ⟨ow, ec, sel, cd⟩ := e
    dsimp only at hra
    have hss : sel.size ≤ 1048576 := hsm
    have c1 := hseI sel hss
    have c2 := hcaI sel hss
    have c3 := within_ct (G := GL) ow 16 ((cl.length : Int) - 1)
    have c4 := within_ct (G := GL) cd 0 ((cs.length : Int) - 1)
    have c4' : (cs.length : Int) - 1 = ((cs.length - 1 : Nat) : Int) := by omega
    have c4b := c4
    rw [c4'] at c4b
    by_cases g1 : isSelL sel.data.toList = true
    case neg =>
      rw [hbad fun h => g1 h.1.1.1]
      rw [Bool.eq_false_iff.2 g1] at c1
      repeat' (first | ((with_reducible apply o_y); exact y_; rfl) | (refine e_alloc ?_; intro ss bb) | refine e_storep ?_ | with_reducible refine aw_draw (by kernel_rfl) (by kernel_rfl) ?_ | with_reducible refine dr_nil ?_ | with_reducible refine dr_none rfl ?_ | refine dr_skip rfl rfl rfl rr_ rfl rfl rfl ?_ | ((with_reducible apply d_y); exact y_; rfl) | refine e_calld hG hst (c1) ?_ | with_reducible refine al_none rfl ?_ | (with_reducible first | apply aw_seq | apply aw_region | apply al_nil | apply aq_then | apply aw_block | apply aw_skip | apply aw_ret | apply aq_then_ret | apply aq_block_ret) | refine aw_cond_t rfl rr_ ?_ | (refine aw_cond_dt rfl rr_ dd_ ?_))
      refine aq_ret1 x_ rfl (.tmp _ _ rfl) (fun _ => ?_)
      exact Fin.flat rfl
    by_cases g2 : inR ow 16 ((cl.length : Int) - 1) = true
    case neg =>
      rw [hbad fun h => g2 h.1.1.2.1]
      rw [g1] at c1
      rw [Bool.eq_false_iff.2 g2] at c3
      repeat' (first | ((with_reducible apply o_y); exact y_; rfl) | (refine e_alloc ?_; intro ss bb) | refine e_storep ?_ | with_reducible refine aw_draw (by kernel_rfl) (by kernel_rfl) ?_ | with_reducible refine dr_nil ?_ | with_reducible refine dr_none rfl ?_ | refine dr_run rfl rfl rfl rr_ ?_ | refine dr_skip rfl rfl rfl rr_ rfl rfl rfl ?_ | ((with_reducible apply d_y); exact y_; rfl) | refine e_calld hG hst (c1) ?_ | refine e_calld hG hst (c3) ?_ | with_reducible refine al_none rfl ?_ | (with_reducible first | apply aw_seq | apply aw_region | apply al_nil | apply aq_then | apply aw_block | apply aw_skip | apply aw_ret | apply aq_then_ret | apply aq_block_ret) | refine aw_cond_t rfl rr_ ?_ | (refine aw_cond_dt rfl rr_ dd_ ?_))
      refine aq_ret1 x_ rfl (.tmp _ _ rfl) (fun _ => ?_)
      exact Fin.flat rfl
    by_cases g3 : inR cd 0 ((cs.length : Int) - 1) = true
    case neg =>
      rw [hbad fun h => g3 h.1.1.2.2]
      rw [g1] at c1
      rw [g2] at c3
      rw [← c4', Bool.eq_false_iff.2 g3] at c4b
      rw [c4'] at c4b
      rw [Bool.eq_false_iff.2 g3] at c4
      repeat' (first | ((with_reducible apply o_y); exact y_; rfl) | (refine e_alloc ?_; intro ss bb) | refine e_storep ?_ | with_reducible refine aw_draw (by kernel_rfl) (by kernel_rfl) ?_ | with_reducible refine dr_nil ?_ | with_reducible refine dr_none rfl ?_ | refine dr_run rfl rfl rfl rr_ ?_ | refine dr_skip rfl rfl rfl rr_ rfl rfl rfl ?_ | ((with_reducible apply d_y); exact y_; rfl) | refine e_calld hG hst (c1) ?_ | refine e_calld hG hst (c3) ?_ | refine e_calld hG hst (c4b) ?_ | with_reducible refine al_none rfl ?_ | (with_reducible first | apply aw_seq | apply aw_region | apply al_nil | apply aq_then | apply aw_block | apply aw_skip | apply aw_ret | apply aq_then_ret | apply aq_block_ret) | refine aw_cond_t rfl rr_ ?_ | (refine aw_cond_dt rfl rr_ dd_ ?_))
      refine aq_ret1 x_ rfl (.tmp _ _ rfl) (fun _ => ?_)
      exact Fin.flat rfl
    have g3' := of_decide_eq_true g3
    obtain ⟨p, rfl⟩ : ∃ p : Nat, cd = p := ⟨cd.toNat, by omega⟩
    have hpll : p < cs.length := by omega
    have hrp := tcode_row (lo := lo) hpll
    have hpp := plainAt_iff (n := nArgsL sel.data.toList) rfl (List.getElem?_eq_getElem hpll)
    generalize cs[p] = y at hrp hpp
    obtain ⟨yb, yp, ys, yi⟩ := y
    dsimp only at hrp hpp
    rw [g1] at c1
    rw [g2] at c3
    rw [← c4', g3, c4'] at c4b
    clear c4
    cases yb
    case true =>
      rw [hbad fun h => by have := hpp.1 h.1.2; cases this.1]
      repeat' (first | ((with_reducible apply o_y); exact y_; rfl) | (refine e_alloc ?_; intro ss bb) | refine e_storep ?_ | with_reducible refine aw_draw (by kernel_rfl) (by kernel_rfl) ?_ | with_reducible refine dr_nil ?_ | with_reducible refine dr_none rfl ?_ | refine dr_run rfl rfl rfl rr_ ?_ | refine dr_skip rfl rfl rfl rr_ rfl rfl rfl ?_ | ((with_reducible apply d_y); exact y_; rfl) | refine e_calld hG hst (c1) ?_ | refine e_calld hG hst (c3) ?_ | refine e_calld hG hst (c4b) ?_ | with_reducible refine al_none rfl ?_ | (with_reducible first | apply aw_seq | apply aw_region | apply al_nil | apply aq_then | apply aw_block | apply aw_skip | apply aw_ret | apply aq_then_ret | apply aq_block_ret) | refine aw_cond_t rfl rr_ ?_ | (refine aw_cond_dt rfl rr_ dd_ ?_))
      refine aq_ret1 x_ rfl (.tmp _ _ rfl) (fun _ => ?_)
      exact Fin.flat rfl
    by_cases g5 : yp = nArgsL sel.data.toList
    case neg =>
      rw [hbad fun h => by have := hpp.1 h.1.2; exact g5 this.2]
      repeat' (first | ((with_reducible apply o_y); exact y_; rfl) | (refine e_alloc ?_; intro ss bb) | refine e_storep ?_ | with_reducible refine aw_draw (by kernel_rfl) (by kernel_rfl) ?_ | with_reducible refine dr_nil ?_ | with_reducible refine dr_none rfl ?_ | refine dr_run rfl rfl rfl rr_ ?_ | ((with_reducible apply d_y); exact y_; rfl) | refine e_calld hG hst (c1) ?_ | refine e_calld hG hst (c3) ?_ | refine e_calld hG hst (c4b) ?_ | refine e_calld hG hst (c2) ?_ | with_reducible refine al_none rfl ?_ | (with_reducible first | apply aw_seq | apply aw_region | apply al_nil | apply aq_then | apply aw_block | apply aw_skip | apply aw_ret | apply aq_then_ret | apply aq_block_ret) | (refine aw_cond_dt rfl rr_ dd_ ?_))
      refine aq_ret1 x_ rfl (.tmp _ _ rfl) (fun _ => ?_)
      exact Fin.flat rfl
    have g5' : ¬ yp ≠ nArgsL sel.data.toList := fun h => h g5
    have htl : ((es.map (TEntry.tw lo)).take i).length = i := by simp; omega
    repeat' (first | ((with_reducible apply o_y); exact y_; rfl) | (refine e_alloc ?_; intro ss bb) | refine e_storep ?_ | with_reducible refine aw_draw (by kernel_rfl) (by kernel_rfl) ?_ | with_reducible refine dr_nil ?_ | with_reducible refine dr_none rfl ?_ | refine dr_run rfl rfl rfl rr_ ?_ | ((with_reducible apply d_y); exact y_; rfl) | refine e_slh ?_ | refine e_calld hG hst (c1) ?_ | refine e_calld hG hst (c3) ?_ | refine e_calld hG hst (c4b) ?_ | refine e_calld hG hst (c2) ?_ | with_reducible refine al_none rfl ?_ | (with_reducible first | apply aw_seq | apply aw_region | apply al_nil | apply aq_then | apply aw_block | apply aw_skip) | (refine aw_cond_dt rfl rr_ dd_ ?_) | (refine aw_cond_df rfl rr_ dd_ ?_))
    clear hrp c1 c2 c3 c4b
    generalize ss = s4; generalize bb = b4
    apply aw_loopk (X := Nat) [1, 3, 4, 61, 62, 63, 117, 118] (fun k => [(119, .int .i64 (k : Int))]) (fun _ => [(s4, b4, .box [.int .i64 ow, .bool ec, .str sel, .int .i64 (p : Int)])]) (fun k => k ≤ i ∧ ∀ y ∈ es.take k, ¬ sameEntry ⟨ow, ec, sel, p⟩ y) (fun k => i - k) 0 ⟨Nat.zero_le _, by simp⟩
    exact kp_; (repeat (first | exact Weak.envNil | refine Weak.envCons we_ ?_))
    · exact .refl _
    rintro k ⟨hki, hkn⟩
    try dsimp only
    by_cases hlk : k < i
    · have hlk2 : k < es.length := by omega
      have hrk : ((es.map (TEntry.tw lo)).take i)[k]? = some [.int .i64 es[k].owner, .bool es[k].class_, .str es[k].selector, .int .i64 es[k].code] := by rw [List.getElem?_take_of_lt hlk]; exact tentry_row hlk2
      have hta := take_all (p := fun y => ¬ sameEntry ⟨ow, ec, sel, p⟩ y) hlk2 hkn
      have hmem : es[k] ∈ es.take i := List.mem_take_iff_getElem.2 ⟨k, by omega, rfl⟩
      generalize es[k] = z at hrk hta hmem
      obtain ⟨zo, zc, zs, zd⟩ := z
      dsimp only at hrk
      by_cases hz : sameEntry ⟨ow, ec, sel, p⟩ ⟨zo, zc, zs, zd⟩
      · rw [hbad fun h => h.2 _ hmem hz]
        obtain ⟨z1, z2, z3⟩ := hz
        dsimp only at z1 z2 z3
        have z4 : (ec == zc) = true := by rw [z2]; simp
        clear hbad hks hta
        repeat' (first | ((with_reducible apply o_y); exact y_; rfl) | (refine e_alloc ?_; intro ss bb) | refine e_storep ?_ | with_reducible refine al_none rfl ?_ | (with_reducible first | apply aw_seq | apply aw_region | apply al_nil | apply aq_then | apply aw_block | apply aw_skip | apply aw_ret | apply aq_then_ret | apply aq_block_ret | apply aq_block) | refine al_run rfl rfl rfl rr_ ?_ | refine al_skip rfl rfl rfl rr_ rfl rfl rfl ?_ | (refine al_gt rfl rfl rfl rr_ dd_ ?_) | (refine al_gsplit_b rfl rfl rfl rr_ (fun hg => ?_) (fun hg => ?_)) | refine aw_cond_f rfl rr_ ?_ | (refine aw_cond_dt rfl rr_ dd_ ?_) | (refine aw_cond rfl rr_ (fun hc => ?_) (fun hc => ?_)))
        all_goals first
          | (refine aq_ret1 x_ rfl (.tmp _ _ rfl) (fun _ => ?_)
             exact Fin.flat rfl)
          | (exfalso; simp_all; done)
      · have hnx := hta hz
        unfold sameEntry at hz
        dsimp only at hz
        repeat' (first | ((with_reducible apply o_y); exact y_; rfl) | (refine e_alloc ?_; intro ss bb) | refine e_storep ?_ | with_reducible refine al_none rfl ?_ | (with_reducible first | apply aw_seq | apply aw_region | apply al_nil | apply aq_then | apply aw_block | apply aw_skip | apply aw_ret | apply aq_then_ret | apply aq_block_ret | apply aq_block) | refine al_run rfl rfl rfl rr_ ?_ | refine al_skip rfl rfl rfl rr_ rfl rfl rfl ?_ | (refine al_gsplit rfl rfl rfl rr_ (fun hg => ?_) (fun hg => ?_)) | (refine al_gsplit_b rfl rfl rfl rr_ (fun hg => ?_) (fun hg => ?_)) | refine aw_cond_f rfl rr_ ?_ | (refine aw_cond_dt rfl rr_ dd_ ?_) | (refine aw_cond rfl rr_ (fun hc => ?_) (fun hc => ?_)))
        all_goals first
          | exact aq_round (k + 1) ⟨by omega, hnx⟩ (by omega) (.of _ nw_ od_ pk_)
          | (exfalso; clear hbad hks hta hnx; simp_all; done)
    · obtain rfl : k = i := by omega
      repeat' (first | ((with_reducible apply o_y); exact y_; rfl) | with_reducible refine al_none rfl ?_ | (with_reducible first | apply aw_seq | apply aw_region | apply al_nil | apply aq_then | apply aw_exit | apply aq_block_hit | apply aq_then_exit | apply aq_block) | (refine aw_cond_df rfl rr_ dd_ ?_))
      exact aq_round (k + 1) ⟨by omega, hks ⟨⟨⟨g1, g2, g3⟩, hpp.2 ⟨rfl, g5⟩⟩, hkn⟩⟩ (by omega) (.of _ nw_ od_ (Pick.nil _))
  have hgood : entriesB cl.length cs es = true := by
    rw [entriesB_good fun j hj => hk j (by omega)]
    exact decide_eq_true (by omega)
  clear hk
  have c6 := outers_ct hst lo (.sl lo 3 (cl.map (TClassInfo.tw lo))) (.sl lo 4 (es.map (TEntry.tw lo))) cs (q : Int) (by omega) hcs
  unfold outR at c6
  cases hR : outersL cs
  case none =>
    rw [hR] at c6
    have hf : V = false := hvF fun h => by
      obtain ⟨o, ho, _⟩ := h.2.2.2.2
      rw [hR] at ho; cases ho
    rw [hf]
    clear hvF hvT
    replace c6 : Ct Tryz.prog GL 81 [.agg [.sl lo 3 (cl.map (TClassInfo.tw lo)), .sl lo 4 (cs.map (TCode.tw lo)), .sl lo 4 (es.map (TEntry.tw lo)), .int .i64 (q : Int)]] (fun K => .tup [.sl K 1 [], .bool false]) := c6
    repeat' (first | ((with_reducible apply o_y); exact y_; rfl) | refine e_call hG hst (c6) ?_ | with_reducible refine al_none rfl ?_ | (with_reducible first | apply aw_seq | apply aw_region | apply al_nil | apply aq_then | apply aw_exit | apply aw_ret | apply aq_block_hit | apply aq_then_exit | apply aq_then_ret) | refine aw_cond_t rfl rr_ ?_ | (refine aw_cond_df rfl rr_ dd_ ?_))
    refine aq_ret1 x_ rfl (.tmp _ _ rfl) (fun _ => ?_)
    exact Fin.flat rfl
  case some o =>
    rw [hR] at c6
    replace c6 : Ct Tryz.prog GL 81 [.agg [.sl lo 3 (cl.map (TClassInfo.tw lo)), .sl lo 4 (cs.map (TCode.tw lo)), .sl lo 4 (es.map (TEntry.tw lo)), .int .i64 (q : Int)]] (fun K => .tup [.sl K 1 (intR o), .bool true]) := c6
    obtain ⟨hinv, hfit⟩ := outersL_inv hR
    have hvF2 : ∀ (i : Nat) (hi : i < cs.length), ¬ codeOk cs cl.length o i cs[i] → V = false := fun i hi h => hvF fun k => by
      obtain ⟨o', ho', hc'⟩ := k.2.2.2.2
      rw [hR] at ho'; cases ho'
      exact h (hc' i hi)
    have hvT2 : codesOk cs cl.length o → V = true := fun h => hvT ⟨h1, h2, ⟨h3, hhead⟩, hgood, o, hR, h⟩
    clear hvF hvT hR hgood hhead
    repeat' (first | ((with_reducible apply o_y); exact y_; rfl) | refine e_call hG hst (c6) ?_ | with_reducible refine al_none rfl ?_ | (with_reducible first | apply aw_seq | apply aw_region | apply al_nil | apply aq_then | apply aw_block | apply aw_exit | apply aw_skip | apply aq_block_hit | apply aq_then_exit) | refine aw_cond_f rfl rr_ ?_ | (refine aw_cond_df rfl rr_ dd_ ?_))
    apply aw_loopk (X := Nat) [1, 7, 152, 153] (fun i => [(154, .int .i64 (i : Int))]) (fun _ => []) (fun i => i ≤ cs.length ∧ ∀ j, j < i → ∀ h : j < cs.length, codeOk cs cl.length o j cs[j]) (fun i => cs.length - i) 0 ⟨Nat.zero_le _, by omega⟩
    exact kp_; (repeat (first | exact Weak.envNil | refine Weak.envCons we_ ?_))
    · exact .refl _
    rintro i ⟨hi, ha⟩
    try dsimp only
    by_cases hlt : i < cs.length
    · have hg : cs[i]? = some cs[i] := List.getElem?_eq_getElem hlt
      have hra := tcode_row (lo := lo) hlt
      have hsm := hcs.2 _ (List.getElem_mem hlt)
      have hbad := hvF2 i hlt
      have hnx : codeOk cs cl.length o i cs[i] → ∀ j, j < i + 1 → ∀ h : j < cs.length, codeOk cs cl.length o j cs[j] := fun ho => below_succ ha fun _ => ho
      have hiq := fun (hsl : 0 ≤ (cs[i]'hlt).slots ∧ (cs[i]'hlt).slots ≤ 30) (x : TInstr) (hx : x.text.size ≤ 1048576) => instrOk_ct hst hseI lo w0.heap.size cl (.sl lo 4 (es.map (TEntry.tw lo))) cs (q : Int) hcll hcs o hinv i (cs[i]'hlt) hg hsl x hx
      clear hvF2 hvT2 ha hg
      unfold codeOk codeHead at hbad hnx
      generalize hBB : instrB cs cl.length o i cs[i] = B at hbad hnx hiq
      clear hBB
      generalize cs[i] = c at hra hsm hbad hnx hiq
      obtain ⟨bl, pr, sl, is⟩ := c
      dsimp only at hra hbad hnx hiq
      have hn : is.length ≤ 1048576 := hsm.1
      have ht : ∀ i ∈ is, i.text.size ≤ 1048576 := hsm.2
      have hil := TInstr.len lo is
      have hdep := stackDepths_ct hst hcaI lo bl pr sl is hn ht
      have hnew := dO_new (depthsL is)
      rw [instrs_tw lo] at hdep
      unfold dR dO at hdep hnew
      generalize (depthsL is).getD [] = ds at hdep hnew
      generalize (depthsL is).isSome = ok at hdep hnew hbad hnx
      have d1 := within_ct (G := GL) sl 0 30
      have d2 := within_ct (G := GL) pr 0 sl
      by_cases k0 : ok = true
      case neg =>
        rw [hbad fun h => k0 h.2.2]
        rw [Bool.eq_false_iff.2 k0] at hdep hnew
        repeat' (first | ((with_reducible apply o_y); exact y_; rfl) | (refine e_alloc ?_; intro ss bb) | refine e_storep ?_ | ((with_reducible apply o_callOV); rfl; kernel_rfl; exact hG; exact hst; exact hdep; ((repeat (first | exact Args.nil | ((with_reducible apply Args.cons); rfl; (with_reducible exact View.same _))))); exact hnew; rintro ⟨ss, bb⟩ -; refine al_app1 ?_) | with_reducible refine al_none rfl ?_ | (with_reducible first | apply aw_seq | apply aw_region | apply al_nil | apply aq_then | apply aw_block | apply aw_skip | apply aw_ret | apply aq_then_ret | apply aq_block_ret) | refine al_skip rfl rfl rfl rr_ rfl rfl rfl ?_ | refine aw_cond_t rfl rr_ ?_ | (refine aw_cond_dt rfl rr_ dd_ ?_))
        refine aq_ret1 x_ rfl (.tmp _ _ rfl) (fun _ => ?_)
        exact Fin.flat rfl
      subst k0
      by_cases k1 : inR sl 0 30 = true
      case neg =>
        rw [hbad fun h => k1 h.1.1]
        rw [Bool.eq_false_iff.2 k1] at d1
        repeat' (first | ((with_reducible apply o_y); exact y_; rfl) | (refine e_alloc ?_; intro ss bb) | refine e_storep ?_ | refine e_call hG hst (d1) ?_ | ((with_reducible apply o_callOV); rfl; kernel_rfl; exact hG; exact hst; exact hdep; ((repeat (first | exact Args.nil | ((with_reducible apply Args.cons); rfl; (with_reducible exact View.same _))))); exact hnew; rintro ⟨ss, bb⟩ -; refine al_app1 ?_) | with_reducible refine al_none rfl ?_ | (with_reducible first | apply aw_seq | apply aw_region | apply al_nil | apply aq_then | apply aw_block | apply aw_skip | apply aw_ret | apply aq_then_ret | apply aq_block_ret) | refine al_run rfl rfl rfl rr_ ?_ | refine al_skip rfl rfl rfl rr_ rfl rfl rfl ?_ | refine aw_cond_t rfl rr_ ?_ | (refine aw_cond_dt rfl rr_ dd_ ?_))
        refine aq_ret1 x_ rfl (.tmp _ _ rfl) (fun _ => ?_)
        exact Fin.flat rfl
      by_cases k2 : inR pr 0 sl = true
      case neg =>
        rw [hbad fun h => k2 h.1.2.1]
        rw [k1] at d1
        rw [Bool.eq_false_iff.2 k2] at d2
        repeat' (first | ((with_reducible apply o_y); exact y_; rfl) | (refine e_alloc ?_; intro ss bb) | refine e_storep ?_ | refine e_call hG hst (d1) ?_ | refine e_call hG hst (d2) ?_ | ((with_reducible apply o_callOV); rfl; kernel_rfl; exact hG; exact hst; exact hdep; ((repeat (first | exact Args.nil | ((with_reducible apply Args.cons); rfl; (with_reducible exact View.same _))))); exact hnew; rintro ⟨ss, bb⟩ -; refine al_app1 ?_) | with_reducible refine al_none rfl ?_ | (with_reducible first | apply aw_seq | apply aw_region | apply al_nil | apply aq_then | apply aw_block | apply aw_skip | apply aw_ret | apply aq_then_ret | apply aq_block_ret) | refine al_run rfl rfl rfl rr_ ?_ | refine al_skip rfl rfl rfl rr_ rfl rfl rfl ?_ | refine aw_cond_t rfl rr_ ?_ | (refine aw_cond_dt rfl rr_ dd_ ?_))
        refine aq_ret1 x_ rfl (.tmp _ _ rfl) (fun _ => ?_)
        exact Fin.flat rfl
      rw [k1] at d1
      rw [k2] at d2
      by_cases k3 : is.length ≤ 900
      case neg =>
        rw [hbad fun h => k3 h.1.2.2]
        repeat' (first | ((with_reducible apply o_y); exact y_; rfl) | (refine e_alloc ?_; intro ss bb) | refine e_storep ?_ | refine e_call hG hst (d1) ?_ | refine e_call hG hst (d2) ?_ | ((with_reducible apply o_callOV); rfl; kernel_rfl; exact hG; exact hst; exact hdep; ((repeat (first | exact Args.nil | ((with_reducible apply Args.cons); rfl; (with_reducible exact View.same _))))); exact hnew; rintro ⟨ss, bb⟩ -; refine al_app1 ?_) | with_reducible refine al_none rfl ?_ | (with_reducible first | apply aw_seq | apply aw_region | apply al_nil | apply aq_then | apply aw_block | apply aw_skip | apply aw_ret | apply aq_then_ret | apply aq_block_ret) | refine al_run rfl rfl rfl rr_ ?_ | (refine aw_cond_dt rfl rr_ dd_ ?_))
        refine aq_ret1 x_ rfl (.tmp _ _ rfl) (fun _ => ?_)
        exact Fin.flat rfl
      have hsl := of_decide_eq_true k1
      repeat' (first | ((with_reducible apply o_y); exact y_; rfl) | (refine e_alloc ?_; intro ss bb) | refine e_storep ?_ | refine e_call hG hst (d1) ?_ | refine e_call hG hst (d2) ?_ | ((with_reducible apply o_callOV); rfl; kernel_rfl; exact hG; exact hst; exact hdep; ((repeat (first | exact Args.nil | ((with_reducible apply Args.cons); rfl; (with_reducible exact View.same _))))); exact hnew; rintro ⟨ss, bb⟩ -; refine al_app1 ?_) | with_reducible refine al_none rfl ?_ | (with_reducible first | apply aw_seq | apply aw_region | apply al_nil | apply aq_then | apply aw_block | apply aw_skip) | refine al_run rfl rfl rfl rr_ ?_ | (refine aw_cond_dt rfl rr_ dd_ ?_) | (refine aw_cond_df rfl rr_ dd_ ?_))
      clear hdep hnew d1 d2
      apply aw_loopk (X := Nat) [1, 7, 9, 152, 153, 154, 187, 188] (fun p => [(189, .int .i64 (p : Int))]) (fun _ => []) (fun p => p ≤ is.length ∧ ∀ j, j < p → ∀ h : j < is.length, B is[j] = true) (fun p => is.length - p) 0 ⟨Nat.zero_le _, by omega⟩
      exact kp_; (repeat (first | exact Weak.envNil | refine Weak.envCons we_ ?_))
      · exact .nil _
      rintro p ⟨hp, hpa⟩
      try dsimp only
      by_cases hlp : p < is.length
      · have hrp := tinstr_row (lo := lo) hlp
        have hmem : is[p] ∈ is := List.getElem_mem hlp
        have hxq := ht _ hmem
        have hct := hiq hsl is[p] hxq
        have hny : B is[p] = true → ∀ j, j < p + 1 → ∀ h : j < is.length, B is[j] = true := fun h => below_succ hpa fun _ => h
        have hbd : B is[p] = false → V = false := fun h => hbad fun k => by
          have := k.2.1 _ hmem
          rw [h] at this; cases this
        clear hiq hbad hnx
        generalize is[p] = x at hrp hct hny hbd
        cases hBx : B x
        · rw [hBx] at hct
          rw [hbd hBx]
          repeat' (first | ((with_reducible apply o_y); exact y_; rfl) | (refine e_alloc ?_; intro ss bb) | refine e_storep ?_ | refine e_call hG hst (hct) ?_ | with_reducible refine al_none rfl ?_ | (with_reducible first | apply aw_seq | apply aw_region | apply al_nil | apply aq_then | apply aw_block | apply aw_skip | apply aw_ret | apply aq_then_ret | apply aq_block_ret) | refine aw_cond_t rfl rr_ ?_ | (refine aw_cond_dt rfl rr_ dd_ ?_))
          refine aq_ret1 x_ rfl (.tmp _ _ rfl) (fun _ => ?_)
          exact Fin.flat rfl
        · rw [hBx] at hct
          repeat' (first | ((with_reducible apply o_y); exact y_; rfl) | (refine e_alloc ?_; intro ss bb) | refine e_storep ?_ | refine e_call hG hst (hct) ?_ | with_reducible refine al_none rfl ?_ | (with_reducible first | apply aw_seq | apply aw_region | apply al_nil | apply aq_then | apply aw_block | apply aw_skip | apply aq_block) | refine aw_cond_f rfl rr_ ?_ | (refine aw_cond_dt rfl rr_ dd_ ?_))
          exact aq_round (p + 1) ⟨by omega, hny hBx⟩ (by omega) (.of _ nw_ od_ (Pick.nil _))
      · have hall : ∀ y ∈ is, B y = true := fun y hy => by
          obtain ⟨j, hj, rfl⟩ := List.getElem_of_mem hy
          exact hpa j (by omega) hj
        have hnz := hnx ⟨⟨k1, k2, k3⟩, hall, rfl⟩
        repeat' (first | ((with_reducible apply o_y); exact y_; rfl) | with_reducible refine al_none rfl ?_ | (with_reducible first | apply aw_seq | apply aw_region | apply al_nil | apply aq_then | apply aw_exit | apply aq_block_hit | apply aq_then_exit | apply aq_block) | (refine aw_cond_df rfl rr_ dd_ ?_))
        exact aq_round (i + 1) ⟨by omega, hnz⟩ (by omega) (.of _ nw_ od_ (Pick.nil _))
    · rw [hvT2 fun j hj => ha j (by omega) hj]
      repeat' (first | ((with_reducible apply o_y); exact y_; rfl) | with_reducible refine al_none rfl ?_ | (with_reducible first | apply aw_seq | apply aw_region | apply al_nil | apply aq_then | apply aw_exit | apply aw_ret | apply aq_block_hit | apply aq_then_exit) | (refine aw_cond_df rfl rr_ dd_ ?_))
      refine aq_ret1 x_ rfl (.tmp _ _ rfl) (fun _ => ?_)
      exact Fin.flat rfl
end Go.Proofs.YtfchjaoeogolnaaGreatDoor
/- EditsOf of the program. -/
namespace Go.Proofs.YtfchjaoeogolnaaGreatDoor
set_option maxRecDepth 20000
open Go Go.RowKit
set_option maxHeartbeats 4000000 in
theorem implEditsOf_ctm (hst : Stable GL) (lo : Nat) (x : TCodeBase) (hx : TCodeBase.small 1048576 x) : CtM Tryz.prog GL 18 [.agg [.sl lo 3 (x.classes.map (TClassInfo.tw lo)), .sl lo 4 (x.codes.map (TCode.tw lo)), .sl lo 4 (x.entries.map (TEntry.tw lo)), .int .i64 x.main]] []
      (fun _ : Nat × Nat => True) (fun y => [(y.1, y.2, .row 3 ((edsB x).map (TEdit.tw 0)))]) (fun y => .ms y.1 y.2 0 (edsB x).length) := by
  refine ctm_enter Tryz.func18 rfl Tryz.ntmps18 rfl rfl rfl fun w0 R gs objsR hG hR => ?_
  obtain rfl := hR.inv0
  clear hR
  have hver := implIsVerified_ct lo x.classes x.entries x.codes x.main hx.1 hx.2.1 hx.2.2
  have hB : verifiedB ⟨x.classes, x.codes, x.entries, x.main⟩ = verifiedB x := rfl
  rw [hB] at hver
  cases hV : verifiedB x with
  | false =>
    have hs : edsB x = [] := by unfold edsB; rw [if_neg (by rw [hV]; decide)]
    rw [hV] at hver
    rw [hs]
    repeat' (first | ((with_reducible apply o_y); exact y_; rfl) | refine e_box ?_ | refine e_call hG hst (hver) ?_ | with_reducible refine al_none rfl ?_ | (with_reducible first | apply aw_seq | apply aw_region | apply al_nil | apply aq_then | apply aw_ret | apply aq_then_ret) | refine aw_cond_t rfl rr_ ?_)
    refine aq_nils 2 3 (by omega) rfl fun ss => aq_retm1 x_ rfl (ss, 0) trivial rfl (.cons _ _ _ _ (.nil R)) pk_ (.tmp _ _ rfl) rfl
  | true =>
    have hs : edsB x = edCs x.codes x.codes.length := by unfold edsB; rw [if_pos hV]; rfl
    have hok := code_ok hV
    have h200 := (rs_ok hV).codes
    rw [hV] at hver
    rw [hs]
    have hcl := TCode.len lo x.codes
    have hsm := hx.2.1.2
    have h0 : ([] : List TEdit) = edCs x.codes 0 := rfl
    have hsucc := edCs_succ x.codes
    have hlenC := edCs_len (fun c hc => (hok c hc).len)
    generalize x.codes = cs at *
    clear hs hV
    repeat' (first | ((with_reducible apply o_y); exact y_; rfl) | refine e_box ?_ | (refine e_own ?_; intro ss bb) | refine e_call hG hst (hver) ?_ | with_reducible refine al_none rfl ?_ | (with_reducible first | apply aw_seq | apply aw_region | apply al_nil | apply aq_then | apply aw_block | apply aw_skip) | refine aw_cond_f rfl rr_ ?_)
    generalize ss = so; generalize bb = bo
    apply aw_loopk (X := Nat × Nat × List TEdit) [1, 18, 19, 1000000] (fun x => [(20, .int .i64 (x.1 : Int)), (3, .ms so x.2.1 0 x.2.2.length)]) (fun x => (so, x.2.1, .row 3 (x.2.2.map (TEdit.tw 0))) :: R) (fun x => x.1 ≤ cs.length ∧ x.2.2 = edCs cs x.1) (fun x => cs.length - x.1) (0, bo, []) ⟨Nat.zero_le _, h0⟩
    exact kp_; (repeat (first | exact Weak.envNil | refine Weak.envCons we_ ?_))
    · exact .refl _
    clear h0
    rintro ⟨i, bo, acc⟩ ⟨hi, hacc⟩
    dsimp only at hi hacc ⊢
    have hal := hlenC i
    rw [← hacc] at hal
    by_cases hlt : i < cs.length
    · have hrc := tcode_row (lo := lo) hlt
      have hoki := hok _ (List.getElem_mem hlt)
      have hsmi := hsm _ (List.getElem_mem hlt)
      have hnx := hsucc i
      rw [codeI_at hlt, ← hacc] at hnx
      generalize cs[i] = c at hrc hoki hsmi hnx
      obtain ⟨bl, pr, sl, is⟩ := c
      dsimp only at hrc hoki hsmi hnx
      have hil := TInstr.len lo is
      have hin := hoki.len
      obtain ⟨ds, hds⟩ := Option.isSome_iff_exists.1 hoki.dep
      obtain ⟨hdl, _⟩ := depthsL_inv hds
      have hdep := stackDepths_ct hst hcaI lo bl pr sl is (by omega) hsmi.2
      have hnew := dO_new (depthsL is)
      rw [instrs_tw lo] at hdep
      unfold dR dO at hdep hnew
      rw [hds] at hdep hnew
      dsimp only [Option.getD_some, Option.isSome_some] at hdep hnew
      have hisl := isLabel_ct (G := GL) hst lo bl pr sl is (by omega) hoki.pre
      have hid := intR_length ds
      have hll : (labelsL is).length = is.length + 1 := labP_len _ _
      have hfit := fun (n : Nat) (hn : n < is.length) (j : Nat) => editFits_ct (G := GL) hst lo w0.heap.size 0 bl pr sl is hoki (labelsL is) hll ds hdl n hn ((j : Int) + 1)
      repeat' (first | ((with_reducible apply o_y); exact y_; rfl) | (refine e_alloc ?_; intro ss bb) | refine e_storep ?_ | refine e_call hG hst (hisl) ?_ | ((with_reducible apply o_callOV); rfl; kernel_rfl; exact hG; exact hst; exact hdep; ((repeat (first | exact Args.nil | ((with_reducible apply Args.cons); rfl; (with_reducible exact View.same _))))); exact hnew; rintro ⟨ss, bb⟩ -; refine al_app1 ?_) | with_reducible refine al_none rfl ?_ | (with_reducible first | apply aw_seq | apply aw_region | apply al_nil | apply aq_then | apply aw_block | apply aw_skip) | (refine aw_cond_dt rfl rr_ dd_ ?_))
      rename_i s5 b5
      generalize ss = sd; generalize bb = bd
      apply aw_loopk (X := Nat × Nat × List TEdit) [1, 4, 5, 6, 7, 18, 19, 20, 33, 34, 1000000] (fun x => [(35, .int .i64 (x.1 : Int)), (3, .ms so x.2.1 0 x.2.2.length)]) (fun x => (so, x.2.1, .row 3 (x.2.2.map (TEdit.tw 0))) :: (sd, bd, .row 1 (intR ds)) :: (s5, b5, .box [.bool bl, .int .i64 pr, .int .i64 sl, .sl lo 4 (is.map (TInstr.tw lo))]) :: R) (fun x => x.1 ≤ is.length ∧ x.2.2 = edIs i is acc x.1) (fun x => is.length - x.1) (0, bo, acc) ⟨Nat.zero_le _, rfl⟩
      exact kp_; (repeat (first | exact Weak.envNil | refine Weak.envCons we_ ?_))
      · exact pk_
      rintro ⟨n, bo, acc2⟩ ⟨hn, hacc2⟩
      dsimp only at hn hacc2 ⊢
      have hal2 := edIs_len i is acc n
      rw [← hacc2] at hal2
      by_cases hnl : n < is.length
      · have hfn := hfit n hnl
        have hnx2 := edIs_succ i is acc n
        rw [← hacc2] at hnx2
        repeat' (first | ((with_reducible apply o_y); exact y_; rfl) | with_reducible refine al_none rfl ?_ | (with_reducible first | apply aw_seq | apply aw_region | apply al_nil | apply aq_then | apply aw_block | apply aw_skip) | (refine aw_cond_dt rfl rr_ dd_ ?_))
        apply aw_loopk (X := Nat × Nat × List TEdit) [1, 4, 5, 6, 7, 9, 18, 19, 20, 33, 34, 35, 1000000] (fun x => [(10, .int .i64 ((x.1 : Int) + 1)), (3, .ms so x.2.1 0 x.2.2.length)]) (fun x => (so, x.2.1, .row 3 (x.2.2.map (TEdit.tw 0))) :: (sd, bd, .row 1 (intR ds)) :: (s5, b5, .box [.bool bl, .int .i64 pr, .int .i64 sl, .sl lo 4 (is.map (TInstr.tw lo))]) :: R) (fun x => x.1 ≤ 5 ∧ x.2.2 = edKs i is n acc2 x.1) (fun x => 5 - x.1) (0, bo, acc2) ⟨Nat.zero_le _, rfl⟩
        exact kp_; (repeat (first | exact Weak.envNil | refine Weak.envCons we_ ?_))
        · exact .refl _
        rintro ⟨j, bo, acc3⟩ ⟨hj, hacc3⟩
        dsimp only at hj hacc3 ⊢
        have hal3 := edKs_len i is n acc2 j
        rw [← hacc3] at hal3
        by_cases hj5 : j < 5
        · have hct := hfn j
          have hkz : ((j : Int) + 1).toNat = j + 1 := by omega
          rw [hkz] at hct
          have hnx3 := edKs_succ i is n acc2 j
          rw [← hacc3, hds] at hnx3
          dsimp only [Option.getD_some] at hnx3
          cases hf : fitsB is (labelsL is) ds n (insAt is n) (j + 1) with
          | false =>
            rw [hf] at hct
            rw [edK_f hf] at hnx3
            repeat' (first | ((with_reducible apply o_y); exact y_; rfl) | refine e_callv hG hst (hct) ?_ | with_reducible refine al_none rfl ?_ | (with_reducible first | apply aw_seq | apply aw_region | apply al_nil | apply aq_then | apply aw_block | apply aw_skip | apply aq_block) | refine aw_cond_f rfl rr_ ?_ | (refine aw_cond_dt rfl rr_ dd_ ?_))
            exact aq_round (j + 1, bo, acc3) ⟨by dsimp only; omega, hnx3.symm⟩ (by dsimp only; omega) (.of _ nw_ od_ pk_)
          | true =>
            rw [hf] at hct
            rw [edK_t hf] at hnx3
            have hol : (acc3 ++ [(⟨(i : Int), (n : Int), (j : Int) + 1⟩ : TEdit)]).length = acc3.length + 1 := by simp
            have hsn : acc3.map (TEdit.tw 0) ++ [[.int .i64 (i : Int), .int .i64 (n : Int), .int .i64 ((j : Int) + 1)]] = (acc3 ++ [(⟨(i : Int), (n : Int), (j : Int) + 1⟩ : TEdit)]).map (TEdit.tw 0) := edTw_snoc _ _ ⟨(i : Int), (n : Int), (j : Int) + 1⟩
            repeat' (first | ((with_reducible apply o_y); exact y_; rfl) | refine e_build ?_ | refine e_lit ?_ | ((with_reducible apply o_append); rfl; rfl; rfl; kernel_rfl; (repeat (with_reducible exact mh)); exact List.length_map _; ((show List.length _ = 1; rfl)); omega; exact hsn; (intro bq; (repeat (with_reducible exact Upd.head _))); intro bb) | refine e_callv hG hst (hct) ?_ | with_reducible refine al_none rfl ?_ | (with_reducible first | apply aw_seq | apply aw_region | apply al_nil | apply aq_then | apply aw_block | apply aw_skip | apply aq_block) | refine aw_cond_t rfl rr_ ?_ | (refine aw_cond_dt rfl rr_ dd_ ?_))
            exact aq_round (j + 1, bb, _) ⟨by dsimp only; omega, hnx3.symm⟩ (by dsimp only; omega) (.of _ (Weak.envCons (lk_int rfl (by dsimp only; omega)) (Weak.envCons (lk_ms rfl hol.symm) Weak.envNil)) od_ pk_)
        · obtain rfl : j = 5 := by omega
          repeat' (first | ((with_reducible apply o_y); exact y_; rfl) | with_reducible refine al_none rfl ?_ | (with_reducible first | apply aw_seq | apply aw_region | apply al_nil | apply aq_then | apply aw_exit | apply aq_block_hit | apply aq_then_exit | apply aq_block) | (refine aw_cond_df rfl rr_ dd_ ?_))
          exact aq_round (n + 1, bo, acc3) ⟨by dsimp only; omega, by rw [hnx2]; exact hacc3⟩ (by dsimp only; omega) (.of _ nw_ od_ pk_)
      · obtain rfl : n = is.length := by omega
        repeat' (first | ((with_reducible apply o_y); exact y_; rfl) | with_reducible refine al_none rfl ?_ | (with_reducible first | apply aw_seq | apply aw_region | apply al_nil | apply aq_then | apply aw_exit | apply aq_block_hit | apply aq_then_exit | apply aq_block) | (refine aw_cond_df rfl rr_ dd_ ?_))
        exact aq_round (i + 1, bo, acc2) ⟨by dsimp only; omega, by rw [hnx]; exact hacc2⟩ (by dsimp only; omega) (.of _ nw_ od_ pk_)
    · obtain rfl : i = cs.length := by omega
      rw [← hacc]
      repeat' (first | ((with_reducible apply o_y); exact y_; rfl) | with_reducible refine al_none rfl ?_ | (with_reducible first | apply aw_seq | apply aw_region | apply al_nil | apply aq_then | apply aw_exit | apply aw_ret | apply aq_block_hit | apply aq_then_exit) | (refine aw_cond_df rfl rr_ dd_ ?_))
      exact aq_retm1 x_ rfl (so, bo) trivial rfl (.cons _ _ _ _ (.nil R)) pk_ (.tmp _ _ rfl) rfl
end Go.Proofs.YtfchjaoeogolnaaGreatDoor
/- Nested memory that the call owns: the laws' copies of a code base. Written by gen_ne.py. -/
namespace Go.Proofs.YtfchjaoeogolnaaGreatDoor
set_option maxRecDepth 20000
open Go Go.RowKit
/-- Rows whose elements hold rows of their own: a place (site, block) for each. -/
def nR {α : Type} (mk : α → Nat × Nat → List TV) (l : List α) (ps : List (Nat × Nat)) : List (List TV) := List.zipWith mk l ps
def nO {α : Type} (ob : α → TObj) (l : List α) (ps : List (Nat × Nat)) : Objs := List.zipWith (fun x p => (p.1, p.2, ob x)) l ps
theorem nR_len {α : Type} (mk : α → Nat × Nat → List TV) {l : List α} {ps : List (Nat × Nat)} (h : ps.length = l.length) : (nR mk l ps).length = l.length := by simp [nR, h]
theorem takeSnoc {α : Type} {l : List α} {i : Nat} (h : i < l.length) : l.take (i + 1) = l.take i ++ [l[i]] := by rw [List.take_add_one, List.getElem?_eq_getElem h]; rfl
theorem nO_snoc {α : Type} (ob : α → TObj) {l : List α} {ps : List (Nat × Nat)} {i : Nat} (h : i < l.length) (hp : ps.length = i) (p : Nat × Nat) : nO ob (l.take (i + 1)) (ps ++ [p]) = nO ob (l.take i) ps ++ [(p.1, p.2, ob l[i])] := by
  unfold nO
  rw [takeSnoc h, List.zipWith_append (by simp; omega)]; rfl
theorem nR_set {α : Type} (mk : α → Nat × Nat → List TV) (z : List TV) {l : List α} {ps : List (Nat × Nat)} {i : Nat} (h : i < l.length) (hp : ps.length = i) (p : Nat × Nat) :
    (nR mk (l.take i) ps ++ List.replicate (l.length - i) z)[i]? = some z ∧ (nR mk (l.take i) ps ++ List.replicate (l.length - i) z).set i (mk l[i] p) = nR mk (l.take (i + 1)) (ps ++ [p]) ++ List.replicate (l.length - (i + 1)) z := by
  have hl : (nR mk (l.take i) ps).length = i := by simp [nR]; omega
  have e : l.length - i = (l.length - (i + 1)) + 1 := by omega
  refine ⟨?_, ?_⟩
  · rw [List.getElem?_append_right (by omega), hl, Nat.sub_self, e, List.replicate_succ]; rfl
  · rw [List.set_append_right _ _ (by omega), hl, Nat.sub_self, e, List.replicate_succ, List.set_cons_zero]
    unfold nR
    rw [takeSnoc h, List.zipWith_append (by simp; omega), List.append_assoc]; rfl
theorem pick_snoc (a z : Nat × Nat × TObj) (T R : Objs) : Pick (a :: ((T ++ [z]) ++ R)) (z :: a :: (T ++ R)) := .perm (by
  have h : ((T ++ [z]) ++ R).Perm (z :: (T ++ R)) := by rw [List.append_assoc]; exact List.perm_middle
  exact (h.cons a).trans (List.Perm.swap z a _))
def clsMk (x : TClassInfo) (p : Nat × Nat) : List TV := [.str x.name, .int .i64 x.parent, .ms p.1 p.2 0 x.fields.length]
def clsOb (x : TClassInfo) : TObj := .row 1 (strR x.fields)
def codMk (x : TCode) (p : Nat × Nat) : List TV := [.bool x.block, .int .i64 x.params, .int .i64 x.slots, .ms p.1 p.2 0 x.instrs.length]
def codOb (x : TCode) : TObj := .row 4 (x.instrs.map (TInstr.tw 0))
section
variable {G : World → Prop}
theorem toStringS_own (hst : Stable G) (lo : Nat) (l : List ByteArray) (hn : l.length ≤ 1048576) : CtM Tryz.prog G 112 [.sl lo 1 (strR l)] [] (fun _ : Nat × Nat => True) (fun y => [(y.1, y.2, .row 1 (strR l))]) (fun y => .ms y.1 y.2 0 l.length) := by
  refine ctm_enter Tryz.func112 rfl Tryz.ntmps112 rfl rfl rfl fun w0 R gs objsR hG hR => ?_
  obtain rfl := hR.inv0
  clear hR
  have hlen := strR_len l
  have h0 := copyR_zero (fun s : ByteArray => [TV.str s]) [.str ⟨#[]⟩] l
  repeat' (first | ((with_reducible apply o_y); exact y_; rfl) | (refine e_make ?_; intro ss bb) | with_reducible refine al_none rfl ?_ | (with_reducible first | apply aw_seq | apply aw_region | apply al_nil | apply aq_then | apply aw_block))
  generalize ss = so; generalize bb = bo
  apply aw_loopk (X := Nat) [0, 3, 1000000] (fun i => [(4, .int .i64 (i : Int))]) (fun i => (so, bo, .row 1 (copyR (fun s : ByteArray => [TV.str s]) [.str ⟨#[]⟩] l i)) :: R) (fun i => i ≤ l.length) (fun i => l.length - i) 0 (Nat.zero_le _)
  exact kp_; (repeat (first | exact Weak.envNil | refine Weak.envCons we_ ?_))
  · rw [← h0]; exact .refl _
  intro i hi
  try dsimp only
  by_cases hlt : i < l.length
  · obtain ⟨hrow, hset⟩ := copyR_set (fun s : ByteArray => [TV.str s]) [.str ⟨#[]⟩] hlt
    have hra := strR_row hlt
    generalize l[i] = x at hset hra
    try dsimp only at hset
    repeat' (first | ((with_reducible apply o_y); exact y_; rfl) | refine e_store ?_ | with_reducible refine al_none rfl ?_ | (with_reducible first | apply aw_seq | apply aw_region | apply al_nil | apply aq_then | apply aw_block | apply aw_skip | apply aq_block) | (refine aw_cond_dt rfl rr_ dd_ ?_))
    refine aq_round (i + 1) (by omega) (by omega) (.of _ nw_ od_ (by rw [← hset]; exact .refl _))
  · obtain rfl : i = l.length := by omega
    rw [copyR_full]
    repeat' (first | ((with_reducible apply o_y); exact y_; rfl) | with_reducible refine al_none rfl ?_ | (with_reducible first | apply aw_seq | apply aw_region | apply al_nil | apply aq_then | apply aw_exit | apply aw_ret | apply aq_block_hit | apply aq_then_exit) | (refine aw_cond_df rfl rr_ dd_ ?_))
    exact aq_retm1 x_ rfl (so, bo) trivial rfl (.cons _ _ _ _ (.nil R)) pk_ (.tmp _ _ rfl) rfl
theorem toInstrS_own (hst : Stable G) (lo : Nat) (l : List TInstr) (hb : l.length ≤ 1048576 ∧ ∀ y ∈ l, TInstr.small 1048576 y) : CtM Tryz.prog G 113 [.sl lo 4 (l.map (TInstr.tw lo))] [] (fun _ : Nat × Nat => True) (fun y => [(y.1, y.2, .row 4 (l.map (TInstr.tw 0)))]) (fun y => .ms y.1 y.2 0 l.length) := by
  refine ctm_enter Tryz.func113 rfl Tryz.ntmps113 rfl rfl rfl fun w0 R gs objsR hG hR => ?_
  obtain rfl := hR.inv0
  clear hR
  have hlen := TInstr.len lo l
  have hl1 := hb.1
  have h0 := copyR_zero (TInstr.tw 0) TInstr.tz l
  repeat' (first | ((with_reducible apply o_y); exact y_; rfl) | (refine e_make ?_; intro ss bb) | with_reducible refine al_none rfl ?_ | (with_reducible first | apply aw_seq | apply aw_region | apply al_nil | apply aq_then | apply aw_block))
  generalize ss = so; generalize bb = bo
  apply aw_loopk (X := Nat) [0, 3, 1000000] (fun i => [(4, .int .i64 (i : Int))]) (fun i => (so, bo, .row 4 (copyR (TInstr.tw 0) TInstr.tz l i)) :: R) (fun i => i ≤ l.length) (fun i => l.length - i) 0 (Nat.zero_le _)
  exact kp_; (repeat (first | exact Weak.envNil | refine Weak.envCons we_ ?_))
  · rw [← h0]; exact .refl _
  intro i hi
  try dsimp only
  by_cases hlt : i < l.length
  · obtain ⟨hrow, hset⟩ := copyR_set (TInstr.tw 0) TInstr.tz hlt
    have hra : (l.map (TInstr.tw lo))[i]? = some (l[i].tw lo) := row_map hlt
    have hbi := hb.2 _ (List.getElem_mem hlt)
    generalize l[i] = x at hset hra hbi
    have hct := toInstr_ct hst lo x hbi
    unfold TInstr.tw at hct
    rw [show x.tw lo = [.int .i64 x.op, .int .i64 x.a, .int .i64 x.b, .str x.text] from rfl] at hra
    replace hrow : (copyR (TInstr.tw 0) TInstr.tz l i)[i]? = some [.int .i64 0, .int .i64 0, .int .i64 0, .str ⟨#[]⟩] := hrow
    repeat' (first | ((with_reducible apply o_y); exact y_; rfl) | refine e_call hG hst (hct) ?_ | refine e_store ?_ | with_reducible refine al_none rfl ?_ | (with_reducible first | apply aw_seq | apply aw_region | apply al_nil | apply aq_then | apply aw_block | apply aw_skip | apply aq_block) | (refine aw_cond_dt rfl rr_ dd_ ?_))
    refine aq_round (i + 1) (by omega) (by omega) (.of _ nw_ od_ (by rw [← hset]; exact .refl _))
  · obtain rfl : i = l.length := by omega
    rw [copyR_full]
    repeat' (first | ((with_reducible apply o_y); exact y_; rfl) | with_reducible refine al_none rfl ?_ | (with_reducible first | apply aw_seq | apply aw_region | apply al_nil | apply aq_then | apply aw_exit | apply aw_ret | apply aq_block_hit | apply aq_then_exit) | (refine aw_cond_df rfl rr_ dd_ ?_))
    exact aq_retm1 x_ rfl (so, bo) trivial rfl (.cons _ _ _ _ (.nil R)) pk_ (.tmp _ _ rfl) rfl
theorem toEntryS_own (hst : Stable G) (lo : Nat) (l : List TEntry) (hb : l.length ≤ 1048576 ∧ ∀ y ∈ l, TEntry.small 1048576 y) : CtM Tryz.prog G 37 [.sl lo 4 (l.map (TEntry.tw lo))] [] (fun _ : Nat × Nat => True) (fun y => [(y.1, y.2, .row 4 (l.map (TEntry.tw 0)))]) (fun y => .ms y.1 y.2 0 l.length) := by
  refine ctm_enter Tryz.func37 rfl Tryz.ntmps37 rfl rfl rfl fun w0 R gs objsR hG hR => ?_
  obtain rfl := hR.inv0
  clear hR
  have hlen := TEntry.len lo l
  have hl1 := hb.1
  have h0 := copyR_zero (TEntry.tw 0) TEntry.tz l
  repeat' (first | ((with_reducible apply o_y); exact y_; rfl) | (refine e_make ?_; intro ss bb) | with_reducible refine al_none rfl ?_ | (with_reducible first | apply aw_seq | apply aw_region | apply al_nil | apply aq_then | apply aw_block))
  generalize ss = so; generalize bb = bo
  apply aw_loopk (X := Nat) [0, 3, 1000000] (fun i => [(4, .int .i64 (i : Int))]) (fun i => (so, bo, .row 4 (copyR (TEntry.tw 0) TEntry.tz l i)) :: R) (fun i => i ≤ l.length) (fun i => l.length - i) 0 (Nat.zero_le _)
  exact kp_; (repeat (first | exact Weak.envNil | refine Weak.envCons we_ ?_))
  · rw [← h0]; exact .refl _
  intro i hi
  try dsimp only
  by_cases hlt : i < l.length
  · obtain ⟨hrow, hset⟩ := copyR_set (TEntry.tw 0) TEntry.tz hlt
    have hra : (l.map (TEntry.tw lo))[i]? = some (l[i].tw lo) := row_map hlt
    have hbi := hb.2 _ (List.getElem_mem hlt)
    generalize l[i] = x at hset hra hbi
    have hct := toEntry_ct hst lo x hbi
    unfold TEntry.tw at hct
    rw [show x.tw lo = [.int .i64 x.owner, .bool x.class_, .str x.selector, .int .i64 x.code] from rfl] at hra
    replace hrow : (copyR (TEntry.tw 0) TEntry.tz l i)[i]? = some [.int .i64 0, .bool false, .str ⟨#[]⟩, .int .i64 0] := hrow
    repeat' (first | ((with_reducible apply o_y); exact y_; rfl) | refine e_call hG hst (hct) ?_ | refine e_store ?_ | with_reducible refine al_none rfl ?_ | (with_reducible first | apply aw_seq | apply aw_region | apply al_nil | apply aq_then | apply aw_block | apply aw_skip | apply aq_block) | (refine aw_cond_dt rfl rr_ dd_ ?_))
    refine aq_round (i + 1) (by omega) (by omega) (.of _ nw_ od_ (by rw [← hset]; exact .refl _))
  · obtain rfl : i = l.length := by omega
    rw [copyR_full]
    repeat' (first | ((with_reducible apply o_y); exact y_; rfl) | with_reducible refine al_none rfl ?_ | (with_reducible first | apply aw_seq | apply aw_region | apply al_nil | apply aq_then | apply aw_exit | apply aw_ret | apply aq_block_hit | apply aq_then_exit) | (refine aw_cond_df rfl rr_ dd_ ?_))
    exact aq_retm1 x_ rfl (so, bo) trivial rfl (.cons _ _ _ _ (.nil R)) pk_ (.tmp _ _ rfl) rfl
theorem toClassInfo_own (hst : Stable G) (lo : Nat) (x : TClassInfo) (hb : x.small 1048576) : CtM Tryz.prog G 75 [.agg [.str x.name, .int .i64 x.parent, .sl lo 1 (strR x.fields)]] [] (fun _ : Nat × Nat => True) (fun y => [(y.1, y.2, .row 1 (strR x.fields))]) (fun y => .agg [.str x.name, .int .i64 x.parent, .ms y.1 y.2 0 x.fields.length]) := by
  refine ctm_enter Tryz.func75 rfl Tryz.ntmps75 rfl rfl rfl fun w0 R gs objsR hG hR => ?_
  obtain rfl := hR.inv0
  clear hR
  have hin := toStringS_own hst lo x.fields hb.2.1
  repeat' (first | ((with_reducible apply o_y); exact y_; rfl) | refine e_box ?_ | (refine e_alloc ?_; intro ss bb) | refine e_storep ?_ | ((with_reducible apply o_callM); rfl; kernel_rfl; (repeat (first | exact ArgsM.nil | ((with_reducible apply ArgsM.cons); rfl))); exact hG; exact hin; exact .nil _; intro y hy; refine al_app1 ?_) | with_reducible refine al_none rfl ?_ | (with_reducible first | apply aw_seq | apply aw_region | apply al_nil | apply aq_then | apply aw_ret))
  refine aq_retm1 x_ rfl y trivial rfl (.cons _ _ _ _ (.nil R)) pk_ (.cell _ _ _ _ _ rfl mm_ (by kernel_rfl) (by kernel_rfl) (by kernel_rfl)) rfl
theorem toClassInfoS_own (hst : Stable G) (lo : Nat) (l : List TClassInfo) (hb : l.length ≤ 1048576 ∧ ∀ y ∈ l, TClassInfo.small 1048576 y) : CtM Tryz.prog G 35 [.sl lo 3 (l.map (TClassInfo.tw lo))] [] (fun y : (Nat × Nat) × List (Nat × Nat) => y.2.length = l.length) (fun y => (y.1.1, y.1.2, .row 3 (nR clsMk l y.2)) :: nO clsOb l y.2) (fun y => .ms y.1.1 y.1.2 0 l.length) := by
  refine ctm_enter Tryz.func35 rfl Tryz.ntmps35 rfl rfl rfl fun w0 R gs objsR hG hR => ?_
  obtain rfl := hR.inv0
  clear hR
  have hlen := TClassInfo.len lo l
  have hl1 := hb.1
  have h0 : List.replicate l.length TClassInfo.tz = nR clsMk (l.take 0) [] ++ List.replicate (l.length - 0) TClassInfo.tz := by simp [nR]
  repeat' (first | ((with_reducible apply o_y); exact y_; rfl) | (refine e_make ?_; intro ss bb) | with_reducible refine al_none rfl ?_ | (with_reducible first | apply aw_seq | apply aw_region | apply al_nil | apply aq_then | apply aw_block))
  generalize ss = so; generalize bb = bo
  apply aw_loopk (X := Nat × List (Nat × Nat)) [0, 3, 1000000] (fun x => [(4, .int .i64 (x.1 : Int))]) (fun x => (so, bo, .row 3 (nR clsMk (l.take x.1) x.2 ++ List.replicate (l.length - x.1) TClassInfo.tz)) :: (nO clsOb (l.take x.1) x.2 ++ R)) (fun x => x.1 ≤ l.length ∧ x.2.length = x.1) (fun x => l.length - x.1) (0, []) ⟨Nat.zero_le _, rfl⟩
  exact kp_; (repeat (first | exact Weak.envNil | refine Weak.envCons we_ ?_))
  · rw [← h0]; exact .refl _
  rintro ⟨i, ps⟩ ⟨hi, hps⟩
  dsimp only at hi hps ⊢
  by_cases hlt : i < l.length
  · have hrs := fun p => nR_set clsMk TClassInfo.tz hlt hps p
    have hos := fun p => nO_snoc clsOb hlt hps p
    have hra : (l.map (TClassInfo.tw lo))[i]? = some (l[i].tw lo) := row_map hlt
    have hbi := hb.2 _ (List.getElem_mem hlt)
    generalize l[i] = x at hrs hos hra hbi
    have hct := toClassInfo_own hst lo x hbi
    rw [show x.tw lo = [.str x.name, .int .i64 x.parent, .sl lo 1 (strR x.fields)] from rfl] at hra
    have hrow : (nR clsMk (l.take i) ps ++ List.replicate (l.length - i) TClassInfo.tz)[i]? = some [.str ⟨#[]⟩, .int .i64 0, .nils] := (hrs (0, 0)).1
    generalize nO clsOb (l.take i) ps = T at hos ⊢
    repeat' (first | ((with_reducible apply o_y); exact y_; rfl) | ((with_reducible apply o_callM); rfl; kernel_rfl; (repeat (first | exact ArgsM.nil | ((with_reducible apply ArgsM.cons); rfl))); exact hG; exact hct; exact .nil _; intro y hy; refine al_app1 ?_) | refine e_store ?_ | with_reducible refine al_none rfl ?_ | (with_reducible first | apply aw_seq | apply aw_region | apply al_nil | apply aq_then | apply aw_block | apply aw_skip | apply aq_block) | (refine aw_cond_dt rfl rr_ dd_ ?_))
    refine aq_round (i + 1, ps ++ [y]) ⟨by dsimp only; omega, by dsimp only; simp [hps]⟩ (by dsimp only; omega) (.of _ nw_ od_ ?_)
    dsimp only
    rw [hos y, ← (hrs y).2]
    exact pick_snoc _ _ T R
  · obtain rfl : i = l.length := by omega
    rw [List.take_of_length_le (Nat.le_refl _), Nat.sub_self, List.replicate_zero, List.append_nil]
    repeat' (first | ((with_reducible apply o_y); exact y_; rfl) | with_reducible refine al_none rfl ?_ | (with_reducible first | apply aw_seq | apply aw_region | apply al_nil | apply aq_then | apply aw_exit | apply aw_ret | apply aq_block_hit | apply aq_then_exit) | (refine aw_cond_df rfl rr_ dd_ ?_))
    exact aq_retm1 x_ rfl ((so, bo), ps) hps rfl (.cons _ _ _ _ (.app _ R)) (.refl _) (.tmp _ _ rfl) rfl
theorem toCode_own (hst : Stable G) (lo : Nat) (x : TCode) (hb : x.small 1048576) : CtM Tryz.prog G 76 [.agg [.bool x.block, .int .i64 x.params, .int .i64 x.slots, .sl lo 4 (x.instrs.map (TInstr.tw lo))]] [] (fun _ : Nat × Nat => True) (fun y => [(y.1, y.2, .row 4 (x.instrs.map (TInstr.tw 0)))]) (fun y => .agg [.bool x.block, .int .i64 x.params, .int .i64 x.slots, .ms y.1 y.2 0 x.instrs.length]) := by
  refine ctm_enter Tryz.func76 rfl Tryz.ntmps76 rfl rfl rfl fun w0 R gs objsR hG hR => ?_
  obtain rfl := hR.inv0
  clear hR
  have hin := toInstrS_own hst lo x.instrs hb
  repeat' (first | ((with_reducible apply o_y); exact y_; rfl) | refine e_box ?_ | (refine e_alloc ?_; intro ss bb) | refine e_storep ?_ | ((with_reducible apply o_callM); rfl; kernel_rfl; (repeat (first | exact ArgsM.nil | ((with_reducible apply ArgsM.cons); rfl))); exact hG; exact hin; exact .nil _; intro y hy; refine al_app1 ?_) | with_reducible refine al_none rfl ?_ | (with_reducible first | apply aw_seq | apply aw_region | apply al_nil | apply aq_then | apply aw_ret))
  refine aq_retm1 x_ rfl y trivial rfl (.cons _ _ _ _ (.nil R)) pk_ (.cell _ _ _ _ _ rfl mm_ (by kernel_rfl) (by kernel_rfl) (by kernel_rfl)) rfl
theorem toCodeS_own (hst : Stable G) (lo : Nat) (l : List TCode) (hb : l.length ≤ 1048576 ∧ ∀ y ∈ l, TCode.small 1048576 y) : CtM Tryz.prog G 36 [.sl lo 4 (l.map (TCode.tw lo))] [] (fun y : (Nat × Nat) × List (Nat × Nat) => y.2.length = l.length) (fun y => (y.1.1, y.1.2, .row 4 (nR codMk l y.2)) :: nO codOb l y.2) (fun y => .ms y.1.1 y.1.2 0 l.length) := by
  refine ctm_enter Tryz.func36 rfl Tryz.ntmps36 rfl rfl rfl fun w0 R gs objsR hG hR => ?_
  obtain rfl := hR.inv0
  clear hR
  have hlen := TCode.len lo l
  have hl1 := hb.1
  have h0 : List.replicate l.length TCode.tz = nR codMk (l.take 0) [] ++ List.replicate (l.length - 0) TCode.tz := by simp [nR]
  repeat' (first | ((with_reducible apply o_y); exact y_; rfl) | (refine e_make ?_; intro ss bb) | with_reducible refine al_none rfl ?_ | (with_reducible first | apply aw_seq | apply aw_region | apply al_nil | apply aq_then | apply aw_block))
  generalize ss = so; generalize bb = bo
  apply aw_loopk (X := Nat × List (Nat × Nat)) [0, 3, 1000000] (fun x => [(4, .int .i64 (x.1 : Int))]) (fun x => (so, bo, .row 4 (nR codMk (l.take x.1) x.2 ++ List.replicate (l.length - x.1) TCode.tz)) :: (nO codOb (l.take x.1) x.2 ++ R)) (fun x => x.1 ≤ l.length ∧ x.2.length = x.1) (fun x => l.length - x.1) (0, []) ⟨Nat.zero_le _, rfl⟩
  exact kp_; (repeat (first | exact Weak.envNil | refine Weak.envCons we_ ?_))
  · rw [← h0]; exact .refl _
  rintro ⟨i, ps⟩ ⟨hi, hps⟩
  dsimp only at hi hps ⊢
  by_cases hlt : i < l.length
  · have hrs := fun p => nR_set codMk TCode.tz hlt hps p
    have hos := fun p => nO_snoc codOb hlt hps p
    have hra : (l.map (TCode.tw lo))[i]? = some (l[i].tw lo) := row_map hlt
    have hbi := hb.2 _ (List.getElem_mem hlt)
    generalize l[i] = x at hrs hos hra hbi
    have hct := toCode_own hst lo x hbi
    rw [show x.tw lo = [.bool x.block, .int .i64 x.params, .int .i64 x.slots, .sl lo 4 (x.instrs.map (TInstr.tw lo))] from rfl] at hra
    have hrow : (nR codMk (l.take i) ps ++ List.replicate (l.length - i) TCode.tz)[i]? = some [.bool false, .int .i64 0, .int .i64 0, .nils] := (hrs (0, 0)).1
    generalize nO codOb (l.take i) ps = T at hos ⊢
    repeat' (first | ((with_reducible apply o_y); exact y_; rfl) | ((with_reducible apply o_callM); rfl; kernel_rfl; (repeat (first | exact ArgsM.nil | ((with_reducible apply ArgsM.cons); rfl))); exact hG; exact hct; exact .nil _; intro y hy; refine al_app1 ?_) | refine e_store ?_ | with_reducible refine al_none rfl ?_ | (with_reducible first | apply aw_seq | apply aw_region | apply al_nil | apply aq_then | apply aw_block | apply aw_skip | apply aq_block) | (refine aw_cond_dt rfl rr_ dd_ ?_))
    refine aq_round (i + 1, ps ++ [y]) ⟨by dsimp only; omega, by dsimp only; simp [hps]⟩ (by dsimp only; omega) (.of _ nw_ od_ ?_)
    dsimp only
    rw [hos y, ← (hrs y).2]
    exact pick_snoc _ _ T R
  · obtain rfl : i = l.length := by omega
    rw [List.take_of_length_le (Nat.le_refl _), Nat.sub_self, List.replicate_zero, List.append_nil]
    repeat' (first | ((with_reducible apply o_y); exact y_; rfl) | with_reducible refine al_none rfl ?_ | (with_reducible first | apply aw_seq | apply aw_region | apply al_nil | apply aq_then | apply aw_exit | apply aw_ret | apply aq_block_hit | apply aq_then_exit) | (refine aw_cond_df rfl rr_ dd_ ?_))
    exact aq_retm1 x_ rfl ((so, bo), ps) hps rfl (.cons _ _ _ _ (.app _ R)) (.refl _) (.tmp _ _ rfl) rfl
end
end Go.Proofs.YtfchjaoeogolnaaGreatDoor
/- The law's own text for a mark. -/
namespace Go.Proofs.YtfchjaoeogolnaaGreatDoor
open Go Go.RowKit
/-- A mark's text. -/
def markB (n : Int) : ByteArray := ⟨(109 :: Lib.itoa n).toArray⟩
set_option maxHeartbeats 400000 in
set_option maxRecDepth 8000 in
theorem markText_any (n : Int) (w : World) (h0 : 0 ≤ n) (h1 : n ≤ 9000000000000000000) : Calls Tryz.prog 46 #[.int .i64 n] w fun e w' => e = .returned (.string (markB n)) ∧ Below w.heap.size w w' := by
  by_cases hz : n = 0
  · subst hz
    go_enter Tryz.func46, Tryz.ntmps46
    go_wp2
    go_ret
    exact ⟨ret_str (by decide +kernel), Below.refl _ _⟩
  have Hlen := Lib.hid (pre_length (u := n.natAbs) (by omega))
  have HP := Lib.hid (numB_pre hz)
  have hpos : 0 < n := by omega
  have hle : ¬ n ≤ 0 := by omega
  go_enter Tryz.func46, Tryz.ntmps46
  go_wp2
  go_loopw [0, 3] (fun nv ov wr => ∃ (m : Nat) (s : ByteArray), nv = .int .i64 (m : Int) ∧ ov = .string s ∧ m ≤ 9000000000000000000 ∧ pre m ++ s.data.toList = pre n.natAbs ∧ Below w.heap.size w wr) (fun nv _ _ => (intOf nv).natAbs)
  case atStart => exact ⟨n.natAbs, _, by rw [show ((n.natAbs : Nat) : Int) = n by omega], rfl, by omega, by simp, Below.refl _ _⟩
  case round =>
    obtain ⟨m, s, rfl, rfl, hm1, hr, hb⟩ := hrel
    have hsz : s.size ≤ 19 := by
      have := congrArg List.length hr
      rw [List.length_append, size_toList] at this
      have := Hlen.out
      omega
    have Hr := Lib.hid hr
    clear hr
    by_cases hm : m = 0
    · subst hm
      go_wp2
      go_ret
      refine ⟨ret_str ?_, hb⟩
      have h2 := Hr.out
      rw [show pre 0 = [] from rfl, List.nil_append] at h2
      refine bytes_eq ?_
      rw [ByteArray.data_append, Array.toList_append, h2]
      have h3 := HP.out
      rw [if_neg (by omega)] at h3
      have h4 : Lib.itoa n = pre n.natAbs := congrArg (fun b : ByteArray => b.data.toList) h3
      show _ = 109 :: Lib.itoa n
      rw [h4]; rfl
    · have hd9 : m % 10 ≤ 9 := by omega
      have hp := pre_step (u := m) hm
      generalize hd : m % 10 = d at hd9 hp
      have hdi : (m : Int) % 10 = (d : Int) := by omega
      have hdq : ((m / 10 : Nat) : Int) = (m : Int) / 10 := by omega
      obtain ⟨b, hbd⟩ : ∃ b, UInt8.ofNat (48 + d) = b := ⟨_, rfl⟩
      rw [hbd] at hp
      have Hp := Lib.hid hp
      have hcv := conv_one 127 5 wr (48 + d) (by omega) (48 + (d : Int)) (by omega) Tryz.underlying127 Tryz.underlying5
      rw [hbd] at hcv
      have Hdq := Lib.hid hdq
      clear hp hd hbd hdq
      have hnext : pre (m / 10) ++ ((⟨#[b]⟩ : ByteArray) ++ s).data.toList = pre n.natAbs := by
        rw [← Hr.out, Hp.out, ByteArray.data_append, Array.toList_append, List.append_assoc]
      have Hn := Lib.hid hnext
      clear hnext
      have hbel : ∀ o, Below w.heap.size w (wr.alloc o) := fun o => hb.trans (((Below.refl _ _).alloc (Nat.le_refl _) o).mono hb.size)
      have hm0 : (0 : Int) < (m : Int) := by omega
      clear hb
      go_wp2
      go_roundw
      case rel => exact ⟨m / 10, _, by rw [Hdq.out], rfl, by omega, Hn.out, hbel _⟩
      case measure => simp [intOf]; omega

theorem markText_ct {G : World → Prop} (n : Int) (h0 : 0 ≤ n) (h1 : n ≤ 9000000000000000000) : Ct Tryz.prog G 46 [.int .i64 n] (fun _ => .str (markB n)) := ct_int_str fun w _ => markText_any n w h0 h1
end Go.Proofs.YtfchjaoeogolnaaGreatDoor
