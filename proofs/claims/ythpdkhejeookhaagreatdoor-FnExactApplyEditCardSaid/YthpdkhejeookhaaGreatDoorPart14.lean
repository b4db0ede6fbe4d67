/- Part 14 of the proof: the texts IvN, IvV, RsI, ShD, MkH, IvW, ShL, ShN, EngAJ, OpA, EdD. -/
import Derived.Test.YthpdkhejeookhaaGreatDoorPart6
import Derived.Test.YthpdkhejeookhaaGreatDoorPart9
import Derived.Test.YthpdkhejeookhaaGreatDoorPart5
import Derived.Test.YthpdkhejeookhaaGreatDoorPart13
import Derived.Test.YthpdkhejeookhaaGreatDoorPart11
import Derived.Test.YthpdkhejeookhaaGreatDoorPart12
import Derived.Test.YthpdkhejeookhaaGreatDoorPart10
/- IsVerified: an instruction, on the side of the program (instrOk and its two function literals). -/
namespace Go.Proofs.YthpdkhejeookhaaGreatDoor
set_option maxRecDepth 20000
open Go Go.RowKit
section
variable {G : World → Prop}
theorem instrOk1_ct (hst : Stable G) (lo : Nat) (n : Int) (bl : Bool) (pr sl : Int) (is : List TInstr) (hn : is.length ≤ 1048576) : Ct Tryz.prog G 193 [.int .i64 n, .cp 0 [.bool bl, .int .i64 pr, .int .i64 sl, .sl lo 4 (is.map (TInstr.tw lo))]] (fun _ => .bool (inR n 0 ((is.length : Int) - 1))) := by
  refine ct_enter Tryz.func193 rfl Tryz.ntmps193 rfl rfl fun w0 _ hG => ?_
  have hil := TInstr.len lo is
  repeat' (first | ((with_reducible apply o_y); exact y_; rfl) | refine e_call hG hst (within_ct _ _ _) ?_ | with_reducible refine al_none rfl ?_ | (with_reducible first | apply aw_seq | apply aw_region | apply al_nil | apply aq_then | apply aw_ret))
  refine aq_ret1 x_ rfl (.tmp _ _ rfl) (fun _ => ?_)
  exact Fin.flat rfl
theorem instrOk2_ct (hst : Stable G) (n least : Int) (bl : Bool) (pr sl : Int) (t : TV) : Ct Tryz.prog G 194 [.int .i64 n, .agg [.bool bl, .int .i64 pr, .int .i64 sl, t], .int .i64 least] (fun _ => .bool (inR n least (IntKind.i64.wrap (sl - 1)))) := by
  refine ct_enter Tryz.func194 rfl Tryz.ntmps194 rfl rfl fun w0 _ hG => ?_
  repeat' (first | ((with_reducible apply o_y); exact y_; rfl) | refine e_box ?_ | refine e_call hG hst (within_ct _ _ _) ?_ | with_reducible refine al_none rfl ?_ | (with_reducible first | apply aw_seq | apply aw_region | apply al_nil | apply aq_then | apply aw_ret))
  refine aq_ret1 x_ rfl (.tmp _ _ rfl) (fun _ => ?_)
  exact Fin.flat rfl
set_option maxRecDepth 8000 in
set_option maxHeartbeats 8000000 in
theorem instrOk_ct (hst : Stable G) (hse : ∀ s : ByteArray, s.size ≤ 1048576 → Ct Tryz.prog G 118 [.str s] (fun _ => .bool (isSelL s.data.toList)))
    (lo lo2 : Nat) (cl : List TClassInfo) (cen : TV) (cs : List TCode) (mn : Int) (hcl : cl.length ≤ 1048576) (hcs : cs.length ≤ 1048576 ∧ ∀ y ∈ cs, TCode.small 1048576 y) (o : List Int) (hinv : outInv cs.length o) (k : Nat) (own : TCode) (hk : cs[k]? = some own) (hsl : 0 ≤ own.slots ∧ own.slots ≤ 30)
    (x : TInstr) (hx : x.text.size ≤ 1048576) :
    Ct Tryz.prog G 120 [.agg [.sl lo 3 (cl.map (TClassInfo.tw lo)), .sl lo 4 (cs.map (TCode.tw lo)), cen, .int .i64 mn], .sl lo2 1 (intR o), .int .i64 (k : Int), .agg [.int .i64 x.op, .int .i64 x.a, .int .i64 x.b, .str x.text]] (fun _ => .bool (instrB cs cl.length o k own x)) := by
  obtain ⟨op, a, b, t⟩ := x
  dsimp only at hx ⊢
  refine ct_enter Tryz.func120 rfl Tryz.ntmps120 rfl rfl fun w0 _ hG => ?_
  have hl1 := TClassInfo.len lo cl
  have hl2 := TCode.len lo cs
  have hll := intR_length o
  have hkl : k < cs.length := (List.getElem?_eq_some_iff.1 hk).1
  have hrk : (cs.map (TCode.tw lo))[k]? = some [.bool own.block, .int .i64 own.params, .int .i64 own.slots, .sl lo 4 (own.instrs.map (TInstr.tw lo))] := by rw [List.getElem?_map, hk]; rfl
  have hil := TInstr.len lo own.instrs
  have hin : own.instrs.length ≤ 1048576 := (hcs.2 own (List.mem_of_getElem? hk)).1
  have hw : IntKind.i64.wrap (own.slots - 1) = own.slots - 1 := IntWalk.i64_in _ (by omega)
  repeat' (first | ((with_reducible apply o_y); exact y_; rfl) | refine e_box ?_ | refine e_call hG hst (writes_ct _) ?_ | with_reducible refine aw_hold_r (id := 2) ?_ | with_reducible refine al_none rfl ?_ | (with_reducible first | apply aw_seq | apply aw_region | apply al_nil | apply aq_then))
  refine ⟨aw_seq ?_⟩
  apply aw_join (X := Unit) [1, 2, 4, 7] (fun _ => [(54, .bool (!decide (instrHead ⟨op, a, b, t⟩)))]) (fun _ => []) (fun _ => True)
  case _hk => (repeat (first | exact Kept.nil | (apply Kept.cons; rfl)))
  · clear hrk hk hinv hse hl1 hl2 hll hin hil
    repeat' (first | ((with_reducible apply o_y); exact y_; rfl) | refine e_call hG hst (within_ct _ _ _) ?_ | with_reducible refine al_none rfl ?_ | (with_reducible first | apply aw_region | apply al_nil) | refine al_run rfl rfl rfl rr_ ?_ | refine al_skip rfl rfl rfl rr_ rfl rfl rfl ?_ | refine al_skip2 rfl rfl rfl rr_ rfl rfl ?_ | (refine al_gsplit rfl rfl rfl rr_ (fun hg => ?_) (fun hg => ?_)) | (refine al_gsplit_b rfl rfl rfl rr_ (fun hg => ?_) (fun hg => ?_)))
    all_goals
      refine aq_mid () trivial (.of _ (Weak.envCons (lk_bool rfl ?_) Weak.envNil) od_ pk_)
      simp only [Bool.not_eq_true', Bool.not_eq_false', ne_eq, Decidable.not_not] at *
      first
        | (simp [instrHead, *]; done)
  intro _ _
  by_cases hh : instrHead ⟨op, a, b, t⟩
  case neg =>
    have hB : instrB cs cl.length o k own ⟨op, a, b, t⟩ = false := by unfold instrB; rw [decide_eq_false hh]; rfl
    rw [hB, decide_eq_false hh, Bool.not_false]
    repeat' (first | ((with_reducible apply o_y); exact y_; rfl) | with_reducible refine al_none rfl ?_ | (with_reducible first | apply aw_seq | apply aw_region | apply al_nil | apply aq_then | apply aw_ret | apply aq_then_ret) | refine aw_cond_t rfl rr_ ?_)
    refine aq_ret1 x_ rfl (.tmp _ _ rfl) (fun _ => ?_)
    exact Fin.flat rfl
  have hB : instrB cs cl.length o k own ⟨op, a, b, t⟩ = instrTail cs cl.length o k own ⟨op, a, b, t⟩ := by unfold instrB; rw [decide_eq_true hh]; rfl
  rw [hB, decide_eq_true hh, Bool.not_true]
  have hinv' : outInv o.length o := by rw [hinv.1]; exact hinv
  have hvf : levelOf cs o k b = none → varOk cs o k ⟨op, a, b, t⟩ = false := fun h => by
    unfold varOk
    dsimp only
    rw [h]
  clear hB hk
  repeat' (first | ((with_reducible apply o_y); exact y_; rfl) | (refine e_alloc ?_; intro ss bb) | refine e_storep ?_ | refine e_mkf ?_ | refine e_call hG hst (within_ct _ _ _) ?_ | refine e_call hG hst (plainText_ct hst _ hx) ?_ | refine e_call hG hst (hse _ hx) ?_ | refine e_call hG hst (implIsName_ct _ hx) ?_ | ((with_reducible apply o_callF); rfl; rfl; kernel_rfl; exact hG; exact hst; (repeat (first | exact Args.nil | ((with_reducible apply Args.cons); rfl; exact .same _))); (repeat (first | exact Views.nil | ((with_reducible apply Views.cons); (((with_reducible apply View.mpSame); (repeat (with_reducible exact mh))))))); rfl; first | exact instrOk1_ct hst lo _ _ _ _ _ hin | exact instrOk2_ct hst _ _ _ _ _ _) | with_reducible refine aw_hold_r (id := 24) ?_ | with_reducible refine al_none rfl ?_ | (with_reducible first | apply aw_seq | apply aw_region | apply al_nil | apply aq_then | apply aw_block | apply aw_skip | apply aw_ret | apply aq_then_ret | apply aq_block_ret | apply aq_block) | refine al_run rfl rfl rfl rr_ ?_ | refine al_skip rfl rfl rfl rr_ rfl rfl rfl ?_ | (refine al_gsplit_b rfl rfl rfl rr_ (fun hg => ?_) (fun hg => ?_)) | refine aw_cond_f rfl rr_ ?_ | (refine aw_cond_dt rfl rr_ dd_ ?_) | (refine aw_cond rfl rr_ (fun hc => ?_) (fun hc => ?_)))
  all_goals first
    | (refine aq_ret1 x_ rfl (.tmp _ _ rfl) (fun _ => ?_)
       clear hrk hl1 hl2 hll hil hcs hse hh hinv
       refine fin_bool ?_
       first
         | (simp [instrTail, *]; done))
    | (refine ⟨?_⟩
       generalize ss = s12; generalize bb = b12
       repeat' (first | ((with_reducible apply o_y); exact y_; rfl) | with_reducible refine al_none rfl ?_ | (with_reducible first | apply aw_seq | apply aw_region | apply al_nil | apply aq_then | apply aw_block))
       apply aw_loopk (X := Nat) [1, 4, 7, 12, 14, 62] (fun n => [(15, .int .i64 (upN o n (k : Int))), (16, .int .i64 (n : Int))]) (fun _ => [(s12, b12, .box [.bool own.block, .int .i64 own.params, .int .i64 own.slots, .sl lo 4 (own.instrs.map (TInstr.tw lo))])]) (fun n => n ≤ b.toNat) (fun n => b.toNat - n) 0 (Nat.zero_le _)
       exact kp_; (repeat (first | exact Weak.envNil | refine Weak.envCons we_ ?_))
       · exact .refl _
       intro n hn
       try dsimp only at hn ⊢
       have hol : o.length = cs.length := hinv.1
       have hup := upN_in hinv' n (k : Int) (.inr ⟨by omega, by omega⟩)
       by_cases hnb : (n : Int) < b
       · by_cases hat : 0 ≤ upN o n (k : Int)
         · obtain ⟨j, hj⟩ : ∃ j : Nat, upN o n (k : Int) = j := ⟨(upN o n (k : Int)).toNat, by omega⟩
           have hs := upN_succ o n (k : Int)
           rw [if_neg (by omega), hj] at hs
           have hge := upN_ge hinv' (k := (k : Int)) ⟨by omega, by omega⟩ n hat
           rw [hj] at hup hge
           have hcl2 := hcs.1
           have hrow := intR_gd (o := o) (j := j) (by omega)
           rw [hj]
           repeat' (first | ((with_reducible apply o_y); exact y_; rfl) | with_reducible refine al_none rfl ?_ | (with_reducible first | apply aw_seq | apply aw_region | apply al_nil | apply aq_then | apply aw_block | apply aw_skip | apply aq_block) | refine al_run rfl rfl rfl rr_ ?_ | (refine al_gt rfl rfl rfl rr_ dd_ ?_) | (refine aw_cond_dt rfl rr_ dd_ ?_))
           exact aq_round (n + 1) (by omega) (by omega) (.of _ nw_ od_ pk_)
         · have hv := hvf (level_off (n := n) (by omega) (by omega))
           repeat' (first | ((with_reducible apply o_y); exact y_; rfl) | with_reducible refine al_none rfl ?_ | (with_reducible first | apply aw_seq | apply aw_region | apply al_nil | apply aq_then | apply aw_exit | apply aw_ret | apply aq_block_hit | apply aq_then_exit | apply aq_then_ret | apply aq_block_ret) | refine al_run rfl rfl rfl rr_ ?_ | refine al_skip rfl rfl rfl rr_ rfl rfl rfl ?_ | (refine al_gt rfl rfl rfl rr_ dd_ ?_) | refine aw_cond_t rfl rr_ ?_ | (refine aw_cond_df rfl rr_ dd_ ?_))
           refine aq_ret1 x_ rfl (.tmp _ _ rfl) (fun _ => ?_)
           refine fin_bool ?_
           clear hrk hl1 hl2 hll hil hcs hse hh hinv hvf
           subst_vars
           simp [instrTail, hv]
       · by_cases hb0 : b < 0
         · have hv := hvf (level_neg hb0)
           repeat' (first | ((with_reducible apply o_y); exact y_; rfl) | with_reducible refine al_none rfl ?_ | (with_reducible first | apply aw_seq | apply aw_region | apply al_nil | apply aq_then | apply aw_exit | apply aw_ret | apply aq_block_hit | apply aq_then_exit | apply aq_then_ret | apply aq_block_ret) | refine al_run rfl rfl rfl rr_ ?_ | refine al_skip rfl rfl rfl rr_ rfl rfl rfl ?_ | (refine al_gf rfl rfl rfl rr_ dd_ ?_) | (refine al_gsplit rfl rfl rfl rr_ (fun hg => ?_) (fun hg => ?_)) | refine aw_cond_t rfl rr_ ?_ | refine aw_cond_f rfl rr_ ?_ | (refine aw_cond_dt rfl rr_ dd_ ?_))
           all_goals
             refine aq_ret1 x_ rfl (.tmp _ _ rfl) (fun _ => ?_)
             refine fin_bool ?_
             clear hrk hl1 hl2 hll hil hcs hse hh hinv hvf
             subst_vars
             simp [instrTail, hv]
         · obtain rfl : b = (n : Int) := by omega
           by_cases hat : 0 ≤ upN o n (k : Int)
           · obtain ⟨j, hj⟩ : ∃ j : Nat, upN o n (k : Int) = j := ⟨(upN o n (k : Int)).toNat, by omega⟩
             rw [hj] at hup
             have hjl : j < cs.length := by omega
             have hry := tcode_row (lo := lo) hjl
             have hlev : levelOf cs o k (n : Int) = some cs[j] := level_on (by omega) (by rw [Int.toNat_natCast]; exact hj) (List.getElem?_eq_getElem hjl)
             generalize cs[j] = y at hry hlev
             rw [hj]
             repeat' (first | ((with_reducible apply o_y); exact y_; rfl) | with_reducible refine aw_draw (by kernel_rfl) (by kernel_rfl) ?_ | with_reducible refine dr_nil ?_ | with_reducible refine dr_none rfl ?_ | ((with_reducible apply d_y); exact y_; rfl) | ((with_reducible apply d_callF); rfl; rfl; kernel_rfl; exact hG; exact hst; (repeat (first | exact Args.nil | ((with_reducible apply Args.cons); rfl; exact .same _))); (repeat (exact Views.nil)); rfl; exact instrOk2_ct hst _ _ _ _ _ _) | with_reducible refine al_none rfl ?_ | (with_reducible first | apply aw_seq | apply aw_region | apply al_nil | apply aq_then | apply aw_exit | apply aw_skip | apply aw_ret | apply aq_block_hit | apply aq_then_exit | apply aq_then_ret | apply aq_block_ret) | refine al_run rfl rfl rfl rr_ ?_ | refine al_skip rfl rfl rfl rr_ rfl rfl rfl ?_ | (refine al_gf rfl rfl rfl rr_ dd_ ?_) | refine aw_cond_f rfl rr_ ?_ | (refine aw_cond_dt rfl rr_ dd_ ?_) | (refine aw_cond_df rfl rr_ dd_ ?_))
             all_goals first
               | (refine aq_ret1 x_ rfl (.tmp _ _ rfl) (fun _ => ?_)
                  refine fin_bool ?_
                  clear hrk hl1 hl2 hll hil hcs hse hh hinv hvf
                  subst_vars
                  simp [instrTail, varOk, hlev]; done)
           · have hv := hvf (level_off (n := n) (by omega) (by omega))
             repeat' (first | ((with_reducible apply o_y); exact y_; rfl) | with_reducible refine al_none rfl ?_ | (with_reducible first | apply aw_seq | apply aw_region | apply al_nil | apply aq_then | apply aw_exit | apply aw_ret | apply aq_block_hit | apply aq_then_exit | apply aq_then_ret | apply aq_block_ret) | refine al_skip rfl rfl rfl rr_ rfl rfl rfl ?_ | (refine al_gt rfl rfl rfl rr_ dd_ ?_) | (refine al_gf rfl rfl rfl rr_ dd_ ?_) | refine aw_cond_t rfl rr_ ?_ | refine aw_cond_f rfl rr_ ?_)
             refine aq_ret1 x_ rfl (.tmp _ _ rfl) (fun _ => ?_)
             refine fin_bool ?_
             clear hrk hl1 hl2 hll hil hcs hse hh hinv hvf
             subst_vars
             simp [instrTail, hv])
end
end Go.Proofs.YthpdkhejeookhaaGreatDoor
/- IsVerified of the program. -/
namespace Go.Proofs.YthpdkhejeookhaaGreatDoor
set_option maxRecDepth 20000
open Go Go.RowKit
set_option maxRecDepth 8000 in
set_option maxHeartbeats 16000000 in
theorem implIsVerified_ct (lo : Nat) (cl : List TClassInfo) (es : List TEntry) (cs : List TCode) (mn : Int) (hcl : cl.length ≤ 1048576 ∧ ∀ y ∈ cl, TClassInfo.small 1048576 y) (hcs : cs.length ≤ 1048576 ∧ ∀ y ∈ cs, TCode.small 1048576 y) (hes : es.length ≤ 1048576 ∧ ∀ y ∈ es, TEntry.small 1048576 y) :
    Ct Tryz.prog GL 39 [.agg [.sl lo 3 (cl.map (TClassInfo.tw lo)), .sl lo 4 (cs.map (TCode.tw lo)), .sl lo 4 (es.map (TEntry.tw lo)), .int .i64 mn]] (fun _ => .bool (verifiedB ⟨cl, cs, es, mn⟩)) := by
  refine ct_enter Tryz.func39 rfl Tryz.ntmps39 rfl rfl fun w0 _ hG => ?_
  have hst := GL_st
  have hvF := verified_f (x := ⟨cl, cs, es, mn⟩)
  have hvT := verified_t (x := ⟨cl, cs, es, mn⟩)
  unfold verifiedP mainOk outerOk at hvF hvT
  dsimp only at hvF hvT
  generalize verifiedB ⟨cl, cs, es, mn⟩ = V at hvF hvT ⊢
  have hl1 := TClassInfo.len lo cl
  have hl2 := TCode.len lo cs
  have hl3 := TEntry.len lo es
  have hcsl := hcs.1
  have hesl := hes.1
  have hcll := hcl.1
  have c1 := classesOk_ct hst lo cl hcl
  have c3 := within_ct (G := GL) mn 0 ((cs.length : Int) - 1)
  by_cases h1 : classesOkB cl = true
  case neg =>
    rw [hvF fun h => h1 h.1]
    rw [Bool.eq_false_iff.2 h1] at c1
    repeat' (first | ((with_reducible apply o_y); exact y_; rfl) | refine e_box ?_ | refine e_call hG hst (c1) ?_ | with_reducible refine al_none rfl ?_ | (with_reducible first | apply aw_seq | apply aw_region | apply al_nil | apply aq_then | apply aw_ret | apply aq_then_ret) | refine al_skip rfl rfl rfl rr_ rfl rfl rfl ?_ | refine aw_cond_t rfl rr_ ?_)
    refine aq_ret1 x_ rfl (.tmp _ _ rfl) (fun _ => ?_)
    exact Fin.flat rfl
  rw [h1] at c1
  by_cases h2 : cs.length ≤ 200
  case neg =>
    rw [hvF fun h => h2 h.2.1]
    repeat' (first | ((with_reducible apply o_y); exact y_; rfl) | refine e_box ?_ | refine e_call hG hst (c1) ?_ | with_reducible refine al_none rfl ?_ | (with_reducible first | apply aw_seq | apply aw_region | apply al_nil | apply aq_then | apply aw_ret | apply aq_then_ret) | refine al_run rfl rfl rfl rr_ ?_ | refine al_skip rfl rfl rfl rr_ rfl rfl rfl ?_ | (refine al_gt rfl rfl rfl rr_ dd_ ?_) | refine aw_cond_t rfl rr_ ?_)
    refine aq_ret1 x_ rfl (.tmp _ _ rfl) (fun _ => ?_)
    exact Fin.flat rfl
  by_cases h9 : es.length ≤ 96
  case neg =>
    rw [hvF fun h => by have := h.2.2.2.1; rw [entriesB_long h9] at this; cases this]
    repeat' (first | ((with_reducible apply o_y); exact y_; rfl) | refine e_box ?_ | refine e_call hG hst (c1) ?_ | with_reducible refine al_none rfl ?_ | (with_reducible first | apply aw_seq | apply aw_region | apply al_nil | apply aq_then | apply aw_ret | apply aq_then_ret) | refine al_run rfl rfl rfl rr_ ?_ | refine al_skip rfl rfl rfl rr_ rfl rfl rfl ?_ | (refine al_gt rfl rfl rfl rr_ dd_ ?_) | (refine al_gf rfl rfl rfl rr_ dd_ ?_) | refine aw_cond_t rfl rr_ ?_)
    refine aq_ret1 x_ rfl (.tmp _ _ rfl) (fun _ => ?_)
    exact Fin.flat rfl
  by_cases h3 : inR mn 0 ((cs.length : Int) - 1) = true
  case neg =>
    rw [hvF fun h => h3 h.2.2.1.1]
    rw [Bool.eq_false_iff.2 h3] at c3
    repeat' (first | ((with_reducible apply o_y); exact y_; rfl) | refine e_box ?_ | refine e_call hG hst (c1) ?_ | refine e_call hG hst (c3) ?_ | with_reducible refine al_none rfl ?_ | (with_reducible first | apply aw_seq | apply aw_region | apply al_nil | apply aq_then | apply aw_ret | apply aq_then_ret) | refine al_run rfl rfl rfl rr_ ?_ | refine al_skip rfl rfl rfl rr_ rfl rfl rfl ?_ | (refine al_gf rfl rfl rfl rr_ dd_ ?_) | refine aw_cond_t rfl rr_ ?_)
    refine aq_ret1 x_ rfl (.tmp _ _ rfl) (fun _ => ?_)
    exact Fin.flat rfl
  have h3' := of_decide_eq_true h3
  obtain ⟨q, rfl⟩ : ∃ q : Nat, mn = q := ⟨mn.toNat, by omega⟩
  have hql : q < cs.length := by omega
  have hrq := tcode_row (lo := lo) hql
  have hpl := plainAt_iff (n := 0) rfl (List.getElem?_eq_getElem hql)
  generalize cs[q] = y at hrq hpl
  obtain ⟨yb, yp, ys, yi⟩ := y
  dsimp only at hrq hpl
  rw [h3, show (cs.length : Int) - 1 = ((cs.length - 1 : Nat) : Int) by omega] at c3
  cases yb
  case true =>
    rw [hvF fun h => by have := hpl.1 h.2.2.1.2; cases this.1]
    repeat' (first | ((with_reducible apply o_y); exact y_; rfl) | refine e_box ?_ | refine e_call hG hst (c1) ?_ | refine e_call hG hst (c3) ?_ | with_reducible refine al_none rfl ?_ | (with_reducible first | apply aw_seq | apply aw_region | apply al_nil | apply aq_then | apply aw_ret | apply aq_then_ret) | refine al_run rfl rfl rfl rr_ ?_ | refine al_skip rfl rfl rfl rr_ rfl rfl rfl ?_ | (refine al_gf rfl rfl rfl rr_ dd_ ?_) | refine aw_cond_t rfl rr_ ?_)
    refine aq_ret1 x_ rfl (.tmp _ _ rfl) (fun _ => ?_)
    exact Fin.flat rfl
  by_cases h4 : yp = 0
  case neg =>
    rw [hvF fun h => by have := hpl.1 h.2.2.1.2; exact h4 this.2]
    repeat' (first | ((with_reducible apply o_y); exact y_; rfl) | refine e_box ?_ | refine e_call hG hst (c1) ?_ | refine e_call hG hst (c3) ?_ | with_reducible refine al_none rfl ?_ | (with_reducible first | apply aw_seq | apply aw_region | apply al_nil | apply aq_then | apply aw_ret | apply aq_then_ret) | refine al_run rfl rfl rfl rr_ ?_ | (refine al_gf rfl rfl rfl rr_ dd_ ?_) | (refine aw_cond_dt rfl rr_ dd_ ?_))
    refine aq_ret1 x_ rfl (.tmp _ _ rfl) (fun _ => ?_)
    exact Fin.flat rfl
  have h4' : ¬ yp ≠ 0 := fun h => h h4
  have hhead := hpl.2 ⟨rfl, h4⟩
  repeat' (first | ((with_reducible apply o_y); exact y_; rfl) | refine e_box ?_ | refine e_call hG hst (c1) ?_ | refine e_call hG hst (c3) ?_ | with_reducible refine al_none rfl ?_ | (with_reducible first | apply aw_seq | apply aw_region | apply al_nil | apply aq_then | apply aw_block | apply aw_skip) | refine al_run rfl rfl rfl rr_ ?_ | (refine al_gf rfl rfl rfl rr_ dd_ ?_) | (refine aw_cond_df rfl rr_ dd_ ?_))
  clear hrq hpl c1 c3 h4 h4'
  -- the entries
  apply aw_loopk (X := Nat) [1, 61, 62] (fun i => [(63, .int .i64 (i : Int))]) (fun _ => []) (fun i => i ≤ es.length ∧ ∀ j, j < i → ∀ h : j < es.length, entryOk cl.length cs es[j] ∧ newEntry es j es[j]) (fun i => es.length - i) 0 ⟨Nat.zero_le _, by omega⟩
  exact kp_; (repeat (first | exact Weak.envNil | refine Weak.envCons we_ ?_))
  · exact .refl _
  rintro i ⟨hi, hk⟩
  try dsimp only
  by_cases hlt : i < es.length
  · have hra := tentry_row (lo := lo) hlt
    have hsm := hes.2 _ (List.getElem_mem hlt)
    have hbad : ¬ (entryOk cl.length cs es[i] ∧ newEntry es i es[i]) → V = false := fun h => hvF fun k => by
      have := k.2.2.2.1
      rw [entriesB_bad hlt h] at this; cases this
    have hks : entryOk cl.length cs es[i] ∧ newEntry es i es[i] → ∀ j, j < i + 1 → ∀ h : j < es.length, entryOk cl.length cs es[j] ∧ newEntry es j es[j] := fun ho => below_succ hk fun _ => ho
    clear hvF hvT
    generalize es[i] = e at hra hsm hbad hks
    obtain ⟨ow, ec, sel, cd⟩ := e
    dsimp only at hra
    have hss : sel.size ≤ 1048576 := hsm
    have c1 := hseI sel hss
    have c2 := hcaI sel hss
    have c3 := within_ct (G := GL) ow 16 ((cl.length : Int) - 1)
    have c4 := within_ct (G := GL) cd 0 ((cs.length : Int) - 1)
    have c4' : (cs.length : Int) - 1 = ((cs.length - 1 : Nat) : Int) := by omega
    have c4b := c4
    rw [c4'] at c4b
    by_cases g1 : isSelL sel.data.toList = true
    case neg =>
      rw [hbad fun h => g1 h.1.1.1]
      rw [Bool.eq_false_iff.2 g1] at c1
      repeat' (first | ((with_reducible apply o_y); exact y_; rfl) | (refine e_alloc ?_; intro ss bb) | refine e_storep ?_ | with_reducible refine aw_draw (by kernel_rfl) (by kernel_rfl) ?_ | with_reducible refine dr_nil ?_ | with_reducible refine dr_none rfl ?_ | refine dr_skip rfl rfl rfl rr_ rfl rfl rfl ?_ | ((with_reducible apply d_y); exact y_; rfl) | refine e_calld hG hst (c1) ?_ | with_reducible refine al_none rfl ?_ | (with_reducible first | apply aw_seq | apply aw_region | apply al_nil | apply aq_then | apply aw_block | apply aw_skip | apply aw_ret | apply aq_then_ret | apply aq_block_ret) | refine aw_cond_t rfl rr_ ?_ | (refine aw_cond_dt rfl rr_ dd_ ?_))
      refine aq_ret1 x_ rfl (.tmp _ _ rfl) (fun _ => ?_)
      exact Fin.flat rfl
    by_cases g2 : inR ow 16 ((cl.length : Int) - 1) = true
    case neg =>
      rw [hbad fun h => g2 h.1.1.2.1]
      rw [g1] at c1
      rw [Bool.eq_false_iff.2 g2] at c3
      repeat' (first | ((with_reducible apply o_y); exact y_; rfl) | (refine e_alloc ?_; intro ss bb) | refine e_storep ?_ | with_reducible refine aw_draw (by kernel_rfl) (by kernel_rfl) ?_ | with_reducible refine dr_nil ?_ | with_reducible refine dr_none rfl ?_ | refine dr_run rfl rfl rfl rr_ ?_ | refine dr_skip rfl rfl rfl rr_ rfl rfl rfl ?_ | ((with_reducible apply d_y); exact y_; rfl) | refine e_calld hG hst (c1) ?_ | refine e_calld hG hst (c3) ?_ | with_reducible refine al_none rfl ?_ | (with_reducible first | apply aw_seq | apply aw_region | apply al_nil | apply aq_then | apply aw_block | apply aw_skip | apply aw_ret | apply aq_then_ret | apply aq_block_ret) | refine aw_cond_t rfl rr_ ?_ | (refine aw_cond_dt rfl rr_ dd_ ?_))
      refine aq_ret1 x_ rfl (.tmp _ _ rfl) (fun _ => ?_)
      exact Fin.flat rfl
    by_cases g3 : inR cd 0 ((cs.length : Int) - 1) = true
    case neg =>
      rw [hbad fun h => g3 h.1.1.2.2]
      rw [g1] at c1
      rw [g2] at c3
      rw [← c4', Bool.eq_false_iff.2 g3] at c4b
      rw [c4'] at c4b
      rw [Bool.eq_false_iff.2 g3] at c4
      repeat' (first | ((with_reducible apply o_y); exact y_; rfl) | (refine e_alloc ?_; intro ss bb) | refine e_storep ?_ | with_reducible refine aw_draw (by kernel_rfl) (by kernel_rfl) ?_ | with_reducible refine dr_nil ?_ | with_reducible refine dr_none rfl ?_ | refine dr_run rfl rfl rfl rr_ ?_ | refine dr_skip rfl rfl rfl rr_ rfl rfl rfl ?_ | ((with_reducible apply d_y); exact y_; rfl) | refine e_calld hG hst (c1) ?_ | refine e_calld hG hst (c3) ?_ | refine e_calld hG hst (c4b) ?_ | with_reducible refine al_none rfl ?_ | (with_reducible first | apply aw_seq | apply aw_region | apply al_nil | apply aq_then | apply aw_block | apply aw_skip | apply aw_ret | apply aq_then_ret | apply aq_block_ret) | refine aw_cond_t rfl rr_ ?_ | (refine aw_cond_dt rfl rr_ dd_ ?_))
      refine aq_ret1 x_ rfl (.tmp _ _ rfl) (fun _ => ?_)
      exact Fin.flat rfl
    have g3' := of_decide_eq_true g3
    obtain ⟨p, rfl⟩ : ∃ p : Nat, cd = p := ⟨cd.toNat, by omega⟩
    have hpll : p < cs.length := by omega
    have hrp := tcode_row (lo := lo) hpll
    have hpp := plainAt_iff (n := nArgsL sel.data.toList) rfl (List.getElem?_eq_getElem hpll)
    generalize cs[p] = y at hrp hpp
    obtain ⟨yb, yp, ys, yi⟩ := y
    dsimp only at hrp hpp
    rw [g1] at c1
    rw [g2] at c3
    rw [← c4', g3, c4'] at c4b
    clear c4
    cases yb
    case true =>
      rw [hbad fun h => by have := hpp.1 h.1.2; cases this.1]
      repeat' (first | ((with_reducible apply o_y); exact y_; rfl) | (refine e_alloc ?_; intro ss bb) | refine e_storep ?_ | with_reducible refine aw_draw (by kernel_rfl) (by kernel_rfl) ?_ | with_reducible refine dr_nil ?_ | with_reducible refine dr_none rfl ?_ | refine dr_run rfl rfl rfl rr_ ?_ | refine dr_skip rfl rfl rfl rr_ rfl rfl rfl ?_ | ((with_reducible apply d_y); exact y_; rfl) | refine e_calld hG hst (c1) ?_ | refine e_calld hG hst (c3) ?_ | refine e_calld hG hst (c4b) ?_ | with_reducible refine al_none rfl ?_ | (with_reducible first | apply aw_seq | apply aw_region | apply al_nil | apply aq_then | apply aw_block | apply aw_skip | apply aw_ret | apply aq_then_ret | apply aq_block_ret) | refine aw_cond_t rfl rr_ ?_ | (refine aw_cond_dt rfl rr_ dd_ ?_))
      refine aq_ret1 x_ rfl (.tmp _ _ rfl) (fun _ => ?_)
      exact Fin.flat rfl
    by_cases g5 : yp = nArgsL sel.data.toList
    case neg =>
      rw [hbad fun h => by have := hpp.1 h.1.2; exact g5 this.2]
      repeat' (first | ((with_reducible apply o_y); exact y_; rfl) | (refine e_alloc ?_; intro ss bb) | refine e_storep ?_ | with_reducible refine aw_draw (by kernel_rfl) (by kernel_rfl) ?_ | with_reducible refine dr_nil ?_ | with_reducible refine dr_none rfl ?_ | refine dr_run rfl rfl rfl rr_ ?_ | ((with_reducible apply d_y); exact y_; rfl) | refine e_calld hG hst (c1) ?_ | refine e_calld hG hst (c3) ?_ | refine e_calld hG hst (c4b) ?_ | refine e_calld hG hst (c2) ?_ | with_reducible refine al_none rfl ?_ | (with_reducible first | apply aw_seq | apply aw_region | apply al_nil | apply aq_then | apply aw_block | apply aw_skip | apply aw_ret | apply aq_then_ret | apply aq_block_ret) | (refine aw_cond_dt rfl rr_ dd_ ?_))
      refine aq_ret1 x_ rfl (.tmp _ _ rfl) (fun _ => ?_)
      exact Fin.flat rfl
    have g5' : ¬ yp ≠ nArgsL sel.data.toList := fun h => h g5
    have htl : ((es.map (TEntry.tw lo)).take i).length = i := by simp; omega
    repeat' (first | ((with_reducible apply o_y); exact y_; rfl) | (refine e_alloc ?_; intro ss bb) | refine e_storep ?_ | with_reducible refine aw_draw (by kernel_rfl) (by kernel_rfl) ?_ | with_reducible refine dr_nil ?_ | with_reducible refine dr_none rfl ?_ | refine dr_run rfl rfl rfl rr_ ?_ | ((with_reducible apply d_y); exact y_; rfl) | refine e_slh ?_ | refine e_calld hG hst (c1) ?_ | refine e_calld hG hst (c3) ?_ | refine e_calld hG hst (c4b) ?_ | refine e_calld hG hst (c2) ?_ | with_reducible refine al_none rfl ?_ | (with_reducible first | apply aw_seq | apply aw_region | apply al_nil | apply aq_then | apply aw_block | apply aw_skip) | (refine aw_cond_dt rfl rr_ dd_ ?_) | (refine aw_cond_df rfl rr_ dd_ ?_))
    clear hrp c1 c2 c3 c4b
    generalize ss = s4; generalize bb = b4
    apply aw_loopk (X := Nat) [1, 3, 4, 61, 62, 63, 117, 118] (fun k => [(119, .int .i64 (k : Int))]) (fun _ => [(s4, b4, .box [.int .i64 ow, .bool ec, .str sel, .int .i64 (p : Int)])]) (fun k => k ≤ i ∧ ∀ y ∈ es.take k, ¬ sameEntry ⟨ow, ec, sel, p⟩ y) (fun k => i - k) 0 ⟨Nat.zero_le _, by simp⟩
    exact kp_; (repeat (first | exact Weak.envNil | refine Weak.envCons we_ ?_))
    · exact .refl _
    rintro k ⟨hki, hkn⟩
    try dsimp only
    by_cases hlk : k < i
    · have hlk2 : k < es.length := by omega
      have hrk : ((es.map (TEntry.tw lo)).take i)[k]? = some [.int .i64 es[k].owner, .bool es[k].class_, .str es[k].selector, .int .i64 es[k].code] := by rw [List.getElem?_take_of_lt hlk]; exact tentry_row hlk2
      have hta := take_all (p := fun y => ¬ sameEntry ⟨ow, ec, sel, p⟩ y) hlk2 hkn
      have hmem : es[k] ∈ es.take i := List.mem_take_iff_getElem.2 ⟨k, by omega, rfl⟩
      generalize es[k] = z at hrk hta hmem
      obtain ⟨zo, zc, zs, zd⟩ := z
      dsimp only at hrk
      by_cases hz : sameEntry ⟨ow, ec, sel, p⟩ ⟨zo, zc, zs, zd⟩
      · rw [hbad fun h => h.2 _ hmem hz]
        obtain ⟨z1, z2, z3⟩ := hz
        dsimp only at z1 z2 z3
        have z4 : (ec == zc) = true := by rw [z2]; simp
        clear hbad hks hta
        repeat' (first | ((with_reducible apply o_y); exact y_; rfl) | (refine e_alloc ?_; intro ss bb) | refine e_storep ?_ | with_reducible refine al_none rfl ?_ | (with_reducible first | apply aw_seq | apply aw_region | apply al_nil | apply aq_then | apply aw_block | apply aw_skip | apply aw_ret | apply aq_then_ret | apply aq_block_ret | apply aq_block) | refine al_run rfl rfl rfl rr_ ?_ | refine al_skip rfl rfl rfl rr_ rfl rfl rfl ?_ | (refine al_gt rfl rfl rfl rr_ dd_ ?_) | (refine al_gsplit_b rfl rfl rfl rr_ (fun hg => ?_) (fun hg => ?_)) | refine aw_cond_f rfl rr_ ?_ | (refine aw_cond_dt rfl rr_ dd_ ?_) | (refine aw_cond rfl rr_ (fun hc => ?_) (fun hc => ?_)))
        all_goals first
          | (refine aq_ret1 x_ rfl (.tmp _ _ rfl) (fun _ => ?_)
             exact Fin.flat rfl)
          | (exfalso; simp_all; done)
      · have hnx := hta hz
        unfold sameEntry at hz
        dsimp only at hz
        repeat' (first | ((with_reducible apply o_y); exact y_; rfl) | (refine e_alloc ?_; intro ss bb) | refine e_storep ?_ | with_reducible refine al_none rfl ?_ | (with_reducible first | apply aw_seq | apply aw_region | apply al_nil | apply aq_then | apply aw_block | apply aw_skip | apply aw_ret | apply aq_then_ret | apply aq_block_ret | apply aq_block) | refine al_run rfl rfl rfl rr_ ?_ | refine al_skip rfl rfl rfl rr_ rfl rfl rfl ?_ | (refine al_gsplit rfl rfl rfl rr_ (fun hg => ?_) (fun hg => ?_)) | (refine al_gsplit_b rfl rfl rfl rr_ (fun hg => ?_) (fun hg => ?_)) | refine aw_cond_f rfl rr_ ?_ | (refine aw_cond_dt rfl rr_ dd_ ?_) | (refine aw_cond rfl rr_ (fun hc => ?_) (fun hc => ?_)))
        all_goals first
          | exact aq_round (k + 1) ⟨by omega, hnx⟩ (by omega) (.of _ nw_ od_ pk_)
          | (exfalso; clear hbad hks hta hnx; simp_all; done)
    · obtain rfl : k = i := by omega
      repeat' (first | ((with_reducible apply o_y); exact y_; rfl) | with_reducible refine al_none rfl ?_ | (with_reducible first | apply aw_seq | apply aw_region | apply al_nil | apply aq_then | apply aw_exit | apply aq_block_hit | apply aq_then_exit | apply aq_block) | (refine aw_cond_df rfl rr_ dd_ ?_))
      exact aq_round (k + 1) ⟨by omega, hks ⟨⟨⟨g1, g2, g3⟩, hpp.2 ⟨rfl, g5⟩⟩, hkn⟩⟩ (by omega) (.of _ nw_ od_ (Pick.nil _))
  have hgood : entriesB cl.length cs es = true := by
    rw [entriesB_good fun j hj => hk j (by omega)]
    exact decide_eq_true (by omega)
  clear hk
  have c6 := outers_ct hst lo (.sl lo 3 (cl.map (TClassInfo.tw lo))) (.sl lo 4 (es.map (TEntry.tw lo))) cs (q : Int) (by omega) hcs
  unfold outR at c6
  cases hR : outersL cs
  case none =>
    rw [hR] at c6
    have hf : V = false := hvF fun h => by
      obtain ⟨o, ho, _⟩ := h.2.2.2.2
      rw [hR] at ho; cases ho
    rw [hf]
    clear hvF hvT
    replace c6 : Ct Tryz.prog GL 99 [.agg [.sl lo 3 (cl.map (TClassInfo.tw lo)), .sl lo 4 (cs.map (TCode.tw lo)), .sl lo 4 (es.map (TEntry.tw lo)), .int .i64 (q : Int)]] (fun K => .tup [.sl K 1 [], .bool false]) := c6
    repeat' (first | ((with_reducible apply o_y); exact y_; rfl) | refine e_call hG hst (c6) ?_ | with_reducible refine al_none rfl ?_ | (with_reducible first | apply aw_seq | apply aw_region | apply al_nil | apply aq_then | apply aw_exit | apply aw_ret | apply aq_block_hit | apply aq_then_exit | apply aq_then_ret) | refine aw_cond_t rfl rr_ ?_ | (refine aw_cond_df rfl rr_ dd_ ?_))
    refine aq_ret1 x_ rfl (.tmp _ _ rfl) (fun _ => ?_)
    exact Fin.flat rfl
  case some o =>
    rw [hR] at c6
    replace c6 : Ct Tryz.prog GL 99 [.agg [.sl lo 3 (cl.map (TClassInfo.tw lo)), .sl lo 4 (cs.map (TCode.tw lo)), .sl lo 4 (es.map (TEntry.tw lo)), .int .i64 (q : Int)]] (fun K => .tup [.sl K 1 (intR o), .bool true]) := c6
    obtain ⟨hinv, hfit⟩ := outersL_inv hR
    have hvF2 : ∀ (i : Nat) (hi : i < cs.length), ¬ codeOk cs cl.length o i cs[i] → V = false := fun i hi h => hvF fun k => by
      obtain ⟨o', ho', hc'⟩ := k.2.2.2.2
      rw [hR] at ho'; cases ho'
      exact h (hc' i hi)
    have hvT2 : codesOk cs cl.length o → V = true := fun h => hvT ⟨h1, h2, ⟨h3, hhead⟩, hgood, o, hR, h⟩
    clear hvF hvT hR hgood hhead
    repeat' (first | ((with_reducible apply o_y); exact y_; rfl) | refine e_call hG hst (c6) ?_ | with_reducible refine al_none rfl ?_ | (with_reducible first | apply aw_seq | apply aw_region | apply al_nil | apply aq_then | apply aw_block | apply aw_exit | apply aw_skip | apply aq_block_hit | apply aq_then_exit) | refine aw_cond_f rfl rr_ ?_ | (refine aw_cond_df rfl rr_ dd_ ?_))
    apply aw_loopk (X := Nat) [1, 7, 152, 153] (fun i => [(154, .int .i64 (i : Int))]) (fun _ => []) (fun i => i ≤ cs.length ∧ ∀ j, j < i → ∀ h : j < cs.length, codeOk cs cl.length o j cs[j]) (fun i => cs.length - i) 0 ⟨Nat.zero_le _, by omega⟩
    exact kp_; (repeat (first | exact Weak.envNil | refine Weak.envCons we_ ?_))
    · exact .refl _
    rintro i ⟨hi, ha⟩
    try dsimp only
    by_cases hlt : i < cs.length
    · have hg : cs[i]? = some cs[i] := List.getElem?_eq_getElem hlt
      have hra := tcode_row (lo := lo) hlt
      have hsm := hcs.2 _ (List.getElem_mem hlt)
      have hbad := hvF2 i hlt
      have hnx : codeOk cs cl.length o i cs[i] → ∀ j, j < i + 1 → ∀ h : j < cs.length, codeOk cs cl.length o j cs[j] := fun ho => below_succ ha fun _ => ho
      have hiq := fun (hsl : 0 ≤ (cs[i]'hlt).slots ∧ (cs[i]'hlt).slots ≤ 30) (x : TInstr) (hx : x.text.size ≤ 1048576) => instrOk_ct hst hseI lo w0.heap.size cl (.sl lo 4 (es.map (TEntry.tw lo))) cs (q : Int) hcll hcs o hinv i (cs[i]'hlt) hg hsl x hx
      clear hvF2 hvT2 ha hg
      unfold codeOk codeHead at hbad hnx
      generalize hBB : instrB cs cl.length o i cs[i] = B at hbad hnx hiq
      clear hBB
      generalize cs[i] = c at hra hsm hbad hnx hiq
      obtain ⟨bl, pr, sl, is⟩ := c
      dsimp only at hra hbad hnx hiq
      have hn : is.length ≤ 1048576 := hsm.1
      have ht : ∀ i ∈ is, i.text.size ≤ 1048576 := hsm.2
      have hil := TInstr.len lo is
      have hdep := stackDepths_ct hst hcaI lo bl pr sl is hn ht
      have hnew := dO_new (depthsL is)
      rw [instrs_tw lo] at hdep
      unfold dR dO at hdep hnew
      generalize (depthsL is).getD [] = ds at hdep hnew
      generalize (depthsL is).isSome = ok at hdep hnew hbad hnx
      have d1 := within_ct (G := GL) sl 0 30
      have d2 := within_ct (G := GL) pr 0 sl
      by_cases k0 : ok = true
      case neg =>
        rw [hbad fun h => k0 h.2.2]
        rw [Bool.eq_false_iff.2 k0] at hdep hnew
        repeat' (first | ((with_reducible apply o_y); exact y_; rfl) | (refine e_alloc ?_; intro ss bb) | refine e_storep ?_ | ((with_reducible apply o_callOV); rfl; kernel_rfl; exact hG; exact hst; exact hdep; ((repeat (first | exact Args.nil | ((with_reducible apply Args.cons); rfl; (with_reducible exact View.same _))))); exact hnew; rintro ⟨ss, bb⟩ -; refine al_app1 ?_) | with_reducible refine al_none rfl ?_ | (with_reducible first | apply aw_seq | apply aw_region | apply al_nil | apply aq_then | apply aw_block | apply aw_skip | apply aw_ret | apply aq_then_ret | apply aq_block_ret) | refine al_skip rfl rfl rfl rr_ rfl rfl rfl ?_ | refine aw_cond_t rfl rr_ ?_ | (refine aw_cond_dt rfl rr_ dd_ ?_))
        refine aq_ret1 x_ rfl (.tmp _ _ rfl) (fun _ => ?_)
        exact Fin.flat rfl
      subst k0
      by_cases k1 : inR sl 0 30 = true
      case neg =>
        rw [hbad fun h => k1 h.1.1]
        rw [Bool.eq_false_iff.2 k1] at d1
        repeat' (first | ((with_reducible apply o_y); exact y_; rfl) | (refine e_alloc ?_; intro ss bb) | refine e_storep ?_ | refine e_call hG hst (d1) ?_ | ((with_reducible apply o_callOV); rfl; kernel_rfl; exact hG; exact hst; exact hdep; ((repeat (first | exact Args.nil | ((with_reducible apply Args.cons); rfl; (with_reducible exact View.same _))))); exact hnew; rintro ⟨ss, bb⟩ -; refine al_app1 ?_) | with_reducible refine al_none rfl ?_ | (with_reducible first | apply aw_seq | apply aw_region | apply al_nil | apply aq_then | apply aw_block | apply aw_skip | apply aw_ret | apply aq_then_ret | apply aq_block_ret) | refine al_run rfl rfl rfl rr_ ?_ | refine al_skip rfl rfl rfl rr_ rfl rfl rfl ?_ | refine aw_cond_t rfl rr_ ?_ | (refine aw_cond_dt rfl rr_ dd_ ?_))
        refine aq_ret1 x_ rfl (.tmp _ _ rfl) (fun _ => ?_)
        exact Fin.flat rfl
      by_cases k2 : inR pr 0 sl = true
      case neg =>
        rw [hbad fun h => k2 h.1.2.1]
        rw [k1] at d1
        rw [Bool.eq_false_iff.2 k2] at d2
        repeat' (first | ((with_reducible apply o_y); exact y_; rfl) | (refine e_alloc ?_; intro ss bb) | refine e_storep ?_ | refine e_call hG hst (d1) ?_ | refine e_call hG hst (d2) ?_ | ((with_reducible apply o_callOV); rfl; kernel_rfl; exact hG; exact hst; exact hdep; ((repeat (first | exact Args.nil | ((with_reducible apply Args.cons); rfl; (with_reducible exact View.same _))))); exact hnew; rintro ⟨ss, bb⟩ -; refine al_app1 ?_) | with_reducible refine al_none rfl ?_ | (with_reducible first | apply aw_seq | apply aw_region | apply al_nil | apply aq_then | apply aw_block | apply aw_skip | apply aw_ret | apply aq_then_ret | apply aq_block_ret) | refine al_run rfl rfl rfl rr_ ?_ | refine al_skip rfl rfl rfl rr_ rfl rfl rfl ?_ | refine aw_cond_t rfl rr_ ?_ | (refine aw_cond_dt rfl rr_ dd_ ?_))
        refine aq_ret1 x_ rfl (.tmp _ _ rfl) (fun _ => ?_)
        exact Fin.flat rfl
      rw [k1] at d1
      rw [k2] at d2
      by_cases k3 : is.length ≤ 900
      case neg =>
        rw [hbad fun h => k3 h.1.2.2]
        repeat' (first | ((with_reducible apply o_y); exact y_; rfl) | (refine e_alloc ?_; intro ss bb) | refine e_storep ?_ | refine e_call hG hst (d1) ?_ | refine e_call hG hst (d2) ?_ | ((with_reducible apply o_callOV); rfl; kernel_rfl; exact hG; exact hst; exact hdep; ((repeat (first | exact Args.nil | ((with_reducible apply Args.cons); rfl; (with_reducible exact View.same _))))); exact hnew; rintro ⟨ss, bb⟩ -; refine al_app1 ?_) | with_reducible refine al_none rfl ?_ | (with_reducible first | apply aw_seq | apply aw_region | apply al_nil | apply aq_then | apply aw_block | apply aw_skip | apply aw_ret | apply aq_then_ret | apply aq_block_ret) | refine al_run rfl rfl rfl rr_ ?_ | (refine aw_cond_dt rfl rr_ dd_ ?_))
        refine aq_ret1 x_ rfl (.tmp _ _ rfl) (fun _ => ?_)
        exact Fin.flat rfl
      have hsl := of_decide_eq_true k1
      repeat' (first | ((with_reducible apply o_y); exact y_; rfl) | (refine e_alloc ?_; intro ss bb) | refine e_storep ?_ | refine e_call hG hst (d1) ?_ | refine e_call hG hst (d2) ?_ | ((with_reducible apply o_callOV); rfl; kernel_rfl; exact hG; exact hst; exact hdep; ((repeat (first | exact Args.nil | ((with_reducible apply Args.cons); rfl; (with_reducible exact View.same _))))); exact hnew; rintro ⟨ss, bb⟩ -; refine al_app1 ?_) | with_reducible refine al_none rfl ?_ | (with_reducible first | apply aw_seq | apply aw_region | apply al_nil | apply aq_then | apply aw_block | apply aw_skip) | refine al_run rfl rfl rfl rr_ ?_ | (refine aw_cond_dt rfl rr_ dd_ ?_) | (refine aw_cond_df rfl rr_ dd_ ?_))
      clear hdep hnew d1 d2
      apply aw_loopk (X := Nat) [1, 7, 9, 152, 153, 154, 187, 188] (fun p => [(189, .int .i64 (p : Int))]) (fun _ => []) (fun p => p ≤ is.length ∧ ∀ j, j < p → ∀ h : j < is.length, B is[j] = true) (fun p => is.length - p) 0 ⟨Nat.zero_le _, by omega⟩
      exact kp_; (repeat (first | exact Weak.envNil | refine Weak.envCons we_ ?_))
      · exact .nil _
      rintro p ⟨hp, hpa⟩
      try dsimp only
      by_cases hlp : p < is.length
      · have hrp := tinstr_row (lo := lo) hlp
        have hmem : is[p] ∈ is := List.getElem_mem hlp
        have hxq := ht _ hmem
        have hct := hiq hsl is[p] hxq
        have hny : B is[p] = true → ∀ j, j < p + 1 → ∀ h : j < is.length, B is[j] = true := fun h => below_succ hpa fun _ => h
        have hbd : B is[p] = false → V = false := fun h => hbad fun k => by
          have := k.2.1 _ hmem
          rw [h] at this; cases this
        clear hiq hbad hnx
        generalize is[p] = x at hrp hct hny hbd
        cases hBx : B x
        · rw [hBx] at hct
          rw [hbd hBx]
          repeat' (first | ((with_reducible apply o_y); exact y_; rfl) | (refine e_alloc ?_; intro ss bb) | refine e_storep ?_ | refine e_call hG hst (hct) ?_ | with_reducible refine al_none rfl ?_ | (with_reducible first | apply aw_seq | apply aw_region | apply al_nil | apply aq_then | apply aw_block | apply aw_skip | apply aw_ret | apply aq_then_ret | apply aq_block_ret) | refine aw_cond_t rfl rr_ ?_ | (refine aw_cond_dt rfl rr_ dd_ ?_))
          refine aq_ret1 x_ rfl (.tmp _ _ rfl) (fun _ => ?_)
          exact Fin.flat rfl
        · rw [hBx] at hct
          repeat' (first | ((with_reducible apply o_y); exact y_; rfl) | (refine e_alloc ?_; intro ss bb) | refine e_storep ?_ | refine e_call hG hst (hct) ?_ | with_reducible refine al_none rfl ?_ | (with_reducible first | apply aw_seq | apply aw_region | apply al_nil | apply aq_then | apply aw_block | apply aw_skip | apply aq_block) | refine aw_cond_f rfl rr_ ?_ | (refine aw_cond_dt rfl rr_ dd_ ?_))
          exact aq_round (p + 1) ⟨by omega, hny hBx⟩ (by omega) (.of _ nw_ od_ (Pick.nil _))
      · have hall : ∀ y ∈ is, B y = true := fun y hy => by
          obtain ⟨j, hj, rfl⟩ := List.getElem_of_mem hy
          exact hpa j (by omega) hj
        have hnz := hnx ⟨⟨k1, k2, k3⟩, hall, rfl⟩
        repeat' (first | ((with_reducible apply o_y); exact y_; rfl) | with_reducible refine al_none rfl ?_ | (with_reducible first | apply aw_seq | apply aw_region | apply al_nil | apply aq_then | apply aw_exit | apply aq_block_hit | apply aq_then_exit | apply aq_block) | (refine aw_cond_df rfl rr_ dd_ ?_))
        exact aq_round (i + 1) ⟨by omega, hnz⟩ (by omega) (.of _ nw_ od_ (Pick.nil _))
    · rw [hvT2 fun j hj => ha j (by omega) hj]
      repeat' (first | ((with_reducible apply o_y); exact y_; rfl) | with_reducible refine al_none rfl ?_ | (with_reducible first | apply aw_seq | apply aw_region | apply al_nil | apply aq_then | apply aw_exit | apply aw_ret | apply aq_block_hit | apply aq_then_exit) | (refine aw_cond_df rfl rr_ dd_ ?_))
      refine aq_ret1 x_ rfl (.tmp _ _ rfl) (fun _ => ?_)
      exact Fin.flat rfl
end Go.Proofs.YthpdkhejeookhaaGreatDoor
/- ReachableSelectors of the program. -/
namespace Go.Proofs.YthpdkhejeookhaaGreatDoor
set_option maxRecDepth 20000
open Go Go.RowKit
section
variable {G : World → Prop}
end
end Go.Proofs.YthpdkhejeookhaaGreatDoor
/- impl.ShakeBase. -/
namespace Go.Proofs.YthpdkhejeookhaaGreatDoor
set_option maxRecDepth 20000
open Go Go.RowKit
end Go.Proofs.YthpdkhejeookhaaGreatDoor
/- The laws' check of their marks. Written by gen_mk.py. -/
namespace Go.Proofs.YthpdkhejeookhaaGreatDoor
set_option maxRecDepth 20000
open Go Go.RowKit
section
variable {G : World → Prop}
set_option maxHeartbeats 1000000 in
theorem heldStringS_m (hst : Stable G) (lo : Nat) (l : List ByteArray) (k : Int) (hn : l.length ≤ 1048576) (hk : 0 ≤ k ∧ k ≤ 1000000000000000) : Ct Tryz.prog G 130 [.sl lo 1 (strR (mkL mkString nxString k l)), .int .i64 k] (fun _ => .int .i64 (kL nxString k l)) := by
  refine ct_enter Tryz.func130 rfl Tryz.ntmps130 rfl rfl fun w0 _ hG => ?_
  have hrl : (strR (mkL mkString nxString k l)).length = l.length := by simp [strR, mkL_len]
  have hget := fun i (h : i < l.length) => mkL_get (mk := mkString) (nx := nxString) (k := k) h
  have hgr : ∀ i (h : i < l.length), (strR (mkL mkString nxString k l))[i]? = some [.str (markB (kL nxString k (l.take i)))] := fun i h => by
    simp only [strR, List.getElem?_map, hget i h]; rfl
  generalize strR (mkL mkString nxString k l) = rows at hrl hgr ⊢
  repeat' (first | ((with_reducible apply o_y); exact y_; rfl) | with_reducible refine al_none rfl ?_ | (with_reducible first | apply aw_seq | apply aw_region | apply al_nil | apply aq_then | apply aw_block))
  apply aw_loopk (X := Nat) [0] (fun x => [(5, .int .i64 (x : Int)), (1, .int .i64 (kL nxString k (l.take x)))]) (fun _ => []) (fun x => x ≤ l.length) (fun x => l.length - x) 0 (Nat.zero_le _)
  exact kp_; (repeat (first | exact Weak.envNil | refine Weak.envCons we_ ?_))
  · exact .refl _
  intro i hi
  try dsimp only
  have hq := kL_take (k := k) (i := i) hn (nxString_in l) hi
  by_cases hlt : i < l.length
  · have hrow := hgr i hlt
    have hks : kL nxString k (l.take (i + 1)) = kL nxString k (l.take i) + 1 := kL_snoc hlt
    generalize kL nxString k (l.take i) = q at hq hrow hks ⊢
    have hs0 : ¬ markB (q) ≠ markB (q) := fun h => h rfl
    have hm0 := markText_ct (G := G) (q) (by omega) (by omega)
    repeat' (first | ((with_reducible apply o_y); exact y_; rfl) | with_reducible refine aw_draw (by kernel_rfl) (by kernel_rfl) ?_ | with_reducible refine dr_nil ?_ | with_reducible refine dr_none rfl ?_ | ((with_reducible apply d_y); exact y_; rfl) | refine e_calld hG hst (hm0) ?_ | with_reducible refine al_none rfl ?_ | (with_reducible first | apply aw_seq | apply aw_region | apply al_nil | apply aq_then | apply aw_block | apply aw_skip | apply aq_block) | (refine aw_cond_dt rfl rr_ dd_ ?_) | (refine aw_cond_df rfl rr_ dd_ ?_))
    all_goals first
      | exact aq_round (i + 1) (by omega) (by omega) (.of _ (Weak.envCons rfl (Weak.envCons (lk_int rfl (by rw [hks])) Weak.envNil)) od_ pk_)
      | (exfalso; simp_all; done)
  · obtain rfl : i = l.length := by omega
    rw [List.take_length]
    repeat' (first | ((with_reducible apply o_y); exact y_; rfl) | with_reducible refine al_none rfl ?_ | (with_reducible first | apply aw_seq | apply aw_region | apply al_nil | apply aq_then | apply aw_exit | apply aw_ret | apply aq_block_hit | apply aq_then_exit) | (refine aw_cond_df rfl rr_ dd_ ?_))
    refine aq_ret1 x_ rfl (.tmp _ _ rfl) (fun _ => ?_)
    exact Fin.flat rfl
set_option maxHeartbeats 1000000 in
theorem heldInstrS_m (hst : Stable G) (lo : Nat) (l : List TInstr) (k : Int) (hn : l.length ≤ 1048576) (hk : 0 ≤ k ∧ k ≤ 1000000000000000) : Ct Tryz.prog G 131 [.sl lo 4 ((mkL mkInstr nxInstr k l).map (TInstr.tw lo)), .int .i64 k] (fun _ => .int .i64 (kL nxInstr k l)) := by
  refine ct_enter Tryz.func131 rfl Tryz.ntmps131 rfl rfl fun w0 _ hG => ?_
  have hrl : ((mkL mkInstr nxInstr k l).map (TInstr.tw lo)).length = l.length := by simp [mkL_len]
  have hget := fun i (h : i < l.length) => mkL_get (mk := mkInstr) (nx := nxInstr) (k := k) h
  have hgr : ∀ i (h : i < l.length), ((mkL mkInstr nxInstr k l).map (TInstr.tw lo))[i]? = some [.int .i64 (kL nxInstr k (l.take i)), .int .i64 (kL nxInstr k (l.take i) + 1), .int .i64 (kL nxInstr k (l.take i) + 1 + 1), .str (markB (kL nxInstr k (l.take i) + 1 + 1 + 1))] := fun i h => by
    simp only [List.getElem?_map, hget i h]; rfl
  generalize (mkL mkInstr nxInstr k l).map (TInstr.tw lo) = rows at hrl hgr ⊢
  repeat' (first | ((with_reducible apply o_y); exact y_; rfl) | with_reducible refine al_none rfl ?_ | (with_reducible first | apply aw_seq | apply aw_region | apply al_nil | apply aq_then | apply aw_block))
  apply aw_loopk (X := Nat) [0] (fun x => [(5, .int .i64 (x : Int)), (1, .int .i64 (kL nxInstr k (l.take x)))]) (fun _ => []) (fun x => x ≤ l.length) (fun x => l.length - x) 0 (Nat.zero_le _)
  exact kp_; (repeat (first | exact Weak.envNil | refine Weak.envCons we_ ?_))
  · exact .refl _
  intro i hi
  try dsimp only
  have hq := kL_take (k := k) (i := i) hn (nxInstr_in l) hi
  by_cases hlt : i < l.length
  · have hrow := hgr i hlt
    have hks : kL nxInstr k (l.take (i + 1)) = kL nxInstr k (l.take i) + 1 + 1 + 1 + 1 := kL_snoc hlt
    generalize kL nxInstr k (l.take i) = q at hq hrow hks ⊢
    have hi0 : ¬ (q) ≠ (q) := fun h => h rfl
    have hi1 : ¬ (q + 1) ≠ (q + 1) := fun h => h rfl
    have hi2 : ¬ (q + 1 + 1) ≠ (q + 1 + 1) := fun h => h rfl
    have hs3 : ¬ markB (q + 1 + 1 + 1) ≠ markB (q + 1 + 1 + 1) := fun h => h rfl
    have hm3 := markText_ct (G := G) (q + 1 + 1 + 1) (by omega) (by omega)
    repeat' (first | ((with_reducible apply o_y); exact y_; rfl) | with_reducible refine aw_draw (by kernel_rfl) (by kernel_rfl) ?_ | with_reducible refine dr_nil ?_ | with_reducible refine dr_none rfl ?_ | ((with_reducible apply d_y); exact y_; rfl) | refine e_calld hG hst (hm3) ?_ | with_reducible refine al_none rfl ?_ | (with_reducible first | apply aw_seq | apply aw_region | apply al_nil | apply aq_then | apply aw_block | apply aw_skip | apply aq_block) | (refine aw_cond_dt rfl rr_ dd_ ?_) | (refine aw_cond_df rfl rr_ dd_ ?_))
    all_goals first
      | exact aq_round (i + 1) (by omega) (by omega) (.of _ (Weak.envCons rfl (Weak.envCons (lk_int rfl (by rw [hks])) Weak.envNil)) od_ pk_)
      | (exfalso; simp_all; done)
  · obtain rfl : i = l.length := by omega
    rw [List.take_length]
    repeat' (first | ((with_reducible apply o_y); exact y_; rfl) | with_reducible refine al_none rfl ?_ | (with_reducible first | apply aw_seq | apply aw_region | apply al_nil | apply aq_then | apply aw_exit | apply aw_ret | apply aq_block_hit | apply aq_then_exit) | (refine aw_cond_df rfl rr_ dd_ ?_))
    refine aq_ret1 x_ rfl (.tmp _ _ rfl) (fun _ => ?_)
    exact Fin.flat rfl
set_option maxHeartbeats 1000000 in
theorem heldEntryS_m (hst : Stable G) (lo : Nat) (l : List TEntry) (k : Int) (hn : l.length ≤ 1048576) (hk : 0 ≤ k ∧ k ≤ 1000000000000000) : Ct Tryz.prog G 53 [.sl lo 4 ((mkL mkEntry nxEntry k l).map (TEntry.tw lo)), .int .i64 k] (fun _ => .int .i64 (kL nxEntry k l)) := by
  refine ct_enter Tryz.func53 rfl Tryz.ntmps53 rfl rfl fun w0 _ hG => ?_
  have hrl : ((mkL mkEntry nxEntry k l).map (TEntry.tw lo)).length = l.length := by simp [mkL_len]
  have hget := fun i (h : i < l.length) => mkL_get (mk := mkEntry) (nx := nxEntry) (k := k) h
  have hgr : ∀ i (h : i < l.length), ((mkL mkEntry nxEntry k l).map (TEntry.tw lo))[i]? = some [.int .i64 (kL nxEntry k (l.take i)), .bool (decide ((kL nxEntry k (l.take i) + 1).tmod 3 = 0)), .str (markB (kL nxEntry k (l.take i) + 1 + 1)), .int .i64 (kL nxEntry k (l.take i) + 1 + 1 + 1)] := fun i h => by
    simp only [List.getElem?_map, hget i h]; rfl
  generalize (mkL mkEntry nxEntry k l).map (TEntry.tw lo) = rows at hrl hgr ⊢
  repeat' (first | ((with_reducible apply o_y); exact y_; rfl) | with_reducible refine al_none rfl ?_ | (with_reducible first | apply aw_seq | apply aw_region | apply al_nil | apply aq_then | apply aw_block))
  apply aw_loopk (X := Nat) [0] (fun x => [(5, .int .i64 (x : Int)), (1, .int .i64 (kL nxEntry k (l.take x)))]) (fun _ => []) (fun x => x ≤ l.length) (fun x => l.length - x) 0 (Nat.zero_le _)
  exact kp_; (repeat (first | exact Weak.envNil | refine Weak.envCons we_ ?_))
  · exact .refl _
  intro i hi
  try dsimp only
  have hq := kL_take (k := k) (i := i) hn (nxEntry_in l) hi
  by_cases hlt : i < l.length
  · have hrow := hgr i hlt
    have hks : kL nxEntry k (l.take (i + 1)) = kL nxEntry k (l.take i) + 1 + 1 + 1 + 1 := kL_snoc hlt
    generalize kL nxEntry k (l.take i) = q at hq hrow hks ⊢
    have hi0 : ¬ (q) ≠ (q) := fun h => h rfl
    have hb1 : (decide ((q + 1).tmod 3 = 0) != decide ((q + 1).tmod 3 = 0)) = false := by simp
    have hs2 : ¬ markB (q + 1 + 1) ≠ markB (q + 1 + 1) := fun h => h rfl
    have hm2 := markText_ct (G := G) (q + 1 + 1) (by omega) (by omega)
    have hi3 : ¬ (q + 1 + 1 + 1) ≠ (q + 1 + 1 + 1) := fun h => h rfl
    repeat' (first | ((with_reducible apply o_y); exact y_; rfl) | with_reducible refine aw_draw (by kernel_rfl) (by kernel_rfl) ?_ | with_reducible refine dr_nil ?_ | with_reducible refine dr_none rfl ?_ | ((with_reducible apply d_y); exact y_; rfl) | refine e_calld hG hst (hm2) ?_ | with_reducible refine al_none rfl ?_ | (with_reducible first | apply aw_seq | apply aw_region | apply al_nil | apply aq_then | apply aw_block | apply aw_skip | apply aw_ret | apply aq_then_ret | apply aq_block_ret | apply aq_block) | (refine aw_cond_dt rfl rr_ dd_ ?_) | (refine aw_cond_df rfl rr_ dd_ ?_) | (refine aw_cond_b rfl rr_ (fun hc => ?_) (fun hc => ?_)))
    all_goals first
      | exact aq_round (i + 1) (by omega) (by omega) (.of _ (Weak.envCons rfl (Weak.envCons (lk_int rfl (by rw [hks])) Weak.envNil)) od_ pk_)
      | (exfalso; simp_all; done)
  · obtain rfl : i = l.length := by omega
    rw [List.take_length]
    repeat' (first | ((with_reducible apply o_y); exact y_; rfl) | with_reducible refine al_none rfl ?_ | (with_reducible first | apply aw_seq | apply aw_region | apply al_nil | apply aq_then | apply aw_exit | apply aw_ret | apply aq_block_hit | apply aq_then_exit) | (refine aw_cond_df rfl rr_ dd_ ?_))
    refine aq_ret1 x_ rfl (.tmp _ _ rfl) (fun _ => ?_)
    exact Fin.flat rfl
set_option maxHeartbeats 1000000 in
theorem heldClassInfoS_m (hst : Stable G) (lo : Nat) (l : List TClassInfo) (k : Int) (hn : l.length ≤ 1048576 ∧ ∀ y ∈ l, TClassInfo.small 1048576 y) (hk : 0 ≤ k ∧ k ≤ 100000000000000) : Ct Tryz.prog G 51 [.sl lo 3 ((mkL mkClassInfo nxClassInfo k l).map (TClassInfo.tw lo)), .int .i64 k] (fun _ => .int .i64 (kL nxClassInfo k l)) := by
  refine ct_enter Tryz.func51 rfl Tryz.ntmps51 rfl rfl fun w0 _ hG => ?_
  obtain ⟨hn, hsm⟩ := hn
  have hrl : ((mkL mkClassInfo nxClassInfo k l).map (TClassInfo.tw lo)).length = l.length := by simp [mkL_len]
  have hgr : ∀ i (h : i < l.length), ((mkL mkClassInfo nxClassInfo k l).map (TClassInfo.tw lo))[i]? = some ((mkClassInfo (kL nxClassInfo k (l.take i)) l[i]).tw lo) := fun i h => by
    simp only [List.getElem?_map, mkL_get (mk := mkClassInfo) (nx := nxClassInfo) (k := k) h]; rfl
  generalize (mkL mkClassInfo nxClassInfo k l).map (TClassInfo.tw lo) = rows at hrl hgr ⊢
  repeat' (first | ((with_reducible apply o_y); exact y_; rfl) | with_reducible refine al_none rfl ?_ | (with_reducible first | apply aw_seq | apply aw_region | apply al_nil | apply aq_then | apply aw_block))
  apply aw_loopk (X := Nat) [0] (fun x => [(5, .int .i64 (x : Int)), (1, .int .i64 (kL nxClassInfo k (l.take x)))]) (fun _ => []) (fun x => x ≤ l.length) (fun x => l.length - x) 0 (Nat.zero_le _)
  exact kp_; (repeat (first | exact Weak.envNil | refine Weak.envCons we_ ?_))
  · exact .refl _
  intro i hi
  try dsimp only
  have hq := kL_take (k := k) (i := i) hn (nxClassInfo_in hsm) hi
  by_cases hlt : i < l.length
  · have hrow := hgr i hlt
    have hks := kL_snoc (nx := nxClassInfo) (k := k) hlt
    have hb := hsm _ (List.getElem_mem hlt)
    generalize kL nxClassInfo k (l.take i) = q at hq hrow hks ⊢
    generalize l[i] = x at hrow hks hb
    replace hrow : rows[i]? = some [.str (markB (q)), .int .i64 (q + 1), .sl lo 1 (strR (mkL mkString nxString (q + 1 + 1) x.fields))] := hrow
    have hin := heldStringS_m hst lo x.fields (q + 1 + 1) hb.2.1 (by omega)
    have hinr := kL_in (nx := nxString) (l := x.fields) (k := q + 1 + 1) (nxString_in _)
    have hks2 : kL nxClassInfo k (l.take (i + 1)) = kL nxString (q + 1 + 1) x.fields := hks
    have hs0 : ¬ markB (q) ≠ markB (q) := fun h => h rfl
    have hm0 := markText_ct (G := G) (q) (by omega) (by omega)
    have hi1 : ¬ (q + 1) ≠ (q + 1) := fun h => h rfl
    repeat' (first | ((with_reducible apply o_y); exact y_; rfl) | with_reducible refine aw_draw (by kernel_rfl) (by kernel_rfl) ?_ | with_reducible refine dr_nil ?_ | with_reducible refine dr_none rfl ?_ | ((with_reducible apply d_y); exact y_; rfl) | refine e_call hG hst (hin) ?_ | refine e_calld hG hst (hm0) ?_ | with_reducible refine al_none rfl ?_ | (with_reducible first | apply aw_seq | apply aw_region | apply al_nil | apply aq_then | apply aw_block | apply aw_skip | apply aq_block) | (refine aw_cond_dt rfl rr_ dd_ ?_) | (refine aw_cond_df rfl rr_ dd_ ?_))
    all_goals first
      | exact aq_round (i + 1) (by omega) (by omega) (.of _ (Weak.envCons rfl (Weak.envCons (lk_int rfl (by rw [hks2])) Weak.envNil)) od_ pk_)
      | (exfalso; simp_all; done)
      | (exfalso; omega)
  · obtain rfl : i = l.length := by omega
    rw [List.take_length]
    repeat' (first | ((with_reducible apply o_y); exact y_; rfl) | with_reducible refine al_none rfl ?_ | (with_reducible first | apply aw_seq | apply aw_region | apply al_nil | apply aq_then | apply aw_exit | apply aw_ret | apply aq_block_hit | apply aq_then_exit) | (refine aw_cond_df rfl rr_ dd_ ?_))
    refine aq_ret1 x_ rfl (.tmp _ _ rfl) (fun _ => ?_)
    exact Fin.flat rfl
set_option maxHeartbeats 1000000 in
theorem heldCodeS_m (hst : Stable G) (lo : Nat) (l : List TCode) (k : Int) (hn : l.length ≤ 1048576 ∧ ∀ y ∈ l, TCode.small 1048576 y) (hk : 0 ≤ k ∧ k ≤ 100000000000000) : Ct Tryz.prog G 52 [.sl lo 4 ((mkL mkCode nxCode k l).map (TCode.tw lo)), .int .i64 k] (fun _ => .int .i64 (kL nxCode k l)) := by
  refine ct_enter Tryz.func52 rfl Tryz.ntmps52 rfl rfl fun w0 _ hG => ?_
  obtain ⟨hn, hsm⟩ := hn
  have hrl : ((mkL mkCode nxCode k l).map (TCode.tw lo)).length = l.length := by simp [mkL_len]
  have hgr : ∀ i (h : i < l.length), ((mkL mkCode nxCode k l).map (TCode.tw lo))[i]? = some ((mkCode (kL nxCode k (l.take i)) l[i]).tw lo) := fun i h => by
    simp only [List.getElem?_map, mkL_get (mk := mkCode) (nx := nxCode) (k := k) h]; rfl
  generalize (mkL mkCode nxCode k l).map (TCode.tw lo) = rows at hrl hgr ⊢
  repeat' (first | ((with_reducible apply o_y); exact y_; rfl) | with_reducible refine al_none rfl ?_ | (with_reducible first | apply aw_seq | apply aw_region | apply al_nil | apply aq_then | apply aw_block))
  apply aw_loopk (X := Nat) [0] (fun x => [(5, .int .i64 (x : Int)), (1, .int .i64 (kL nxCode k (l.take x)))]) (fun _ => []) (fun x => x ≤ l.length) (fun x => l.length - x) 0 (Nat.zero_le _)
  exact kp_; (repeat (first | exact Weak.envNil | refine Weak.envCons we_ ?_))
  · exact .refl _
  intro i hi
  try dsimp only
  have hq := kL_take (k := k) (i := i) hn (nxCode_in hsm) hi
  by_cases hlt : i < l.length
  · have hrow := hgr i hlt
    have hks := kL_snoc (nx := nxCode) (k := k) hlt
    have hb := hsm _ (List.getElem_mem hlt)
    generalize kL nxCode k (l.take i) = q at hq hrow hks ⊢
    generalize l[i] = x at hrow hks hb
    replace hrow : rows[i]? = some [.bool (decide ((q).tmod 3 = 0)), .int .i64 (q + 1), .int .i64 (q + 1 + 1), .sl lo 4 ((mkL mkInstr nxInstr (q + 1 + 1 + 1) x.instrs).map (TInstr.tw lo))] := hrow
    have hin := heldInstrS_m hst lo x.instrs (q + 1 + 1 + 1) hb.1 (by omega)
    have hinr := kL_in (nx := nxInstr) (l := x.instrs) (k := q + 1 + 1 + 1) (nxInstr_in _)
    have hks2 : kL nxCode k (l.take (i + 1)) = kL nxInstr (q + 1 + 1 + 1) x.instrs := hks
    have hb0 : (decide ((q).tmod 3 = 0) != decide ((q).tmod 3 = 0)) = false := by simp
    have hi1 : ¬ (q + 1) ≠ (q + 1) := fun h => h rfl
    have hi2 : ¬ (q + 1 + 1) ≠ (q + 1 + 1) := fun h => h rfl
    repeat' (first | ((with_reducible apply o_y); exact y_; rfl) | refine e_call hG hst (hin) ?_ | with_reducible refine al_none rfl ?_ | (with_reducible first | apply aw_seq | apply aw_region | apply al_nil | apply aq_then | apply aw_block | apply aw_skip | apply aw_ret | apply aq_then_ret | apply aq_block_ret | apply aq_block) | (refine aw_cond_dt rfl rr_ dd_ ?_) | (refine aw_cond_df rfl rr_ dd_ ?_) | (refine aw_cond_b rfl rr_ (fun hc => ?_) (fun hc => ?_)))
    all_goals first
      | exact aq_round (i + 1) (by omega) (by omega) (.of _ (Weak.envCons rfl (Weak.envCons (lk_int rfl (by rw [hks2])) Weak.envNil)) od_ pk_)
      | (exfalso; simp_all; done)
      | (exfalso; omega)
  · obtain rfl : i = l.length := by omega
    rw [List.take_length]
    repeat' (first | ((with_reducible apply o_y); exact y_; rfl) | with_reducible refine al_none rfl ?_ | (with_reducible first | apply aw_seq | apply aw_region | apply al_nil | apply aq_then | apply aw_exit | apply aw_ret | apply aq_block_hit | apply aq_then_exit) | (refine aw_cond_df rfl rr_ dd_ ?_))
    refine aq_ret1 x_ rfl (.tmp _ _ rfl) (fun _ => ?_)
    exact Fin.flat rfl
theorem heldCodeBase_m (hst : Stable G) (lo : Nat) (x : TCodeBase) (hb : x.small 1048576) (k : Int) (hk : 0 ≤ k ∧ k ≤ 50000000000000) : Ct Tryz.prog G 14 [.agg ((mkCodeBase k x).tw lo), .int .i64 k] (fun _ => .int .i64 (nxCodeBase k x)) := by
  refine ct_enter Tryz.func14 rfl Tryz.ntmps14 rfl rfl fun w0 _ hG => ?_
  have h1 := kL_take (k := k) (i := x.classes.length) hb.1.1 (nxClassInfo_in hb.1.2) (Nat.le_refl _)
  have h2 := kL_take (k := kL nxClassInfo k x.classes) (i := x.codes.length) hb.2.1.1 (nxCode_in hb.2.1.2) (Nat.le_refl _)
  have h3 := kL_take (k := kL nxCode (kL nxClassInfo k x.classes) x.codes) (i := x.entries.length) hb.2.2.1 (nxEntry_in x.entries) (Nat.le_refl _)
  rw [List.take_length] at h1 h2 h3
  have c1 := heldClassInfoS_m hst lo x.classes k hb.1 (by omega)
  have c2 := heldCodeS_m hst lo x.codes (kL nxClassInfo k x.classes) hb.2.1 (by omega)
  have c3 := heldEntryS_m hst lo x.entries (kL nxCode (kL nxClassInfo k x.classes) x.codes) hb.2.2.1 (by omega)
  unfold TCodeBase.tw mkCodeBase nxCodeBase
  dsimp only
  repeat' (first | ((with_reducible apply o_y); exact y_; rfl) | refine e_box ?_ | refine e_call hG hst (c1) ?_ | refine e_call hG hst (c2) ?_ | refine e_call hG hst (c3) ?_ | with_reducible refine al_none rfl ?_ | (with_reducible first | apply aw_seq | apply aw_region | apply al_nil | apply aq_then | apply aw_skip | apply aw_ret) | (refine aw_cond_df rfl rr_ dd_ ?_))
  refine aq_ret1 x_ rfl (.tmp _ _ rfl) (fun _ => ?_)
  exact Fin.flat rfl
end
end Go.Proofs.YthpdkhejeookhaaGreatDoor
/- The law FnExactIsVerified, walked. -/
namespace Go.Proofs.YthpdkhejeookhaaGreatDoor
set_option maxRecDepth 20000
open Go Go.RowKit
/-- What a code base is to the walk, and its sizes. -/
theorem atL_tvs {α : Type} {R : PT → α → Prop} {f : α → List TV} {l : List PT} {xs : List α} (h : AtL R l xs) (hf : ∀ t x, R t x → t.tvs = f x) : PT.rowsL l = xs.map f := by
  rw [PT.rowsL_map]
  apply List.ext_getElem?
  intro i
  simp only [List.getElem?_map]
  by_cases hi : i < l.length
  · have hj : i < xs.length := by rw [← h.1]; exact hi
    rw [List.getElem?_eq_getElem hi, List.getElem?_eq_getElem hj]
    simp only [Option.map_some]
    rw [hf _ _ (h.get hi)]
  · rw [List.getElem?_eq_none (by omega), List.getElem?_eq_none (by rw [← h.1]; omega)]; rfl
theorem classInfo_tvs {t : PT} {x : TClassInfo} (h : TClassInfoAt t x) : t.tvs = x.tw 0 := by
  obtain ⟨A, c, rfl⟩ := h
  simp [PT.tvs, PT.tvsL, TClassInfo.tw, strR, PT.rowsL_map, Function.comp_def]
theorem code_tvs {t : PT} {x : TCode} (h : TCodeAt t x) : t.tvs = x.tw 0 := by
  obtain ⟨A, c, rfl⟩ := h
  simp [PT.tvs, PT.tvsL, TCode.tw, TInstr.pt, TInstr.tw, PT.rowsL_map, Function.comp_def]
theorem codeBase_tvs {t : PT} {x : TCodeBase} (h : TCodeBaseAt t x) : t.tvs = x.tw 0 := by
  obtain ⟨A0, c0, l0, A1, c1, l1, A2, c2, h0, h1, rfl⟩ := h
  simp only [PT.tvs, PT.tvsL, TCodeBase.tw, atL_tvs h0 (fun _ _ => classInfo_tvs), atL_tvs h1 (fun _ _ => code_tvs), PT.rowsL_map, List.map_map, List.append_nil, List.cons_append, List.nil_append]
  rfl
theorem classInfo_small {w : World} {S : Nat → Prop} {t : PT} {x : TClassInfo} (h : TClassInfoAt t x) (hs : Seen w S t) (hx : x.sane) : TClassInfo.small 9223372036854775807 x := by
  obtain ⟨A, c, rfl⟩ := h
  simp only [Seen, SeenL] at hs
  have h1 := hs.2.2.1.1
  have h2 := hs.2.2.1.2.1
  simp only [List.length_map] at h1
  exact ⟨hx.1, Nat.le_trans h1 h2, hx.2.2⟩
theorem code_small {w : World} {S : Nat → Prop} {t : PT} {x : TCode} (h : TCodeAt t x) (hs : Seen w S t) (hx : x.sane) : TCode.small 9223372036854775807 x := by
  obtain ⟨A, c, rfl⟩ := h
  simp only [Seen, SeenL] at hs
  have h1 := hs.2.2.2.1.1
  have h2 := hs.2.2.2.1.2.1
  simp only [List.length_map] at h1
  exact ⟨Nat.le_trans h1 h2, fun y hy => (hx.2.2 y hy).2.2.2⟩
theorem seenL_get {w : World} {S : Nat → Prop} : ∀ {l : List PT}, SeenL w S l → ∀ t ∈ l, Seen w S t
  | _ :: _, h, t, ht => by
    simp only [SeenL] at h
    rcases List.mem_cons.1 ht with rfl | ht
    · exact h.1
    · exact seenL_get h.2 t ht
theorem atL_small {α : Type} {R : PT → α → Prop} {w : World} {S : Nat → Prop} {l : List PT} {xs : List α} (h : AtL R l xs) (hs : SeenL w S l) {p q : α → Prop} (hp : ∀ t x, R t x → Seen w S t → p x → q x) (ha : ∀ x ∈ xs, p x) : ∀ x ∈ xs, q x := fun x hx => by
  obtain ⟨i, hi, rfl⟩ := List.getElem_of_mem hx
  have hj : i < l.length := by rw [h.1]; exact hi
  exact hp l[i] _ (h.get hj) (seenL_get hs _ (List.getElem_mem hj)) (ha _ hx)
theorem codeBase_small {w : World} {S : Nat → Prop} {t : PT} {x : TCodeBase} (h : TCodeBaseAt t x) (hs : Seen w S t) (hx : x.sane) : TCodeBase.small 9223372036854775807 x := by
  obtain ⟨A0, c0, l0, A1, c1, l1, A2, c2, h0, h1, rfl⟩ := h
  simp only [Seen, SeenL] at hs
  obtain ⟨⟨a1, a2, _, _, a5⟩, ⟨b1, b2, _, _, b5⟩, ⟨d1, d2, _, _, _⟩, _⟩ := hs
  simp only [List.length_map] at d1
  exact ⟨⟨by rw [← h0.1]; exact Nat.le_trans a1 a2, atL_small h0 a5 (fun _ _ => classInfo_small) hx.1⟩, ⟨by rw [← h1.1]; exact Nat.le_trans b1 b2, atL_small h1 b5 (fun _ _ => code_small) hx.2.1⟩, ⟨Nat.le_trans d1 d2, fun y hy => (hx.2.2.1 y hy).2.1⟩⟩
end Go.Proofs.YthpdkhejeookhaaGreatDoor
/- The law FnExactShakeBase (under way): what the marks and the calls want of an owned code base. -/
namespace Go.Proofs.YthpdkhejeookhaaGreatDoor
open Go Go.RowKit
theorem newOk_mono {objs objs' : Objs} (h : ∀ o ∈ objs, o ∈ objs') {t : TV} (k : NewOk objs t) : NewOk objs' t := by
  induction k with
  | flat t h => exact .flat t h
  | nils => exact .nils
  | ms s b off len m rows hm => exact .ms s b off len m rows (h _ hm)
  | agg l _ ih => exact .agg l ih
  | tup l _ ih => exact .tup l ih
theorem objNew_mono {objs objs' : Objs} (h : ∀ o ∈ objs, o ∈ objs') {o : TObj} (k : ObjNew objs o) : ObjNew objs' o := by
  cases o with
  | row m rows => exact fun t ht => newOk_mono h (k t ht)
  | box cells => exact fun t ht => newOk_mono h (k t ht)
  | _ => exact k
theorem codMk_new2 (x : TCode) (p : Nat × Nat) (objs : Objs) (h : (p.1, p.2, codOb x) ∈ objs) : ∀ t ∈ codMk x p, NewOk objs t := fun t ht => by
  simp only [codMk, List.mem_cons, List.not_mem_nil, or_false] at ht
  rcases ht with rfl | rfl | rfl | rfl
  · exact .flat _ rfl
  · exact .flat _ rfl
  · exact .flat _ rfl
  · exact .ms _ _ _ _ _ _ h
theorem codOb_new (x : TCode) (objs : Objs) : ObjNew objs (codOb x) := flat_new fun t ht => by
  obtain ⟨r, hr, htr⟩ := List.mem_flatten.1 ht
  obtain ⟨i, _, rfl⟩ := List.mem_map.1 hr
  simp only [TInstr.tw, List.mem_cons, List.not_mem_nil, or_false] at htr
  rcases htr with rfl | rfl | rfl | rfl <;> rfl
theorem entOb_new (l : List TEntry) (objs : Objs) : ObjNew objs (.row 4 (l.map (TEntry.tw 0))) := flat_new fun t ht => by
  obtain ⟨r, hr, htr⟩ := List.mem_flatten.1 ht
  obtain ⟨i, _, rfl⟩ := List.mem_map.1 hr
  simp only [TEntry.tw, List.mem_cons, List.not_mem_nil, or_false] at htr
  rcases htr with rfl | rfl | rfl | rfl <;> rfl
theorem cb_new (x : TCodeBase) (y : CbP) : (∀ s b o, (s, b, o) ∈ cbO x y → ObjNew (cbO x y) o) ∧ NewOk (cbO x y) (.agg (cbC x y)) := by
  have h1 := nest_new (m := 3) (s := y.1.1.1) (b := y.1.1.2) (n := x.classes.length) clsMk_new clsOb_new x.classes y.1.2
  have h2 := nest_new (m := 4) (s := y.2.1.1.1) (b := y.2.1.1.2) (n := x.codes.length) codMk_new2 codOb_new x.codes y.2.1.2
  have m1 : ∀ o ∈ clsO x.classes y.1, o ∈ cbO x y := fun o h => List.mem_append_left _ h
  have m2 : ∀ o ∈ codO x.codes y.2.1, o ∈ cbO x y := fun o h => List.mem_append_right _ (List.mem_append_left _ h)
  have m3 : ∀ o ∈ entO x.entries y.2.2, o ∈ cbO x y := fun o h => List.mem_append_right _ (List.mem_append_right _ h)
  refine ⟨fun s b o h => ?_, .agg _ fun t ht => ?_⟩
  · rcases List.mem_append.1 h with h | h
    · exact objNew_mono m1 (h1.1 s b o h)
    · rcases List.mem_append.1 h with h | h
      · exact objNew_mono m2 (h2.1 s b o h)
      · simp only [entO, List.mem_singleton, Prod.mk.injEq] at h
        obtain ⟨_, _, rfl⟩ := h
        exact entOb_new _ _
  · simp only [cbC, List.mem_cons, List.not_mem_nil, or_false] at ht
    rcases ht with rfl | rfl | rfl | rfl
    · exact newOk_mono m1 h1.2
    · exact newOk_mono m2 h2.2
    · exact .ms _ _ _ _ _ _ (m3 _ List.mem_cons_self)
    · exact .flat _ rfl
end Go.Proofs.YthpdkhejeookhaaGreatDoor
/- What the laws of functions that give back a code base share. -/
namespace Go.Proofs.YthpdkhejeookhaaGreatDoor
open Go Go.RowKit
instance : Enc CbP := inferInstanceAs (Enc (((Nat × Nat) × List (Nat × Nat)) × ((Nat × Nat) × List (Nat × Nat)) × (Nat × Nat)))
theorem cb_new2 (x : TCodeBase) (v : Bool) (y : CbP) (_ : cbI x y) : (∀ s b o, (s, b, o) ∈ cbO x y → ObjNew (cbO x y) o) ∧ NewOk (cbO x y) (.tup [.agg (cbC x y), .bool v]) :=
  ⟨(cb_new x y).1, .tup _ fun t ht => by
    simp only [List.mem_cons, List.not_mem_nil, or_false] at ht
    rcases ht with rfl | rfl
    · exact (cb_new x y).2
    · exact .flat _ rfl⟩
theorem pick_box3 (a b c : Nat × Nat × TObj) (A B C : Objs) : Pick (a :: b :: c :: (A ++ (B ++ C))) (a :: (A ++ (b :: (B ++ (c :: C))))) := .perm (by
  have h1 : (A ++ (b :: (B ++ (c :: C)))).Perm (b :: (A ++ (B ++ (c :: C)))) := List.perm_middle
  have h2 : (A ++ (B ++ (c :: C))).Perm (c :: (A ++ (B ++ C))) := by
    have : ((A ++ B) ++ (c :: C)).Perm (c :: ((A ++ B) ++ C)) := List.perm_middle
    simpa using this
  exact ((h1.trans (h2.cons b)).cons a).symm)
theorem perm_m (a b c : Nat × Nat × TObj) (A B C : Objs) : (B ++ (a :: b :: c :: (A ++ C))).Perm (a :: b :: c :: (A ++ (B ++ C))) := by
  have h := List.perm_append_comm_assoc B ([a, b, c] ++ A) C
  simpa using h
theorem perm_n (a b c : Nat × Nat × TObj) (A C : Objs) : (A ++ (a :: b :: c :: C)).Perm (a :: b :: c :: (A ++ C)) := by
  have h := List.perm_append_comm_assoc A [a, b, c] C
  simpa using h
theorem view_cbm {objs : Objs} {x : TCodeBase} {k : Int} {y : CbP} (hy : cbI x y) (hm : ∀ o ∈ cbO (mkCodeBase k x) y, o ∈ objs) : View objs (.agg (cbC x y)) (.agg ((mkCodeBase k x).tw 0)) := by
  have e : cbC (mkCodeBase k x) y = cbC x y := by simp [cbC, mkCodeBase, mkL_len]
  rw [← e]
  exact view_cb (by simpa [cbI, mkCodeBase, mkL_len] using hy) hm
theorem pick_box4 (a b c d : Nat × Nat × TObj) (Y Z : Objs) : Pick (a :: b :: c :: d :: (Y ++ Z)) (a :: (Y ++ (b :: c :: d :: Z))) := .perm (by
  have h := List.perm_append_comm_assoc Y [b, c, d] Z
  exact (h.symm.cons a))
end Go.Proofs.YthpdkhejeookhaaGreatDoor
/- The abstract walk, part 36: stores in a region that draws its order. -/
namespace Go.Proofs.YthpdkhejeookhaaGreatDoor
open Go Go.RowKit
section
variable {P : Program} {w0 : World} {N : Nat} {Q : Exit → Act → World → Prop} {objs R : Objs} {ops : Array Oper} {env : Env} {T0 : Nat} {pos : String} {af : Array Edge} {g : Option (Nat × Bool)}
theorem mk_store {T : TypeId} {x v : Operand} {s b off : Nat} {tv : TV} {cells vs cells' : List TV} (hx : ev env x = some (.mp s b off)) (hv : ev env v = some tv) (hc : tvCells tv = some vs) (hi : (P.info? T).isSome = true) (hsz : P.cellsOf T = vs.length) (hsp : Splice cells off vs cells') :
    MkW P w0 env ⟨none, .store T x v, T0, pos, af, g⟩ [(s, b, .box cells)] R (fun _ => True) (fun _ => [(s, b, .box cells')]) (fun _ => .tup []) := fun a w K Q hw hop hK => by
    have hu : Upd (s, b, .box cells) (s, b, .box cells') ([(s, b, .box cells)] ++ R) ([(s, b, .box cells')] ++ R) := .head R
    obtain ⟨⟨hB, hci⟩, cur, e, h2, h3, h4⟩ := hw.obj s b _ hu.mem
    obtain ⟨g1, g2, g3⟩ := rep_cells (ev_mem hop (x := v) (by simp [Op.operands]) hv) hc
    obtain ⟨p1, p2, p3⟩ := hsp.spec
    have hxa := ev_mem hop (x := x) (by simp [Op.operands]) hx
    generalize hax : a.eval x = ax at hxa
    cases hxa with
    | mp s b off hb =>
    have hone : ∀ u ∈ (a.eval v).cells.toList, u.oneCell' = true := fun u hu => by
      obtain ⟨k, hk, rfl⟩ := List.getElem_of_mem hu
      have hk' : k < vs.length := by rw [← g1]; simpa using hk
      exact ((g2 k vs[k] _ (List.getElem?_eq_getElem hk') (by rw [← Array.getElem?_toList]; exact List.getElem?_eq_getElem hk)).one (g3 _ (List.getElem_mem hk'))).1
    have hrun := exec_store (P := P) (o := ⟨none, .store T x v, T0, pos, af, g⟩) (cur := cur) (e := e) (w := w) rfl hax hi (by rw [hsz, g1]) h2 (by rw [g1, h3]; exact p1) hone
    unfold Oper.wp
    rw [hrun]
    have hb0 : b ≠ 0 := by have := hw.pos; omega
    have hkk : ∀ k, k < w.heap.size → k ≠ b ∨ b = 0 → (w.setRow b (cur.toList.take off ++ (a.eval v).cells.toList ++ cur.toList.drop (off + (a.eval v).cells.size)).toArray).heap[k]? = w.heap[k]? := fun k _ hk => setRow_other w b k _ (hk.resolve_right hb0)
    have hst := step_upd (m := 0) hw hu (w' := w.setRow b (cur.toList.take off ++ (a.eval v).cells.toList ++ cur.toList.drop (off + (a.eval v).cells.size)).toArray) (by simp) hkk (.inl rfl) (by simp) (by simp) (fun _ _ => by
      unfold World.shape?; rw [setRow_heap w b cur _ e _ h2, h2]; simp; omega) (by simp [marker])
    refine hK .no (.tuple #[]) _ trivial (hw.upd hu (setRow_below hw.below hB _) hkk (.inl rfl) hst ⟨⟨hB, fun t ht => ?_⟩, _, e, setRow_heap w b cur _ e _ h2, ?_, fun j t hj => ?_⟩) hst (.tup [] #[] rfl (by simp))
    · obtain ⟨k, hk, rfl⟩ := List.getElem_of_mem ht
      have h5 := p3 k
      rw [List.getElem?_eq_getElem hk] at h5
      split at h5
      · exact g3 _ (List.mem_of_getElem? h5.symm)
      · exact hci _ (List.mem_of_getElem? h5.symm)
    · simp; omega
    · rw [p3] at hj
      have hcur : ∀ i : Nat, cur.toList[i]? = cur[i]? := fun i => by simp
      simp only [List.getElem?_toArray]
      split at hj
      · rename_i hin
        have hlt : j - off < (a.eval v).cells.size := by omega
        refine ⟨(a.eval v).cells[j - off], ?_, (g2 _ t _ hj (by simp [hlt])).step hst⟩
        rw [List.getElem?_append_left (by simp; omega), List.getElem?_append_right (by simp; omega)]
        simp only [List.length_take, Array.length_toList]
        rw [show j - min off cur.size = j - off by omega]
        simp [hlt]
      · rename_i hin
        obtain ⟨u, h5, h6⟩ := h4 j t hj
        refine ⟨u, ?_, h6.step hst⟩
        have hjl : j < cur.size := (Array.getElem?_eq_some_iff.1 h5).1
        by_cases hjo : j < off
        · rw [List.getElem?_append_left (by simp; omega), List.getElem?_append_left (by simp; omega), List.getElem?_take, if_pos hjo, hcur]; exact h5
        · rw [List.getElem?_append_right (by simp; omega)]
          simp only [List.length_append, List.length_take, Array.length_toList, List.getElem?_drop]
          rw [show off + (a.eval v).cells.size + (j - (min off cur.size + (a.eval v).cells.size)) = j by omega, hcur]; exact h5
end
section
variable {P : Program} {w0 : World} {N : Nat} {Q : Exit → Act → World → Prop} {objs : Objs} {ops : Array Oper} {K : List Mki → (Pt → Env) → Prop} {c : Nat} {L : List Mki} {rest : List Oper} {E : Pt → Env} {T0 : Nat} {pos : String} {af : Array Edge}
theorem m_store {T : TypeId} {i off : Nat} {x v : Operand} {tv : Pt → TV} {cells : List TV} {vs cells2 : Pt → List TV} (hx : ∀ p, ev (E p) x = some (.mp (p i).a (p i).b off)) (hv : ∀ p, ev (E p) v = some (tv p)) (hc : ∀ p, tvCells (tv p) = some (vs p)) (hi : (P.info? T).isSome = true) (hsr : ∀ p, srcO L (some i) p = [((p i).a, (p i).b, .box cells)]) (hsp : ∀ p, Splice cells off (vs p) (cells2 p)) (hsz : ∀ p, P.cellsOf T = (vs p).length)
    (hah : i ≠ c ∧ Ahead ops c i) (hind : ∀ p p' : Pt, (∀ m, m ≠ c → Ahead ops c m → p m = p' m) → cells2 p = cells2 p') (hfn : (fnd L i).isSome = true) (huse : ∀ m ∈ L, m.src ≠ some i)
    (h : DM P w0 N ops objs K (c + 1) (⟨c, fun p => [((p i).a, (p i).b, .box (cells2 p))], some i, fun _ => True⟩ :: L) rest E) : DM P w0 N ops objs K c L (⟨none, .store T x v, T0, pos, af, none⟩ :: rest) E :=
  .makeN c L _ rest E (fun p => [((p i).a, (p i).b, .box (cells2 p))]) (some i) (fun _ => True) (fun _ => .tup []) rfl rfl (fun _ _ _ => rfl) (fun p p' h => by
    show [((p i).a, (p i).b, TObj.box (cells2 p))] = [((p' i).a, (p' i).b, TObj.box (cells2 p'))]
    rw [h i hah.2, hind p p' fun m _ ha => h m ha])
    (fun j hj => by cases hj; exact ⟨fun _ => hah.2, hfn, huse⟩) (fun p R hR => by
    have := mk_store (P := P) (w0 := w0) (env := E p) (R := R) (T0 := T0) (pos := pos) (af := af) (g := none) (hx p) (hv p) (hc p) hi (hsz p) (hsp p)
    rw [hsr p]
    have hr2 : ∀ y, cells2 (p.put c y) = cells2 p := fun y => hind _ _ fun m hne _ => Pt.put_ne hne
    simpa only [Pt.put_ne hah.1, hr2] using this) h
end
end Go.Proofs.YthpdkhejeookhaaGreatDoor
/- OptimizeBase of the reference. -/
namespace Go.Proofs.YthpdkhejeookhaaGreatDoor
set_option maxRecDepth 20000
open Go Go.RowKit
theorem TEdit.row {lo : Nat} {l : List TEdit} {i : Nat} (h : i < l.length) : (l.map (TEdit.tw lo))[i]? = some [.int .i64 l[i].code, .int .i64 l[i].at_, .int .i64 l[i].kind] := row_map h
end Go.Proofs.YthpdkhejeookhaaGreatDoor
/- EditsOf of the program: the labels, and whether an edit fits. -/
namespace Go.Proofs.YthpdkhejeookhaaGreatDoor
set_option maxRecDepth 20000
open Go Go.RowKit
/-- Some of an instruction's labels marked. -/
def labQ (op a b : Int) (l : List Bool) (q : Nat) : List Bool := (((labOff op).take q).map (labV a b)).foldl (fun l p => l.set p.toNat true) l
theorem labQ_succ {op a b : Int} {l : List Bool} {q : Nat} (h : q < (labOff op).length) : labQ op a b l (q + 1) = (labQ op a b l q).set (labV a b (labOff op)[q]).toNat true := by
  unfold labQ
  rw [List.take_add_one, List.getElem?_eq_getElem h, List.map_append, List.foldl_append]; rfl
theorem labQ_full (op a b : Int) (t : ByteArray) (l : List Bool) : labQ op a b l (labOff op).length = labS l ⟨op, a, b, t⟩ := by
  unfold labQ labS
  rw [List.take_length]
theorem labQ_len (op a b : Int) (l : List Bool) (q : Nat) : (labQ op a b l q).length = l.length := foldl_set_len _ _
section
variable {G : World → Prop}
set_option maxHeartbeats 1000000 in
theorem isLabel_ct (hst : Stable G) (lo : Nat) (bl : Bool) (pr sl : Int) (is : List TInstr) (hn : is.length ≤ 1048576) (hp : preOk is = true) : Ct Tryz.prog G 60 [.agg [.bool bl, .int .i64 pr, .int .i64 sl, .sl lo 4 (is.map (TInstr.tw lo))]] (fun K => .sl K 1 (boolR (labelsL is))) := by
  refine ct_enter Tryz.func60 rfl Tryz.ntmps60 rfl rfl fun w0 _ hG => ?_
  have hil := TInstr.len lo is
  have hbr : List.replicate (is.length + 1) [TV.bool false] = boolR (labP is 0) := by simp [boolR, labP]
  repeat' (first | ((with_reducible apply o_y); exact y_; rfl) | refine e_box ?_ | (refine e_make ?_; intro ss bb) | with_reducible refine al_none rfl ?_ | (with_reducible first | apply aw_seq | apply aw_region | apply al_nil | apply aq_then | apply aw_block))
  generalize ss = sm; generalize bb = bm
  refine aw_pick (objs' := (sm, bm, .row 1 (List.replicate (is.length + 1) [TV.bool false])) :: []) pk_ ?_
  rw [hbr]
  apply aw_loopk (X := Nat) [1, 3, 14, 15] (fun i => [(16, .int .i64 (i : Int))]) (fun i => [(sm, bm, .row 1 (boolR (labP is i)))]) (fun i => i ≤ is.length) (fun i => is.length - i) 0 (Nat.zero_le _)
  exact kp_; (repeat (first | exact Weak.envNil | refine Weak.envCons we_ ?_))
  · exact .refl _
  intro i hi
  have hll := labP_len is i
  by_cases hlt : i < is.length
  · have hri := tinstr_row (lo := lo) hlt
    have hla := lab_in hp (List.getElem_mem hlt)
    have hsn := labP_snoc hlt
    generalize is[i] = x at hri hla hsn
    obtain ⟨op, a, b, t⟩ := x
    dsimp only at hri hla
    rw [← labQ_full] at hsn
    have hq0 : labP is i = labQ op a b (labP is i) 0 := rfl
    have hqs := fun q (h : q < (labOff op).length) => labQ_succ (a := a) (b := b) (l := labP is i) h
    have hql := fun q => (labQ_len op a b (labP is i) q).trans hll
    have hlr := fun s b => labR_length op s b
    have hol := labOff_le op
    generalize labP is i = l0 at *
    repeat' (first | ((with_reducible apply o_y); exact y_; rfl) | (refine e_alloc ?_; intro ss bb) | refine e_storep ?_ | ((with_reducible apply o_callM); rfl; kernel_rfl; (repeat (first | exact ArgsM.nil | ((with_reducible apply ArgsM.cons); rfl))); exact hG; exact labelsOf_ct _ _ op a b t; exact .cons _ _ _ _ (.nil _); intro y _; obtain ⟨sl5, bl5⟩ := y; refine al_app2 ?_) | with_reducible refine al_none rfl ?_ | (with_reducible first | apply aw_seq | apply aw_region | apply al_nil | apply aq_then | apply aw_block | apply aw_skip) | (refine aw_cond_dt rfl rr_ dd_ ?_))
    generalize ss = s6; generalize bb = b6
    have hlr6 := hlr s6 b6
    clear hlr
    apply aw_loopk (X := Nat) [1, 3, 14, 15, 16, 20, 21] (fun q => [(22, .int .i64 (q : Int))]) (fun q => (sl5, bl5, .row 1 (labR op s6 b6)) :: (s6, b6, .box [.int .i64 op, .int .i64 a, .int .i64 b, .str t]) :: (sm, bm, .row 1 (boolR (labQ op a b l0 q))) :: []) (fun q => q ≤ (labOff op).length) (fun q => (labOff op).length - q) 0 (Nat.zero_le _)
    exact kp_; (repeat (first | exact Weak.envNil | refine Weak.envCons we_ ?_))
    · rw [← hq0]
      exact .refl _
    intro q hq
    have hbl := boolR_len (labQ op a b l0 q)
    have hl1 := hql q
    by_cases hqlt : q < (labOff op).length
    · have hrow := labR_get (s := s6) (b := b6) hqlt
      have hs2 := hqs q hqlt
      have hmem := labOff_mem (List.getElem_mem hqlt)
      have hin := inR_b (List.all_eq_true.1 hla _ (List.getElem_mem hqlt))
      generalize (labOff op)[q] = o at hrow hs2 hmem hin
      obtain ⟨vn, hvn⟩ : ∃ vn : Nat, labV a b o = (vn : Int) := ⟨(labV a b o).toNat, by omega⟩
      rw [hvn] at hin hs2
      rw [Int.toNat_natCast] at hs2
      have hrb := boolR_get (l := labQ op a b l0 q) (k := vn) (by omega)
      have hset := boolR_set (labQ op a b l0 q) vn true
      have hwi := within_ct (G := G) (vn : Int) 0 (is.length : Int)
      rw [inR_t (by omega)] at hwi
      rcases hmem with rfl | rfl
      all_goals
        first
          | obtain rfl : a = (vn : Int) := hvn
          | obtain rfl : b = (vn : Int) := hvn
        repeat' (first | ((with_reducible apply o_y); exact y_; rfl) | with_reducible refine aw_draw (by kernel_rfl) (by kernel_rfl) ?_ | with_reducible refine dr_nil ?_ | with_reducible refine dr_none rfl ?_ | ((with_reducible apply d_y); exact y_; rfl) | refine e_calld hG hst (hwi) ?_ | refine e_store ?_ | with_reducible refine al_none rfl ?_ | (with_reducible first | apply aw_seq | apply aw_region | apply al_nil | apply aq_then | apply aw_block | apply aw_skip | apply aq_block) | refine aw_cond_t rfl rr_ ?_ | (refine aw_cond_dt rfl rr_ dd_ ?_))
        rw [hset, ← hs2]
        exact aq_round (q + 1) (by omega) (by omega) (.of _ nw_ od_ pk_)
    · obtain rfl : q = (labOff op).length := by omega
      rw [← hsn]
      repeat' (first | ((with_reducible apply o_y); exact y_; rfl) | with_reducible refine al_none rfl ?_ | (with_reducible first | apply aw_seq | apply aw_region | apply al_nil | apply aq_then | apply aw_exit | apply aq_block_hit | apply aq_then_exit | apply aq_block) | (refine aw_cond_df rfl rr_ dd_ ?_))
      exact aq_round (i + 1) (by omega) (by omega) (.of _ nw_ od_ pk_)
  · obtain rfl : i = is.length := by omega
    repeat' (first | ((with_reducible apply o_y); exact y_; rfl) | with_reducible refine al_none rfl ?_ | (with_reducible first | apply aw_seq | apply aw_region | apply al_nil | apply aq_then | apply aw_exit | apply aw_ret | apply aq_block_hit | apply aq_then_exit) | (refine aw_cond_df rfl rr_ dd_ ?_))
    refine aq_ret1 x_ rfl (.tmp _ _ rfl) (fun _ => ?_)
    exact fin_bools hll List.mem_cons_self
theorem editFits1_ct (lo f lo2 k : Nat) (is : List TInstr) (_hn : is.length ≤ 1048576) (lab : List Bool) (hl : lab.length = is.length + 1) : Ct Tryz.prog G 140 [.int .i64 (k : Int), .cp 0 [.sl lo 4 (is.map (TInstr.tw lo))], .cp f [.sl lo2 1 (boolR lab)]] (fun _ => .int .i64 (opFr is lab k)) := by
  refine ct_enter Tryz.func140 rfl Tryz.ntmps140 rfl rfl fun w0 _ hG => ?_
  have hil := TInstr.len lo is
  have hbl := boolR_len lab
  by_cases hk : k < is.length
  · have hri := tinstr_row (lo := lo) hk
    have hrb := boolR_get (l := lab) (k := k) (by omega)
    have hof : opFr is lab k = if gb lab (k : Int) = false then is[k].op else 0 := by
      unfold opFr
      by_cases hg : gb lab (k : Int) = false
      · rw [if_pos ⟨hk, hg⟩, if_pos hg, insAt_get hk]
      · rw [if_neg (fun h => hg h.2), if_neg hg]
    rw [hof]
    generalize is[k] = x at hri ⊢
    obtain ⟨op, a, b, t⟩ := x
    dsimp only at hri ⊢
    cases hg : gb lab (k : Int) with
    | false =>
      rw [hg] at hrb
      repeat' (first | ((with_reducible apply o_y); exact y_; rfl) | with_reducible refine al_none rfl ?_ | (with_reducible first | apply aw_seq | apply aw_region | apply al_nil | apply aq_then | apply aw_ret | apply aq_then_ret) | refine al_run rfl rfl rfl rr_ ?_ | (refine al_gt rfl rfl rfl rr_ dd_ ?_) | refine aw_cond_t rfl rr_ ?_)
      refine aq_ret1 x_ rfl (.tmp _ _ rfl) (fun _ => ?_)
      exact Fin.flat rfl
    | true =>
      rw [hg] at hrb
      repeat' (first | ((with_reducible apply o_y); exact y_; rfl) | with_reducible refine al_none rfl ?_ | (with_reducible first | apply aw_seq | apply aw_region | apply al_nil | apply aq_then | apply aw_skip | apply aw_ret) | refine al_run rfl rfl rfl rr_ ?_ | (refine al_gt rfl rfl rfl rr_ dd_ ?_) | refine aw_cond_f rfl rr_ ?_)
      refine aq_ret1 x_ rfl (.tmp _ _ rfl) (fun _ => ?_)
      exact Fin.flat rfl
  · have hof : opFr is lab k = 0 := by
      unfold opFr
      rw [if_neg (fun h => hk h.1)]
    rw [hof]
    repeat' (first | ((with_reducible apply o_y); exact y_; rfl) | with_reducible refine al_none rfl ?_ | (with_reducible first | apply aw_seq | apply aw_region | apply al_nil | apply aq_then | apply aw_skip | apply aw_ret) | refine al_skip rfl rfl rfl rr_ rfl rfl rfl ?_ | (refine al_gf rfl rfl rfl rr_ dd_ ?_) | refine aw_cond_f rfl rr_ ?_)
    refine aq_ret1 x_ rfl (.tmp _ _ rfl) (fun _ => ?_)
    exact Fin.flat rfl
end
end Go.Proofs.YthpdkhejeookhaaGreatDoor
