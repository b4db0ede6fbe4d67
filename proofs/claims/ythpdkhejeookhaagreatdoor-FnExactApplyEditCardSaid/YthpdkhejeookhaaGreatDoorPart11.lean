/- Part 11 of the proof: the texts IvI, IvJ, IvU, EdC, ApA, EngAB. -/
import Derived.Test.YthpdkhejeookhaaGreatDoorPart6
import Derived.Test.YthpdkhejeookhaaGreatDoorPart9
import Derived.Test.YthpdkhejeookhaaGreatDoorPart5
import Derived.Test.YthpdkhejeookhaaGreatDoorPart10
/- IsVerified: the entries, on the side of the reference (l16Entries). -/
namespace Go.Proofs.YthpdkhejeookhaaGreatDoor
set_option maxRecDepth 20000
open Go Go.RowKit
section
variable {G : World → Prop}
set_option maxRecDepth 4000 in
set_option maxHeartbeats 4000000 in
theorem l16Entries_ct (hst : Stable G) (hse : ∀ s : ByteArray, s.size ≤ 1048576 → Ct Tryz.prog G 182 [.str s] (fun _ => .bool (isSelL s.data.toList))) (hca : ∀ s : ByteArray, s.size ≤ 1048576 → Ct Tryz.prog G 183 [.str s] (fun _ => .int .i64 (nArgsL s.data.toList)))
    (f lo : Nat) (cl : List TClassInfo) (cs : List TCode) (es : List TEntry) (mn : Int) (hcl : cl.length ≤ 1048576) (hcs : cs.length ≤ 1048576) (hes : es.length ≤ 1048576 ∧ ∀ y ∈ es, TEntry.small 1048576 y) :
    Ct Tryz.prog G 107 [.cp f [.sl lo 3 (cl.map (TClassInfo.tw lo)), .sl lo 4 (cs.map (TCode.tw lo)), .sl lo 4 (es.map (TEntry.tw lo)), .int .i64 mn]] (fun _ => .bool (entriesB cl.length cs es)) := by
  refine ct_enter Tryz.func107 rfl Tryz.ntmps107 rfl rfl fun w0 _ hG => ?_
  have hl1 := TClassInfo.len lo cl
  have hl2 := TCode.len lo cs
  have hl3 := TEntry.len lo es
  have hel := hes.1
  repeat' (first | ((with_reducible apply o_y); exact y_; rfl) | with_reducible refine al_none rfl ?_ | (with_reducible first | apply aw_seq | apply aw_region | apply al_nil | apply aq_then | apply aw_block))
  apply aw_loopk (X := Nat) [0] (fun i => [(3, .int .i64 (i : Int))]) (fun _ => []) (fun i => i ≤ es.length ∧ ∀ j, j < i → ∀ h : j < es.length, entryOk cl.length cs es[j] ∧ newEntry es j es[j]) (fun i => es.length - i) 0 ⟨Nat.zero_le _, by omega⟩
  exact kp_; (repeat (first | exact Weak.envNil | refine Weak.envCons we_ ?_))
  · exact .nil _
  rintro i ⟨hi, hk⟩
  try dsimp only
  by_cases hlt : i < es.length
  · have hra := tentry_row (lo := lo) hlt
    have hsm := hes.2 _ (List.getElem_mem hlt)
    have hbad : ¬ (entryOk cl.length cs es[i] ∧ newEntry es i es[i]) → entriesB cl.length cs es = false := entriesB_bad hlt
    have hks : entryOk cl.length cs es[i] ∧ newEntry es i es[i] → ∀ j, j < i + 1 → ∀ h : j < es.length, entryOk cl.length cs es[j] ∧ newEntry es j es[j] := fun ho => below_succ hk fun _ => ho
    generalize es[i] = e at hra hsm hbad hks
    obtain ⟨ow, ec, sel, cd⟩ := e
    dsimp only at hra
    have hss : sel.size ≤ 1048576 := hsm
    have c1 := hse sel hss
    have c2 := hca sel hss
    have c3 := l1In_ct (G := G) ow 16 ((cl.length : Int) - 1)
    have c4 := l1In_ct (G := G) cd 0 ((cs.length : Int) - 1)
    by_cases h1 : isSelL sel.data.toList = true
    case neg =>
      rw [hbad fun h => h1 h.1.1.1]
      rw [Bool.eq_false_iff.2 h1] at c1
      repeat' (first | ((with_reducible apply o_y); exact y_; rfl) | (refine e_alloc ?_; intro ss bb) | refine e_storep ?_ | with_reducible refine aw_draw (by kernel_rfl) (by kernel_rfl) ?_ | with_reducible refine dr_nil ?_ | with_reducible refine dr_none rfl ?_ | refine dr_skip rfl rfl rfl rr_ rfl rfl rfl ?_ | ((with_reducible apply d_y); exact y_; rfl) | refine e_calld hG hst (c1) ?_ | with_reducible refine al_none rfl ?_ | (with_reducible first | apply aw_seq | apply aw_region | apply al_nil | apply aq_then | apply aw_block | apply aw_skip | apply aw_ret | apply aq_then_ret | apply aq_block_ret) | refine aw_cond_t rfl rr_ ?_ | (refine aw_cond_dt rfl rr_ dd_ ?_))
      refine aq_ret1 x_ rfl (.tmp _ _ rfl) (fun _ => ?_)
      exact Fin.flat rfl
    by_cases h2 : inR ow 16 ((cl.length : Int) - 1) = true
    case neg =>
      rw [hbad fun h => h2 h.1.1.2.1]
      rw [h1] at c1
      rw [Bool.eq_false_iff.2 h2] at c3
      repeat' (first | ((with_reducible apply o_y); exact y_; rfl) | (refine e_alloc ?_; intro ss bb) | refine e_storep ?_ | with_reducible refine aw_draw (by kernel_rfl) (by kernel_rfl) ?_ | with_reducible refine dr_nil ?_ | with_reducible refine dr_none rfl ?_ | refine dr_run rfl rfl rfl rr_ ?_ | refine dr_skip rfl rfl rfl rr_ rfl rfl rfl ?_ | ((with_reducible apply d_y); exact y_; rfl) | refine e_calld hG hst (c1) ?_ | refine e_calld hG hst (c3) ?_ | with_reducible refine al_none rfl ?_ | (with_reducible first | apply aw_seq | apply aw_region | apply al_nil | apply aq_then | apply aw_block | apply aw_skip | apply aw_ret | apply aq_then_ret | apply aq_block_ret) | refine aw_cond_t rfl rr_ ?_ | (refine aw_cond_dt rfl rr_ dd_ ?_))
      refine aq_ret1 x_ rfl (.tmp _ _ rfl) (fun _ => ?_)
      exact Fin.flat rfl
    by_cases h3 : inR cd 0 ((cs.length : Int) - 1) = true
    case neg =>
      rw [hbad fun h => h3 h.1.1.2.2]
      rw [h1] at c1
      rw [h2] at c3
      rw [Bool.eq_false_iff.2 h3] at c4
      repeat' (first | ((with_reducible apply o_y); exact y_; rfl) | (refine e_alloc ?_; intro ss bb) | refine e_storep ?_ | with_reducible refine aw_draw (by kernel_rfl) (by kernel_rfl) ?_ | with_reducible refine dr_nil ?_ | with_reducible refine dr_none rfl ?_ | refine dr_run rfl rfl rfl rr_ ?_ | refine dr_skip rfl rfl rfl rr_ rfl rfl rfl ?_ | ((with_reducible apply d_y); exact y_; rfl) | refine e_calld hG hst (c1) ?_ | refine e_calld hG hst (c3) ?_ | refine e_calld hG hst (c4) ?_ | with_reducible refine al_none rfl ?_ | (with_reducible first | apply aw_seq | apply aw_region | apply al_nil | apply aq_then | apply aw_block | apply aw_skip | apply aw_ret | apply aq_then_ret | apply aq_block_ret) | refine aw_cond_t rfl rr_ ?_ | (refine aw_cond_dt rfl rr_ dd_ ?_))
      refine aq_ret1 x_ rfl (.tmp _ _ rfl) (fun _ => ?_)
      exact Fin.flat rfl
    have h3' := of_decide_eq_true h3
    obtain ⟨q, rfl⟩ : ∃ q : Nat, cd = q := ⟨cd.toNat, by omega⟩
    have hql : q < cs.length := by omega
    have hrq := tcode_row (lo := lo) hql
    have hpl := plainAt_iff (n := nArgsL sel.data.toList) rfl (List.getElem?_eq_getElem hql)
    generalize cs[q] = y at hrq hpl
    obtain ⟨yb, yp, ys, yi⟩ := y
    dsimp only at hrq hpl
    rw [h1] at c1
    rw [h2] at c3
    rw [h3, show (cs.length : Int) - 1 = ((cs.length - 1 : Nat) : Int) by omega] at c4
    cases yb
    case true =>
      rw [hbad fun h => by have := hpl.1 h.1.2; cases this.1]
      repeat' (first | ((with_reducible apply o_y); exact y_; rfl) | (refine e_alloc ?_; intro ss bb) | refine e_storep ?_ | with_reducible refine aw_draw (by kernel_rfl) (by kernel_rfl) ?_ | with_reducible refine dr_nil ?_ | with_reducible refine dr_none rfl ?_ | refine dr_run rfl rfl rfl rr_ ?_ | refine dr_skip rfl rfl rfl rr_ rfl rfl rfl ?_ | ((with_reducible apply d_y); exact y_; rfl) | refine e_calld hG hst (c1) ?_ | refine e_calld hG hst (c3) ?_ | refine e_calld hG hst (c4) ?_ | with_reducible refine al_none rfl ?_ | (with_reducible first | apply aw_seq | apply aw_region | apply al_nil | apply aq_then | apply aw_block | apply aw_skip | apply aw_ret | apply aq_then_ret | apply aq_block_ret) | refine aw_cond_t rfl rr_ ?_ | (refine aw_cond_dt rfl rr_ dd_ ?_))
      refine aq_ret1 x_ rfl (.tmp _ _ rfl) (fun _ => ?_)
      exact Fin.flat rfl
    by_cases h5 : yp = nArgsL sel.data.toList
    case neg =>
      rw [hbad fun h => by have := hpl.1 h.1.2; exact h5 this.2]
      repeat' (first | ((with_reducible apply o_y); exact y_; rfl) | (refine e_alloc ?_; intro ss bb) | refine e_storep ?_ | with_reducible refine aw_draw (by kernel_rfl) (by kernel_rfl) ?_ | with_reducible refine dr_nil ?_ | with_reducible refine dr_none rfl ?_ | refine dr_run rfl rfl rfl rr_ ?_ | ((with_reducible apply d_y); exact y_; rfl) | refine e_calld hG hst (c1) ?_ | refine e_calld hG hst (c3) ?_ | refine e_calld hG hst (c4) ?_ | refine e_calld hG hst (c2) ?_ | with_reducible refine al_none rfl ?_ | (with_reducible first | apply aw_seq | apply aw_region | apply al_nil | apply aq_then | apply aw_block | apply aw_skip | apply aw_ret | apply aq_then_ret | apply aq_block_ret) | (refine aw_cond_dt rfl rr_ dd_ ?_))
      refine aq_ret1 x_ rfl (.tmp _ _ rfl) (fun _ => ?_)
      exact Fin.flat rfl
    have h5' : ¬ yp ≠ nArgsL sel.data.toList := fun h => h h5
    repeat' (first | ((with_reducible apply o_y); exact y_; rfl) | (refine e_alloc ?_; intro ss bb) | refine e_storep ?_ | with_reducible refine aw_draw (by kernel_rfl) (by kernel_rfl) ?_ | with_reducible refine dr_nil ?_ | with_reducible refine dr_none rfl ?_ | refine dr_run rfl rfl rfl rr_ ?_ | ((with_reducible apply d_y); exact y_; rfl) | refine e_calld hG hst (c1) ?_ | refine e_calld hG hst (c3) ?_ | refine e_calld hG hst (c4) ?_ | refine e_calld hG hst (c2) ?_ | with_reducible refine al_none rfl ?_ | (with_reducible first | apply aw_seq | apply aw_region | apply al_nil | apply aq_then | apply aw_block | apply aw_skip) | (refine aw_cond_dt rfl rr_ dd_ ?_) | (refine aw_cond_df rfl rr_ dd_ ?_))
    apply aw_loopk (X := Nat) [0, 3, 4] (fun k => [(5, .int .i64 (k : Int))]) (fun _ => [(ss, bb, .box [.int .i64 ow, .bool ec, .str sel, .int .i64 (q : Int)])]) (fun k => k ≤ i ∧ ∀ y ∈ es.take k, ¬ sameEntry ⟨ow, ec, sel, q⟩ y) (fun k => i - k) 0 ⟨Nat.zero_le _, by simp⟩
    exact kp_; (repeat (first | exact Weak.envNil | refine Weak.envCons we_ ?_))
    · exact .refl _
    rintro k ⟨hki, hkn⟩
    try dsimp only
    by_cases hlk : k < i
    · have hlk2 : k < es.length := by omega
      have hrk := tentry_row (lo := lo) hlk2
      have hta := take_all (p := fun y => ¬ sameEntry ⟨ow, ec, sel, q⟩ y) hlk2 hkn
      have hmem : es[k] ∈ es.take i := List.mem_take_iff_getElem.2 ⟨k, by omega, rfl⟩
      generalize es[k] = z at hrk hta hmem
      obtain ⟨zo, zc, zs, zd⟩ := z
      dsimp only at hrk
      by_cases hz : sameEntry ⟨ow, ec, sel, q⟩ ⟨zo, zc, zs, zd⟩
      · rw [hbad fun h => h.2 _ hmem hz]
        obtain ⟨z1, z2, z3⟩ := hz
        dsimp only at z1 z2 z3
        have z4 : (zc == ec) = true := by rw [z2]; simp
        repeat' (first | ((with_reducible apply o_y); exact y_; rfl) | with_reducible refine aw_draw (by kernel_rfl) (by kernel_rfl) ?_ | with_reducible refine dr_nil ?_ | with_reducible refine dr_none rfl ?_ | refine dr_run rfl rfl rfl rr_ ?_ | (refine dr_gt rfl rfl rfl rr_ dd_ ?_) | ((with_reducible apply d_y); exact y_; rfl) | with_reducible refine al_none rfl ?_ | (with_reducible first | apply aw_seq | apply aw_region | apply al_nil | apply aq_then | apply aw_block | apply aw_skip | apply aw_ret | apply aq_then_ret | apply aq_block_ret | apply aq_block) | (refine aw_cond_dt rfl rr_ dd_ ?_) | (refine aw_cond_b rfl rr_ (fun hc => ?_) (fun hc => ?_)))
        all_goals first
          | (exfalso; simp_all; done)
          | (refine aq_ret1 x_ rfl (.tmp _ _ rfl) (fun _ => ?_)
             exact Fin.flat rfl)
      · have hnx := hta hz
        unfold sameEntry at hz
        dsimp only at hz
        repeat' (first | ((with_reducible apply o_y); exact y_; rfl) | with_reducible refine aw_draw (by kernel_rfl) (by kernel_rfl) ?_ | with_reducible refine dr_nil ?_ | with_reducible refine dr_none rfl ?_ | refine dr_run rfl rfl rfl rr_ ?_ | refine dr_skip rfl rfl rfl rr_ rfl rfl rfl ?_ | (refine dr_gsplit rfl rfl rfl rr_ (fun hg => ?_) (fun hg => ?_)) | ((with_reducible apply d_y); exact y_; rfl) | with_reducible refine al_none rfl ?_ | (with_reducible first | apply aw_seq | apply aw_region | apply al_nil | apply aq_then | apply aw_block | apply aw_skip | apply aw_ret | apply aq_then_ret | apply aq_block_ret | apply aq_block) | refine aw_cond_f rfl rr_ ?_ | (refine aw_cond_dt rfl rr_ dd_ ?_) | (refine aw_cond_b rfl rr_ (fun hc => ?_) (fun hc => ?_)))
        all_goals first
          | exact aq_round (k + 1) ⟨by omega, hnx⟩ (by omega) (.of _ nw_ od_ pk_)
          | (exfalso; simp_all; done)
    · obtain rfl : k = i := by omega
      repeat' (first | ((with_reducible apply o_y); exact y_; rfl) | with_reducible refine al_none rfl ?_ | (with_reducible first | apply aw_seq | apply aw_region | apply al_nil | apply aq_then | apply aw_exit | apply aq_block_hit | apply aq_then_exit | apply aq_block) | (refine aw_cond_df rfl rr_ dd_ ?_))
      exact aq_round (k + 1) ⟨by omega, hks ⟨⟨⟨h1, h2, h3⟩, hpl.2 ⟨rfl, h5⟩⟩, hkn⟩⟩ (by omega) (.of _ nw_ od_ (Pick.nil _))
  · rw [entriesB_good fun j hj => hk j (by omega)]
    repeat' (first | ((with_reducible apply o_y); exact y_; rfl) | with_reducible refine al_none rfl ?_ | (with_reducible first | apply aw_seq | apply aw_region | apply al_nil | apply aq_then | apply aw_exit | apply aw_ret | apply aq_block_hit | apply aq_then_exit) | (refine aw_cond_df rfl rr_ dd_ ?_))
    refine aq_ret1 x_ rfl (.tmp _ _ rfl) (fun _ => ?_)
    exact Fin.flat rfl
end
end Go.Proofs.YthpdkhejeookhaaGreatDoor
/- IsVerified: the codes around each code, on the side of the reference (l16Outer). -/
namespace Go.Proofs.YthpdkhejeookhaaGreatDoor
set_option maxRecDepth 20000
open Go Go.RowKit
/-- What both sides give back of the outer codes. -/
noncomputable def outR (cs : List TCode) (K : Nat) : TV := .tup [.sl K 1 (intR ((outersL cs).getD [])), .bool (outersL cs).isSome]
theorem fin_none {B L : Nat} {objs : Objs} {r : Option (List Int)} (h : r = none) : Fin B objs L .nils (.sl L 1 (intR (r.getD []))) := by subst h; exact .nils 1
theorem fin_none_b {B L : Nat} {objs : Objs} {r : Option (List Int)} (h : r = none) : Fin B objs L (.bool false) (.bool r.isSome) := by subst h; exact .bool false
theorem fin_some {B L s b n : Nat} {objs : Objs} {r : Option (List Int)} {o : List Int} (h : r = some o) (hn : o.length = n) (hm : (s, b, TObj.row 1 (intR o)) ∈ objs) : Fin B objs L (.ms s b 0 n) (.sl L 1 (intR (r.getD []))) := by
  subst h; subst hn
  have hl := intR_length o
  exact Fin.msFlat hm (by omega) (by rw [List.drop_zero, List.take_of_length_le (by omega)]; rfl) (intR_flat o)
theorem fin_some_b {B L : Nat} {objs : Objs} {r : Option (List Int)} {o : List Int} (h : r = some o) : Fin B objs L (.bool true) (.bool r.isSome) := by subst h; exact .bool true
section
variable {G : World → Prop}
set_option maxRecDepth 4000 in
set_option maxHeartbeats 4000000 in
theorem l16Outer_ct (hst : Stable G) (f lo : Nat) (ccl cen : TV) (cs : List TCode) (mn : Int) (hcs : cs.length ≤ 1048576 ∧ ∀ y ∈ cs, TCode.small 1048576 y) :
    Ct Tryz.prog G 108 [.cp f [ccl, .sl lo 4 (cs.map (TCode.tw lo)), cen, .int .i64 mn]] (outR cs) := by
  refine ct_enter Tryz.func108 rfl Tryz.ntmps108 rfl rfl fun w0 _ hG => ?_
  have hl2 := TCode.len lo cs
  have hcl := hcs.1
  have h0 : (List.replicate cs.length [TV.int .i64 0]) = intR (fillD cs.length 0) := by simp [fillD, intR]
  repeat' (first | ((with_reducible apply o_y); exact y_; rfl) | (refine e_make ?_; intro ss bb) | with_reducible refine al_none rfl ?_ | (with_reducible first | apply aw_seq | apply aw_region | apply al_nil | apply aq_then | apply aw_block))
  generalize ss = sd; generalize bb = bd
  apply aw_loopk (X := Nat) [0, 4] (fun i => [(5, .int .i64 (i : Int))]) (fun i => [(sd, bd, .row 1 (intR (fillD cs.length i)))]) (fun i => i ≤ cs.length) (fun i => cs.length - i) 0 (Nat.zero_le _)
  exact kp_; (repeat (first | exact Weak.envNil | refine Weak.envCons we_ ?_))
  · rw [← h0]; exact .refl _
  intro i hi
  try dsimp only at hi ⊢
  by_cases hlt : i < cs.length
  · obtain ⟨hrow, hset⟩ := fillD_step hlt
    repeat' (first | ((with_reducible apply o_y); exact y_; rfl) | refine e_store ?_ | with_reducible refine al_none rfl ?_ | (with_reducible first | apply aw_seq | apply aw_region | apply al_nil | apply aq_then | apply aw_block | apply aw_skip | apply aq_block) | (refine aw_cond_dt rfl rr_ dd_ ?_))
    rw [hset]
    refine aq_round (i + 1) (by omega) (by omega) (.of _ nw_ od_ (.refl _))
  · obtain rfl : i = cs.length := by omega
    clear hlt hi
    have hfull : fillD cs.length cs.length = List.replicate cs.length (-1) := by simp [fillD]
    rw [hfull]
    have hst0 : outFrom cs 0 (List.replicate cs.length (-1)) = outersL cs := rfl
    have hin0 := outInv_zero cs.length
    unfold outR
    generalize outersL cs = R at hst0
    generalize List.replicate cs.length (-1 : Int) = o0 at hst0 hin0
    repeat' (first | ((with_reducible apply o_y); exact y_; rfl) | with_reducible refine al_none rfl ?_ | (with_reducible first | apply aw_seq | apply aw_region | apply al_nil | apply aq_then | apply aw_block | apply aw_exit | apply aq_block_hit | apply aq_then_exit) | (refine aw_cond_df rfl rr_ dd_ ?_))
    apply aw_loopk (X := Nat × List Int) [0, 4] (fun x => [(6, .int .i64 (x.1 : Int))]) (fun x => [(sd, bd, .row 1 (intR x.2))]) (fun x => x.1 ≤ cs.length ∧ outInv cs.length x.2 ∧ outFrom cs x.1 x.2 = R) (fun x => cs.length - x.1) (0, o0) ⟨Nat.zero_le _, hin0, hst0⟩
    exact kp_; (repeat (first | exact Weak.envNil | refine Weak.envCons we_ ?_))
    · exact .refl _
    clear hin0 hst0
    rintro ⟨i, o⟩ ⟨hi, hin, hR⟩
    dsimp only at hi hin hR ⊢
    have hol : (intR o).length = cs.length := by rw [intR_length]; exact hin.1
    by_cases hlt : i < cs.length
    · have hra := tcode_row (lo := lo) hlt
      have hsm := hcs.2 _ (List.getElem_mem hlt)
      rw [outFrom_step hlt] at hR
      generalize cs[i] = c at hra hsm hR
      obtain ⟨cb, cp, csl, is⟩ := c
      dsimp only at hra hR
      have hil := TInstr.len lo is
      have hisl : is.length ≤ 1048576 := hsm.1
      repeat' (first | ((with_reducible apply o_y); exact y_; rfl) | with_reducible refine al_none rfl ?_ | (with_reducible first | apply aw_seq | apply aw_region | apply al_nil | apply aq_then | apply aw_block | apply aw_skip) | (refine aw_cond_dt rfl rr_ dd_ ?_))
      apply aw_loopk (X := Nat × List Int) [0, 4, 6] (fun x => [(7, .int .i64 (x.1 : Int))]) (fun x => [(sd, bd, .row 1 (intR x.2))]) (fun x => x.1 ≤ is.length ∧ outInv cs.length x.2 ∧ outRest cs i (is.drop x.1) x.2 = R) (fun x => is.length - x.1) (0, o) ⟨Nat.zero_le _, hin, hR⟩
      exact kp_; (repeat (first | exact Weak.envNil | refine Weak.envCons we_ ?_))
      · exact .refl _
      clear hin hR hol
      rintro ⟨k, o⟩ ⟨hk, hin, hR⟩
      dsimp only at hk hin hR ⊢
      have hol : (intR o).length = cs.length := by rw [intR_length]; exact hin.1
      by_cases hlk : k < is.length
      · have hrk := tinstr_row (lo := lo) hlk
        rw [outRest_step hlk] at hR
        generalize is[k] = x at hrk hR
        obtain ⟨op, a, b, t⟩ := x
        unfold outI at hR
        dsimp only at hrk hR
        by_cases h15 : op = 15
        · rw [if_pos h15] at hR
          have h15' : ¬ op ≠ 15 := fun h => h h15
          by_cases hin2 : 0 ≤ a ∧ a ≤ (i : Int) - 1
          · have cin := l1In_ct (G := G) a 0 ((i - 1 : Nat) : Int)
            rw [inR_t (by omega)] at cin
            obtain ⟨q, rfl⟩ : ∃ q : Nat, a = q := ⟨a.toNat, by omega⟩
            have hql : q < o.length := by rw [hin.1]; omega
            have hrq := intR_gd hql
            have hqc : q < cs.length := by omega
            by_cases hg : 0 ≤ gd o (q : Int)
            · rw [if_neg fun h => h.2 hg] at hR
              repeat' (first | ((with_reducible apply o_y); exact y_; rfl) | (refine e_alloc ?_; intro ss bb) | refine e_storep ?_ | refine e_call hG hst (cin) ?_ | with_reducible refine al_none rfl ?_ | (with_reducible first | apply aw_seq | apply aw_region | apply al_nil | apply aq_then | apply aw_block | apply aw_skip | apply aw_ret | apply aq_then_ret | apply aq_block_ret) | refine al_run rfl rfl rfl rr_ ?_ | (refine aw_cond_dt rfl rr_ dd_ ?_) | (refine aw_cond_df rfl rr_ dd_ ?_))
              refine aq_ret2 x_ rfl (.tmp _ _ rfl) (.tmp _ _ rfl) (fun _ => ?_) (fun _ => ?_)
              · exact fin_none hR.symm
              · exact fin_none_b hR.symm
            · rw [if_pos ⟨hin2, hg⟩, Int.toNat_natCast] at hR
              dsimp only at hR
              have hset := intR_set o q (i : Int)
              have hin3 := (outI_inv (n := cs.length) (i := i) (x := ⟨15, q, b, t⟩) (o := o) (o' := o.set q (i : Int)) hlt (by unfold outI; rw [if_pos rfl, if_pos ⟨hin2, hg⟩, Int.toNat_natCast]) hin).1
              repeat' (first | ((with_reducible apply o_y); exact y_; rfl) | (refine e_alloc ?_; intro ss bb) | refine e_storep ?_ | refine e_call hG hst (cin) ?_ | refine e_store ?_ | with_reducible refine al_none rfl ?_ | (with_reducible first | apply aw_seq | apply aw_region | apply al_nil | apply aq_then | apply aw_block | apply aw_skip | apply aq_block) | refine al_run rfl rfl rfl rr_ ?_ | (refine aw_cond_dt rfl rr_ dd_ ?_) | (refine aw_cond_df rfl rr_ dd_ ?_))
              rw [hset]
              refine aq_round (k + 1, o.set q (i : Int)) ⟨by dsimp only; omega, hin3, hR⟩ (by dsimp only; omega) (.of _ nw_ od_ pk_)
          · have cin := l1In_ct (G := G) a 0 ((i : Int) - 1)
            have cin' := l1In_ct (G := G) a 0 ((i - 1 : Nat) : Int)
            rw [inR_f hin2] at cin
            rw [if_neg fun h => hin2 h.1] at hR
            repeat' (first | ((with_reducible apply o_y); exact y_; rfl) | (refine e_alloc ?_; intro ss bb) | refine e_storep ?_ | refine e_call hG hst (cin) ?_ | with_reducible refine al_none rfl ?_ | (with_reducible first | apply aw_seq | apply aw_region | apply al_nil | apply aq_then | apply aw_block | apply aw_skip | apply aw_ret | apply aq_then_ret | apply aq_block_ret) | refine al_skip rfl rfl rfl rr_ rfl rfl rfl ?_ | refine aw_cond_t rfl rr_ ?_ | (refine aw_cond_dt rfl rr_ dd_ ?_) | (refine aw_cond_df rfl rr_ dd_ ?_))
            refine aq_ret2 x_ rfl (.tmp _ _ rfl) (.tmp _ _ rfl) (fun _ => ?_) (fun _ => ?_)
            · exact fin_none hR.symm
            · exact fin_none_b hR.symm
        · rw [if_neg h15] at hR
          dsimp only at hR
          repeat' (first | ((with_reducible apply o_y); exact y_; rfl) | (refine e_alloc ?_; intro ss bb) | refine e_storep ?_ | with_reducible refine al_none rfl ?_ | (with_reducible first | apply aw_seq | apply aw_region | apply al_nil | apply aq_then | apply aw_block | apply aw_exit | apply aw_skip | apply aq_block_hit | apply aq_then_exit) | (refine aw_cond_dt rfl rr_ dd_ ?_))
          refine aq_round (k + 1, o) ⟨by dsimp only; omega, hin, hR⟩ (by dsimp only; omega) (.of _ nw_ od_ pk_)
      · rw [outRest_end hlk] at hR
        repeat' (first | ((with_reducible apply o_y); exact y_; rfl) | with_reducible refine al_none rfl ?_ | (with_reducible first | apply aw_seq | apply aw_region | apply al_nil | apply aq_then | apply aw_exit | apply aq_block_hit | apply aq_then_exit | apply aq_block) | (refine aw_cond_df rfl rr_ dd_ ?_))
        refine aq_round (i + 1, o) ⟨by dsimp only; omega, hin, hR⟩ (by dsimp only; omega) (.of _ nw_ od_ pk_)
    · rw [outFrom_end hlt] at hR
      repeat' (first | ((with_reducible apply o_y); exact y_; rfl) | with_reducible refine al_none rfl ?_ | (with_reducible first | apply aw_seq | apply aw_region | apply al_nil | apply aq_then | apply aw_block | apply aw_exit | apply aq_block_hit | apply aq_then_exit) | (refine aw_cond_df rfl rr_ dd_ ?_))
      apply aw_loopk (X := Nat) [0, 4] (fun j => [(9, .int .i64 (j : Int))]) (fun _ => [(sd, bd, .row 1 (intR o))]) (fun j => j ≤ cs.length ∧ ∀ q, q < j → ∀ h : q < cs.length, cs[q].block = decide (0 ≤ gd o (q : Int))) (fun j => cs.length - j) 0 ⟨Nat.zero_le _, by omega⟩
      exact kp_; (repeat (first | exact Weak.envNil | refine Weak.envCons we_ ?_))
      · exact .refl _
      rintro j ⟨hj, hja⟩
      try dsimp only
      by_cases hlj : j < cs.length
      · have hra := tcode_row (lo := lo) hlj
        have hrj := intR_gd (o := o) (j := j) (by rw [hin.1]; exact hlj)
        have hbad := outFin_bad (o := o) hlj
        have hnx : cs[j].block = decide (0 ≤ gd o (j : Int)) → ∀ q, q < j + 1 → ∀ h : q < cs.length, cs[q].block = decide (0 ≤ gd o (q : Int)) := fun ho => below_succ hja fun _ => ho
        generalize cs[j] = c at hra hbad hnx
        obtain ⟨cb, cp, csl, is⟩ := c
        dsimp only at hra hbad hnx
        generalize gd o (j : Int) = v at hrj hbad hnx
        by_cases hb : cb = decide (0 ≤ v)
        · repeat' (first | ((with_reducible apply o_y); exact y_; rfl) | with_reducible refine aw_draw (by kernel_rfl) (by kernel_rfl) ?_ | with_reducible refine dr_nil ?_ | with_reducible refine dr_none rfl ?_ | ((with_reducible apply d_y); exact y_; rfl) | with_reducible refine al_none rfl ?_ | (with_reducible first | apply aw_seq | apply aw_region | apply al_nil | apply aq_then | apply aw_block | apply aw_skip | apply aw_ret | apply aq_then_ret | apply aq_block_ret | apply aq_block) | (refine aw_cond_dt rfl rr_ dd_ ?_) | (refine aw_cond_b rfl rr_ (fun hc => ?_) (fun hc => ?_)))
          all_goals first
            | exact aq_round (j + 1) ⟨by omega, hnx hb⟩ (by omega) (.of _ nw_ od_ pk_)
            | (exfalso; simp_all; done)
        · rw [hbad hb] at hR
          repeat' (first | ((with_reducible apply o_y); exact y_; rfl) | with_reducible refine aw_draw (by kernel_rfl) (by kernel_rfl) ?_ | with_reducible refine dr_nil ?_ | with_reducible refine dr_none rfl ?_ | ((with_reducible apply d_y); exact y_; rfl) | with_reducible refine al_none rfl ?_ | (with_reducible first | apply aw_seq | apply aw_region | apply al_nil | apply aq_then | apply aw_block | apply aw_skip | apply aw_ret | apply aq_then_ret | apply aq_block_ret | apply aq_block) | (refine aw_cond_dt rfl rr_ dd_ ?_) | (refine aw_cond_b rfl rr_ (fun hc => ?_) (fun hc => ?_)))
          all_goals first
            | (exfalso; simp_all; done)
            | (refine aq_ret2 x_ rfl (.tmp _ _ rfl) (.tmp _ _ rfl) (fun _ => ?_) (fun _ => ?_)
               · exact fin_none hR.symm
               · exact fin_none_b hR.symm)
      · rw [outFin_good fun q hq => hja q (by omega)] at hR
        repeat' (first | ((with_reducible apply o_y); exact y_; rfl) | with_reducible refine al_none rfl ?_ | (with_reducible first | apply aw_seq | apply aw_region | apply al_nil | apply aq_then | apply aw_exit | apply aw_ret | apply aq_block_hit | apply aq_then_exit) | (refine aw_cond_df rfl rr_ dd_ ?_))
        refine aq_ret2 x_ rfl (.tmp _ _ rfl) (.tmp _ _ rfl) (fun _ => ?_) (fun _ => ?_)
        · exact fin_some hR.symm hin.1 List.mem_cons_self
        · exact fin_some_b hR.symm
end
end Go.Proofs.YthpdkhejeookhaaGreatDoor
/- IsVerified of the reference (l16Verified, IsVerified). -/
namespace Go.Proofs.YthpdkhejeookhaaGreatDoor
set_option maxRecDepth 20000
open Go Go.RowKit
set_option maxRecDepth 8000 in
set_option maxHeartbeats 8000000 in
theorem l16Verified_ct (f lo : Nat) (cl : List TClassInfo) (es : List TEntry) (cs : List TCode) (mn : Int) (hcl : cl.length ≤ 1048576 ∧ ∀ y ∈ cl, TClassInfo.small 1048576 y) (hcs : cs.length ≤ 1048576 ∧ ∀ y ∈ cs, TCode.small 1048576 y) (hes : es.length ≤ 1048576 ∧ ∀ y ∈ es, TEntry.small 1048576 y) :
    Ct Tryz.prog GL 32 [.cp f [.sl lo 3 (cl.map (TClassInfo.tw lo)), .sl lo 4 (cs.map (TCode.tw lo)), .sl lo 4 (es.map (TEntry.tw lo)), .int .i64 mn]] (fun _ => .bool (verifiedB ⟨cl, cs, es, mn⟩)) := by
  refine ct_enter Tryz.func32 rfl Tryz.ntmps32 rfl rfl fun w0 _ hG => ?_
  have hst := GL_st
  have hvF := verified_f (x := ⟨cl, cs, es, mn⟩)
  have hvT := verified_t (x := ⟨cl, cs, es, mn⟩)
  unfold verifiedP mainOk outerOk at hvF hvT
  dsimp only at hvF hvT
  generalize verifiedB ⟨cl, cs, es, mn⟩ = V at hvF hvT ⊢
  have hl1 := TClassInfo.len lo cl
  have hl2 := TCode.len lo cs
  have hl3 := TEntry.len lo es
  have hcsl := hcs.1
  have c1 := l8IsClasses_ct hst lo cl hcl
  have c3 := l1In_ct (G := GL) mn 0 ((cs.length : Int) - 1)
  have c5 := l16Entries_ct hst hseS hcaS f lo cl cs es mn hcl.1 hcs.1 hes
  have c6 := l16Outer_ct hst f lo (.sl lo 3 (cl.map (TClassInfo.tw lo))) (.sl lo 4 (es.map (TEntry.tw lo))) cs mn hcs
  by_cases h1 : classesOkB cl = true
  case neg =>
    rw [hvF fun h => h1 h.1]
    rw [Bool.eq_false_iff.2 h1] at c1
    repeat' (first | ((with_reducible apply o_y); exact y_; rfl) | with_reducible refine aw_draw (by kernel_rfl) (by kernel_rfl) ?_ | with_reducible refine dr_nil ?_ | with_reducible refine dr_none rfl ?_ | refine dr_skip rfl rfl rfl rr_ rfl rfl rfl ?_ | ((with_reducible apply d_y); exact y_; rfl) | refine e_calld hG hst (c1) ?_ | with_reducible refine al_none rfl ?_ | (with_reducible first | apply aw_seq | apply aw_region | apply al_nil | apply aq_then | apply aw_ret | apply aq_then_ret) | refine aw_cond_t rfl rr_ ?_)
    refine aq_ret1 x_ rfl (.tmp _ _ rfl) (fun _ => ?_)
    exact Fin.flat rfl
  rw [h1] at c1
  by_cases h2 : cs.length ≤ 200
  case neg =>
    rw [hvF fun h => h2 h.2.1]
    repeat' (first | ((with_reducible apply o_y); exact y_; rfl) | with_reducible refine aw_draw (by kernel_rfl) (by kernel_rfl) ?_ | with_reducible refine dr_nil ?_ | with_reducible refine dr_none rfl ?_ | refine dr_run rfl rfl rfl rr_ ?_ | refine dr_skip rfl rfl rfl rr_ rfl rfl rfl ?_ | (refine dr_gt rfl rfl rfl rr_ dd_ ?_) | ((with_reducible apply d_y); exact y_; rfl) | refine e_calld hG hst (c1) ?_ | with_reducible refine al_none rfl ?_ | (with_reducible first | apply aw_seq | apply aw_region | apply al_nil | apply aq_then | apply aw_ret | apply aq_then_ret) | refine aw_cond_t rfl rr_ ?_)
    refine aq_ret1 x_ rfl (.tmp _ _ rfl) (fun _ => ?_)
    exact Fin.flat rfl
  by_cases h3 : inR mn 0 ((cs.length : Int) - 1) = true
  case neg =>
    rw [hvF fun h => h3 h.2.2.1.1]
    rw [Bool.eq_false_iff.2 h3] at c3
    repeat' (first | ((with_reducible apply o_y); exact y_; rfl) | with_reducible refine aw_draw (by kernel_rfl) (by kernel_rfl) ?_ | with_reducible refine dr_nil ?_ | with_reducible refine dr_none rfl ?_ | refine dr_run rfl rfl rfl rr_ ?_ | refine dr_skip rfl rfl rfl rr_ rfl rfl rfl ?_ | (refine dr_gf rfl rfl rfl rr_ dd_ ?_) | ((with_reducible apply d_y); exact y_; rfl) | refine e_calld hG hst (c1) ?_ | refine e_calld hG hst (c3) ?_ | with_reducible refine al_none rfl ?_ | (with_reducible first | apply aw_seq | apply aw_region | apply al_nil | apply aq_then | apply aw_ret | apply aq_then_ret) | refine aw_cond_t rfl rr_ ?_)
    refine aq_ret1 x_ rfl (.tmp _ _ rfl) (fun _ => ?_)
    exact Fin.flat rfl
  have h3' := of_decide_eq_true h3
  obtain ⟨q, rfl⟩ : ∃ q : Nat, mn = q := ⟨mn.toNat, by omega⟩
  have hql : q < cs.length := by omega
  have hrq := tcode_row (lo := lo) hql
  have hpl := plainAt_iff (n := 0) rfl (List.getElem?_eq_getElem hql)
  generalize cs[q] = y at hrq hpl
  obtain ⟨yb, yp, ys, yi⟩ := y
  dsimp only at hrq hpl
  rw [h3, show (cs.length : Int) - 1 = ((cs.length - 1 : Nat) : Int) by omega] at c3
  cases yb
  case true =>
    rw [hvF fun h => by have := hpl.1 h.2.2.1.2; cases this.1]
    repeat' (first | ((with_reducible apply o_y); exact y_; rfl) | with_reducible refine aw_draw (by kernel_rfl) (by kernel_rfl) ?_ | with_reducible refine dr_nil ?_ | with_reducible refine dr_none rfl ?_ | refine dr_run rfl rfl rfl rr_ ?_ | refine dr_skip rfl rfl rfl rr_ rfl rfl rfl ?_ | (refine dr_gf rfl rfl rfl rr_ dd_ ?_) | ((with_reducible apply d_y); exact y_; rfl) | refine e_calld hG hst (c1) ?_ | refine e_calld hG hst (c3) ?_ | with_reducible refine al_none rfl ?_ | (with_reducible first | apply aw_seq | apply aw_region | apply al_nil | apply aq_then | apply aw_ret | apply aq_then_ret) | refine aw_cond_t rfl rr_ ?_)
    refine aq_ret1 x_ rfl (.tmp _ _ rfl) (fun _ => ?_)
    exact Fin.flat rfl
  by_cases h4 : yp = 0
  case neg =>
    rw [hvF fun h => by have := hpl.1 h.2.2.1.2; exact h4 this.2]
    repeat' (first | ((with_reducible apply o_y); exact y_; rfl) | with_reducible refine aw_draw (by kernel_rfl) (by kernel_rfl) ?_ | with_reducible refine dr_nil ?_ | with_reducible refine dr_none rfl ?_ | refine dr_run rfl rfl rfl rr_ ?_ | refine dr_skip rfl rfl rfl rr_ rfl rfl rfl ?_ | (refine dr_gt rfl rfl rfl rr_ dd_ ?_) | (refine dr_gf rfl rfl rfl rr_ dd_ ?_) | ((with_reducible apply d_y); exact y_; rfl) | refine e_calld hG hst (c1) ?_ | refine e_calld hG hst (c3) ?_ | with_reducible refine al_none rfl ?_ | (with_reducible first | apply aw_seq | apply aw_region | apply al_nil | apply aq_then | apply aw_ret | apply aq_then_ret) | refine aw_cond_t rfl rr_ ?_)
    refine aq_ret1 x_ rfl (.tmp _ _ rfl) (fun _ => ?_)
    exact Fin.flat rfl
  have h4' : ¬ yp ≠ 0 := fun h => h h4
  by_cases h5 : entriesB cl.length cs es = true
  case neg =>
    rw [hvF fun h => h5 h.2.2.2.1]
    rw [Bool.eq_false_iff.2 h5] at c5
    repeat' (first | ((with_reducible apply o_y); exact y_; rfl) | with_reducible refine aw_draw (by kernel_rfl) (by kernel_rfl) ?_ | with_reducible refine dr_nil ?_ | with_reducible refine dr_none rfl ?_ | refine dr_run rfl rfl rfl rr_ ?_ | (refine dr_gf rfl rfl rfl rr_ dd_ ?_) | ((with_reducible apply d_y); exact y_; rfl) | refine e_calld hG hst (c1) ?_ | refine e_calld hG hst (c3) ?_ | refine e_calld hG hst (c5) ?_ | with_reducible refine al_none rfl ?_ | (with_reducible first | apply aw_seq | apply aw_region | apply al_nil | apply aq_then | apply aw_ret | apply aq_then_ret) | refine aw_cond_t rfl rr_ ?_)
    refine aq_ret1 x_ rfl (.tmp _ _ rfl) (fun _ => ?_)
    exact Fin.flat rfl
  rw [h5] at c5
  have hhead := hpl.2 ⟨rfl, h4⟩
  unfold outR at c6
  cases hR : outersL cs
  case none =>
    rw [hR] at c6
    have hf : V = false := hvF fun h => by
      obtain ⟨o, ho, _⟩ := h.2.2.2.2
      rw [hR] at ho; cases ho
    rw [hf]
    clear hvF hvT
    replace c6 : Ct Tryz.prog GL 108 [.cp f [.sl lo 3 (cl.map (TClassInfo.tw lo)), .sl lo 4 (cs.map (TCode.tw lo)), .sl lo 4 (es.map (TEntry.tw lo)), .int .i64 (q : Int)]] (fun K => .tup [.sl K 1 [], .bool false]) := c6
    repeat' (first | ((with_reducible apply o_y); exact y_; rfl) | with_reducible refine aw_draw (by kernel_rfl) (by kernel_rfl) ?_ | with_reducible refine dr_nil ?_ | with_reducible refine dr_none rfl ?_ | refine dr_run rfl rfl rfl rr_ ?_ | (refine dr_gf rfl rfl rfl rr_ dd_ ?_) | ((with_reducible apply d_y); exact y_; rfl) | refine e_calld hG hst (c1) ?_ | refine e_calld hG hst (c3) ?_ | refine e_calld hG hst (c5) ?_ | refine e_call hG hst (c6) ?_ | with_reducible refine al_none rfl ?_ | (with_reducible first | apply aw_seq | apply aw_region | apply al_nil | apply aq_then | apply aw_block | apply aw_skip) | refine aw_cond_f rfl rr_ ?_)
    apply aw_loopk (X := Nat) [0, 3, 4] (fun i => [(5, .int .i64 (i : Int))]) (fun _ => []) (fun i => i = 0) (fun i => 1 - i) 0 rfl
    exact kp_; (repeat (first | exact Weak.envNil | refine Weak.envCons we_ ?_))
    · exact .refl _
    rintro i rfl
    try dsimp only
    have hpos : ((0 : Nat) : Int) < (cs.length : Int) := by omega
    repeat' (first | ((with_reducible apply o_y); exact y_; rfl) | with_reducible refine al_none rfl ?_ | (with_reducible first | apply aw_seq | apply aw_region | apply al_nil | apply aq_then | apply aw_exit | apply aw_ret | apply aq_block_hit | apply aq_then_exit) | refine al_run rfl rfl rfl rr_ ?_ | (refine al_gt rfl rfl rfl rr_ dd_ ?_) | refine aw_cond_f rfl rr_ ?_)
    refine aq_ret1 x_ rfl (.tmp _ _ rfl) (fun _ => ?_)
    exact Fin.flat rfl
  case some o =>
    rw [hR] at c6
    replace c6 : Ct Tryz.prog GL 108 [.cp f [.sl lo 3 (cl.map (TClassInfo.tw lo)), .sl lo 4 (cs.map (TCode.tw lo)), .sl lo 4 (es.map (TEntry.tw lo)), .int .i64 (q : Int)]] (fun K => .tup [.sl K 1 (intR o), .bool true]) := c6
    obtain ⟨hinv, hfit⟩ := outersL_inv hR
    have hblk := fun i c hc => outersL_block hR (i := i) (c := c) hc
    have hvF2 : ¬ codesOk cs cl.length o → V = false := fun h => hvF fun k => by
      obtain ⟨o', ho', hc'⟩ := k.2.2.2.2
      rw [hR] at ho'; cases ho'
      exact h hc'
    have hvT2 : codesOk cs cl.length o → V = true := fun h => hvT ⟨h1, h2, ⟨h3, hhead⟩, h5, o, hR, h⟩
    clear hvF hvT hR
    repeat' (first | ((with_reducible apply o_y); exact y_; rfl) | with_reducible refine aw_draw (by kernel_rfl) (by kernel_rfl) ?_ | with_reducible refine dr_nil ?_ | with_reducible refine dr_none rfl ?_ | refine dr_run rfl rfl rfl rr_ ?_ | (refine dr_gf rfl rfl rfl rr_ dd_ ?_) | ((with_reducible apply d_y); exact y_; rfl) | refine e_calld hG hst (c1) ?_ | refine e_calld hG hst (c3) ?_ | refine e_calld hG hst (c5) ?_ | refine e_call hG hst (c6) ?_ | with_reducible refine al_none rfl ?_ | (with_reducible first | apply aw_seq | apply aw_region | apply al_nil | apply aq_then | apply aw_block | apply aw_skip) | refine aw_cond_f rfl rr_ ?_)
    apply aw_loopk (X := Nat × Bool) [0, 3] (fun x => [(5, .int .i64 (x.1 : Int)), (4, .bool x.2)]) (fun _ => []) (fun x => x.1 ≤ cs.length ∧ (x.2 = true → ∀ j, j < x.1 → ∀ h : j < cs.length, codeOk cs cl.length o j cs[j]) ∧ (x.2 = false → V = false)) (fun x => cs.length - x.1) (0, true) ⟨Nat.zero_le _, fun _ => by omega, fun h => by cases h⟩
    exact kp_; (repeat (first | exact Weak.envNil | refine Weak.envCons we_ ?_))
    · exact .refl _
    rintro ⟨i, ok⟩ ⟨hi, ha, hb⟩
    dsimp only at hi ha hb ⊢
    by_cases hlt : i < cs.length
    · cases ok
      case false =>
        rw [hb rfl]
        repeat' (first | ((with_reducible apply o_y); exact y_; rfl) | with_reducible refine al_none rfl ?_ | (with_reducible first | apply aw_seq | apply aw_region | apply al_nil | apply aq_then | apply aw_exit | apply aw_ret | apply aq_block_hit | apply aq_then_exit) | refine al_run rfl rfl rfl rr_ ?_ | (refine al_gt rfl rfl rfl rr_ dd_ ?_) | refine aw_cond_f rfl rr_ ?_)
        refine aq_ret1 x_ rfl (.tmp _ _ rfl) (fun _ => ?_)
        exact Fin.flat rfl
      have hg : cs[i]? = some cs[i] := List.getElem?_eq_getElem hlt
      have hct := l16Code_ct f lo w0.heap.size cl (.sl lo 4 (es.map (TEntry.tw lo))) cs q hcl.1 hcs o hinv i cs[i] hg (hblk i _ hg)
      have hT := codeB_t (cs := cs) (nc := cl.length) (o := o) (k := i) (x := cs[i])
      have hF := codeB_f (cs := cs) (nc := cl.length) (o := o) (k := i) (x := cs[i])
      have hnx : codeOk cs cl.length o i cs[i] → ∀ j, j < i + 1 → ∀ h : j < cs.length, codeOk cs cl.length o j cs[j] := fun ho => below_succ (ha rfl) fun _ => ho
      by_cases hco : codeOk cs cl.length o i cs[i]
      · rw [hT hco] at hct
        repeat' (first | ((with_reducible apply o_y); exact y_; rfl) | refine e_call hG hst (hct) ?_ | with_reducible refine al_none rfl ?_ | (with_reducible first | apply aw_seq | apply aw_region | apply al_nil | apply aq_then | apply aw_block | apply aw_skip | apply aq_block) | refine al_run rfl rfl rfl rr_ ?_ | (refine al_gt rfl rfl rfl rr_ dd_ ?_) | refine aw_cond_t rfl rr_ ?_)
        exact aq_round (i + 1, true) ⟨by dsimp only; omega, fun _ => hnx hco, fun h => (by cases h)⟩ (by dsimp only; omega) (.of _ nw_ od_ pk_)
      · rw [hF hco] at hct
        repeat' (first | ((with_reducible apply o_y); exact y_; rfl) | refine e_call hG hst (hct) ?_ | with_reducible refine al_none rfl ?_ | (with_reducible first | apply aw_seq | apply aw_region | apply al_nil | apply aq_then | apply aw_block | apply aw_skip | apply aq_block) | refine al_run rfl rfl rfl rr_ ?_ | (refine al_gt rfl rfl rfl rr_ dd_ ?_) | refine aw_cond_t rfl rr_ ?_)
        exact aq_round (i + 1, false) ⟨by dsimp only; omega, fun h => (by cases h), fun _ => hvF2 fun h => hco (h i hlt)⟩ (by dsimp only; omega) (.of _ nw_ od_ pk_)
    · have hVe : V = ok := by
        cases ok
        · exact hb rfl
        · exact hvT2 fun j hj => ha rfl j (by omega) hj
      rw [hVe]
      repeat' (first | ((with_reducible apply o_y); exact y_; rfl) | with_reducible refine al_none rfl ?_ | (with_reducible first | apply aw_seq | apply aw_region | apply al_nil | apply aq_then | apply aw_exit | apply aw_ret | apply aq_block_hit | apply aq_then_exit) | refine al_skip rfl rfl rfl rr_ rfl rfl rfl ?_ | (refine al_gf rfl rfl rfl rr_ dd_ ?_) | refine aw_cond_f rfl rr_ ?_)
      refine aq_ret1 x_ rfl (.tmp _ _ rfl) (fun _ => ?_)
      exact Fin.flat rfl
end Go.Proofs.YthpdkhejeookhaaGreatDoor
/- EditsOf of the reference. -/
namespace Go.Proofs.YthpdkhejeookhaaGreatDoor
set_option maxRecDepth 20000
open Go Go.RowKit
theorem l27Fits_ct (f lo : Nat) (bl : Bool) (pr sl : Int) (is : List TInstr) (hok : CodeOk is) (hts : ∀ i ∈ is, i.text.size ≤ 1048576) (code at_ kind : Int) (hatm : -9223372036854775808 ≤ at_ ∧ at_ ≤ 9223372036854775807) :
    Ct Tryz.prog GL 55 [.cp f [.bool bl, .int .i64 pr, .int .i64 sl, .sl lo 4 (is.map (TInstr.tw lo))], .agg [.int .i64 code, .int .i64 at_, .int .i64 kind]] (fun _ => .bool (fitsZ is at_ kind)) := by
  by_cases h3 : kind = 3
  · exact l27FitsB_ct f lo bl pr sl is hok hts code at_ kind h3 hatm
  by_cases h4 : kind = 4
  · exact l27FitsC_ct f lo bl pr sl is hok hts code at_ kind h4 hatm
  · exact l27FitsA_ct f lo bl pr sl is hok hts code at_ kind (by omega) hatm
end Go.Proofs.YthpdkhejeookhaaGreatDoor
/- ApplyEdit of the reference: instructions are removed, labels move. -/
namespace Go.Proofs.YthpdkhejeookhaaGreatDoor
set_option maxRecDepth 20000
open Go Go.RowKit
section
variable {G : World → Prop}
theorem l1Max_ct (a b : Int) : Ct Tryz.prog G 198 [.int .i64 a, .int .i64 b] (fun _ => .int .i64 (max a b)) := by
  refine ct_enter Tryz.func198 rfl Tryz.ntmps198 rfl rfl fun w0 _ hG => ?_
  repeat' (first | ((with_reducible apply o_y); exact y_; rfl) | with_reducible refine al_none rfl ?_ | (with_reducible first | apply aw_seq | apply aw_region | apply al_nil | apply aq_then | apply aw_skip | apply aw_ret | apply aq_then_ret) | (refine aw_cond rfl rr_ (fun hc => ?_) (fun hc => ?_)))
  all_goals
    refine aq_ret1 x_ rfl (.tmp _ _ rfl) (fun _ => ?_)
    exact fin_int (by rw [Int.max_def]; split <;> omega)
set_option maxHeartbeats 1000000 in
theorem l27Cut_ctm (hst : Stable G) (s b : Nat) (rows : List (List TV)) (k lo : Nat) (bl : Bool) (pr sl : Int) (is : List TInstr) (hn : is.length ≤ 900) (hr : rows[k]? = some [.bool bl, .int .i64 pr, .int .i64 sl, .sl lo 4 (is.map (TInstr.tw 0))]) (q n : Nat) (hq : q + n ≤ is.length)
    (hb : ∀ x ∈ is, (hasA x.op = true → 0 ≤ x.a ∧ x.a < is.length) ∧ (hasB x.op = true → 0 ≤ x.b ∧ x.b < is.length)) :
    CtM Tryz.prog G 135 [.me s b 4 k 0, .int .i64 (q : Int), .int .i64 (n : Int)] [(s, b, .row 4 rows)] (fun _ : Nat × Nat => True)
      (fun y => [(s, b, .row 4 (rows.set k [.bool bl, .int .i64 pr, .int .i64 sl, .ms y.1 y.2 0 (cutL is q n).length])), (y.1, y.2, .row 4 ((cutL is q n).map (TInstr.tw 0)))]) (fun _ => .tup []) := by
  refine ctm_enter Tryz.func135 rfl Tryz.ntmps135 rfl rfl rfl fun w0 R gs objsR hG hR => ?_
  obtain rfl := hR.inv1
  clear hR
  have hil := TInstr.len 0 is
  have hl1 : ((is.map (TInstr.tw 0)).take q).length = q := by rw [List.length_take]; omega
  have hl2 : ((is.map (TInstr.tw 0)).drop (q + n)).length = is.length - (q + n) := by rw [List.length_drop]; omega
  have hrs : (is.map (TInstr.tw 0)).take q ++ (is.map (TInstr.tw 0)).drop (q + n) = (is.take q ++ is.drop (q + n)).map (TInstr.tw 0) := by rw [List.map_append, List.map_take, List.map_drop]
  have hLl : (is.take q ++ is.drop (q + n)).length = q + (is.length - (q + n)) := by rw [List.length_append, List.length_take, List.length_drop]; omega
  have hLm : ∀ x ∈ is.take q ++ is.drop (q + n), x ∈ is := fun x hx => (List.mem_append.1 hx).elim List.mem_of_mem_take List.mem_of_mem_drop
  have hcut : cutL is q n = (is.take q ++ is.drop (q + n)).map (mapI (cutV q n)) := rfl
  rw [hcut]
  have hLn : (is.take q ++ is.drop (q + n)).length ≤ 900 := by rw [hLl]; omega
  have hlq : ((is.map (TInstr.tw 0)).take q).length = 0 + q := by omega
  have hlen2 : 0 + q + (is.length - (q + n)) = (is.take q ++ is.drop (q + n)).length := by omega
  repeat' (first | ((with_reducible apply o_y); exact y_; rfl) | (refine e_own ?_; intro ss bb) | refine e_slh ?_ | refine e_sll ?_ | ((with_reducible apply o_append); rfl; rfl; rfl; kernel_rfl; (repeat (with_reducible exact mh)); (first | exact hlq | rfl); (first | exact hl1 | exact hl2); omega; (first | exact hrs | exact List.nil_append _); (intro bq; (repeat (with_reducible exact Upd.head _))); intro bb) | with_reducible refine al_none rfl ?_ | (with_reducible first | apply aw_seq | apply aw_region | apply al_nil | apply aq_then | apply aw_block))
  rename_i bb0 bb1
  rw [hlen2]
  generalize is.take q ++ is.drop (q + n) = L at *
  generalize ss = s6; generalize bb = b6
  have hz := mapP_zero (mapI (cutV q n)) L
  clear hlen2 hlq hl1 hl2 hrs hcut
  apply aw_loopk (X := Nat) [0, 1, 2, 6, 1000000] (fun y => [(7, .int .i64 (y : Int))]) (fun y => (s6, b6, .row 4 ((mapP (mapI (cutV q n)) L y).map (TInstr.tw 0))) :: (s, b, .row 4 rows) :: R) (fun y => y ≤ L.length) (fun y => L.length - y) 0 (Nat.zero_le _)
  exact kp_; (repeat (first | exact Weak.envNil | refine Weak.envCons we_ ?_))
  · rw [hz]; exact .refl _
  intro i hi
  have hml : (mapP (mapI (cutV q n)) L i).length = L.length := mapP_len _ hi
  by_cases hin : i < L.length
  · have hri : ((mapP (mapI (cutV q n)) L i).map (TInstr.tw 0))[i]? = some (L[i].tw 0) := by rw [List.getElem?_map, mapP_get _ hin]; rfl
    have hset := mapP_tw (mapI (cutV q n)) hin rfl
    have hbi := hb _ (hLm _ (List.getElem_mem hin))
    generalize mapP (mapI (cutV q n)) L i = T at *
    obtain ⟨T2, hT2⟩ : ∃ T2, T2 = (mapP (mapI (cutV q n)) L (i + 1)).map (TInstr.tw 0) := ⟨_, rfl⟩
    rw [← hT2] at hset
    generalize L[i] = x at hri hset hbi
    obtain ⟨op, a, b1, t⟩ := x
    dsimp only at hbi
    obtain ⟨hbA, hbB⟩ := hbi
    have e : (mapI (cutV q n) ⟨op, a, b1, t⟩).tw 0 = [.int .i64 op, .int .i64 (if hasA op then cutV q n a else a), .int .i64 (if hasB op then cutV q n b1 else b1), .str t] := rfl
    rw [e] at hset
    clear e
    rw [show TInstr.tw 0 ⟨op, a, b1, t⟩ = [.int .i64 op, .int .i64 a, .int .i64 b1, .str t] from rfl] at hri
    have hw1 := l1In_ct (G := G) op 20 22
    have hw2 := l1In_ct (G := G) op 21 22
    have hw3 := l1In_ct (G := G) op 24 26
    have hm1 := l1Max_ct (G := G) (q : Int) (a - n)
    have hm2 := l1Max_ct (G := G) (q : Int) (b1 - n)
    have hA : hasA op = inR op 20 22 := rfl
    have hB : hasB op = (inR op 21 22 || inR op 24 26) := rfl
    rw [hA, hB] at hset
    rw [hA] at hbA
    rw [hB] at hbB
    unfold cutV at hset
    have hcmb : (inR op 20 22 = true ∧ inR op 21 22 = false ∧ inR op 24 26 = false) ∨ (inR op 20 22 = true ∧ inR op 21 22 = true ∧ inR op 24 26 = false) ∨ (inR op 20 22 = false ∧ inR op 21 22 = false ∧ inR op 24 26 = true) ∨ (inR op 20 22 = false ∧ inR op 21 22 = false ∧ inR op 24 26 = false) := by
      simp only [inR, decide_eq_true_eq, decide_eq_false_iff_not]; omega
    clear hA hB
    generalize inR op 20 22 = c1 at hw1 hset hcmb hbA
    generalize inR op 21 22 = c2 at hw2 hset hcmb hbB
    generalize inR op 24 26 = c3 at hw3 hset hcmb hbB
    generalize max (q : Int) (a - n) = m1 at hm1 hset
    generalize max (q : Int) (b1 - n) = m2 at hm2 hset
    have hself : (T.map (TInstr.tw 0)).set i [.int .i64 op, .int .i64 a, .int .i64 b1, .str t] = T.map (TInstr.tw 0) := by
      refine List.ext_getElem? fun j => ?_
      rw [List.getElem?_set]
      split
      · rename_i e; subst e; rw [if_pos (by rw [List.length_map]; omega)]; exact hri.symm
      · rfl
    by_cases ha : a > (q : Int) <;> by_cases hb2 : b1 > (q : Int) <;> rcases hcmb with ⟨rfl, rfl, rfl⟩ | ⟨rfl, rfl, rfl⟩ | ⟨rfl, rfl, rfl⟩ | ⟨rfl, rfl, rfl⟩
    all_goals
      first
        | (replace hbA := hbA rfl)
        | skip
      first
        | (replace hbB := hbB rfl)
        | skip
      simp only [Bool.or_false, Bool.or_true, Bool.or_self, Bool.false_eq_true, if_true, if_false, ha, hb2] at hset
      repeat' (first | ((with_reducible apply o_y); exact y_; rfl) | refine e_store ?_ | refine e_call hG hst (hw1) ?_ | refine e_call hG hst (hw2) ?_ | refine e_call hG hst (hw3) ?_ | refine e_call hG hst (hm1) ?_ | refine e_call hG hst (hm2) ?_ | with_reducible refine al_none rfl ?_ | (with_reducible first | apply aw_seq | apply aw_region | apply al_nil | apply aq_then | apply aw_block | apply aw_skip | apply aq_block) | refine al_run rfl rfl rfl rr_ ?_ | refine al_skip rfl rfl rfl rr_ rfl rfl rfl ?_ | refine aw_cond_f rfl rr_ ?_ | (refine aw_cond_dt rfl rr_ dd_ ?_) | (refine aw_cond_df rfl rr_ dd_ ?_))
      refine aq_round (i + 1) (by omega) (by omega) (.of _ nw_ od_ ?_)
      rw [← hT2]
      first
        | (rw [List.set_set, hset]; exact pk_)
        | (rw [hset]; exact pk_)
        | (rw [hself] at hset; rw [← hset]; exact pk_)
  · obtain rfl : i = L.length := by omega
    rw [mapP_full]
    repeat' (first | ((with_reducible apply o_y); exact y_; rfl) | refine e_store ?_ | with_reducible refine al_none rfl ?_ | (with_reducible first | apply aw_seq | apply aw_region | apply al_nil | apply aq_then | apply aw_exit | apply aq_block_hit | apply aq_then_exit) | (refine aw_cond_df rfl rr_ dd_ ?_))
    exact aq_retm0 x_ rfl (s6, b6) trivial rfl (.cons _ _ _ _ (.cons _ _ _ _ (.nil R))) (by rw [List.length_map]; exact pk_) rfl
end
end Go.Proofs.YthpdkhejeookhaaGreatDoor
/- The abstract walk, part 21: a region that draws its order in which memory is made, again and again. -/
namespace Go.Proofs.YthpdkhejeookhaaGreatDoor
open Go Go.RowKit
/-- What a making of memory settles: where it lies. -/
inductive Yu where
  | no
  | one (a b : Nat)
  | many (l : List (Nat × Nat))
  | pair (x y : Yu)
def Pt : Type := Nat → Yu
def Pt.put (p : Pt) (i : Nat) (y : Yu) : Pt := fun j => if j = i then y else p j
theorem Pt.put_ne {p : Pt} {i j : Nat} {y : Yu} (h : j ≠ i) : p.put i y j = p j := if_neg h
theorem Pt.put_eq {p : Pt} {i : Nat} {y : Yu} : p.put i y i = y := if_pos rfl
/-- Operation m comes ahead of c in every order, or is c. -/
def Ahead (ops : Array Oper) (c m : Nat) : Prop := m = c ∨ (m < c ∧ ((Region.before ops).getD c 0).testBit m = true)
def IndT {α : Type} (ops : Array Oper) (c : Nat) (T : Pt → α) : Prop := ∀ p p' : Pt, (∀ m, Ahead ops c m → p m = p' m) → T p = T p'
/-- An operation that makes memory: from what it consumes (C) it gives new objects, whatever else is owned. -/
def MkW (P : Program) (w0 : World) (env : Env) (o : Oper) (C R : Objs) (I : Yu → Prop) (O : Yu → Objs) (T : Yu → TV) : Prop :=
  ∀ (a : Act) (w : World) (K : Act → World → Prop) (Q : Exit → Act → World → Prop), SimW w0 (C ++ R) w → (∀ x ∈ o.op.operands.toList, ∀ v, ev env x = some v → Rep w (C ++ R) v (a.eval x)) →
    (∀ y v w', I y → SimW w0 (O y ++ R) w' → Step w (C ++ R) w' (O y ++ R) → Rep w' (O y ++ R) (T y) v → K (a.put o.dst v) w') → o.wp P a w K Q
/-- The makers of a region: what each gives, what it consumes, what is known then. -/
structure Mks where
  on : Nat → Bool
  O : Nat → Pt → Objs
  src : Nat → Option Nat
  I : Nat → Yu → Prop
def Mks.cons (M : Mks) (c : Nat) (p : Pt) : Objs := match M.src c with
  | some i => M.O i p
  | none => []
section
variable {P : Program} {w0 : World} {N : Nat} {Q : Exit → Act → World → Prop} {objs : Objs} {ops : Array Oper}
/-- What is known of the region's operation c. -/
def OpM (P : Program) (w0 : World) (N : Nat) (ops : Array Oper) (objs : Objs) (M : Mks) (σ : Pt → Nat → Env) (c : Nat) (o : Oper) : Prop :=
  ∃ T, o.guard = none ∧ ((∃ d, o.dst = some d ∧ d < N ∧ ∀ p t, lk t (σ p (c + 1)) = lk t ((d, T p) :: σ p c)) ∨ (o.dst = none ∧ ∀ p t, lk t (σ p (c + 1)) = lk t (σ p c))) ∧ IndT ops c T ∧
    ((M.on c = false ∧ M.src c = none ∧ ∀ p R, (∀ x ∈ objs, x ∈ R) → Yields P w0 (σ p c) R o (T p)) ∨
     (M.on c = true ∧ IndT ops c (M.O c) ∧ (∀ i, M.src c = some i → i ≠ c ∧ (i < ops.size → Ahead ops c i) ∧ M.on i = true) ∧
       ∀ p R, (∀ x ∈ objs, x ∈ R) → MkW P w0 (σ p c) o (M.cons c p) R (M.I c) (fun y => M.O c (p.put c y)) (fun y => T (p.put c y))))
/-- A chain of environments. -/
def Chain (N : Nat) (ops : Array Oper) (k : Nat) (σ : Nat → Env) : Prop := ∀ i o, i < k → ops[i]? = some o → (∃ d tv, o.dst = some d ∧ d < N ∧ ∀ t, lk t (σ (i + 1)) = lk t ((d, tv) :: σ i)) ∨ (o.dst = none ∧ ∀ t, lk t (σ (i + 1)) = lk t (σ i))
theorem jy_stepC {objs' : Objs} (hok : drawOk ops = true) {k : Nat} (hk : k ≤ ops.size) {σ : Nat → Env} {X : Nat → Prop} {a : Act} {w w' : World} (hJ : JY w0 N ops objs σ k X a w) (hX : Closed ops X) {i d : Nat} {o : Oper} {tv : TV} {v : Value} (hi : ops[i]? = some o) (hik : i < k) (hni : ¬ X i) (hd : o.dst = some d) (hdN : d < N)
    (hσ : Chain N ops k σ) (hσi : ∀ t, lk t (σ (i + 1)) = lk t ((d, tv) :: σ i)) (hr : Rep w' objs' tv v) (hw : SimW w0 objs' w') (hst : Step w objs w' objs') : JY w0 N ops objs' σ k (fun k => k = i ∨ X k) (a.put (some d) v) w' := by
  refine ⟨hJ.defers, by simp [Act.put, hJ.size], hw, fun t c hc h1 h2 u hu => ?_⟩
  show Rep w' objs' u ((a.tmps.setIfInBounds d v).getD t undef)
  rw [getD_set (by rw [hJ.size]; exact hdN)]
  by_cases hdt : d = t
  · subst hdt
    rw [if_pos rfl]
    have hwi : Writes ops i d := by unfold Writes; rw [hi]; exact hd
    have hic : i < c := Nat.lt_of_not_le fun h => h2 i h hik hwi (.inl rfl)
    have hlast : ∀ m, i + 1 ≤ m → m ≤ c → lk d (σ m) = some tv := fun m => by
      induction m with
      | zero => intro h; omega
      | succ m ih =>
        intro hm1 hm2
        rcases Nat.eq_or_lt_of_le hm1 with h | h
        · have : m = i := by omega
          subst this; rw [hσi, lk_cons, if_pos rfl]
        · have hm : m < ops.size := by omega
          have hom : ops[m]? = some ops[m] := by simp [hm]
          rcases hσ m _ (by omega) hom with ⟨dm, tm, e1, _, e2⟩ | ⟨_, e2⟩
          · rw [e2, lk_cons, if_neg]
            · exact ih (by omega) (by omega)
            · intro e
              subst e
              have hwm : Writes ops m dm := by unfold Writes; rw [hom]; exact e1
              rcases h1 m (by omega) hwm with h3 | h3
              · omega
              · exact hni (apart_or hok hi hom (by omega) (not_apart_both hd e1) hX h3)
          · rw [e2]; exact ih (by omega) (by omega)
    rw [hlast c hic (Nat.le_refl _)] at hu
    simp only [Option.some.injEq] at hu
    subst hu; exact hr
  · rw [if_neg hdt]
    refine (hJ.cut t c hc (fun m hm hwm => ?_) (fun m hm hmk hwm hx => h2 m hm hmk hwm (.inr hx)) u hu).step hst
    rcases h1 m hm hwm with h3 | h3
    · subst h3
      unfold Writes at hwm
      rw [hi] at hwm
      simp only [Option.bind_some, hd, Option.some.injEq] at hwm
      exact absurd hwm hdt
    · exact h3
theorem jy_stepN {objs' : Objs} {k : Nat} {σ : Nat → Env} {X : Nat → Prop} {a : Act} {w w' : World} (hJ : JY w0 N ops objs σ k X a w) {i : Nat} {o : Oper} (hi : ops[i]? = some o) (hd : o.dst = none) (hw : SimW w0 objs' w') (hst : Step w objs w' objs') : JY w0 N ops objs' σ k (fun k => k = i ∨ X k) a w' :=
  ⟨hJ.defers, hJ.size, hw, fun t c hc h1 h2 u hu => (hJ.cut t c hc (fun m hm hwm => (h1 m hm hwm).resolve_left fun e => by
    subst e
    unfold Writes at hwm
    rw [hi] at hwm
    simp only [Option.bind_some, hd] at hwm
    cases hwm) (fun m hm hmk hwm hx => h2 m hm hmk hwm (.inr hx)) u hu).step hst⟩
theorem JY.pick {objs' : Objs} {σ : Nat → Env} {k : Nat} {X : Nat → Prop} {a : Act} {w : World} (h : JY w0 N ops objs σ k X a w) (hp : Pick objs' objs) : JY w0 N ops objs' σ k X a w :=
  ⟨h.defers, h.size, h.mem.sub hp, fun t c hc h1 h2 v hv => (h.cut t c hc h1 h2 v hv).step (step_sub hp w)⟩
/-- What is executed does not look at what is not. -/
theorem sigma_put (hok : drawOk ops = true) {k : Nat} (hk : k ≤ ops.size) {M : Mks} {σ : Pt → Nat → Env} (h0 : ∀ p p' t, lk t (σ p 0) = lk t (σ p' 0)) (hop : ∀ c o, c < k → ops[c]? = some o → OpM P w0 N ops objs M σ c o) {X : Nat → Prop} (hX : Closed ops X) {i : Nat} (hni : ¬ X i) (p : Pt) (y : Yu) (t : Nat) : ∀ c, c ≤ k → (∀ m, m < c → Writes ops m t → X m) → lk t (σ (p.put i y) c) = lk t (σ p c)
  | 0, _, _ => h0 _ _ _
  | c + 1, hc, hw => by
    have hcs : c < ops.size := by omega
    have hoc : ops[c]? = some ops[c] := by simp [hcs]
    obtain ⟨T, _, hs, hT, _⟩ := hop c _ (by omega) hoc
    rcases hs with ⟨d, hd, _, hs⟩ | ⟨_, hs⟩
    · rw [hs, hs, lk_cons, lk_cons]
      split
      · rename_i hdt
        have hXc : X c := hw c (Nat.lt_succ_self c) (by unfold Writes; rw [hoc]; exact hdt ▸ hd)
        rw [hT (p.put i y) p fun m hm => Pt.put_ne fun e => ?_]
        subst e
        rcases hm with h | ⟨h1, h2⟩
        · exact hni (h ▸ hXc)
        · exact hni (closed_reach hok hX c hcs hXc m h1 h2)
      · exact sigma_put hok hk h0 hop hX hni p y t c (by omega) fun m hm => hw m (by omega)
    · rw [hs, hs]
      exact sigma_put hok hk h0 hop hX hni p y t c (by omega) fun m hm => hw m (by omega)
theorem JY.put (hok : drawOk ops = true) {k : Nat} (hk : k ≤ ops.size) {M : Mks} {σ : Pt → Nat → Env} (h0 : ∀ p p' t, lk t (σ p 0) = lk t (σ p' 0)) (hop : ∀ c o, c < k → ops[c]? = some o → OpM P w0 N ops objs M σ c o) {X : Nat → Prop} (hX : Closed ops X) {i : Nat} (hni : ¬ X i) {p : Pt} (y : Yu) {objs' : Objs} {a : Act} {w : World} (h : JY w0 N ops objs' (σ p) k X a w) : JY w0 N ops objs' (σ (p.put i y)) k X a w :=
  ⟨h.defers, h.size, h.mem, fun t c hc h1 h2 v hv => by
    rw [sigma_put hok hk h0 hop hX hni p y t c hc h1] at hv
    exact h.cut t c hc h1 h2 v hv⟩
/-- The objects that the makers among X gave (or that were there before: places behind the region's) and that none of X consumed. -/
def Live (M : Mks) (n k : Nat) (X : Nat → Prop) (i : Nat) : Prop := (i < n → X i) ∧ M.on i = true ∧ ∀ c, c < k → M.src c = some i → ¬ X c
def MO (M : Mks) (objs : Objs) (n k : Nat) (X : Nat → Prop) (p : Pt) (objs' : Objs) : Prop := ∃ l : List Nat, l.Nodup ∧ (∀ i, i ∈ l ↔ Live M n k X i) ∧ objs' = l.flatMap (fun i => M.O i p) ++ objs
theorem MO.sub {M : Mks} {n k : Nat} {X : Nat → Prop} {p : Pt} {objs' : Objs} (h : MO M objs n k X p objs') : ∀ x ∈ objs, x ∈ objs' := fun x hx => by
  obtain ⟨l, _, _, rfl⟩ := h
  exact List.mem_append_right _ hx
/-- The state of the region when X has been carried out. -/
def JM (w0 : World) (N : Nat) (ops : Array Oper) (objs : Objs) (M : Mks) (σ : Pt → Nat → Env) (k : Nat) (X : Nat → Prop) (a : Act) (w : World) : Prop :=
  ∃ p objs', MO M objs ops.size k X p objs' ∧ JY w0 N ops objs' (σ p) k X a w ∧ ∀ i, i < k → X i → M.on i = true → M.I i (p i)
theorem JM.congr {M : Mks} {σ : Pt → Nat → Env} {k : Nat} {X Y : Nat → Prop} {a : Act} {w : World} (h : JM w0 N ops objs M σ k X a w) (hXY : ∀ i, Y i ↔ X i) : JM w0 N ops objs M σ k Y a w := by
  have : Y = X := funext fun i => propext (hXY i)
  rw [this]; exact h
theorem chain_of {M : Mks} {k : Nat} {σ : Pt → Nat → Env} (hop : ∀ c o, c < k → ops[c]? = some o → OpM P w0 N ops objs M σ c o) (p : Pt) : Chain N ops k (σ p) := fun i o hi ho => by
  obtain ⟨T, _, h, _⟩ := hop i o hi ho
  rcases h with ⟨d, h1, h2, h3⟩ | ⟨h1, h3⟩
  · exact .inl ⟨d, T p, h1, h2, h3 p⟩
  · exact .inr ⟨h1, h3 p⟩
/-- One operation of many, in whatever order. -/
theorem jm_op (hok : drawOk ops = true) {k : Nat} (hk : k ≤ ops.size) {M : Mks} {σ : Pt → Nat → Env} (h0 : ∀ p p' t, lk t (σ p 0) = lk t (σ p' 0)) (hop : ∀ c o, c < k → ops[c]? = some o → OpM P w0 N ops objs M σ c o) (hinj : ∀ c c' i, c < k → c' < k → M.src c = some i → M.src c' = some i → c = c') (hps : ∀ j, ¬ j < ops.size → ∀ p p', M.O j p = M.O j p')
    {X : Nat → Prop} {a : Act} {w : World} (hJ : JM w0 N ops objs M σ k X a w) (hX : Closed ops X) (hXk : ∀ i, X i → i < k) {i : Nat} {o : Oper} (ho : ops[i]? = some o) (hik : i < k) (hni : ¬ X i) (hX' : Closed ops fun k => k = i ∨ X k)
    {K : Act → World → Prop} (hnext : ∀ a' w', JM w0 N ops objs M σ k (fun k => k = i ∨ X k) a' w' → K a' w') : wpOp P ops Q i K a w := by
  obtain ⟨p, objs', hMO, hJY, hI⟩ := hJ
  obtain ⟨T, hg, hs, hT, hcase⟩ := hop i o hik ho
  have hput : ∀ {objs1 objs2 : Objs} {p' : Pt} {v : Value} {w' : World}, JY w0 N ops objs1 (σ p') k X a w → Rep w' objs2 (T p') v → SimW w0 objs2 w' → Step w objs1 w' objs2 → JY w0 N ops objs2 (σ p') k (fun k => k = i ∨ X k) (a.put o.dst v) w' := fun {objs1 objs2 p' v w'} hJ hr hsw hst => by
    rcases hs with ⟨d, hd, hdN, hs⟩ | ⟨hd, _⟩
    · rw [hd]; exact jy_stepC hok hk hJ hX ho hik hni hd hdN (chain_of hop p') (hs p') hr hsw hst
    · rw [hd]; exact jy_stepN hJ ho hd hsw hst
  have hiz : i < ops.size := by omega
  have hread : ∀ {objs2 : Objs} (_ : JY w0 N ops objs2 (σ p) k X a w) (x : Operand), x ∈ o.op.operands.toList → ∀ v, ev (σ p i) x = some v → Rep w objs2 v (a.eval x) := fun hJ2 x hx v hv => by
    cases x with
    | tmp t =>
      have hl : t ∈ o.looksAt ops := by
        unfold Oper.looksAt
        exact List.mem_append_left _ (List.mem_filterMap.2 ⟨.tmp t, hx, rfl⟩)
      exact jy_read hok hk hJ2 hX hXk ho hik hni hX' hl hv
    | const u => exact tvOf_rep hv
    | func f => simp only [ev, Option.some.injEq] at hv; subst hv; exact .fn f [] #[] rfl (by simp)
    | global g => cases hv
  have hw : Region.wanted o (yielded ops a.tmps) = true := by simp [Region.wanted, hg]
  unfold wpOp
  rw [ho]
  simp only [hw, if_true]
  have hbef : ∀ m, Ahead ops i m → m ≠ i → X m := fun m hm hne => by
    rcases hm with h | ⟨h1, h2⟩
    · exact absurd h hne
    · rcases closed_reach hok hX' i hiz (.inl rfl) m h1 h2 with h | h
      · exact absurd h hne
      · exact h
  have hnb : ∀ c, X c → ¬ Ahead ops c i := fun c hc hm => by
    rcases hm with h | ⟨h1, h2⟩
    · exact hni (h ▸ hc)
    · exact hni (closed_reach hok hX c (Nat.lt_of_lt_of_le (hXk c hc) hk) hc i h1 h2)
  rcases hcase with ⟨hmk, hsrc, hy⟩ | ⟨hmk, hO, hsrc, hmake⟩
  · refine .inl (hy p objs' hMO.sub a w _ Q hJY.mem (hread hJY) fun v w' hr hsw hst => ?_)
    refine hnext _ _ ⟨p, objs', ?_, hput hJY hr hsw hst, fun j hj hx hm => ?_⟩
    · obtain ⟨l, h1, h2, h3⟩ := hMO
      refine ⟨l, h1, fun j => (h2 j).trans ?_, h3⟩
      unfold Live
      constructor
      · rintro ⟨e2, e3, e4⟩
        refine ⟨fun h => .inr (e2 h), e3, fun c hc hsc hx => ?_⟩
        rcases hx with rfl | hx
        · rw [hsrc] at hsc; cases hsc
        · exact e4 c hc hsc hx
      · rintro ⟨e2, e3, e4⟩
        exact ⟨fun h => (e2 h).resolve_left fun e => (by subst e; rw [hmk] at e3; cases e3), e3, fun c hc hsc hx => e4 c hc hsc (.inr hx)⟩
    · rcases hx with rfl | hx
      · rw [hmk] at hm; cases hm
      · exact hI j hj hx hm
  · obtain ⟨l, hnd, hl, rfl⟩ := hMO
    -- what stays
    have hstay : ∃ l2 : List Nat, l2.Nodup ∧ (∀ j, j ∈ l2 ↔ Live M ops.size k X j ∧ M.src i ≠ some j) ∧ (l.flatMap (fun i => M.O i p)).Perm (M.cons i p ++ l2.flatMap fun i => M.O i p) := by
      unfold Mks.cons
      cases hsc : M.src i with
      | none => exact ⟨l, hnd, fun j => by rw [hl]; simp, .refl _⟩
      | some s =>
        obtain ⟨hne, hah, hms⟩ := hsrc s hsc
        have hsl : s ∈ l := (hl s).2 ⟨fun h => hbef s (hah h) hne, hms, fun c hc hc2 hx => hni (hinj c i s hc hik hc2 hsc ▸ hx)⟩
        refine ⟨l.erase s, hnd.erase s, fun j => ?_, ?_⟩
        · rw [hnd.mem_erase_iff, hl]
          constructor
          · rintro ⟨e1, e2⟩; exact ⟨e2, fun h => e1 (Option.some.inj h).symm⟩
          · rintro ⟨e1, e2⟩; exact ⟨fun h => e2 (by rw [h]), e1⟩
        · have := (List.perm_cons_erase hsl).flatMap_right fun i => M.O i p
          rwa [List.flatMap_cons] at this
    obtain ⟨l2, hnd2, hl2, hperm⟩ := hstay
    have hpk : Pick (M.cons i p ++ (l2.flatMap (fun i => M.O i p) ++ objs)) (l.flatMap (fun i => M.O i p) ++ objs) := .perm (by
      rw [← List.append_assoc]
      exact (hperm.append_right objs).symm)
    have hJ2 := hJY.pick hpk
    refine .inl (hmake p (l2.flatMap (fun i => M.O i p) ++ objs) (fun x hx => List.mem_append_right _ hx) a w _ Q hJ2.mem (hread hJ2) fun y v w' hIy hsw hst hr => ?_)
    have heq : l2.flatMap (fun j => M.O j (p.put i y)) = l2.flatMap fun j => M.O j p := by
      have : ∀ l3 : List Nat, (∀ j ∈ l3, j ∈ l2) → l3.flatMap (fun j => M.O j (p.put i y)) = l3.flatMap fun j => M.O j p := fun l3 => by
        induction l3 with
        | nil => intro _; rfl
        | cons j r ih =>
          intro h
          have hlj := ((hl2 j).1 (h j List.mem_cons_self)).1
          rw [List.flatMap_cons, List.flatMap_cons, ih fun x hx => h x (List.mem_cons_of_mem _ hx)]
          by_cases hjs : j < ops.size
          · have hoj : ops[j]? = some ops[j] := by simp [hjs]
            have hXj := hlj.1 hjs
            obtain ⟨_, _, _, _, hcj⟩ := hop j _ (hXk j hXj) hoj
            have hOj : IndT ops j (M.O j) := by
              rcases hcj with ⟨e, _⟩ | ⟨_, e, _⟩
              · rw [hlj.2.1] at e; cases e
              · exact e
            rw [hOj (p.put i y) p fun m hm => Pt.put_ne fun e => hnb j hXj (e ▸ hm)]
          · rw [hps j hjs (p.put i y) p]
      exact this l2 fun _ h => h
    refine hnext _ _ ⟨p.put i y, M.O i (p.put i y) ++ (l2.flatMap (fun i => M.O i p) ++ objs), ?_, hput (hJ2.put hok hk h0 hop hX hni y) hr hsw hst, fun j hj hx hm => ?_⟩
    · refine ⟨i :: l2, List.nodup_cons.2 ⟨fun h => hni (((hl2 i).1 h).1.1 hiz), hnd2⟩, fun j => ?_, by rw [List.flatMap_cons, heq, List.append_assoc]⟩
      rw [List.mem_cons, hl2]
      unfold Live
      constructor
      · rintro (rfl | ⟨⟨e2, e3, e4⟩, e5⟩)
        · refine ⟨fun _ => .inl rfl, hmk, fun c hc hsc hx => ?_⟩
          have hcs : c < ops.size := by omega
          have hoc : ops[c]? = some ops[c] := by simp [hcs]
          obtain ⟨_, _, _, _, hcc⟩ := hop c _ hc hoc
          rcases hcc with ⟨_, e, _⟩ | ⟨_, _, e, _⟩
          · rw [hsc] at e; cases e
          · obtain ⟨e1, e2, _⟩ := e j hsc
            rcases hx with rfl | hx
            · exact e1 rfl
            · exact hnb c hx (e2 hiz)
        · refine ⟨fun h => .inr (e2 h), e3, fun c hc hsc hx => ?_⟩
          rcases hx with rfl | hx
          · exact e5 hsc
          · exact e4 c hc hsc hx
      · rintro ⟨e2, e3, e4⟩
        by_cases hji : j = i
        · exact .inl hji
        · exact .inr ⟨⟨fun h => (e2 h).resolve_left hji, e3, fun c hc hsc hx => e4 c hc hsc (.inr hx)⟩, fun h => e4 i hik h (.inl rfl)⟩
    · rcases hx with rfl | hx
      · rw [Pt.put_eq]; exact hIy
      · rw [Pt.put_ne (fun e : j = i => hni (e ▸ hx))]
        exact hI j hj hx hm
theorem jm_start (hok : drawOk ops = true) {k : Nat} (hk : k ≤ ops.size) (htl : tailOk ops k = true) {M : Mks} {σ : Pt → Nat → Env} (_hop : ∀ c o, c < k → ops[c]? = some o → OpM P w0 N ops objs M σ c o) {ms : List Nat} (hms : ms.Nodup) (hmem : ∀ i, i ∈ ms ↔ Live M ops.size k (· < k) i)
    (hQ : ∀ p : Pt, (∀ i, i < k → M.on i = true → M.I i (p i)) → AL P w0 N ops Q (ops.toList.drop k) (σ p k) (ms.flatMap (fun i => M.O i p) ++ objs)) {fuel : Nat} {listed : Array Bool} {a : Act} {w : World} (hsz : listed.size = ops.size) (hun : unlisted listed ≤ fuel) (hXk : ∀ i, listed.getD i false = true → i < k)
    (hall : ∀ j, j < k → listed.getD j false = true) (hJ : JM w0 N ops objs M σ k (fun i => listed.getD i false = true) a w) : wpAny P .any ops Q fuel listed a w := by
  obtain ⟨p, objs', ⟨l, hnd, hl, rfl⟩, hJY, hI⟩ := hJ
  have hp : ms.Perm l := (List.perm_ext_iff_of_nodup hms hnd).2 fun i => by
    rw [hmem, hl]
    unfold Live
    exact ⟨fun ⟨e2, e3, e4⟩ => ⟨fun h => hall i (e2 h), e3, fun c hc hs _ => e4 c hc hs hc⟩, fun ⟨e2, e3, e4⟩ => ⟨fun h => hXk i (e2 h), e3, fun c hc hs _ => e4 c hc hs (hall c hc)⟩⟩
  exact seq_start hok hk htl (hQ p fun i hi hm => hI i hi (hall i hi) hm) hsz hun hXk hall (hJY.pick (.perm ((hp.flatMap_right fun i => M.O i p).append_right objs)))
theorem any_of_jm (hok : drawOk ops = true) {k : Nat} (hk : k ≤ ops.size) (htl : tailOk ops k = true) {M : Mks} {σ : Pt → Nat → Env} (hz : ∀ p p' t, lk t (σ p 0) = lk t (σ p' 0)) (hop : ∀ c o, c < k → ops[c]? = some o → OpM P w0 N ops objs M σ c o) (hinj : ∀ c c' i, c < k → c' < k → M.src c = some i → M.src c' = some i → c = c') (hps : ∀ j, ¬ j < ops.size → ∀ p p', M.O j p = M.O j p')
    {ms : List Nat} (hms : ms.Nodup) (hmem : ∀ i, i ∈ ms ↔ Live M ops.size k (· < k) i) (hQ : ∀ p : Pt, (∀ i, i < k → M.on i = true → M.I i (p i)) → AL P w0 N ops Q (ops.toList.drop k) (σ p k) (ms.flatMap (fun i => M.O i p) ++ objs)) :
    ∀ (fuel : Nat) (listed : Array Bool) (a : Act) (w : World), listed.size = ops.size → unlisted listed ≤ fuel → (∀ i, listed.getD i false = true → i < k) → Closed ops (fun i => listed.getD i false = true) → JM w0 N ops objs M σ k (fun i => listed.getD i false = true) a w → wpAny P .any ops Q fuel listed a w := by
  intro fuel
  induction fuel with
  | zero =>
    intro listed a w hsz hun hXk hX hJ
    by_cases hall : ∀ j, j < k → listed.getD j false = true
    · exact jm_start hok hk htl hop hms hmem hQ hsz hun hXk hall hJ
    · exfalso
      apply hall
      intro j hj
      cases hb : listed.getD j false with
      | true => rfl
      | false =>
        exfalso
        have hjl : j < listed.size := by omega
        have : listed[j] ∈ listed.toList.filter (! ·) := List.mem_filter.2 ⟨by simp, by
          simp only [Array.getD_eq_getD_getElem?, Array.getElem?_eq_getElem hjl, Option.getD_some] at hb; simp [hb]⟩
        have := List.length_pos_of_mem this
        unfold unlisted at hun; omega
  | succ fuel ih =>
    intro listed a w hsz hun hXk hX hJ
    by_cases hall : ∀ j, j < k → listed.getD j false = true
    · exact jm_start hok hk htl hop hms hmem hQ hsz hun hXk hall hJ
    have hsome : ∃ j, j < k ∧ ¬ listed.getD j false = true := by
      refine Classical.byContradiction fun hn => hall fun j hj => Classical.byContradiction fun h => hn ⟨j, hj, h⟩
    refine ⟨fun hr => ?_, fun i hi => ?_⟩
    · exfalso
      have hall2 : ∀ j, j < ops.size → listed.getD j false = true := by
        intro j
        induction j using Nat.strongRecOn with
        | _ j ih =>
          intro hj
          cases hb : listed.getD j false with
          | true => rfl
          | false =>
            have hoj : ops[j]? = some ops[j] := by simp [hj]
            have hmem : j ∈ Region.ready .any ops listed := mem_ready.2 ⟨by
              have hjl : j < listed.size := by omega
              simp only [Array.getD_eq_getD_getElem?, Array.getElem?_eq_getElem hjl, Option.getD_some] at hb ⊢; exact hb, _, hoj, fun e he hbd => ih e.on ((drawOk_spec hok hoj).1 e he hbd) (Nat.lt_trans ((drawOk_spec hok hoj).1 e he hbd) hj)⟩
            rw [hr] at hmem; cases hmem
      obtain ⟨j, hj, hnj⟩ := hsome
      exact hnj (hall2 j (by omega))
    · obtain ⟨h0, o, ho, hed⟩ := mem_ready.1 hi
      have hisz : i < ops.size := (Array.getElem?_eq_some_iff.1 ho).1
      have hil : i < listed.size := by rw [hsz]; exact hisz
      have h0' : listed[i] = false := by simpa [Array.getD_eq_getD_getElem?, hil] using h0
      have hni : ¬ listed.getD i false = true := by simp [hil, h0']
      have hXeq : ∀ k, (listed.setIfInBounds i true).getD k false = true ↔ (k = i ∨ listed.getD k false = true) := fun k => by
        by_cases hk : k = i
        · subst hk; simp [hil]
        · rw [getD_set_ne false (Ne.symm hk)]; simp [hk]
      have hX' : Closed ops fun k => k = i ∨ listed.getD k false = true := fun j oj hj hx e he hb => by
        rcases hx with rfl | hx
        · rw [hj] at ho; cases ho; exact .inr (hed e he hb)
        · exact .inr (hX j oj hj hx e he hb)
      have hik : i < k := Nat.lt_of_not_le fun hge => by
        obtain ⟨j, hj, hnj⟩ := hsome
        have := closed_reach hok hX' i hisz (.inl rfl) j (by omega) (tailOk_spec htl hisz hge (by omega))
        rcases this with h | h
        · omega
        · exact hnj h
      have hXs : Closed ops fun k => (listed.setIfInBounds i true).getD k false = true := fun j oj hj hx e he hb => (hXeq _).2 (hX' j oj hj ((hXeq _).1 hx) e he hb)
      have hun' : unlisted (listed.setIfInBounds i true) ≤ fuel := by
        have key : ∀ (l : List Bool) (i : Nat), l[i]? = some false → ((l.set i true).filter (! ·)).length + 1 = (l.filter (! ·)).length := fun l => by
          induction l with
          | nil => intro i h; simp at h
          | cons x l ih =>
            intro i h
            cases i with
            | zero => simp at h; subst h; simp
            | succ i =>
              have := ih i (by simpa using h)
              cases x <;> simp at this ⊢ <;> omega
        have := key listed.toList i (by simp [hil, h0'])
        unfold unlisted at hun ⊢
        simp only [Array.toList_setIfInBounds]
        omega
      have hnext : ∀ a' w', JM w0 N ops objs M σ k (fun k => k = i ∨ listed.getD k false = true) a' w' → wpAny P .any ops Q fuel (listed.setIfInBounds i true) a' w' := fun a' w' hJ' =>
        ih _ a' w' (by simpa using hsz) hun' (fun j hj => ((hXeq j).1 hj).elim (fun e => e ▸ hik) (hXk j)) hXs (hJ'.congr hXeq)
      exact jm_op hok hk hz hop hinj hps hJ hX hXk ho hik hni hX' hnext
end
end Go.Proofs.YthpdkhejeookhaaGreatDoor
