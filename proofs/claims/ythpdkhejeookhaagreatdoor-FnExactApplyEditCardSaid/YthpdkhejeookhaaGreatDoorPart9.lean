/- Part 9 of the proof: the texts SdF, IvQ, IvR, RsP, EdP, ApP, OpP, EngAG, EngAH, EngAI, RsA, IvF, IvT. -/
import Derived.Test.YthpdkhejeookhaaGreatDoorPart6
import Derived.Test.YthpdkhejeookhaaGreatDoorPart8
import Derived.Test.YthpdkhejeookhaaGreatDoorPart5
import Derived.Test.YthpdkhejeookhaaGreatDoorPart4
/- StackDepths by the engine: the program's StackDepths: what is asked of the instructions one by one. -/
namespace Go.Proofs.YthpdkhejeookhaaGreatDoor
set_option maxRecDepth 20000
open Go Go.RowKit
theorem labOff_mem {op : Int} {o : Nat} (h : o ∈ labOff op) : o = 1 ∨ o = 2 := by
  unfold labOff at h
  repeat' split at h
  all_goals first
    | (simp at h; done)
    | (simp at h; omega)
    | skip
theorem labOff_le (op : Int) : (labOff op).length ≤ 2 := by
  unfold labOff
  repeat' split
  all_goals simp
theorem labR_length (op : Int) (s b : Nat) : (labR op s b).length = (labOff op).length := by simp [labR]
theorem labR_get {op : Int} {s b q : Nat} (h : q < (labOff op).length) : (labR op s b)[q]? = some [.mp s b (labOff op)[q]] := by simp [labR, h]
def labV (a b : Int) (o : Nat) : Int := if o = 1 then a else b
theorem labs_eq2 (op a b : Int) (t : ByteArray) : TInstr.labs ⟨op, a, b, t⟩ = (labOff op).map (labV a b) := labs_eq op a b t
theorem all_snoc {α : Type} {p : α → Bool} {l : List α} {q : Nat} (h : q < l.length) (ha : (l.take q).all p = true) : (l.take (q + 1)).all p = p l[q] := by
  rw [List.take_add_one, List.all_append, ha, List.getElem?_eq_getElem h]; simp
theorem all_bad {α : Type} {p : α → Bool} {l : List α} {q : Nat} (h : q < l.length) (hb : p l[q] = false) : l.all p = false := by
  rw [List.all_eq_false]; exact ⟨_, List.getElem_mem h, by rw [hb]; simp⟩
theorem pushI_cons (n : Nat) (p d : Int) (r : List (Int × Int)) (ds : List Int) (q : List Nat) : pushI n ((p, d) :: r) (ds, q) = if badI n ds p d then none else if gd ds p < 0 then pushI n r (ds.set p.toNat d, q ++ [p.toNat]) else pushI n r (ds, q) := rfl
/-- Whether the program takes an instruction for bad at first sight. -/
def badOp (op : Int) (t : ByteArray) : Bool := !inR op 1 26 || ((decide (op = 13) || decide (op = 14)) && decide (nArgsL t.data.toList < 0))
theorem preOkI_eq (n : Nat) (op a b : Int) (t : ByteArray) : preOkI n ⟨op, a, b, t⟩ = (!badOp op t && ((labOff op).all fun o => inR (labV a b o) 0 ((n : Int) - 1))) := by
  unfold preOkI badOp
  rw [labs_eq2, List.all_map]
  have h1 : decide (0 ≤ nArgsL t.data.toList) = !decide (nArgsL t.data.toList < 0) := by
    rw [← decide_not]; exact decide_eq_decide.2 (by omega)
  rw [h1]
  cases inR op 1 26 <;> cases decide (op = 13) <;> cases decide (op = 14) <;> cases decide (nArgsL t.data.toList < 0) <;> rfl

set_option maxRecDepth 4000 in
set_option maxHeartbeats 4000000 in
theorem stackDepths_ct {G : World → Prop} (hst : Stable G) (hca : ∀ s : ByteArray, s.size ≤ 1048576 → Ct Tryz.prog G 119 [.str s] (fun _ => .int .i64 (nArgsL s.data.toList)))
    (l2 : Nat) (bl : Bool) (pr sl : Int) (is : List TInstr) (hn : is.length ≤ 1048576) (ht : ∀ i ∈ is, i.text.size ≤ 1048576) :
    CtM Tryz.prog G 58 [.agg [.bool bl, .int .i64 pr, .int .i64 sl, .sl l2 4 (instrR is)]] [] (fun _ : Nat × Nat => True) (dO (depthsL is)) (dR (depthsL is)) := by
  refine ctm_enter Tryz.func58 rfl Tryz.ntmps58 rfl rfl rfl fun w0 R gs objsR hG hR => ?_
  obtain rfl := hR.inv0
  clear hR
  have hlen := instrR_length is
  by_cases hz : is.length = 0
  · have hd : depthsL is = none := by unfold depthsL; rw [if_pos hz]
    rw [hd]
    repeat' (first | ((with_reducible apply o_y); exact y_; rfl) | refine e_box ?_ | with_reducible refine al_none rfl ?_ | (with_reducible first | apply aw_seq | apply aw_region | apply al_nil | apply aq_then | apply aw_ret | apply aq_then_ret) | (refine aw_cond_dt rfl rr_ dd_ ?_))
    refine aq_nils 2 1 (by omega) rfl fun ss => aq_retm2 x_ rfl (ss, 0) trivial rfl (.cons _ _ _ _ (.nil R)) pk_ (.tmp _ _ rfl) (.tmp _ _ rfl) rfl
  have hnz : 0 < is.length := by omega
  have hc1 : ((is.length - 1 : Nat) : Int) = (is.length : Int) - 1 := by omega
  have hnone : preOk is = false → depthsL is = none := fun h => by unfold depthsL; rw [h]; simp
  repeat' (first | ((with_reducible apply o_y); exact y_; rfl) | refine e_box ?_ | with_reducible refine al_none rfl ?_ | (with_reducible first | apply aw_seq | apply aw_region | apply al_nil | apply aq_then | apply aw_block | apply aw_skip) | (refine aw_cond_df rfl rr_ dd_ ?_))
  apply aw_loopk (X := Nat) [1, 4, 26, 1000000] (fun i => [(27, .int .i64 (i : Int))]) (fun _ => R) (fun i => i ≤ is.length ∧ (is.take i).all (preOkI is.length) = true) (fun i => is.length - i) 0 ⟨Nat.zero_le _, rfl⟩
  exact kp_; (repeat (first | exact Weak.envNil | refine Weak.envCons we_ ?_))
  · exact .refl _
  rintro i ⟨hi, hall⟩
  try dsimp only
  by_cases hlt : i < is.length
  · have hii : (instrR is)[i]? = some (is[i]).tv := by simp only [instrR, List.getElem?_map]; rw [List.getElem?_eq_getElem hlt]; rfl
    have htk := all_snoc hlt hall
    have hbad := fun h => hnone (all_bad (p := preOkI is.length) hlt h)
    have hti := ht _ (List.getElem_mem hlt)
    generalize is[i] = ii at hii hti htk hbad
    obtain ⟨op, a, b, t⟩ := ii
    rw [preOkI_eq] at htk hbad
    replace hii : (instrR is)[i]? = some [.int .i64 op, .int .i64 a, .int .i64 b, .str t] := hii
    replace hti : t.size ≤ 1048576 := hti
    repeat' (first | ((with_reducible apply o_y); exact y_; rfl) | (refine e_alloc ?_; intro ss bb) | refine e_storep ?_ | with_reducible refine aw_hold_r (id := 8) ?_ | with_reducible refine al_none rfl ?_ | (with_reducible first | apply aw_seq | apply aw_region | apply al_nil | apply aq_then | apply aw_block | apply aw_skip) | (refine aw_cond_dt rfl rr_ dd_ ?_))
    refine ⟨aw_seq ?_⟩
    generalize ss = s6; generalize bb = b6
    apply aw_join (X := Unit) [1, 4, 6, 26, 27, 1000000] (fun _ => [(54, .bool (badOp op t))]) (fun _ => (s6, b6, .box [.int .i64 op, .int .i64 a, .int .i64 b, .str t]) :: R) (fun _ => True)
    case _hk => (repeat (first | exact Kept.nil | (apply Kept.cons; rfl)))
    · clear hbad htk hall hii ht
      repeat' (first | ((with_reducible apply o_y); exact y_; rfl) | refine e_call hG hst (within_ct _ _ _) ?_ | refine e_call hG hst (hca _ hti) ?_ | with_reducible refine al_none rfl ?_ | (with_reducible first | apply aw_region | apply al_nil) | refine al_run rfl rfl rfl rr_ ?_ | refine al_skip rfl rfl rfl rr_ rfl rfl rfl ?_ | refine al_skip2 rfl rfl rfl rr_ rfl rfl ?_ | (refine al_gsplit rfl rfl rfl rr_ (fun hg => ?_) (fun hg => ?_)) | (refine al_gsplit_b rfl rfl rfl rr_ (fun hg => ?_) (fun hg => ?_)))
      all_goals
        refine aq_mid () trivial (.of _ (Weak.envCons (lk_bool rfl ?_) Weak.envNil) od_ pk_)
        first
          | (simp [badOp, *]; done)
          | (simp [badOp, *]; simp [inR]; done)
    intro _ _
    by_cases hb1 : badOp op t = true
    · have hd := hbad (by rw [hb1]; rfl)
      rw [hb1, hd]
      repeat' (first | with_reducible refine al_none rfl ?_ | ((with_reducible apply o_assign); rfl; rfl) | with_reducible refine aw_seq ?_ | with_reducible refine aw_region ?_ | with_reducible refine al_nil ?_ | with_reducible refine aq_then ?_ | with_reducible refine aw_ret ?_ | with_reducible refine aq_then_ret ?_ | with_reducible refine aq_block_ret ?_ | refine aw_cond_t rfl rr_ ?_)
      refine aq_nils 2 1 (by omega) rfl fun ss => aq_retm2 x_ rfl (ss, 0) trivial rfl (.cons _ _ _ _ (.nil R)) pk_ (.tmp _ _ rfl) (.tmp _ _ rfl) rfl
    rw [Bool.not_eq_true] at hb1
    rw [hb1] at htk hbad
    simp only [Bool.not_false, Bool.true_and] at htk hbad
    rw [hb1]
    have hlr := labR_length op s6 b6
    have hol := labOff_le op
    repeat' (first | ((with_reducible apply o_y); exact y_; rfl) | ((with_reducible apply o_callM); rfl; kernel_rfl; (repeat (first | exact ArgsM.nil | ((with_reducible apply ArgsM.cons); rfl))); exact hG; exact labelsOf_ct s6 b6 op a b t; exact .cons _ _ _ _ (.nil _); intro y _; obtain ⟨sl5, bl5⟩ := y; refine al_app2 ?_) | with_reducible refine al_none rfl ?_ | (with_reducible first | apply aw_seq | apply aw_region | apply al_nil | apply aq_then | apply aw_block | apply aw_skip) | refine aw_cond_f rfl rr_ ?_)
    apply aw_loopk (X := Nat) [1, 4, 26, 27, 55, 56, 1000000] (fun q => [(57, .int .i64 (q : Int))]) (fun _ => (sl5, bl5, .row 1 (labR op s6 b6)) :: (s6, b6, .box [.int .i64 op, .int .i64 a, .int .i64 b, .str t]) :: R) (fun q => q ≤ (labOff op).length ∧ ((labOff op).take q).all (fun o => inR (labV a b o) 0 ((is.length : Int) - 1)) = true) (fun q => (labOff op).length - q) 0 ⟨Nat.zero_le _, rfl⟩
    exact kp_; (repeat (first | exact Weak.envNil | refine Weak.envCons we_ ?_))
    · exact .refl _
    rintro q ⟨hq, hqa⟩
    try dsimp only
    by_cases hql : q < (labOff op).length
    · have hrow := labR_get (s := s6) (b := b6) hql
      have hqk := all_snoc hql hqa
      have hqb := fun h => hbad (all_bad (p := fun o => inR (labV a b o) 0 ((is.length : Int) - 1)) hql h)
      have hmem := labOff_mem (List.getElem_mem hql)
      generalize (labOff op)[q] = o at hrow hqk hqb hmem
      by_cases hin : inR (labV a b o) 0 ((is.length : Int) - 1) = true
      · have hw : ∀ G, Ct Tryz.prog G 57 [.int .i64 (labV a b o), .int .i64 0, .int .i64 ((is.length - 1 : Nat) : Int)] (fun _ => .bool true) := fun G => by rw [hc1, ← hin]; exact within_ct _ _ _
        rcases hmem with rfl | rfl
        all_goals
          first | rw [show labV a b 1 = a from rfl] at hw | rw [show labV a b 2 = b from rfl] at hw
          repeat' (first | ((with_reducible apply o_y); exact y_; rfl) | refine e_call hG hst (hw _) ?_ | with_reducible refine al_none rfl ?_ | (with_reducible first | apply aw_seq | apply aw_region | apply al_nil | apply aq_then | apply aw_block | apply aw_skip | apply aq_block) | refine aw_cond_f rfl rr_ ?_ | (refine aw_cond_dt rfl rr_ dd_ ?_))
          exact aq_round (q + 1) ⟨by omega, by rw [hqk, hin]⟩ (by omega) (.of _ nw_ od_ pk_)
      · rw [Bool.not_eq_true] at hin
        have hd := hqb hin
        rw [hd]
        have hw : ∀ G, Ct Tryz.prog G 57 [.int .i64 (labV a b o), .int .i64 0, .int .i64 ((is.length - 1 : Nat) : Int)] (fun _ => .bool false) := fun G => by rw [hc1, ← hin]; exact within_ct _ _ _
        rcases hmem with rfl | rfl
        all_goals
          first | rw [show labV a b 1 = a from rfl] at hw | rw [show labV a b 2 = b from rfl] at hw
          repeat' (first | ((with_reducible apply o_y); exact y_; rfl) | refine e_call hG hst (hw _) ?_ | with_reducible refine al_none rfl ?_ | (with_reducible first | apply aw_seq | apply aw_region | apply al_nil | apply aq_then | apply aw_block | apply aw_skip | apply aw_ret | apply aq_then_ret | apply aq_block_ret) | refine aw_cond_t rfl rr_ ?_ | (refine aw_cond_dt rfl rr_ dd_ ?_))
          refine aq_nils 2 1 (by omega) rfl fun ss => aq_retm2 x_ rfl (ss, 0) trivial rfl (.cons _ _ _ _ (.nil R)) pk_ (.tmp _ _ rfl) (.tmp _ _ rfl) rfl
    · rw [List.take_of_length_le (by omega)] at hqa
      rw [hqa] at htk
      repeat' (first | ((with_reducible apply o_y); exact y_; rfl) | with_reducible refine al_none rfl ?_ | (with_reducible first | apply aw_seq | apply aw_region | apply al_nil | apply aq_then | apply aw_exit | apply aq_block_hit | apply aq_then_exit | apply aq_block) | (refine aw_cond_df rfl rr_ dd_ ?_))
      exact aq_round (i + 1) ⟨by omega, htk⟩ (by omega) (.of _ nw_ od_ pk_)
  · rw [List.take_of_length_le (by omega)] at hall
    have hd : depthsL is = flow is (stepI is) is.length (0 :: List.replicate (is.length - 1) (-1)) [0] := by
      unfold depthsL; rw [if_neg hz, if_pos (show preOk is = true from hall)]
    have hn1 : 1 ≤ is.length := hnz
    have hset : (intR (List.replicate is.length (-1))).set 0 [.int .i64 0] = intR (0 :: List.replicate (is.length - 1) (-1)) := by
      have e : is.length = (is.length - 1) + 1 := by omega
      rw [e, List.replicate_succ]; rfl
    have hrow0 : (intR (List.replicate is.length (-1)))[0]? = some [.int .i64 (-1)] := by
      have e : is.length = (is.length - 1) + 1 := by omega
      rw [e, List.replicate_succ]; rfl
    have hrep := fun lo => repeat_ct (G := G) lo is.length hn1 hn
    repeat' (first | ((with_reducible apply o_y); exact y_; rfl) | refine e_lit ?_ | refine e_store ?_ | ((with_reducible apply o_callM); rfl; kernel_rfl; (repeat (first | exact ArgsM.nil | ((with_reducible apply ArgsM.cons); rfl))); exact hG; exact hrep _; exact .nil _; intro y _; obtain ⟨ss, bb⟩ := y; refine al_app1 ?_) | with_reducible refine aw_hold_r (id := 19) ?_ | with_reducible refine al_none rfl ?_ | (with_reducible first | apply aw_seq | apply aw_region | apply al_nil | apply aq_then | apply aw_exit | apply aq_block_hit | apply aq_then_exit) | (refine aw_cond_df rfl rr_ dd_ ?_))
    refine ⟨?_⟩
    generalize ss = sd; generalize bb = bd
    repeat' (first | ((with_reducible apply o_y); exact y_; rfl) | (refine e_own ?_; intro ss bb) | with_reducible refine al_none rfl ?_ | (with_reducible first | apply aw_seq | apply aw_region | apply al_nil | apply aq_then | apply aw_block))
    generalize ss = st; generalize bb = bt
    rw [hset]
    have hpo : preOk is = true := hall
    clear hset hrow0 hrep hlt hnone hall hi
    apply aw_loopk (X := List Int × List Nat × List (List TV) × Nat × Nat) [1, 4, 9, 1000000] (fun x => [(10, .ms st x.2.2.2.1 x.2.2.1.length x.2.1.length)]) (fun x => (st, x.2.2.2.1, .row 1 (x.2.2.1 ++ intR (nts x.2.1))) :: (sd, bd, .row 1 (intR x.1)) :: R)
      (fun x => x.2.2.2.2 ≤ is.length ∧ DSt is.length x.1 x.2.1 x.2.2.2.2 ∧ flow is (stepI is) x.2.2.2.2 x.1 x.2.1 = depthsL is) (fun x => x.2.2.2.2) (0 :: List.replicate (is.length - 1) (-1), [0], [], bt, is.length) ⟨Nat.le_refl _, start_st hn1, hd.symm⟩
    exact kp_; (repeat (first | exact Weak.envNil | refine Weak.envCons we_ ?_))
    · exact .refl _
    rintro ⟨ds, q, pre, bt, f⟩ ⟨hf, hD, hfl⟩
    dsimp only at hf hD hfl ⊢
    cases q with
    | nil =>
      have hdl := hD.len
      have hd' : depthsL is = some ds := by rw [← hfl]; simp [flow]
      have h00 : ([] : List Nat).length = 0 := rfl
      rw [hd']
      repeat' (first | ((with_reducible apply o_y); exact y_; rfl) | with_reducible refine al_none rfl ?_ | (with_reducible first | apply aw_seq | apply aw_region | apply al_nil | apply aq_then | apply aw_exit | apply aw_ret | apply aq_block_hit | apply aq_then_exit) | (refine aw_cond_df rfl rr_ dd_ ?_))
      refine aq_retm2 x_ rfl (sd, bd) trivial rfl (.cons _ _ _ _ (.nil R)) pk_ (.tmp _ _ rfl) (.tmp _ _ rfl) (by simp [dR, hdl])
    | cons p q =>
    obtain ⟨j, rfl, hD', hpn, hg0⟩ := hD.pop
    clear hD
    have hlc : (p :: q).length = q.length + 1 := rfl
    rw [flow_cons _ _ _ _ _ hpn] at hfl
    have hrange := hD'.inv.gd (p : Nat)
    have hdl := hD'.len
    have hmu := hD'.mu
    have hgp : (pre ++ intR (nts (p :: q)))[pre.length + 0]? = some [.int .i64 (p : Int)] := by
      rw [Nat.add_zero, List.getElem?_append_right (Nat.le_refl _), Nat.sub_self]; rfl
    have hdi : (intR ds)[p]? = some [.int .i64 (gd ds (p : Nat))] := by
      have h9 := gd_get (ds := ds) (p := p) (by omega)
      simp only [intR, List.getElem?_map]
      rw [List.getElem?_eq_getElem (by omega), h9]; rfl
    have hii : (instrR is)[p]? = some (is[p]).tv := by simp only [instrR, List.getElem?_map]; rw [List.getElem?_eq_getElem hpn]; rfl
    have hpi : preOkI is.length is[p] = true := List.all_eq_true.1 hpo _ (List.getElem_mem _)
    have hti := ht _ (List.getElem_mem hpn)
    generalize is[p] = ii at hfl hii hpi hti
    obtain ⟨op, a, b, t⟩ := ii
    replace hti : t.size ≤ 1048576 := hti
    have her := eff_range ⟨op, a, b, t⟩
    have hop : inR op 1 26 = true := by simp only [preOkI, Bool.and_eq_true] at hpi; exact hpi.1.1
    have hef := effect_ct hst hca op a b t hti hop
    have hnx := next_ct hst hca op a b t p (gd ds p) hti hop (by omega) ⟨hg0, hrange.2⟩
    replace hii : (instrR is)[p]? = some [.int .i64 op, .int .i64 a, .int .i64 b, .str t] := hii
    have hstep : stepI is ⟨op, a, b, t⟩ p ds = if gd ds p < (TInstr.eff ⟨op, a, b, t⟩).1 then none else if (TInstr.labs ⟨op, a, b, t⟩).any (backI is p op) then none else pushI is.length (TInstr.nexts ⟨op, a, b, t⟩ p (gd ds p)) (ds, []) := rfl
    rw [hstep, labs_eq2, List.any_map] at hfl
    clear hstep
    have hpi0 := hpi
    rw [preOkI_eq, Bool.and_eq_true] at hpi
    have hlb := hpi.2
    clear hpi
    have hn0 : ¬ gd ds p < (TInstr.eff ⟨op, a, b, t⟩).1 → ∀ x ∈ TInstr.nexts ⟨op, a, b, t⟩ p (gd ds p), 0 ≤ x.2 := fun h => nexts_nonneg ⟨op, a, b, t⟩ p (gd ds p) hg0 h fun h14 => by
      have := hpi0
      simp only [preOkI, Bool.and_eq_true] at this
      have h3 := this.1.2
      simp [show op = 14 from h14] at h3
      simp [TInstr.eff, show op = 14 from h14]; exact h3
    clear hpi0
    have hnl := nexts_len ⟨op, a, b, t⟩ p (gd ds p)
    generalize TInstr.nexts ⟨op, a, b, t⟩ p (gd ds p) = L at *
    generalize (TInstr.eff ⟨op, a, b, t⟩).1 = e1 at *
    generalize (TInstr.eff ⟨op, a, b, t⟩).2 = e2 at *
    generalize hgg : gd ds (p : Int) = g at *
    by_cases hlt : g < e1
    · rw [if_pos hlt] at hfl
      rw [← hfl]
      repeat' (first | ((with_reducible apply o_y); exact y_; rfl) | refine e_slms ?_ | (refine e_alloc ?_; intro ss bb) | refine e_storep ?_ | refine e_call hG hst (hef) ?_ | with_reducible refine al_none rfl ?_ | (with_reducible first | apply aw_seq | apply aw_region | apply al_nil | apply aq_then | apply aw_block | apply aw_skip | apply aw_ret | apply aq_then_ret | apply aq_block_ret) | (refine aw_cond_dt rfl rr_ dd_ ?_))
      refine aq_nils 2 1 (by omega) rfl fun ss => aq_retm2 x_ rfl (ss, 0) trivial rfl (.cons _ _ _ _ (.nil R)) pk_ (.tmp _ _ rfl) (.tmp _ _ rfl) rfl
    rw [if_neg hlt] at hfl
    replace hn0 := hn0 hlt
    have hlr := fun s b => labR_length op s b
    have hol := labOff_le op
    repeat' (first | ((with_reducible apply o_y); exact y_; rfl) | refine e_slms ?_ | (refine e_alloc ?_; intro ss bb) | refine e_storep ?_ | refine e_call hG hst (hef) ?_ | ((with_reducible apply o_callM); rfl; kernel_rfl; (repeat (first | exact ArgsM.nil | ((with_reducible apply ArgsM.cons); rfl))); exact hG; exact labelsOf_ct ss bb op a b t; exact .cons _ _ _ _ (.nil _); intro y _; obtain ⟨sl5, bl5⟩ := y; refine al_app2 ?_) | with_reducible refine al_none rfl ?_ | (with_reducible first | apply aw_seq | apply aw_region | apply al_nil | apply aq_then | apply aw_block | apply aw_skip) | (refine aw_cond_dt rfl rr_ dd_ ?_) | (refine aw_cond_df rfl rr_ dd_ ?_))
    generalize ss = s6; generalize bb = b6
    have hlr6 := hlr s6 b6
    clear hlr
    apply aw_loopk (X := Nat) [1, 4, 9, 11, 12, 100, 101, 1000000] (fun k => [(102, .int .i64 (k : Int)), (10, .ms st bt (pre ++ [[TV.int .i64 (p : Int)]]).length q.length)]) (fun _ => (sl5, bl5, .row 1 (labR op s6 b6)) :: (s6, b6, .box [.int .i64 op, .int .i64 a, .int .i64 b, .str t]) :: (st, bt, .row 1 ((pre ++ [[TV.int .i64 (p : Int)]]) ++ intR (nts q))) :: (sd, bd, .row 1 (intR ds)) :: R)
      (fun k => k ≤ (labOff op).length ∧ ((labOff op).take k).any (backI is p op ∘ labV a b) = false) (fun k => (labOff op).length - k) 0 ⟨Nat.zero_le _, rfl⟩
    (repeat (first | exact Kept.nil | (apply Kept.cons; rfl)))
    · (repeat (first | exact Weak.envNil | refine Weak.envCons (by first | rfl | exact lk_ms2 rfl (by simp) (by simp)) ?_))
    · refine .cons (.head _) (.cons (.head _) ?_)
      rw [List.append_assoc]
      exact .refl _
    have hpr : (pre ++ [[TV.int .i64 (p : Int)]]).length = pre.length + 1 := by simp
    generalize pre ++ [[TV.int .i64 (p : Int)]] = pre1 at *
    rintro k ⟨hk, hka⟩
    try dsimp only
    by_cases hkl : k < (labOff op).length
    · have hrow := labR_get (s := s6) (b := b6) hkl
      have hkk : ((labOff op).take (k + 1)).any (backI is p op ∘ labV a b) = (backI is p op ∘ labV a b) (labOff op)[k] := by
        rw [List.take_add_one, List.any_append, hka, List.getElem?_eq_getElem hkl]; simp
      have hkb : (backI is p op ∘ labV a b) (labOff op)[k] = true → (labOff op).any (backI is p op ∘ labV a b) = true := fun h => List.any_eq_true.2 ⟨_, List.getElem_mem hkl, h⟩
      have hmem := labOff_mem (List.getElem_mem hkl)
      have hin := List.all_eq_true.1 hlb _ (List.getElem_mem hkl)
      generalize (labOff op)[k] = o at hrow hkk hkb hmem hin
      dsimp only [Function.comp] at hkk hkb
      simp only [inR, decide_eq_true_eq] at hin
      obtain ⟨vn, hvn⟩ : ∃ vn : Nat, labV a b o = (vn : Int) := ⟨(labV a b o).toNat, by omega⟩
      rw [hvn] at hkk hkb hin
      have hvl : vn < is.length := by omega
      repeat' (first | ((with_reducible apply o_y); exact y_; rfl) | with_reducible refine aw_hold_r (id := 30) ?_ | with_reducible refine al_none rfl ?_ | (with_reducible first | apply aw_seq | apply aw_region | apply al_nil | apply aq_then | apply aw_block | apply aw_skip) | (refine aw_cond_dt rfl rr_ dd_ ?_))
      refine ⟨aw_seq ?_⟩
      apply aw_join (X := Unit) [1, 4, 9, 10, 11, 12, 100, 101, 102, 1000000] (fun _ => [(126, .bool (backI is p op (vn : Int)))]) (fun _ => (sl5, bl5, .row 1 (labR op s6 b6)) :: (s6, b6, .box [.int .i64 op, .int .i64 a, .int .i64 b, .str t]) :: (st, bt, .row 1 (pre1 ++ intR (nts q))) :: (sd, bd, .row 1 (intR ds)) :: R) (fun _ => True)
      case _hk => (repeat (first | exact Kept.nil | (apply Kept.cons; rfl)))
      · have hri : (instrR is)[vn]? = some (is[vn]).tv := by simp only [instrR, List.getElem?_map]; rw [List.getElem?_eq_getElem hvl]; rfl
        have hoa : opAt is (vn : Int) = is[vn].op := by simp [opAt, hvl]
        clear hkk hkb hka hlb hfl hnx hef hpo ht
        generalize is[vn] = iu at hri hoa
        obtain ⟨op', a', b', t'⟩ := iu
        replace hri : (instrR is)[vn]? = some [.int .i64 op', .int .i64 a', .int .i64 b', .str t'] := hri
        have hbs : backI is p op (vn : Int) = (!decide (op = 26) && decide ((vn : Int) ≤ p) && !decide (op' = 23)) := by simp [backI, hoa]
        rw [hbs]
        have hw3 : op = 26 ∨ (¬ op = 26 ∧ (vn : Int) ≤ p) ∨ (¬ op = 26 ∧ ¬ (vn : Int) ≤ p) := by omega
        rcases hmem with rfl | rfl
        all_goals
          first
            | obtain rfl : a = (vn : Int) := hvn
            | obtain rfl : b = (vn : Int) := hvn
          rcases hw3 with h26 | ⟨h26, hle⟩ | ⟨h26, hle⟩
          all_goals
            repeat' (first | with_reducible refine aw_draw (by kernel_rfl) (by kernel_rfl) ?_ | with_reducible refine dr_nil ?_ | with_reducible refine dr_none rfl ?_ | refine dr_run rfl rfl rfl rr_ ?_ | refine dr_skip rfl rfl rfl rr_ rfl rfl rfl ?_ | (refine dr_gt rfl rfl rfl rr_ dd_ ?_) | (refine dr_gf rfl rfl rfl rr_ dd_ ?_) | ((with_reducible apply d_y); exact y_; rfl))
            refine aq_mid () trivial (.of _ nw_ od_ pk_)
      · intro _ _
        by_cases hbk : backI is p op (vn : Int) = true
        · rw [hkb hbk, if_pos rfl] at hfl
          rw [hbk, ← hfl]
          repeat' (first | with_reducible refine al_none rfl ?_ | ((with_reducible apply o_assign); rfl; rfl) | with_reducible refine aw_seq ?_ | with_reducible refine aw_region ?_ | with_reducible refine al_nil ?_ | with_reducible refine aq_then ?_ | with_reducible refine aw_ret ?_ | with_reducible refine aq_then_ret ?_ | with_reducible refine aq_block_ret ?_ | refine aw_cond_t rfl rr_ ?_)
          refine aq_nils 2 1 (by omega) rfl fun ss => aq_retm2 x_ rfl (ss, 0) trivial rfl (.cons _ _ _ _ (.nil R)) pk_ (.tmp _ _ rfl) (.tmp _ _ rfl) rfl
        · rw [Bool.not_eq_true] at hbk
          rw [hbk]
          repeat' (first | ((with_reducible apply o_y); exact y_; rfl) | with_reducible refine al_none rfl ?_ | (with_reducible first | apply aw_region | apply al_nil | apply aq_then | apply aw_skip | apply aq_block) | refine aw_cond_f rfl rr_ ?_)
          exact aq_round (k + 1) ⟨by omega, by rw [hkk, hbk]⟩ (by omega) (.of _ nw_ od_ pk_)
    · rw [List.take_of_length_le (by omega)] at hka
      rw [hka, if_neg (by simp)] at hfl
      repeat' (first | ((with_reducible apply o_y); exact y_; rfl) | with_reducible refine aw_draw (by kernel_rfl) (by kernel_rfl) ?_ | with_reducible refine dr_nil ?_ | with_reducible refine dr_none rfl ?_ | ((with_reducible apply d_y); exact y_; rfl) | refine e_calld hG hst (hnx) ?_ | with_reducible refine al_none rfl ?_ | (with_reducible first | apply aw_seq | apply aw_region | apply al_nil | apply aq_then | apply aw_block | apply aw_exit | apply aq_block_hit | apply aq_then_exit) | (refine aw_cond_df rfl rr_ dd_ ?_))
      clear hka hlb hef hnx hmu
      apply aw_loopk (X := Nat × List Int × List Nat × Nat × List (List TV)) [1, 4, 9, 134, 135, 1000000] (fun x => [(136, .int .i64 (x.1 : Int)), (10, .ms st x.2.2.2.1 x.2.2.2.2.length (q.length + x.2.2.1.length))])
        (fun x => (st, x.2.2.2.1, .row 1 (x.2.2.2.2 ++ intR (nts (q ++ x.2.2.1)))) :: (sd, bd, .row 1 (intR x.2.1)) :: R)
        (fun x => x.1 ≤ L.length ∧ x.2.1.length = is.length ∧ x.2.2.1.length ≤ x.1 ∧ pushI is.length (L.drop x.1) (x.2.1, x.2.2.1) = pushI is.length L (ds, [])) (fun x => L.length - x.1) (0, ds, [], bt, pre1) ⟨Nat.zero_le _, hdl, Nat.zero_le _, rfl⟩
      exact kp_; (repeat (first | exact Weak.envNil | refine Weak.envCons we_ ?_))
      · rw [List.append_nil]; exact pk_
      rintro ⟨k, ds', new, bt', pre'⟩ ⟨hk, hdl', hnw, hpu⟩
      dsimp only at hk hdl' hnw hpu ⊢
      have hqf : q.length ≤ is.length := by have := hD'.mu; omega
      by_cases hkl : k < L.length
      · rw [List.drop_eq_getElem_cons hkl] at hpu
        have hrow : (plR L)[k]? = some [.int .i64 L[k].1, .int .i64 L[k].2] := by simp [plR, hkl]
        generalize L[k] = uv at hpu hrow
        obtain ⟨u, v⟩ := uv
        dsimp only at hrow
        rw [pushI_cons] at hpu
        repeat' (first | ((with_reducible apply o_y); exact y_; rfl) | (refine e_alloc ?_; intro ss bb) | refine e_storep ?_ | with_reducible refine aw_hold_b (id := 10) ?_ | with_reducible refine al_none rfl ?_ | (with_reducible first | apply aw_seq | apply aw_region | apply al_nil | apply aq_then | apply aw_block | apply aw_skip) | (refine aw_cond_dt rfl rr_ dd_ ?_))
        refine ⟨aw_block (aw_seq ?_)⟩
        generalize ss = s8; generalize bb = b8
        apply aw_join (X := Unit) [1, 4, 9, 10, 18, 134, 135, 136, 1000000] (fun _ => [(140, .bool (badI is.length ds' u v))]) (fun _ => (s8, b8, .box [.int .i64 u, .int .i64 v]) :: (st, bt', .row 1 (pre' ++ intR (nts (q ++ new)))) :: (sd, bd, .row 1 (intR ds')) :: R) (fun _ => True)
        case _hk => (repeat (first | exact Kept.nil | (apply Kept.cons; rfl)))
        · clear hpu hfl hn0 hpo ht
          by_cases hin : inR u 0 ((is.length : Int) - 1) = true
          · have hw : ∀ G, Ct Tryz.prog G 57 [.int .i64 u, .int .i64 0, .int .i64 ((is.length - 1 : Nat) : Int)] (fun _ => .bool true) := fun G => by rw [hc1, ← hin]; exact within_ct _ _ _
            have hin2 : 0 ≤ u ∧ u ≤ (is.length : Int) - 1 := by simpa [inR] using hin
            obtain ⟨un, rfl⟩ : ∃ un : Nat, u = (un : Int) := ⟨u.toNat, by omega⟩
            have hun : un < is.length := by omega
            have hrd : (intR ds')[un]? = some [.int .i64 (gd ds' (un : Int))] := by
              have h9 := gd_get (ds := ds') (p := un) (by omega)
              simp only [intR, List.getElem?_map]
              rw [List.getElem?_eq_getElem (by omega), h9]; rfl
            have hbs : badI is.length ds' (un : Int) v = (decide (250 < v) || (decide (0 ≤ gd ds' (un : Int)) && !decide (gd ds' (un : Int) = v))) := by simp [badI, hin]
            rw [hbs]
            generalize gd ds' (un : Int) = gv at hrd ⊢
            have hw3 : 250 < v ∨ (¬ 250 < v ∧ 0 ≤ gv) ∨ (¬ 250 < v ∧ ¬ 0 ≤ gv) := by omega
            rcases hw3 with h250 | ⟨h250, hg0'⟩ | ⟨h250, hg0'⟩
            all_goals
              repeat' (first | with_reducible refine aw_draw (by kernel_rfl) (by kernel_rfl) ?_ | with_reducible refine dr_nil ?_ | with_reducible refine dr_none rfl ?_ | refine dr_run rfl rfl rfl rr_ ?_ | refine dr_skip rfl rfl rfl rr_ rfl rfl rfl ?_ | refine dr_skip2 rfl rfl rfl rr_ rfl rfl ?_ | (refine dr_gt rfl rfl rfl rr_ dd_ ?_) | (refine dr_gf rfl rfl rfl rr_ dd_ ?_) | ((with_reducible apply d_y); exact y_; rfl) | refine e_calld hG hst (hw _) ?_)
              refine aq_mid () trivial (.of _ (Weak.envCons (lk_bool rfl (by simp [*])) Weak.envNil) od_ pk_)
          · rw [Bool.not_eq_true] at hin
            have hw : ∀ G, Ct Tryz.prog G 57 [.int .i64 u, .int .i64 0, .int .i64 ((is.length - 1 : Nat) : Int)] (fun _ => .bool false) := fun G => by rw [hc1, ← hin]; exact within_ct _ _ _
            have hbs : badI is.length ds' u v = true := by simp [badI, hin]
            rw [hbs]
            repeat' (first | with_reducible refine aw_draw (by kernel_rfl) (by kernel_rfl) ?_ | with_reducible refine dr_nil ?_ | with_reducible refine dr_none rfl ?_ | refine dr_skip rfl rfl rfl rr_ rfl rfl rfl ?_ | refine dr_skip2 rfl rfl rfl rr_ rfl rfl ?_ | ((with_reducible apply d_y); exact y_; rfl) | refine e_calld hG hst (hw _) ?_)
            refine aq_mid () trivial (.of _ nw_ od_ pk_)
        · intro _ _
          by_cases hb : badI is.length ds' u v = true
          · rw [if_pos hb] at hpu
            rw [← hpu] at hfl
            dsimp only at hfl
            rw [hb, ← hfl]
            repeat' (first | with_reducible refine al_none rfl ?_ | ((with_reducible apply o_assign); rfl; rfl) | with_reducible refine aw_seq ?_ | with_reducible refine aw_region ?_ | with_reducible refine al_nil ?_ | with_reducible refine aq_then ?_ | with_reducible refine aw_ret ?_ | with_reducible refine aq_then_ret ?_ | with_reducible refine aq_block_ret ?_ | refine aw_cond_t rfl rr_ ?_)
            refine aq_nils 2 1 (by omega) rfl fun ss => aq_retm2 x_ rfl (ss, 0) trivial rfl (.cons _ _ _ _ (.nil R)) pk_ (.tmp _ _ rfl) (.tmp _ _ rfl) rfl
          · rw [if_neg hb] at hpu
            have hin : inR u 0 ((is.length : Int) - 1) = true := by
              cases h : inR u 0 ((is.length : Int) - 1)
              · exact absurd (by simp [badI, h]) hb
              · rfl
            rw [Bool.not_eq_true] at hb
            rw [hb]
            have hin2 : 0 ≤ u ∧ u ≤ (is.length : Int) - 1 := by simpa [inR] using hin
            obtain ⟨un, rfl⟩ : ∃ un : Nat, u = (un : Int) := ⟨u.toNat, by omega⟩
            have hun : un < is.length := by omega
            have hrd : (intR ds')[un]? = some [.int .i64 (gd ds' (un : Int))] := by
              have h9 := gd_get (ds := ds') (p := un) (by omega)
              simp only [intR, List.getElem?_map]
              rw [List.getElem?_eq_getElem (by omega), h9]; rfl
            have hrl : pre'.length + (q.length + new.length) ≤ (pre' ++ intR (nts (q ++ new))).length := by simp [intR, nts]
            have hlive : ((pre' ++ intR (nts (q ++ new))).drop pre'.length).take (q.length + new.length) = intR (nts (q ++ new)) := by
              rw [List.drop_left, List.take_of_length_le (by simp [intR, nts])]
            by_cases hgn : gd ds' (un : Int) < 0
            · rw [if_pos hgn] at hpu
              have hset : (intR ds').set un [.int .i64 v] = intR (ds'.set un v) := intR_set ds' un v
              repeat' (first | ((with_reducible apply o_y); exact y_; rfl) | refine e_store ?_ | refine e_lit ?_ | (refine e_appq ?_; intro bb pp) | with_reducible refine al_none rfl ?_ | (with_reducible first | apply aw_seq | apply aw_region | apply al_nil | apply aq_then | apply aq_block) | refine aw_cond_f rfl rr_ ?_ | (refine aw_cond_dt rfl rr_ dd_ ?_))
              refine aq_round (k + 1, ds'.set un v, new ++ [un], bb, pp) ⟨by dsimp only; omega, by simp [hdl'], by simp; omega, by dsimp only; rw [← hpu]; rfl⟩ (by dsimp only; omega) (.of _ nw_ od_ pk_)
            · rw [if_neg hgn] at hpu
              repeat' (first | ((with_reducible apply o_y); exact y_; rfl) | with_reducible refine al_none rfl ?_ | (with_reducible first | apply aw_seq | apply aw_region | apply al_nil | apply aq_then | apply aw_skip | apply aq_block) | refine aw_cond_f rfl rr_ ?_ | (refine aw_cond_df rfl rr_ dd_ ?_))
              refine aq_round (k + 1, ds', new, bt', pre') ⟨by dsimp only; omega, hdl', by dsimp only; omega, by dsimp only; exact hpu⟩ (by dsimp only; omega) (.of _ nw_ od_ pk_)
      · rw [List.drop_of_length_le (by omega)] at hpu
        rw [← hpu] at hfl
        dsimp only [pushI] at hfl
        repeat' (first | ((with_reducible apply o_y); exact y_; rfl) | with_reducible refine al_none rfl ?_ | (with_reducible first | apply aw_seq | apply aw_region | apply al_nil | apply aq_then | apply aw_exit | apply aq_block_hit | apply aq_then_exit | apply aq_block) | (refine aw_cond_df rfl rr_ dd_ ?_))
        refine aq_round (ds', q ++ new, pre', bt', j) ⟨by dsimp only; omega, ?_, by dsimp only; exact hfl⟩ (by dsimp only; omega) (.of _ nw_ od_ pk_)
        dsimp only
        exact pushI_st L ds q [] (ds', new) hn0 (by rw [List.append_nil]; exact hD') hpu.symm
end Go.Proofs.YthpdkhejeookhaaGreatDoor
/- IsVerified: what both sides compute of the entries, the blocks' codes and the instructions (no program in sight). -/
namespace Go.Proofs.YthpdkhejeookhaaGreatDoor
open Go Go.RowKit
/-- A code that is no block's and has so many parameters. -/
def plainAt (cs : List TCode) (k n : Int) : Prop := ∃ x, cs[k.toNat]? = some x ∧ x.block = false ∧ x.params = n
theorem plainAt_iff {cs : List TCode} {k n : Int} {j : Nat} {x : TCode} (hk : k = j) (hx : cs[j]? = some x) : plainAt cs k n ↔ x.block = false ∧ x.params = n := by
  unfold plainAt
  subst hk
  rw [Int.toNat_natCast, hx]
  constructor
  · rintro ⟨y, hy, h⟩; cases hy; exact h
  · exact fun h => ⟨x, rfl, h⟩
def entryOk (nc : Nat) (cs : List TCode) (e : TEntry) : Prop :=
  (isSelL e.selector.data.toList = true ∧ inR e.owner 16 ((nc : Int) - 1) = true ∧ inR e.code 0 ((cs.length : Int) - 1) = true) ∧ plainAt cs e.code (nArgsL e.selector.data.toList)
def sameEntry (e f : TEntry) : Prop := f.owner = e.owner ∧ f.class_ = e.class_ ∧ f.selector = e.selector
def newEntry (es : List TEntry) (i : Nat) (e : TEntry) : Prop := ∀ f ∈ es.take i, ¬ sameEntry e f
def entriesOk (nc : Nat) (cs : List TCode) (es : List TEntry) : Prop := ∀ (i : Nat) (h : i < es.length), entryOk nc cs es[i] ∧ newEntry es i es[i]
open Classical in
noncomputable def entriesB (nc : Nat) (cs : List TCode) (es : List TEntry) : Bool := decide (entriesOk nc cs es ∧ es.length ≤ 96)
theorem entries_bad {nc : Nat} {cs : List TCode} {es : List TEntry} {i : Nat} (h : i < es.length) (hb : ¬ (entryOk nc cs es[i] ∧ newEntry es i es[i])) : ¬ entriesOk nc cs es := fun k => hb (k i h)
theorem entries_good {nc : Nat} {cs : List TCode} {es : List TEntry} (h : ∀ j, j < es.length → ∀ h : j < es.length, entryOk nc cs es[j] ∧ newEntry es j es[j]) : entriesOk nc cs es := fun i hi => h i hi hi

open Classical in
theorem entriesB_bad {nc : Nat} {cs : List TCode} {es : List TEntry} {i : Nat} (h : i < es.length) (hb : ¬ (entryOk nc cs es[i] ∧ newEntry es i es[i])) : entriesB nc cs es = false := decide_eq_false fun k => entries_bad h hb k.1
open Classical in
theorem entriesB_good {nc : Nat} {cs : List TCode} {es : List TEntry} (h : ∀ j, j < es.length → ∀ h : j < es.length, entryOk nc cs es[j] ∧ newEntry es j es[j]) : entriesB nc cs es = decide ((es.length : Int) ≤ 96) := by
  unfold entriesB
  rw [decide_eq_decide]
  exact ⟨fun h => by omega, fun k => ⟨entries_good h, by omega⟩⟩
open Classical in
theorem entriesB_long {nc : Nat} {cs : List TCode} {es : List TEntry} (h : ¬ es.length ≤ 96) : entriesB nc cs es = false := decide_eq_false fun k => h k.2
/-- The codes around the blocks' codes: an instruction of code i. -/
def outI (i : Nat) (x : TInstr) (o : List Int) : Option (List Int) :=
  if x.op = 15 then (if (0 ≤ x.a ∧ x.a ≤ (i : Int) - 1) ∧ ¬ 0 ≤ gd o x.a then some (o.set x.a.toNat i) else none) else some o
def outRow (i : Nat) : List TInstr → List Int → Option (List Int)
  | [], o => some o
  | x :: r, o => match outI i x o with
    | none => none
    | some o' => outRow i r o'
def outGo : Nat → List TCode → List Int → Option (List Int)
  | _, [], o => some o
  | i, x :: r, o => match outRow i x.instrs o with
    | none => none
    | some o' => outGo (i + 1) r o'
/-- A block's code stands somewhere, no other does. -/
def outFits (cs : List TCode) (o : List Int) : Prop := ∀ (i : Nat) (h : i < cs.length), cs[i].block = decide (0 ≤ gd o (i : Int))
open Classical in
noncomputable def outFin (cs : List TCode) : Option (List Int) → Option (List Int)
  | none => none
  | some o => if outFits cs o then some o else none
/-- From code i on, with row r of it left. -/
noncomputable def outRest (cs : List TCode) (i : Nat) (r : List TInstr) (o : List Int) : Option (List Int) := outFin cs (match outRow i r o with
    | none => none
    | some o' => outGo (i + 1) (cs.drop (i + 1)) o')
noncomputable def outFrom (cs : List TCode) (i : Nat) (o : List Int) : Option (List Int) := outFin cs (outGo i (cs.drop i) o)
noncomputable def outersL (cs : List TCode) : Option (List Int) := outFrom cs 0 (List.replicate cs.length (-1))
theorem outFrom_step {cs : List TCode} {i : Nat} (h : i < cs.length) (o : List Int) : outFrom cs i o = outRest cs i cs[i].instrs o := by
  unfold outFrom outRest
  rw [List.drop_eq_getElem_cons h]; rfl
theorem outFrom_end {cs : List TCode} {i : Nat} (h : ¬ i < cs.length) (o : List Int) : outFrom cs i o = outFin cs (some o) := by
  unfold outFrom
  rw [List.drop_of_length_le (by omega)]; rfl
theorem outRest_step {cs : List TCode} {i k : Nat} {is : List TInstr} (h : k < is.length) (o : List Int) : outRest cs i (is.drop k) o = match outI i is[k] o with
    | none => none
    | some o' => outRest cs i (is.drop (k + 1)) o' := by
  unfold outRest
  rw [List.drop_eq_getElem_cons h]
  show outFin cs (match (match outI i is[k] o with | none => none | some o' => outRow i (is.drop (k + 1)) o') with | none => none | some o' => outGo (i + 1) (cs.drop (i + 1)) o') = _
  cases outI i is[k] o <;> rfl
theorem outRest_end {cs : List TCode} {i k : Nat} {is : List TInstr} (h : ¬ k < is.length) (o : List Int) : outRest cs i (is.drop k) o = outFrom cs (i + 1) o := by
  unfold outRest outFrom
  rw [List.drop_of_length_le (by omega)]; rfl
theorem gd_set_ne {o : List Int} {a b : Nat} {v : Int} (h : a ≠ b) : gd (o.set a v) (b : Int) = gd o (b : Int) := by
  simp [gd, h]
theorem gd_set_eq {o : List Int} {a : Nat} {v : Int} (h : a < o.length) : gd (o.set a v) (a : Int) = v := by
  simp [gd, h]
/-- What holds all the way: every code's outer one is later. -/
def outInv (n : Nat) (o : List Int) : Prop := o.length = n ∧ ∀ j : Nat, j < n → gd o j = -1 ∨ ((j : Int) < gd o j ∧ gd o j < n)
theorem outInv_zero (n : Nat) : outInv n (List.replicate n (-1)) := ⟨by simp, fun j hj => .inl (by simp [gd, hj])⟩
theorem outI_inv {n i : Nat} {x : TInstr} {o o' : List Int} (hi : i < n) (h : outI i x o = some o') (ho : outInv n o) : outInv n o' ∧ ∀ j : Nat, 0 ≤ gd o j → 0 ≤ gd o' j := by
  unfold outI at h
  split at h
  · split at h
    · rename_i h1
      cases h
      obtain ⟨a, ha⟩ : ∃ a : Nat, x.a = a := ⟨x.a.toNat, by omega⟩
      rw [ha] at h1 ⊢
      rw [Int.toNat_natCast]
      have hal : a < n := by omega
      refine ⟨⟨by simp [ho.1], fun j hj => ?_⟩, fun j hj => ?_⟩
      · by_cases hja : a = j
        · subst hja
          rw [gd_set_eq (by rw [ho.1]; exact hal)]
          exact .inr ⟨by omega, by omega⟩
        · rw [gd_set_ne hja]; exact ho.2 j hj
      · by_cases hja : a = j
        · subst hja
          rw [gd_set_eq (by rw [ho.1]; exact hal)]; omega
        · rw [gd_set_ne hja]; exact hj
    · cases h
  · cases h; exact ⟨ho, fun j hj => hj⟩
theorem outRow_inv {n i : Nat} (hi : i < n) : ∀ {r : List TInstr} {o o' : List Int}, outRow i r o = some o' → outInv n o → outInv n o' ∧ ∀ j : Nat, 0 ≤ gd o j → 0 ≤ gd o' j
  | [], o, o', h, ho => by cases h; exact ⟨ho, fun _ hj => hj⟩
  | x :: r, o, o', h, ho => by
    unfold outRow at h
    split at h
    · cases h
    · rename_i o1 h1
      obtain ⟨h2, h3⟩ := outI_inv hi h1 ho
      obtain ⟨h4, h5⟩ := outRow_inv hi h h2
      exact ⟨h4, fun j hj => h5 j (h3 j hj)⟩
theorem outGo_inv {n : Nat} : ∀ {r : List TCode} {i : Nat} {o o' : List Int}, i + r.length ≤ n → outGo i r o = some o' → outInv n o → outInv n o' ∧ ∀ j : Nat, 0 ≤ gd o j → 0 ≤ gd o' j
  | [], i, o, o', _, h, ho => by cases h; exact ⟨ho, fun _ hj => hj⟩
  | x :: r, i, o, o', hn, h, ho => by
    unfold outGo at h
    split at h
    · cases h
    · rename_i o1 h1
      simp only [List.length_cons] at hn
      obtain ⟨h2, h3⟩ := outRow_inv (by omega) h1 ho
      obtain ⟨h4, h5⟩ := outGo_inv (by omega) h h2
      exact ⟨h4, fun j hj => h5 j (h3 j hj)⟩
theorem outFin_some {cs : List TCode} {p : Option (List Int)} {o : List Int} (h : outFin cs p = some o) : p = some o ∧ outFits cs o := by
  cases p with
  | none => cases h
  | some o' =>
    by_cases hf : outFits cs o'
    · have : outFin cs (some o') = some o' := by unfold outFin; exact if_pos hf
      rw [this] at h; cases h; exact ⟨rfl, hf⟩
    · have : outFin cs (some o') = none := by unfold outFin; exact if_neg hf
      rw [this] at h; cases h
theorem outersL_inv {cs : List TCode} {o : List Int} (h : outersL cs = some o) : outInv cs.length o ∧ outFits cs o := by
  obtain ⟨h1, h2⟩ := outFin_some h
  exact ⟨(outGo_inv (by simp) h1 (outInv_zero _)).1, h2⟩
/-- A code that no block is and that stands somewhere: all is wrong. -/
theorem outRest_noblock {cs : List TCode} {i k : Nat} {is : List TInstr} {o : List Int} {a : Nat} (hi : i < cs.length) (ho : outInv cs.length o) (ha : a < cs.length) (hb : cs[a].block = false) (hp : 0 ≤ gd o (a : Int)) : outRest cs i (is.drop k) o = none := by
  cases h : outRest cs i (is.drop k) o with
  | none => rfl
  | some o' =>
    exfalso
    obtain ⟨h1, h2⟩ := outFin_some h
    split at h1
    · cases h1
    · rename_i o1 h3
      obtain ⟨h4, h5⟩ := outRow_inv hi h3 ho
      obtain ⟨h6, h7⟩ := outGo_inv (by simp; omega) h1 h4
      have h8 := h2 a ha
      rw [hb] at h8
      have h9 := h7 a (h5 a hp)
      rw [decide_eq_true h9] at h8
      cases h8
theorem outFin_bad {cs : List TCode} {o : List Int} {i : Nat} (h : i < cs.length) (hb : cs[i].block ≠ decide (0 ≤ gd o (i : Int))) : outFin cs (some o) = none := by
  unfold outFin
  exact if_neg fun k => hb (k i h)
theorem outFin_good {cs : List TCode} {o : List Int} (h : ∀ j, j < cs.length → ∀ h : j < cs.length, cs[j].block = decide (0 ≤ gd o (j : Int))) : outFin cs (some o) = some o := by
  unfold outFin
  exact if_pos fun i hi => h i hi hi

/-- The code and those around it, the innermost first. -/
def climb (o : List Int) : Nat → Int → List Int
  | 0, _ => []
  | n + 1, k => if k < 0 then [] else k :: climb o n (gd o k)
/-- The way up, counted out. -/
def upN (o : List Int) : Nat → Int → Int
  | 0, k => k
  | n + 1, k => if k < 0 then k else upN o n (gd o k)
theorem upN_neg (o : List Int) (n : Nat) {k : Int} (h : k < 0) : upN o n k = k := by
  cases n with
  | zero => rfl
  | succ n => unfold upN; rw [if_pos h]
theorem climb_up {o : List Int} (hinv : outInv o.length o) : ∀ (n : Nat) (k : Int) (b : Nat), k = -1 ∨ (0 ≤ k ∧ k < o.length ∧ o.length ≤ n + k.toNat) → (climb o n k)[b]? = if 0 ≤ upN o b k then some (upN o b k) else none
  | 0, k, b, h => by
    obtain rfl : k = -1 := by omega
    rw [upN_neg o b (by omega)]; rfl
  | n + 1, k, b, h => by
    rcases h with rfl | ⟨h0, h1, h2⟩
    · rw [upN_neg o b (by omega)]; rfl
    · unfold climb
      rw [if_neg (by omega)]
      obtain ⟨j, rfl⟩ : ∃ j : Nat, k = j := ⟨k.toNat, by omega⟩
      cases b with
      | zero =>
        show some (j : Int) = _
        unfold upN
        rw [if_pos h0]
      | succ b =>
        show (climb o n (gd o j))[b]? = _
        have hj := hinv.2 j (by omega)
        rw [climb_up hinv n (gd o j) b (by rw [Int.toNat_natCast] at h2; omega)]
        have : upN o (b + 1) j = upN o b (gd o j) := by
          conv => lhs; unfold upN
          rw [if_neg (by omega)]
        rw [this]
theorem climb_len (o : List Int) : ∀ (n : Nat) (k : Int), (climb o n k).length ≤ n
  | 0, _ => Nat.le_refl _
  | n + 1, k => by
    unfold climb
    split
    · simp
    · have := climb_len o n (gd o k); simp; omega
end Go.Proofs.YthpdkhejeookhaaGreatDoor
/- IsVerified: what both sides compute of the instructions and codes (no program in sight). -/
namespace Go.Proofs.YthpdkhejeookhaaGreatDoor
open Go Go.RowKit
theorem tcode_row {lo : Nat} {cs : List TCode} {j : Nat} (h : j < cs.length) : (cs.map (TCode.tw lo))[j]? = some [.bool cs[j].block, .int .i64 cs[j].params, .int .i64 cs[j].slots, .sl lo 4 (cs[j].instrs.map (TInstr.tw lo))] := row_map h
theorem tentry_row {lo : Nat} {es : List TEntry} {j : Nat} (h : j < es.length) : (es.map (TEntry.tw lo))[j]? = some [.int .i64 es[j].owner, .bool es[j].class_, .str es[j].selector, .int .i64 es[j].code] := row_map h
theorem tinstr_row {lo : Nat} {is : List TInstr} {j : Nat} (h : j < is.length) : (is.map (TInstr.tw lo))[j]? = some [.int .i64 is[j].op, .int .i64 is[j].a, .int .i64 is[j].b, .str is[j].text] := row_map h
def TInstr.none : TInstr := ⟨0, 0, 0, ⟨#[]⟩⟩
/-- The code so many levels above code k. -/
def levelOf (cs : List TCode) (o : List Int) (k : Nat) (b : Int) : Option TCode := if 0 ≤ b ∧ 0 ≤ upN o b.toNat k then cs[(upN o b.toNat k).toNat]? else none
def varOk (cs : List TCode) (o : List Int) (k : Nat) (x : TInstr) : Bool := match levelOf cs o k x.b with
  | none => false
  | some y => inR x.a (if x.op = 9 then y.params else 0) (IntKind.i64.wrap (y.slots - 1))
def instrHead (x : TInstr) : Prop := inR x.op 1 26 = true ∧ (useA x.op = true ∨ x.a = 0) ∧ (useB x.op = true ∨ x.b = 0) ∧ (useT x.op = true ∨ x.text = ⟨#[]⟩)
instance (x : TInstr) : Decidable (instrHead x) := by unfold instrHead; infer_instance
def instrTail (cs : List TCode) (nc : Nat) (o : List Int) (k : Nat) (own : TCode) (x : TInstr) : Bool :=
  if x.op = 1 then inR x.a 0 999999999
  else if x.op = 2 then plainR x.text
  else if x.op = 3 ∨ x.op = 13 then isSelL x.text.data.toList
  else if x.op = 8 ∨ x.op = 9 then varOk cs o k x
  else if x.op = 10 ∨ x.op = 11 then isNameL x.text.data.toList
  else if x.op = 12 then inR x.a 0 ((nc : Int) - 1)
  else if x.op = 14 then isSelL x.text.data.toList && inR x.a 0 ((nc : Int) - 1)
  else if x.op = 20 then inR x.a 0 ((own.instrs.length : Int) - 1)
  else if x.op = 21 ∨ x.op = 22 then inR x.a 0 ((own.instrs.length : Int) - 1) && inR x.b 0 ((own.instrs.length : Int) - 1)
  else if x.op = 24 then inR x.b 0 ((own.instrs.length : Int) - 1)
  else if x.op = 25 ∨ x.op = 26 then inR x.a own.params (own.slots - 1) && inR x.b 0 ((own.instrs.length : Int) - 1)
  else true
def instrB (cs : List TCode) (nc : Nat) (o : List Int) (k : Nat) (own : TCode) (x : TInstr) : Bool := decide (instrHead x) && instrTail cs nc o k own x
theorem instr_pre {cs : List TCode} {nc : Nat} {o : List Int} {k : Nat} {own : TCode} {x : TInstr} (h : instrB cs nc o k own x = true) : preOkI own.instrs.length x = true := by
  obtain ⟨op, a, b, t⟩ := x
  unfold instrB at h
  rw [Bool.and_eq_true, decide_eq_true_eq] at h
  obtain ⟨h0, h2⟩ := h
  have h1 := h0.1
  clear h0
  unfold preOkI
  rw [labs_eq2, List.all_map]
  simp only [inR, decide_eq_true_eq] at h1
  unfold instrTail at h2
  dsimp only at h2 h1 ⊢
  have h3 : inR op 1 26 = true := inR_t h1
  rw [h3, ← sel_args]
  simp only [labOff]
  have hc : op = 1 ∨ op = 2 ∨ op = 3 ∨ op = 4 ∨ op = 5 ∨ op = 6 ∨ op = 7 ∨ op = 8 ∨ op = 9 ∨ op = 10 ∨ op = 11 ∨ op = 12 ∨ op = 13 ∨ op = 14 ∨ op = 15 ∨ op = 16 ∨ op = 17 ∨ op = 18 ∨ op = 19 ∨ op = 20 ∨ op = 21 ∨ op = 22 ∨ op = 23 ∨ op = 24 ∨ op = 25 ∨ op = 26 := by omega
  clear h1 h3
  rcases hc with rfl | rfl | rfl | rfl | rfl | rfl | rfl | rfl | rfl | rfl | rfl | rfl | rfl | rfl | rfl | rfl | rfl | rfl | rfl | rfl | rfl | rfl | rfl | rfl | rfl | rfl
  all_goals first
    | rfl
    | (simp at h2; simp [h2, labV]; done)
    | (simp at h2; simp [h2.1, h2.2, labV]; done)
theorem instrs_pre {cs : List TCode} {nc : Nat} {o : List Int} {k : Nat} {own : TCode} (h : ∀ y ∈ own.instrs, instrB cs nc o k own y = true) : preOk own.instrs = true := by
  unfold preOk
  rw [List.all_eq_true]
  exact fun x hx => instr_pre (h x hx)
/-- What the blocks' codes tell of a block's instruction. -/
def blockFits (cs : List TCode) (i : Nat) (x : TInstr) : Prop := x.op = 15 → (0 ≤ x.a ∧ x.a ≤ (i : Int) - 1) ∧ ∃ y, cs[x.a.toNat]? = some y ∧ y.block = true
theorem outRow_mem {n i : Nat} (hi : i < n) : ∀ {r : List TInstr} {o o' : List Int}, outRow i r o = some o' → outInv n o → ∀ x ∈ r, x.op = 15 → (0 ≤ x.a ∧ x.a ≤ (i : Int) - 1) ∧ 0 ≤ gd o' x.a
  | [], o, o', h, ho, x, hx, _ => by cases hx
  | y :: r, o, o', h, ho, x, hx, h15 => by
    unfold outRow at h
    split at h
    · cases h
    · rename_i o1 h1
      obtain ⟨h2, h3⟩ := outI_inv hi h1 ho
      rcases List.mem_cons.1 hx with rfl | hx
      · unfold outI at h1
        rw [if_pos h15] at h1
        split at h1
        · rename_i h4
          cases h1
          refine ⟨h4.1, ?_⟩
          obtain ⟨a, ha⟩ : ∃ a : Nat, x.a = a := ⟨x.a.toNat, by omega⟩
          have h5 := (outRow_inv hi h h2).2 a
          rw [ha] at h5 ⊢
          refine h5 ?_
          rw [Int.toNat_natCast, gd_set_eq (by rw [ho.1]; omega)]
          omega
        · cases h1
      · exact outRow_mem hi h h2 x hx h15
theorem outGo_mem {n : Nat} : ∀ {r : List TCode} {i : Nat} {o o' : List Int}, i + r.length ≤ n → outGo i r o = some o' → outInv n o → ∀ (j : Nat) (c : TCode), r[j]? = some c → ∀ x ∈ c.instrs, x.op = 15 → (0 ≤ x.a ∧ x.a ≤ ((i + j : Nat) : Int) - 1) ∧ 0 ≤ gd o' x.a
  | [], i, o, o', _, h, ho, j, c, hc, x, hx, _ => by simp at hc
  | y :: r, i, o, o', hn, h, ho, j, c, hc, x, hx, h15 => by
    unfold outGo at h
    split at h
    · cases h
    · rename_i o1 h1
      simp only [List.length_cons] at hn
      obtain ⟨h2, h3⟩ := outRow_inv (by omega) h1 ho
      cases j with
      | zero =>
        simp at hc; subst hc
        obtain ⟨h4, h5⟩ := outRow_mem (by omega) h1 ho x hx h15
        refine ⟨h4, ?_⟩
        have h6 := (outGo_inv (by omega) h h2).2 x.a.toNat
        rw [Int.toNat_of_nonneg h4.1] at h6
        exact h6 h5
      | succ j =>
        have := outGo_mem (by omega) h h2 j c (by simpa using hc) x hx h15
        rw [show i + 1 + j = i + (j + 1) by omega] at this
        exact this
theorem outersL_block {cs : List TCode} {o : List Int} (h : outersL cs = some o) {i : Nat} {c : TCode} (hc : cs[i]? = some c) : ∀ x ∈ c.instrs, blockFits cs i x := fun x hx h15 => by
  obtain ⟨h1, h2⟩ := outFin_some h
  have hi : i < cs.length := (List.getElem?_eq_some_iff.1 hc).1
  obtain ⟨h3, h4⟩ := outGo_mem (by simp) h1 (outInv_zero _) i c (by simpa using hc) x hx h15
  rw [Nat.zero_add] at h3
  refine ⟨h3, ?_⟩
  obtain ⟨a, ha⟩ : ∃ a : Nat, x.a = a := ⟨x.a.toNat, by omega⟩
  rw [ha] at h3 h4 ⊢
  rw [Int.toNat_natCast]
  have hal : a < cs.length := by omega
  refine ⟨cs[a], List.getElem?_eq_getElem hal, ?_⟩
  rw [h2 a hal]
  exact decide_eq_true h4
/-- A code is right. -/
def codeHead (x : TCode) : Prop := inR x.slots 0 30 = true ∧ inR x.params 0 x.slots = true ∧ x.instrs.length ≤ 900
def codeOk (cs : List TCode) (nc : Nat) (o : List Int) (k : Nat) (x : TCode) : Prop := codeHead x ∧ (∀ y ∈ x.instrs, instrB cs nc o k x y = true) ∧ (depthsL x.instrs).isSome = true
open Classical in
noncomputable def codeB (cs : List TCode) (nc : Nat) (o : List Int) (k : Nat) (x : TCode) : Bool := decide (codeOk cs nc o k x)
def codesOk (cs : List TCode) (nc : Nat) (o : List Int) : Prop := ∀ (k : Nat) (h : k < cs.length), codeOk cs nc o k cs[k]
def outerOk (cs : List TCode) (nc : Nat) : Prop := ∃ o, outersL cs = some o ∧ codesOk cs nc o
def mainOk (x : TCodeBase) : Prop := inR x.main 0 ((x.codes.length : Int) - 1) = true ∧ plainAt x.codes x.main 0
def verifiedP (x : TCodeBase) : Prop := classesOkB x.classes = true ∧ x.codes.length ≤ 200 ∧ mainOk x ∧ entriesB x.classes.length x.codes x.entries = true ∧ outerOk x.codes x.classes.length
open Classical in
noncomputable def verifiedB (x : TCodeBase) : Bool := decide (verifiedP x)
open Classical in
theorem verified_f {x : TCodeBase} (h : ¬ verifiedP x) : verifiedB x = false := decide_eq_false h
open Classical in
theorem verified_t {x : TCodeBase} (h : verifiedP x) : verifiedB x = true := decide_eq_true h
open Classical in
theorem codeB_f {cs : List TCode} {nc : Nat} {o : List Int} {k : Nat} {x : TCode} (h : ¬ codeOk cs nc o k x) : codeB cs nc o k x = false := decide_eq_false h
open Classical in
theorem codeB_t {cs : List TCode} {nc : Nat} {o : List Int} {k : Nat} {x : TCode} (h : codeOk cs nc o k x) : codeB cs nc o k x = true := decide_eq_true h
theorem intR_gd {o : List Int} {j : Nat} (h : j < o.length) : (intR o)[j]? = some [.int .i64 (gd o (j : Int))] := by
  simp [intR, gd, h]
theorem upN_succ (o : List Int) : ∀ (n : Nat) (k : Int), upN o (n + 1) k = if upN o n k < 0 then upN o n k else gd o (upN o n k)
  | 0, k => rfl
  | n + 1, k => by
    by_cases h : k < 0
    · rw [upN_neg o _ h, upN_neg o _ h, if_pos h]
    · have h1 : upN o (n + 1 + 1) k = upN o (n + 1) (gd o k) := by conv => lhs; unfold upN
                                                                   rw [if_neg h]
      have h2 : upN o (n + 1) k = upN o n (gd o k) := by conv => lhs; unfold upN
                                                         rw [if_neg h]
      rw [h1, h2]
      exact upN_succ o n (gd o k)
theorem upN_in {o : List Int} (hinv : outInv o.length o) : ∀ (n : Nat) (k : Int), k = -1 ∨ (0 ≤ k ∧ k < o.length) → upN o n k = -1 ∨ (0 ≤ upN o n k ∧ upN o n k < o.length)
  | 0, k, h => h
  | n + 1, k, h => by
    rw [upN_succ]
    have := upN_in hinv n k h
    split
    · exact this
    · obtain ⟨j, hj⟩ : ∃ j : Nat, upN o n k = j := ⟨(upN o n k).toNat, by omega⟩
      rw [hj] at this ⊢
      have := hinv.2 j (by omega)
      omega
theorem upN_ge {o : List Int} (hinv : outInv o.length o) {k : Int} (hk : 0 ≤ k ∧ k < o.length) : ∀ n : Nat, 0 ≤ upN o n k → (n : Int) ≤ upN o n k
  | 0, h => h
  | n + 1, h => by
    rw [upN_succ] at h ⊢
    have hin := upN_in hinv n k (.inr hk)
    split
    · rename_i h1; rw [if_pos h1] at h; omega
    · rename_i h1
      rw [if_neg h1] at h
      have ih := upN_ge hinv hk n (by omega)
      obtain ⟨j, hj⟩ : ∃ j : Nat, upN o n k = j := ⟨(upN o n k).toNat, by omega⟩
      rw [hj] at h hin ih ⊢
      have := hinv.2 j (by omega)
      omega
theorem upN_stays {o : List Int} {k : Int} {n : Nat} (h : upN o n k < 0) : ∀ m, n ≤ m → upN o m k = upN o n k
  | 0, hm => by obtain rfl : n = 0 := by omega
                rfl
  | m + 1, hm => by
    by_cases he : n = m + 1
    · rw [he]
    · have := upN_stays h m (by omega)
      rw [upN_succ, this, if_pos h]
theorem level_neg {cs : List TCode} {o : List Int} {k : Nat} {b : Int} (h : b < 0) : levelOf cs o k b = none := by
  unfold levelOf
  exact if_neg (by omega)
theorem level_off {cs : List TCode} {o : List Int} {k n : Nat} {b : Int} (h : upN o n k < 0) (hn : (n : Int) ≤ b) : levelOf cs o k b = none := by
  unfold levelOf
  rw [upN_stays h b.toNat (by omega)]
  exact if_neg (by omega)
theorem level_on {cs : List TCode} {o : List Int} {k j : Nat} {b : Int} {y : TCode} (hb : 0 ≤ b) (h : upN o b.toNat k = j) (hj : cs[j]? = some y) : levelOf cs o k b = some y := by
  unfold levelOf
  rw [h, if_pos ⟨hb, by omega⟩, Int.toNat_natCast, hj]
theorem level_list {cs : List TCode} {o : List Int} {k : Nat} (hinv : outInv cs.length o) (hk : k < cs.length) {b : Int} {L : List Int} (hL : L = (climb o cs.length k).reverse) (h : 0 ≤ b ∧ b ≤ (L.length : Int) - 1) :
    ∃ (q v : Nat) (y : TCode), (L.length : Int) - 1 - b = q ∧ (intR L)[q]? = some [.int .i64 (v : Int)] ∧ cs[v]? = some y ∧ levelOf cs o k b = some y := by
  obtain ⟨c, rfl⟩ : ∃ c : Nat, b = c := ⟨b.toNat, by omega⟩
  have hl : o.length = cs.length := hinv.1
  have hinv' : outInv o.length o := by rw [hl]; exact hinv
  have hcl : L.length = (climb o cs.length k).length := by rw [hL, List.length_reverse]
  have hcu := climb_up hinv' cs.length (k : Int) c (.inr ⟨by omega, by omega, by rw [hl]; omega⟩)
  have hc : c < (climb o cs.length k).length := by omega
  rw [List.getElem?_eq_getElem hc] at hcu
  split at hcu
  · rename_i h0
    have hin := upN_in hinv' c k (.inr ⟨by omega, by omega⟩)
    obtain ⟨v, hv⟩ : ∃ v : Nat, upN o c k = v := ⟨(upN o c k).toNat, by omega⟩
    rw [hv] at hin hcu
    have hvl : v < cs.length := by omega
    refine ⟨L.length - 1 - c, v, cs[v], by omega, ?_, List.getElem?_eq_getElem hvl, level_on (by omega) (by rw [Int.toNat_natCast]; exact hv) (List.getElem?_eq_getElem hvl)⟩
    have hg : L[L.length - 1 - c]? = some (v : Int) := by
      rw [hL, List.getElem?_reverse (by rw [List.length_reverse]; omega), List.length_reverse]
      rw [show (climb o cs.length k).length - 1 - ((climb o cs.length k).length - 1 - c) = c by omega, List.getElem?_eq_getElem hc]
      exact hcu
    simp only [intR, List.getElem?_map, hg]; rfl
  · cases hcu
theorem level_list_off {cs : List TCode} {o : List Int} {k : Nat} (hinv : outInv cs.length o) (hk : k < cs.length) {b : Int} {L : List Int} (hL : L = (climb o cs.length k).reverse) (h : ¬ (0 ≤ b ∧ b ≤ (L.length : Int) - 1)) : levelOf cs o k b = none := by
  by_cases h0 : b < 0
  · exact level_neg h0
  obtain ⟨c, rfl⟩ : ∃ c : Nat, b = c := ⟨b.toNat, by omega⟩
  have hl : o.length = cs.length := hinv.1
  have hinv' : outInv o.length o := by rw [hl]; exact hinv
  have hcl : L.length = (climb o cs.length k).length := by rw [hL, List.length_reverse]
  have hcu := climb_up hinv' cs.length (k : Int) c (.inr ⟨by omega, by omega, by rw [hl]; omega⟩)
  rw [List.getElem?_eq_none (by omega)] at hcu
  split at hcu
  · cases hcu
  · rename_i h1
    unfold levelOf
    rw [Int.toNat_natCast]
    exact if_neg fun h => h1 h.2
end Go.Proofs.YthpdkhejeookhaaGreatDoor
/- ReachableSelectors: what both sides compute (no program in sight). -/
namespace Go.Proofs.YthpdkhejeookhaaGreatDoor
open Go Go.RowKit
/-- The codes that are met, the selectors, the codes that are to be looked at. -/
structure RS where
  met : List Bool
  out : List ByteArray
  todo : List Int
def asyB : ByteArray := ⟨#[97, 115, 83, 121, 109, 98, 111, 108]⟩
def gb (l : List Bool) (k : Int) : Bool := l.getD k.toNat true
def metS (s : RS) (k : Int) : RS := if gb s.met k then s else ⟨s.met.set k.toNat true, s.out, s.todo ++ [k]⟩
def outS (l : List ByteArray) (t : ByteArray) : List ByteArray := if hasS l t then l else l ++ [t]
def rsI (s : RS) (x : TInstr) : RS :=
  if x.op = 3 ∨ x.op = 13 ∨ x.op = 14 then ⟨s.met, outS s.out x.text, s.todo⟩ else if x.op = 15 then metS s x.a else s
def rsRow (l : List TInstr) (s : RS) : RS := l.foldl rsI s
def rsE (any : Bool) (s : RS) (e : TEntry) : RS := if !gb s.met e.code && (any || hasS s.out e.selector) then metS s e.code else s
def rsPass (any : Bool) (l : List TEntry) (s : RS) : RS := l.foldl (rsE any) s
def codeI (cs : List TCode) (k : Int) : List TInstr := match cs[k.toNat]? with
  | some c => c.instrs
  | none => []
def rsStep (b : TCodeBase) (s : RS) : RS := match s.todo with
  | [] => rsPass (hasS s.out asyB) b.entries s
  | k :: r => rsRow (codeI b.codes k) ⟨s.met, s.out, r⟩
def rs0 (b : TCodeBase) : RS := ⟨(List.replicate b.codes.length false).set b.main.toNat true, [], [b.main]⟩
def rsIt (b : TCodeBase) : Nat → RS
  | 0 => rs0 b
  | n + 1 => rsStep b (rsIt b n)
def Rs (b : TCodeBase) (s : RS) : Prop := ∃ n, s = rsIt b n
theorem Rs.step {b : TCodeBase} {s : RS} (h : Rs b s) : Rs b (rsStep b s) := by
  obtain ⟨n, rfl⟩ := h
  exact ⟨n + 1, rfl⟩
theorem rsIt_fix {b : TCodeBase} {n : Nat} (h : rsStep b (rsIt b n) = rsIt b n) : ∀ m, n ≤ m → rsIt b m = rsIt b n
  | 0, hm => by obtain rfl : n = 0 := by omega
                rfl
  | m + 1, hm => by
    by_cases he : n = m + 1
    · rw [he]
    · show rsStep b (rsIt b m) = _
      rw [rsIt_fix h m (by omega), h]
theorem Rs.same {b : TCodeBase} {s t : RS} (h : Rs b s) (k : Rs b t) (hs : rsStep b s = s) (ht : rsStep b t = t) : s = t := by
  obtain ⟨n, rfl⟩ := h
  obtain ⟨m, rfl⟩ := k
  rcases Nat.le_total n m with h | h
  · exact (rsIt_fix hs m h).symm
  · exact rsIt_fix ht n h
/-- What the verifier tells. -/
structure RsOk (b : TCodeBase) : Prop where
  codes : b.codes.length ≤ 200
  main : 0 ≤ b.main ∧ b.main < b.codes.length
  entries : ∀ e ∈ b.entries, 0 ≤ e.code ∧ e.code < b.codes.length
  row : ∀ c ∈ b.codes, c.instrs.length ≤ 900 ∧ ∀ x ∈ c.instrs, x.op = 15 → 0 ≤ x.a ∧ x.a < b.codes.length
theorem inR_of {a lo hi : Int} (h : inR a lo hi = true) : lo ≤ a ∧ a ≤ hi := by simpa [inR] using h
open Classical in
theorem rs_ok {b : TCodeBase} (h : verifiedB b = true) : RsOk b := by
  have h1 : verifiedP b := of_decide_eq_true h
  obtain ⟨_, h2, h3, h4, o, h5, h6⟩ := h1
  have h7 : entriesOk b.classes.length b.codes b.entries ∧ b.entries.length ≤ 96 := of_decide_eq_true h4
  refine ⟨h2, ?_, fun e he => ?_, fun c hc => ?_⟩
  · have := inR_of h3.1; omega
  · obtain ⟨i, hi, rfl⟩ := List.getElem_of_mem he
    have := inR_of (h7.1 i hi).1.1.2.2; omega
  · obtain ⟨i, hi, rfl⟩ := List.getElem_of_mem hc
    refine ⟨(h6 i hi).1.2.2, fun x hx h15 => ?_⟩
    obtain ⟨g1, y, g2, _⟩ := outersL_block h5 (List.getElem?_eq_getElem hi) x hx h15
    omega
def unmet : List Bool → Nat
  | [] => 0
  | b :: r => (if b then 0 else 1) + unmet r
def RS.mu (s : RS) : Nat := s.todo.length + unmet s.met
/-- The bounds that hold while so many texts may still come. -/
structure RsIn (b : TCodeBase) (n : Nat) (s : RS) : Prop where
  len : s.met.length = b.codes.length
  todo : ∀ k ∈ s.todo, 0 ≤ k ∧ k < b.codes.length
  room : s.out.length + 900 * s.mu + n ≤ 180000
theorem gb_get {l : List Bool} {k : Nat} (h : k < l.length) : l[k]? = some (gb l k) := by
  simp [gb, h]
theorem codeI_get {cs : List TCode} {k : Nat} (h : k < cs.length) : codeI cs (k : Int) = cs[k].instrs := by
  unfold codeI
  rw [Int.toNat_natCast, List.getElem?_eq_getElem h]
end Go.Proofs.YthpdkhejeookhaaGreatDoor
/- EditsOf: what both sides compute (no program in sight). -/
namespace Go.Proofs.YthpdkhejeookhaaGreatDoor
open Go Go.RowKit
/-- The instruction's labels marked. -/
def labS (l : List Bool) (x : TInstr) : List Bool := ((labOff x.op).map (labV x.a x.b)).foldl (fun l p => l.set p.toNat true) l
def labP (is : List TInstr) (i : Nat) : List Bool := (is.take i).foldl labS (List.replicate (is.length + 1) false)
def labelsL (is : List TInstr) : List Bool := labP is is.length
theorem foldl_set_len : ∀ (ps : List Int) (l : List Bool), (ps.foldl (fun l p => l.set p.toNat true) l).length = l.length
  | [], l => rfl
  | p :: ps, l => by
    show (ps.foldl _ (l.set p.toNat true)).length = _
    rw [foldl_set_len ps]; simp
theorem labS_len (l : List Bool) (x : TInstr) : (labS l x).length = l.length := foldl_set_len _ _
theorem foldl_labS_len : ∀ (is : List TInstr) (l : List Bool), (is.foldl labS l).length = l.length
  | [], l => rfl
  | x :: is, l => by
    show (is.foldl labS (labS l x)).length = _
    rw [foldl_labS_len is, labS_len]
theorem labP_len (is : List TInstr) (i : Nat) : (labP is i).length = is.length + 1 := by
  unfold labP
  rw [foldl_labS_len]; simp
theorem labP_snoc {is : List TInstr} {i : Nat} (h : i < is.length) : labP is (i + 1) = labS (labP is i) is[i] := by
  unfold labP
  rw [List.take_add_one, List.getElem?_eq_getElem h, List.foldl_append]; rfl
/-- The instruction at a place that is no label. -/
def insAt (is : List TInstr) (k : Nat) : TInstr := (is[k]?).getD TInstr.none
def opFr (is : List TInstr) (lab : List Bool) (k : Nat) : Int := if k < is.length ∧ gb lab k = false then (insAt is k).op else 0
def pureOp (op : Int) : Prop := (1 ≤ op ∧ op ≤ 8) ∨ op = 12 ∨ op = 17
instance (op : Int) : Decidable (pureOp op) := by unfold pureOp; infer_instance
def fitsB (is : List TInstr) (lab : List Bool) (ds : List Int) (at_ : Nat) (i : TInstr) (kind : Nat) : Bool :=
  if kind = 1 then decide (pureOp i.op ∧ opFr is lab (at_ + 1) = 16)
  else if kind = 2 then decide (i.op = 20 ∧ i.a = at_ + 1)
  else if kind = 3 then decide (i.op = 9 ∧ opFr is lab (at_ + 1) = 16 ∧ opFr is lab (at_ + 2) = 8 ∧ (insAt is (at_ + 2)).a = i.a ∧ (insAt is (at_ + 2)).b = i.b)
  else if kind = 4 then decide (i.op = 20 ∧ i.a ≠ at_ ∧ (insAt is i.a.toNat).op = 20 ∧ (insAt is i.a.toNat).a ≠ i.a)
  else if kind = 5 then decide (gd ds at_ = -1 ∧ i.op ≠ 15 ∧ 1 < is.length)
  else false
/-- What is taken away then. -/
def goneL (at_ : Nat) (kind : Nat) : List Int :=
  if kind = 1 then [(at_ : Int), (at_ : Int) + 1] else if kind = 2 then [(at_ : Int)] else if kind = 3 then [(at_ : Int) + 1, (at_ : Int) + 2] else if kind = 4 then [] else if kind = 5 then [(at_ : Int)] else []
/-- What the verifier tells of a code. -/
structure CodeOk (is : List TInstr) : Prop where
  len : is.length ≤ 900
  pre : preOk is = true
  dep : (depthsL is).isSome = true
  txt : ∀ x ∈ is, x.op = 8 → x.text = ⟨#[]⟩
theorem useT_8 : useT 8 = false := by decide
open Classical in
theorem code_ok {b : TCodeBase} (h : verifiedB b = true) : ∀ c ∈ b.codes, CodeOk c.instrs := fun c hc => by
  have h1 : verifiedP b := of_decide_eq_true h
  obtain ⟨_, h2, h3, h4, o, h5, h6⟩ := h1
  obtain ⟨i, hi, rfl⟩ := List.getElem_of_mem hc
  have h7 := h6 i hi
  refine ⟨h7.1.2.2, instrs_pre h7.2.1, h7.2.2, fun x hx h8 => ?_⟩
  have h9 := h7.2.1 x hx
  unfold instrB at h9
  rw [Bool.and_eq_true, decide_eq_true_eq] at h9
  rcases h9.1.2.2.2 with h10 | h10
  · rw [h8, useT_8] at h10; cases h10
  · exact h10
/-- The labels lie in the code. -/
theorem lab_in {is : List TInstr} (h : preOk is = true) {x : TInstr} (hx : x ∈ is) : (labOff x.op).all (fun o => inR (labV x.a x.b o) 0 ((is.length : Int) - 1)) = true := by
  have h1 := List.all_eq_true.1 h x hx
  obtain ⟨op, a, b, t⟩ := x
  rw [preOkI_eq, Bool.and_eq_true] at h1
  exact h1.2
theorem insAt_get {is : List TInstr} {k : Nat} (h : k < is.length) : insAt is k = is[k] := by
  unfold insAt
  rw [List.getElem?_eq_getElem h]; rfl
end Go.Proofs.YthpdkhejeookhaaGreatDoor
/- ApplyEdit: what both sides compute (no program in sight). -/
namespace Go.Proofs.YthpdkhejeookhaaGreatDoor
open Go Go.RowKit
/-- The place of a label when n instructions at a place are removed. -/
def cutV (k n : Nat) (v : Int) : Int := if v > k then max (k : Int) (v - n) else v
def hasA (op : Int) : Bool := decide (20 ≤ op ∧ op ≤ 22)
def hasB (op : Int) : Bool := decide (21 ≤ op ∧ op ≤ 22) || decide (24 ≤ op ∧ op ≤ 26)
theorem list_set_self {α : Type} {l : List α} {k : Nat} {r : α} (h : l[k]? = some r) : l.set k r = l := by
  refine List.ext_getElem? fun j => ?_
  rw [List.getElem?_set]
  split
  · rename_i e; subst e; rw [if_pos (List.getElem?_eq_some_iff.1 h).1]; exact h.symm
  · rfl
theorem mem_labA (op : Int) : (1 ∈ labOff op) ↔ hasA op = true := by
  unfold labOff hasA
  rw [decide_eq_true_iff]
  by_cases h20 : op = 20
  · simp [h20]
  by_cases h21 : op = 21 ∨ op = 22
  · rw [if_neg h20, if_pos h21]; simp; omega
  · rw [if_neg h20, if_neg h21]
    split <;> simp <;> omega
theorem mem_labB (op : Int) : (2 ∈ labOff op) ↔ hasB op = true := by
  unfold labOff hasB
  rw [Bool.or_eq_true, decide_eq_true_iff, decide_eq_true_iff]
  by_cases h20 : op = 20
  · simp [h20]
  by_cases h21 : op = 21 ∨ op = 22
  · rw [if_neg h20, if_pos h21]; simp; omega
  · rw [if_neg h20, if_neg h21]
    split <;> simp <;> omega
theorem pre_lab {is : List TInstr} (h : preOk is = true) : ∀ x ∈ is, ∀ o ∈ labOff x.op, 0 ≤ labV x.a x.b o ∧ labV x.a x.b o < is.length := fun x hx o ho => by
  have h1 := List.all_eq_true.1 (lab_in h hx) o ho
  simp only [inR, decide_eq_true_eq] at h1
  omega
theorem pre_ab {is : List TInstr} (h : preOk is = true) : ∀ x ∈ is, (hasA x.op = true → 0 ≤ x.a ∧ x.a < is.length) ∧ (hasB x.op = true → 0 ≤ x.b ∧ x.b < is.length) := fun x hx =>
  ⟨fun hA => pre_lab h x hx 1 ((mem_labA _).2 hA), fun hB => pre_lab h x hx 2 ((mem_labB _).2 hB)⟩
/-- Where there is room for an edit that fits. -/
theorem fits_room {is : List TInstr} {lab : List Bool} {ds : List Int} {q : Nat} {i : TInstr} {kind : Nat} (h : fitsB is lab ds q i kind = true) : (kind = 1 ∧ q + 1 < is.length) ∨ kind = 2 ∨ (kind = 3 ∧ q + 2 < is.length) ∨ (kind = 4 ∧ i.op = 20) ∨ kind = 5 := by
  have key : ∀ k v, v ≠ 0 → opFr is lab k = v → k < is.length := fun k v hv h => by
    unfold opFr at h
    split at h
    · rename_i h2; exact h2.1
    · exact absurd h.symm hv
  unfold fitsB at h
  split at h
  · rename_i e; exact .inl ⟨e, key _ 16 (by decide) (of_decide_eq_true h).2⟩
  split at h
  · rename_i e; exact .inr (.inl e)
  split at h
  · rename_i e; exact .inr (.inr (.inl ⟨e, key _ 8 (by decide) (of_decide_eq_true h).2.2.1⟩))
  split at h
  · rename_i e; exact .inr (.inr (.inr (.inl ⟨e, (of_decide_eq_true h).1⟩)))
  split at h
  · rename_i e; exact .inr (.inr (.inr (.inr e)))
  · cases h
def mapI (f : Int → Int) (x : TInstr) : TInstr := ⟨x.op, if hasA x.op then f x.a else x.a, if hasB x.op then f x.b else x.b, x.text⟩
def cutL (is : List TInstr) (k n : Nat) : List TInstr := (is.take k ++ is.drop (k + n)).map (mapI (cutV k n))
def thrI (is : List TInstr) (k : Nat) : TInstr := ⟨(insAt is k).op, (insAt is (insAt is k).a.toNat).a, (insAt is k).b, (insAt is k).text⟩
/-- A code's instructions behind an edit. -/
def appI (is : List TInstr) (k : Nat) (kind : Nat) : List TInstr :=
  if kind = 1 then cutL is k 2 else if kind = 2 then cutL is k 1 else if kind = 3 then cutL is (k + 1) 2 else if kind = 4 then is.set k (thrI is k) else if kind = 5 then cutL is k 1 else is
/-- Some of a list turned, one by one. -/
def mapP (f : TInstr → TInstr) (l : List TInstr) (i : Nat) : List TInstr := (l.take i).map f ++ l.drop i
theorem mapP_len (f : TInstr → TInstr) {l : List TInstr} {i : Nat} (h : i ≤ l.length) : (mapP f l i).length = l.length := by simp [mapP]; omega
theorem mapP_get (f : TInstr → TInstr) {l : List TInstr} {i : Nat} (h : i < l.length) : (mapP f l i)[i]? = some l[i] := by
  unfold mapP
  rw [List.getElem?_append_right (by simp; omega), List.length_map, List.length_take, show i - min i l.length = 0 by omega, List.drop_eq_getElem_cons h]; rfl
theorem mapP_set (f : TInstr → TInstr) {l : List TInstr} {i : Nat} (h : i < l.length) : (mapP f l i).set i (f l[i]) = mapP f l (i + 1) := by
  unfold mapP
  rw [List.set_append_right _ _ (by simp; omega), List.length_map, List.length_take, show i - min i l.length = 0 by omega, List.drop_eq_getElem_cons h, List.set_cons_zero, List.take_add_one, List.getElem?_eq_getElem h, List.map_append, List.append_assoc]; rfl
theorem mapP_full (f : TInstr → TInstr) (l : List TInstr) : mapP f l l.length = l.map f := by simp [mapP]
theorem mapP_zero (f : TInstr → TInstr) (l : List TInstr) : mapP f l 0 = l := by simp [mapP]
theorem mapP_tw (f : TInstr → TInstr) {l : List TInstr} {i : Nat} (h : i < l.length) {r : List TV} (hr : r = (f l[i]).tw 0) : ((mapP f l i).map (TInstr.tw 0)).set i r = (mapP f l (i + 1)).map (TInstr.tw 0) := by
  rw [hr, ← mapP_set f h, List.map_set]
/-- How many of the first ones stay. -/
def toA (gone : List Int) : Nat → Nat
  | 0 => 0
  | j + 1 => toA gone j + if (j : Int) ∈ gone then 0 else 1
/-- The ones that stay. -/
def keepI (is : List TInstr) (gone : List Int) : Nat → List TInstr
  | 0 => []
  | j + 1 => keepI is gone j ++ if (j : Int) ∈ gone then [] else [insAt is j]
theorem keepI_len (is : List TInstr) (gone : List Int) : ∀ j, (keepI is gone j).length = toA gone j
  | 0 => rfl
  | j + 1 => by
    unfold keepI toA
    rw [List.length_append, keepI_len is gone j]
    split <;> rfl
theorem toA_le (gone : List Int) : ∀ j, toA gone j ≤ j
  | 0 => Nat.le_refl _
  | j + 1 => by
    have := toA_le gone j
    unfold toA
    split <;> omega
/-- What the program gives. -/
def remL (is : List TInstr) (gone : List Int) : List TInstr := (keepI is gone is.length).map (mapI fun v => (toA gone v.toNat : Int))
theorem toA_run {gone : List Int} {k n : Nat} (hg : ∀ j : Nat, (j : Int) ∈ gone ↔ k ≤ j ∧ j < k + n) : ∀ j, toA gone j = if j ≤ k then j else max k (j - n)
  | 0 => by simp [toA]
  | j + 1 => by
    unfold toA
    rw [toA_run hg j]
    simp only [hg j, Nat.max_def]
    repeat' split
    all_goals omega
theorem keepI_run {is : List TInstr} {gone : List Int} {k n : Nat} (hg : ∀ j : Nat, (j : Int) ∈ gone ↔ k ≤ j ∧ j < k + n) : ∀ j, j ≤ is.length → keepI is gone j = (is.take j).take k ++ (is.take j).drop (k + n)
  | 0, _ => by simp [keepI]
  | j + 1, h => by
    unfold keepI
    rw [keepI_run hg j (by omega), List.take_add_one, List.getElem?_eq_getElem (by omega), insAt_get (by omega)]
    have hl : (is.take j).length = j := by rw [List.length_take]; omega
    by_cases h1 : j < k
    · have t1 : (is.take j).take k = is.take j := List.take_of_length_le (by omega)
      have t2 : (is.take j ++ [is[j]]).take k = is.take j ++ [is[j]] := List.take_of_length_le (by simp; omega)
      rw [if_neg (fun h => by have := (hg j).1 h; omega), t1, List.drop_eq_nil_of_le (by omega)]
      show _ = (is.take j ++ [is[j]]).take k ++ (is.take j ++ [is[j]]).drop (k + n)
      rw [t2, List.drop_eq_nil_of_le (by simp; omega)]
      simp
    · by_cases h2 : j < k + n
      · rw [if_pos ((hg j).2 ⟨by omega, h2⟩), List.drop_eq_nil_of_le (by omega), List.drop_eq_nil_of_le (by simp; omega), List.take_append_of_le_length (by omega)]
        simp
      · rw [if_neg (fun h => by have := (hg j).1 h; omega), List.take_append_of_le_length (by omega), List.drop_append_of_le_length (by omega), List.append_assoc]
        simp
theorem remL_run {is : List TInstr} {gone : List Int} {k n : Nat} (hp : ∀ x ∈ is, (hasA x.op = true → 0 ≤ x.a) ∧ (hasB x.op = true → 0 ≤ x.b)) (hg : ∀ j : Nat, (j : Int) ∈ gone ↔ k ≤ j ∧ j < k + n) : remL is gone = cutL is k n := by
  unfold remL cutL
  rw [keepI_run hg _ (Nat.le_refl _), List.take_length]
  refine List.map_congr_left fun x hx => ?_
  have hmem : x ∈ is := by
    rcases List.mem_append.1 hx with h | h
    · exact List.mem_of_mem_take h
    · exact List.mem_of_mem_drop h
  obtain ⟨h1, h2⟩ := hp x hmem
  have key : ∀ v : Int, 0 ≤ v → ((toA gone v.toNat : Nat) : Int) = cutV k n v := fun v hv => by
    rw [toA_run hg]
    unfold cutV
    rw [Nat.max_def, Int.max_def]
    repeat' split
    all_goals omega
  unfold mapI
  congr 1
  · split
    · rename_i h; exact key _ (h1 h)
    · rfl
  · split
    · rename_i h; exact key _ (h2 h)
    · rfl
theorem remL_none {is : List TInstr} (hp : ∀ x ∈ is, (hasA x.op = true → 0 ≤ x.a) ∧ (hasB x.op = true → 0 ≤ x.b)) : remL is [] = is := by
  have hg : ∀ j : Nat, (j : Int) ∈ ([] : List Int) ↔ 0 ≤ j ∧ j < 0 + 0 := fun j => by simp
  have key : ∀ j, toA [] j = j := fun j => by
    rw [toA_run hg]; split <;> simp_all
  unfold remL
  rw [keepI_run hg _ (Nat.le_refl _), List.take_length]
  have : is.take 0 ++ is.drop (0 + 0) = is := by simp
  rw [this]
  conv => rhs; rw [← List.map_id is]
  refine List.map_congr_left fun x hx => ?_
  obtain ⟨h1, h2⟩ := hp x hx
  unfold mapI
  show _ = x
  obtain ⟨op, a, b, t⟩ := x
  dsimp only at h1 h2 ⊢
  congr 1
  · split
    · rename_i h; have := h1 h; rw [key]; omega
    · rfl
  · split
    · rename_i h; have := h2 h; rw [key]; omega
    · rfl
/-- A code base with other instructions in one of its codes. -/
def setC (c : TCode) (is : List TInstr) : TCode := ⟨c.block, c.params, c.slots, is⟩
def codeA (x : TCodeBase) (k : Nat) : TCode := (x.codes[k]?).getD ⟨false, 0, 0, []⟩
def setB (x : TCodeBase) (k : Nat) (is : List TInstr) : TCodeBase := ⟨x.classes, x.codes.set k (setC (codeA x k) is), x.entries, x.main⟩
def fitsE (x : TCodeBase) (e : TEdit) : Prop := (0 ≤ e.code ∧ e.code < x.codes.length) ∧ (0 ≤ e.at_ ∧ e.at_ < (codeI x.codes e.code).length) ∧
  fitsB (codeI x.codes e.code) (labelsL (codeI x.codes e.code)) ((depthsL (codeI x.codes e.code)).getD []) e.at_.toNat (insAt (codeI x.codes e.code) e.at_.toNat) e.kind.toNat = true
instance (x : TCodeBase) (e : TEdit) : Decidable (fitsE x e) := by unfold fitsE; infer_instance
def editB (x : TCodeBase) (e : TEdit) : TCodeBase := setB x e.code.toNat (appI (codeI x.codes e.code) e.at_.toNat e.kind.toNat)
noncomputable def okE (x : TCodeBase) (e : TEdit) : Bool := verifiedB x && decide (fitsE x e) && verifiedB (editB x e)
noncomputable def applyB (x : TCodeBase) (e : TEdit) : TCodeBase := if okE x e then editB x e else ⟨[], [], [], 0⟩
/-- The instructions out of which the program removes some. -/
def isT (is : List TInstr) (q kind : Nat) : List TInstr := if kind = 4 then is.set q (thrI is q) else is
theorem rem_app {is : List TInstr} {lab : List Bool} {ds : List Int} {q kind : Nat} (hp : preOk is = true) (hq : q < is.length) (h : fitsB is lab ds q (insAt is q) kind = true) :
    remL (isT is q kind) (goneL q kind) = appI is q kind ∧ (∀ x ∈ isT is q kind, ∀ o ∈ labOff x.op, 0 ≤ labV x.a x.b o ∧ labV x.a x.b o < (isT is q kind).length) := by
  have hl := pre_lab hp
  have hab := pre_ab hp
  have hab' : ∀ x ∈ is, (hasA x.op = true → 0 ≤ x.a) ∧ (hasB x.op = true → 0 ≤ x.b) := fun x hx => ⟨fun h => ((hab x hx).1 h).1, fun h => ((hab x hx).2 h).1⟩
  by_cases h4 : kind = 4
  · subst h4
    have hg : goneL q 4 = [] := rfl
    have ha : appI is q 4 = is.set q (thrI is q) := rfl
    have ht : isT is q 4 = is.set q (thrI is q) := rfl
    have hf : (insAt is q).op = 20 ∧ (insAt is q).a ≠ q ∧ (insAt is (insAt is q).a.toNat).op = 20 ∧ (insAt is (insAt is q).a.toNat).a ≠ (insAt is q).a := of_decide_eq_true h
    obtain ⟨f1, _, f2, _⟩ := hf
    rw [hg, ha, ht]
    have hq' := insAt_get hq
    have hA := (hab _ (List.getElem_mem hq)).1
    rw [← hq', f1] at hA
    replace hA := hA rfl
    have hx2 := insAt_get (is := is) (k := (insAt is q).a.toNat) (by omega)
    have hA2 := (hab _ (List.getElem_mem (l := is) (n := (insAt is q).a.toNat) (by omega))).1
    rw [← hx2, f2] at hA2
    replace hA2 := hA2 rfl
    have hop : (thrI is q).op = 20 := f1
    have haa : (thrI is q).a = (insAt is (insAt is q).a.toNat).a := rfl
    refine ⟨remL_none fun x hx => ?_, fun x hx o ho => ?_⟩
    · rcases List.mem_or_eq_of_mem_set hx with hx | rfl
      · exact hab' x hx
      · refine ⟨fun _ => by rw [haa]; exact hA2.1, fun h => ?_⟩
        rw [hop] at h; cases h
    · rw [List.length_set]
      rcases List.mem_or_eq_of_mem_set hx with hx | rfl
      · exact hl x hx o ho
      · rw [hop] at ho
        have : o = 1 := by simpa [labOff] using ho
        subst this
        show 0 ≤ (thrI is q).a ∧ (thrI is q).a < is.length
        rw [haa]; exact hA2
  · have ht : isT is q kind = is := if_neg h4
    rw [ht]
    refine ⟨?_, hl⟩
    rcases fits_room h with ⟨rfl, _⟩ | rfl | ⟨rfl, _⟩ | ⟨rfl, _⟩ | rfl
    · exact remL_run (k := q) (n := 2) hab' fun j => by simp [goneL]; omega
    · exact remL_run (k := q) (n := 1) hab' fun j => by simp [goneL]; omega
    · exact remL_run (k := q + 1) (n := 2) hab' fun j => by simp [goneL]; omega
    · exact absurd rfl h4
    · exact remL_run (k := q) (n := 1) hab' fun j => by simp [goneL]; omega
theorem goneL_len (q kind : Nat) : (goneL q kind).length ≤ 9 := by
  unfold goneL
  repeat' split
  all_goals simp
theorem cutL_len (is : List TInstr) (k n : Nat) : (cutL is k n).length ≤ is.length := by
  unfold cutL
  rw [List.length_map, List.length_append, List.length_take, List.length_drop]; omega
theorem appI_len (is : List TInstr) (k kind : Nat) : (appI is k kind).length ≤ is.length := by
  unfold appI
  repeat' split
  all_goals first
    | exact cutL_len _ _ _
    | (rw [List.length_set]; exact Nat.le_refl _)
    | exact Nat.le_refl _
theorem cutL_text {n : Nat} {is : List TInstr} (h : ∀ y ∈ is, y.text.size ≤ n) (k m : Nat) : ∀ y ∈ cutL is k m, y.text.size ≤ n := fun y hy => by
  unfold cutL at hy
  obtain ⟨x, hx, rfl⟩ := List.mem_map.1 hy
  show x.text.size ≤ n
  rcases List.mem_append.1 hx with hx | hx
  · exact h x (List.mem_of_mem_take hx)
  · exact h x (List.mem_of_mem_drop hx)
theorem appI_text {n : Nat} {is : List TInstr} (h : ∀ y ∈ is, y.text.size ≤ n) (k kind : Nat) : ∀ y ∈ appI is k kind, y.text.size ≤ n := by
  unfold appI
  split
  · exact cutL_text h _ _
  split
  · exact cutL_text h _ _
  split
  · exact cutL_text h _ _
  split
  · intro y hy
    rcases List.mem_or_eq_of_mem_set hy with hy | rfl
    · exact h y hy
    · show (insAt is k).text.size ≤ n
      unfold insAt
      cases hk : is[k]? with
      | none => exact Nat.zero_le _
      | some z => exact h z (List.mem_of_getElem? hk)
  split
  · exact cutL_text h _ _
  · exact h
theorem okE_f {x : TCodeBase} {e : TEdit} (h : okE x e = false) : applyB x e = ⟨[], [], [], 0⟩ := by
  unfold applyB; rw [if_neg (by rw [h]; decide)]
theorem okE_t {x : TCodeBase} {e : TEdit} (h : okE x e = true) : applyB x e = editB x e := by
  unfold applyB; rw [if_pos h]
end Go.Proofs.YthpdkhejeookhaaGreatDoor
/- OptimizeBase: what both sides compute (no program in sight). -/
namespace Go.Proofs.YthpdkhejeookhaaGreatDoor
open Go Go.RowKit
end Go.Proofs.YthpdkhejeookhaaGreatDoor
/- The abstract walk, part 33: a row that is owned is forgotten from some place on. -/
namespace Go.Proofs.YthpdkhejeookhaaGreatDoor
open Go Go.RowKit
section
variable {P : Program} {w0 : World} {N : Nat} {Q : Exit → Act → World → Prop} {env : Env} {objs : Objs}
end
end Go.Proofs.YthpdkhejeookhaaGreatDoor
/- The abstract walk, part 34: the builtin clear on the end of a row that is owned; s[:j] of a row that is owned. -/
namespace Go.Proofs.YthpdkhejeookhaaGreatDoor
open Go Go.RowKit
section
variable {P : Program} {w0 : World} {N : Nat} {Q : Exit → Act → World → Prop} {env : Env} {objs objs' : Objs} {o : Oper}
end
end Go.Proofs.YthpdkhejeookhaaGreatDoor
/- The abstract walk, part 35: rows that an owned row's cells name are written no more. -/
namespace Go.Proofs.YthpdkhejeookhaaGreatDoor
open Go Go.RowKit
/-- A cell that says the same, or an owned row that is frozen. -/
inductive Rc (B : Nat) (L L' : Objs) : TV → TV → Prop
  | same (t : TV) : Rc B L L' t t
  | fz (s b n m : Nat) (rows : List (List TV)) (hm : (s, b, TObj.row m rows) ∈ L) (hn : rows.length = n) (hna : ∀ x ∈ L', x.2.1 = b → b = 0) : Rc B L L' (.ms s b 0 n) (.sl B m rows)
section
variable {P : Program} {w0 : World} {N : Nat} {Q : Exit → Act → World → Prop} {env : Env} {objs objs' : Objs} {o : Oper}
theorem Sim.recell {a : Act} {w : World} {s b m : Nat} {rows rows' : List (List TV)} {L L' : Objs} (h : Sim w0 N env ((s, b, .row m rows) :: L) a w) (hp : Pick L' L) (hlen : rows'.map List.length = rows.map List.length)
    (hc : ∀ (j : Nat) (t t' : TV), rows.flatten[j]? = some t → rows'.flatten[j]? = some t' → Rc w0.heap.size L ((s, b, .row m rows) :: L') t t') : Sim w0 N env ((s, b, .row m rows') :: L') a w := by
  have hw := h.mem
  obtain ⟨⟨hm0, hci⟩, hmm, hor⟩ := hw.obj s b _ List.mem_cons_self
  have hp1 : Pick ((s, b, .row m rows) :: L') ((s, b, .row m rows) :: L) := ⟨fun x hx => by
    rcases List.mem_cons.1 hx with rfl | hx
    · exact List.mem_cons_self
    · exact List.mem_cons_of_mem _ (hp.mem x hx), fun hs => by
    obtain ⟨h1, h2⟩ := List.pairwise_cons.1 hs
    exact List.pairwise_cons.2 ⟨fun y hy => h1 y (hp.mem y hy), hp.sites h2⟩⟩
  have h1 := h.pick hp1
  have hst : Step w ((s, b, .row m rows) :: L') w ((s, b, .row m rows') :: L') := ⟨fun _ _ _ => rfl, fun c _ ha => ⟨ha.1, by
      obtain ⟨_, s', o', hm'⟩ := ha
      rcases List.mem_cons.1 hm' with he | hm'
      · simp only [Prod.mk.injEq] at he
        exact ⟨s, .row m rows, by rw [he.2.1]; exact List.mem_cons_self⟩
      · exact ⟨s', o', List.mem_cons_of_mem _ hm'⟩⟩, fun s' b' m' rows1 _ hb' hm' => by
      rcases List.mem_cons.1 hm' with he | hm'
      · simp only [Prod.mk.injEq, TObj.row.injEq] at he
        obtain ⟨rfl, rfl, rfl, rfl⟩ := he
        exact ⟨⟨rows, List.mem_cons_self⟩, rfl⟩
      · exact ⟨⟨rows1, List.mem_cons_of_mem _ hm'⟩, rfl⟩, Nat.le_refl _, fun hk => by
      rcases List.mem_cons.1 hk with he | hk
      · simp only [marker, Prod.mk.injEq, TObj.row.injEq] at he
        omega
      · exact List.mem_cons_of_mem _ hk⟩
  obtain ⟨e1, e2⟩ := flat_len hlen
  have hrep : ∀ (j : Nat) (t t' : TV) (v : Value), rows.flatten[j]? = some t → rows'.flatten[j]? = some t' → Rep w ((s, b, .row m rows) :: L) t v → Rep w ((s, b, .row m rows') :: L') t' v := fun j t t' v h2 h3 hr => by
    refine Rep.step hst ?_
    cases hc j t t' h2 h3 with
    | same => exact hr.step (step_sub hp1 w)
    | fz s1 b1 n1 m1 rows1 hm1 hn1 hna =>
      subst hn1
      refine rep_freeze hw (List.mem_cons_of_mem _ hm1) hr hp1 fun ha => ?_
      obtain ⟨h0, s2, o2, hm2⟩ := ha
      exact h0 (hna _ hm2 rfl)
  refine ⟨h.defers, h.size, ⟨hw.below, hw.pos, fun s1 b1 o1 hm1 => ?_, ?_⟩, fun t v hv => (h1.env t v hv).step hst⟩
  · rcases List.mem_cons.1 hm1 with he | hm1
    · simp only [Prod.mk.injEq] at he
      obtain ⟨rfl, rfl, rfl⟩ := he
      refine ⟨⟨hm0, fun t' ht => ?_⟩, rows_len hlen hmm, ?_⟩
      · obtain ⟨j, hj, rfl⟩ := List.getElem_of_mem ht
        obtain ⟨t, h2⟩ : ∃ t, rows.flatten[j]? = some t := ⟨_, List.getElem?_eq_getElem (by omega)⟩
        have h5 := hc j t _ h2 (List.getElem?_eq_getElem hj)
        generalize rows'.flatten[j] = t' at h5
        cases h5 with
        | same => exact hci t (List.mem_of_getElem? h2)
        | fz => rfl
      · refine hor.imp (fun h => ⟨h.1, List.eq_nil_of_length_eq_zero (by rw [e2, h.2]; rfl)⟩) fun ⟨g1, cur, e, cap, g2, g3, g4, g5, g6⟩ => ⟨g1, cur, e, cap, g2, g3, by omega, g5, fun j t' hj => ?_⟩
        obtain ⟨t, h2⟩ : ∃ t, rows.flatten[j]? = some t := ⟨_, List.getElem?_eq_getElem (by rw [← e1]; exact (List.getElem?_eq_some_iff.1 hj).1)⟩
        obtain ⟨v, v1, v2⟩ := g6 j t h2
        exact ⟨v, v1, hrep j t t' v h2 hj v2⟩
    · exact (h1.mem.obj s1 b1 o1 (List.mem_cons_of_mem _ hm1)).step hst rfl
  · obtain ⟨g1, g2⟩ := List.pairwise_cons.1 h1.mem.sites
    exact List.pairwise_cons.2 ⟨g1, g2⟩
theorem Sim.blocks {a : Act} {w : World} {x y : Nat × Nat × TObj} {L : Objs} (h : Sim w0 N env (x :: y :: L) a w) : ∀ z ∈ x :: L, z.2.1 = y.2.1 → y.2.1 = 0 := fun z hz he => by
  obtain ⟨h1, h2⟩ := List.pairwise_cons.1 h.mem.sites
  obtain ⟨h3, _⟩ := List.pairwise_cons.1 h2
  rcases List.mem_cons.1 hz with rfl | hz
  · rcases (h1 y List.mem_cons_self).2 with h4 | h4
    · exact absurd he h4
    · rw [← he]; exact h4
  · rcases (h3 z hz).2 with h4 | h4
    · exact absurd he.symm h4
    · exact h4
/-- One of the rows is frozen. -/
theorem Sim.freezeIn {a : Act} {w : World} {s b m s2 b2 m2 n k j : Nat} {rows rows2 : List (List TV)} {r : List TV} {L : Objs} (h : Sim w0 N env ((s, b, .row m rows) :: (s2, b2, .row m2 rows2) :: L) a w) (hr : rows[k]? = some r) (hj : r[j]? = some (.ms s2 b2 0 n)) (hn : rows2.length = n) :
    Sim w0 N env ((s, b, .row m (rows.set k (r.set j (.sl w0.heap.size m2 rows2)))) :: L) a w := by
  have hb := h.blocks
  obtain ⟨⟨hm0, _⟩, hmm, _⟩ := h.mem.obj s b _ List.mem_cons_self
  have hk : k < rows.length := (List.getElem?_eq_some_iff.1 hr).1
  have hrm : r.length = m := hmm r (List.mem_of_getElem? hr)
  have hfs := flatten_set hmm hm0 hk (r' := r.set j (.sl w0.heap.size m2 rows2)) (by rw [List.length_set]; exact hrm)
  refine h.recell (.drop (.refl _)) ?_ fun q t t' h1 h2 => ?_
  · rw [List.map_set, List.length_set, hrm]
    refine List.ext_getElem? fun i => ?_
    rw [List.getElem?_set]
    split
    · rename_i e
      subst e
      rw [if_pos (by simpa using hk), List.getElem?_map, hr, Option.map_some, hrm]
    · rfl
  · rw [hfs] at h2
    split at h2
    · rename_i hq
      have h3 : rows.flatten[q]? = r[q - k * m]? := by
        have h4 := flatten_set hmm hm0 hk (r' := r) hrm q
        rw [if_pos hq] at h4
        rw [← h4]
        congr 2
        refine List.ext_getElem? fun i => ?_
        rw [List.getElem?_set]
        split
        · rename_i e
          subst e
          first
            | exact hr
            | (rw [if_pos (by simpa using hk), hr])
        · rfl
      rw [h3] at h1
      rw [List.getElem?_set] at h2
      split at h2
      · rename_i e
        subst e
        rw [hj] at h1
        split at h2
        · cases h1; cases h2
          exact .fz _ _ _ _ _ List.mem_cons_self hn hb
        · cases h2
      · rw [h1] at h2; cases h2; exact .same _
    · rw [h1] at h2; cases h2; exact .same _
theorem aw_freezeIn {c : Code} {s b m s2 b2 m2 n j : Nat} {rows rows2 : List (List TV)} {r : List TV} {L : Objs} (k : Nat) (hr : rows[k]? = some r) (hj : r[j]? = some (.ms s2 b2 0 n)) (hn : rows2.length = n) (h : AW P w0 N c Q env ((s, b, .row m (rows.set k (r.set j (.sl w0.heap.size m2 rows2)))) :: L)) :
    AW P w0 N c Q env ((s, b, .row m rows) :: (s2, b2, .row m2 rows2) :: L) := ⟨fun a w hs => h.run a w (hs.freezeIn hr hj hn)⟩
/-- A variable that holds an argument and is written later. -/
theorem o_boxM {ops : Array Oper} {rest : List Oper} {d T0 : Nat} {pos : String} {af : Array Edge} {g : Option (Nat × Bool)} {T : TypeId} {x : Operand} {tv : TV} {l : List TV} (hN : Nat.blt d N = true) (hx : ev env x = some tv) (hl : tvCells tv = some l)
    (h : ∀ ss b, AL P w0 N ops Q rest ((d, .mp ss b 0) :: env) ((ss, b, .box l) :: objs)) : AO P w0 N ops Q ⟨some d, .box T x, T0, pos, af, g⟩ rest env objs := ao_box rfl rfl hN hx hl h
theorem view_code {bl : Bool} {pr sl : Int} {s b n : Nat} {rows : List (List TV)} (hm : (s, b, TObj.row 4 rows) ∈ objs) (hl : rows.length = n) : View objs (.agg [.bool bl, .int .i64 pr, .int .i64 sl, .ms s b 0 n]) (.agg [.bool bl, .int .i64 pr, .int .i64 sl, .sl 0 4 rows]) :=
  .agg _ _ rfl fun j t t' h1 h2 => by
    match j, h1, h2 with
    | 0, h1, h2 => cases h1; cases h2; exact .same _
    | 1, h1, h2 => cases h1; cases h2; exact .same _
    | 2, h1, h2 => cases h1; cases h2; exact .same _
    | 3, h1, h2 => cases h1; cases h2; exact .msAll hm hl
    | j + 4, h1, h2 => simp at h1
end
end Go.Proofs.YthpdkhejeookhaaGreatDoor
/- ReachableSelectors of the reference: its state (l28Code, l28Selector, l28Scan). -/
namespace Go.Proofs.YthpdkhejeookhaaGreatDoor
set_option maxRecDepth 20000
open Go Go.RowKit
def boolR (l : List Bool) : List (List TV) := l.map fun b => [TV.bool b]
theorem boolR_len (l : List Bool) : (boolR l).length = l.length := by simp [boolR]
theorem boolR_get {l : List Bool} {k : Nat} (h : k < l.length) : (boolR l)[k]? = some [.bool (gb l k)] := by
  simp only [boolR, List.getElem?_map]
  rw [gb_get h]; rfl
theorem boolR_set (l : List Bool) (k : Nat) (b : Bool) : (boolR l).set k [.bool b] = boolR (l.set k b) := by simp [boolR, List.map_set]
section
variable {G : World → Prop}
end
end Go.Proofs.YthpdkhejeookhaaGreatDoor
/- IsVerified: which parts an operation has, on the side of the program. -/
namespace Go.Proofs.YthpdkhejeookhaaGreatDoor
open Go Go.RowKit
set_option maxHeartbeats 2000000 in
theorem writes_ct {G : World → Prop} (op : Int) : Ct Tryz.prog G 192 [.int .i64 op] (fun _ => .tup [.bool (useA op), .bool (useB op), .bool (useT op)]) := by
  refine ct_enter Tryz.func192 rfl Tryz.ntmps192 rfl rfl fun w0 _ hG => ?_
  repeat' (first | with_reducible refine al_none rfl ?_ | ((with_reducible apply o_y); exact y_; rfl) | with_reducible refine aw_seq ?_ | with_reducible refine aw_region ?_ | with_reducible refine al_nil ?_ | with_reducible refine aq_then ?_ | with_reducible refine aw_block ?_ | with_reducible refine aw_skip ?_ | with_reducible refine aw_ret ?_ | with_reducible refine aq_then_ret ?_ | with_reducible refine aq_block_ret ?_ | with_reducible refine aq_block ?_ | (refine aw_cond_dt rfl rr_ dd_ ?_) | (refine aw_cond rfl rr_ (fun hc => ?_) (fun hc => ?_)))
  all_goals
    refine aq_ret3 x_ rfl (.tmp _ _ rfl) (.tmp _ _ rfl) (.tmp _ _ rfl) (fun _ => ?_) (fun _ => ?_) (fun _ => ?_)
    all_goals
      refine fin_bool ?_
      simp only [useA, useB, useT]
      symm
      first | (rw [decide_eq_true_iff]; omega) | (rw [decide_eq_false_iff_not]; omega)
end Go.Proofs.YthpdkhejeookhaaGreatDoor
/- IsVerified: selectors as contracts; what is new memory of the depths. -/
namespace Go.Proofs.YthpdkhejeookhaaGreatDoor
open Go Go.RowKit
def GL (w : World) : Prop := MaxL w
theorem GL_st : Stable GL := ⟨fun _ _ h hb => MaxL.below h hb⟩
theorem hcaS (s : ByteArray) (hs : s.size ≤ 1048576) : Ct Tryz.prog GL 183 [.str s] (fun _ => .int .i64 (nArgsL s.data.toList)) := ct_str_int fun w _ => specCountArgs_any s w hs
theorem hseS (s : ByteArray) (hs : s.size ≤ 1048576) : Ct Tryz.prog GL 182 [.str s] (fun _ => .bool (isSelL s.data.toList)) := ct_str_bool fun w _ => specIsSelector_any s w hs
theorem hcaI (s : ByteArray) (hs : s.size ≤ 1048576) : Ct Tryz.prog GL 119 [.str s] (fun _ => .int .i64 (nArgsL s.data.toList)) := ct_str_int fun w hG => countArgs_any s w hs hG
theorem hseI (s : ByteArray) (hs : s.size ≤ 1048576) : Ct Tryz.prog GL 118 [.str s] (fun _ => .bool (isSelL s.data.toList)) := ct_str_bool fun w hG => isSelector_any s w hs hG
theorem dO_new (r : Option (List Int)) : ∀ y : Nat × Nat, True → (∀ s b o, (s, b, o) ∈ dO r y → ObjNew (dO r y) o) ∧ NewOk (dO r y) (dR r y) := fun y _ =>
  ⟨fun s b o h => by
    simp only [dO, List.mem_singleton, Prod.mk.injEq] at h
    obtain ⟨_, _, rfl⟩ := h
    exact flat_new (intR_flat _), .tup _ fun t ht => by
    simp only [List.mem_cons, List.not_mem_nil, or_false] at ht
    rcases ht with rfl | rfl
    · exact .ms _ _ _ _ _ _ List.mem_cons_self
    · exact .flat _ rfl⟩
theorem instrs_tw (lo : Nat) (is : List TInstr) : instrR is = is.map (TInstr.tw lo) := rfl
end Go.Proofs.YthpdkhejeookhaaGreatDoor
