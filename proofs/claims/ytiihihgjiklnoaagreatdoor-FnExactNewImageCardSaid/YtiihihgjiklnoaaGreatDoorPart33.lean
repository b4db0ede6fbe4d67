/- Part 33 of the proof: the texts SdF. -/
import Derived.Test.YtiihihgjiklnoaaGreatDoorPart17
import Derived.Test.YtiihihgjiklnoaaGreatDoorPart32
/- StackDepths by the engine: the program's StackDepths: what is asked of the instructions one by one. -/
namespace Go.Proofs.YtiihihgjiklnoaaGreatDoor
set_option maxRecDepth 20000
open Go Go.RowKit
theorem labOff_mem {op : Int} {o : Nat} (h : o ∈ labOff op) : o = 1 ∨ o = 2 := by
  unfold labOff at h
  repeat' split at h
  all_goals first
    | (simp at h; done)
    | (simp at h; omega)
    | skip
theorem labOff_le (op : Int) : (labOff op).length ≤ 2 := by
  unfold labOff
  repeat' split
  all_goals simp
theorem labR_length (op : Int) (s b : Nat) : (labR op s b).length = (labOff op).length := by simp [labR]
theorem labR_get {op : Int} {s b q : Nat} (h : q < (labOff op).length) : (labR op s b)[q]? = some [.mp s b (labOff op)[q]] := by simp [labR, h]
def labV (a b : Int) (o : Nat) : Int := if o = 1 then a else b
theorem labs_eq2 (op a b : Int) (t : ByteArray) : TInstr.labs ⟨op, a, b, t⟩ = (labOff op).map (labV a b) := labs_eq op a b t
theorem all_snoc {α : Type} {p : α → Bool} {l : List α} {q : Nat} (h : q < l.length) (ha : (l.take q).all p = true) : (l.take (q + 1)).all p = p l[q] := by
  rw [List.take_add_one, List.all_append, ha, List.getElem?_eq_getElem h]; simp
theorem all_bad {α : Type} {p : α → Bool} {l : List α} {q : Nat} (h : q < l.length) (hb : p l[q] = false) : l.all p = false := by
  rw [List.all_eq_false]; exact ⟨_, List.getElem_mem h, by rw [hb]; simp⟩
theorem pushI_cons (n : Nat) (p d : Int) (r : List (Int × Int)) (ds : List Int) (q : List Nat) : pushI n ((p, d) :: r) (ds, q) = if badI n ds p d then none else if gd ds p < 0 then pushI n r (ds.set p.toNat d, q ++ [p.toNat]) else pushI n r (ds, q) := rfl
/-- Whether the program takes an instruction for bad at first sight. -/
def badOp (op : Int) (t : ByteArray) : Bool := !inR op 1 26 || ((decide (op = 13) || decide (op = 14)) && decide (nArgsL t.data.toList < 0))
theorem preOkI_eq (n : Nat) (op a b : Int) (t : ByteArray) : preOkI n ⟨op, a, b, t⟩ = (!badOp op t && ((labOff op).all fun o => inR (labV a b o) 0 ((n : Int) - 1))) := by
  unfold preOkI badOp
  rw [labs_eq2, List.all_map]
  have h1 : decide (0 ≤ nArgsL t.data.toList) = !decide (nArgsL t.data.toList < 0) := by
    rw [← decide_not]; exact decide_eq_decide.2 (by omega)
  rw [h1]
  cases inR op 1 26 <;> cases decide (op = 13) <;> cases decide (op = 14) <;> cases decide (nArgsL t.data.toList < 0) <;> rfl

set_option maxRecDepth 4000 in
set_option maxHeartbeats 4000000 in
theorem stackDepths_ct {G : World → Prop} (hst : Stable G) (hca : ∀ s : ByteArray, s.size ≤ 1048576 → Ct Tryz.prog G 136 [.str s] (fun _ => .int .i64 (nArgsL s.data.toList)))
    (l2 : Nat) (bl : Bool) (pr sl : Int) (is : List TInstr) (hn : is.length ≤ 1048576) (ht : ∀ i ∈ is, i.text.size ≤ 1048576) :
    CtM Tryz.prog G 138 [.agg [.bool bl, .int .i64 pr, .int .i64 sl, .sl l2 4 (instrR is)]] [] (fun _ : Nat × Nat => True) (dO (depthsL is)) (dR (depthsL is)) := by
  refine ctm_enter Tryz.func138 rfl Tryz.ntmps138 rfl rfl rfl fun w0 R gs objsR hG hR => ?_
  obtain rfl := hR.inv0
  clear hR
  have hlen := instrR_length is
  by_cases hz : is.length = 0
  · have hd : depthsL is = none := by unfold depthsL; rw [if_pos hz]
    rw [hd]
    repeat' (first | refine W_ ?_ | refine e_box ?_ | refine c_ (fun hc => ?_) (fun hc => ?_) | refine g_ (fun hg => ?_) (fun hg => ?_))
    refine aq_nils 2 1 (by omega) rfl fun ss => aq_retm2 x_ rfl (ss, 0) trivial rfl (.cons _ _ _ _ (.nil R)) pk_ (.tmp _ _ rfl) (.tmp _ _ rfl) rfl
  have hnz : 0 < is.length := by omega
  have hc1 : ((is.length - 1 : Nat) : Int) = (is.length : Int) - 1 := by omega
  have hnone : preOk is = false → depthsL is = none := fun h => by unfold depthsL; rw [h]; simp
  repeat' (first | refine W_ ?_ | refine e_box ?_ | refine c_ (fun hc => ?_) (fun hc => ?_) | refine g_ (fun hg => ?_) (fun hg => ?_))
  apply aw_loopk (X := Nat) [1, 4, 26, 1000000] (fun i => [(27, .int .i64 (i : Int))]) (fun _ => R) (fun i => i ≤ is.length ∧ (is.take i).all (preOkI is.length) = true) (fun i => is.length - i) 0 ⟨Nat.zero_le _, rfl⟩
  exact kp_; exact nw_
  · exact .refl _
  rintro i ⟨hi, hall⟩
  try dsimp only
  by_cases hlt : i < is.length
  · have hii : (instrR is)[i]? = some (is[i]).tv := by simp only [instrR, List.getElem?_map]; rw [List.getElem?_eq_getElem hlt]; rfl
    have htk := all_snoc hlt hall
    have hbad := fun h => hnone (all_bad (p := preOkI is.length) hlt h)
    have hti := ht _ (List.getElem_mem hlt)
    generalize is[i] = ii at hii hti htk hbad
    obtain ⟨op, a, b, t⟩ := ii
    rw [preOkI_eq] at htk hbad
    replace hii : (instrR is)[i]? = some [.int .i64 op, .int .i64 a, .int .i64 b, .str t] := hii
    replace hti : t.size ≤ 1048576 := hti
    repeat' (first | refine H_ 8 ?_ | (refine e_alloc ?_; intro ss bb) | refine e_storep ?_ | refine c_ (fun hc => ?_) (fun hc => ?_) | refine g_ (fun hg => ?_) (fun hg => ?_))
    refine ⟨aw_seq ?_⟩
    generalize ss = s6; generalize bb = b6
    apply aw_join (X := Unit) [1, 4, 6, 26, 27, 1000000] (fun _ => [(54, .bool (badOp op t))]) (fun _ => (s6, b6, .box [.int .i64 op, .int .i64 a, .int .i64 b, .str t]) :: R) (fun _ => True)
    case hk => (repeat (first | exact Kept.nil | (apply Kept.cons; rfl)))
    · clear hbad htk hall hii ht
      repeat' (first | refine W_ ?_ | refine e_call hG hst (within_ct _ _ _) ?_ | refine e_call hG hst (hca _ hti) ?_ | refine c_ (fun hc => ?_) (fun hc => ?_) | refine g_ (fun hg => ?_) (fun hg => ?_))
      all_goals
        refine aq_mid () trivial (.of _ (Weak.envCons (lk_bool rfl ?_) Weak.envNil) od_ pk_)
        first
          | (simp [badOp, *]; done)
          | (simp [badOp, *]; simp [inR]; done)
    intro _ _
    by_cases hb1 : badOp op t = true
    · have hd := hbad (by rw [hb1]; rfl)
      rw [hb1, hd]
      repeat' (first | with_reducible refine al_none rfl ?_ | ((with_reducible first | apply o_move | apply o_assign); rfl; rfl) | with_reducible refine aw_seq ?_ | with_reducible refine aw_region ?_ | with_reducible refine al_nil ?_ | with_reducible refine aq_then ?_ | with_reducible refine aw_block ?_ | with_reducible refine aw_exit ?_ | with_reducible refine aw_skip ?_ | with_reducible refine aw_ret ?_ | with_reducible refine aq_block_hit ?_ | with_reducible refine aq_block_miss rfl ?_ | with_reducible refine aq_then_exit ?_ | with_reducible refine aq_then_ret ?_ | with_reducible refine aq_block_ret ?_ | with_reducible refine aq_block ?_ | refine aw_cond_t rfl rr_ ?_ | refine aw_cond_f rfl rr_ ?_ | (refine aw_cond_dt rfl rr_ dd_ ?_) | (refine aw_cond_df rfl rr_ dd_ ?_) | (refine aw_cond rfl rr_ (fun hc => ?_) (fun hc => ?_)) | (refine aw_cond_b rfl rr_ (fun hc => ?_) (fun hc => ?_)))
      refine aq_nils 2 1 (by omega) rfl fun ss => aq_retm2 x_ rfl (ss, 0) trivial rfl (.cons _ _ _ _ (.nil R)) pk_ (.tmp _ _ rfl) (.tmp _ _ rfl) rfl
    rw [Bool.not_eq_true] at hb1
    rw [hb1] at htk hbad
    simp only [Bool.not_false, Bool.true_and] at htk hbad
    rw [hb1]
    have hlr := labR_length op s6 b6
    have hol := labOff_le op
    repeat' (first | refine W_ ?_ | ((with_reducible apply o_callM); rfl; kernel_rfl; (repeat (first | exact ArgsM.nil | ((with_reducible apply ArgsM.cons); rfl))); exact hG; exact labelsOf_ct s6 b6 op a b t; exact .cons _ _ _ _ (.nil _); intro y _; obtain ⟨sl5, bl5⟩ := y; refine al_app2 ?_) | refine c_ (fun hc => ?_) (fun hc => ?_) | refine g_ (fun hg => ?_) (fun hg => ?_))
    apply aw_loopk (X := Nat) [1, 4, 26, 27, 55, 56, 1000000] (fun q => [(57, .int .i64 (q : Int))]) (fun _ => (sl5, bl5, .row 1 (labR op s6 b6)) :: (s6, b6, .box [.int .i64 op, .int .i64 a, .int .i64 b, .str t]) :: R) (fun q => q ≤ (labOff op).length ∧ ((labOff op).take q).all (fun o => inR (labV a b o) 0 ((is.length : Int) - 1)) = true) (fun q => (labOff op).length - q) 0 ⟨Nat.zero_le _, rfl⟩
    exact kp_; exact nw_
    · exact .refl _
    rintro q ⟨hq, hqa⟩
    try dsimp only
    by_cases hql : q < (labOff op).length
    · have hrow := labR_get (s := s6) (b := b6) hql
      have hqk := all_snoc hql hqa
      have hqb := fun h => hbad (all_bad (p := fun o => inR (labV a b o) 0 ((is.length : Int) - 1)) hql h)
      have hmem := labOff_mem (List.getElem_mem hql)
      generalize (labOff op)[q] = o at hrow hqk hqb hmem
      by_cases hin : inR (labV a b o) 0 ((is.length : Int) - 1) = true
      · have hw : ∀ G, Ct Tryz.prog G 55 [.int .i64 (labV a b o), .int .i64 0, .int .i64 ((is.length - 1 : Nat) : Int)] (fun _ => .bool true) := fun G => by rw [hc1, ← hin]; exact within_ct _ _ _
        rcases hmem with rfl | rfl
        all_goals
          first | rw [show labV a b 1 = a from rfl] at hw | rw [show labV a b 2 = b from rfl] at hw
          repeat' (first | refine W_ ?_ | refine e_call hG hst (hw _) ?_ | refine c_ (fun hc => ?_) (fun hc => ?_) | refine g_ (fun hg => ?_) (fun hg => ?_))
          exact aq_round (q + 1) ⟨by omega, by rw [hqk, hin]⟩ (by omega) (.of _ nw_ od_ pk_)
      · rw [Bool.not_eq_true] at hin
        have hd := hqb hin
        rw [hd]
        have hw : ∀ G, Ct Tryz.prog G 55 [.int .i64 (labV a b o), .int .i64 0, .int .i64 ((is.length - 1 : Nat) : Int)] (fun _ => .bool false) := fun G => by rw [hc1, ← hin]; exact within_ct _ _ _
        rcases hmem with rfl | rfl
        all_goals
          first | rw [show labV a b 1 = a from rfl] at hw | rw [show labV a b 2 = b from rfl] at hw
          repeat' (first | refine W_ ?_ | refine e_call hG hst (hw _) ?_ | refine c_ (fun hc => ?_) (fun hc => ?_) | refine g_ (fun hg => ?_) (fun hg => ?_))
          refine aq_nils 2 1 (by omega) rfl fun ss => aq_retm2 x_ rfl (ss, 0) trivial rfl (.cons _ _ _ _ (.nil R)) pk_ (.tmp _ _ rfl) (.tmp _ _ rfl) rfl
    · rw [List.take_of_length_le (by omega)] at hqa
      rw [hqa] at htk
      repeat' (first | refine W_ ?_ | refine c_ (fun hc => ?_) (fun hc => ?_) | refine g_ (fun hg => ?_) (fun hg => ?_))
      exact aq_round (i + 1) ⟨by omega, htk⟩ (by omega) (.of _ nw_ od_ pk_)
  · rw [List.take_of_length_le (by omega)] at hall
    have hd : depthsL is = flow is (stepI is) is.length (0 :: List.replicate (is.length - 1) (-1)) [0] := by
      unfold depthsL; rw [if_neg hz, if_pos (show preOk is = true from hall)]
    have hn1 : 1 ≤ is.length := hnz
    have hset : (intR (List.replicate is.length (-1))).set 0 [.int .i64 0] = intR (0 :: List.replicate (is.length - 1) (-1)) := by
      have e : is.length = (is.length - 1) + 1 := by omega
      rw [e, List.replicate_succ]; rfl
    have hrow0 : (intR (List.replicate is.length (-1)))[0]? = some [.int .i64 (-1)] := by
      have e : is.length = (is.length - 1) + 1 := by omega
      rw [e, List.replicate_succ]; rfl
    have hrep := fun lo => repeat_ct (G := G) lo is.length hn1 hn
    repeat' (first | refine H_ 19 ?_ | refine e_lit ?_ | refine e_store ?_ | ((with_reducible apply o_callM); rfl; kernel_rfl; (repeat (first | exact ArgsM.nil | ((with_reducible apply ArgsM.cons); rfl))); exact hG; exact hrep _; exact .nil _; intro y _; obtain ⟨ss, bb⟩ := y; refine al_app1 ?_) | refine c_ (fun hc => ?_) (fun hc => ?_) | refine g_ (fun hg => ?_) (fun hg => ?_))
    refine ⟨?_⟩
    generalize ss = sd; generalize bb = bd
    repeat' (first | refine W_ ?_ | (refine e_own ?_; intro ss bb) | refine c_ (fun hc => ?_) (fun hc => ?_) | refine g_ (fun hg => ?_) (fun hg => ?_))
    generalize ss = st; generalize bb = bt
    rw [hset]
    have hpo : preOk is = true := hall
    clear hset hrow0 hrep hlt hnone hall hi
    apply aw_loopk (X := List Int × List Nat × List (List TV) × Nat × Nat) [1, 4, 9, 1000000] (fun x => [(10, .ms st x.2.2.2.1 x.2.2.1.length x.2.1.length)]) (fun x => (st, x.2.2.2.1, .row 1 (x.2.2.1 ++ intR (nts x.2.1))) :: (sd, bd, .row 1 (intR x.1)) :: R)
      (fun x => x.2.2.2.2 ≤ is.length ∧ DSt is.length x.1 x.2.1 x.2.2.2.2 ∧ flow is (stepI is) x.2.2.2.2 x.1 x.2.1 = depthsL is) (fun x => x.2.2.2.2) (0 :: List.replicate (is.length - 1) (-1), [0], [], bt, is.length) ⟨Nat.le_refl _, start_st hn1, hd.symm⟩
    exact kp_; exact nw_
    · exact .refl _
    rintro ⟨ds, q, pre, bt, f⟩ ⟨hf, hD, hfl⟩
    dsimp only at hf hD hfl ⊢
    cases q with
    | nil =>
      have hdl := hD.len
      have hd' : depthsL is = some ds := by rw [← hfl]; simp [flow]
      have h00 : ([] : List Nat).length = 0 := rfl
      rw [hd']
      repeat' (first | refine W_ ?_ | refine c_ (fun hc => ?_) (fun hc => ?_) | refine g_ (fun hg => ?_) (fun hg => ?_))
      refine aq_retm2 x_ rfl (sd, bd) trivial rfl (.cons _ _ _ _ (.nil R)) pk_ (.tmp _ _ rfl) (.tmp _ _ rfl) (by simp [dR, hdl])
    | cons p q =>
    obtain ⟨j, rfl, hD', hpn, hg0⟩ := hD.pop
    clear hD
    have hlc : (p :: q).length = q.length + 1 := rfl
    rw [flow_cons _ _ _ _ _ hpn] at hfl
    have hrange := hD'.inv.gd (p : Nat)
    have hdl := hD'.len
    have hmu := hD'.mu
    have hgp : (pre ++ intR (nts (p :: q)))[pre.length + 0]? = some [.int .i64 (p : Int)] := by
      rw [Nat.add_zero, List.getElem?_append_right (Nat.le_refl _), Nat.sub_self]; rfl
    have hdi : (intR ds)[p]? = some [.int .i64 (gd ds (p : Nat))] := by
      have h9 := gd_get (ds := ds) (p := p) (by omega)
      simp only [intR, List.getElem?_map]
      rw [List.getElem?_eq_getElem (by omega), h9]; rfl
    have hii : (instrR is)[p]? = some (is[p]).tv := by simp only [instrR, List.getElem?_map]; rw [List.getElem?_eq_getElem hpn]; rfl
    have hpi : preOkI is.length is[p] = true := List.all_eq_true.1 hpo _ (List.getElem_mem _)
    have hti := ht _ (List.getElem_mem hpn)
    generalize is[p] = ii at hfl hii hpi hti
    obtain ⟨op, a, b, t⟩ := ii
    replace hti : t.size ≤ 1048576 := hti
    have her := eff_range ⟨op, a, b, t⟩
    have hop : inR op 1 26 = true := by simp only [preOkI, Bool.and_eq_true] at hpi; exact hpi.1.1
    have hef := effect_ct hst hca op a b t hti hop
    have hnx := next_ct hst hca op a b t p (gd ds p) hti hop (by omega) ⟨hg0, hrange.2⟩
    replace hii : (instrR is)[p]? = some [.int .i64 op, .int .i64 a, .int .i64 b, .str t] := hii
    have hstep : stepI is ⟨op, a, b, t⟩ p ds = if gd ds p < (TInstr.eff ⟨op, a, b, t⟩).1 then none else if (TInstr.labs ⟨op, a, b, t⟩).any (backI is p op) then none else pushI is.length (TInstr.nexts ⟨op, a, b, t⟩ p (gd ds p)) (ds, []) := rfl
    rw [hstep, labs_eq2, List.any_map] at hfl
    clear hstep
    have hpi0 := hpi
    rw [preOkI_eq, Bool.and_eq_true] at hpi
    have hlb := hpi.2
    clear hpi
    have hn0 : ¬ gd ds p < (TInstr.eff ⟨op, a, b, t⟩).1 → ∀ x ∈ TInstr.nexts ⟨op, a, b, t⟩ p (gd ds p), 0 ≤ x.2 := fun h => nexts_nonneg ⟨op, a, b, t⟩ p (gd ds p) hg0 h fun h14 => by
      have := hpi0
      simp only [preOkI, Bool.and_eq_true] at this
      have h3 := this.1.2
      simp [show op = 14 from h14] at h3
      simp [TInstr.eff, show op = 14 from h14]; exact h3
    clear hpi0
    have hnl := nexts_len ⟨op, a, b, t⟩ p (gd ds p)
    generalize TInstr.nexts ⟨op, a, b, t⟩ p (gd ds p) = L at *
    generalize (TInstr.eff ⟨op, a, b, t⟩).1 = e1 at *
    generalize (TInstr.eff ⟨op, a, b, t⟩).2 = e2 at *
    generalize hgg : gd ds (p : Int) = g at *
    by_cases hlt : g < e1
    · rw [if_pos hlt] at hfl
      rw [← hfl]
      repeat' (first | refine W_ ?_ | refine e_slms ?_ | (refine e_alloc ?_; intro ss bb) | refine e_storep ?_ | refine e_call hG hst (hef) ?_ | refine c_ (fun hc => ?_) (fun hc => ?_) | refine g_ (fun hg => ?_) (fun hg => ?_))
      refine aq_nils 2 1 (by omega) rfl fun ss => aq_retm2 x_ rfl (ss, 0) trivial rfl (.cons _ _ _ _ (.nil R)) pk_ (.tmp _ _ rfl) (.tmp _ _ rfl) rfl
    rw [if_neg hlt] at hfl
    replace hn0 := hn0 hlt
    have hlr := fun s b => labR_length op s b
    have hol := labOff_le op
    repeat' (first | refine W_ ?_ | refine e_slms ?_ | (refine e_alloc ?_; intro ss bb) | refine e_storep ?_ | refine e_call hG hst (hef) ?_ | ((with_reducible apply o_callM); rfl; kernel_rfl; (repeat (first | exact ArgsM.nil | ((with_reducible apply ArgsM.cons); rfl))); exact hG; exact labelsOf_ct ss bb op a b t; exact .cons _ _ _ _ (.nil _); intro y _; obtain ⟨sl5, bl5⟩ := y; refine al_app2 ?_) | refine c_ (fun hc => ?_) (fun hc => ?_) | refine g_ (fun hg => ?_) (fun hg => ?_))
    generalize ss = s6; generalize bb = b6
    have hlr6 := hlr s6 b6
    clear hlr
    apply aw_loopk (X := Nat) [1, 4, 9, 11, 12, 100, 101, 1000000] (fun k => [(102, .int .i64 (k : Int)), (10, .ms st bt (pre ++ [[TV.int .i64 (p : Int)]]).length q.length)]) (fun _ => (sl5, bl5, .row 1 (labR op s6 b6)) :: (s6, b6, .box [.int .i64 op, .int .i64 a, .int .i64 b, .str t]) :: (st, bt, .row 1 ((pre ++ [[TV.int .i64 (p : Int)]]) ++ intR (nts q))) :: (sd, bd, .row 1 (intR ds)) :: R)
      (fun k => k ≤ (labOff op).length ∧ ((labOff op).take k).any (backI is p op ∘ labV a b) = false) (fun k => (labOff op).length - k) 0 ⟨Nat.zero_le _, rfl⟩
    (repeat (first | exact Kept.nil | (apply Kept.cons; rfl)))
    · (repeat (first | exact Weak.envNil | refine Weak.envCons (by first | rfl | exact lk_ms2 rfl (by simp) (by simp)) ?_))
    · refine .cons (.head _) (.cons (.head _) ?_)
      rw [List.append_assoc]
      exact .refl _
    have hpr : (pre ++ [[TV.int .i64 (p : Int)]]).length = pre.length + 1 := by simp
    generalize pre ++ [[TV.int .i64 (p : Int)]] = pre1 at *
    rintro k ⟨hk, hka⟩
    try dsimp only
    by_cases hkl : k < (labOff op).length
    · have hrow := labR_get (s := s6) (b := b6) hkl
      have hkk : ((labOff op).take (k + 1)).any (backI is p op ∘ labV a b) = (backI is p op ∘ labV a b) (labOff op)[k] := by
        rw [List.take_add_one, List.any_append, hka, List.getElem?_eq_getElem hkl]; simp
      have hkb : (backI is p op ∘ labV a b) (labOff op)[k] = true → (labOff op).any (backI is p op ∘ labV a b) = true := fun h => List.any_eq_true.2 ⟨_, List.getElem_mem hkl, h⟩
      have hmem := labOff_mem (List.getElem_mem hkl)
      have hin := List.all_eq_true.1 hlb _ (List.getElem_mem hkl)
      generalize (labOff op)[k] = o at hrow hkk hkb hmem hin
      dsimp only [Function.comp] at hkk hkb
      simp only [inR, decide_eq_true_eq] at hin
      obtain ⟨vn, hvn⟩ : ∃ vn : Nat, labV a b o = (vn : Int) := ⟨(labV a b o).toNat, by omega⟩
      rw [hvn] at hkk hkb hin
      have hvl : vn < is.length := by omega
      repeat' (first | refine H_ 30 ?_ | refine c_ (fun hc => ?_) (fun hc => ?_) | refine g_ (fun hg => ?_) (fun hg => ?_))
      refine ⟨aw_seq ?_⟩
      apply aw_join (X := Unit) [1, 4, 9, 10, 11, 12, 100, 101, 102, 1000000] (fun _ => [(126, .bool (backI is p op (vn : Int)))]) (fun _ => (sl5, bl5, .row 1 (labR op s6 b6)) :: (s6, b6, .box [.int .i64 op, .int .i64 a, .int .i64 b, .str t]) :: (st, bt, .row 1 (pre1 ++ intR (nts q))) :: (sd, bd, .row 1 (intR ds)) :: R) (fun _ => True)
      case hk => (repeat (first | exact Kept.nil | (apply Kept.cons; rfl)))
      · have hri : (instrR is)[vn]? = some (is[vn]).tv := by simp only [instrR, List.getElem?_map]; rw [List.getElem?_eq_getElem hvl]; rfl
        have hoa : opAt is (vn : Int) = is[vn].op := by simp [opAt, hvl]
        clear hkk hkb hka hlb hfl hnx hef hpo ht
        generalize is[vn] = iu at hri hoa
        obtain ⟨op', a', b', t'⟩ := iu
        replace hri : (instrR is)[vn]? = some [.int .i64 op', .int .i64 a', .int .i64 b', .str t'] := hri
        have hbs : backI is p op (vn : Int) = (!decide (op = 26) && decide ((vn : Int) ≤ p) && !decide (op' = 23)) := by simp [backI, hoa]
        rw [hbs]
        have hw3 : op = 26 ∨ (¬ op = 26 ∧ (vn : Int) ≤ p) ∨ (¬ op = 26 ∧ ¬ (vn : Int) ≤ p) := by omega
        rcases hmem with rfl | rfl
        all_goals
          first
            | obtain rfl : a = (vn : Int) := hvn
            | obtain rfl : b = (vn : Int) := hvn
          rcases hw3 with h26 | ⟨h26, hle⟩ | ⟨h26, hle⟩
          all_goals
            repeat' (first | refine V_ ?_ | refine c_ (fun hc => ?_) (fun hc => ?_) | refine g_ (fun hg => ?_) (fun hg => ?_))
            refine aq_mid () trivial (.of _ nw_ od_ pk_)
      · intro _ _
        by_cases hbk : backI is p op (vn : Int) = true
        · rw [hkb hbk, if_pos rfl] at hfl
          rw [hbk, ← hfl]
          repeat' (first | with_reducible refine al_none rfl ?_ | ((with_reducible first | apply o_move | apply o_assign); rfl; rfl) | with_reducible refine aw_seq ?_ | with_reducible refine aw_region ?_ | with_reducible refine al_nil ?_ | with_reducible refine aq_then ?_ | with_reducible refine aw_block ?_ | with_reducible refine aw_exit ?_ | with_reducible refine aw_skip ?_ | with_reducible refine aw_ret ?_ | with_reducible refine aq_block_hit ?_ | with_reducible refine aq_block_miss rfl ?_ | with_reducible refine aq_then_exit ?_ | with_reducible refine aq_then_ret ?_ | with_reducible refine aq_block_ret ?_ | with_reducible refine aq_block ?_ | refine aw_cond_t rfl rr_ ?_ | refine aw_cond_f rfl rr_ ?_ | (refine aw_cond_dt rfl rr_ dd_ ?_) | (refine aw_cond_df rfl rr_ dd_ ?_) | (refine aw_cond rfl rr_ (fun hc => ?_) (fun hc => ?_)) | (refine aw_cond_b rfl rr_ (fun hc => ?_) (fun hc => ?_)))
          refine aq_nils 2 1 (by omega) rfl fun ss => aq_retm2 x_ rfl (ss, 0) trivial rfl (.cons _ _ _ _ (.nil R)) pk_ (.tmp _ _ rfl) (.tmp _ _ rfl) rfl
        · rw [Bool.not_eq_true] at hbk
          rw [hbk]
          repeat' (first | refine W_ ?_ | refine c_ (fun hc => ?_) (fun hc => ?_) | refine g_ (fun hg => ?_) (fun hg => ?_))
          exact aq_round (k + 1) ⟨by omega, by rw [hkk, hbk]⟩ (by omega) (.of _ nw_ od_ pk_)
    · rw [List.take_of_length_le (by omega)] at hka
      rw [hka, if_neg (by simp)] at hfl
      repeat' (first | refine V_ ?_ | refine e_calld hG hst (hnx) ?_ | refine c_ (fun hc => ?_) (fun hc => ?_) | refine g_ (fun hg => ?_) (fun hg => ?_))
      clear hka hlb hef hnx hmu
      apply aw_loopk (X := Nat × List Int × List Nat × Nat × List (List TV)) [1, 4, 9, 134, 135, 1000000] (fun x => [(136, .int .i64 (x.1 : Int)), (10, .ms st x.2.2.2.1 x.2.2.2.2.length (q.length + x.2.2.1.length))])
        (fun x => (st, x.2.2.2.1, .row 1 (x.2.2.2.2 ++ intR (nts (q ++ x.2.2.1)))) :: (sd, bd, .row 1 (intR x.2.1)) :: R)
        (fun x => x.1 ≤ L.length ∧ x.2.1.length = is.length ∧ x.2.2.1.length ≤ x.1 ∧ pushI is.length (L.drop x.1) (x.2.1, x.2.2.1) = pushI is.length L (ds, [])) (fun x => L.length - x.1) (0, ds, [], bt, pre1) ⟨Nat.zero_le _, hdl, Nat.zero_le _, rfl⟩
      exact kp_; exact nw_
      · rw [List.append_nil]; exact pk_
      rintro ⟨k, ds', new, bt', pre'⟩ ⟨hk, hdl', hnw, hpu⟩
      dsimp only at hk hdl' hnw hpu ⊢
      have hqf : q.length ≤ is.length := by have := hD'.mu; omega
      by_cases hkl : k < L.length
      · rw [List.drop_eq_getElem_cons hkl] at hpu
        have hrow : (plR L)[k]? = some [.int .i64 L[k].1, .int .i64 L[k].2] := by simp [plR, hkl]
        generalize L[k] = uv at hpu hrow
        obtain ⟨u, v⟩ := uv
        dsimp only at hrow
        rw [pushI_cons] at hpu
        repeat' (first | ((with_reducible apply o_y); exact y_; rfl) | (refine e_alloc ?_; intro ss bb) | refine e_storep ?_ | with_reducible refine aw_hold_b (id := 10) ?_  | with_reducible refine al_none rfl ?_ | (with_reducible first | apply aw_seq | apply aw_region | apply al_nil | apply aq_then | apply aw_block | apply aw_exit | apply aw_skip | apply aw_ret | apply aq_block_hit | apply (aq_block_miss rfl) | apply aq_then_exit | apply aq_then_ret | apply aq_block_ret | apply aq_block) | refine al_run rfl rfl rfl rr_ ?_ | refine al_skip rfl rfl rfl rr_ rfl rfl rfl ?_ | refine al_skip2 rfl rfl rfl rr_ rfl rfl ?_ | (refine al_gt rfl rfl rfl rr_ dd_ ?_) | (refine al_gf rfl rfl rfl rr_ dd_ ?_) | (refine al_gsplit rfl rfl rfl rr_ (fun hg => ?_) (fun hg => ?_)) | (refine al_gsplit_b rfl rfl rfl rr_ (fun hg => ?_) (fun hg => ?_)) | refine aw_cond_t rfl rr_ ?_ | refine aw_cond_f rfl rr_ ?_ | (refine aw_cond_dt rfl rr_ dd_ ?_) | (refine aw_cond_df rfl rr_ dd_ ?_) | (refine aw_cond rfl rr_ (fun hc => ?_) (fun hc => ?_)) | (refine aw_cond_b rfl rr_ (fun hc => ?_) (fun hc => ?_)))
        refine ⟨aw_block (aw_seq ?_)⟩
        generalize ss = s8; generalize bb = b8
        apply aw_join (X := Unit) [1, 4, 9, 10, 18, 134, 135, 136, 1000000] (fun _ => [(140, .bool (badI is.length ds' u v))]) (fun _ => (s8, b8, .box [.int .i64 u, .int .i64 v]) :: (st, bt', .row 1 (pre' ++ intR (nts (q ++ new)))) :: (sd, bd, .row 1 (intR ds')) :: R) (fun _ => True)
        case hk => (repeat (first | exact Kept.nil | (apply Kept.cons; rfl)))
        · clear hpu hfl hn0 hpo ht
          by_cases hin : inR u 0 ((is.length : Int) - 1) = true
          · have hw : ∀ G, Ct Tryz.prog G 55 [.int .i64 u, .int .i64 0, .int .i64 ((is.length - 1 : Nat) : Int)] (fun _ => .bool true) := fun G => by rw [hc1, ← hin]; exact within_ct _ _ _
            have hin2 : 0 ≤ u ∧ u ≤ (is.length : Int) - 1 := by simpa [inR] using hin
            obtain ⟨un, rfl⟩ : ∃ un : Nat, u = (un : Int) := ⟨u.toNat, by omega⟩
            have hun : un < is.length := by omega
            have hrd : (intR ds')[un]? = some [.int .i64 (gd ds' (un : Int))] := by
              have h9 := gd_get (ds := ds') (p := un) (by omega)
              simp only [intR, List.getElem?_map]
              rw [List.getElem?_eq_getElem (by omega), h9]; rfl
            have hbs : badI is.length ds' (un : Int) v = (decide (250 < v) || (decide (0 ≤ gd ds' (un : Int)) && !decide (gd ds' (un : Int) = v))) := by simp [badI, hin]
            rw [hbs]
            generalize gd ds' (un : Int) = gv at hrd ⊢
            have hw3 : 250 < v ∨ (¬ 250 < v ∧ 0 ≤ gv) ∨ (¬ 250 < v ∧ ¬ 0 ≤ gv) := by omega
            rcases hw3 with h250 | ⟨h250, hg0'⟩ | ⟨h250, hg0'⟩
            all_goals
              repeat' (first | refine V_ ?_ | refine e_calld hG hst (hw _) ?_ | refine c_ (fun hc => ?_) (fun hc => ?_) | refine g_ (fun hg => ?_) (fun hg => ?_))
              refine aq_mid () trivial (.of _ (Weak.envCons (lk_bool rfl (by simp [*])) Weak.envNil) od_ pk_)
          · rw [Bool.not_eq_true] at hin
            have hw : ∀ G, Ct Tryz.prog G 55 [.int .i64 u, .int .i64 0, .int .i64 ((is.length - 1 : Nat) : Int)] (fun _ => .bool false) := fun G => by rw [hc1, ← hin]; exact within_ct _ _ _
            have hbs : badI is.length ds' u v = true := by simp [badI, hin]
            rw [hbs]
            repeat' (first | refine V_ ?_ | refine e_calld hG hst (hw _) ?_ | refine c_ (fun hc => ?_) (fun hc => ?_) | refine g_ (fun hg => ?_) (fun hg => ?_))
            refine aq_mid () trivial (.of _ nw_ od_ pk_)
        · intro _ _
          by_cases hb : badI is.length ds' u v = true
          · rw [if_pos hb] at hpu
            rw [← hpu] at hfl
            dsimp only at hfl
            rw [hb, ← hfl]
            repeat' (first | with_reducible refine al_none rfl ?_ | ((with_reducible first | apply o_move | apply o_assign); rfl; rfl) | with_reducible refine aw_seq ?_ | with_reducible refine aw_region ?_ | with_reducible refine al_nil ?_ | with_reducible refine aq_then ?_ | with_reducible refine aw_block ?_ | with_reducible refine aw_exit ?_ | with_reducible refine aw_skip ?_ | with_reducible refine aw_ret ?_ | with_reducible refine aq_block_hit ?_ | with_reducible refine aq_block_miss rfl ?_ | with_reducible refine aq_then_exit ?_ | with_reducible refine aq_then_ret ?_ | with_reducible refine aq_block_ret ?_ | with_reducible refine aq_block ?_ | refine aw_cond_t rfl rr_ ?_ | refine aw_cond_f rfl rr_ ?_ | (refine aw_cond_dt rfl rr_ dd_ ?_) | (refine aw_cond_df rfl rr_ dd_ ?_) | (refine aw_cond rfl rr_ (fun hc => ?_) (fun hc => ?_)) | (refine aw_cond_b rfl rr_ (fun hc => ?_) (fun hc => ?_)))
            refine aq_nils 2 1 (by omega) rfl fun ss => aq_retm2 x_ rfl (ss, 0) trivial rfl (.cons _ _ _ _ (.nil R)) pk_ (.tmp _ _ rfl) (.tmp _ _ rfl) rfl
          · rw [if_neg hb] at hpu
            have hin : inR u 0 ((is.length : Int) - 1) = true := by
              cases h : inR u 0 ((is.length : Int) - 1)
              · exact absurd (by simp [badI, h]) hb
              · rfl
            rw [Bool.not_eq_true] at hb
            rw [hb]
            have hin2 : 0 ≤ u ∧ u ≤ (is.length : Int) - 1 := by simpa [inR] using hin
            obtain ⟨un, rfl⟩ : ∃ un : Nat, u = (un : Int) := ⟨u.toNat, by omega⟩
            have hun : un < is.length := by omega
            have hrd : (intR ds')[un]? = some [.int .i64 (gd ds' (un : Int))] := by
              have h9 := gd_get (ds := ds') (p := un) (by omega)
              simp only [intR, List.getElem?_map]
              rw [List.getElem?_eq_getElem (by omega), h9]; rfl
            have hrl : pre'.length + (q.length + new.length) ≤ (pre' ++ intR (nts (q ++ new))).length := by simp [intR, nts]
            have hlive : ((pre' ++ intR (nts (q ++ new))).drop pre'.length).take (q.length + new.length) = intR (nts (q ++ new)) := by
              rw [List.drop_left, List.take_of_length_le (by simp [intR, nts])]
            by_cases hgn : gd ds' (un : Int) < 0
            · rw [if_pos hgn] at hpu
              have hset : (intR ds').set un [.int .i64 v] = intR (ds'.set un v) := intR_set ds' un v
              repeat' (first | refine W_ ?_ | refine e_store ?_ | refine e_lit ?_ | (refine e_appq ?_; intro bb pp) | refine c_ (fun hc => ?_) (fun hc => ?_) | refine g_ (fun hg => ?_) (fun hg => ?_))
              refine aq_round (k + 1, ds'.set un v, new ++ [un], bb, pp) ⟨by dsimp only; omega, by simp [hdl'], by simp; omega, by dsimp only; rw [← hpu]; rfl⟩ (by dsimp only; omega) (.of _ nw_ od_ pk_)
            · rw [if_neg hgn] at hpu
              repeat' (first | refine W_ ?_ | refine c_ (fun hc => ?_) (fun hc => ?_) | refine g_ (fun hg => ?_) (fun hg => ?_))
              refine aq_round (k + 1, ds', new, bt', pre') ⟨by dsimp only; omega, hdl', by dsimp only; omega, by dsimp only; exact hpu⟩ (by dsimp only; omega) (.of _ nw_ od_ pk_)
      · rw [List.drop_of_length_le (by omega)] at hpu
        rw [← hpu] at hfl
        dsimp only [pushI] at hfl
        repeat' (first | refine W_ ?_ | refine c_ (fun hc => ?_) (fun hc => ?_) | refine g_ (fun hg => ?_) (fun hg => ?_))
        refine aq_round (ds', q ++ new, pre', bt', j) ⟨by dsimp only; omega, ?_, by dsimp only; exact hfl⟩ (by dsimp only; omega) (.of _ nw_ od_ pk_)
        dsimp only
        exact pushI_st L ds q [] (ds', new) hn0 (by rw [List.append_nil]; exact hD') hpu.symm
end Go.Proofs.YtiihihgjiklnoaaGreatDoor
