/- Part 30 of the proof: the texts SdB, SdC, IvB. -/
import Derived.Test.YtiihihgjiklnoaaGreatDoorPart17
import Derived.Test.YtiihihgjiklnoaaGreatDoorPart29
import Derived.Test.YtiihihgjiklnoaaGreatDoorPart28
/- StackDepths by the engine: the reference's l16Depths. -/
namespace Go.Proofs.YtiihihgjiklnoaaGreatDoor
set_option maxRecDepth 20000
open Go Go.RowKit
def instrR (is : List TInstr) : List (List TV) := is.map TInstr.tv
theorem instrR_length (is : List TInstr) : (instrR is).length = is.length := by simp [instrR]
def fillD (n i : Nat) : List Int := List.replicate i (-1) ++ List.replicate (n - i) 0
theorem fillD_step {n i : Nat} (h : i < n) : (intR (fillD n i))[i]? = some [.int .i64 0] ∧ (intR (fillD n i)).set i [.int .i64 (-1)] = intR (fillD n (i + 1)) := by
  have e : n - i = (n - (i + 1)) + 1 := by omega
  refine ⟨?_, ?_⟩
  · simp only [intR, fillD, List.getElem?_map]
    rw [List.getElem?_append_right (by simp), e, List.replicate_succ]; simp
  · simp only [intR, fillD]
    rw [e, List.replicate_succ, ← List.map_set]
    congr 1
    rw [List.set_append_right _ _ (by simp)]
    simp [List.replicate_succ', List.append_assoc]
def dO (r : Option (List Int)) (y : Nat × Nat) : Objs := [(y.1, y.2, .row 1 (intR (r.getD [])))]
def dR (r : Option (List Int)) (y : Nat × Nat) : TV := .tup [.ms y.1 y.2 0 (r.getD []).length, .bool r.isSome]
set_option maxRecDepth 4000 in
set_option maxHeartbeats 4000000 in
theorem l16Depths_ct {G : World → Prop} (hst : Stable G) (hca : ∀ s : ByteArray, s.size ≤ 1048576 → Ct Tryz.prog G 204 [.str s] (fun _ => .int .i64 (nArgsL s.data.toList))) (lo l2 : Nat) (bl : Bool) (pr sl : Int) (is : List TInstr) (hn : is.length ≤ 1048576) (ht : ∀ i ∈ is, i.text.size ≤ 1048576) (hp : preOk is = true) :
    CtM Tryz.prog G 206 [.cp lo [.bool bl, .int .i64 pr, .int .i64 sl, .sl l2 4 (instrR is)]] [] (fun _ : Nat × Nat => True) (dO (depthsS is)) (dR (depthsS is)) := by
  refine ctm_enter Tryz.func206 rfl Tryz.ntmps206 rfl rfl rfl fun w0 R gs objsR hG hR => ?_
  obtain rfl := hR.inv0
  have hlen := instrR_length is
  repeat' (first | refine W_ ?_ | (refine e_make ?_; intro ss bb) | refine c_ (fun hc => ?_) (fun hc => ?_) | refine g_ (fun hg => ?_) (fun hg => ?_))
  have h0 : (List.replicate is.length [TV.int .i64 0]) = intR (fillD is.length 0) := by simp [fillD, intR]
  apply aw_loopk (X := Nat) [0, 4, 1000000] (fun i => [(5, .int .i64 (i : Int))]) (fun i => (ss, bb, .row 1 (intR (fillD is.length i))) :: R) (fun i => i ≤ is.length) (fun i => is.length - i) 0 (Nat.zero_le _)
  exact kp_; exact nw_
  · rw [← h0]; exact .refl _
  intro i hi
  try dsimp only at hi ⊢
  by_cases hlt : i < is.length
  · obtain ⟨hrow, hset⟩ := fillD_step hlt
    repeat' (first | refine W_ ?_ | refine e_store ?_ | refine c_ (fun hc => ?_) (fun hc => ?_) | refine g_ (fun hg => ?_) (fun hg => ?_))
    rw [hset]
    refine aq_round (i + 1) (by omega) (by omega) (.of _ nw_ od_ (.refl _))
  · obtain rfl : i = is.length := by omega
    by_cases hz : is.length = 0
    · have hd : depthsS is = none := by unfold depthsS; rw [if_pos hz]
      rw [hd]
      repeat' (first | refine W_ ?_ | (refine e_own ?_; intro ss bb) | refine c_ (fun hc => ?_) (fun hc => ?_) | refine g_ (fun hg => ?_) (fun hg => ?_))
      refine aq_nils 2 1 (by omega) rfl fun ss => aq_retm2 x_ rfl (ss, 0) trivial rfl (.cons _ _ _ _ (.nil R)) pk_ (.tmp _ _ rfl) (.tmp _ _ rfl) rfl
    · have hrow0 : (intR (fillD is.length is.length))[0]? = some [.int .i64 (-1)] := by
        simp only [fillD, intR, List.getElem?_map]
        rw [List.getElem?_append_left (by simp; omega), List.getElem?_replicate, if_pos (by omega)]; rfl
      have hset0 : (intR (fillD is.length is.length)).set 0 [.int .i64 0] = intR (0 :: List.replicate (is.length - 1) (-1)) := by
        have e : is.length = (is.length - 1) + 1 := by omega
        simp only [fillD, intR, Nat.sub_self, List.replicate_zero, List.append_nil]
        rw [e, List.replicate_succ]; rfl
      have hnz : 0 < is.length := by omega
      have hdS : flow is (stepS is) is.length (0 :: List.replicate (is.length - 1) (-1)) [0] = depthsS is := by unfold depthsS; rw [if_neg hz]
      generalize ss = sd; generalize bb = bd
      repeat' (first | refine W_ ?_ | (refine e_own ?_; intro ss bb) | refine e_store ?_ | refine c_ (fun hc => ?_) (fun hc => ?_) | refine g_ (fun hg => ?_) (fun hg => ?_))
      generalize ss = st; generalize bb = bt
      rw [hset0]
      apply aw_loopk (X := Nat × List Int × List Nat × Nat × Nat) [0, 4, 1000000] (fun x => [(6, .ms st x.2.2.2.1 0 x.2.2.1.length), (7, .int .i64 (x.1 : Int))]) (fun x => (st, x.2.2.2.1, .row 1 (intR (nts x.2.2.1))) :: (sd, bd, .row 1 (intR x.2.1)) :: R)
        (fun x => x.1 ≤ x.2.2.1.length ∧ x.1 + x.2.2.2.2 ≤ is.length ∧ DSt is.length x.2.1 (x.2.2.1.drop x.1) x.2.2.2.2 ∧ flow is (stepS is) x.2.2.2.2 x.2.1 (x.2.2.1.drop x.1) = depthsS is) (fun x => x.2.2.2.2) (0, 0 :: List.replicate (is.length - 1) (-1), [0], bt, is.length) ⟨Nat.zero_le _, by simp, start_st (by omega), hdS⟩
      exact kp_; exact nw_
      · exact .refl _
      rintro ⟨k, ds, td, bt, f⟩ ⟨hk, hkf, hD, hfl⟩
      dsimp only at hk hkf hD hfl ⊢
      by_cases hlt : k < td.length
      · have hg : (intR (nts td))[k]? = some [.int .i64 ((td[k] : Nat) : Int)] := by simp [intR, nts, hlt]
        rw [List.drop_eq_getElem_cons hlt] at hD hfl
        obtain ⟨j, rfl, hD', hpn, hg0⟩ := hD.pop
        rw [flow_cons _ _ _ _ _ hpn] at hfl
        have hrange := hD'.inv.gd (td[k] : Nat)
        have hdl := hD'.len
        have hdi : (intR ds)[td[k]]? = some [.int .i64 (gd ds (td[k] : Nat))] := by
          have h9 := gd_get (ds := ds) (p := td[k]) (by omega)
          simp only [intR, List.getElem?_map]
          rw [List.getElem?_eq_getElem (by omega), h9]; rfl
        have hii : (instrR is)[td[k]]? = some (is[td[k]]).tv := by simp only [instrR, List.getElem?_map]; rw [List.getElem?_eq_getElem hpn]; rfl
        have hpi : preOkI is.length is[td[k]] = true := List.all_eq_true.1 hp _ (List.getElem_mem _)
        have hti := ht _ (List.getElem_mem hpn)
        generalize is[td[k]] = ii at hfl hii hpi hti
        obtain ⟨op, a, b, t⟩ := ii
        have her := eff_range ⟨op, a, b, t⟩
        have hop : inR op 1 26 = true := by simp only [preOkI, Bool.and_eq_true] at hpi; exact hpi.1.1
        have hef := l16Effect_ct hst hca op a b t hti hop
        replace hii : (instrR is)[td[k]]? = some [.int .i64 op, .int .i64 a, .int .i64 b, .str t] := hii
        have htd : td.length ≤ is.length := by have h9 := hD'.mu; simp at h9; omega
        generalize hp' : td[k] = p at *
        have hstep : stepS is ⟨op, a, b, t⟩ p ds = if gd ds p - (TInstr.eff ⟨op, a, b, t⟩).1 < 0 ∨ 250 < gd ds p - (TInstr.eff ⟨op, a, b, t⟩).1 + (TInstr.eff ⟨op, a, b, t⟩).2 then none else pushS is p op (TInstr.nexts ⟨op, a, b, t⟩ p (gd ds p)) (ds, []) := rfl
        have hst1 := fun ds' new h => stepS_st (i := ⟨op, a, b, t⟩) (ds' := ds') (new := new) hpi hD' (by omega) h
        have hnn := nexts_fst (n := is.length) ⟨op, a, b, t⟩ p (gd ds p) hpi
        have hnl := nexts_len ⟨op, a, b, t⟩ p (gd ds p)
        have hnx : TInstr.nexts ⟨op, a, b, t⟩ p (gd ds p) = TInstr.nexts ⟨op, a, b, t⟩ p (gd ds p) := rfl
        conv at hnx => rhs; unfold TInstr.nexts
        dsimp only at hnx
        generalize TInstr.nexts ⟨op, a, b, t⟩ p (gd ds p) = L at *
        generalize gd ds (p : Int) = g at *
        generalize he1 : (TInstr.eff ⟨op, a, b, t⟩).1 = e1 at *
        generalize he2 : (TInstr.eff ⟨op, a, b, t⟩).2 = e2 at *
        simp only [inR, decide_eq_true_eq] at hop
        repeat' (first | ((with_reducible apply o_y); exact y_; rfl) | (refine e_own ?_; intro ss bb) | (refine e_alloc ?_; intro ss bb) | refine e_storep ?_ | refine e_call hG hst (hef) ?_ | with_reducible refine aw_hold_b (id := 4) ?_  | with_reducible refine al_none rfl ?_ | (with_reducible first | apply aw_seq | apply aw_region | apply al_nil | apply aq_then | apply aw_block | apply aw_exit | apply aw_skip | apply aw_ret | apply aq_block_hit | apply (aq_block_miss rfl) | apply aq_then_exit | apply aq_then_ret | apply aq_block_ret | apply aq_block) | refine al_run rfl rfl rfl rr_ ?_ | refine al_skip rfl rfl rfl rr_ rfl rfl rfl ?_ | refine al_skip2 rfl rfl rfl rr_ rfl rfl ?_ | (refine al_gt rfl rfl rfl rr_ dd_ ?_) | (refine al_gf rfl rfl rfl rr_ dd_ ?_) | (refine al_gsplit rfl rfl rfl rr_ (fun hg => ?_) (fun hg => ?_)) | (refine al_gsplit_b rfl rfl rfl rr_ (fun hg => ?_) (fun hg => ?_)) | refine aw_cond_t rfl rr_ ?_ | refine aw_cond_f rfl rr_ ?_ | (refine aw_cond_dt rfl rr_ dd_ ?_) | (refine aw_cond_df rfl rr_ dd_ ?_) | (refine aw_cond rfl rr_ (fun hc => ?_) (fun hc => ?_)) | (refine aw_cond_b rfl rr_ (fun hc => ?_) (fun hc => ?_)))
        · have hd : depthsS is = none := by rw [hstep, if_pos (.inl hg)] at hfl; exact hfl.symm
          rw [hd]
          refine aq_nils 2 1 (by omega) rfl fun ss => aq_retm2 x_ rfl (ss, 0) trivial rfl (.cons _ _ _ _ (.nil R)) pk_ (.tmp _ _ rfl) (.tmp _ _ rfl) rfl
        · have hd : depthsS is = none := by rw [hstep, if_pos (.inr hc)] at hfl; exact hfl.symm
          rw [hd]
          refine aq_nils 2 1 (by omega) rfl fun ss => aq_retm2 x_ rfl (ss, 0) trivial rfl (.cons _ _ _ _ (.nil R)) pk_ (.tmp _ _ rfl) (.tmp _ _ rfl) rfl
        refine ⟨?_⟩
        rw [hstep, if_neg (by omega)] at hfl
        rw [if_neg (by omega)] at hstep
        rename_i s9 b9 s13 b13
        generalize ss = s14; generalize bb = b14
        apply aw_join (X := Nat × Nat × Nat × Nat × List Int) [0, 4, 6, 7, 8, 9, 1000000] (fun x => [(13, .ms x.1 x.2.1 0 L.length), (14, .ms x.2.2.1 x.2.2.2.1 0 (L.length + x.2.2.2.2.length))])
          (fun x => (x.1, x.2.1, .row 1 (intR (L.map Prod.fst))) :: (x.2.2.1, x.2.2.2.1, .row 1 (intR (L.map Prod.snd ++ x.2.2.2.2))) :: (s9, b9, .box [.int .i64 op, .int .i64 a, .int .i64 b, .str t]) :: (st, bt, .row 1 (intR (nts td))) :: (sd, bd, .row 1 (intR ds)) :: R) (fun x => True)
        case hk => (repeat (first | exact Kept.nil | (apply Kept.cons; rfl)))
        · clear hfl hst1 hD hD' hstep
          by_cases h19 : op = 19
          · obtain rfl : L = [] := by rw [hnx, if_pos h19]
            repeat' (first | refine W_ ?_ | (refine e_own ?_; intro ss bb) | refine c_ (fun hc => ?_) (fun hc => ?_) | refine g_ (fun hg => ?_) (fun hg => ?_))
            refine aq_mid (ss, bb, s14, b14, [g - e1 + e2]) trivial (.of _ nw_ od_ pk_)
          by_cases h20 : op = 20
          · obtain rfl : L = [(a, g - e1 + e2)] := by rw [hnx, if_neg h19, if_pos h20]
            repeat' (first | refine W_ ?_ | (refine e_own ?_; intro ss bb) | refine c_ (fun hc => ?_) (fun hc => ?_) | refine g_ (fun hg => ?_) (fun hg => ?_))
            refine aq_mid (ss, bb, s14, b14, []) trivial (.of _ nw_ od_ pk_)
          by_cases h21 : op = 21 ∨ op = 22
          · obtain rfl : L = [((p : Int) + 1, g - e1 + e2), (a, g - e1 + e2), (b, g - e1 + e2 + 1)] := by rw [hnx, if_neg h19, if_neg h20, if_pos h21]
            have he0 : e2 = 0 := by
              rw [← he2]; rcases h21 with rfl | rfl <;> rfl
            subst he0
            rcases h21 with rfl | rfl
            all_goals
              repeat' (first | refine W_ ?_ | refine e_lit ?_ | (refine e_app ?_; intro bb) | refine c_ (fun hc => ?_) (fun hc => ?_) | refine g_ (fun hg => ?_) (fun hg => ?_))
              rename_i bb13
              refine aq_mid (s13, bb13, s14, bb, []) trivial (.of _ nw_ od_ pk_)
          by_cases h24 : op = 24 ∨ op = 25
          · obtain rfl : L = [((p : Int) + 1, g - e1 + e2), (b, g - 1)] := by rw [hnx, if_neg h19, if_neg h20, if_neg h21, if_pos h24]
            have he0 : e1 = 2 := by
              rw [← he1]; rcases h24 with rfl | rfl <;> rfl
            subst he0
            rcases h24 with rfl | rfl
            all_goals
              repeat' (first | refine W_ ?_ | refine e_lit ?_ | (refine e_app ?_; intro bb) | refine c_ (fun hc => ?_) (fun hc => ?_) | refine g_ (fun hg => ?_) (fun hg => ?_))
              rename_i bb13
              refine aq_mid (s13, bb13, s14, bb, []) trivial (.of _ nw_ od_ pk_)
          by_cases h26 : op = 26
          · obtain rfl : L = [((p : Int) + 1, g - e1 + e2), (b, g)] := by rw [hnx, if_neg h19, if_neg h20, if_neg h21, if_neg h24, if_pos h26]
            have he0 : e1 = 2 := by
              rw [← he1, h26]; rfl
            subst he0
            repeat' (first | refine W_ ?_ | refine e_lit ?_ | (refine e_app ?_; intro bb) | refine c_ (fun hc => ?_) (fun hc => ?_) | refine g_ (fun hg => ?_) (fun hg => ?_))
            rename_i bb13
            refine aq_mid (s13, bb13, s14, bb, []) trivial (.of _ nw_ od_ pk_)
          · obtain rfl : L = [((p : Int) + 1, g - e1 + e2)] := by rw [hnx, if_neg h19, if_neg h20, if_neg h21, if_neg h24, if_neg h26]
            repeat' (first | refine W_ ?_ | refine c_ (fun hc => ?_) (fun hc => ?_) | refine g_ (fun hg => ?_) (fun hg => ?_))
            refine aq_mid (s13, b13, s14, b14, []) trivial (.of _ nw_ od_ pk_)
        · rintro ⟨s13', b13', s14', b14', r14⟩ _
          dsimp only
          rw [hstep] at hst1
          clear hnx he1 he2 her hef hpi hstep hD hD'
          repeat' (first | refine W_ ?_ | refine c_ (fun hc => ?_) (fun hc => ?_) | refine g_ (fun hg => ?_) (fun hg => ?_))
          apply aw_loopk (X := Nat × List Int × List Nat × Nat) [0, 4, 7, 8, 9, 13, 14, 1000000] (fun x => [(15, .int .i64 (x.1 : Int)), (6, .ms st x.2.2.2 0 (td.length + x.2.2.1.length))])
            (fun x => (s13', b13', .row 1 (intR (L.map Prod.fst))) :: (s14', b14', .row 1 (intR (L.map Prod.snd ++ r14))) :: (s9, b9, .box [.int .i64 op, .int .i64 a, .int .i64 b, .str t]) :: (st, x.2.2.2, .row 1 (intR (nts (td ++ x.2.2.1)))) :: (sd, bd, .row 1 (intR x.2.1)) :: R)
            (fun x => x.1 ≤ L.length ∧ x.2.1.length = is.length ∧ x.2.2.1.length ≤ x.1 ∧ pushS is p op (L.drop x.1) (x.2.1, x.2.2.1) = pushS is p op L (ds, [])) (fun x => L.length - x.1) (0, ds, [], bt) ⟨Nat.zero_le _, hdl, Nat.zero_le _, rfl⟩
          exact kp_; exact nw_
          · rw [List.append_nil]; exact .refl _
          rintro ⟨q, ds', new, bt'⟩ ⟨hq, hdl', hnw, hpu⟩
          dsimp only at hq hdl' hnw hpu ⊢
          by_cases hql : q < L.length
          · have hu0 := hnn _ (List.getElem_mem hql)
            rw [List.drop_eq_getElem_cons hql] at hpu
            have hr13 : (intR (L.map Prod.fst))[q]? = some [.int .i64 L[q].1] := by simp [intR, hql]
            have hr14 : (intR (L.map Prod.snd ++ r14))[q]? = some [.int .i64 L[q].2] := by
              simp only [intR, List.getElem?_map]
              rw [List.getElem?_append_left (by simpa using hql)]; simp [hql]
            generalize L[q] = uv at hu0 hpu hr13 hr14
            obtain ⟨u, v⟩ := uv
            obtain ⟨un, rfl⟩ : ∃ un : Nat, u = (un : Int) := ⟨u.toNat, by dsimp only at hu0; omega⟩
            dsimp only at hr13 hr14
            rw [pushS_cons] at hpu
            repeat' (first | refine H_ 40 ?_ | refine c_ (fun hc => ?_) (fun hc => ?_) | refine g_ (fun hg => ?_) (fun hg => ?_))
            refine ⟨aw_seq ?_⟩
            apply aw_join (X := Unit) [0, 4, 6, 7, 8, 9, 13, 14, 15, 1000000] (fun _ => [(170, .bool (badS is p op (un : Int)))])
              (fun _ => (s13', b13', .row 1 (intR (L.map Prod.fst))) :: (s14', b14', .row 1 (intR (L.map Prod.snd ++ r14))) :: (s9, b9, .box [.int .i64 op, .int .i64 a, .int .i64 b, .str t]) :: (st, bt', .row 1 (intR (nts (td ++ new)))) :: (sd, bd, .row 1 (intR ds')) :: R) (fun _ => True)
            case hk => (repeat (first | exact Kept.nil | (apply Kept.cons; rfl)))
            · clear hpu hfl hst1
              by_cases hlen1 : (is.length : Int) ≤ (un : Int)
              · have hb : badS is p op (un : Int) = true := by simp [badS, hlen1]
                rw [hb]
                repeat' (first | refine V_ ?_ | refine c_ (fun hc => ?_) (fun hc => ?_) | refine g_ (fun hg => ?_) (fun hg => ?_))
                refine aq_mid () trivial (.of _ nw_ od_ pk_)
              have hun : un < is.length := by omega
              have hri : (instrR is)[un]? = some (is[un]).tv := by simp only [instrR, List.getElem?_map]; rw [List.getElem?_eq_getElem hun]; rfl
              have hoa : opAt is (un : Int) = is[un].op := by simp [opAt, hun]
              generalize is[un] = iu at hri hoa
              obtain ⟨op', a', b', t'⟩ := iu
              replace hri : (instrR is)[un]? = some [.int .i64 op', .int .i64 a', .int .i64 b', .str t'] := hri
              have hbs : badS is p op (un : Int) = (!decide (op = 26) && decide ((un : Int) ≤ p) && !decide (op' = 23)) := by simp [badS, backI, hlen1, hoa]
              rw [hbs]
              have hw3 : op = 26 ∨ (¬ op = 26 ∧ (un : Int) ≤ p) ∨ (¬ op = 26 ∧ ¬ (un : Int) ≤ p) := by omega
              rcases hw3 with h26 | ⟨h26, hle⟩ | ⟨h26, hle⟩
              all_goals
                repeat' (first | refine V_ ?_ | refine c_ (fun hc => ?_) (fun hc => ?_) | refine g_ (fun hg => ?_) (fun hg => ?_))
                refine aq_mid () trivial (.of _ nw_ od_ pk_)
            · intro _ _
              by_cases hbad : badS is p op (un : Int) = true
              · have hd : depthsS is = none := by rw [if_pos hbad] at hpu; rw [← hpu] at hfl; exact hfl.symm
                rw [hd, hbad]
                repeat' (first | with_reducible refine al_none rfl ?_ | ((with_reducible first | apply o_move | apply o_assign); rfl; rfl) | with_reducible refine aw_seq ?_ | with_reducible refine aw_region ?_ | with_reducible refine al_nil ?_ | with_reducible refine aq_then ?_ | with_reducible refine aw_block ?_ | with_reducible refine aw_exit ?_ | with_reducible refine aw_skip ?_ | with_reducible refine aw_ret ?_ | with_reducible refine aq_block_hit ?_ | with_reducible refine aq_block_miss rfl ?_ | with_reducible refine aq_then_exit ?_ | with_reducible refine aq_then_ret ?_ | with_reducible refine aq_block_ret ?_ | with_reducible refine aq_block ?_ | refine aw_cond_t rfl rr_ ?_ | refine aw_cond_f rfl rr_ ?_ | (refine aw_cond_dt rfl rr_ dd_ ?_) | (refine aw_cond_df rfl rr_ dd_ ?_) | (refine aw_cond rfl rr_ (fun hc => ?_) (fun hc => ?_)) | (refine aw_cond_b rfl rr_ (fun hc => ?_) (fun hc => ?_)))
                refine aq_nils 2 1 (by omega) rfl fun ss => aq_retm2 x_ rfl (ss, 0) trivial rfl (.cons _ _ _ _ (.nil R)) pk_ (.tmp _ _ rfl) (.tmp _ _ rfl) rfl
              have hun : un < is.length := Nat.lt_of_not_le fun h => hbad (by simp [badS]; left; omega)
              rw [if_neg hbad] at hpu
              rw [Bool.not_eq_true] at hbad
              rw [hbad]
              have hrd : (intR ds')[un]? = some [.int .i64 (gd ds' (un : Int))] := by
                have h9 := gd_get (ds := ds') (p := un) (by omega)
                simp only [intR, List.getElem?_map]
                rw [List.getElem?_eq_getElem (by omega), h9]; rfl
              have hll : (intR (nts (td ++ new))).length = td.length + new.length := by simp [intR, nts]
              by_cases hgd : gd ds' (un : Int) = -1
              · rw [if_pos hgd] at hpu
                rw [hgd] at hrd
                repeat' (first | refine W_ ?_ | (with_reducible apply aw_draw2 (id := 43) 10; kernel_rfl; kernel_rfl; kernel_rfl; (repeat (first | exact Cut.zero _ | apply Cut.succ))) | with_reducible refine aw_draw (by kernel_rfl) (by kernel_rfl) ?_ | with_reducible refine dr_nil ?_ | with_reducible refine dr_nil2 ?_ | with_reducible refine dr_none rfl ?_ | refine dr_run rfl rfl rfl rr_ ?_ | refine dr_skip rfl rfl rfl rr_ rfl rfl rfl ?_ | refine dr_skip2 rfl rfl rfl rr_ rfl rfl ?_ | (refine dr_gt rfl rfl rfl rr_ dd_ ?_) | (refine dr_gf rfl rfl rfl rr_ dd_ ?_) | (refine dr_gsplit rfl rfl rfl rr_ (fun hg => ?_) (fun hg => ?_)) | (refine dr_gsplit_b rfl rfl rfl rr_ (fun hg => ?_) (fun hg => ?_)) | ((with_reducible apply d_y); exact y_; rfl) | refine e_store ?_ | refine e_lit ?_ | (refine e_app ?_; intro bb) | refine c_ (fun hc => ?_) (fun hc => ?_) | refine g_ (fun hg => ?_) (fun hg => ?_))
                refine aq_round (q + 1, ds'.set un v, new ++ [un], bb) ⟨by dsimp only; omega, by simp [hdl'], by simp; omega, by dsimp only; rw [← hpu]; rfl⟩ (by dsimp only; omega) (.of _ nw_ od_ pk_)
              · rw [if_neg hgd] at hpu
                by_cases hgv : gd ds' (un : Int) = v
                · rw [if_pos hgv] at hpu
                  repeat' (first | refine V_ ?_ | refine c_ (fun hc => ?_) (fun hc => ?_) | refine g_ (fun hg => ?_) (fun hg => ?_))
                  refine aq_round (q + 1, ds', new, bt') ⟨by dsimp only; omega, hdl', by dsimp only; omega, by dsimp only; exact hpu⟩ (by dsimp only; omega) (.of _ nw_ od_ pk_)
                · rw [if_neg hgv] at hpu
                  have hd : depthsS is = none := by rw [← hpu] at hfl; exact hfl.symm
                  rw [hd]
                  repeat' (first | refine V_ ?_ | refine c_ (fun hc => ?_) (fun hc => ?_) | refine g_ (fun hg => ?_) (fun hg => ?_))
                  refine aq_nils 2 1 (by omega) rfl fun ss => aq_retm2 x_ rfl (ss, 0) trivial rfl (.cons _ _ _ _ (.nil R)) pk_ (.tmp _ _ rfl) (.tmp _ _ rfl) rfl
          · rw [List.drop_of_length_le (by omega)] at hpu
            rw [← hpu] at hfl
            dsimp only [pushS] at hfl
            repeat' (first | refine W_ ?_ | refine c_ (fun hc => ?_) (fun hc => ?_) | refine g_ (fun hg => ?_) (fun hg => ?_))
            refine aq_round (k + 1, ds', td ++ new, bt', j) ⟨by simp; omega, by dsimp only; omega, ?_, ?_⟩ (by dsimp only; omega) (.of _ nw_ od_ pk_)
            · dsimp only
              rw [List.drop_append_of_le_length (by omega)]
              exact hst1 ds' new hpu.symm
            · dsimp only
              rw [List.drop_append_of_le_length (by omega)]; exact hfl
      · rw [List.drop_eq_nil_of_le (by omega)] at hfl
        have hd : depthsS is = some ds := by rw [← hfl]; simp [flow]
        have hdl := hD.len
        rw [hd]
        repeat' (first | refine W_ ?_ | refine c_ (fun hc => ?_) (fun hc => ?_) | refine g_ (fun hg => ?_) (fun hg => ?_))
        refine aq_retm2 x_ rfl (sd, bd) trivial rfl (.cons _ _ _ _ (.nil R)) pk_ (.tmp _ _ rfl) (.tmp _ _ rfl) (by simp [dR, hdl])
end Go.Proofs.YtiihihgjiklnoaaGreatDoor
/- StackDepths by the engine: the reference's StackDepths, given l16Depths. -/
namespace Go.Proofs.YtiihihgjiklnoaaGreatDoor
set_option maxRecDepth 20000
open Go Go.RowKit
theorem l1In_ct {G : World → Prop} (n a b : Int) : Ct Tryz.prog G 49 [.int .i64 n, .int .i64 a, .int .i64 b] (fun _ => .bool (inR n a b)) := by
  refine ct_enter Tryz.func49 rfl Tryz.ntmps49 rfl rfl fun w0 _ hG => ?_
  repeat' (first | with_reducible refine al_none rfl ?_ | ((with_reducible apply o_y); exact y_; rfl) | with_reducible refine aw_seq ?_ | with_reducible refine aw_region ?_ | with_reducible refine al_nil ?_ | with_reducible refine aq_then ?_ | with_reducible refine aw_block ?_ | with_reducible refine aw_exit ?_ | with_reducible refine aw_skip ?_ | with_reducible refine aw_ret ?_ | with_reducible refine aq_block_hit ?_ | with_reducible refine aq_block_miss rfl ?_ | with_reducible refine aq_then_exit ?_ | with_reducible refine aq_then_ret ?_ | with_reducible refine aq_block_ret ?_ | with_reducible refine aq_block ?_ | with_reducible refine al_none rfl ?_ | refine al_run rfl rfl rfl rr_ ?_ | refine al_skip rfl rfl rfl rr_ rfl rfl rfl ?_ | refine al_skip2 rfl rfl rfl rr_ rfl rfl ?_ | (refine al_gt rfl rfl rfl rr_ dd_ ?_) | (refine al_gf rfl rfl rfl rr_ dd_ ?_) | (refine al_gsplit rfl rfl rfl rr_ (fun hg => ?_) (fun hg => ?_)) | (refine al_gsplit_b rfl rfl rfl rr_ (fun hg => ?_) (fun hg => ?_)) | refine aw_cond_t rfl rr_ ?_ | refine aw_cond_f rfl rr_ ?_ | (refine aw_cond_dt rfl rr_ dd_ ?_) | (refine aw_cond_df rfl rr_ dd_ ?_) | (refine aw_cond rfl rr_ (fun hc => ?_) (fun hc => ?_)) | (refine aw_cond_b rfl rr_ (fun hc => ?_) (fun hc => ?_)))
  all_goals
    refine aq_ret1 x_ rfl (.tmp _ _ rfl) (fun _ => ?_)
    refine fin_bool ?_
    simp only [inR]
    first | (rw [decide_eq_decide]; omega) | (symm; rw [decide_eq_false_iff_not]; omega)
theorem within_ct {G : World → Prop} (n a b : Int) : Ct Tryz.prog G 55 [.int .i64 n, .int .i64 a, .int .i64 b] (fun _ => .bool (inR n a b)) := by
  refine ct_enter Tryz.func55 rfl Tryz.ntmps55 rfl rfl fun w0 _ hG => ?_
  repeat' (first | with_reducible refine al_none rfl ?_ | ((with_reducible apply o_y); exact y_; rfl) | with_reducible refine aw_seq ?_ | with_reducible refine aw_region ?_ | with_reducible refine al_nil ?_ | with_reducible refine aq_then ?_ | with_reducible refine aw_block ?_ | with_reducible refine aw_exit ?_ | with_reducible refine aw_skip ?_ | with_reducible refine aw_ret ?_ | with_reducible refine aq_block_hit ?_ | with_reducible refine aq_block_miss rfl ?_ | with_reducible refine aq_then_exit ?_ | with_reducible refine aq_then_ret ?_ | with_reducible refine aq_block_ret ?_ | with_reducible refine aq_block ?_ | with_reducible refine al_none rfl ?_ | refine al_run rfl rfl rfl rr_ ?_ | refine al_skip rfl rfl rfl rr_ rfl rfl rfl ?_ | refine al_skip2 rfl rfl rfl rr_ rfl rfl ?_ | (refine al_gt rfl rfl rfl rr_ dd_ ?_) | (refine al_gf rfl rfl rfl rr_ dd_ ?_) | (refine al_gsplit rfl rfl rfl rr_ (fun hg => ?_) (fun hg => ?_)) | (refine al_gsplit_b rfl rfl rfl rr_ (fun hg => ?_) (fun hg => ?_)) | refine aw_cond_t rfl rr_ ?_ | refine aw_cond_f rfl rr_ ?_ | (refine aw_cond_dt rfl rr_ dd_ ?_) | (refine aw_cond_df rfl rr_ dd_ ?_) | (refine aw_cond rfl rr_ (fun hc => ?_) (fun hc => ?_)) | (refine aw_cond_b rfl rr_ (fun hc => ?_) (fun hc => ?_)))
  all_goals
    refine aq_ret1 x_ rfl (.tmp _ _ rfl) (fun _ => ?_)
    refine fin_bool ?_
    simp only [inR]
    first | (rw [decide_eq_decide]; omega) | (symm; rw [decide_eq_false_iff_not]; omega)
/-- Which parts an operation has. -/
def useA (op : Int) : Bool := decide (op = 1 ∨ op = 12 ∨ op = 15 ∨ op = 20 ∨ op = 8 ∨ op = 9 ∨ op = 21 ∨ op = 22 ∨ op = 25 ∨ op = 26 ∨ op = 14)
def useB (op : Int) : Bool := decide (op = 8 ∨ op = 9 ∨ op = 21 ∨ op = 22 ∨ op = 25 ∨ op = 26 ∨ op = 24)
def useT (op : Int) : Bool := decide (op = 2 ∨ op = 3 ∨ op = 10 ∨ op = 11 ∨ op = 13 ∨ op = 14)
set_option maxHeartbeats 2000000 in
theorem l14Uses_ct {G : World → Prop} (op : Int) : Ct Tryz.prog G 259 [.int .i64 op] (fun _ => .tup [.bool (useA op), .bool (useB op), .bool (useT op)]) := by
  refine ct_enter Tryz.func259 rfl Tryz.ntmps259 rfl rfl fun w0 _ hG => ?_
  repeat' (first | with_reducible refine al_none rfl ?_ | ((with_reducible apply o_y); exact y_; rfl) | with_reducible refine aw_seq ?_ | with_reducible refine aw_region ?_ | with_reducible refine al_nil ?_ | with_reducible refine aq_then ?_ | with_reducible refine aw_block ?_ | with_reducible refine aw_exit ?_ | with_reducible refine aw_skip ?_ | with_reducible refine aw_ret ?_ | with_reducible refine aq_block_hit ?_ | with_reducible refine aq_block_miss rfl ?_ | with_reducible refine aq_then_exit ?_ | with_reducible refine aq_then_ret ?_ | with_reducible refine aq_block_ret ?_ | with_reducible refine aq_block ?_ | with_reducible refine al_none rfl ?_ | refine al_run rfl rfl rfl rr_ ?_ | refine al_skip rfl rfl rfl rr_ rfl rfl rfl ?_ | refine al_skip2 rfl rfl rfl rr_ rfl rfl ?_ | (refine al_gt rfl rfl rfl rr_ dd_ ?_) | (refine al_gf rfl rfl rfl rr_ dd_ ?_) | (refine al_gsplit rfl rfl rfl rr_ (fun hg => ?_) (fun hg => ?_)) | (refine al_gsplit_b rfl rfl rfl rr_ (fun hg => ?_) (fun hg => ?_)) | refine aw_cond_t rfl rr_ ?_ | refine aw_cond_f rfl rr_ ?_ | (refine aw_cond_dt rfl rr_ dd_ ?_) | (refine aw_cond_df rfl rr_ dd_ ?_) | (refine aw_cond rfl rr_ (fun hc => ?_) (fun hc => ?_)) | (refine aw_cond_b rfl rr_ (fun hc => ?_) (fun hc => ?_)))
  all_goals
    refine aq_ret3 x_ rfl (.tmp _ _ rfl) (.tmp _ _ rfl) (.tmp _ _ rfl) (fun _ => ?_) (fun _ => ?_) (fun _ => ?_)
    all_goals
      refine fin_bool ?_
      simp only [useA, useB, useT]
      symm
      first | (rw [decide_eq_true_iff]; omega) | (rw [decide_eq_false_iff_not]; omega)
end Go.Proofs.YtiihihgjiklnoaaGreatDoor
/- The built-in classes of the program (builtinInfos). -/
namespace Go.Proofs.YtiihihgjiklnoaaGreatDoor
set_option maxRecDepth 20000
open Go Go.RowKit
theorem builtin_cases {i : Nat} {x : TClassInfo} (hx : builtinL[i]? = some x) : ((i = 0 → x.parent = -1) ∧ (i = 2 → x.parent = 1) ∧ (i = 3 → x.parent = 2) ∧ (i = 4 → x.parent = 2) ∧ (i ≠ 0 → i ≠ 2 → i ≠ 3 → i ≠ 4 → x.parent = 0)) ∧ (i < 16) := by
  have hi : i < 16 := by
    have := (List.getElem?_eq_some_iff.1 hx).1
    rwa [builtin_len] at this
  refine ⟨?_, hi⟩
  match i, hi, hx with
  | 0, _, hx => cases hx; simp
  | 1, _, hx => cases hx; simp
  | 2, _, hx => cases hx; simp
  | 3, _, hx => cases hx; simp
  | 4, _, hx => cases hx; simp
  | 5, _, hx => cases hx; simp
  | 6, _, hx => cases hx; simp
  | 7, _, hx => cases hx; simp
  | 8, _, hx => cases hx; simp
  | 9, _, hx => cases hx; simp
  | 10, _, hx => cases hx; simp
  | 11, _, hx => cases hx; simp
  | 12, _, hx => cases hx; simp
  | 13, _, hx => cases hx; simp
  | 14, _, hx => cases hx; simp
  | 15, _, hx => cases hx; simp
  | n + 16, h, _ => omega
/-- No fields: a nil slice. -/
def fieldsN (lo : Nat) : List ByteArray → TV
  | [] => .nils
  | a :: l => .sl lo 1 (strR (a :: l))
def TClassInfo.twN (lo : Nat) (x : TClassInfo) : List TV := [.str x.name, .int .i64 x.parent, fieldsN lo x.fields]
theorem fieldsN_fin (B K : Nat) (objs : Objs) : ∀ l : List ByteArray, Fin B objs K (fieldsN B l) (.sl K 1 (strR l))
  | [] => .nils 1
  | a :: l => fin_sl (f := fun s : ByteArray => [TV.str s]) (f' := fun s : ByteArray => [TV.str s]) (fun _x => .cons (.flat rfl) .nil) (a :: l)
theorem TClassInfo.finN (B K : Nat) (objs : Objs) (x : TClassInfo) : FinL B objs K (x.twN B) (x.tw K) := .cons (.flat rfl) (.cons (.flat rfl) (.cons (fieldsN_fin B K objs x.fields) .nil))
section
variable {G : World → Prop}
theorem builtinInfos_ct (hst : Stable G) : Ct Tryz.prog G 209 [] (fun K => .sl K 3 (builtinL.map (TClassInfo.tw K))) := by
  refine ct_enter Tryz.func209 rfl Tryz.ntmps209 rfl rfl fun w0 _ hG => ?_
  have hlen : (strR builtinNames).length = 16 := rfl
  have hbl : builtinNames.length = 16 := rfl
  repeat' (first | refine W_ ?_ | refine e_call hG hst (implBuiltin_ct) ?_ | (refine e_own ?_; intro ss bb) | refine c_ (fun hc => ?_) (fun hc => ?_) | refine g_ (fun hg => ?_) (fun hg => ?_))
  apply aw_loopk (X := Nat × Nat) [6, 7] (fun x => [(8, .int .i64 (x.1 : Int)), (1, .ms ss x.2 0 x.1)]) (fun x => [(ss, x.2, .row 3 ((builtinL.take x.1).map (TClassInfo.twN w0.heap.size)))]) (fun x => x.1 ≤ 16) (fun x => 16 - x.1) (0, bb) (Nat.zero_le _)
  exact kp_; exact nw_
  · exact .refl _
  rintro ⟨i, b⟩ hi
  dsimp only at hi ⊢
  by_cases hlt : i < 16
  · obtain ⟨x, hx, h1, _, h3, h4⟩ := builtin_at hlt
    obtain ⟨hp, _⟩ := builtin_cases hx
    have hle : ((builtinL.take i).map (TClassInfo.twN w0.heap.size)).length = i := by rw [List.length_map, List.length_take, builtin_len]; omega
    by_cases hf : 1 ≤ i ∧ i ≤ 4
    · have hin : inR (i : Int) 1 4 = true := by unfold inR; simp; omega
      have hw : Ct Tryz.prog G 55 [.int .i64 i, .int .i64 1, .int .i64 4] (fun _ => .bool true) := by rw [← hin]; exact within_ct _ _ _
      have hbf : bfields (i : Int) = [⟨#[116, 101, 120, 116]⟩] := if_pos (by omega)
      rw [hbf] at h3
      have hrow : ∀ p : Int, p = x.parent → (builtinL.take i).map (TClassInfo.twN w0.heap.size) ++ [[TV.str x.name, .int .i64 p, .sl w0.heap.size 1 [[TV.str ⟨#[116, 101, 120, 116]⟩]]]] = (builtinL.take (i + 1)).map (TClassInfo.twN w0.heap.size) := fun p h => by
        rw [h4, List.map_append, h]; show _ ++ _ = _ ++ [[_, _, fieldsN w0.heap.size x.fields]]; rw [← h3]; rfl
      clear h4
      repeat' (first | refine W_ ?_ | (refine e_alloc ?_; intro ss bb) | refine e_build ?_ | refine e_storep ?_ | refine e_box ?_ | refine e_call hG hst (hw) ?_ | refine e_lit ?_ | (refine e_app ?_; intro bb) | refine c_ (fun hc => ?_) (fun hc => ?_) | refine g_ (fun hg => ?_) (fun hg => ?_))
      all_goals
        rw [hrow]
        · exact aq_round (i + 1, bb) (by dsimp only; omega) (by dsimp only; omega) (.of _ nw_ od_ pk_)
        · omega
    · have hin : inR (i : Int) 1 4 = false := by unfold inR; simp; omega
      have hw : Ct Tryz.prog G 55 [.int .i64 i, .int .i64 1, .int .i64 4] (fun _ => .bool false) := by rw [← hin]; exact within_ct _ _ _
      have hbf : bfields (i : Int) = [] := if_neg (by omega)
      rw [hbf] at h3
      have hrow : ∀ p : Int, p = x.parent → (builtinL.take i).map (TClassInfo.twN w0.heap.size) ++ [[TV.str x.name, .int .i64 p, .nils]] = (builtinL.take (i + 1)).map (TClassInfo.twN w0.heap.size) := fun p h => by
        rw [h4, List.map_append, h]; show _ ++ _ = _ ++ [[_, _, fieldsN w0.heap.size x.fields]]; rw [← h3]; rfl
      clear h4
      repeat' (first | refine W_ ?_ | (refine e_alloc ?_; intro ss bb) | refine e_build ?_ | refine e_storep ?_ | refine e_box ?_ | refine e_call hG hst (hw) ?_ | refine e_lit ?_ | (refine e_app ?_; intro bb) | refine c_ (fun hc => ?_) (fun hc => ?_) | refine g_ (fun hg => ?_) (fun hg => ?_))
      all_goals
        rw [hrow]
        · exact aq_round (i + 1, bb) (by dsimp only; omega) (by dsimp only; omega) (.of _ nw_ od_ pk_)
        · omega
  · obtain rfl : i = 16 := by omega
    repeat' (first | refine W_ ?_ | refine c_ (fun hc => ?_) (fun hc => ?_) | refine g_ (fun hg => ?_) (fun hg => ?_))
    refine aq_ret1 x_ rfl (.tmp _ _ rfl) (fun _ => ?_)
    exact fin_ms (f' := TClassInfo.tw _) (fun x => TClassInfo.finN _ _ _ x) List.mem_cons_self
end
end Go.Proofs.YtiihihgjiklnoaaGreatDoor
