/- Part 15 of the proof: the texts RsI, EngQ, NeA, MkT. -/
import Derived.Test.YtfchjaoeogolnaaGreatDoorPart12
import Derived.Test.YtfchjaoeogolnaaGreatDoorPart14
import Derived.Test.YtfchjaoeogolnaaGreatDoorPart10
import Derived.Laws.RangeString
import Derived.Test.YtfchjaoeogolnaaGreatDoorPart6
import Derived.Test.YtfchjaoeogolnaaGreatDoorPart2
import Derived.Test.YtfchjaoeogolnaaGreatDoorPart1
import Derived.Deep.RegionHeld3
import Derived.Test.YtfchjaoeogolnaaGreatDoorPart5
/- ReachableSelectors of the program. -/
namespace Go.Proofs.YtfchjaoeogolnaaGreatDoor
open Go Go.RowKit
section
variable {G : World → Prop}
set_option maxHeartbeats 4000000 in
theorem selectors_ctm (hst : Stable G) (lo : Nat) (B : TCodeBase) (hB : RsOk B) (hes : B.entries.length ≤ 1048576) :
    CtM Tryz.prog G 39 [.agg [.sl lo 3 (B.classes.map (TClassInfo.tw lo)), .sl lo 4 (B.codes.map (TCode.tw lo)), .sl lo 4 (B.entries.map (TEntry.tw lo)), .int .i64 B.main]] []
      (fun _ : Nat × Nat => True) (fun y => [(y.1, y.2, .row 1 (strR (rsFin B).out))]) (fun y => .ms y.1 y.2 0 (rsFin B).out.length) := by
  refine ctm_enter Tryz.func39 rfl Tryz.ntmps39 rfl rfl rfl fun w0 R gs objsR hG hR => ?_
  obtain rfl := hR.inv0
  clear hR
  have hlc := TCode.len lo B.codes
  have hle := TEntry.len lo B.entries
  have hmain := hB.main
  have hc200 := hB.codes
  have hin0 := rs0_in hB
  have hrc0 := Rs.init B
  have hne0 : (rs0 B).todo = [] → rsStep B (rs0 B) = rs0 B := by simp [rs0]
  obtain ⟨m, hm⟩ : ∃ m : Nat, B.main = m := ⟨B.main.toNat, by omega⟩
  have hr0 : rs0 B = ⟨(List.replicate B.codes.length false).set m true, [], [(m : Int)]⟩ := by unfold rs0; rw [hm, Int.toNat_natCast]
  rw [hm] at hmain ⊢
  have hbr : List.replicate B.codes.length [TV.bool false] = boolR (List.replicate B.codes.length false) := by simp [boolR]
  have hrow0 := boolR_get (l := List.replicate B.codes.length false) (k := m) (by simp; omega)
  have hset0 := boolR_set (List.replicate B.codes.length false) m true
  rw [← hbr] at hset0 hrow0
  repeat' (first | with_reducible refine al_none rfl ?_ | ((with_reducible apply o_assign); rfl; rfl) | ((with_reducible apply o_load_cp); rfl; rfl; kernel_rfl; rfl; rfl) | ((with_reducible apply o_fieldAddr); rfl; rfl; kernel_rfl; rfl) | ((with_reducible apply o_len_sl); rfl; rfl; kernel_rfl; (exact List.length_map _)) | ((with_reducible apply o_box); rfl; rfl; rfl) | ((with_reducible apply o_make); rfl; rfl; rfl; ((with_reducible exact rfl)); kernel_rfl; kernel_rfl; rfl; rfl; kernel_rfl; omega; intro ss bb) | ((with_reducible apply o_own); rfl; rfl; kernel_rfl; kernel_rfl; rfl; kernel_rfl; rfl; rfl; rfl; rfl; intro ss bb) | with_reducible refine aw_hold_r (id := 3) ?_ | with_reducible refine aw_seq ?_ | with_reducible refine aw_region ?_ | with_reducible refine al_nil ?_ | with_reducible refine aq_then ?_)
  refine ⟨?_⟩
  rename_i so bo
  generalize ss = sm; generalize bb = bm
  refine aw_pick (objs' := (sm, bm, .row 1 (List.replicate B.codes.length [TV.bool false])) :: (so, bo, .row 1 (strR [])) :: R) (by (try dsimp only); (repeat (first | with_reducible exact Pick.refl _ | (apply Pick.consE; (repeat (with_reducible exact DelS.head _)); (rfl))))) ?_
  repeat' (first | with_reducible refine al_none rfl ?_ | ((with_reducible first | apply o_move | apply o_assign); rfl; rfl) | ((with_reducible apply o_load_cp); rfl; rfl; kernel_rfl; rfl; rfl) | ((with_reducible apply o_fieldAddr); rfl; rfl; kernel_rfl; rfl) | ((with_reducible apply o_indexAddr_ms); rfl; rfl; rfl; (repeat (with_reducible exact mh)); kernel_rfl; kernel_rfl; kernel_rfl; ((with_reducible exact rfl)); (omega); (with_reducible exact Nat.zero_add _)) | ((with_reducible apply o_store_me); rfl; rfl; rfl; kernel_rfl; (repeat (with_reducible exact mh)); ((with_reducible assumption)); (exact .put _ _ _ _ _ (.nil _)); kernel_rfl; rfl; (repeat (with_reducible exact Upd.head _))) | ((with_reducible apply o_own); rfl; rfl; kernel_rfl; kernel_rfl; rfl; kernel_rfl; rfl; rfl; rfl; rfl; intro ss bb) | with_reducible refine aw_seq ?_ | with_reducible refine aw_region ?_ | with_reducible refine al_nil ?_ | with_reducible refine aq_then ?_ | with_reducible refine aw_block ?_)
  generalize ss = st; generalize bb = bt
  rw [hset0]
  have hkeep : True := trivial
  apply aw_loopk (X := RS × Nat × Nat × List (List TV)) [1, 4, 1000000] (fun x => [(3, .ms so x.2.1 0 x.1.out.length), (5, .ms st x.2.2.1 x.2.2.2.length x.1.todo.length)])
    (fun x => (st, x.2.2.1, .row 1 (x.2.2.2 ++ intR x.1.todo)) :: (sm, bm, .row 1 (boolR x.1.met)) :: (so, x.2.1, .row 1 (strR x.1.out)) :: R)
    (fun x => (Rs B x.1 ∧ RsIn B 0 x.1) ∧ (x.1.todo = [] → rsStep B x.1 = x.1)) (fun x => x.1.mu) (rs0 B, bo, bt, []) ⟨⟨hrc0, hin0⟩, hne0⟩
  (repeat (first | exact Kept.nil | (apply Kept.cons; rfl))); (repeat (first | exact Weak.envNil | refine Weak.envCons (by rfl) ?_))
  · rw [hr0]
    dsimp only
    exact .refl _
  clear hne0 hrc0 hin0 hr0 hrow0 hset0 hkeep
  rintro ⟨⟨met, out, todo⟩, bo, bt, pre⟩ ⟨⟨hrc, hin⟩, hfx⟩
  dsimp only at hrc hin hfx ⊢
  cases todo with
  | nil =>
    have hnp : ¬ (0 : Int) < ((([] : List Int).length : Nat) : Int) := by simp
    have hfin := rsFin_eq hrc (hfx rfl)
    rw [hfin]
    repeat' (first | with_reducible refine al_none rfl ?_ | ((with_reducible first | apply o_move | apply o_assign); rfl; rfl) | ((with_reducible apply o_len_ms); rfl; rfl; kernel_rfl) | ((with_reducible apply o_gtr); rfl; rfl; rfl) | with_reducible refine aw_seq ?_ | with_reducible refine aw_region ?_ | with_reducible refine al_nil ?_ | with_reducible refine aq_then ?_ | with_reducible refine aw_exit ?_ | with_reducible refine aw_ret ?_ | with_reducible refine aq_block_hit ?_ | with_reducible refine aq_then_exit ?_ | (refine aw_cond_df rfl (by with_reducible rfl) (by assumption) ?_))
    exact aq_retm1 (by exact .inr rfl) rfl (so, bo) trivial rfl (.cons _ _ _ _ (.nil R)) (by (try dsimp only); (repeat (first | with_reducible exact Pick.refl _ | (apply Pick.consE; (repeat (first | with_reducible exact DelS.head _ | with_reducible apply DelS.tail)); (with_reducible rfl)) | ((fail_if_success (apply Pick.consE)); refine Pick.drop ?_)))) (.tmp _ _ rfl) rfl
  | cons k r =>
    clear hfx
    obtain ⟨hk, hin2, hmu2⟩ := rs_pop hB hin
    obtain ⟨hil, hio⟩ := codeI_ok hB hk
    have hri := rsRow_in (n := 0) hio (by rw [Nat.zero_add]; exact hin2)
    have hsn := fun i (h : i < (codeI B.codes k).length) => rsRow_snoc h ⟨met, out, r⟩
    have hz : RS.mk met out r = rsRow ((codeI B.codes k).take 0) ⟨met, out, r⟩ := rfl
    have hrs : Rs B (rsRow (codeI B.codes k) ⟨met, out, r⟩) := hrc.step
    have hrowc : (B.codes.map (TCode.tw lo))[k.toNat]? = some [.bool (B.codes[k.toNat]'(by omega)).block, .int .i64 (B.codes[k.toNat]'(by omega)).params, .int .i64 (B.codes[k.toNat]'(by omega)).slots, .sl lo 4 ((codeI B.codes k).map (TInstr.tw lo))] := by
      rw [tcode_row (by omega), codeI]
      rw [List.getElem?_eq_getElem (by omega)]
    generalize codeI B.codes k = is at hil hio hri hsn hz hrowc hrs hin2
    generalize (B.codes[k.toNat]'(by omega)).block = cb at hrowc
    generalize (B.codes[k.toNat]'(by omega)).params = cp at hrowc
    generalize (B.codes[k.toNat]'(by omega)).slots = cl at hrowc
    have hp1 : (pre ++ [[TV.int .i64 k]]).length = pre.length + 1 := by simp
    have hp2 : pre ++ intR (k :: r) = (pre ++ [[TV.int .i64 k]]) ++ intR r := by simp [intR]
    have hpos : (0 : Int) < ((k :: r).length : Nat) := by rw [List.length_cons]; omega
    have hg : (pre ++ intR (k :: r))[pre.length]? = some [.int .i64 k] := by
      rw [List.getElem?_append_right (Nat.le_refl _), Nat.sub_self]; rfl
    obtain ⟨kn, hkn⟩ : ∃ kn : Nat, k = kn := ⟨k.toNat, by omega⟩
    rw [show k.toNat = kn by omega] at hrowc
    have hlen : (is.map (TInstr.tw lo)).length = is.length := by simp
    rw [hp2] at hg ⊢
    repeat' (first | with_reducible refine al_none rfl ?_ | ((with_reducible first | apply o_move | apply o_assign); rfl; rfl) | ((with_reducible apply o_load_me); rfl; rfl; kernel_rfl; rfl; (repeat (with_reducible exact mh)); (assumption); rfl) | ((with_reducible apply o_load_cp); rfl; rfl; kernel_rfl; rfl; rfl) | ((with_reducible apply o_fieldAddr); rfl; rfl; kernel_rfl; rfl) | ((with_reducible apply o_indexAddr); rfl; rfl; rfl; kernel_rfl; kernel_rfl; kernel_rfl; rfl; (omega); ((with_reducible assumption))) | ((with_reducible apply o_indexAddr_ms); rfl; rfl; rfl; (repeat (with_reducible exact mh)); kernel_rfl; kernel_rfl; kernel_rfl; ((with_reducible exact nat0)); (omega); (rfl)) | ((with_reducible apply o_len_sl); rfl; rfl; kernel_rfl; (exact List.length_map _)) | ((with_reducible apply o_len_ms); rfl; rfl; kernel_rfl) | ((with_reducible apply o_gtr); rfl; rfl; rfl) | ((with_reducible apply o_slice_ms); rfl; rfl; rfl; (repeat (with_reducible exact mh)); kernel_rfl; kernel_rfl; kernel_rfl; ((with_reducible exact nat1)); (omega)) | with_reducible refine aw_seq ?_ | with_reducible refine aw_region ?_ | with_reducible refine al_nil ?_ | with_reducible refine aq_then ?_ | with_reducible refine aw_block ?_ | with_reducible refine aw_skip ?_ | (refine aw_cond_dt rfl (by with_reducible rfl) (by assumption) ?_))
    apply aw_loopk (X := Nat × RS × Nat × Nat × List (List TV)) [1, 4, 37, 38, 1000000] (fun x => [(39, .int .i64 (x.1 : Int)), (3, .ms so x.2.2.1 0 x.2.1.out.length), (5, .ms st x.2.2.2.1 x.2.2.2.2.length x.2.1.todo.length)])
      (fun x => (st, x.2.2.2.1, .row 1 (x.2.2.2.2 ++ intR x.2.1.todo)) :: (sm, bm, .row 1 (boolR x.2.1.met)) :: (so, x.2.2.1, .row 1 (strR x.2.1.out)) :: R)
      (fun x => x.1 ≤ is.length ∧ x.2.1 = rsRow (is.take x.1) ⟨met, out, r⟩) (fun x => is.length - x.1) (0, ⟨met, out, r⟩, bo, bt, pre ++ [[.int .i64 k]]) ⟨Nat.zero_le _, hz⟩
    (repeat (first | exact Kept.nil | (apply Kept.cons; rfl))); (repeat (refine Weak.envCons (by rfl) ?_))
    · exact Weak.envCons (lk_ms2 rfl hp1.symm rfl) Weak.envNil
    · exact .refl _
    clear hg hp1 hp2 hz
    rintro ⟨i, T, bo, bt, pre⟩ ⟨hi, hT⟩
    dsimp only at hi hT ⊢
    obtain ⟨hTi, hTm⟩ := hri i hi
    rw [← hT] at hTi hTm
    obtain ⟨hT1, hT2⟩ := rs_small hTi
    have hTl := hTi.len
    by_cases hlt : i < is.length
    · have hri2 := tinstr_row (lo := lo) hlt
      have hxa := hio _ (List.getElem_mem hlt)
      have hs2 := hsn i hlt
      rw [← hT] at hs2
      generalize is[i] = x at hri2 hxa hs2
      obtain ⟨op, a, bb0, t⟩ := x
      dsimp only at hri2 hxa
      by_cases hsel : op = 3 ∨ op = 13 ∨ op = 14
      · have hstep : rsI T ⟨op, a, bb0, t⟩ = ⟨T.met, outS T.out t, T.todo⟩ := if_pos hsel
        rw [hstep] at hs2
        have hct := slicesContains_ct hst 0 T.out t (by omega)
        rw [idxS_has] at hct
        have hsl := strR_len T.out
        have hsn2 := strR_snoc' T.out t
        cases hb : hasS T.out t with
        | true =>
          have ho : outS T.out t = T.out := by unfold outS; rw [if_pos hb]
          rw [ho] at hs2
          rw [hb] at hct
          rcases hsel with h | h | h
          all_goals
            repeat' (first | with_reducible refine al_none rfl ?_ | ((with_reducible first | apply o_move | apply o_assign); rfl; rfl) | ((with_reducible apply o_load_mp); rfl; rfl; kernel_rfl; rfl; (repeat (with_reducible exact mh)); rfl) | ((with_reducible apply o_fieldAddr); rfl; rfl; kernel_rfl; rfl) | ((with_reducible apply o_indexAddr); rfl; rfl; rfl; kernel_rfl; kernel_rfl; kernel_rfl; rfl; ((with_reducible exact rfl)); ((with_reducible assumption))) | ((with_reducible first | apply o_eql | apply o_lss); rfl; rfl; rfl) | ((with_reducible apply o_add); rfl; rfl; rfl; (((with_reducible refine w_n1 ?_); omega))) | ((with_reducible apply o_not_t); rfl; rfl; (with_reducible rfl)) | ((with_reducible apply o_load_agg_cp); rfl; rfl; kernel_rfl; kernel_rfl; kernel_rfl; rfl; (exact .succ _ _ _ _ (.succ _ _ _ _ (.succ _ _ _ _ (.succ _ _ _ _ (.zero _)))))) | ((with_reducible apply o_alloc); rfl; rfl; kernel_rfl; intro ss bb) | ((with_reducible apply o_store_mp); rfl; rfl; rfl; kernel_rfl; (repeat (with_reducible exact mh)); ((repeat (first | exact .nil _ | apply Splice.put))); (repeat (with_reducible exact Upd.head _)); kernel_rfl) | ((with_reducible apply o_callV); rfl; kernel_rfl; exact hG; exact hst; exact hct; (repeat (first | exact Args.nil | ((with_reducible apply Args.cons); rfl; (first | with_reducible exact View.same _ | ((with_reducible apply View.msAll); (repeat (first | with_reducible exact mh | with_reducible refine mt ?_)); (with_reducible assumption))))))) | with_reducible refine aw_seq ?_ | with_reducible refine aw_region ?_ | with_reducible refine al_nil ?_ | with_reducible refine aq_then ?_ | with_reducible refine aw_block ?_ | with_reducible refine aw_skip ?_ | with_reducible refine aq_block ?_ | refine aw_cond_f rfl (by with_reducible rfl) ?_ | (refine aw_cond_dt rfl (by with_reducible rfl) (by first | assumption | omega) ?_) | (refine aw_cond_df rfl (by with_reducible rfl) (by omega) ?_))
            exact aq_round (i + 1, T, bo, bt, pre) ⟨by dsimp only; omega, hs2.symm⟩ (by dsimp only; omega) (.of _ (by repeat (first | exact Weak.envNil | refine Weak.envCons (by rfl) ?_)) (by repeat (first | exact Weak.envNil | refine Weak.envCons rfl ?_)) (by (try dsimp only); (repeat (first | with_reducible exact Pick.refl _ | (apply Pick.consE; (repeat (first | with_reducible exact DelS.head _ | with_reducible apply DelS.tail)); (with_reducible rfl)) | ((fail_if_success (apply Pick.consE)); refine Pick.drop ?_)))))
        | false =>
          have ho : outS T.out t = T.out ++ [t] := by unfold outS; rw [if_neg (by rw [hb]; decide)]
          have hol : (T.out ++ [t]).length = T.out.length + 1 := by simp
          rw [ho] at hs2
          rw [hb] at hct
          rcases hsel with h | h | h
          all_goals
            repeat' (first | with_reducible refine al_none rfl ?_ | ((with_reducible first | apply o_move | apply o_assign); rfl; rfl) | ((with_reducible apply o_load_mp); rfl; rfl; kernel_rfl; rfl; (repeat (with_reducible exact mh)); rfl) | ((with_reducible apply o_fieldAddr); rfl; rfl; kernel_rfl; rfl) | ((with_reducible apply o_indexAddr); rfl; rfl; rfl; kernel_rfl; kernel_rfl; kernel_rfl; rfl; ((with_reducible exact rfl)); ((with_reducible assumption))) | ((with_reducible first | apply o_eql | apply o_lss); rfl; rfl; rfl) | ((with_reducible apply o_add); rfl; rfl; rfl; (((with_reducible refine w_n1 ?_); omega))) | ((with_reducible apply o_not_f); rfl; rfl; (with_reducible rfl)) | ((with_reducible apply o_load_agg_cp); rfl; rfl; kernel_rfl; kernel_rfl; kernel_rfl; rfl; (exact .succ _ _ _ _ (.succ _ _ _ _ (.succ _ _ _ _ (.succ _ _ _ _ (.zero _)))))) | ((with_reducible apply o_alloc); rfl; rfl; kernel_rfl; intro ss bb) | ((with_reducible apply o_store_mp); rfl; rfl; rfl; kernel_rfl; (repeat (with_reducible exact mh)); ((repeat (first | exact .nil _ | apply Splice.put))); (repeat (with_reducible exact Upd.head _)); kernel_rfl) | ((with_reducible apply o_lit); rfl; rfl; kernel_rfl; kernel_rfl; rfl; kernel_rfl; rfl; rfl; rfl; rfl) | ((with_reducible apply o_append); rfl; rfl; rfl; kernel_rfl; (repeat (first | with_reducible exact mh | with_reducible refine mt ?_)); exact hsl; ((show List.length _ = 1; rfl)); omega; exact hsn2; (intro bq; (repeat (first | with_reducible exact Upd.head _ | with_reducible apply Upd.tail))); intro bb) | ((with_reducible apply o_callV); rfl; kernel_rfl; exact hG; exact hst; exact hct; (repeat (first | exact Args.nil | ((with_reducible apply Args.cons); rfl; (first | with_reducible exact View.same _ | ((with_reducible apply View.msAll); (repeat (first | with_reducible exact mh | with_reducible refine mt ?_)); (with_reducible assumption))))))) | with_reducible refine aw_seq ?_ | with_reducible refine aw_region ?_ | with_reducible refine al_nil ?_ | with_reducible refine aq_then ?_ | with_reducible refine aw_block ?_ | with_reducible refine aw_skip ?_ | with_reducible refine aq_block ?_ | refine aw_cond_t rfl (by with_reducible rfl) ?_ | (refine aw_cond_dt rfl (by with_reducible rfl) (by first | assumption | omega) ?_) | (refine aw_cond_df rfl (by with_reducible rfl) (by omega) ?_))
            exact aq_round (i + 1, ⟨T.met, T.out ++ [t], T.todo⟩, bb, bt, pre) ⟨by dsimp only; omega, hs2.symm⟩ (by dsimp only; omega) (.of _ (Weak.envCons rfl (Weak.envCons (lk_ms rfl hol.symm) (Weak.envCons rfl Weak.envNil))) (by repeat (first | exact Weak.envNil | refine Weak.envCons rfl ?_)) (by (try dsimp only); (repeat (first | with_reducible exact Pick.refl _ | (apply Pick.consE; (repeat (first | with_reducible exact DelS.head _ | with_reducible apply DelS.tail)); (with_reducible rfl)) | ((fail_if_success (apply Pick.consE)); refine Pick.drop ?_)))))
      · by_cases h15 : op = 15
        · have hstep : rsI T ⟨op, a, bb0, t⟩ = metS T a := by
            unfold rsI
            rw [if_neg hsel, if_pos h15]
          rw [hstep] at hs2
          have h3 : ¬ op = 3 := fun h => hsel (.inl h)
          have h13 : ¬ op = 13 := fun h => hsel (.inr (.inl h))
          have h14 : ¬ op = 14 := fun h => hsel (.inr (.inr h))
          obtain ⟨j, rfl⟩ : ∃ j : Nat, a = j := ⟨a.toNat, by have := hxa h15; omega⟩
          have hjl := hxa h15
          have hrow := boolR_get (l := T.met) (k := j) (by omega)
          have hml := boolR_len T.met
          have hset := boolR_set T.met j true
          have htl := intR_length T.todo
          have hlive : ((pre ++ intR T.todo).drop pre.length).take T.todo.length = intR T.todo := by
            rw [List.drop_left, List.take_of_length_le (by omega)]
          have hpl : pre.length + T.todo.length ≤ (pre ++ intR T.todo).length := by rw [List.length_append, htl]; omega
          cases hgm : gb T.met j with
          | true =>
            rw [metS_t hgm] at hs2
            rw [hgm] at hrow
            repeat' (first | with_reducible refine al_none rfl ?_ | ((with_reducible first | apply o_move | apply o_assign); rfl; rfl) | ((with_reducible apply o_load_me); rfl; rfl; kernel_rfl; rfl; (repeat (first | with_reducible exact mh | with_reducible refine mt ?_)); ((with_reducible assumption)); rfl) | ((with_reducible apply o_load_mp); rfl; rfl; kernel_rfl; rfl; (repeat (with_reducible exact mh)); rfl) | ((with_reducible apply o_fieldAddr); rfl; rfl; kernel_rfl; rfl) | ((with_reducible apply o_indexAddr); rfl; rfl; rfl; kernel_rfl; kernel_rfl; kernel_rfl; rfl; ((with_reducible exact rfl)); ((with_reducible assumption))) | ((with_reducible apply o_indexAddr_ms); rfl; rfl; rfl; (repeat (first | with_reducible exact mh | with_reducible refine mt ?_)); kernel_rfl; kernel_rfl; kernel_rfl; ((with_reducible exact rfl)); (omega); (with_reducible exact Nat.zero_add _)) | ((with_reducible first | apply o_eql | apply o_lss); rfl; rfl; rfl) | ((with_reducible apply o_add); rfl; rfl; rfl; (((with_reducible refine w_n1 ?_); omega))) | ((with_reducible apply o_not_t); rfl; rfl; (with_reducible rfl)) | ((with_reducible apply o_load_agg_cp); rfl; rfl; kernel_rfl; kernel_rfl; kernel_rfl; rfl; (exact .succ _ _ _ _ (.succ _ _ _ _ (.succ _ _ _ _ (.succ _ _ _ _ (.zero _)))))) | ((with_reducible apply o_alloc); rfl; rfl; kernel_rfl; intro ss bb) | ((with_reducible apply o_store_mp); rfl; rfl; rfl; kernel_rfl; (repeat (with_reducible exact mh)); ((repeat (first | exact .nil _ | apply Splice.put))); (repeat (with_reducible exact Upd.head _)); kernel_rfl) | with_reducible refine aw_seq ?_ | with_reducible refine aw_region ?_ | with_reducible refine al_nil ?_ | with_reducible refine aq_then ?_ | with_reducible refine aw_block ?_ | with_reducible refine aw_skip ?_ | with_reducible refine aq_block ?_ | refine aw_cond_f rfl (by with_reducible rfl) ?_ | (refine aw_cond_dt rfl (by with_reducible rfl) (by first | assumption | omega) ?_) | (refine aw_cond_df rfl (by with_reducible rfl) (by assumption) ?_))
            exact aq_round (i + 1, T, bo, bt, pre) ⟨by dsimp only; omega, hs2.symm⟩ (by dsimp only; omega) (.of _ (by repeat (first | exact Weak.envNil | refine Weak.envCons (by rfl) ?_)) (by repeat (first | exact Weak.envNil | refine Weak.envCons rfl ?_)) (by (try dsimp only); (repeat (first | with_reducible exact Pick.refl _ | (apply Pick.consE; (repeat (first | with_reducible exact DelS.head _ | with_reducible apply DelS.tail)); (with_reducible rfl)) | ((fail_if_success (apply Pick.consE)); refine Pick.drop ?_)))))
          | false =>
            rw [metS_f hgm] at hs2
            rw [hgm] at hrow
            have htl2 : (T.todo ++ [(j : Int)]).length = T.todo.length + 1 := by simp
            repeat' (first | with_reducible refine al_none rfl ?_ | ((with_reducible first | apply o_move | apply o_assign); rfl; rfl) | ((with_reducible apply o_load_me); rfl; rfl; kernel_rfl; rfl; (repeat (first | with_reducible exact mh | with_reducible refine mt ?_)); ((with_reducible assumption)); rfl) | ((with_reducible apply o_load_mp); rfl; rfl; kernel_rfl; rfl; (repeat (with_reducible exact mh)); rfl) | ((with_reducible apply o_fieldAddr); rfl; rfl; kernel_rfl; rfl) | ((with_reducible apply o_indexAddr); rfl; rfl; rfl; kernel_rfl; kernel_rfl; kernel_rfl; rfl; ((with_reducible exact rfl)); ((with_reducible assumption))) | ((with_reducible apply o_indexAddr_ms); rfl; rfl; rfl; (repeat (first | with_reducible exact mh | with_reducible refine mt ?_)); kernel_rfl; kernel_rfl; kernel_rfl; ((with_reducible exact rfl)); (omega); (with_reducible exact Nat.zero_add _)) | ((with_reducible first | apply o_eql | apply o_lss); rfl; rfl; rfl) | ((with_reducible apply o_add); rfl; rfl; rfl; (((with_reducible refine w_n1 ?_); omega))) | ((with_reducible apply o_not_f); rfl; rfl; (with_reducible rfl)) | ((with_reducible apply o_load_agg_cp); rfl; rfl; kernel_rfl; kernel_rfl; kernel_rfl; rfl; (exact .succ _ _ _ _ (.succ _ _ _ _ (.succ _ _ _ _ (.succ _ _ _ _ (.zero _)))))) | ((with_reducible apply o_alloc); rfl; rfl; kernel_rfl; intro ss bb) | ((with_reducible apply o_store_mp); rfl; rfl; rfl; kernel_rfl; (repeat (with_reducible exact mh)); ((repeat (first | exact .nil _ | apply Splice.put))); (repeat (with_reducible exact Upd.head _)); kernel_rfl) | ((with_reducible apply o_store_me); rfl; rfl; rfl; kernel_rfl; (repeat (first | with_reducible exact mh | with_reducible refine mt ?_)); ((with_reducible assumption)); (exact .put _ _ _ _ _ (.nil _)); kernel_rfl; rfl; (repeat (first | with_reducible exact Upd.head _ | with_reducible apply Upd.tail))) | ((with_reducible apply o_lit); rfl; rfl; kernel_rfl; kernel_rfl; rfl; kernel_rfl; rfl; rfl; rfl; rfl) | ((with_reducible apply o_append_q); rfl; rfl; rfl; kernel_rfl; (repeat (first | with_reducible exact mh | with_reducible refine mt ?_)); (with_reducible assumption); (assumption); ((show List.length _ = 1; rfl)); omega; (intro bq pq; (repeat (first | with_reducible exact Upd.head _ | with_reducible apply Upd.tail))); intro bb pp) | with_reducible refine aw_seq ?_ | with_reducible refine aw_region ?_ | with_reducible refine al_nil ?_ | with_reducible refine aq_then ?_ | with_reducible refine aw_block ?_ | with_reducible refine aw_skip ?_ | with_reducible refine aq_block ?_ | refine aw_cond_t rfl (by with_reducible rfl) ?_ | (refine aw_cond_dt rfl (by with_reducible rfl) (by first | assumption | omega) ?_) | (refine aw_cond_df rfl (by with_reducible rfl) (by assumption) ?_))
            rw [hset]
            refine aq_round (i + 1, ⟨T.met.set j true, T.out, T.todo ++ [(j : Int)]⟩, bo, bb, pp) ⟨by dsimp only; omega, hs2.symm⟩ (by dsimp only; omega) (.of _ (Weak.envCons rfl (Weak.envCons rfl (Weak.envCons (lk_ms rfl htl2.symm) Weak.envNil))) (by repeat (first | exact Weak.envNil | refine Weak.envCons rfl ?_)) (by (try dsimp only); (repeat (first | with_reducible exact Pick.refl _ | (apply Pick.consE; (repeat (first | with_reducible exact DelS.head _ | with_reducible apply DelS.tail)); (first | with_reducible rfl | (focus (simp [intR, nts]; done)))) | ((fail_if_success (apply Pick.consE)); refine Pick.drop ?_)))))
        · have hstep : rsI T ⟨op, a, bb0, t⟩ = T := by
            unfold rsI
            rw [if_neg hsel, if_neg h15]
          rw [hstep] at hs2
          have h3 : ¬ op = 3 := fun h => hsel (.inl h)
          have h13 : ¬ op = 13 := fun h => hsel (.inr (.inl h))
          have h14 : ¬ op = 14 := fun h => hsel (.inr (.inr h))
          repeat' (first | with_reducible refine al_none rfl ?_ | ((with_reducible first | apply o_move | apply o_assign); rfl; rfl) | ((with_reducible apply o_load_mp); rfl; rfl; kernel_rfl; rfl; (repeat (with_reducible exact mh)); rfl) | ((with_reducible apply o_fieldAddr); rfl; rfl; kernel_rfl; rfl) | ((with_reducible apply o_indexAddr); rfl; rfl; rfl; kernel_rfl; kernel_rfl; kernel_rfl; rfl; ((with_reducible exact rfl)); ((with_reducible assumption))) | ((with_reducible first | apply o_eql | apply o_lss); rfl; rfl; rfl) | ((with_reducible apply o_add); rfl; rfl; rfl; (((with_reducible refine w_n1 ?_); omega))) | ((with_reducible apply o_load_agg_cp); rfl; rfl; kernel_rfl; kernel_rfl; kernel_rfl; rfl; (exact .succ _ _ _ _ (.succ _ _ _ _ (.succ _ _ _ _ (.succ _ _ _ _ (.zero _)))))) | ((with_reducible apply o_alloc); rfl; rfl; kernel_rfl; intro ss bb) | ((with_reducible apply o_store_mp); rfl; rfl; rfl; kernel_rfl; (repeat (with_reducible exact mh)); ((repeat (first | exact .nil _ | apply Splice.put))); (repeat (with_reducible exact Upd.head _)); kernel_rfl) | with_reducible refine aw_seq ?_ | with_reducible refine aw_region ?_ | with_reducible refine al_nil ?_ | with_reducible refine aq_then ?_ | with_reducible refine aw_block ?_ | with_reducible refine aw_skip ?_ | with_reducible refine aq_block ?_ | (refine aw_cond_dt rfl (by with_reducible rfl) (by first | assumption | omega) ?_) | (refine aw_cond_df rfl (by with_reducible rfl) (by assumption) ?_))
          exact aq_round (i + 1, T, bo, bt, pre) ⟨by dsimp only; omega, hs2.symm⟩ (by dsimp only; omega) (.of _ (by repeat (first | exact Weak.envNil | refine Weak.envCons (by rfl) ?_)) (by repeat (first | exact Weak.envNil | refine Weak.envCons rfl ?_)) (by (try dsimp only); (repeat (first | with_reducible exact Pick.refl _ | (apply Pick.consE; (repeat (first | with_reducible exact DelS.head _ | with_reducible apply DelS.tail)); (with_reducible rfl)) | ((fail_if_success (apply Pick.consE)); refine Pick.drop ?_)))))
    · obtain rfl : i = is.length := by omega
      rw [List.take_of_length_le (Nat.le_refl _)] at hT
      rw [← hT] at hrs
      rw [Nat.sub_self, Nat.zero_add] at hTi
      clear hri hsn hT hio hil
      by_cases hq : T.todo = []
      · obtain ⟨met, out, todo⟩ := T
        dsimp only at hq
        subst hq
        have hnp : ¬ (0 : Int) < ((([] : List Int).length : Nat) : Int) := by simp
        have hpi := rsPass_in (any := hasS out asyB) hB.entries hTi
        have hps := fun i (h : i < B.entries.length) => rsPass_snoc (any := hasS out asyB) h ⟨met, out, []⟩
        have hps0 : (RS.mk met out []) = rsPass (hasS out asyB) (B.entries.take 0) ⟨met, out, []⟩ := rfl
        dsimp only at hT1 hT2
        have hasy := slicesContains_ct hst 0 out ⟨#[97, 115, 83, 121, 109, 98, 111, 108]⟩ (by omega)
        rw [idxS_has, show hasS out ⟨#[97, 115, 83, 121, 109, 98, 111, 108]⟩ = hasS out asyB from rfl] at hasy
        repeat' (first | with_reducible refine al_none rfl ?_ | ((with_reducible first | apply o_move | apply o_assign); rfl; rfl) | ((with_reducible apply o_load_cp); rfl; rfl; kernel_rfl; rfl; rfl) | ((with_reducible apply o_fieldAddr); rfl; rfl; kernel_rfl; rfl) | ((with_reducible apply o_len_sl); rfl; rfl; kernel_rfl; (exact List.length_map _)) | ((with_reducible apply o_len_ms); rfl; rfl; kernel_rfl) | ((with_reducible first | apply o_lss | apply o_gtr); rfl; rfl; rfl) | ((with_reducible apply o_callV); rfl; kernel_rfl; exact hG; exact hst; exact hasy; (repeat (first | exact Args.nil | ((with_reducible apply Args.cons); rfl; (first | with_reducible exact View.same _ | ((with_reducible apply View.msAll); (repeat (first | with_reducible exact mh | with_reducible refine mt ?_)); (exact strR_length _))))))) | with_reducible refine aw_seq ?_ | with_reducible refine aw_region ?_ | with_reducible refine al_nil ?_ | with_reducible refine aq_then ?_ | with_reducible refine aw_block ?_ | with_reducible refine aw_exit ?_ | with_reducible refine aw_skip ?_ | with_reducible refine aq_block_hit ?_ | with_reducible refine aq_then_exit ?_ | (refine aw_cond_df rfl (by with_reducible rfl) (by first | assumption | omega) ?_))
        apply aw_loopk (X := Nat × RS × Nat × List (List TV)) [1, 3, 4, 9, 83, 84, 1000000] (fun x => [(85, .int .i64 (x.1 : Int)), (5, .ms st x.2.2.1 x.2.2.2.length x.2.1.todo.length)])
          (fun x => (st, x.2.2.1, .row 1 (x.2.2.2 ++ intR x.2.1.todo)) :: (sm, bm, .row 1 (boolR x.2.1.met)) :: (so, bo, .row 1 (strR out)) :: R)
          (fun x => x.1 ≤ B.entries.length ∧ x.2.1 = rsPass (hasS out asyB) (B.entries.take x.1) ⟨met, out, []⟩) (fun x => B.entries.length - x.1) (0, ⟨met, out, []⟩, bt, pre) ⟨Nat.zero_le _, hps0⟩
        (repeat (first | exact Kept.nil | (apply Kept.cons; rfl))); (repeat (first | exact Weak.envNil | refine Weak.envCons (by rfl) ?_))
        · exact .refl _
        clear hnp hps0
        rintro ⟨i, T, bt, pre⟩ ⟨hi, hT⟩
        dsimp only at hi hT ⊢
        obtain ⟨⟨hUi, hUm⟩, hUo⟩ := hpi i hi
        rw [← hT] at hUi hUm hUo
        obtain ⟨hU1, _⟩ := rs_small hUi
        have hUl := hUi.len
        by_cases hlt : i < B.entries.length
        · have hre := tentry_row (lo := lo) hlt
          have hxa := hB.entries _ (List.getElem_mem hlt)
          have hs2 := hps i hlt
          rw [← hT] at hs2
          generalize B.entries[i] = e at hre hxa hs2
          obtain ⟨ow, cl2, sel, code⟩ := e
          dsimp only at hre hxa
          obtain ⟨c, rfl⟩ : ∃ c : Nat, code = c := ⟨code.toNat, by omega⟩
          have hrow := boolR_get (l := T.met) (k := c) (by omega)
          have hml := boolR_len T.met
          have hset := boolR_set T.met c true
          have hhas := slicesContains_ct hst 0 out sel (by omega)
          rw [idxS_has] at hhas
          have hsl := strR_len out
          have htl := intR_length T.todo
          have hlive : ((pre ++ intR T.todo).drop pre.length).take T.todo.length = intR T.todo := by
            rw [List.drop_left, List.take_of_length_le (by omega)]
          have hpl : pre.length + T.todo.length ≤ (pre ++ intR T.todo).length := by rw [List.length_append, htl]; omega
          have htl2 : (T.todo ++ [(c : Int)]).length = T.todo.length + 1 := by simp
          unfold rsE at hs2
          dsimp only at hs2
          rw [hUo] at hs2
          cases hg : gb T.met c with
          | true =>
            rw [hg] at hrow hs2
            repeat' (first | with_reducible refine al_none rfl ?_ | ((with_reducible apply o_move); rfl; rfl) | ((with_reducible apply o_pick_f); rfl; rfl; (with_reducible rfl); rfl) | ((with_reducible apply o_load_me); rfl; rfl; kernel_rfl; rfl; (repeat (first | with_reducible exact mh | with_reducible refine mt ?_)); ((with_reducible assumption)); rfl) | ((with_reducible apply o_load_mp); rfl; rfl; kernel_rfl; rfl; (repeat (with_reducible exact mh)); rfl) | ((with_reducible apply o_fieldAddr); rfl; rfl; kernel_rfl; rfl) | ((with_reducible apply o_indexAddr); rfl; rfl; rfl; kernel_rfl; kernel_rfl; kernel_rfl; rfl; ((with_reducible exact rfl)); ((with_reducible assumption))) | ((with_reducible apply o_indexAddr_ms); rfl; rfl; rfl; (repeat (first | with_reducible exact mh | with_reducible refine mt ?_)); kernel_rfl; kernel_rfl; kernel_rfl; ((with_reducible exact rfl)); (omega); (with_reducible exact Nat.zero_add _)) | ((with_reducible apply o_lss); rfl; rfl; rfl) | ((with_reducible apply o_add); rfl; rfl; rfl; (((with_reducible refine w_n1 ?_); omega))) | ((with_reducible apply o_not_t); rfl; rfl; (with_reducible rfl)) | ((with_reducible apply o_load_agg_cp); rfl; rfl; kernel_rfl; kernel_rfl; kernel_rfl; rfl; (exact .succ _ _ _ _ (.succ _ _ _ _ (.succ _ _ _ _ (.succ _ _ _ _ (.zero _)))))) | ((with_reducible apply o_alloc); rfl; rfl; kernel_rfl; intro ss bb) | ((with_reducible apply o_store_mp); rfl; rfl; rfl; kernel_rfl; (repeat (with_reducible exact mh)); ((repeat (first | exact .nil _ | apply Splice.put))); (repeat (with_reducible exact Upd.head _)); kernel_rfl) | with_reducible refine aw_seq ?_ | with_reducible refine aw_region ?_ | with_reducible refine al_nil ?_ | with_reducible refine aq_then ?_ | with_reducible refine aw_block ?_ | with_reducible refine aw_skip ?_ | with_reducible refine aq_block ?_ | refine al_skip rfl rfl rfl (by with_reducible rfl) rfl rfl rfl ?_ | refine al_skip2 rfl rfl rfl (by with_reducible rfl) rfl rfl ?_ | refine aw_cond_f rfl (by with_reducible rfl) ?_ | (refine aw_cond_dt rfl (by with_reducible rfl) (by first | assumption | omega) ?_))
            exact aq_round (i + 1, T, bt, pre) ⟨by dsimp only; omega, hs2.symm⟩ (by dsimp only; omega) (.of _ (by repeat (first | exact Weak.envNil | refine Weak.envCons (by rfl) ?_)) (by repeat (first | exact Weak.envNil | refine Weak.envCons rfl ?_)) (by (try dsimp only); (repeat (first | with_reducible exact Pick.refl _ | (apply Pick.consE; (repeat (first | with_reducible exact DelS.head _ | with_reducible apply DelS.tail)); (with_reducible rfl)) | ((fail_if_success (apply Pick.consE)); refine Pick.drop ?_)))))
          | false =>
            rw [hg] at hrow hs2
            rw [metS_f hg] at hs2
            cases ha : hasS out asyB with
            | true =>
              rw [ha] at hs2
              repeat' (first | with_reducible refine al_none rfl ?_ | ((with_reducible first | apply o_move | apply o_assign); rfl; rfl) | ((with_reducible apply o_pick_t); rfl; rfl; (with_reducible rfl); rfl) | ((with_reducible apply o_load_me); rfl; rfl; kernel_rfl; rfl; (repeat (first | with_reducible exact mh | with_reducible refine mt ?_)); ((with_reducible assumption)); rfl) | ((with_reducible apply o_load_mp); rfl; rfl; kernel_rfl; rfl; (repeat (with_reducible exact mh)); rfl) | ((with_reducible apply o_fieldAddr); rfl; rfl; kernel_rfl; rfl) | ((with_reducible apply o_indexAddr); rfl; rfl; rfl; kernel_rfl; kernel_rfl; kernel_rfl; rfl; ((with_reducible exact rfl)); ((with_reducible assumption))) | ((with_reducible apply o_indexAddr_ms); rfl; rfl; rfl; (repeat (first | with_reducible exact mh | with_reducible refine mt ?_)); kernel_rfl; kernel_rfl; kernel_rfl; ((with_reducible exact rfl)); (omega); (with_reducible exact Nat.zero_add _)) | ((with_reducible apply o_lss); rfl; rfl; rfl) | ((with_reducible apply o_add); rfl; rfl; rfl; (((with_reducible refine w_n1 ?_); omega))) | ((with_reducible apply o_not_f); rfl; rfl; (with_reducible rfl)) | ((with_reducible apply o_load_agg_cp); rfl; rfl; kernel_rfl; kernel_rfl; kernel_rfl; rfl; (exact .succ _ _ _ _ (.succ _ _ _ _ (.succ _ _ _ _ (.succ _ _ _ _ (.zero _)))))) | ((with_reducible apply o_alloc); rfl; rfl; kernel_rfl; intro ss bb) | ((with_reducible apply o_store_mp); rfl; rfl; rfl; kernel_rfl; (repeat (with_reducible exact mh)); ((repeat (first | exact .nil _ | apply Splice.put))); (repeat (with_reducible exact Upd.head _)); kernel_rfl) | ((with_reducible apply o_store_me); rfl; rfl; rfl; kernel_rfl; (repeat (first | with_reducible exact mh | with_reducible refine mt ?_)); ((with_reducible assumption)); (exact .put _ _ _ _ _ (.nil _)); kernel_rfl; rfl; (repeat (first | with_reducible exact Upd.head _ | with_reducible apply Upd.tail))) | ((with_reducible apply o_lit); rfl; rfl; kernel_rfl; kernel_rfl; rfl; kernel_rfl; rfl; rfl; rfl; rfl) | ((with_reducible apply o_append_q); rfl; rfl; rfl; kernel_rfl; (repeat (first | with_reducible exact mh | with_reducible refine mt ?_)); (with_reducible assumption); (assumption); ((show List.length _ = 1; rfl)); omega; (intro bq pq; (repeat (first | with_reducible exact Upd.head _ | with_reducible apply Upd.tail))); intro bb pp) | with_reducible refine aw_seq ?_ | with_reducible refine aw_region ?_ | with_reducible refine al_nil ?_ | with_reducible refine aq_then ?_ | with_reducible refine aw_block ?_ | with_reducible refine aw_skip ?_ | with_reducible refine aq_block ?_ | refine al_run rfl rfl rfl (by with_reducible rfl) ?_ | refine al_skip rfl rfl rfl (by with_reducible rfl) rfl rfl rfl ?_ | refine aw_cond_t rfl (by with_reducible rfl) ?_ | (refine aw_cond_dt rfl (by with_reducible rfl) (by first | assumption | omega) ?_))
              rw [hset]
              refine aq_round (i + 1, ⟨T.met.set c true, T.out, T.todo ++ [(c : Int)]⟩, bb, pp) ⟨by dsimp only; omega, hs2.symm⟩ (by dsimp only; omega) (.of _ (Weak.envCons rfl (Weak.envCons (lk_ms rfl htl2.symm) Weak.envNil)) (by repeat (first | exact Weak.envNil | refine Weak.envCons rfl ?_)) (by (try dsimp only); (repeat (first | with_reducible exact Pick.refl _ | (apply Pick.consE; (repeat (first | with_reducible exact DelS.head _ | with_reducible apply DelS.tail)); (first | with_reducible rfl | (focus (simp [intR, nts]; done)))) | ((fail_if_success (apply Pick.consE)); refine Pick.drop ?_)))))
            | false =>
              rw [ha] at hs2
              cases hb : hasS out sel with
              | true =>
                rw [hb] at hs2 hhas
                repeat' (first | with_reducible refine al_none rfl ?_ | ((with_reducible first | apply o_move | apply o_assign); rfl; rfl) | ((with_reducible apply o_pick_t); rfl; rfl; (with_reducible rfl); rfl) | ((with_reducible apply o_pick_f); rfl; rfl; (with_reducible rfl); rfl) | ((with_reducible apply o_load_me); rfl; rfl; kernel_rfl; rfl; (repeat (first | with_reducible exact mh | with_reducible refine mt ?_)); ((with_reducible assumption)); rfl) | ((with_reducible apply o_load_mp); rfl; rfl; kernel_rfl; rfl; (repeat (with_reducible exact mh)); rfl) | ((with_reducible apply o_fieldAddr); rfl; rfl; kernel_rfl; rfl) | ((with_reducible apply o_indexAddr); rfl; rfl; rfl; kernel_rfl; kernel_rfl; kernel_rfl; rfl; ((with_reducible exact rfl)); ((with_reducible assumption))) | ((with_reducible apply o_indexAddr_ms); rfl; rfl; rfl; (repeat (first | with_reducible exact mh | with_reducible refine mt ?_)); kernel_rfl; kernel_rfl; kernel_rfl; ((with_reducible exact rfl)); (omega); (with_reducible exact Nat.zero_add _)) | ((with_reducible apply o_lss); rfl; rfl; rfl) | ((with_reducible apply o_add); rfl; rfl; rfl; (((with_reducible refine w_n1 ?_); omega))) | ((with_reducible apply o_not_f); rfl; rfl; (with_reducible rfl)) | ((with_reducible apply o_load_agg_cp); rfl; rfl; kernel_rfl; kernel_rfl; kernel_rfl; rfl; (exact .succ _ _ _ _ (.succ _ _ _ _ (.succ _ _ _ _ (.succ _ _ _ _ (.zero _)))))) | ((with_reducible apply o_alloc); rfl; rfl; kernel_rfl; intro ss bb) | ((with_reducible apply o_store_mp); rfl; rfl; rfl; kernel_rfl; (repeat (with_reducible exact mh)); ((repeat (first | exact .nil _ | apply Splice.put))); (repeat (with_reducible exact Upd.head _)); kernel_rfl) | ((with_reducible apply o_callV); rfl; kernel_rfl; exact hG; exact hst; exact hhas; (repeat (first | exact Args.nil | ((with_reducible apply Args.cons); rfl; (first | with_reducible exact View.same _ | ((with_reducible apply View.msAll); (repeat (first | with_reducible exact mh | with_reducible refine mt ?_)); (with_reducible assumption))))))) | ((with_reducible apply o_store_me); rfl; rfl; rfl; kernel_rfl; (repeat (first | with_reducible exact mh | with_reducible refine mt ?_)); ((with_reducible assumption)); (exact .put _ _ _ _ _ (.nil _)); kernel_rfl; rfl; (repeat (first | with_reducible exact Upd.head _ | with_reducible apply Upd.tail))) | ((with_reducible apply o_lit); rfl; rfl; kernel_rfl; kernel_rfl; rfl; kernel_rfl; rfl; rfl; rfl; rfl) | ((with_reducible apply o_append_q); rfl; rfl; rfl; kernel_rfl; (repeat (first | with_reducible exact mh | with_reducible refine mt ?_)); (with_reducible assumption); (assumption); ((show List.length _ = 1; rfl)); omega; (intro bq pq; (repeat (first | with_reducible exact Upd.head _ | with_reducible apply Upd.tail))); intro bb pp) | with_reducible refine aw_seq ?_ | with_reducible refine aw_region ?_ | with_reducible refine al_nil ?_ | with_reducible refine aq_then ?_ | with_reducible refine aw_block ?_ | with_reducible refine aw_skip ?_ | with_reducible refine aq_block ?_ | refine al_run rfl rfl rfl (by with_reducible rfl) ?_ | refine aw_cond_t rfl (by with_reducible rfl) ?_ | (refine aw_cond_dt rfl (by with_reducible rfl) (by first | assumption | omega) ?_))
                rw [hset]
                refine aq_round (i + 1, ⟨T.met.set c true, T.out, T.todo ++ [(c : Int)]⟩, bb, pp) ⟨by dsimp only; omega, hs2.symm⟩ (by dsimp only; omega) (.of _ (Weak.envCons rfl (Weak.envCons (lk_ms rfl htl2.symm) Weak.envNil)) (by repeat (first | exact Weak.envNil | refine Weak.envCons rfl ?_)) (by (try dsimp only); (repeat (first | with_reducible exact Pick.refl _ | (apply Pick.consE; (repeat (first | with_reducible exact DelS.head _ | with_reducible apply DelS.tail)); (first | with_reducible rfl | (focus (simp [intR, nts]; done)))) | ((fail_if_success (apply Pick.consE)); refine Pick.drop ?_)))))
              | false =>
                rw [hb] at hs2 hhas
                repeat' (first | with_reducible refine al_none rfl ?_ | ((with_reducible apply o_move); rfl; rfl) | ((with_reducible apply o_pick_t); rfl; rfl; (with_reducible rfl); rfl) | ((with_reducible apply o_pick_f); rfl; rfl; (with_reducible rfl); rfl) | ((with_reducible apply o_load_me); rfl; rfl; kernel_rfl; rfl; (repeat (first | with_reducible exact mh | with_reducible refine mt ?_)); ((with_reducible assumption)); rfl) | ((with_reducible apply o_load_mp); rfl; rfl; kernel_rfl; rfl; (repeat (with_reducible exact mh)); rfl) | ((with_reducible apply o_fieldAddr); rfl; rfl; kernel_rfl; rfl) | ((with_reducible apply o_indexAddr); rfl; rfl; rfl; kernel_rfl; kernel_rfl; kernel_rfl; rfl; ((with_reducible exact rfl)); ((with_reducible assumption))) | ((with_reducible apply o_indexAddr_ms); rfl; rfl; rfl; (repeat (first | with_reducible exact mh | with_reducible refine mt ?_)); kernel_rfl; kernel_rfl; kernel_rfl; ((with_reducible exact rfl)); (omega); (with_reducible exact Nat.zero_add _)) | ((with_reducible apply o_lss); rfl; rfl; rfl) | ((with_reducible apply o_add); rfl; rfl; rfl; (((with_reducible refine w_n1 ?_); omega))) | ((with_reducible apply o_not_f); rfl; rfl; (with_reducible rfl)) | ((with_reducible apply o_load_agg_cp); rfl; rfl; kernel_rfl; kernel_rfl; kernel_rfl; rfl; (exact .succ _ _ _ _ (.succ _ _ _ _ (.succ _ _ _ _ (.succ _ _ _ _ (.zero _)))))) | ((with_reducible apply o_alloc); rfl; rfl; kernel_rfl; intro ss bb) | ((with_reducible apply o_store_mp); rfl; rfl; rfl; kernel_rfl; (repeat (with_reducible exact mh)); ((repeat (first | exact .nil _ | apply Splice.put))); (repeat (with_reducible exact Upd.head _)); kernel_rfl) | ((with_reducible apply o_callV); rfl; kernel_rfl; exact hG; exact hst; exact hhas; (repeat (first | exact Args.nil | ((with_reducible apply Args.cons); rfl; (first | with_reducible exact View.same _ | ((with_reducible apply View.msAll); (repeat (first | with_reducible exact mh | with_reducible refine mt ?_)); (with_reducible assumption))))))) | with_reducible refine aw_seq ?_ | with_reducible refine aw_region ?_ | with_reducible refine al_nil ?_ | with_reducible refine aq_then ?_ | with_reducible refine aw_block ?_ | with_reducible refine aw_skip ?_ | with_reducible refine aq_block ?_ | refine al_run rfl rfl rfl (by with_reducible rfl) ?_ | refine aw_cond_f rfl (by with_reducible rfl) ?_ | (refine aw_cond_dt rfl (by with_reducible rfl) (by first | assumption | omega) ?_))
                exact aq_round (i + 1, T, bt, pre) ⟨by dsimp only; omega, hs2.symm⟩ (by dsimp only; omega) (.of _ (by repeat (first | exact Weak.envNil | refine Weak.envCons (by rfl) ?_)) (by repeat (first | exact Weak.envNil | refine Weak.envCons rfl ?_)) (by (try dsimp only); (repeat (first | with_reducible exact Pick.refl _ | (apply Pick.consE; (repeat (first | with_reducible exact DelS.head _ | with_reducible apply DelS.tail)); (with_reducible rfl)) | ((fail_if_success (apply Pick.consE)); refine Pick.drop ?_)))))
        · obtain rfl : i = B.entries.length := by omega
          rw [List.take_of_length_le (Nat.le_refl _)] at hT
          have hrT : Rs B T := by rw [hT]; exact hrs.step
          have hfx : T.todo = [] → rsStep B T = T := fun h1 => by
            have h2 := rs_fix (b := B) (s := ⟨met, out, []⟩) rfl (by show (rsPass (hasS out asyB) B.entries ⟨met, out, []⟩).todo = []; rw [← hT]; exact h1)
            have h3 : T = ⟨met, out, []⟩ := by rw [hT]; exact h2
            rw [h3]; exact h2
          obtain ⟨m3, o3, t3⟩ := T
          dsimp only at hUo hU1 hUl
          subst hUo
          repeat' (first | with_reducible refine al_none rfl ?_ | ((with_reducible apply o_lss); rfl; rfl; rfl) | with_reducible refine aw_seq ?_ | with_reducible refine aw_region ?_ | with_reducible refine al_nil ?_ | with_reducible refine aq_then ?_ | with_reducible refine aw_exit ?_ | with_reducible refine aq_block_hit ?_ | with_reducible refine aq_then_exit ?_ | with_reducible refine aq_block ?_ | (refine aw_cond_df rfl (by with_reducible rfl) (by first | assumption | omega) ?_))
          exact aq_round (⟨m3, o3, t3⟩, bo, bt, pre) ⟨⟨hrT, hUi⟩, hfx⟩ (by dsimp only; omega) (.of _ (by repeat (first | exact Weak.envNil | refine Weak.envCons (by rfl) ?_)) (by repeat (first | exact Weak.envNil | refine Weak.envCons rfl ?_)) (by (try dsimp only); (repeat (with_reducible exact Pick.refl _))))
      · have hql : (0 : Int) < (T.todo.length : Nat) := by
          have := List.length_pos_iff.2 hq
          omega
        repeat' (first | with_reducible refine al_none rfl ?_ | ((with_reducible apply o_move); rfl; rfl) | ((with_reducible apply o_len_ms); rfl; rfl; kernel_rfl) | ((with_reducible first | apply o_lss | apply o_gtr); rfl; rfl; rfl) | with_reducible refine aw_seq ?_ | with_reducible refine aw_region ?_ | with_reducible refine al_nil ?_ | with_reducible refine aq_then ?_ | with_reducible refine aw_exit ?_ | with_reducible refine aq_block_hit ?_ | with_reducible refine aq_then_exit ?_ | (refine aw_cond_dt rfl (by with_reducible rfl) (by assumption) ?_) | (refine aw_cond_df rfl (by with_reducible rfl) (by first | assumption | omega) ?_))
        exact aq_round (T, bo, bt, pre) ⟨⟨hrs, hTi⟩, fun h => absurd h hq⟩ (by dsimp only; omega) (.of _ (by repeat (first | exact Weak.envNil | refine Weak.envCons (by rfl) ?_)) (by repeat (first | exact Weak.envNil | refine Weak.envCons rfl ?_)) (by (try dsimp only); (repeat (with_reducible exact Pick.refl _))))
end
set_option maxHeartbeats 1000000 in
theorem implReachableSelectors_ctm (hst : Stable GL) (lo : Nat) (x : TCodeBase) (hx : TCodeBase.small 1048576 x) : CtM Tryz.prog GL 11 [.agg [.sl lo 3 (x.classes.map (TClassInfo.tw lo)), .sl lo 4 (x.codes.map (TCode.tw lo)), .sl lo 4 (x.entries.map (TEntry.tw lo)), .int .i64 x.main]] []
      (fun _ : Nat × Nat => True) (fun y => [(y.1, y.2, .row 1 (strR (selsB x)))]) (fun y => .ms y.1 y.2 0 (selsB x).length) := by
  refine ctm_enter Tryz.func11 rfl Tryz.ntmps11 rfl rfl rfl fun w0 R gs objsR hG hR => ?_
  obtain rfl := hR.inv0
  clear hR
  have hver := implIsVerified_ct lo x.classes x.entries x.codes x.main hx.1 hx.2.1 hx.2.2
  have hB : verifiedB ⟨x.classes, x.codes, x.entries, x.main⟩ = verifiedB x := rfl
  rw [hB] at hver
  cases hV : verifiedB x with
  | false =>
    have hs : selsB x = [] := by unfold selsB; rw [if_neg (by rw [hV]; decide)]
    rw [hV] at hver
    rw [hs]
    repeat' (first | with_reducible refine al_none rfl ?_ | ((with_reducible apply o_assign); rfl; rfl) | ((with_reducible apply o_not_f); rfl; rfl; (with_reducible rfl)) | ((with_reducible apply o_load_agg_cp); rfl; rfl; kernel_rfl; kernel_rfl; kernel_rfl; rfl; (exact .succ _ _ _ _ (.succ _ _ _ _ (.succ _ _ _ _ (.succ _ _ _ _ (.zero _)))))) | ((with_reducible apply o_box); rfl; rfl; rfl) | ((with_reducible apply o_call); rfl; kernel_rfl; (repeat (first | exact Args.nil | ((with_reducible apply Args.cons); rfl; exact .same _))); exact hG; exact hst; exact hver) | with_reducible refine aw_seq ?_ | with_reducible refine aw_region ?_ | with_reducible refine al_nil ?_ | with_reducible refine aq_then ?_ | with_reducible refine aw_ret ?_ | with_reducible refine aq_then_ret ?_ | refine aw_cond_t rfl (by with_reducible rfl) ?_)
    refine aq_nils 2 1 (by omega) rfl fun ss => aq_retm1 (by exact .inr rfl) rfl (ss, 0) trivial rfl (.cons _ _ _ _ (.nil R)) (by (try dsimp only); (repeat (first | with_reducible exact Pick.refl _ | (apply Pick.consE; (repeat (with_reducible exact DelS.head _)); (rfl))))) (.tmp _ _ rfl) rfl
  | true =>
    have hs : selsB x = (rsFin x).out := by unfold selsB; rw [if_pos hV]
    have hok := rs_ok hV
    have hse := selectors_ctm hst lo x hok hx.2.2.1
    rw [hV] at hver
    rw [hs]
    repeat' (first | with_reducible refine al_none rfl ?_ | ((with_reducible apply o_assign); rfl; rfl) | ((with_reducible apply o_not_t); rfl; rfl; (with_reducible rfl)) | ((with_reducible apply o_load_agg_cp); rfl; rfl; kernel_rfl; kernel_rfl; kernel_rfl; rfl; (exact .succ _ _ _ _ (.succ _ _ _ _ (.succ _ _ _ _ (.succ _ _ _ _ (.zero _)))))) | ((with_reducible apply o_box); rfl; rfl; rfl) | ((with_reducible apply o_call); rfl; kernel_rfl; (repeat (first | exact Args.nil | ((with_reducible apply Args.cons); rfl; exact .same _))); exact hG; exact hst; exact hver) | ((with_reducible apply o_callM); rfl; kernel_rfl; (repeat (first | exact ArgsM.nil | ((with_reducible apply ArgsM.cons); rfl))); exact hG; exact hse; exact .nil _; intro y hy; refine al_app1 ?_) | with_reducible refine aw_seq ?_ | with_reducible refine aw_region ?_ | with_reducible refine al_nil ?_ | with_reducible refine aq_then ?_ | with_reducible refine aw_skip ?_ | with_reducible refine aw_ret ?_ | refine aw_cond_f rfl (by with_reducible rfl) ?_)
    exact aq_retm1 (by exact .inr rfl) rfl y trivial rfl (.cons _ _ _ _ (.nil R)) (by (try dsimp only); (repeat (with_reducible exact Pick.refl _))) (.tmp _ _ rfl) rfl
end Go.Proofs.YtfchjaoeogolnaaGreatDoor
/- The abstract walk, part 21: the range over a string of plain bytes; a variable that is written no more. -/
namespace Go.Proofs.YtfchjaoeogolnaaGreatDoor
open Go Go.RowKit
section
variable {P : Program} {w0 : World} {N : Nat} {Q : Exit → Act → World → Prop} {objs objs' : Objs} {ops : Array Oper} {env : Env} {o : Oper}
variable {rest : List Oper} {d T0 : Nat} {pos : String} {af : Array Edge} {g : Option (Nat × Bool)}
end
end Go.Proofs.YtfchjaoeogolnaaGreatDoor
/- Nested memory that the call owns: the laws' copies of a code base. Written by gen_ne.py. -/
namespace Go.Proofs.YtfchjaoeogolnaaGreatDoor
open Go Go.RowKit
/-- Rows whose elements hold rows of their own: a place (site, block) for each. -/
def nR {α : Type} (mk : α → Nat × Nat → List TV) (l : List α) (ps : List (Nat × Nat)) : List (List TV) := List.zipWith mk l ps
def nO {α : Type} (ob : α → TObj) (l : List α) (ps : List (Nat × Nat)) : Objs := List.zipWith (fun x p => (p.1, p.2, ob x)) l ps
theorem nR_len {α : Type} (mk : α → Nat × Nat → List TV) {l : List α} {ps : List (Nat × Nat)} (h : ps.length = l.length) : (nR mk l ps).length = l.length := by simp [nR, h]
theorem takeSnoc {α : Type} {l : List α} {i : Nat} (h : i < l.length) : l.take (i + 1) = l.take i ++ [l[i]] := by rw [List.take_add_one, List.getElem?_eq_getElem h]; rfl
theorem nO_snoc {α : Type} (ob : α → TObj) {l : List α} {ps : List (Nat × Nat)} {i : Nat} (h : i < l.length) (hp : ps.length = i) (p : Nat × Nat) : nO ob (l.take (i + 1)) (ps ++ [p]) = nO ob (l.take i) ps ++ [(p.1, p.2, ob l[i])] := by
  unfold nO
  rw [takeSnoc h, List.zipWith_append (by simp; omega)]; rfl
theorem nR_set {α : Type} (mk : α → Nat × Nat → List TV) (z : List TV) {l : List α} {ps : List (Nat × Nat)} {i : Nat} (h : i < l.length) (hp : ps.length = i) (p : Nat × Nat) :
    (nR mk (l.take i) ps ++ List.replicate (l.length - i) z)[i]? = some z ∧ (nR mk (l.take i) ps ++ List.replicate (l.length - i) z).set i (mk l[i] p) = nR mk (l.take (i + 1)) (ps ++ [p]) ++ List.replicate (l.length - (i + 1)) z := by
  have hl : (nR mk (l.take i) ps).length = i := by simp [nR]; omega
  have e : l.length - i = (l.length - (i + 1)) + 1 := by omega
  refine ⟨?_, ?_⟩
  · rw [List.getElem?_append_right (by omega), hl, Nat.sub_self, e, List.replicate_succ]; rfl
  · rw [List.set_append_right _ _ (by omega), hl, Nat.sub_self, e, List.replicate_succ, List.set_cons_zero]
    unfold nR
    rw [takeSnoc h, List.zipWith_append (by simp; omega), List.append_assoc]; rfl
theorem pick_snoc (a z : Nat × Nat × TObj) (T R : Objs) : Pick (a :: ((T ++ [z]) ++ R)) (z :: a :: (T ++ R)) := .perm (by
  have h : ((T ++ [z]) ++ R).Perm (z :: (T ++ R)) := by rw [List.append_assoc]; exact List.perm_middle
  exact (h.cons a).trans (List.Perm.swap z a _))
def clsMk (x : TClassInfo) (p : Nat × Nat) : List TV := [.str x.name, .int .i64 x.parent, .ms p.1 p.2 0 x.fields.length]
def clsOb (x : TClassInfo) : TObj := .row 1 (strR x.fields)
def codMk (x : TCode) (p : Nat × Nat) : List TV := [.bool x.block, .int .i64 x.params, .int .i64 x.slots, .ms p.1 p.2 0 x.instrs.length]
def codOb (x : TCode) : TObj := .row 4 (x.instrs.map (TInstr.tw 0))
section
variable {G : World → Prop}
theorem toStringS_own (hst : Stable G) (lo : Nat) (l : List ByteArray) (hn : l.length ≤ 1048576) : CtM Tryz.prog G 112 [.sl lo 1 (strR l)] [] (fun _ : Nat × Nat => True) (fun y => [(y.1, y.2, .row 1 (strR l))]) (fun y => .ms y.1 y.2 0 l.length) := by
  refine ctm_enter Tryz.func112 rfl Tryz.ntmps112 rfl rfl rfl fun w0 R gs objsR hG hR => ?_
  obtain rfl := hR.inv0
  clear hR
  have hlen := strR_len l
  have h0 := copyR_zero (fun s : ByteArray => [TV.str s]) [.str ⟨#[]⟩] l
  repeat' (first | with_reducible refine al_none rfl ?_ | ((with_reducible first | apply o_move | apply o_assign); rfl; rfl) | ((with_reducible apply o_len_sl); rfl; rfl; kernel_rfl; (exact List.length_map _)) | ((with_reducible apply o_make); rfl; rfl; rfl; ((with_reducible exact rfl)); kernel_rfl; kernel_rfl; rfl; rfl; kernel_rfl; omega; intro ss bb) | with_reducible refine aw_seq ?_ | with_reducible refine aw_region ?_ | with_reducible refine al_nil ?_ | with_reducible refine aq_then ?_ | with_reducible refine aw_block ?_)
  generalize ss = so; generalize bb = bo
  apply aw_loopk (X := Nat) [0, 3, 1000000] (fun i => [(4, .int .i64 (i : Int))]) (fun i => (so, bo, .row 1 (copyR (fun s : ByteArray => [TV.str s]) [.str ⟨#[]⟩] l i)) :: R) (fun i => i ≤ l.length) (fun i => l.length - i) 0 (Nat.zero_le _)
  (repeat (first | exact Kept.nil | (apply Kept.cons; rfl))); (repeat (first | exact Weak.envNil | refine Weak.envCons (by rfl) ?_))
  · rw [← h0]; exact .refl _
  intro i hi
  try dsimp only
  by_cases hlt : i < l.length
  · obtain ⟨hrow, hset⟩ := copyR_set (fun s : ByteArray => [TV.str s]) [.str ⟨#[]⟩] hlt
    have hra := strR_row hlt
    generalize l[i] = x at hset hra
    try dsimp only at hset
    repeat' (first | with_reducible refine al_none rfl ?_ | ((with_reducible first | apply o_move | apply o_assign); rfl; rfl) | ((with_reducible apply o_load_cp); rfl; rfl; kernel_rfl; rfl; rfl) | ((with_reducible apply o_indexAddr); rfl; rfl; rfl; kernel_rfl; kernel_rfl; kernel_rfl; rfl; ((with_reducible exact rfl)); ((with_reducible assumption))) | ((with_reducible apply o_indexAddr_ms); rfl; rfl; rfl; (repeat (with_reducible exact mh)); kernel_rfl; kernel_rfl; kernel_rfl; ((with_reducible exact rfl)); (assumption); (with_reducible exact Nat.zero_add _)) | ((with_reducible apply o_len_sl); rfl; rfl; kernel_rfl; (exact List.length_map _)) | ((with_reducible apply o_lss); rfl; rfl; rfl) | ((with_reducible apply o_add); rfl; rfl; rfl; (((with_reducible refine w_n1 ?_); omega))) | ((with_reducible apply o_store_me); rfl; rfl; rfl; kernel_rfl; (repeat (with_reducible exact mh)); ((with_reducible assumption)); (exact .put _ _ _ _ _ (.nil _)); kernel_rfl; rfl; (repeat (with_reducible exact Upd.head _))) | with_reducible refine aw_seq ?_ | with_reducible refine aw_region ?_ | with_reducible refine al_nil ?_ | with_reducible refine aq_then ?_ | with_reducible refine aw_block ?_ | with_reducible refine aw_skip ?_ | with_reducible refine aq_block ?_ | (refine aw_cond_dt rfl (by with_reducible rfl) (by first | assumption | omega) ?_))
    refine aq_round (i + 1) (by omega) (by omega) (.of _ (by repeat (first | exact Weak.envNil | refine Weak.envCons (by rfl) ?_)) (by repeat (first | exact Weak.envNil | refine Weak.envCons rfl ?_)) (by rw [← hset]; exact .refl _))
  · obtain rfl : i = l.length := by omega
    rw [copyR_full]
    repeat' (first | with_reducible refine al_none rfl ?_ | ((with_reducible first | apply o_move | apply o_assign); rfl; rfl) | ((with_reducible apply o_len_sl); rfl; rfl; kernel_rfl; (exact List.length_map _)) | ((with_reducible apply o_lss); rfl; rfl; rfl) | with_reducible refine aw_seq ?_ | with_reducible refine aw_region ?_ | with_reducible refine al_nil ?_ | with_reducible refine aq_then ?_ | with_reducible refine aw_exit ?_ | with_reducible refine aw_ret ?_ | with_reducible refine aq_block_hit ?_ | with_reducible refine aq_then_exit ?_ | (refine aw_cond_df rfl (by with_reducible rfl) (by first | assumption | omega) ?_))
    exact aq_retm1 (by exact .inr rfl) rfl (so, bo) trivial rfl (.cons _ _ _ _ (.nil R)) (by (try dsimp only); (repeat (first | with_reducible exact Pick.refl _ | (apply Pick.consE; (repeat (with_reducible exact DelS.head _)); (rfl))))) (.tmp _ _ rfl) rfl
theorem toInstrS_own (hst : Stable G) (lo : Nat) (l : List TInstr) (hb : l.length ≤ 1048576 ∧ ∀ y ∈ l, TInstr.small 1048576 y) : CtM Tryz.prog G 113 [.sl lo 4 (l.map (TInstr.tw lo))] [] (fun _ : Nat × Nat => True) (fun y => [(y.1, y.2, .row 4 (l.map (TInstr.tw 0)))]) (fun y => .ms y.1 y.2 0 l.length) := by
  refine ctm_enter Tryz.func113 rfl Tryz.ntmps113 rfl rfl rfl fun w0 R gs objsR hG hR => ?_
  obtain rfl := hR.inv0
  clear hR
  have hlen := TInstr.len lo l
  have hl1 := hb.1
  have h0 := copyR_zero (TInstr.tw 0) TInstr.tz l
  repeat' (first | with_reducible refine al_none rfl ?_ | ((with_reducible first | apply o_move | apply o_assign); rfl; rfl) | ((with_reducible apply o_len_sl); rfl; rfl; kernel_rfl; (exact List.length_map _)) | ((with_reducible apply o_make); rfl; rfl; rfl; ((with_reducible exact rfl)); kernel_rfl; kernel_rfl; rfl; rfl; kernel_rfl; omega; intro ss bb) | with_reducible refine aw_seq ?_ | with_reducible refine aw_region ?_ | with_reducible refine al_nil ?_ | with_reducible refine aq_then ?_ | with_reducible refine aw_block ?_)
  generalize ss = so; generalize bb = bo
  apply aw_loopk (X := Nat) [0, 3, 1000000] (fun i => [(4, .int .i64 (i : Int))]) (fun i => (so, bo, .row 4 (copyR (TInstr.tw 0) TInstr.tz l i)) :: R) (fun i => i ≤ l.length) (fun i => l.length - i) 0 (Nat.zero_le _)
  (repeat (first | exact Kept.nil | (apply Kept.cons; rfl))); (repeat (first | exact Weak.envNil | refine Weak.envCons (by rfl) ?_))
  · rw [← h0]; exact .refl _
  intro i hi
  try dsimp only
  by_cases hlt : i < l.length
  · obtain ⟨hrow, hset⟩ := copyR_set (TInstr.tw 0) TInstr.tz hlt
    have hra : (l.map (TInstr.tw lo))[i]? = some (l[i].tw lo) := row_map hlt
    have hbi := hb.2 _ (List.getElem_mem hlt)
    generalize l[i] = x at hset hra hbi
    have hct := toInstr_ct hst lo x hbi
    unfold TInstr.tw at hct
    rw [show x.tw lo = [.int .i64 x.op, .int .i64 x.a, .int .i64 x.b, .str x.text] from rfl] at hra
    replace hrow : (copyR (TInstr.tw 0) TInstr.tz l i)[i]? = some [.int .i64 0, .int .i64 0, .int .i64 0, .str ⟨#[]⟩] := hrow
    repeat' (first | with_reducible refine al_none rfl ?_ | ((with_reducible first | apply o_move | apply o_assign); rfl; rfl) | ((with_reducible apply o_indexAddr); rfl; rfl; rfl; kernel_rfl; kernel_rfl; kernel_rfl; rfl; ((with_reducible exact rfl)); ((with_reducible assumption))) | ((with_reducible apply o_indexAddr_ms); rfl; rfl; rfl; (repeat (with_reducible exact mh)); kernel_rfl; kernel_rfl; kernel_rfl; ((with_reducible exact rfl)); (assumption); (with_reducible exact Nat.zero_add _)) | ((with_reducible apply o_len_sl); rfl; rfl; kernel_rfl; (exact List.length_map _)) | ((with_reducible apply o_lss); rfl; rfl; rfl) | ((with_reducible apply o_add); rfl; rfl; rfl; (((with_reducible refine w_n1 ?_); omega))) | ((with_reducible apply o_load_agg_cp); rfl; rfl; kernel_rfl; kernel_rfl; kernel_rfl; rfl; (exact .succ _ _ _ _ (.succ _ _ _ _ (.succ _ _ _ _ (.succ _ _ _ _ (.zero _)))))) | ((with_reducible apply o_call); rfl; kernel_rfl; (repeat (first | exact Args.nil | ((with_reducible apply Args.cons); rfl; exact .same _))); exact hG; exact hst; exact hct) | ((with_reducible apply o_store_me); rfl; rfl; rfl; kernel_rfl; (repeat (with_reducible exact mh)); ((with_reducible assumption)); ((repeat (first | exact .nil _ | apply Splice.put))); kernel_rfl; rfl; (repeat (with_reducible exact Upd.head _))) | with_reducible refine aw_seq ?_ | with_reducible refine aw_region ?_ | with_reducible refine al_nil ?_ | with_reducible refine aq_then ?_ | with_reducible refine aw_block ?_ | with_reducible refine aw_skip ?_ | with_reducible refine aq_block ?_ | (refine aw_cond_dt rfl (by with_reducible rfl) (by first | assumption | omega) ?_))
    refine aq_round (i + 1) (by omega) (by omega) (.of _ (by repeat (first | exact Weak.envNil | refine Weak.envCons (by rfl) ?_)) (by repeat (first | exact Weak.envNil | refine Weak.envCons rfl ?_)) (by rw [← hset]; exact .refl _))
  · obtain rfl : i = l.length := by omega
    rw [copyR_full]
    repeat' (first | with_reducible refine al_none rfl ?_ | ((with_reducible first | apply o_move | apply o_assign); rfl; rfl) | ((with_reducible apply o_len_sl); rfl; rfl; kernel_rfl; (exact List.length_map _)) | ((with_reducible apply o_lss); rfl; rfl; rfl) | with_reducible refine aw_seq ?_ | with_reducible refine aw_region ?_ | with_reducible refine al_nil ?_ | with_reducible refine aq_then ?_ | with_reducible refine aw_exit ?_ | with_reducible refine aw_ret ?_ | with_reducible refine aq_block_hit ?_ | with_reducible refine aq_then_exit ?_ | (refine aw_cond_df rfl (by with_reducible rfl) (by first | assumption | omega) ?_))
    exact aq_retm1 (by exact .inr rfl) rfl (so, bo) trivial rfl (.cons _ _ _ _ (.nil R)) (by (try dsimp only); (repeat (with_reducible exact Pick.refl _))) (.tmp _ _ rfl) rfl
theorem toEntryS_own (hst : Stable G) (lo : Nat) (l : List TEntry) (hb : l.length ≤ 1048576 ∧ ∀ y ∈ l, TEntry.small 1048576 y) : CtM Tryz.prog G 37 [.sl lo 4 (l.map (TEntry.tw lo))] [] (fun _ : Nat × Nat => True) (fun y => [(y.1, y.2, .row 4 (l.map (TEntry.tw 0)))]) (fun y => .ms y.1 y.2 0 l.length) := by
  refine ctm_enter Tryz.func37 rfl Tryz.ntmps37 rfl rfl rfl fun w0 R gs objsR hG hR => ?_
  obtain rfl := hR.inv0
  clear hR
  have hlen := TEntry.len lo l
  have hl1 := hb.1
  have h0 := copyR_zero (TEntry.tw 0) TEntry.tz l
  repeat' (first | with_reducible refine al_none rfl ?_ | ((with_reducible first | apply o_move | apply o_assign); rfl; rfl) | ((with_reducible apply o_len_sl); rfl; rfl; kernel_rfl; (exact List.length_map _)) | ((with_reducible apply o_make); rfl; rfl; rfl; ((with_reducible exact rfl)); kernel_rfl; kernel_rfl; rfl; rfl; kernel_rfl; omega; intro ss bb) | with_reducible refine aw_seq ?_ | with_reducible refine aw_region ?_ | with_reducible refine al_nil ?_ | with_reducible refine aq_then ?_ | with_reducible refine aw_block ?_)
  generalize ss = so; generalize bb = bo
  apply aw_loopk (X := Nat) [0, 3, 1000000] (fun i => [(4, .int .i64 (i : Int))]) (fun i => (so, bo, .row 4 (copyR (TEntry.tw 0) TEntry.tz l i)) :: R) (fun i => i ≤ l.length) (fun i => l.length - i) 0 (Nat.zero_le _)
  (repeat (first | exact Kept.nil | (apply Kept.cons; rfl))); (repeat (first | exact Weak.envNil | refine Weak.envCons (by rfl) ?_))
  · rw [← h0]; exact .refl _
  intro i hi
  try dsimp only
  by_cases hlt : i < l.length
  · obtain ⟨hrow, hset⟩ := copyR_set (TEntry.tw 0) TEntry.tz hlt
    have hra : (l.map (TEntry.tw lo))[i]? = some (l[i].tw lo) := row_map hlt
    have hbi := hb.2 _ (List.getElem_mem hlt)
    generalize l[i] = x at hset hra hbi
    have hct := toEntry_ct hst lo x hbi
    unfold TEntry.tw at hct
    rw [show x.tw lo = [.int .i64 x.owner, .bool x.class_, .str x.selector, .int .i64 x.code] from rfl] at hra
    replace hrow : (copyR (TEntry.tw 0) TEntry.tz l i)[i]? = some [.int .i64 0, .bool false, .str ⟨#[]⟩, .int .i64 0] := hrow
    repeat' (first | with_reducible refine al_none rfl ?_ | ((with_reducible first | apply o_move | apply o_assign); rfl; rfl) | ((with_reducible apply o_indexAddr); rfl; rfl; rfl; kernel_rfl; kernel_rfl; kernel_rfl; rfl; ((with_reducible exact rfl)); ((with_reducible assumption))) | ((with_reducible apply o_indexAddr_ms); rfl; rfl; rfl; (repeat (with_reducible exact mh)); kernel_rfl; kernel_rfl; kernel_rfl; ((with_reducible exact rfl)); (assumption); (with_reducible exact Nat.zero_add _)) | ((with_reducible apply o_len_sl); rfl; rfl; kernel_rfl; (exact List.length_map _)) | ((with_reducible apply o_lss); rfl; rfl; rfl) | ((with_reducible apply o_add); rfl; rfl; rfl; (((with_reducible refine w_n1 ?_); omega))) | ((with_reducible apply o_load_agg_cp); rfl; rfl; kernel_rfl; kernel_rfl; kernel_rfl; rfl; (exact .succ _ _ _ _ (.succ _ _ _ _ (.succ _ _ _ _ (.succ _ _ _ _ (.zero _)))))) | ((with_reducible apply o_call); rfl; kernel_rfl; (repeat (first | exact Args.nil | ((with_reducible apply Args.cons); rfl; exact .same _))); exact hG; exact hst; exact hct) | ((with_reducible apply o_store_me); rfl; rfl; rfl; kernel_rfl; (repeat (with_reducible exact mh)); ((with_reducible assumption)); ((repeat (first | exact .nil _ | apply Splice.put))); kernel_rfl; rfl; (repeat (with_reducible exact Upd.head _))) | with_reducible refine aw_seq ?_ | with_reducible refine aw_region ?_ | with_reducible refine al_nil ?_ | with_reducible refine aq_then ?_ | with_reducible refine aw_block ?_ | with_reducible refine aw_skip ?_ | with_reducible refine aq_block ?_ | (refine aw_cond_dt rfl (by with_reducible rfl) (by first | assumption | omega) ?_))
    refine aq_round (i + 1) (by omega) (by omega) (.of _ (by repeat (first | exact Weak.envNil | refine Weak.envCons (by rfl) ?_)) (by repeat (first | exact Weak.envNil | refine Weak.envCons rfl ?_)) (by rw [← hset]; exact .refl _))
  · obtain rfl : i = l.length := by omega
    rw [copyR_full]
    repeat' (first | with_reducible refine al_none rfl ?_ | ((with_reducible first | apply o_move | apply o_assign); rfl; rfl) | ((with_reducible apply o_len_sl); rfl; rfl; kernel_rfl; (exact List.length_map _)) | ((with_reducible apply o_lss); rfl; rfl; rfl) | with_reducible refine aw_seq ?_ | with_reducible refine aw_region ?_ | with_reducible refine al_nil ?_ | with_reducible refine aq_then ?_ | with_reducible refine aw_exit ?_ | with_reducible refine aw_ret ?_ | with_reducible refine aq_block_hit ?_ | with_reducible refine aq_then_exit ?_ | (refine aw_cond_df rfl (by with_reducible rfl) (by first | assumption | omega) ?_))
    exact aq_retm1 (by exact .inr rfl) rfl (so, bo) trivial rfl (.cons _ _ _ _ (.nil R)) (by (try dsimp only); (repeat (with_reducible exact Pick.refl _))) (.tmp _ _ rfl) rfl
theorem toClassInfo_own (hst : Stable G) (lo : Nat) (x : TClassInfo) (hb : x.small 1048576) : CtM Tryz.prog G 75 [.agg [.str x.name, .int .i64 x.parent, .sl lo 1 (strR x.fields)]] [] (fun _ : Nat × Nat => True) (fun y => [(y.1, y.2, .row 1 (strR x.fields))]) (fun y => .agg [.str x.name, .int .i64 x.parent, .ms y.1 y.2 0 x.fields.length]) := by
  refine ctm_enter Tryz.func75 rfl Tryz.ntmps75 rfl rfl rfl fun w0 R gs objsR hG hR => ?_
  obtain rfl := hR.inv0
  clear hR
  have hin := toStringS_own hst lo x.fields hb.2.1
  repeat' (first | with_reducible refine al_none rfl ?_ | ((with_reducible apply o_load_cp); rfl; rfl; kernel_rfl; rfl; rfl) | ((with_reducible apply o_fieldAddr); rfl; rfl; kernel_rfl; rfl) | ((with_reducible apply o_load_agg_mp); rfl; rfl; kernel_rfl; kernel_rfl; kernel_rfl; rfl; (repeat (first | with_reducible exact mh | with_reducible refine mt ?_)); (exact .succ _ _ _ _ (.succ _ _ _ _ (.succ _ _ _ _ (.zero _))))) | ((with_reducible apply o_box); rfl; rfl; rfl) | ((with_reducible apply o_alloc); rfl; rfl; kernel_rfl; intro ss bb) | ((with_reducible apply o_store_mp); rfl; rfl; rfl; kernel_rfl; (repeat (first | with_reducible exact mh | with_reducible refine mt ?_)); (first | exact .put _ _ _ _ _ (.nil _) | exact .skip _ _ _ _ _ (.put _ _ _ _ _ (.nil _)) | exact .skip _ _ _ _ _ (.skip _ _ _ _ _ (.put _ _ _ _ _ (.nil _))) | (repeat (first | exact .nil _ | apply Splice.put))); (repeat (first | with_reducible exact Upd.head _ | with_reducible apply Upd.tail)); kernel_rfl) | ((with_reducible apply o_callM); rfl; kernel_rfl; (repeat (first | exact ArgsM.nil | ((with_reducible apply ArgsM.cons); rfl))); exact hG; exact hin; exact .nil _; intro y hy; refine al_app1 ?_) | with_reducible refine aw_seq ?_ | with_reducible refine aw_region ?_ | with_reducible refine al_nil ?_ | with_reducible refine aq_then ?_ | with_reducible refine aw_ret ?_)
  refine aq_retm1 (by exact .inr rfl) rfl y trivial rfl (.cons _ _ _ _ (.nil R)) (by (try dsimp only); (repeat (first | with_reducible exact Pick.refl _ | (apply Pick.consE; (repeat (with_reducible exact DelS.head _)); (with_reducible rfl)) | ((fail_if_success (apply Pick.consE)); refine Pick.drop ?_)))) (.cell _ _ _ _ _ rfl (by (repeat (first | with_reducible exact mh | with_reducible refine mt ?_))) (by kernel_rfl) (by kernel_rfl) (by kernel_rfl)) rfl
theorem toClassInfoS_own (hst : Stable G) (lo : Nat) (l : List TClassInfo) (hb : l.length ≤ 1048576 ∧ ∀ y ∈ l, TClassInfo.small 1048576 y) : CtM Tryz.prog G 35 [.sl lo 3 (l.map (TClassInfo.tw lo))] [] (fun y : (Nat × Nat) × List (Nat × Nat) => y.2.length = l.length) (fun y => (y.1.1, y.1.2, .row 3 (nR clsMk l y.2)) :: nO clsOb l y.2) (fun y => .ms y.1.1 y.1.2 0 l.length) := by
  refine ctm_enter Tryz.func35 rfl Tryz.ntmps35 rfl rfl rfl fun w0 R gs objsR hG hR => ?_
  obtain rfl := hR.inv0
  clear hR
  have hlen := TClassInfo.len lo l
  have hl1 := hb.1
  have h0 : List.replicate l.length TClassInfo.tz = nR clsMk (l.take 0) [] ++ List.replicate (l.length - 0) TClassInfo.tz := by simp [nR]
  repeat' (first | with_reducible refine al_none rfl ?_ | ((with_reducible first | apply o_move | apply o_assign); rfl; rfl) | ((with_reducible apply o_len_sl); rfl; rfl; kernel_rfl; (exact List.length_map _)) | ((with_reducible apply o_make); rfl; rfl; rfl; ((with_reducible exact rfl)); kernel_rfl; kernel_rfl; rfl; rfl; kernel_rfl; omega; intro ss bb) | with_reducible refine aw_seq ?_ | with_reducible refine aw_region ?_ | with_reducible refine al_nil ?_ | with_reducible refine aq_then ?_ | with_reducible refine aw_block ?_)
  generalize ss = so; generalize bb = bo
  apply aw_loopk (X := Nat × List (Nat × Nat)) [0, 3, 1000000] (fun x => [(4, .int .i64 (x.1 : Int))]) (fun x => (so, bo, .row 3 (nR clsMk (l.take x.1) x.2 ++ List.replicate (l.length - x.1) TClassInfo.tz)) :: (nO clsOb (l.take x.1) x.2 ++ R)) (fun x => x.1 ≤ l.length ∧ x.2.length = x.1) (fun x => l.length - x.1) (0, []) ⟨Nat.zero_le _, rfl⟩
  (repeat (first | exact Kept.nil | (apply Kept.cons; rfl))); (repeat (first | exact Weak.envNil | refine Weak.envCons (by rfl) ?_))
  · rw [← h0]; exact .refl _
  rintro ⟨i, ps⟩ ⟨hi, hps⟩
  dsimp only at hi hps ⊢
  by_cases hlt : i < l.length
  · have hrs := fun p => nR_set clsMk TClassInfo.tz hlt hps p
    have hos := fun p => nO_snoc clsOb hlt hps p
    have hra : (l.map (TClassInfo.tw lo))[i]? = some (l[i].tw lo) := row_map hlt
    have hbi := hb.2 _ (List.getElem_mem hlt)
    generalize l[i] = x at hrs hos hra hbi
    have hct := toClassInfo_own hst lo x hbi
    rw [show x.tw lo = [.str x.name, .int .i64 x.parent, .sl lo 1 (strR x.fields)] from rfl] at hra
    have hrow : (nR clsMk (l.take i) ps ++ List.replicate (l.length - i) TClassInfo.tz)[i]? = some [.str ⟨#[]⟩, .int .i64 0, .nils] := (hrs (0, 0)).1
    generalize nO clsOb (l.take i) ps = T at hos ⊢
    repeat' (first | with_reducible refine al_none rfl ?_ | ((with_reducible first | apply o_move | apply o_assign); rfl; rfl) | ((with_reducible apply o_indexAddr); rfl; rfl; rfl; kernel_rfl; kernel_rfl; kernel_rfl; rfl; ((with_reducible exact rfl)); ((with_reducible assumption))) | ((with_reducible apply o_indexAddr_ms); rfl; rfl; rfl; (repeat (first | with_reducible exact mh | with_reducible refine mt ?_)); kernel_rfl; kernel_rfl; kernel_rfl; ((with_reducible exact rfl)); (assumption); (with_reducible exact Nat.zero_add _)) | ((with_reducible apply o_len_sl); rfl; rfl; kernel_rfl; (exact List.length_map _)) | ((with_reducible apply o_lss); rfl; rfl; rfl) | ((with_reducible apply o_add); rfl; rfl; rfl; (((with_reducible refine w_n1 ?_); omega))) | ((with_reducible apply o_load_agg_cp); rfl; rfl; kernel_rfl; kernel_rfl; kernel_rfl; rfl; (exact .succ _ _ _ _ (.succ _ _ _ _ (.succ _ _ _ _ (.zero _))))) | ((with_reducible apply o_callM); rfl; kernel_rfl; (repeat (first | exact ArgsM.nil | ((with_reducible apply ArgsM.cons); rfl))); exact hG; exact hct; exact .nil _; intro y hy; refine al_app1 ?_) | ((with_reducible apply o_store_me); rfl; rfl; rfl; kernel_rfl; (repeat (first | with_reducible exact mh | with_reducible refine mt ?_)); ((with_reducible assumption)); ((repeat (first | exact .nil _ | apply Splice.put))); kernel_rfl; rfl; (repeat (first | with_reducible exact Upd.head _ | with_reducible apply Upd.tail))) | with_reducible refine aw_seq ?_ | with_reducible refine aw_region ?_ | with_reducible refine al_nil ?_ | with_reducible refine aq_then ?_ | with_reducible refine aw_block ?_ | with_reducible refine aw_skip ?_ | with_reducible refine aq_block ?_ | (refine aw_cond_dt rfl (by with_reducible rfl) (by first | assumption | omega) ?_))
    refine aq_round (i + 1, ps ++ [y]) ⟨by dsimp only; omega, by dsimp only; simp [hps]⟩ (by dsimp only; omega) (.of _ (by repeat (first | exact Weak.envNil | refine Weak.envCons (by rfl) ?_)) (by repeat (first | exact Weak.envNil | refine Weak.envCons rfl ?_)) ?_)
    dsimp only
    rw [hos y, ← (hrs y).2]
    exact pick_snoc _ _ T R
  · obtain rfl : i = l.length := by omega
    rw [List.take_of_length_le (Nat.le_refl _), Nat.sub_self, List.replicate_zero, List.append_nil]
    repeat' (first | with_reducible refine al_none rfl ?_ | ((with_reducible first | apply o_move | apply o_assign); rfl; rfl) | ((with_reducible apply o_len_sl); rfl; rfl; kernel_rfl; (exact List.length_map _)) | ((with_reducible apply o_lss); rfl; rfl; rfl) | with_reducible refine aw_seq ?_ | with_reducible refine aw_region ?_ | with_reducible refine al_nil ?_ | with_reducible refine aq_then ?_ | with_reducible refine aw_exit ?_ | with_reducible refine aw_ret ?_ | with_reducible refine aq_block_hit ?_ | with_reducible refine aq_then_exit ?_ | (refine aw_cond_df rfl (by with_reducible rfl) (by first | assumption | omega) ?_))
    exact aq_retm1 (by exact .inr rfl) rfl ((so, bo), ps) hps rfl (.cons _ _ _ _ (.app _ R)) (.refl _) (.tmp _ _ rfl) rfl
theorem toCode_own (hst : Stable G) (lo : Nat) (x : TCode) (hb : x.small 1048576) : CtM Tryz.prog G 76 [.agg [.bool x.block, .int .i64 x.params, .int .i64 x.slots, .sl lo 4 (x.instrs.map (TInstr.tw lo))]] [] (fun _ : Nat × Nat => True) (fun y => [(y.1, y.2, .row 4 (x.instrs.map (TInstr.tw 0)))]) (fun y => .agg [.bool x.block, .int .i64 x.params, .int .i64 x.slots, .ms y.1 y.2 0 x.instrs.length]) := by
  refine ctm_enter Tryz.func76 rfl Tryz.ntmps76 rfl rfl rfl fun w0 R gs objsR hG hR => ?_
  obtain rfl := hR.inv0
  clear hR
  have hin := toInstrS_own hst lo x.instrs hb
  repeat' (first | with_reducible refine al_none rfl ?_ | ((with_reducible apply o_load_cp); rfl; rfl; kernel_rfl; rfl; rfl) | ((with_reducible apply o_fieldAddr); rfl; rfl; kernel_rfl; rfl) | ((with_reducible apply o_load_agg_mp); rfl; rfl; kernel_rfl; kernel_rfl; kernel_rfl; rfl; (repeat (first | with_reducible exact mh | with_reducible refine mt ?_)); (exact .succ _ _ _ _ (.succ _ _ _ _ (.succ _ _ _ _ (.succ _ _ _ _ (.zero _)))))) | ((with_reducible apply o_box); rfl; rfl; rfl) | ((with_reducible apply o_alloc); rfl; rfl; kernel_rfl; intro ss bb) | ((with_reducible apply o_store_mp); rfl; rfl; rfl; kernel_rfl; (repeat (first | with_reducible exact mh | with_reducible refine mt ?_)); (first | exact .put _ _ _ _ _ (.nil _) | exact .skip _ _ _ _ _ (.put _ _ _ _ _ (.nil _)) | exact .skip _ _ _ _ _ (.skip _ _ _ _ _ (.put _ _ _ _ _ (.nil _))) | (repeat (first | exact .nil _ | apply Splice.put | apply Splice.skip))); (repeat (first | with_reducible exact Upd.head _ | with_reducible apply Upd.tail)); kernel_rfl) | ((with_reducible apply o_callM); rfl; kernel_rfl; (repeat (first | exact ArgsM.nil | ((with_reducible apply ArgsM.cons); rfl))); exact hG; exact hin; exact .nil _; intro y hy; refine al_app1 ?_) | with_reducible refine aw_seq ?_ | with_reducible refine aw_region ?_ | with_reducible refine al_nil ?_ | with_reducible refine aq_then ?_ | with_reducible refine aw_ret ?_)
  refine aq_retm1 (by exact .inr rfl) rfl y trivial rfl (.cons _ _ _ _ (.nil R)) (by (try dsimp only); (repeat (first | with_reducible exact Pick.refl _ | (apply Pick.consE; (repeat (with_reducible exact DelS.head _)); (with_reducible rfl)) | ((fail_if_success (apply Pick.consE)); refine Pick.drop ?_)))) (.cell _ _ _ _ _ rfl (by (repeat (first | with_reducible exact mh | with_reducible refine mt ?_))) (by kernel_rfl) (by kernel_rfl) (by kernel_rfl)) rfl
theorem toCodeS_own (hst : Stable G) (lo : Nat) (l : List TCode) (hb : l.length ≤ 1048576 ∧ ∀ y ∈ l, TCode.small 1048576 y) : CtM Tryz.prog G 36 [.sl lo 4 (l.map (TCode.tw lo))] [] (fun y : (Nat × Nat) × List (Nat × Nat) => y.2.length = l.length) (fun y => (y.1.1, y.1.2, .row 4 (nR codMk l y.2)) :: nO codOb l y.2) (fun y => .ms y.1.1 y.1.2 0 l.length) := by
  refine ctm_enter Tryz.func36 rfl Tryz.ntmps36 rfl rfl rfl fun w0 R gs objsR hG hR => ?_
  obtain rfl := hR.inv0
  clear hR
  have hlen := TCode.len lo l
  have hl1 := hb.1
  have h0 : List.replicate l.length TCode.tz = nR codMk (l.take 0) [] ++ List.replicate (l.length - 0) TCode.tz := by simp [nR]
  repeat' (first | with_reducible refine al_none rfl ?_ | ((with_reducible first | apply o_move | apply o_assign); rfl; rfl) | ((with_reducible apply o_len_sl); rfl; rfl; kernel_rfl; (exact List.length_map _)) | ((with_reducible apply o_make); rfl; rfl; rfl; ((with_reducible exact rfl)); kernel_rfl; kernel_rfl; rfl; rfl; kernel_rfl; omega; intro ss bb) | with_reducible refine aw_seq ?_ | with_reducible refine aw_region ?_ | with_reducible refine al_nil ?_ | with_reducible refine aq_then ?_ | with_reducible refine aw_block ?_)
  generalize ss = so; generalize bb = bo
  apply aw_loopk (X := Nat × List (Nat × Nat)) [0, 3, 1000000] (fun x => [(4, .int .i64 (x.1 : Int))]) (fun x => (so, bo, .row 4 (nR codMk (l.take x.1) x.2 ++ List.replicate (l.length - x.1) TCode.tz)) :: (nO codOb (l.take x.1) x.2 ++ R)) (fun x => x.1 ≤ l.length ∧ x.2.length = x.1) (fun x => l.length - x.1) (0, []) ⟨Nat.zero_le _, rfl⟩
  (repeat (first | exact Kept.nil | (apply Kept.cons; rfl))); (repeat (first | exact Weak.envNil | refine Weak.envCons (by rfl) ?_))
  · rw [← h0]; exact .refl _
  rintro ⟨i, ps⟩ ⟨hi, hps⟩
  dsimp only at hi hps ⊢
  by_cases hlt : i < l.length
  · have hrs := fun p => nR_set codMk TCode.tz hlt hps p
    have hos := fun p => nO_snoc codOb hlt hps p
    have hra : (l.map (TCode.tw lo))[i]? = some (l[i].tw lo) := row_map hlt
    have hbi := hb.2 _ (List.getElem_mem hlt)
    generalize l[i] = x at hrs hos hra hbi
    have hct := toCode_own hst lo x hbi
    rw [show x.tw lo = [.bool x.block, .int .i64 x.params, .int .i64 x.slots, .sl lo 4 (x.instrs.map (TInstr.tw lo))] from rfl] at hra
    have hrow : (nR codMk (l.take i) ps ++ List.replicate (l.length - i) TCode.tz)[i]? = some [.bool false, .int .i64 0, .int .i64 0, .nils] := (hrs (0, 0)).1
    generalize nO codOb (l.take i) ps = T at hos ⊢
    repeat' (first | with_reducible refine al_none rfl ?_ | ((with_reducible first | apply o_move | apply o_assign); rfl; rfl) | ((with_reducible apply o_indexAddr); rfl; rfl; rfl; kernel_rfl; kernel_rfl; kernel_rfl; rfl; ((with_reducible exact rfl)); ((with_reducible assumption))) | ((with_reducible apply o_indexAddr_ms); rfl; rfl; rfl; (repeat (first | with_reducible exact mh | with_reducible refine mt ?_)); kernel_rfl; kernel_rfl; kernel_rfl; ((with_reducible exact rfl)); (assumption); (with_reducible exact Nat.zero_add _)) | ((with_reducible apply o_len_sl); rfl; rfl; kernel_rfl; (exact List.length_map _)) | ((with_reducible apply o_lss); rfl; rfl; rfl) | ((with_reducible apply o_add); rfl; rfl; rfl; (((with_reducible refine w_n1 ?_); omega))) | ((with_reducible apply o_load_agg_cp); rfl; rfl; kernel_rfl; kernel_rfl; kernel_rfl; rfl; (exact .succ _ _ _ _ (.succ _ _ _ _ (.succ _ _ _ _ (.succ _ _ _ _ (.zero _)))))) | ((with_reducible apply o_callM); rfl; kernel_rfl; (repeat (first | exact ArgsM.nil | ((with_reducible apply ArgsM.cons); rfl))); exact hG; exact hct; exact .nil _; intro y hy; refine al_app1 ?_) | ((with_reducible apply o_store_me); rfl; rfl; rfl; kernel_rfl; (repeat (first | with_reducible exact mh | with_reducible refine mt ?_)); ((with_reducible assumption)); ((repeat (first | exact .nil _ | apply Splice.put))); kernel_rfl; rfl; (repeat (first | with_reducible exact Upd.head _ | with_reducible apply Upd.tail))) | with_reducible refine aw_seq ?_ | with_reducible refine aw_region ?_ | with_reducible refine al_nil ?_ | with_reducible refine aq_then ?_ | with_reducible refine aw_block ?_ | with_reducible refine aw_skip ?_ | with_reducible refine aq_block ?_ | (refine aw_cond_dt rfl (by with_reducible rfl) (by first | assumption | omega) ?_))
    refine aq_round (i + 1, ps ++ [y]) ⟨by dsimp only; omega, by dsimp only; simp [hps]⟩ (by dsimp only; omega) (.of _ (by repeat (first | exact Weak.envNil | refine Weak.envCons (by rfl) ?_)) (by repeat (first | exact Weak.envNil | refine Weak.envCons rfl ?_)) ?_)
    dsimp only
    rw [hos y, ← (hrs y).2]
    exact pick_snoc _ _ T R
  · obtain rfl : i = l.length := by omega
    rw [List.take_of_length_le (Nat.le_refl _), Nat.sub_self, List.replicate_zero, List.append_nil]
    repeat' (first | with_reducible refine al_none rfl ?_ | ((with_reducible first | apply o_move | apply o_assign); rfl; rfl) | ((with_reducible apply o_len_sl); rfl; rfl; kernel_rfl; (exact List.length_map _)) | ((with_reducible apply o_lss); rfl; rfl; rfl) | with_reducible refine aw_seq ?_ | with_reducible refine aw_region ?_ | with_reducible refine al_nil ?_ | with_reducible refine aq_then ?_ | with_reducible refine aw_exit ?_ | with_reducible refine aw_ret ?_ | with_reducible refine aq_block_hit ?_ | with_reducible refine aq_then_exit ?_ | (refine aw_cond_df rfl (by with_reducible rfl) (by first | assumption | omega) ?_))
    exact aq_retm1 (by exact .inr rfl) rfl ((so, bo), ps) hps rfl (.cons _ _ _ _ (.app _ R)) (.refl _) (.tmp _ _ rfl) rfl
end
end Go.Proofs.YtfchjaoeogolnaaGreatDoor
/- The law's own text for a mark. -/
namespace Go.Proofs.YtfchjaoeogolnaaGreatDoor
open Go Go.RowKit
/-- A mark's text. -/
def markB (n : Int) : ByteArray := ⟨(109 :: Lib.itoa n).toArray⟩
set_option maxHeartbeats 400000 in
set_option maxRecDepth 8000 in
theorem markText_any (n : Int) (w : World) (h0 : 0 ≤ n) (h1 : n ≤ 9000000000000000000) : Calls Tryz.prog 46 #[.int .i64 n] w fun e w' => e = .returned (.string (markB n)) ∧ Below w.heap.size w w' := by
  by_cases hz : n = 0
  · subst hz
    go_enter Tryz.func46, Tryz.ntmps46
    go_wp2
    go_ret
    exact ⟨ret_str (by decide +kernel), Below.refl _ _⟩
  have Hlen := Lib.hid (pre_length (u := n.natAbs) (by omega))
  have HP := Lib.hid (numB_pre hz)
  have hpos : 0 < n := by omega
  have hle : ¬ n ≤ 0 := by omega
  go_enter Tryz.func46, Tryz.ntmps46
  go_wp2
  go_loopw [0, 3] (fun nv ov wr => ∃ (m : Nat) (s : ByteArray), nv = .int .i64 (m : Int) ∧ ov = .string s ∧ m ≤ 9000000000000000000 ∧ pre m ++ s.data.toList = pre n.natAbs ∧ Below w.heap.size w wr) (fun nv _ _ => (intOf nv).natAbs)
  case atStart => exact ⟨n.natAbs, _, by rw [show ((n.natAbs : Nat) : Int) = n by omega], rfl, by omega, by simp, Below.refl _ _⟩
  case round =>
    obtain ⟨m, s, rfl, rfl, hm1, hr, hb⟩ := hrel
    have hsz : s.size ≤ 19 := by
      have := congrArg List.length hr
      rw [List.length_append, size_toList] at this
      have := Hlen.out
      omega
    have Hr := Lib.hid hr
    clear hr
    by_cases hm : m = 0
    · subst hm
      go_wp2
      go_ret
      refine ⟨ret_str ?_, hb⟩
      have h2 := Hr.out
      rw [show pre 0 = [] from rfl, List.nil_append] at h2
      refine bytes_eq ?_
      rw [ByteArray.data_append, Array.toList_append, h2]
      have h3 := HP.out
      rw [if_neg (by omega)] at h3
      have h4 : Lib.itoa n = pre n.natAbs := congrArg (fun b : ByteArray => b.data.toList) h3
      show _ = 109 :: Lib.itoa n
      rw [h4]; rfl
    · have hd9 : m % 10 ≤ 9 := by omega
      have hp := pre_step (u := m) hm
      generalize hd : m % 10 = d at hd9 hp
      have hdi : (m : Int) % 10 = (d : Int) := by omega
      have hdq : ((m / 10 : Nat) : Int) = (m : Int) / 10 := by omega
      obtain ⟨b, hbd⟩ : ∃ b, UInt8.ofNat (48 + d) = b := ⟨_, rfl⟩
      rw [hbd] at hp
      have Hp := Lib.hid hp
      have hcv := conv_one 127 5 wr (48 + d) (by omega) (48 + (d : Int)) (by omega) Tryz.underlying127 Tryz.underlying5
      rw [hbd] at hcv
      have Hdq := Lib.hid hdq
      clear hp hd hbd hdq
      have hnext : pre (m / 10) ++ ((⟨#[b]⟩ : ByteArray) ++ s).data.toList = pre n.natAbs := by
        rw [← Hr.out, Hp.out, ByteArray.data_append, Array.toList_append, List.append_assoc]
      have Hn := Lib.hid hnext
      clear hnext
      have hbel : ∀ o, Below w.heap.size w (wr.alloc o) := fun o => hb.trans (((Below.refl _ _).alloc (Nat.le_refl _) o).mono hb.size)
      have hm0 : (0 : Int) < (m : Int) := by omega
      clear hb
      go_wp2
      go_roundw
      case rel => exact ⟨m / 10, _, by rw [Hdq.out], rfl, by omega, Hn.out, hbel _⟩
      case measure => simp [intOf]; omega

theorem markText_ct {G : World → Prop} (n : Int) (h0 : 0 ≤ n) (h1 : n ≤ 9000000000000000000) : Ct Tryz.prog G 46 [.int .i64 n] (fun _ => .str (markB n)) := ct_int_str fun w _ => markText_any n w h0 h1
end Go.Proofs.YtfchjaoeogolnaaGreatDoor
