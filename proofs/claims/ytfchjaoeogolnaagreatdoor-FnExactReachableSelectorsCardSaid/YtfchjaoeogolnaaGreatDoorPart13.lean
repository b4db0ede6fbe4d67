/- Part 13 of the proof: the texts IvK, IvN. -/
import Derived.Test.YtfchjaoeogolnaaGreatDoorPart12
import Derived.Test.YtfchjaoeogolnaaGreatDoorPart9
import Derived.Test.YtfchjaoeogolnaaGreatDoorPart10
/- IsVerified: the codes around each code, on the side of the program (outers). -/
namespace Go.Proofs.YtfchjaoeogolnaaGreatDoor
open Go Go.RowKit
section
variable {G : World → Prop}
set_option maxRecDepth 4000 in
set_option maxHeartbeats 4000000 in
theorem outers_ct (hst : Stable G) (lo : Nat) (ccl cen : TV) (cs : List TCode) (mn : Int) (hne : 1 ≤ cs.length) (hcs : cs.length ≤ 1048576 ∧ ∀ y ∈ cs, TCode.small 1048576 y) :
    Ct Tryz.prog G 81 [.agg [ccl, .sl lo 4 (cs.map (TCode.tw lo)), cen, .int .i64 mn]] (outR cs) := by
  refine ct_enter Tryz.func81 rfl Tryz.ntmps81 rfl rfl fun w0 _ hG => ?_
  have hl2 := TCode.len lo cs
  have hcl := hcs.1
  have hrep := fun lo => repeat_ct (G := G) lo cs.length hne hcl
  repeat' (first | with_reducible refine al_none rfl ?_ | ((with_reducible apply o_assign); rfl; rfl) | ((with_reducible apply o_load_cp); rfl; rfl; kernel_rfl; rfl; rfl) | ((with_reducible apply o_fieldAddr); rfl; rfl; kernel_rfl; rfl) | ((with_reducible apply o_len_sl); rfl; rfl; kernel_rfl; (exact List.length_map _)) | ((with_reducible apply o_box); rfl; rfl; rfl) | ((with_reducible apply o_lit); rfl; rfl; kernel_rfl; kernel_rfl; rfl; kernel_rfl; rfl; rfl; rfl; rfl) | ((with_reducible apply o_callM); rfl; kernel_rfl; (repeat (first | exact ArgsM.nil | ((with_reducible apply ArgsM.cons); rfl))); exact hG; exact hrep _; exact .nil _; intro y _; obtain ⟨ss, bb⟩ := y; refine al_app1 ?_) | with_reducible refine aw_hold_r (id := 2) ?_ | with_reducible refine aw_seq ?_ | with_reducible refine aw_region ?_ | with_reducible refine al_nil ?_ | with_reducible refine aq_then ?_)
  refine ⟨?_⟩
  generalize ss = sd; generalize bb = bd
  have hst0 : outFrom cs 0 (List.replicate cs.length (-1)) = outersL cs := rfl
  have hin0 := outInv_zero cs.length
  unfold outR
  generalize outersL cs = R at hst0
  generalize List.replicate cs.length (-1 : Int) = o0 at hst0 hin0
  repeat' (first | with_reducible refine al_none rfl ?_ | ((with_reducible apply o_move); rfl; rfl) | ((with_reducible apply o_load_cp); rfl; rfl; kernel_rfl; rfl; rfl) | ((with_reducible apply o_fieldAddr); rfl; rfl; kernel_rfl; rfl) | ((with_reducible apply o_len_sl); rfl; rfl; kernel_rfl; (exact List.length_map _)) | with_reducible refine aw_seq ?_ | with_reducible refine aw_region ?_ | with_reducible refine al_nil ?_ | with_reducible refine aq_then ?_ | with_reducible refine aw_block ?_)
  apply aw_loopk (X := Nat × List Int) [1, 4, 17, 18] (fun x => [(19, .int .i64 (x.1 : Int))]) (fun x => [(sd, bd, .row 1 (intR x.2))]) (fun x => x.1 ≤ cs.length ∧ outInv cs.length x.2 ∧ outFrom cs x.1 x.2 = R) (fun x => cs.length - x.1) (0, o0) ⟨Nat.zero_le _, hin0, hst0⟩
  (repeat (first | exact Kept.nil | (apply Kept.cons; rfl))); (repeat (first | exact Weak.envNil | refine Weak.envCons (by rfl) ?_))
  · exact .refl _
  clear hin0 hst0
  rintro ⟨i, o⟩ ⟨hi, hin, hR⟩
  dsimp only at hi hin hR ⊢
  have hol : (intR o).length = cs.length := by rw [intR_length]; exact hin.1
  by_cases hlt : i < cs.length
  · have hra := tcode_row (lo := lo) hlt
    have hsm := hcs.2 _ (List.getElem_mem hlt)
    rw [outFrom_step hlt] at hR
    generalize cs[i] = c at hra hsm hR
    obtain ⟨cb, cp, csl, is⟩ := c
    dsimp only at hra hR
    have hil := TInstr.len lo is
    have hisl : is.length ≤ 1048576 := hsm.1
    repeat' (first | with_reducible refine al_none rfl ?_ | ((with_reducible first | apply o_move | apply o_assign); rfl; rfl) | ((with_reducible apply o_load_mp); rfl; rfl; kernel_rfl; rfl; (repeat (with_reducible exact mh)); rfl) | ((with_reducible apply o_fieldAddr); rfl; rfl; kernel_rfl; rfl) | ((with_reducible apply o_indexAddr); rfl; rfl; rfl; kernel_rfl; kernel_rfl; kernel_rfl; rfl; ((with_reducible exact rfl)); ((with_reducible assumption))) | ((with_reducible apply o_len_sl); rfl; rfl; kernel_rfl; (exact List.length_map _)) | ((with_reducible apply o_lss); rfl; rfl; rfl) | ((with_reducible apply o_load_agg_cp); rfl; rfl; kernel_rfl; kernel_rfl; kernel_rfl; rfl; (exact .succ _ _ _ _ (.succ _ _ _ _ (.succ _ _ _ _ (.succ _ _ _ _ (.zero _)))))) | ((with_reducible apply o_alloc); rfl; rfl; kernel_rfl; intro ss bb) | ((with_reducible apply o_store_mp); rfl; rfl; rfl; kernel_rfl; (repeat (with_reducible exact mh)); ((repeat (first | exact .nil _ | apply Splice.put))); (repeat (with_reducible exact Upd.head _)); kernel_rfl) | with_reducible refine aw_seq ?_ | with_reducible refine aw_region ?_ | with_reducible refine al_nil ?_ | with_reducible refine aq_then ?_ | with_reducible refine aw_block ?_ | with_reducible refine aw_skip ?_ | (refine aw_cond_dt rfl (by with_reducible rfl) (by first | assumption | omega) ?_))
    apply aw_loopk (X := Nat × List Int) [1, 4, 5, 17, 18, 19, 25, 26] (fun x => [(27, .int .i64 (x.1 : Int))]) (fun x => [(sd, bd, .row 1 (intR x.2))]) (fun x => x.1 ≤ is.length ∧ outInv cs.length x.2 ∧ outRest cs i (is.drop x.1) x.2 = R) (fun x => is.length - x.1) (0, o) ⟨Nat.zero_le _, hin, hR⟩
    (repeat (first | exact Kept.nil | (apply Kept.cons; rfl))); (repeat (first | exact Weak.envNil | refine Weak.envCons (by rfl) ?_))
    · exact (by (try dsimp only); (repeat (first | with_reducible exact Pick.nil _ | (apply Pick.consE; (repeat (first | with_reducible exact DelS.head _ | with_reducible apply DelS.tail)); (with_reducible rfl)))))
    clear hin hR hol
    rintro ⟨k, o⟩ ⟨hk, hin, hR⟩
    dsimp only at hk hin hR ⊢
    have hol : (intR o).length = cs.length := by rw [intR_length]; exact hin.1
    by_cases hlk : k < is.length
    · have hrk := tinstr_row (lo := lo) hlk
      rw [outRest_step hlk] at hR
      generalize is[k] = x at hrk hR
      obtain ⟨op, a, b, t⟩ := x
      unfold outI at hR
      dsimp only at hrk hR
      by_cases h15 : op = 15
      · rw [if_pos h15] at hR
        have h15' : ¬ op ≠ 15 := fun h => h h15
        by_cases hin2 : 0 ≤ a ∧ a ≤ (i : Int) - 1
        · have cin := within_ct (G := G) a 0 ((i - 1 : Nat) : Int)
          rw [inR_t (by omega)] at cin
          obtain ⟨q, rfl⟩ : ∃ q : Nat, a = q := ⟨a.toNat, by omega⟩
          have hql : q < o.length := by rw [hin.1]; omega
          have hrq := intR_gd hql
          have hqc : q < cs.length := by omega
          have hrc := tcode_row (lo := lo) hqc
          have hblk := fun o' k' hp hinv => outRest_noblock (cs := cs) (i := i) (k := k') (is := is) (o := o') (a := q) hlt hinv hqc hp
          generalize cs[q] = y at hrc hblk
          obtain ⟨yb, yp, ysl, yi⟩ := y
          dsimp only at hrc hblk
          by_cases hg : 0 ≤ gd o (q : Int)
          · rw [if_neg fun h => h.2 hg] at hR
            cases yb
            all_goals
              repeat' (first | with_reducible refine al_none rfl ?_ | ((with_reducible first | apply o_move | apply o_assign); rfl; rfl) | ((with_reducible apply o_pick_t); rfl; rfl; (with_reducible rfl); rfl) | ((with_reducible apply o_pick_f); rfl; rfl; (with_reducible rfl); rfl) | ((with_reducible apply o_load_me); rfl; rfl; kernel_rfl; rfl; (repeat (first | with_reducible exact mh | with_reducible refine mt ?_)); ((with_reducible assumption)); rfl) | ((with_reducible apply o_load_cp); rfl; rfl; kernel_rfl; rfl; rfl) | ((with_reducible apply o_load_mp); rfl; rfl; kernel_rfl; rfl; (repeat (with_reducible exact mh)); rfl) | ((with_reducible apply o_fieldAddr); rfl; rfl; kernel_rfl; rfl) | ((with_reducible apply o_indexAddr); rfl; rfl; rfl; kernel_rfl; kernel_rfl; kernel_rfl; rfl; ((with_reducible exact rfl)); ((with_reducible assumption))) | ((with_reducible apply o_indexAddr_ms); rfl; rfl; rfl; (repeat (first | with_reducible exact mh | with_reducible refine mt ?_)); kernel_rfl; kernel_rfl; kernel_rfl; ((with_reducible exact rfl)); (assumption); (with_reducible exact Nat.zero_add _)) | ((with_reducible first | apply o_neq | apply o_lss | apply o_geq); rfl; rfl; rfl) | ((with_reducible apply o_sub); rfl; rfl; rfl; (((with_reducible refine w_nm1 ?_); omega))) | ((with_reducible apply o_not_t); rfl; rfl; (with_reducible rfl)) | ((with_reducible apply o_not_f); rfl; rfl; (with_reducible rfl)) | ((with_reducible apply o_load_agg_cp); rfl; rfl; kernel_rfl; kernel_rfl; kernel_rfl; rfl; (exact .succ _ _ _ _ (.succ _ _ _ _ (.succ _ _ _ _ (.succ _ _ _ _ (.zero _)))))) | ((with_reducible apply o_alloc); rfl; rfl; kernel_rfl; intro ss bb) | ((with_reducible apply o_store_mp); rfl; rfl; rfl; kernel_rfl; (repeat (with_reducible exact mh)); ((repeat (first | exact .nil _ | apply Splice.put))); (repeat (with_reducible exact Upd.head _)); kernel_rfl) | ((with_reducible apply o_call); rfl; kernel_rfl; (repeat (first | exact Args.nil | ((with_reducible apply Args.cons); rfl; exact .same _))); exact hG; exact hst; exact cin) | with_reducible refine aw_seq ?_ | with_reducible refine aw_region ?_ | with_reducible refine al_nil ?_ | with_reducible refine aq_then ?_ | with_reducible refine aw_block ?_ | with_reducible refine aw_skip ?_ | with_reducible refine aw_ret ?_ | with_reducible refine aq_then_ret ?_ | with_reducible refine aq_block_ret ?_ | refine al_run rfl rfl rfl (by with_reducible rfl) ?_ | refine al_skip rfl rfl rfl (by with_reducible rfl) rfl rfl rfl ?_ | refine aw_cond_t rfl (by with_reducible rfl) ?_ | (refine aw_cond_dt rfl (by with_reducible rfl) (by first | assumption | omega) ?_) | (refine aw_cond_df rfl (by with_reducible rfl) (by assumption) ?_))
              refine aq_ret2 (by exact .inr rfl) rfl (.tmp _ _ rfl) (.tmp _ _ rfl) (fun _ => ?_) (fun _ => ?_)
              · exact fin_none hR.symm
              · exact fin_none_b hR.symm
          · rw [if_pos ⟨hin2, hg⟩, Int.toNat_natCast] at hR
            dsimp only at hR
            have hset := intR_set o q (i : Int)
            have hin3 := (outI_inv (n := cs.length) (i := i) (x := ⟨15, q, b, t⟩) (o := o) (o' := o.set q (i : Int)) hlt (by unfold outI; rw [if_pos rfl, if_pos ⟨hin2, hg⟩, Int.toNat_natCast]) hin).1
            cases yb
            case false =>
              have hno := hblk (o.set q (i : Int)) (k + 1) rfl hin3 (by rw [gd_set_eq hql]; omega)
              rw [hR] at hno
              repeat' (first | with_reducible refine al_none rfl ?_ | ((with_reducible first | apply o_move | apply o_assign); rfl; rfl) | ((with_reducible apply o_pick_t); rfl; rfl; (with_reducible rfl); rfl) | ((with_reducible apply o_pick_f); rfl; rfl; (with_reducible rfl); rfl) | ((with_reducible apply o_load_cp); rfl; rfl; kernel_rfl; rfl; rfl) | ((with_reducible apply o_load_mp); rfl; rfl; kernel_rfl; rfl; (repeat (with_reducible exact mh)); rfl) | ((with_reducible apply o_fieldAddr); rfl; rfl; kernel_rfl; rfl) | ((with_reducible apply o_indexAddr); rfl; rfl; rfl; kernel_rfl; kernel_rfl; kernel_rfl; rfl; ((with_reducible exact rfl)); ((with_reducible assumption))) | ((with_reducible first | apply o_neq | apply o_lss); rfl; rfl; rfl) | ((with_reducible apply o_sub); rfl; rfl; rfl; (((with_reducible refine w_nm1 ?_); omega))) | ((with_reducible apply o_not_t); rfl; rfl; (with_reducible rfl)) | ((with_reducible apply o_not_f); rfl; rfl; (with_reducible rfl)) | ((with_reducible apply o_load_agg_cp); rfl; rfl; kernel_rfl; kernel_rfl; kernel_rfl; rfl; (exact .succ _ _ _ _ (.succ _ _ _ _ (.succ _ _ _ _ (.succ _ _ _ _ (.zero _)))))) | ((with_reducible apply o_alloc); rfl; rfl; kernel_rfl; intro ss bb) | ((with_reducible apply o_store_mp); rfl; rfl; rfl; kernel_rfl; (repeat (with_reducible exact mh)); ((repeat (first | exact .nil _ | apply Splice.put))); (repeat (with_reducible exact Upd.head _)); kernel_rfl) | ((with_reducible apply o_call); rfl; kernel_rfl; (repeat (first | exact Args.nil | ((with_reducible apply Args.cons); rfl; exact .same _))); exact hG; exact hst; exact cin) | with_reducible refine aw_seq ?_ | with_reducible refine aw_region ?_ | with_reducible refine al_nil ?_ | with_reducible refine aq_then ?_ | with_reducible refine aw_block ?_ | with_reducible refine aw_skip ?_ | with_reducible refine aw_ret ?_ | with_reducible refine aq_then_ret ?_ | with_reducible refine aq_block_ret ?_ | refine al_run rfl rfl rfl (by with_reducible rfl) ?_ | refine al_skip rfl rfl rfl (by with_reducible rfl) rfl rfl rfl ?_ | refine aw_cond_t rfl (by with_reducible rfl) ?_ | (refine aw_cond_dt rfl (by with_reducible rfl) (by first | assumption | omega) ?_) | (refine aw_cond_df rfl (by with_reducible rfl) (by assumption) ?_))
              refine aq_ret2 (by exact .inr rfl) rfl (.tmp _ _ rfl) (.tmp _ _ rfl) (fun _ => ?_) (fun _ => ?_)
              · exact fin_none hno
              · exact fin_none_b hno
            repeat' (first | with_reducible refine al_none rfl ?_ | ((with_reducible apply o_move); rfl; rfl) | ((with_reducible apply o_pick_f); rfl; rfl; (with_reducible rfl); rfl) | ((with_reducible apply o_load_me); rfl; rfl; kernel_rfl; rfl; (repeat (first | with_reducible exact mh | with_reducible refine mt ?_)); ((with_reducible assumption)); rfl) | ((with_reducible apply o_load_cp); rfl; rfl; kernel_rfl; rfl; rfl) | ((with_reducible apply o_load_mp); rfl; rfl; kernel_rfl; rfl; (repeat (with_reducible exact mh)); rfl) | ((with_reducible apply o_fieldAddr); rfl; rfl; kernel_rfl; rfl) | ((with_reducible apply o_indexAddr); rfl; rfl; rfl; kernel_rfl; kernel_rfl; kernel_rfl; rfl; ((with_reducible exact rfl)); ((with_reducible assumption))) | ((with_reducible apply o_indexAddr_ms); rfl; rfl; rfl; (repeat (first | with_reducible exact mh | with_reducible refine mt ?_)); kernel_rfl; kernel_rfl; kernel_rfl; ((with_reducible exact rfl)); (assumption); (with_reducible exact Nat.zero_add _)) | ((with_reducible first | apply o_neq | apply o_lss | apply o_geq); rfl; rfl; rfl) | ((with_reducible first | apply o_add | apply o_sub); rfl; rfl; rfl; (((with_reducible first | refine w_n1 ?_ | refine w_nm1 ?_); omega))) | ((with_reducible apply o_not_t); rfl; rfl; (with_reducible rfl)) | ((with_reducible apply o_load_agg_cp); rfl; rfl; kernel_rfl; kernel_rfl; kernel_rfl; rfl; (exact .succ _ _ _ _ (.succ _ _ _ _ (.succ _ _ _ _ (.succ _ _ _ _ (.zero _)))))) | ((with_reducible apply o_alloc); rfl; rfl; kernel_rfl; intro ss bb) | ((with_reducible apply o_store_mp); rfl; rfl; rfl; kernel_rfl; (repeat (with_reducible exact mh)); ((repeat (first | exact .nil _ | apply Splice.put))); (repeat (with_reducible exact Upd.head _)); kernel_rfl) | ((with_reducible apply o_call); rfl; kernel_rfl; (repeat (first | exact Args.nil | ((with_reducible apply Args.cons); rfl; exact .same _))); exact hG; exact hst; exact cin) | ((with_reducible apply o_store_me); rfl; rfl; rfl; kernel_rfl; (repeat (first | with_reducible exact mh | with_reducible refine mt ?_)); ((with_reducible assumption)); (exact .put _ _ _ _ _ (.nil _)); kernel_rfl; rfl; (repeat (first | with_reducible exact Upd.head _ | with_reducible apply Upd.tail))) | with_reducible refine aw_seq ?_ | with_reducible refine aw_region ?_ | with_reducible refine al_nil ?_ | with_reducible refine aq_then ?_ | with_reducible refine aw_block ?_ | with_reducible refine aw_skip ?_ | with_reducible refine aq_block ?_ | refine al_run rfl rfl rfl (by with_reducible rfl) ?_ | (refine aw_cond_dt rfl (by with_reducible rfl) (by first | assumption | omega) ?_) | (refine aw_cond_df rfl (by with_reducible rfl) (by assumption) ?_))
            rw [hset]
            refine aq_round (k + 1, o.set q (i : Int)) ⟨by dsimp only; omega, hin3, hR⟩ (by dsimp only; omega) (.of _ (by repeat (first | exact Weak.envNil | refine Weak.envCons (by rfl) ?_)) (by repeat (first | exact Weak.envNil | refine Weak.envCons rfl ?_)) (by (try dsimp only); (repeat (first | with_reducible exact Pick.nil _ | (apply Pick.consE; (repeat (first | with_reducible exact DelS.head _ | with_reducible apply DelS.tail)); (with_reducible rfl))))))
        · have cin := within_ct (G := G) a 0 ((i : Int) - 1)
          have cin' := within_ct (G := G) a 0 ((i - 1 : Nat) : Int)
          rw [inR_f hin2] at cin
          rw [if_neg fun h => hin2 h.1] at hR
          repeat' (first | with_reducible refine al_none rfl ?_ | ((with_reducible first | apply o_move | apply o_assign); rfl; rfl) | ((with_reducible apply o_pick_t); rfl; rfl; (with_reducible rfl); rfl) | ((with_reducible apply o_load_mp); rfl; rfl; kernel_rfl; rfl; (repeat (with_reducible exact mh)); rfl) | ((with_reducible apply o_fieldAddr); rfl; rfl; kernel_rfl; rfl) | ((with_reducible apply o_indexAddr); rfl; rfl; rfl; kernel_rfl; kernel_rfl; kernel_rfl; rfl; ((with_reducible exact rfl)); ((with_reducible assumption))) | ((with_reducible first | apply o_neq | apply o_lss); rfl; rfl; rfl) | ((with_reducible apply o_sub); rfl; rfl; rfl; (((with_reducible refine IntWalk.i64_in _ ?_); omega))) | ((with_reducible apply o_not_f); rfl; rfl; (with_reducible rfl)) | ((with_reducible apply o_load_agg_cp); rfl; rfl; kernel_rfl; kernel_rfl; kernel_rfl; rfl; (exact .succ _ _ _ _ (.succ _ _ _ _ (.succ _ _ _ _ (.succ _ _ _ _ (.zero _)))))) | ((with_reducible apply o_alloc); rfl; rfl; kernel_rfl; intro ss bb) | ((with_reducible apply o_store_mp); rfl; rfl; rfl; kernel_rfl; (repeat (with_reducible exact mh)); ((repeat (first | exact .nil _ | apply Splice.put))); (repeat (with_reducible exact Upd.head _)); kernel_rfl) | ((with_reducible apply o_call); rfl; kernel_rfl; (repeat (first | exact Args.nil | ((with_reducible apply Args.cons); rfl; exact .same _))); exact hG; exact hst; exact cin) | with_reducible refine aw_seq ?_ | with_reducible refine aw_region ?_ | with_reducible refine al_nil ?_ | with_reducible refine aq_then ?_ | with_reducible refine aw_block ?_ | with_reducible refine aw_skip ?_ | with_reducible refine aw_ret ?_ | with_reducible refine aq_then_ret ?_ | with_reducible refine aq_block_ret ?_ | refine al_skip rfl rfl rfl (by with_reducible rfl) rfl rfl rfl ?_ | refine aw_cond_t rfl (by with_reducible rfl) ?_ | (refine aw_cond_dt rfl (by with_reducible rfl) (by first | assumption | omega) ?_) | (refine aw_cond_df rfl (by with_reducible rfl) (by assumption) ?_))
          refine aq_ret2 (by exact .inr rfl) rfl (.tmp _ _ rfl) (.tmp _ _ rfl) (fun _ => ?_) (fun _ => ?_)
          · exact fin_none hR.symm
          · exact fin_none_b hR.symm
      · rw [if_neg h15] at hR
        dsimp only at hR
        repeat' (first | with_reducible refine al_none rfl ?_ | ((with_reducible apply o_move); rfl; rfl) | ((with_reducible apply o_load_mp); rfl; rfl; kernel_rfl; rfl; (repeat (with_reducible exact mh)); rfl) | ((with_reducible apply o_fieldAddr); rfl; rfl; kernel_rfl; rfl) | ((with_reducible apply o_indexAddr); rfl; rfl; rfl; kernel_rfl; kernel_rfl; kernel_rfl; rfl; ((with_reducible exact rfl)); ((with_reducible assumption))) | ((with_reducible first | apply o_neq | apply o_lss); rfl; rfl; rfl) | ((with_reducible apply o_add); rfl; rfl; rfl; (((with_reducible refine w_n1 ?_); omega))) | ((with_reducible apply o_load_agg_cp); rfl; rfl; kernel_rfl; kernel_rfl; kernel_rfl; rfl; (exact .succ _ _ _ _ (.succ _ _ _ _ (.succ _ _ _ _ (.succ _ _ _ _ (.zero _)))))) | ((with_reducible apply o_alloc); rfl; rfl; kernel_rfl; intro ss bb) | ((with_reducible apply o_store_mp); rfl; rfl; rfl; kernel_rfl; (repeat (with_reducible exact mh)); ((repeat (first | exact .nil _ | apply Splice.put))); (repeat (with_reducible exact Upd.head _)); kernel_rfl) | with_reducible refine aw_seq ?_ | with_reducible refine aw_region ?_ | with_reducible refine al_nil ?_ | with_reducible refine aq_then ?_ | with_reducible refine aw_block ?_ | with_reducible refine aw_exit ?_ | with_reducible refine aw_skip ?_ | with_reducible refine aq_block_hit ?_ | with_reducible refine aq_then_exit ?_ | (refine aw_cond_dt rfl (by with_reducible rfl) (by first | assumption | omega) ?_))
        refine aq_round (k + 1, o) ⟨by dsimp only; omega, hin, hR⟩ (by dsimp only; omega) (.of _ (by repeat (first | exact Weak.envNil | refine Weak.envCons (by rfl) ?_)) (by repeat (first | exact Weak.envNil | refine Weak.envCons rfl ?_)) (by (try dsimp only); (repeat (first | with_reducible exact Pick.nil _ | (apply Pick.consE; (repeat (first | with_reducible exact DelS.head _ | with_reducible apply DelS.tail)); (with_reducible rfl))))))
    · rw [outRest_end hlk] at hR
      repeat' (first | with_reducible refine al_none rfl ?_ | ((with_reducible apply o_move); rfl; rfl) | ((with_reducible apply o_lss); rfl; rfl; rfl) | ((with_reducible apply o_add); rfl; rfl; rfl; (((with_reducible refine w_n1 ?_); omega))) | with_reducible refine aw_seq ?_ | with_reducible refine aw_region ?_ | with_reducible refine al_nil ?_ | with_reducible refine aq_then ?_ | with_reducible refine aw_exit ?_ | with_reducible refine aq_block_hit ?_ | with_reducible refine aq_then_exit ?_ | with_reducible refine aq_block ?_ | (refine aw_cond_df rfl (by with_reducible rfl) (by first | assumption | omega) ?_))
      refine aq_round (i + 1, o) ⟨by dsimp only; omega, hin, hR⟩ (by dsimp only; omega) (.of _ (by repeat (first | exact Weak.envNil | refine Weak.envCons (by rfl) ?_)) (by repeat (first | exact Weak.envNil | refine Weak.envCons rfl ?_)) (by (try dsimp only); (repeat (with_reducible exact Pick.refl _))))
  · rw [outFrom_end hlt] at hR
    repeat' (first | with_reducible refine al_none rfl ?_ | ((with_reducible apply o_move); rfl; rfl) | ((with_reducible apply o_load_cp); rfl; rfl; kernel_rfl; rfl; rfl) | ((with_reducible apply o_fieldAddr); rfl; rfl; kernel_rfl; rfl) | ((with_reducible apply o_len_sl); rfl; rfl; kernel_rfl; (exact List.length_map _)) | ((with_reducible apply o_lss); rfl; rfl; rfl) | with_reducible refine aw_seq ?_ | with_reducible refine aw_region ?_ | with_reducible refine al_nil ?_ | with_reducible refine aq_then ?_ | with_reducible refine aw_block ?_ | with_reducible refine aw_exit ?_ | with_reducible refine aq_block_hit ?_ | with_reducible refine aq_then_exit ?_ | (refine aw_cond_df rfl (by with_reducible rfl) (by first | assumption | omega) ?_))
    apply aw_loopk (X := Nat) [1, 4, 66, 67] (fun j => [(68, .int .i64 (j : Int))]) (fun _ => [(sd, bd, .row 1 (intR o))]) (fun j => j ≤ cs.length ∧ ∀ q, q < j → ∀ h : q < cs.length, cs[q].block = decide (0 ≤ gd o (q : Int))) (fun j => cs.length - j) 0 ⟨Nat.zero_le _, by omega⟩
    (repeat (first | exact Kept.nil | (apply Kept.cons; rfl))); (repeat (first | exact Weak.envNil | refine Weak.envCons (by rfl) ?_))
    · exact .refl _
    rintro j ⟨hj, hja⟩
    try dsimp only
    by_cases hlj : j < cs.length
    · have hra := tcode_row (lo := lo) hlj
      have hrj := intR_gd (o := o) (j := j) (by rw [hin.1]; exact hlj)
      have hbad := outFin_bad (o := o) hlj
      have hnx : cs[j].block = decide (0 ≤ gd o (j : Int)) → ∀ q, q < j + 1 → ∀ h : q < cs.length, cs[q].block = decide (0 ≤ gd o (q : Int)) := fun ho => below_succ hja fun _ => ho
      generalize cs[j] = c at hra hbad hnx
      obtain ⟨cb, cp, csl, is⟩ := c
      dsimp only at hra hbad hnx
      generalize gd o (j : Int) = v at hrj hbad hnx
      by_cases hb : cb = decide (0 ≤ v)
      · repeat' (first | with_reducible refine al_none rfl ?_ | ((with_reducible first | apply o_move | apply o_assign); rfl; rfl) | ((with_reducible apply o_indexAddr); rfl; rfl; rfl; kernel_rfl; kernel_rfl; kernel_rfl; rfl; ((with_reducible exact rfl)); ((with_reducible assumption))) | ((with_reducible apply o_lss); rfl; rfl; rfl) | ((with_reducible apply o_add); rfl; rfl; rfl; (((with_reducible refine w_n1 ?_); omega))) | ((with_reducible apply o_load_agg_cp); rfl; rfl; kernel_rfl; kernel_rfl; kernel_rfl; rfl; (exact .succ _ _ _ _ (.succ _ _ _ _ (.succ _ _ _ _ (.succ _ _ _ _ (.zero _)))))) | ((with_reducible apply o_alloc); rfl; rfl; kernel_rfl; intro ss bb) | ((with_reducible apply o_store_mp); rfl; rfl; rfl; kernel_rfl; (repeat (with_reducible exact mh)); ((repeat (first | exact .nil _ | apply Splice.put))); (repeat (with_reducible exact Upd.head _)); kernel_rfl) | with_reducible refine aw_draw (by kernel_rfl) (by kernel_rfl) ?_ | with_reducible refine dr_nil ?_ | with_reducible refine dr_none rfl ?_ | ((with_reducible apply d_move); rfl; rfl) | ((with_reducible apply d_load_me); rfl; rfl; kernel_rfl; rfl; (repeat (first | with_reducible exact mh | with_reducible refine mt ?_)); ((with_reducible assumption)); rfl) | ((with_reducible apply d_load_mp); rfl; rfl; kernel_rfl; rfl; (repeat (with_reducible exact mh)); rfl) | ((with_reducible apply d_fieldAddr); rfl; rfl; kernel_rfl; rfl) | ((with_reducible apply d_indexAddr_ms); rfl; rfl; rfl; (repeat (first | with_reducible exact mh | with_reducible refine mt ?_)); kernel_rfl; kernel_rfl; kernel_rfl; ((with_reducible exact rfl)); (assumption); (with_reducible exact Nat.zero_add _)) | ((with_reducible first | apply d_neq | apply d_geq); rfl; rfl; rfl) | ((with_reducible apply d_neq_b); rfl; rfl; rfl; kernel_rfl) | with_reducible refine aw_seq ?_ | with_reducible refine aw_region ?_ | with_reducible refine al_nil ?_ | with_reducible refine aq_then ?_ | with_reducible refine aw_block ?_ | with_reducible refine aw_skip ?_ | with_reducible refine aw_ret ?_ | with_reducible refine aq_then_ret ?_ | with_reducible refine aq_block_ret ?_ | with_reducible refine aq_block ?_ | (refine aw_cond_dt rfl (by with_reducible rfl) (by first | assumption | omega) ?_) | (refine aw_cond_b rfl (by with_reducible rfl) (fun hc => ?_) (fun hc => ?_)))
        all_goals first
          | exact aq_round (j + 1) ⟨by omega, hnx hb⟩ (by omega) (.of _ (by repeat (first | exact Weak.envNil | refine Weak.envCons (by rfl) ?_)) (by repeat (first | exact Weak.envNil | refine Weak.envCons rfl ?_)) (by (try dsimp only); (repeat (first | with_reducible exact Pick.nil _ | (apply Pick.consE; (repeat (first | with_reducible exact DelS.head _ | with_reducible apply DelS.tail)); (with_reducible rfl))))))
          | (exfalso; simp_all; done)
      · rw [hbad hb] at hR
        repeat' (first | with_reducible refine al_none rfl ?_ | ((with_reducible first | apply o_move | apply o_assign); rfl; rfl) | ((with_reducible apply o_indexAddr); rfl; rfl; rfl; kernel_rfl; kernel_rfl; kernel_rfl; rfl; ((with_reducible exact rfl)); ((with_reducible assumption))) | ((with_reducible apply o_lss); rfl; rfl; rfl) | ((with_reducible apply o_add); rfl; rfl; rfl; (((with_reducible refine w_n1 ?_); omega))) | ((with_reducible apply o_load_agg_cp); rfl; rfl; kernel_rfl; kernel_rfl; kernel_rfl; rfl; (exact .succ _ _ _ _ (.succ _ _ _ _ (.succ _ _ _ _ (.succ _ _ _ _ (.zero _)))))) | ((with_reducible apply o_alloc); rfl; rfl; kernel_rfl; intro ss bb) | ((with_reducible apply o_store_mp); rfl; rfl; rfl; kernel_rfl; (repeat (with_reducible exact mh)); ((repeat (first | exact .nil _ | apply Splice.put))); (repeat (with_reducible exact Upd.head _)); kernel_rfl) | with_reducible refine aw_draw (by kernel_rfl) (by kernel_rfl) ?_ | with_reducible refine dr_nil ?_ | with_reducible refine dr_none rfl ?_ | ((with_reducible apply d_move); rfl; rfl) | ((with_reducible apply d_load_me); rfl; rfl; kernel_rfl; rfl; (repeat (first | with_reducible exact mh | with_reducible refine mt ?_)); ((with_reducible assumption)); rfl) | ((with_reducible apply d_load_mp); rfl; rfl; kernel_rfl; rfl; (repeat (with_reducible exact mh)); rfl) | ((with_reducible apply d_fieldAddr); rfl; rfl; kernel_rfl; rfl) | ((with_reducible apply d_indexAddr_ms); rfl; rfl; rfl; (repeat (first | with_reducible exact mh | with_reducible refine mt ?_)); kernel_rfl; kernel_rfl; kernel_rfl; ((with_reducible exact rfl)); (assumption); (with_reducible exact Nat.zero_add _)) | ((with_reducible first | apply d_neq | apply d_geq); rfl; rfl; rfl) | ((with_reducible apply d_neq_b); rfl; rfl; rfl; kernel_rfl) | with_reducible refine aw_seq ?_ | with_reducible refine aw_region ?_ | with_reducible refine al_nil ?_ | with_reducible refine aq_then ?_ | with_reducible refine aw_block ?_ | with_reducible refine aw_skip ?_ | with_reducible refine aw_ret ?_ | with_reducible refine aq_then_ret ?_ | with_reducible refine aq_block_ret ?_ | with_reducible refine aq_block ?_ | (refine aw_cond_dt rfl (by with_reducible rfl) (by first | assumption | omega) ?_) | (refine aw_cond_b rfl (by with_reducible rfl) (fun hc => ?_) (fun hc => ?_)))
        all_goals first
          | (exfalso; simp_all; done)
          | (refine aq_ret2 (by first | exact .inl rfl | exact .inr rfl) rfl (.tmp _ _ rfl) (.tmp _ _ rfl) (fun _ => ?_) (fun _ => ?_)
             · exact fin_none hR.symm
             · exact fin_none_b hR.symm)
    · rw [outFin_good fun q hq => hja q (by omega)] at hR
      repeat' (first | with_reducible refine al_none rfl ?_ | ((with_reducible first | apply o_move | apply o_assign); rfl; rfl) | ((with_reducible apply o_lss); rfl; rfl; rfl) | with_reducible refine aw_seq ?_ | with_reducible refine aw_region ?_ | with_reducible refine al_nil ?_ | with_reducible refine aq_then ?_ | with_reducible refine aw_exit ?_ | with_reducible refine aw_ret ?_ | with_reducible refine aq_block_hit ?_ | with_reducible refine aq_then_exit ?_ | (refine aw_cond_df rfl (by with_reducible rfl) (by first | assumption | omega) ?_))
      refine aq_ret2 (by exact .inr rfl) rfl (.tmp _ _ rfl) (.tmp _ _ rfl) (fun _ => ?_) (fun _ => ?_)
      · exact fin_some hR.symm hin.1 List.mem_cons_self
      · exact fin_some_b hR.symm
end
end Go.Proofs.YtfchjaoeogolnaaGreatDoor
/- IsVerified: an instruction, on the side of the program (instrOk and its two function literals). -/
namespace Go.Proofs.YtfchjaoeogolnaaGreatDoor
open Go Go.RowKit
section
variable {G : World → Prop}
theorem instrOk1_ct (hst : Stable G) (lo : Nat) (n : Int) (bl : Bool) (pr sl : Int) (is : List TInstr) (hn : is.length ≤ 1048576) : Ct Tryz.prog G 120 [.int .i64 n, .cp 0 [.bool bl, .int .i64 pr, .int .i64 sl, .sl lo 4 (is.map (TInstr.tw lo))]] (fun _ => .bool (inR n 0 ((is.length : Int) - 1))) := by
  refine ct_enter Tryz.func120 rfl Tryz.ntmps120 rfl rfl fun w0 _ hG => ?_
  have hil := TInstr.len lo is
  repeat' (first | with_reducible refine al_none rfl ?_ | ((with_reducible first | apply o_move | apply o_assign); rfl; rfl) | ((with_reducible apply o_load_cp); rfl; rfl; kernel_rfl; rfl; rfl) | ((with_reducible apply o_fieldAddr); rfl; rfl; kernel_rfl; rfl) | ((with_reducible apply o_len_sl); rfl; rfl; kernel_rfl; (exact List.length_map _)) | ((with_reducible apply o_sub); rfl; rfl; rfl; (((with_reducible refine IntWalk.i64_in _ ?_); omega))) | ((with_reducible apply o_call); rfl; kernel_rfl; (repeat (first | exact Args.nil | ((with_reducible apply Args.cons); rfl; exact .same _))); exact hG; exact hst; exact within_ct _ _ _) | with_reducible refine aw_seq ?_ | with_reducible refine aw_region ?_ | with_reducible refine al_nil ?_ | with_reducible refine aq_then ?_ | with_reducible refine aw_ret ?_)
  refine aq_ret1 (by exact .inr rfl) rfl (.tmp _ _ rfl) (fun _ => ?_)
  exact Fin.flat rfl
theorem instrOk2_ct (hst : Stable G) (n least : Int) (bl : Bool) (pr sl : Int) (t : TV) : Ct Tryz.prog G 121 [.int .i64 n, .agg [.bool bl, .int .i64 pr, .int .i64 sl, t], .int .i64 least] (fun _ => .bool (inR n least (IntKind.i64.wrap (sl - 1)))) := by
  refine ct_enter Tryz.func121 rfl Tryz.ntmps121 rfl rfl fun w0 _ hG => ?_
  repeat' (first | with_reducible refine al_none rfl ?_ | ((with_reducible first | apply o_move | apply o_assign); rfl; rfl) | ((with_reducible apply o_load_cp); rfl; rfl; kernel_rfl; rfl; rfl) | ((with_reducible apply o_fieldAddr); rfl; rfl; kernel_rfl; rfl) | ((with_reducible apply o_sub); rfl; rfl; rfl; (exact rfl)) | ((with_reducible apply o_box); rfl; rfl; rfl) | ((with_reducible apply o_call); rfl; kernel_rfl; (repeat (first | exact Args.nil | ((with_reducible apply Args.cons); rfl; exact .same _))); exact hG; exact hst; exact within_ct _ _ _) | with_reducible refine aw_seq ?_ | with_reducible refine aw_region ?_ | with_reducible refine al_nil ?_ | with_reducible refine aq_then ?_ | with_reducible refine aw_ret ?_)
  refine aq_ret1 (by exact .inr rfl) rfl (.tmp _ _ rfl) (fun _ => ?_)
  exact Fin.flat rfl
set_option maxRecDepth 8000 in
set_option maxHeartbeats 8000000 in
theorem instrOk_ct (hst : Stable G) (hse : ∀ s : ByteArray, s.size ≤ 1048576 → Ct Tryz.prog G 79 [.str s] (fun _ => .bool (isSelL s.data.toList)))
    (lo lo2 : Nat) (cl : List TClassInfo) (cen : TV) (cs : List TCode) (mn : Int) (hcl : cl.length ≤ 1048576) (hcs : cs.length ≤ 1048576 ∧ ∀ y ∈ cs, TCode.small 1048576 y) (o : List Int) (hinv : outInv cs.length o) (k : Nat) (own : TCode) (hk : cs[k]? = some own) (hsl : 0 ≤ own.slots ∧ own.slots ≤ 30)
    (x : TInstr) (hx : x.text.size ≤ 1048576) :
    Ct Tryz.prog G 82 [.agg [.sl lo 3 (cl.map (TClassInfo.tw lo)), .sl lo 4 (cs.map (TCode.tw lo)), cen, .int .i64 mn], .sl lo2 1 (intR o), .int .i64 (k : Int), .agg [.int .i64 x.op, .int .i64 x.a, .int .i64 x.b, .str x.text]] (fun _ => .bool (instrB cs cl.length o k own x)) := by
  obtain ⟨op, a, b, t⟩ := x
  dsimp only at hx ⊢
  refine ct_enter Tryz.func82 rfl Tryz.ntmps82 rfl rfl fun w0 _ hG => ?_
  have hl1 := TClassInfo.len lo cl
  have hl2 := TCode.len lo cs
  have hll := intR_length o
  have hkl : k < cs.length := (List.getElem?_eq_some_iff.1 hk).1
  have hrk : (cs.map (TCode.tw lo))[k]? = some [.bool own.block, .int .i64 own.params, .int .i64 own.slots, .sl lo 4 (own.instrs.map (TInstr.tw lo))] := by rw [List.getElem?_map, hk]; rfl
  have hil := TInstr.len lo own.instrs
  have hin : own.instrs.length ≤ 1048576 := (hcs.2 own (List.mem_of_getElem? hk)).1
  have hw : IntKind.i64.wrap (own.slots - 1) = own.slots - 1 := IntWalk.i64_in _ (by omega)
  repeat' (first | with_reducible refine al_none rfl ?_ | ((with_reducible first | apply o_move | apply o_assign); rfl; rfl) | ((with_reducible apply o_load_cp); rfl; rfl; kernel_rfl; rfl; rfl) | ((with_reducible apply o_fieldAddr); rfl; rfl; kernel_rfl; rfl) | ((with_reducible apply o_extract); rfl; rfl; rfl) | ((with_reducible apply o_box); rfl; rfl; rfl) | ((with_reducible apply o_call); rfl; kernel_rfl; (repeat (first | exact Args.nil | ((with_reducible apply Args.cons); rfl; exact .same _))); exact hG; exact hst; exact writes_ct _) | with_reducible refine aw_hold_r (id := 2) ?_ | with_reducible refine aw_seq ?_ | with_reducible refine aw_region ?_ | with_reducible refine al_nil ?_ | with_reducible refine aq_then ?_)
  refine ⟨aw_seq ?_⟩
  apply aw_join (X := Unit) [1, 2, 4, 7] (fun _ => [(54, .bool (!decide (instrHead ⟨op, a, b, t⟩)))]) (fun _ => []) (fun _ => True)
  case hk => (repeat (first | exact Kept.nil | (apply Kept.cons; rfl)))
  · clear hrk hk hinv hse hl1 hl2 hll hin hil
    repeat' (first | with_reducible refine al_none rfl ?_ | ((with_reducible apply o_move); rfl; rfl) | ((with_reducible apply o_pick_t); rfl; rfl; (with_reducible rfl); rfl) | ((with_reducible apply o_pick_f); rfl; rfl; (with_reducible rfl); rfl) | ((with_reducible apply o_load_cp); rfl; rfl; kernel_rfl; rfl; rfl) | ((with_reducible apply o_fieldAddr); rfl; rfl; kernel_rfl; rfl) | ((with_reducible apply o_neq); rfl; rfl; rfl) | ((with_reducible apply o_not_b); rfl; rfl; (with_reducible rfl)) | ((with_reducible apply o_neq_s); rfl; rfl; rfl) | ((with_reducible apply o_call); rfl; kernel_rfl; (repeat (first | exact Args.nil | ((with_reducible apply Args.cons); rfl; exact .same _))); exact hG; exact hst; exact within_ct _ _ _) | with_reducible refine aw_region ?_ | with_reducible refine al_nil ?_ | refine al_run rfl rfl rfl (by with_reducible rfl) ?_ | refine al_skip rfl rfl rfl (by with_reducible rfl) rfl rfl rfl ?_ | refine al_skip2 rfl rfl rfl (by with_reducible rfl) rfl rfl ?_ | (refine al_gsplit rfl rfl rfl (by with_reducible rfl) (fun hg => ?_) (fun hg => ?_)) | (refine al_gsplit_b rfl rfl rfl (by with_reducible rfl) (fun hg => ?_) (fun hg => ?_)))
    all_goals
      refine aq_mid () trivial (.of _ (Weak.envCons (lk_bool rfl ?_) Weak.envNil) (by repeat (first | exact Weak.envNil | refine Weak.envCons rfl ?_)) (by (try dsimp only); (repeat (with_reducible exact Pick.refl _))))
      simp only [Bool.not_eq_true', Bool.not_eq_false', ne_eq, Decidable.not_not] at *
      first
        | (simp [instrHead, *]; done)
  intro _ _
  by_cases hh : instrHead ⟨op, a, b, t⟩
  case neg =>
    have hB : instrB cs cl.length o k own ⟨op, a, b, t⟩ = false := by unfold instrB; rw [decide_eq_false hh]; rfl
    rw [hB, decide_eq_false hh, Bool.not_false]
    repeat' (first | with_reducible refine al_none rfl ?_ | ((with_reducible apply o_assign); rfl; rfl) | with_reducible refine aw_seq ?_ | with_reducible refine aw_region ?_ | with_reducible refine al_nil ?_ | with_reducible refine aq_then ?_ | with_reducible refine aw_ret ?_ | with_reducible refine aq_then_ret ?_ | refine aw_cond_t rfl (by with_reducible rfl) ?_)
    refine aq_ret1 (by exact .inr rfl) rfl (.tmp _ _ rfl) (fun _ => ?_)
    exact Fin.flat rfl
  have hB : instrB cs cl.length o k own ⟨op, a, b, t⟩ = instrTail cs cl.length o k own ⟨op, a, b, t⟩ := by unfold instrB; rw [decide_eq_true hh]; rfl
  rw [hB, decide_eq_true hh, Bool.not_true]
  have hinv' : outInv o.length o := by rw [hinv.1]; exact hinv
  have hvf : levelOf cs o k b = none → varOk cs o k ⟨op, a, b, t⟩ = false := fun h => by
    unfold varOk
    dsimp only
    rw [h]
  clear hB hk
  repeat' (first | with_reducible refine al_none rfl ?_ | ((with_reducible first | apply o_move | apply o_assign); rfl; rfl) | ((with_reducible apply o_pick_t); rfl; rfl; (with_reducible rfl); rfl) | ((with_reducible apply o_pick_f); rfl; rfl; (with_reducible rfl); rfl) | ((with_reducible apply o_load_cp); rfl; rfl; kernel_rfl; rfl; rfl) | ((with_reducible apply o_load_mp); rfl; rfl; kernel_rfl; rfl; (repeat (with_reducible exact mh)); rfl) | ((with_reducible apply o_fieldAddr); rfl; rfl; kernel_rfl; rfl) | ((with_reducible apply o_indexAddr); rfl; rfl; rfl; kernel_rfl; kernel_rfl; kernel_rfl; rfl; ((with_reducible exact rfl)); ((with_reducible assumption))) | ((with_reducible apply o_len_sl); rfl; rfl; kernel_rfl; (exact List.length_map _)) | ((with_reducible apply o_eql); rfl; rfl; rfl) | ((with_reducible apply o_sub); rfl; rfl; rfl; (((with_reducible refine IntWalk.i64_in _ ?_); omega))) | ((with_reducible apply o_load_agg_cp); rfl; rfl; kernel_rfl; kernel_rfl; kernel_rfl; rfl; (exact .succ _ _ _ _ (.succ _ _ _ _ (.succ _ _ _ _ (.succ _ _ _ _ (.zero _)))))) | ((with_reducible apply o_load_agg_mp); rfl; rfl; kernel_rfl; kernel_rfl; kernel_rfl; rfl; (repeat (with_reducible exact mh)); (exact .succ _ _ _ _ (.succ _ _ _ _ (.succ _ _ _ _ (.succ _ _ _ _ (.zero _)))))) | ((with_reducible apply o_alloc); rfl; rfl; kernel_rfl; intro ss bb) | ((with_reducible apply o_store_mp); rfl; rfl; rfl; kernel_rfl; (repeat (with_reducible exact mh)); ((repeat (first | exact .nil _ | apply Splice.put))); (repeat (with_reducible exact Upd.head _)); kernel_rfl) | ((with_reducible apply o_makeFunc); rfl; (repeat (first | exact Evs.nil | ((with_reducible apply Evs.cons); rfl)))) | ((with_reducible apply o_call); rfl; kernel_rfl; (repeat (first | exact Args.nil | ((with_reducible apply Args.cons); rfl; exact .same _))); exact hG; exact hst; first | exact within_ct _ _ _ | exact plainText_ct hst _ hx | exact hse _ hx | exact implIsName_ct _ hx) | ((with_reducible apply o_callF); rfl; rfl; kernel_rfl; exact hG; exact hst; (repeat (first | exact Args.nil | ((with_reducible apply Args.cons); rfl; exact .same _))); (repeat (first | exact Views.nil | ((with_reducible apply Views.cons); (((with_reducible apply View.mpSame); (repeat (with_reducible exact mh))))))); rfl; first | exact instrOk1_ct hst lo _ _ _ _ _ hin | exact instrOk2_ct hst _ _ _ _ _ _) | with_reducible refine aw_hold_r (id := 24) ?_ | with_reducible refine aw_seq ?_ | with_reducible refine aw_region ?_ | with_reducible refine al_nil ?_ | with_reducible refine aq_then ?_ | with_reducible refine aw_block ?_ | with_reducible refine aw_skip ?_ | with_reducible refine aw_ret ?_ | with_reducible refine aq_then_ret ?_ | with_reducible refine aq_block_ret ?_ | with_reducible refine aq_block ?_ | refine al_run rfl rfl rfl (by with_reducible rfl) ?_ | refine al_skip rfl rfl rfl (by with_reducible rfl) rfl rfl rfl ?_ | (refine al_gsplit_b rfl rfl rfl (by with_reducible rfl) (fun hg => ?_) (fun hg => ?_)) | refine aw_cond_f rfl (by with_reducible rfl) ?_ | (refine aw_cond_dt rfl (by with_reducible rfl) (by assumption) ?_) | (refine aw_cond rfl (by with_reducible rfl) (fun hc => ?_) (fun hc => ?_)))
  all_goals first
    | (refine aq_ret1 (by first | exact .inl rfl | exact .inr rfl) rfl (.tmp _ _ rfl) (fun _ => ?_)
       clear hrk hl1 hl2 hll hil hcs hse hh hinv
       refine fin_bool ?_
       first
         | (simp [instrTail, *]; done))
    | (refine ⟨?_⟩
       generalize ss = s12; generalize bb = b12
       repeat' (first | with_reducible refine al_none rfl ?_ | ((with_reducible first | apply o_move | apply o_assign); rfl; rfl) | with_reducible refine aw_seq ?_ | with_reducible refine aw_region ?_ | with_reducible refine al_nil ?_ | with_reducible refine aq_then ?_ | with_reducible refine aw_block ?_)
       apply aw_loopk (X := Nat) [1, 4, 7, 12, 14, 62] (fun n => [(15, .int .i64 (upN o n (k : Int))), (16, .int .i64 (n : Int))]) (fun _ => [(s12, b12, .box [.bool own.block, .int .i64 own.params, .int .i64 own.slots, .sl lo 4 (own.instrs.map (TInstr.tw lo))])]) (fun n => n ≤ b.toNat) (fun n => b.toNat - n) 0 (Nat.zero_le _)
       (repeat (first | exact Kept.nil | (apply Kept.cons; rfl))); (repeat (first | exact Weak.envNil | refine Weak.envCons (by rfl) ?_))
       · exact .refl _
       intro n hn
       try dsimp only at hn ⊢
       have hol : o.length = cs.length := hinv.1
       have hup := upN_in hinv' n (k : Int) (.inr ⟨by omega, by omega⟩)
       by_cases hnb : (n : Int) < b
       · by_cases hat : 0 ≤ upN o n (k : Int)
         · obtain ⟨j, hj⟩ : ∃ j : Nat, upN o n (k : Int) = j := ⟨(upN o n (k : Int)).toNat, by omega⟩
           have hs := upN_succ o n (k : Int)
           rw [if_neg (by omega), hj] at hs
           have hge := upN_ge hinv' (k := (k : Int)) ⟨by omega, by omega⟩ n hat
           rw [hj] at hup hge
           have hcl2 := hcs.1
           have hrow := intR_gd (o := o) (j := j) (by omega)
           rw [hj]
           repeat' (first | with_reducible refine al_none rfl ?_ | ((with_reducible first | apply o_move | apply o_assign); rfl; rfl) | ((with_reducible apply o_pick_t); rfl; rfl; (with_reducible rfl); rfl) | ((with_reducible apply o_load_cp); rfl; rfl; kernel_rfl; rfl; rfl) | ((with_reducible apply o_fieldAddr); rfl; rfl; kernel_rfl; rfl) | ((with_reducible apply o_indexAddr); rfl; rfl; rfl; kernel_rfl; kernel_rfl; kernel_rfl; rfl; ((with_reducible exact rfl)); ((with_reducible assumption))) | ((with_reducible first | apply o_lss | apply o_geq); rfl; rfl; rfl) | ((with_reducible apply o_add); rfl; rfl; rfl; (((with_reducible refine w_n1 ?_); omega))) | with_reducible refine aw_seq ?_ | with_reducible refine aw_region ?_ | with_reducible refine al_nil ?_ | with_reducible refine aq_then ?_ | with_reducible refine aw_block ?_ | with_reducible refine aw_skip ?_ | with_reducible refine aq_block ?_ | refine al_run rfl rfl rfl (by with_reducible rfl) ?_ | (refine al_gt rfl rfl rfl (by with_reducible rfl) (by assumption) ?_) | (refine aw_cond_dt rfl (by with_reducible rfl) (by first | assumption | omega) ?_))
           exact aq_round (n + 1) (by omega) (by omega) (.of _ (by repeat (first | exact Weak.envNil | refine Weak.envCons (by first | rfl | exact lk_int rfl (by simp [*])) ?_)) (by repeat (first | exact Weak.envNil | refine Weak.envCons rfl ?_)) (by (try dsimp only); (repeat (with_reducible exact Pick.refl _))))
         · have hv := hvf (level_off (n := n) (by omega) (by omega))
           repeat' (first | with_reducible refine al_none rfl ?_ | ((with_reducible first | apply o_move | apply o_assign); rfl; rfl) | ((with_reducible apply o_pick_t); rfl; rfl; (with_reducible rfl); rfl) | ((with_reducible apply o_load_cp); rfl; rfl; kernel_rfl; rfl; rfl) | ((with_reducible apply o_fieldAddr); rfl; rfl; kernel_rfl; rfl) | ((with_reducible first | apply o_lss | apply o_geq); rfl; rfl; rfl) | with_reducible refine aw_seq ?_ | with_reducible refine aw_region ?_ | with_reducible refine al_nil ?_ | with_reducible refine aq_then ?_ | with_reducible refine aw_exit ?_ | with_reducible refine aw_ret ?_ | with_reducible refine aq_block_hit ?_ | with_reducible refine aq_then_exit ?_ | with_reducible refine aq_then_ret ?_ | with_reducible refine aq_block_ret ?_ | refine al_run rfl rfl rfl (by with_reducible rfl) ?_ | refine al_skip rfl rfl rfl (by with_reducible rfl) rfl rfl rfl ?_ | (refine al_gt rfl rfl rfl (by with_reducible rfl) (by first | assumption | omega) ?_) | refine aw_cond_t rfl (by with_reducible rfl) ?_ | (refine aw_cond_df rfl (by with_reducible rfl) (by assumption) ?_))
           refine aq_ret1 (by exact .inr rfl) rfl (.tmp _ _ rfl) (fun _ => ?_)
           refine fin_bool ?_
           clear hrk hl1 hl2 hll hil hcs hse hh hinv hvf
           subst_vars
           simp [instrTail, hv]
       · by_cases hb0 : b < 0
         · have hv := hvf (level_neg hb0)
           repeat' (first | with_reducible refine al_none rfl ?_ | ((with_reducible first | apply o_move | apply o_assign); rfl; rfl) | ((with_reducible apply o_pick_t); rfl; rfl; (with_reducible rfl); rfl) | ((with_reducible apply o_pick_f); rfl; rfl; (with_reducible rfl); rfl) | ((with_reducible apply o_load_cp); rfl; rfl; kernel_rfl; rfl; rfl) | ((with_reducible apply o_fieldAddr); rfl; rfl; kernel_rfl; rfl) | ((with_reducible apply o_lss); rfl; rfl; rfl) | with_reducible refine aw_seq ?_ | with_reducible refine aw_region ?_ | with_reducible refine al_nil ?_ | with_reducible refine aq_then ?_ | with_reducible refine aw_exit ?_ | with_reducible refine aw_ret ?_ | with_reducible refine aq_block_hit ?_ | with_reducible refine aq_then_exit ?_ | with_reducible refine aq_then_ret ?_ | with_reducible refine aq_block_ret ?_ | refine al_run rfl rfl rfl (by with_reducible rfl) ?_ | refine al_skip rfl rfl rfl (by with_reducible rfl) rfl rfl rfl ?_ | (refine al_gf rfl rfl rfl (by with_reducible rfl) (by assumption) ?_) | (refine al_gsplit rfl rfl rfl (by with_reducible rfl) (fun hg => ?_) (fun hg => ?_)) | refine aw_cond_t rfl (by with_reducible rfl) ?_ | refine aw_cond_f rfl (by with_reducible rfl) ?_ | (refine aw_cond_dt rfl (by with_reducible rfl) (by assumption) ?_))
           all_goals
             refine aq_ret1 (by exact .inr rfl) rfl (.tmp _ _ rfl) (fun _ => ?_)
             refine fin_bool ?_
             clear hrk hl1 hl2 hll hil hcs hse hh hinv hvf
             subst_vars
             simp [instrTail, hv]
         · obtain rfl : b = (n : Int) := by omega
           by_cases hat : 0 ≤ upN o n (k : Int)
           · obtain ⟨j, hj⟩ : ∃ j : Nat, upN o n (k : Int) = j := ⟨(upN o n (k : Int)).toNat, by omega⟩
             rw [hj] at hup
             have hjl : j < cs.length := by omega
             have hry := tcode_row (lo := lo) hjl
             have hlev : levelOf cs o k (n : Int) = some cs[j] := level_on (by omega) (by rw [Int.toNat_natCast]; exact hj) (List.getElem?_eq_getElem hjl)
             generalize cs[j] = y at hry hlev
             rw [hj]
             repeat' (first | with_reducible refine al_none rfl ?_ | ((with_reducible apply o_move); rfl; rfl) | ((with_reducible apply o_pick_f); rfl; rfl; (with_reducible rfl); rfl) | ((with_reducible apply o_load_cp); rfl; rfl; kernel_rfl; rfl; rfl) | ((with_reducible apply o_fieldAddr); rfl; rfl; kernel_rfl; rfl) | ((with_reducible first | apply o_eql | apply o_lss); rfl; rfl; rfl) | with_reducible refine aw_draw (by kernel_rfl) (by kernel_rfl) ?_ | with_reducible refine dr_nil ?_ | with_reducible refine dr_none rfl ?_ | ((with_reducible first | apply d_move | apply d_assign); rfl; rfl) | ((with_reducible apply d_load_cp); rfl; rfl; kernel_rfl; rfl; rfl) | ((with_reducible apply d_fieldAddr); rfl; rfl; kernel_rfl; rfl) | ((with_reducible apply d_indexAddr); rfl; rfl; rfl; kernel_rfl; kernel_rfl; kernel_rfl; rfl; ((with_reducible exact rfl)); ((with_reducible assumption))) | ((with_reducible apply d_load_agg_cp); rfl; rfl; kernel_rfl; kernel_rfl; kernel_rfl; rfl; (exact .succ _ _ _ _ (.succ _ _ _ _ (.succ _ _ _ _ (.succ _ _ _ _ (.zero _)))))) | ((with_reducible apply d_callF); rfl; rfl; kernel_rfl; exact hG; exact hst; (repeat (first | exact Args.nil | ((with_reducible apply Args.cons); rfl; exact .same _))); (repeat (exact Views.nil)); rfl; exact instrOk2_ct hst _ _ _ _ _ _) | with_reducible refine aw_seq ?_ | with_reducible refine aw_region ?_ | with_reducible refine al_nil ?_ | with_reducible refine aq_then ?_ | with_reducible refine aw_exit ?_ | with_reducible refine aw_skip ?_ | with_reducible refine aw_ret ?_ | with_reducible refine aq_block_hit ?_ | with_reducible refine aq_then_exit ?_ | with_reducible refine aq_then_ret ?_ | with_reducible refine aq_block_ret ?_ | refine al_run rfl rfl rfl (by with_reducible rfl) ?_ | refine al_skip rfl rfl rfl (by with_reducible rfl) rfl rfl rfl ?_ | (refine al_gf rfl rfl rfl (by with_reducible rfl) (by first | assumption | omega) ?_) | refine aw_cond_f rfl (by with_reducible rfl) ?_ | (refine aw_cond_dt rfl (by with_reducible rfl) (by assumption) ?_) | (refine aw_cond_df rfl (by with_reducible rfl) (by first | assumption | omega) ?_))
             all_goals first
               | (refine aq_ret1 (by first | exact .inl rfl | exact .inr rfl) rfl (.tmp _ _ rfl) (fun _ => ?_)
                  refine fin_bool ?_
                  clear hrk hl1 hl2 hll hil hcs hse hh hinv hvf
                  subst_vars
                  simp [instrTail, varOk, hlev]; done)
           · have hv := hvf (level_off (n := n) (by omega) (by omega))
             repeat' (first | with_reducible refine al_none rfl ?_ | ((with_reducible first | apply o_move | apply o_assign); rfl; rfl) | ((with_reducible apply o_pick_t); rfl; rfl; (with_reducible rfl); rfl) | ((with_reducible apply o_pick_f); rfl; rfl; (with_reducible rfl); rfl) | ((with_reducible apply o_load_cp); rfl; rfl; kernel_rfl; rfl; rfl) | ((with_reducible apply o_fieldAddr); rfl; rfl; kernel_rfl; rfl) | ((with_reducible apply o_lss); rfl; rfl; rfl) | with_reducible refine aw_seq ?_ | with_reducible refine aw_region ?_ | with_reducible refine al_nil ?_ | with_reducible refine aq_then ?_ | with_reducible refine aw_exit ?_ | with_reducible refine aw_ret ?_ | with_reducible refine aq_block_hit ?_ | with_reducible refine aq_then_exit ?_ | with_reducible refine aq_then_ret ?_ | with_reducible refine aq_block_ret ?_ | refine al_skip rfl rfl rfl (by with_reducible rfl) rfl rfl rfl ?_ | (refine al_gt rfl rfl rfl (by with_reducible rfl) (by first | assumption | omega) ?_) | (refine al_gf rfl rfl rfl (by with_reducible rfl) (by assumption) ?_) | refine aw_cond_t rfl (by with_reducible rfl) ?_ | refine aw_cond_f rfl (by with_reducible rfl) ?_)
             refine aq_ret1 (by exact .inr rfl) rfl (.tmp _ _ rfl) (fun _ => ?_)
             refine fin_bool ?_
             clear hrk hl1 hl2 hll hil hcs hse hh hinv hvf
             subst_vars
             simp [instrTail, hv])
end
end Go.Proofs.YtfchjaoeogolnaaGreatDoor
