/- Part 6 of the proof: the texts LaI, LaL. -/
import Derived.Test.YtdeokcbbjibkoaaDoorPart5
/- LibraryAnswer of the program. -/
namespace Go.Proofs.YtdeokcbbjibkoaaDoor
open Go Go.RowKit
theorem laFn_ct {G : World → Prop} (lo : Nat) (d n : Int) : Ct Tryd.prog G 40 [.int .i64 d, .cp lo [.int .i64 n]] (fun _ => .bool (decide (n < d))) := by
  refine ct_enter Tryd.func40 rfl Tryd.ntmps40 rfl rfl fun w0 _ hG => ?_
  repeat' (first | with_reducible refine al_none rfl ?_ | ((with_reducible first | apply o_move | apply o_assign); rfl; rfl) | ((with_reducible apply o_load_cp); rfl; rfl; kernel_rfl; rfl; rfl) | ((with_reducible apply o_gtr); rfl; rfl; rfl) | with_reducible refine aw_seq ?_ | with_reducible refine aw_region ?_ | with_reducible refine al_nil ?_ | with_reducible refine aq_then ?_ | with_reducible refine aw_ret ?_)
  refine aq_ret1 (by exact .inr rfl) rfl (.tmp _ _ rfl) (fun _ => ?_)
  exact Fin.flat rfl
theorem indexFunc_ct {G : World → Prop} (hst : Stable G) (lo l2 : Nat) (l : List Int) (hl : l.length ≤ 1048576) (n : Int) : Ct Tryd.prog G 39 [.sl l2 1 (intR l), .fn 40 [.cp lo [.int .i64 n]]] (fun _ => .int .i64 (FG n l 0 - 1)) := by
  refine ct_enter Tryd.func39 rfl Tryd.ntmps39 rfl rfl fun w0 _ hG => ?_
  have hll := intR_length l
  repeat' (first | with_reducible refine al_none rfl ?_ | ((with_reducible first | apply o_move | apply o_assign); rfl; rfl) | ((with_reducible apply o_len_sl); rfl; rfl; kernel_rfl; (exact List.length_map _)) | with_reducible refine aw_seq ?_ | with_reducible refine aw_region ?_ | with_reducible refine al_nil ?_ | with_reducible refine aq_then ?_ | with_reducible refine aw_block ?_)
  apply aw_loopk (X := Nat) [0, 1, 7] (fun i => [(8, .int .i64 (i : Int))]) (fun _ => []) (fun i => i ≤ l.length ∧ FG n l i = FG n l 0) (fun i => l.length - i) 0 ⟨Nat.zero_le _, rfl⟩
  (repeat (first | exact Kept.nil | (apply Kept.cons; rfl))); (repeat (first | exact Weak.envNil | refine Weak.envCons (by rfl) ?_))
  · exact .refl _
  rintro i ⟨hi, hF⟩
  try dsimp only
  by_cases hlt : i < l.length
  · have hrow := intR_get hlt
    have hstep := FG_step (n := n) hlt
    generalize l[i] = d at hrow hstep
    have hf := laFn_ct (G := G) lo d n
    by_cases hnd : n < d
    · rw [if_pos hnd] at hstep
      rw [decide_eq_true hnd] at hf
      have he : FG n l 0 - 1 = (i : Int) := by rw [← hF, hstep]; omega
      rw [he]
      repeat' (first | with_reducible refine al_none rfl ?_ | ((with_reducible first | apply o_move | apply o_assign); rfl; rfl) | ((with_reducible apply o_load_cp); rfl; rfl; kernel_rfl; rfl; rfl) | ((with_reducible apply o_indexAddr); rfl; rfl; rfl; kernel_rfl; kernel_rfl; kernel_rfl; rfl; ((with_reducible exact rfl)); ((with_reducible assumption))) | ((with_reducible apply o_lss); rfl; rfl; rfl) | ((with_reducible apply o_callF); rfl; rfl; kernel_rfl; exact hG; exact hst; (repeat (first | exact Args.nil | ((with_reducible apply Args.cons); rfl; exact .same _))); (repeat (first | exact Views.nil | ((with_reducible apply Views.cons); (exact View.same _)))); rfl; exact hf) | with_reducible refine aw_seq ?_ | with_reducible refine aw_region ?_ | with_reducible refine al_nil ?_ | with_reducible refine aq_then ?_ | with_reducible refine aw_block ?_ | with_reducible refine aw_skip ?_ | with_reducible refine aw_ret ?_ | with_reducible refine aq_then_ret ?_ | with_reducible refine aq_block_ret ?_ | refine aw_cond_t rfl (by with_reducible rfl) ?_ | (refine aw_cond_dt rfl (by with_reducible rfl) (by first | assumption | omega) ?_))
      refine aq_ret1 (by exact .inr rfl) rfl (.tmp _ _ rfl) (fun _ => ?_)
      exact Fin.flat rfl
    · rw [if_neg hnd] at hstep
      rw [decide_eq_false hnd] at hf
      repeat' (first | with_reducible refine al_none rfl ?_ | ((with_reducible first | apply o_move | apply o_assign); rfl; rfl) | ((with_reducible apply o_load_cp); rfl; rfl; kernel_rfl; rfl; rfl) | ((with_reducible apply o_indexAddr); rfl; rfl; rfl; kernel_rfl; kernel_rfl; kernel_rfl; rfl; ((with_reducible exact rfl)); ((with_reducible assumption))) | ((with_reducible apply o_lss); rfl; rfl; rfl) | ((with_reducible apply o_add); rfl; rfl; rfl; (((with_reducible refine w_n1 ?_); omega))) | ((with_reducible apply o_callF); rfl; rfl; kernel_rfl; exact hG; exact hst; (repeat (first | exact Args.nil | ((with_reducible apply Args.cons); rfl; exact .same _))); (repeat (first | exact Views.nil | ((with_reducible apply Views.cons); (exact View.same _)))); rfl; exact hf) | with_reducible refine aw_seq ?_ | with_reducible refine aw_region ?_ | with_reducible refine al_nil ?_ | with_reducible refine aq_then ?_ | with_reducible refine aw_block ?_ | with_reducible refine aw_skip ?_ | with_reducible refine aq_block ?_ | refine aw_cond_f rfl (by with_reducible rfl) ?_ | (refine aw_cond_dt rfl (by with_reducible rfl) (by first | assumption | omega) ?_))
      exact aq_round (i + 1) ⟨by omega, by rw [← hstep]; exact hF⟩ (by omega) (.of _ (by repeat (first | exact Weak.envNil | refine Weak.envCons (by rfl) ?_)) (by repeat (first | exact Weak.envNil | refine Weak.envCons rfl ?_)) (by (try dsimp only); (repeat (with_reducible exact Pick.refl _))))
  · obtain rfl : i = l.length := by omega
    rw [FG_end] at hF
    have he : FG n l 0 - 1 = -1 := by omega
    rw [he]
    repeat' (first | with_reducible refine al_none rfl ?_ | ((with_reducible apply o_assign); rfl; rfl) | ((with_reducible apply o_lss); rfl; rfl; rfl) | with_reducible refine aw_seq ?_ | with_reducible refine aw_region ?_ | with_reducible refine al_nil ?_ | with_reducible refine aq_then ?_ | with_reducible refine aw_exit ?_ | with_reducible refine aw_ret ?_ | with_reducible refine aq_block_hit ?_ | with_reducible refine aq_then_exit ?_ | (refine aw_cond_df rfl (by with_reducible rfl) (by first | assumption | omega) ?_))
    refine aq_ret1 (by exact .inr rfl) rfl (.tmp _ _ rfl) (fun _ => ?_)
    exact Fin.flat rfl
def laStr (k : Int) (s : ByteArray) : ByteArray := if okLib k s = true then ansS k (digN s.data.toList) else ⟨#[]⟩
def laOut (k : Int) (s : ByteArray) : List ByteArray := if okLib k s = true then ansO k (digN s.data.toList) else []
set_option maxRecDepth 8000 in
set_option maxHeartbeats 8000000 in
theorem implLibraryAnswer_ct (k : Int) (s : ByteArray) (hs : s.size ≤ 1048576) : CtM Tryd.prog GA 15 [.int .i64 k, .str s] [] (fun _ : Nat × Nat => True) (fun y => [(y.1, y.2, .row 1 (strR (laOut k s)))]) (fun y => .tup [.str (laStr k s), .ms y.1 y.2 0 (laOut k s).length, .bool (okLib k s)]) := by
  refine ctm_enter Tryd.func15 rfl Tryd.ntmps15 rfl rfl rfl fun w0 R gs objsR hG hR => ?_
  obtain rfl := hR.inv0
  clear hR
  have hst := GA_st
  have hwi := within_ct (G := GA) k 1 5
  have hdo := digitsOk_ct (G := GA) s hs
  by_cases ho : okLib k s = true
  case neg =>
    have e1 : laStr k s = ⟨#[]⟩ := if_neg ho
    have e2 : laOut k s = [] := if_neg ho
    rw [e1, e2, Bool.eq_false_iff.2 ho]
    unfold okLib at ho
    by_cases hk : inR k 1 5 = true
    · rw [hk, Bool.true_and] at ho
      rw [hk] at hwi
      rw [Bool.eq_false_iff.2 ho] at hdo
      repeat' (first | with_reducible refine al_none rfl ?_ | ((with_reducible first | apply o_move | apply o_assign); rfl; rfl) | ((with_reducible apply o_pick_f); rfl; rfl; (with_reducible rfl); rfl) | ((with_reducible apply o_not_t); rfl; rfl; (with_reducible rfl)) | ((with_reducible apply o_not_f); rfl; rfl; (with_reducible rfl)) | ((with_reducible apply o_call); rfl; kernel_rfl; (repeat (first | exact Args.nil | ((with_reducible apply Args.cons); rfl; exact .same _))); exact hG; exact hst; first | exact hwi | exact hdo) | with_reducible refine aw_seq ?_ | with_reducible refine aw_region ?_ | with_reducible refine al_nil ?_ | with_reducible refine aq_then ?_ | with_reducible refine aw_ret ?_ | with_reducible refine aq_then_ret ?_ | refine al_run rfl rfl rfl (by with_reducible rfl) ?_ | refine aw_cond_t rfl (by with_reducible rfl) ?_)
      refine aq_nils 5 1 (by omega) rfl fun ss => aq_retm3 (by exact .inr rfl) rfl (ss, 0) trivial rfl (.cons _ _ _ _ (.nil R)) (by (try dsimp only); (repeat (first | with_reducible exact Pick.refl _ | (apply Pick.consE; (repeat (with_reducible exact DelS.head _)); (rfl))))) (.tmp _ _ rfl) (.tmp _ _ rfl) (.tmp _ _ rfl) rfl
    · rw [Bool.eq_false_iff.2 hk] at hwi
      repeat' (first | with_reducible refine al_none rfl ?_ | ((with_reducible first | apply o_move | apply o_assign); rfl; rfl) | ((with_reducible apply o_pick_t); rfl; rfl; (with_reducible rfl); rfl) | ((with_reducible apply o_not_f); rfl; rfl; (with_reducible rfl)) | ((with_reducible apply o_call); rfl; kernel_rfl; (repeat (first | exact Args.nil | ((with_reducible apply Args.cons); rfl; exact .same _))); exact hG; exact hst; first | exact hwi) | with_reducible refine aw_seq ?_ | with_reducible refine aw_region ?_ | with_reducible refine al_nil ?_ | with_reducible refine aq_then ?_ | with_reducible refine aw_ret ?_ | with_reducible refine aq_then_ret ?_ | refine al_skip rfl rfl rfl (by with_reducible rfl) rfl rfl rfl ?_ | refine aw_cond_t rfl (by with_reducible rfl) ?_)
      refine aq_nils 5 1 (by omega) rfl fun ss => aq_retm3 (by exact .inr rfl) rfl (ss, 0) trivial rfl (.cons _ _ _ _ (.nil R)) (by (try dsimp only); (repeat (first | with_reducible exact Pick.refl _ | (apply Pick.consE; (repeat (with_reducible exact DelS.head _)); (rfl))))) (.tmp _ _ rfl) (.tmp _ _ rfl) (.tmp _ _ rfl) rfl
  have e1 : laStr k s = ansS k (digN s.data.toList) := if_pos ho
  have e2 : laOut k s = ansO k (digN s.data.toList) := if_pos ho
  rw [e1, e2, ho]
  obtain ⟨hk5, hd, hs1, hs10⟩ := okLib_ways ho
  have hin5 : inR k 1 5 = true := inR_t (by omega)
  have hok2 : (s.data.toList.all digit && inR s.size 1 10) = true := by rw [hd, inR_t (by omega)]; rfl
  rw [hin5] at hwi
  rw [hok2] at hdo
  repeat' (first | with_reducible refine al_none rfl ?_ | ((with_reducible first | apply o_move | apply o_assign); rfl; rfl) | ((with_reducible apply o_pick_f); rfl; rfl; (with_reducible rfl); rfl) | ((with_reducible apply o_not_t); rfl; rfl; (with_reducible rfl)) | ((with_reducible apply o_own); rfl; rfl; kernel_rfl; kernel_rfl; rfl; kernel_rfl; rfl; rfl; rfl; rfl; intro ss bb) | ((with_reducible apply o_range); rfl; rfl; kernel_rfl; intro ss bb) | ((with_reducible apply o_call); rfl; kernel_rfl; (repeat (first | exact Args.nil | ((with_reducible apply Args.cons); rfl; exact .same _))); exact hG; exact hst; first | exact hwi | exact hdo) | with_reducible refine aw_seq ?_ | with_reducible refine aw_region ?_ | with_reducible refine al_nil ?_ | with_reducible refine aq_then ?_ | with_reducible refine aw_block ?_ | with_reducible refine aw_skip ?_ | refine al_run rfl rfl rfl (by with_reducible rfl) ?_ | refine aw_cond_f rfl (by with_reducible rfl) ?_)
  rename_i sl bl
  generalize ss = si; generalize bb = bi
  have hdl := digN_length s.data.toList
  rw [size_toList] at hdl
  apply aw_loopk (X := Nat × Nat) [0, 1, 30, 1000000] (fun x => [(7, .ms sl x.2 0 x.1)]) (fun x => (si, bi, .iter s x.1) :: (sl, x.2, .row 1 (intR (digN (s.data.toList.take x.1)))) :: R) (fun x => x.1 ≤ s.size) (fun x => s.size - x.1) (0, bl) (Nat.zero_le _)
  (repeat (first | exact Kept.nil | (apply Kept.cons; rfl))); (repeat (first | exact Weak.envNil | refine Weak.envCons (by rfl) ?_))
  · exact .refl _
  rintro ⟨i, bq⟩ hi
  dsimp only at hi ⊢
  have hrl : (intR (digN (s.data.toList.take i))).length = i := by rw [intR_length, digN_length, List.length_take, size_toList]; omega
  by_cases hlt2 : i < s.size
  · have hdb := digit_b (allD_at hd hlt2)
    have htk := digN_take s hlt2
    rw [← bat_eq s hlt2] at hdb htk
    have hasc : bat s i < 128 := by omega
    obtain ⟨v, hval⟩ : ∃ v : Int, bat s i = v := ⟨_, rfl⟩
    rw [hval] at hdb htk
    have hsub : IntKind.i32.wrap (v - 48) = v - 48 := IntWalk.i32_in _ (by omega)
    have hsn : intR (digN (s.data.toList.take i)) ++ [[TV.int .i64 (v - 48)]] = intR (digN (s.data.toList.take (i + 1))) := by rw [htk]; simp [intR]
    repeat' (first | with_reducible refine al_none rfl ?_ | ((with_reducible first | apply o_move | apply o_assign); rfl; rfl) | ((with_reducible apply o_extract); rfl; rfl; rfl) | ((with_reducible apply o_sub); rfl; rfl; rfl; ((with_reducible assumption))) | ((with_reducible apply o_conv_int); rfl; rfl; rfl; kernel_rfl; kernel_rfl; (((with_reducible refine IntWalk.i64_in _ ?_); omega))) | ((with_reducible apply o_next_t); rfl; rfl; (repeat (with_reducible exact Upd.head _)); exact hlt2; exact hasc; exact hval) | ((with_reducible apply o_lit); rfl; rfl; kernel_rfl; kernel_rfl; rfl; kernel_rfl; rfl; rfl; rfl; rfl) | ((with_reducible apply o_append); rfl; rfl; rfl; kernel_rfl; (repeat (first | with_reducible exact mh | with_reducible refine mt ?_)); (with_reducible assumption); ((show List.length _ = 1; rfl)); omega; rfl; (intro bq; (repeat (first | with_reducible exact Upd.head _ | with_reducible apply Upd.tail))); intro bb) | with_reducible refine aw_seq ?_ | with_reducible refine aw_region ?_ | with_reducible refine al_nil ?_ | with_reducible refine aq_then ?_ | with_reducible refine aw_block ?_ | with_reducible refine aw_skip ?_ | with_reducible refine aq_block ?_ | refine aw_cond_t rfl (by with_reducible rfl) ?_)
    rw [hsn]
    exact aq_round (i + 1, bb) (by dsimp only; omega) (by dsimp only; omega) (.of _ (by repeat (first | exact Weak.envNil | refine Weak.envCons (by rfl) ?_)) (by repeat (first | exact Weak.envNil | refine Weak.envCons rfl ?_)) (by (try dsimp only); (repeat (with_reducible exact Pick.refl _))))
  · obtain rfl : i = s.size := by omega
    rw [List.take_of_length_le (by rw [size_toList]; exact Nat.le_refl _)] at hrl ⊢
    have hin := digN_in hd
    generalize digN s.data.toList = l at hdl hrl hin ⊢
    rw [← hdl]
    have hl10 : 1 ≤ l.length ∧ l.length ≤ 10 := by omega
    obtain ⟨n, hn⟩ : ∃ n : Nat, headN l = n := by
      obtain ⟨d, r, rfl⟩ : ∃ d r, l = d :: r := by
        cases l with
        | nil => simp at hl10
        | cons d r => exact ⟨d, r, rfl⟩
      have := hin d (by simp)
      exact ⟨d.toNat, by simp [headN]; omega⟩
    have hn9 : n ≤ 9 := by
      obtain ⟨d, r, rfl⟩ : ∃ d r, l = d :: r := by
        cases l with
        | nil => simp at hl10
        | cons d r => exact ⟨d, r, rfl⟩
      have := hin d (by simp)
      simp [headN] at hn
      omega
    have hr0 : (intR l)[0]? = some [.int .i64 (n : Int)] := by
      obtain ⟨d, r, rfl⟩ : ∃ d r, l = d :: r := by
        cases l with
        | nil => simp at hl10
        | cons d r => exact ⟨d, r, rfl⟩
      simp [headN] at hn
      rw [← hn]; rfl
    have hS := fun h : k = 3 => show ansO k l = outs n by simp [ansO, h, hn]
    have hS0 := fun h : k ≠ 3 => show ansO k l = [] by simp [ansO, h]
    have hll := intR_length l
    repeat' (first | with_reducible refine al_none rfl ?_ | ((with_reducible first | apply o_move | apply o_assign); rfl; rfl) | ((with_reducible apply o_load_me); rfl; rfl; kernel_rfl; rfl; (repeat (first | with_reducible exact mh | with_reducible refine mt ?_)); ((with_reducible assumption)); rfl) | ((with_reducible apply o_indexAddr_ms); rfl; rfl; rfl; (repeat (first | with_reducible exact mh | with_reducible refine mt ?_)); kernel_rfl; kernel_rfl; kernel_rfl; ((with_reducible exact nat0)); (omega); (with_reducible exact Nat.zero_add _)) | ((with_reducible apply o_extract); rfl; rfl; rfl) | ((with_reducible apply o_next_e); rfl; rfl; (repeat (with_reducible exact mh)); (omega)) | ((with_reducible apply o_alloc); rfl; rfl; kernel_rfl; intro ss bb) | ((with_reducible apply o_store_mp); rfl; rfl; rfl; kernel_rfl; (repeat (with_reducible exact mh)); (exact .put _ _ _ _ _ (.nil _)); (repeat (with_reducible exact Upd.head _)); kernel_rfl) | ((with_reducible apply o_own); rfl; rfl; kernel_rfl; kernel_rfl; rfl; kernel_rfl; rfl; rfl; rfl; rfl; intro ss bb) | with_reducible refine aw_hold_r (id := 18) ?_ | with_reducible refine aw_seq ?_ | with_reducible refine aw_region ?_ | with_reducible refine al_nil ?_ | with_reducible refine aq_then ?_ | with_reducible refine aw_block ?_ | with_reducible refine aw_exit ?_ | with_reducible refine aq_block_hit ?_ | with_reducible refine aq_then_exit ?_ | refine aw_cond_f rfl (by with_reducible rfl) ?_)
    refine ⟨?_⟩
    generalize ss = so; generalize bb = bo
    rename_i sn bn
    rcases hk5 with rfl | rfl | rfl | rfl | rfl
    · have hans : ansS 1 l = numB (fac n) := by simp [ansS, hn]
      have hout := hS0 (by decide)
      rw [hans, hout]
      have hb := fun m h => fac_bd m h
      repeat' (first | with_reducible refine al_none rfl ?_ | ((with_reducible apply o_assign); rfl; rfl) | ((with_reducible apply o_eql); rfl; rfl; rfl) | with_reducible refine aw_seq ?_ | with_reducible refine aw_region ?_ | with_reducible refine al_nil ?_ | with_reducible refine aq_then ?_ | with_reducible refine aw_block ?_ | (refine aw_cond_dt rfl (by with_reducible rfl) (by first | assumption | omega) ?_))
      apply aw_loopk (X := Nat) [10, 11, 1000000] (fun i => [(12, .int .i64 (fac i)), (13, .int .i64 ((i + 1 : Nat) : Int))]) (fun _ => (so, bo, .row 1 []) :: (sn, bn, .box [.int .i64 (n : Int)]) :: R) (fun i => 1 ≤ i ∧ (i ≤ n ∨ i = 1)) (fun i => 10 - i) 1 ⟨Nat.le_refl _, .inr rfl⟩
      (repeat (first | exact Kept.nil | (apply Kept.cons; rfl))); (repeat (first | exact Weak.envNil | refine Weak.envCons (by rfl) ?_))
      · exact (by (try dsimp only); (repeat (first | with_reducible exact Pick.refl _ | (apply Pick.consE; (repeat (with_reducible exact DelS.head _)); (with_reducible rfl)) | ((fail_if_success (apply Pick.consE)); refine Pick.drop ?_))))
      rintro i ⟨h1, hi⟩
      try dsimp only
      by_cases hlt : i + 1 ≤ n
      · have hmul : IntKind.i64.wrap (fac i * ((i + 1 : Nat) : Int)) = fac (i + 1) := by
          have := hb (i + 1) (by omega)
          exact IntWalk.i64_in _ (by show -9223372036854775808 ≤ fac (i + 1) ∧ fac (i + 1) ≤ 9223372036854775807; omega)
        repeat' (first | with_reducible refine al_none rfl ?_ | ((with_reducible first | apply o_move | apply o_assign); rfl; rfl) | ((with_reducible apply o_load_mp); rfl; rfl; kernel_rfl; rfl; (repeat (first | with_reducible exact mh | with_reducible refine mt ?_)); rfl) | ((with_reducible apply o_leq); rfl; rfl; rfl) | ((with_reducible first | apply o_add | apply o_mul); rfl; rfl; rfl; (first | ((with_reducible first | refine w_n1 ?_ | refine IntWalk.i64_in _ ?_); omega) | (with_reducible assumption))) | with_reducible refine aw_seq ?_ | with_reducible refine aw_region ?_ | with_reducible refine al_nil ?_ | with_reducible refine aq_then ?_ | with_reducible refine aw_block ?_ | with_reducible refine aw_skip ?_ | with_reducible refine aq_block ?_ | (refine aw_cond_dt rfl (by with_reducible rfl) (by first | assumption | omega) ?_))
        exact aq_round (i + 1) ⟨by omega, .inl (by omega)⟩ (by omega) (.of _ (by repeat (first | exact Weak.envNil | refine Weak.envCons (by rfl) ?_)) (by repeat (first | exact Weak.envNil | refine Weak.envCons rfl ?_)) (by (try dsimp only); (repeat (with_reducible exact Pick.refl _))))
      · have hfn : fac i = fac n := by
          by_cases h2 : i = n
          · rw [h2]
          · have h3 : i = 1 := by omega
            have h4 : n = 0 := by omega
            rw [h3, h4]; rfl
        have := hb n (by omega)
        have hf := implFmt_ct (fac n) (by omega) (by omega)
        rw [hfn]
        repeat' (first | with_reducible refine al_none rfl ?_ | ((with_reducible first | apply o_move | apply o_assign); rfl; rfl) | ((with_reducible apply o_load_mp); rfl; rfl; kernel_rfl; rfl; (repeat (first | with_reducible exact mh | with_reducible refine mt ?_)); rfl) | ((with_reducible apply o_leq); rfl; rfl; rfl) | ((with_reducible apply o_call); rfl; kernel_rfl; (repeat (first | exact Args.nil | ((with_reducible apply Args.cons); rfl; exact .same _))); exact hG; exact hst; exact hf) | with_reducible refine aw_seq ?_ | with_reducible refine aw_region ?_ | with_reducible refine al_nil ?_ | with_reducible refine aq_then ?_ | with_reducible refine aw_exit ?_ | with_reducible refine aw_ret ?_ | with_reducible refine aq_block_hit ?_ | with_reducible refine aq_then_exit ?_ | with_reducible refine aq_block ?_ | (refine aw_cond_df rfl (by with_reducible rfl) (by first | assumption | omega) ?_))
        exact aq_retm3 (by exact .inr rfl) rfl (so, bo) trivial rfl (.cons _ _ _ _ (.nil R)) (by (try dsimp only); (repeat (first | with_reducible exact Pick.refl _ | (apply Pick.consE; (repeat (with_reducible exact DelS.head _)); (rfl)) | ((fail_if_success (apply Pick.consE)); refine Pick.drop ?_)))) (.tmp _ _ rfl) (.tmp _ _ rfl) (.tmp _ _ rfl) rfl
    · have hans : ansS 2 l = ⟨#[40]⟩ ++ joinB (numsB (sorted l)) ⟨#[32]⟩ ++ ⟨#[41]⟩ := by simp [ansS]
      have hout := hS0 (by decide)
      rw [hans, hout]
      have hsl := sorted_length l
      have hsr := intR_length (sorted l)
      have hsd := sorted_in hin
      have hso := implSort_ct (G := GA) 0 l (by omega)
      have hfmt := fun d (h : 0 ≤ d ∧ d ≤ 9) => implFmt_ct d (by omega) (by omega)
      have hsz : ∀ x ∈ numsB (sorted l), ByteArray.size x ≤ 20 := fun x hx => by
        simp only [numsB, List.mem_map] at hx
        obtain ⟨d, hd', rfl⟩ := hx
        exact numB_small (hsd d hd')
      have hnl : (numsB (sorted l)).length = l.length := by simp [numsB, hsl]
      have hjs := joinB_size (sep := ⟨#[32]⟩) (by decide) hsz
      have hj := join_ct (G := GA) (numsB (sorted l)) ⟨#[32]⟩ (by omega) (by omega) (by omega)
      have hjb : (joinB (numsB (sorted l)) ⟨#[32]⟩).size ≤ 1000 := by
        show ((Lib.join _ _).toArray).size ≤ 1000
        rw [List.size_toArray]; omega
      repeat' (first | with_reducible refine al_none rfl ?_ | ((with_reducible first | apply o_move | apply o_assign); rfl; rfl) | ((with_reducible apply o_len_sl); rfl; rfl; kernel_rfl; (exact List.length_map _)) | ((with_reducible apply o_eql); rfl; rfl; rfl) | ((with_reducible apply o_own); rfl; rfl; kernel_rfl; kernel_rfl; rfl; kernel_rfl; rfl; rfl; rfl; rfl; intro ss bb) | ((with_reducible apply o_callV); rfl; kernel_rfl; exact hG; exact hst; exact hso; (repeat (first | exact Args.nil | ((with_reducible apply Args.cons); rfl; (((with_reducible apply View.msAll); (repeat (first | with_reducible exact mh | with_reducible refine mt ?_)); (with_reducible assumption))))))) | with_reducible refine aw_seq ?_ | with_reducible refine aw_region ?_ | with_reducible refine al_nil ?_ | with_reducible refine aq_then ?_ | with_reducible refine aw_block ?_ | (refine aw_cond_dt rfl (by with_reducible rfl) (by first | assumption | omega) ?_) | (refine aw_cond_df rfl (by with_reducible rfl) (by first | assumption | omega) ?_))
      generalize ss = sp; generalize bb = bp
      apply aw_loopk (X := Nat × Nat) [72, 73, 1000000] (fun x => [(14, .ms sp x.2 0 x.1), (74, .int .i64 (x.1 : Int))]) (fun x => (sp, x.2, .row 1 (strR (numsB ((sorted l).take x.1)))) :: R) (fun x => x.1 ≤ (sorted l).length) (fun x => (sorted l).length - x.1) (0, bp) (Nat.zero_le _)
      (repeat (first | exact Kept.nil | (apply Kept.cons; rfl))); (repeat (first | exact Weak.envNil | refine Weak.envCons (by rfl) ?_))
      · exact (by (try dsimp only); (repeat (first | with_reducible exact Pick.refl _ | (apply Pick.consE; (repeat (with_reducible exact DelS.head _)); (rfl)) | ((fail_if_success (apply Pick.consE)); refine Pick.drop ?_))))
      rintro ⟨i, bq⟩ hi
      dsimp only at hi ⊢
      have hrl : (strR (numsB ((sorted l).take i))).length = i := by rw [strR_len]; simp [numsB]; omega
      by_cases hlt : i < (sorted l).length
      · have hrow := intR_get hlt
        have hdi := hfmt _ (hsd _ (List.getElem_mem hlt))
        have hst2 := numsB_take hlt
        generalize (sorted l)[i] = d at hrow hdi hst2
        have hsn := strR_snoc (numsB ((sorted l).take i)) (numB d)
        rw [← hst2] at hsn
        repeat' (first | with_reducible refine al_none rfl ?_ | ((with_reducible first | apply o_move | apply o_assign); rfl; rfl) | ((with_reducible apply o_load_cp); rfl; rfl; kernel_rfl; rfl; rfl) | ((with_reducible apply o_indexAddr); rfl; rfl; rfl; kernel_rfl; kernel_rfl; kernel_rfl; rfl; ((with_reducible exact rfl)); ((with_reducible assumption))) | ((with_reducible apply o_lss); rfl; rfl; rfl) | ((with_reducible apply o_add); rfl; rfl; rfl; (((with_reducible refine w_n1 ?_); omega))) | ((with_reducible apply o_lit); rfl; rfl; kernel_rfl; kernel_rfl; rfl; kernel_rfl; rfl; rfl; rfl; rfl) | ((with_reducible apply o_append); rfl; rfl; rfl; kernel_rfl; (repeat (with_reducible exact mh)); (with_reducible assumption); ((show List.length _ = 1; rfl)); omega; rfl; (intro bq; (repeat (with_reducible exact Upd.head _))); intro bb) | ((with_reducible apply o_call); rfl; kernel_rfl; (repeat (first | exact Args.nil | ((with_reducible apply Args.cons); rfl; exact .same _))); exact hG; exact hst; exact hdi) | with_reducible refine aw_seq ?_ | with_reducible refine aw_region ?_ | with_reducible refine al_nil ?_ | with_reducible refine aq_then ?_ | with_reducible refine aw_block ?_ | with_reducible refine aw_skip ?_ | with_reducible refine aq_block ?_ | (refine aw_cond_dt rfl (by with_reducible rfl) (by first | assumption | omega) ?_))
        rw [hsn]
        exact aq_round (i + 1, bb) (by dsimp only; omega) (by dsimp only; omega) (.of _ (by repeat (first | exact Weak.envNil | refine Weak.envCons (by rfl) ?_)) (by repeat (first | exact Weak.envNil | refine Weak.envCons rfl ?_)) (by (try dsimp only); (repeat (with_reducible exact Pick.refl _))))
      · obtain rfl : i = (sorted l).length := by omega
        rw [List.take_of_length_le (Nat.le_refl _)] at hrl ⊢
        generalize joinB (numsB (sorted l)) ⟨#[32]⟩ = J at hj hjb ⊢
        have hA1 : (⟨#[40]⟩ : ByteArray).size + J.size ≤ 9223372036854775807 := by show 1 + J.size ≤ _; omega
        have hA2 : ((⟨#[40]⟩ : ByteArray) ++ J).size + (⟨#[41]⟩ : ByteArray).size ≤ 9223372036854775807 := by rw [ByteArray.size_append]; show 1 + J.size + 1 ≤ _; omega
        repeat' (first | with_reducible refine al_none rfl ?_ | ((with_reducible first | apply o_move | apply o_assign); rfl; rfl) | ((with_reducible apply o_lss); rfl; rfl; rfl) | ((with_reducible apply o_add_s); rfl; rfl; rfl; (assumption)) | ((with_reducible apply o_callV); rfl; kernel_rfl; exact hG; exact hst; exact hj; (repeat (first | exact Args.nil | ((with_reducible apply Args.cons); rfl; (first | with_reducible exact View.same _ | ((with_reducible apply View.msAll); (repeat (with_reducible exact mh)); (with_reducible assumption))))))) | with_reducible refine aw_seq ?_ | with_reducible refine aw_region ?_ | with_reducible refine al_nil ?_ | with_reducible refine aq_then ?_ | with_reducible refine aw_exit ?_ | with_reducible refine aw_ret ?_ | with_reducible refine aq_block_hit ?_ | with_reducible refine aq_then_exit ?_ | with_reducible refine aq_then_ret ?_ | with_reducible refine aq_block_ret ?_ | (refine aw_cond_df rfl (by with_reducible rfl) (by first | assumption | omega) ?_))
        refine aq_nils 5 1 (by omega) rfl fun ss => aq_retm3 (by exact .inr rfl) rfl (ss, 0) trivial rfl (.cons _ _ _ _ (.nil R)) (by (try dsimp only); (repeat (first | with_reducible exact Pick.refl _ | (apply Pick.consE; (repeat (with_reducible exact DelS.head _)); (rfl)) | ((fail_if_success (apply Pick.consE)); refine Pick.drop ?_)))) (.tmp _ _ rfl) (.tmp _ _ rfl) (.tmp _ _ rfl) rfl
    · have hans : ansS 3 l = numB (sm n) := by simp [ansS, hn]
      rw [hans, hS rfl]
      have hb := fun m h => sm_bd m h
      repeat' (first | with_reducible refine al_none rfl ?_ | ((with_reducible apply o_assign); rfl; rfl) | ((with_reducible apply o_eql); rfl; rfl; rfl) | with_reducible refine aw_seq ?_ | with_reducible refine aw_region ?_ | with_reducible refine al_nil ?_ | with_reducible refine aq_then ?_ | with_reducible refine aw_block ?_ | (refine aw_cond_dt rfl (by with_reducible rfl) (by first | assumption | omega) ?_) | (refine aw_cond_df rfl (by with_reducible rfl) (by first | assumption | omega) ?_))
      apply aw_loopk (X := Nat × Nat) [10, 1000000] (fun x => [(12, .int .i64 (sm x.1)), (17, .int .i64 ((x.1 + 1 : Nat) : Int)), (11, .ms so x.2 0 x.1)]) (fun x => (so, x.2, .row 1 (strR (outs x.1))) :: (sn, bn, .box [.int .i64 (n : Int)]) :: R) (fun x => x.1 ≤ n) (fun x => n - x.1) (0, bo) (Nat.zero_le _)
      (repeat (first | exact Kept.nil | (apply Kept.cons; rfl))); (repeat (first | exact Weak.envNil | refine Weak.envCons (by rfl) ?_))
      · exact (by (try dsimp only); (repeat (first | with_reducible exact Pick.refl _ | (apply Pick.consE; (repeat (with_reducible exact DelS.head _)); (first | with_reducible rfl | rfl)) | ((fail_if_success (apply Pick.consE)); refine Pick.drop ?_))))
      rintro ⟨i, bq⟩ hi
      dsimp only at hi ⊢
      have hrl : (strR (outs i)).length = i := by rw [strR_len, outs_len]
      by_cases hlt : i + 1 ≤ n
      · have hb1 := hb (i + 1) (by omega)
        have hb0 := hb i (by omega)
        have hsm : sm (i + 1) = sm i + ((i + 1 : Nat) : Int) := rfl
        have hf := implFmt_ct (sm i + ((i + 1 : Nat) : Int)) (by omega) (by omega)
        have hsn := strR_snoc (outs i) (numB (sm i + ((i + 1 : Nat) : Int)))
        rw [← hsm, ← outs_succ] at hsn
        repeat' (first | with_reducible refine al_none rfl ?_ | ((with_reducible first | apply o_move | apply o_assign); rfl; rfl) | ((with_reducible apply o_load_mp); rfl; rfl; kernel_rfl; rfl; (repeat (first | with_reducible exact mh | with_reducible refine mt ?_)); rfl) | ((with_reducible apply o_leq); rfl; rfl; rfl) | ((with_reducible apply o_add); rfl; rfl; rfl; (((with_reducible first | refine w_n1 ?_ | refine IntWalk.i64_in _ ?_); omega))) | ((with_reducible apply o_lit); rfl; rfl; kernel_rfl; kernel_rfl; rfl; kernel_rfl; rfl; rfl; rfl; rfl) | ((with_reducible apply o_append); rfl; rfl; rfl; kernel_rfl; (repeat (with_reducible exact mh)); (with_reducible assumption); ((show List.length _ = 1; rfl)); omega; rfl; (intro bq; (repeat (with_reducible exact Upd.head _))); intro bb) | ((with_reducible apply o_call); rfl; kernel_rfl; (repeat (first | exact Args.nil | ((with_reducible apply Args.cons); rfl; exact .same _))); exact hG; exact hst; exact hf) | with_reducible refine aw_seq ?_ | with_reducible refine aw_region ?_ | with_reducible refine al_nil ?_ | with_reducible refine aq_then ?_ | with_reducible refine aw_block ?_ | with_reducible refine aw_skip ?_ | with_reducible refine aq_block ?_ | (refine aw_cond_dt rfl (by with_reducible rfl) (by first | assumption | omega) ?_))
        rw [← hsm, hsn]
        exact aq_round (i + 1, bb) (by dsimp only; omega) (by dsimp only; omega) (.of _ (by repeat (first | exact Weak.envNil | refine Weak.envCons (by rfl) ?_)) (by repeat (first | exact Weak.envNil | refine Weak.envCons rfl ?_)) (by (try dsimp only); (repeat (with_reducible exact Pick.refl _))))
      · obtain rfl : i = n := by omega
        have := hb i (by omega)
        have hf := implFmt_ct (sm i) (by omega) (by omega)
        rw [outs_len]
        repeat' (first | with_reducible refine al_none rfl ?_ | ((with_reducible first | apply o_move | apply o_assign); rfl; rfl) | ((with_reducible apply o_load_mp); rfl; rfl; kernel_rfl; rfl; (repeat (first | with_reducible exact mh | with_reducible refine mt ?_)); rfl) | ((with_reducible apply o_leq); rfl; rfl; rfl) | ((with_reducible apply o_call); rfl; kernel_rfl; (repeat (first | exact Args.nil | ((with_reducible apply Args.cons); rfl; exact .same _))); exact hG; exact hst; exact hf) | with_reducible refine aw_seq ?_ | with_reducible refine aw_region ?_ | with_reducible refine al_nil ?_ | with_reducible refine aq_then ?_ | with_reducible refine aw_exit ?_ | with_reducible refine aw_ret ?_ | with_reducible refine aq_block_hit ?_ | with_reducible refine aq_then_exit ?_ | with_reducible refine aq_block ?_ | (refine aw_cond_df rfl (by with_reducible rfl) (by first | assumption | omega) ?_))
        exact aq_retm3 (by exact .inr rfl) rfl (so, bq) trivial rfl (.cons _ _ _ _ (.nil R)) (by (try dsimp only); (repeat (first | with_reducible exact Pick.refl _ | (apply Pick.consE; (repeat (with_reducible exact DelS.head _)); (with_reducible rfl)) | ((fail_if_success (apply Pick.consE)); refine Pick.drop ?_)))) (.tmp _ _ rfl) (.tmp _ _ rfl) (.tmp _ _ rfl) rfl
    · have hg := firstGt_ge (n : Int) l
      rw [← FG_zero] at hg
      have hans : ansS 4 l = numB (1 + (FG (n : Int) l 0 - 1)) := by
        have : 1 + (FG (n : Int) l 0 - 1) = firstGt (n : Int) l := by rw [FG_zero]; omega
        rw [this]; simp [ansS, hn]
      have hout := hS0 (by decide)
      rw [hans, hout]
      refine aw_freezeB (t := 10) rfl (by (repeat (first | with_reducible exact DelS.head _ | with_reducible apply DelS.tail))) ?_
      have hix := indexFunc_ct hst w0.heap.size 0 l (by omega) (n : Int)
      have hf := implFmt_ct (1 + (FG (n : Int) l 0 - 1)) (by omega) (by omega)
      repeat' (first | with_reducible refine al_none rfl ?_ | ((with_reducible first | apply o_move | apply o_assign); rfl; rfl) | ((with_reducible apply o_eql); rfl; rfl; rfl) | ((with_reducible apply o_add); rfl; rfl; rfl; (((with_reducible refine IntWalk.i64_in _ ?_); omega))) | ((with_reducible apply o_makeFunc); rfl; (repeat (first | exact Evs.nil | ((with_reducible apply Evs.cons); rfl)))) | ((with_reducible apply o_call); rfl; kernel_rfl; (repeat (first | exact Args.nil | ((with_reducible apply Args.cons); rfl; exact .same _))); exact hG; exact hst; exact hf) | ((with_reducible apply o_callV); rfl; kernel_rfl; exact hG; exact hst; exact hix; (repeat (first | exact Args.nil | ((with_reducible apply Args.cons); rfl; (first | with_reducible exact View.same _ | ((with_reducible apply View.msAll); (repeat (first | with_reducible exact mh | with_reducible refine mt ?_)); (with_reducible assumption))))))) | with_reducible refine aw_seq ?_ | with_reducible refine aw_region ?_ | with_reducible refine al_nil ?_ | with_reducible refine aq_then ?_ | with_reducible refine aw_ret ?_ | with_reducible refine aq_block ?_ | (refine aw_cond_dt rfl (by with_reducible rfl) (by first | assumption | omega) ?_) | (refine aw_cond_df rfl (by with_reducible rfl) (by first | assumption | omega) ?_))
      exact aq_retm3 (by exact .inr rfl) rfl (so, bo) trivial rfl (.cons _ _ _ _ (.nil R)) (by (try dsimp only); (repeat (first | with_reducible exact Pick.refl _ | (apply Pick.consE; (repeat (with_reducible exact DelS.head _)); (rfl)) | ((fail_if_success (apply Pick.consE)); refine Pick.drop ?_)))) (.tmp _ _ rfl) (.tmp _ _ rfl) (.tmp _ _ rfl) rfl
    · have hans : ansS 5 l = numB (divN l l.length) := by simp [ansS]
      have hout := hS0 (by decide)
      rw [hans, hout]
      have hbd := divN_bd hin
      repeat' (first | with_reducible refine al_none rfl ?_ | ((with_reducible first | apply o_move | apply o_assign); rfl; rfl) | ((with_reducible apply o_len_ms); rfl; rfl; kernel_rfl) | ((with_reducible apply o_eql); rfl; rfl; rfl) | with_reducible refine aw_seq ?_ | with_reducible refine aw_region ?_ | with_reducible refine al_nil ?_ | with_reducible refine aq_then ?_ | with_reducible refine aw_block ?_ | (refine aw_cond_df rfl (by with_reducible rfl) (by first | assumption | omega) ?_))
      apply aw_loopk (X := Nat) [11, 45, 46, 1000000] (fun i => [(12, .int .i64 (divN l i)), (47, .int .i64 (i : Int))]) (fun _ => (so, bo, .row 1 []) :: (sl, bq, .row 1 (intR l)) :: R) (fun i => i ≤ l.length) (fun i => l.length - i) 0 (Nat.zero_le _)
      (repeat (first | exact Kept.nil | (apply Kept.cons; rfl))); (repeat (first | exact Weak.envNil | refine Weak.envCons (by rfl) ?_))
      · exact (by (try dsimp only); (repeat (first | with_reducible exact Pick.refl _ | (apply Pick.consE; (repeat (first | with_reducible exact DelS.head _ | with_reducible apply DelS.tail)); (with_reducible rfl)) | ((fail_if_success (apply Pick.consE)); refine Pick.drop ?_))))
      intro i hi
      try dsimp only
      have hb0 := hbd i hi
      by_cases hlt : i < l.length
      · have hrow := intR_get hlt
        have hsc := divN_succ hlt
        have hp := hin _ (List.getElem_mem hlt)
        have hpb := part_bd hp
        generalize l[i] = d at hrow hsc hp hpb
        by_cases hd0 : 0 < d
        · have hq : IntKind.i64.wrap (Int.tdiv 10 d) = part d := by
            unfold part at hpb ⊢
            rw [if_pos hd0] at hpb ⊢
            exact IntWalk.i64_in _ (by omega)
          repeat' (first | with_reducible refine al_none rfl ?_ | ((with_reducible first | apply o_move | apply o_assign); rfl; rfl) | ((with_reducible apply o_load_me); rfl; rfl; kernel_rfl; rfl; (repeat (first | with_reducible exact mh | with_reducible refine mt ?_)); ((with_reducible assumption)); rfl) | ((with_reducible apply o_indexAddr_ms); rfl; rfl; rfl; (repeat (first | with_reducible exact mh | with_reducible refine mt ?_)); kernel_rfl; kernel_rfl; kernel_rfl; ((with_reducible exact rfl)); (assumption); (with_reducible exact Nat.zero_add _)) | ((with_reducible first | apply o_lss | apply o_gtr); rfl; rfl; rfl) | ((with_reducible apply o_add); rfl; rfl; rfl; (((with_reducible first | refine w_n1 ?_ | refine IntWalk.i64_in _ ?_); omega))) | ((with_reducible apply o_quo); rfl; rfl; rfl; omega; ((with_reducible assumption))) | with_reducible refine aw_seq ?_ | with_reducible refine aw_region ?_ | with_reducible refine al_nil ?_ | with_reducible refine aq_then ?_ | with_reducible refine aw_block ?_ | with_reducible refine aw_skip ?_ | with_reducible refine aq_block ?_ | (refine aw_cond_dt rfl (by with_reducible rfl) (by first | assumption | omega) ?_))
          exact aq_round (i + 1) (by omega) (by omega) (.of _ (Weak.envCons (lk_int rfl hsc.symm) (Weak.envCons rfl Weak.envNil)) (by repeat (first | exact Weak.envNil | refine Weak.envCons rfl ?_)) (by (try dsimp only); (repeat (with_reducible exact Pick.refl _))))
        · have hz : part d = 0 := if_neg hd0
          rw [hz, Int.add_zero] at hsc
          repeat' (first | with_reducible refine al_none rfl ?_ | ((with_reducible first | apply o_move | apply o_assign); rfl; rfl) | ((with_reducible apply o_load_me); rfl; rfl; kernel_rfl; rfl; (repeat (first | with_reducible exact mh | with_reducible refine mt ?_)); ((with_reducible assumption)); rfl) | ((with_reducible apply o_indexAddr_ms); rfl; rfl; rfl; (repeat (first | with_reducible exact mh | with_reducible refine mt ?_)); kernel_rfl; kernel_rfl; kernel_rfl; ((with_reducible exact rfl)); (assumption); (with_reducible exact Nat.zero_add _)) | ((with_reducible first | apply o_lss | apply o_gtr); rfl; rfl; rfl) | ((with_reducible apply o_add); rfl; rfl; rfl; (((with_reducible refine w_n1 ?_); omega))) | with_reducible refine aw_seq ?_ | with_reducible refine aw_region ?_ | with_reducible refine al_nil ?_ | with_reducible refine aq_then ?_ | with_reducible refine aw_block ?_ | with_reducible refine aw_skip ?_ | with_reducible refine aq_block ?_ | (refine aw_cond_dt rfl (by with_reducible rfl) (by first | assumption | omega) ?_) | (refine aw_cond_df rfl (by with_reducible rfl) (by assumption) ?_))
          exact aq_round (i + 1) (by omega) (by omega) (.of _ (Weak.envCons (lk_int rfl hsc.symm) (Weak.envCons rfl Weak.envNil)) (by repeat (first | exact Weak.envNil | refine Weak.envCons rfl ?_)) (by (try dsimp only); (repeat (with_reducible exact Pick.refl _))))
      · obtain rfl : i = l.length := by omega
        have hf := implFmt_ct (divN l l.length) (by omega) (by omega)
        repeat' (first | with_reducible refine al_none rfl ?_ | ((with_reducible first | apply o_move | apply o_assign); rfl; rfl) | ((with_reducible apply o_lss); rfl; rfl; rfl) | ((with_reducible apply o_call); rfl; kernel_rfl; (repeat (first | exact Args.nil | ((with_reducible apply Args.cons); rfl; exact .same _))); exact hG; exact hst; exact hf) | with_reducible refine aw_seq ?_ | with_reducible refine aw_region ?_ | with_reducible refine al_nil ?_ | with_reducible refine aq_then ?_ | with_reducible refine aw_exit ?_ | with_reducible refine aw_ret ?_ | with_reducible refine aq_block_hit ?_ | with_reducible refine aq_then_exit ?_ | with_reducible refine aq_block ?_ | (refine aw_cond_df rfl (by with_reducible rfl) (by first | assumption | omega) ?_))
        exact aq_retm3 (by exact .inr rfl) rfl (so, bo) trivial rfl (.cons _ _ _ _ (.nil R)) (by (try dsimp only); (repeat (first | with_reducible exact Pick.refl _ | (apply Pick.consE; (repeat (with_reducible exact DelS.head _)); (rfl)) | ((fail_if_success (apply Pick.consE)); refine Pick.drop ?_)))) (.tmp _ _ rfl) (.tmp _ _ rfl) (.tmp _ _ rfl) rfl
end Go.Proofs.YtdeokcbbjibkoaaDoor
/- The law FnExactLibraryAnswer, walked. -/
namespace Go.Proofs.YtdeokcbbjibkoaaDoor
open Go Go.RowKit
def mkS (k : Int) : Nat → List ByteArray
  | 0 => []
  | n + 1 => mkS k n ++ [markB (k + n)]
theorem mkS_length (k : Int) : ∀ n, (mkS k n).length = n
  | 0 => rfl
  | n + 1 => by simp [mkS, mkS_length k n]
theorem mkS_get (k : Int) : ∀ n i, i < n → (mkS k n)[i]? = some (markB (k + i))
  | 0, i, h => by omega
  | n + 1, i, h => by
    unfold mkS
    by_cases hi : i < n
    · rw [List.getElem?_append_left (by rw [mkS_length]; exact hi), mkS_get k n i hi]
    · obtain rfl : i = n := by omega
      rw [List.getElem?_append_right (by rw [mkS_length]; omega), mkS_length]; simp
theorem strR_set' (l : List ByteArray) (k : Nat) (s : ByteArray) : (strR l).set k [TV.str s] = strR (l.set k s) := by simp [strR, List.map_set]
theorem mkS_set (k : Int) {l : List ByteArray} {i : Nat} (h : i < l.length) : (strR (mkS k i ++ l.drop i)).set i [.str (markB (k + i))] = strR (mkS k (i + 1) ++ l.drop (i + 1)) := by
  rw [strR_set', List.set_append_right _ _ (by rw [mkS_length]; omega), mkS_length, Nat.sub_self, show l.drop i = l[i] :: l.drop (i + 1) from List.drop_eq_getElem_cons h, List.set_cons_zero]
  rw [show mkS k (i + 1) = mkS k i ++ [markB (k + i)] from rfl, List.append_assoc]; rfl
section
variable {G : World → Prop}
theorem markStringS_ct (hst : Stable G) (s b : Nat) (l : List ByteArray) (k : Int) (hn : l.length ≤ 9000000) (hk : 0 ≤ k ∧ k ≤ 9000000) : CtM Tryd.prog G 17 [.ms s b 0 l.length, .int .i64 k] [(s, b, .row 1 (strR l))] (fun _ : Unit => True) (fun _ => [(s, b, .row 1 (strR (mkS k l.length)))]) (fun _ => .int .i64 (k + l.length)) := by
  refine ctm_enter Tryd.func17 rfl Tryd.ntmps17 rfl rfl rfl fun w0 R gs objsR hG hR => ?_
  obtain rfl := hR.inv1
  clear hR
  repeat' (first | with_reducible refine al_none rfl ?_ | ((with_reducible apply o_assign); rfl; rfl) | with_reducible refine aw_seq ?_ | with_reducible refine aw_region ?_ | with_reducible refine al_nil ?_ | with_reducible refine aq_then ?_ | with_reducible refine aw_block ?_)
  apply aw_loopk (X := Nat) [0, 1000000] (fun i => [(5, .int .i64 (i : Int)), (1, .int .i64 (k + i))]) (fun i => (s, b, .row 1 (strR (mkS k i ++ l.drop i))) :: R) (fun i => i ≤ l.length) (fun i => l.length - i) 0 (Nat.zero_le _)
  (repeat (first | exact Kept.nil | (apply Kept.cons; rfl))); (repeat (first | exact Weak.envNil | refine Weak.envCons (by first | rfl | exact lk_int rfl (by simp [*])) ?_))
  · exact .refl _
  intro i hi
  try dsimp only
  by_cases hlt : i < l.length
  · have hrow : (strR (mkS k i ++ l.drop i))[i]? = some [.str l[i]] := by
      simp only [strR, List.getElem?_map]
      rw [List.getElem?_append_right (by rw [mkS_length]; omega), mkS_length, Nat.sub_self, List.drop_eq_getElem_cons hlt]; rfl
    have hset := mkS_set k hlt
    have hm := markText_ct (G := G) (k + i) (by omega) (by omega)
    repeat' (first | with_reducible refine al_none rfl ?_ | ((with_reducible first | apply o_move | apply o_assign); rfl; rfl) | ((with_reducible apply o_indexAddr_ms); rfl; rfl; rfl; (repeat (with_reducible exact mh)); kernel_rfl; kernel_rfl; kernel_rfl; ((with_reducible exact rfl)); (assumption); (with_reducible exact Nat.zero_add _)) | ((with_reducible apply o_len_ms); rfl; rfl; kernel_rfl) | ((with_reducible apply o_lss); rfl; rfl; rfl) | ((with_reducible apply o_add); rfl; rfl; rfl; (((with_reducible first | refine w_n1 ?_ | refine IntWalk.i64_in _ ?_); omega))) | ((with_reducible apply o_store_me); rfl; rfl; rfl; kernel_rfl; (repeat (with_reducible exact mh)); ((with_reducible assumption)); (exact .put _ _ _ _ _ (.nil _)); kernel_rfl; rfl; (repeat (with_reducible exact Upd.head _))) | ((with_reducible apply o_call); rfl; kernel_rfl; (repeat (first | exact Args.nil | ((with_reducible apply Args.cons); rfl; exact .same _))); exact hG; exact hst; exact hm) | with_reducible refine aw_seq ?_ | with_reducible refine aw_region ?_ | with_reducible refine al_nil ?_ | with_reducible refine aq_then ?_ | with_reducible refine aw_block ?_ | with_reducible refine aw_skip ?_ | with_reducible refine aq_block ?_ | (refine aw_cond_dt rfl (by with_reducible rfl) (by first | assumption | omega) ?_))
    refine aq_round (i + 1) (by omega) (by omega) (.of _ (Weak.envCons rfl (Weak.envCons (lk_int rfl (by omega)) Weak.envNil)) (by repeat (first | exact Weak.envNil | refine Weak.envCons rfl ?_)) (by rw [← hset]; exact .refl _))
  · obtain rfl : i = l.length := by omega
    rw [List.drop_length, List.append_nil]
    repeat' (first | with_reducible refine al_none rfl ?_ | ((with_reducible first | apply o_move | apply o_assign); rfl; rfl) | ((with_reducible apply o_len_ms); rfl; rfl; kernel_rfl) | ((with_reducible apply o_lss); rfl; rfl; rfl) | with_reducible refine aw_seq ?_ | with_reducible refine aw_region ?_ | with_reducible refine al_nil ?_ | with_reducible refine aq_then ?_ | with_reducible refine aw_exit ?_ | with_reducible refine aw_ret ?_ | with_reducible refine aq_block_hit ?_ | with_reducible refine aq_then_exit ?_ | (refine aw_cond_df rfl (by with_reducible rfl) (by first | assumption | omega) ?_))
    refine aq_retm1 (by exact .inr rfl) rfl () trivial rfl (.cons _ _ _ _ (.nil R)) (by (try dsimp only); (repeat (with_reducible exact Pick.refl _))) (.tmp _ _ rfl) rfl
theorem heldStringS_ct (hst : Stable G) (lo n : Nat) (k : Int) (hn : n ≤ 9000000) (hk : 0 ≤ k ∧ k ≤ 9000000) : Ct Tryd.prog G 18 [.sl lo 1 (strR (mkS k n)), .int .i64 k] (fun _ => .int .i64 (k + n)) := by
  refine ct_enter Tryd.func18 rfl Tryd.ntmps18 rfl rfl fun w0 _ hG => ?_
  have hml := mkS_length k n
  have hsl := strR_len (mkS k n)
  repeat' (first | with_reducible refine al_none rfl ?_ | ((with_reducible apply o_assign); rfl; rfl) | with_reducible refine aw_seq ?_ | with_reducible refine aw_region ?_ | with_reducible refine al_nil ?_ | with_reducible refine aq_then ?_ | with_reducible refine aw_block ?_)
  apply aw_loopk (X := Nat) [0] (fun i => [(5, .int .i64 (i : Int)), (1, .int .i64 (k + i))]) (fun _ => []) (fun i => i ≤ n) (fun i => n - i) 0 (Nat.zero_le _)
  (repeat (first | exact Kept.nil | (apply Kept.cons; rfl))); (repeat (first | exact Weak.envNil | refine Weak.envCons (by first | rfl | exact lk_int rfl (by simp)) ?_))
  · exact .refl _
  intro i hi
  try dsimp only
  by_cases hlt : i < n
  · have hrow : (strR (mkS k n))[i]? = some [.str (markB (k + i))] := by
      simp only [strR, List.getElem?_map]; rw [mkS_get k n i hlt]; rfl
    have hm := markText_ct (G := G) (k + i) (by omega) (by omega)
    have hne : ¬ markB (k + i) ≠ markB (k + i) := fun h => h rfl
    repeat' (first | with_reducible refine al_none rfl ?_ | ((with_reducible first | apply o_move | apply o_assign); rfl; rfl) | ((with_reducible apply o_len_sl); rfl; rfl; kernel_rfl; (exact List.length_map _)) | ((with_reducible apply o_lss); rfl; rfl; rfl) | ((with_reducible apply o_add); rfl; rfl; rfl; (((with_reducible first | refine w_n1 ?_ | refine IntWalk.i64_in _ ?_); omega))) | with_reducible refine aw_draw (by kernel_rfl) (by kernel_rfl) ?_ | with_reducible refine dr_nil ?_ | with_reducible refine dr_none rfl ?_ | ((with_reducible apply d_move); rfl; rfl) | ((with_reducible apply d_load_cp); rfl; rfl; kernel_rfl; rfl; rfl) | ((with_reducible apply d_indexAddr); rfl; rfl; rfl; kernel_rfl; kernel_rfl; kernel_rfl; rfl; ((with_reducible exact rfl)); ((with_reducible assumption))) | ((with_reducible apply d_neq_s); rfl; rfl; rfl) | ((with_reducible apply d_call); rfl; kernel_rfl; (repeat (first | exact Args.nil | ((with_reducible apply Args.cons); rfl; exact .same _))); exact hG; exact hst; exact hm) | with_reducible refine aw_seq ?_ | with_reducible refine aw_region ?_ | with_reducible refine al_nil ?_ | with_reducible refine aq_then ?_ | with_reducible refine aw_block ?_ | with_reducible refine aw_skip ?_ | with_reducible refine aq_block ?_ | (refine aw_cond_dt rfl (by with_reducible rfl) (by first | assumption | omega) ?_) | (refine aw_cond_df rfl (by with_reducible rfl) (by assumption) ?_))
    refine aq_round (i + 1) (by omega) (by omega) (.of _ (Weak.envCons rfl (Weak.envCons (lk_int rfl (by omega)) Weak.envNil)) (by repeat (first | exact Weak.envNil | refine Weak.envCons rfl ?_)) (by (try dsimp only); (repeat (with_reducible exact Pick.refl _))))
  · obtain rfl : i = n := by omega
    repeat' (first | with_reducible refine al_none rfl ?_ | ((with_reducible first | apply o_move | apply o_assign); rfl; rfl) | ((with_reducible apply o_len_sl); rfl; rfl; kernel_rfl; (exact List.length_map _)) | ((with_reducible apply o_lss); rfl; rfl; rfl) | with_reducible refine aw_seq ?_ | with_reducible refine aw_region ?_ | with_reducible refine al_nil ?_ | with_reducible refine aq_then ?_ | with_reducible refine aw_exit ?_ | with_reducible refine aw_ret ?_ | with_reducible refine aq_block_hit ?_ | with_reducible refine aq_then_exit ?_ | (refine aw_cond_df rfl (by with_reducible rfl) (by first | assumption | omega) ?_))
    refine aq_ret1 (by exact .inr rfl) rfl (.tmp _ _ rfl) (fun _ => ?_)
    exact Fin.flat rfl
end
theorem strs_new (l : List ByteArray) (A : ByteArray) (ok : Bool) : ∀ y : Nat × Nat, True → (∀ s b o, (s, b, o) ∈ [(y.1, y.2, TObj.row 1 (strR l))] → ObjNew [(y.1, y.2, TObj.row 1 (strR l))] o) ∧ NewOk [(y.1, y.2, TObj.row 1 (strR l))] (.tup [.str A, .ms y.1 y.2 0 l.length, .bool ok]) := fun y _ =>
  ⟨fun s b o h => by
    simp only [List.mem_singleton, Prod.mk.injEq] at h
    obtain ⟨_, _, rfl⟩ := h
    exact flat_new (strR_flat _), .tup _ fun t ht => by
    simp only [List.mem_cons, List.not_mem_nil, or_false] at ht
    rcases ht with rfl | rfl | rfl
    · exact .flat _ rfl
    · exact .ms _ _ _ _ _ _ List.mem_cons_self
    · exact .flat _ rfl⟩
theorem laR_eq (k : Int) (s : ByteArray) : laR k s = fun K => .tup [.str (laStr k s), .sl K 1 (strR (laOut k s)), .bool (okLib k s)] := by
  funext K
  unfold laR laStr laOut
  cases okLib k s <;> rfl
theorem laOut_len (k : Int) (s : ByteArray) : (laOut k s).length ≤ 1000 := by
  unfold laOut
  split
  · rename_i h
    obtain ⟨_, hd, _, _⟩ := okLib_ways h
    unfold ansO
    split
    · rw [outs_len]
      have hin := digN_in hd
      generalize digN s.data.toList = l at hin
      cases l with
      | nil => decide
      | cons d r => have := hin d (by simp); simp [headN]; omega
    · simp
  · simp
set_option maxRecDepth 4000 in
set_option maxHeartbeats 4000000 in
theorem fnExactLibraryAnswer_ct (k : Int) (s : ByteArray) (hs0 : s.size ≤ 9223372036854775807) : Ct Tryd.prog GA 4 [.int .i64 k, .str s] (fun _ => .bool true) := by
  refine ct_enter Tryd.func4 rfl Tryd.ntmps4 rfl rfl fun w0 _ hG => ?_
  have hst := GA_st
  by_cases hs : s.size ≤ 1048576
  case neg =>
    repeat' (first | with_reducible refine al_none rfl ?_ | ((with_reducible first | apply o_move | apply o_assign); rfl; rfl) | ((with_reducible apply o_len_s); rfl; rfl; kernel_rfl) | ((with_reducible apply o_gtr); rfl; rfl; rfl) | with_reducible refine aw_seq ?_ | with_reducible refine aw_region ?_ | with_reducible refine al_nil ?_ | with_reducible refine aq_then ?_ | with_reducible refine aw_ret ?_ | with_reducible refine aq_then_ret ?_ | (refine aw_cond_dt rfl (by with_reducible rfl) (by first | assumption | omega) ?_))
    refine aq_ret1 (by exact .inr rfl) rfl (.tmp _ _ rfl) (fun _ => ?_)
    exact Fin.flat rfl
  have hsp := specLibraryAnswer_ct k s hs
  rw [laR_eq] at hsp
  have him := implLibraryAnswer_ct k s hs
  have hol := laOut_len k s
  have hnew := strs_new (laOut k s) (laStr k s) (okLib k s)
  generalize laOut k s = O at hsp him hol hnew
  generalize laStr k s = A at hsp him hnew
  generalize okLib k s = ok at hsp him hnew
  have heq := fun l1 l2 => eqStringS_ct (G := GA) l1 l2 O (by omega)
  have hsl := strR_len O
  have hml := strR_len (mkS 1 O.length)
  rw [mkS_length] at hml
  have hA : ¬ A ≠ A := fun h => h rfl
  have hB : (ok != ok) = false := by simp
  repeat' (first | with_reducible refine al_none rfl ?_ | ((with_reducible first | apply o_move | apply o_assign); rfl; rfl) | ((with_reducible apply o_pick_f); rfl; rfl; (with_reducible rfl); rfl) | ((with_reducible apply o_len_s); rfl; rfl; kernel_rfl) | ((with_reducible first | apply o_neq | apply o_gtr | apply o_extract); rfl; rfl; rfl) | ((with_reducible apply o_not_t); rfl; rfl; (with_reducible rfl)) | ((with_reducible apply o_neq_s); rfl; rfl; rfl) | ((with_reducible apply o_neq_b); rfl; rfl; rfl; kernel_rfl) | ((with_reducible apply o_call); rfl; kernel_rfl; (repeat (first | exact Args.nil | ((with_reducible apply Args.cons); rfl; exact .same _))); exact hG; exact hst; exact hsp) | ((with_reducible apply o_callOV); rfl; kernel_rfl; exact hG; exact hst; exact him; ((repeat (first | exact Args.nil | ((with_reducible apply Args.cons); rfl; (with_reducible exact View.same _))))); exact hnew; rintro ⟨ss, bb⟩ -; refine al_app1 ?_) | ((with_reducible apply o_callV); rfl; kernel_rfl; exact hG; exact hst; exact heq 0 w0.heap.size; (repeat (first | exact Args.nil | ((with_reducible apply Args.cons); rfl; (first | with_reducible exact View.same _ | ((with_reducible apply View.msAll); (repeat (with_reducible exact mh)); (with_reducible assumption))))))) | with_reducible refine aw_hold_r (id := 8) ?_ | with_reducible refine aw_seq ?_ | with_reducible refine aw_region ?_ | with_reducible refine al_nil ?_ | with_reducible refine aq_then ?_ | with_reducible refine aw_skip ?_ | with_reducible refine aw_ret ?_ | with_reducible refine aq_then_ret ?_ | refine al_run rfl rfl rfl (by with_reducible rfl) ?_ | (refine al_gf rfl rfl rfl (by with_reducible rfl) (by assumption) ?_) | (refine aw_cond_df rfl (by with_reducible rfl) (by first | assumption | omega) ?_) | (refine aw_cond_b rfl (by with_reducible rfl) (fun hc => ?_) (fun hc => ?_)))
  all_goals first
    | (exfalso; simp at hc; done)
    | skip
  refine ⟨?_⟩
  generalize ss = sa; generalize bb = ba
  repeat' (first | with_reducible refine al_none rfl ?_ | ((with_reducible first | apply o_move | apply o_assign); rfl; rfl) | ((with_reducible first | apply o_neq | apply o_lss); rfl; rfl; rfl) | ((with_reducible apply o_callM); rfl; kernel_rfl; (repeat (first | exact ArgsM.nil | ((with_reducible apply ArgsM.cons); rfl))); exact hG; exact markStringS_ct hst sa ba O 1 (by omega) (by omega); exact .cons _ _ _ _ (.nil _); rintro ⟨⟩ -; refine al_app1 ?_) | ((with_reducible apply o_callV); rfl; kernel_rfl; exact hG; exact hst; exact heldStringS_ct hst 0 O.length 1 (by omega) (by omega); (repeat (first | exact Args.nil | ((with_reducible apply Args.cons); rfl; (first | with_reducible exact View.same _ | ((with_reducible apply View.msAll); (repeat (with_reducible exact mh)); (with_reducible assumption))))))) | with_reducible refine aw_hold_r (id := 15) ?_ | with_reducible refine aw_seq ?_ | with_reducible refine aw_region ?_ | with_reducible refine al_nil ?_ | with_reducible refine aq_then ?_ | with_reducible refine aw_skip ?_ | (refine aw_cond_df rfl (by with_reducible rfl) (by first | assumption | omega) ?_))
  all_goals first
    | (exfalso; simp at hc; done)
    | skip
  refine ⟨?_⟩
  repeat' (first | with_reducible refine al_none rfl ?_ | ((with_reducible first | apply o_move | apply o_assign); rfl; rfl) | ((with_reducible apply o_pick_f); rfl; rfl; (with_reducible rfl); rfl) | ((with_reducible first | apply o_neq | apply o_lss | apply o_extract); rfl; rfl; rfl) | ((with_reducible apply o_not_t); rfl; rfl; (with_reducible rfl)) | ((with_reducible apply o_neq_s); rfl; rfl; rfl) | ((with_reducible apply o_neq_b); rfl; rfl; rfl; kernel_rfl) | ((with_reducible apply o_callOV); rfl; kernel_rfl; exact hG; exact hst; exact him; ((repeat (first | exact Args.nil | ((with_reducible apply Args.cons); rfl; (with_reducible exact View.same _))))); exact hnew; rintro ⟨ss, bb⟩ -; refine al_app1 ?_) | ((with_reducible apply o_callV); rfl; kernel_rfl; exact hG; exact hst; exact heq 0 w0.heap.size; (repeat (first | exact Args.nil | ((with_reducible apply Args.cons); rfl; (first | with_reducible exact View.same _ | ((with_reducible apply View.msAll); (repeat (with_reducible exact mh)); (with_reducible assumption))))))) | ((with_reducible apply o_callV); rfl; kernel_rfl; exact hG; exact hst; exact heldStringS_ct hst 0 O.length 1 (by omega) (by omega); (repeat (first | exact Args.nil | ((with_reducible apply Args.cons); rfl; (first | with_reducible exact View.same _ | ((with_reducible apply View.msAll); (repeat (first | with_reducible exact mh | with_reducible refine mt ?_)); (with_reducible assumption))))))) | with_reducible refine aw_seq ?_ | with_reducible refine aw_region ?_ | with_reducible refine al_nil ?_ | with_reducible refine aq_then ?_ | with_reducible refine aw_skip ?_ | with_reducible refine aw_ret ?_ | with_reducible refine aq_then_ret ?_ | refine al_run rfl rfl rfl (by with_reducible rfl) ?_ | (refine al_gf rfl rfl rfl (by with_reducible rfl) (by assumption) ?_) | (refine aw_cond_df rfl (by with_reducible rfl) (by first | assumption | omega) ?_) | (refine aw_cond_b rfl (by with_reducible rfl) (fun hc => ?_) (fun hc => ?_)))
  all_goals first
    | (refine aq_ret1 (by first | exact .inl rfl | exact .inr rfl) rfl (.tmp _ _ rfl) (fun _ => ?_)
       exact Fin.flat rfl)
    | (exfalso; simp at hc; done)
/-- The law, with its arguments as the row's data give them. -/
theorem fnExactLibraryAnswer_any (w : World) (k : Int) (hk : i64 k) (s : ByteArray) (hs : s.size ≤ maxLen) (hm : MaxL w) (ht : TabL w) : Calls Tryd.prog 4 #[.int .i64 k, .string s] w fun e w' => e = .returned (.bool true) ∧ Below w.heap.size w w' := by
  have h0 : 0 < w.heap.size := by
    obtain ⟨m, hm⟩ := hm
    have := World.block_lt_of_cell? w _ hm
    omega
  refine (fnExactLibraryAnswer_ct k s hs w _ h0 ⟨hm, ht⟩ rfl ?_).mono ?_
  · intro i t v h1 h2
    match i, h1, h2 with
    | 0, h1, h2 => cases h1; cases h2; exact .int _ _
    | 1, h1, h2 => cases h1; cases h2; exact .str _
  · rintro e w' ⟨v, rfl, hb, hr⟩
    have := (hr 0 (Nat.zero_le _)).bool_inv
    subst this
    exact ⟨rfl, hb⟩
end Go.Proofs.YtdeokcbbjibkoaaDoor
