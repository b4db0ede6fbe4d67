/- Part 12 of the proof: the texts ShC, IvH, IvK, IvN, IvV, RsI. -/
import Derived.Test.YthpdkhejeookhaaGreatDoorPart11
import Derived.Test.YthpdkhejeookhaaGreatDoorPart6
import Derived.Test.YthpdkhejeookhaaGreatDoorPart9
import Derived.Test.YthpdkhejeookhaaGreatDoorPart5
import Derived.Test.YthpdkhejeookhaaGreatDoorPart10
/- slices.DeleteFunc on a row that the caller owns. -/
namespace Go.Proofs.YthpdkhejeookhaaGreatDoor
set_option maxRecDepth 20000
open Go Go.RowKit
section
variable {G : World → Prop}
set_option maxHeartbeats 1000000 in
theorem delFunc_ctm (hst : Stable G) {s b s5 b5 : Nat} {cells : List TV} {p : TEntry → Bool} (l : List TEntry) (hn : l.length ≤ 1048576)
    (hp : ∀ e : TEntry, Ct Tryz.prog G 44 [.agg [.int .i64 e.owner, .bool e.class_, .str e.selector, .int .i64 e.code], .cp 0 cells] (fun _ => .bool (p e))) :
    CtM Tryz.prog G 43 [.ms s b 0 l.length, .fn 44 [.mp s5 b5 0]] [(s, b, .row 4 (l.map (TEntry.tw 0))), (s5, b5, .box cells)] (fun _ : Unit => True)
      (fun _ => [(s, b, .row 4 ((l.filter (fun e => !p e)).map (TEntry.tw 0))), (s5, b5, .box cells)]) (fun _ => .ms s b 0 (l.filter (fun e => !p e)).length) := by
  refine ctm_enter Tryz.func43 rfl Tryz.ntmps43 rfl rfl rfl fun w0 R gs objsR hG hR => ?_
  obtain rfl := hR.inv2
  clear hR
  have hlen : (l.map (TEntry.tw 0)).length = l.length := List.length_map _
  have hix := idxFunc_ctm hst (s := s) (b := b) (s5 := s5) (b5 := b5) l hn hp
  by_cases hall : ∀ y ∈ l, p y = false
  · rw [idxP_none hall] at hix
    have hfl : l.filter (fun e => !p e) = l := List.filter_eq_self.2 fun y hy => by rw [hall y hy]; rfl
    rw [hfl]
    repeat' (first | ((with_reducible apply o_y); exact y_; rfl) | ((with_reducible apply o_callM); rfl; kernel_rfl; (repeat (first | exact ArgsM.nil | ((with_reducible apply ArgsM.cons); rfl))); exact hG; exact hix; exact .cons _ _ _ _ (.cons _ _ _ _ (.nil _)); intro y hy; refine al_app2 ?_) | with_reducible refine al_none rfl ?_ | (with_reducible first | apply aw_seq | apply aw_region | apply al_nil | apply aq_then | apply aw_ret | apply aq_then_ret) | (refine aw_cond_dt rfl rr_ dd_ ?_))
    exact aq_retm1 x_ rfl () trivial rfl (.cons _ _ _ _ (.cons _ _ _ _ (.nil _))) (.refl _) (.tmp _ _ rfl) rfl
  · obtain ⟨i, hi, hpi, hbe⟩ : ∃ i, ∃ h : i < l.length, p l[i] = true ∧ ∀ y ∈ l.take i, p y = false := by
      have hex : ∃ y ∈ l, p y = true := by
        obtain ⟨y, hy⟩ := Classical.not_forall.1 hall
        obtain ⟨hy, h2⟩ := Classical.not_imp.1 hy
        exact ⟨y, hy, by simpa using h2⟩
      have hlt : l.findIdx p < l.length := List.findIdx_lt_length.2 hex
      refine ⟨l.findIdx p, hlt, List.findIdx_getElem, fun y hy => ?_⟩
      obtain ⟨j, hj, rfl⟩ := List.mem_take_iff_getElem.1 hy
      simpa using List.not_of_lt_findIdx (p := p) (i := j) (by omega)
    rw [idxP_at hi hpi hbe] at hix
    have hF : (l.take i).filter (fun e => !p e) = l.take i := List.filter_eq_self.2 fun y hy => by rw [hbe y hy]; rfl
    have hstart : delI p l (i + 1, l) := by
      have e := filt_skip (fun e => !p e) hi (by simp [hpi])
      rw [hF] at e
      have el : (l.take i).length = i := by rw [List.length_take]; omega
      refine ⟨by dsimp only; omega, rfl, ?_, rfl, ?_⟩ <;> dsimp only <;> rw [e]
      · rw [el]
      · omega
    have hk0 : ((l.take (i + 1)).filter (fun e => !p e)).length = i := by
      rw [filt_skip (fun e => !p e) hi (by simp [hpi]), hF, List.length_take]; omega
    have hi2 : ¬ ((i : Int) = -1) := by omega
    repeat' (first | ((with_reducible apply o_y); exact y_; rfl) | ((with_reducible apply o_callM); rfl; kernel_rfl; (repeat (first | exact ArgsM.nil | ((with_reducible apply ArgsM.cons); rfl))); exact hG; exact hix; exact .cons _ _ _ _ (.cons _ _ _ _ (.nil _)); intro y hy; refine al_app2 ?_) | with_reducible refine al_none rfl ?_ | (with_reducible first | apply aw_seq | apply aw_region | apply al_nil | apply aq_then | apply aw_block | apply aw_skip) | (refine aw_cond_df rfl rr_ dd_ ?_))
    rw [← hk0]
    apply aw_loopk (X := Nat × List TEntry) [0, 1, 1000000] (fun y => [(6, .int .i64 (y.1 : Int)), (5, .int .i64 (((l.take y.1).filter (fun e => !p e)).length : Int))]) (fun y => (s, b, .row 4 (y.2.map (TEntry.tw 0))) :: (s5, b5, .box cells) :: R) (delI p l) (fun y => l.length - y.1) (i + 1, l) hstart
    · repeat (first | exact Kept.nil | (apply Kept.cons; rfl))
    · refine Weak.envCons (by dsimp only; rw [hk0]; rfl) (Weak.envCons (by dsimp only; rw [hk0]; rfl) Weak.envNil)
    · exact .refl _
    rintro ⟨j, c⟩ hI
    have h1 := hI.1
    have h2 := hI.2.1
    have h3 := hI.2.2.1
    have h4 := hI.2.2.2.1
    have h5 := hI.2.2.2.2
    dsimp only at h1 h2 h3 h4 h5 ⊢
    have hcl : (c.map (TEntry.tw 0)).length = l.length := by rw [List.length_map, h2]
    by_cases hlt : j < l.length
    · have hcj : c[j]'(by omega) = l[j] := by
        have e1 : (c.drop j)[0]'(by rw [List.length_drop]; omega) = (l.drop j)[0]'(by rw [List.length_drop]; omega) := by simp only [h4]
        simpa using e1
      have hra : (c.map (TEntry.tw 0))[j]? = some (l[j].tw 0) := by rw [← hcj]; exact row_map (by omega)
      have hsk := delI_skip hI hlt
      have hke := delI_keep hI hlt
      have hct := hp l[j]
      generalize l[j] = e at hra hsk hke hct
      rw [show e.tw 0 = [.int .i64 e.owner, .bool e.class_, .str e.selector, .int .i64 e.code] from rfl] at hra
      cases hpe : p e
      · rw [hpe] at hct
        obtain ⟨k1, k2⟩ := hke hpe
        clear hsk hke h3 h4 hcj
        generalize hk : ((l.take j).filter (fun e => !p e)).length = k at *
        have hrk : (c.map (TEntry.tw 0))[k]? = some ((c[k]'(by omega)).tw 0) := row_map (by omega)
        generalize c[k]'(by omega) = e2 at hrk
        rw [show e2.tw 0 = [.int .i64 e2.owner, .bool e2.class_, .str e2.selector, .int .i64 e2.code] from rfl] at hrk
        have hset : (c.map (TEntry.tw 0)).set k [.int .i64 e.owner, .bool e.class_, .str e.selector, .int .i64 e.code] = (c.set k e).map (TEntry.tw 0) := by rw [List.map_set]; rfl
        repeat' (first | ((with_reducible apply o_y); exact y_; rfl) | (refine e_alloc ?_; intro ss bb) | refine e_storep ?_ | refine e_store ?_ | ((with_reducible apply o_callF); rfl; rfl; kernel_rfl; exact hG; exact hst; (repeat (first | exact Args.nil | ((with_reducible apply Args.cons); rfl; exact .same _))); (repeat (first | exact Views.nil | ((with_reducible apply Views.cons); (((with_reducible apply View.mpSame); (repeat (first | with_reducible exact mh | with_reducible refine mt ?_))))))); rfl; exact hct) | with_reducible refine al_none rfl ?_ | (with_reducible first | apply aw_seq | apply aw_region | apply al_nil | apply aq_then | apply aw_block | apply aw_skip | apply aq_block) | refine aw_cond_t rfl rr_ ?_ | (refine aw_cond_dt rfl rr_ dd_ ?_))
        refine aq_round (j + 1, c.set k e) k1 (by dsimp only; omega) (.of _ (by dsimp only; rw [k2]; exact (by repeat (first | exact Weak.envNil | refine Weak.envCons we_ ?_))) od_ ?_)
        dsimp only
        rw [← hset]
        exact .drop (.refl _)
      · rw [hpe] at hct
        obtain ⟨k1, k2⟩ := hsk hpe
        repeat' (first | ((with_reducible apply o_y); exact y_; rfl) | (refine e_alloc ?_; intro ss bb) | refine e_storep ?_ | ((with_reducible apply o_callF); rfl; rfl; kernel_rfl; exact hG; exact hst; (repeat (first | exact Args.nil | ((with_reducible apply Args.cons); rfl; exact .same _))); (repeat (first | exact Views.nil | ((with_reducible apply Views.cons); (((with_reducible apply View.mpSame); (repeat (first | with_reducible exact mh | with_reducible refine mt ?_))))))); rfl; exact hct) | with_reducible refine al_none rfl ?_ | (with_reducible first | apply aw_seq | apply aw_region | apply al_nil | apply aq_then | apply aw_block | apply aw_skip | apply aq_block) | refine aw_cond_f rfl rr_ ?_ | (refine aw_cond_dt rfl rr_ dd_ ?_))
        refine aq_round (j + 1, c) k1 (by dsimp only; omega) (.of _ (by dsimp only; rw [k2]; exact (by repeat (first | exact Weak.envNil | refine Weak.envCons we_ ?_))) od_ ?_)
        exact .drop (.refl _)
    · obtain rfl : j = l.length := by omega
      rw [List.take_of_length_le (Nat.le_refl _)] at h3 h5 ⊢
      have hclr : (c.map (TEntry.tw 0)).take (0 + (l.filter (fun e => !p e)).length) = (l.filter (fun e => !p e)).map (TEntry.tw 0) := by rw [Nat.zero_add, ← List.map_take, h3]
      generalize l.filter (fun e => !p e) = F at h5 hclr ⊢
      repeat' (first | ((with_reducible apply o_y); exact y_; rfl) | refine e_slms ?_ | ((with_reducible apply o_clear); rfl; rfl; kernel_rfl; kernel_rfl; (repeat (with_reducible exact Upd.head _)); rfl; omega; exact hclr) | ((with_reducible apply o_slice_h_ms); rfl; rfl; rfl; (repeat (with_reducible exact mh)); kernel_rfl; kernel_rfl; ((with_reducible exact rfl)); (omega)) | with_reducible refine al_none rfl ?_ | (with_reducible first | apply aw_seq | apply aw_region | apply al_nil | apply aq_then | apply aw_exit | apply aw_ret | apply aq_block_hit | apply aq_then_exit) | (refine aw_cond_df rfl rr_ dd_ ?_))
      exact aq_retm1 x_ rfl () trivial rfl (.cons _ _ _ _ (.cons _ _ _ _ (.nil _))) (.refl _) (.tmp _ _ rfl) rfl
end
end Go.Proofs.YthpdkhejeookhaaGreatDoor
/- IsVerified: the classes, on the side of the program (classesOk). -/
namespace Go.Proofs.YthpdkhejeookhaaGreatDoor
set_option maxRecDepth 20000
open Go Go.RowKit
section
variable {G : World → Prop}
set_option maxRecDepth 4000 in
set_option maxHeartbeats 4000000 in
theorem classesOk_ct (hst : Stable G) (lo : Nat) (l : List TClassInfo) (hsm : l.length ≤ 1048576 ∧ ∀ y ∈ l, TClassInfo.small 1048576 y) : Ct Tryz.prog G 117 [.sl lo 3 (l.map (TClassInfo.tw lo))] (fun _ => .bool (classesOkB l)) := by
  refine ct_enter Tryz.func117 rfl Tryz.ntmps117 rfl rfl fun w0 _ hG => ?_
  have hlen := TClassInfo.len lo l
  have hbl := TClassInfo.len w0.heap.size builtinL
  rw [builtin_len] at hbl
  have hl1 := hsm.1
  have hwi := within_ct (G := G) (l.length : Int) 16 24
  by_cases hl : 16 ≤ l.length ∧ l.length ≤ 24
  · rw [inR_t (by omega)] at hwi
    repeat' (first | ((with_reducible apply o_y); exact y_; rfl) | refine e_call hG hst (hwi) ?_ | with_reducible refine al_none rfl ?_ | (with_reducible first | apply aw_seq | apply aw_region | apply al_nil | apply aq_then | apply aw_block | apply aw_skip) | refine aw_cond_f rfl rr_ ?_)
    apply aw_loopk (X := Nat) [0, 15, 16] (fun i => [(17, .int .i64 (i : Int))]) (fun _ => []) (fun i => i ≤ l.length ∧ ∀ j, j < i → ∀ h : j < l.length, classOk l j l[j]) (fun i => l.length - i) 0 ⟨Nat.zero_le _, by simp⟩
    exact kp_; (repeat (first | exact Weak.envNil | refine Weak.envCons we_ ?_))
    · exact .nil _
    rintro i ⟨hi, hk⟩
    try dsimp only
    by_cases hlt : i < l.length
    · have hra : (l.map (TClassInfo.tw lo))[i]? = some (l[i].tw lo) := row_map hlt
      have hbi := hsm.2 _ (List.getElem_mem hlt)
      have hbad := classesOk_bad hlt
      have hks : classOk l i l[i] → ∀ j, j < i + 1 → ∀ h : j < l.length, classOk l j l[j] := fun ho => below_succ hk fun _ => ho
      generalize l[i] = x at hra hbi hbad hks
      rw [show x.tw lo = [.str x.name, .int .i64 x.parent, .sl lo 1 (strR x.fields)] from rfl] at hra
      by_cases hlow : i < 16
      · obtain ⟨bi, hb, _, _, h3, _⟩ := builtin_at hlow
        have hrb : (builtinL.map (TClassInfo.tw w0.heap.size))[i]? = some [.str bi.name, .int .i64 bi.parent, .sl w0.heap.size 1 (strR bi.fields)] := by rw [List.getElem?_map, hb]; rfl
        rw [classOk_low hlow hb] at hbad hks
        have hbf : bi.fields.length ≤ 1048576 := by rw [← h3]; unfold bfields; split <;> simp
        have heq := slicesEqual_ct (G := G) lo w0.heap.size x.fields bi.fields hbi.2.1 hbf
        clear h3
        by_cases ho : x.name = bi.name ∧ x.parent = bi.parent ∧ x.fields = bi.fields
        · have n1 : ¬ x.name ≠ bi.name := fun h => h ho.1
          have n2 : ¬ x.parent ≠ bi.parent := fun h => h ho.2.1
          rw [decide_eq_true ho.2.2] at heq
          repeat' (first | ((with_reducible apply o_y); exact y_; rfl) | (refine e_alloc ?_; intro ss bb) | refine e_storep ?_ | refine e_call hG hst (builtinInfos_ct hst) ?_ | refine e_call hG hst (heq) ?_ | with_reducible refine al_none rfl ?_ | (with_reducible first | apply aw_seq | apply aw_region | apply al_nil | apply aq_then | apply aw_block | apply aw_exit | apply aw_skip | apply aq_block_hit | apply aq_then_exit) | refine al_run rfl rfl rfl rr_ ?_ | (refine al_gf rfl rfl rfl rr_ dd_ ?_) | refine aw_cond_f rfl rr_ ?_ | (refine aw_cond_dt rfl rr_ dd_ ?_))
          exact aq_round (i + 1) ⟨by omega, hks ho⟩ (by omega) (.of _ nw_ od_ (Pick.nil _))
        · rw [hbad ho]
          clear hks hbad
          by_cases hfe : x.fields = bi.fields
          · rw [decide_eq_true hfe] at heq
            repeat' (first | ((with_reducible apply o_y); exact y_; rfl) | (refine e_alloc ?_; intro ss bb) | refine e_storep ?_ | refine e_call hG hst (builtinInfos_ct hst) ?_ | refine e_call hG hst (heq) ?_ | with_reducible refine al_none rfl ?_ | (with_reducible first | apply aw_seq | apply aw_region | apply al_nil | apply aq_then | apply aw_block | apply aw_exit | apply aw_skip | apply aw_ret | apply aq_block_hit | apply aq_then_exit | apply aq_then_ret | apply aq_block_ret) | refine al_run rfl rfl rfl rr_ ?_ | refine al_skip rfl rfl rfl rr_ rfl rfl rfl ?_ | (refine al_gsplit rfl rfl rfl rr_ (fun hg => ?_) (fun hg => ?_)) | refine aw_cond_t rfl rr_ ?_ | refine aw_cond_f rfl rr_ ?_ | (refine aw_cond_dt rfl rr_ dd_ ?_))
            all_goals first
              | (exfalso; exact ho ⟨Decidable.of_not_not (by assumption), Decidable.of_not_not (by assumption), hfe⟩)
              | (refine aq_ret1 x_ rfl (.tmp _ _ rfl) (fun _ => ?_)
                 exact Fin.flat rfl)
          · rw [decide_eq_false hfe] at heq
            repeat' (first | ((with_reducible apply o_y); exact y_; rfl) | (refine e_alloc ?_; intro ss bb) | refine e_storep ?_ | refine e_call hG hst (builtinInfos_ct hst) ?_ | refine e_call hG hst (heq) ?_ | with_reducible refine al_none rfl ?_ | (with_reducible first | apply aw_seq | apply aw_region | apply al_nil | apply aq_then | apply aw_block | apply aw_skip | apply aw_ret | apply aq_then_ret | apply aq_block_ret) | refine al_run rfl rfl rfl rr_ ?_ | refine al_skip rfl rfl rfl rr_ rfl rfl rfl ?_ | (refine al_gsplit rfl rfl rfl rr_ (fun hg => ?_) (fun hg => ?_)) | refine aw_cond_t rfl rr_ ?_ | (refine aw_cond_dt rfl rr_ dd_ ?_))
            all_goals
              refine aq_ret1 x_ rfl (.tmp _ _ rfl) (fun _ => ?_)
              exact Fin.flat rfl
      · rw [classOk_high hlow] at hbad hks
        obtain ⟨nm, par, fs⟩ := x
        dsimp only at hra hbi hbad hks
        have hx1 : nm.size ≤ 1048576 := hbi.1
        have hx2 : fs.length ≤ 1048576 := hbi.2.1
        have hx3 : ∀ y ∈ fs, ByteArray.size y ≤ 1048576 := hbi.2.2
        have hfl := strR_len fs
        clear hbl
        repeat' (first | ((with_reducible apply o_y); exact y_; rfl) | (refine e_alloc ?_; intro ss bb) | refine e_storep ?_ | with_reducible refine aw_hold_r (id := 10) ?_ | with_reducible refine al_none rfl ?_ | (with_reducible first | apply aw_seq | apply aw_region | apply al_nil | apply aq_then | apply aw_block | apply aw_skip) | (refine aw_cond_dt rfl rr_ dd_ ?_) | (refine aw_cond_df rfl rr_ dd_ ?_))
        refine ⟨aw_seq ?_⟩
        generalize ss = s3; generalize bb = b3
        apply aw_join (X := Unit) [0, 3, 4, 15, 16, 17] (fun _ => [(70, .bool (!decide (classHead l i ⟨nm, par, fs⟩)))]) (fun _ => [(s3, b3, .box [.str nm, .int .i64 par, .sl lo 1 (strR fs)])]) (fun _ => True)
        case hk => (repeat (first | exact Kept.nil | (apply Kept.cons; rfl)))
        · repeat' (first | ((with_reducible apply o_y); exact y_; rfl) | refine e_call hG hst (implIsName_ct _ hx1) ?_ | refine e_call hG hst (within_ct _ _ _) ?_ | with_reducible refine al_none rfl ?_ | (with_reducible first | apply aw_region | apply al_nil) | refine al_run rfl rfl rfl rr_ ?_ | refine al_skip rfl rfl rfl rr_ rfl rfl rfl ?_ | (refine al_gsplit_b rfl rfl rfl rr_ (fun hg => ?_) (fun hg => ?_)))
          all_goals
            refine aq_mid () trivial (.of _ (Weak.envCons (lk_bool rfl ?_) Weak.envNil) od_ pk_)
            clear hbad hks hk hra hbi
            simp only [Bool.not_eq_true', Bool.not_eq_false', inR, decide_eq_true_eq, decide_eq_false_iff_not] at *
            by_cases h8 : (8 : Int) < (fs.length : Int)
            all_goals (try simp only [h8, decide_true, decide_false])
            all_goals first
              | (have : classHead l i ⟨nm, par, fs⟩ := ⟨by assumption, by dsimp only; omega, by dsimp only; omega, by dsimp only; omega⟩
                 simp only [decide_eq_true this, Bool.not_true]
                 done)
              | (have : ¬ classHead l i ⟨nm, par, fs⟩ := fun h => by
                   obtain ⟨h1, h2, h3, h4⟩ := h
                   dsimp only at h1 h2 h3 h4
                   first
                     | omega
                     | (simp only [h1] at *; done)
                     | (simp_all; done)
                 simp only [decide_eq_false this, Bool.not_false]
                 done)
        intro _ _
        by_cases hh : classHead l i ⟨nm, par, fs⟩
        · rw [decide_eq_true hh, Bool.not_true]
          have hh2 := hh.2
          obtain ⟨⟨hp0, hp1⟩, _, hf8⟩ := hh2
          dsimp only at hp0 hp1 hf8
          obtain ⟨p, rfl⟩ : ∃ p : Nat, par = p := ⟨par.toNat, by omega⟩
          have hpl : p < l.length := by omega
          have hrp : (l.map (TClassInfo.tw lo))[p]? = some (l[p].tw lo) := row_map hpl
          have hbp := hsm.2 _ (List.getElem_mem hpl)
          have hpf := parentFields_eq (x := ⟨nm, (p : Int), fs⟩) rfl (List.getElem?_eq_getElem hpl)
          generalize l[p] = y at hrp hbp hpf
          obtain ⟨pn, pp, pf⟩ := y
          replace hrp : (l.map (TClassInfo.tw lo))[p]? = some [.str pn, .int .i64 pp, .sl lo 1 (strR pf)] := hrp
          have hx4 : pf.length ≤ 1048576 := hbp.2.1
          have hpl2 := strR_len pf
          have htl : ((l.map (TClassInfo.tw lo)).take i).length = i := by simp; omega
          repeat' (first | ((with_reducible apply o_y); exact y_; rfl) | refine e_slh ?_ | with_reducible refine al_none rfl ?_ | (with_reducible first | apply aw_seq | apply aw_region | apply al_nil | apply aq_then | apply aw_block | apply aw_skip) | refine aw_cond_f rfl rr_ ?_)
          apply aw_loopk (X := Nat) [0, 3, 4, 15, 16, 17, 73, 74] (fun k => [(75, .int .i64 (k : Int))]) (fun _ => [(s3, b3, .box [.str nm, .int .i64 (p : Int), .sl lo 1 (strR fs)])]) (fun k => k ≤ i ∧ ∀ y ∈ l.take k, y.name ≠ nm) (fun k => i - k) 0 ⟨Nat.zero_le _, by simp⟩
          exact kp_; (repeat (first | exact Weak.envNil | refine Weak.envCons we_ ?_))
          · exact .refl _
          rintro k ⟨hki, hkn⟩
          try dsimp only
          by_cases hlk : k < i
          · have hlk2 : k < l.length := by omega
            have hrk : ((l.map (TClassInfo.tw lo)).take i)[k]? = some (l[k].tw lo) := by rw [List.getElem?_take_of_lt hlk]; exact row_map hlk2
            have hta := take_all (p := fun y : TClassInfo => y.name ≠ nm) hlk2 hkn
            have hmem : l[k] ∈ l.take i := List.mem_take_iff_getElem.2 ⟨k, by omega, rfl⟩
            generalize l[k] = z at hrk hta hmem
            obtain ⟨zn, zp, zf⟩ := z
            replace hrk : ((l.map (TClassInfo.tw lo)).take i)[k]? = some [.str zn, .int .i64 zp, .sl lo 1 (strR zf)] := hrk
            by_cases hzn : zn = nm
            · rw [hbad fun h => h.2.1 _ hmem hzn]
              repeat' (first | ((with_reducible apply o_y); exact y_; rfl) | (refine e_alloc ?_; intro ss bb) | refine e_storep ?_ | with_reducible refine al_none rfl ?_ | (with_reducible first | apply aw_seq | apply aw_region | apply al_nil | apply aq_then | apply aw_block | apply aw_skip | apply aw_ret | apply aq_then_ret | apply aq_block_ret) | (refine aw_cond_dt rfl rr_ dd_ ?_))
              refine aq_ret1 x_ rfl (.tmp _ _ rfl) (fun _ => ?_)
              exact Fin.flat rfl
            · repeat' (first | ((with_reducible apply o_y); exact y_; rfl) | (refine e_alloc ?_; intro ss bb) | refine e_storep ?_ | with_reducible refine al_none rfl ?_ | (with_reducible first | apply aw_seq | apply aw_region | apply al_nil | apply aq_then | apply aw_block | apply aw_skip | apply aq_block) | (refine aw_cond_dt rfl rr_ dd_ ?_) | (refine aw_cond_df rfl rr_ dd_ ?_))
              exact aq_round (k + 1) ⟨by omega, hta hzn⟩ (by omega) (.of _ nw_ od_ pk_)
          · obtain rfl : k = i := by omega
            clear hlk
            by_cases hhe : pf.length ≤ fs.length ∧ fs.take pf.length = pf
            · have heq := slicesEqual_ct (G := G) lo lo (fs.take pf.length) pf (by simp; omega) hx4
              rw [decide_eq_true hhe.2] at heq
              have hsl : (strR fs).take pf.length = strR (fs.take pf.length) := by simp [strR, List.map_take]
              have hle := hhe.1
              repeat' (first | ((with_reducible apply o_y); exact y_; rfl) | refine e_slh ?_ | refine e_call hG hst (heq) ?_ | with_reducible refine al_none rfl ?_ | (with_reducible first | apply aw_seq | apply aw_region | apply al_nil | apply aq_then | apply aw_block | apply aw_exit | apply aw_skip | apply aq_block_hit | apply aq_then_exit) | refine al_run rfl rfl rfl rr_ ?_ | (refine al_gf rfl rfl rfl rr_ dd_ ?_) | refine aw_cond_f rfl rr_ ?_ | (refine aw_cond_df rfl rr_ dd_ ?_))
              apply aw_loopk (X := Nat) [0, 3, 4, 8, 15, 16, 17, 108, 109] (fun k => [(110, .int .i64 (k : Int))]) (fun _ => [(s3, b3, .box [.str nm, .int .i64 (p : Int), .sl lo 1 (strR fs)])]) (fun k => k ≤ fs.length ∧ ∀ j, j < k → ∀ h : j < fs.length, fieldAt fs j fs[j] = true) (fun k => fs.length - k) 0 ⟨Nat.zero_le _, by omega⟩
              exact kp_; (repeat (first | exact Weak.envNil | refine Weak.envCons we_ ?_))
              · exact .refl _
              rintro q ⟨hq, hqa⟩
              try dsimp only
              by_cases hqf : q < fs.length
              · have hfr := strR_row hqf
                have hqs := hx3 _ (List.getElem_mem hqf)
                have hqb := fieldsOk_bad hqf
                have hqn : fieldAt fs q fs[q] = true → ∀ j, j < q + 1 → ∀ h : j < fs.length, fieldAt fs j fs[j] = true := fun h => below_succ hqa fun _ => h
                generalize fs[q] = f at hfr hqs hqb hqn
                have hname := implIsName_ct (G := G) f hqs
                have hhas := slicesContains_ct (G := G) hst lo (fs.take q) f (by simp; omega)
                rw [idxS_has] at hhas
                have hsq : (strR fs).take q = strR (fs.take q) := by simp [strR, List.map_take]
                have hqle : q ≤ fs.length := hq
                by_cases hqo : fieldAt fs q f = true
                · have hqo2 := hqo
                  unfold fieldAt at hqo2
                  rw [Bool.and_eq_true, Bool.not_eq_true'] at hqo2
                  rw [hqo2.1] at hname
                  rw [hqo2.2] at hhas
                  repeat' (first | ((with_reducible apply o_y); exact y_; rfl) | refine e_slh ?_ | refine e_call hG hst (hname) ?_ | refine e_call hG hst (hhas) ?_ | with_reducible refine al_none rfl ?_ | (with_reducible first | apply aw_seq | apply aw_region | apply al_nil | apply aq_then | apply aw_block | apply aw_skip | apply aq_block) | refine al_run rfl rfl rfl rr_ ?_ | refine aw_cond_f rfl rr_ ?_ | (refine aw_cond_dt rfl rr_ dd_ ?_))
                  exact aq_round (q + 1) ⟨by omega, hqn hqo⟩ (by omega) (.of _ nw_ od_ pk_)
                · rw [hbad fun h => hqb (Bool.eq_false_iff.2 hqo) h.2.2.2]
                  by_cases hqs1 : isNameL f.data.toList = true
                  · have hqs2 : hasS (fs.take q) f = true := by
                      unfold fieldAt at hqo
                      rw [hqs1, Bool.true_and] at hqo
                      simpa using hqo
                    rw [hqs1] at hname
                    rw [hqs2] at hhas
                    repeat' (first | ((with_reducible apply o_y); exact y_; rfl) | refine e_slh ?_ | refine e_call hG hst (hname) ?_ | refine e_call hG hst (hhas) ?_ | with_reducible refine al_none rfl ?_ | (with_reducible first | apply aw_seq | apply aw_region | apply al_nil | apply aq_then | apply aw_block | apply aw_skip | apply aw_ret | apply aq_then_ret | apply aq_block_ret) | refine al_run rfl rfl rfl rr_ ?_ | refine aw_cond_t rfl rr_ ?_ | (refine aw_cond_dt rfl rr_ dd_ ?_))
                    refine aq_ret1 x_ rfl (.tmp _ _ rfl) (fun _ => ?_)
                    exact Fin.flat rfl
                  · rw [Bool.eq_false_iff.2 hqs1] at hname
                    repeat' (first | ((with_reducible apply o_y); exact y_; rfl) | refine e_call hG hst (hname) ?_ | with_reducible refine al_none rfl ?_ | (with_reducible first | apply aw_seq | apply aw_region | apply al_nil | apply aq_then | apply aw_block | apply aw_skip | apply aw_ret | apply aq_then_ret | apply aq_block_ret) | refine al_skip rfl rfl rfl rr_ rfl rfl rfl ?_ | refine aw_cond_t rfl rr_ ?_ | (refine aw_cond_dt rfl rr_ dd_ ?_))
                    refine aq_ret1 x_ rfl (.tmp _ _ rfl) (fun _ => ?_)
                    exact Fin.flat rfl
              · obtain rfl : q = fs.length := by omega
                repeat' (first | ((with_reducible apply o_y); exact y_; rfl) | with_reducible refine al_none rfl ?_ | (with_reducible first | apply aw_seq | apply aw_region | apply al_nil | apply aq_then | apply aw_exit | apply aq_block_hit | apply aq_then_exit | apply aq_block) | (refine aw_cond_df rfl rr_ dd_ ?_))
                exact aq_round (k + 1) ⟨by omega, hks ⟨hh, hkn, ⟨by rw [hpf]; exact hhe.1, by rw [hpf]; exact hhe.2⟩, fun j hj => hqa j hj hj⟩⟩ (by omega) (.of _ nw_ od_ (Pick.nil _))
            · rw [hbad fun h => hhe (by have := h.2.2.1; unfold heirs at this; rw [hpf] at this; exact this)]
              by_cases hle : pf.length ≤ fs.length
              · have heq := slicesEqual_ct (G := G) lo lo (fs.take pf.length) pf (by simp; omega) hx4
                rw [decide_eq_false fun h => hhe ⟨hle, h⟩] at heq
                have hsl : (strR fs).take pf.length = strR (fs.take pf.length) := by simp [strR, List.map_take]
                repeat' (first | ((with_reducible apply o_y); exact y_; rfl) | refine e_slh ?_ | refine e_call hG hst (heq) ?_ | with_reducible refine al_none rfl ?_ | (with_reducible first | apply aw_seq | apply aw_region | apply al_nil | apply aq_then | apply aw_exit | apply aw_ret | apply aq_block_hit | apply aq_then_exit | apply aq_then_ret | apply aq_block_ret) | refine al_run rfl rfl rfl rr_ ?_ | (refine al_gf rfl rfl rfl rr_ dd_ ?_) | refine aw_cond_t rfl rr_ ?_ | (refine aw_cond_df rfl rr_ dd_ ?_))
                refine aq_ret1 x_ rfl (.tmp _ _ rfl) (fun _ => ?_)
                exact Fin.flat rfl
              · repeat' (first | ((with_reducible apply o_y); exact y_; rfl) | with_reducible refine al_none rfl ?_ | (with_reducible first | apply aw_seq | apply aw_region | apply al_nil | apply aq_then | apply aw_exit | apply aw_ret | apply aq_block_hit | apply aq_then_exit | apply aq_then_ret | apply aq_block_ret) | refine al_skip rfl rfl rfl rr_ rfl rfl rfl ?_ | (refine al_gt rfl rfl rfl rr_ dd_ ?_) | refine aw_cond_t rfl rr_ ?_ | (refine aw_cond_df rfl rr_ dd_ ?_))
                refine aq_ret1 x_ rfl (.tmp _ _ rfl) (fun _ => ?_)
                exact Fin.flat rfl
        · rw [decide_eq_false hh, Bool.not_false, hbad fun h => hh h.1]
          repeat' (first | ((with_reducible apply o_y); exact y_; rfl) | with_reducible refine al_none rfl ?_ | (with_reducible first | apply aw_seq | apply aw_region | apply al_nil | apply aq_then | apply aw_ret | apply aq_then_ret | apply aq_block_ret) | refine aw_cond_t rfl rr_ ?_)
          refine aq_ret1 x_ rfl (.tmp _ _ rfl) (fun _ => ?_)
          exact Fin.flat rfl
    · rw [classesOk_good hl fun j hj => hk j (by omega)]
      repeat' (first | ((with_reducible apply o_y); exact y_; rfl) | with_reducible refine al_none rfl ?_ | (with_reducible first | apply aw_seq | apply aw_region | apply al_nil | apply aq_then | apply aw_exit | apply aw_ret | apply aq_block_hit | apply aq_then_exit) | (refine aw_cond_df rfl rr_ dd_ ?_))
      refine aq_ret1 x_ rfl (.tmp _ _ rfl) (fun _ => ?_)
      exact Fin.flat rfl
  · rw [inR_f (by omega)] at hwi
    rw [classesOk_len hl]
    repeat' (first | ((with_reducible apply o_y); exact y_; rfl) | refine e_call hG hst (hwi) ?_ | with_reducible refine al_none rfl ?_ | (with_reducible first | apply aw_seq | apply aw_region | apply al_nil | apply aq_then | apply aw_ret | apply aq_then_ret) | refine aw_cond_t rfl rr_ ?_)
    refine aq_ret1 x_ rfl (.tmp _ _ rfl) (fun _ => ?_)
    exact Fin.flat rfl
end
end Go.Proofs.YthpdkhejeookhaaGreatDoor
/- IsVerified: the codes around each code, on the side of the program (outers). -/
namespace Go.Proofs.YthpdkhejeookhaaGreatDoor
set_option maxRecDepth 20000
open Go Go.RowKit
section
variable {G : World → Prop}
set_option maxRecDepth 4000 in
set_option maxHeartbeats 4000000 in
theorem outers_ct (hst : Stable G) (lo : Nat) (ccl cen : TV) (cs : List TCode) (mn : Int) (hne : 1 ≤ cs.length) (hcs : cs.length ≤ 1048576 ∧ ∀ y ∈ cs, TCode.small 1048576 y) :
    Ct Tryz.prog G 99 [.agg [ccl, .sl lo 4 (cs.map (TCode.tw lo)), cen, .int .i64 mn]] (outR cs) := by
  refine ct_enter Tryz.func99 rfl Tryz.ntmps99 rfl rfl fun w0 _ hG => ?_
  have hl2 := TCode.len lo cs
  have hcl := hcs.1
  have hrep := fun lo => repeat_ct (G := G) lo cs.length hne hcl
  repeat' (first | ((with_reducible apply o_y); exact y_; rfl) | refine e_box ?_ | refine e_lit ?_ | ((with_reducible apply o_callM); rfl; kernel_rfl; (repeat (first | exact ArgsM.nil | ((with_reducible apply ArgsM.cons); rfl))); exact hG; exact hrep _; exact .nil _; intro y _; obtain ⟨ss, bb⟩ := y; refine al_app1 ?_) | with_reducible refine aw_hold_r (id := 2) ?_ | with_reducible refine al_none rfl ?_ | (with_reducible first | apply aw_seq | apply aw_region | apply al_nil | apply aq_then))
  refine ⟨?_⟩
  generalize ss = sd; generalize bb = bd
  have hst0 : outFrom cs 0 (List.replicate cs.length (-1)) = outersL cs := rfl
  have hin0 := outInv_zero cs.length
  unfold outR
  generalize outersL cs = R at hst0
  generalize List.replicate cs.length (-1 : Int) = o0 at hst0 hin0
  repeat' (first | ((with_reducible apply o_y); exact y_; rfl) | with_reducible refine al_none rfl ?_ | (with_reducible first | apply aw_seq | apply aw_region | apply al_nil | apply aq_then | apply aw_block))
  apply aw_loopk (X := Nat × List Int) [1, 4, 17, 18] (fun x => [(19, .int .i64 (x.1 : Int))]) (fun x => [(sd, bd, .row 1 (intR x.2))]) (fun x => x.1 ≤ cs.length ∧ outInv cs.length x.2 ∧ outFrom cs x.1 x.2 = R) (fun x => cs.length - x.1) (0, o0) ⟨Nat.zero_le _, hin0, hst0⟩
  exact kp_; (repeat (first | exact Weak.envNil | refine Weak.envCons we_ ?_))
  · exact .refl _
  clear hin0 hst0
  rintro ⟨i, o⟩ ⟨hi, hin, hR⟩
  dsimp only at hi hin hR ⊢
  have hol : (intR o).length = cs.length := by rw [intR_length]; exact hin.1
  by_cases hlt : i < cs.length
  · have hra := tcode_row (lo := lo) hlt
    have hsm := hcs.2 _ (List.getElem_mem hlt)
    rw [outFrom_step hlt] at hR
    generalize cs[i] = c at hra hsm hR
    obtain ⟨cb, cp, csl, is⟩ := c
    dsimp only at hra hR
    have hil := TInstr.len lo is
    have hisl : is.length ≤ 1048576 := hsm.1
    repeat' (first | ((with_reducible apply o_y); exact y_; rfl) | (refine e_alloc ?_; intro ss bb) | refine e_storep ?_ | with_reducible refine al_none rfl ?_ | (with_reducible first | apply aw_seq | apply aw_region | apply al_nil | apply aq_then | apply aw_block | apply aw_skip) | (refine aw_cond_dt rfl rr_ dd_ ?_))
    apply aw_loopk (X := Nat × List Int) [1, 4, 5, 17, 18, 19, 25, 26] (fun x => [(27, .int .i64 (x.1 : Int))]) (fun x => [(sd, bd, .row 1 (intR x.2))]) (fun x => x.1 ≤ is.length ∧ outInv cs.length x.2 ∧ outRest cs i (is.drop x.1) x.2 = R) (fun x => is.length - x.1) (0, o) ⟨Nat.zero_le _, hin, hR⟩
    exact kp_; (repeat (first | exact Weak.envNil | refine Weak.envCons we_ ?_))
    · exact pk_
    clear hin hR hol
    rintro ⟨k, o⟩ ⟨hk, hin, hR⟩
    dsimp only at hk hin hR ⊢
    have hol : (intR o).length = cs.length := by rw [intR_length]; exact hin.1
    by_cases hlk : k < is.length
    · have hrk := tinstr_row (lo := lo) hlk
      rw [outRest_step hlk] at hR
      generalize is[k] = x at hrk hR
      obtain ⟨op, a, b, t⟩ := x
      unfold outI at hR
      dsimp only at hrk hR
      by_cases h15 : op = 15
      · rw [if_pos h15] at hR
        have h15' : ¬ op ≠ 15 := fun h => h h15
        by_cases hin2 : 0 ≤ a ∧ a ≤ (i : Int) - 1
        · have cin := within_ct (G := G) a 0 ((i - 1 : Nat) : Int)
          rw [inR_t (by omega)] at cin
          obtain ⟨q, rfl⟩ : ∃ q : Nat, a = q := ⟨a.toNat, by omega⟩
          have hql : q < o.length := by rw [hin.1]; omega
          have hrq := intR_gd hql
          have hqc : q < cs.length := by omega
          have hrc := tcode_row (lo := lo) hqc
          have hblk := fun o' k' hp hinv => outRest_noblock (cs := cs) (i := i) (k := k') (is := is) (o := o') (a := q) hlt hinv hqc hp
          generalize cs[q] = y at hrc hblk
          obtain ⟨yb, yp, ysl, yi⟩ := y
          dsimp only at hrc hblk
          by_cases hg : 0 ≤ gd o (q : Int)
          · rw [if_neg fun h => h.2 hg] at hR
            cases yb
            all_goals
              repeat' (first | ((with_reducible apply o_y); exact y_; rfl) | (refine e_alloc ?_; intro ss bb) | refine e_storep ?_ | refine e_call hG hst (cin) ?_ | with_reducible refine al_none rfl ?_ | (with_reducible first | apply aw_seq | apply aw_region | apply al_nil | apply aq_then | apply aw_block | apply aw_skip | apply aw_ret | apply aq_then_ret | apply aq_block_ret) | refine al_run rfl rfl rfl rr_ ?_ | refine al_skip rfl rfl rfl rr_ rfl rfl rfl ?_ | refine aw_cond_t rfl rr_ ?_ | (refine aw_cond_dt rfl rr_ dd_ ?_) | (refine aw_cond_df rfl rr_ dd_ ?_))
              refine aq_ret2 x_ rfl (.tmp _ _ rfl) (.tmp _ _ rfl) (fun _ => ?_) (fun _ => ?_)
              · exact fin_none hR.symm
              · exact fin_none_b hR.symm
          · rw [if_pos ⟨hin2, hg⟩, Int.toNat_natCast] at hR
            dsimp only at hR
            have hset := intR_set o q (i : Int)
            have hin3 := (outI_inv (n := cs.length) (i := i) (x := ⟨15, q, b, t⟩) (o := o) (o' := o.set q (i : Int)) hlt (by unfold outI; rw [if_pos rfl, if_pos ⟨hin2, hg⟩, Int.toNat_natCast]) hin).1
            cases yb
            case false =>
              have hno := hblk (o.set q (i : Int)) (k + 1) rfl hin3 (by rw [gd_set_eq hql]; omega)
              rw [hR] at hno
              repeat' (first | ((with_reducible apply o_y); exact y_; rfl) | (refine e_alloc ?_; intro ss bb) | refine e_storep ?_ | refine e_call hG hst (cin) ?_ | with_reducible refine al_none rfl ?_ | (with_reducible first | apply aw_seq | apply aw_region | apply al_nil | apply aq_then | apply aw_block | apply aw_skip | apply aw_ret | apply aq_then_ret | apply aq_block_ret) | refine al_run rfl rfl rfl rr_ ?_ | refine al_skip rfl rfl rfl rr_ rfl rfl rfl ?_ | refine aw_cond_t rfl rr_ ?_ | (refine aw_cond_dt rfl rr_ dd_ ?_) | (refine aw_cond_df rfl rr_ dd_ ?_))
              refine aq_ret2 x_ rfl (.tmp _ _ rfl) (.tmp _ _ rfl) (fun _ => ?_) (fun _ => ?_)
              · exact fin_none hno
              · exact fin_none_b hno
            repeat' (first | ((with_reducible apply o_y); exact y_; rfl) | (refine e_alloc ?_; intro ss bb) | refine e_storep ?_ | refine e_call hG hst (cin) ?_ | refine e_store ?_ | with_reducible refine al_none rfl ?_ | (with_reducible first | apply aw_seq | apply aw_region | apply al_nil | apply aq_then | apply aw_block | apply aw_skip | apply aq_block) | refine al_run rfl rfl rfl rr_ ?_ | (refine aw_cond_dt rfl rr_ dd_ ?_) | (refine aw_cond_df rfl rr_ dd_ ?_))
            rw [hset]
            refine aq_round (k + 1, o.set q (i : Int)) ⟨by dsimp only; omega, hin3, hR⟩ (by dsimp only; omega) (.of _ nw_ od_ pk_)
        · have cin := within_ct (G := G) a 0 ((i : Int) - 1)
          have cin' := within_ct (G := G) a 0 ((i - 1 : Nat) : Int)
          rw [inR_f hin2] at cin
          rw [if_neg fun h => hin2 h.1] at hR
          repeat' (first | ((with_reducible apply o_y); exact y_; rfl) | (refine e_alloc ?_; intro ss bb) | refine e_storep ?_ | refine e_call hG hst (cin) ?_ | with_reducible refine al_none rfl ?_ | (with_reducible first | apply aw_seq | apply aw_region | apply al_nil | apply aq_then | apply aw_block | apply aw_skip | apply aw_ret | apply aq_then_ret | apply aq_block_ret) | refine al_skip rfl rfl rfl rr_ rfl rfl rfl ?_ | refine aw_cond_t rfl rr_ ?_ | (refine aw_cond_dt rfl rr_ dd_ ?_) | (refine aw_cond_df rfl rr_ dd_ ?_))
          refine aq_ret2 x_ rfl (.tmp _ _ rfl) (.tmp _ _ rfl) (fun _ => ?_) (fun _ => ?_)
          · exact fin_none hR.symm
          · exact fin_none_b hR.symm
      · rw [if_neg h15] at hR
        dsimp only at hR
        repeat' (first | ((with_reducible apply o_y); exact y_; rfl) | (refine e_alloc ?_; intro ss bb) | refine e_storep ?_ | with_reducible refine al_none rfl ?_ | (with_reducible first | apply aw_seq | apply aw_region | apply al_nil | apply aq_then | apply aw_block | apply aw_exit | apply aw_skip | apply aq_block_hit | apply aq_then_exit) | (refine aw_cond_dt rfl rr_ dd_ ?_))
        refine aq_round (k + 1, o) ⟨by dsimp only; omega, hin, hR⟩ (by dsimp only; omega) (.of _ nw_ od_ pk_)
    · rw [outRest_end hlk] at hR
      repeat' (first | ((with_reducible apply o_y); exact y_; rfl) | with_reducible refine al_none rfl ?_ | (with_reducible first | apply aw_seq | apply aw_region | apply al_nil | apply aq_then | apply aw_exit | apply aq_block_hit | apply aq_then_exit | apply aq_block) | (refine aw_cond_df rfl rr_ dd_ ?_))
      refine aq_round (i + 1, o) ⟨by dsimp only; omega, hin, hR⟩ (by dsimp only; omega) (.of _ nw_ od_ pk_)
  · rw [outFrom_end hlt] at hR
    repeat' (first | ((with_reducible apply o_y); exact y_; rfl) | with_reducible refine al_none rfl ?_ | (with_reducible first | apply aw_seq | apply aw_region | apply al_nil | apply aq_then | apply aw_block | apply aw_exit | apply aq_block_hit | apply aq_then_exit) | (refine aw_cond_df rfl rr_ dd_ ?_))
    apply aw_loopk (X := Nat) [1, 4, 66, 67] (fun j => [(68, .int .i64 (j : Int))]) (fun _ => [(sd, bd, .row 1 (intR o))]) (fun j => j ≤ cs.length ∧ ∀ q, q < j → ∀ h : q < cs.length, cs[q].block = decide (0 ≤ gd o (q : Int))) (fun j => cs.length - j) 0 ⟨Nat.zero_le _, by omega⟩
    exact kp_; (repeat (first | exact Weak.envNil | refine Weak.envCons we_ ?_))
    · exact .refl _
    rintro j ⟨hj, hja⟩
    try dsimp only
    by_cases hlj : j < cs.length
    · have hra := tcode_row (lo := lo) hlj
      have hrj := intR_gd (o := o) (j := j) (by rw [hin.1]; exact hlj)
      have hbad := outFin_bad (o := o) hlj
      have hnx : cs[j].block = decide (0 ≤ gd o (j : Int)) → ∀ q, q < j + 1 → ∀ h : q < cs.length, cs[q].block = decide (0 ≤ gd o (q : Int)) := fun ho => below_succ hja fun _ => ho
      generalize cs[j] = c at hra hbad hnx
      obtain ⟨cb, cp, csl, is⟩ := c
      dsimp only at hra hbad hnx
      generalize gd o (j : Int) = v at hrj hbad hnx
      by_cases hb : cb = decide (0 ≤ v)
      · repeat' (first | ((with_reducible apply o_y); exact y_; rfl) | (refine e_alloc ?_; intro ss bb) | refine e_storep ?_ | with_reducible refine aw_draw (by kernel_rfl) (by kernel_rfl) ?_ | with_reducible refine dr_nil ?_ | with_reducible refine dr_none rfl ?_ | ((with_reducible apply d_y); exact y_; rfl) | with_reducible refine al_none rfl ?_ | (with_reducible first | apply aw_seq | apply aw_region | apply al_nil | apply aq_then | apply aw_block | apply aw_skip | apply aw_ret | apply aq_then_ret | apply aq_block_ret | apply aq_block) | (refine aw_cond_dt rfl rr_ dd_ ?_) | (refine aw_cond_b rfl rr_ (fun hc => ?_) (fun hc => ?_)))
        all_goals first
          | exact aq_round (j + 1) ⟨by omega, hnx hb⟩ (by omega) (.of _ nw_ od_ pk_)
          | (exfalso; simp_all; done)
      · rw [hbad hb] at hR
        repeat' (first | ((with_reducible apply o_y); exact y_; rfl) | (refine e_alloc ?_; intro ss bb) | refine e_storep ?_ | with_reducible refine aw_draw (by kernel_rfl) (by kernel_rfl) ?_ | with_reducible refine dr_nil ?_ | with_reducible refine dr_none rfl ?_ | ((with_reducible apply d_y); exact y_; rfl) | with_reducible refine al_none rfl ?_ | (with_reducible first | apply aw_seq | apply aw_region | apply al_nil | apply aq_then | apply aw_block | apply aw_skip | apply aw_ret | apply aq_then_ret | apply aq_block_ret | apply aq_block) | (refine aw_cond_dt rfl rr_ dd_ ?_) | (refine aw_cond_b rfl rr_ (fun hc => ?_) (fun hc => ?_)))
        all_goals first
          | (exfalso; simp_all; done)
          | (refine aq_ret2 x_ rfl (.tmp _ _ rfl) (.tmp _ _ rfl) (fun _ => ?_) (fun _ => ?_)
             · exact fin_none hR.symm
             · exact fin_none_b hR.symm)
    · rw [outFin_good fun q hq => hja q (by omega)] at hR
      repeat' (first | ((with_reducible apply o_y); exact y_; rfl) | with_reducible refine al_none rfl ?_ | (with_reducible first | apply aw_seq | apply aw_region | apply al_nil | apply aq_then | apply aw_exit | apply aw_ret | apply aq_block_hit | apply aq_then_exit) | (refine aw_cond_df rfl rr_ dd_ ?_))
      refine aq_ret2 x_ rfl (.tmp _ _ rfl) (.tmp _ _ rfl) (fun _ => ?_) (fun _ => ?_)
      · exact fin_some hR.symm hin.1 List.mem_cons_self
      · exact fin_some_b hR.symm
end
end Go.Proofs.YthpdkhejeookhaaGreatDoor
/- IsVerified: an instruction, on the side of the program (instrOk and its two function literals). -/
namespace Go.Proofs.YthpdkhejeookhaaGreatDoor
set_option maxRecDepth 20000
open Go Go.RowKit
section
variable {G : World → Prop}
theorem instrOk1_ct (hst : Stable G) (lo : Nat) (n : Int) (bl : Bool) (pr sl : Int) (is : List TInstr) (hn : is.length ≤ 1048576) : Ct Tryz.prog G 193 [.int .i64 n, .cp 0 [.bool bl, .int .i64 pr, .int .i64 sl, .sl lo 4 (is.map (TInstr.tw lo))]] (fun _ => .bool (inR n 0 ((is.length : Int) - 1))) := by
  refine ct_enter Tryz.func193 rfl Tryz.ntmps193 rfl rfl fun w0 _ hG => ?_
  have hil := TInstr.len lo is
  repeat' (first | ((with_reducible apply o_y); exact y_; rfl) | refine e_call hG hst (within_ct _ _ _) ?_ | with_reducible refine al_none rfl ?_ | (with_reducible first | apply aw_seq | apply aw_region | apply al_nil | apply aq_then | apply aw_ret))
  refine aq_ret1 x_ rfl (.tmp _ _ rfl) (fun _ => ?_)
  exact Fin.flat rfl
theorem instrOk2_ct (hst : Stable G) (n least : Int) (bl : Bool) (pr sl : Int) (t : TV) : Ct Tryz.prog G 194 [.int .i64 n, .agg [.bool bl, .int .i64 pr, .int .i64 sl, t], .int .i64 least] (fun _ => .bool (inR n least (IntKind.i64.wrap (sl - 1)))) := by
  refine ct_enter Tryz.func194 rfl Tryz.ntmps194 rfl rfl fun w0 _ hG => ?_
  repeat' (first | ((with_reducible apply o_y); exact y_; rfl) | refine e_box ?_ | refine e_call hG hst (within_ct _ _ _) ?_ | with_reducible refine al_none rfl ?_ | (with_reducible first | apply aw_seq | apply aw_region | apply al_nil | apply aq_then | apply aw_ret))
  refine aq_ret1 x_ rfl (.tmp _ _ rfl) (fun _ => ?_)
  exact Fin.flat rfl
set_option maxRecDepth 8000 in
set_option maxHeartbeats 8000000 in
theorem instrOk_ct (hst : Stable G) (hse : ∀ s : ByteArray, s.size ≤ 1048576 → Ct Tryz.prog G 118 [.str s] (fun _ => .bool (isSelL s.data.toList)))
    (lo lo2 : Nat) (cl : List TClassInfo) (cen : TV) (cs : List TCode) (mn : Int) (hcl : cl.length ≤ 1048576) (hcs : cs.length ≤ 1048576 ∧ ∀ y ∈ cs, TCode.small 1048576 y) (o : List Int) (hinv : outInv cs.length o) (k : Nat) (own : TCode) (hk : cs[k]? = some own) (hsl : 0 ≤ own.slots ∧ own.slots ≤ 30)
    (x : TInstr) (hx : x.text.size ≤ 1048576) :
    Ct Tryz.prog G 120 [.agg [.sl lo 3 (cl.map (TClassInfo.tw lo)), .sl lo 4 (cs.map (TCode.tw lo)), cen, .int .i64 mn], .sl lo2 1 (intR o), .int .i64 (k : Int), .agg [.int .i64 x.op, .int .i64 x.a, .int .i64 x.b, .str x.text]] (fun _ => .bool (instrB cs cl.length o k own x)) := by
  obtain ⟨op, a, b, t⟩ := x
  dsimp only at hx ⊢
  refine ct_enter Tryz.func120 rfl Tryz.ntmps120 rfl rfl fun w0 _ hG => ?_
  have hl1 := TClassInfo.len lo cl
  have hl2 := TCode.len lo cs
  have hll := intR_length o
  have hkl : k < cs.length := (List.getElem?_eq_some_iff.1 hk).1
  have hrk : (cs.map (TCode.tw lo))[k]? = some [.bool own.block, .int .i64 own.params, .int .i64 own.slots, .sl lo 4 (own.instrs.map (TInstr.tw lo))] := by rw [List.getElem?_map, hk]; rfl
  have hil := TInstr.len lo own.instrs
  have hin : own.instrs.length ≤ 1048576 := (hcs.2 own (List.mem_of_getElem? hk)).1
  have hw : IntKind.i64.wrap (own.slots - 1) = own.slots - 1 := IntWalk.i64_in _ (by omega)
  repeat' (first | ((with_reducible apply o_y); exact y_; rfl) | refine e_box ?_ | refine e_call hG hst (writes_ct _) ?_ | with_reducible refine aw_hold_r (id := 2) ?_ | with_reducible refine al_none rfl ?_ | (with_reducible first | apply aw_seq | apply aw_region | apply al_nil | apply aq_then))
  refine ⟨aw_seq ?_⟩
  apply aw_join (X := Unit) [1, 2, 4, 7] (fun _ => [(54, .bool (!decide (instrHead ⟨op, a, b, t⟩)))]) (fun _ => []) (fun _ => True)
  case hk => (repeat (first | exact Kept.nil | (apply Kept.cons; rfl)))
  · clear hrk hk hinv hse hl1 hl2 hll hin hil
    repeat' (first | ((with_reducible apply o_y); exact y_; rfl) | refine e_call hG hst (within_ct _ _ _) ?_ | with_reducible refine al_none rfl ?_ | (with_reducible first | apply aw_region | apply al_nil) | refine al_run rfl rfl rfl rr_ ?_ | refine al_skip rfl rfl rfl rr_ rfl rfl rfl ?_ | refine al_skip2 rfl rfl rfl rr_ rfl rfl ?_ | (refine al_gsplit rfl rfl rfl rr_ (fun hg => ?_) (fun hg => ?_)) | (refine al_gsplit_b rfl rfl rfl rr_ (fun hg => ?_) (fun hg => ?_)))
    all_goals
      refine aq_mid () trivial (.of _ (Weak.envCons (lk_bool rfl ?_) Weak.envNil) od_ pk_)
      simp only [Bool.not_eq_true', Bool.not_eq_false', ne_eq, Decidable.not_not] at *
      first
        | (simp [instrHead, *]; done)
  intro _ _
  by_cases hh : instrHead ⟨op, a, b, t⟩
  case neg =>
    have hB : instrB cs cl.length o k own ⟨op, a, b, t⟩ = false := by unfold instrB; rw [decide_eq_false hh]; rfl
    rw [hB, decide_eq_false hh, Bool.not_false]
    repeat' (first | ((with_reducible apply o_y); exact y_; rfl) | with_reducible refine al_none rfl ?_ | (with_reducible first | apply aw_seq | apply aw_region | apply al_nil | apply aq_then | apply aw_ret | apply aq_then_ret) | refine aw_cond_t rfl rr_ ?_)
    refine aq_ret1 x_ rfl (.tmp _ _ rfl) (fun _ => ?_)
    exact Fin.flat rfl
  have hB : instrB cs cl.length o k own ⟨op, a, b, t⟩ = instrTail cs cl.length o k own ⟨op, a, b, t⟩ := by unfold instrB; rw [decide_eq_true hh]; rfl
  rw [hB, decide_eq_true hh, Bool.not_true]
  have hinv' : outInv o.length o := by rw [hinv.1]; exact hinv
  have hvf : levelOf cs o k b = none → varOk cs o k ⟨op, a, b, t⟩ = false := fun h => by
    unfold varOk
    dsimp only
    rw [h]
  clear hB hk
  repeat' (first | ((with_reducible apply o_y); exact y_; rfl) | (refine e_alloc ?_; intro ss bb) | refine e_storep ?_ | refine e_mkf ?_ | refine e_call hG hst (within_ct _ _ _) ?_ | refine e_call hG hst (plainText_ct hst _ hx) ?_ | refine e_call hG hst (hse _ hx) ?_ | refine e_call hG hst (implIsName_ct _ hx) ?_ | ((with_reducible apply o_callF); rfl; rfl; kernel_rfl; exact hG; exact hst; (repeat (first | exact Args.nil | ((with_reducible apply Args.cons); rfl; exact .same _))); (repeat (first | exact Views.nil | ((with_reducible apply Views.cons); (((with_reducible apply View.mpSame); (repeat (with_reducible exact mh))))))); rfl; first | exact instrOk1_ct hst lo _ _ _ _ _ hin | exact instrOk2_ct hst _ _ _ _ _ _) | with_reducible refine aw_hold_r (id := 24) ?_ | with_reducible refine al_none rfl ?_ | (with_reducible first | apply aw_seq | apply aw_region | apply al_nil | apply aq_then | apply aw_block | apply aw_skip | apply aw_ret | apply aq_then_ret | apply aq_block_ret | apply aq_block) | refine al_run rfl rfl rfl rr_ ?_ | refine al_skip rfl rfl rfl rr_ rfl rfl rfl ?_ | (refine al_gsplit_b rfl rfl rfl rr_ (fun hg => ?_) (fun hg => ?_)) | refine aw_cond_f rfl rr_ ?_ | (refine aw_cond_dt rfl rr_ dd_ ?_) | (refine aw_cond rfl rr_ (fun hc => ?_) (fun hc => ?_)))
  all_goals first
    | (refine aq_ret1 x_ rfl (.tmp _ _ rfl) (fun _ => ?_)
       clear hrk hl1 hl2 hll hil hcs hse hh hinv
       refine fin_bool ?_
       first
         | (simp [instrTail, *]; done))
    | (refine ⟨?_⟩
       generalize ss = s12; generalize bb = b12
       repeat' (first | ((with_reducible apply o_y); exact y_; rfl) | with_reducible refine al_none rfl ?_ | (with_reducible first | apply aw_seq | apply aw_region | apply al_nil | apply aq_then | apply aw_block))
       apply aw_loopk (X := Nat) [1, 4, 7, 12, 14, 62] (fun n => [(15, .int .i64 (upN o n (k : Int))), (16, .int .i64 (n : Int))]) (fun _ => [(s12, b12, .box [.bool own.block, .int .i64 own.params, .int .i64 own.slots, .sl lo 4 (own.instrs.map (TInstr.tw lo))])]) (fun n => n ≤ b.toNat) (fun n => b.toNat - n) 0 (Nat.zero_le _)
       exact kp_; (repeat (first | exact Weak.envNil | refine Weak.envCons we_ ?_))
       · exact .refl _
       intro n hn
       try dsimp only at hn ⊢
       have hol : o.length = cs.length := hinv.1
       have hup := upN_in hinv' n (k : Int) (.inr ⟨by omega, by omega⟩)
       by_cases hnb : (n : Int) < b
       · by_cases hat : 0 ≤ upN o n (k : Int)
         · obtain ⟨j, hj⟩ : ∃ j : Nat, upN o n (k : Int) = j := ⟨(upN o n (k : Int)).toNat, by omega⟩
           have hs := upN_succ o n (k : Int)
           rw [if_neg (by omega), hj] at hs
           have hge := upN_ge hinv' (k := (k : Int)) ⟨by omega, by omega⟩ n hat
           rw [hj] at hup hge
           have hcl2 := hcs.1
           have hrow := intR_gd (o := o) (j := j) (by omega)
           rw [hj]
           repeat' (first | ((with_reducible apply o_y); exact y_; rfl) | with_reducible refine al_none rfl ?_ | (with_reducible first | apply aw_seq | apply aw_region | apply al_nil | apply aq_then | apply aw_block | apply aw_skip | apply aq_block) | refine al_run rfl rfl rfl rr_ ?_ | (refine al_gt rfl rfl rfl rr_ dd_ ?_) | (refine aw_cond_dt rfl rr_ dd_ ?_))
           exact aq_round (n + 1) (by omega) (by omega) (.of _ nw_ od_ pk_)
         · have hv := hvf (level_off (n := n) (by omega) (by omega))
           repeat' (first | ((with_reducible apply o_y); exact y_; rfl) | with_reducible refine al_none rfl ?_ | (with_reducible first | apply aw_seq | apply aw_region | apply al_nil | apply aq_then | apply aw_exit | apply aw_ret | apply aq_block_hit | apply aq_then_exit | apply aq_then_ret | apply aq_block_ret) | refine al_run rfl rfl rfl rr_ ?_ | refine al_skip rfl rfl rfl rr_ rfl rfl rfl ?_ | (refine al_gt rfl rfl rfl rr_ dd_ ?_) | refine aw_cond_t rfl rr_ ?_ | (refine aw_cond_df rfl rr_ dd_ ?_))
           refine aq_ret1 x_ rfl (.tmp _ _ rfl) (fun _ => ?_)
           refine fin_bool ?_
           clear hrk hl1 hl2 hll hil hcs hse hh hinv hvf
           subst_vars
           simp [instrTail, hv]
       · by_cases hb0 : b < 0
         · have hv := hvf (level_neg hb0)
           repeat' (first | ((with_reducible apply o_y); exact y_; rfl) | with_reducible refine al_none rfl ?_ | (with_reducible first | apply aw_seq | apply aw_region | apply al_nil | apply aq_then | apply aw_exit | apply aw_ret | apply aq_block_hit | apply aq_then_exit | apply aq_then_ret | apply aq_block_ret) | refine al_run rfl rfl rfl rr_ ?_ | refine al_skip rfl rfl rfl rr_ rfl rfl rfl ?_ | (refine al_gf rfl rfl rfl rr_ dd_ ?_) | (refine al_gsplit rfl rfl rfl rr_ (fun hg => ?_) (fun hg => ?_)) | refine aw_cond_t rfl rr_ ?_ | refine aw_cond_f rfl rr_ ?_ | (refine aw_cond_dt rfl rr_ dd_ ?_))
           all_goals
             refine aq_ret1 x_ rfl (.tmp _ _ rfl) (fun _ => ?_)
             refine fin_bool ?_
             clear hrk hl1 hl2 hll hil hcs hse hh hinv hvf
             subst_vars
             simp [instrTail, hv]
         · obtain rfl : b = (n : Int) := by omega
           by_cases hat : 0 ≤ upN o n (k : Int)
           · obtain ⟨j, hj⟩ : ∃ j : Nat, upN o n (k : Int) = j := ⟨(upN o n (k : Int)).toNat, by omega⟩
             rw [hj] at hup
             have hjl : j < cs.length := by omega
             have hry := tcode_row (lo := lo) hjl
             have hlev : levelOf cs o k (n : Int) = some cs[j] := level_on (by omega) (by rw [Int.toNat_natCast]; exact hj) (List.getElem?_eq_getElem hjl)
             generalize cs[j] = y at hry hlev
             rw [hj]
             repeat' (first | ((with_reducible apply o_y); exact y_; rfl) | with_reducible refine aw_draw (by kernel_rfl) (by kernel_rfl) ?_ | with_reducible refine dr_nil ?_ | with_reducible refine dr_none rfl ?_ | ((with_reducible apply d_y); exact y_; rfl) | ((with_reducible apply d_callF); rfl; rfl; kernel_rfl; exact hG; exact hst; (repeat (first | exact Args.nil | ((with_reducible apply Args.cons); rfl; exact .same _))); (repeat (exact Views.nil)); rfl; exact instrOk2_ct hst _ _ _ _ _ _) | with_reducible refine al_none rfl ?_ | (with_reducible first | apply aw_seq | apply aw_region | apply al_nil | apply aq_then | apply aw_exit | apply aw_skip | apply aw_ret | apply aq_block_hit | apply aq_then_exit | apply aq_then_ret | apply aq_block_ret) | refine al_run rfl rfl rfl rr_ ?_ | refine al_skip rfl rfl rfl rr_ rfl rfl rfl ?_ | (refine al_gf rfl rfl rfl rr_ dd_ ?_) | refine aw_cond_f rfl rr_ ?_ | (refine aw_cond_dt rfl rr_ dd_ ?_) | (refine aw_cond_df rfl rr_ dd_ ?_))
             all_goals first
               | (refine aq_ret1 x_ rfl (.tmp _ _ rfl) (fun _ => ?_)
                  refine fin_bool ?_
                  clear hrk hl1 hl2 hll hil hcs hse hh hinv hvf
                  subst_vars
                  simp [instrTail, varOk, hlev]; done)
           · have hv := hvf (level_off (n := n) (by omega) (by omega))
             repeat' (first | ((with_reducible apply o_y); exact y_; rfl) | with_reducible refine al_none rfl ?_ | (with_reducible first | apply aw_seq | apply aw_region | apply al_nil | apply aq_then | apply aw_exit | apply aw_ret | apply aq_block_hit | apply aq_then_exit | apply aq_then_ret | apply aq_block_ret) | refine al_skip rfl rfl rfl rr_ rfl rfl rfl ?_ | (refine al_gt rfl rfl rfl rr_ dd_ ?_) | (refine al_gf rfl rfl rfl rr_ dd_ ?_) | refine aw_cond_t rfl rr_ ?_ | refine aw_cond_f rfl rr_ ?_)
             refine aq_ret1 x_ rfl (.tmp _ _ rfl) (fun _ => ?_)
             refine fin_bool ?_
             clear hrk hl1 hl2 hll hil hcs hse hh hinv hvf
             subst_vars
             simp [instrTail, hv])
end
end Go.Proofs.YthpdkhejeookhaaGreatDoor
/- IsVerified of the program. -/
namespace Go.Proofs.YthpdkhejeookhaaGreatDoor
set_option maxRecDepth 20000
open Go Go.RowKit
set_option maxRecDepth 8000 in
set_option maxHeartbeats 16000000 in
theorem implIsVerified_ct (lo : Nat) (cl : List TClassInfo) (es : List TEntry) (cs : List TCode) (mn : Int) (hcl : cl.length ≤ 1048576 ∧ ∀ y ∈ cl, TClassInfo.small 1048576 y) (hcs : cs.length ≤ 1048576 ∧ ∀ y ∈ cs, TCode.small 1048576 y) (hes : es.length ≤ 1048576 ∧ ∀ y ∈ es, TEntry.small 1048576 y) :
    Ct Tryz.prog GL 39 [.agg [.sl lo 3 (cl.map (TClassInfo.tw lo)), .sl lo 4 (cs.map (TCode.tw lo)), .sl lo 4 (es.map (TEntry.tw lo)), .int .i64 mn]] (fun _ => .bool (verifiedB ⟨cl, cs, es, mn⟩)) := by
  refine ct_enter Tryz.func39 rfl Tryz.ntmps39 rfl rfl fun w0 _ hG => ?_
  have hst := GL_st
  have hvF := verified_f (x := ⟨cl, cs, es, mn⟩)
  have hvT := verified_t (x := ⟨cl, cs, es, mn⟩)
  unfold verifiedP mainOk outerOk at hvF hvT
  dsimp only at hvF hvT
  generalize verifiedB ⟨cl, cs, es, mn⟩ = V at hvF hvT ⊢
  have hl1 := TClassInfo.len lo cl
  have hl2 := TCode.len lo cs
  have hl3 := TEntry.len lo es
  have hcsl := hcs.1
  have hesl := hes.1
  have hcll := hcl.1
  have c1 := classesOk_ct hst lo cl hcl
  have c3 := within_ct (G := GL) mn 0 ((cs.length : Int) - 1)
  by_cases h1 : classesOkB cl = true
  case neg =>
    rw [hvF fun h => h1 h.1]
    rw [Bool.eq_false_iff.2 h1] at c1
    repeat' (first | ((with_reducible apply o_y); exact y_; rfl) | refine e_box ?_ | refine e_call hG hst (c1) ?_ | with_reducible refine al_none rfl ?_ | (with_reducible first | apply aw_seq | apply aw_region | apply al_nil | apply aq_then | apply aw_ret | apply aq_then_ret) | refine al_skip rfl rfl rfl rr_ rfl rfl rfl ?_ | refine aw_cond_t rfl rr_ ?_)
    refine aq_ret1 x_ rfl (.tmp _ _ rfl) (fun _ => ?_)
    exact Fin.flat rfl
  rw [h1] at c1
  by_cases h2 : cs.length ≤ 200
  case neg =>
    rw [hvF fun h => h2 h.2.1]
    repeat' (first | ((with_reducible apply o_y); exact y_; rfl) | refine e_box ?_ | refine e_call hG hst (c1) ?_ | with_reducible refine al_none rfl ?_ | (with_reducible first | apply aw_seq | apply aw_region | apply al_nil | apply aq_then | apply aw_ret | apply aq_then_ret) | refine al_run rfl rfl rfl rr_ ?_ | refine al_skip rfl rfl rfl rr_ rfl rfl rfl ?_ | (refine al_gt rfl rfl rfl rr_ dd_ ?_) | refine aw_cond_t rfl rr_ ?_)
    refine aq_ret1 x_ rfl (.tmp _ _ rfl) (fun _ => ?_)
    exact Fin.flat rfl
  by_cases h9 : es.length ≤ 96
  case neg =>
    rw [hvF fun h => by have := h.2.2.2.1; rw [entriesB_long h9] at this; cases this]
    repeat' (first | ((with_reducible apply o_y); exact y_; rfl) | refine e_box ?_ | refine e_call hG hst (c1) ?_ | with_reducible refine al_none rfl ?_ | (with_reducible first | apply aw_seq | apply aw_region | apply al_nil | apply aq_then | apply aw_ret | apply aq_then_ret) | refine al_run rfl rfl rfl rr_ ?_ | refine al_skip rfl rfl rfl rr_ rfl rfl rfl ?_ | (refine al_gt rfl rfl rfl rr_ dd_ ?_) | (refine al_gf rfl rfl rfl rr_ dd_ ?_) | refine aw_cond_t rfl rr_ ?_)
    refine aq_ret1 x_ rfl (.tmp _ _ rfl) (fun _ => ?_)
    exact Fin.flat rfl
  by_cases h3 : inR mn 0 ((cs.length : Int) - 1) = true
  case neg =>
    rw [hvF fun h => h3 h.2.2.1.1]
    rw [Bool.eq_false_iff.2 h3] at c3
    repeat' (first | ((with_reducible apply o_y); exact y_; rfl) | refine e_box ?_ | refine e_call hG hst (c1) ?_ | refine e_call hG hst (c3) ?_ | with_reducible refine al_none rfl ?_ | (with_reducible first | apply aw_seq | apply aw_region | apply al_nil | apply aq_then | apply aw_ret | apply aq_then_ret) | refine al_run rfl rfl rfl rr_ ?_ | refine al_skip rfl rfl rfl rr_ rfl rfl rfl ?_ | (refine al_gf rfl rfl rfl rr_ dd_ ?_) | refine aw_cond_t rfl rr_ ?_)
    refine aq_ret1 x_ rfl (.tmp _ _ rfl) (fun _ => ?_)
    exact Fin.flat rfl
  have h3' := of_decide_eq_true h3
  obtain ⟨q, rfl⟩ : ∃ q : Nat, mn = q := ⟨mn.toNat, by omega⟩
  have hql : q < cs.length := by omega
  have hrq := tcode_row (lo := lo) hql
  have hpl := plainAt_iff (n := 0) rfl (List.getElem?_eq_getElem hql)
  generalize cs[q] = y at hrq hpl
  obtain ⟨yb, yp, ys, yi⟩ := y
  dsimp only at hrq hpl
  rw [h3, show (cs.length : Int) - 1 = ((cs.length - 1 : Nat) : Int) by omega] at c3
  cases yb
  case true =>
    rw [hvF fun h => by have := hpl.1 h.2.2.1.2; cases this.1]
    repeat' (first | ((with_reducible apply o_y); exact y_; rfl) | refine e_box ?_ | refine e_call hG hst (c1) ?_ | refine e_call hG hst (c3) ?_ | with_reducible refine al_none rfl ?_ | (with_reducible first | apply aw_seq | apply aw_region | apply al_nil | apply aq_then | apply aw_ret | apply aq_then_ret) | refine al_run rfl rfl rfl rr_ ?_ | refine al_skip rfl rfl rfl rr_ rfl rfl rfl ?_ | (refine al_gf rfl rfl rfl rr_ dd_ ?_) | refine aw_cond_t rfl rr_ ?_)
    refine aq_ret1 x_ rfl (.tmp _ _ rfl) (fun _ => ?_)
    exact Fin.flat rfl
  by_cases h4 : yp = 0
  case neg =>
    rw [hvF fun h => by have := hpl.1 h.2.2.1.2; exact h4 this.2]
    repeat' (first | ((with_reducible apply o_y); exact y_; rfl) | refine e_box ?_ | refine e_call hG hst (c1) ?_ | refine e_call hG hst (c3) ?_ | with_reducible refine al_none rfl ?_ | (with_reducible first | apply aw_seq | apply aw_region | apply al_nil | apply aq_then | apply aw_ret | apply aq_then_ret) | refine al_run rfl rfl rfl rr_ ?_ | (refine al_gf rfl rfl rfl rr_ dd_ ?_) | (refine aw_cond_dt rfl rr_ dd_ ?_))
    refine aq_ret1 x_ rfl (.tmp _ _ rfl) (fun _ => ?_)
    exact Fin.flat rfl
  have h4' : ¬ yp ≠ 0 := fun h => h h4
  have hhead := hpl.2 ⟨rfl, h4⟩
  repeat' (first | ((with_reducible apply o_y); exact y_; rfl) | refine e_box ?_ | refine e_call hG hst (c1) ?_ | refine e_call hG hst (c3) ?_ | with_reducible refine al_none rfl ?_ | (with_reducible first | apply aw_seq | apply aw_region | apply al_nil | apply aq_then | apply aw_block | apply aw_skip) | refine al_run rfl rfl rfl rr_ ?_ | (refine al_gf rfl rfl rfl rr_ dd_ ?_) | (refine aw_cond_df rfl rr_ dd_ ?_))
  clear hrq hpl c1 c3 h4 h4'
  -- the entries
  apply aw_loopk (X := Nat) [1, 61, 62] (fun i => [(63, .int .i64 (i : Int))]) (fun _ => []) (fun i => i ≤ es.length ∧ ∀ j, j < i → ∀ h : j < es.length, entryOk cl.length cs es[j] ∧ newEntry es j es[j]) (fun i => es.length - i) 0 ⟨Nat.zero_le _, by omega⟩
  exact kp_; (repeat (first | exact Weak.envNil | refine Weak.envCons we_ ?_))
  · exact .refl _
  rintro i ⟨hi, hk⟩
  try dsimp only
  by_cases hlt : i < es.length
  · have hra := tentry_row (lo := lo) hlt
    have hsm := hes.2 _ (List.getElem_mem hlt)
    have hbad : ¬ (entryOk cl.length cs es[i] ∧ newEntry es i es[i]) → V = false := fun h => hvF fun k => by
      have := k.2.2.2.1
      rw [entriesB_bad hlt h] at this; cases this
    have hks : entryOk cl.length cs es[i] ∧ newEntry es i es[i] → ∀ j, j < i + 1 → ∀ h : j < es.length, entryOk cl.length cs es[j] ∧ newEntry es j es[j] := fun ho => below_succ hk fun _ => ho
    clear hvF hvT
    generalize es[i] = e at hra hsm hbad hks
    obtain ⟨ow, ec, sel, cd⟩ := e
    dsimp only at hra
    have hss : sel.size ≤ 1048576 := hsm
    have c1 := hseI sel hss
    have c2 := hcaI sel hss
    have c3 := within_ct (G := GL) ow 16 ((cl.length : Int) - 1)
    have c4 := within_ct (G := GL) cd 0 ((cs.length : Int) - 1)
    have c4' : (cs.length : Int) - 1 = ((cs.length - 1 : Nat) : Int) := by omega
    have c4b := c4
    rw [c4'] at c4b
    by_cases g1 : isSelL sel.data.toList = true
    case neg =>
      rw [hbad fun h => g1 h.1.1.1]
      rw [Bool.eq_false_iff.2 g1] at c1
      repeat' (first | ((with_reducible apply o_y); exact y_; rfl) | (refine e_alloc ?_; intro ss bb) | refine e_storep ?_ | with_reducible refine aw_draw (by kernel_rfl) (by kernel_rfl) ?_ | with_reducible refine dr_nil ?_ | with_reducible refine dr_none rfl ?_ | refine dr_skip rfl rfl rfl rr_ rfl rfl rfl ?_ | ((with_reducible apply d_y); exact y_; rfl) | refine e_calld hG hst (c1) ?_ | with_reducible refine al_none rfl ?_ | (with_reducible first | apply aw_seq | apply aw_region | apply al_nil | apply aq_then | apply aw_block | apply aw_skip | apply aw_ret | apply aq_then_ret | apply aq_block_ret) | refine aw_cond_t rfl rr_ ?_ | (refine aw_cond_dt rfl rr_ dd_ ?_))
      refine aq_ret1 x_ rfl (.tmp _ _ rfl) (fun _ => ?_)
      exact Fin.flat rfl
    by_cases g2 : inR ow 16 ((cl.length : Int) - 1) = true
    case neg =>
      rw [hbad fun h => g2 h.1.1.2.1]
      rw [g1] at c1
      rw [Bool.eq_false_iff.2 g2] at c3
      repeat' (first | ((with_reducible apply o_y); exact y_; rfl) | (refine e_alloc ?_; intro ss bb) | refine e_storep ?_ | with_reducible refine aw_draw (by kernel_rfl) (by kernel_rfl) ?_ | with_reducible refine dr_nil ?_ | with_reducible refine dr_none rfl ?_ | refine dr_run rfl rfl rfl rr_ ?_ | refine dr_skip rfl rfl rfl rr_ rfl rfl rfl ?_ | ((with_reducible apply d_y); exact y_; rfl) | refine e_calld hG hst (c1) ?_ | refine e_calld hG hst (c3) ?_ | with_reducible refine al_none rfl ?_ | (with_reducible first | apply aw_seq | apply aw_region | apply al_nil | apply aq_then | apply aw_block | apply aw_skip | apply aw_ret | apply aq_then_ret | apply aq_block_ret) | refine aw_cond_t rfl rr_ ?_ | (refine aw_cond_dt rfl rr_ dd_ ?_))
      refine aq_ret1 x_ rfl (.tmp _ _ rfl) (fun _ => ?_)
      exact Fin.flat rfl
    by_cases g3 : inR cd 0 ((cs.length : Int) - 1) = true
    case neg =>
      rw [hbad fun h => g3 h.1.1.2.2]
      rw [g1] at c1
      rw [g2] at c3
      rw [← c4', Bool.eq_false_iff.2 g3] at c4b
      rw [c4'] at c4b
      rw [Bool.eq_false_iff.2 g3] at c4
      repeat' (first | ((with_reducible apply o_y); exact y_; rfl) | (refine e_alloc ?_; intro ss bb) | refine e_storep ?_ | with_reducible refine aw_draw (by kernel_rfl) (by kernel_rfl) ?_ | with_reducible refine dr_nil ?_ | with_reducible refine dr_none rfl ?_ | refine dr_run rfl rfl rfl rr_ ?_ | refine dr_skip rfl rfl rfl rr_ rfl rfl rfl ?_ | ((with_reducible apply d_y); exact y_; rfl) | refine e_calld hG hst (c1) ?_ | refine e_calld hG hst (c3) ?_ | refine e_calld hG hst (c4b) ?_ | with_reducible refine al_none rfl ?_ | (with_reducible first | apply aw_seq | apply aw_region | apply al_nil | apply aq_then | apply aw_block | apply aw_skip | apply aw_ret | apply aq_then_ret | apply aq_block_ret) | refine aw_cond_t rfl rr_ ?_ | (refine aw_cond_dt rfl rr_ dd_ ?_))
      refine aq_ret1 x_ rfl (.tmp _ _ rfl) (fun _ => ?_)
      exact Fin.flat rfl
    have g3' := of_decide_eq_true g3
    obtain ⟨p, rfl⟩ : ∃ p : Nat, cd = p := ⟨cd.toNat, by omega⟩
    have hpll : p < cs.length := by omega
    have hrp := tcode_row (lo := lo) hpll
    have hpp := plainAt_iff (n := nArgsL sel.data.toList) rfl (List.getElem?_eq_getElem hpll)
    generalize cs[p] = y at hrp hpp
    obtain ⟨yb, yp, ys, yi⟩ := y
    dsimp only at hrp hpp
    rw [g1] at c1
    rw [g2] at c3
    rw [← c4', g3, c4'] at c4b
    clear c4
    cases yb
    case true =>
      rw [hbad fun h => by have := hpp.1 h.1.2; cases this.1]
      repeat' (first | ((with_reducible apply o_y); exact y_; rfl) | (refine e_alloc ?_; intro ss bb) | refine e_storep ?_ | with_reducible refine aw_draw (by kernel_rfl) (by kernel_rfl) ?_ | with_reducible refine dr_nil ?_ | with_reducible refine dr_none rfl ?_ | refine dr_run rfl rfl rfl rr_ ?_ | refine dr_skip rfl rfl rfl rr_ rfl rfl rfl ?_ | ((with_reducible apply d_y); exact y_; rfl) | refine e_calld hG hst (c1) ?_ | refine e_calld hG hst (c3) ?_ | refine e_calld hG hst (c4b) ?_ | with_reducible refine al_none rfl ?_ | (with_reducible first | apply aw_seq | apply aw_region | apply al_nil | apply aq_then | apply aw_block | apply aw_skip | apply aw_ret | apply aq_then_ret | apply aq_block_ret) | refine aw_cond_t rfl rr_ ?_ | (refine aw_cond_dt rfl rr_ dd_ ?_))
      refine aq_ret1 x_ rfl (.tmp _ _ rfl) (fun _ => ?_)
      exact Fin.flat rfl
    by_cases g5 : yp = nArgsL sel.data.toList
    case neg =>
      rw [hbad fun h => by have := hpp.1 h.1.2; exact g5 this.2]
      repeat' (first | ((with_reducible apply o_y); exact y_; rfl) | (refine e_alloc ?_; intro ss bb) | refine e_storep ?_ | with_reducible refine aw_draw (by kernel_rfl) (by kernel_rfl) ?_ | with_reducible refine dr_nil ?_ | with_reducible refine dr_none rfl ?_ | refine dr_run rfl rfl rfl rr_ ?_ | ((with_reducible apply d_y); exact y_; rfl) | refine e_calld hG hst (c1) ?_ | refine e_calld hG hst (c3) ?_ | refine e_calld hG hst (c4b) ?_ | refine e_calld hG hst (c2) ?_ | with_reducible refine al_none rfl ?_ | (with_reducible first | apply aw_seq | apply aw_region | apply al_nil | apply aq_then | apply aw_block | apply aw_skip | apply aw_ret | apply aq_then_ret | apply aq_block_ret) | (refine aw_cond_dt rfl rr_ dd_ ?_))
      refine aq_ret1 x_ rfl (.tmp _ _ rfl) (fun _ => ?_)
      exact Fin.flat rfl
    have g5' : ¬ yp ≠ nArgsL sel.data.toList := fun h => h g5
    have htl : ((es.map (TEntry.tw lo)).take i).length = i := by simp; omega
    repeat' (first | ((with_reducible apply o_y); exact y_; rfl) | (refine e_alloc ?_; intro ss bb) | refine e_storep ?_ | with_reducible refine aw_draw (by kernel_rfl) (by kernel_rfl) ?_ | with_reducible refine dr_nil ?_ | with_reducible refine dr_none rfl ?_ | refine dr_run rfl rfl rfl rr_ ?_ | ((with_reducible apply d_y); exact y_; rfl) | refine e_slh ?_ | refine e_calld hG hst (c1) ?_ | refine e_calld hG hst (c3) ?_ | refine e_calld hG hst (c4b) ?_ | refine e_calld hG hst (c2) ?_ | with_reducible refine al_none rfl ?_ | (with_reducible first | apply aw_seq | apply aw_region | apply al_nil | apply aq_then | apply aw_block | apply aw_skip) | (refine aw_cond_dt rfl rr_ dd_ ?_) | (refine aw_cond_df rfl rr_ dd_ ?_))
    clear hrp c1 c2 c3 c4b
    generalize ss = s4; generalize bb = b4
    apply aw_loopk (X := Nat) [1, 3, 4, 61, 62, 63, 117, 118] (fun k => [(119, .int .i64 (k : Int))]) (fun _ => [(s4, b4, .box [.int .i64 ow, .bool ec, .str sel, .int .i64 (p : Int)])]) (fun k => k ≤ i ∧ ∀ y ∈ es.take k, ¬ sameEntry ⟨ow, ec, sel, p⟩ y) (fun k => i - k) 0 ⟨Nat.zero_le _, by simp⟩
    exact kp_; (repeat (first | exact Weak.envNil | refine Weak.envCons we_ ?_))
    · exact .refl _
    rintro k ⟨hki, hkn⟩
    try dsimp only
    by_cases hlk : k < i
    · have hlk2 : k < es.length := by omega
      have hrk : ((es.map (TEntry.tw lo)).take i)[k]? = some [.int .i64 es[k].owner, .bool es[k].class_, .str es[k].selector, .int .i64 es[k].code] := by rw [List.getElem?_take_of_lt hlk]; exact tentry_row hlk2
      have hta := take_all (p := fun y => ¬ sameEntry ⟨ow, ec, sel, p⟩ y) hlk2 hkn
      have hmem : es[k] ∈ es.take i := List.mem_take_iff_getElem.2 ⟨k, by omega, rfl⟩
      generalize es[k] = z at hrk hta hmem
      obtain ⟨zo, zc, zs, zd⟩ := z
      dsimp only at hrk
      by_cases hz : sameEntry ⟨ow, ec, sel, p⟩ ⟨zo, zc, zs, zd⟩
      · rw [hbad fun h => h.2 _ hmem hz]
        obtain ⟨z1, z2, z3⟩ := hz
        dsimp only at z1 z2 z3
        have z4 : (ec == zc) = true := by rw [z2]; simp
        clear hbad hks hta
        repeat' (first | ((with_reducible apply o_y); exact y_; rfl) | (refine e_alloc ?_; intro ss bb) | refine e_storep ?_ | with_reducible refine al_none rfl ?_ | (with_reducible first | apply aw_seq | apply aw_region | apply al_nil | apply aq_then | apply aw_block | apply aw_skip | apply aw_ret | apply aq_then_ret | apply aq_block_ret | apply aq_block) | refine al_run rfl rfl rfl rr_ ?_ | refine al_skip rfl rfl rfl rr_ rfl rfl rfl ?_ | (refine al_gt rfl rfl rfl rr_ dd_ ?_) | (refine al_gsplit_b rfl rfl rfl rr_ (fun hg => ?_) (fun hg => ?_)) | refine aw_cond_f rfl rr_ ?_ | (refine aw_cond_dt rfl rr_ dd_ ?_) | (refine aw_cond rfl rr_ (fun hc => ?_) (fun hc => ?_)))
        all_goals first
          | (refine aq_ret1 x_ rfl (.tmp _ _ rfl) (fun _ => ?_)
             exact Fin.flat rfl)
          | (exfalso; simp_all; done)
      · have hnx := hta hz
        unfold sameEntry at hz
        dsimp only at hz
        repeat' (first | ((with_reducible apply o_y); exact y_; rfl) | (refine e_alloc ?_; intro ss bb) | refine e_storep ?_ | with_reducible refine al_none rfl ?_ | (with_reducible first | apply aw_seq | apply aw_region | apply al_nil | apply aq_then | apply aw_block | apply aw_skip | apply aw_ret | apply aq_then_ret | apply aq_block_ret | apply aq_block) | refine al_run rfl rfl rfl rr_ ?_ | refine al_skip rfl rfl rfl rr_ rfl rfl rfl ?_ | (refine al_gsplit rfl rfl rfl rr_ (fun hg => ?_) (fun hg => ?_)) | (refine al_gsplit_b rfl rfl rfl rr_ (fun hg => ?_) (fun hg => ?_)) | refine aw_cond_f rfl rr_ ?_ | (refine aw_cond_dt rfl rr_ dd_ ?_) | (refine aw_cond rfl rr_ (fun hc => ?_) (fun hc => ?_)))
        all_goals first
          | exact aq_round (k + 1) ⟨by omega, hnx⟩ (by omega) (.of _ nw_ od_ pk_)
          | (exfalso; clear hbad hks hta hnx; simp_all; done)
    · obtain rfl : k = i := by omega
      repeat' (first | ((with_reducible apply o_y); exact y_; rfl) | with_reducible refine al_none rfl ?_ | (with_reducible first | apply aw_seq | apply aw_region | apply al_nil | apply aq_then | apply aw_exit | apply aq_block_hit | apply aq_then_exit | apply aq_block) | (refine aw_cond_df rfl rr_ dd_ ?_))
      exact aq_round (k + 1) ⟨by omega, hks ⟨⟨⟨g1, g2, g3⟩, hpp.2 ⟨rfl, g5⟩⟩, hkn⟩⟩ (by omega) (.of _ nw_ od_ (Pick.nil _))
  have hgood : entriesB cl.length cs es = true := by
    rw [entriesB_good fun j hj => hk j (by omega)]
    exact decide_eq_true (by omega)
  clear hk
  have c6 := outers_ct hst lo (.sl lo 3 (cl.map (TClassInfo.tw lo))) (.sl lo 4 (es.map (TEntry.tw lo))) cs (q : Int) (by omega) hcs
  unfold outR at c6
  cases hR : outersL cs
  case none =>
    rw [hR] at c6
    have hf : V = false := hvF fun h => by
      obtain ⟨o, ho, _⟩ := h.2.2.2.2
      rw [hR] at ho; cases ho
    rw [hf]
    clear hvF hvT
    replace c6 : Ct Tryz.prog GL 99 [.agg [.sl lo 3 (cl.map (TClassInfo.tw lo)), .sl lo 4 (cs.map (TCode.tw lo)), .sl lo 4 (es.map (TEntry.tw lo)), .int .i64 (q : Int)]] (fun K => .tup [.sl K 1 [], .bool false]) := c6
    repeat' (first | ((with_reducible apply o_y); exact y_; rfl) | refine e_call hG hst (c6) ?_ | with_reducible refine al_none rfl ?_ | (with_reducible first | apply aw_seq | apply aw_region | apply al_nil | apply aq_then | apply aw_exit | apply aw_ret | apply aq_block_hit | apply aq_then_exit | apply aq_then_ret) | refine aw_cond_t rfl rr_ ?_ | (refine aw_cond_df rfl rr_ dd_ ?_))
    refine aq_ret1 x_ rfl (.tmp _ _ rfl) (fun _ => ?_)
    exact Fin.flat rfl
  case some o =>
    rw [hR] at c6
    replace c6 : Ct Tryz.prog GL 99 [.agg [.sl lo 3 (cl.map (TClassInfo.tw lo)), .sl lo 4 (cs.map (TCode.tw lo)), .sl lo 4 (es.map (TEntry.tw lo)), .int .i64 (q : Int)]] (fun K => .tup [.sl K 1 (intR o), .bool true]) := c6
    obtain ⟨hinv, hfit⟩ := outersL_inv hR
    have hvF2 : ∀ (i : Nat) (hi : i < cs.length), ¬ codeOk cs cl.length o i cs[i] → V = false := fun i hi h => hvF fun k => by
      obtain ⟨o', ho', hc'⟩ := k.2.2.2.2
      rw [hR] at ho'; cases ho'
      exact h (hc' i hi)
    have hvT2 : codesOk cs cl.length o → V = true := fun h => hvT ⟨h1, h2, ⟨h3, hhead⟩, hgood, o, hR, h⟩
    clear hvF hvT hR hgood hhead
    repeat' (first | ((with_reducible apply o_y); exact y_; rfl) | refine e_call hG hst (c6) ?_ | with_reducible refine al_none rfl ?_ | (with_reducible first | apply aw_seq | apply aw_region | apply al_nil | apply aq_then | apply aw_block | apply aw_exit | apply aw_skip | apply aq_block_hit | apply aq_then_exit) | refine aw_cond_f rfl rr_ ?_ | (refine aw_cond_df rfl rr_ dd_ ?_))
    apply aw_loopk (X := Nat) [1, 7, 152, 153] (fun i => [(154, .int .i64 (i : Int))]) (fun _ => []) (fun i => i ≤ cs.length ∧ ∀ j, j < i → ∀ h : j < cs.length, codeOk cs cl.length o j cs[j]) (fun i => cs.length - i) 0 ⟨Nat.zero_le _, by omega⟩
    exact kp_; (repeat (first | exact Weak.envNil | refine Weak.envCons we_ ?_))
    · exact .refl _
    rintro i ⟨hi, ha⟩
    try dsimp only
    by_cases hlt : i < cs.length
    · have hg : cs[i]? = some cs[i] := List.getElem?_eq_getElem hlt
      have hra := tcode_row (lo := lo) hlt
      have hsm := hcs.2 _ (List.getElem_mem hlt)
      have hbad := hvF2 i hlt
      have hnx : codeOk cs cl.length o i cs[i] → ∀ j, j < i + 1 → ∀ h : j < cs.length, codeOk cs cl.length o j cs[j] := fun ho => below_succ ha fun _ => ho
      have hiq := fun (hsl : 0 ≤ (cs[i]'hlt).slots ∧ (cs[i]'hlt).slots ≤ 30) (x : TInstr) (hx : x.text.size ≤ 1048576) => instrOk_ct hst hseI lo w0.heap.size cl (.sl lo 4 (es.map (TEntry.tw lo))) cs (q : Int) hcll hcs o hinv i (cs[i]'hlt) hg hsl x hx
      clear hvF2 hvT2 ha hg
      unfold codeOk codeHead at hbad hnx
      generalize hBB : instrB cs cl.length o i cs[i] = B at hbad hnx hiq
      clear hBB
      generalize cs[i] = c at hra hsm hbad hnx hiq
      obtain ⟨bl, pr, sl, is⟩ := c
      dsimp only at hra hbad hnx hiq
      have hn : is.length ≤ 1048576 := hsm.1
      have ht : ∀ i ∈ is, i.text.size ≤ 1048576 := hsm.2
      have hil := TInstr.len lo is
      have hdep := stackDepths_ct hst hcaI lo bl pr sl is hn ht
      have hnew := dO_new (depthsL is)
      rw [instrs_tw lo] at hdep
      unfold dR dO at hdep hnew
      generalize (depthsL is).getD [] = ds at hdep hnew
      generalize (depthsL is).isSome = ok at hdep hnew hbad hnx
      have d1 := within_ct (G := GL) sl 0 30
      have d2 := within_ct (G := GL) pr 0 sl
      by_cases k0 : ok = true
      case neg =>
        rw [hbad fun h => k0 h.2.2]
        rw [Bool.eq_false_iff.2 k0] at hdep hnew
        repeat' (first | ((with_reducible apply o_y); exact y_; rfl) | (refine e_alloc ?_; intro ss bb) | refine e_storep ?_ | ((with_reducible apply o_callOV); rfl; kernel_rfl; exact hG; exact hst; exact hdep; ((repeat (first | exact Args.nil | ((with_reducible apply Args.cons); rfl; (with_reducible exact View.same _))))); exact hnew; rintro ⟨ss, bb⟩ -; refine al_app1 ?_) | with_reducible refine al_none rfl ?_ | (with_reducible first | apply aw_seq | apply aw_region | apply al_nil | apply aq_then | apply aw_block | apply aw_skip | apply aw_ret | apply aq_then_ret | apply aq_block_ret) | refine al_skip rfl rfl rfl rr_ rfl rfl rfl ?_ | refine aw_cond_t rfl rr_ ?_ | (refine aw_cond_dt rfl rr_ dd_ ?_))
        refine aq_ret1 x_ rfl (.tmp _ _ rfl) (fun _ => ?_)
        exact Fin.flat rfl
      subst k0
      by_cases k1 : inR sl 0 30 = true
      case neg =>
        rw [hbad fun h => k1 h.1.1]
        rw [Bool.eq_false_iff.2 k1] at d1
        repeat' (first | ((with_reducible apply o_y); exact y_; rfl) | (refine e_alloc ?_; intro ss bb) | refine e_storep ?_ | refine e_call hG hst (d1) ?_ | ((with_reducible apply o_callOV); rfl; kernel_rfl; exact hG; exact hst; exact hdep; ((repeat (first | exact Args.nil | ((with_reducible apply Args.cons); rfl; (with_reducible exact View.same _))))); exact hnew; rintro ⟨ss, bb⟩ -; refine al_app1 ?_) | with_reducible refine al_none rfl ?_ | (with_reducible first | apply aw_seq | apply aw_region | apply al_nil | apply aq_then | apply aw_block | apply aw_skip | apply aw_ret | apply aq_then_ret | apply aq_block_ret) | refine al_run rfl rfl rfl rr_ ?_ | refine al_skip rfl rfl rfl rr_ rfl rfl rfl ?_ | refine aw_cond_t rfl rr_ ?_ | (refine aw_cond_dt rfl rr_ dd_ ?_))
        refine aq_ret1 x_ rfl (.tmp _ _ rfl) (fun _ => ?_)
        exact Fin.flat rfl
      by_cases k2 : inR pr 0 sl = true
      case neg =>
        rw [hbad fun h => k2 h.1.2.1]
        rw [k1] at d1
        rw [Bool.eq_false_iff.2 k2] at d2
        repeat' (first | ((with_reducible apply o_y); exact y_; rfl) | (refine e_alloc ?_; intro ss bb) | refine e_storep ?_ | refine e_call hG hst (d1) ?_ | refine e_call hG hst (d2) ?_ | ((with_reducible apply o_callOV); rfl; kernel_rfl; exact hG; exact hst; exact hdep; ((repeat (first | exact Args.nil | ((with_reducible apply Args.cons); rfl; (with_reducible exact View.same _))))); exact hnew; rintro ⟨ss, bb⟩ -; refine al_app1 ?_) | with_reducible refine al_none rfl ?_ | (with_reducible first | apply aw_seq | apply aw_region | apply al_nil | apply aq_then | apply aw_block | apply aw_skip | apply aw_ret | apply aq_then_ret | apply aq_block_ret) | refine al_run rfl rfl rfl rr_ ?_ | refine al_skip rfl rfl rfl rr_ rfl rfl rfl ?_ | refine aw_cond_t rfl rr_ ?_ | (refine aw_cond_dt rfl rr_ dd_ ?_))
        refine aq_ret1 x_ rfl (.tmp _ _ rfl) (fun _ => ?_)
        exact Fin.flat rfl
      rw [k1] at d1
      rw [k2] at d2
      by_cases k3 : is.length ≤ 900
      case neg =>
        rw [hbad fun h => k3 h.1.2.2]
        repeat' (first | ((with_reducible apply o_y); exact y_; rfl) | (refine e_alloc ?_; intro ss bb) | refine e_storep ?_ | refine e_call hG hst (d1) ?_ | refine e_call hG hst (d2) ?_ | ((with_reducible apply o_callOV); rfl; kernel_rfl; exact hG; exact hst; exact hdep; ((repeat (first | exact Args.nil | ((with_reducible apply Args.cons); rfl; (with_reducible exact View.same _))))); exact hnew; rintro ⟨ss, bb⟩ -; refine al_app1 ?_) | with_reducible refine al_none rfl ?_ | (with_reducible first | apply aw_seq | apply aw_region | apply al_nil | apply aq_then | apply aw_block | apply aw_skip | apply aw_ret | apply aq_then_ret | apply aq_block_ret) | refine al_run rfl rfl rfl rr_ ?_ | (refine aw_cond_dt rfl rr_ dd_ ?_))
        refine aq_ret1 x_ rfl (.tmp _ _ rfl) (fun _ => ?_)
        exact Fin.flat rfl
      have hsl := of_decide_eq_true k1
      repeat' (first | ((with_reducible apply o_y); exact y_; rfl) | (refine e_alloc ?_; intro ss bb) | refine e_storep ?_ | refine e_call hG hst (d1) ?_ | refine e_call hG hst (d2) ?_ | ((with_reducible apply o_callOV); rfl; kernel_rfl; exact hG; exact hst; exact hdep; ((repeat (first | exact Args.nil | ((with_reducible apply Args.cons); rfl; (with_reducible exact View.same _))))); exact hnew; rintro ⟨ss, bb⟩ -; refine al_app1 ?_) | with_reducible refine al_none rfl ?_ | (with_reducible first | apply aw_seq | apply aw_region | apply al_nil | apply aq_then | apply aw_block | apply aw_skip) | refine al_run rfl rfl rfl rr_ ?_ | (refine aw_cond_dt rfl rr_ dd_ ?_) | (refine aw_cond_df rfl rr_ dd_ ?_))
      clear hdep hnew d1 d2
      apply aw_loopk (X := Nat) [1, 7, 9, 152, 153, 154, 187, 188] (fun p => [(189, .int .i64 (p : Int))]) (fun _ => []) (fun p => p ≤ is.length ∧ ∀ j, j < p → ∀ h : j < is.length, B is[j] = true) (fun p => is.length - p) 0 ⟨Nat.zero_le _, by omega⟩
      exact kp_; (repeat (first | exact Weak.envNil | refine Weak.envCons we_ ?_))
      · exact .nil _
      rintro p ⟨hp, hpa⟩
      try dsimp only
      by_cases hlp : p < is.length
      · have hrp := tinstr_row (lo := lo) hlp
        have hmem : is[p] ∈ is := List.getElem_mem hlp
        have hxq := ht _ hmem
        have hct := hiq hsl is[p] hxq
        have hny : B is[p] = true → ∀ j, j < p + 1 → ∀ h : j < is.length, B is[j] = true := fun h => below_succ hpa fun _ => h
        have hbd : B is[p] = false → V = false := fun h => hbad fun k => by
          have := k.2.1 _ hmem
          rw [h] at this; cases this
        clear hiq hbad hnx
        generalize is[p] = x at hrp hct hny hbd
        cases hBx : B x
        · rw [hBx] at hct
          rw [hbd hBx]
          repeat' (first | ((with_reducible apply o_y); exact y_; rfl) | (refine e_alloc ?_; intro ss bb) | refine e_storep ?_ | refine e_call hG hst (hct) ?_ | with_reducible refine al_none rfl ?_ | (with_reducible first | apply aw_seq | apply aw_region | apply al_nil | apply aq_then | apply aw_block | apply aw_skip | apply aw_ret | apply aq_then_ret | apply aq_block_ret) | refine aw_cond_t rfl rr_ ?_ | (refine aw_cond_dt rfl rr_ dd_ ?_))
          refine aq_ret1 x_ rfl (.tmp _ _ rfl) (fun _ => ?_)
          exact Fin.flat rfl
        · rw [hBx] at hct
          repeat' (first | ((with_reducible apply o_y); exact y_; rfl) | (refine e_alloc ?_; intro ss bb) | refine e_storep ?_ | refine e_call hG hst (hct) ?_ | with_reducible refine al_none rfl ?_ | (with_reducible first | apply aw_seq | apply aw_region | apply al_nil | apply aq_then | apply aw_block | apply aw_skip | apply aq_block) | refine aw_cond_f rfl rr_ ?_ | (refine aw_cond_dt rfl rr_ dd_ ?_))
          exact aq_round (p + 1) ⟨by omega, hny hBx⟩ (by omega) (.of _ nw_ od_ (Pick.nil _))
      · have hall : ∀ y ∈ is, B y = true := fun y hy => by
          obtain ⟨j, hj, rfl⟩ := List.getElem_of_mem hy
          exact hpa j (by omega) hj
        have hnz := hnx ⟨⟨k1, k2, k3⟩, hall, rfl⟩
        repeat' (first | ((with_reducible apply o_y); exact y_; rfl) | with_reducible refine al_none rfl ?_ | (with_reducible first | apply aw_seq | apply aw_region | apply al_nil | apply aq_then | apply aw_exit | apply aq_block_hit | apply aq_then_exit | apply aq_block) | (refine aw_cond_df rfl rr_ dd_ ?_))
        exact aq_round (i + 1) ⟨by omega, hnz⟩ (by omega) (.of _ nw_ od_ (Pick.nil _))
    · rw [hvT2 fun j hj => ha j (by omega) hj]
      repeat' (first | ((with_reducible apply o_y); exact y_; rfl) | with_reducible refine al_none rfl ?_ | (with_reducible first | apply aw_seq | apply aw_region | apply al_nil | apply aq_then | apply aw_exit | apply aw_ret | apply aq_block_hit | apply aq_then_exit) | (refine aw_cond_df rfl rr_ dd_ ?_))
      refine aq_ret1 x_ rfl (.tmp _ _ rfl) (fun _ => ?_)
      exact Fin.flat rfl
end Go.Proofs.YthpdkhejeookhaaGreatDoor
/- ReachableSelectors of the program. -/
namespace Go.Proofs.YthpdkhejeookhaaGreatDoor
set_option maxRecDepth 20000
open Go Go.RowKit
section
variable {G : World → Prop}
set_option maxHeartbeats 4000000 in
theorem selectors_ctm (hst : Stable G) (lo : Nat) (B : TCodeBase) (hB : RsOk B) (hes : B.entries.length ≤ 1048576) :
    CtM Tryz.prog G 41 [.agg [.sl lo 3 (B.classes.map (TClassInfo.tw lo)), .sl lo 4 (B.codes.map (TCode.tw lo)), .sl lo 4 (B.entries.map (TEntry.tw lo)), .int .i64 B.main]] []
      (fun _ : Nat × Nat => True) (fun y => [(y.1, y.2, .row 1 (strR (rsFin B).out))]) (fun y => .ms y.1 y.2 0 (rsFin B).out.length) := by
  refine ctm_enter Tryz.func41 rfl Tryz.ntmps41 rfl rfl rfl fun w0 R gs objsR hG hR => ?_
  obtain rfl := hR.inv0
  clear hR
  have hlc := TCode.len lo B.codes
  have hle := TEntry.len lo B.entries
  have hmain := hB.main
  have hc200 := hB.codes
  have hin0 := rs0_in hB
  have hrc0 := Rs.init B
  have hne0 : (rs0 B).todo = [] → rsStep B (rs0 B) = rs0 B := by simp [rs0]
  obtain ⟨m, hm⟩ : ∃ m : Nat, B.main = m := ⟨B.main.toNat, by omega⟩
  have hr0 : rs0 B = ⟨(List.replicate B.codes.length false).set m true, [], [(m : Int)]⟩ := by unfold rs0; rw [hm, Int.toNat_natCast]
  rw [hm] at hmain ⊢
  have hbr : List.replicate B.codes.length [TV.bool false] = boolR (List.replicate B.codes.length false) := by simp [boolR]
  have hrow0 := boolR_get (l := List.replicate B.codes.length false) (k := m) (by simp; omega)
  have hset0 := boolR_set (List.replicate B.codes.length false) m true
  rw [← hbr] at hset0 hrow0
  repeat' (first | ((with_reducible apply o_y); exact y_; rfl) | refine e_box ?_ | (refine e_make ?_; intro ss bb) | (refine e_own ?_; intro ss bb) | with_reducible refine aw_hold_r (id := 3) ?_ | with_reducible refine al_none rfl ?_ | (with_reducible first | apply aw_seq | apply aw_region | apply al_nil | apply aq_then))
  refine ⟨?_⟩
  rename_i so bo
  generalize ss = sm; generalize bb = bm
  refine aw_pick (objs' := (sm, bm, .row 1 (List.replicate B.codes.length [TV.bool false])) :: (so, bo, .row 1 (strR [])) :: R) pk_ ?_
  repeat' (first | ((with_reducible apply o_y); exact y_; rfl) | refine e_store ?_ | (refine e_own ?_; intro ss bb) | with_reducible refine al_none rfl ?_ | (with_reducible first | apply aw_seq | apply aw_region | apply al_nil | apply aq_then | apply aw_block))
  generalize ss = st; generalize bb = bt
  rw [hset0]
  have hkeep : True := trivial
  apply aw_loopk (X := RS × Nat × Nat × List (List TV)) [1, 4, 1000000] (fun x => [(3, .ms so x.2.1 0 x.1.out.length), (5, .ms st x.2.2.1 x.2.2.2.length x.1.todo.length)])
    (fun x => (st, x.2.2.1, .row 1 (x.2.2.2 ++ intR x.1.todo)) :: (sm, bm, .row 1 (boolR x.1.met)) :: (so, x.2.1, .row 1 (strR x.1.out)) :: R)
    (fun x => (Rs B x.1 ∧ RsIn B 0 x.1) ∧ (x.1.todo = [] → rsStep B x.1 = x.1)) (fun x => x.1.mu) (rs0 B, bo, bt, []) ⟨⟨hrc0, hin0⟩, hne0⟩
  exact kp_; (repeat (first | exact Weak.envNil | refine Weak.envCons we_ ?_))
  · rw [hr0]
    dsimp only
    exact .refl _
  clear hne0 hrc0 hin0 hr0 hrow0 hset0 hkeep
  rintro ⟨⟨met, out, todo⟩, bo, bt, pre⟩ ⟨⟨hrc, hin⟩, hfx⟩
  dsimp only at hrc hin hfx ⊢
  cases todo with
  | nil =>
    have hnp : ¬ (0 : Int) < ((([] : List Int).length : Nat) : Int) := by simp
    have hfin := rsFin_eq hrc (hfx rfl)
    rw [hfin]
    repeat' (first | ((with_reducible apply o_y); exact y_; rfl) | with_reducible refine al_none rfl ?_ | (with_reducible first | apply aw_seq | apply aw_region | apply al_nil | apply aq_then | apply aw_exit | apply aw_ret | apply aq_block_hit | apply aq_then_exit) | (refine aw_cond_df rfl rr_ dd_ ?_))
    exact aq_retm1 x_ rfl (so, bo) trivial rfl (.cons _ _ _ _ (.nil R)) pk_ (.tmp _ _ rfl) rfl
  | cons k r =>
    clear hfx
    obtain ⟨hk, hin2, hmu2⟩ := rs_pop hB hin
    obtain ⟨hil, hio⟩ := codeI_ok hB hk
    have hri := rsRow_in (n := 0) hio (by rw [Nat.zero_add]; exact hin2)
    have hsn := fun i (h : i < (codeI B.codes k).length) => rsRow_snoc h ⟨met, out, r⟩
    have hz : RS.mk met out r = rsRow ((codeI B.codes k).take 0) ⟨met, out, r⟩ := rfl
    have hrs : Rs B (rsRow (codeI B.codes k) ⟨met, out, r⟩) := hrc.step
    have hrowc : (B.codes.map (TCode.tw lo))[k.toNat]? = some [.bool (B.codes[k.toNat]'(by omega)).block, .int .i64 (B.codes[k.toNat]'(by omega)).params, .int .i64 (B.codes[k.toNat]'(by omega)).slots, .sl lo 4 ((codeI B.codes k).map (TInstr.tw lo))] := by
      rw [tcode_row (by omega), codeI]
      rw [List.getElem?_eq_getElem (by omega)]
    generalize codeI B.codes k = is at hil hio hri hsn hz hrowc hrs hin2
    generalize (B.codes[k.toNat]'(by omega)).block = cb at hrowc
    generalize (B.codes[k.toNat]'(by omega)).params = cp at hrowc
    generalize (B.codes[k.toNat]'(by omega)).slots = cl at hrowc
    have hp1 : (pre ++ [[TV.int .i64 k]]).length = pre.length + 1 := by simp
    have hp2 : pre ++ intR (k :: r) = (pre ++ [[TV.int .i64 k]]) ++ intR r := by simp [intR]
    have hpos : (0 : Int) < ((k :: r).length : Nat) := by rw [List.length_cons]; omega
    have hg : (pre ++ intR (k :: r))[pre.length]? = some [.int .i64 k] := by
      rw [List.getElem?_append_right (Nat.le_refl _), Nat.sub_self]; rfl
    obtain ⟨kn, hkn⟩ : ∃ kn : Nat, k = kn := ⟨k.toNat, by omega⟩
    rw [show k.toNat = kn by omega] at hrowc
    have hlen : (is.map (TInstr.tw lo)).length = is.length := by simp
    rw [hp2] at hg ⊢
    repeat' (first | ((with_reducible apply o_y); exact y_; rfl) | refine e_slms ?_ | with_reducible refine al_none rfl ?_ | (with_reducible first | apply aw_seq | apply aw_region | apply al_nil | apply aq_then | apply aw_block | apply aw_skip) | (refine aw_cond_dt rfl rr_ dd_ ?_))
    apply aw_loopk (X := Nat × RS × Nat × Nat × List (List TV)) [1, 4, 37, 38, 1000000] (fun x => [(39, .int .i64 (x.1 : Int)), (3, .ms so x.2.2.1 0 x.2.1.out.length), (5, .ms st x.2.2.2.1 x.2.2.2.2.length x.2.1.todo.length)])
      (fun x => (st, x.2.2.2.1, .row 1 (x.2.2.2.2 ++ intR x.2.1.todo)) :: (sm, bm, .row 1 (boolR x.2.1.met)) :: (so, x.2.2.1, .row 1 (strR x.2.1.out)) :: R)
      (fun x => x.1 ≤ is.length ∧ x.2.1 = rsRow (is.take x.1) ⟨met, out, r⟩) (fun x => is.length - x.1) (0, ⟨met, out, r⟩, bo, bt, pre ++ [[.int .i64 k]]) ⟨Nat.zero_le _, hz⟩
    exact kp_; (repeat (refine Weak.envCons we_ ?_))
    · exact Weak.envCons (lk_ms2 rfl hp1.symm rfl) Weak.envNil
    · exact .refl _
    clear hg hp1 hp2 hz
    rintro ⟨i, T, bo, bt, pre⟩ ⟨hi, hT⟩
    dsimp only at hi hT ⊢
    obtain ⟨hTi, hTm⟩ := hri i hi
    rw [← hT] at hTi hTm
    obtain ⟨hT1, hT2⟩ := rs_small hTi
    have hTl := hTi.len
    by_cases hlt : i < is.length
    · have hri2 := tinstr_row (lo := lo) hlt
      have hxa := hio _ (List.getElem_mem hlt)
      have hs2 := hsn i hlt
      rw [← hT] at hs2
      generalize is[i] = x at hri2 hxa hs2
      obtain ⟨op, a, bb0, t⟩ := x
      dsimp only at hri2 hxa
      by_cases hsel : op = 3 ∨ op = 13 ∨ op = 14
      · have hstep : rsI T ⟨op, a, bb0, t⟩ = ⟨T.met, outS T.out t, T.todo⟩ := if_pos hsel
        rw [hstep] at hs2
        have hct := slicesContains_ct hst 0 T.out t (by omega)
        rw [idxS_has] at hct
        have hsl := strR_len T.out
        have hsn2 := strR_snoc' T.out t
        cases hb : hasS T.out t with
        | true =>
          have ho : outS T.out t = T.out := by unfold outS; rw [if_pos hb]
          rw [ho] at hs2
          rw [hb] at hct
          rcases hsel with h | h | h
          all_goals
            repeat' (first | ((with_reducible apply o_y); exact y_; rfl) | (refine e_alloc ?_; intro ss bb) | refine e_storep ?_ | refine e_callv hG hst (hct) ?_ | with_reducible refine al_none rfl ?_ | (with_reducible first | apply aw_seq | apply aw_region | apply al_nil | apply aq_then | apply aw_block | apply aw_skip | apply aq_block) | refine aw_cond_f rfl rr_ ?_ | (refine aw_cond_dt rfl rr_ dd_ ?_) | (refine aw_cond_df rfl rr_ dd_ ?_))
            exact aq_round (i + 1, T, bo, bt, pre) ⟨by dsimp only; omega, hs2.symm⟩ (by dsimp only; omega) (.of _ nw_ od_ pk_)
        | false =>
          have ho : outS T.out t = T.out ++ [t] := by unfold outS; rw [if_neg (by rw [hb]; decide)]
          have hol : (T.out ++ [t]).length = T.out.length + 1 := by simp
          rw [ho] at hs2
          rw [hb] at hct
          rcases hsel with h | h | h
          all_goals
            repeat' (first | ((with_reducible apply o_y); exact y_; rfl) | (refine e_alloc ?_; intro ss bb) | refine e_storep ?_ | refine e_lit ?_ | ((with_reducible apply o_append); rfl; rfl; rfl; kernel_rfl; (repeat (first | with_reducible exact mh | with_reducible refine mt ?_)); exact hsl; ((show List.length _ = 1; rfl)); omega; exact hsn2; (intro bq; (repeat (first | with_reducible exact Upd.head _ | with_reducible apply Upd.tail))); intro bb) | refine e_callv hG hst (hct) ?_ | with_reducible refine al_none rfl ?_ | (with_reducible first | apply aw_seq | apply aw_region | apply al_nil | apply aq_then | apply aw_block | apply aw_skip | apply aq_block) | refine aw_cond_t rfl rr_ ?_ | (refine aw_cond_dt rfl rr_ dd_ ?_) | (refine aw_cond_df rfl rr_ dd_ ?_))
            exact aq_round (i + 1, ⟨T.met, T.out ++ [t], T.todo⟩, bb, bt, pre) ⟨by dsimp only; omega, hs2.symm⟩ (by dsimp only; omega) (.of _ (Weak.envCons rfl (Weak.envCons (lk_ms rfl hol.symm) (Weak.envCons rfl Weak.envNil))) od_ pk_)
      · by_cases h15 : op = 15
        · have hstep : rsI T ⟨op, a, bb0, t⟩ = metS T a := by
            unfold rsI
            rw [if_neg hsel, if_pos h15]
          rw [hstep] at hs2
          have h3 : ¬ op = 3 := fun h => hsel (.inl h)
          have h13 : ¬ op = 13 := fun h => hsel (.inr (.inl h))
          have h14 : ¬ op = 14 := fun h => hsel (.inr (.inr h))
          obtain ⟨j, rfl⟩ : ∃ j : Nat, a = j := ⟨a.toNat, by have := hxa h15; omega⟩
          have hjl := hxa h15
          have hrow := boolR_get (l := T.met) (k := j) (by omega)
          have hml := boolR_len T.met
          have hset := boolR_set T.met j true
          have htl := intR_length T.todo
          have hlive : ((pre ++ intR T.todo).drop pre.length).take T.todo.length = intR T.todo := by
            rw [List.drop_left, List.take_of_length_le (by omega)]
          have hpl : pre.length + T.todo.length ≤ (pre ++ intR T.todo).length := by rw [List.length_append, htl]; omega
          cases hgm : gb T.met j with
          | true =>
            rw [metS_t hgm] at hs2
            rw [hgm] at hrow
            repeat' (first | ((with_reducible apply o_y); exact y_; rfl) | (refine e_alloc ?_; intro ss bb) | refine e_storep ?_ | with_reducible refine al_none rfl ?_ | (with_reducible first | apply aw_seq | apply aw_region | apply al_nil | apply aq_then | apply aw_block | apply aw_skip | apply aq_block) | refine aw_cond_f rfl rr_ ?_ | (refine aw_cond_dt rfl rr_ dd_ ?_) | (refine aw_cond_df rfl rr_ dd_ ?_))
            exact aq_round (i + 1, T, bo, bt, pre) ⟨by dsimp only; omega, hs2.symm⟩ (by dsimp only; omega) (.of _ nw_ od_ pk_)
          | false =>
            rw [metS_f hgm] at hs2
            rw [hgm] at hrow
            have htl2 : (T.todo ++ [(j : Int)]).length = T.todo.length + 1 := by simp
            repeat' (first | ((with_reducible apply o_y); exact y_; rfl) | (refine e_alloc ?_; intro ss bb) | refine e_storep ?_ | refine e_store ?_ | refine e_lit ?_ | (refine e_appq ?_; intro bb pp) | with_reducible refine al_none rfl ?_ | (with_reducible first | apply aw_seq | apply aw_region | apply al_nil | apply aq_then | apply aw_block | apply aw_skip | apply aq_block) | refine aw_cond_t rfl rr_ ?_ | (refine aw_cond_dt rfl rr_ dd_ ?_) | (refine aw_cond_df rfl rr_ dd_ ?_))
            rw [hset]
            refine aq_round (i + 1, ⟨T.met.set j true, T.out, T.todo ++ [(j : Int)]⟩, bo, bb, pp) ⟨by dsimp only; omega, hs2.symm⟩ (by dsimp only; omega) (.of _ (Weak.envCons rfl (Weak.envCons rfl (Weak.envCons (lk_ms rfl htl2.symm) Weak.envNil))) od_ pk_)
        · have hstep : rsI T ⟨op, a, bb0, t⟩ = T := by
            unfold rsI
            rw [if_neg hsel, if_neg h15]
          rw [hstep] at hs2
          have h3 : ¬ op = 3 := fun h => hsel (.inl h)
          have h13 : ¬ op = 13 := fun h => hsel (.inr (.inl h))
          have h14 : ¬ op = 14 := fun h => hsel (.inr (.inr h))
          repeat' (first | ((with_reducible apply o_y); exact y_; rfl) | (refine e_alloc ?_; intro ss bb) | refine e_storep ?_ | with_reducible refine al_none rfl ?_ | (with_reducible first | apply aw_seq | apply aw_region | apply al_nil | apply aq_then | apply aw_block | apply aw_skip | apply aq_block) | (refine aw_cond_dt rfl rr_ dd_ ?_) | (refine aw_cond_df rfl rr_ dd_ ?_))
          exact aq_round (i + 1, T, bo, bt, pre) ⟨by dsimp only; omega, hs2.symm⟩ (by dsimp only; omega) (.of _ nw_ od_ pk_)
    · obtain rfl : i = is.length := by omega
      rw [List.take_of_length_le (Nat.le_refl _)] at hT
      rw [← hT] at hrs
      rw [Nat.sub_self, Nat.zero_add] at hTi
      clear hri hsn hT hio hil
      by_cases hq : T.todo = []
      · obtain ⟨met, out, todo⟩ := T
        dsimp only at hq
        subst hq
        have hnp : ¬ (0 : Int) < ((([] : List Int).length : Nat) : Int) := by simp
        have hpi := rsPass_in (any := hasS out asyB) hB.entries hTi
        have hps := fun i (h : i < B.entries.length) => rsPass_snoc (any := hasS out asyB) h ⟨met, out, []⟩
        have hps0 : (RS.mk met out []) = rsPass (hasS out asyB) (B.entries.take 0) ⟨met, out, []⟩ := rfl
        dsimp only at hT1 hT2
        have hasy := slicesContains_ct hst 0 out ⟨#[97, 115, 83, 121, 109, 98, 111, 108]⟩ (by omega)
        rw [idxS_has, show hasS out ⟨#[97, 115, 83, 121, 109, 98, 111, 108]⟩ = hasS out asyB from rfl] at hasy
        repeat' (first | ((with_reducible apply o_y); exact y_; rfl) | refine e_callv hG hst (hasy) ?_ | with_reducible refine al_none rfl ?_ | (with_reducible first | apply aw_seq | apply aw_region | apply al_nil | apply aq_then | apply aw_block | apply aw_exit | apply aw_skip | apply aq_block_hit | apply aq_then_exit) | (refine aw_cond_df rfl rr_ dd_ ?_))
        apply aw_loopk (X := Nat × RS × Nat × List (List TV)) [1, 3, 4, 9, 83, 84, 1000000] (fun x => [(85, .int .i64 (x.1 : Int)), (5, .ms st x.2.2.1 x.2.2.2.length x.2.1.todo.length)])
          (fun x => (st, x.2.2.1, .row 1 (x.2.2.2 ++ intR x.2.1.todo)) :: (sm, bm, .row 1 (boolR x.2.1.met)) :: (so, bo, .row 1 (strR out)) :: R)
          (fun x => x.1 ≤ B.entries.length ∧ x.2.1 = rsPass (hasS out asyB) (B.entries.take x.1) ⟨met, out, []⟩) (fun x => B.entries.length - x.1) (0, ⟨met, out, []⟩, bt, pre) ⟨Nat.zero_le _, hps0⟩
        exact kp_; (repeat (first | exact Weak.envNil | refine Weak.envCons we_ ?_))
        · exact .refl _
        clear hnp hps0
        rintro ⟨i, T, bt, pre⟩ ⟨hi, hT⟩
        dsimp only at hi hT ⊢
        obtain ⟨⟨hUi, hUm⟩, hUo⟩ := hpi i hi
        rw [← hT] at hUi hUm hUo
        obtain ⟨hU1, _⟩ := rs_small hUi
        have hUl := hUi.len
        by_cases hlt : i < B.entries.length
        · have hre := tentry_row (lo := lo) hlt
          have hxa := hB.entries _ (List.getElem_mem hlt)
          have hs2 := hps i hlt
          rw [← hT] at hs2
          generalize B.entries[i] = e at hre hxa hs2
          obtain ⟨ow, cl2, sel, code⟩ := e
          dsimp only at hre hxa
          obtain ⟨c, rfl⟩ : ∃ c : Nat, code = c := ⟨code.toNat, by omega⟩
          have hrow := boolR_get (l := T.met) (k := c) (by omega)
          have hml := boolR_len T.met
          have hset := boolR_set T.met c true
          have hhas := slicesContains_ct hst 0 out sel (by omega)
          rw [idxS_has] at hhas
          have hsl := strR_len out
          have htl := intR_length T.todo
          have hlive : ((pre ++ intR T.todo).drop pre.length).take T.todo.length = intR T.todo := by
            rw [List.drop_left, List.take_of_length_le (by omega)]
          have hpl : pre.length + T.todo.length ≤ (pre ++ intR T.todo).length := by rw [List.length_append, htl]; omega
          have htl2 : (T.todo ++ [(c : Int)]).length = T.todo.length + 1 := by simp
          unfold rsE at hs2
          dsimp only at hs2
          rw [hUo] at hs2
          cases hg : gb T.met c with
          | true =>
            rw [hg] at hrow hs2
            repeat' (first | ((with_reducible apply o_y); exact y_; rfl) | (refine e_alloc ?_; intro ss bb) | refine e_storep ?_ | with_reducible refine al_none rfl ?_ | (with_reducible first | apply aw_seq | apply aw_region | apply al_nil | apply aq_then | apply aw_block | apply aw_skip | apply aq_block) | refine al_skip rfl rfl rfl rr_ rfl rfl rfl ?_ | refine al_skip2 rfl rfl rfl rr_ rfl rfl ?_ | refine aw_cond_f rfl rr_ ?_ | (refine aw_cond_dt rfl rr_ dd_ ?_))
            exact aq_round (i + 1, T, bt, pre) ⟨by dsimp only; omega, hs2.symm⟩ (by dsimp only; omega) (.of _ nw_ od_ pk_)
          | false =>
            rw [hg] at hrow hs2
            rw [metS_f hg] at hs2
            cases ha : hasS out asyB with
            | true =>
              rw [ha] at hs2
              repeat' (first | ((with_reducible apply o_y); exact y_; rfl) | (refine e_alloc ?_; intro ss bb) | refine e_storep ?_ | refine e_store ?_ | refine e_lit ?_ | (refine e_appq ?_; intro bb pp) | with_reducible refine al_none rfl ?_ | (with_reducible first | apply aw_seq | apply aw_region | apply al_nil | apply aq_then | apply aw_block | apply aw_skip | apply aq_block) | refine al_run rfl rfl rfl rr_ ?_ | refine al_skip rfl rfl rfl rr_ rfl rfl rfl ?_ | refine aw_cond_t rfl rr_ ?_ | (refine aw_cond_dt rfl rr_ dd_ ?_))
              rw [hset]
              refine aq_round (i + 1, ⟨T.met.set c true, T.out, T.todo ++ [(c : Int)]⟩, bb, pp) ⟨by dsimp only; omega, hs2.symm⟩ (by dsimp only; omega) (.of _ (Weak.envCons rfl (Weak.envCons (lk_ms rfl htl2.symm) Weak.envNil)) od_ pk_)
            | false =>
              rw [ha] at hs2
              cases hb : hasS out sel with
              | true =>
                rw [hb] at hs2 hhas
                repeat' (first | ((with_reducible apply o_y); exact y_; rfl) | (refine e_alloc ?_; intro ss bb) | refine e_storep ?_ | refine e_callv hG hst (hhas) ?_ | refine e_store ?_ | refine e_lit ?_ | (refine e_appq ?_; intro bb pp) | with_reducible refine al_none rfl ?_ | (with_reducible first | apply aw_seq | apply aw_region | apply al_nil | apply aq_then | apply aw_block | apply aw_skip | apply aq_block) | refine al_run rfl rfl rfl rr_ ?_ | refine aw_cond_t rfl rr_ ?_ | (refine aw_cond_dt rfl rr_ dd_ ?_))
                rw [hset]
                refine aq_round (i + 1, ⟨T.met.set c true, T.out, T.todo ++ [(c : Int)]⟩, bb, pp) ⟨by dsimp only; omega, hs2.symm⟩ (by dsimp only; omega) (.of _ (Weak.envCons rfl (Weak.envCons (lk_ms rfl htl2.symm) Weak.envNil)) od_ pk_)
              | false =>
                rw [hb] at hs2 hhas
                repeat' (first | ((with_reducible apply o_y); exact y_; rfl) | (refine e_alloc ?_; intro ss bb) | refine e_storep ?_ | refine e_callv hG hst (hhas) ?_ | with_reducible refine al_none rfl ?_ | (with_reducible first | apply aw_seq | apply aw_region | apply al_nil | apply aq_then | apply aw_block | apply aw_skip | apply aq_block) | refine al_run rfl rfl rfl rr_ ?_ | refine aw_cond_f rfl rr_ ?_ | (refine aw_cond_dt rfl rr_ dd_ ?_))
                exact aq_round (i + 1, T, bt, pre) ⟨by dsimp only; omega, hs2.symm⟩ (by dsimp only; omega) (.of _ nw_ od_ pk_)
        · obtain rfl : i = B.entries.length := by omega
          rw [List.take_of_length_le (Nat.le_refl _)] at hT
          have hrT : Rs B T := by rw [hT]; exact hrs.step
          have hfx : T.todo = [] → rsStep B T = T := fun h1 => by
            have h2 := rs_fix (b := B) (s := ⟨met, out, []⟩) rfl (by show (rsPass (hasS out asyB) B.entries ⟨met, out, []⟩).todo = []; rw [← hT]; exact h1)
            have h3 : T = ⟨met, out, []⟩ := by rw [hT]; exact h2
            rw [h3]; exact h2
          obtain ⟨m3, o3, t3⟩ := T
          dsimp only at hUo hU1 hUl
          subst hUo
          repeat' (first | ((with_reducible apply o_y); exact y_; rfl) | with_reducible refine al_none rfl ?_ | (with_reducible first | apply aw_seq | apply aw_region | apply al_nil | apply aq_then | apply aw_exit | apply aq_block_hit | apply aq_then_exit | apply aq_block) | (refine aw_cond_df rfl rr_ dd_ ?_))
          exact aq_round (⟨m3, o3, t3⟩, bo, bt, pre) ⟨⟨hrT, hUi⟩, hfx⟩ (by dsimp only; omega) (.of _ nw_ od_ pk_)
      · have hql : (0 : Int) < (T.todo.length : Nat) := by
          have := List.length_pos_iff.2 hq
          omega
        repeat' (first | ((with_reducible apply o_y); exact y_; rfl) | with_reducible refine al_none rfl ?_ | (with_reducible first | apply aw_seq | apply aw_region | apply al_nil | apply aq_then | apply aw_exit | apply aq_block_hit | apply aq_then_exit) | (refine aw_cond_dt rfl rr_ dd_ ?_) | (refine aw_cond_df rfl rr_ dd_ ?_))
        exact aq_round (T, bo, bt, pre) ⟨⟨hrs, hTi⟩, fun h => absurd h hq⟩ (by dsimp only; omega) (.of _ nw_ od_ pk_)
end
end Go.Proofs.YthpdkhejeookhaaGreatDoor
