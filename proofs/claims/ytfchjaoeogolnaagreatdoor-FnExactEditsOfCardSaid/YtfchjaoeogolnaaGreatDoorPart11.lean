/- Part 11 of the proof: the texts IvG, IvI, IvJ, IvU, EdC, IvH, IvK. -/
import Derived.Test.YtfchjaoeogolnaaGreatDoorPart6
import Derived.Test.YtfchjaoeogolnaaGreatDoorPart8
import Derived.Test.YtfchjaoeogolnaaGreatDoorPart5
import Derived.Test.YtfchjaoeogolnaaGreatDoorPart9
import Derived.Test.YtfchjaoeogolnaaGreatDoorPart10
/- IsVerified: the classes, on the side of the reference (l8IsClasses). -/
namespace Go.Proofs.YtfchjaoeogolnaaGreatDoor
set_option maxRecDepth 20000
open Go Go.RowKit
section
variable {G : World → Prop}
set_option maxRecDepth 4000 in
set_option maxHeartbeats 4000000 in
theorem l8IsClasses_ct (hst : Stable G) (lo : Nat) (l : List TClassInfo) (hsm : l.length ≤ 1048576 ∧ ∀ y ∈ l, TClassInfo.small 1048576 y) : Ct Tryz.prog G 69 [.sl lo 3 (l.map (TClassInfo.tw lo))] (fun _ => .bool (classesOkB l)) := by
  refine ct_enter Tryz.func69 rfl Tryz.ntmps69 rfl rfl fun w0 _ hG => ?_
  have hlen := TClassInfo.len lo l
  have hbl := TClassInfo.len w0.heap.size builtinL
  rw [builtin_len] at hbl
  have hl1 := hsm.1
  by_cases hl : 16 ≤ l.length ∧ l.length ≤ 24
  · repeat' (first | ((with_reducible apply o_y); exact y_; rfl) | (refine e_alloc ?_; intro ss bb) | refine e_build ?_ | refine e_storep ?_ | ((with_reducible apply o_callV); rfl; kernel_rfl; exact hG; exact hst; exact l8Infos_ct hst [.str ⟨#[]⟩, .bool false, .nils, .nils, .nils]; (apply Args.cons; rfl; exact View.mpSame List.mem_cons_self); exact Args.nil) | with_reducible refine al_none rfl ?_ | (with_reducible first | apply aw_seq | apply aw_region | apply al_nil | apply aq_then | apply aw_block | apply aw_skip) | refine al_run rfl rfl rfl rr_ ?_ | (refine al_gf rfl rfl rfl rr_ dd_ ?_) | (refine aw_cond_df rfl rr_ dd_ ?_))
    apply aw_loopk (X := Nat) [0, 4] (fun i => [(5, .int .i64 (i : Int))]) (fun _ => []) (fun i => i ≤ l.length ∧ ∀ j, j < i → ∀ h : j < l.length, classOk l j l[j]) (fun i => l.length - i) 0 ⟨Nat.zero_le _, by simp⟩
    exact kp_; (repeat (first | exact Weak.envNil | refine Weak.envCons we_ ?_))
    · exact .nil _
    rintro i ⟨hi, hk⟩
    try dsimp only
    by_cases hlt : i < l.length
    · have hra : (l.map (TClassInfo.tw lo))[i]? = some (l[i].tw lo) := row_map hlt
      have hbi := hsm.2 _ (List.getElem_mem hlt)
      have hbad := classesOk_bad hlt
      have hks : classOk l i l[i] → ∀ j, j < i + 1 → ∀ h : j < l.length, classOk l j l[j] := fun ho => below_succ hk fun _ => ho
      generalize l[i] = x at hra hbi hbad hks
      rw [show x.tw lo = [.str x.name, .int .i64 x.parent, .sl lo 1 (strR x.fields)] from rfl] at hra
      by_cases hlow : i < 16
      · obtain ⟨bi, hb, _, _, h3, _⟩ := builtin_at hlow
        have hrb : (builtinL.map (TClassInfo.tw w0.heap.size))[i]? = some [.str bi.name, .int .i64 bi.parent, .sl w0.heap.size 1 (strR bi.fields)] := by rw [List.getElem?_map, hb]; rfl
        rw [classOk_low hlow hb] at hbad hks
        have hbf : bi.fields.length ≤ 1048576 := by rw [← h3]; unfold bfields; split <;> simp
        have heq := l3Texts_ct (G := G) lo w0.heap.size x.fields bi.fields hbi.2.1 hbf
        clear h3
        by_cases ho : x.name = bi.name ∧ x.parent = bi.parent ∧ x.fields = bi.fields
        · have n1 : ¬ x.name ≠ bi.name := fun h => h ho.1
          have n2 : ¬ x.parent ≠ bi.parent := fun h => h ho.2.1
          rw [decide_eq_true ho.2.2] at heq
          repeat' (first | ((with_reducible apply o_y); exact y_; rfl) | (refine e_alloc ?_; intro ss bb) | refine e_storep ?_ | with_reducible refine aw_draw (by kernel_rfl) (by kernel_rfl) ?_ | with_reducible refine dr_nil ?_ | with_reducible refine dr_none rfl ?_ | refine dr_run rfl rfl rfl rr_ ?_ | (refine dr_gf rfl rfl rfl rr_ dd_ ?_) | ((with_reducible apply d_y); exact y_; rfl) | refine e_calld hG hst (heq) ?_ | with_reducible refine al_none rfl ?_ | (with_reducible first | apply aw_seq | apply aw_region | apply al_nil | apply aq_then | apply aw_block | apply aw_exit | apply aw_skip | apply aq_block_hit | apply aq_then_exit) | refine aw_cond_f rfl rr_ ?_ | (refine aw_cond_dt rfl rr_ dd_ ?_))
          exact aq_round (i + 1) ⟨by omega, hks ho⟩ (by omega) (.of _ nw_ od_ (Pick.nil _))
        · rw [hbad ho]
          clear hks hbad
          by_cases hfe : x.fields = bi.fields
          · rw [decide_eq_true hfe] at heq
            repeat' (first | ((with_reducible apply o_y); exact y_; rfl) | (refine e_alloc ?_; intro ss bb) | refine e_storep ?_ | with_reducible refine aw_draw (by kernel_rfl) (by kernel_rfl) ?_ | with_reducible refine dr_nil ?_ | with_reducible refine dr_none rfl ?_ | refine dr_run rfl rfl rfl rr_ ?_ | refine dr_skip rfl rfl rfl rr_ rfl rfl rfl ?_ | (refine dr_gsplit rfl rfl rfl rr_ (fun hg => ?_) (fun hg => ?_)) | ((with_reducible apply d_y); exact y_; rfl) | refine e_calld hG hst (heq) ?_ | with_reducible refine al_none rfl ?_ | (with_reducible first | apply aw_seq | apply aw_region | apply al_nil | apply aq_then | apply aw_block | apply aw_exit | apply aw_skip | apply aw_ret | apply aq_block_hit | apply aq_then_exit | apply aq_then_ret | apply aq_block_ret) | refine aw_cond_t rfl rr_ ?_ | refine aw_cond_f rfl rr_ ?_ | (refine aw_cond_dt rfl rr_ dd_ ?_))
            all_goals first
              | (exfalso; exact ho ⟨Decidable.of_not_not (by assumption), Decidable.of_not_not (by assumption), hfe⟩)
              | (refine aq_ret1 x_ rfl (.tmp _ _ rfl) (fun _ => ?_)
                 exact Fin.flat rfl)
          · rw [decide_eq_false hfe] at heq
            repeat' (first | ((with_reducible apply o_y); exact y_; rfl) | (refine e_alloc ?_; intro ss bb) | refine e_storep ?_ | with_reducible refine aw_draw (by kernel_rfl) (by kernel_rfl) ?_ | with_reducible refine dr_nil ?_ | with_reducible refine dr_none rfl ?_ | refine dr_run rfl rfl rfl rr_ ?_ | refine dr_skip rfl rfl rfl rr_ rfl rfl rfl ?_ | (refine dr_gsplit rfl rfl rfl rr_ (fun hg => ?_) (fun hg => ?_)) | ((with_reducible apply d_y); exact y_; rfl) | refine e_calld hG hst (heq) ?_ | with_reducible refine al_none rfl ?_ | (with_reducible first | apply aw_seq | apply aw_region | apply al_nil | apply aq_then | apply aw_block | apply aw_skip | apply aw_ret | apply aq_then_ret | apply aq_block_ret) | refine aw_cond_t rfl rr_ ?_ | (refine aw_cond_dt rfl rr_ dd_ ?_))
            all_goals
              refine aq_ret1 x_ rfl (.tmp _ _ rfl) (fun _ => ?_)
              exact Fin.flat rfl
      · rw [classOk_high hlow] at hbad hks
        obtain ⟨nm, par, fs⟩ := x
        dsimp only at hra hbi hbad hks
        have hx1 : nm.size ≤ 1048576 := hbi.1
        have hx2 : fs.length ≤ 1048576 := hbi.2.1
        have hx3 : ∀ y ∈ fs, ByteArray.size y ≤ 1048576 := hbi.2.2
        have hfl := strR_len fs
        clear hbl
        repeat' (first | ((with_reducible apply o_y); exact y_; rfl) | (refine e_alloc ?_; intro ss bb) | refine e_storep ?_ | with_reducible refine aw_hold_r (id := 12) ?_ | with_reducible refine al_none rfl ?_ | (with_reducible first | apply aw_seq | apply aw_region | apply al_nil | apply aq_then | apply aw_block | apply aw_skip) | (refine aw_cond_dt rfl rr_ dd_ ?_) | (refine aw_cond_df rfl rr_ dd_ ?_))
        refine ⟨aw_seq ?_⟩
        generalize ss = s3; generalize bb = b3
        apply aw_join (X := Unit) [0, 4, 5, 6] (fun _ => [(88, .bool (!decide (classHead l i ⟨nm, par, fs⟩)))]) (fun _ => [(s3, b3, .box [.str nm, .int .i64 par, .sl lo 1 (strR fs)])]) (fun _ => True)
        case hk => (repeat (first | exact Kept.nil | (apply Kept.cons; rfl)))
        · repeat' (first | ((with_reducible apply o_y); exact y_; rfl) | refine e_call hG hst (specIsName_ct hst _ hx1) ?_ | refine e_call hG hst (l1In_ct _ _ _) ?_ | with_reducible refine al_none rfl ?_ | (with_reducible first | apply aw_region | apply al_nil) | refine al_run rfl rfl rfl rr_ ?_ | refine al_skip rfl rfl rfl rr_ rfl rfl rfl ?_ | refine al_skip2 rfl rfl rfl rr_ rfl rfl ?_ | (refine al_gsplit rfl rfl rfl rr_ (fun hg => ?_) (fun hg => ?_)) | (refine al_gsplit_b rfl rfl rfl rr_ (fun hg => ?_) (fun hg => ?_)))
          all_goals
            refine aq_mid () trivial (.of _ (Weak.envCons (lk_bool rfl ?_) Weak.envNil) od_ pk_)
            clear hbad hks hk hra hbi
            simp only [Bool.not_eq_true', Bool.not_eq_false', inR, decide_eq_true_eq, decide_eq_false_iff_not] at *
            by_cases h8 : (8 : Int) < (fs.length : Int)
            all_goals (try simp only [h8, decide_true, decide_false])
            all_goals first
              | (have : classHead l i ⟨nm, par, fs⟩ := ⟨by assumption, by dsimp only; omega, by dsimp only; omega, by dsimp only; omega⟩
                 simp only [decide_eq_true this, Bool.not_true]
                 done)
              | (have : ¬ classHead l i ⟨nm, par, fs⟩ := fun h => by
                   obtain ⟨h1, h2, h3, h4⟩ := h
                   dsimp only at h1 h2 h3 h4
                   first
                     | omega
                     | (simp only [h1] at *; done)
                     | (simp_all; done)
                 simp only [decide_eq_false this, Bool.not_false]
                 done)
        intro _ _
        by_cases hh : classHead l i ⟨nm, par, fs⟩
        · rw [decide_eq_true hh, Bool.not_true]
          have hh2 := hh.2
          obtain ⟨⟨hp0, hp1⟩, _, hf8⟩ := hh2
          dsimp only at hp0 hp1 hf8
          obtain ⟨p, rfl⟩ : ∃ p : Nat, par = p := ⟨par.toNat, by omega⟩
          have hpl : p < l.length := by omega
          have hrp : (l.map (TClassInfo.tw lo))[p]? = some (l[p].tw lo) := row_map hpl
          have hbp := hsm.2 _ (List.getElem_mem hpl)
          have hpf := parentFields_eq (x := ⟨nm, (p : Int), fs⟩) rfl (List.getElem?_eq_getElem hpl)
          generalize l[p] = y at hrp hbp hpf
          obtain ⟨pn, pp, pf⟩ := y
          replace hrp : (l.map (TClassInfo.tw lo))[p]? = some [.str pn, .int .i64 pp, .sl lo 1 (strR pf)] := hrp
          have hx4 : pf.length ≤ 1048576 := hbp.2.1
          have hpl2 := strR_len pf
          repeat' (first | ((with_reducible apply o_y); exact y_; rfl) | with_reducible refine al_none rfl ?_ | (with_reducible first | apply aw_seq | apply aw_region | apply al_nil | apply aq_then | apply aw_block | apply aw_skip) | refine aw_cond_f rfl rr_ ?_)
          apply aw_loopk (X := Nat) [0, 4, 5, 6] (fun k => [(7, .int .i64 (k : Int))]) (fun _ => [(s3, b3, .box [.str nm, .int .i64 (p : Int), .sl lo 1 (strR fs)])]) (fun k => k ≤ i ∧ ∀ y ∈ l.take k, y.name ≠ nm) (fun k => i - k) 0 ⟨Nat.zero_le _, by simp⟩
          exact kp_; (repeat (first | exact Weak.envNil | refine Weak.envCons we_ ?_))
          · exact .refl _
          rintro k ⟨hki, hkn⟩
          try dsimp only
          by_cases hlk : k < i
          · have hlk2 : k < l.length := by omega
            have hrk : (l.map (TClassInfo.tw lo))[k]? = some (l[k].tw lo) := row_map hlk2
            have hta := take_all (p := fun y : TClassInfo => y.name ≠ nm) hlk2 hkn
            have hmem : l[k] ∈ l.take i := List.mem_take_iff_getElem.2 ⟨k, by omega, rfl⟩
            generalize l[k] = z at hrk hta hmem
            obtain ⟨zn, zp, zf⟩ := z
            replace hrk : (l.map (TClassInfo.tw lo))[k]? = some [.str zn, .int .i64 zp, .sl lo 1 (strR zf)] := hrk
            by_cases hzn : zn = nm
            · rw [hbad fun h => h.2.1 _ hmem hzn]
              repeat' (first | ((with_reducible apply o_y); exact y_; rfl) | with_reducible refine aw_draw (by kernel_rfl) (by kernel_rfl) ?_ | with_reducible refine dr_nil ?_ | with_reducible refine dr_none rfl ?_ | ((with_reducible apply d_y); exact y_; rfl) | with_reducible refine al_none rfl ?_ | (with_reducible first | apply aw_seq | apply aw_region | apply al_nil | apply aq_then | apply aw_block | apply aw_skip | apply aw_ret | apply aq_then_ret | apply aq_block_ret) | (refine aw_cond_dt rfl rr_ dd_ ?_))
              refine aq_ret1 x_ rfl (.tmp _ _ rfl) (fun _ => ?_)
              exact Fin.flat rfl
            · repeat' (first | ((with_reducible apply o_y); exact y_; rfl) | with_reducible refine aw_draw (by kernel_rfl) (by kernel_rfl) ?_ | with_reducible refine dr_nil ?_ | with_reducible refine dr_none rfl ?_ | ((with_reducible apply d_y); exact y_; rfl) | with_reducible refine al_none rfl ?_ | (with_reducible first | apply aw_seq | apply aw_region | apply al_nil | apply aq_then | apply aw_block | apply aw_skip | apply aq_block) | (refine aw_cond_dt rfl rr_ dd_ ?_) | (refine aw_cond_df rfl rr_ dd_ ?_))
              exact aq_round (k + 1) ⟨by omega, hta hzn⟩ (by omega) (.of _ nw_ od_ pk_)
          · obtain rfl : k = i := by omega
            clear hlk
            by_cases hhe : pf.length ≤ fs.length ∧ fs.take pf.length = pf
            · have heq := l3Texts_ct (G := G) lo lo (fs.take pf.length) pf (by simp; omega) hx4
              rw [decide_eq_true hhe.2] at heq
              have hsl : (strR fs).take pf.length = strR (fs.take pf.length) := by simp [strR, List.map_take]
              have hle := hhe.1
              repeat' (first | ((with_reducible apply o_y); exact y_; rfl) | with_reducible refine aw_draw (by kernel_rfl) (by kernel_rfl) ?_ | with_reducible refine dr_nil ?_ | with_reducible refine dr_none rfl ?_ | refine dr_run rfl rfl rfl rr_ ?_ | (refine dr_gf rfl rfl rfl rr_ dd_ ?_) | ((with_reducible apply d_y); exact y_; rfl) | refine e_slhd ?_ | refine e_calld hG hst (heq) ?_ | with_reducible refine al_none rfl ?_ | (with_reducible first | apply aw_seq | apply aw_region | apply al_nil | apply aq_then | apply aw_block | apply aw_exit | apply aw_skip | apply aq_block_hit | apply aq_then_exit) | refine aw_cond_f rfl rr_ ?_ | (refine aw_cond_df rfl rr_ dd_ ?_))
              apply aw_loopk (X := Nat) [0, 4, 5, 6] (fun k => [(9, .int .i64 (k : Int))]) (fun _ => [(s3, b3, .box [.str nm, .int .i64 (p : Int), .sl lo 1 (strR fs)])]) (fun k => k ≤ fs.length ∧ ∀ j, j < k → ∀ h : j < fs.length, fieldAt fs j fs[j] = true) (fun k => fs.length - k) 0 ⟨Nat.zero_le _, by omega⟩
              exact kp_; (repeat (first | exact Weak.envNil | refine Weak.envCons we_ ?_))
              · exact .refl _
              rintro q ⟨hq, hqa⟩
              try dsimp only
              by_cases hqf : q < fs.length
              · have hfr := strR_row hqf
                have hqs := hx3 _ (List.getElem_mem hqf)
                have hqb := fieldsOk_bad hqf
                have hqn : fieldAt fs q fs[q] = true → ∀ j, j < q + 1 → ∀ h : j < fs.length, fieldAt fs j fs[j] = true := fun h => below_succ hqa fun _ => h
                generalize fs[q] = f at hfr hqs hqb hqn
                have hname := specIsName_ct (G := G) hst f hqs
                have hhas := l1Has_ct (G := G) lo (fs.take q) f (by simp; omega)
                have hsq : (strR fs).take q = strR (fs.take q) := by simp [strR, List.map_take]
                have hqle : q ≤ fs.length := hq
                by_cases hqo : fieldAt fs q f = true
                · have hqo2 := hqo
                  unfold fieldAt at hqo2
                  rw [Bool.and_eq_true, Bool.not_eq_true'] at hqo2
                  rw [hqo2.1] at hname
                  rw [hqo2.2] at hhas
                  repeat' (first | ((with_reducible apply o_y); exact y_; rfl) | with_reducible refine aw_draw (by kernel_rfl) (by kernel_rfl) ?_ | with_reducible refine dr_nil ?_ | with_reducible refine dr_none rfl ?_ | refine dr_run rfl rfl rfl rr_ ?_ | ((with_reducible apply d_y); exact y_; rfl) | refine e_slhd ?_ | refine e_calld hG hst (hname) ?_ | refine e_calld hG hst (hhas) ?_ | with_reducible refine al_none rfl ?_ | (with_reducible first | apply aw_seq | apply aw_region | apply al_nil | apply aq_then | apply aw_block | apply aw_skip | apply aq_block) | refine aw_cond_f rfl rr_ ?_ | (refine aw_cond_dt rfl rr_ dd_ ?_))
                  exact aq_round (q + 1) ⟨by omega, hqn hqo⟩ (by omega) (.of _ nw_ od_ pk_)
                · rw [hbad fun h => hqb (Bool.eq_false_iff.2 hqo) h.2.2.2]
                  by_cases hqs1 : isNameL f.data.toList = true
                  · have hqs2 : hasS (fs.take q) f = true := by
                      unfold fieldAt at hqo
                      rw [hqs1, Bool.true_and] at hqo
                      simpa using hqo
                    rw [hqs1] at hname
                    rw [hqs2] at hhas
                    repeat' (first | ((with_reducible apply o_y); exact y_; rfl) | with_reducible refine aw_draw (by kernel_rfl) (by kernel_rfl) ?_ | with_reducible refine dr_nil ?_ | with_reducible refine dr_none rfl ?_ | refine dr_run rfl rfl rfl rr_ ?_ | ((with_reducible apply d_y); exact y_; rfl) | refine e_slhd ?_ | refine e_calld hG hst (hname) ?_ | refine e_calld hG hst (hhas) ?_ | with_reducible refine al_none rfl ?_ | (with_reducible first | apply aw_seq | apply aw_region | apply al_nil | apply aq_then | apply aw_block | apply aw_skip | apply aw_ret | apply aq_then_ret | apply aq_block_ret) | refine aw_cond_t rfl rr_ ?_ | (refine aw_cond_dt rfl rr_ dd_ ?_))
                    refine aq_ret1 x_ rfl (.tmp _ _ rfl) (fun _ => ?_)
                    exact Fin.flat rfl
                  · rw [Bool.eq_false_iff.2 hqs1] at hname
                    repeat' (first | ((with_reducible apply o_y); exact y_; rfl) | with_reducible refine aw_draw (by kernel_rfl) (by kernel_rfl) ?_ | with_reducible refine dr_nil ?_ | with_reducible refine dr_none rfl ?_ | refine dr_skip rfl rfl rfl rr_ rfl rfl rfl ?_ | ((with_reducible apply d_y); exact y_; rfl) | refine e_calld hG hst (hname) ?_ | with_reducible refine al_none rfl ?_ | (with_reducible first | apply aw_seq | apply aw_region | apply al_nil | apply aq_then | apply aw_block | apply aw_skip | apply aw_ret | apply aq_then_ret | apply aq_block_ret) | refine aw_cond_t rfl rr_ ?_ | (refine aw_cond_dt rfl rr_ dd_ ?_))
                    refine aq_ret1 x_ rfl (.tmp _ _ rfl) (fun _ => ?_)
                    exact Fin.flat rfl
              · obtain rfl : q = fs.length := by omega
                repeat' (first | ((with_reducible apply o_y); exact y_; rfl) | with_reducible refine al_none rfl ?_ | (with_reducible first | apply aw_seq | apply aw_region | apply al_nil | apply aq_then | apply aw_exit | apply aq_block_hit | apply aq_then_exit | apply aq_block) | (refine aw_cond_df rfl rr_ dd_ ?_))
                exact aq_round (k + 1) ⟨by omega, hks ⟨hh, hkn, ⟨by rw [hpf]; exact hhe.1, by rw [hpf]; exact hhe.2⟩, fun j hj => hqa j hj hj⟩⟩ (by omega) (.of _ nw_ od_ (Pick.nil _))
            · rw [hbad fun h => hhe (by have := h.2.2.1; unfold heirs at this; rw [hpf] at this; exact this)]
              by_cases hle : pf.length ≤ fs.length
              · have heq := l3Texts_ct (G := G) lo lo (fs.take pf.length) pf (by simp; omega) hx4
                rw [decide_eq_false fun h => hhe ⟨hle, h⟩] at heq
                have hsl : (strR fs).take pf.length = strR (fs.take pf.length) := by simp [strR, List.map_take]
                repeat' (first | ((with_reducible apply o_y); exact y_; rfl) | with_reducible refine aw_draw (by kernel_rfl) (by kernel_rfl) ?_ | with_reducible refine dr_nil ?_ | with_reducible refine dr_none rfl ?_ | refine dr_run rfl rfl rfl rr_ ?_ | (refine dr_gf rfl rfl rfl rr_ dd_ ?_) | ((with_reducible apply d_y); exact y_; rfl) | refine e_slhd ?_ | refine e_calld hG hst (heq) ?_ | with_reducible refine al_none rfl ?_ | (with_reducible first | apply aw_seq | apply aw_region | apply al_nil | apply aq_then | apply aw_exit | apply aw_ret | apply aq_block_hit | apply aq_then_exit | apply aq_then_ret | apply aq_block_ret) | refine aw_cond_t rfl rr_ ?_ | (refine aw_cond_df rfl rr_ dd_ ?_))
                refine aq_ret1 x_ rfl (.tmp _ _ rfl) (fun _ => ?_)
                exact Fin.flat rfl
              · repeat' (first | ((with_reducible apply o_y); exact y_; rfl) | with_reducible refine aw_draw (by kernel_rfl) (by kernel_rfl) ?_ | with_reducible refine dr_nil ?_ | with_reducible refine dr_none rfl ?_ | refine dr_skip rfl rfl rfl rr_ rfl rfl rfl ?_ | (refine dr_gt rfl rfl rfl rr_ dd_ ?_) | ((with_reducible apply d_y); exact y_; rfl) | with_reducible refine al_none rfl ?_ | (with_reducible first | apply aw_seq | apply aw_region | apply al_nil | apply aq_then | apply aw_exit | apply aw_ret | apply aq_block_hit | apply aq_then_exit | apply aq_then_ret | apply aq_block_ret) | refine aw_cond_t rfl rr_ ?_ | (refine aw_cond_df rfl rr_ dd_ ?_))
                refine aq_ret1 x_ rfl (.tmp _ _ rfl) (fun _ => ?_)
                exact Fin.flat rfl
        · rw [decide_eq_false hh, Bool.not_false, hbad fun h => hh h.1]
          repeat' (first | ((with_reducible apply o_y); exact y_; rfl) | with_reducible refine al_none rfl ?_ | (with_reducible first | apply aw_seq | apply aw_region | apply al_nil | apply aq_then | apply aw_ret | apply aq_then_ret | apply aq_block_ret) | refine aw_cond_t rfl rr_ ?_)
          refine aq_ret1 x_ rfl (.tmp _ _ rfl) (fun _ => ?_)
          exact Fin.flat rfl
    · rw [classesOk_good hl fun j hj => hk j (by omega)]
      repeat' (first | ((with_reducible apply o_y); exact y_; rfl) | with_reducible refine al_none rfl ?_ | (with_reducible first | apply aw_seq | apply aw_region | apply al_nil | apply aq_then | apply aw_exit | apply aw_ret | apply aq_block_hit | apply aq_then_exit) | (refine aw_cond_df rfl rr_ dd_ ?_))
      refine aq_ret1 x_ rfl (.tmp _ _ rfl) (fun _ => ?_)
      exact Fin.flat rfl
  · rw [classesOk_len hl]
    repeat' (first | ((with_reducible apply o_y); exact y_; rfl) | with_reducible refine al_none rfl ?_ | (with_reducible first | apply aw_seq | apply aw_region | apply al_nil | apply aq_then | apply aw_ret | apply aq_then_ret) | refine al_run rfl rfl rfl rr_ ?_ | refine al_skip rfl rfl rfl rr_ rfl rfl rfl ?_ | (refine al_gsplit rfl rfl rfl rr_ (fun hg => ?_) (fun hg => ?_)) | refine aw_cond_t rfl rr_ ?_ | (refine aw_cond_dt rfl rr_ dd_ ?_))
    all_goals first
      | (exfalso; omega)
      | (refine aq_ret1 x_ rfl (.tmp _ _ rfl) (fun _ => ?_)
         exact Fin.flat rfl)
end
end Go.Proofs.YtfchjaoeogolnaaGreatDoor
/- IsVerified: the entries, on the side of the reference (l16Entries). -/
namespace Go.Proofs.YtfchjaoeogolnaaGreatDoor
set_option maxRecDepth 20000
open Go Go.RowKit
section
variable {G : World → Prop}
set_option maxRecDepth 4000 in
set_option maxHeartbeats 4000000 in
theorem l16Entries_ct (hst : Stable G) (hse : ∀ s : ByteArray, s.size ≤ 1048576 → Ct Tryz.prog G 108 [.str s] (fun _ => .bool (isSelL s.data.toList))) (hca : ∀ s : ByteArray, s.size ≤ 1048576 → Ct Tryz.prog G 109 [.str s] (fun _ => .int .i64 (nArgsL s.data.toList)))
    (f lo : Nat) (cl : List TClassInfo) (cs : List TCode) (es : List TEntry) (mn : Int) (hcl : cl.length ≤ 1048576) (hcs : cs.length ≤ 1048576) (hes : es.length ≤ 1048576 ∧ ∀ y ∈ es, TEntry.small 1048576 y) :
    Ct Tryz.prog G 70 [.cp f [.sl lo 3 (cl.map (TClassInfo.tw lo)), .sl lo 4 (cs.map (TCode.tw lo)), .sl lo 4 (es.map (TEntry.tw lo)), .int .i64 mn]] (fun _ => .bool (entriesB cl.length cs es)) := by
  refine ct_enter Tryz.func70 rfl Tryz.ntmps70 rfl rfl fun w0 _ hG => ?_
  have hl1 := TClassInfo.len lo cl
  have hl2 := TCode.len lo cs
  have hl3 := TEntry.len lo es
  have hel := hes.1
  repeat' (first | ((with_reducible apply o_y); exact y_; rfl) | with_reducible refine al_none rfl ?_ | (with_reducible first | apply aw_seq | apply aw_region | apply al_nil | apply aq_then | apply aw_block))
  apply aw_loopk (X := Nat) [0] (fun i => [(3, .int .i64 (i : Int))]) (fun _ => []) (fun i => i ≤ es.length ∧ ∀ j, j < i → ∀ h : j < es.length, entryOk cl.length cs es[j] ∧ newEntry es j es[j]) (fun i => es.length - i) 0 ⟨Nat.zero_le _, by omega⟩
  exact kp_; (repeat (first | exact Weak.envNil | refine Weak.envCons we_ ?_))
  · exact .nil _
  rintro i ⟨hi, hk⟩
  try dsimp only
  by_cases hlt : i < es.length
  · have hra := tentry_row (lo := lo) hlt
    have hsm := hes.2 _ (List.getElem_mem hlt)
    have hbad : ¬ (entryOk cl.length cs es[i] ∧ newEntry es i es[i]) → entriesB cl.length cs es = false := entriesB_bad hlt
    have hks : entryOk cl.length cs es[i] ∧ newEntry es i es[i] → ∀ j, j < i + 1 → ∀ h : j < es.length, entryOk cl.length cs es[j] ∧ newEntry es j es[j] := fun ho => below_succ hk fun _ => ho
    generalize es[i] = e at hra hsm hbad hks
    obtain ⟨ow, ec, sel, cd⟩ := e
    dsimp only at hra
    have hss : sel.size ≤ 1048576 := hsm
    have c1 := hse sel hss
    have c2 := hca sel hss
    have c3 := l1In_ct (G := G) ow 16 ((cl.length : Int) - 1)
    have c4 := l1In_ct (G := G) cd 0 ((cs.length : Int) - 1)
    by_cases h1 : isSelL sel.data.toList = true
    case neg =>
      rw [hbad fun h => h1 h.1.1.1]
      rw [Bool.eq_false_iff.2 h1] at c1
      repeat' (first | ((with_reducible apply o_y); exact y_; rfl) | (refine e_alloc ?_; intro ss bb) | refine e_storep ?_ | with_reducible refine aw_draw (by kernel_rfl) (by kernel_rfl) ?_ | with_reducible refine dr_nil ?_ | with_reducible refine dr_none rfl ?_ | refine dr_skip rfl rfl rfl rr_ rfl rfl rfl ?_ | ((with_reducible apply d_y); exact y_; rfl) | refine e_calld hG hst (c1) ?_ | with_reducible refine al_none rfl ?_ | (with_reducible first | apply aw_seq | apply aw_region | apply al_nil | apply aq_then | apply aw_block | apply aw_skip | apply aw_ret | apply aq_then_ret | apply aq_block_ret) | refine aw_cond_t rfl rr_ ?_ | (refine aw_cond_dt rfl rr_ dd_ ?_))
      refine aq_ret1 x_ rfl (.tmp _ _ rfl) (fun _ => ?_)
      exact Fin.flat rfl
    by_cases h2 : inR ow 16 ((cl.length : Int) - 1) = true
    case neg =>
      rw [hbad fun h => h2 h.1.1.2.1]
      rw [h1] at c1
      rw [Bool.eq_false_iff.2 h2] at c3
      repeat' (first | ((with_reducible apply o_y); exact y_; rfl) | (refine e_alloc ?_; intro ss bb) | refine e_storep ?_ | with_reducible refine aw_draw (by kernel_rfl) (by kernel_rfl) ?_ | with_reducible refine dr_nil ?_ | with_reducible refine dr_none rfl ?_ | refine dr_run rfl rfl rfl rr_ ?_ | refine dr_skip rfl rfl rfl rr_ rfl rfl rfl ?_ | ((with_reducible apply d_y); exact y_; rfl) | refine e_calld hG hst (c1) ?_ | refine e_calld hG hst (c3) ?_ | with_reducible refine al_none rfl ?_ | (with_reducible first | apply aw_seq | apply aw_region | apply al_nil | apply aq_then | apply aw_block | apply aw_skip | apply aw_ret | apply aq_then_ret | apply aq_block_ret) | refine aw_cond_t rfl rr_ ?_ | (refine aw_cond_dt rfl rr_ dd_ ?_))
      refine aq_ret1 x_ rfl (.tmp _ _ rfl) (fun _ => ?_)
      exact Fin.flat rfl
    by_cases h3 : inR cd 0 ((cs.length : Int) - 1) = true
    case neg =>
      rw [hbad fun h => h3 h.1.1.2.2]
      rw [h1] at c1
      rw [h2] at c3
      rw [Bool.eq_false_iff.2 h3] at c4
      repeat' (first | ((with_reducible apply o_y); exact y_; rfl) | (refine e_alloc ?_; intro ss bb) | refine e_storep ?_ | with_reducible refine aw_draw (by kernel_rfl) (by kernel_rfl) ?_ | with_reducible refine dr_nil ?_ | with_reducible refine dr_none rfl ?_ | refine dr_run rfl rfl rfl rr_ ?_ | refine dr_skip rfl rfl rfl rr_ rfl rfl rfl ?_ | ((with_reducible apply d_y); exact y_; rfl) | refine e_calld hG hst (c1) ?_ | refine e_calld hG hst (c3) ?_ | refine e_calld hG hst (c4) ?_ | with_reducible refine al_none rfl ?_ | (with_reducible first | apply aw_seq | apply aw_region | apply al_nil | apply aq_then | apply aw_block | apply aw_skip | apply aw_ret | apply aq_then_ret | apply aq_block_ret) | refine aw_cond_t rfl rr_ ?_ | (refine aw_cond_dt rfl rr_ dd_ ?_))
      refine aq_ret1 x_ rfl (.tmp _ _ rfl) (fun _ => ?_)
      exact Fin.flat rfl
    have h3' := of_decide_eq_true h3
    obtain ⟨q, rfl⟩ : ∃ q : Nat, cd = q := ⟨cd.toNat, by omega⟩
    have hql : q < cs.length := by omega
    have hrq := tcode_row (lo := lo) hql
    have hpl := plainAt_iff (n := nArgsL sel.data.toList) rfl (List.getElem?_eq_getElem hql)
    generalize cs[q] = y at hrq hpl
    obtain ⟨yb, yp, ys, yi⟩ := y
    dsimp only at hrq hpl
    rw [h1] at c1
    rw [h2] at c3
    rw [h3, show (cs.length : Int) - 1 = ((cs.length - 1 : Nat) : Int) by omega] at c4
    cases yb
    case true =>
      rw [hbad fun h => by have := hpl.1 h.1.2; cases this.1]
      repeat' (first | ((with_reducible apply o_y); exact y_; rfl) | (refine e_alloc ?_; intro ss bb) | refine e_storep ?_ | with_reducible refine aw_draw (by kernel_rfl) (by kernel_rfl) ?_ | with_reducible refine dr_nil ?_ | with_reducible refine dr_none rfl ?_ | refine dr_run rfl rfl rfl rr_ ?_ | refine dr_skip rfl rfl rfl rr_ rfl rfl rfl ?_ | ((with_reducible apply d_y); exact y_; rfl) | refine e_calld hG hst (c1) ?_ | refine e_calld hG hst (c3) ?_ | refine e_calld hG hst (c4) ?_ | with_reducible refine al_none rfl ?_ | (with_reducible first | apply aw_seq | apply aw_region | apply al_nil | apply aq_then | apply aw_block | apply aw_skip | apply aw_ret | apply aq_then_ret | apply aq_block_ret) | refine aw_cond_t rfl rr_ ?_ | (refine aw_cond_dt rfl rr_ dd_ ?_))
      refine aq_ret1 x_ rfl (.tmp _ _ rfl) (fun _ => ?_)
      exact Fin.flat rfl
    by_cases h5 : yp = nArgsL sel.data.toList
    case neg =>
      rw [hbad fun h => by have := hpl.1 h.1.2; exact h5 this.2]
      repeat' (first | ((with_reducible apply o_y); exact y_; rfl) | (refine e_alloc ?_; intro ss bb) | refine e_storep ?_ | with_reducible refine aw_draw (by kernel_rfl) (by kernel_rfl) ?_ | with_reducible refine dr_nil ?_ | with_reducible refine dr_none rfl ?_ | refine dr_run rfl rfl rfl rr_ ?_ | ((with_reducible apply d_y); exact y_; rfl) | refine e_calld hG hst (c1) ?_ | refine e_calld hG hst (c3) ?_ | refine e_calld hG hst (c4) ?_ | refine e_calld hG hst (c2) ?_ | with_reducible refine al_none rfl ?_ | (with_reducible first | apply aw_seq | apply aw_region | apply al_nil | apply aq_then | apply aw_block | apply aw_skip | apply aw_ret | apply aq_then_ret | apply aq_block_ret) | (refine aw_cond_dt rfl rr_ dd_ ?_))
      refine aq_ret1 x_ rfl (.tmp _ _ rfl) (fun _ => ?_)
      exact Fin.flat rfl
    have h5' : ¬ yp ≠ nArgsL sel.data.toList := fun h => h h5
    repeat' (first | ((with_reducible apply o_y); exact y_; rfl) | (refine e_alloc ?_; intro ss bb) | refine e_storep ?_ | with_reducible refine aw_draw (by kernel_rfl) (by kernel_rfl) ?_ | with_reducible refine dr_nil ?_ | with_reducible refine dr_none rfl ?_ | refine dr_run rfl rfl rfl rr_ ?_ | ((with_reducible apply d_y); exact y_; rfl) | refine e_calld hG hst (c1) ?_ | refine e_calld hG hst (c3) ?_ | refine e_calld hG hst (c4) ?_ | refine e_calld hG hst (c2) ?_ | with_reducible refine al_none rfl ?_ | (with_reducible first | apply aw_seq | apply aw_region | apply al_nil | apply aq_then | apply aw_block | apply aw_skip) | (refine aw_cond_dt rfl rr_ dd_ ?_) | (refine aw_cond_df rfl rr_ dd_ ?_))
    apply aw_loopk (X := Nat) [0, 3, 4] (fun k => [(5, .int .i64 (k : Int))]) (fun _ => [(ss, bb, .box [.int .i64 ow, .bool ec, .str sel, .int .i64 (q : Int)])]) (fun k => k ≤ i ∧ ∀ y ∈ es.take k, ¬ sameEntry ⟨ow, ec, sel, q⟩ y) (fun k => i - k) 0 ⟨Nat.zero_le _, by simp⟩
    exact kp_; (repeat (first | exact Weak.envNil | refine Weak.envCons we_ ?_))
    · exact .refl _
    rintro k ⟨hki, hkn⟩
    try dsimp only
    by_cases hlk : k < i
    · have hlk2 : k < es.length := by omega
      have hrk := tentry_row (lo := lo) hlk2
      have hta := take_all (p := fun y => ¬ sameEntry ⟨ow, ec, sel, q⟩ y) hlk2 hkn
      have hmem : es[k] ∈ es.take i := List.mem_take_iff_getElem.2 ⟨k, by omega, rfl⟩
      generalize es[k] = z at hrk hta hmem
      obtain ⟨zo, zc, zs, zd⟩ := z
      dsimp only at hrk
      by_cases hz : sameEntry ⟨ow, ec, sel, q⟩ ⟨zo, zc, zs, zd⟩
      · rw [hbad fun h => h.2 _ hmem hz]
        obtain ⟨z1, z2, z3⟩ := hz
        dsimp only at z1 z2 z3
        have z4 : (zc == ec) = true := by rw [z2]; simp
        repeat' (first | ((with_reducible apply o_y); exact y_; rfl) | with_reducible refine aw_draw (by kernel_rfl) (by kernel_rfl) ?_ | with_reducible refine dr_nil ?_ | with_reducible refine dr_none rfl ?_ | refine dr_run rfl rfl rfl rr_ ?_ | (refine dr_gt rfl rfl rfl rr_ dd_ ?_) | ((with_reducible apply d_y); exact y_; rfl) | with_reducible refine al_none rfl ?_ | (with_reducible first | apply aw_seq | apply aw_region | apply al_nil | apply aq_then | apply aw_block | apply aw_skip | apply aw_ret | apply aq_then_ret | apply aq_block_ret | apply aq_block) | (refine aw_cond_dt rfl rr_ dd_ ?_) | (refine aw_cond_b rfl rr_ (fun hc => ?_) (fun hc => ?_)))
        all_goals first
          | (exfalso; simp_all; done)
          | (refine aq_ret1 x_ rfl (.tmp _ _ rfl) (fun _ => ?_)
             exact Fin.flat rfl)
      · have hnx := hta hz
        unfold sameEntry at hz
        dsimp only at hz
        repeat' (first | ((with_reducible apply o_y); exact y_; rfl) | with_reducible refine aw_draw (by kernel_rfl) (by kernel_rfl) ?_ | with_reducible refine dr_nil ?_ | with_reducible refine dr_none rfl ?_ | refine dr_run rfl rfl rfl rr_ ?_ | refine dr_skip rfl rfl rfl rr_ rfl rfl rfl ?_ | (refine dr_gsplit rfl rfl rfl rr_ (fun hg => ?_) (fun hg => ?_)) | ((with_reducible apply d_y); exact y_; rfl) | with_reducible refine al_none rfl ?_ | (with_reducible first | apply aw_seq | apply aw_region | apply al_nil | apply aq_then | apply aw_block | apply aw_skip | apply aw_ret | apply aq_then_ret | apply aq_block_ret | apply aq_block) | refine aw_cond_f rfl rr_ ?_ | (refine aw_cond_dt rfl rr_ dd_ ?_) | (refine aw_cond_b rfl rr_ (fun hc => ?_) (fun hc => ?_)))
        all_goals first
          | exact aq_round (k + 1) ⟨by omega, hnx⟩ (by omega) (.of _ nw_ od_ pk_)
          | (exfalso; simp_all; done)
    · obtain rfl : k = i := by omega
      repeat' (first | ((with_reducible apply o_y); exact y_; rfl) | with_reducible refine al_none rfl ?_ | (with_reducible first | apply aw_seq | apply aw_region | apply al_nil | apply aq_then | apply aw_exit | apply aq_block_hit | apply aq_then_exit | apply aq_block) | (refine aw_cond_df rfl rr_ dd_ ?_))
      exact aq_round (k + 1) ⟨by omega, hks ⟨⟨⟨h1, h2, h3⟩, hpl.2 ⟨rfl, h5⟩⟩, hkn⟩⟩ (by omega) (.of _ nw_ od_ (Pick.nil _))
  · rw [entriesB_good fun j hj => hk j (by omega)]
    repeat' (first | ((with_reducible apply o_y); exact y_; rfl) | with_reducible refine al_none rfl ?_ | (with_reducible first | apply aw_seq | apply aw_region | apply al_nil | apply aq_then | apply aw_exit | apply aw_ret | apply aq_block_hit | apply aq_then_exit) | (refine aw_cond_df rfl rr_ dd_ ?_))
    refine aq_ret1 x_ rfl (.tmp _ _ rfl) (fun _ => ?_)
    exact Fin.flat rfl
end
end Go.Proofs.YtfchjaoeogolnaaGreatDoor
/- IsVerified: the codes around each code, on the side of the reference (l16Outer). -/
namespace Go.Proofs.YtfchjaoeogolnaaGreatDoor
set_option maxRecDepth 20000
open Go Go.RowKit
/-- What both sides give back of the outer codes. -/
noncomputable def outR (cs : List TCode) (K : Nat) : TV := .tup [.sl K 1 (intR ((outersL cs).getD [])), .bool (outersL cs).isSome]
theorem fin_none {B L : Nat} {objs : Objs} {r : Option (List Int)} (h : r = none) : Fin B objs L .nils (.sl L 1 (intR (r.getD []))) := by subst h; exact .nils 1
theorem fin_none_b {B L : Nat} {objs : Objs} {r : Option (List Int)} (h : r = none) : Fin B objs L (.bool false) (.bool r.isSome) := by subst h; exact .bool false
theorem fin_some {B L s b n : Nat} {objs : Objs} {r : Option (List Int)} {o : List Int} (h : r = some o) (hn : o.length = n) (hm : (s, b, TObj.row 1 (intR o)) ∈ objs) : Fin B objs L (.ms s b 0 n) (.sl L 1 (intR (r.getD []))) := by
  subst h; subst hn
  have hl := intR_length o
  exact Fin.msFlat hm (by omega) (by rw [List.drop_zero, List.take_of_length_le (by omega)]; rfl) (intR_flat o)
theorem fin_some_b {B L : Nat} {objs : Objs} {r : Option (List Int)} {o : List Int} (h : r = some o) : Fin B objs L (.bool true) (.bool r.isSome) := by subst h; exact .bool true
section
variable {G : World → Prop}
set_option maxRecDepth 4000 in
set_option maxHeartbeats 4000000 in
theorem l16Outer_ct (hst : Stable G) (f lo : Nat) (ccl cen : TV) (cs : List TCode) (mn : Int) (hcs : cs.length ≤ 1048576 ∧ ∀ y ∈ cs, TCode.small 1048576 y) :
    Ct Tryz.prog G 71 [.cp f [ccl, .sl lo 4 (cs.map (TCode.tw lo)), cen, .int .i64 mn]] (outR cs) := by
  refine ct_enter Tryz.func71 rfl Tryz.ntmps71 rfl rfl fun w0 _ hG => ?_
  have hl2 := TCode.len lo cs
  have hcl := hcs.1
  have h0 : (List.replicate cs.length [TV.int .i64 0]) = intR (fillD cs.length 0) := by simp [fillD, intR]
  repeat' (first | ((with_reducible apply o_y); exact y_; rfl) | (refine e_make ?_; intro ss bb) | with_reducible refine al_none rfl ?_ | (with_reducible first | apply aw_seq | apply aw_region | apply al_nil | apply aq_then | apply aw_block))
  generalize ss = sd; generalize bb = bd
  apply aw_loopk (X := Nat) [0, 4] (fun i => [(5, .int .i64 (i : Int))]) (fun i => [(sd, bd, .row 1 (intR (fillD cs.length i)))]) (fun i => i ≤ cs.length) (fun i => cs.length - i) 0 (Nat.zero_le _)
  exact kp_; (repeat (first | exact Weak.envNil | refine Weak.envCons we_ ?_))
  · rw [← h0]; exact .refl _
  intro i hi
  try dsimp only at hi ⊢
  by_cases hlt : i < cs.length
  · obtain ⟨hrow, hset⟩ := fillD_step hlt
    repeat' (first | ((with_reducible apply o_y); exact y_; rfl) | refine e_store ?_ | with_reducible refine al_none rfl ?_ | (with_reducible first | apply aw_seq | apply aw_region | apply al_nil | apply aq_then | apply aw_block | apply aw_skip | apply aq_block) | (refine aw_cond_dt rfl rr_ dd_ ?_))
    rw [hset]
    refine aq_round (i + 1) (by omega) (by omega) (.of _ nw_ od_ (.refl _))
  · obtain rfl : i = cs.length := by omega
    clear hlt hi
    have hfull : fillD cs.length cs.length = List.replicate cs.length (-1) := by simp [fillD]
    rw [hfull]
    have hst0 : outFrom cs 0 (List.replicate cs.length (-1)) = outersL cs := rfl
    have hin0 := outInv_zero cs.length
    unfold outR
    generalize outersL cs = R at hst0
    generalize List.replicate cs.length (-1 : Int) = o0 at hst0 hin0
    repeat' (first | ((with_reducible apply o_y); exact y_; rfl) | with_reducible refine al_none rfl ?_ | (with_reducible first | apply aw_seq | apply aw_region | apply al_nil | apply aq_then | apply aw_block | apply aw_exit | apply aq_block_hit | apply aq_then_exit) | (refine aw_cond_df rfl rr_ dd_ ?_))
    apply aw_loopk (X := Nat × List Int) [0, 4] (fun x => [(6, .int .i64 (x.1 : Int))]) (fun x => [(sd, bd, .row 1 (intR x.2))]) (fun x => x.1 ≤ cs.length ∧ outInv cs.length x.2 ∧ outFrom cs x.1 x.2 = R) (fun x => cs.length - x.1) (0, o0) ⟨Nat.zero_le _, hin0, hst0⟩
    exact kp_; (repeat (first | exact Weak.envNil | refine Weak.envCons we_ ?_))
    · exact .refl _
    clear hin0 hst0
    rintro ⟨i, o⟩ ⟨hi, hin, hR⟩
    dsimp only at hi hin hR ⊢
    have hol : (intR o).length = cs.length := by rw [intR_length]; exact hin.1
    by_cases hlt : i < cs.length
    · have hra := tcode_row (lo := lo) hlt
      have hsm := hcs.2 _ (List.getElem_mem hlt)
      rw [outFrom_step hlt] at hR
      generalize cs[i] = c at hra hsm hR
      obtain ⟨cb, cp, csl, is⟩ := c
      dsimp only at hra hR
      have hil := TInstr.len lo is
      have hisl : is.length ≤ 1048576 := hsm.1
      repeat' (first | ((with_reducible apply o_y); exact y_; rfl) | with_reducible refine al_none rfl ?_ | (with_reducible first | apply aw_seq | apply aw_region | apply al_nil | apply aq_then | apply aw_block | apply aw_skip) | (refine aw_cond_dt rfl rr_ dd_ ?_))
      apply aw_loopk (X := Nat × List Int) [0, 4, 6] (fun x => [(7, .int .i64 (x.1 : Int))]) (fun x => [(sd, bd, .row 1 (intR x.2))]) (fun x => x.1 ≤ is.length ∧ outInv cs.length x.2 ∧ outRest cs i (is.drop x.1) x.2 = R) (fun x => is.length - x.1) (0, o) ⟨Nat.zero_le _, hin, hR⟩
      exact kp_; (repeat (first | exact Weak.envNil | refine Weak.envCons we_ ?_))
      · exact .refl _
      clear hin hR hol
      rintro ⟨k, o⟩ ⟨hk, hin, hR⟩
      dsimp only at hk hin hR ⊢
      have hol : (intR o).length = cs.length := by rw [intR_length]; exact hin.1
      by_cases hlk : k < is.length
      · have hrk := tinstr_row (lo := lo) hlk
        rw [outRest_step hlk] at hR
        generalize is[k] = x at hrk hR
        obtain ⟨op, a, b, t⟩ := x
        unfold outI at hR
        dsimp only at hrk hR
        by_cases h15 : op = 15
        · rw [if_pos h15] at hR
          have h15' : ¬ op ≠ 15 := fun h => h h15
          by_cases hin2 : 0 ≤ a ∧ a ≤ (i : Int) - 1
          · have cin := l1In_ct (G := G) a 0 ((i - 1 : Nat) : Int)
            rw [inR_t (by omega)] at cin
            obtain ⟨q, rfl⟩ : ∃ q : Nat, a = q := ⟨a.toNat, by omega⟩
            have hql : q < o.length := by rw [hin.1]; omega
            have hrq := intR_gd hql
            have hqc : q < cs.length := by omega
            by_cases hg : 0 ≤ gd o (q : Int)
            · rw [if_neg fun h => h.2 hg] at hR
              repeat' (first | ((with_reducible apply o_y); exact y_; rfl) | (refine e_alloc ?_; intro ss bb) | refine e_storep ?_ | refine e_call hG hst (cin) ?_ | with_reducible refine al_none rfl ?_ | (with_reducible first | apply aw_seq | apply aw_region | apply al_nil | apply aq_then | apply aw_block | apply aw_skip | apply aw_ret | apply aq_then_ret | apply aq_block_ret) | refine al_run rfl rfl rfl rr_ ?_ | (refine aw_cond_dt rfl rr_ dd_ ?_) | (refine aw_cond_df rfl rr_ dd_ ?_))
              refine aq_ret2 x_ rfl (.tmp _ _ rfl) (.tmp _ _ rfl) (fun _ => ?_) (fun _ => ?_)
              · exact fin_none hR.symm
              · exact fin_none_b hR.symm
            · rw [if_pos ⟨hin2, hg⟩, Int.toNat_natCast] at hR
              dsimp only at hR
              have hset := intR_set o q (i : Int)
              have hin3 := (outI_inv (n := cs.length) (i := i) (x := ⟨15, q, b, t⟩) (o := o) (o' := o.set q (i : Int)) hlt (by unfold outI; rw [if_pos rfl, if_pos ⟨hin2, hg⟩, Int.toNat_natCast]) hin).1
              repeat' (first | ((with_reducible apply o_y); exact y_; rfl) | (refine e_alloc ?_; intro ss bb) | refine e_storep ?_ | refine e_call hG hst (cin) ?_ | refine e_store ?_ | with_reducible refine al_none rfl ?_ | (with_reducible first | apply aw_seq | apply aw_region | apply al_nil | apply aq_then | apply aw_block | apply aw_skip | apply aq_block) | refine al_run rfl rfl rfl rr_ ?_ | (refine aw_cond_dt rfl rr_ dd_ ?_) | (refine aw_cond_df rfl rr_ dd_ ?_))
              rw [hset]
              refine aq_round (k + 1, o.set q (i : Int)) ⟨by dsimp only; omega, hin3, hR⟩ (by dsimp only; omega) (.of _ nw_ od_ pk_)
          · have cin := l1In_ct (G := G) a 0 ((i : Int) - 1)
            have cin' := l1In_ct (G := G) a 0 ((i - 1 : Nat) : Int)
            rw [inR_f hin2] at cin
            rw [if_neg fun h => hin2 h.1] at hR
            repeat' (first | ((with_reducible apply o_y); exact y_; rfl) | (refine e_alloc ?_; intro ss bb) | refine e_storep ?_ | refine e_call hG hst (cin) ?_ | with_reducible refine al_none rfl ?_ | (with_reducible first | apply aw_seq | apply aw_region | apply al_nil | apply aq_then | apply aw_block | apply aw_skip | apply aw_ret | apply aq_then_ret | apply aq_block_ret) | refine al_skip rfl rfl rfl rr_ rfl rfl rfl ?_ | refine aw_cond_t rfl rr_ ?_ | (refine aw_cond_dt rfl rr_ dd_ ?_) | (refine aw_cond_df rfl rr_ dd_ ?_))
            refine aq_ret2 x_ rfl (.tmp _ _ rfl) (.tmp _ _ rfl) (fun _ => ?_) (fun _ => ?_)
            · exact fin_none hR.symm
            · exact fin_none_b hR.symm
        · rw [if_neg h15] at hR
          dsimp only at hR
          repeat' (first | ((with_reducible apply o_y); exact y_; rfl) | (refine e_alloc ?_; intro ss bb) | refine e_storep ?_ | with_reducible refine al_none rfl ?_ | (with_reducible first | apply aw_seq | apply aw_region | apply al_nil | apply aq_then | apply aw_block | apply aw_exit | apply aw_skip | apply aq_block_hit | apply aq_then_exit) | (refine aw_cond_dt rfl rr_ dd_ ?_))
          refine aq_round (k + 1, o) ⟨by dsimp only; omega, hin, hR⟩ (by dsimp only; omega) (.of _ nw_ od_ pk_)
      · rw [outRest_end hlk] at hR
        repeat' (first | ((with_reducible apply o_y); exact y_; rfl) | with_reducible refine al_none rfl ?_ | (with_reducible first | apply aw_seq | apply aw_region | apply al_nil | apply aq_then | apply aw_exit | apply aq_block_hit | apply aq_then_exit | apply aq_block) | (refine aw_cond_df rfl rr_ dd_ ?_))
        refine aq_round (i + 1, o) ⟨by dsimp only; omega, hin, hR⟩ (by dsimp only; omega) (.of _ nw_ od_ pk_)
    · rw [outFrom_end hlt] at hR
      repeat' (first | ((with_reducible apply o_y); exact y_; rfl) | with_reducible refine al_none rfl ?_ | (with_reducible first | apply aw_seq | apply aw_region | apply al_nil | apply aq_then | apply aw_block | apply aw_exit | apply aq_block_hit | apply aq_then_exit) | (refine aw_cond_df rfl rr_ dd_ ?_))
      apply aw_loopk (X := Nat) [0, 4] (fun j => [(9, .int .i64 (j : Int))]) (fun _ => [(sd, bd, .row 1 (intR o))]) (fun j => j ≤ cs.length ∧ ∀ q, q < j → ∀ h : q < cs.length, cs[q].block = decide (0 ≤ gd o (q : Int))) (fun j => cs.length - j) 0 ⟨Nat.zero_le _, by omega⟩
      exact kp_; (repeat (first | exact Weak.envNil | refine Weak.envCons we_ ?_))
      · exact .refl _
      rintro j ⟨hj, hja⟩
      try dsimp only
      by_cases hlj : j < cs.length
      · have hra := tcode_row (lo := lo) hlj
        have hrj := intR_gd (o := o) (j := j) (by rw [hin.1]; exact hlj)
        have hbad := outFin_bad (o := o) hlj
        have hnx : cs[j].block = decide (0 ≤ gd o (j : Int)) → ∀ q, q < j + 1 → ∀ h : q < cs.length, cs[q].block = decide (0 ≤ gd o (q : Int)) := fun ho => below_succ hja fun _ => ho
        generalize cs[j] = c at hra hbad hnx
        obtain ⟨cb, cp, csl, is⟩ := c
        dsimp only at hra hbad hnx
        generalize gd o (j : Int) = v at hrj hbad hnx
        by_cases hb : cb = decide (0 ≤ v)
        · repeat' (first | ((with_reducible apply o_y); exact y_; rfl) | with_reducible refine aw_draw (by kernel_rfl) (by kernel_rfl) ?_ | with_reducible refine dr_nil ?_ | with_reducible refine dr_none rfl ?_ | ((with_reducible apply d_y); exact y_; rfl) | with_reducible refine al_none rfl ?_ | (with_reducible first | apply aw_seq | apply aw_region | apply al_nil | apply aq_then | apply aw_block | apply aw_skip | apply aw_ret | apply aq_then_ret | apply aq_block_ret | apply aq_block) | (refine aw_cond_dt rfl rr_ dd_ ?_) | (refine aw_cond_b rfl rr_ (fun hc => ?_) (fun hc => ?_)))
          all_goals first
            | exact aq_round (j + 1) ⟨by omega, hnx hb⟩ (by omega) (.of _ nw_ od_ pk_)
            | (exfalso; simp_all; done)
        · rw [hbad hb] at hR
          repeat' (first | ((with_reducible apply o_y); exact y_; rfl) | with_reducible refine aw_draw (by kernel_rfl) (by kernel_rfl) ?_ | with_reducible refine dr_nil ?_ | with_reducible refine dr_none rfl ?_ | ((with_reducible apply d_y); exact y_; rfl) | with_reducible refine al_none rfl ?_ | (with_reducible first | apply aw_seq | apply aw_region | apply al_nil | apply aq_then | apply aw_block | apply aw_skip | apply aw_ret | apply aq_then_ret | apply aq_block_ret | apply aq_block) | (refine aw_cond_dt rfl rr_ dd_ ?_) | (refine aw_cond_b rfl rr_ (fun hc => ?_) (fun hc => ?_)))
          all_goals first
            | (exfalso; simp_all; done)
            | (refine aq_ret2 x_ rfl (.tmp _ _ rfl) (.tmp _ _ rfl) (fun _ => ?_) (fun _ => ?_)
               · exact fin_none hR.symm
               · exact fin_none_b hR.symm)
      · rw [outFin_good fun q hq => hja q (by omega)] at hR
        repeat' (first | ((with_reducible apply o_y); exact y_; rfl) | with_reducible refine al_none rfl ?_ | (with_reducible first | apply aw_seq | apply aw_region | apply al_nil | apply aq_then | apply aw_exit | apply aw_ret | apply aq_block_hit | apply aq_then_exit) | (refine aw_cond_df rfl rr_ dd_ ?_))
        refine aq_ret2 x_ rfl (.tmp _ _ rfl) (.tmp _ _ rfl) (fun _ => ?_) (fun _ => ?_)
        · exact fin_some hR.symm hin.1 List.mem_cons_self
        · exact fin_some_b hR.symm
end
end Go.Proofs.YtfchjaoeogolnaaGreatDoor
/- IsVerified of the reference (l16Verified, IsVerified). -/
namespace Go.Proofs.YtfchjaoeogolnaaGreatDoor
set_option maxRecDepth 20000
open Go Go.RowKit
set_option maxRecDepth 8000 in
set_option maxHeartbeats 8000000 in
theorem l16Verified_ct (f lo : Nat) (cl : List TClassInfo) (es : List TEntry) (cs : List TCode) (mn : Int) (hcl : cl.length ≤ 1048576 ∧ ∀ y ∈ cl, TClassInfo.small 1048576 y) (hcs : cs.length ≤ 1048576 ∧ ∀ y ∈ cs, TCode.small 1048576 y) (hes : es.length ≤ 1048576 ∧ ∀ y ∈ es, TEntry.small 1048576 y) :
    Ct Tryz.prog GL 33 [.cp f [.sl lo 3 (cl.map (TClassInfo.tw lo)), .sl lo 4 (cs.map (TCode.tw lo)), .sl lo 4 (es.map (TEntry.tw lo)), .int .i64 mn]] (fun _ => .bool (verifiedB ⟨cl, cs, es, mn⟩)) := by
  refine ct_enter Tryz.func33 rfl Tryz.ntmps33 rfl rfl fun w0 _ hG => ?_
  have hst := GL_st
  have hvF := verified_f (x := ⟨cl, cs, es, mn⟩)
  have hvT := verified_t (x := ⟨cl, cs, es, mn⟩)
  unfold verifiedP mainOk outerOk at hvF hvT
  dsimp only at hvF hvT
  generalize verifiedB ⟨cl, cs, es, mn⟩ = V at hvF hvT ⊢
  have hl1 := TClassInfo.len lo cl
  have hl2 := TCode.len lo cs
  have hl3 := TEntry.len lo es
  have hcsl := hcs.1
  have c1 := l8IsClasses_ct hst lo cl hcl
  have c3 := l1In_ct (G := GL) mn 0 ((cs.length : Int) - 1)
  have c5 := l16Entries_ct hst hseS hcaS f lo cl cs es mn hcl.1 hcs.1 hes
  have c6 := l16Outer_ct hst f lo (.sl lo 3 (cl.map (TClassInfo.tw lo))) (.sl lo 4 (es.map (TEntry.tw lo))) cs mn hcs
  by_cases h1 : classesOkB cl = true
  case neg =>
    rw [hvF fun h => h1 h.1]
    rw [Bool.eq_false_iff.2 h1] at c1
    repeat' (first | ((with_reducible apply o_y); exact y_; rfl) | with_reducible refine aw_draw (by kernel_rfl) (by kernel_rfl) ?_ | with_reducible refine dr_nil ?_ | with_reducible refine dr_none rfl ?_ | refine dr_skip rfl rfl rfl rr_ rfl rfl rfl ?_ | ((with_reducible apply d_y); exact y_; rfl) | refine e_calld hG hst (c1) ?_ | with_reducible refine al_none rfl ?_ | (with_reducible first | apply aw_seq | apply aw_region | apply al_nil | apply aq_then | apply aw_ret | apply aq_then_ret) | refine aw_cond_t rfl rr_ ?_)
    refine aq_ret1 x_ rfl (.tmp _ _ rfl) (fun _ => ?_)
    exact Fin.flat rfl
  rw [h1] at c1
  by_cases h2 : cs.length ≤ 200
  case neg =>
    rw [hvF fun h => h2 h.2.1]
    repeat' (first | ((with_reducible apply o_y); exact y_; rfl) | with_reducible refine aw_draw (by kernel_rfl) (by kernel_rfl) ?_ | with_reducible refine dr_nil ?_ | with_reducible refine dr_none rfl ?_ | refine dr_run rfl rfl rfl rr_ ?_ | refine dr_skip rfl rfl rfl rr_ rfl rfl rfl ?_ | (refine dr_gt rfl rfl rfl rr_ dd_ ?_) | ((with_reducible apply d_y); exact y_; rfl) | refine e_calld hG hst (c1) ?_ | with_reducible refine al_none rfl ?_ | (with_reducible first | apply aw_seq | apply aw_region | apply al_nil | apply aq_then | apply aw_ret | apply aq_then_ret) | refine aw_cond_t rfl rr_ ?_)
    refine aq_ret1 x_ rfl (.tmp _ _ rfl) (fun _ => ?_)
    exact Fin.flat rfl
  by_cases h3 : inR mn 0 ((cs.length : Int) - 1) = true
  case neg =>
    rw [hvF fun h => h3 h.2.2.1.1]
    rw [Bool.eq_false_iff.2 h3] at c3
    repeat' (first | ((with_reducible apply o_y); exact y_; rfl) | with_reducible refine aw_draw (by kernel_rfl) (by kernel_rfl) ?_ | with_reducible refine dr_nil ?_ | with_reducible refine dr_none rfl ?_ | refine dr_run rfl rfl rfl rr_ ?_ | refine dr_skip rfl rfl rfl rr_ rfl rfl rfl ?_ | (refine dr_gf rfl rfl rfl rr_ dd_ ?_) | ((with_reducible apply d_y); exact y_; rfl) | refine e_calld hG hst (c1) ?_ | refine e_calld hG hst (c3) ?_ | with_reducible refine al_none rfl ?_ | (with_reducible first | apply aw_seq | apply aw_region | apply al_nil | apply aq_then | apply aw_ret | apply aq_then_ret) | refine aw_cond_t rfl rr_ ?_)
    refine aq_ret1 x_ rfl (.tmp _ _ rfl) (fun _ => ?_)
    exact Fin.flat rfl
  have h3' := of_decide_eq_true h3
  obtain ⟨q, rfl⟩ : ∃ q : Nat, mn = q := ⟨mn.toNat, by omega⟩
  have hql : q < cs.length := by omega
  have hrq := tcode_row (lo := lo) hql
  have hpl := plainAt_iff (n := 0) rfl (List.getElem?_eq_getElem hql)
  generalize cs[q] = y at hrq hpl
  obtain ⟨yb, yp, ys, yi⟩ := y
  dsimp only at hrq hpl
  rw [h3, show (cs.length : Int) - 1 = ((cs.length - 1 : Nat) : Int) by omega] at c3
  cases yb
  case true =>
    rw [hvF fun h => by have := hpl.1 h.2.2.1.2; cases this.1]
    repeat' (first | ((with_reducible apply o_y); exact y_; rfl) | with_reducible refine aw_draw (by kernel_rfl) (by kernel_rfl) ?_ | with_reducible refine dr_nil ?_ | with_reducible refine dr_none rfl ?_ | refine dr_run rfl rfl rfl rr_ ?_ | refine dr_skip rfl rfl rfl rr_ rfl rfl rfl ?_ | (refine dr_gf rfl rfl rfl rr_ dd_ ?_) | ((with_reducible apply d_y); exact y_; rfl) | refine e_calld hG hst (c1) ?_ | refine e_calld hG hst (c3) ?_ | with_reducible refine al_none rfl ?_ | (with_reducible first | apply aw_seq | apply aw_region | apply al_nil | apply aq_then | apply aw_ret | apply aq_then_ret) | refine aw_cond_t rfl rr_ ?_)
    refine aq_ret1 x_ rfl (.tmp _ _ rfl) (fun _ => ?_)
    exact Fin.flat rfl
  by_cases h4 : yp = 0
  case neg =>
    rw [hvF fun h => by have := hpl.1 h.2.2.1.2; exact h4 this.2]
    repeat' (first | ((with_reducible apply o_y); exact y_; rfl) | with_reducible refine aw_draw (by kernel_rfl) (by kernel_rfl) ?_ | with_reducible refine dr_nil ?_ | with_reducible refine dr_none rfl ?_ | refine dr_run rfl rfl rfl rr_ ?_ | refine dr_skip rfl rfl rfl rr_ rfl rfl rfl ?_ | (refine dr_gt rfl rfl rfl rr_ dd_ ?_) | (refine dr_gf rfl rfl rfl rr_ dd_ ?_) | ((with_reducible apply d_y); exact y_; rfl) | refine e_calld hG hst (c1) ?_ | refine e_calld hG hst (c3) ?_ | with_reducible refine al_none rfl ?_ | (with_reducible first | apply aw_seq | apply aw_region | apply al_nil | apply aq_then | apply aw_ret | apply aq_then_ret) | refine aw_cond_t rfl rr_ ?_)
    refine aq_ret1 x_ rfl (.tmp _ _ rfl) (fun _ => ?_)
    exact Fin.flat rfl
  have h4' : ¬ yp ≠ 0 := fun h => h h4
  by_cases h5 : entriesB cl.length cs es = true
  case neg =>
    rw [hvF fun h => h5 h.2.2.2.1]
    rw [Bool.eq_false_iff.2 h5] at c5
    repeat' (first | ((with_reducible apply o_y); exact y_; rfl) | with_reducible refine aw_draw (by kernel_rfl) (by kernel_rfl) ?_ | with_reducible refine dr_nil ?_ | with_reducible refine dr_none rfl ?_ | refine dr_run rfl rfl rfl rr_ ?_ | (refine dr_gf rfl rfl rfl rr_ dd_ ?_) | ((with_reducible apply d_y); exact y_; rfl) | refine e_calld hG hst (c1) ?_ | refine e_calld hG hst (c3) ?_ | refine e_calld hG hst (c5) ?_ | with_reducible refine al_none rfl ?_ | (with_reducible first | apply aw_seq | apply aw_region | apply al_nil | apply aq_then | apply aw_ret | apply aq_then_ret) | refine aw_cond_t rfl rr_ ?_)
    refine aq_ret1 x_ rfl (.tmp _ _ rfl) (fun _ => ?_)
    exact Fin.flat rfl
  rw [h5] at c5
  have hhead := hpl.2 ⟨rfl, h4⟩
  unfold outR at c6
  cases hR : outersL cs
  case none =>
    rw [hR] at c6
    have hf : V = false := hvF fun h => by
      obtain ⟨o, ho, _⟩ := h.2.2.2.2
      rw [hR] at ho; cases ho
    rw [hf]
    clear hvF hvT
    replace c6 : Ct Tryz.prog GL 71 [.cp f [.sl lo 3 (cl.map (TClassInfo.tw lo)), .sl lo 4 (cs.map (TCode.tw lo)), .sl lo 4 (es.map (TEntry.tw lo)), .int .i64 (q : Int)]] (fun K => .tup [.sl K 1 [], .bool false]) := c6
    repeat' (first | ((with_reducible apply o_y); exact y_; rfl) | with_reducible refine aw_draw (by kernel_rfl) (by kernel_rfl) ?_ | with_reducible refine dr_nil ?_ | with_reducible refine dr_none rfl ?_ | refine dr_run rfl rfl rfl rr_ ?_ | (refine dr_gf rfl rfl rfl rr_ dd_ ?_) | ((with_reducible apply d_y); exact y_; rfl) | refine e_calld hG hst (c1) ?_ | refine e_calld hG hst (c3) ?_ | refine e_calld hG hst (c5) ?_ | refine e_call hG hst (c6) ?_ | with_reducible refine al_none rfl ?_ | (with_reducible first | apply aw_seq | apply aw_region | apply al_nil | apply aq_then | apply aw_block | apply aw_skip) | refine aw_cond_f rfl rr_ ?_)
    apply aw_loopk (X := Nat) [0, 3, 4] (fun i => [(5, .int .i64 (i : Int))]) (fun _ => []) (fun i => i = 0) (fun i => 1 - i) 0 rfl
    exact kp_; (repeat (first | exact Weak.envNil | refine Weak.envCons we_ ?_))
    · exact .refl _
    rintro i rfl
    try dsimp only
    have hpos : ((0 : Nat) : Int) < (cs.length : Int) := by omega
    repeat' (first | ((with_reducible apply o_y); exact y_; rfl) | with_reducible refine al_none rfl ?_ | (with_reducible first | apply aw_seq | apply aw_region | apply al_nil | apply aq_then | apply aw_exit | apply aw_ret | apply aq_block_hit | apply aq_then_exit) | refine al_run rfl rfl rfl rr_ ?_ | (refine al_gt rfl rfl rfl rr_ dd_ ?_) | refine aw_cond_f rfl rr_ ?_)
    refine aq_ret1 x_ rfl (.tmp _ _ rfl) (fun _ => ?_)
    exact Fin.flat rfl
  case some o =>
    rw [hR] at c6
    replace c6 : Ct Tryz.prog GL 71 [.cp f [.sl lo 3 (cl.map (TClassInfo.tw lo)), .sl lo 4 (cs.map (TCode.tw lo)), .sl lo 4 (es.map (TEntry.tw lo)), .int .i64 (q : Int)]] (fun K => .tup [.sl K 1 (intR o), .bool true]) := c6
    obtain ⟨hinv, hfit⟩ := outersL_inv hR
    have hblk := fun i c hc => outersL_block hR (i := i) (c := c) hc
    have hvF2 : ¬ codesOk cs cl.length o → V = false := fun h => hvF fun k => by
      obtain ⟨o', ho', hc'⟩ := k.2.2.2.2
      rw [hR] at ho'; cases ho'
      exact h hc'
    have hvT2 : codesOk cs cl.length o → V = true := fun h => hvT ⟨h1, h2, ⟨h3, hhead⟩, h5, o, hR, h⟩
    clear hvF hvT hR
    repeat' (first | ((with_reducible apply o_y); exact y_; rfl) | with_reducible refine aw_draw (by kernel_rfl) (by kernel_rfl) ?_ | with_reducible refine dr_nil ?_ | with_reducible refine dr_none rfl ?_ | refine dr_run rfl rfl rfl rr_ ?_ | (refine dr_gf rfl rfl rfl rr_ dd_ ?_) | ((with_reducible apply d_y); exact y_; rfl) | refine e_calld hG hst (c1) ?_ | refine e_calld hG hst (c3) ?_ | refine e_calld hG hst (c5) ?_ | refine e_call hG hst (c6) ?_ | with_reducible refine al_none rfl ?_ | (with_reducible first | apply aw_seq | apply aw_region | apply al_nil | apply aq_then | apply aw_block | apply aw_skip) | refine aw_cond_f rfl rr_ ?_)
    apply aw_loopk (X := Nat × Bool) [0, 3] (fun x => [(5, .int .i64 (x.1 : Int)), (4, .bool x.2)]) (fun _ => []) (fun x => x.1 ≤ cs.length ∧ (x.2 = true → ∀ j, j < x.1 → ∀ h : j < cs.length, codeOk cs cl.length o j cs[j]) ∧ (x.2 = false → V = false)) (fun x => cs.length - x.1) (0, true) ⟨Nat.zero_le _, fun _ => by omega, fun h => by cases h⟩
    exact kp_; (repeat (first | exact Weak.envNil | refine Weak.envCons we_ ?_))
    · exact .refl _
    rintro ⟨i, ok⟩ ⟨hi, ha, hb⟩
    dsimp only at hi ha hb ⊢
    by_cases hlt : i < cs.length
    · cases ok
      case false =>
        rw [hb rfl]
        repeat' (first | ((with_reducible apply o_y); exact y_; rfl) | with_reducible refine al_none rfl ?_ | (with_reducible first | apply aw_seq | apply aw_region | apply al_nil | apply aq_then | apply aw_exit | apply aw_ret | apply aq_block_hit | apply aq_then_exit) | refine al_run rfl rfl rfl rr_ ?_ | (refine al_gt rfl rfl rfl rr_ dd_ ?_) | refine aw_cond_f rfl rr_ ?_)
        refine aq_ret1 x_ rfl (.tmp _ _ rfl) (fun _ => ?_)
        exact Fin.flat rfl
      have hg : cs[i]? = some cs[i] := List.getElem?_eq_getElem hlt
      have hct := l16Code_ct f lo w0.heap.size cl (.sl lo 4 (es.map (TEntry.tw lo))) cs q hcl.1 hcs o hinv i cs[i] hg (hblk i _ hg)
      have hT := codeB_t (cs := cs) (nc := cl.length) (o := o) (k := i) (x := cs[i])
      have hF := codeB_f (cs := cs) (nc := cl.length) (o := o) (k := i) (x := cs[i])
      have hnx : codeOk cs cl.length o i cs[i] → ∀ j, j < i + 1 → ∀ h : j < cs.length, codeOk cs cl.length o j cs[j] := fun ho => below_succ (ha rfl) fun _ => ho
      by_cases hco : codeOk cs cl.length o i cs[i]
      · rw [hT hco] at hct
        repeat' (first | ((with_reducible apply o_y); exact y_; rfl) | refine e_call hG hst (hct) ?_ | with_reducible refine al_none rfl ?_ | (with_reducible first | apply aw_seq | apply aw_region | apply al_nil | apply aq_then | apply aw_block | apply aw_skip | apply aq_block) | refine al_run rfl rfl rfl rr_ ?_ | (refine al_gt rfl rfl rfl rr_ dd_ ?_) | refine aw_cond_t rfl rr_ ?_)
        exact aq_round (i + 1, true) ⟨by dsimp only; omega, fun _ => hnx hco, fun h => (by cases h)⟩ (by dsimp only; omega) (.of _ nw_ od_ pk_)
      · rw [hF hco] at hct
        repeat' (first | ((with_reducible apply o_y); exact y_; rfl) | refine e_call hG hst (hct) ?_ | with_reducible refine al_none rfl ?_ | (with_reducible first | apply aw_seq | apply aw_region | apply al_nil | apply aq_then | apply aw_block | apply aw_skip | apply aq_block) | refine al_run rfl rfl rfl rr_ ?_ | (refine al_gt rfl rfl rfl rr_ dd_ ?_) | refine aw_cond_t rfl rr_ ?_)
        exact aq_round (i + 1, false) ⟨by dsimp only; omega, fun h => (by cases h), fun _ => hvF2 fun h => hco (h i hlt)⟩ (by dsimp only; omega) (.of _ nw_ od_ pk_)
    · have hVe : V = ok := by
        cases ok
        · exact hb rfl
        · exact hvT2 fun j hj => ha rfl j (by omega) hj
      rw [hVe]
      repeat' (first | ((with_reducible apply o_y); exact y_; rfl) | with_reducible refine al_none rfl ?_ | (with_reducible first | apply aw_seq | apply aw_region | apply al_nil | apply aq_then | apply aw_exit | apply aw_ret | apply aq_block_hit | apply aq_then_exit) | refine al_skip rfl rfl rfl rr_ rfl rfl rfl ?_ | (refine al_gf rfl rfl rfl rr_ dd_ ?_) | refine aw_cond_f rfl rr_ ?_)
      refine aq_ret1 x_ rfl (.tmp _ _ rfl) (fun _ => ?_)
      exact Fin.flat rfl
end Go.Proofs.YtfchjaoeogolnaaGreatDoor
/- EditsOf of the reference. -/
namespace Go.Proofs.YtfchjaoeogolnaaGreatDoor
set_option maxRecDepth 20000
open Go Go.RowKit
theorem l27Fits_ct (f lo : Nat) (bl : Bool) (pr sl : Int) (is : List TInstr) (hok : CodeOk is) (hts : ∀ i ∈ is, i.text.size ≤ 1048576) (code at_ kind : Int) (hatm : -9223372036854775808 ≤ at_ ∧ at_ ≤ 9223372036854775807) :
    Ct Tryz.prog GL 47 [.cp f [.bool bl, .int .i64 pr, .int .i64 sl, .sl lo 4 (is.map (TInstr.tw lo))], .agg [.int .i64 code, .int .i64 at_, .int .i64 kind]] (fun _ => .bool (fitsZ is at_ kind)) := by
  by_cases h3 : kind = 3
  · exact l27FitsB_ct f lo bl pr sl is hok hts code at_ kind h3 hatm
  by_cases h4 : kind = 4
  · exact l27FitsC_ct f lo bl pr sl is hok hts code at_ kind h4 hatm
  · exact l27FitsA_ct f lo bl pr sl is hok hts code at_ kind (by omega) hatm
theorem fin_edits {B : Nat} {objs : Objs} {K s b n : Nat} {l : List TEdit} (hn : l.length = n) (hm : (s, b, TObj.row 3 (l.map (TEdit.tw B))) ∈ objs) : Fin B objs K (.ms s b 0 n) (.sl K 3 (l.map (TEdit.tw K))) := by
  subst hn
  exact fin_ms (f := TEdit.tw B) (f' := TEdit.tw K) (fun x => TEdit.fin B K objs x) hm
/-- The edits of some codes, and so on. -/
def edCs (cs : List TCode) (k : Nat) : List TEdit := (List.range k).foldl (edC cs) []
def edIs (k : Nat) (is : List TInstr) (acc : List TEdit) (n : Nat) : List TEdit := (List.range n).foldl (edI k is ((depthsL is).getD [])) acc
def edKs (k : Nat) (is : List TInstr) (at_ : Nat) (acc : List TEdit) (j : Nat) : List TEdit := (List.range j).foldl (edK k is ((depthsL is).getD []) at_) acc
theorem edCs_succ (cs : List TCode) (k : Nat) : edCs cs (k + 1) = edIs k (codeI cs k) (edCs cs k) (codeI cs k).length := range_snoc _ _ _
theorem edIs_succ (k : Nat) (is : List TInstr) (acc : List TEdit) (n : Nat) : edIs k is acc (n + 1) = edKs k is n (edIs k is acc n) 5 := range_snoc _ _ _
theorem edKs_succ (k : Nat) (is : List TInstr) (at_ : Nat) (acc : List TEdit) (j : Nat) : edKs k is at_ acc (j + 1) = edK k is ((depthsL is).getD []) at_ (edKs k is at_ acc j) j := range_snoc _ _ _
theorem edKs_len (k : Nat) (is : List TInstr) (at_ : Nat) (acc : List TEdit) (j : Nat) : (edKs k is at_ acc j).length ≤ acc.length + 1 * j := fold_len (edK_len k is _ at_) acc j
theorem edIs_len (k : Nat) (is : List TInstr) (acc : List TEdit) (n : Nat) : (edIs k is acc n).length ≤ acc.length + 5 * n := fold_len (edI_len k is _) acc n
theorem edCs_len {cs : List TCode} (h : ∀ c ∈ cs, c.instrs.length ≤ 900) (k : Nat) : (edCs cs k).length ≤ 4500 * k := by
  have := fold_len (edC_len h) [] k
  simp only [List.length_nil] at this
  unfold edCs
  omega
theorem codeI_at {cs : List TCode} {k : Nat} (h : k < cs.length) : codeI cs k = cs[k].instrs := by
  unfold codeI
  rw [Int.toNat_natCast, List.getElem?_eq_getElem h]
theorem edK_t {k : Nat} {is : List TInstr} {ds : List Int} {at_ j : Nat} {acc : List TEdit} (h : fitsB is (labelsL is) ds at_ (insAt is at_) (j + 1) = true) : edK k is ds at_ acc j = acc ++ [⟨(k : Int), (at_ : Int), (j : Int) + 1⟩] := by
  unfold edK; rw [if_pos h]
theorem edK_f {k : Nat} {is : List TInstr} {ds : List Int} {at_ j : Nat} {acc : List TEdit} (h : fitsB is (labelsL is) ds at_ (insAt is at_) (j + 1) = false) : edK k is ds at_ acc j = acc := by
  unfold edK; rw [if_neg (by rw [h]; decide)]
theorem edTw_snoc (B : Nat) (l : List TEdit) (x : TEdit) : l.map (TEdit.tw B) ++ [[.int .i64 x.code, .int .i64 x.at_, .int .i64 x.kind]] = (l ++ [x]).map (TEdit.tw B) := by rw [List.map_append]; rfl

set_option maxHeartbeats 4000000 in
theorem specEditsOf_ct (lo : Nat) (x : TCodeBase) (hx : TCodeBase.small 1048576 x) : Ct Tryz.prog GL 17 [.agg (x.tw lo)] (fun K => .sl K 3 ((edsB x).map (TEdit.tw K))) := by
  refine ct_enter Tryz.func17 rfl Tryz.ntmps17 rfl rfl fun w0 _ hG => ?_
  have hst := GL_st
  have hver := l16Verified_ct w0.heap.size lo x.classes x.entries x.codes x.main hx.1 hx.2.1 hx.2.2
  have hB : verifiedB ⟨x.classes, x.codes, x.entries, x.main⟩ = verifiedB x := rfl
  rw [hB] at hver
  unfold TCodeBase.tw
  cases hV : verifiedB x with
  | false =>
    have hs : edsB x = [] := by unfold edsB; rw [if_neg (by rw [hV]; decide)]
    rw [hV] at hver
    rw [hs]
    repeat' (first | ((with_reducible apply o_y); exact y_; rfl) | refine e_box ?_ | (refine e_own ?_; intro ss bb) | refine e_call hG hst (hver) ?_ | with_reducible refine al_none rfl ?_ | (with_reducible first | apply aw_seq | apply aw_region | apply al_nil | apply aq_then | apply aw_ret | apply aq_then_ret) | refine aw_cond_t rfl rr_ ?_)
    refine aq_ret1 x_ rfl (.tmp _ _ rfl) (fun _ => ?_)
    exact fin_edits (l := []) rfl List.mem_cons_self
  | true =>
    have hs : edsB x = edCs x.codes x.codes.length := by unfold edsB; rw [if_pos hV]; rfl
    have hok := code_ok hV
    have h200 := (rs_ok hV).codes
    rw [hV] at hver
    rw [hs]
    have hcl := TCode.len lo x.codes
    have hsm := hx.2.1.2
    have h0 : ([] : List TEdit) = edCs x.codes 0 := rfl
    have hsucc := edCs_succ x.codes
    have hlenC := edCs_len (fun c hc => (hok c hc).len)
    generalize x.codes = cs at *
    clear hs hV
    repeat' (first | ((with_reducible apply o_y); exact y_; rfl) | refine e_box ?_ | (refine e_own ?_; intro ss bb) | refine e_call hG hst (hver) ?_ | with_reducible refine al_none rfl ?_ | (with_reducible first | apply aw_seq | apply aw_region | apply al_nil | apply aq_then | apply aw_block | apply aw_skip) | refine aw_cond_f rfl rr_ ?_)
    generalize ss = so; generalize bb = bo
    apply aw_loopk (X := Nat × Nat × List TEdit) [1] (fun x => [(4, .int .i64 (x.1 : Int)), (3, .ms so x.2.1 0 x.2.2.length)]) (fun x => [(so, x.2.1, .row 3 (x.2.2.map (TEdit.tw w0.heap.size)))]) (fun x => x.1 ≤ cs.length ∧ x.2.2 = edCs cs x.1) (fun x => cs.length - x.1) (0, bo, []) ⟨Nat.zero_le _, h0⟩
    exact kp_; (repeat (first | exact Weak.envNil | refine Weak.envCons we_ ?_))
    · exact .refl _
    clear h0
    rintro ⟨i, bo, acc⟩ ⟨hi, hacc⟩
    dsimp only at hi hacc ⊢
    have hal := hlenC i
    rw [← hacc] at hal
    by_cases hlt : i < cs.length
    · have hrc := tcode_row (lo := lo) hlt
      have hoki := hok _ (List.getElem_mem hlt)
      have hsmi := hsm _ (List.getElem_mem hlt)
      have hnx := hsucc i
      rw [codeI_at hlt, ← hacc] at hnx
      generalize cs[i] = c at hrc hoki hsmi hnx
      obtain ⟨bl, pr, sl, is⟩ := c
      dsimp only at hrc hoki hsmi hnx
      have hil := TInstr.len lo is
      have hin := hoki.len
      have hfit := fun (n : Nat) (hn : n < is.length) (j : Nat) (hj : j < 5) => l27Fits_ct lo lo bl pr sl is hoki hsmi.2 (i : Int) (n : Int) ((j : Int) + 1) (by omega)
      repeat' (first | ((with_reducible apply o_y); exact y_; rfl) | with_reducible refine al_none rfl ?_ | (with_reducible first | apply aw_seq | apply aw_region | apply al_nil | apply aq_then | apply aw_block | apply aw_skip) | (refine aw_cond_dt rfl rr_ dd_ ?_))
      apply aw_loopk (X := Nat × Nat × List TEdit) [1, 4] (fun x => [(5, .int .i64 (x.1 : Int)), (3, .ms so x.2.1 0 x.2.2.length)]) (fun x => [(so, x.2.1, .row 3 (x.2.2.map (TEdit.tw w0.heap.size)))]) (fun x => x.1 ≤ is.length ∧ x.2.2 = edIs i is acc x.1) (fun x => is.length - x.1) (0, bo, acc) ⟨Nat.zero_le _, rfl⟩
      exact kp_; (repeat (first | exact Weak.envNil | refine Weak.envCons we_ ?_))
      · exact .refl _
      rintro ⟨n, bo, acc2⟩ ⟨hn, hacc2⟩
      dsimp only at hn hacc2 ⊢
      have hal2 := edIs_len i is acc n
      rw [← hacc2] at hal2
      by_cases hnl : n < is.length
      · have hfn := hfit n hnl
        have hnx2 := edIs_succ i is acc n
        rw [← hacc2] at hnx2
        repeat' (first | ((with_reducible apply o_y); exact y_; rfl) | with_reducible refine al_none rfl ?_ | (with_reducible first | apply aw_seq | apply aw_region | apply al_nil | apply aq_then | apply aw_block | apply aw_skip) | (refine aw_cond_dt rfl rr_ dd_ ?_))
        apply aw_loopk (X := Nat × Nat × List TEdit) [1, 4, 5] (fun x => [(6, .int .i64 ((x.1 : Int) + 1)), (3, .ms so x.2.1 0 x.2.2.length)]) (fun x => [(so, x.2.1, .row 3 (x.2.2.map (TEdit.tw w0.heap.size)))]) (fun x => x.1 ≤ 5 ∧ x.2.2 = edKs i is n acc2 x.1) (fun x => 5 - x.1) (0, bo, acc2) ⟨Nat.zero_le _, rfl⟩
        exact kp_; (repeat (first | exact Weak.envNil | refine Weak.envCons we_ ?_))
        · exact .refl _
        rintro ⟨j, bo, acc3⟩ ⟨hj, hacc3⟩
        dsimp only at hj hacc3 ⊢
        have hal3 := edKs_len i is n acc2 j
        rw [← hacc3] at hal3
        by_cases hj5 : j < 5
        · have hct := hfn j hj5
          have hz : fitsZ is n ((j : Int) + 1) = fitsB is (labelsL is) ((depthsL is).getD []) n (insAt is n) (j + 1) := by
            rw [fitsZ_in hnl, show ((j : Int) + 1).toNat = j + 1 by omega]
          rw [hz] at hct
          have hnx3 := edKs_succ i is n acc2 j
          rw [← hacc3] at hnx3
          cases hf : fitsB is (labelsL is) ((depthsL is).getD []) n (insAt is n) (j + 1) with
          | false =>
            rw [hf] at hct
            rw [edK_f hf] at hnx3
            repeat' (first | ((with_reducible apply o_y); exact y_; rfl) | with_reducible refine aw_draw (by kernel_rfl) (by kernel_rfl) ?_ | with_reducible refine dr_nil ?_ | with_reducible refine dr_none rfl ?_ | ((with_reducible apply d_y); exact y_; rfl) | refine e_build ?_ | (refine e_alloc ?_; intro ss bb) | refine e_storep ?_ | refine e_calld hG hst (hct) ?_ | with_reducible refine al_none rfl ?_ | (with_reducible first | apply aw_seq | apply aw_region | apply al_nil | apply aq_then | apply aw_block | apply aw_skip | apply aq_block) | refine aw_cond_f rfl rr_ ?_ | (refine aw_cond_dt rfl rr_ dd_ ?_))
            exact aq_round (j + 1, bo, acc3) ⟨by dsimp only; omega, hnx3.symm⟩ (by dsimp only; omega) (.of _ nw_ od_ pk_)
          | true =>
            rw [hf] at hct
            rw [edK_t hf] at hnx3
            have hol : (acc3 ++ [(⟨(i : Int), (n : Int), (j : Int) + 1⟩ : TEdit)]).length = acc3.length + 1 := by simp
            have hsn : acc3.map (TEdit.tw w0.heap.size) ++ [[.int .i64 (i : Int), .int .i64 (n : Int), .int .i64 ((j : Int) + 1)]] = (acc3 ++ [(⟨(i : Int), (n : Int), (j : Int) + 1⟩ : TEdit)]).map (TEdit.tw w0.heap.size) := edTw_snoc _ _ ⟨(i : Int), (n : Int), (j : Int) + 1⟩
            repeat' (first | ((with_reducible apply o_y); exact y_; rfl) | with_reducible refine aw_draw (by kernel_rfl) (by kernel_rfl) ?_ | with_reducible refine dr_nil ?_ | with_reducible refine dr_none rfl ?_ | ((with_reducible apply d_y); exact y_; rfl) | refine e_build ?_ | (refine e_alloc ?_; intro ss bb) | refine e_storep ?_ | refine e_lit ?_ | ((with_reducible apply o_append); rfl; rfl; rfl; kernel_rfl; (repeat (first | with_reducible exact mh | with_reducible refine mt ?_)); exact List.length_map _; ((show List.length _ = 1; rfl)); omega; exact hsn; (intro bq; (repeat (first | with_reducible exact Upd.head _ | with_reducible apply Upd.tail))); intro bb) | refine e_calld hG hst (hct) ?_ | with_reducible refine al_none rfl ?_ | (with_reducible first | apply aw_seq | apply aw_region | apply al_nil | apply aq_then | apply aw_block | apply aw_skip | apply aq_block) | refine aw_cond_t rfl rr_ ?_ | (refine aw_cond_dt rfl rr_ dd_ ?_))
            exact aq_round (j + 1, bb, _) ⟨by dsimp only; omega, hnx3.symm⟩ (by dsimp only; omega) (.of _ (Weak.envCons (lk_int rfl (by dsimp only; omega)) (Weak.envCons (lk_ms rfl hol.symm) Weak.envNil)) od_ pk_)
        · obtain rfl : j = 5 := by omega
          repeat' (first | ((with_reducible apply o_y); exact y_; rfl) | with_reducible refine al_none rfl ?_ | (with_reducible first | apply aw_seq | apply aw_region | apply al_nil | apply aq_then | apply aw_exit | apply aq_block_hit | apply aq_then_exit | apply aq_block) | (refine aw_cond_df rfl rr_ dd_ ?_))
          exact aq_round (n + 1, bo, acc3) ⟨by dsimp only; omega, by rw [hnx2]; exact hacc3⟩ (by dsimp only; omega) (.of _ nw_ od_ pk_)
      · obtain rfl : n = is.length := by omega
        repeat' (first | ((with_reducible apply o_y); exact y_; rfl) | with_reducible refine al_none rfl ?_ | (with_reducible first | apply aw_seq | apply aw_region | apply al_nil | apply aq_then | apply aw_exit | apply aq_block_hit | apply aq_then_exit | apply aq_block) | (refine aw_cond_df rfl rr_ dd_ ?_))
        exact aq_round (i + 1, bo, acc2) ⟨by dsimp only; omega, by rw [hnx]; exact hacc2⟩ (by dsimp only; omega) (.of _ nw_ od_ pk_)
    · obtain rfl : i = cs.length := by omega
      repeat' (first | ((with_reducible apply o_y); exact y_; rfl) | with_reducible refine al_none rfl ?_ | (with_reducible first | apply aw_seq | apply aw_region | apply al_nil | apply aq_then | apply aw_exit | apply aw_ret | apply aq_block_hit | apply aq_then_exit) | (refine aw_cond_df rfl rr_ dd_ ?_))
      refine aq_ret1 x_ rfl (.tmp _ _ rfl) (fun _ => ?_)
      rw [← hacc]
      exact fin_edits rfl List.mem_cons_self
end Go.Proofs.YtfchjaoeogolnaaGreatDoor
/- IsVerified: the classes, on the side of the program (classesOk). -/
namespace Go.Proofs.YtfchjaoeogolnaaGreatDoor
set_option maxRecDepth 20000
open Go Go.RowKit
section
variable {G : World → Prop}
set_option maxRecDepth 4000 in
set_option maxHeartbeats 4000000 in
theorem classesOk_ct (hst : Stable G) (lo : Nat) (l : List TClassInfo) (hsm : l.length ≤ 1048576 ∧ ∀ y ∈ l, TClassInfo.small 1048576 y) : Ct Tryz.prog G 78 [.sl lo 3 (l.map (TClassInfo.tw lo))] (fun _ => .bool (classesOkB l)) := by
  refine ct_enter Tryz.func78 rfl Tryz.ntmps78 rfl rfl fun w0 _ hG => ?_
  have hlen := TClassInfo.len lo l
  have hbl := TClassInfo.len w0.heap.size builtinL
  rw [builtin_len] at hbl
  have hl1 := hsm.1
  have hwi := within_ct (G := G) (l.length : Int) 16 24
  by_cases hl : 16 ≤ l.length ∧ l.length ≤ 24
  · rw [inR_t (by omega)] at hwi
    repeat' (first | ((with_reducible apply o_y); exact y_; rfl) | refine e_call hG hst (hwi) ?_ | with_reducible refine al_none rfl ?_ | (with_reducible first | apply aw_seq | apply aw_region | apply al_nil | apply aq_then | apply aw_block | apply aw_skip) | refine aw_cond_f rfl rr_ ?_)
    apply aw_loopk (X := Nat) [0, 15, 16] (fun i => [(17, .int .i64 (i : Int))]) (fun _ => []) (fun i => i ≤ l.length ∧ ∀ j, j < i → ∀ h : j < l.length, classOk l j l[j]) (fun i => l.length - i) 0 ⟨Nat.zero_le _, by simp⟩
    exact kp_; (repeat (first | exact Weak.envNil | refine Weak.envCons we_ ?_))
    · exact .nil _
    rintro i ⟨hi, hk⟩
    try dsimp only
    by_cases hlt : i < l.length
    · have hra : (l.map (TClassInfo.tw lo))[i]? = some (l[i].tw lo) := row_map hlt
      have hbi := hsm.2 _ (List.getElem_mem hlt)
      have hbad := classesOk_bad hlt
      have hks : classOk l i l[i] → ∀ j, j < i + 1 → ∀ h : j < l.length, classOk l j l[j] := fun ho => below_succ hk fun _ => ho
      generalize l[i] = x at hra hbi hbad hks
      rw [show x.tw lo = [.str x.name, .int .i64 x.parent, .sl lo 1 (strR x.fields)] from rfl] at hra
      by_cases hlow : i < 16
      · obtain ⟨bi, hb, _, _, h3, _⟩ := builtin_at hlow
        have hrb : (builtinL.map (TClassInfo.tw w0.heap.size))[i]? = some [.str bi.name, .int .i64 bi.parent, .sl w0.heap.size 1 (strR bi.fields)] := by rw [List.getElem?_map, hb]; rfl
        rw [classOk_low hlow hb] at hbad hks
        have hbf : bi.fields.length ≤ 1048576 := by rw [← h3]; unfold bfields; split <;> simp
        have heq := slicesEqual_ct (G := G) lo w0.heap.size x.fields bi.fields hbi.2.1 hbf
        clear h3
        by_cases ho : x.name = bi.name ∧ x.parent = bi.parent ∧ x.fields = bi.fields
        · have n1 : ¬ x.name ≠ bi.name := fun h => h ho.1
          have n2 : ¬ x.parent ≠ bi.parent := fun h => h ho.2.1
          rw [decide_eq_true ho.2.2] at heq
          repeat' (first | ((with_reducible apply o_y); exact y_; rfl) | (refine e_alloc ?_; intro ss bb) | refine e_storep ?_ | refine e_call hG hst (builtinInfos_ct hst) ?_ | refine e_call hG hst (heq) ?_ | with_reducible refine al_none rfl ?_ | (with_reducible first | apply aw_seq | apply aw_region | apply al_nil | apply aq_then | apply aw_block | apply aw_exit | apply aw_skip | apply aq_block_hit | apply aq_then_exit) | refine al_run rfl rfl rfl rr_ ?_ | (refine al_gf rfl rfl rfl rr_ dd_ ?_) | refine aw_cond_f rfl rr_ ?_ | (refine aw_cond_dt rfl rr_ dd_ ?_))
          exact aq_round (i + 1) ⟨by omega, hks ho⟩ (by omega) (.of _ nw_ od_ (Pick.nil _))
        · rw [hbad ho]
          clear hks hbad
          by_cases hfe : x.fields = bi.fields
          · rw [decide_eq_true hfe] at heq
            repeat' (first | ((with_reducible apply o_y); exact y_; rfl) | (refine e_alloc ?_; intro ss bb) | refine e_storep ?_ | refine e_call hG hst (builtinInfos_ct hst) ?_ | refine e_call hG hst (heq) ?_ | with_reducible refine al_none rfl ?_ | (with_reducible first | apply aw_seq | apply aw_region | apply al_nil | apply aq_then | apply aw_block | apply aw_exit | apply aw_skip | apply aw_ret | apply aq_block_hit | apply aq_then_exit | apply aq_then_ret | apply aq_block_ret) | refine al_run rfl rfl rfl rr_ ?_ | refine al_skip rfl rfl rfl rr_ rfl rfl rfl ?_ | (refine al_gsplit rfl rfl rfl rr_ (fun hg => ?_) (fun hg => ?_)) | refine aw_cond_t rfl rr_ ?_ | refine aw_cond_f rfl rr_ ?_ | (refine aw_cond_dt rfl rr_ dd_ ?_))
            all_goals first
              | (exfalso; exact ho ⟨Decidable.of_not_not (by assumption), Decidable.of_not_not (by assumption), hfe⟩)
              | (refine aq_ret1 x_ rfl (.tmp _ _ rfl) (fun _ => ?_)
                 exact Fin.flat rfl)
          · rw [decide_eq_false hfe] at heq
            repeat' (first | ((with_reducible apply o_y); exact y_; rfl) | (refine e_alloc ?_; intro ss bb) | refine e_storep ?_ | refine e_call hG hst (builtinInfos_ct hst) ?_ | refine e_call hG hst (heq) ?_ | with_reducible refine al_none rfl ?_ | (with_reducible first | apply aw_seq | apply aw_region | apply al_nil | apply aq_then | apply aw_block | apply aw_skip | apply aw_ret | apply aq_then_ret | apply aq_block_ret) | refine al_run rfl rfl rfl rr_ ?_ | refine al_skip rfl rfl rfl rr_ rfl rfl rfl ?_ | (refine al_gsplit rfl rfl rfl rr_ (fun hg => ?_) (fun hg => ?_)) | refine aw_cond_t rfl rr_ ?_ | (refine aw_cond_dt rfl rr_ dd_ ?_))
            all_goals
              refine aq_ret1 x_ rfl (.tmp _ _ rfl) (fun _ => ?_)
              exact Fin.flat rfl
      · rw [classOk_high hlow] at hbad hks
        obtain ⟨nm, par, fs⟩ := x
        dsimp only at hra hbi hbad hks
        have hx1 : nm.size ≤ 1048576 := hbi.1
        have hx2 : fs.length ≤ 1048576 := hbi.2.1
        have hx3 : ∀ y ∈ fs, ByteArray.size y ≤ 1048576 := hbi.2.2
        have hfl := strR_len fs
        clear hbl
        repeat' (first | ((with_reducible apply o_y); exact y_; rfl) | (refine e_alloc ?_; intro ss bb) | refine e_storep ?_ | with_reducible refine aw_hold_r (id := 10) ?_ | with_reducible refine al_none rfl ?_ | (with_reducible first | apply aw_seq | apply aw_region | apply al_nil | apply aq_then | apply aw_block | apply aw_skip) | (refine aw_cond_dt rfl rr_ dd_ ?_) | (refine aw_cond_df rfl rr_ dd_ ?_))
        refine ⟨aw_seq ?_⟩
        generalize ss = s3; generalize bb = b3
        apply aw_join (X := Unit) [0, 3, 4, 15, 16, 17] (fun _ => [(70, .bool (!decide (classHead l i ⟨nm, par, fs⟩)))]) (fun _ => [(s3, b3, .box [.str nm, .int .i64 par, .sl lo 1 (strR fs)])]) (fun _ => True)
        case hk => (repeat (first | exact Kept.nil | (apply Kept.cons; rfl)))
        · repeat' (first | ((with_reducible apply o_y); exact y_; rfl) | refine e_call hG hst (implIsName_ct _ hx1) ?_ | refine e_call hG hst (within_ct _ _ _) ?_ | with_reducible refine al_none rfl ?_ | (with_reducible first | apply aw_region | apply al_nil) | refine al_run rfl rfl rfl rr_ ?_ | refine al_skip rfl rfl rfl rr_ rfl rfl rfl ?_ | (refine al_gsplit_b rfl rfl rfl rr_ (fun hg => ?_) (fun hg => ?_)))
          all_goals
            refine aq_mid () trivial (.of _ (Weak.envCons (lk_bool rfl ?_) Weak.envNil) od_ pk_)
            clear hbad hks hk hra hbi
            simp only [Bool.not_eq_true', Bool.not_eq_false', inR, decide_eq_true_eq, decide_eq_false_iff_not] at *
            by_cases h8 : (8 : Int) < (fs.length : Int)
            all_goals (try simp only [h8, decide_true, decide_false])
            all_goals first
              | (have : classHead l i ⟨nm, par, fs⟩ := ⟨by assumption, by dsimp only; omega, by dsimp only; omega, by dsimp only; omega⟩
                 simp only [decide_eq_true this, Bool.not_true]
                 done)
              | (have : ¬ classHead l i ⟨nm, par, fs⟩ := fun h => by
                   obtain ⟨h1, h2, h3, h4⟩ := h
                   dsimp only at h1 h2 h3 h4
                   first
                     | omega
                     | (simp only [h1] at *; done)
                     | (simp_all; done)
                 simp only [decide_eq_false this, Bool.not_false]
                 done)
        intro _ _
        by_cases hh : classHead l i ⟨nm, par, fs⟩
        · rw [decide_eq_true hh, Bool.not_true]
          have hh2 := hh.2
          obtain ⟨⟨hp0, hp1⟩, _, hf8⟩ := hh2
          dsimp only at hp0 hp1 hf8
          obtain ⟨p, rfl⟩ : ∃ p : Nat, par = p := ⟨par.toNat, by omega⟩
          have hpl : p < l.length := by omega
          have hrp : (l.map (TClassInfo.tw lo))[p]? = some (l[p].tw lo) := row_map hpl
          have hbp := hsm.2 _ (List.getElem_mem hpl)
          have hpf := parentFields_eq (x := ⟨nm, (p : Int), fs⟩) rfl (List.getElem?_eq_getElem hpl)
          generalize l[p] = y at hrp hbp hpf
          obtain ⟨pn, pp, pf⟩ := y
          replace hrp : (l.map (TClassInfo.tw lo))[p]? = some [.str pn, .int .i64 pp, .sl lo 1 (strR pf)] := hrp
          have hx4 : pf.length ≤ 1048576 := hbp.2.1
          have hpl2 := strR_len pf
          have htl : ((l.map (TClassInfo.tw lo)).take i).length = i := by simp; omega
          repeat' (first | ((with_reducible apply o_y); exact y_; rfl) | refine e_slh ?_ | with_reducible refine al_none rfl ?_ | (with_reducible first | apply aw_seq | apply aw_region | apply al_nil | apply aq_then | apply aw_block | apply aw_skip) | refine aw_cond_f rfl rr_ ?_)
          apply aw_loopk (X := Nat) [0, 3, 4, 15, 16, 17, 73, 74] (fun k => [(75, .int .i64 (k : Int))]) (fun _ => [(s3, b3, .box [.str nm, .int .i64 (p : Int), .sl lo 1 (strR fs)])]) (fun k => k ≤ i ∧ ∀ y ∈ l.take k, y.name ≠ nm) (fun k => i - k) 0 ⟨Nat.zero_le _, by simp⟩
          exact kp_; (repeat (first | exact Weak.envNil | refine Weak.envCons we_ ?_))
          · exact .refl _
          rintro k ⟨hki, hkn⟩
          try dsimp only
          by_cases hlk : k < i
          · have hlk2 : k < l.length := by omega
            have hrk : ((l.map (TClassInfo.tw lo)).take i)[k]? = some (l[k].tw lo) := by rw [List.getElem?_take_of_lt hlk]; exact row_map hlk2
            have hta := take_all (p := fun y : TClassInfo => y.name ≠ nm) hlk2 hkn
            have hmem : l[k] ∈ l.take i := List.mem_take_iff_getElem.2 ⟨k, by omega, rfl⟩
            generalize l[k] = z at hrk hta hmem
            obtain ⟨zn, zp, zf⟩ := z
            replace hrk : ((l.map (TClassInfo.tw lo)).take i)[k]? = some [.str zn, .int .i64 zp, .sl lo 1 (strR zf)] := hrk
            by_cases hzn : zn = nm
            · rw [hbad fun h => h.2.1 _ hmem hzn]
              repeat' (first | ((with_reducible apply o_y); exact y_; rfl) | (refine e_alloc ?_; intro ss bb) | refine e_storep ?_ | with_reducible refine al_none rfl ?_ | (with_reducible first | apply aw_seq | apply aw_region | apply al_nil | apply aq_then | apply aw_block | apply aw_skip | apply aw_ret | apply aq_then_ret | apply aq_block_ret) | (refine aw_cond_dt rfl rr_ dd_ ?_))
              refine aq_ret1 x_ rfl (.tmp _ _ rfl) (fun _ => ?_)
              exact Fin.flat rfl
            · repeat' (first | ((with_reducible apply o_y); exact y_; rfl) | (refine e_alloc ?_; intro ss bb) | refine e_storep ?_ | with_reducible refine al_none rfl ?_ | (with_reducible first | apply aw_seq | apply aw_region | apply al_nil | apply aq_then | apply aw_block | apply aw_skip | apply aq_block) | (refine aw_cond_dt rfl rr_ dd_ ?_) | (refine aw_cond_df rfl rr_ dd_ ?_))
              exact aq_round (k + 1) ⟨by omega, hta hzn⟩ (by omega) (.of _ nw_ od_ pk_)
          · obtain rfl : k = i := by omega
            clear hlk
            by_cases hhe : pf.length ≤ fs.length ∧ fs.take pf.length = pf
            · have heq := slicesEqual_ct (G := G) lo lo (fs.take pf.length) pf (by simp; omega) hx4
              rw [decide_eq_true hhe.2] at heq
              have hsl : (strR fs).take pf.length = strR (fs.take pf.length) := by simp [strR, List.map_take]
              have hle := hhe.1
              repeat' (first | ((with_reducible apply o_y); exact y_; rfl) | refine e_slh ?_ | refine e_call hG hst (heq) ?_ | with_reducible refine al_none rfl ?_ | (with_reducible first | apply aw_seq | apply aw_region | apply al_nil | apply aq_then | apply aw_block | apply aw_exit | apply aw_skip | apply aq_block_hit | apply aq_then_exit) | refine al_run rfl rfl rfl rr_ ?_ | (refine al_gf rfl rfl rfl rr_ dd_ ?_) | refine aw_cond_f rfl rr_ ?_ | (refine aw_cond_df rfl rr_ dd_ ?_))
              apply aw_loopk (X := Nat) [0, 3, 4, 8, 15, 16, 17, 108, 109] (fun k => [(110, .int .i64 (k : Int))]) (fun _ => [(s3, b3, .box [.str nm, .int .i64 (p : Int), .sl lo 1 (strR fs)])]) (fun k => k ≤ fs.length ∧ ∀ j, j < k → ∀ h : j < fs.length, fieldAt fs j fs[j] = true) (fun k => fs.length - k) 0 ⟨Nat.zero_le _, by omega⟩
              exact kp_; (repeat (first | exact Weak.envNil | refine Weak.envCons we_ ?_))
              · exact .refl _
              rintro q ⟨hq, hqa⟩
              try dsimp only
              by_cases hqf : q < fs.length
              · have hfr := strR_row hqf
                have hqs := hx3 _ (List.getElem_mem hqf)
                have hqb := fieldsOk_bad hqf
                have hqn : fieldAt fs q fs[q] = true → ∀ j, j < q + 1 → ∀ h : j < fs.length, fieldAt fs j fs[j] = true := fun h => below_succ hqa fun _ => h
                generalize fs[q] = f at hfr hqs hqb hqn
                have hname := implIsName_ct (G := G) f hqs
                have hhas := slicesContains_ct (G := G) hst lo (fs.take q) f (by simp; omega)
                rw [idxS_has] at hhas
                have hsq : (strR fs).take q = strR (fs.take q) := by simp [strR, List.map_take]
                have hqle : q ≤ fs.length := hq
                by_cases hqo : fieldAt fs q f = true
                · have hqo2 := hqo
                  unfold fieldAt at hqo2
                  rw [Bool.and_eq_true, Bool.not_eq_true'] at hqo2
                  rw [hqo2.1] at hname
                  rw [hqo2.2] at hhas
                  repeat' (first | ((with_reducible apply o_y); exact y_; rfl) | refine e_slh ?_ | refine e_call hG hst (hname) ?_ | refine e_call hG hst (hhas) ?_ | with_reducible refine al_none rfl ?_ | (with_reducible first | apply aw_seq | apply aw_region | apply al_nil | apply aq_then | apply aw_block | apply aw_skip | apply aq_block) | refine al_run rfl rfl rfl rr_ ?_ | refine aw_cond_f rfl rr_ ?_ | (refine aw_cond_dt rfl rr_ dd_ ?_))
                  exact aq_round (q + 1) ⟨by omega, hqn hqo⟩ (by omega) (.of _ nw_ od_ pk_)
                · rw [hbad fun h => hqb (Bool.eq_false_iff.2 hqo) h.2.2.2]
                  by_cases hqs1 : isNameL f.data.toList = true
                  · have hqs2 : hasS (fs.take q) f = true := by
                      unfold fieldAt at hqo
                      rw [hqs1, Bool.true_and] at hqo
                      simpa using hqo
                    rw [hqs1] at hname
                    rw [hqs2] at hhas
                    repeat' (first | ((with_reducible apply o_y); exact y_; rfl) | refine e_slh ?_ | refine e_call hG hst (hname) ?_ | refine e_call hG hst (hhas) ?_ | with_reducible refine al_none rfl ?_ | (with_reducible first | apply aw_seq | apply aw_region | apply al_nil | apply aq_then | apply aw_block | apply aw_skip | apply aw_ret | apply aq_then_ret | apply aq_block_ret) | refine al_run rfl rfl rfl rr_ ?_ | refine aw_cond_t rfl rr_ ?_ | (refine aw_cond_dt rfl rr_ dd_ ?_))
                    refine aq_ret1 x_ rfl (.tmp _ _ rfl) (fun _ => ?_)
                    exact Fin.flat rfl
                  · rw [Bool.eq_false_iff.2 hqs1] at hname
                    repeat' (first | ((with_reducible apply o_y); exact y_; rfl) | refine e_call hG hst (hname) ?_ | with_reducible refine al_none rfl ?_ | (with_reducible first | apply aw_seq | apply aw_region | apply al_nil | apply aq_then | apply aw_block | apply aw_skip | apply aw_ret | apply aq_then_ret | apply aq_block_ret) | refine al_skip rfl rfl rfl rr_ rfl rfl rfl ?_ | refine aw_cond_t rfl rr_ ?_ | (refine aw_cond_dt rfl rr_ dd_ ?_))
                    refine aq_ret1 x_ rfl (.tmp _ _ rfl) (fun _ => ?_)
                    exact Fin.flat rfl
              · obtain rfl : q = fs.length := by omega
                repeat' (first | ((with_reducible apply o_y); exact y_; rfl) | with_reducible refine al_none rfl ?_ | (with_reducible first | apply aw_seq | apply aw_region | apply al_nil | apply aq_then | apply aw_exit | apply aq_block_hit | apply aq_then_exit | apply aq_block) | (refine aw_cond_df rfl rr_ dd_ ?_))
                exact aq_round (k + 1) ⟨by omega, hks ⟨hh, hkn, ⟨by rw [hpf]; exact hhe.1, by rw [hpf]; exact hhe.2⟩, fun j hj => hqa j hj hj⟩⟩ (by omega) (.of _ nw_ od_ (Pick.nil _))
            · rw [hbad fun h => hhe (by have := h.2.2.1; unfold heirs at this; rw [hpf] at this; exact this)]
              by_cases hle : pf.length ≤ fs.length
              · have heq := slicesEqual_ct (G := G) lo lo (fs.take pf.length) pf (by simp; omega) hx4
                rw [decide_eq_false fun h => hhe ⟨hle, h⟩] at heq
                have hsl : (strR fs).take pf.length = strR (fs.take pf.length) := by simp [strR, List.map_take]
                repeat' (first | ((with_reducible apply o_y); exact y_; rfl) | refine e_slh ?_ | refine e_call hG hst (heq) ?_ | with_reducible refine al_none rfl ?_ | (with_reducible first | apply aw_seq | apply aw_region | apply al_nil | apply aq_then | apply aw_exit | apply aw_ret | apply aq_block_hit | apply aq_then_exit | apply aq_then_ret | apply aq_block_ret) | refine al_run rfl rfl rfl rr_ ?_ | (refine al_gf rfl rfl rfl rr_ dd_ ?_) | refine aw_cond_t rfl rr_ ?_ | (refine aw_cond_df rfl rr_ dd_ ?_))
                refine aq_ret1 x_ rfl (.tmp _ _ rfl) (fun _ => ?_)
                exact Fin.flat rfl
              · repeat' (first | ((with_reducible apply o_y); exact y_; rfl) | with_reducible refine al_none rfl ?_ | (with_reducible first | apply aw_seq | apply aw_region | apply al_nil | apply aq_then | apply aw_exit | apply aw_ret | apply aq_block_hit | apply aq_then_exit | apply aq_then_ret | apply aq_block_ret) | refine al_skip rfl rfl rfl rr_ rfl rfl rfl ?_ | (refine al_gt rfl rfl rfl rr_ dd_ ?_) | refine aw_cond_t rfl rr_ ?_ | (refine aw_cond_df rfl rr_ dd_ ?_))
                refine aq_ret1 x_ rfl (.tmp _ _ rfl) (fun _ => ?_)
                exact Fin.flat rfl
        · rw [decide_eq_false hh, Bool.not_false, hbad fun h => hh h.1]
          repeat' (first | ((with_reducible apply o_y); exact y_; rfl) | with_reducible refine al_none rfl ?_ | (with_reducible first | apply aw_seq | apply aw_region | apply al_nil | apply aq_then | apply aw_ret | apply aq_then_ret | apply aq_block_ret) | refine aw_cond_t rfl rr_ ?_)
          refine aq_ret1 x_ rfl (.tmp _ _ rfl) (fun _ => ?_)
          exact Fin.flat rfl
    · rw [classesOk_good hl fun j hj => hk j (by omega)]
      repeat' (first | ((with_reducible apply o_y); exact y_; rfl) | with_reducible refine al_none rfl ?_ | (with_reducible first | apply aw_seq | apply aw_region | apply al_nil | apply aq_then | apply aw_exit | apply aw_ret | apply aq_block_hit | apply aq_then_exit) | (refine aw_cond_df rfl rr_ dd_ ?_))
      refine aq_ret1 x_ rfl (.tmp _ _ rfl) (fun _ => ?_)
      exact Fin.flat rfl
  · rw [inR_f (by omega)] at hwi
    rw [classesOk_len hl]
    repeat' (first | ((with_reducible apply o_y); exact y_; rfl) | refine e_call hG hst (hwi) ?_ | with_reducible refine al_none rfl ?_ | (with_reducible first | apply aw_seq | apply aw_region | apply al_nil | apply aq_then | apply aw_ret | apply aq_then_ret) | refine aw_cond_t rfl rr_ ?_)
    refine aq_ret1 x_ rfl (.tmp _ _ rfl) (fun _ => ?_)
    exact Fin.flat rfl
end
end Go.Proofs.YtfchjaoeogolnaaGreatDoor
/- IsVerified: the codes around each code, on the side of the program (outers). -/
namespace Go.Proofs.YtfchjaoeogolnaaGreatDoor
set_option maxRecDepth 20000
open Go Go.RowKit
section
variable {G : World → Prop}
set_option maxRecDepth 4000 in
set_option maxHeartbeats 4000000 in
theorem outers_ct (hst : Stable G) (lo : Nat) (ccl cen : TV) (cs : List TCode) (mn : Int) (hne : 1 ≤ cs.length) (hcs : cs.length ≤ 1048576 ∧ ∀ y ∈ cs, TCode.small 1048576 y) :
    Ct Tryz.prog G 81 [.agg [ccl, .sl lo 4 (cs.map (TCode.tw lo)), cen, .int .i64 mn]] (outR cs) := by
  refine ct_enter Tryz.func81 rfl Tryz.ntmps81 rfl rfl fun w0 _ hG => ?_
  have hl2 := TCode.len lo cs
  have hcl := hcs.1
  have hrep := fun lo => repeat_ct (G := G) lo cs.length hne hcl
  repeat' (first | ((with_reducible apply o_y); exact y_; rfl) | refine e_box ?_ | refine e_lit ?_ | ((with_reducible apply o_callM); rfl; kernel_rfl; (repeat (first | exact ArgsM.nil | ((with_reducible apply ArgsM.cons); rfl))); exact hG; exact hrep _; exact .nil _; intro y _; obtain ⟨ss, bb⟩ := y; refine al_app1 ?_) | with_reducible refine aw_hold_r (id := 2) ?_ | with_reducible refine al_none rfl ?_ | (with_reducible first | apply aw_seq | apply aw_region | apply al_nil | apply aq_then))
  refine ⟨?_⟩
  generalize ss = sd; generalize bb = bd
  have hst0 : outFrom cs 0 (List.replicate cs.length (-1)) = outersL cs := rfl
  have hin0 := outInv_zero cs.length
  unfold outR
  generalize outersL cs = R at hst0
  generalize List.replicate cs.length (-1 : Int) = o0 at hst0 hin0
  repeat' (first | ((with_reducible apply o_y); exact y_; rfl) | with_reducible refine al_none rfl ?_ | (with_reducible first | apply aw_seq | apply aw_region | apply al_nil | apply aq_then | apply aw_block))
  apply aw_loopk (X := Nat × List Int) [1, 4, 17, 18] (fun x => [(19, .int .i64 (x.1 : Int))]) (fun x => [(sd, bd, .row 1 (intR x.2))]) (fun x => x.1 ≤ cs.length ∧ outInv cs.length x.2 ∧ outFrom cs x.1 x.2 = R) (fun x => cs.length - x.1) (0, o0) ⟨Nat.zero_le _, hin0, hst0⟩
  exact kp_; (repeat (first | exact Weak.envNil | refine Weak.envCons we_ ?_))
  · exact .refl _
  clear hin0 hst0
  rintro ⟨i, o⟩ ⟨hi, hin, hR⟩
  dsimp only at hi hin hR ⊢
  have hol : (intR o).length = cs.length := by rw [intR_length]; exact hin.1
  by_cases hlt : i < cs.length
  · have hra := tcode_row (lo := lo) hlt
    have hsm := hcs.2 _ (List.getElem_mem hlt)
    rw [outFrom_step hlt] at hR
    generalize cs[i] = c at hra hsm hR
    obtain ⟨cb, cp, csl, is⟩ := c
    dsimp only at hra hR
    have hil := TInstr.len lo is
    have hisl : is.length ≤ 1048576 := hsm.1
    repeat' (first | ((with_reducible apply o_y); exact y_; rfl) | (refine e_alloc ?_; intro ss bb) | refine e_storep ?_ | with_reducible refine al_none rfl ?_ | (with_reducible first | apply aw_seq | apply aw_region | apply al_nil | apply aq_then | apply aw_block | apply aw_skip) | (refine aw_cond_dt rfl rr_ dd_ ?_))
    apply aw_loopk (X := Nat × List Int) [1, 4, 5, 17, 18, 19, 25, 26] (fun x => [(27, .int .i64 (x.1 : Int))]) (fun x => [(sd, bd, .row 1 (intR x.2))]) (fun x => x.1 ≤ is.length ∧ outInv cs.length x.2 ∧ outRest cs i (is.drop x.1) x.2 = R) (fun x => is.length - x.1) (0, o) ⟨Nat.zero_le _, hin, hR⟩
    exact kp_; (repeat (first | exact Weak.envNil | refine Weak.envCons we_ ?_))
    · exact pk_
    clear hin hR hol
    rintro ⟨k, o⟩ ⟨hk, hin, hR⟩
    dsimp only at hk hin hR ⊢
    have hol : (intR o).length = cs.length := by rw [intR_length]; exact hin.1
    by_cases hlk : k < is.length
    · have hrk := tinstr_row (lo := lo) hlk
      rw [outRest_step hlk] at hR
      generalize is[k] = x at hrk hR
      obtain ⟨op, a, b, t⟩ := x
      unfold outI at hR
      dsimp only at hrk hR
      by_cases h15 : op = 15
      · rw [if_pos h15] at hR
        have h15' : ¬ op ≠ 15 := fun h => h h15
        by_cases hin2 : 0 ≤ a ∧ a ≤ (i : Int) - 1
        · have cin := within_ct (G := G) a 0 ((i - 1 : Nat) : Int)
          rw [inR_t (by omega)] at cin
          obtain ⟨q, rfl⟩ : ∃ q : Nat, a = q := ⟨a.toNat, by omega⟩
          have hql : q < o.length := by rw [hin.1]; omega
          have hrq := intR_gd hql
          have hqc : q < cs.length := by omega
          have hrc := tcode_row (lo := lo) hqc
          have hblk := fun o' k' hp hinv => outRest_noblock (cs := cs) (i := i) (k := k') (is := is) (o := o') (a := q) hlt hinv hqc hp
          generalize cs[q] = y at hrc hblk
          obtain ⟨yb, yp, ysl, yi⟩ := y
          dsimp only at hrc hblk
          by_cases hg : 0 ≤ gd o (q : Int)
          · rw [if_neg fun h => h.2 hg] at hR
            cases yb
            all_goals
              repeat' (first | ((with_reducible apply o_y); exact y_; rfl) | (refine e_alloc ?_; intro ss bb) | refine e_storep ?_ | refine e_call hG hst (cin) ?_ | with_reducible refine al_none rfl ?_ | (with_reducible first | apply aw_seq | apply aw_region | apply al_nil | apply aq_then | apply aw_block | apply aw_skip | apply aw_ret | apply aq_then_ret | apply aq_block_ret) | refine al_run rfl rfl rfl rr_ ?_ | refine al_skip rfl rfl rfl rr_ rfl rfl rfl ?_ | refine aw_cond_t rfl rr_ ?_ | (refine aw_cond_dt rfl rr_ dd_ ?_) | (refine aw_cond_df rfl rr_ dd_ ?_))
              refine aq_ret2 x_ rfl (.tmp _ _ rfl) (.tmp _ _ rfl) (fun _ => ?_) (fun _ => ?_)
              · exact fin_none hR.symm
              · exact fin_none_b hR.symm
          · rw [if_pos ⟨hin2, hg⟩, Int.toNat_natCast] at hR
            dsimp only at hR
            have hset := intR_set o q (i : Int)
            have hin3 := (outI_inv (n := cs.length) (i := i) (x := ⟨15, q, b, t⟩) (o := o) (o' := o.set q (i : Int)) hlt (by unfold outI; rw [if_pos rfl, if_pos ⟨hin2, hg⟩, Int.toNat_natCast]) hin).1
            cases yb
            case false =>
              have hno := hblk (o.set q (i : Int)) (k + 1) rfl hin3 (by rw [gd_set_eq hql]; omega)
              rw [hR] at hno
              repeat' (first | ((with_reducible apply o_y); exact y_; rfl) | (refine e_alloc ?_; intro ss bb) | refine e_storep ?_ | refine e_call hG hst (cin) ?_ | with_reducible refine al_none rfl ?_ | (with_reducible first | apply aw_seq | apply aw_region | apply al_nil | apply aq_then | apply aw_block | apply aw_skip | apply aw_ret | apply aq_then_ret | apply aq_block_ret) | refine al_run rfl rfl rfl rr_ ?_ | refine al_skip rfl rfl rfl rr_ rfl rfl rfl ?_ | refine aw_cond_t rfl rr_ ?_ | (refine aw_cond_dt rfl rr_ dd_ ?_) | (refine aw_cond_df rfl rr_ dd_ ?_))
              refine aq_ret2 x_ rfl (.tmp _ _ rfl) (.tmp _ _ rfl) (fun _ => ?_) (fun _ => ?_)
              · exact fin_none hno
              · exact fin_none_b hno
            repeat' (first | ((with_reducible apply o_y); exact y_; rfl) | (refine e_alloc ?_; intro ss bb) | refine e_storep ?_ | refine e_call hG hst (cin) ?_ | refine e_store ?_ | with_reducible refine al_none rfl ?_ | (with_reducible first | apply aw_seq | apply aw_region | apply al_nil | apply aq_then | apply aw_block | apply aw_skip | apply aq_block) | refine al_run rfl rfl rfl rr_ ?_ | (refine aw_cond_dt rfl rr_ dd_ ?_) | (refine aw_cond_df rfl rr_ dd_ ?_))
            rw [hset]
            refine aq_round (k + 1, o.set q (i : Int)) ⟨by dsimp only; omega, hin3, hR⟩ (by dsimp only; omega) (.of _ nw_ od_ pk_)
        · have cin := within_ct (G := G) a 0 ((i : Int) - 1)
          have cin' := within_ct (G := G) a 0 ((i - 1 : Nat) : Int)
          rw [inR_f hin2] at cin
          rw [if_neg fun h => hin2 h.1] at hR
          repeat' (first | ((with_reducible apply o_y); exact y_; rfl) | (refine e_alloc ?_; intro ss bb) | refine e_storep ?_ | refine e_call hG hst (cin) ?_ | with_reducible refine al_none rfl ?_ | (with_reducible first | apply aw_seq | apply aw_region | apply al_nil | apply aq_then | apply aw_block | apply aw_skip | apply aw_ret | apply aq_then_ret | apply aq_block_ret) | refine al_skip rfl rfl rfl rr_ rfl rfl rfl ?_ | refine aw_cond_t rfl rr_ ?_ | (refine aw_cond_dt rfl rr_ dd_ ?_) | (refine aw_cond_df rfl rr_ dd_ ?_))
          refine aq_ret2 x_ rfl (.tmp _ _ rfl) (.tmp _ _ rfl) (fun _ => ?_) (fun _ => ?_)
          · exact fin_none hR.symm
          · exact fin_none_b hR.symm
      · rw [if_neg h15] at hR
        dsimp only at hR
        repeat' (first | ((with_reducible apply o_y); exact y_; rfl) | (refine e_alloc ?_; intro ss bb) | refine e_storep ?_ | with_reducible refine al_none rfl ?_ | (with_reducible first | apply aw_seq | apply aw_region | apply al_nil | apply aq_then | apply aw_block | apply aw_exit | apply aw_skip | apply aq_block_hit | apply aq_then_exit) | (refine aw_cond_dt rfl rr_ dd_ ?_))
        refine aq_round (k + 1, o) ⟨by dsimp only; omega, hin, hR⟩ (by dsimp only; omega) (.of _ nw_ od_ pk_)
    · rw [outRest_end hlk] at hR
      repeat' (first | ((with_reducible apply o_y); exact y_; rfl) | with_reducible refine al_none rfl ?_ | (with_reducible first | apply aw_seq | apply aw_region | apply al_nil | apply aq_then | apply aw_exit | apply aq_block_hit | apply aq_then_exit | apply aq_block) | (refine aw_cond_df rfl rr_ dd_ ?_))
      refine aq_round (i + 1, o) ⟨by dsimp only; omega, hin, hR⟩ (by dsimp only; omega) (.of _ nw_ od_ pk_)
  · rw [outFrom_end hlt] at hR
    repeat' (first | ((with_reducible apply o_y); exact y_; rfl) | with_reducible refine al_none rfl ?_ | (with_reducible first | apply aw_seq | apply aw_region | apply al_nil | apply aq_then | apply aw_block | apply aw_exit | apply aq_block_hit | apply aq_then_exit) | (refine aw_cond_df rfl rr_ dd_ ?_))
    apply aw_loopk (X := Nat) [1, 4, 66, 67] (fun j => [(68, .int .i64 (j : Int))]) (fun _ => [(sd, bd, .row 1 (intR o))]) (fun j => j ≤ cs.length ∧ ∀ q, q < j → ∀ h : q < cs.length, cs[q].block = decide (0 ≤ gd o (q : Int))) (fun j => cs.length - j) 0 ⟨Nat.zero_le _, by omega⟩
    exact kp_; (repeat (first | exact Weak.envNil | refine Weak.envCons we_ ?_))
    · exact .refl _
    rintro j ⟨hj, hja⟩
    try dsimp only
    by_cases hlj : j < cs.length
    · have hra := tcode_row (lo := lo) hlj
      have hrj := intR_gd (o := o) (j := j) (by rw [hin.1]; exact hlj)
      have hbad := outFin_bad (o := o) hlj
      have hnx : cs[j].block = decide (0 ≤ gd o (j : Int)) → ∀ q, q < j + 1 → ∀ h : q < cs.length, cs[q].block = decide (0 ≤ gd o (q : Int)) := fun ho => below_succ hja fun _ => ho
      generalize cs[j] = c at hra hbad hnx
      obtain ⟨cb, cp, csl, is⟩ := c
      dsimp only at hra hbad hnx
      generalize gd o (j : Int) = v at hrj hbad hnx
      by_cases hb : cb = decide (0 ≤ v)
      · repeat' (first | ((with_reducible apply o_y); exact y_; rfl) | (refine e_alloc ?_; intro ss bb) | refine e_storep ?_ | with_reducible refine aw_draw (by kernel_rfl) (by kernel_rfl) ?_ | with_reducible refine dr_nil ?_ | with_reducible refine dr_none rfl ?_ | ((with_reducible apply d_y); exact y_; rfl) | with_reducible refine al_none rfl ?_ | (with_reducible first | apply aw_seq | apply aw_region | apply al_nil | apply aq_then | apply aw_block | apply aw_skip | apply aw_ret | apply aq_then_ret | apply aq_block_ret | apply aq_block) | (refine aw_cond_dt rfl rr_ dd_ ?_) | (refine aw_cond_b rfl rr_ (fun hc => ?_) (fun hc => ?_)))
        all_goals first
          | exact aq_round (j + 1) ⟨by omega, hnx hb⟩ (by omega) (.of _ nw_ od_ pk_)
          | (exfalso; simp_all; done)
      · rw [hbad hb] at hR
        repeat' (first | ((with_reducible apply o_y); exact y_; rfl) | (refine e_alloc ?_; intro ss bb) | refine e_storep ?_ | with_reducible refine aw_draw (by kernel_rfl) (by kernel_rfl) ?_ | with_reducible refine dr_nil ?_ | with_reducible refine dr_none rfl ?_ | ((with_reducible apply d_y); exact y_; rfl) | with_reducible refine al_none rfl ?_ | (with_reducible first | apply aw_seq | apply aw_region | apply al_nil | apply aq_then | apply aw_block | apply aw_skip | apply aw_ret | apply aq_then_ret | apply aq_block_ret | apply aq_block) | (refine aw_cond_dt rfl rr_ dd_ ?_) | (refine aw_cond_b rfl rr_ (fun hc => ?_) (fun hc => ?_)))
        all_goals first
          | (exfalso; simp_all; done)
          | (refine aq_ret2 x_ rfl (.tmp _ _ rfl) (.tmp _ _ rfl) (fun _ => ?_) (fun _ => ?_)
             · exact fin_none hR.symm
             · exact fin_none_b hR.symm)
    · rw [outFin_good fun q hq => hja q (by omega)] at hR
      repeat' (first | ((with_reducible apply o_y); exact y_; rfl) | with_reducible refine al_none rfl ?_ | (with_reducible first | apply aw_seq | apply aw_region | apply al_nil | apply aq_then | apply aw_exit | apply aw_ret | apply aq_block_hit | apply aq_then_exit) | (refine aw_cond_df rfl rr_ dd_ ?_))
      refine aq_ret2 x_ rfl (.tmp _ _ rfl) (.tmp _ _ rfl) (fun _ => ?_) (fun _ => ?_)
      · exact fin_some hR.symm hin.1 List.mem_cons_self
      · exact fin_some_b hR.symm
end
end Go.Proofs.YtfchjaoeogolnaaGreatDoor
