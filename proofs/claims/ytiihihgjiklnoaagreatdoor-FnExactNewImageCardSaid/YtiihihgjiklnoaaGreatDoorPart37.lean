/- Part 37 of the proof: the texts IvH, IvK, IvN. -/
import Derived.Test.YtiihihgjiklnoaaGreatDoorPart17
import Derived.Test.YtiihihgjiklnoaaGreatDoorPart32
import Derived.Test.YtiihihgjiklnoaaGreatDoorPart15
import Derived.Test.YtiihihgjiklnoaaGreatDoorPart36
import Derived.Test.YtiihihgjiklnoaaGreatDoorPart34
import Derived.Test.YtiihihgjiklnoaaGreatDoorPart16
/- IsVerified: the classes, on the side of the program (classesOk). -/
namespace Go.Proofs.YtiihihgjiklnoaaGreatDoor
set_option maxRecDepth 20000
open Go Go.RowKit
section
variable {G : World → Prop}
set_option maxRecDepth 4000 in
set_option maxHeartbeats 4000000 in
theorem classesOk_ct (hst : Stable G) (lo : Nat) (l : List TClassInfo) (hsm : l.length ≤ 1048576 ∧ ∀ y ∈ l, TClassInfo.small 1048576 y) : Ct Tryz.prog G 134 [.sl lo 3 (l.map (TClassInfo.tw lo))] (fun _ => .bool (classesOkB l)) := by
  refine ct_enter Tryz.func134 rfl Tryz.ntmps134 rfl rfl fun w0 _ hG => ?_
  have hlen := TClassInfo.len lo l
  have hbl := TClassInfo.len w0.heap.size builtinL
  rw [builtin_len] at hbl
  have hl1 := hsm.1
  have hwi := within_ct (G := G) (l.length : Int) 16 24
  by_cases hl : 16 ≤ l.length ∧ l.length ≤ 24
  · rw [inR_t (by omega)] at hwi
    repeat' (first | refine W_ ?_ | refine e_call hG hst (hwi) ?_ | refine c_ (fun hc => ?_) (fun hc => ?_) | refine g_ (fun hg => ?_) (fun hg => ?_))
    apply aw_loopk (X := Nat) [0, 15, 16] (fun i => [(17, .int .i64 (i : Int))]) (fun _ => []) (fun i => i ≤ l.length ∧ ∀ j, j < i → ∀ h : j < l.length, classOk l j l[j]) (fun i => l.length - i) 0 ⟨Nat.zero_le _, by simp⟩
    exact kp_; exact nw_
    · exact .nil _
    rintro i ⟨hi, hk⟩
    try dsimp only
    by_cases hlt : i < l.length
    · have hra : (l.map (TClassInfo.tw lo))[i]? = some (l[i].tw lo) := row_map hlt
      have hbi := hsm.2 _ (List.getElem_mem hlt)
      have hbad := classesOk_bad hlt
      have hks : classOk l i l[i] → ∀ j, j < i + 1 → ∀ h : j < l.length, classOk l j l[j] := fun ho => below_succ hk fun _ => ho
      generalize l[i] = x at hra hbi hbad hks
      rw [show x.tw lo = [.str x.name, .int .i64 x.parent, .sl lo 1 (strR x.fields)] from rfl] at hra
      by_cases hlow : i < 16
      · obtain ⟨bi, hb, _, _, h3, _⟩ := builtin_at hlow
        have hrb : (builtinL.map (TClassInfo.tw w0.heap.size))[i]? = some [.str bi.name, .int .i64 bi.parent, .sl w0.heap.size 1 (strR bi.fields)] := by rw [List.getElem?_map, hb]; rfl
        rw [classOk_low hlow hb] at hbad hks
        have hbf : bi.fields.length ≤ 1048576 := by rw [← h3]; unfold bfields; split <;> simp
        have heq := slicesEqual_ct (G := G) lo w0.heap.size x.fields bi.fields hbi.2.1 hbf
        clear h3
        by_cases ho : x.name = bi.name ∧ x.parent = bi.parent ∧ x.fields = bi.fields
        · have n1 : ¬ x.name ≠ bi.name := fun h => h ho.1
          have n2 : ¬ x.parent ≠ bi.parent := fun h => h ho.2.1
          rw [decide_eq_true ho.2.2] at heq
          repeat' (first | refine W_ ?_ | (refine e_alloc ?_; intro ss bb) | refine e_storep ?_ | refine e_call hG hst (builtinInfos_ct hst) ?_ | refine e_call hG hst (heq) ?_ | refine c_ (fun hc => ?_) (fun hc => ?_) | refine g_ (fun hg => ?_) (fun hg => ?_))
          exact aq_round (i + 1) ⟨by omega, hks ho⟩ (by omega) (.of _ nw_ od_ (Pick.nil _))
        · rw [hbad ho]
          clear hks hbad
          by_cases hfe : x.fields = bi.fields
          · rw [decide_eq_true hfe] at heq
            repeat' (first | refine W_ ?_ | (refine e_alloc ?_; intro ss bb) | refine e_storep ?_ | refine e_call hG hst (builtinInfos_ct hst) ?_ | refine e_call hG hst (heq) ?_ | refine c_ (fun hc => ?_) (fun hc => ?_) | refine g_ (fun hg => ?_) (fun hg => ?_))
            all_goals first
              | (exfalso; exact ho ⟨Decidable.of_not_not (by assumption), Decidable.of_not_not (by assumption), hfe⟩)
              | (exact r1_)
          · rw [decide_eq_false hfe] at heq
            repeat' (first | refine W_ ?_ | (refine e_alloc ?_; intro ss bb) | refine e_storep ?_ | refine e_call hG hst (builtinInfos_ct hst) ?_ | refine e_call hG hst (heq) ?_ | refine c_ (fun hc => ?_) (fun hc => ?_) | refine g_ (fun hg => ?_) (fun hg => ?_))
            all_goals
              exact r1_
      · rw [classOk_high hlow] at hbad hks
        obtain ⟨nm, par, fs⟩ := x
        dsimp only at hra hbi hbad hks
        have hx1 : nm.size ≤ 1048576 := hbi.1
        have hx2 : fs.length ≤ 1048576 := hbi.2.1
        have hx3 : ∀ y ∈ fs, ByteArray.size y ≤ 1048576 := hbi.2.2
        have hfl := strR_len fs
        clear hbl
        repeat' (first | refine H_ 10 ?_ | (refine e_alloc ?_; intro ss bb) | refine e_storep ?_ | refine c_ (fun hc => ?_) (fun hc => ?_) | refine g_ (fun hg => ?_) (fun hg => ?_))
        refine ⟨aw_seq ?_⟩
        generalize ss = s3; generalize bb = b3
        apply aw_join (X := Unit) [0, 3, 4, 15, 16, 17] (fun _ => [(70, .bool (!decide (classHead l i ⟨nm, par, fs⟩)))]) (fun _ => [(s3, b3, .box [.str nm, .int .i64 par, .sl lo 1 (strR fs)])]) (fun _ => True)
        case hk => (repeat (first | exact Kept.nil | (apply Kept.cons; rfl)))
        · repeat' (first | refine W_ ?_ | refine e_call hG hst (implIsName_ct _ hx1) ?_ | refine e_call hG hst (within_ct _ _ _) ?_ | refine c_ (fun hc => ?_) (fun hc => ?_) | refine g_ (fun hg => ?_) (fun hg => ?_))
          all_goals
            refine aq_mid () trivial (.of _ (Weak.envCons (lk_bool rfl ?_) Weak.envNil) od_ pk_)
            clear hbad hks hk hra hbi
            simp only [Bool.not_eq_true', Bool.not_eq_false', inR, decide_eq_true_eq, decide_eq_false_iff_not] at *
            by_cases h8 : (8 : Int) < (fs.length : Int)
            all_goals (try simp only [h8, decide_true, decide_false])
            all_goals first
              | (have : classHead l i ⟨nm, par, fs⟩ := ⟨by assumption, by dsimp only; omega, by dsimp only; omega, by dsimp only; omega⟩
                 simp only [decide_eq_true this, Bool.not_true]
                 done)
              | (have : ¬ classHead l i ⟨nm, par, fs⟩ := fun h => by
                   obtain ⟨h1, h2, h3, h4⟩ := h
                   dsimp only at h1 h2 h3 h4
                   first
                     | omega
                     | (simp only [h1] at *; done)
                     | (simp_all; done)
                 simp only [decide_eq_false this, Bool.not_false]
                 done)
        intro _ _
        by_cases hh : classHead l i ⟨nm, par, fs⟩
        · rw [decide_eq_true hh, Bool.not_true]
          have hh2 := hh.2
          obtain ⟨⟨hp0, hp1⟩, _, hf8⟩ := hh2
          dsimp only at hp0 hp1 hf8
          obtain ⟨p, rfl⟩ : ∃ p : Nat, par = p := ⟨par.toNat, by omega⟩
          have hpl : p < l.length := by omega
          have hrp : (l.map (TClassInfo.tw lo))[p]? = some (l[p].tw lo) := row_map hpl
          have hbp := hsm.2 _ (List.getElem_mem hpl)
          have hpf := parentFields_eq (x := ⟨nm, (p : Int), fs⟩) rfl (List.getElem?_eq_getElem hpl)
          generalize l[p] = y at hrp hbp hpf
          obtain ⟨pn, pp, pf⟩ := y
          replace hrp : (l.map (TClassInfo.tw lo))[p]? = some [.str pn, .int .i64 pp, .sl lo 1 (strR pf)] := hrp
          have hx4 : pf.length ≤ 1048576 := hbp.2.1
          have hpl2 := strR_len pf
          have htl : ((l.map (TClassInfo.tw lo)).take i).length = i := by simp; omega
          repeat' (first | refine W_ ?_ | refine e_slh ?_ | refine c_ (fun hc => ?_) (fun hc => ?_) | refine g_ (fun hg => ?_) (fun hg => ?_))
          apply aw_loopk (X := Nat) [0, 3, 4, 15, 16, 17, 73, 74] (fun k => [(75, .int .i64 (k : Int))]) (fun _ => [(s3, b3, .box [.str nm, .int .i64 (p : Int), .sl lo 1 (strR fs)])]) (fun k => k ≤ i ∧ ∀ y ∈ l.take k, y.name ≠ nm) (fun k => i - k) 0 ⟨Nat.zero_le _, by simp⟩
          exact kp_; exact nw_
          · exact .refl _
          rintro k ⟨hki, hkn⟩
          try dsimp only
          by_cases hlk : k < i
          · have hlk2 : k < l.length := by omega
            have hrk : ((l.map (TClassInfo.tw lo)).take i)[k]? = some (l[k].tw lo) := by rw [List.getElem?_take_of_lt hlk]; exact row_map hlk2
            have hta := take_all (p := fun y : TClassInfo => y.name ≠ nm) hlk2 hkn
            have hmem : l[k] ∈ l.take i := List.mem_take_iff_getElem.2 ⟨k, by omega, rfl⟩
            generalize l[k] = z at hrk hta hmem
            obtain ⟨zn, zp, zf⟩ := z
            replace hrk : ((l.map (TClassInfo.tw lo)).take i)[k]? = some [.str zn, .int .i64 zp, .sl lo 1 (strR zf)] := hrk
            by_cases hzn : zn = nm
            · rw [hbad fun h => h.2.1 _ hmem hzn]
              repeat' (first | refine W_ ?_ | (refine e_alloc ?_; intro ss bb) | refine e_storep ?_ | refine c_ (fun hc => ?_) (fun hc => ?_) | refine g_ (fun hg => ?_) (fun hg => ?_))
              exact r1_
            · repeat' (first | refine W_ ?_ | (refine e_alloc ?_; intro ss bb) | refine e_storep ?_ | refine c_ (fun hc => ?_) (fun hc => ?_) | refine g_ (fun hg => ?_) (fun hg => ?_))
              exact aq_round (k + 1) ⟨by omega, hta hzn⟩ (by omega) (.of _ nw_ od_ pk_)
          · obtain rfl : k = i := by omega
            clear hlk
            by_cases hhe : pf.length ≤ fs.length ∧ fs.take pf.length = pf
            · have heq := slicesEqual_ct (G := G) lo lo (fs.take pf.length) pf (by simp; omega) hx4
              rw [decide_eq_true hhe.2] at heq
              have hsl : (strR fs).take pf.length = strR (fs.take pf.length) := by simp [strR, List.map_take]
              have hle := hhe.1
              repeat' (first | refine W_ ?_ | refine e_slh ?_ | refine e_call hG hst (heq) ?_ | refine c_ (fun hc => ?_) (fun hc => ?_) | refine g_ (fun hg => ?_) (fun hg => ?_))
              apply aw_loopk (X := Nat) [0, 3, 4, 8, 15, 16, 17, 108, 109] (fun k => [(110, .int .i64 (k : Int))]) (fun _ => [(s3, b3, .box [.str nm, .int .i64 (p : Int), .sl lo 1 (strR fs)])]) (fun k => k ≤ fs.length ∧ ∀ j, j < k → ∀ h : j < fs.length, fieldAt fs j fs[j] = true) (fun k => fs.length - k) 0 ⟨Nat.zero_le _, by omega⟩
              exact kp_; exact nw_
              · exact .refl _
              rintro q ⟨hq, hqa⟩
              try dsimp only
              by_cases hqf : q < fs.length
              · have hfr := strR_row hqf
                have hqs := hx3 _ (List.getElem_mem hqf)
                have hqb := fieldsOk_bad hqf
                have hqn : fieldAt fs q fs[q] = true → ∀ j, j < q + 1 → ∀ h : j < fs.length, fieldAt fs j fs[j] = true := fun h => below_succ hqa fun _ => h
                generalize fs[q] = f at hfr hqs hqb hqn
                have hname := implIsName_ct (G := G) f hqs
                have hhas := slicesContains_ct (G := G) hst lo (fs.take q) f (by simp; omega)
                rw [idxS_has] at hhas
                have hsq : (strR fs).take q = strR (fs.take q) := by simp [strR, List.map_take]
                have hqle : q ≤ fs.length := hq
                by_cases hqo : fieldAt fs q f = true
                · have hqo2 := hqo
                  unfold fieldAt at hqo2
                  rw [Bool.and_eq_true, Bool.not_eq_true'] at hqo2
                  rw [hqo2.1] at hname
                  rw [hqo2.2] at hhas
                  repeat' (first | refine W_ ?_ | refine e_slh ?_ | refine e_call hG hst (hname) ?_ | refine e_call hG hst (hhas) ?_ | refine c_ (fun hc => ?_) (fun hc => ?_) | refine g_ (fun hg => ?_) (fun hg => ?_))
                  exact aq_round (q + 1) ⟨by omega, hqn hqo⟩ (by omega) (.of _ nw_ od_ pk_)
                · rw [hbad fun h => hqb (Bool.eq_false_iff.2 hqo) h.2.2.2]
                  by_cases hqs1 : isNameL f.data.toList = true
                  · have hqs2 : hasS (fs.take q) f = true := by
                      unfold fieldAt at hqo
                      rw [hqs1, Bool.true_and] at hqo
                      simpa using hqo
                    rw [hqs1] at hname
                    rw [hqs2] at hhas
                    repeat' (first | refine W_ ?_ | refine e_slh ?_ | refine e_call hG hst (hname) ?_ | refine e_call hG hst (hhas) ?_ | refine c_ (fun hc => ?_) (fun hc => ?_) | refine g_ (fun hg => ?_) (fun hg => ?_))
                    exact r1_
                  · rw [Bool.eq_false_iff.2 hqs1] at hname
                    repeat' (first | refine W_ ?_ | refine e_slh ?_ | refine e_call hG hst (hname) ?_ | refine e_call hG hst (hhas) ?_ | refine c_ (fun hc => ?_) (fun hc => ?_) | refine g_ (fun hg => ?_) (fun hg => ?_))
                    exact r1_
              · obtain rfl : q = fs.length := by omega
                repeat' (first | refine W_ ?_ | refine c_ (fun hc => ?_) (fun hc => ?_) | refine g_ (fun hg => ?_) (fun hg => ?_))
                exact aq_round (k + 1) ⟨by omega, hks ⟨hh, hkn, ⟨by rw [hpf]; exact hhe.1, by rw [hpf]; exact hhe.2⟩, fun j hj => hqa j hj hj⟩⟩ (by omega) (.of _ nw_ od_ (Pick.nil _))
            · rw [hbad fun h => hhe (by have := h.2.2.1; unfold heirs at this; rw [hpf] at this; exact this)]
              by_cases hle : pf.length ≤ fs.length
              · have heq := slicesEqual_ct (G := G) lo lo (fs.take pf.length) pf (by simp; omega) hx4
                rw [decide_eq_false fun h => hhe ⟨hle, h⟩] at heq
                have hsl : (strR fs).take pf.length = strR (fs.take pf.length) := by simp [strR, List.map_take]
                repeat' (first | refine W_ ?_ | refine e_slh ?_ | refine e_call hG hst (heq) ?_ | refine c_ (fun hc => ?_) (fun hc => ?_) | refine g_ (fun hg => ?_) (fun hg => ?_))
                exact r1_
              · repeat' (first | refine W_ ?_ | refine c_ (fun hc => ?_) (fun hc => ?_) | refine g_ (fun hg => ?_) (fun hg => ?_))
                exact r1_
        · rw [decide_eq_false hh, Bool.not_false, hbad fun h => hh h.1]
          repeat' (first | refine W_ ?_ | refine c_ (fun hc => ?_) (fun hc => ?_) | refine g_ (fun hg => ?_) (fun hg => ?_))
          exact r1_
    · rw [classesOk_good hl fun j hj => hk j (by omega)]
      repeat' (first | refine W_ ?_ | refine c_ (fun hc => ?_) (fun hc => ?_) | refine g_ (fun hg => ?_) (fun hg => ?_))
      exact r1_
  · rw [inR_f (by omega)] at hwi
    rw [classesOk_len hl]
    repeat' (first | refine W_ ?_ | refine e_call hG hst (hwi) ?_ | refine c_ (fun hc => ?_) (fun hc => ?_) | refine g_ (fun hg => ?_) (fun hg => ?_))
    exact r1_
end
end Go.Proofs.YtiihihgjiklnoaaGreatDoor
/- IsVerified: the codes around each code, on the side of the program (outers). -/
namespace Go.Proofs.YtiihihgjiklnoaaGreatDoor
set_option maxRecDepth 20000
open Go Go.RowKit
section
variable {G : World → Prop}
set_option maxRecDepth 4000 in
set_option maxHeartbeats 4000000 in
theorem outers_ct (hst : Stable G) (lo : Nat) (ccl cen : TV) (cs : List TCode) (mn : Int) (hne : 1 ≤ cs.length) (hcs : cs.length ≤ 1048576 ∧ ∀ y ∈ cs, TCode.small 1048576 y) :
    Ct Tryz.prog G 137 [.agg [ccl, .sl lo 4 (cs.map (TCode.tw lo)), cen, .int .i64 mn]] (outR cs) := by
  refine ct_enter Tryz.func137 rfl Tryz.ntmps137 rfl rfl fun w0 _ hG => ?_
  have hl2 := TCode.len lo cs
  have hcl := hcs.1
  have hrep := fun lo => repeat_ct (G := G) lo cs.length hne hcl
  repeat' (first | refine H_ 2 ?_ | refine e_box ?_ | refine e_lit ?_ | ((with_reducible apply o_callM); rfl; kernel_rfl; (repeat (first | exact ArgsM.nil | ((with_reducible apply ArgsM.cons); rfl))); exact hG; exact hrep _; exact .nil _; intro y _; obtain ⟨ss, bb⟩ := y; refine al_app1 ?_) | refine c_ (fun hc => ?_) (fun hc => ?_) | refine g_ (fun hg => ?_) (fun hg => ?_))
  refine ⟨?_⟩
  generalize ss = sd; generalize bb = bd
  have hst0 : outFrom cs 0 (List.replicate cs.length (-1)) = outersL cs := rfl
  have hin0 := outInv_zero cs.length
  unfold outR
  generalize outersL cs = R at hst0
  generalize List.replicate cs.length (-1 : Int) = o0 at hst0 hin0
  repeat' (first | refine W_ ?_ | refine c_ (fun hc => ?_) (fun hc => ?_) | refine g_ (fun hg => ?_) (fun hg => ?_))
  apply aw_loopk (X := Nat × List Int) [1, 4, 17, 18] (fun x => [(19, .int .i64 (x.1 : Int))]) (fun x => [(sd, bd, .row 1 (intR x.2))]) (fun x => x.1 ≤ cs.length ∧ outInv cs.length x.2 ∧ outFrom cs x.1 x.2 = R) (fun x => cs.length - x.1) (0, o0) ⟨Nat.zero_le _, hin0, hst0⟩
  exact kp_; exact nw_
  · exact .refl _
  clear hin0 hst0
  rintro ⟨i, o⟩ ⟨hi, hin, hR⟩
  dsimp only at hi hin hR ⊢
  have hol : (intR o).length = cs.length := by rw [intR_length]; exact hin.1
  by_cases hlt : i < cs.length
  · have hra := tcode_row (lo := lo) hlt
    have hsm := hcs.2 _ (List.getElem_mem hlt)
    rw [outFrom_step hlt] at hR
    generalize cs[i] = c at hra hsm hR
    obtain ⟨cb, cp, csl, is⟩ := c
    dsimp only at hra hR
    have hil := TInstr.len lo is
    have hisl : is.length ≤ 1048576 := hsm.1
    repeat' (first | refine W_ ?_ | (refine e_alloc ?_; intro ss bb) | refine e_storep ?_ | refine c_ (fun hc => ?_) (fun hc => ?_) | refine g_ (fun hg => ?_) (fun hg => ?_))
    apply aw_loopk (X := Nat × List Int) [1, 4, 5, 17, 18, 19, 25, 26] (fun x => [(27, .int .i64 (x.1 : Int))]) (fun x => [(sd, bd, .row 1 (intR x.2))]) (fun x => x.1 ≤ is.length ∧ outInv cs.length x.2 ∧ outRest cs i (is.drop x.1) x.2 = R) (fun x => is.length - x.1) (0, o) ⟨Nat.zero_le _, hin, hR⟩
    exact kp_; exact nw_
    · exact pk_
    clear hin hR hol
    rintro ⟨k, o⟩ ⟨hk, hin, hR⟩
    dsimp only at hk hin hR ⊢
    have hol : (intR o).length = cs.length := by rw [intR_length]; exact hin.1
    by_cases hlk : k < is.length
    · have hrk := tinstr_row (lo := lo) hlk
      rw [outRest_step hlk] at hR
      generalize is[k] = x at hrk hR
      obtain ⟨op, a, b, t⟩ := x
      unfold outI at hR
      dsimp only at hrk hR
      by_cases h15 : op = 15
      · rw [if_pos h15] at hR
        have h15' : ¬ op ≠ 15 := fun h => h h15
        by_cases hin2 : 0 ≤ a ∧ a ≤ (i : Int) - 1
        · have cin := within_ct (G := G) a 0 ((i - 1 : Nat) : Int)
          rw [inR_t (by omega)] at cin
          obtain ⟨q, rfl⟩ : ∃ q : Nat, a = q := ⟨a.toNat, by omega⟩
          have hql : q < o.length := by rw [hin.1]; omega
          have hrq := intR_gd hql
          have hqc : q < cs.length := by omega
          have hrc := tcode_row (lo := lo) hqc
          have hblk := fun o' k' hp hinv => outRest_noblock (cs := cs) (i := i) (k := k') (is := is) (o := o') (a := q) hlt hinv hqc hp
          generalize cs[q] = y at hrc hblk
          obtain ⟨yb, yp, ysl, yi⟩ := y
          dsimp only at hrc hblk
          by_cases hg : 0 ≤ gd o (q : Int)
          · rw [if_neg fun h => h.2 hg] at hR
            cases yb
            all_goals
              repeat' (first | refine W_ ?_ | (refine e_alloc ?_; intro ss bb) | refine e_storep ?_ | refine e_call hG hst (cin) ?_ | refine c_ (fun hc => ?_) (fun hc => ?_) | refine g_ (fun hg => ?_) (fun hg => ?_))
              refine aq_ret2 x_ rfl (.tmp _ _ rfl) (.tmp _ _ rfl) (fun _ => ?_) (fun _ => ?_)
              · exact fin_none hR.symm
              · exact fin_none_b hR.symm
          · rw [if_pos ⟨hin2, hg⟩, Int.toNat_natCast] at hR
            dsimp only at hR
            have hset := intR_set o q (i : Int)
            have hin3 := (outI_inv (n := cs.length) (i := i) (x := ⟨15, q, b, t⟩) (o := o) (o' := o.set q (i : Int)) hlt (by unfold outI; rw [if_pos rfl, if_pos ⟨hin2, hg⟩, Int.toNat_natCast]) hin).1
            cases yb
            case false =>
              have hno := hblk (o.set q (i : Int)) (k + 1) rfl hin3 (by rw [gd_set_eq hql]; omega)
              rw [hR] at hno
              repeat' (first | refine W_ ?_ | (refine e_alloc ?_; intro ss bb) | refine e_storep ?_ | refine e_call hG hst (cin) ?_ | refine c_ (fun hc => ?_) (fun hc => ?_) | refine g_ (fun hg => ?_) (fun hg => ?_))
              refine aq_ret2 x_ rfl (.tmp _ _ rfl) (.tmp _ _ rfl) (fun _ => ?_) (fun _ => ?_)
              · exact fin_none hno
              · exact fin_none_b hno
            repeat' (first | refine W_ ?_ | (refine e_alloc ?_; intro ss bb) | refine e_storep ?_ | refine e_call hG hst (cin) ?_ | refine e_store ?_ | refine c_ (fun hc => ?_) (fun hc => ?_) | refine g_ (fun hg => ?_) (fun hg => ?_))
            rw [hset]
            refine aq_round (k + 1, o.set q (i : Int)) ⟨by dsimp only; omega, hin3, hR⟩ (by dsimp only; omega) (.of _ nw_ od_ pk_)
        · have cin := within_ct (G := G) a 0 ((i : Int) - 1)
          have cin' := within_ct (G := G) a 0 ((i - 1 : Nat) : Int)
          rw [inR_f hin2] at cin
          rw [if_neg fun h => hin2 h.1] at hR
          repeat' (first | refine W_ ?_ | (refine e_alloc ?_; intro ss bb) | refine e_storep ?_ | refine e_call hG hst (cin) ?_ | refine c_ (fun hc => ?_) (fun hc => ?_) | refine g_ (fun hg => ?_) (fun hg => ?_))
          refine aq_ret2 x_ rfl (.tmp _ _ rfl) (.tmp _ _ rfl) (fun _ => ?_) (fun _ => ?_)
          · exact fin_none hR.symm
          · exact fin_none_b hR.symm
      · rw [if_neg h15] at hR
        dsimp only at hR
        repeat' (first | refine W_ ?_ | (refine e_alloc ?_; intro ss bb) | refine e_storep ?_ | refine c_ (fun hc => ?_) (fun hc => ?_) | refine g_ (fun hg => ?_) (fun hg => ?_))
        refine aq_round (k + 1, o) ⟨by dsimp only; omega, hin, hR⟩ (by dsimp only; omega) (.of _ nw_ od_ pk_)
    · rw [outRest_end hlk] at hR
      repeat' (first | refine W_ ?_ | refine c_ (fun hc => ?_) (fun hc => ?_) | refine g_ (fun hg => ?_) (fun hg => ?_))
      refine aq_round (i + 1, o) ⟨by dsimp only; omega, hin, hR⟩ (by dsimp only; omega) (.of _ nw_ od_ pk_)
  · rw [outFrom_end hlt] at hR
    repeat' (first | refine W_ ?_ | refine c_ (fun hc => ?_) (fun hc => ?_) | refine g_ (fun hg => ?_) (fun hg => ?_))
    apply aw_loopk (X := Nat) [1, 4, 66, 67] (fun j => [(68, .int .i64 (j : Int))]) (fun _ => [(sd, bd, .row 1 (intR o))]) (fun j => j ≤ cs.length ∧ ∀ q, q < j → ∀ h : q < cs.length, cs[q].block = decide (0 ≤ gd o (q : Int))) (fun j => cs.length - j) 0 ⟨Nat.zero_le _, by omega⟩
    exact kp_; exact nw_
    · exact .refl _
    rintro j ⟨hj, hja⟩
    try dsimp only
    by_cases hlj : j < cs.length
    · have hra := tcode_row (lo := lo) hlj
      have hrj := intR_gd (o := o) (j := j) (by rw [hin.1]; exact hlj)
      have hbad := outFin_bad (o := o) hlj
      have hnx : cs[j].block = decide (0 ≤ gd o (j : Int)) → ∀ q, q < j + 1 → ∀ h : q < cs.length, cs[q].block = decide (0 ≤ gd o (q : Int)) := fun ho => below_succ hja fun _ => ho
      generalize cs[j] = c at hra hbad hnx
      obtain ⟨cb, cp, csl, is⟩ := c
      dsimp only at hra hbad hnx
      generalize gd o (j : Int) = v at hrj hbad hnx
      by_cases hb : cb = decide (0 ≤ v)
      · repeat' (first | refine V_ ?_ | (refine e_alloc ?_; intro ss bb) | refine e_storep ?_ | refine c_ (fun hc => ?_) (fun hc => ?_) | refine g_ (fun hg => ?_) (fun hg => ?_))
        all_goals first
          | exact aq_round (j + 1) ⟨by omega, hnx hb⟩ (by omega) (.of _ nw_ od_ pk_)
          | (exfalso; simp_all; done)
      · rw [hbad hb] at hR
        repeat' (first | refine V_ ?_ | (refine e_alloc ?_; intro ss bb) | refine e_storep ?_ | refine c_ (fun hc => ?_) (fun hc => ?_) | refine g_ (fun hg => ?_) (fun hg => ?_))
        all_goals first
          | (exfalso; simp_all; done)
          | (refine aq_ret2 x_ rfl (.tmp _ _ rfl) (.tmp _ _ rfl) (fun _ => ?_) (fun _ => ?_)
             · exact fin_none hR.symm
             · exact fin_none_b hR.symm)
    · rw [outFin_good fun q hq => hja q (by omega)] at hR
      repeat' (first | refine W_ ?_ | refine c_ (fun hc => ?_) (fun hc => ?_) | refine g_ (fun hg => ?_) (fun hg => ?_))
      refine aq_ret2 x_ rfl (.tmp _ _ rfl) (.tmp _ _ rfl) (fun _ => ?_) (fun _ => ?_)
      · exact fin_some hR.symm hin.1 List.mem_cons_self
      · exact fin_some_b hR.symm
end
end Go.Proofs.YtiihihgjiklnoaaGreatDoor
/- IsVerified: an instruction, on the side of the program (instrOk and its two function literals). -/
namespace Go.Proofs.YtiihihgjiklnoaaGreatDoor
set_option maxRecDepth 20000
open Go Go.RowKit
section
variable {G : World → Prop}
theorem instrOk1_ct (hst : Stable G) (lo : Nat) (n : Int) (bl : Bool) (pr sl : Int) (is : List TInstr) (hn : is.length ≤ 1048576) : Ct Tryz.prog G 220 [.int .i64 n, .cp 0 [.bool bl, .int .i64 pr, .int .i64 sl, .sl lo 4 (is.map (TInstr.tw lo))]] (fun _ => .bool (inR n 0 ((is.length : Int) - 1))) := by
  refine ct_enter Tryz.func220 rfl Tryz.ntmps220 rfl rfl fun w0 _ hG => ?_
  have hil := TInstr.len lo is
  repeat' (first | refine W_ ?_ | refine e_call hG hst (within_ct _ _ _) ?_ | refine c_ (fun hc => ?_) (fun hc => ?_) | refine g_ (fun hg => ?_) (fun hg => ?_))
  exact r1_
theorem instrOk2_ct (hst : Stable G) (n least : Int) (bl : Bool) (pr sl : Int) (t : TV) : Ct Tryz.prog G 221 [.int .i64 n, .agg [.bool bl, .int .i64 pr, .int .i64 sl, t], .int .i64 least] (fun _ => .bool (inR n least (IntKind.i64.wrap (sl - 1)))) := by
  refine ct_enter Tryz.func221 rfl Tryz.ntmps221 rfl rfl fun w0 _ hG => ?_
  repeat' (first | refine W_ ?_ | refine e_box ?_ | refine e_call hG hst (within_ct _ _ _) ?_ | refine c_ (fun hc => ?_) (fun hc => ?_) | refine g_ (fun hg => ?_) (fun hg => ?_))
  exact r1_
set_option maxRecDepth 8000 in
set_option maxHeartbeats 8000000 in
theorem instrOk_ct (hst : Stable G) (hse : ∀ s : ByteArray, s.size ≤ 1048576 → Ct Tryz.prog G 135 [.str s] (fun _ => .bool (isSelL s.data.toList)))
    (lo lo2 : Nat) (cl : List TClassInfo) (cen : TV) (cs : List TCode) (mn : Int) (hcl : cl.length ≤ 1048576) (hcs : cs.length ≤ 1048576 ∧ ∀ y ∈ cs, TCode.small 1048576 y) (o : List Int) (hinv : outInv cs.length o) (k : Nat) (own : TCode) (hk : cs[k]? = some own) (hsl : 0 ≤ own.slots ∧ own.slots ≤ 30)
    (x : TInstr) (hx : x.text.size ≤ 1048576) :
    Ct Tryz.prog G 139 [.agg [.sl lo 3 (cl.map (TClassInfo.tw lo)), .sl lo 4 (cs.map (TCode.tw lo)), cen, .int .i64 mn], .sl lo2 1 (intR o), .int .i64 (k : Int), .agg [.int .i64 x.op, .int .i64 x.a, .int .i64 x.b, .str x.text]] (fun _ => .bool (instrB cs cl.length o k own x)) := by
  obtain ⟨op, a, b, t⟩ := x
  dsimp only at hx ⊢
  refine ct_enter Tryz.func139 rfl Tryz.ntmps139 rfl rfl fun w0 _ hG => ?_
  have hl1 := TClassInfo.len lo cl
  have hl2 := TCode.len lo cs
  have hll := intR_length o
  have hkl : k < cs.length := (List.getElem?_eq_some_iff.1 hk).1
  have hrk : (cs.map (TCode.tw lo))[k]? = some [.bool own.block, .int .i64 own.params, .int .i64 own.slots, .sl lo 4 (own.instrs.map (TInstr.tw lo))] := by rw [List.getElem?_map, hk]; rfl
  have hil := TInstr.len lo own.instrs
  have hin : own.instrs.length ≤ 1048576 := (hcs.2 own (List.mem_of_getElem? hk)).1
  have hw : IntKind.i64.wrap (own.slots - 1) = own.slots - 1 := IntWalk.i64_in _ (by omega)
  repeat' (first | refine H_ 2 ?_ | refine e_box ?_ | refine e_call hG hst (writes_ct _) ?_ | refine c_ (fun hc => ?_) (fun hc => ?_) | refine g_ (fun hg => ?_) (fun hg => ?_))
  refine ⟨aw_seq ?_⟩
  apply aw_join (X := Unit) [1, 2, 4, 7] (fun _ => [(54, .bool (!decide (instrHead ⟨op, a, b, t⟩)))]) (fun _ => []) (fun _ => True)
  case hk => (repeat (first | exact Kept.nil | (apply Kept.cons; rfl)))
  · clear hrk hk hinv hse hl1 hl2 hll hin hil
    repeat' (first | refine W_ ?_ | refine e_call hG hst (within_ct _ _ _) ?_ | refine c_ (fun hc => ?_) (fun hc => ?_) | refine g_ (fun hg => ?_) (fun hg => ?_))
    all_goals
      refine aq_mid () trivial (.of _ (Weak.envCons (lk_bool rfl ?_) Weak.envNil) od_ pk_)
      simp only [Bool.not_eq_true', Bool.not_eq_false', ne_eq, Decidable.not_not] at *
      first
        | (simp [instrHead, *]; done)
  intro _ _
  by_cases hh : instrHead ⟨op, a, b, t⟩
  case neg =>
    have hB : instrB cs cl.length o k own ⟨op, a, b, t⟩ = false := by unfold instrB; rw [decide_eq_false hh]; rfl
    rw [hB, decide_eq_false hh, Bool.not_false]
    repeat' (first | refine W_ ?_ | refine c_ (fun hc => ?_) (fun hc => ?_) | refine g_ (fun hg => ?_) (fun hg => ?_))
    exact r1_
  have hB : instrB cs cl.length o k own ⟨op, a, b, t⟩ = instrTail cs cl.length o k own ⟨op, a, b, t⟩ := by unfold instrB; rw [decide_eq_true hh]; rfl
  rw [hB, decide_eq_true hh, Bool.not_true]
  have hinv' : outInv o.length o := by rw [hinv.1]; exact hinv
  have hvf : levelOf cs o k b = none → varOk cs o k ⟨op, a, b, t⟩ = false := fun h => by
    unfold varOk
    dsimp only
    rw [h]
  clear hB hk
  repeat' (first | refine H_ 24 ?_ | (refine e_alloc ?_; intro ss bb) | refine e_storep ?_ | refine e_mkf ?_ | refine e_call hG hst (within_ct _ _ _) ?_ | refine e_call hG hst (plainText_ct hst _ hx) ?_ | refine e_call hG hst (hse _ hx) ?_ | refine e_call hG hst (implIsName_ct _ hx) ?_ | ((with_reducible apply o_callF); rfl; rfl; kernel_rfl; exact hG; exact hst; (repeat (first | exact Args.nil | ((with_reducible apply Args.cons); rfl; exact .same _))); (repeat (first | exact Views.nil | ((with_reducible apply Views.cons); (first | ((with_reducible apply View.mpSame); (repeat (first | with_reducible exact mh | with_reducible refine mt ?_))) | exact View.same _)))); rfl; first | exact instrOk1_ct hst lo _ _ _ _ _ hin | exact instrOk2_ct hst _ _ _ _ _ _) | refine c_ (fun hc => ?_) (fun hc => ?_) | refine g_ (fun hg => ?_) (fun hg => ?_))
  all_goals first
    | (refine aq_ret1 x_ rfl (.tmp _ _ rfl) (fun _ => ?_)
       clear hrk hl1 hl2 hll hil hcs hse hh hinv
       refine fin_bool ?_
       first
         | (simp [instrTail, *]; done))
    | (refine ⟨?_⟩
       generalize ss = s12; generalize bb = b12
       repeat' (first | refine W_ ?_ | refine c_ (fun hc => ?_) (fun hc => ?_) | refine g_ (fun hg => ?_) (fun hg => ?_))
       apply aw_loopk (X := Nat) [1, 4, 7, 12, 14, 62] (fun n => [(15, .int .i64 (upN o n (k : Int))), (16, .int .i64 (n : Int))]) (fun _ => [(s12, b12, .box [.bool own.block, .int .i64 own.params, .int .i64 own.slots, .sl lo 4 (own.instrs.map (TInstr.tw lo))])]) (fun n => n ≤ b.toNat) (fun n => b.toNat - n) 0 (Nat.zero_le _)
       exact kp_; exact nw_
       · exact .refl _
       intro n hn
       try dsimp only at hn ⊢
       have hol : o.length = cs.length := hinv.1
       have hup := upN_in hinv' n (k : Int) (.inr ⟨by omega, by omega⟩)
       by_cases hnb : (n : Int) < b
       · by_cases hat : 0 ≤ upN o n (k : Int)
         · obtain ⟨j, hj⟩ : ∃ j : Nat, upN o n (k : Int) = j := ⟨(upN o n (k : Int)).toNat, by omega⟩
           have hs := upN_succ o n (k : Int)
           rw [if_neg (by omega), hj] at hs
           have hge := upN_ge hinv' (k := (k : Int)) ⟨by omega, by omega⟩ n hat
           rw [hj] at hup hge
           have hcl2 := hcs.1
           have hrow := intR_gd (o := o) (j := j) (by omega)
           rw [hj]
           repeat' (first | refine W_ ?_ | refine c_ (fun hc => ?_) (fun hc => ?_) | refine g_ (fun hg => ?_) (fun hg => ?_))
           exact aq_round (n + 1) (by omega) (by omega) (.of _ nw_ od_ pk_)
         · have hv := hvf (level_off (n := n) (by omega) (by omega))
           repeat' (first | refine W_ ?_ | refine c_ (fun hc => ?_) (fun hc => ?_) | refine g_ (fun hg => ?_) (fun hg => ?_))
           refine aq_ret1 x_ rfl (.tmp _ _ rfl) (fun _ => ?_)
           refine fin_bool ?_
           clear hrk hl1 hl2 hll hil hcs hse hh hinv hvf
           subst_vars
           simp [instrTail, hv]
       · by_cases hb0 : b < 0
         · have hv := hvf (level_neg hb0)
           repeat' (first | refine W_ ?_ | refine c_ (fun hc => ?_) (fun hc => ?_) | refine g_ (fun hg => ?_) (fun hg => ?_))
           all_goals
             refine aq_ret1 x_ rfl (.tmp _ _ rfl) (fun _ => ?_)
             refine fin_bool ?_
             clear hrk hl1 hl2 hll hil hcs hse hh hinv hvf
             subst_vars
             simp [instrTail, hv]
         · obtain rfl : b = (n : Int) := by omega
           by_cases hat : 0 ≤ upN o n (k : Int)
           · obtain ⟨j, hj⟩ : ∃ j : Nat, upN o n (k : Int) = j := ⟨(upN o n (k : Int)).toNat, by omega⟩
             rw [hj] at hup
             have hjl : j < cs.length := by omega
             have hry := tcode_row (lo := lo) hjl
             have hlev : levelOf cs o k (n : Int) = some cs[j] := level_on (by omega) (by rw [Int.toNat_natCast]; exact hj) (List.getElem?_eq_getElem hjl)
             generalize cs[j] = y at hry hlev
             rw [hj]
             repeat' (first | refine V_ ?_ | ((with_reducible apply d_callF); rfl; rfl; kernel_rfl; exact hG; exact hst; (repeat (first | exact Args.nil | ((with_reducible apply Args.cons); rfl; exact .same _))); (repeat (first | exact Views.nil | ((with_reducible apply Views.cons); (first | ((with_reducible apply View.mpSame); (repeat (first | with_reducible exact mh | with_reducible refine mt ?_))) | exact View.same _)))); rfl; exact instrOk2_ct hst _ _ _ _ _ _) | refine c_ (fun hc => ?_) (fun hc => ?_) | refine g_ (fun hg => ?_) (fun hg => ?_))
             all_goals first
               | (refine aq_ret1 x_ rfl (.tmp _ _ rfl) (fun _ => ?_)
                  refine fin_bool ?_
                  clear hrk hl1 hl2 hll hil hcs hse hh hinv hvf
                  subst_vars
                  simp [instrTail, varOk, hlev]; done)
           · have hv := hvf (level_off (n := n) (by omega) (by omega))
             repeat' (first | refine W_ ?_ | refine c_ (fun hc => ?_) (fun hc => ?_) | refine g_ (fun hg => ?_) (fun hg => ?_))
             refine aq_ret1 x_ rfl (.tmp _ _ rfl) (fun _ => ?_)
             refine fin_bool ?_
             clear hrk hl1 hl2 hll hil hcs hse hh hinv hvf
             subst_vars
             simp [instrTail, hv])
end
end Go.Proofs.YtiihihgjiklnoaaGreatDoor
