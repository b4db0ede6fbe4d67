/- Part 35 of the proof: the texts IvM, IvO, IvG. -/
import Derived.Test.YtiihihgjiklnoaaGreatDoorPart17
import Derived.Test.YtiihihgjiklnoaaGreatDoorPart34
import Derived.Test.YtiihihgjiklnoaaGreatDoorPart16
import Derived.Test.YtiihihgjiklnoaaGreatDoorPart32
import Derived.Test.YtiihihgjiklnoaaGreatDoorPart15
/- IsVerified: an instruction, on the side of the reference (l16Instr). -/
namespace Go.Proofs.YtiihihgjiklnoaaGreatDoor
set_option maxRecDepth 20000
open Go Go.RowKit
section
variable {G : World → Prop}
set_option maxRecDepth 8000 in
set_option maxHeartbeats 8000000 in
theorem l16Instr_ct (hst : Stable G) (hse : ∀ s : ByteArray, s.size ≤ 1048576 → Ct Tryz.prog G 203 [.str s] (fun _ => .bool (isSelL s.data.toList)))
    (f lo lo2 : Nat) (cl : List TClassInfo) (cen : TV) (cs : List TCode) (mn : Int) (hcl : cl.length ≤ 1048576) (hcs : cs.length ≤ 1048576 ∧ ∀ y ∈ cs, TCode.small 1048576 y) (o : List Int) (hinv : outInv cs.length o) (k : Nat) (own : TCode) (hk : cs[k]? = some own) (hsl : 0 ≤ own.slots ∧ own.slots ≤ 30)
    (L : List Int) (hL : L = (climb o cs.length k).reverse) (x : TInstr) (hx : x.text.size ≤ 1048576) (hbf : blockFits cs k x) :
    Ct Tryz.prog G 205 [.cp f [.sl lo 3 (cl.map (TClassInfo.tw lo)), .sl lo 4 (cs.map (TCode.tw lo)), cen, .int .i64 mn], .int .i64 (k : Int), .agg [.int .i64 x.op, .int .i64 x.a, .int .i64 x.b, .str x.text], .sl lo2 1 (intR L)] (fun _ => .bool (instrB cs cl.length o k own x)) := by
  obtain ⟨op, a, b, t⟩ := x
  dsimp only at hx ⊢
  refine ct_enter Tryz.func205 rfl Tryz.ntmps205 rfl rfl fun w0 _ hG => ?_
  have hl1 := TClassInfo.len lo cl
  have hl2 := TCode.len lo cs
  have hll := intR_length L
  have hLn : L.length ≤ 1048576 := by rw [hL, List.length_reverse]; exact Nat.le_trans (climb_len _ _ _) hcs.1
  have hkl : k < cs.length := (List.getElem?_eq_some_iff.1 hk).1
  have hrk : (cs.map (TCode.tw lo))[k]? = some [.bool own.block, .int .i64 own.params, .int .i64 own.slots, .sl lo 4 (own.instrs.map (TInstr.tw lo))] := by rw [List.getElem?_map, hk]; rfl
  have hil := TInstr.len lo own.instrs
  have hin : own.instrs.length ≤ 1048576 := (hcs.2 own (List.mem_of_getElem? hk)).1
  repeat' (first | refine H_ 3 ?_ | refine e_box ?_ | (refine e_alloc ?_; intro ss bb) | refine e_storep ?_ | refine e_call hG hst (l14Uses_ct _) ?_ | refine c_ (fun hc => ?_) (fun hc => ?_) | refine g_ (fun hg => ?_) (fun hg => ?_))
  refine ⟨aw_seq ?_⟩
  generalize ss = s9; generalize bb = b9
  apply aw_join (X := Unit) [0, 1, 3, 6, 9] (fun _ => [(60, .bool (!decide (instrHead ⟨op, a, b, t⟩)))]) (fun _ => [(s9, b9, .box [.bool own.block, .int .i64 own.params, .int .i64 own.slots, .sl lo 4 (own.instrs.map (TInstr.tw lo))])]) (fun _ => True)
  case hk => (repeat (first | exact Kept.nil | (apply Kept.cons; rfl)))
  · clear hrk hk hL hbf hinv hse hl1 hl2 hll hLn hin hil
    repeat' (first | refine W_ ?_ | refine e_call hG hst (l1In_ct _ _ _) ?_ | refine c_ (fun hc => ?_) (fun hc => ?_) | refine g_ (fun hg => ?_) (fun hg => ?_))
    all_goals
      refine aq_mid () trivial (.of _ (Weak.envCons (lk_bool rfl ?_) Weak.envNil) od_ pk_)
      simp only [Bool.not_eq_true', Bool.not_eq_false', ne_eq, Decidable.not_not] at *
      first
        | (simp [instrHead, *]; done)
  intro _ _
  by_cases hh : instrHead ⟨op, a, b, t⟩
  case neg =>
    have hB : instrB cs cl.length o k own ⟨op, a, b, t⟩ = false := by unfold instrB; rw [decide_eq_false hh]; rfl
    rw [hB, decide_eq_false hh, Bool.not_false]
    repeat' (first | refine W_ ?_ | refine c_ (fun hc => ?_) (fun hc => ?_) | refine g_ (fun hg => ?_) (fun hg => ?_))
    exact r1_
  have hB : instrB cs cl.length o k own ⟨op, a, b, t⟩ = instrTail cs cl.length o k own ⟨op, a, b, t⟩ := by unfold instrB; rw [decide_eq_true hh]; rfl
  rw [hB, decide_eq_true hh, Bool.not_true]
  have hlabt : (!inR b 0 ((L.length : Int) - 1)) = false → (0 ≤ b ∧ b ≤ (L.length : Int) - 1) ∧ ∃ (q v : Nat) (y : TCode), (L.length : Int) - 1 - b = q ∧ (intR L)[q]? = some [.int .i64 (v : Int)] ∧ cs[v]? = some y ∧ levelOf cs o k b = some y := fun h => by
    have h2 : 0 ≤ b ∧ b ≤ (L.length : Int) - 1 := by simpa [inR] using h
    exact ⟨h2, level_list hinv hkl hL h2⟩
  have hlabf : (!inR b 0 ((L.length : Int) - 1)) = true → varOk cs o k ⟨op, a, b, t⟩ = false := fun h => by
    have h2 : ¬ (0 ≤ b ∧ b ≤ (L.length : Int) - 1) := by
      intro h3
      rw [inR_t h3] at h; cases h
    unfold varOk
    dsimp only
    rw [level_list_off hinv hkl hL h2]
  unfold blockFits at hbf
  dsimp only at hbf
  clear hB hinv hL hk
  repeat' (first | ((with_reducible apply o_y); exact y_; rfl) | with_reducible refine aw_draw (by kernel_rfl) (by kernel_rfl) ?_ | with_reducible refine dr_nil ?_ | with_reducible refine dr_nil2 ?_ | with_reducible refine dr_none rfl ?_ | refine dr_run rfl rfl rfl rr_ ?_ | refine dr_skip rfl rfl rfl rr_ rfl rfl rfl ?_ | refine dr_skip2 rfl rfl rfl rr_ rfl rfl ?_ | (refine dr_gt rfl rfl rfl rr_ dd_ ?_) | (refine dr_gf rfl rfl rfl rr_ dd_ ?_) | (refine dr_gsplit rfl rfl rfl rr_ (fun hg => ?_) (fun hg => ?_)) | (refine dr_gsplit_b rfl rfl rfl rr_ (fun hg => ?_) (fun hg => ?_)) | ((with_reducible apply d_y); exact y_; rfl) | refine e_call hG hst (l1In_ct _ _ _) ?_ | refine e_call hG hst (l3IsText_ct _ hx) ?_ | refine e_call hG hst (hse _ hx) ?_ | refine e_call hG hst (specIsName_ct hst _ hx) ?_ | refine e_calld hG hst (l1In_ct _ _ _) ?_ | refine e_calld hG hst (hse _ hx) ?_ | with_reducible refine aw_hold_r (id := 18) ?_ | with_reducible refine aw_hold_r (id := 31) ?_  | with_reducible refine al_none rfl ?_ | (with_reducible first | apply aw_seq | apply aw_region | apply al_nil | apply aq_then | apply aw_block | apply aw_exit | apply aw_skip | apply aw_ret | apply aq_block_hit | apply (aq_block_miss rfl) | apply aq_then_exit | apply aq_then_ret | apply aq_block_ret | apply aq_block) | refine al_run rfl rfl rfl rr_ ?_ | refine al_skip rfl rfl rfl rr_ rfl rfl rfl ?_ | refine al_skip2 rfl rfl rfl rr_ rfl rfl ?_ | (refine al_gt rfl rfl rfl rr_ dd_ ?_) | (refine al_gf rfl rfl rfl rr_ dd_ ?_) | (refine al_gsplit rfl rfl rfl rr_ (fun hg => ?_) (fun hg => ?_)) | (refine al_gsplit_b rfl rfl rfl rr_ (fun hg => ?_) (fun hg => ?_)) | refine aw_cond_t rfl rr_ ?_ | refine aw_cond_f rfl rr_ ?_ | (refine aw_cond_dt rfl rr_ dd_ ?_) | (refine aw_cond_df rfl rr_ dd_ ?_) | (refine aw_cond rfl rr_ (fun hc => ?_) (fun hc => ?_)) | (refine aw_cond_b rfl rr_ (fun hc => ?_) (fun hc => ?_)))
  all_goals first
    | (refine aq_ret1 x_ rfl (.tmp _ _ rfl) (fun _ => ?_)
       clear hlabt hrk hbf hl1 hl2 hll hil hcs hse hh
       refine fin_bool ?_
       first
         | (simp [instrTail, *]; done)
         | (have hv := hlabf (by assumption)
            clear hlabf
            subst_vars
            simp [instrTail, hv]; done))
    | (refine ⟨?_⟩
       have h15 : op = 15 := by assumption
       obtain ⟨ha, y, hy, hyb⟩ := hbf h15
       obtain ⟨c, rfl⟩ : ∃ c : Nat, a = c := ⟨a.toNat, by omega⟩
       rw [Int.toNat_natCast] at hy
       have hry : (cs.map (TCode.tw lo))[c]? = some [.bool true, .int .i64 y.params, .int .i64 y.slots, .sl lo 4 (y.instrs.map (TInstr.tw lo))] := by rw [List.getElem?_map, hy, ← hyb]; rfl
       have cin := l1In_ct (G := G) (c : Int) 0 ((k - 1 : Nat) : Int)
       rw [inR_t (by omega)] at cin
       repeat' (first | refine V_ ?_ | refine e_calld hG hst (cin) ?_ | refine c_ (fun hc => ?_) (fun hc => ?_) | refine g_ (fun hg => ?_) (fun hg => ?_))
       refine aq_ret1 x_ rfl (.tmp _ _ rfl) (fun _ => ?_)
       refine fin_bool ?_
       simp [instrTail, h15]; done)
    | (refine ⟨?_⟩
       obtain ⟨hb, q, v, y, hq, hrow, hy, hlev⟩ := hlabt (by assumption)
       obtain ⟨c, rfl⟩ : ∃ c : Nat, b = c := ⟨b.toNat, by omega⟩
       obtain rfl : q = L.length - 1 - c := by omega
       have hry : (cs.map (TCode.tw lo))[v]? = some [.bool y.block, .int .i64 y.params, .int .i64 y.slots, .sl lo 4 (y.instrs.map (TInstr.tw lo))] := by rw [List.getElem?_map, hy]; rfl
       clear hlabt hlabf hbf hq
       repeat' (first | refine W_ ?_ | ((with_reducible apply aw_draw3 (id := 18) 15); kernel_rfl; kernel_rfl; kernel_rfl; (repeat (first | exact Cut.zero _ | apply Cut.succ)); rfl; rfl; rfl; rfl; rfl; kernel_rfl; rfl) | ((with_reducible apply u_y); exact yu_; rfl) | (with_reducible refine du_nil ?_; intro ss bb) | (refine e_alloc ?_; intro ss bb) | refine e_storep ?_ | refine e_call hG hst (l1In_ct _ _ _) ?_ | refine c_ (fun hc => ?_) (fun hc => ?_) | refine g_ (fun hg => ?_) (fun hg => ?_))
       all_goals first
         | (refine aq_ret1 x_ rfl (.tmp _ _ rfl) (fun _ => ?_)
            refine fin_bool ?_
            clear hrk hl1 hl2 hll hil hcs hse hh
            subst_vars
            simp [instrTail, varOk, hlev]; done))
end
end Go.Proofs.YtiihihgjiklnoaaGreatDoor
/- IsVerified: a code, on the side of the reference (l16Code). -/
namespace Go.Proofs.YtiihihgjiklnoaaGreatDoor
set_option maxRecDepth 20000
open Go Go.RowKit
/-- The codes around a code, as far as i of them, the innermost last. -/
def chainL (o : List Int) (n k i : Nat) : List Int := ((climb o n (k : Int)).take i).reverse
theorem chainL_len (o : List Int) (n k i : Nat) : (chainL o n k i).length ≤ n := by
  have := climb_len o n (k : Int)
  simp [chainL]; omega
theorem chainL_step {o : List Int} {n k i : Nat} {v : Int} (h : (climb o n (k : Int))[i]? = some v) : v :: chainL o n k i = chainL o n k (i + 1) := by
  unfold chainL
  rw [List.take_add_one, h]; simp
theorem chainL_end {o : List Int} {n k i : Nat} (h : (climb o n (k : Int))[i]? = none) : chainL o n k i = (climb o n (k : Int)).reverse := by
  unfold chainL
  rw [List.take_of_length_le (List.getElem?_eq_none_iff.1 h)]
set_option maxRecDepth 8000 in
set_option maxHeartbeats 8000000 in
theorem l16Code_ct (f lo lo2 : Nat) (cl : List TClassInfo) (cen : TV) (cs : List TCode) (mn : Int) (hcl : cl.length ≤ 1048576) (hcs : cs.length ≤ 1048576 ∧ ∀ y ∈ cs, TCode.small 1048576 y) (o : List Int) (hinv : outInv cs.length o) (k : Nat) (own : TCode) (hk : cs[k]? = some own)
    (hbf : ∀ x ∈ own.instrs, blockFits cs k x) :
    Ct Tryz.prog GL 128 [.cp f [.sl lo 3 (cl.map (TClassInfo.tw lo)), .sl lo 4 (cs.map (TCode.tw lo)), cen, .int .i64 mn], .int .i64 (k : Int), .sl lo2 1 (intR o)] (fun _ => .bool (codeB cs cl.length o k own)) := by
  refine ct_enter Tryz.func128 rfl Tryz.ntmps128 rfl rfl fun w0 _ hG => ?_
  have hst := GL_st
  have hkl : k < cs.length := (List.getElem?_eq_some_iff.1 hk).1
  have hsm := hcs.2 own (List.mem_of_getElem? hk)
  have hiq := fun L hL x hx hb hsl => l16Instr_ct hst hseS f lo w0.heap.size cl cen cs mn hcl hcs o hinv k own hk hsl L hL x hx hb
  have hpre := instrs_pre (cs := cs) (nc := cl.length) (o := o) (k := k) (own := own)
  have hcF := codeB_f (cs := cs) (nc := cl.length) (o := o) (k := k) (x := own)
  have hcT := codeB_t (cs := cs) (nc := cl.length) (o := o) (k := k) (x := own)
  unfold codeOk codeHead at hcF hcT
  have hrk : (cs.map (TCode.tw lo))[k]? = some [.bool own.block, .int .i64 own.params, .int .i64 own.slots, .sl lo 4 (own.instrs.map (TInstr.tw lo))] := by rw [List.getElem?_map, hk]; rfl
  clear hk
  have hgen : ∀ x ∈ own.instrs, instrB cs cl.length o k own x = true → True := fun _ _ _ => trivial
  clear hgen
  have hB : ∃ B : TInstr → Bool, B = instrB cs cl.length o k own := ⟨_, rfl⟩
  obtain ⟨B, hB⟩ := hB
  rw [← hB] at hcF hcT hpre
  have hiq2 : ∀ (L : List Int), L = (climb o cs.length (k : Int)).reverse → ∀ x : TInstr, x.text.size ≤ 1048576 → blockFits cs k x → 0 ≤ own.slots ∧ own.slots ≤ 30 → Ct Tryz.prog GL 205 [.cp f [.sl lo 3 (cl.map (TClassInfo.tw lo)), .sl lo 4 (cs.map (TCode.tw lo)), cen, .int .i64 mn], .int .i64 (k : Int), .agg [.int .i64 x.op, .int .i64 x.a, .int .i64 x.b, .str x.text], .sl w0.heap.size 1 (intR L)] (fun _ => .bool (B x)) := fun L hL x hx hb hsl => by rw [hB]; exact hiq L hL x hx hb hsl
  clear hiq
  have hcB : codeB cs cl.length o k own = codeB cs cl.length o k own := rfl
  generalize hC : codeB cs cl.length o k own = C at hcF hcT ⊢
  clear hB hcB hC
  obtain ⟨bl, pr, sl, is⟩ := own
  dsimp only at hbf hsm hiq2 hpre hcF hcT hrk
  have hn : is.length ≤ 1048576 := hsm.1
  have ht : ∀ i ∈ is, i.text.size ≤ 1048576 := hsm.2
  have hil := TInstr.len lo is
  have c1 := l1In_ct (G := GL) sl 0 30
  have c2 := l1In_ct (G := GL) pr 0 sl
  by_cases h1 : inR sl 0 30 = true
  case neg =>
    rw [hcF fun h => h1 h.1.1]
    rw [Bool.eq_false_iff.2 h1] at c1
    repeat' (first | refine V_ ?_ | refine e_calld hG hst (c1) ?_ | refine c_ (fun hc => ?_) (fun hc => ?_) | refine g_ (fun hg => ?_) (fun hg => ?_))
    exact r1_
  by_cases h2 : inR pr 0 sl = true
  case neg =>
    rw [hcF fun h => h2 h.1.2.1]
    rw [h1] at c1
    rw [Bool.eq_false_iff.2 h2] at c2
    repeat' (first | refine V_ ?_ | refine e_calld hG hst (c1) ?_ | refine e_calld hG hst (c2) ?_ | refine c_ (fun hc => ?_) (fun hc => ?_) | refine g_ (fun hg => ?_) (fun hg => ?_))
    exact r1_
  rw [h1] at c1
  rw [h2] at c2
  by_cases h3 : is.length ≤ 900
  case neg =>
    rw [hcF fun h => h3 h.1.2.2]
    repeat' (first | refine V_ ?_ | refine e_calld hG hst (c1) ?_ | refine e_calld hG hst (c2) ?_ | refine c_ (fun hc => ?_) (fun hc => ?_) | refine g_ (fun hg => ?_) (fun hg => ?_))
    exact r1_
  have hsl := of_decide_eq_true h1
  repeat' (first | refine V_ ?_ | refine e_lit ?_ | refine e_calld hG hst (c1) ?_ | refine e_calld hG hst (c2) ?_ | refine c_ (fun hc => ?_) (fun hc => ?_) | refine g_ (fun hg => ?_) (fun hg => ?_))
  have hinv' : outInv o.length o := by rw [hinv.1]; exact hinv
  have hol : o.length = cs.length := hinv.1
  have hcl2 := hcs.1
  apply aw_loopk (X := Nat) [0, 1, 2, 7] (fun i => [(8, .sl w0.heap.size 1 (intR (chainL o cs.length k i))), (9, .int .i64 (upN o i (k : Int)))]) (fun _ => []) (fun i => i ≤ cs.length) (fun i => cs.length - i) 0 (Nat.zero_le _)
  exact kp_; exact nw_
  · exact .refl _
  intro i hi
  try dsimp only at hi ⊢
  have hup := upN_in hinv' i (k : Int) (.inr ⟨by omega, by omega⟩)
  have hcu := climb_up hinv' cs.length (k : Int) i (.inr ⟨by omega, by omega, by omega⟩)
  have hLl := chainL_len o cs.length k i
  have hLr := intR_length (chainL o cs.length k i)
  by_cases hat : 0 ≤ upN o i (k : Int)
  · obtain ⟨j, hj⟩ : ∃ j : Nat, upN o i (k : Int) = j := ⟨(upN o i (k : Int)).toNat, by omega⟩
    have hs := upN_succ o i (k : Int)
    rw [if_neg (by omega), hj] at hs
    rw [if_pos hat, hj] at hcu
    rw [hj] at hup
    have hin : i < cs.length := Nat.lt_of_lt_of_le (List.getElem?_eq_some_iff.1 hcu).1 (climb_len _ _ _)
    have hrow := intR_gd (o := o) (j := j) (by omega)
    have hstep := chainL_step hcu
    generalize chainL o cs.length k i = L at hLl hLr hstep ⊢
    have hnew : [[TV.int .i64 (j : Int)]] ++ intR L = intR (chainL o cs.length k (i + 1)) := by rw [← hstep]; rfl
    rw [hj]
    repeat' (first | refine W_ ?_ | (refine e_own ?_; intro ss bb) | (refine e_app ?_; intro bb) | refine c_ (fun hc => ?_) (fun hc => ?_) | refine g_ (fun hg => ?_) (fun hg => ?_))
    refine aq_freeze (t := 8) rfl ?_ (.head _) ?_
    · simp [hLr]; omega
    rw [hnew]
    exact aq_round (i + 1) (by omega) (by omega) (.of _ nw_ od_ pk_)
  · rw [if_neg hat] at hcu
    have hend := chainL_end hcu
    rw [hend] at hLl hLr ⊢
    clear hend hcu
    have hins := hiq2 _ rfl
    clear hiq2
    generalize (climb o cs.length (k : Int)).reverse = L at hLl hLr hins ⊢
    repeat' (first | refine W_ ?_ | refine c_ (fun hc => ?_) (fun hc => ?_) | refine g_ (fun hg => ?_) (fun hg => ?_))
    apply aw_loopk (X := Nat) [0, 1, 7, 8] (fun q => [(10, .int .i64 (q : Int))]) (fun _ => []) (fun q => q ≤ is.length ∧ ∀ j, j < q → ∀ h : j < is.length, B is[j] = true) (fun q => is.length - q) 0 ⟨Nat.zero_le _, by omega⟩
    exact kp_; exact nw_
    · exact .refl _
    rintro q ⟨hq, hqa⟩
    try dsimp only
    by_cases hlt : q < is.length
    · have hra := tinstr_row (lo := lo) hlt
      have hmem : is[q] ∈ is := List.getElem_mem hlt
      have hxq := ht _ hmem
      have hct := hins is[q] hxq (hbf _ hmem) hsl
      have hnx : B is[q] = true → ∀ j, j < q + 1 → ∀ h : j < is.length, B is[j] = true := fun h => below_succ hqa fun _ => h
      have hbad : B is[q] = false → C = false := fun h => hcF fun k => by
        have := k.2.1 _ hmem
        rw [h] at this; cases this
      generalize is[q] = x at hra hct hnx hbad
      cases hBx : B x
      · rw [hBx] at hct
        rw [hbad hBx]
        repeat' (first | refine W_ ?_ | refine e_call hG hst (hct) ?_ | refine c_ (fun hc => ?_) (fun hc => ?_) | refine g_ (fun hg => ?_) (fun hg => ?_))
        exact r1_
      · rw [hBx] at hct
        repeat' (first | refine W_ ?_ | refine e_call hG hst (hct) ?_ | refine c_ (fun hc => ?_) (fun hc => ?_) | refine g_ (fun hg => ?_) (fun hg => ?_))
        exact aq_round (q + 1) ⟨by omega, hnx hBx⟩ (by omega) (.of _ nw_ od_ pk_)
    · have hall : ∀ y ∈ is, B y = true := fun y hy => by
        obtain ⟨j, hj, rfl⟩ := List.getElem_of_mem hy
        exact hqa j (by omega) hj
      have hp := hpre hall
      have hdep := l16Depths_ct hst hcaS lo lo bl pr sl is hn ht hp
      have hnew := dO_new (depthsS is)
      have hCe : C = (depthsS is).isSome := by
        rw [← depthsL_eq is hp]
        cases hd : (depthsL is).isSome
        · exact hcF fun h => by rw [hd] at h; exact absurd h.2.2 (by simp)
        · exact hcT ⟨⟨h1, h2, h3⟩, hall, hd⟩
      rw [hCe]
      rw [instrs_tw lo] at hdep
      unfold dR dO at hdep hnew
      generalize (depthsS is).getD [] = ds at hdep hnew
      generalize (depthsS is).isSome = ok at hdep hnew ⊢
      repeat' (first | refine W_ ?_ | ((with_reducible apply o_callOV); rfl; kernel_rfl; exact hG; exact hst; exact hdep; ((repeat (first | exact Args.nil | ((with_reducible apply Args.cons); rfl; (first | with_reducible exact View.same _ | ((with_reducible apply View.msAll); (repeat (first | with_reducible exact mh | with_reducible refine mt ?_)); (first | with_reducible assumption | exact bytR_length _ | exact intR_length _ | exact strR_length _ | exact List.length_map _ | assumption | rfl)) | ((with_reducible apply view_code); (repeat (first | with_reducible exact mh | with_reducible refine mt ?_)); (first | with_reducible assumption | exact bytR_length _ | exact intR_length _ | exact strR_length _ | exact List.length_map _ | assumption | rfl)) | ((with_reducible apply View.cut); exact View.cp0 _ _; rfl)))))); exact hnew; rintro ⟨ss, bb⟩ -; refine al_app1 ?_) | refine c_ (fun hc => ?_) (fun hc => ?_) | refine g_ (fun hg => ?_) (fun hg => ?_))
      exact r1_
end Go.Proofs.YtiihihgjiklnoaaGreatDoor
/- IsVerified: the classes, on the side of the reference (l8IsClasses). -/
namespace Go.Proofs.YtiihihgjiklnoaaGreatDoor
set_option maxRecDepth 20000
open Go Go.RowKit
section
variable {G : World → Prop}
set_option maxRecDepth 4000 in
set_option maxHeartbeats 4000000 in
theorem l8IsClasses_ct (hst : Stable G) (lo : Nat) (l : List TClassInfo) (hsm : l.length ≤ 1048576 ∧ ∀ y ∈ l, TClassInfo.small 1048576 y) : Ct Tryz.prog G 125 [.sl lo 3 (l.map (TClassInfo.tw lo))] (fun _ => .bool (classesOkB l)) := by
  refine ct_enter Tryz.func125 rfl Tryz.ntmps125 rfl rfl fun w0 _ hG => ?_
  have hlen := TClassInfo.len lo l
  have hbl := TClassInfo.len w0.heap.size builtinL
  rw [builtin_len] at hbl
  have hl1 := hsm.1
  by_cases hl : 16 ≤ l.length ∧ l.length ≤ 24
  · repeat' (first | refine W_ ?_ | (refine e_alloc ?_; intro ss bb) | refine e_build ?_ | refine e_storep ?_ | ((with_reducible apply o_callV); rfl; kernel_rfl; exact hG; exact hst; exact l8Infos_ct hst [.str ⟨#[]⟩, .bool false, .nils, .nils, .nils]; (apply Args.cons; rfl; exact View.mpSame List.mem_cons_self); exact Args.nil) | refine c_ (fun hc => ?_) (fun hc => ?_) | refine g_ (fun hg => ?_) (fun hg => ?_))
    apply aw_loopk (X := Nat) [0, 4] (fun i => [(5, .int .i64 (i : Int))]) (fun _ => []) (fun i => i ≤ l.length ∧ ∀ j, j < i → ∀ h : j < l.length, classOk l j l[j]) (fun i => l.length - i) 0 ⟨Nat.zero_le _, by simp⟩
    exact kp_; exact nw_
    · exact .nil _
    rintro i ⟨hi, hk⟩
    try dsimp only
    by_cases hlt : i < l.length
    · have hra : (l.map (TClassInfo.tw lo))[i]? = some (l[i].tw lo) := row_map hlt
      have hbi := hsm.2 _ (List.getElem_mem hlt)
      have hbad := classesOk_bad hlt
      have hks : classOk l i l[i] → ∀ j, j < i + 1 → ∀ h : j < l.length, classOk l j l[j] := fun ho => below_succ hk fun _ => ho
      generalize l[i] = x at hra hbi hbad hks
      rw [show x.tw lo = [.str x.name, .int .i64 x.parent, .sl lo 1 (strR x.fields)] from rfl] at hra
      by_cases hlow : i < 16
      · obtain ⟨bi, hb, _, _, h3, _⟩ := builtin_at hlow
        have hrb : (builtinL.map (TClassInfo.tw w0.heap.size))[i]? = some [.str bi.name, .int .i64 bi.parent, .sl w0.heap.size 1 (strR bi.fields)] := by rw [List.getElem?_map, hb]; rfl
        rw [classOk_low hlow hb] at hbad hks
        have hbf : bi.fields.length ≤ 1048576 := by rw [← h3]; unfold bfields; split <;> simp
        have heq := l3Texts_ct (G := G) lo w0.heap.size x.fields bi.fields hbi.2.1 hbf
        clear h3
        by_cases ho : x.name = bi.name ∧ x.parent = bi.parent ∧ x.fields = bi.fields
        · have n1 : ¬ x.name ≠ bi.name := fun h => h ho.1
          have n2 : ¬ x.parent ≠ bi.parent := fun h => h ho.2.1
          rw [decide_eq_true ho.2.2] at heq
          repeat' (first | refine V_ ?_ | (refine e_alloc ?_; intro ss bb) | refine e_storep ?_ | refine e_calld hG hst (heq) ?_ | refine c_ (fun hc => ?_) (fun hc => ?_) | refine g_ (fun hg => ?_) (fun hg => ?_))
          exact aq_round (i + 1) ⟨by omega, hks ho⟩ (by omega) (.of _ nw_ od_ (Pick.nil _))
        · rw [hbad ho]
          clear hks hbad
          by_cases hfe : x.fields = bi.fields
          · rw [decide_eq_true hfe] at heq
            repeat' (first | refine V_ ?_ | (refine e_alloc ?_; intro ss bb) | refine e_storep ?_ | refine e_calld hG hst (heq) ?_ | refine c_ (fun hc => ?_) (fun hc => ?_) | refine g_ (fun hg => ?_) (fun hg => ?_))
            all_goals first
              | (exfalso; exact ho ⟨Decidable.of_not_not (by assumption), Decidable.of_not_not (by assumption), hfe⟩)
              | (exact r1_)
          · rw [decide_eq_false hfe] at heq
            repeat' (first | refine V_ ?_ | (refine e_alloc ?_; intro ss bb) | refine e_storep ?_ | refine e_calld hG hst (heq) ?_ | refine c_ (fun hc => ?_) (fun hc => ?_) | refine g_ (fun hg => ?_) (fun hg => ?_))
            all_goals
              exact r1_
      · rw [classOk_high hlow] at hbad hks
        obtain ⟨nm, par, fs⟩ := x
        dsimp only at hra hbi hbad hks
        have hx1 : nm.size ≤ 1048576 := hbi.1
        have hx2 : fs.length ≤ 1048576 := hbi.2.1
        have hx3 : ∀ y ∈ fs, ByteArray.size y ≤ 1048576 := hbi.2.2
        have hfl := strR_len fs
        clear hbl
        repeat' (first | refine H_ 12 ?_ | (refine e_alloc ?_; intro ss bb) | refine e_storep ?_ | refine c_ (fun hc => ?_) (fun hc => ?_) | refine g_ (fun hg => ?_) (fun hg => ?_))
        refine ⟨aw_seq ?_⟩
        generalize ss = s3; generalize bb = b3
        apply aw_join (X := Unit) [0, 4, 5, 6] (fun _ => [(88, .bool (!decide (classHead l i ⟨nm, par, fs⟩)))]) (fun _ => [(s3, b3, .box [.str nm, .int .i64 par, .sl lo 1 (strR fs)])]) (fun _ => True)
        case hk => (repeat (first | exact Kept.nil | (apply Kept.cons; rfl)))
        · repeat' (first | refine W_ ?_ | refine e_call hG hst (specIsName_ct hst _ hx1) ?_ | refine e_call hG hst (l1In_ct _ _ _) ?_ | refine c_ (fun hc => ?_) (fun hc => ?_) | refine g_ (fun hg => ?_) (fun hg => ?_))
          all_goals
            refine aq_mid () trivial (.of _ (Weak.envCons (lk_bool rfl ?_) Weak.envNil) od_ pk_)
            clear hbad hks hk hra hbi
            simp only [Bool.not_eq_true', Bool.not_eq_false', inR, decide_eq_true_eq, decide_eq_false_iff_not] at *
            by_cases h8 : (8 : Int) < (fs.length : Int)
            all_goals (try simp only [h8, decide_true, decide_false])
            all_goals first
              | (have : classHead l i ⟨nm, par, fs⟩ := ⟨by assumption, by dsimp only; omega, by dsimp only; omega, by dsimp only; omega⟩
                 simp only [decide_eq_true this, Bool.not_true]
                 done)
              | (have : ¬ classHead l i ⟨nm, par, fs⟩ := fun h => by
                   obtain ⟨h1, h2, h3, h4⟩ := h
                   dsimp only at h1 h2 h3 h4
                   first
                     | omega
                     | (simp only [h1] at *; done)
                     | (simp_all; done)
                 simp only [decide_eq_false this, Bool.not_false]
                 done)
        intro _ _
        by_cases hh : classHead l i ⟨nm, par, fs⟩
        · rw [decide_eq_true hh, Bool.not_true]
          have hh2 := hh.2
          obtain ⟨⟨hp0, hp1⟩, _, hf8⟩ := hh2
          dsimp only at hp0 hp1 hf8
          obtain ⟨p, rfl⟩ : ∃ p : Nat, par = p := ⟨par.toNat, by omega⟩
          have hpl : p < l.length := by omega
          have hrp : (l.map (TClassInfo.tw lo))[p]? = some (l[p].tw lo) := row_map hpl
          have hbp := hsm.2 _ (List.getElem_mem hpl)
          have hpf := parentFields_eq (x := ⟨nm, (p : Int), fs⟩) rfl (List.getElem?_eq_getElem hpl)
          generalize l[p] = y at hrp hbp hpf
          obtain ⟨pn, pp, pf⟩ := y
          replace hrp : (l.map (TClassInfo.tw lo))[p]? = some [.str pn, .int .i64 pp, .sl lo 1 (strR pf)] := hrp
          have hx4 : pf.length ≤ 1048576 := hbp.2.1
          have hpl2 := strR_len pf
          repeat' (first | refine W_ ?_ | refine c_ (fun hc => ?_) (fun hc => ?_) | refine g_ (fun hg => ?_) (fun hg => ?_))
          apply aw_loopk (X := Nat) [0, 4, 5, 6] (fun k => [(7, .int .i64 (k : Int))]) (fun _ => [(s3, b3, .box [.str nm, .int .i64 (p : Int), .sl lo 1 (strR fs)])]) (fun k => k ≤ i ∧ ∀ y ∈ l.take k, y.name ≠ nm) (fun k => i - k) 0 ⟨Nat.zero_le _, by simp⟩
          exact kp_; exact nw_
          · exact .refl _
          rintro k ⟨hki, hkn⟩
          try dsimp only
          by_cases hlk : k < i
          · have hlk2 : k < l.length := by omega
            have hrk : (l.map (TClassInfo.tw lo))[k]? = some (l[k].tw lo) := row_map hlk2
            have hta := take_all (p := fun y : TClassInfo => y.name ≠ nm) hlk2 hkn
            have hmem : l[k] ∈ l.take i := List.mem_take_iff_getElem.2 ⟨k, by omega, rfl⟩
            generalize l[k] = z at hrk hta hmem
            obtain ⟨zn, zp, zf⟩ := z
            replace hrk : (l.map (TClassInfo.tw lo))[k]? = some [.str zn, .int .i64 zp, .sl lo 1 (strR zf)] := hrk
            by_cases hzn : zn = nm
            · rw [hbad fun h => h.2.1 _ hmem hzn]
              repeat' (first | refine V_ ?_ | refine c_ (fun hc => ?_) (fun hc => ?_) | refine g_ (fun hg => ?_) (fun hg => ?_))
              exact r1_
            · repeat' (first | refine V_ ?_ | refine c_ (fun hc => ?_) (fun hc => ?_) | refine g_ (fun hg => ?_) (fun hg => ?_))
              exact aq_round (k + 1) ⟨by omega, hta hzn⟩ (by omega) (.of _ nw_ od_ pk_)
          · obtain rfl : k = i := by omega
            clear hlk
            by_cases hhe : pf.length ≤ fs.length ∧ fs.take pf.length = pf
            · have heq := l3Texts_ct (G := G) lo lo (fs.take pf.length) pf (by simp; omega) hx4
              rw [decide_eq_true hhe.2] at heq
              have hsl : (strR fs).take pf.length = strR (fs.take pf.length) := by simp [strR, List.map_take]
              have hle := hhe.1
              repeat' (first | refine V_ ?_ | refine e_slhd ?_ | refine e_calld hG hst (heq) ?_ | refine c_ (fun hc => ?_) (fun hc => ?_) | refine g_ (fun hg => ?_) (fun hg => ?_))
              apply aw_loopk (X := Nat) [0, 4, 5, 6] (fun k => [(9, .int .i64 (k : Int))]) (fun _ => [(s3, b3, .box [.str nm, .int .i64 (p : Int), .sl lo 1 (strR fs)])]) (fun k => k ≤ fs.length ∧ ∀ j, j < k → ∀ h : j < fs.length, fieldAt fs j fs[j] = true) (fun k => fs.length - k) 0 ⟨Nat.zero_le _, by omega⟩
              exact kp_; exact nw_
              · exact .refl _
              rintro q ⟨hq, hqa⟩
              try dsimp only
              by_cases hqf : q < fs.length
              · have hfr := strR_row hqf
                have hqs := hx3 _ (List.getElem_mem hqf)
                have hqb := fieldsOk_bad hqf
                have hqn : fieldAt fs q fs[q] = true → ∀ j, j < q + 1 → ∀ h : j < fs.length, fieldAt fs j fs[j] = true := fun h => below_succ hqa fun _ => h
                generalize fs[q] = f at hfr hqs hqb hqn
                have hname := specIsName_ct (G := G) hst f hqs
                have hhas := l1Has_ct (G := G) lo (fs.take q) f (by simp; omega)
                have hsq : (strR fs).take q = strR (fs.take q) := by simp [strR, List.map_take]
                have hqle : q ≤ fs.length := hq
                by_cases hqo : fieldAt fs q f = true
                · have hqo2 := hqo
                  unfold fieldAt at hqo2
                  rw [Bool.and_eq_true, Bool.not_eq_true'] at hqo2
                  rw [hqo2.1] at hname
                  rw [hqo2.2] at hhas
                  repeat' (first | refine V_ ?_ | refine e_slhd ?_ | refine e_calld hG hst (hname) ?_ | refine e_calld hG hst (hhas) ?_ | refine c_ (fun hc => ?_) (fun hc => ?_) | refine g_ (fun hg => ?_) (fun hg => ?_))
                  exact aq_round (q + 1) ⟨by omega, hqn hqo⟩ (by omega) (.of _ nw_ od_ pk_)
                · rw [hbad fun h => hqb (Bool.eq_false_iff.2 hqo) h.2.2.2]
                  by_cases hqs1 : isNameL f.data.toList = true
                  · have hqs2 : hasS (fs.take q) f = true := by
                      unfold fieldAt at hqo
                      rw [hqs1, Bool.true_and] at hqo
                      simpa using hqo
                    rw [hqs1] at hname
                    rw [hqs2] at hhas
                    repeat' (first | refine V_ ?_ | refine e_slhd ?_ | refine e_calld hG hst (hname) ?_ | refine e_calld hG hst (hhas) ?_ | refine c_ (fun hc => ?_) (fun hc => ?_) | refine g_ (fun hg => ?_) (fun hg => ?_))
                    exact r1_
                  · rw [Bool.eq_false_iff.2 hqs1] at hname
                    repeat' (first | refine V_ ?_ | refine e_slhd ?_ | refine e_calld hG hst (hname) ?_ | refine e_calld hG hst (hhas) ?_ | refine c_ (fun hc => ?_) (fun hc => ?_) | refine g_ (fun hg => ?_) (fun hg => ?_))
                    exact r1_
              · obtain rfl : q = fs.length := by omega
                repeat' (first | refine W_ ?_ | refine c_ (fun hc => ?_) (fun hc => ?_) | refine g_ (fun hg => ?_) (fun hg => ?_))
                exact aq_round (k + 1) ⟨by omega, hks ⟨hh, hkn, ⟨by rw [hpf]; exact hhe.1, by rw [hpf]; exact hhe.2⟩, fun j hj => hqa j hj hj⟩⟩ (by omega) (.of _ nw_ od_ (Pick.nil _))
            · rw [hbad fun h => hhe (by have := h.2.2.1; unfold heirs at this; rw [hpf] at this; exact this)]
              by_cases hle : pf.length ≤ fs.length
              · have heq := l3Texts_ct (G := G) lo lo (fs.take pf.length) pf (by simp; omega) hx4
                rw [decide_eq_false fun h => hhe ⟨hle, h⟩] at heq
                have hsl : (strR fs).take pf.length = strR (fs.take pf.length) := by simp [strR, List.map_take]
                repeat' (first | refine V_ ?_ | refine e_slhd ?_ | refine e_calld hG hst (heq) ?_ | refine c_ (fun hc => ?_) (fun hc => ?_) | refine g_ (fun hg => ?_) (fun hg => ?_))
                exact r1_
              · repeat' (first | refine V_ ?_ | refine c_ (fun hc => ?_) (fun hc => ?_) | refine g_ (fun hg => ?_) (fun hg => ?_))
                exact r1_
        · rw [decide_eq_false hh, Bool.not_false, hbad fun h => hh h.1]
          repeat' (first | refine W_ ?_ | refine c_ (fun hc => ?_) (fun hc => ?_) | refine g_ (fun hg => ?_) (fun hg => ?_))
          exact r1_
    · rw [classesOk_good hl fun j hj => hk j (by omega)]
      repeat' (first | refine W_ ?_ | refine c_ (fun hc => ?_) (fun hc => ?_) | refine g_ (fun hg => ?_) (fun hg => ?_))
      exact r1_
  · rw [classesOk_len hl]
    repeat' (first | refine W_ ?_ | refine c_ (fun hc => ?_) (fun hc => ?_) | refine g_ (fun hg => ?_) (fun hg => ?_))
    all_goals first
      | (exfalso; omega)
      | (exact r1_)
end
end Go.Proofs.YtiihihgjiklnoaaGreatDoor
