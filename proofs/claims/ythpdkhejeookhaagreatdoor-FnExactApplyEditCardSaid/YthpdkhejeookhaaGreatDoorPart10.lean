/- Part 10 of the proof: the texts EdA, EdB0, EdB, EdB3, EdB4, IvM, IvO, IvG. -/
import Derived.Test.YthpdkhejeookhaaGreatDoorPart6
import Derived.Test.YthpdkhejeookhaaGreatDoorPart9
import Derived.Test.YthpdkhejeookhaaGreatDoorPart5
import Derived.Test.YthpdkhejeookhaaGreatDoorPart8
/- EditsOf of the reference: the labels, and whether an edit fits. -/
namespace Go.Proofs.YthpdkhejeookhaaGreatDoor
set_option maxRecDepth 20000
open Go Go.RowKit
theorem flow_inv (is : List TInstr) (hp : preOk is = true) : ∀ (f : Nat) (ds : List Int) (q : List Nat) (r : List Int), DSt is.length ds q f → flow is (stepI is) f ds q = some r → r.length = is.length ∧ InvD r
  | _, ds, [], r, h, e => by simp [flow] at e; subst e; exact ⟨h.len, h.inv⟩
  | 0, _, _ :: _, r, _, e => by simp [flow] at e
  | f + 1, ds, p :: q, r, h, e => by
    obtain ⟨j, hj, hst, hpl, hg⟩ := h.pop
    obtain rfl : f = j := by omega
    rw [flow_cons _ _ _ _ _ hpl] at e
    have hpi : preOkI is.length is[p] = true := List.all_eq_true.1 hp _ (List.getElem_mem _)
    cases hs : stepI is is[p] p ds with
    | none => rw [hs] at e; cases e
    | some s =>
      rw [hs] at e
      have hsel : is[p].op = 14 → 0 ≤ is[p].eff.1 := fun h14 => by
        simp only [preOkI, Bool.and_eq_true] at hpi
        have := hpi.1.2
        simp [h14] at this
        simp [TInstr.eff, h14]; exact this
      unfold stepI at hs
      by_cases ht : gd ds p < is[p].eff.1
      · rw [if_pos ht] at hs; cases hs
      · rw [if_neg ht] at hs
        by_cases hA : (is[p].labs.any (backI is p is[p].op)) = true
        · rw [if_pos hA] at hs; cases hs
        · rw [if_neg hA] at hs
          have hst' := pushI_st _ ds q [] s (nexts_nonneg _ p _ hg ht hsel) (by rw [List.append_nil]; exact hst) hs
          exact flow_inv is hp f s.1 (q ++ s.2) r hst' e
theorem depthsL_inv {is : List TInstr} {r : List Int} (h : depthsL is = some r) : r.length = is.length ∧ InvD r := by
  unfold depthsL at h
  split at h
  · cases h
  · split at h
    · rename_i h0 hp
      exact flow_inv is hp _ _ _ _ (start_st (by omega)) h
    · cases h
theorem fin_bools {B : Nat} {objs : Objs} {K s b n : Nat} {l : List Bool} (hn : l.length = n) (hm : (s, b, TObj.row 1 (boolR l)) ∈ objs) : Fin B objs K (.ms s b 0 n) (.sl K 1 (boolR l)) := by
  subst hn
  exact fin_ms (f := fun b : Bool => [TV.bool b]) (f' := fun b : Bool => [TV.bool b]) (fun x => .cons (.flat rfl) .nil) hm
theorem inR_b {n a b : Int} (h : inR n a b = true) : a ≤ n ∧ n ≤ b := by simpa [inR] using h
theorem labV_1 (a b : Int) : labV a b 1 = a := rfl
theorem labV_2 (a b : Int) : labV a b 2 = b := rfl
theorem labOff_20 : labOff 20 = [1] := rfl
theorem labOff_21 {op : Int} (h : op = 21 ∨ op = 22) : labOff op = [1, 2] := by
  unfold labOff
  rw [if_neg (by omega), if_pos h]
theorem labOff_24 {op : Int} (h : op = 24 ∨ op = 25 ∨ op = 26) : labOff op = [2] := by
  unfold labOff
  rw [if_neg (by omega), if_neg (by omega), if_pos h]
theorem labOff_no {op : Int} (h : ¬ op = 20) (h1 : ¬ op = 21) (h2 : ¬ op = 22) (h3 : ¬ op = 24) (h4 : ¬ op = 25) (h5 : ¬ op = 26) : labOff op = [] := by
  unfold labOff
  rw [if_neg h, if_neg (by omega), if_neg (by omega)]
section
variable {G : World → Prop}
set_option maxHeartbeats 1000000 in
theorem l27Labels_ct (f lo : Nat) (bl : Bool) (pr sl : Int) (is : List TInstr) (hn : is.length ≤ 1048576) (hp : preOk is = true) : Ct Tryz.prog G 132 [.cp f [.bool bl, .int .i64 pr, .int .i64 sl, .sl lo 4 (is.map (TInstr.tw lo))]] (fun K => .sl K 1 (boolR (labelsL is))) := by
  refine ct_enter Tryz.func132 rfl Tryz.ntmps132 rfl rfl fun w0 _ hG => ?_
  have hil := TInstr.len lo is
  have hbr : List.replicate (is.length + 1) [TV.bool false] = boolR (labP is 0) := by simp [boolR, labP]
  repeat' (first | ((with_reducible apply o_y); exact y_; rfl) | (refine e_make ?_; intro ss bb) | with_reducible refine al_none rfl ?_ | (with_reducible first | apply aw_seq | apply aw_region | apply al_nil | apply aq_then | apply aw_block))
  refine aw_pick (objs' := (ss, bb, .row 1 (List.replicate (is.length + 1) [TV.bool false])) :: []) pk_ ?_
  rw [hbr]
  apply aw_loopk (X := Nat) [0, 3] (fun i => [(4, .int .i64 (i : Int))]) (fun i => [(ss, bb, .row 1 (boolR (labP is i)))]) (fun i => i ≤ is.length) (fun i => is.length - i) 0 (Nat.zero_le _)
  exact kp_; (repeat (first | exact Weak.envNil | refine Weak.envCons we_ ?_))
  · exact .refl _
  intro i hi
  have hll := labP_len is i
  have hbl := boolR_len (labP is i)
  by_cases hlt : i < is.length
  · have hri := tinstr_row (lo := lo) hlt
    have hla := lab_in hp (List.getElem_mem hlt)
    have hsn := labP_snoc hlt
    have hset := fun k => boolR_set (labP is i) k true
    have hset2 := fun l k => boolR_set l k true
    generalize is[i] = x at hri hla hsn
    obtain ⟨op, a, b, t⟩ := x
    dsimp only at hri hla hsn
    unfold labS at hsn
    dsimp only at hsn
    by_cases h20 : op = 20
    · rw [h20, labOff_20] at hla hsn
      have hra := inR_b (List.all_eq_true.1 hla 1 (by simp))
      rw [labV_1] at hra
      obtain ⟨an, rfl⟩ : ∃ an : Nat, a = an := ⟨a.toNat, by omega⟩
      have hs2 : labP is (i + 1) = (labP is i).set an true := by rw [hsn]; rfl
      repeat' (first | ((with_reducible apply o_y); exact y_; rfl) | (refine e_alloc ?_; intro ss bb) | refine e_storep ?_ | refine e_store ?_ | with_reducible refine al_none rfl ?_ | (with_reducible first | apply aw_seq | apply aw_region | apply al_nil | apply aq_then | apply aw_block | apply aw_skip | apply aq_block) | (refine aw_cond_dt rfl rr_ dd_ ?_))
      rw [hset, ← hs2]
      exact aq_round (i + 1) (by omega) (by omega) (.of _ nw_ od_ pk_)
    by_cases h21 : op = 21 ∨ op = 22
    · rw [labOff_21 h21] at hla hsn
      have hra := inR_b (List.all_eq_true.1 hla 1 (by simp))
      have hrb := inR_b (List.all_eq_true.1 hla 2 (by simp))
      rw [labV_1] at hra
      rw [labV_2] at hrb
      obtain ⟨an, rfl⟩ : ∃ an : Nat, a = an := ⟨a.toNat, by omega⟩
      obtain ⟨bn, rfl⟩ : ∃ bn : Nat, b = bn := ⟨b.toNat, by omega⟩
      have hs2 : labP is (i + 1) = ((labP is i).set an true).set bn true := by rw [hsn]; rfl
      have hl2 : ((boolR (labP is i)).set an [TV.bool true]).length = is.length + 1 := by rw [List.length_set, hbl, hll]
      have hr2 : ((boolR (labP is i)).set an [TV.bool true])[bn]? = some [.bool (gb ((labP is i).set an true) bn)] := by rw [hset]; exact boolR_get (by rw [List.length_set]; omega)
      rcases h21 with h21 | h21
      all_goals
        repeat' (first | ((with_reducible apply o_y); exact y_; rfl) | (refine e_alloc ?_; intro ss bb) | refine e_storep ?_ | refine e_store ?_ | with_reducible refine al_none rfl ?_ | (with_reducible first | apply aw_seq | apply aw_region | apply al_nil | apply aq_then | apply aw_block | apply aw_skip | apply aq_block) | (refine aw_cond_dt rfl rr_ dd_ ?_) | (refine aw_cond_df rfl rr_ dd_ ?_))
        rw [hset, hset2, ← hs2]
        exact aq_round (i + 1) (by omega) (by omega) (.of _ nw_ od_ pk_)
    by_cases h24 : op = 24 ∨ op = 25 ∨ op = 26
    · rw [labOff_24 h24] at hla hsn
      have hrb := inR_b (List.all_eq_true.1 hla 2 (by simp))
      rw [labV_2] at hrb
      obtain ⟨bn, rfl⟩ : ∃ bn : Nat, b = bn := ⟨b.toNat, by omega⟩
      have hs2 : labP is (i + 1) = (labP is i).set bn true := by rw [hsn]; rfl
      rcases h24 with h24 | h24 | h24
      all_goals
        repeat' (first | ((with_reducible apply o_y); exact y_; rfl) | (refine e_alloc ?_; intro ss bb) | refine e_storep ?_ | refine e_store ?_ | with_reducible refine al_none rfl ?_ | (with_reducible first | apply aw_seq | apply aw_region | apply al_nil | apply aq_then | apply aw_block | apply aw_skip | apply aq_block) | (refine aw_cond_dt rfl rr_ dd_ ?_) | (refine aw_cond_df rfl rr_ dd_ ?_))
        rw [hset, ← hs2]
        exact aq_round (i + 1) (by omega) (by omega) (.of _ nw_ od_ pk_)
    · rw [labOff_no h20 (by omega) (by omega) (by omega) (by omega) (by omega)] at hsn
      have hs2 : labP is (i + 1) = labP is i := hsn
      have e1 : ¬ op = 21 := by omega
      have e2 : ¬ op = 22 := by omega
      have e3 : ¬ op = 24 := by omega
      have e4 : ¬ op = 25 := by omega
      have e5 : ¬ op = 26 := by omega
      repeat' (first | ((with_reducible apply o_y); exact y_; rfl) | (refine e_alloc ?_; intro ss bb) | refine e_storep ?_ | with_reducible refine al_none rfl ?_ | (with_reducible first | apply aw_seq | apply aw_region | apply al_nil | apply aq_then | apply aw_block | apply aw_skip | apply aq_block) | (refine aw_cond_dt rfl rr_ dd_ ?_) | (refine aw_cond_df rfl rr_ dd_ ?_))
      rw [← hs2]
      exact aq_round (i + 1) (by omega) (by omega) (.of _ nw_ od_ pk_)
  · obtain rfl : i = is.length := by omega
    repeat' (first | ((with_reducible apply o_y); exact y_; rfl) | with_reducible refine al_none rfl ?_ | (with_reducible first | apply aw_seq | apply aw_region | apply al_nil | apply aq_then | apply aw_exit | apply aw_ret | apply aq_block_hit | apply aq_then_exit) | (refine aw_cond_df rfl rr_ dd_ ?_))
    refine aq_ret1 x_ rfl (.tmp _ _ rfl) (fun _ => ?_)
    exact fin_bools hll List.mem_cons_self
theorem l27Pure_ct (hst : Stable G) (op : Int) : Ct Tryz.prog G 133 [.int .i64 op] (fun _ => .bool (decide (pureOp op))) := by
  refine ct_enter Tryz.func133 rfl Tryz.ntmps133 rfl rfl fun w0 _ hG => ?_
  repeat' (first | ((with_reducible apply o_y); exact y_; rfl) | refine e_call hG hst (l1In_ct _ _ _) ?_ | with_reducible refine al_none rfl ?_ | (with_reducible first | apply aw_seq | apply aw_region | apply al_nil | apply aq_then | apply aw_ret) | refine al_run rfl rfl rfl rr_ ?_ | refine al_skip rfl rfl rfl rr_ rfl rfl rfl ?_ | (refine al_gsplit rfl rfl rfl rr_ (fun hg => ?_) (fun hg => ?_)) | (refine al_gsplit_b rfl rfl rfl rr_ (fun hg => ?_) (fun hg => ?_)))
  all_goals
    refine aq_ret1 x_ rfl (.tmp _ _ rfl) (fun _ => ?_)
    refine fin_bool ?_
    first
      | (simp_all [pureOp, inR]; done)
      | (simp_all [pureOp, inR]; omega)
end
end Go.Proofs.YthpdkhejeookhaaGreatDoor
/- EditsOf of the reference: whether an edit fits. -/
namespace Go.Proofs.YthpdkhejeookhaaGreatDoor
open Go Go.RowKit
def fitsZ (is : List TInstr) (at_ kind : Int) : Bool := if 0 ≤ at_ ∧ at_ ≤ (is.length : Int) - 1 then fitsB is (labelsL is) ((depthsL is).getD []) at_.toNat (insAt is at_.toNat) kind.toNat else false
theorem fitsZ_in {is : List TInstr} {n : Nat} (h : n < is.length) (kind : Int) : fitsZ is n kind = fitsB is (labelsL is) ((depthsL is).getD []) n (insAt is n) kind.toNat := by
  unfold fitsZ
  rw [if_pos (by omega), Int.toNat_natCast]
theorem fitsB_no {is : List TInstr} {lab : List Bool} {ds : List Int} {n : Nat} {i : TInstr} {k : Int} (h1 : ¬ k = 1) (h2 : ¬ k = 2) (h3 : ¬ k = 3) (h4 : ¬ k = 4) (h5 : ¬ k = 5) : fitsB is lab ds n i k.toNat = false := by
  unfold fitsB
  rw [if_neg (by omega), if_neg (by omega), if_neg (by omega), if_neg (by omega), if_neg (by omega)]
end Go.Proofs.YthpdkhejeookhaaGreatDoor
/- EditsOf of the reference: whether an edit fits: kinds 1, 2, 5 and what is no kind. Written by gen_ed.py. -/
namespace Go.Proofs.YthpdkhejeookhaaGreatDoor
set_option maxRecDepth 20000
open Go Go.RowKit
set_option maxRecDepth 8000 in
set_option maxHeartbeats 8000000 in
theorem l27FitsA_ct (f lo : Nat) (bl : Bool) (pr sl : Int) (is : List TInstr) (hok : CodeOk is) (hts : ∀ i ∈ is, i.text.size ≤ 1048576) (code at_ kind : Int) (hkk : kind = 1 ∨ kind = 2 ∨ kind = 5 ∨ (¬ kind = 1 ∧ ¬ kind = 2 ∧ ¬ kind = 3 ∧ ¬ kind = 4 ∧ ¬ kind = 5)) (hatm : -9223372036854775808 ≤ at_ ∧ at_ ≤ 9223372036854775807) :
    Ct Tryz.prog GL 55 [.cp f [.bool bl, .int .i64 pr, .int .i64 sl, .sl lo 4 (is.map (TInstr.tw lo))], .agg [.int .i64 code, .int .i64 at_, .int .i64 kind]] (fun _ => .bool (fitsZ is at_ kind)) := by
  refine ct_enter Tryz.func55 rfl Tryz.ntmps55 rfl rfl fun w0 _ hG => ?_
  have hst := GL_st
  have hn := hok.len
  have hil := TInstr.len lo is
  have hlab := l27Labels_ct (G := GL) f lo bl pr sl is (by omega) hok.pre
  have hin := l1In_ct (G := GL) at_ 0 ((is.length : Int) - 1)
  by_cases hat : 0 ≤ at_ ∧ at_ ≤ (is.length : Int) - 1
  case neg =>
    have hz : fitsZ is at_ kind = false := if_neg hat
    rw [hz]
    rw [show inR at_ 0 ((is.length : Int) - 1) = false by simpa [inR] using hat] at hin
    clear hlab
    repeat' (first | ((with_reducible apply o_y); exact y_; rfl) | refine e_box ?_ | with_reducible refine aw_draw (by kernel_rfl) (by kernel_rfl) ?_ | with_reducible refine dr_nil ?_ | with_reducible refine dr_none rfl ?_ | ((with_reducible apply d_y); exact y_; rfl) | refine e_calld hG hst (hin) ?_ | with_reducible refine al_none rfl ?_ | (with_reducible first | apply aw_seq | apply aw_region | apply al_nil | apply aq_then | apply aw_ret | apply aq_then_ret) | refine aw_cond_t rfl rr_ ?_)
    refine aq_ret1 x_ rfl (.tmp _ _ rfl) (fun _ => ?_)
    exact Fin.flat rfl
  rw [inR_t hat] at hin
  obtain ⟨n, rfl⟩ : ∃ n : Nat, at_ = n := ⟨at_.toNat, by omega⟩
  have hlt : n < is.length := by omega
  rw [show (is.length : Int) - 1 = ((is.length - 1 : Nat) : Int) by omega] at hin
  have hl1 : labelsL is = labP is is.length := rfl
  have hll : (labelsL is).length = is.length + 1 := by rw [hl1]; exact labP_len _ _
  have hbl := boolR_len (labelsL is)
  have hrow0 := tinstr_row (lo := lo) hlt
  have hi0 := insAt_get hlt
  rw [fitsZ_in hlt, hi0]
  have hro := fun k (h : k < is.length) => tinstr_row (lo := lo) h
  have hio := fun k (h : k < is.length) => insAt_get h
  have hlr := fun k (h : k < is.length + 1) => boolR_get (l := labelsL is) (k := k) (by omega)
  have hla := lab_in hok.pre (List.getElem_mem hlt)
  have htx := hok.txt
  clear hi0
  generalize hx : is[n] = x at hrow0 hla ⊢
  obtain ⟨op, a, b, t⟩ := x
  dsimp only at hrow0 hla
  repeat' (first | ((with_reducible apply o_y); exact y_; rfl) | refine e_box ?_ | ((with_reducible apply aw_draw3 (id := 4) 8); kernel_rfl; kernel_rfl; kernel_rfl; (repeat (first | exact Cut.zero _ | apply Cut.succ)); rfl; rfl; rfl; rfl; rfl; kernel_rfl; rfl) | with_reducible refine aw_hold_r (id := 6) ?_ | with_reducible refine aw_draw (by kernel_rfl) (by kernel_rfl) ?_ | with_reducible refine dr_nil ?_ | with_reducible refine dr_none rfl ?_ | ((with_reducible apply d_y); exact y_; rfl) | ((with_reducible apply u_y); exact yu_; rfl) | (with_reducible refine du_nil ?_; intro ss bb) | refine e_calld hG hst (hin) ?_ | refine e_call hG hst (hlab) ?_ | (refine e_alloc ?_; intro ss bb) | refine e_storep ?_ | refine e_build ?_ | with_reducible refine al_none rfl ?_ | (with_reducible first | apply aw_seq | apply aw_region | apply al_nil | apply aq_then | apply aw_skip) | refine aw_cond_f rfl rr_ ?_)
  refine ⟨?_⟩
  generalize ss = s7; generalize bb = b7
  rename_i s6 b6
  have hl1' : n + 1 < is.length + 1 := by omega
  have hlr1 := hlr (n + 1) hl1'
  have hpc := l27Pure_ct (G := GL) hst op
  have hF1 : ∀ lab ds x, fitsB is lab ds n x (1 : Int).toNat = decide (pureOp x.op ∧ opFr is lab (n + 1) = 16) := fun _ _ _ => rfl
  have hF2 : ∀ lab ds x, fitsB is lab ds n x (2 : Int).toNat = decide (x.op = 20 ∧ x.a = (n : Int) + 1) := fun _ _ _ => rfl
  have hF3 : ∀ lab ds x, fitsB is lab ds n x (3 : Int).toNat = decide (x.op = 9 ∧ opFr is lab (n + 1) = 16 ∧ opFr is lab (n + 2) = 8 ∧ (insAt is (n + 2)).a = x.a ∧ (insAt is (n + 2)).b = x.b) := fun _ _ _ => rfl
  have hF4 : ∀ lab ds x, fitsB is lab ds n x (4 : Int).toNat = decide (x.op = 20 ∧ x.a ≠ n ∧ (insAt is x.a.toNat).op = 20 ∧ (insAt is x.a.toNat).a ≠ x.a) := fun _ _ _ => rfl
  have hF5 : ∀ lab ds x, fitsB is lab ds n x (5 : Int).toNat = decide (gd ds n = -1 ∧ x.op ≠ 15 ∧ 1 < is.length) := fun _ _ _ => rfl
  have hF0 : ¬ kind = 1 → ¬ kind = 2 → ¬ kind = 3 → ¬ kind = 4 → ¬ kind = 5 → fitsB is (labelsL is) ((depthsL is).getD []) n ⟨op, a, b, t⟩ kind.toNat = false := fun h1 h2 h3 h4 h5 => fitsB_no h1 h2 h3 h4 h5
  obtain ⟨ds, hds⟩ := Option.isSome_iff_exists.1 hok.dep
  obtain ⟨hdl, hdi⟩ := depthsL_inv hds
  have hdg := hdi.gd n
  have hdep := l16Depths_ct hst hcaS f lo bl pr sl is (by omega) hts hok.pre
  have hnew := dO_new (depthsS is)
  rw [← depthsL_eq is hok.pre, hds, instrs_tw lo] at hdep
  rw [← depthsL_eq is hok.pre, hds] at hnew
  rw [hds] at hF0 ⊢
  unfold dR dO at hdep hnew
  dsimp only [Option.getD_some, Option.isSome_some] at hdep hnew hF0 ⊢
  have hrd : (intR ds)[n]? = some [.int .i64 (gd ds n)] := by rw [gd_get (by omega)]; exact intR_get (by omega)
  have hid := intR_length ds
  replace hF5 := hF5 (labelsL is) ds
  generalize gd ds n = g at hrd hdg hF5
  by_cases hn1 : n + 1 < is.length
  · have hrow1 := hro (n + 1) hn1
    have hio1 := hio (n + 1) hn1
    have hlr2 := hlr (n + 2) (by omega)
    have hi2 : 1 < is.length := by omega
    generalize hx1 : is[n + 1] = x1 at hrow1 hio1
    obtain ⟨o1, a1, b1, t1⟩ := x1
    dsimp only at hrow1
    have hof : opFr is (labelsL is) (n + 1) = if gb (labelsL is) ((n + 1 : Nat) : Int) = false then o1 else 0 := by
      unfold opFr
      by_cases hg : gb (labelsL is) ((n + 1 : Nat) : Int) = false
      · rw [if_pos ⟨hn1, hg⟩, if_pos hg, hio1]
      · rw [if_neg (fun h => hg h.2), if_neg hg]
    have hof2 : opFr is (labelsL is) (n + 2) = if n + 2 < is.length ∧ gb (labelsL is) ((n + 2 : Nat) : Int) = false then (insAt is (n + 2)).op else 0 := rfl
    generalize gb (labelsL is) ((n + 1 : Nat) : Int) = g1 at hlr1 hof
    generalize gb (labelsL is) ((n + 2 : Nat) : Int) = g2 at hlr2 hof2
    rcases hkk with h | h | h | ⟨k1, k2, k3, k4, k5⟩
    · subst h
      rw [hF1, hof]
      clear hF1 hF2 hF3 hF4 hF5 hF0 hdep hnew hof hof2
      by_cases hpu : pureOp op
      · rw [decide_eq_true hpu] at hpc
        cases g1
        all_goals
          repeat' (first | ((with_reducible apply o_y); exact y_; rfl) | ((with_reducible apply aw_draw2 (id := 7) 9; kernel_rfl; kernel_rfl; kernel_rfl; (repeat (first | exact Cut.zero _ | apply Cut.succ)))) | with_reducible refine aw_draw (by kernel_rfl) (by kernel_rfl) ?_ | with_reducible refine dr_nil ?_ | with_reducible refine dr_nil2 ?_ | with_reducible refine dr_none rfl ?_ | ((with_reducible apply d_y); exact y_; rfl) | refine e_storep ?_ | refine e_call hG hst (hpc) ?_ | with_reducible refine al_none rfl ?_ | (with_reducible first | apply aw_seq | apply aw_region | apply al_nil | apply aq_then | apply aw_block | apply aw_ret | apply aq_then_ret | apply aq_block_ret) | refine al_run rfl rfl rfl rr_ ?_ | refine al_skip rfl rfl rfl rr_ rfl rfl rfl ?_ | (refine al_gsplit rfl rfl rfl rr_ (fun hg => ?_) (fun hg => ?_)) | (refine aw_cond_dt rfl rr_ dd_ ?_))
        all_goals
          refine aq_ret1 x_ rfl (.tmp _ _ rfl) (fun _ => ?_)
          refine fin_bool ?_
          first
            | (rw [decide_eq_decide]; dsimp only; omega)
            | (symm; rw [decide_eq_false_iff_not]; dsimp only; omega)
            | (symm; rw [decide_eq_true_iff]; dsimp only; omega)
            | (simp [*]; done)
            | (simp_all; done)
            | (simp_all [eqL, eqC]; done)
            | (simp_all [eqL, eqC]; omega)
      · rw [decide_eq_false hpu] at hpc
        repeat' (first | ((with_reducible apply o_y); exact y_; rfl) | ((with_reducible apply aw_draw2 (id := 7) 9; kernel_rfl; kernel_rfl; kernel_rfl; (repeat (first | exact Cut.zero _ | apply Cut.succ)))) | with_reducible refine aw_draw (by kernel_rfl) (by kernel_rfl) ?_ | with_reducible refine dr_nil ?_ | with_reducible refine dr_nil2 ?_ | with_reducible refine dr_none rfl ?_ | ((with_reducible apply d_y); exact y_; rfl) | refine e_storep ?_ | refine e_call hG hst (hpc) ?_ | with_reducible refine al_none rfl ?_ | (with_reducible first | apply aw_seq | apply aw_region | apply al_nil | apply aq_then | apply aw_block | apply aw_ret | apply aq_then_ret | apply aq_block_ret) | refine al_skip rfl rfl rfl rr_ rfl rfl rfl ?_ | (refine aw_cond_dt rfl rr_ dd_ ?_))
        all_goals
          refine aq_ret1 x_ rfl (.tmp _ _ rfl) (fun _ => ?_)
          refine fin_bool ?_
          first
            | (rw [decide_eq_decide]; dsimp only; omega)
            | (symm; rw [decide_eq_false_iff_not]; dsimp only; omega)
            | (symm; rw [decide_eq_true_iff]; dsimp only; omega)
            | (simp [*]; done)
            | (simp_all; done)
            | (simp_all [eqL, eqC]; done)
            | (simp_all [eqL, eqC]; omega)
    · subst h
      rw [hF2]
      clear hF1 hF2 hF3 hF4 hF5 hF0 hdep hnew hof hof2
      repeat' (first | ((with_reducible apply o_y); exact y_; rfl) | ((with_reducible apply aw_draw2 (id := 7) 9; kernel_rfl; kernel_rfl; kernel_rfl; (repeat (first | exact Cut.zero _ | apply Cut.succ)))) | with_reducible refine aw_draw (by kernel_rfl) (by kernel_rfl) ?_ | with_reducible refine dr_nil ?_ | with_reducible refine dr_nil2 ?_ | with_reducible refine dr_none rfl ?_ | ((with_reducible apply d_y); exact y_; rfl) | refine e_storep ?_ | with_reducible refine al_none rfl ?_ | (with_reducible first | apply aw_seq | apply aw_region | apply al_nil | apply aq_then | apply aw_block | apply aw_ret | apply aq_then_ret | apply aq_block_ret) | refine al_run rfl rfl rfl rr_ ?_ | refine al_skip rfl rfl rfl rr_ rfl rfl rfl ?_ | (refine al_gsplit rfl rfl rfl rr_ (fun hg => ?_) (fun hg => ?_)) | (refine aw_cond_dt rfl rr_ dd_ ?_) | (refine aw_cond_df rfl rr_ dd_ ?_))
      all_goals
        refine aq_ret1 x_ rfl (.tmp _ _ rfl) (fun _ => ?_)
        refine fin_bool ?_
        first
          | (rw [decide_eq_decide]; dsimp only; omega)
          | (symm; rw [decide_eq_false_iff_not]; dsimp only; omega)
          | (symm; rw [decide_eq_true_iff]; dsimp only; omega)
          | (simp [*]; done)
          | (simp_all; done)
          | (simp_all [eqL, eqC]; done)
          | (simp_all [eqL, eqC]; omega)
    · subst h
      rw [hF5]
      clear hF1 hF2 hF3 hF4 hF5 hF0 hof hof2
      repeat' (first | ((with_reducible apply o_y); exact y_; rfl) | ((with_reducible apply aw_draw2 (id := 7) 9; kernel_rfl; kernel_rfl; kernel_rfl; (repeat (first | exact Cut.zero _ | apply Cut.succ)))) | with_reducible refine aw_draw (by kernel_rfl) (by kernel_rfl) ?_ | with_reducible refine dr_nil ?_ | with_reducible refine dr_nil2 ?_ | with_reducible refine dr_none rfl ?_ | ((with_reducible apply d_y); exact y_; rfl) | refine e_storep ?_ | ((with_reducible apply o_callOV); rfl; kernel_rfl; exact hG; exact hst; exact hdep; ((repeat (first | exact Args.nil | ((with_reducible apply Args.cons); rfl; (with_reducible exact View.same _))))); exact hnew; rintro ⟨ss, bb⟩ -; refine al_app1 ?_) | with_reducible refine al_none rfl ?_ | (with_reducible first | apply aw_seq | apply aw_region | apply al_nil | apply aq_then | apply aw_block | apply aw_ret | apply aq_then_ret | apply aq_block_ret) | refine al_run rfl rfl rfl rr_ ?_ | refine al_skip rfl rfl rfl rr_ rfl rfl rfl ?_ | (refine al_gsplit rfl rfl rfl rr_ (fun hg => ?_) (fun hg => ?_)) | (refine aw_cond_dt rfl rr_ dd_ ?_) | (refine aw_cond_df rfl rr_ dd_ ?_))
      all_goals
        refine aq_ret1 x_ rfl (.tmp _ _ rfl) (fun _ => ?_)
        refine fin_bool ?_
        first
          | (rw [decide_eq_decide]; dsimp only; omega)
          | (symm; rw [decide_eq_false_iff_not]; dsimp only; omega)
          | (symm; rw [decide_eq_true_iff]; dsimp only; omega)
          | (simp [*]; done)
          | (simp_all; done)
          | (simp_all [eqL, eqC]; done)
          | (simp_all [eqL, eqC]; omega)
    · rw [hF0 k1 k2 k3 k4 k5]
      clear hF1 hF2 hF3 hF4 hF5 hF0 hdep hnew hof hof2
      repeat' (first | ((with_reducible apply o_y); exact y_; rfl) | ((with_reducible apply aw_draw2 (id := 7) 9; kernel_rfl; kernel_rfl; kernel_rfl; (repeat (first | exact Cut.zero _ | apply Cut.succ)))) | with_reducible refine aw_draw (by kernel_rfl) (by kernel_rfl) ?_ | with_reducible refine dr_nil ?_ | with_reducible refine dr_nil2 ?_ | with_reducible refine dr_none rfl ?_ | ((with_reducible apply d_y); exact y_; rfl) | refine e_storep ?_ | with_reducible refine al_none rfl ?_ | (with_reducible first | apply aw_seq | apply aw_region | apply al_nil | apply aq_then | apply aw_block | apply aw_skip | apply aw_ret | apply aq_block) | (refine aw_cond_dt rfl rr_ dd_ ?_) | (refine aw_cond_df rfl rr_ dd_ ?_))
      refine aq_ret1 x_ rfl (.tmp _ _ rfl) (fun _ => ?_)
      exact Fin.flat rfl
  · have hof : opFr is (labelsL is) (n + 1) = 0 := by
      unfold opFr
      rw [if_neg (fun h => hn1 h.1)]
    obtain ⟨o1, ho1⟩ : ∃ o : Int, o = 0 := ⟨0, rfl⟩
    refine aw_pick (objs' := (s7, b7, .box [.int .i64 o1, .int .i64 0, .int .i64 0, .str ⟨#[]⟩]) :: (s6, b6, .box [.int .i64 op, .int .i64 a, .int .i64 b, .str t]) :: []) (by rw [ho1]; exact .refl _) ?_
    rcases hkk with h | h | h | ⟨k1, k2, k3, k4, k5⟩
    · subst h
      rw [hF1, hof]
      clear hF1 hF2 hF3 hF4 hF5 hF0 hdep hnew hof
      by_cases hpu : pureOp op
      · rw [decide_eq_true hpu] at hpc
        repeat' (first | ((with_reducible apply o_y); exact y_; rfl) | with_reducible refine aw_draw (by kernel_rfl) (by kernel_rfl) ?_ | with_reducible refine dr_nil ?_ | with_reducible refine dr_none rfl ?_ | ((with_reducible apply d_y); exact y_; rfl) | refine e_call hG hst (hpc) ?_ | with_reducible refine al_none rfl ?_ | (with_reducible first | apply aw_seq | apply aw_region | apply al_nil | apply aq_then | apply aw_block | apply aw_skip | apply aw_ret | apply aq_then_ret | apply aq_block_ret) | refine al_run rfl rfl rfl rr_ ?_ | refine al_skip rfl rfl rfl rr_ rfl rfl rfl ?_ | (refine al_gf rfl rfl rfl rr_ dd_ ?_) | (refine aw_cond_dt rfl rr_ dd_ ?_) | (refine aw_cond_df rfl rr_ dd_ ?_))
        all_goals
          refine aq_ret1 x_ rfl (.tmp _ _ rfl) (fun _ => ?_)
          refine fin_bool ?_
          first
            | (rw [decide_eq_decide]; dsimp only; omega)
            | (symm; rw [decide_eq_false_iff_not]; dsimp only; omega)
            | (symm; rw [decide_eq_true_iff]; dsimp only; omega)
            | (simp [*]; done)
            | (simp_all; done)
            | (simp_all [eqL, eqC]; done)
            | (simp_all [eqL, eqC]; omega)
      · rw [decide_eq_false hpu] at hpc
        repeat' (first | ((with_reducible apply o_y); exact y_; rfl) | with_reducible refine aw_draw (by kernel_rfl) (by kernel_rfl) ?_ | with_reducible refine dr_nil ?_ | with_reducible refine dr_none rfl ?_ | ((with_reducible apply d_y); exact y_; rfl) | refine e_call hG hst (hpc) ?_ | with_reducible refine al_none rfl ?_ | (with_reducible first | apply aw_seq | apply aw_region | apply al_nil | apply aq_then | apply aw_block | apply aw_skip | apply aw_ret | apply aq_then_ret | apply aq_block_ret) | refine al_skip rfl rfl rfl rr_ rfl rfl rfl ?_ | (refine aw_cond_dt rfl rr_ dd_ ?_) | (refine aw_cond_df rfl rr_ dd_ ?_))
        all_goals
          refine aq_ret1 x_ rfl (.tmp _ _ rfl) (fun _ => ?_)
          refine fin_bool ?_
          first
            | (rw [decide_eq_decide]; dsimp only; omega)
            | (symm; rw [decide_eq_false_iff_not]; dsimp only; omega)
            | (symm; rw [decide_eq_true_iff]; dsimp only; omega)
            | (simp [*]; done)
            | (simp_all; done)
            | (simp_all [eqL, eqC]; done)
            | (simp_all [eqL, eqC]; omega)
    · subst h
      rw [hF2]
      clear hF1 hF2 hF3 hF4 hF5 hF0 hdep hnew hof
      repeat' (first | ((with_reducible apply o_y); exact y_; rfl) | with_reducible refine aw_draw (by kernel_rfl) (by kernel_rfl) ?_ | with_reducible refine dr_nil ?_ | with_reducible refine dr_none rfl ?_ | ((with_reducible apply d_y); exact y_; rfl) | with_reducible refine al_none rfl ?_ | (with_reducible first | apply aw_seq | apply aw_region | apply al_nil | apply aq_then | apply aw_block | apply aw_skip | apply aw_ret | apply aq_then_ret | apply aq_block_ret) | refine al_run rfl rfl rfl rr_ ?_ | refine al_skip rfl rfl rfl rr_ rfl rfl rfl ?_ | (refine al_gsplit rfl rfl rfl rr_ (fun hg => ?_) (fun hg => ?_)) | (refine aw_cond_dt rfl rr_ dd_ ?_) | (refine aw_cond_df rfl rr_ dd_ ?_))
      all_goals
        refine aq_ret1 x_ rfl (.tmp _ _ rfl) (fun _ => ?_)
        refine fin_bool ?_
        first
          | (rw [decide_eq_decide]; dsimp only; omega)
          | (symm; rw [decide_eq_false_iff_not]; dsimp only; omega)
          | (symm; rw [decide_eq_true_iff]; dsimp only; omega)
          | (simp [*]; done)
          | (simp_all; done)
          | (simp_all [eqL, eqC]; done)
          | (simp_all [eqL, eqC]; omega)
    · subst h
      rw [hF5]
      clear hF1 hF2 hF3 hF4 hF5 hF0 hof
      repeat' (first | ((with_reducible apply o_y); exact y_; rfl) | with_reducible refine aw_draw (by kernel_rfl) (by kernel_rfl) ?_ | with_reducible refine dr_nil ?_ | with_reducible refine dr_none rfl ?_ | ((with_reducible apply d_y); exact y_; rfl) | ((with_reducible apply o_callOV); rfl; kernel_rfl; exact hG; exact hst; exact hdep; ((repeat (first | exact Args.nil | ((with_reducible apply Args.cons); rfl; (with_reducible exact View.same _))))); exact hnew; rintro ⟨ss, bb⟩ -; refine al_app1 ?_) | with_reducible refine al_none rfl ?_ | (with_reducible first | apply aw_seq | apply aw_region | apply al_nil | apply aq_then | apply aw_block | apply aw_skip | apply aw_ret | apply aq_then_ret | apply aq_block_ret) | refine al_run rfl rfl rfl rr_ ?_ | refine al_skip rfl rfl rfl rr_ rfl rfl rfl ?_ | (refine al_gsplit rfl rfl rfl rr_ (fun hg => ?_) (fun hg => ?_)) | (refine aw_cond_dt rfl rr_ dd_ ?_) | (refine aw_cond_df rfl rr_ dd_ ?_))
      all_goals
        refine aq_ret1 x_ rfl (.tmp _ _ rfl) (fun _ => ?_)
        refine fin_bool ?_
        first
          | (rw [decide_eq_decide]; dsimp only; omega)
          | (symm; rw [decide_eq_false_iff_not]; dsimp only; omega)
          | (symm; rw [decide_eq_true_iff]; dsimp only; omega)
          | (simp [*]; done)
          | (simp_all; done)
          | (simp_all [eqL, eqC]; done)
          | (simp_all [eqL, eqC]; omega)
    · rw [hF0 k1 k2 k3 k4 k5]
      clear hF1 hF2 hF3 hF4 hF5 hF0 hdep hnew hof
      repeat' (first | ((with_reducible apply o_y); exact y_; rfl) | with_reducible refine aw_draw (by kernel_rfl) (by kernel_rfl) ?_ | with_reducible refine dr_nil ?_ | with_reducible refine dr_none rfl ?_ | ((with_reducible apply d_y); exact y_; rfl) | with_reducible refine al_none rfl ?_ | (with_reducible first | apply aw_seq | apply aw_region | apply al_nil | apply aq_then | apply aw_block | apply aw_skip | apply aw_ret | apply aq_block) | (refine aw_cond_df rfl rr_ dd_ ?_))
      refine aq_ret1 x_ rfl (.tmp _ _ rfl) (fun _ => ?_)
      exact Fin.flat rfl
end Go.Proofs.YthpdkhejeookhaaGreatDoor
/- EditsOf of the reference: whether an edit fits: kind 3. Written by gen_ed.py. -/
namespace Go.Proofs.YthpdkhejeookhaaGreatDoor
set_option maxRecDepth 20000
open Go Go.RowKit
set_option maxRecDepth 8000 in
set_option maxHeartbeats 8000000 in
theorem l27FitsB_ct (f lo : Nat) (bl : Bool) (pr sl : Int) (is : List TInstr) (hok : CodeOk is) (hts : ∀ i ∈ is, i.text.size ≤ 1048576) (code at_ kind : Int) (hkk : kind = 3) (hatm : -9223372036854775808 ≤ at_ ∧ at_ ≤ 9223372036854775807) :
    Ct Tryz.prog GL 55 [.cp f [.bool bl, .int .i64 pr, .int .i64 sl, .sl lo 4 (is.map (TInstr.tw lo))], .agg [.int .i64 code, .int .i64 at_, .int .i64 kind]] (fun _ => .bool (fitsZ is at_ kind)) := by
  refine ct_enter Tryz.func55 rfl Tryz.ntmps55 rfl rfl fun w0 _ hG => ?_
  have hst := GL_st
  have hn := hok.len
  have hil := TInstr.len lo is
  have hlab := l27Labels_ct (G := GL) f lo bl pr sl is (by omega) hok.pre
  have hin := l1In_ct (G := GL) at_ 0 ((is.length : Int) - 1)
  by_cases hat : 0 ≤ at_ ∧ at_ ≤ (is.length : Int) - 1
  case neg =>
    have hz : fitsZ is at_ kind = false := if_neg hat
    rw [hz]
    rw [show inR at_ 0 ((is.length : Int) - 1) = false by simpa [inR] using hat] at hin
    clear hlab
    repeat' (first | ((with_reducible apply o_y); exact y_; rfl) | refine e_box ?_ | with_reducible refine aw_draw (by kernel_rfl) (by kernel_rfl) ?_ | with_reducible refine dr_nil ?_ | with_reducible refine dr_none rfl ?_ | ((with_reducible apply d_y); exact y_; rfl) | refine e_calld hG hst (hin) ?_ | with_reducible refine al_none rfl ?_ | (with_reducible first | apply aw_seq | apply aw_region | apply al_nil | apply aq_then | apply aw_ret | apply aq_then_ret) | refine aw_cond_t rfl rr_ ?_)
    refine aq_ret1 x_ rfl (.tmp _ _ rfl) (fun _ => ?_)
    exact Fin.flat rfl
  rw [inR_t hat] at hin
  obtain ⟨n, rfl⟩ : ∃ n : Nat, at_ = n := ⟨at_.toNat, by omega⟩
  have hlt : n < is.length := by omega
  rw [show (is.length : Int) - 1 = ((is.length - 1 : Nat) : Int) by omega] at hin
  have hl1 : labelsL is = labP is is.length := rfl
  have hll : (labelsL is).length = is.length + 1 := by rw [hl1]; exact labP_len _ _
  have hbl := boolR_len (labelsL is)
  have hrow0 := tinstr_row (lo := lo) hlt
  have hi0 := insAt_get hlt
  rw [fitsZ_in hlt, hi0]
  have hro := fun k (h : k < is.length) => tinstr_row (lo := lo) h
  have hio := fun k (h : k < is.length) => insAt_get h
  have hlr := fun k (h : k < is.length + 1) => boolR_get (l := labelsL is) (k := k) (by omega)
  have hla := lab_in hok.pre (List.getElem_mem hlt)
  have htx := hok.txt
  clear hi0
  generalize hx : is[n] = x at hrow0 hla ⊢
  obtain ⟨op, a, b, t⟩ := x
  dsimp only at hrow0 hla
  repeat' (first | ((with_reducible apply o_y); exact y_; rfl) | refine e_box ?_ | ((with_reducible apply aw_draw3 (id := 4) 8); kernel_rfl; kernel_rfl; kernel_rfl; (repeat (first | exact Cut.zero _ | apply Cut.succ)); rfl; rfl; rfl; rfl; rfl; kernel_rfl; rfl) | with_reducible refine aw_hold_r (id := 6) ?_ | with_reducible refine aw_draw (by kernel_rfl) (by kernel_rfl) ?_ | with_reducible refine dr_nil ?_ | with_reducible refine dr_none rfl ?_ | ((with_reducible apply d_y); exact y_; rfl) | ((with_reducible apply u_y); exact yu_; rfl) | (with_reducible refine du_nil ?_; intro ss bb) | refine e_calld hG hst (hin) ?_ | refine e_call hG hst (hlab) ?_ | (refine e_alloc ?_; intro ss bb) | refine e_storep ?_ | refine e_build ?_ | with_reducible refine al_none rfl ?_ | (with_reducible first | apply aw_seq | apply aw_region | apply al_nil | apply aq_then | apply aw_skip) | refine aw_cond_f rfl rr_ ?_)
  refine ⟨?_⟩
  generalize ss = s7; generalize bb = b7
  rename_i s6 b6
  have hl1' : n + 1 < is.length + 1 := by omega
  have hlr1 := hlr (n + 1) hl1'
  have hpc := l27Pure_ct (G := GL) hst op
  have hF1 : ∀ lab ds x, fitsB is lab ds n x (1 : Int).toNat = decide (pureOp x.op ∧ opFr is lab (n + 1) = 16) := fun _ _ _ => rfl
  have hF2 : ∀ lab ds x, fitsB is lab ds n x (2 : Int).toNat = decide (x.op = 20 ∧ x.a = (n : Int) + 1) := fun _ _ _ => rfl
  have hF3 : ∀ lab ds x, fitsB is lab ds n x (3 : Int).toNat = decide (x.op = 9 ∧ opFr is lab (n + 1) = 16 ∧ opFr is lab (n + 2) = 8 ∧ (insAt is (n + 2)).a = x.a ∧ (insAt is (n + 2)).b = x.b) := fun _ _ _ => rfl
  have hF4 : ∀ lab ds x, fitsB is lab ds n x (4 : Int).toNat = decide (x.op = 20 ∧ x.a ≠ n ∧ (insAt is x.a.toNat).op = 20 ∧ (insAt is x.a.toNat).a ≠ x.a) := fun _ _ _ => rfl
  have hF5 : ∀ lab ds x, fitsB is lab ds n x (5 : Int).toNat = decide (gd ds n = -1 ∧ x.op ≠ 15 ∧ 1 < is.length) := fun _ _ _ => rfl
  have hF0 : ¬ kind = 1 → ¬ kind = 2 → ¬ kind = 3 → ¬ kind = 4 → ¬ kind = 5 → fitsB is (labelsL is) ((depthsL is).getD []) n ⟨op, a, b, t⟩ kind.toNat = false := fun h1 h2 h3 h4 h5 => fitsB_no h1 h2 h3 h4 h5
  obtain ⟨ds, hds⟩ := Option.isSome_iff_exists.1 hok.dep
  obtain ⟨hdl, hdi⟩ := depthsL_inv hds
  have hdg := hdi.gd n
  have hdep := l16Depths_ct hst hcaS f lo bl pr sl is (by omega) hts hok.pre
  have hnew := dO_new (depthsS is)
  rw [← depthsL_eq is hok.pre, hds, instrs_tw lo] at hdep
  rw [← depthsL_eq is hok.pre, hds] at hnew
  rw [hds] at hF0 ⊢
  unfold dR dO at hdep hnew
  dsimp only [Option.getD_some, Option.isSome_some] at hdep hnew hF0 ⊢
  have hrd : (intR ds)[n]? = some [.int .i64 (gd ds n)] := by rw [gd_get (by omega)]; exact intR_get (by omega)
  have hid := intR_length ds
  replace hF5 := hF5 (labelsL is) ds
  generalize gd ds n = g at hrd hdg hF5
  have h := hkk
  by_cases hn1 : n + 1 < is.length
  · have hrow1 := hro (n + 1) hn1
    have hio1 := hio (n + 1) hn1
    have hlr2 := hlr (n + 2) (by omega)
    have hi2 : 1 < is.length := by omega
    generalize hx1 : is[n + 1] = x1 at hrow1 hio1
    obtain ⟨o1, a1, b1, t1⟩ := x1
    dsimp only at hrow1
    have hof : opFr is (labelsL is) (n + 1) = if gb (labelsL is) ((n + 1 : Nat) : Int) = false then o1 else 0 := by
      unfold opFr
      by_cases hg : gb (labelsL is) ((n + 1 : Nat) : Int) = false
      · rw [if_pos ⟨hn1, hg⟩, if_pos hg, hio1]
      · rw [if_neg (fun h => hg h.2), if_neg hg]
    have hof2 : opFr is (labelsL is) (n + 2) = if n + 2 < is.length ∧ gb (labelsL is) ((n + 2 : Nat) : Int) = false then (insAt is (n + 2)).op else 0 := rfl
    generalize gb (labelsL is) ((n + 1 : Nat) : Int) = g1 at hlr1 hof
    generalize gb (labelsL is) ((n + 2 : Nat) : Int) = g2 at hlr2 hof2
    · subst h
      rw [hF3, hof, hof2]
      clear hF1 hF2 hF3 hF4 hF5 hF0 hdep hnew hof hof2
      by_cases h9 : op = 9
      case neg =>
        repeat' (first | ((with_reducible apply o_y); exact y_; rfl) | ((with_reducible apply aw_draw2 (id := 7) 9; kernel_rfl; kernel_rfl; kernel_rfl; (repeat (first | exact Cut.zero _ | apply Cut.succ)))) | with_reducible refine aw_draw (by kernel_rfl) (by kernel_rfl) ?_ | with_reducible refine dr_nil ?_ | with_reducible refine dr_nil2 ?_ | with_reducible refine dr_none rfl ?_ | refine dr_skip rfl rfl rfl rr_ rfl rfl rfl ?_ | (refine dr_gf rfl rfl rfl rr_ dd_ ?_) | ((with_reducible apply d_y); exact y_; rfl) | refine e_storep ?_ | with_reducible refine al_none rfl ?_ | (with_reducible first | apply aw_seq | apply aw_region | apply al_nil | apply aq_then | apply aw_block | apply aw_ret | apply aq_then_ret | apply aq_block_ret) | (refine aw_cond_dt rfl rr_ dd_ ?_) | (refine aw_cond_df rfl rr_ dd_ ?_))
        all_goals
          refine aq_ret1 x_ rfl (.tmp _ _ rfl) (fun _ => ?_)
          refine fin_bool ?_
          first
            | (rw [decide_eq_decide]; dsimp only; omega)
            | (symm; rw [decide_eq_false_iff_not]; dsimp only; omega)
            | (symm; rw [decide_eq_true_iff]; dsimp only; omega)
            | (simp [*]; done)
            | (simp_all; done)
            | (simp_all [eqL, eqC]; done)
            | (simp_all [eqL, eqC]; omega)
      by_cases h16 : o1 = 16
      case neg =>
        repeat' (first | ((with_reducible apply o_y); exact y_; rfl) | ((with_reducible apply aw_draw2 (id := 7) 9; kernel_rfl; kernel_rfl; kernel_rfl; (repeat (first | exact Cut.zero _ | apply Cut.succ)))) | with_reducible refine aw_draw (by kernel_rfl) (by kernel_rfl) ?_ | with_reducible refine dr_nil ?_ | with_reducible refine dr_nil2 ?_ | with_reducible refine dr_none rfl ?_ | refine dr_run rfl rfl rfl rr_ ?_ | refine dr_skip rfl rfl rfl rr_ rfl rfl rfl ?_ | (refine dr_gt rfl rfl rfl rr_ dd_ ?_) | (refine dr_gf rfl rfl rfl rr_ dd_ ?_) | ((with_reducible apply d_y); exact y_; rfl) | refine e_storep ?_ | with_reducible refine al_none rfl ?_ | (with_reducible first | apply aw_seq | apply aw_region | apply al_nil | apply aq_then | apply aw_block | apply aw_ret | apply aq_then_ret | apply aq_block_ret) | (refine aw_cond_dt rfl rr_ dd_ ?_) | (refine aw_cond_df rfl rr_ dd_ ?_))
        all_goals
          refine aq_ret1 x_ rfl (.tmp _ _ rfl) (fun _ => ?_)
          refine fin_bool ?_
          first
            | (rw [decide_eq_decide]; dsimp only; omega)
            | (symm; rw [decide_eq_false_iff_not]; dsimp only; omega)
            | (symm; rw [decide_eq_true_iff]; dsimp only; omega)
            | (simp [*]; done)
            | (simp_all; done)
            | (simp_all [eqL, eqC]; done)
            | (simp_all [eqL, eqC]; omega)
      by_cases hn2 : n + 2 < is.length
      case neg =>
        clear hio hro hlr htx hx hx1 hio1
        repeat' (first | ((with_reducible apply o_y); exact y_; rfl) | ((with_reducible apply aw_draw2 (id := 7) 9; kernel_rfl; kernel_rfl; kernel_rfl; (repeat (first | exact Cut.zero _ | apply Cut.succ)))) | with_reducible refine aw_draw (by kernel_rfl) (by kernel_rfl) ?_ | with_reducible refine dr_nil ?_ | with_reducible refine dr_nil2 ?_ | with_reducible refine dr_none rfl ?_ | refine dr_run rfl rfl rfl rr_ ?_ | refine dr_skip rfl rfl rfl rr_ rfl rfl rfl ?_ | (refine dr_gt rfl rfl rfl rr_ dd_ ?_) | (refine dr_gf rfl rfl rfl rr_ dd_ ?_) | ((with_reducible apply d_y); exact y_; rfl) | refine e_storep ?_ | with_reducible refine al_none rfl ?_ | (with_reducible first | apply aw_seq | apply aw_region | apply al_nil | apply aq_then | apply aw_block | apply aw_ret | apply aq_then_ret | apply aq_block_ret) | (refine aw_cond_dt rfl rr_ dd_ ?_) | (refine aw_cond_df rfl rr_ dd_ ?_))
        all_goals
          refine aq_ret1 x_ rfl (.tmp _ _ rfl) (fun _ => ?_)
          refine fin_bool ?_
          first
            | (rw [decide_eq_decide]; dsimp only; omega)
            | (symm; rw [decide_eq_false_iff_not]; dsimp only; omega)
            | (symm; rw [decide_eq_true_iff]; dsimp only; omega)
            | (simp [*]; done)
            | (simp_all; done)
            | (simp_all [eqL, eqC]; done)
            | (simp_all [eqL, eqC]; omega)
      have hrow2 := hro (n + 2) hn2
      have htx2 := htx is[n + 2] (List.getElem_mem hn2)
      rw [hio (n + 2) hn2]
      generalize is[n + 2] = x2 at hrow2 htx2 ⊢
      obtain ⟨o2, a2, b2, t2⟩ := x2
      dsimp only at hrow2 htx2 ⊢
      clear hio hro hlr htx hx hx1 hio1
      cases g1 <;> cases g2
      all_goals
        repeat' (first | ((with_reducible apply o_y); exact y_; rfl) | ((with_reducible apply aw_draw2 (id := 7) 9; kernel_rfl; kernel_rfl; kernel_rfl; (repeat (first | exact Cut.zero _ | apply Cut.succ)))) | with_reducible refine aw_draw (by kernel_rfl) (by kernel_rfl) ?_ | with_reducible refine dr_nil ?_ | with_reducible refine dr_nil2 ?_ | with_reducible refine dr_none rfl ?_ | refine dr_run rfl rfl rfl rr_ ?_ | refine dr_skip rfl rfl rfl rr_ rfl rfl rfl ?_ | (refine dr_gt rfl rfl rfl rr_ dd_ ?_) | (refine dr_gsplit_b rfl rfl rfl rr_ (fun hg => ?_) (fun hg => ?_)) | ((with_reducible apply d_y); exact y_; rfl) | refine e_storep ?_ | refine e_buildd ?_ | with_reducible refine al_none rfl ?_ | (with_reducible first | apply aw_seq | apply aw_region | apply al_nil | apply aq_then | apply aw_block | apply aw_ret | apply aq_then_ret | apply aq_block_ret) | (refine aw_cond_dt rfl rr_ dd_ ?_) | (refine aw_cond_df rfl rr_ dd_ ?_))
      all_goals
        refine aq_ret1 x_ rfl (.tmp _ _ rfl) (fun _ => ?_)
        refine fin_bool ?_
        first
          | (rw [decide_eq_decide]; dsimp only; omega)
          | (symm; rw [decide_eq_false_iff_not]; dsimp only; omega)
          | (symm; rw [decide_eq_true_iff]; dsimp only; omega)
          | (simp [*]; done)
          | (simp_all; done)
          | (simp_all [eqL, eqC]; done)
          | (simp_all [eqL, eqC]; omega)
  · have hof : opFr is (labelsL is) (n + 1) = 0 := by
      unfold opFr
      rw [if_neg (fun h => hn1 h.1)]
    obtain ⟨o1, ho1⟩ : ∃ o : Int, o = 0 := ⟨0, rfl⟩
    refine aw_pick (objs' := (s7, b7, .box [.int .i64 o1, .int .i64 0, .int .i64 0, .str ⟨#[]⟩]) :: (s6, b6, .box [.int .i64 op, .int .i64 a, .int .i64 b, .str t]) :: []) (by rw [ho1]; exact .refl _) ?_
    · subst h
      rw [hF3, hof]
      clear hF1 hF2 hF3 hF4 hF5 hF0 hdep hnew hof
      repeat' (first | ((with_reducible apply o_y); exact y_; rfl) | with_reducible refine aw_draw (by kernel_rfl) (by kernel_rfl) ?_ | with_reducible refine dr_nil ?_ | with_reducible refine dr_none rfl ?_ | refine dr_run rfl rfl rfl rr_ ?_ | refine dr_skip rfl rfl rfl rr_ rfl rfl rfl ?_ | (refine dr_gf rfl rfl rfl rr_ dd_ ?_) | (refine dr_gsplit rfl rfl rfl rr_ (fun hg => ?_) (fun hg => ?_)) | ((with_reducible apply d_y); exact y_; rfl) | with_reducible refine al_none rfl ?_ | (with_reducible first | apply aw_seq | apply aw_region | apply al_nil | apply aq_then | apply aw_block | apply aw_skip | apply aw_ret | apply aq_then_ret | apply aq_block_ret) | (refine aw_cond_dt rfl rr_ dd_ ?_) | (refine aw_cond_df rfl rr_ dd_ ?_))
      all_goals
        refine aq_ret1 x_ rfl (.tmp _ _ rfl) (fun _ => ?_)
        refine fin_bool ?_
        first
          | (rw [decide_eq_decide]; dsimp only; omega)
          | (symm; rw [decide_eq_false_iff_not]; dsimp only; omega)
          | (symm; rw [decide_eq_true_iff]; dsimp only; omega)
          | (simp [*]; done)
          | (simp_all; done)
          | (simp_all [eqL, eqC]; done)
          | (simp_all [eqL, eqC]; omega)
end Go.Proofs.YthpdkhejeookhaaGreatDoor
/- EditsOf of the reference: whether an edit fits: kind 4. Written by gen_ed.py. -/
namespace Go.Proofs.YthpdkhejeookhaaGreatDoor
set_option maxRecDepth 20000
open Go Go.RowKit
set_option maxRecDepth 8000 in
set_option maxHeartbeats 8000000 in
theorem l27FitsC_ct (f lo : Nat) (bl : Bool) (pr sl : Int) (is : List TInstr) (hok : CodeOk is) (hts : ∀ i ∈ is, i.text.size ≤ 1048576) (code at_ kind : Int) (hkk : kind = 4) (hatm : -9223372036854775808 ≤ at_ ∧ at_ ≤ 9223372036854775807) :
    Ct Tryz.prog GL 55 [.cp f [.bool bl, .int .i64 pr, .int .i64 sl, .sl lo 4 (is.map (TInstr.tw lo))], .agg [.int .i64 code, .int .i64 at_, .int .i64 kind]] (fun _ => .bool (fitsZ is at_ kind)) := by
  refine ct_enter Tryz.func55 rfl Tryz.ntmps55 rfl rfl fun w0 _ hG => ?_
  have hst := GL_st
  have hn := hok.len
  have hil := TInstr.len lo is
  have hlab := l27Labels_ct (G := GL) f lo bl pr sl is (by omega) hok.pre
  have hin := l1In_ct (G := GL) at_ 0 ((is.length : Int) - 1)
  by_cases hat : 0 ≤ at_ ∧ at_ ≤ (is.length : Int) - 1
  case neg =>
    have hz : fitsZ is at_ kind = false := if_neg hat
    rw [hz]
    rw [show inR at_ 0 ((is.length : Int) - 1) = false by simpa [inR] using hat] at hin
    clear hlab
    repeat' (first | ((with_reducible apply o_y); exact y_; rfl) | refine e_box ?_ | with_reducible refine aw_draw (by kernel_rfl) (by kernel_rfl) ?_ | with_reducible refine dr_nil ?_ | with_reducible refine dr_none rfl ?_ | ((with_reducible apply d_y); exact y_; rfl) | refine e_calld hG hst (hin) ?_ | with_reducible refine al_none rfl ?_ | (with_reducible first | apply aw_seq | apply aw_region | apply al_nil | apply aq_then | apply aw_ret | apply aq_then_ret) | refine aw_cond_t rfl rr_ ?_)
    refine aq_ret1 x_ rfl (.tmp _ _ rfl) (fun _ => ?_)
    exact Fin.flat rfl
  rw [inR_t hat] at hin
  obtain ⟨n, rfl⟩ : ∃ n : Nat, at_ = n := ⟨at_.toNat, by omega⟩
  have hlt : n < is.length := by omega
  rw [show (is.length : Int) - 1 = ((is.length - 1 : Nat) : Int) by omega] at hin
  have hl1 : labelsL is = labP is is.length := rfl
  have hll : (labelsL is).length = is.length + 1 := by rw [hl1]; exact labP_len _ _
  have hbl := boolR_len (labelsL is)
  have hrow0 := tinstr_row (lo := lo) hlt
  have hi0 := insAt_get hlt
  rw [fitsZ_in hlt, hi0]
  have hro := fun k (h : k < is.length) => tinstr_row (lo := lo) h
  have hio := fun k (h : k < is.length) => insAt_get h
  have hlr := fun k (h : k < is.length + 1) => boolR_get (l := labelsL is) (k := k) (by omega)
  have hla := lab_in hok.pre (List.getElem_mem hlt)
  have htx := hok.txt
  clear hi0
  generalize hx : is[n] = x at hrow0 hla ⊢
  obtain ⟨op, a, b, t⟩ := x
  dsimp only at hrow0 hla
  repeat' (first | ((with_reducible apply o_y); exact y_; rfl) | refine e_box ?_ | ((with_reducible apply aw_draw3 (id := 4) 8); kernel_rfl; kernel_rfl; kernel_rfl; (repeat (first | exact Cut.zero _ | apply Cut.succ)); rfl; rfl; rfl; rfl; rfl; kernel_rfl; rfl) | with_reducible refine aw_hold_r (id := 6) ?_ | with_reducible refine aw_draw (by kernel_rfl) (by kernel_rfl) ?_ | with_reducible refine dr_nil ?_ | with_reducible refine dr_none rfl ?_ | ((with_reducible apply d_y); exact y_; rfl) | ((with_reducible apply u_y); exact yu_; rfl) | (with_reducible refine du_nil ?_; intro ss bb) | refine e_calld hG hst (hin) ?_ | refine e_call hG hst (hlab) ?_ | (refine e_alloc ?_; intro ss bb) | refine e_storep ?_ | refine e_build ?_ | with_reducible refine al_none rfl ?_ | (with_reducible first | apply aw_seq | apply aw_region | apply al_nil | apply aq_then | apply aw_skip) | refine aw_cond_f rfl rr_ ?_)
  refine ⟨?_⟩
  generalize ss = s7; generalize bb = b7
  rename_i s6 b6
  have hl1' : n + 1 < is.length + 1 := by omega
  have hlr1 := hlr (n + 1) hl1'
  have hpc := l27Pure_ct (G := GL) hst op
  have hF1 : ∀ lab ds x, fitsB is lab ds n x (1 : Int).toNat = decide (pureOp x.op ∧ opFr is lab (n + 1) = 16) := fun _ _ _ => rfl
  have hF2 : ∀ lab ds x, fitsB is lab ds n x (2 : Int).toNat = decide (x.op = 20 ∧ x.a = (n : Int) + 1) := fun _ _ _ => rfl
  have hF3 : ∀ lab ds x, fitsB is lab ds n x (3 : Int).toNat = decide (x.op = 9 ∧ opFr is lab (n + 1) = 16 ∧ opFr is lab (n + 2) = 8 ∧ (insAt is (n + 2)).a = x.a ∧ (insAt is (n + 2)).b = x.b) := fun _ _ _ => rfl
  have hF4 : ∀ lab ds x, fitsB is lab ds n x (4 : Int).toNat = decide (x.op = 20 ∧ x.a ≠ n ∧ (insAt is x.a.toNat).op = 20 ∧ (insAt is x.a.toNat).a ≠ x.a) := fun _ _ _ => rfl
  have hF5 : ∀ lab ds x, fitsB is lab ds n x (5 : Int).toNat = decide (gd ds n = -1 ∧ x.op ≠ 15 ∧ 1 < is.length) := fun _ _ _ => rfl
  have hF0 : ¬ kind = 1 → ¬ kind = 2 → ¬ kind = 3 → ¬ kind = 4 → ¬ kind = 5 → fitsB is (labelsL is) ((depthsL is).getD []) n ⟨op, a, b, t⟩ kind.toNat = false := fun h1 h2 h3 h4 h5 => fitsB_no h1 h2 h3 h4 h5
  obtain ⟨ds, hds⟩ := Option.isSome_iff_exists.1 hok.dep
  obtain ⟨hdl, hdi⟩ := depthsL_inv hds
  have hdg := hdi.gd n
  have hdep := l16Depths_ct hst hcaS f lo bl pr sl is (by omega) hts hok.pre
  have hnew := dO_new (depthsS is)
  rw [← depthsL_eq is hok.pre, hds, instrs_tw lo] at hdep
  rw [← depthsL_eq is hok.pre, hds] at hnew
  rw [hds] at hF0 ⊢
  unfold dR dO at hdep hnew
  dsimp only [Option.getD_some, Option.isSome_some] at hdep hnew hF0 ⊢
  have hrd : (intR ds)[n]? = some [.int .i64 (gd ds n)] := by rw [gd_get (by omega)]; exact intR_get (by omega)
  have hid := intR_length ds
  replace hF5 := hF5 (labelsL is) ds
  generalize gd ds n = g at hrd hdg hF5
  have h := hkk
  by_cases hn1 : n + 1 < is.length
  · have hrow1 := hro (n + 1) hn1
    have hio1 := hio (n + 1) hn1
    have hlr2 := hlr (n + 2) (by omega)
    have hi2 : 1 < is.length := by omega
    generalize hx1 : is[n + 1] = x1 at hrow1 hio1
    obtain ⟨o1, a1, b1, t1⟩ := x1
    dsimp only at hrow1
    have hof : opFr is (labelsL is) (n + 1) = if gb (labelsL is) ((n + 1 : Nat) : Int) = false then o1 else 0 := by
      unfold opFr
      by_cases hg : gb (labelsL is) ((n + 1 : Nat) : Int) = false
      · rw [if_pos ⟨hn1, hg⟩, if_pos hg, hio1]
      · rw [if_neg (fun h => hg h.2), if_neg hg]
    have hof2 : opFr is (labelsL is) (n + 2) = if n + 2 < is.length ∧ gb (labelsL is) ((n + 2 : Nat) : Int) = false then (insAt is (n + 2)).op else 0 := rfl
    generalize gb (labelsL is) ((n + 1 : Nat) : Int) = g1 at hlr1 hof
    generalize gb (labelsL is) ((n + 2 : Nat) : Int) = g2 at hlr2 hof2
    · subst h
      rw [hF4]
      clear hF1 hF2 hF3 hF4 hF5 hF0 hdep hnew hof hof2
      by_cases h20 : op = 20
      · subst h20
        have hra := inR_b (List.all_eq_true.1 hla 1 (by simp [labOff_20]))
        rw [labV_1] at hra
        obtain ⟨an, rfl⟩ : ∃ an : Nat, a = an := ⟨a.toNat, by omega⟩
        have hal : an < is.length := by omega
        have hrow4 := hro an hal
        rw [Int.toNat_natCast, hio an hal]
        generalize is[an] = x4 at hrow4 ⊢
        obtain ⟨o4, a4, b4, t4⟩ := x4
        dsimp only at hrow4 ⊢
        repeat' (first | ((with_reducible apply o_y); exact y_; rfl) | ((with_reducible apply aw_draw2 (id := 7) 9; kernel_rfl; kernel_rfl; kernel_rfl; (repeat (first | exact Cut.zero _ | apply Cut.succ)))) | with_reducible refine aw_draw (by kernel_rfl) (by kernel_rfl) ?_ | with_reducible refine dr_nil ?_ | with_reducible refine dr_nil2 ?_ | with_reducible refine dr_none rfl ?_ | refine dr_run rfl rfl rfl rr_ ?_ | refine dr_skip rfl rfl rfl rr_ rfl rfl rfl ?_ | (refine dr_gt rfl rfl rfl rr_ dd_ ?_) | (refine dr_gsplit rfl rfl rfl rr_ (fun hg => ?_) (fun hg => ?_)) | ((with_reducible apply d_y); exact y_; rfl) | refine e_storep ?_ | with_reducible refine al_none rfl ?_ | (with_reducible first | apply aw_seq | apply aw_region | apply al_nil | apply aq_then | apply aw_block | apply aw_ret | apply aq_then_ret | apply aq_block_ret) | (refine aw_cond_dt rfl rr_ dd_ ?_) | (refine aw_cond_df rfl rr_ dd_ ?_))
        all_goals
          refine aq_ret1 x_ rfl (.tmp _ _ rfl) (fun _ => ?_)
          refine fin_bool ?_
          first
            | (rw [decide_eq_decide]; dsimp only; omega)
            | (symm; rw [decide_eq_false_iff_not]; dsimp only; omega)
            | (symm; rw [decide_eq_true_iff]; dsimp only; omega)
            | (simp [*]; done)
            | (simp_all; done)
            | (simp_all [eqL, eqC]; done)
            | (simp_all [eqL, eqC]; omega)
      · repeat' (first | ((with_reducible apply o_y); exact y_; rfl) | ((with_reducible apply aw_draw2 (id := 7) 9; kernel_rfl; kernel_rfl; kernel_rfl; (repeat (first | exact Cut.zero _ | apply Cut.succ)))) | with_reducible refine aw_draw (by kernel_rfl) (by kernel_rfl) ?_ | with_reducible refine dr_nil ?_ | with_reducible refine dr_nil2 ?_ | with_reducible refine dr_none rfl ?_ | refine dr_skip rfl rfl rfl rr_ rfl rfl rfl ?_ | (refine dr_gf rfl rfl rfl rr_ dd_ ?_) | ((with_reducible apply d_y); exact y_; rfl) | refine e_storep ?_ | with_reducible refine al_none rfl ?_ | (with_reducible first | apply aw_seq | apply aw_region | apply al_nil | apply aq_then | apply aw_block | apply aw_ret | apply aq_then_ret | apply aq_block_ret) | (refine aw_cond_dt rfl rr_ dd_ ?_) | (refine aw_cond_df rfl rr_ dd_ ?_))
        all_goals
          refine aq_ret1 x_ rfl (.tmp _ _ rfl) (fun _ => ?_)
          refine fin_bool ?_
          first
            | (rw [decide_eq_decide]; dsimp only; omega)
            | (symm; rw [decide_eq_false_iff_not]; dsimp only; omega)
            | (symm; rw [decide_eq_true_iff]; dsimp only; omega)
            | (simp [*]; done)
            | (simp_all; done)
            | (simp_all [eqL, eqC]; done)
            | (simp_all [eqL, eqC]; omega)
  · have hof : opFr is (labelsL is) (n + 1) = 0 := by
      unfold opFr
      rw [if_neg (fun h => hn1 h.1)]
    obtain ⟨o1, ho1⟩ : ∃ o : Int, o = 0 := ⟨0, rfl⟩
    refine aw_pick (objs' := (s7, b7, .box [.int .i64 o1, .int .i64 0, .int .i64 0, .str ⟨#[]⟩]) :: (s6, b6, .box [.int .i64 op, .int .i64 a, .int .i64 b, .str t]) :: []) (by rw [ho1]; exact .refl _) ?_
    · subst h
      rw [hF4]
      clear hF1 hF2 hF3 hF4 hF5 hF0 hdep hnew hof
      by_cases h20 : op = 20
      · subst h20
        have hra := inR_b (List.all_eq_true.1 hla 1 (by simp [labOff_20]))
        rw [labV_1] at hra
        obtain ⟨an, rfl⟩ : ∃ an : Nat, a = an := ⟨a.toNat, by omega⟩
        have hal : an < is.length := by omega
        have hrow4 := hro an hal
        rw [Int.toNat_natCast, hio an hal]
        generalize is[an] = x4 at hrow4 ⊢
        obtain ⟨o4, a4, b4, t4⟩ := x4
        dsimp only at hrow4 ⊢
        repeat' (first | ((with_reducible apply o_y); exact y_; rfl) | with_reducible refine aw_draw (by kernel_rfl) (by kernel_rfl) ?_ | with_reducible refine dr_nil ?_ | with_reducible refine dr_none rfl ?_ | refine dr_run rfl rfl rfl rr_ ?_ | refine dr_skip rfl rfl rfl rr_ rfl rfl rfl ?_ | (refine dr_gt rfl rfl rfl rr_ dd_ ?_) | (refine dr_gsplit rfl rfl rfl rr_ (fun hg => ?_) (fun hg => ?_)) | ((with_reducible apply d_y); exact y_; rfl) | with_reducible refine al_none rfl ?_ | (with_reducible first | apply aw_seq | apply aw_region | apply al_nil | apply aq_then | apply aw_block | apply aw_skip | apply aw_ret | apply aq_then_ret | apply aq_block_ret) | (refine aw_cond_dt rfl rr_ dd_ ?_) | (refine aw_cond_df rfl rr_ dd_ ?_))
        all_goals
          refine aq_ret1 x_ rfl (.tmp _ _ rfl) (fun _ => ?_)
          refine fin_bool ?_
          first
            | (rw [decide_eq_decide]; dsimp only; omega)
            | (symm; rw [decide_eq_false_iff_not]; dsimp only; omega)
            | (symm; rw [decide_eq_true_iff]; dsimp only; omega)
            | (simp [*]; done)
            | (simp_all; done)
            | (simp_all [eqL, eqC]; done)
            | (simp_all [eqL, eqC]; omega)
      · repeat' (first | ((with_reducible apply o_y); exact y_; rfl) | with_reducible refine aw_draw (by kernel_rfl) (by kernel_rfl) ?_ | with_reducible refine dr_nil ?_ | with_reducible refine dr_none rfl ?_ | refine dr_skip rfl rfl rfl rr_ rfl rfl rfl ?_ | (refine dr_gf rfl rfl rfl rr_ dd_ ?_) | ((with_reducible apply d_y); exact y_; rfl) | with_reducible refine al_none rfl ?_ | (with_reducible first | apply aw_seq | apply aw_region | apply al_nil | apply aq_then | apply aw_block | apply aw_skip | apply aw_ret | apply aq_then_ret | apply aq_block_ret) | (refine aw_cond_dt rfl rr_ dd_ ?_) | (refine aw_cond_df rfl rr_ dd_ ?_))
        all_goals
          refine aq_ret1 x_ rfl (.tmp _ _ rfl) (fun _ => ?_)
          refine fin_bool ?_
          first
            | (rw [decide_eq_decide]; dsimp only; omega)
            | (symm; rw [decide_eq_false_iff_not]; dsimp only; omega)
            | (symm; rw [decide_eq_true_iff]; dsimp only; omega)
            | (simp [*]; done)
            | (simp_all; done)
            | (simp_all [eqL, eqC]; done)
            | (simp_all [eqL, eqC]; omega)
end Go.Proofs.YthpdkhejeookhaaGreatDoor
/- IsVerified: an instruction, on the side of the reference (l16Instr). -/
namespace Go.Proofs.YthpdkhejeookhaaGreatDoor
set_option maxRecDepth 20000
open Go Go.RowKit
section
variable {G : World → Prop}
set_option maxRecDepth 8000 in
set_option maxHeartbeats 8000000 in
theorem l16Instr_ct (hst : Stable G) (hse : ∀ s : ByteArray, s.size ≤ 1048576 → Ct Tryz.prog G 182 [.str s] (fun _ => .bool (isSelL s.data.toList)))
    (f lo lo2 : Nat) (cl : List TClassInfo) (cen : TV) (cs : List TCode) (mn : Int) (hcl : cl.length ≤ 1048576) (hcs : cs.length ≤ 1048576 ∧ ∀ y ∈ cs, TCode.small 1048576 y) (o : List Int) (hinv : outInv cs.length o) (k : Nat) (own : TCode) (hk : cs[k]? = some own) (hsl : 0 ≤ own.slots ∧ own.slots ≤ 30)
    (L : List Int) (hL : L = (climb o cs.length k).reverse) (x : TInstr) (hx : x.text.size ≤ 1048576) (hbf : blockFits cs k x) :
    Ct Tryz.prog G 184 [.cp f [.sl lo 3 (cl.map (TClassInfo.tw lo)), .sl lo 4 (cs.map (TCode.tw lo)), cen, .int .i64 mn], .int .i64 (k : Int), .agg [.int .i64 x.op, .int .i64 x.a, .int .i64 x.b, .str x.text], .sl lo2 1 (intR L)] (fun _ => .bool (instrB cs cl.length o k own x)) := by
  obtain ⟨op, a, b, t⟩ := x
  dsimp only at hx ⊢
  refine ct_enter Tryz.func184 rfl Tryz.ntmps184 rfl rfl fun w0 _ hG => ?_
  have hl1 := TClassInfo.len lo cl
  have hl2 := TCode.len lo cs
  have hll := intR_length L
  have hLn : L.length ≤ 1048576 := by rw [hL, List.length_reverse]; exact Nat.le_trans (climb_len _ _ _) hcs.1
  have hkl : k < cs.length := (List.getElem?_eq_some_iff.1 hk).1
  have hrk : (cs.map (TCode.tw lo))[k]? = some [.bool own.block, .int .i64 own.params, .int .i64 own.slots, .sl lo 4 (own.instrs.map (TInstr.tw lo))] := by rw [List.getElem?_map, hk]; rfl
  have hil := TInstr.len lo own.instrs
  have hin : own.instrs.length ≤ 1048576 := (hcs.2 own (List.mem_of_getElem? hk)).1
  repeat' (first | ((with_reducible apply o_y); exact y_; rfl) | refine e_box ?_ | (refine e_alloc ?_; intro ss bb) | refine e_storep ?_ | refine e_call hG hst (l14Uses_ct _) ?_ | with_reducible refine aw_hold_r (id := 3) ?_ | with_reducible refine al_none rfl ?_ | (with_reducible first | apply aw_seq | apply aw_region | apply al_nil | apply aq_then))
  refine ⟨aw_seq ?_⟩
  generalize ss = s9; generalize bb = b9
  apply aw_join (X := Unit) [0, 1, 3, 6, 9] (fun _ => [(60, .bool (!decide (instrHead ⟨op, a, b, t⟩)))]) (fun _ => [(s9, b9, .box [.bool own.block, .int .i64 own.params, .int .i64 own.slots, .sl lo 4 (own.instrs.map (TInstr.tw lo))])]) (fun _ => True)
  case _hk => (repeat (first | exact Kept.nil | (apply Kept.cons; rfl)))
  · clear hrk hk hL hbf hinv hse hl1 hl2 hll hLn hin hil
    repeat' (first | ((with_reducible apply o_y); exact y_; rfl) | refine e_call hG hst (l1In_ct _ _ _) ?_ | with_reducible refine al_none rfl ?_ | (with_reducible first | apply aw_region | apply al_nil) | refine al_run rfl rfl rfl rr_ ?_ | refine al_skip rfl rfl rfl rr_ rfl rfl rfl ?_ | refine al_skip2 rfl rfl rfl rr_ rfl rfl ?_ | (refine al_gsplit rfl rfl rfl rr_ (fun hg => ?_) (fun hg => ?_)) | (refine al_gsplit_b rfl rfl rfl rr_ (fun hg => ?_) (fun hg => ?_)))
    all_goals
      refine aq_mid () trivial (.of _ (Weak.envCons (lk_bool rfl ?_) Weak.envNil) od_ pk_)
      simp only [Bool.not_eq_true', Bool.not_eq_false', ne_eq, Decidable.not_not] at *
      first
        | (simp [instrHead, *]; done)
  intro _ _
  by_cases hh : instrHead ⟨op, a, b, t⟩
  case neg =>
    have hB : instrB cs cl.length o k own ⟨op, a, b, t⟩ = false := by unfold instrB; rw [decide_eq_false hh]; rfl
    rw [hB, decide_eq_false hh, Bool.not_false]
    repeat' (first | ((with_reducible apply o_y); exact y_; rfl) | with_reducible refine al_none rfl ?_ | (with_reducible first | apply aw_seq | apply aw_region | apply al_nil | apply aq_then | apply aw_ret | apply aq_then_ret) | refine aw_cond_t rfl rr_ ?_)
    refine aq_ret1 x_ rfl (.tmp _ _ rfl) (fun _ => ?_)
    exact Fin.flat rfl
  have hB : instrB cs cl.length o k own ⟨op, a, b, t⟩ = instrTail cs cl.length o k own ⟨op, a, b, t⟩ := by unfold instrB; rw [decide_eq_true hh]; rfl
  rw [hB, decide_eq_true hh, Bool.not_true]
  have hlabt : (!inR b 0 ((L.length : Int) - 1)) = false → (0 ≤ b ∧ b ≤ (L.length : Int) - 1) ∧ ∃ (q v : Nat) (y : TCode), (L.length : Int) - 1 - b = q ∧ (intR L)[q]? = some [.int .i64 (v : Int)] ∧ cs[v]? = some y ∧ levelOf cs o k b = some y := fun h => by
    have h2 : 0 ≤ b ∧ b ≤ (L.length : Int) - 1 := by simpa [inR] using h
    exact ⟨h2, level_list hinv hkl hL h2⟩
  have hlabf : (!inR b 0 ((L.length : Int) - 1)) = true → varOk cs o k ⟨op, a, b, t⟩ = false := fun h => by
    have h2 : ¬ (0 ≤ b ∧ b ≤ (L.length : Int) - 1) := by
      intro h3
      rw [inR_t h3] at h; cases h
    unfold varOk
    dsimp only
    rw [level_list_off hinv hkl hL h2]
  unfold blockFits at hbf
  dsimp only at hbf
  clear hB hinv hL hk
  repeat' (first | ((with_reducible apply o_y); exact y_; rfl) | with_reducible refine aw_draw (by kernel_rfl) (by kernel_rfl) ?_ | with_reducible refine dr_nil ?_ | with_reducible refine dr_none rfl ?_ | refine dr_run rfl rfl rfl rr_ ?_ | refine dr_skip rfl rfl rfl rr_ rfl rfl rfl ?_ | (refine dr_gsplit_b rfl rfl rfl rr_ (fun hg => ?_) (fun hg => ?_)) | ((with_reducible apply d_y); exact y_; rfl) | refine e_call hG hst (l1In_ct _ _ _) ?_ | refine e_call hG hst (l3IsText_ct _ hx) ?_ | refine e_call hG hst (hse _ hx) ?_ | refine e_call hG hst (specIsName_ct hst _ hx) ?_ | refine e_calld hG hst (l1In_ct _ _ _) ?_ | refine e_calld hG hst (hse _ hx) ?_ | with_reducible refine aw_hold_r (id := 18) ?_ | with_reducible refine aw_hold_r (id := 31) ?_ | with_reducible refine al_none rfl ?_ | (with_reducible first | apply aw_seq | apply aw_region | apply al_nil | apply aq_then | apply aw_block | apply aw_skip | apply aw_ret | apply aq_then_ret | apply aq_block_ret | apply aq_block) | refine al_run rfl rfl rfl rr_ ?_ | refine al_skip rfl rfl rfl rr_ rfl rfl rfl ?_ | (refine al_gsplit_b rfl rfl rfl rr_ (fun hg => ?_) (fun hg => ?_)) | refine aw_cond_f rfl rr_ ?_ | (refine aw_cond_dt rfl rr_ dd_ ?_) | (refine aw_cond rfl rr_ (fun hc => ?_) (fun hc => ?_)) | (refine aw_cond_b rfl rr_ (fun hc => ?_) (fun hc => ?_)))
  all_goals first
    | (refine aq_ret1 x_ rfl (.tmp _ _ rfl) (fun _ => ?_)
       clear hlabt hrk hbf hl1 hl2 hll hil hcs hse hh
       refine fin_bool ?_
       first
         | (simp [instrTail, *]; done)
         | (have hv := hlabf (by assumption)
            clear hlabf
            subst_vars
            simp [instrTail, hv]; done))
    | (refine ⟨?_⟩
       have h15 : op = 15 := by assumption
       obtain ⟨ha, y, hy, hyb⟩ := hbf h15
       obtain ⟨c, rfl⟩ : ∃ c : Nat, a = c := ⟨a.toNat, by omega⟩
       rw [Int.toNat_natCast] at hy
       have hry : (cs.map (TCode.tw lo))[c]? = some [.bool true, .int .i64 y.params, .int .i64 y.slots, .sl lo 4 (y.instrs.map (TInstr.tw lo))] := by rw [List.getElem?_map, hy, ← hyb]; rfl
       have cin := l1In_ct (G := G) (c : Int) 0 ((k - 1 : Nat) : Int)
       rw [inR_t (by omega)] at cin
       repeat' (first | with_reducible refine aw_draw (by kernel_rfl) (by kernel_rfl) ?_ | with_reducible refine dr_nil ?_ | with_reducible refine dr_none rfl ?_ | refine dr_run rfl rfl rfl rr_ ?_ | ((with_reducible apply d_y); exact y_; rfl) | refine e_calld hG hst (cin) ?_ | (with_reducible first | apply aw_seq | apply aq_then | apply aw_ret | apply aq_then_ret | apply aq_block_ret))
       refine aq_ret1 x_ rfl (.tmp _ _ rfl) (fun _ => ?_)
       refine fin_bool ?_
       simp [instrTail, h15]; done)
    | (refine ⟨?_⟩
       obtain ⟨hb, q, v, y, hq, hrow, hy, hlev⟩ := hlabt (by assumption)
       obtain ⟨c, rfl⟩ : ∃ c : Nat, b = c := ⟨b.toNat, by omega⟩
       obtain rfl : q = L.length - 1 - c := by omega
       have hry : (cs.map (TCode.tw lo))[v]? = some [.bool y.block, .int .i64 y.params, .int .i64 y.slots, .sl lo 4 (y.instrs.map (TInstr.tw lo))] := by rw [List.getElem?_map, hy]; rfl
       clear hlabt hlabf hbf hq
       repeat' (first | ((with_reducible apply o_y); exact y_; rfl) | ((with_reducible apply aw_draw3 (id := 18) 15); kernel_rfl; kernel_rfl; kernel_rfl; (repeat (first | exact Cut.zero _ | apply Cut.succ)); rfl; rfl; rfl; rfl; rfl; kernel_rfl; rfl) | ((with_reducible apply u_y); exact yu_; rfl) | (with_reducible refine du_nil ?_; intro ss bb) | refine e_storep ?_ | refine e_call hG hst (l1In_ct _ _ _) ?_ | with_reducible refine al_none rfl ?_ | (with_reducible first | apply aw_seq | apply aw_region | apply al_nil | apply aq_then | apply aw_skip | apply aw_ret | apply aq_then_ret | apply aq_block_ret) | (refine aw_cond_dt rfl rr_ dd_ ?_) | (refine aw_cond_df rfl rr_ dd_ ?_))
       all_goals first
         | (refine aq_ret1 x_ rfl (.tmp _ _ rfl) (fun _ => ?_)
            refine fin_bool ?_
            clear hrk hl1 hl2 hll hil hcs hse hh
            subst_vars
            simp [instrTail, varOk, hlev]; done))
end
end Go.Proofs.YthpdkhejeookhaaGreatDoor
/- IsVerified: a code, on the side of the reference (l16Code). -/
namespace Go.Proofs.YthpdkhejeookhaaGreatDoor
set_option maxRecDepth 20000
open Go Go.RowKit
/-- The codes around a code, as far as i of them, the innermost last. -/
def chainL (o : List Int) (n k i : Nat) : List Int := ((climb o n (k : Int)).take i).reverse
theorem chainL_len (o : List Int) (n k i : Nat) : (chainL o n k i).length ≤ n := by
  have := climb_len o n (k : Int)
  simp [chainL]; omega
theorem chainL_step {o : List Int} {n k i : Nat} {v : Int} (h : (climb o n (k : Int))[i]? = some v) : v :: chainL o n k i = chainL o n k (i + 1) := by
  unfold chainL
  rw [List.take_add_one, h]; simp
theorem chainL_end {o : List Int} {n k i : Nat} (h : (climb o n (k : Int))[i]? = none) : chainL o n k i = (climb o n (k : Int)).reverse := by
  unfold chainL
  rw [List.take_of_length_le (List.getElem?_eq_none_iff.1 h)]
set_option maxRecDepth 8000 in
set_option maxHeartbeats 8000000 in
theorem l16Code_ct (f lo lo2 : Nat) (cl : List TClassInfo) (cen : TV) (cs : List TCode) (mn : Int) (hcl : cl.length ≤ 1048576) (hcs : cs.length ≤ 1048576 ∧ ∀ y ∈ cs, TCode.small 1048576 y) (o : List Int) (hinv : outInv cs.length o) (k : Nat) (own : TCode) (hk : cs[k]? = some own)
    (hbf : ∀ x ∈ own.instrs, blockFits cs k x) :
    Ct Tryz.prog GL 109 [.cp f [.sl lo 3 (cl.map (TClassInfo.tw lo)), .sl lo 4 (cs.map (TCode.tw lo)), cen, .int .i64 mn], .int .i64 (k : Int), .sl lo2 1 (intR o)] (fun _ => .bool (codeB cs cl.length o k own)) := by
  refine ct_enter Tryz.func109 rfl Tryz.ntmps109 rfl rfl fun w0 _ hG => ?_
  have hst := GL_st
  have hkl : k < cs.length := (List.getElem?_eq_some_iff.1 hk).1
  have hsm := hcs.2 own (List.mem_of_getElem? hk)
  have hiq := fun L hL x hx hb hsl => l16Instr_ct hst hseS f lo w0.heap.size cl cen cs mn hcl hcs o hinv k own hk hsl L hL x hx hb
  have hpre := instrs_pre (cs := cs) (nc := cl.length) (o := o) (k := k) (own := own)
  have hcF := codeB_f (cs := cs) (nc := cl.length) (o := o) (k := k) (x := own)
  have hcT := codeB_t (cs := cs) (nc := cl.length) (o := o) (k := k) (x := own)
  unfold codeOk codeHead at hcF hcT
  have hrk : (cs.map (TCode.tw lo))[k]? = some [.bool own.block, .int .i64 own.params, .int .i64 own.slots, .sl lo 4 (own.instrs.map (TInstr.tw lo))] := by rw [List.getElem?_map, hk]; rfl
  clear hk
  have hgen : ∀ x ∈ own.instrs, instrB cs cl.length o k own x = true → True := fun _ _ _ => trivial
  clear hgen
  have hB : ∃ B : TInstr → Bool, B = instrB cs cl.length o k own := ⟨_, rfl⟩
  obtain ⟨B, hB⟩ := hB
  rw [← hB] at hcF hcT hpre
  have hiq2 : ∀ (L : List Int), L = (climb o cs.length (k : Int)).reverse → ∀ x : TInstr, x.text.size ≤ 1048576 → blockFits cs k x → 0 ≤ own.slots ∧ own.slots ≤ 30 → Ct Tryz.prog GL 184 [.cp f [.sl lo 3 (cl.map (TClassInfo.tw lo)), .sl lo 4 (cs.map (TCode.tw lo)), cen, .int .i64 mn], .int .i64 (k : Int), .agg [.int .i64 x.op, .int .i64 x.a, .int .i64 x.b, .str x.text], .sl w0.heap.size 1 (intR L)] (fun _ => .bool (B x)) := fun L hL x hx hb hsl => by rw [hB]; exact hiq L hL x hx hb hsl
  clear hiq
  have hcB : codeB cs cl.length o k own = codeB cs cl.length o k own := rfl
  generalize hC : codeB cs cl.length o k own = C at hcF hcT ⊢
  clear hB hcB hC
  obtain ⟨bl, pr, sl, is⟩ := own
  dsimp only at hbf hsm hiq2 hpre hcF hcT hrk
  have hn : is.length ≤ 1048576 := hsm.1
  have ht : ∀ i ∈ is, i.text.size ≤ 1048576 := hsm.2
  have hil := TInstr.len lo is
  have c1 := l1In_ct (G := GL) sl 0 30
  have c2 := l1In_ct (G := GL) pr 0 sl
  by_cases h1 : inR sl 0 30 = true
  case neg =>
    rw [hcF fun h => h1 h.1.1]
    rw [Bool.eq_false_iff.2 h1] at c1
    repeat' (first | ((with_reducible apply o_y); exact y_; rfl) | with_reducible refine aw_draw (by kernel_rfl) (by kernel_rfl) ?_ | with_reducible refine dr_nil ?_ | with_reducible refine dr_none rfl ?_ | refine dr_skip rfl rfl rfl rr_ rfl rfl rfl ?_ | ((with_reducible apply d_y); exact y_; rfl) | refine e_calld hG hst (c1) ?_ | with_reducible refine al_none rfl ?_ | (with_reducible first | apply aw_seq | apply aw_region | apply al_nil | apply aq_then | apply aw_ret | apply aq_then_ret) | refine aw_cond_t rfl rr_ ?_)
    refine aq_ret1 x_ rfl (.tmp _ _ rfl) (fun _ => ?_)
    exact Fin.flat rfl
  by_cases h2 : inR pr 0 sl = true
  case neg =>
    rw [hcF fun h => h2 h.1.2.1]
    rw [h1] at c1
    rw [Bool.eq_false_iff.2 h2] at c2
    repeat' (first | ((with_reducible apply o_y); exact y_; rfl) | with_reducible refine aw_draw (by kernel_rfl) (by kernel_rfl) ?_ | with_reducible refine dr_nil ?_ | with_reducible refine dr_none rfl ?_ | refine dr_run rfl rfl rfl rr_ ?_ | refine dr_skip rfl rfl rfl rr_ rfl rfl rfl ?_ | ((with_reducible apply d_y); exact y_; rfl) | refine e_calld hG hst (c1) ?_ | refine e_calld hG hst (c2) ?_ | with_reducible refine al_none rfl ?_ | (with_reducible first | apply aw_seq | apply aw_region | apply al_nil | apply aq_then | apply aw_ret | apply aq_then_ret) | refine aw_cond_t rfl rr_ ?_)
    refine aq_ret1 x_ rfl (.tmp _ _ rfl) (fun _ => ?_)
    exact Fin.flat rfl
  rw [h1] at c1
  rw [h2] at c2
  by_cases h3 : is.length ≤ 900
  case neg =>
    rw [hcF fun h => h3 h.1.2.2]
    repeat' (first | ((with_reducible apply o_y); exact y_; rfl) | with_reducible refine aw_draw (by kernel_rfl) (by kernel_rfl) ?_ | with_reducible refine dr_nil ?_ | with_reducible refine dr_none rfl ?_ | refine dr_run rfl rfl rfl rr_ ?_ | ((with_reducible apply d_y); exact y_; rfl) | refine e_calld hG hst (c1) ?_ | refine e_calld hG hst (c2) ?_ | with_reducible refine al_none rfl ?_ | (with_reducible first | apply aw_seq | apply aw_region | apply al_nil | apply aq_then | apply aw_ret | apply aq_then_ret) | (refine aw_cond_dt rfl rr_ dd_ ?_))
    refine aq_ret1 x_ rfl (.tmp _ _ rfl) (fun _ => ?_)
    exact Fin.flat rfl
  have hsl := of_decide_eq_true h1
  repeat' (first | ((with_reducible apply o_y); exact y_; rfl) | with_reducible refine aw_draw (by kernel_rfl) (by kernel_rfl) ?_ | with_reducible refine dr_nil ?_ | with_reducible refine dr_none rfl ?_ | refine dr_run rfl rfl rfl rr_ ?_ | ((with_reducible apply d_y); exact y_; rfl) | refine e_lit ?_ | refine e_calld hG hst (c1) ?_ | refine e_calld hG hst (c2) ?_ | with_reducible refine al_none rfl ?_ | (with_reducible first | apply aw_seq | apply aw_region | apply al_nil | apply aq_then | apply aw_block | apply aw_skip) | (refine aw_cond_df rfl rr_ dd_ ?_))
  have hinv' : outInv o.length o := by rw [hinv.1]; exact hinv
  have hol : o.length = cs.length := hinv.1
  have hcl2 := hcs.1
  apply aw_loopk (X := Nat) [0, 1, 2, 7] (fun i => [(8, .sl w0.heap.size 1 (intR (chainL o cs.length k i))), (9, .int .i64 (upN o i (k : Int)))]) (fun _ => []) (fun i => i ≤ cs.length) (fun i => cs.length - i) 0 (Nat.zero_le _)
  exact kp_; (repeat (first | exact Weak.envNil | refine Weak.envCons we_ ?_))
  · exact .refl _
  intro i hi
  try dsimp only at hi ⊢
  have hup := upN_in hinv' i (k : Int) (.inr ⟨by omega, by omega⟩)
  have hcu := climb_up hinv' cs.length (k : Int) i (.inr ⟨by omega, by omega, by omega⟩)
  have hLl := chainL_len o cs.length k i
  have hLr := intR_length (chainL o cs.length k i)
  by_cases hat : 0 ≤ upN o i (k : Int)
  · obtain ⟨j, hj⟩ : ∃ j : Nat, upN o i (k : Int) = j := ⟨(upN o i (k : Int)).toNat, by omega⟩
    have hs := upN_succ o i (k : Int)
    rw [if_neg (by omega), hj] at hs
    rw [if_pos hat, hj] at hcu
    rw [hj] at hup
    have hin : i < cs.length := Nat.lt_of_lt_of_le (List.getElem?_eq_some_iff.1 hcu).1 (climb_len _ _ _)
    have hrow := intR_gd (o := o) (j := j) (by omega)
    have hstep := chainL_step hcu
    generalize chainL o cs.length k i = L at hLl hLr hstep ⊢
    have hnew : [[TV.int .i64 (j : Int)]] ++ intR L = intR (chainL o cs.length k (i + 1)) := by rw [← hstep]; rfl
    rw [hj]
    repeat' (first | ((with_reducible apply o_y); exact y_; rfl) | (refine e_own ?_; intro ss bb) | (refine e_app ?_; intro bb) | with_reducible refine al_none rfl ?_ | (with_reducible first | apply aw_seq | apply aw_region | apply al_nil | apply aq_then | apply aw_block | apply aw_skip | apply aq_block) | (refine aw_cond_dt rfl rr_ dd_ ?_))
    refine aq_freeze (t := 8) rfl ?_ (.head _) ?_
    · simp [hLr]; omega
    rw [hnew]
    exact aq_round (i + 1) (by omega) (by omega) (.of _ nw_ od_ pk_)
  · rw [if_neg hat] at hcu
    have hend := chainL_end hcu
    rw [hend] at hLl hLr ⊢
    clear hend hcu
    have hins := hiq2 _ rfl
    clear hiq2
    generalize (climb o cs.length (k : Int)).reverse = L at hLl hLr hins ⊢
    repeat' (first | ((with_reducible apply o_y); exact y_; rfl) | with_reducible refine al_none rfl ?_ | (with_reducible first | apply aw_seq | apply aw_region | apply al_nil | apply aq_then | apply aw_block | apply aw_exit | apply aq_block_hit | apply aq_then_exit) | (refine aw_cond_df rfl rr_ dd_ ?_))
    apply aw_loopk (X := Nat) [0, 1, 7, 8] (fun q => [(10, .int .i64 (q : Int))]) (fun _ => []) (fun q => q ≤ is.length ∧ ∀ j, j < q → ∀ h : j < is.length, B is[j] = true) (fun q => is.length - q) 0 ⟨Nat.zero_le _, by omega⟩
    exact kp_; (repeat (first | exact Weak.envNil | refine Weak.envCons we_ ?_))
    · exact .refl _
    rintro q ⟨hq, hqa⟩
    try dsimp only
    by_cases hlt : q < is.length
    · have hra := tinstr_row (lo := lo) hlt
      have hmem : is[q] ∈ is := List.getElem_mem hlt
      have hxq := ht _ hmem
      have hct := hins is[q] hxq (hbf _ hmem) hsl
      have hnx : B is[q] = true → ∀ j, j < q + 1 → ∀ h : j < is.length, B is[j] = true := fun h => below_succ hqa fun _ => h
      have hbad : B is[q] = false → C = false := fun h => hcF fun k => by
        have := k.2.1 _ hmem
        rw [h] at this; cases this
      generalize is[q] = x at hra hct hnx hbad
      cases hBx : B x
      · rw [hBx] at hct
        rw [hbad hBx]
        repeat' (first | ((with_reducible apply o_y); exact y_; rfl) | refine e_call hG hst (hct) ?_ | with_reducible refine al_none rfl ?_ | (with_reducible first | apply aw_seq | apply aw_region | apply al_nil | apply aq_then | apply aw_block | apply aw_skip | apply aw_ret | apply aq_then_ret | apply aq_block_ret) | refine aw_cond_t rfl rr_ ?_ | (refine aw_cond_dt rfl rr_ dd_ ?_))
        refine aq_ret1 x_ rfl (.tmp _ _ rfl) (fun _ => ?_)
        exact Fin.flat rfl
      · rw [hBx] at hct
        repeat' (first | ((with_reducible apply o_y); exact y_; rfl) | refine e_call hG hst (hct) ?_ | with_reducible refine al_none rfl ?_ | (with_reducible first | apply aw_seq | apply aw_region | apply al_nil | apply aq_then | apply aw_block | apply aw_skip | apply aq_block) | refine aw_cond_f rfl rr_ ?_ | (refine aw_cond_dt rfl rr_ dd_ ?_))
        exact aq_round (q + 1) ⟨by omega, hnx hBx⟩ (by omega) (.of _ nw_ od_ pk_)
    · have hall : ∀ y ∈ is, B y = true := fun y hy => by
        obtain ⟨j, hj, rfl⟩ := List.getElem_of_mem hy
        exact hqa j (by omega) hj
      have hp := hpre hall
      have hdep := l16Depths_ct hst hcaS lo lo bl pr sl is hn ht hp
      have hnew := dO_new (depthsS is)
      have hCe : C = (depthsS is).isSome := by
        rw [← depthsL_eq is hp]
        cases hd : (depthsL is).isSome
        · exact hcF fun h => by rw [hd] at h; exact absurd h.2.2 (by simp)
        · exact hcT ⟨⟨h1, h2, h3⟩, hall, hd⟩
      rw [hCe]
      rw [instrs_tw lo] at hdep
      unfold dR dO at hdep hnew
      generalize (depthsS is).getD [] = ds at hdep hnew
      generalize (depthsS is).isSome = ok at hdep hnew ⊢
      repeat' (first | ((with_reducible apply o_y); exact y_; rfl) | ((with_reducible apply o_callOV); rfl; kernel_rfl; exact hG; exact hst; exact hdep; ((repeat (first | exact Args.nil | ((with_reducible apply Args.cons); rfl; (with_reducible exact View.same _))))); exact hnew; rintro ⟨ss, bb⟩ -; refine al_app1 ?_) | with_reducible refine al_none rfl ?_ | (with_reducible first | apply aw_seq | apply aw_region | apply al_nil | apply aq_then | apply aw_exit | apply aw_ret | apply aq_block_hit | apply aq_then_exit) | (refine aw_cond_df rfl rr_ dd_ ?_))
      refine aq_ret1 x_ rfl (.tmp _ _ rfl) (fun _ => ?_)
      exact Fin.flat rfl
end Go.Proofs.YthpdkhejeookhaaGreatDoor
/- IsVerified: the classes, on the side of the reference (l8IsClasses). -/
namespace Go.Proofs.YthpdkhejeookhaaGreatDoor
set_option maxRecDepth 20000
open Go Go.RowKit
section
variable {G : World → Prop}
set_option maxRecDepth 4000 in
set_option maxHeartbeats 4000000 in
theorem l8IsClasses_ct (hst : Stable G) (lo : Nat) (l : List TClassInfo) (hsm : l.length ≤ 1048576 ∧ ∀ y ∈ l, TClassInfo.small 1048576 y) : Ct Tryz.prog G 106 [.sl lo 3 (l.map (TClassInfo.tw lo))] (fun _ => .bool (classesOkB l)) := by
  refine ct_enter Tryz.func106 rfl Tryz.ntmps106 rfl rfl fun w0 _ hG => ?_
  have hlen := TClassInfo.len lo l
  have hbl := TClassInfo.len w0.heap.size builtinL
  rw [builtin_len] at hbl
  have hl1 := hsm.1
  by_cases hl : 16 ≤ l.length ∧ l.length ≤ 24
  · repeat' (first | ((with_reducible apply o_y); exact y_; rfl) | (refine e_alloc ?_; intro ss bb) | refine e_build ?_ | refine e_storep ?_ | ((with_reducible apply o_callV); rfl; kernel_rfl; exact hG; exact hst; exact l8Infos_ct hst [.str ⟨#[]⟩, .bool false, .nils, .nils, .nils]; (apply Args.cons; rfl; exact View.mpSame List.mem_cons_self); exact Args.nil) | with_reducible refine al_none rfl ?_ | (with_reducible first | apply aw_seq | apply aw_region | apply al_nil | apply aq_then | apply aw_block | apply aw_skip) | refine al_run rfl rfl rfl rr_ ?_ | (refine al_gf rfl rfl rfl rr_ dd_ ?_) | (refine aw_cond_df rfl rr_ dd_ ?_))
    apply aw_loopk (X := Nat) [0, 4] (fun i => [(5, .int .i64 (i : Int))]) (fun _ => []) (fun i => i ≤ l.length ∧ ∀ j, j < i → ∀ h : j < l.length, classOk l j l[j]) (fun i => l.length - i) 0 ⟨Nat.zero_le _, by simp⟩
    exact kp_; (repeat (first | exact Weak.envNil | refine Weak.envCons we_ ?_))
    · exact .nil _
    rintro i ⟨hi, hk⟩
    try dsimp only
    by_cases hlt : i < l.length
    · have hra : (l.map (TClassInfo.tw lo))[i]? = some (l[i].tw lo) := row_map hlt
      have hbi := hsm.2 _ (List.getElem_mem hlt)
      have hbad := classesOk_bad hlt
      have hks : classOk l i l[i] → ∀ j, j < i + 1 → ∀ h : j < l.length, classOk l j l[j] := fun ho => below_succ hk fun _ => ho
      generalize l[i] = x at hra hbi hbad hks
      rw [show x.tw lo = [.str x.name, .int .i64 x.parent, .sl lo 1 (strR x.fields)] from rfl] at hra
      by_cases hlow : i < 16
      · obtain ⟨bi, hb, _, _, h3, _⟩ := builtin_at hlow
        have hrb : (builtinL.map (TClassInfo.tw w0.heap.size))[i]? = some [.str bi.name, .int .i64 bi.parent, .sl w0.heap.size 1 (strR bi.fields)] := by rw [List.getElem?_map, hb]; rfl
        rw [classOk_low hlow hb] at hbad hks
        have hbf : bi.fields.length ≤ 1048576 := by rw [← h3]; unfold bfields; split <;> simp
        have heq := l3Texts_ct (G := G) lo w0.heap.size x.fields bi.fields hbi.2.1 hbf
        clear h3
        by_cases ho : x.name = bi.name ∧ x.parent = bi.parent ∧ x.fields = bi.fields
        · have n1 : ¬ x.name ≠ bi.name := fun h => h ho.1
          have n2 : ¬ x.parent ≠ bi.parent := fun h => h ho.2.1
          rw [decide_eq_true ho.2.2] at heq
          repeat' (first | ((with_reducible apply o_y); exact y_; rfl) | (refine e_alloc ?_; intro ss bb) | refine e_storep ?_ | with_reducible refine aw_draw (by kernel_rfl) (by kernel_rfl) ?_ | with_reducible refine dr_nil ?_ | with_reducible refine dr_none rfl ?_ | refine dr_run rfl rfl rfl rr_ ?_ | (refine dr_gf rfl rfl rfl rr_ dd_ ?_) | ((with_reducible apply d_y); exact y_; rfl) | refine e_calld hG hst (heq) ?_ | with_reducible refine al_none rfl ?_ | (with_reducible first | apply aw_seq | apply aw_region | apply al_nil | apply aq_then | apply aw_block | apply aw_exit | apply aw_skip | apply aq_block_hit | apply aq_then_exit) | refine aw_cond_f rfl rr_ ?_ | (refine aw_cond_dt rfl rr_ dd_ ?_))
          exact aq_round (i + 1) ⟨by omega, hks ho⟩ (by omega) (.of _ nw_ od_ (Pick.nil _))
        · rw [hbad ho]
          clear hks hbad
          by_cases hfe : x.fields = bi.fields
          · rw [decide_eq_true hfe] at heq
            repeat' (first | ((with_reducible apply o_y); exact y_; rfl) | (refine e_alloc ?_; intro ss bb) | refine e_storep ?_ | with_reducible refine aw_draw (by kernel_rfl) (by kernel_rfl) ?_ | with_reducible refine dr_nil ?_ | with_reducible refine dr_none rfl ?_ | refine dr_run rfl rfl rfl rr_ ?_ | refine dr_skip rfl rfl rfl rr_ rfl rfl rfl ?_ | (refine dr_gsplit rfl rfl rfl rr_ (fun hg => ?_) (fun hg => ?_)) | ((with_reducible apply d_y); exact y_; rfl) | refine e_calld hG hst (heq) ?_ | with_reducible refine al_none rfl ?_ | (with_reducible first | apply aw_seq | apply aw_region | apply al_nil | apply aq_then | apply aw_block | apply aw_exit | apply aw_skip | apply aw_ret | apply aq_block_hit | apply aq_then_exit | apply aq_then_ret | apply aq_block_ret) | refine aw_cond_t rfl rr_ ?_ | refine aw_cond_f rfl rr_ ?_ | (refine aw_cond_dt rfl rr_ dd_ ?_))
            all_goals first
              | (exfalso; exact ho ⟨Decidable.of_not_not (by assumption), Decidable.of_not_not (by assumption), hfe⟩)
              | (refine aq_ret1 x_ rfl (.tmp _ _ rfl) (fun _ => ?_)
                 exact Fin.flat rfl)
          · rw [decide_eq_false hfe] at heq
            repeat' (first | ((with_reducible apply o_y); exact y_; rfl) | (refine e_alloc ?_; intro ss bb) | refine e_storep ?_ | with_reducible refine aw_draw (by kernel_rfl) (by kernel_rfl) ?_ | with_reducible refine dr_nil ?_ | with_reducible refine dr_none rfl ?_ | refine dr_run rfl rfl rfl rr_ ?_ | refine dr_skip rfl rfl rfl rr_ rfl rfl rfl ?_ | (refine dr_gsplit rfl rfl rfl rr_ (fun hg => ?_) (fun hg => ?_)) | ((with_reducible apply d_y); exact y_; rfl) | refine e_calld hG hst (heq) ?_ | with_reducible refine al_none rfl ?_ | (with_reducible first | apply aw_seq | apply aw_region | apply al_nil | apply aq_then | apply aw_block | apply aw_skip | apply aw_ret | apply aq_then_ret | apply aq_block_ret) | refine aw_cond_t rfl rr_ ?_ | (refine aw_cond_dt rfl rr_ dd_ ?_))
            all_goals
              refine aq_ret1 x_ rfl (.tmp _ _ rfl) (fun _ => ?_)
              exact Fin.flat rfl
      · rw [classOk_high hlow] at hbad hks
        obtain ⟨nm, par, fs⟩ := x
        dsimp only at hra hbi hbad hks
        have hx1 : nm.size ≤ 1048576 := hbi.1
        have hx2 : fs.length ≤ 1048576 := hbi.2.1
        have hx3 : ∀ y ∈ fs, ByteArray.size y ≤ 1048576 := hbi.2.2
        have hfl := strR_len fs
        clear hbl
        repeat' (first | ((with_reducible apply o_y); exact y_; rfl) | (refine e_alloc ?_; intro ss bb) | refine e_storep ?_ | with_reducible refine aw_hold_r (id := 12) ?_ | with_reducible refine al_none rfl ?_ | (with_reducible first | apply aw_seq | apply aw_region | apply al_nil | apply aq_then | apply aw_block | apply aw_skip) | (refine aw_cond_dt rfl rr_ dd_ ?_) | (refine aw_cond_df rfl rr_ dd_ ?_))
        refine ⟨aw_seq ?_⟩
        generalize ss = s3; generalize bb = b3
        apply aw_join (X := Unit) [0, 4, 5, 6] (fun _ => [(88, .bool (!decide (classHead l i ⟨nm, par, fs⟩)))]) (fun _ => [(s3, b3, .box [.str nm, .int .i64 par, .sl lo 1 (strR fs)])]) (fun _ => True)
        case _hk => (repeat (first | exact Kept.nil | (apply Kept.cons; rfl)))
        · repeat' (first | ((with_reducible apply o_y); exact y_; rfl) | refine e_call hG hst (specIsName_ct hst _ hx1) ?_ | refine e_call hG hst (l1In_ct _ _ _) ?_ | with_reducible refine al_none rfl ?_ | (with_reducible first | apply aw_region | apply al_nil) | refine al_run rfl rfl rfl rr_ ?_ | refine al_skip rfl rfl rfl rr_ rfl rfl rfl ?_ | refine al_skip2 rfl rfl rfl rr_ rfl rfl ?_ | (refine al_gsplit rfl rfl rfl rr_ (fun hg => ?_) (fun hg => ?_)) | (refine al_gsplit_b rfl rfl rfl rr_ (fun hg => ?_) (fun hg => ?_)))
          all_goals
            refine aq_mid () trivial (.of _ (Weak.envCons (lk_bool rfl ?_) Weak.envNil) od_ pk_)
            clear hbad hks hk hra hbi
            simp only [Bool.not_eq_true', Bool.not_eq_false', inR, decide_eq_true_eq, decide_eq_false_iff_not] at *
            by_cases h8 : (8 : Int) < (fs.length : Int)
            all_goals (try simp only [h8, decide_true, decide_false])
            all_goals first
              | (have : classHead l i ⟨nm, par, fs⟩ := ⟨by assumption, by dsimp only; omega, by dsimp only; omega, by dsimp only; omega⟩
                 simp only [decide_eq_true this, Bool.not_true]
                 done)
              | (have : ¬ classHead l i ⟨nm, par, fs⟩ := fun h => by
                   obtain ⟨h1, h2, h3, h4⟩ := h
                   dsimp only at h1 h2 h3 h4
                   first
                     | omega
                     | (simp only [h1] at *; done)
                     | (simp_all; done)
                 simp only [decide_eq_false this, Bool.not_false]
                 done)
        intro _ _
        by_cases hh : classHead l i ⟨nm, par, fs⟩
        · rw [decide_eq_true hh, Bool.not_true]
          have hh2 := hh.2
          obtain ⟨⟨hp0, hp1⟩, _, hf8⟩ := hh2
          dsimp only at hp0 hp1 hf8
          obtain ⟨p, rfl⟩ : ∃ p : Nat, par = p := ⟨par.toNat, by omega⟩
          have hpl : p < l.length := by omega
          have hrp : (l.map (TClassInfo.tw lo))[p]? = some (l[p].tw lo) := row_map hpl
          have hbp := hsm.2 _ (List.getElem_mem hpl)
          have hpf := parentFields_eq (x := ⟨nm, (p : Int), fs⟩) rfl (List.getElem?_eq_getElem hpl)
          generalize l[p] = y at hrp hbp hpf
          obtain ⟨pn, pp, pf⟩ := y
          replace hrp : (l.map (TClassInfo.tw lo))[p]? = some [.str pn, .int .i64 pp, .sl lo 1 (strR pf)] := hrp
          have hx4 : pf.length ≤ 1048576 := hbp.2.1
          have hpl2 := strR_len pf
          repeat' (first | ((with_reducible apply o_y); exact y_; rfl) | with_reducible refine al_none rfl ?_ | (with_reducible first | apply aw_seq | apply aw_region | apply al_nil | apply aq_then | apply aw_block | apply aw_skip) | refine aw_cond_f rfl rr_ ?_)
          apply aw_loopk (X := Nat) [0, 4, 5, 6] (fun k => [(7, .int .i64 (k : Int))]) (fun _ => [(s3, b3, .box [.str nm, .int .i64 (p : Int), .sl lo 1 (strR fs)])]) (fun k => k ≤ i ∧ ∀ y ∈ l.take k, y.name ≠ nm) (fun k => i - k) 0 ⟨Nat.zero_le _, by simp⟩
          exact kp_; (repeat (first | exact Weak.envNil | refine Weak.envCons we_ ?_))
          · exact .refl _
          rintro k ⟨hki, hkn⟩
          try dsimp only
          by_cases hlk : k < i
          · have hlk2 : k < l.length := by omega
            have hrk : (l.map (TClassInfo.tw lo))[k]? = some (l[k].tw lo) := row_map hlk2
            have hta := take_all (p := fun y : TClassInfo => y.name ≠ nm) hlk2 hkn
            have hmem : l[k] ∈ l.take i := List.mem_take_iff_getElem.2 ⟨k, by omega, rfl⟩
            generalize l[k] = z at hrk hta hmem
            obtain ⟨zn, zp, zf⟩ := z
            replace hrk : (l.map (TClassInfo.tw lo))[k]? = some [.str zn, .int .i64 zp, .sl lo 1 (strR zf)] := hrk
            by_cases hzn : zn = nm
            · rw [hbad fun h => h.2.1 _ hmem hzn]
              repeat' (first | ((with_reducible apply o_y); exact y_; rfl) | with_reducible refine aw_draw (by kernel_rfl) (by kernel_rfl) ?_ | with_reducible refine dr_nil ?_ | with_reducible refine dr_none rfl ?_ | ((with_reducible apply d_y); exact y_; rfl) | with_reducible refine al_none rfl ?_ | (with_reducible first | apply aw_seq | apply aw_region | apply al_nil | apply aq_then | apply aw_block | apply aw_skip | apply aw_ret | apply aq_then_ret | apply aq_block_ret) | (refine aw_cond_dt rfl rr_ dd_ ?_))
              refine aq_ret1 x_ rfl (.tmp _ _ rfl) (fun _ => ?_)
              exact Fin.flat rfl
            · repeat' (first | ((with_reducible apply o_y); exact y_; rfl) | with_reducible refine aw_draw (by kernel_rfl) (by kernel_rfl) ?_ | with_reducible refine dr_nil ?_ | with_reducible refine dr_none rfl ?_ | ((with_reducible apply d_y); exact y_; rfl) | with_reducible refine al_none rfl ?_ | (with_reducible first | apply aw_seq | apply aw_region | apply al_nil | apply aq_then | apply aw_block | apply aw_skip | apply aq_block) | (refine aw_cond_dt rfl rr_ dd_ ?_) | (refine aw_cond_df rfl rr_ dd_ ?_))
              exact aq_round (k + 1) ⟨by omega, hta hzn⟩ (by omega) (.of _ nw_ od_ pk_)
          · obtain rfl : k = i := by omega
            clear hlk
            by_cases hhe : pf.length ≤ fs.length ∧ fs.take pf.length = pf
            · have heq := l3Texts_ct (G := G) lo lo (fs.take pf.length) pf (by simp; omega) hx4
              rw [decide_eq_true hhe.2] at heq
              have hsl : (strR fs).take pf.length = strR (fs.take pf.length) := by simp [strR, List.map_take]
              have hle := hhe.1
              repeat' (first | ((with_reducible apply o_y); exact y_; rfl) | with_reducible refine aw_draw (by kernel_rfl) (by kernel_rfl) ?_ | with_reducible refine dr_nil ?_ | with_reducible refine dr_none rfl ?_ | refine dr_run rfl rfl rfl rr_ ?_ | (refine dr_gf rfl rfl rfl rr_ dd_ ?_) | ((with_reducible apply d_y); exact y_; rfl) | refine e_slhd ?_ | refine e_calld hG hst (heq) ?_ | with_reducible refine al_none rfl ?_ | (with_reducible first | apply aw_seq | apply aw_region | apply al_nil | apply aq_then | apply aw_block | apply aw_exit | apply aw_skip | apply aq_block_hit | apply aq_then_exit) | refine aw_cond_f rfl rr_ ?_ | (refine aw_cond_df rfl rr_ dd_ ?_))
              apply aw_loopk (X := Nat) [0, 4, 5, 6] (fun k => [(9, .int .i64 (k : Int))]) (fun _ => [(s3, b3, .box [.str nm, .int .i64 (p : Int), .sl lo 1 (strR fs)])]) (fun k => k ≤ fs.length ∧ ∀ j, j < k → ∀ h : j < fs.length, fieldAt fs j fs[j] = true) (fun k => fs.length - k) 0 ⟨Nat.zero_le _, by omega⟩
              exact kp_; (repeat (first | exact Weak.envNil | refine Weak.envCons we_ ?_))
              · exact .refl _
              rintro q ⟨hq, hqa⟩
              try dsimp only
              by_cases hqf : q < fs.length
              · have hfr := strR_row hqf
                have hqs := hx3 _ (List.getElem_mem hqf)
                have hqb := fieldsOk_bad hqf
                have hqn : fieldAt fs q fs[q] = true → ∀ j, j < q + 1 → ∀ h : j < fs.length, fieldAt fs j fs[j] = true := fun h => below_succ hqa fun _ => h
                generalize fs[q] = f at hfr hqs hqb hqn
                have hname := specIsName_ct (G := G) hst f hqs
                have hhas := l1Has_ct (G := G) lo (fs.take q) f (by simp; omega)
                have hsq : (strR fs).take q = strR (fs.take q) := by simp [strR, List.map_take]
                have hqle : q ≤ fs.length := hq
                by_cases hqo : fieldAt fs q f = true
                · have hqo2 := hqo
                  unfold fieldAt at hqo2
                  rw [Bool.and_eq_true, Bool.not_eq_true'] at hqo2
                  rw [hqo2.1] at hname
                  rw [hqo2.2] at hhas
                  repeat' (first | ((with_reducible apply o_y); exact y_; rfl) | with_reducible refine aw_draw (by kernel_rfl) (by kernel_rfl) ?_ | with_reducible refine dr_nil ?_ | with_reducible refine dr_none rfl ?_ | refine dr_run rfl rfl rfl rr_ ?_ | ((with_reducible apply d_y); exact y_; rfl) | refine e_slhd ?_ | refine e_calld hG hst (hname) ?_ | refine e_calld hG hst (hhas) ?_ | with_reducible refine al_none rfl ?_ | (with_reducible first | apply aw_seq | apply aw_region | apply al_nil | apply aq_then | apply aw_block | apply aw_skip | apply aq_block) | refine aw_cond_f rfl rr_ ?_ | (refine aw_cond_dt rfl rr_ dd_ ?_))
                  exact aq_round (q + 1) ⟨by omega, hqn hqo⟩ (by omega) (.of _ nw_ od_ pk_)
                · rw [hbad fun h => hqb (Bool.eq_false_iff.2 hqo) h.2.2.2]
                  by_cases hqs1 : isNameL f.data.toList = true
                  · have hqs2 : hasS (fs.take q) f = true := by
                      unfold fieldAt at hqo
                      rw [hqs1, Bool.true_and] at hqo
                      simpa using hqo
                    rw [hqs1] at hname
                    rw [hqs2] at hhas
                    repeat' (first | ((with_reducible apply o_y); exact y_; rfl) | with_reducible refine aw_draw (by kernel_rfl) (by kernel_rfl) ?_ | with_reducible refine dr_nil ?_ | with_reducible refine dr_none rfl ?_ | refine dr_run rfl rfl rfl rr_ ?_ | ((with_reducible apply d_y); exact y_; rfl) | refine e_slhd ?_ | refine e_calld hG hst (hname) ?_ | refine e_calld hG hst (hhas) ?_ | with_reducible refine al_none rfl ?_ | (with_reducible first | apply aw_seq | apply aw_region | apply al_nil | apply aq_then | apply aw_block | apply aw_skip | apply aw_ret | apply aq_then_ret | apply aq_block_ret) | refine aw_cond_t rfl rr_ ?_ | (refine aw_cond_dt rfl rr_ dd_ ?_))
                    refine aq_ret1 x_ rfl (.tmp _ _ rfl) (fun _ => ?_)
                    exact Fin.flat rfl
                  · rw [Bool.eq_false_iff.2 hqs1] at hname
                    repeat' (first | ((with_reducible apply o_y); exact y_; rfl) | with_reducible refine aw_draw (by kernel_rfl) (by kernel_rfl) ?_ | with_reducible refine dr_nil ?_ | with_reducible refine dr_none rfl ?_ | refine dr_skip rfl rfl rfl rr_ rfl rfl rfl ?_ | ((with_reducible apply d_y); exact y_; rfl) | refine e_calld hG hst (hname) ?_ | with_reducible refine al_none rfl ?_ | (with_reducible first | apply aw_seq | apply aw_region | apply al_nil | apply aq_then | apply aw_block | apply aw_skip | apply aw_ret | apply aq_then_ret | apply aq_block_ret) | refine aw_cond_t rfl rr_ ?_ | (refine aw_cond_dt rfl rr_ dd_ ?_))
                    refine aq_ret1 x_ rfl (.tmp _ _ rfl) (fun _ => ?_)
                    exact Fin.flat rfl
              · obtain rfl : q = fs.length := by omega
                repeat' (first | ((with_reducible apply o_y); exact y_; rfl) | with_reducible refine al_none rfl ?_ | (with_reducible first | apply aw_seq | apply aw_region | apply al_nil | apply aq_then | apply aw_exit | apply aq_block_hit | apply aq_then_exit | apply aq_block) | (refine aw_cond_df rfl rr_ dd_ ?_))
                exact aq_round (k + 1) ⟨by omega, hks ⟨hh, hkn, ⟨by rw [hpf]; exact hhe.1, by rw [hpf]; exact hhe.2⟩, fun j hj => hqa j hj hj⟩⟩ (by omega) (.of _ nw_ od_ (Pick.nil _))
            · rw [hbad fun h => hhe (by have := h.2.2.1; unfold heirs at this; rw [hpf] at this; exact this)]
              by_cases hle : pf.length ≤ fs.length
              · have heq := l3Texts_ct (G := G) lo lo (fs.take pf.length) pf (by simp; omega) hx4
                rw [decide_eq_false fun h => hhe ⟨hle, h⟩] at heq
                have hsl : (strR fs).take pf.length = strR (fs.take pf.length) := by simp [strR, List.map_take]
                repeat' (first | ((with_reducible apply o_y); exact y_; rfl) | with_reducible refine aw_draw (by kernel_rfl) (by kernel_rfl) ?_ | with_reducible refine dr_nil ?_ | with_reducible refine dr_none rfl ?_ | refine dr_run rfl rfl rfl rr_ ?_ | (refine dr_gf rfl rfl rfl rr_ dd_ ?_) | ((with_reducible apply d_y); exact y_; rfl) | refine e_slhd ?_ | refine e_calld hG hst (heq) ?_ | with_reducible refine al_none rfl ?_ | (with_reducible first | apply aw_seq | apply aw_region | apply al_nil | apply aq_then | apply aw_exit | apply aw_ret | apply aq_block_hit | apply aq_then_exit | apply aq_then_ret | apply aq_block_ret) | refine aw_cond_t rfl rr_ ?_ | (refine aw_cond_df rfl rr_ dd_ ?_))
                refine aq_ret1 x_ rfl (.tmp _ _ rfl) (fun _ => ?_)
                exact Fin.flat rfl
              · repeat' (first | ((with_reducible apply o_y); exact y_; rfl) | with_reducible refine aw_draw (by kernel_rfl) (by kernel_rfl) ?_ | with_reducible refine dr_nil ?_ | with_reducible refine dr_none rfl ?_ | refine dr_skip rfl rfl rfl rr_ rfl rfl rfl ?_ | (refine dr_gt rfl rfl rfl rr_ dd_ ?_) | ((with_reducible apply d_y); exact y_; rfl) | with_reducible refine al_none rfl ?_ | (with_reducible first | apply aw_seq | apply aw_region | apply al_nil | apply aq_then | apply aw_exit | apply aw_ret | apply aq_block_hit | apply aq_then_exit | apply aq_then_ret | apply aq_block_ret) | refine aw_cond_t rfl rr_ ?_ | (refine aw_cond_df rfl rr_ dd_ ?_))
                refine aq_ret1 x_ rfl (.tmp _ _ rfl) (fun _ => ?_)
                exact Fin.flat rfl
        · rw [decide_eq_false hh, Bool.not_false, hbad fun h => hh h.1]
          repeat' (first | ((with_reducible apply o_y); exact y_; rfl) | with_reducible refine al_none rfl ?_ | (with_reducible first | apply aw_seq | apply aw_region | apply al_nil | apply aq_then | apply aw_ret | apply aq_then_ret | apply aq_block_ret) | refine aw_cond_t rfl rr_ ?_)
          refine aq_ret1 x_ rfl (.tmp _ _ rfl) (fun _ => ?_)
          exact Fin.flat rfl
    · rw [classesOk_good hl fun j hj => hk j (by omega)]
      repeat' (first | ((with_reducible apply o_y); exact y_; rfl) | with_reducible refine al_none rfl ?_ | (with_reducible first | apply aw_seq | apply aw_region | apply al_nil | apply aq_then | apply aw_exit | apply aw_ret | apply aq_block_hit | apply aq_then_exit) | (refine aw_cond_df rfl rr_ dd_ ?_))
      refine aq_ret1 x_ rfl (.tmp _ _ rfl) (fun _ => ?_)
      exact Fin.flat rfl
  · rw [classesOk_len hl]
    repeat' (first | ((with_reducible apply o_y); exact y_; rfl) | with_reducible refine al_none rfl ?_ | (with_reducible first | apply aw_seq | apply aw_region | apply al_nil | apply aq_then | apply aw_ret | apply aq_then_ret) | refine al_run rfl rfl rfl rr_ ?_ | refine al_skip rfl rfl rfl rr_ rfl rfl rfl ?_ | (refine al_gsplit rfl rfl rfl rr_ (fun hg => ?_) (fun hg => ?_)) | refine aw_cond_t rfl rr_ ?_ | (refine aw_cond_dt rfl rr_ dd_ ?_))
    all_goals first
      | (exfalso; omega)
      | (refine aq_ret1 x_ rfl (.tmp _ _ rfl) (fun _ => ?_)
         exact Fin.flat rfl)
end
end Go.Proofs.YthpdkhejeookhaaGreatDoor
