/- Part 10 of the proof: the texts EdE, EdB0, EdB, EdB3, EdB4, IvM, IvO. -/
import Derived.Test.YtfchjaoeogolnaaGreatDoorPart6
import Derived.Test.YtfchjaoeogolnaaGreatDoorPart9
import Derived.Test.YtfchjaoeogolnaaGreatDoorPart5
/- EditsOf of the program: whether an edit fits, and what is removed then. Written by gen_ede.py. -/
namespace Go.Proofs.YtfchjaoeogolnaaGreatDoor
set_option maxRecDepth 20000
open Go Go.RowKit
section
variable {G : World → Prop}
set_option maxHeartbeats 8000000 in
theorem editFits_ct (hst : Stable G) (lo l2 l3 : Nat) (bl : Bool) (pr sl : Int) (is : List TInstr) (hok : CodeOk is) (lab : List Bool) (hll : lab.length = is.length + 1) (ds : List Int) (hdl : ds.length = is.length) (n : Nat) (hlt : n < is.length) (kind : Int) :
    Ct Tryz.prog G 50 [.agg [.bool bl, .int .i64 pr, .int .i64 sl, .sl lo 4 (is.map (TInstr.tw lo))], .sl l2 1 (boolR lab), .sl l3 1 (intR ds), .int .i64 (n : Int), .int .i64 kind] (fun K => .tup [.sl K 1 (intR (goneL n kind.toNat)), .bool (fitsB is lab ds n (insAt is n) kind.toNat)]) := by
  refine ct_enter Tryz.func50 rfl Tryz.ntmps50 rfl rfl fun w0 _ hG => ?_
  have hn := hok.len
  have hil := TInstr.len lo is
  have hbl := boolR_len lab
  have hid := intR_length ds
  have hrow0 := tinstr_row (lo := lo) hlt
  have hla := lab_in hok.pre (List.getElem_mem hlt)
  have hro := fun k (h : k < is.length) => tinstr_row (lo := lo) h
  have hio := fun k (h : k < is.length) => insAt_get h
  have hrd : (intR ds)[n]? = some [.int .i64 (gd ds n)] := by rw [gd_get (by omega)]; exact intR_get (by omega)
  have hc1 := editFits1_ct (G := G) lo w0.heap.size l2 (n + 1) is (by omega) lab hll
  have hc2 := editFits1_ct (G := G) lo w0.heap.size l2 (n + 2) is (by omega) lab hll
  have hop2 : opFr is lab (n + 2) = 8 → n + 2 < is.length ∧ (insAt is (n + 2)).op = 8 := fun h => by
    unfold opFr at h
    split at h
    · rename_i h2; exact ⟨h2.1, h⟩
    · omega
  have hF1 : ∀ x : TInstr, fitsB is lab ds n x (1 : Int).toNat = decide (pureOp x.op ∧ opFr is lab (n + 1) = 16) := fun _ => rfl
  have hF2 : ∀ x : TInstr, fitsB is lab ds n x (2 : Int).toNat = decide (x.op = 20 ∧ x.a = (n : Int) + 1) := fun _ => rfl
  have hF3 : ∀ x : TInstr, fitsB is lab ds n x (3 : Int).toNat = decide (x.op = 9 ∧ opFr is lab (n + 1) = 16 ∧ opFr is lab (n + 2) = 8 ∧ (insAt is (n + 2)).a = x.a ∧ (insAt is (n + 2)).b = x.b) := fun _ => rfl
  have hF4 : ∀ x : TInstr, fitsB is lab ds n x (4 : Int).toNat = decide (x.op = 20 ∧ x.a ≠ n ∧ (insAt is x.a.toNat).op = 20 ∧ (insAt is x.a.toNat).a ≠ x.a) := fun _ => rfl
  have hF5 : ∀ x : TInstr, fitsB is lab ds n x (5 : Int).toNat = decide (gd ds n = -1 ∧ x.op ≠ 15 ∧ 1 < is.length) := fun _ => rfl
  have hF0 : ¬ kind = 1 → ¬ kind = 2 → ¬ kind = 3 → ¬ kind = 4 → ¬ kind = 5 → ∀ x : TInstr, fitsB is lab ds n x kind.toNat = false ∧ goneL n kind.toNat = [] := fun h1 h2 h3 h4 h5 x => by
    refine ⟨?_, ?_⟩
    · unfold fitsB
      rw [if_neg (by omega), if_neg (by omega), if_neg (by omega), if_neg (by omega), if_neg (by omega)]
    · unfold goneL
      rw [if_neg (by omega), if_neg (by omega), if_neg (by omega), if_neg (by omega), if_neg (by omega)]
  have hg1 : intR (goneL n (1 : Int).toNat) = [[.int .i64 (n : Int)], [.int .i64 ((n + 1 : Nat) : Int)]] := by simp [goneL, intR]
  have hg2 : intR (goneL n (2 : Int).toNat) = [[.int .i64 (n : Int)]] := by simp [goneL, intR]
  have hg3 : intR (goneL n (3 : Int).toNat) = [[.int .i64 ((n + 1 : Nat) : Int)], [.int .i64 ((n + 2 : Nat) : Int)]] := by simp [goneL, intR]
  have hg4 : intR (goneL n (4 : Int).toNat) = [] := by simp [goneL, intR]
  have hg5 : intR (goneL n (5 : Int).toNat) = [[.int .i64 (n : Int)]] := by simp [goneL, intR]
  rw [hio n hlt]
  generalize is[n] = x at hrow0 hla ⊢
  obtain ⟨op, a, b, t⟩ := x
  dsimp only at hrow0 hla
  repeat' (first | ((with_reducible apply o_y); exact y_; rfl) | refine e_box ?_ | (refine e_alloc ?_; intro ss bb) | refine e_storep ?_ | refine e_mkf ?_ | with_reducible refine aw_hold_r (id := 4) ?_ | with_reducible refine al_none rfl ?_ | (with_reducible first | apply aw_seq | apply aw_region | apply al_nil | apply aq_then))
  refine ⟨?_⟩
  have hkk : kind = 1 ∨ kind = 2 ∨ kind = 3 ∨ kind = 4 ∨ kind = 5 ∨ (¬ kind = 1 ∧ ¬ kind = 2 ∧ ¬ kind = 3 ∧ ¬ kind = 4 ∧ ¬ kind = 5) := by omega
  rcases hkk with h | h | h | h | h | ⟨k1, k2, k3, k4, k5⟩
  · subst h
    rw [hg1, hF1]
    clear hF1 hF2 hF3 hF4 hF5 hF0 hg1 hg2 hg3 hg4 hg5 hop2 hio hro hc2
    dsimp only
    have hwi := within_ct (G := G) op 1 8
    generalize opFr is lab (n + 1) = o1 at hc1 ⊢
    by_cases h18 : inR op 1 8 = true
    · rw [h18] at hwi
      have hp : pureOp op := .inl (inR_b h18)
      rw [show decide (pureOp op ∧ o1 = 16) = decide (o1 = 16) by simp [hp]]
      repeat' (first | ((with_reducible apply o_y); exact y_; rfl) | refine e_lit ?_ | refine e_call hG hst (hwi) ?_ | ((with_reducible apply o_callF); rfl; rfl; kernel_rfl; exact hG; exact hst; (repeat (first | exact Args.nil | ((with_reducible apply Args.cons); rfl; exact .same _))); (repeat (first | exact Views.nil | ((with_reducible apply Views.cons); (first | ((with_reducible apply View.mpSame); (repeat (first | with_reducible exact mh | with_reducible refine mt ?_))) | exact View.same _)))); rfl; exact hc1) | with_reducible refine al_none rfl ?_ | (with_reducible first | apply aw_seq | apply aw_region | apply al_nil | apply aq_then | apply aw_block | apply aw_ret | apply aq_then_ret | apply aq_block_ret) | refine al_run rfl rfl rfl rr_ ?_ | refine al_skip rfl rfl rfl rr_ rfl rfl rfl ?_ | (refine aw_cond_dt rfl rr_ dd_ ?_))
      all_goals
        refine aq_ret2 x_ rfl (.tmp _ _ rfl) (.tmp _ _ rfl) (fun _ => ?_) (fun _ => ?_)
        · first
            | exact Fin.nils _
            | exact Fin.slFlat (Nat.le_refl _) (by simp [TV.flat])
        · refine fin_bool ?_
          first
            | (rw [decide_eq_decide]; omega)
            | (symm; rw [decide_eq_false_iff_not]; omega)
            | (symm; rw [decide_eq_true_iff]; omega)
            | (simp [*]; done)
            | (simp_all; done)
            | (simp_all; omega)
    · rw [Bool.not_eq_true] at h18
      rw [h18] at hwi
      have hp : pureOp op ↔ op = 12 ∨ op = 17 := by
        unfold pureOp
        have : ¬ (1 ≤ op ∧ op ≤ 8) := fun h => by rw [inR_t h] at h18; cases h18
        omega
      rw [show decide (pureOp op ∧ o1 = 16) = decide ((op = 12 ∨ op = 17) ∧ o1 = 16) by simp only [hp]]
      repeat' (first | ((with_reducible apply o_y); exact y_; rfl) | refine e_lit ?_ | refine e_call hG hst (hwi) ?_ | ((with_reducible apply o_callF); rfl; rfl; kernel_rfl; exact hG; exact hst; (repeat (first | exact Args.nil | ((with_reducible apply Args.cons); rfl; exact .same _))); (repeat (first | exact Views.nil | ((with_reducible apply Views.cons); (first | ((with_reducible apply View.mpSame); (repeat (first | with_reducible exact mh | with_reducible refine mt ?_))) | exact View.same _)))); rfl; exact hc1) | with_reducible refine al_none rfl ?_ | (with_reducible first | apply aw_seq | apply aw_region | apply al_nil | apply aq_then | apply aw_block | apply aw_ret | apply aq_then_ret | apply aq_block_ret) | refine al_run rfl rfl rfl rr_ ?_ | refine al_skip rfl rfl rfl rr_ rfl rfl rfl ?_ | (refine al_gsplit rfl rfl rfl rr_ (fun hg => ?_) (fun hg => ?_)) | (refine aw_cond_dt rfl rr_ dd_ ?_))
      all_goals
        refine aq_ret2 x_ rfl (.tmp _ _ rfl) (.tmp _ _ rfl) (fun _ => ?_) (fun _ => ?_)
        · first
            | exact Fin.nils _
            | exact Fin.slFlat (Nat.le_refl _) (by simp [TV.flat])
        · refine fin_bool ?_
          first
            | (rw [decide_eq_decide]; omega)
            | (symm; rw [decide_eq_false_iff_not]; omega)
            | (symm; rw [decide_eq_true_iff]; omega)
            | (simp [*]; done)
            | (simp_all; done)
            | (simp_all; omega)
  · subst h
    rw [hg2, hF2]
    clear hF1 hF2 hF3 hF4 hF5 hF0 hg1 hg2 hg3 hg4 hg5 hop2 hio hro hc1 hc2
    dsimp only
    repeat' (first | ((with_reducible apply o_y); exact y_; rfl) | with_reducible refine aw_draw (by kernel_rfl) (by kernel_rfl) ?_ | with_reducible refine dr_nil ?_ | with_reducible refine dr_none rfl ?_ | refine dr_run rfl rfl rfl rr_ ?_ | refine dr_skip rfl rfl rfl rr_ rfl rfl rfl ?_ | (refine dr_gsplit rfl rfl rfl rr_ (fun hg => ?_) (fun hg => ?_)) | ((with_reducible apply d_y); exact y_; rfl) | refine e_litd ?_ | with_reducible refine al_none rfl ?_ | (with_reducible first | apply aw_seq | apply aw_region | apply al_nil | apply aq_then | apply aw_block | apply aw_ret | apply aq_then_ret | apply aq_block_ret) | (refine aw_cond_dt rfl rr_ dd_ ?_) | (refine aw_cond_df rfl rr_ dd_ ?_))
    all_goals
      refine aq_ret2 x_ rfl (.tmp _ _ rfl) (.tmp _ _ rfl) (fun _ => ?_) (fun _ => ?_)
      · first
          | exact Fin.nils _
          | exact Fin.slFlat (Nat.le_refl _) (by simp [TV.flat])
      · refine fin_bool ?_
        first
          | (rw [decide_eq_decide]; omega)
          | (symm; rw [decide_eq_false_iff_not]; omega)
          | (symm; rw [decide_eq_true_iff]; omega)
          | (simp [*]; done)
          | (simp_all; done)
          | (simp_all; omega)
  · subst h
    rw [hg3, hF3]
    clear hF1 hF2 hF3 hF4 hF5 hF0 hg1 hg2 hg3 hg4 hg5
    dsimp only
    by_cases h9 : op = 9
    case neg =>
      generalize opFr is lab (n + 1) = o1 at hc1 ⊢
      generalize opFr is lab (n + 2) = o2 at hc2 ⊢
      repeat' (first | ((with_reducible apply o_y); exact y_; rfl) | with_reducible refine aw_draw (by kernel_rfl) (by kernel_rfl) ?_ | with_reducible refine dr_nil ?_ | with_reducible refine dr_none rfl ?_ | refine dr_skip rfl rfl rfl rr_ rfl rfl rfl ?_ | (refine dr_gf rfl rfl rfl rr_ dd_ ?_) | ((with_reducible apply d_y); exact y_; rfl) | refine e_lit ?_ | with_reducible refine al_none rfl ?_ | (with_reducible first | apply aw_seq | apply aw_region | apply al_nil | apply aq_then | apply aw_block | apply aw_ret | apply aq_then_ret | apply aq_block_ret) | (refine aw_cond_dt rfl rr_ dd_ ?_) | (refine aw_cond_df rfl rr_ dd_ ?_))
      all_goals
        refine aq_ret2 x_ rfl (.tmp _ _ rfl) (.tmp _ _ rfl) (fun _ => ?_) (fun _ => ?_)
        · first
            | exact Fin.nils _
            | exact Fin.slFlat (Nat.le_refl _) (by simp [TV.flat])
        · refine fin_bool ?_
          first
            | (rw [decide_eq_decide]; omega)
            | (symm; rw [decide_eq_false_iff_not]; omega)
            | (symm; rw [decide_eq_true_iff]; omega)
            | (simp [*]; done)
            | (simp_all; done)
            | (simp_all; omega)
    by_cases h16 : opFr is lab (n + 1) = 16
    case neg =>
      generalize opFr is lab (n + 1) = o1 at hc1 h16 ⊢
      generalize opFr is lab (n + 2) = o2 at hc2 ⊢
      repeat' (first | ((with_reducible apply o_y); exact y_; rfl) | with_reducible refine aw_draw (by kernel_rfl) (by kernel_rfl) ?_ | with_reducible refine dr_nil ?_ | with_reducible refine dr_none rfl ?_ | refine dr_run rfl rfl rfl rr_ ?_ | refine dr_skip rfl rfl rfl rr_ rfl rfl rfl ?_ | (refine dr_gt rfl rfl rfl rr_ dd_ ?_) | (refine dr_gf rfl rfl rfl rr_ dd_ ?_) | ((with_reducible apply d_y); exact y_; rfl) | refine e_lit ?_ | ((with_reducible apply d_callF); rfl; rfl; kernel_rfl; exact hG; exact hst; (repeat (first | exact Args.nil | ((with_reducible apply Args.cons); rfl; exact .same _))); (repeat (first | exact Views.nil | ((with_reducible apply Views.cons); (first | ((with_reducible apply View.mpSame); (repeat (first | with_reducible exact mh | with_reducible refine mt ?_))) | exact View.same _)))); rfl; exact hc1) | with_reducible refine al_none rfl ?_ | (with_reducible first | apply aw_seq | apply aw_region | apply al_nil | apply aq_then | apply aw_block | apply aw_ret | apply aq_then_ret | apply aq_block_ret) | (refine aw_cond_dt rfl rr_ dd_ ?_) | (refine aw_cond_df rfl rr_ dd_ ?_))
      all_goals
        refine aq_ret2 x_ rfl (.tmp _ _ rfl) (.tmp _ _ rfl) (fun _ => ?_) (fun _ => ?_)
        · first
            | exact Fin.nils _
            | exact Fin.slFlat (Nat.le_refl _) (by simp [TV.flat])
        · refine fin_bool ?_
          first
            | (rw [decide_eq_decide]; omega)
            | (symm; rw [decide_eq_false_iff_not]; omega)
            | (symm; rw [decide_eq_true_iff]; omega)
            | (simp [*]; done)
            | (simp_all; done)
            | (simp_all; omega)
    by_cases h8 : opFr is lab (n + 2) = 8
    case neg =>
      generalize opFr is lab (n + 1) = o1 at hc1 h16 ⊢
      generalize opFr is lab (n + 2) = o2 at hc2 h8 ⊢
      repeat' (first | ((with_reducible apply o_y); exact y_; rfl) | with_reducible refine aw_draw (by kernel_rfl) (by kernel_rfl) ?_ | with_reducible refine dr_nil ?_ | with_reducible refine dr_none rfl ?_ | refine dr_run rfl rfl rfl rr_ ?_ | refine dr_skip rfl rfl rfl rr_ rfl rfl rfl ?_ | (refine dr_gt rfl rfl rfl rr_ dd_ ?_) | (refine dr_gf rfl rfl rfl rr_ dd_ ?_) | ((with_reducible apply d_y); exact y_; rfl) | refine e_lit ?_ | ((with_reducible apply d_callF); rfl; rfl; kernel_rfl; exact hG; exact hst; (repeat (first | exact Args.nil | ((with_reducible apply Args.cons); rfl; exact .same _))); (repeat (first | exact Views.nil | ((with_reducible apply Views.cons); (first | ((with_reducible apply View.mpSame); (repeat (first | with_reducible exact mh | with_reducible refine mt ?_))) | exact View.same _)))); rfl; first | exact hc1 | exact hc2) | with_reducible refine al_none rfl ?_ | (with_reducible first | apply aw_seq | apply aw_region | apply al_nil | apply aq_then | apply aw_block | apply aw_ret | apply aq_then_ret | apply aq_block_ret) | (refine aw_cond_dt rfl rr_ dd_ ?_) | (refine aw_cond_df rfl rr_ dd_ ?_))
      all_goals
        refine aq_ret2 x_ rfl (.tmp _ _ rfl) (.tmp _ _ rfl) (fun _ => ?_) (fun _ => ?_)
        · first
            | exact Fin.nils _
            | exact Fin.slFlat (Nat.le_refl _) (by simp [TV.flat])
        · refine fin_bool ?_
          first
            | (rw [decide_eq_decide]; omega)
            | (symm; rw [decide_eq_false_iff_not]; omega)
            | (symm; rw [decide_eq_true_iff]; omega)
            | (simp [*]; done)
            | (simp_all; done)
            | (simp_all; omega)
    obtain ⟨hn2, _⟩ := hop2 h8
    have hrow2 := hro (n + 2) hn2
    rw [hio (n + 2) hn2]
    generalize opFr is lab (n + 1) = o1 at hc1 h16 ⊢
    generalize opFr is lab (n + 2) = o2 at hc2 h8 ⊢
    generalize is[n + 2] = x2 at hrow2 ⊢
    obtain ⟨o4, a4, b4, t4⟩ := x2
    dsimp only at hrow2 ⊢
    clear hop2 hio hro
    repeat' (first | ((with_reducible apply o_y); exact y_; rfl) | with_reducible refine aw_draw (by kernel_rfl) (by kernel_rfl) ?_ | with_reducible refine dr_nil ?_ | with_reducible refine dr_none rfl ?_ | refine dr_run rfl rfl rfl rr_ ?_ | refine dr_skip rfl rfl rfl rr_ rfl rfl rfl ?_ | (refine dr_gt rfl rfl rfl rr_ dd_ ?_) | (refine dr_gsplit rfl rfl rfl rr_ (fun hg => ?_) (fun hg => ?_)) | ((with_reducible apply d_y); exact y_; rfl) | refine e_lit ?_ | ((with_reducible apply d_callF); rfl; rfl; kernel_rfl; exact hG; exact hst; (repeat (first | exact Args.nil | ((with_reducible apply Args.cons); rfl; exact .same _))); (repeat (first | exact Views.nil | ((with_reducible apply Views.cons); (first | ((with_reducible apply View.mpSame); (repeat (first | with_reducible exact mh | with_reducible refine mt ?_))) | exact View.same _)))); rfl; first | exact hc1 | exact hc2) | with_reducible refine al_none rfl ?_ | (with_reducible first | apply aw_seq | apply aw_region | apply al_nil | apply aq_then | apply aw_block | apply aw_ret | apply aq_then_ret | apply aq_block_ret) | (refine aw_cond_dt rfl rr_ dd_ ?_) | (refine aw_cond_df rfl rr_ dd_ ?_))
    all_goals
      refine aq_ret2 x_ rfl (.tmp _ _ rfl) (.tmp _ _ rfl) (fun _ => ?_) (fun _ => ?_)
      · first
          | exact Fin.nils _
          | exact Fin.slFlat (Nat.le_refl _) (by simp [TV.flat])
      · refine fin_bool ?_
        first
          | (rw [decide_eq_decide]; omega)
          | (symm; rw [decide_eq_false_iff_not]; omega)
          | (symm; rw [decide_eq_true_iff]; omega)
          | (simp [*]; done)
          | (simp_all; done)
          | (simp_all; omega)
  · subst h
    rw [hg4, hF4]
    clear hF1 hF2 hF3 hF4 hF5 hF0 hg1 hg2 hg3 hg4 hg5 hop2 hc1 hc2
    dsimp only
    by_cases h20 : op = 20
    case neg =>
      generalize insAt is a.toNat = y
      repeat' (first | ((with_reducible apply o_y); exact y_; rfl) | with_reducible refine al_none rfl ?_ | (with_reducible first | apply aw_seq | apply aw_region | apply al_nil | apply aq_then | apply aw_block | apply aw_ret | apply aq_then_ret | apply aq_block_ret) | refine al_skip rfl rfl rfl rr_ rfl rfl rfl ?_ | (refine al_gt rfl rfl rfl rr_ dd_ ?_) | refine aw_cond_t rfl rr_ ?_ | (refine aw_cond_dt rfl rr_ dd_ ?_) | (refine aw_cond_df rfl rr_ dd_ ?_))
      all_goals
        refine aq_ret2 x_ rfl (.tmp _ _ rfl) (.tmp _ _ rfl) (fun _ => ?_) (fun _ => ?_)
        · first
            | exact Fin.nils _
            | exact Fin.slFlat (Nat.le_refl _) (by simp [TV.flat])
        · refine fin_bool ?_
          first
            | (rw [decide_eq_decide]; omega)
            | (symm; rw [decide_eq_false_iff_not]; omega)
            | (symm; rw [decide_eq_true_iff]; omega)
            | (simp [*]; done)
            | (simp_all; done)
            | (simp_all; omega)
    subst h20
    have hra := inR_b (List.all_eq_true.1 hla 1 (by simp [labOff_20]))
    rw [labV_1] at hra
    have hwi := within_ct (G := G) a 0 ((is.length : Int) - 1)
    rw [inR_t hra, show (is.length : Int) - 1 = ((is.length - 1 : Nat) : Int) by omega] at hwi
    obtain ⟨an, rfl⟩ : ∃ an : Nat, a = an := ⟨a.toNat, by omega⟩
    have hal : an < is.length := by omega
    have hrow4 := hro an hal
    rw [Int.toNat_natCast, hio an hal]
    generalize is[an] = x4 at hrow4 ⊢
    obtain ⟨o4, a4, b4, t4⟩ := x4
    dsimp only at hrow4 ⊢
    clear hio hro
    repeat' (first | ((with_reducible apply o_y); exact y_; rfl) | with_reducible refine aw_draw (by kernel_rfl) (by kernel_rfl) ?_ | with_reducible refine dr_nil ?_ | with_reducible refine dr_none rfl ?_ | refine dr_run rfl rfl rfl rr_ ?_ | refine dr_skip rfl rfl rfl rr_ rfl rfl rfl ?_ | (refine dr_gsplit rfl rfl rfl rr_ (fun hg => ?_) (fun hg => ?_)) | ((with_reducible apply d_y); exact y_; rfl) | (refine e_alloc ?_; intro ss bb) | refine e_storep ?_ | refine e_call hG hst (hwi) ?_ | with_reducible refine al_none rfl ?_ | (with_reducible first | apply aw_seq | apply aw_region | apply al_nil | apply aq_then | apply aw_block | apply aw_skip | apply aw_ret | apply aq_then_ret | apply aq_block_ret) | refine al_run rfl rfl rfl rr_ ?_ | refine al_skip rfl rfl rfl rr_ rfl rfl rfl ?_ | (refine al_gf rfl rfl rfl rr_ dd_ ?_) | (refine al_gsplit rfl rfl rfl rr_ (fun hg => ?_) (fun hg => ?_)) | refine aw_cond_t rfl rr_ ?_ | refine aw_cond_f rfl rr_ ?_ | (refine aw_cond_dt rfl rr_ dd_ ?_) | (refine aw_cond_df rfl rr_ dd_ ?_))
    all_goals
      refine aq_ret2 x_ rfl (.tmp _ _ rfl) (.tmp _ _ rfl) (fun _ => ?_) (fun _ => ?_)
      · first
          | exact Fin.nils _
          | exact Fin.slFlat (Nat.le_refl _) (by simp [TV.flat])
      · refine fin_bool ?_
        first
          | (rw [decide_eq_decide]; omega)
          | (symm; rw [decide_eq_false_iff_not]; omega)
          | (symm; rw [decide_eq_true_iff]; omega)
          | (simp [*]; done)
          | (simp_all; done)
          | (simp_all; omega)
  · subst h
    rw [hg5, hF5]
    clear hF1 hF2 hF3 hF4 hF5 hF0 hg1 hg2 hg3 hg4 hg5 hop2 hio hro hc1 hc2
    dsimp only
    generalize gd ds n = g at hrd ⊢
    repeat' (first | ((with_reducible apply o_y); exact y_; rfl) | with_reducible refine aw_draw (by kernel_rfl) (by kernel_rfl) ?_ | with_reducible refine dr_nil ?_ | with_reducible refine dr_none rfl ?_ | refine dr_run rfl rfl rfl rr_ ?_ | refine dr_skip rfl rfl rfl rr_ rfl rfl rfl ?_ | (refine dr_gsplit rfl rfl rfl rr_ (fun hg => ?_) (fun hg => ?_)) | ((with_reducible apply d_y); exact y_; rfl) | refine e_litd ?_ | with_reducible refine al_none rfl ?_ | (with_reducible first | apply aw_seq | apply aw_region | apply al_nil | apply aq_then | apply aw_block | apply aw_ret | apply aq_then_ret | apply aq_block_ret) | (refine aw_cond_dt rfl rr_ dd_ ?_) | (refine aw_cond_df rfl rr_ dd_ ?_))
    all_goals
      refine aq_ret2 x_ rfl (.tmp _ _ rfl) (.tmp _ _ rfl) (fun _ => ?_) (fun _ => ?_)
      · first
          | exact Fin.nils _
          | exact Fin.slFlat (Nat.le_refl _) (by simp [TV.flat])
      · refine fin_bool ?_
        first
          | (rw [decide_eq_decide]; omega)
          | (symm; rw [decide_eq_false_iff_not]; omega)
          | (symm; rw [decide_eq_true_iff]; omega)
          | (simp [*]; done)
          | (simp_all; done)
          | (simp_all; omega)
  · obtain ⟨e1, e2⟩ := hF0 k1 k2 k3 k4 k5 ⟨op, a, b, t⟩
    rw [e1, e2]
    clear hF1 hF2 hF3 hF4 hF5 hF0 hg1 hg2 hg3 hg4 hg5 hop2 hio hro hc1 hc2
    repeat' (first | ((with_reducible apply o_y); exact y_; rfl) | with_reducible refine al_none rfl ?_ | (with_reducible first | apply aw_seq | apply aw_region | apply al_nil | apply aq_then | apply aw_block | apply aw_skip | apply aw_ret | apply aq_block) | (refine aw_cond_df rfl rr_ dd_ ?_))
    all_goals
      refine aq_ret2 x_ rfl (.tmp _ _ rfl) (.tmp _ _ rfl) (fun _ => ?_) (fun _ => ?_)
      · first
          | exact Fin.nils _
          | exact Fin.slFlat (Nat.le_refl _) (by simp [TV.flat])
      · refine fin_bool ?_
        first
          | (rw [decide_eq_decide]; omega)
          | (symm; rw [decide_eq_false_iff_not]; omega)
          | (symm; rw [decide_eq_true_iff]; omega)
          | (simp [*]; done)
          | (simp_all; done)
          | (simp_all; omega)
end
end Go.Proofs.YtfchjaoeogolnaaGreatDoor
/- EditsOf of the reference: whether an edit fits. -/
namespace Go.Proofs.YtfchjaoeogolnaaGreatDoor
open Go Go.RowKit
def fitsZ (is : List TInstr) (at_ kind : Int) : Bool := if 0 ≤ at_ ∧ at_ ≤ (is.length : Int) - 1 then fitsB is (labelsL is) ((depthsL is).getD []) at_.toNat (insAt is at_.toNat) kind.toNat else false
theorem fitsZ_in {is : List TInstr} {n : Nat} (h : n < is.length) (kind : Int) : fitsZ is n kind = fitsB is (labelsL is) ((depthsL is).getD []) n (insAt is n) kind.toNat := by
  unfold fitsZ
  rw [if_pos (by omega), Int.toNat_natCast]
theorem fitsB_no {is : List TInstr} {lab : List Bool} {ds : List Int} {n : Nat} {i : TInstr} {k : Int} (h1 : ¬ k = 1) (h2 : ¬ k = 2) (h3 : ¬ k = 3) (h4 : ¬ k = 4) (h5 : ¬ k = 5) : fitsB is lab ds n i k.toNat = false := by
  unfold fitsB
  rw [if_neg (by omega), if_neg (by omega), if_neg (by omega), if_neg (by omega), if_neg (by omega)]
end Go.Proofs.YtfchjaoeogolnaaGreatDoor
/- EditsOf of the reference: whether an edit fits: kinds 1, 2, 5 and what is no kind. Written by gen_ed.py. -/
namespace Go.Proofs.YtfchjaoeogolnaaGreatDoor
set_option maxRecDepth 20000
open Go Go.RowKit
set_option maxRecDepth 8000 in
set_option maxHeartbeats 8000000 in
theorem l27FitsA_ct (f lo : Nat) (bl : Bool) (pr sl : Int) (is : List TInstr) (hok : CodeOk is) (hts : ∀ i ∈ is, i.text.size ≤ 1048576) (code at_ kind : Int) (hkk : kind = 1 ∨ kind = 2 ∨ kind = 5 ∨ (¬ kind = 1 ∧ ¬ kind = 2 ∧ ¬ kind = 3 ∧ ¬ kind = 4 ∧ ¬ kind = 5)) (hatm : -9223372036854775808 ≤ at_ ∧ at_ ≤ 9223372036854775807) :
    Ct Tryz.prog GL 47 [.cp f [.bool bl, .int .i64 pr, .int .i64 sl, .sl lo 4 (is.map (TInstr.tw lo))], .agg [.int .i64 code, .int .i64 at_, .int .i64 kind]] (fun _ => .bool (fitsZ is at_ kind)) := by
  refine ct_enter Tryz.func47 rfl Tryz.ntmps47 rfl rfl fun w0 _ hG => ?_
  have hst := GL_st
  have hn := hok.len
  have hil := TInstr.len lo is
  have hlab := l27Labels_ct (G := GL) f lo bl pr sl is (by omega) hok.pre
  have hin := l1In_ct (G := GL) at_ 0 ((is.length : Int) - 1)
  by_cases hat : 0 ≤ at_ ∧ at_ ≤ (is.length : Int) - 1
  case neg =>
    have hz : fitsZ is at_ kind = false := if_neg hat
    rw [hz]
    rw [show inR at_ 0 ((is.length : Int) - 1) = false by simpa [inR] using hat] at hin
    clear hlab
    repeat' (first | ((with_reducible apply o_y); exact y_; rfl) | refine e_box ?_ | with_reducible refine aw_draw (by kernel_rfl) (by kernel_rfl) ?_ | with_reducible refine dr_nil ?_ | with_reducible refine dr_none rfl ?_ | ((with_reducible apply d_y); exact y_; rfl) | refine e_calld hG hst (hin) ?_ | with_reducible refine al_none rfl ?_ | (with_reducible first | apply aw_seq | apply aw_region | apply al_nil | apply aq_then | apply aw_ret | apply aq_then_ret) | refine aw_cond_t rfl rr_ ?_)
    refine aq_ret1 x_ rfl (.tmp _ _ rfl) (fun _ => ?_)
    exact Fin.flat rfl
  rw [inR_t hat] at hin
  obtain ⟨n, rfl⟩ : ∃ n : Nat, at_ = n := ⟨at_.toNat, by omega⟩
  have hlt : n < is.length := by omega
  rw [show (is.length : Int) - 1 = ((is.length - 1 : Nat) : Int) by omega] at hin
  have hl1 : labelsL is = labP is is.length := rfl
  have hll : (labelsL is).length = is.length + 1 := by rw [hl1]; exact labP_len _ _
  have hbl := boolR_len (labelsL is)
  have hrow0 := tinstr_row (lo := lo) hlt
  have hi0 := insAt_get hlt
  rw [fitsZ_in hlt, hi0]
  have hro := fun k (h : k < is.length) => tinstr_row (lo := lo) h
  have hio := fun k (h : k < is.length) => insAt_get h
  have hlr := fun k (h : k < is.length + 1) => boolR_get (l := labelsL is) (k := k) (by omega)
  have hla := lab_in hok.pre (List.getElem_mem hlt)
  have htx := hok.txt
  clear hi0
  generalize hx : is[n] = x at hrow0 hla ⊢
  obtain ⟨op, a, b, t⟩ := x
  dsimp only at hrow0 hla
  repeat' (first | ((with_reducible apply o_y); exact y_; rfl) | refine e_box ?_ | ((with_reducible apply aw_draw3 (id := 4) 8); kernel_rfl; kernel_rfl; kernel_rfl; (repeat (first | exact Cut.zero _ | apply Cut.succ)); rfl; rfl; rfl; rfl; rfl; kernel_rfl; rfl) | with_reducible refine aw_hold_r (id := 6) ?_ | with_reducible refine aw_draw (by kernel_rfl) (by kernel_rfl) ?_ | with_reducible refine dr_nil ?_ | with_reducible refine dr_none rfl ?_ | ((with_reducible apply d_y); exact y_; rfl) | ((with_reducible apply u_y); exact yu_; rfl) | (with_reducible refine du_nil ?_; intro ss bb) | refine e_calld hG hst (hin) ?_ | refine e_call hG hst (hlab) ?_ | (refine e_alloc ?_; intro ss bb) | refine e_storep ?_ | refine e_build ?_ | with_reducible refine al_none rfl ?_ | (with_reducible first | apply aw_seq | apply aw_region | apply al_nil | apply aq_then | apply aw_skip) | refine aw_cond_f rfl rr_ ?_)
  refine ⟨?_⟩
  generalize ss = s7; generalize bb = b7
  rename_i s6 b6
  have hl1' : n + 1 < is.length + 1 := by omega
  have hlr1 := hlr (n + 1) hl1'
  have hpc := l27Pure_ct (G := GL) hst op
  have hF1 : ∀ lab ds x, fitsB is lab ds n x (1 : Int).toNat = decide (pureOp x.op ∧ opFr is lab (n + 1) = 16) := fun _ _ _ => rfl
  have hF2 : ∀ lab ds x, fitsB is lab ds n x (2 : Int).toNat = decide (x.op = 20 ∧ x.a = (n : Int) + 1) := fun _ _ _ => rfl
  have hF3 : ∀ lab ds x, fitsB is lab ds n x (3 : Int).toNat = decide (x.op = 9 ∧ opFr is lab (n + 1) = 16 ∧ opFr is lab (n + 2) = 8 ∧ (insAt is (n + 2)).a = x.a ∧ (insAt is (n + 2)).b = x.b) := fun _ _ _ => rfl
  have hF4 : ∀ lab ds x, fitsB is lab ds n x (4 : Int).toNat = decide (x.op = 20 ∧ x.a ≠ n ∧ (insAt is x.a.toNat).op = 20 ∧ (insAt is x.a.toNat).a ≠ x.a) := fun _ _ _ => rfl
  have hF5 : ∀ lab ds x, fitsB is lab ds n x (5 : Int).toNat = decide (gd ds n = -1 ∧ x.op ≠ 15 ∧ 1 < is.length) := fun _ _ _ => rfl
  have hF0 : ¬ kind = 1 → ¬ kind = 2 → ¬ kind = 3 → ¬ kind = 4 → ¬ kind = 5 → fitsB is (labelsL is) ((depthsL is).getD []) n ⟨op, a, b, t⟩ kind.toNat = false := fun h1 h2 h3 h4 h5 => fitsB_no h1 h2 h3 h4 h5
  obtain ⟨ds, hds⟩ := Option.isSome_iff_exists.1 hok.dep
  obtain ⟨hdl, hdi⟩ := depthsL_inv hds
  have hdg := hdi.gd n
  have hdep := l16Depths_ct hst hcaS f lo bl pr sl is (by omega) hts hok.pre
  have hnew := dO_new (depthsS is)
  rw [← depthsL_eq is hok.pre, hds, instrs_tw lo] at hdep
  rw [← depthsL_eq is hok.pre, hds] at hnew
  rw [hds] at hF0 ⊢
  unfold dR dO at hdep hnew
  dsimp only [Option.getD_some, Option.isSome_some] at hdep hnew hF0 ⊢
  have hrd : (intR ds)[n]? = some [.int .i64 (gd ds n)] := by rw [gd_get (by omega)]; exact intR_get (by omega)
  have hid := intR_length ds
  replace hF5 := hF5 (labelsL is) ds
  generalize gd ds n = g at hrd hdg hF5
  by_cases hn1 : n + 1 < is.length
  · have hrow1 := hro (n + 1) hn1
    have hio1 := hio (n + 1) hn1
    have hlr2 := hlr (n + 2) (by omega)
    have hi2 : 1 < is.length := by omega
    generalize hx1 : is[n + 1] = x1 at hrow1 hio1
    obtain ⟨o1, a1, b1, t1⟩ := x1
    dsimp only at hrow1
    have hof : opFr is (labelsL is) (n + 1) = if gb (labelsL is) ((n + 1 : Nat) : Int) = false then o1 else 0 := by
      unfold opFr
      by_cases hg : gb (labelsL is) ((n + 1 : Nat) : Int) = false
      · rw [if_pos ⟨hn1, hg⟩, if_pos hg, hio1]
      · rw [if_neg (fun h => hg h.2), if_neg hg]
    have hof2 : opFr is (labelsL is) (n + 2) = if n + 2 < is.length ∧ gb (labelsL is) ((n + 2 : Nat) : Int) = false then (insAt is (n + 2)).op else 0 := rfl
    generalize gb (labelsL is) ((n + 1 : Nat) : Int) = g1 at hlr1 hof
    generalize gb (labelsL is) ((n + 2 : Nat) : Int) = g2 at hlr2 hof2
    rcases hkk with h | h | h | ⟨k1, k2, k3, k4, k5⟩
    · subst h
      rw [hF1, hof]
      clear hF1 hF2 hF3 hF4 hF5 hF0 hdep hnew hof hof2
      by_cases hpu : pureOp op
      · rw [decide_eq_true hpu] at hpc
        cases g1
        all_goals
          repeat' (first | ((with_reducible apply o_y); exact y_; rfl) | ((with_reducible apply aw_draw2 (id := 7) 9; kernel_rfl; kernel_rfl; kernel_rfl; (repeat (first | exact Cut.zero _ | apply Cut.succ)))) | with_reducible refine aw_draw (by kernel_rfl) (by kernel_rfl) ?_ | with_reducible refine dr_nil ?_ | with_reducible refine dr_nil2 ?_ | with_reducible refine dr_none rfl ?_ | ((with_reducible apply d_y); exact y_; rfl) | refine e_storep ?_ | refine e_call hG hst (hpc) ?_ | with_reducible refine al_none rfl ?_ | (with_reducible first | apply aw_seq | apply aw_region | apply al_nil | apply aq_then | apply aw_block | apply aw_ret | apply aq_then_ret | apply aq_block_ret) | refine al_run rfl rfl rfl rr_ ?_ | refine al_skip rfl rfl rfl rr_ rfl rfl rfl ?_ | (refine al_gsplit rfl rfl rfl rr_ (fun hg => ?_) (fun hg => ?_)) | (refine aw_cond_dt rfl rr_ dd_ ?_))
        all_goals
          refine aq_ret1 x_ rfl (.tmp _ _ rfl) (fun _ => ?_)
          refine fin_bool ?_
          first
            | (rw [decide_eq_decide]; dsimp only; omega)
            | (symm; rw [decide_eq_false_iff_not]; dsimp only; omega)
            | (symm; rw [decide_eq_true_iff]; dsimp only; omega)
            | (simp [*]; done)
            | (simp_all; done)
            | (simp_all [eqL, eqC]; done)
            | (simp_all [eqL, eqC]; omega)
      · rw [decide_eq_false hpu] at hpc
        repeat' (first | ((with_reducible apply o_y); exact y_; rfl) | ((with_reducible apply aw_draw2 (id := 7) 9; kernel_rfl; kernel_rfl; kernel_rfl; (repeat (first | exact Cut.zero _ | apply Cut.succ)))) | with_reducible refine aw_draw (by kernel_rfl) (by kernel_rfl) ?_ | with_reducible refine dr_nil ?_ | with_reducible refine dr_nil2 ?_ | with_reducible refine dr_none rfl ?_ | ((with_reducible apply d_y); exact y_; rfl) | refine e_storep ?_ | refine e_call hG hst (hpc) ?_ | with_reducible refine al_none rfl ?_ | (with_reducible first | apply aw_seq | apply aw_region | apply al_nil | apply aq_then | apply aw_block | apply aw_ret | apply aq_then_ret | apply aq_block_ret) | refine al_skip rfl rfl rfl rr_ rfl rfl rfl ?_ | (refine aw_cond_dt rfl rr_ dd_ ?_))
        all_goals
          refine aq_ret1 x_ rfl (.tmp _ _ rfl) (fun _ => ?_)
          refine fin_bool ?_
          first
            | (rw [decide_eq_decide]; dsimp only; omega)
            | (symm; rw [decide_eq_false_iff_not]; dsimp only; omega)
            | (symm; rw [decide_eq_true_iff]; dsimp only; omega)
            | (simp [*]; done)
            | (simp_all; done)
            | (simp_all [eqL, eqC]; done)
            | (simp_all [eqL, eqC]; omega)
    · subst h
      rw [hF2]
      clear hF1 hF2 hF3 hF4 hF5 hF0 hdep hnew hof hof2
      repeat' (first | ((with_reducible apply o_y); exact y_; rfl) | ((with_reducible apply aw_draw2 (id := 7) 9; kernel_rfl; kernel_rfl; kernel_rfl; (repeat (first | exact Cut.zero _ | apply Cut.succ)))) | with_reducible refine aw_draw (by kernel_rfl) (by kernel_rfl) ?_ | with_reducible refine dr_nil ?_ | with_reducible refine dr_nil2 ?_ | with_reducible refine dr_none rfl ?_ | ((with_reducible apply d_y); exact y_; rfl) | refine e_storep ?_ | with_reducible refine al_none rfl ?_ | (with_reducible first | apply aw_seq | apply aw_region | apply al_nil | apply aq_then | apply aw_block | apply aw_ret | apply aq_then_ret | apply aq_block_ret) | refine al_run rfl rfl rfl rr_ ?_ | refine al_skip rfl rfl rfl rr_ rfl rfl rfl ?_ | (refine al_gsplit rfl rfl rfl rr_ (fun hg => ?_) (fun hg => ?_)) | (refine aw_cond_dt rfl rr_ dd_ ?_) | (refine aw_cond_df rfl rr_ dd_ ?_))
      all_goals
        refine aq_ret1 x_ rfl (.tmp _ _ rfl) (fun _ => ?_)
        refine fin_bool ?_
        first
          | (rw [decide_eq_decide]; dsimp only; omega)
          | (symm; rw [decide_eq_false_iff_not]; dsimp only; omega)
          | (symm; rw [decide_eq_true_iff]; dsimp only; omega)
          | (simp [*]; done)
          | (simp_all; done)
          | (simp_all [eqL, eqC]; done)
          | (simp_all [eqL, eqC]; omega)
    · subst h
      rw [hF5]
      clear hF1 hF2 hF3 hF4 hF5 hF0 hof hof2
      repeat' (first | ((with_reducible apply o_y); exact y_; rfl) | ((with_reducible apply aw_draw2 (id := 7) 9; kernel_rfl; kernel_rfl; kernel_rfl; (repeat (first | exact Cut.zero _ | apply Cut.succ)))) | with_reducible refine aw_draw (by kernel_rfl) (by kernel_rfl) ?_ | with_reducible refine dr_nil ?_ | with_reducible refine dr_nil2 ?_ | with_reducible refine dr_none rfl ?_ | ((with_reducible apply d_y); exact y_; rfl) | refine e_storep ?_ | ((with_reducible apply o_callOV); rfl; kernel_rfl; exact hG; exact hst; exact hdep; ((repeat (first | exact Args.nil | ((with_reducible apply Args.cons); rfl; (with_reducible exact View.same _))))); exact hnew; rintro ⟨ss, bb⟩ -; refine al_app1 ?_) | with_reducible refine al_none rfl ?_ | (with_reducible first | apply aw_seq | apply aw_region | apply al_nil | apply aq_then | apply aw_block | apply aw_ret | apply aq_then_ret | apply aq_block_ret) | refine al_run rfl rfl rfl rr_ ?_ | refine al_skip rfl rfl rfl rr_ rfl rfl rfl ?_ | (refine al_gsplit rfl rfl rfl rr_ (fun hg => ?_) (fun hg => ?_)) | (refine aw_cond_dt rfl rr_ dd_ ?_) | (refine aw_cond_df rfl rr_ dd_ ?_))
      all_goals
        refine aq_ret1 x_ rfl (.tmp _ _ rfl) (fun _ => ?_)
        refine fin_bool ?_
        first
          | (rw [decide_eq_decide]; dsimp only; omega)
          | (symm; rw [decide_eq_false_iff_not]; dsimp only; omega)
          | (symm; rw [decide_eq_true_iff]; dsimp only; omega)
          | (simp [*]; done)
          | (simp_all; done)
          | (simp_all [eqL, eqC]; done)
          | (simp_all [eqL, eqC]; omega)
    · rw [hF0 k1 k2 k3 k4 k5]
      clear hF1 hF2 hF3 hF4 hF5 hF0 hdep hnew hof hof2
      repeat' (first | ((with_reducible apply o_y); exact y_; rfl) | ((with_reducible apply aw_draw2 (id := 7) 9; kernel_rfl; kernel_rfl; kernel_rfl; (repeat (first | exact Cut.zero _ | apply Cut.succ)))) | with_reducible refine aw_draw (by kernel_rfl) (by kernel_rfl) ?_ | with_reducible refine dr_nil ?_ | with_reducible refine dr_nil2 ?_ | with_reducible refine dr_none rfl ?_ | ((with_reducible apply d_y); exact y_; rfl) | refine e_storep ?_ | with_reducible refine al_none rfl ?_ | (with_reducible first | apply aw_seq | apply aw_region | apply al_nil | apply aq_then | apply aw_block | apply aw_skip | apply aw_ret | apply aq_block) | (refine aw_cond_dt rfl rr_ dd_ ?_) | (refine aw_cond_df rfl rr_ dd_ ?_))
      refine aq_ret1 x_ rfl (.tmp _ _ rfl) (fun _ => ?_)
      exact Fin.flat rfl
  · have hof : opFr is (labelsL is) (n + 1) = 0 := by
      unfold opFr
      rw [if_neg (fun h => hn1 h.1)]
    obtain ⟨o1, ho1⟩ : ∃ o : Int, o = 0 := ⟨0, rfl⟩
    refine aw_pick (objs' := (s7, b7, .box [.int .i64 o1, .int .i64 0, .int .i64 0, .str ⟨#[]⟩]) :: (s6, b6, .box [.int .i64 op, .int .i64 a, .int .i64 b, .str t]) :: []) (by rw [ho1]; exact .refl _) ?_
    rcases hkk with h | h | h | ⟨k1, k2, k3, k4, k5⟩
    · subst h
      rw [hF1, hof]
      clear hF1 hF2 hF3 hF4 hF5 hF0 hdep hnew hof
      by_cases hpu : pureOp op
      · rw [decide_eq_true hpu] at hpc
        repeat' (first | ((with_reducible apply o_y); exact y_; rfl) | with_reducible refine aw_draw (by kernel_rfl) (by kernel_rfl) ?_ | with_reducible refine dr_nil ?_ | with_reducible refine dr_none rfl ?_ | ((with_reducible apply d_y); exact y_; rfl) | refine e_call hG hst (hpc) ?_ | with_reducible refine al_none rfl ?_ | (with_reducible first | apply aw_seq | apply aw_region | apply al_nil | apply aq_then | apply aw_block | apply aw_skip | apply aw_ret | apply aq_then_ret | apply aq_block_ret) | refine al_run rfl rfl rfl rr_ ?_ | refine al_skip rfl rfl rfl rr_ rfl rfl rfl ?_ | (refine al_gf rfl rfl rfl rr_ dd_ ?_) | (refine aw_cond_dt rfl rr_ dd_ ?_) | (refine aw_cond_df rfl rr_ dd_ ?_))
        all_goals
          refine aq_ret1 x_ rfl (.tmp _ _ rfl) (fun _ => ?_)
          refine fin_bool ?_
          first
            | (rw [decide_eq_decide]; dsimp only; omega)
            | (symm; rw [decide_eq_false_iff_not]; dsimp only; omega)
            | (symm; rw [decide_eq_true_iff]; dsimp only; omega)
            | (simp [*]; done)
            | (simp_all; done)
            | (simp_all [eqL, eqC]; done)
            | (simp_all [eqL, eqC]; omega)
      · rw [decide_eq_false hpu] at hpc
        repeat' (first | ((with_reducible apply o_y); exact y_; rfl) | with_reducible refine aw_draw (by kernel_rfl) (by kernel_rfl) ?_ | with_reducible refine dr_nil ?_ | with_reducible refine dr_none rfl ?_ | ((with_reducible apply d_y); exact y_; rfl) | refine e_call hG hst (hpc) ?_ | with_reducible refine al_none rfl ?_ | (with_reducible first | apply aw_seq | apply aw_region | apply al_nil | apply aq_then | apply aw_block | apply aw_skip | apply aw_ret | apply aq_then_ret | apply aq_block_ret) | refine al_skip rfl rfl rfl rr_ rfl rfl rfl ?_ | (refine aw_cond_dt rfl rr_ dd_ ?_) | (refine aw_cond_df rfl rr_ dd_ ?_))
        all_goals
          refine aq_ret1 x_ rfl (.tmp _ _ rfl) (fun _ => ?_)
          refine fin_bool ?_
          first
            | (rw [decide_eq_decide]; dsimp only; omega)
            | (symm; rw [decide_eq_false_iff_not]; dsimp only; omega)
            | (symm; rw [decide_eq_true_iff]; dsimp only; omega)
            | (simp [*]; done)
            | (simp_all; done)
            | (simp_all [eqL, eqC]; done)
            | (simp_all [eqL, eqC]; omega)
    · subst h
      rw [hF2]
      clear hF1 hF2 hF3 hF4 hF5 hF0 hdep hnew hof
      repeat' (first | ((with_reducible apply o_y); exact y_; rfl) | with_reducible refine aw_draw (by kernel_rfl) (by kernel_rfl) ?_ | with_reducible refine dr_nil ?_ | with_reducible refine dr_none rfl ?_ | ((with_reducible apply d_y); exact y_; rfl) | with_reducible refine al_none rfl ?_ | (with_reducible first | apply aw_seq | apply aw_region | apply al_nil | apply aq_then | apply aw_block | apply aw_skip | apply aw_ret | apply aq_then_ret | apply aq_block_ret) | refine al_run rfl rfl rfl rr_ ?_ | refine al_skip rfl rfl rfl rr_ rfl rfl rfl ?_ | (refine al_gsplit rfl rfl rfl rr_ (fun hg => ?_) (fun hg => ?_)) | (refine aw_cond_dt rfl rr_ dd_ ?_) | (refine aw_cond_df rfl rr_ dd_ ?_))
      all_goals
        refine aq_ret1 x_ rfl (.tmp _ _ rfl) (fun _ => ?_)
        refine fin_bool ?_
        first
          | (rw [decide_eq_decide]; dsimp only; omega)
          | (symm; rw [decide_eq_false_iff_not]; dsimp only; omega)
          | (symm; rw [decide_eq_true_iff]; dsimp only; omega)
          | (simp [*]; done)
          | (simp_all; done)
          | (simp_all [eqL, eqC]; done)
          | (simp_all [eqL, eqC]; omega)
    · subst h
      rw [hF5]
      clear hF1 hF2 hF3 hF4 hF5 hF0 hof
      repeat' (first | ((with_reducible apply o_y); exact y_; rfl) | with_reducible refine aw_draw (by kernel_rfl) (by kernel_rfl) ?_ | with_reducible refine dr_nil ?_ | with_reducible refine dr_none rfl ?_ | ((with_reducible apply d_y); exact y_; rfl) | ((with_reducible apply o_callOV); rfl; kernel_rfl; exact hG; exact hst; exact hdep; ((repeat (first | exact Args.nil | ((with_reducible apply Args.cons); rfl; (with_reducible exact View.same _))))); exact hnew; rintro ⟨ss, bb⟩ -; refine al_app1 ?_) | with_reducible refine al_none rfl ?_ | (with_reducible first | apply aw_seq | apply aw_region | apply al_nil | apply aq_then | apply aw_block | apply aw_skip | apply aw_ret | apply aq_then_ret | apply aq_block_ret) | refine al_run rfl rfl rfl rr_ ?_ | refine al_skip rfl rfl rfl rr_ rfl rfl rfl ?_ | (refine al_gsplit rfl rfl rfl rr_ (fun hg => ?_) (fun hg => ?_)) | (refine aw_cond_dt rfl rr_ dd_ ?_) | (refine aw_cond_df rfl rr_ dd_ ?_))
      all_goals
        refine aq_ret1 x_ rfl (.tmp _ _ rfl) (fun _ => ?_)
        refine fin_bool ?_
        first
          | (rw [decide_eq_decide]; dsimp only; omega)
          | (symm; rw [decide_eq_false_iff_not]; dsimp only; omega)
          | (symm; rw [decide_eq_true_iff]; dsimp only; omega)
          | (simp [*]; done)
          | (simp_all; done)
          | (simp_all [eqL, eqC]; done)
          | (simp_all [eqL, eqC]; omega)
    · rw [hF0 k1 k2 k3 k4 k5]
      clear hF1 hF2 hF3 hF4 hF5 hF0 hdep hnew hof
      repeat' (first | ((with_reducible apply o_y); exact y_; rfl) | with_reducible refine aw_draw (by kernel_rfl) (by kernel_rfl) ?_ | with_reducible refine dr_nil ?_ | with_reducible refine dr_none rfl ?_ | ((with_reducible apply d_y); exact y_; rfl) | with_reducible refine al_none rfl ?_ | (with_reducible first | apply aw_seq | apply aw_region | apply al_nil | apply aq_then | apply aw_block | apply aw_skip | apply aw_ret | apply aq_block) | (refine aw_cond_df rfl rr_ dd_ ?_))
      refine aq_ret1 x_ rfl (.tmp _ _ rfl) (fun _ => ?_)
      exact Fin.flat rfl
end Go.Proofs.YtfchjaoeogolnaaGreatDoor
/- EditsOf of the reference: whether an edit fits: kind 3. Written by gen_ed.py. -/
namespace Go.Proofs.YtfchjaoeogolnaaGreatDoor
set_option maxRecDepth 20000
open Go Go.RowKit
set_option maxRecDepth 8000 in
set_option maxHeartbeats 8000000 in
theorem l27FitsB_ct (f lo : Nat) (bl : Bool) (pr sl : Int) (is : List TInstr) (hok : CodeOk is) (hts : ∀ i ∈ is, i.text.size ≤ 1048576) (code at_ kind : Int) (hkk : kind = 3) (hatm : -9223372036854775808 ≤ at_ ∧ at_ ≤ 9223372036854775807) :
    Ct Tryz.prog GL 47 [.cp f [.bool bl, .int .i64 pr, .int .i64 sl, .sl lo 4 (is.map (TInstr.tw lo))], .agg [.int .i64 code, .int .i64 at_, .int .i64 kind]] (fun _ => .bool (fitsZ is at_ kind)) := by
  refine ct_enter Tryz.func47 rfl Tryz.ntmps47 rfl rfl fun w0 _ hG => ?_
  have hst := GL_st
  have hn := hok.len
  have hil := TInstr.len lo is
  have hlab := l27Labels_ct (G := GL) f lo bl pr sl is (by omega) hok.pre
  have hin := l1In_ct (G := GL) at_ 0 ((is.length : Int) - 1)
  by_cases hat : 0 ≤ at_ ∧ at_ ≤ (is.length : Int) - 1
  case neg =>
    have hz : fitsZ is at_ kind = false := if_neg hat
    rw [hz]
    rw [show inR at_ 0 ((is.length : Int) - 1) = false by simpa [inR] using hat] at hin
    clear hlab
    repeat' (first | ((with_reducible apply o_y); exact y_; rfl) | refine e_box ?_ | with_reducible refine aw_draw (by kernel_rfl) (by kernel_rfl) ?_ | with_reducible refine dr_nil ?_ | with_reducible refine dr_none rfl ?_ | ((with_reducible apply d_y); exact y_; rfl) | refine e_calld hG hst (hin) ?_ | with_reducible refine al_none rfl ?_ | (with_reducible first | apply aw_seq | apply aw_region | apply al_nil | apply aq_then | apply aw_ret | apply aq_then_ret) | refine aw_cond_t rfl rr_ ?_)
    refine aq_ret1 x_ rfl (.tmp _ _ rfl) (fun _ => ?_)
    exact Fin.flat rfl
  rw [inR_t hat] at hin
  obtain ⟨n, rfl⟩ : ∃ n : Nat, at_ = n := ⟨at_.toNat, by omega⟩
  have hlt : n < is.length := by omega
  rw [show (is.length : Int) - 1 = ((is.length - 1 : Nat) : Int) by omega] at hin
  have hl1 : labelsL is = labP is is.length := rfl
  have hll : (labelsL is).length = is.length + 1 := by rw [hl1]; exact labP_len _ _
  have hbl := boolR_len (labelsL is)
  have hrow0 := tinstr_row (lo := lo) hlt
  have hi0 := insAt_get hlt
  rw [fitsZ_in hlt, hi0]
  have hro := fun k (h : k < is.length) => tinstr_row (lo := lo) h
  have hio := fun k (h : k < is.length) => insAt_get h
  have hlr := fun k (h : k < is.length + 1) => boolR_get (l := labelsL is) (k := k) (by omega)
  have hla := lab_in hok.pre (List.getElem_mem hlt)
  have htx := hok.txt
  clear hi0
  generalize hx : is[n] = x at hrow0 hla ⊢
  obtain ⟨op, a, b, t⟩ := x
  dsimp only at hrow0 hla
  repeat' (first | ((with_reducible apply o_y); exact y_; rfl) | refine e_box ?_ | ((with_reducible apply aw_draw3 (id := 4) 8); kernel_rfl; kernel_rfl; kernel_rfl; (repeat (first | exact Cut.zero _ | apply Cut.succ)); rfl; rfl; rfl; rfl; rfl; kernel_rfl; rfl) | with_reducible refine aw_hold_r (id := 6) ?_ | with_reducible refine aw_draw (by kernel_rfl) (by kernel_rfl) ?_ | with_reducible refine dr_nil ?_ | with_reducible refine dr_none rfl ?_ | ((with_reducible apply d_y); exact y_; rfl) | ((with_reducible apply u_y); exact yu_; rfl) | (with_reducible refine du_nil ?_; intro ss bb) | refine e_calld hG hst (hin) ?_ | refine e_call hG hst (hlab) ?_ | (refine e_alloc ?_; intro ss bb) | refine e_storep ?_ | refine e_build ?_ | with_reducible refine al_none rfl ?_ | (with_reducible first | apply aw_seq | apply aw_region | apply al_nil | apply aq_then | apply aw_skip) | refine aw_cond_f rfl rr_ ?_)
  refine ⟨?_⟩
  generalize ss = s7; generalize bb = b7
  rename_i s6 b6
  have hl1' : n + 1 < is.length + 1 := by omega
  have hlr1 := hlr (n + 1) hl1'
  have hpc := l27Pure_ct (G := GL) hst op
  have hF1 : ∀ lab ds x, fitsB is lab ds n x (1 : Int).toNat = decide (pureOp x.op ∧ opFr is lab (n + 1) = 16) := fun _ _ _ => rfl
  have hF2 : ∀ lab ds x, fitsB is lab ds n x (2 : Int).toNat = decide (x.op = 20 ∧ x.a = (n : Int) + 1) := fun _ _ _ => rfl
  have hF3 : ∀ lab ds x, fitsB is lab ds n x (3 : Int).toNat = decide (x.op = 9 ∧ opFr is lab (n + 1) = 16 ∧ opFr is lab (n + 2) = 8 ∧ (insAt is (n + 2)).a = x.a ∧ (insAt is (n + 2)).b = x.b) := fun _ _ _ => rfl
  have hF4 : ∀ lab ds x, fitsB is lab ds n x (4 : Int).toNat = decide (x.op = 20 ∧ x.a ≠ n ∧ (insAt is x.a.toNat).op = 20 ∧ (insAt is x.a.toNat).a ≠ x.a) := fun _ _ _ => rfl
  have hF5 : ∀ lab ds x, fitsB is lab ds n x (5 : Int).toNat = decide (gd ds n = -1 ∧ x.op ≠ 15 ∧ 1 < is.length) := fun _ _ _ => rfl
  have hF0 : ¬ kind = 1 → ¬ kind = 2 → ¬ kind = 3 → ¬ kind = 4 → ¬ kind = 5 → fitsB is (labelsL is) ((depthsL is).getD []) n ⟨op, a, b, t⟩ kind.toNat = false := fun h1 h2 h3 h4 h5 => fitsB_no h1 h2 h3 h4 h5
  obtain ⟨ds, hds⟩ := Option.isSome_iff_exists.1 hok.dep
  obtain ⟨hdl, hdi⟩ := depthsL_inv hds
  have hdg := hdi.gd n
  have hdep := l16Depths_ct hst hcaS f lo bl pr sl is (by omega) hts hok.pre
  have hnew := dO_new (depthsS is)
  rw [← depthsL_eq is hok.pre, hds, instrs_tw lo] at hdep
  rw [← depthsL_eq is hok.pre, hds] at hnew
  rw [hds] at hF0 ⊢
  unfold dR dO at hdep hnew
  dsimp only [Option.getD_some, Option.isSome_some] at hdep hnew hF0 ⊢
  have hrd : (intR ds)[n]? = some [.int .i64 (gd ds n)] := by rw [gd_get (by omega)]; exact intR_get (by omega)
  have hid := intR_length ds
  replace hF5 := hF5 (labelsL is) ds
  generalize gd ds n = g at hrd hdg hF5
  have h := hkk
  by_cases hn1 : n + 1 < is.length
  · have hrow1 := hro (n + 1) hn1
    have hio1 := hio (n + 1) hn1
    have hlr2 := hlr (n + 2) (by omega)
    have hi2 : 1 < is.length := by omega
    generalize hx1 : is[n + 1] = x1 at hrow1 hio1
    obtain ⟨o1, a1, b1, t1⟩ := x1
    dsimp only at hrow1
    have hof : opFr is (labelsL is) (n + 1) = if gb (labelsL is) ((n + 1 : Nat) : Int) = false then o1 else 0 := by
      unfold opFr
      by_cases hg : gb (labelsL is) ((n + 1 : Nat) : Int) = false
      · rw [if_pos ⟨hn1, hg⟩, if_pos hg, hio1]
      · rw [if_neg (fun h => hg h.2), if_neg hg]
    have hof2 : opFr is (labelsL is) (n + 2) = if n + 2 < is.length ∧ gb (labelsL is) ((n + 2 : Nat) : Int) = false then (insAt is (n + 2)).op else 0 := rfl
    generalize gb (labelsL is) ((n + 1 : Nat) : Int) = g1 at hlr1 hof
    generalize gb (labelsL is) ((n + 2 : Nat) : Int) = g2 at hlr2 hof2
    · subst h
      rw [hF3, hof, hof2]
      clear hF1 hF2 hF3 hF4 hF5 hF0 hdep hnew hof hof2
      by_cases h9 : op = 9
      case neg =>
        repeat' (first | ((with_reducible apply o_y); exact y_; rfl) | ((with_reducible apply aw_draw2 (id := 7) 9; kernel_rfl; kernel_rfl; kernel_rfl; (repeat (first | exact Cut.zero _ | apply Cut.succ)))) | with_reducible refine aw_draw (by kernel_rfl) (by kernel_rfl) ?_ | with_reducible refine dr_nil ?_ | with_reducible refine dr_nil2 ?_ | with_reducible refine dr_none rfl ?_ | refine dr_skip rfl rfl rfl rr_ rfl rfl rfl ?_ | (refine dr_gf rfl rfl rfl rr_ dd_ ?_) | ((with_reducible apply d_y); exact y_; rfl) | refine e_storep ?_ | with_reducible refine al_none rfl ?_ | (with_reducible first | apply aw_seq | apply aw_region | apply al_nil | apply aq_then | apply aw_block | apply aw_ret | apply aq_then_ret | apply aq_block_ret) | (refine aw_cond_dt rfl rr_ dd_ ?_) | (refine aw_cond_df rfl rr_ dd_ ?_))
        all_goals
          refine aq_ret1 x_ rfl (.tmp _ _ rfl) (fun _ => ?_)
          refine fin_bool ?_
          first
            | (rw [decide_eq_decide]; dsimp only; omega)
            | (symm; rw [decide_eq_false_iff_not]; dsimp only; omega)
            | (symm; rw [decide_eq_true_iff]; dsimp only; omega)
            | (simp [*]; done)
            | (simp_all; done)
            | (simp_all [eqL, eqC]; done)
            | (simp_all [eqL, eqC]; omega)
      by_cases h16 : o1 = 16
      case neg =>
        repeat' (first | ((with_reducible apply o_y); exact y_; rfl) | ((with_reducible apply aw_draw2 (id := 7) 9; kernel_rfl; kernel_rfl; kernel_rfl; (repeat (first | exact Cut.zero _ | apply Cut.succ)))) | with_reducible refine aw_draw (by kernel_rfl) (by kernel_rfl) ?_ | with_reducible refine dr_nil ?_ | with_reducible refine dr_nil2 ?_ | with_reducible refine dr_none rfl ?_ | refine dr_run rfl rfl rfl rr_ ?_ | refine dr_skip rfl rfl rfl rr_ rfl rfl rfl ?_ | (refine dr_gt rfl rfl rfl rr_ dd_ ?_) | (refine dr_gf rfl rfl rfl rr_ dd_ ?_) | ((with_reducible apply d_y); exact y_; rfl) | refine e_storep ?_ | with_reducible refine al_none rfl ?_ | (with_reducible first | apply aw_seq | apply aw_region | apply al_nil | apply aq_then | apply aw_block | apply aw_ret | apply aq_then_ret | apply aq_block_ret) | (refine aw_cond_dt rfl rr_ dd_ ?_) | (refine aw_cond_df rfl rr_ dd_ ?_))
        all_goals
          refine aq_ret1 x_ rfl (.tmp _ _ rfl) (fun _ => ?_)
          refine fin_bool ?_
          first
            | (rw [decide_eq_decide]; dsimp only; omega)
            | (symm; rw [decide_eq_false_iff_not]; dsimp only; omega)
            | (symm; rw [decide_eq_true_iff]; dsimp only; omega)
            | (simp [*]; done)
            | (simp_all; done)
            | (simp_all [eqL, eqC]; done)
            | (simp_all [eqL, eqC]; omega)
      by_cases hn2 : n + 2 < is.length
      case neg =>
        clear hio hro hlr htx hx hx1 hio1
        repeat' (first | ((with_reducible apply o_y); exact y_; rfl) | ((with_reducible apply aw_draw2 (id := 7) 9; kernel_rfl; kernel_rfl; kernel_rfl; (repeat (first | exact Cut.zero _ | apply Cut.succ)))) | with_reducible refine aw_draw (by kernel_rfl) (by kernel_rfl) ?_ | with_reducible refine dr_nil ?_ | with_reducible refine dr_nil2 ?_ | with_reducible refine dr_none rfl ?_ | refine dr_run rfl rfl rfl rr_ ?_ | refine dr_skip rfl rfl rfl rr_ rfl rfl rfl ?_ | (refine dr_gt rfl rfl rfl rr_ dd_ ?_) | (refine dr_gf rfl rfl rfl rr_ dd_ ?_) | ((with_reducible apply d_y); exact y_; rfl) | refine e_storep ?_ | with_reducible refine al_none rfl ?_ | (with_reducible first | apply aw_seq | apply aw_region | apply al_nil | apply aq_then | apply aw_block | apply aw_ret | apply aq_then_ret | apply aq_block_ret) | (refine aw_cond_dt rfl rr_ dd_ ?_) | (refine aw_cond_df rfl rr_ dd_ ?_))
        all_goals
          refine aq_ret1 x_ rfl (.tmp _ _ rfl) (fun _ => ?_)
          refine fin_bool ?_
          first
            | (rw [decide_eq_decide]; dsimp only; omega)
            | (symm; rw [decide_eq_false_iff_not]; dsimp only; omega)
            | (symm; rw [decide_eq_true_iff]; dsimp only; omega)
            | (simp [*]; done)
            | (simp_all; done)
            | (simp_all [eqL, eqC]; done)
            | (simp_all [eqL, eqC]; omega)
      have hrow2 := hro (n + 2) hn2
      have htx2 := htx is[n + 2] (List.getElem_mem hn2)
      rw [hio (n + 2) hn2]
      generalize is[n + 2] = x2 at hrow2 htx2 ⊢
      obtain ⟨o2, a2, b2, t2⟩ := x2
      dsimp only at hrow2 htx2 ⊢
      clear hio hro hlr htx hx hx1 hio1
      cases g1 <;> cases g2
      all_goals
        repeat' (first | ((with_reducible apply o_y); exact y_; rfl) | ((with_reducible apply aw_draw2 (id := 7) 9; kernel_rfl; kernel_rfl; kernel_rfl; (repeat (first | exact Cut.zero _ | apply Cut.succ)))) | with_reducible refine aw_draw (by kernel_rfl) (by kernel_rfl) ?_ | with_reducible refine dr_nil ?_ | with_reducible refine dr_nil2 ?_ | with_reducible refine dr_none rfl ?_ | refine dr_run rfl rfl rfl rr_ ?_ | refine dr_skip rfl rfl rfl rr_ rfl rfl rfl ?_ | (refine dr_gt rfl rfl rfl rr_ dd_ ?_) | (refine dr_gsplit_b rfl rfl rfl rr_ (fun hg => ?_) (fun hg => ?_)) | ((with_reducible apply d_y); exact y_; rfl) | refine e_storep ?_ | refine e_buildd ?_ | with_reducible refine al_none rfl ?_ | (with_reducible first | apply aw_seq | apply aw_region | apply al_nil | apply aq_then | apply aw_block | apply aw_ret | apply aq_then_ret | apply aq_block_ret) | (refine aw_cond_dt rfl rr_ dd_ ?_) | (refine aw_cond_df rfl rr_ dd_ ?_))
      all_goals
        refine aq_ret1 x_ rfl (.tmp _ _ rfl) (fun _ => ?_)
        refine fin_bool ?_
        first
          | (rw [decide_eq_decide]; dsimp only; omega)
          | (symm; rw [decide_eq_false_iff_not]; dsimp only; omega)
          | (symm; rw [decide_eq_true_iff]; dsimp only; omega)
          | (simp [*]; done)
          | (simp_all; done)
          | (simp_all [eqL, eqC]; done)
          | (simp_all [eqL, eqC]; omega)
  · have hof : opFr is (labelsL is) (n + 1) = 0 := by
      unfold opFr
      rw [if_neg (fun h => hn1 h.1)]
    obtain ⟨o1, ho1⟩ : ∃ o : Int, o = 0 := ⟨0, rfl⟩
    refine aw_pick (objs' := (s7, b7, .box [.int .i64 o1, .int .i64 0, .int .i64 0, .str ⟨#[]⟩]) :: (s6, b6, .box [.int .i64 op, .int .i64 a, .int .i64 b, .str t]) :: []) (by rw [ho1]; exact .refl _) ?_
    · subst h
      rw [hF3, hof]
      clear hF1 hF2 hF3 hF4 hF5 hF0 hdep hnew hof
      repeat' (first | ((with_reducible apply o_y); exact y_; rfl) | with_reducible refine aw_draw (by kernel_rfl) (by kernel_rfl) ?_ | with_reducible refine dr_nil ?_ | with_reducible refine dr_none rfl ?_ | refine dr_run rfl rfl rfl rr_ ?_ | refine dr_skip rfl rfl rfl rr_ rfl rfl rfl ?_ | (refine dr_gf rfl rfl rfl rr_ dd_ ?_) | (refine dr_gsplit rfl rfl rfl rr_ (fun hg => ?_) (fun hg => ?_)) | ((with_reducible apply d_y); exact y_; rfl) | with_reducible refine al_none rfl ?_ | (with_reducible first | apply aw_seq | apply aw_region | apply al_nil | apply aq_then | apply aw_block | apply aw_skip | apply aw_ret | apply aq_then_ret | apply aq_block_ret) | (refine aw_cond_dt rfl rr_ dd_ ?_) | (refine aw_cond_df rfl rr_ dd_ ?_))
      all_goals
        refine aq_ret1 x_ rfl (.tmp _ _ rfl) (fun _ => ?_)
        refine fin_bool ?_
        first
          | (rw [decide_eq_decide]; dsimp only; omega)
          | (symm; rw [decide_eq_false_iff_not]; dsimp only; omega)
          | (symm; rw [decide_eq_true_iff]; dsimp only; omega)
          | (simp [*]; done)
          | (simp_all; done)
          | (simp_all [eqL, eqC]; done)
          | (simp_all [eqL, eqC]; omega)
end Go.Proofs.YtfchjaoeogolnaaGreatDoor
/- EditsOf of the reference: whether an edit fits: kind 4. Written by gen_ed.py. -/
namespace Go.Proofs.YtfchjaoeogolnaaGreatDoor
set_option maxRecDepth 20000
open Go Go.RowKit
set_option maxRecDepth 8000 in
set_option maxHeartbeats 8000000 in
theorem l27FitsC_ct (f lo : Nat) (bl : Bool) (pr sl : Int) (is : List TInstr) (hok : CodeOk is) (hts : ∀ i ∈ is, i.text.size ≤ 1048576) (code at_ kind : Int) (hkk : kind = 4) (hatm : -9223372036854775808 ≤ at_ ∧ at_ ≤ 9223372036854775807) :
    Ct Tryz.prog GL 47 [.cp f [.bool bl, .int .i64 pr, .int .i64 sl, .sl lo 4 (is.map (TInstr.tw lo))], .agg [.int .i64 code, .int .i64 at_, .int .i64 kind]] (fun _ => .bool (fitsZ is at_ kind)) := by
  refine ct_enter Tryz.func47 rfl Tryz.ntmps47 rfl rfl fun w0 _ hG => ?_
  have hst := GL_st
  have hn := hok.len
  have hil := TInstr.len lo is
  have hlab := l27Labels_ct (G := GL) f lo bl pr sl is (by omega) hok.pre
  have hin := l1In_ct (G := GL) at_ 0 ((is.length : Int) - 1)
  by_cases hat : 0 ≤ at_ ∧ at_ ≤ (is.length : Int) - 1
  case neg =>
    have hz : fitsZ is at_ kind = false := if_neg hat
    rw [hz]
    rw [show inR at_ 0 ((is.length : Int) - 1) = false by simpa [inR] using hat] at hin
    clear hlab
    repeat' (first | ((with_reducible apply o_y); exact y_; rfl) | refine e_box ?_ | with_reducible refine aw_draw (by kernel_rfl) (by kernel_rfl) ?_ | with_reducible refine dr_nil ?_ | with_reducible refine dr_none rfl ?_ | ((with_reducible apply d_y); exact y_; rfl) | refine e_calld hG hst (hin) ?_ | with_reducible refine al_none rfl ?_ | (with_reducible first | apply aw_seq | apply aw_region | apply al_nil | apply aq_then | apply aw_ret | apply aq_then_ret) | refine aw_cond_t rfl rr_ ?_)
    refine aq_ret1 x_ rfl (.tmp _ _ rfl) (fun _ => ?_)
    exact Fin.flat rfl
  rw [inR_t hat] at hin
  obtain ⟨n, rfl⟩ : ∃ n : Nat, at_ = n := ⟨at_.toNat, by omega⟩
  have hlt : n < is.length := by omega
  rw [show (is.length : Int) - 1 = ((is.length - 1 : Nat) : Int) by omega] at hin
  have hl1 : labelsL is = labP is is.length := rfl
  have hll : (labelsL is).length = is.length + 1 := by rw [hl1]; exact labP_len _ _
  have hbl := boolR_len (labelsL is)
  have hrow0 := tinstr_row (lo := lo) hlt
  have hi0 := insAt_get hlt
  rw [fitsZ_in hlt, hi0]
  have hro := fun k (h : k < is.length) => tinstr_row (lo := lo) h
  have hio := fun k (h : k < is.length) => insAt_get h
  have hlr := fun k (h : k < is.length + 1) => boolR_get (l := labelsL is) (k := k) (by omega)
  have hla := lab_in hok.pre (List.getElem_mem hlt)
  have htx := hok.txt
  clear hi0
  generalize hx : is[n] = x at hrow0 hla ⊢
  obtain ⟨op, a, b, t⟩ := x
  dsimp only at hrow0 hla
  repeat' (first | ((with_reducible apply o_y); exact y_; rfl) | refine e_box ?_ | ((with_reducible apply aw_draw3 (id := 4) 8); kernel_rfl; kernel_rfl; kernel_rfl; (repeat (first | exact Cut.zero _ | apply Cut.succ)); rfl; rfl; rfl; rfl; rfl; kernel_rfl; rfl) | with_reducible refine aw_hold_r (id := 6) ?_ | with_reducible refine aw_draw (by kernel_rfl) (by kernel_rfl) ?_ | with_reducible refine dr_nil ?_ | with_reducible refine dr_none rfl ?_ | ((with_reducible apply d_y); exact y_; rfl) | ((with_reducible apply u_y); exact yu_; rfl) | (with_reducible refine du_nil ?_; intro ss bb) | refine e_calld hG hst (hin) ?_ | refine e_call hG hst (hlab) ?_ | (refine e_alloc ?_; intro ss bb) | refine e_storep ?_ | refine e_build ?_ | with_reducible refine al_none rfl ?_ | (with_reducible first | apply aw_seq | apply aw_region | apply al_nil | apply aq_then | apply aw_skip) | refine aw_cond_f rfl rr_ ?_)
  refine ⟨?_⟩
  generalize ss = s7; generalize bb = b7
  rename_i s6 b6
  have hl1' : n + 1 < is.length + 1 := by omega
  have hlr1 := hlr (n + 1) hl1'
  have hpc := l27Pure_ct (G := GL) hst op
  have hF1 : ∀ lab ds x, fitsB is lab ds n x (1 : Int).toNat = decide (pureOp x.op ∧ opFr is lab (n + 1) = 16) := fun _ _ _ => rfl
  have hF2 : ∀ lab ds x, fitsB is lab ds n x (2 : Int).toNat = decide (x.op = 20 ∧ x.a = (n : Int) + 1) := fun _ _ _ => rfl
  have hF3 : ∀ lab ds x, fitsB is lab ds n x (3 : Int).toNat = decide (x.op = 9 ∧ opFr is lab (n + 1) = 16 ∧ opFr is lab (n + 2) = 8 ∧ (insAt is (n + 2)).a = x.a ∧ (insAt is (n + 2)).b = x.b) := fun _ _ _ => rfl
  have hF4 : ∀ lab ds x, fitsB is lab ds n x (4 : Int).toNat = decide (x.op = 20 ∧ x.a ≠ n ∧ (insAt is x.a.toNat).op = 20 ∧ (insAt is x.a.toNat).a ≠ x.a) := fun _ _ _ => rfl
  have hF5 : ∀ lab ds x, fitsB is lab ds n x (5 : Int).toNat = decide (gd ds n = -1 ∧ x.op ≠ 15 ∧ 1 < is.length) := fun _ _ _ => rfl
  have hF0 : ¬ kind = 1 → ¬ kind = 2 → ¬ kind = 3 → ¬ kind = 4 → ¬ kind = 5 → fitsB is (labelsL is) ((depthsL is).getD []) n ⟨op, a, b, t⟩ kind.toNat = false := fun h1 h2 h3 h4 h5 => fitsB_no h1 h2 h3 h4 h5
  obtain ⟨ds, hds⟩ := Option.isSome_iff_exists.1 hok.dep
  obtain ⟨hdl, hdi⟩ := depthsL_inv hds
  have hdg := hdi.gd n
  have hdep := l16Depths_ct hst hcaS f lo bl pr sl is (by omega) hts hok.pre
  have hnew := dO_new (depthsS is)
  rw [← depthsL_eq is hok.pre, hds, instrs_tw lo] at hdep
  rw [← depthsL_eq is hok.pre, hds] at hnew
  rw [hds] at hF0 ⊢
  unfold dR dO at hdep hnew
  dsimp only [Option.getD_some, Option.isSome_some] at hdep hnew hF0 ⊢
  have hrd : (intR ds)[n]? = some [.int .i64 (gd ds n)] := by rw [gd_get (by omega)]; exact intR_get (by omega)
  have hid := intR_length ds
  replace hF5 := hF5 (labelsL is) ds
  generalize gd ds n = g at hrd hdg hF5
  have h := hkk
  by_cases hn1 : n + 1 < is.length
  · have hrow1 := hro (n + 1) hn1
    have hio1 := hio (n + 1) hn1
    have hlr2 := hlr (n + 2) (by omega)
    have hi2 : 1 < is.length := by omega
    generalize hx1 : is[n + 1] = x1 at hrow1 hio1
    obtain ⟨o1, a1, b1, t1⟩ := x1
    dsimp only at hrow1
    have hof : opFr is (labelsL is) (n + 1) = if gb (labelsL is) ((n + 1 : Nat) : Int) = false then o1 else 0 := by
      unfold opFr
      by_cases hg : gb (labelsL is) ((n + 1 : Nat) : Int) = false
      · rw [if_pos ⟨hn1, hg⟩, if_pos hg, hio1]
      · rw [if_neg (fun h => hg h.2), if_neg hg]
    have hof2 : opFr is (labelsL is) (n + 2) = if n + 2 < is.length ∧ gb (labelsL is) ((n + 2 : Nat) : Int) = false then (insAt is (n + 2)).op else 0 := rfl
    generalize gb (labelsL is) ((n + 1 : Nat) : Int) = g1 at hlr1 hof
    generalize gb (labelsL is) ((n + 2 : Nat) : Int) = g2 at hlr2 hof2
    · subst h
      rw [hF4]
      clear hF1 hF2 hF3 hF4 hF5 hF0 hdep hnew hof hof2
      by_cases h20 : op = 20
      · subst h20
        have hra := inR_b (List.all_eq_true.1 hla 1 (by simp [labOff_20]))
        rw [labV_1] at hra
        obtain ⟨an, rfl⟩ : ∃ an : Nat, a = an := ⟨a.toNat, by omega⟩
        have hal : an < is.length := by omega
        have hrow4 := hro an hal
        rw [Int.toNat_natCast, hio an hal]
        generalize is[an] = x4 at hrow4 ⊢
        obtain ⟨o4, a4, b4, t4⟩ := x4
        dsimp only at hrow4 ⊢
        repeat' (first | ((with_reducible apply o_y); exact y_; rfl) | ((with_reducible apply aw_draw2 (id := 7) 9; kernel_rfl; kernel_rfl; kernel_rfl; (repeat (first | exact Cut.zero _ | apply Cut.succ)))) | with_reducible refine aw_draw (by kernel_rfl) (by kernel_rfl) ?_ | with_reducible refine dr_nil ?_ | with_reducible refine dr_nil2 ?_ | with_reducible refine dr_none rfl ?_ | refine dr_run rfl rfl rfl rr_ ?_ | refine dr_skip rfl rfl rfl rr_ rfl rfl rfl ?_ | (refine dr_gt rfl rfl rfl rr_ dd_ ?_) | (refine dr_gsplit rfl rfl rfl rr_ (fun hg => ?_) (fun hg => ?_)) | ((with_reducible apply d_y); exact y_; rfl) | refine e_storep ?_ | with_reducible refine al_none rfl ?_ | (with_reducible first | apply aw_seq | apply aw_region | apply al_nil | apply aq_then | apply aw_block | apply aw_ret | apply aq_then_ret | apply aq_block_ret) | (refine aw_cond_dt rfl rr_ dd_ ?_) | (refine aw_cond_df rfl rr_ dd_ ?_))
        all_goals
          refine aq_ret1 x_ rfl (.tmp _ _ rfl) (fun _ => ?_)
          refine fin_bool ?_
          first
            | (rw [decide_eq_decide]; dsimp only; omega)
            | (symm; rw [decide_eq_false_iff_not]; dsimp only; omega)
            | (symm; rw [decide_eq_true_iff]; dsimp only; omega)
            | (simp [*]; done)
            | (simp_all; done)
            | (simp_all [eqL, eqC]; done)
            | (simp_all [eqL, eqC]; omega)
      · repeat' (first | ((with_reducible apply o_y); exact y_; rfl) | ((with_reducible apply aw_draw2 (id := 7) 9; kernel_rfl; kernel_rfl; kernel_rfl; (repeat (first | exact Cut.zero _ | apply Cut.succ)))) | with_reducible refine aw_draw (by kernel_rfl) (by kernel_rfl) ?_ | with_reducible refine dr_nil ?_ | with_reducible refine dr_nil2 ?_ | with_reducible refine dr_none rfl ?_ | refine dr_skip rfl rfl rfl rr_ rfl rfl rfl ?_ | (refine dr_gf rfl rfl rfl rr_ dd_ ?_) | ((with_reducible apply d_y); exact y_; rfl) | refine e_storep ?_ | with_reducible refine al_none rfl ?_ | (with_reducible first | apply aw_seq | apply aw_region | apply al_nil | apply aq_then | apply aw_block | apply aw_ret | apply aq_then_ret | apply aq_block_ret) | (refine aw_cond_dt rfl rr_ dd_ ?_) | (refine aw_cond_df rfl rr_ dd_ ?_))
        all_goals
          refine aq_ret1 x_ rfl (.tmp _ _ rfl) (fun _ => ?_)
          refine fin_bool ?_
          first
            | (rw [decide_eq_decide]; dsimp only; omega)
            | (symm; rw [decide_eq_false_iff_not]; dsimp only; omega)
            | (symm; rw [decide_eq_true_iff]; dsimp only; omega)
            | (simp [*]; done)
            | (simp_all; done)
            | (simp_all [eqL, eqC]; done)
            | (simp_all [eqL, eqC]; omega)
  · have hof : opFr is (labelsL is) (n + 1) = 0 := by
      unfold opFr
      rw [if_neg (fun h => hn1 h.1)]
    obtain ⟨o1, ho1⟩ : ∃ o : Int, o = 0 := ⟨0, rfl⟩
    refine aw_pick (objs' := (s7, b7, .box [.int .i64 o1, .int .i64 0, .int .i64 0, .str ⟨#[]⟩]) :: (s6, b6, .box [.int .i64 op, .int .i64 a, .int .i64 b, .str t]) :: []) (by rw [ho1]; exact .refl _) ?_
    · subst h
      rw [hF4]
      clear hF1 hF2 hF3 hF4 hF5 hF0 hdep hnew hof
      by_cases h20 : op = 20
      · subst h20
        have hra := inR_b (List.all_eq_true.1 hla 1 (by simp [labOff_20]))
        rw [labV_1] at hra
        obtain ⟨an, rfl⟩ : ∃ an : Nat, a = an := ⟨a.toNat, by omega⟩
        have hal : an < is.length := by omega
        have hrow4 := hro an hal
        rw [Int.toNat_natCast, hio an hal]
        generalize is[an] = x4 at hrow4 ⊢
        obtain ⟨o4, a4, b4, t4⟩ := x4
        dsimp only at hrow4 ⊢
        repeat' (first | ((with_reducible apply o_y); exact y_; rfl) | with_reducible refine aw_draw (by kernel_rfl) (by kernel_rfl) ?_ | with_reducible refine dr_nil ?_ | with_reducible refine dr_none rfl ?_ | refine dr_run rfl rfl rfl rr_ ?_ | refine dr_skip rfl rfl rfl rr_ rfl rfl rfl ?_ | (refine dr_gt rfl rfl rfl rr_ dd_ ?_) | (refine dr_gsplit rfl rfl rfl rr_ (fun hg => ?_) (fun hg => ?_)) | ((with_reducible apply d_y); exact y_; rfl) | with_reducible refine al_none rfl ?_ | (with_reducible first | apply aw_seq | apply aw_region | apply al_nil | apply aq_then | apply aw_block | apply aw_skip | apply aw_ret | apply aq_then_ret | apply aq_block_ret) | (refine aw_cond_dt rfl rr_ dd_ ?_) | (refine aw_cond_df rfl rr_ dd_ ?_))
        all_goals
          refine aq_ret1 x_ rfl (.tmp _ _ rfl) (fun _ => ?_)
          refine fin_bool ?_
          first
            | (rw [decide_eq_decide]; dsimp only; omega)
            | (symm; rw [decide_eq_false_iff_not]; dsimp only; omega)
            | (symm; rw [decide_eq_true_iff]; dsimp only; omega)
            | (simp [*]; done)
            | (simp_all; done)
            | (simp_all [eqL, eqC]; done)
            | (simp_all [eqL, eqC]; omega)
      · repeat' (first | ((with_reducible apply o_y); exact y_; rfl) | with_reducible refine aw_draw (by kernel_rfl) (by kernel_rfl) ?_ | with_reducible refine dr_nil ?_ | with_reducible refine dr_none rfl ?_ | refine dr_skip rfl rfl rfl rr_ rfl rfl rfl ?_ | (refine dr_gf rfl rfl rfl rr_ dd_ ?_) | ((with_reducible apply d_y); exact y_; rfl) | with_reducible refine al_none rfl ?_ | (with_reducible first | apply aw_seq | apply aw_region | apply al_nil | apply aq_then | apply aw_block | apply aw_skip | apply aw_ret | apply aq_then_ret | apply aq_block_ret) | (refine aw_cond_dt rfl rr_ dd_ ?_) | (refine aw_cond_df rfl rr_ dd_ ?_))
        all_goals
          refine aq_ret1 x_ rfl (.tmp _ _ rfl) (fun _ => ?_)
          refine fin_bool ?_
          first
            | (rw [decide_eq_decide]; dsimp only; omega)
            | (symm; rw [decide_eq_false_iff_not]; dsimp only; omega)
            | (symm; rw [decide_eq_true_iff]; dsimp only; omega)
            | (simp [*]; done)
            | (simp_all; done)
            | (simp_all [eqL, eqC]; done)
            | (simp_all [eqL, eqC]; omega)
end Go.Proofs.YtfchjaoeogolnaaGreatDoor
/- IsVerified: an instruction, on the side of the reference (l16Instr). -/
namespace Go.Proofs.YtfchjaoeogolnaaGreatDoor
set_option maxRecDepth 20000
open Go Go.RowKit
section
variable {G : World → Prop}
set_option maxRecDepth 8000 in
set_option maxHeartbeats 8000000 in
theorem l16Instr_ct (hst : Stable G) (hse : ∀ s : ByteArray, s.size ≤ 1048576 → Ct Tryz.prog G 108 [.str s] (fun _ => .bool (isSelL s.data.toList)))
    (f lo lo2 : Nat) (cl : List TClassInfo) (cen : TV) (cs : List TCode) (mn : Int) (hcl : cl.length ≤ 1048576) (hcs : cs.length ≤ 1048576 ∧ ∀ y ∈ cs, TCode.small 1048576 y) (o : List Int) (hinv : outInv cs.length o) (k : Nat) (own : TCode) (hk : cs[k]? = some own) (hsl : 0 ≤ own.slots ∧ own.slots ≤ 30)
    (L : List Int) (hL : L = (climb o cs.length k).reverse) (x : TInstr) (hx : x.text.size ≤ 1048576) (hbf : blockFits cs k x) :
    Ct Tryz.prog G 110 [.cp f [.sl lo 3 (cl.map (TClassInfo.tw lo)), .sl lo 4 (cs.map (TCode.tw lo)), cen, .int .i64 mn], .int .i64 (k : Int), .agg [.int .i64 x.op, .int .i64 x.a, .int .i64 x.b, .str x.text], .sl lo2 1 (intR L)] (fun _ => .bool (instrB cs cl.length o k own x)) := by
  obtain ⟨op, a, b, t⟩ := x
  dsimp only at hx ⊢
  refine ct_enter Tryz.func110 rfl Tryz.ntmps110 rfl rfl fun w0 _ hG => ?_
  have hl1 := TClassInfo.len lo cl
  have hl2 := TCode.len lo cs
  have hll := intR_length L
  have hLn : L.length ≤ 1048576 := by rw [hL, List.length_reverse]; exact Nat.le_trans (climb_len _ _ _) hcs.1
  have hkl : k < cs.length := (List.getElem?_eq_some_iff.1 hk).1
  have hrk : (cs.map (TCode.tw lo))[k]? = some [.bool own.block, .int .i64 own.params, .int .i64 own.slots, .sl lo 4 (own.instrs.map (TInstr.tw lo))] := by rw [List.getElem?_map, hk]; rfl
  have hil := TInstr.len lo own.instrs
  have hin : own.instrs.length ≤ 1048576 := (hcs.2 own (List.mem_of_getElem? hk)).1
  repeat' (first | ((with_reducible apply o_y); exact y_; rfl) | refine e_box ?_ | (refine e_alloc ?_; intro ss bb) | refine e_storep ?_ | refine e_call hG hst (l14Uses_ct _) ?_ | with_reducible refine aw_hold_r (id := 3) ?_ | with_reducible refine al_none rfl ?_ | (with_reducible first | apply aw_seq | apply aw_region | apply al_nil | apply aq_then))
  refine ⟨aw_seq ?_⟩
  generalize ss = s9; generalize bb = b9
  apply aw_join (X := Unit) [0, 1, 3, 6, 9] (fun _ => [(60, .bool (!decide (instrHead ⟨op, a, b, t⟩)))]) (fun _ => [(s9, b9, .box [.bool own.block, .int .i64 own.params, .int .i64 own.slots, .sl lo 4 (own.instrs.map (TInstr.tw lo))])]) (fun _ => True)
  case hk => (repeat (first | exact Kept.nil | (apply Kept.cons; rfl)))
  · clear hrk hk hL hbf hinv hse hl1 hl2 hll hLn hin hil
    repeat' (first | ((with_reducible apply o_y); exact y_; rfl) | refine e_call hG hst (l1In_ct _ _ _) ?_ | with_reducible refine al_none rfl ?_ | (with_reducible first | apply aw_region | apply al_nil) | refine al_run rfl rfl rfl rr_ ?_ | refine al_skip rfl rfl rfl rr_ rfl rfl rfl ?_ | refine al_skip2 rfl rfl rfl rr_ rfl rfl ?_ | (refine al_gsplit rfl rfl rfl rr_ (fun hg => ?_) (fun hg => ?_)) | (refine al_gsplit_b rfl rfl rfl rr_ (fun hg => ?_) (fun hg => ?_)))
    all_goals
      refine aq_mid () trivial (.of _ (Weak.envCons (lk_bool rfl ?_) Weak.envNil) od_ pk_)
      simp only [Bool.not_eq_true', Bool.not_eq_false', ne_eq, Decidable.not_not] at *
      first
        | (simp [instrHead, *]; done)
  intro _ _
  by_cases hh : instrHead ⟨op, a, b, t⟩
  case neg =>
    have hB : instrB cs cl.length o k own ⟨op, a, b, t⟩ = false := by unfold instrB; rw [decide_eq_false hh]; rfl
    rw [hB, decide_eq_false hh, Bool.not_false]
    repeat' (first | ((with_reducible apply o_y); exact y_; rfl) | with_reducible refine al_none rfl ?_ | (with_reducible first | apply aw_seq | apply aw_region | apply al_nil | apply aq_then | apply aw_ret | apply aq_then_ret) | refine aw_cond_t rfl rr_ ?_)
    refine aq_ret1 x_ rfl (.tmp _ _ rfl) (fun _ => ?_)
    exact Fin.flat rfl
  have hB : instrB cs cl.length o k own ⟨op, a, b, t⟩ = instrTail cs cl.length o k own ⟨op, a, b, t⟩ := by unfold instrB; rw [decide_eq_true hh]; rfl
  rw [hB, decide_eq_true hh, Bool.not_true]
  have hlabt : (!inR b 0 ((L.length : Int) - 1)) = false → (0 ≤ b ∧ b ≤ (L.length : Int) - 1) ∧ ∃ (q v : Nat) (y : TCode), (L.length : Int) - 1 - b = q ∧ (intR L)[q]? = some [.int .i64 (v : Int)] ∧ cs[v]? = some y ∧ levelOf cs o k b = some y := fun h => by
    have h2 : 0 ≤ b ∧ b ≤ (L.length : Int) - 1 := by simpa [inR] using h
    exact ⟨h2, level_list hinv hkl hL h2⟩
  have hlabf : (!inR b 0 ((L.length : Int) - 1)) = true → varOk cs o k ⟨op, a, b, t⟩ = false := fun h => by
    have h2 : ¬ (0 ≤ b ∧ b ≤ (L.length : Int) - 1) := by
      intro h3
      rw [inR_t h3] at h; cases h
    unfold varOk
    dsimp only
    rw [level_list_off hinv hkl hL h2]
  unfold blockFits at hbf
  dsimp only at hbf
  clear hB hinv hL hk
  repeat' (first | ((with_reducible apply o_y); exact y_; rfl) | with_reducible refine aw_draw (by kernel_rfl) (by kernel_rfl) ?_ | with_reducible refine dr_nil ?_ | with_reducible refine dr_none rfl ?_ | refine dr_run rfl rfl rfl rr_ ?_ | refine dr_skip rfl rfl rfl rr_ rfl rfl rfl ?_ | (refine dr_gsplit_b rfl rfl rfl rr_ (fun hg => ?_) (fun hg => ?_)) | ((with_reducible apply d_y); exact y_; rfl) | refine e_call hG hst (l1In_ct _ _ _) ?_ | refine e_call hG hst (l3IsText_ct _ hx) ?_ | refine e_call hG hst (hse _ hx) ?_ | refine e_call hG hst (specIsName_ct hst _ hx) ?_ | refine e_calld hG hst (l1In_ct _ _ _) ?_ | refine e_calld hG hst (hse _ hx) ?_ | with_reducible refine aw_hold_r (id := 18) ?_ | with_reducible refine aw_hold_r (id := 31) ?_ | with_reducible refine al_none rfl ?_ | (with_reducible first | apply aw_seq | apply aw_region | apply al_nil | apply aq_then | apply aw_block | apply aw_skip | apply aw_ret | apply aq_then_ret | apply aq_block_ret | apply aq_block) | refine al_run rfl rfl rfl rr_ ?_ | refine al_skip rfl rfl rfl rr_ rfl rfl rfl ?_ | (refine al_gsplit_b rfl rfl rfl rr_ (fun hg => ?_) (fun hg => ?_)) | refine aw_cond_f rfl rr_ ?_ | (refine aw_cond_dt rfl rr_ dd_ ?_) | (refine aw_cond rfl rr_ (fun hc => ?_) (fun hc => ?_)) | (refine aw_cond_b rfl rr_ (fun hc => ?_) (fun hc => ?_)))
  all_goals first
    | (refine aq_ret1 x_ rfl (.tmp _ _ rfl) (fun _ => ?_)
       clear hlabt hrk hbf hl1 hl2 hll hil hcs hse hh
       refine fin_bool ?_
       first
         | (simp [instrTail, *]; done)
         | (have hv := hlabf (by assumption)
            clear hlabf
            subst_vars
            simp [instrTail, hv]; done))
    | (refine ⟨?_⟩
       have h15 : op = 15 := by assumption
       obtain ⟨ha, y, hy, hyb⟩ := hbf h15
       obtain ⟨c, rfl⟩ : ∃ c : Nat, a = c := ⟨a.toNat, by omega⟩
       rw [Int.toNat_natCast] at hy
       have hry : (cs.map (TCode.tw lo))[c]? = some [.bool true, .int .i64 y.params, .int .i64 y.slots, .sl lo 4 (y.instrs.map (TInstr.tw lo))] := by rw [List.getElem?_map, hy, ← hyb]; rfl
       have cin := l1In_ct (G := G) (c : Int) 0 ((k - 1 : Nat) : Int)
       rw [inR_t (by omega)] at cin
       repeat' (first | with_reducible refine aw_draw (by kernel_rfl) (by kernel_rfl) ?_ | with_reducible refine dr_nil ?_ | with_reducible refine dr_none rfl ?_ | refine dr_run rfl rfl rfl rr_ ?_ | ((with_reducible apply d_y); exact y_; rfl) | refine e_calld hG hst (cin) ?_ | (with_reducible first | apply aw_seq | apply aq_then | apply aw_ret | apply aq_then_ret | apply aq_block_ret))
       refine aq_ret1 x_ rfl (.tmp _ _ rfl) (fun _ => ?_)
       refine fin_bool ?_
       simp [instrTail, h15]; done)
    | (refine ⟨?_⟩
       obtain ⟨hb, q, v, y, hq, hrow, hy, hlev⟩ := hlabt (by assumption)
       obtain ⟨c, rfl⟩ : ∃ c : Nat, b = c := ⟨b.toNat, by omega⟩
       obtain rfl : q = L.length - 1 - c := by omega
       have hry : (cs.map (TCode.tw lo))[v]? = some [.bool y.block, .int .i64 y.params, .int .i64 y.slots, .sl lo 4 (y.instrs.map (TInstr.tw lo))] := by rw [List.getElem?_map, hy]; rfl
       clear hlabt hlabf hbf hq
       repeat' (first | ((with_reducible apply o_y); exact y_; rfl) | ((with_reducible apply aw_draw3 (id := 18) 15); kernel_rfl; kernel_rfl; kernel_rfl; (repeat (first | exact Cut.zero _ | apply Cut.succ)); rfl; rfl; rfl; rfl; rfl; kernel_rfl; rfl) | ((with_reducible apply u_y); exact yu_; rfl) | (with_reducible refine du_nil ?_; intro ss bb) | refine e_storep ?_ | refine e_call hG hst (l1In_ct _ _ _) ?_ | with_reducible refine al_none rfl ?_ | (with_reducible first | apply aw_seq | apply aw_region | apply al_nil | apply aq_then | apply aw_skip | apply aw_ret | apply aq_then_ret | apply aq_block_ret) | (refine aw_cond_dt rfl rr_ dd_ ?_) | (refine aw_cond_df rfl rr_ dd_ ?_))
       all_goals first
         | (refine aq_ret1 x_ rfl (.tmp _ _ rfl) (fun _ => ?_)
            refine fin_bool ?_
            clear hrk hl1 hl2 hll hil hcs hse hh
            subst_vars
            simp [instrTail, varOk, hlev]; done))
end
end Go.Proofs.YtfchjaoeogolnaaGreatDoor
/- IsVerified: a code, on the side of the reference (l16Code). -/
namespace Go.Proofs.YtfchjaoeogolnaaGreatDoor
set_option maxRecDepth 20000
open Go Go.RowKit
/-- The codes around a code, as far as i of them, the innermost last. -/
def chainL (o : List Int) (n k i : Nat) : List Int := ((climb o n (k : Int)).take i).reverse
theorem chainL_len (o : List Int) (n k i : Nat) : (chainL o n k i).length ≤ n := by
  have := climb_len o n (k : Int)
  simp [chainL]; omega
theorem chainL_step {o : List Int} {n k i : Nat} {v : Int} (h : (climb o n (k : Int))[i]? = some v) : v :: chainL o n k i = chainL o n k (i + 1) := by
  unfold chainL
  rw [List.take_add_one, h]; simp
theorem chainL_end {o : List Int} {n k i : Nat} (h : (climb o n (k : Int))[i]? = none) : chainL o n k i = (climb o n (k : Int)).reverse := by
  unfold chainL
  rw [List.take_of_length_le (List.getElem?_eq_none_iff.1 h)]
set_option maxRecDepth 8000 in
set_option maxHeartbeats 8000000 in
theorem l16Code_ct (f lo lo2 : Nat) (cl : List TClassInfo) (cen : TV) (cs : List TCode) (mn : Int) (hcl : cl.length ≤ 1048576) (hcs : cs.length ≤ 1048576 ∧ ∀ y ∈ cs, TCode.small 1048576 y) (o : List Int) (hinv : outInv cs.length o) (k : Nat) (own : TCode) (hk : cs[k]? = some own)
    (hbf : ∀ x ∈ own.instrs, blockFits cs k x) :
    Ct Tryz.prog GL 72 [.cp f [.sl lo 3 (cl.map (TClassInfo.tw lo)), .sl lo 4 (cs.map (TCode.tw lo)), cen, .int .i64 mn], .int .i64 (k : Int), .sl lo2 1 (intR o)] (fun _ => .bool (codeB cs cl.length o k own)) := by
  refine ct_enter Tryz.func72 rfl Tryz.ntmps72 rfl rfl fun w0 _ hG => ?_
  have hst := GL_st
  have hkl : k < cs.length := (List.getElem?_eq_some_iff.1 hk).1
  have hsm := hcs.2 own (List.mem_of_getElem? hk)
  have hiq := fun L hL x hx hb hsl => l16Instr_ct hst hseS f lo w0.heap.size cl cen cs mn hcl hcs o hinv k own hk hsl L hL x hx hb
  have hpre := instrs_pre (cs := cs) (nc := cl.length) (o := o) (k := k) (own := own)
  have hcF := codeB_f (cs := cs) (nc := cl.length) (o := o) (k := k) (x := own)
  have hcT := codeB_t (cs := cs) (nc := cl.length) (o := o) (k := k) (x := own)
  unfold codeOk codeHead at hcF hcT
  have hrk : (cs.map (TCode.tw lo))[k]? = some [.bool own.block, .int .i64 own.params, .int .i64 own.slots, .sl lo 4 (own.instrs.map (TInstr.tw lo))] := by rw [List.getElem?_map, hk]; rfl
  clear hk
  have hgen : ∀ x ∈ own.instrs, instrB cs cl.length o k own x = true → True := fun _ _ _ => trivial
  clear hgen
  have hB : ∃ B : TInstr → Bool, B = instrB cs cl.length o k own := ⟨_, rfl⟩
  obtain ⟨B, hB⟩ := hB
  rw [← hB] at hcF hcT hpre
  have hiq2 : ∀ (L : List Int), L = (climb o cs.length (k : Int)).reverse → ∀ x : TInstr, x.text.size ≤ 1048576 → blockFits cs k x → 0 ≤ own.slots ∧ own.slots ≤ 30 → Ct Tryz.prog GL 110 [.cp f [.sl lo 3 (cl.map (TClassInfo.tw lo)), .sl lo 4 (cs.map (TCode.tw lo)), cen, .int .i64 mn], .int .i64 (k : Int), .agg [.int .i64 x.op, .int .i64 x.a, .int .i64 x.b, .str x.text], .sl w0.heap.size 1 (intR L)] (fun _ => .bool (B x)) := fun L hL x hx hb hsl => by rw [hB]; exact hiq L hL x hx hb hsl
  clear hiq
  have hcB : codeB cs cl.length o k own = codeB cs cl.length o k own := rfl
  generalize hC : codeB cs cl.length o k own = C at hcF hcT ⊢
  clear hB hcB hC
  obtain ⟨bl, pr, sl, is⟩ := own
  dsimp only at hbf hsm hiq2 hpre hcF hcT hrk
  have hn : is.length ≤ 1048576 := hsm.1
  have ht : ∀ i ∈ is, i.text.size ≤ 1048576 := hsm.2
  have hil := TInstr.len lo is
  have c1 := l1In_ct (G := GL) sl 0 30
  have c2 := l1In_ct (G := GL) pr 0 sl
  by_cases h1 : inR sl 0 30 = true
  case neg =>
    rw [hcF fun h => h1 h.1.1]
    rw [Bool.eq_false_iff.2 h1] at c1
    repeat' (first | ((with_reducible apply o_y); exact y_; rfl) | with_reducible refine aw_draw (by kernel_rfl) (by kernel_rfl) ?_ | with_reducible refine dr_nil ?_ | with_reducible refine dr_none rfl ?_ | refine dr_skip rfl rfl rfl rr_ rfl rfl rfl ?_ | ((with_reducible apply d_y); exact y_; rfl) | refine e_calld hG hst (c1) ?_ | with_reducible refine al_none rfl ?_ | (with_reducible first | apply aw_seq | apply aw_region | apply al_nil | apply aq_then | apply aw_ret | apply aq_then_ret) | refine aw_cond_t rfl rr_ ?_)
    refine aq_ret1 x_ rfl (.tmp _ _ rfl) (fun _ => ?_)
    exact Fin.flat rfl
  by_cases h2 : inR pr 0 sl = true
  case neg =>
    rw [hcF fun h => h2 h.1.2.1]
    rw [h1] at c1
    rw [Bool.eq_false_iff.2 h2] at c2
    repeat' (first | ((with_reducible apply o_y); exact y_; rfl) | with_reducible refine aw_draw (by kernel_rfl) (by kernel_rfl) ?_ | with_reducible refine dr_nil ?_ | with_reducible refine dr_none rfl ?_ | refine dr_run rfl rfl rfl rr_ ?_ | refine dr_skip rfl rfl rfl rr_ rfl rfl rfl ?_ | ((with_reducible apply d_y); exact y_; rfl) | refine e_calld hG hst (c1) ?_ | refine e_calld hG hst (c2) ?_ | with_reducible refine al_none rfl ?_ | (with_reducible first | apply aw_seq | apply aw_region | apply al_nil | apply aq_then | apply aw_ret | apply aq_then_ret) | refine aw_cond_t rfl rr_ ?_)
    refine aq_ret1 x_ rfl (.tmp _ _ rfl) (fun _ => ?_)
    exact Fin.flat rfl
  rw [h1] at c1
  rw [h2] at c2
  by_cases h3 : is.length ≤ 900
  case neg =>
    rw [hcF fun h => h3 h.1.2.2]
    repeat' (first | ((with_reducible apply o_y); exact y_; rfl) | with_reducible refine aw_draw (by kernel_rfl) (by kernel_rfl) ?_ | with_reducible refine dr_nil ?_ | with_reducible refine dr_none rfl ?_ | refine dr_run rfl rfl rfl rr_ ?_ | ((with_reducible apply d_y); exact y_; rfl) | refine e_calld hG hst (c1) ?_ | refine e_calld hG hst (c2) ?_ | with_reducible refine al_none rfl ?_ | (with_reducible first | apply aw_seq | apply aw_region | apply al_nil | apply aq_then | apply aw_ret | apply aq_then_ret) | (refine aw_cond_dt rfl rr_ dd_ ?_))
    refine aq_ret1 x_ rfl (.tmp _ _ rfl) (fun _ => ?_)
    exact Fin.flat rfl
  have hsl := of_decide_eq_true h1
  repeat' (first | ((with_reducible apply o_y); exact y_; rfl) | with_reducible refine aw_draw (by kernel_rfl) (by kernel_rfl) ?_ | with_reducible refine dr_nil ?_ | with_reducible refine dr_none rfl ?_ | refine dr_run rfl rfl rfl rr_ ?_ | ((with_reducible apply d_y); exact y_; rfl) | refine e_lit ?_ | refine e_calld hG hst (c1) ?_ | refine e_calld hG hst (c2) ?_ | with_reducible refine al_none rfl ?_ | (with_reducible first | apply aw_seq | apply aw_region | apply al_nil | apply aq_then | apply aw_block | apply aw_skip) | (refine aw_cond_df rfl rr_ dd_ ?_))
  have hinv' : outInv o.length o := by rw [hinv.1]; exact hinv
  have hol : o.length = cs.length := hinv.1
  have hcl2 := hcs.1
  apply aw_loopk (X := Nat) [0, 1, 2, 7] (fun i => [(8, .sl w0.heap.size 1 (intR (chainL o cs.length k i))), (9, .int .i64 (upN o i (k : Int)))]) (fun _ => []) (fun i => i ≤ cs.length) (fun i => cs.length - i) 0 (Nat.zero_le _)
  exact kp_; (repeat (first | exact Weak.envNil | refine Weak.envCons we_ ?_))
  · exact .refl _
  intro i hi
  try dsimp only at hi ⊢
  have hup := upN_in hinv' i (k : Int) (.inr ⟨by omega, by omega⟩)
  have hcu := climb_up hinv' cs.length (k : Int) i (.inr ⟨by omega, by omega, by omega⟩)
  have hLl := chainL_len o cs.length k i
  have hLr := intR_length (chainL o cs.length k i)
  by_cases hat : 0 ≤ upN o i (k : Int)
  · obtain ⟨j, hj⟩ : ∃ j : Nat, upN o i (k : Int) = j := ⟨(upN o i (k : Int)).toNat, by omega⟩
    have hs := upN_succ o i (k : Int)
    rw [if_neg (by omega), hj] at hs
    rw [if_pos hat, hj] at hcu
    rw [hj] at hup
    have hin : i < cs.length := Nat.lt_of_lt_of_le (List.getElem?_eq_some_iff.1 hcu).1 (climb_len _ _ _)
    have hrow := intR_gd (o := o) (j := j) (by omega)
    have hstep := chainL_step hcu
    generalize chainL o cs.length k i = L at hLl hLr hstep ⊢
    have hnew : [[TV.int .i64 (j : Int)]] ++ intR L = intR (chainL o cs.length k (i + 1)) := by rw [← hstep]; rfl
    rw [hj]
    repeat' (first | ((with_reducible apply o_y); exact y_; rfl) | (refine e_own ?_; intro ss bb) | (refine e_app ?_; intro bb) | with_reducible refine al_none rfl ?_ | (with_reducible first | apply aw_seq | apply aw_region | apply al_nil | apply aq_then | apply aw_block | apply aw_skip | apply aq_block) | (refine aw_cond_dt rfl rr_ dd_ ?_))
    refine aq_freeze (t := 8) rfl ?_ (.head _) ?_
    · simp [hLr]; omega
    rw [hnew]
    exact aq_round (i + 1) (by omega) (by omega) (.of _ nw_ od_ pk_)
  · rw [if_neg hat] at hcu
    have hend := chainL_end hcu
    rw [hend] at hLl hLr ⊢
    clear hend hcu
    have hins := hiq2 _ rfl
    clear hiq2
    generalize (climb o cs.length (k : Int)).reverse = L at hLl hLr hins ⊢
    repeat' (first | ((with_reducible apply o_y); exact y_; rfl) | with_reducible refine al_none rfl ?_ | (with_reducible first | apply aw_seq | apply aw_region | apply al_nil | apply aq_then | apply aw_block | apply aw_exit | apply aq_block_hit | apply aq_then_exit) | (refine aw_cond_df rfl rr_ dd_ ?_))
    apply aw_loopk (X := Nat) [0, 1, 7, 8] (fun q => [(10, .int .i64 (q : Int))]) (fun _ => []) (fun q => q ≤ is.length ∧ ∀ j, j < q → ∀ h : j < is.length, B is[j] = true) (fun q => is.length - q) 0 ⟨Nat.zero_le _, by omega⟩
    exact kp_; (repeat (first | exact Weak.envNil | refine Weak.envCons we_ ?_))
    · exact .refl _
    rintro q ⟨hq, hqa⟩
    try dsimp only
    by_cases hlt : q < is.length
    · have hra := tinstr_row (lo := lo) hlt
      have hmem : is[q] ∈ is := List.getElem_mem hlt
      have hxq := ht _ hmem
      have hct := hins is[q] hxq (hbf _ hmem) hsl
      have hnx : B is[q] = true → ∀ j, j < q + 1 → ∀ h : j < is.length, B is[j] = true := fun h => below_succ hqa fun _ => h
      have hbad : B is[q] = false → C = false := fun h => hcF fun k => by
        have := k.2.1 _ hmem
        rw [h] at this; cases this
      generalize is[q] = x at hra hct hnx hbad
      cases hBx : B x
      · rw [hBx] at hct
        rw [hbad hBx]
        repeat' (first | ((with_reducible apply o_y); exact y_; rfl) | refine e_call hG hst (hct) ?_ | with_reducible refine al_none rfl ?_ | (with_reducible first | apply aw_seq | apply aw_region | apply al_nil | apply aq_then | apply aw_block | apply aw_skip | apply aw_ret | apply aq_then_ret | apply aq_block_ret) | refine aw_cond_t rfl rr_ ?_ | (refine aw_cond_dt rfl rr_ dd_ ?_))
        refine aq_ret1 x_ rfl (.tmp _ _ rfl) (fun _ => ?_)
        exact Fin.flat rfl
      · rw [hBx] at hct
        repeat' (first | ((with_reducible apply o_y); exact y_; rfl) | refine e_call hG hst (hct) ?_ | with_reducible refine al_none rfl ?_ | (with_reducible first | apply aw_seq | apply aw_region | apply al_nil | apply aq_then | apply aw_block | apply aw_skip | apply aq_block) | refine aw_cond_f rfl rr_ ?_ | (refine aw_cond_dt rfl rr_ dd_ ?_))
        exact aq_round (q + 1) ⟨by omega, hnx hBx⟩ (by omega) (.of _ nw_ od_ pk_)
    · have hall : ∀ y ∈ is, B y = true := fun y hy => by
        obtain ⟨j, hj, rfl⟩ := List.getElem_of_mem hy
        exact hqa j (by omega) hj
      have hp := hpre hall
      have hdep := l16Depths_ct hst hcaS lo lo bl pr sl is hn ht hp
      have hnew := dO_new (depthsS is)
      have hCe : C = (depthsS is).isSome := by
        rw [← depthsL_eq is hp]
        cases hd : (depthsL is).isSome
        · exact hcF fun h => by rw [hd] at h; exact absurd h.2.2 (by simp)
        · exact hcT ⟨⟨h1, h2, h3⟩, hall, hd⟩
      rw [hCe]
      rw [instrs_tw lo] at hdep
      unfold dR dO at hdep hnew
      generalize (depthsS is).getD [] = ds at hdep hnew
      generalize (depthsS is).isSome = ok at hdep hnew ⊢
      repeat' (first | ((with_reducible apply o_y); exact y_; rfl) | ((with_reducible apply o_callOV); rfl; kernel_rfl; exact hG; exact hst; exact hdep; ((repeat (first | exact Args.nil | ((with_reducible apply Args.cons); rfl; (with_reducible exact View.same _))))); exact hnew; rintro ⟨ss, bb⟩ -; refine al_app1 ?_) | with_reducible refine al_none rfl ?_ | (with_reducible first | apply aw_seq | apply aw_region | apply al_nil | apply aq_then | apply aw_exit | apply aw_ret | apply aq_block_hit | apply aq_then_exit) | (refine aw_cond_df rfl rr_ dd_ ?_))
      refine aq_ret1 x_ rfl (.tmp _ _ rfl) (fun _ => ?_)
      exact Fin.flat rfl
end Go.Proofs.YtfchjaoeogolnaaGreatDoor
