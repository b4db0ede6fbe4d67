/- Part 10 of the proof: the texts SdE, SdF, IvQ, IvR, RsP, RsA, RsB, RsC. -/
import Derived.Test.YthpdkhejeookhaaGreatDoorPart9
import Derived.Test.YthpdkhejeookhaaGreatDoorPart6
import Derived.Test.YthpdkhejeookhaaGreatDoorPart5
/- slices.Repeat as a contract of the walk. -/
namespace Go.Proofs.YthpdkhejeookhaaGreatDoor
open Go Go.RowKit
section
variable {w0 w w' : World} {objs : Objs} {ss b : Nat} {ob : TObj}
theorem step_newB (hw : SimW w0 objs w) (hbel : Below w.heap.size w w') (hb : w.heap.size ≤ b) : Step w objs w' ((ss, b, ob) :: objs) := by
  have hk : ∀ k, k < w.heap.size → w'.heap[k]? = w.heap[k]? := fun k hk => hbel.block k hk
  have hpos : 0 < w.heap.size := Nat.lt_of_lt_of_le hw.pos hw.below.size
  refine ⟨fun k h _ => hk k h, fun k h ha => ⟨ha.1, ?_⟩, fun s k m rows h _ hm => ?_, hbel.size, fun hm => ?_⟩
  · obtain ⟨s, o, hm⟩ := ha.2
    rcases List.mem_cons.1 hm with he | hm
    · simp only [Prod.mk.injEq] at he; omega
    · exact ⟨s, o, hm⟩
  · rcases List.mem_cons.1 hm with he | hm
    · simp only [Prod.mk.injEq] at he; omega
    · exact ⟨⟨rows, hm⟩, shape_same (hk k h)⟩
  · rcases List.mem_cons.1 hm with he | hm
    · simp only [marker, Prod.mk.injEq] at he; omega
    · exact hm
theorem SimW.newB (hw : SimW w0 objs w) (hbel : Below w.heap.size w w') (hb : w.heap.size ≤ b) (hs : ∀ x ∈ objs, x.1 ≠ ss) (ho : ObjOk w' w0.heap.size ((ss, b, ob) :: objs) b ob) : SimW w0 ((ss, b, ob) :: objs) w' :=
  ⟨hw.below.trans (hbel.mono hw.below.size), hw.pos, fun s k o hm => by
    rcases List.mem_cons.1 hm with he | hm
    · simp only [Prod.mk.injEq] at he; obtain ⟨rfl, rfl, rfl⟩ := he; exact ho
    · exact (hw.obj s k o hm).step (step_newB hw hbel hb) (hbel.block k (objs_lt hw hm)),
  List.pairwise_cons.2 ⟨fun y hy => ⟨fun e => hs y hy e.symm, .inl (by have := objs_lt (s := y.1) (b := y.2.1) (ob := y.2.2) hw hy; simp only; omega)⟩, hw.sites⟩⟩
end
theorem rep_intRow {w : World} {B b n : Nat} {objs : Objs} (hB : B ≤ b) (hn : n ≤ 1048576) (x : Int) (hb : Blk w b 3 (List.replicate n (Value.int .i64 x)).toArray) : ObjOk w B objs b (.row 1 (intR (List.replicate n x))) := by
  refine ⟨⟨by omega, fun t ht => by have := intR_flat _ t ht; cases t <;> first | rfl | cases this⟩, fun r hr => ?_, .inr ⟨hB, _, _, n, hb, by simp, by simp [intR], by simp [maxLen]; omega, fun j t hj => ?_⟩⟩
  · obtain ⟨y, _, rfl⟩ := List.mem_map.1 hr; rfl
  · rw [intR_flatten, List.getElem?_map, Option.map_eq_some_iff] at hj
    obtain ⟨y, hy, rfl⟩ := hj
    obtain rfl := List.eq_of_mem_replicate (List.mem_of_getElem? hy)
    have hlt : j < n := by simpa using (List.getElem?_eq_some_iff.1 hy).1
    exact ⟨_, by simp [hlt], .int _ _⟩
theorem repeat_ct {G : World → Prop} (lo n : Nat) (hn0 : 1 ≤ n) (hn : n ≤ 1048576) : CtM Tryz.prog G 137 [.sl lo 1 [[.int .i64 (-1)]], .int .i64 n] [] (fun _ : Nat × Nat => True) (fun y => [(y.1, y.2, .row 1 (intR (List.replicate n (-1))))]) (fun y => .ms y.1 y.2 0 n) := fun w0 w R gs vs hG hw hgs hsz hrep => by
  simp only [List.nil_append] at hw hgs hrep
  obtain ⟨v1, v2, rfl⟩ : ∃ v1 v2, vs = #[v1, v2] := by
    match vs, hsz with
    | ⟨[v1, v2]⟩, _ => exact ⟨v1, v2, rfl⟩
  have h1 := hrep 0 _ v1 rfl rfl
  have h2 := (hrep 1 _ v2 rfl rfl).int_inv
  subst h2
  obtain ⟨A, c, rfl, _, _, _, _, h3⟩ := rep_sl h1
  obtain ⟨b, q, u, rfl, _, h5, h6⟩ := h3 0 (.int .i64 (-1)) rfl
  rw [h6.int_inv] at h5
  refine (repeat_any b q c n w (by simpa using h5) hn0 hn).mono ?_
  rintro e w' ⟨rfl, hbel, hblk⟩
  obtain ⟨ss, hss⟩ := site_new R
  have hwB : w0.heap.size ≤ w.heap.size := hw.below.size
  have hst := step_newB (ss := ss) (ob := .row 1 (intR (List.replicate n (-1)))) hw hbel (Nat.le_refl _)
  have hlt : w.heap.size < w'.heap.size := hblk.lt
  have hb0 : w.heap.size ≠ 0 := Nat.ne_of_gt (Nat.lt_of_lt_of_le hw.pos hwB)
  have hw' := hw.newB (ss := ss) hbel (Nat.le_refl _) hss (rep_intRow (w := w') hwB hn (-1) hblk)
  refine ⟨_, (ss, w.heap.size), rfl, trivial, hw', hgs.step hst, .ms _ _ _ _ _ (.mk ⟨hlt, hw'.noMark, _, _, rfl⟩ (fun m rows hm => .inr ⟨hb0, 0, n, 3, n * 1, rfl, Nat.le_refl _, ?_, ?_, fun _ => by simp⟩) (fun h0 => absurd h0 hb0))⟩
  · unfold World.shape?; rw [hblk]; simp
  · rcases List.mem_cons.1 hm with he | hm
    · simp only [Prod.mk.injEq, TObj.row.injEq] at he; rw [he.2.2.1]; simp
    · exact absurd (objs_lt hw hm) (Nat.lt_irrefl _)
end Go.Proofs.YthpdkhejeookhaaGreatDoor
/- StackDepths by the engine: the program's StackDepths: what is asked of the instructions one by one. -/
namespace Go.Proofs.YthpdkhejeookhaaGreatDoor
set_option maxRecDepth 20000
open Go Go.RowKit
theorem labOff_mem {op : Int} {o : Nat} (h : o ∈ labOff op) : o = 1 ∨ o = 2 := by
  unfold labOff at h
  repeat' split at h
  all_goals first
    | (simp at h; done)
    | (simp at h; omega)
    | skip
theorem labOff_le (op : Int) : (labOff op).length ≤ 2 := by
  unfold labOff
  repeat' split
  all_goals simp
theorem labR_length (op : Int) (s b : Nat) : (labR op s b).length = (labOff op).length := by simp [labR]
theorem labR_get {op : Int} {s b q : Nat} (h : q < (labOff op).length) : (labR op s b)[q]? = some [.mp s b (labOff op)[q]] := by simp [labR, h]
def labV (a b : Int) (o : Nat) : Int := if o = 1 then a else b
theorem labs_eq2 (op a b : Int) (t : ByteArray) : TInstr.labs ⟨op, a, b, t⟩ = (labOff op).map (labV a b) := labs_eq op a b t
theorem all_snoc {α : Type} {p : α → Bool} {l : List α} {q : Nat} (h : q < l.length) (ha : (l.take q).all p = true) : (l.take (q + 1)).all p = p l[q] := by
  rw [List.take_add_one, List.all_append, ha, List.getElem?_eq_getElem h]; simp
theorem all_bad {α : Type} {p : α → Bool} {l : List α} {q : Nat} (h : q < l.length) (hb : p l[q] = false) : l.all p = false := by
  rw [List.all_eq_false]; exact ⟨_, List.getElem_mem h, by rw [hb]; simp⟩
theorem pushI_cons (n : Nat) (p d : Int) (r : List (Int × Int)) (ds : List Int) (q : List Nat) : pushI n ((p, d) :: r) (ds, q) = if badI n ds p d then none else if gd ds p < 0 then pushI n r (ds.set p.toNat d, q ++ [p.toNat]) else pushI n r (ds, q) := rfl
/-- Whether the program takes an instruction for bad at first sight. -/
def badOp (op : Int) (t : ByteArray) : Bool := !inR op 1 26 || ((decide (op = 13) || decide (op = 14)) && decide (nArgsL t.data.toList < 0))
theorem preOkI_eq (n : Nat) (op a b : Int) (t : ByteArray) : preOkI n ⟨op, a, b, t⟩ = (!badOp op t && ((labOff op).all fun o => inR (labV a b o) 0 ((n : Int) - 1))) := by
  unfold preOkI badOp
  rw [labs_eq2, List.all_map]
  have h1 : decide (0 ≤ nArgsL t.data.toList) = !decide (nArgsL t.data.toList < 0) := by
    rw [← decide_not]; exact decide_eq_decide.2 (by omega)
  rw [h1]
  cases inR op 1 26 <;> cases decide (op = 13) <;> cases decide (op = 14) <;> cases decide (nArgsL t.data.toList < 0) <;> rfl

set_option maxRecDepth 4000 in
set_option maxHeartbeats 4000000 in
theorem stackDepths_ct {G : World → Prop} (hst : Stable G) (hca : ∀ s : ByteArray, s.size ≤ 1048576 → Ct Tryz.prog G 119 [.str s] (fun _ => .int .i64 (nArgsL s.data.toList)))
    (l2 : Nat) (bl : Bool) (pr sl : Int) (is : List TInstr) (hn : is.length ≤ 1048576) (ht : ∀ i ∈ is, i.text.size ≤ 1048576) :
    CtM Tryz.prog G 58 [.agg [.bool bl, .int .i64 pr, .int .i64 sl, .sl l2 4 (instrR is)]] [] (fun _ : Nat × Nat => True) (dO (depthsL is)) (dR (depthsL is)) := by
  refine ctm_enter Tryz.func58 rfl Tryz.ntmps58 rfl rfl rfl fun w0 R gs objsR hG hR => ?_
  obtain rfl := hR.inv0
  clear hR
  have hlen := instrR_length is
  by_cases hz : is.length = 0
  · have hd : depthsL is = none := by unfold depthsL; rw [if_pos hz]
    rw [hd]
    repeat' (first | ((with_reducible apply o_y); exact y_; rfl) | refine e_box ?_ | with_reducible refine al_none rfl ?_ | (with_reducible first | apply aw_seq | apply aw_region | apply al_nil | apply aq_then | apply aw_ret | apply aq_then_ret) | (refine aw_cond_dt rfl rr_ dd_ ?_))
    refine aq_nils 2 1 (by omega) rfl fun ss => aq_retm2 x_ rfl (ss, 0) trivial rfl (.cons _ _ _ _ (.nil R)) pk_ (.tmp _ _ rfl) (.tmp _ _ rfl) rfl
  have hnz : 0 < is.length := by omega
  have hc1 : ((is.length - 1 : Nat) : Int) = (is.length : Int) - 1 := by omega
  have hnone : preOk is = false → depthsL is = none := fun h => by unfold depthsL; rw [h]; simp
  repeat' (first | ((with_reducible apply o_y); exact y_; rfl) | refine e_box ?_ | with_reducible refine al_none rfl ?_ | (with_reducible first | apply aw_seq | apply aw_region | apply al_nil | apply aq_then | apply aw_block | apply aw_skip) | (refine aw_cond_df rfl rr_ dd_ ?_))
  apply aw_loopk (X := Nat) [1, 4, 26, 1000000] (fun i => [(27, .int .i64 (i : Int))]) (fun _ => R) (fun i => i ≤ is.length ∧ (is.take i).all (preOkI is.length) = true) (fun i => is.length - i) 0 ⟨Nat.zero_le _, rfl⟩
  exact kp_; (repeat (first | exact Weak.envNil | refine Weak.envCons we_ ?_))
  · exact .refl _
  rintro i ⟨hi, hall⟩
  try dsimp only
  by_cases hlt : i < is.length
  · have hii : (instrR is)[i]? = some (is[i]).tv := by simp only [instrR, List.getElem?_map]; rw [List.getElem?_eq_getElem hlt]; rfl
    have htk := all_snoc hlt hall
    have hbad := fun h => hnone (all_bad (p := preOkI is.length) hlt h)
    have hti := ht _ (List.getElem_mem hlt)
    generalize is[i] = ii at hii hti htk hbad
    obtain ⟨op, a, b, t⟩ := ii
    rw [preOkI_eq] at htk hbad
    replace hii : (instrR is)[i]? = some [.int .i64 op, .int .i64 a, .int .i64 b, .str t] := hii
    replace hti : t.size ≤ 1048576 := hti
    repeat' (first | ((with_reducible apply o_y); exact y_; rfl) | (refine e_alloc ?_; intro ss bb) | refine e_storep ?_ | with_reducible refine aw_hold_r (id := 8) ?_ | with_reducible refine al_none rfl ?_ | (with_reducible first | apply aw_seq | apply aw_region | apply al_nil | apply aq_then | apply aw_block | apply aw_skip) | (refine aw_cond_dt rfl rr_ dd_ ?_))
    refine ⟨aw_seq ?_⟩
    generalize ss = s6; generalize bb = b6
    apply aw_join (X := Unit) [1, 4, 6, 26, 27, 1000000] (fun _ => [(54, .bool (badOp op t))]) (fun _ => (s6, b6, .box [.int .i64 op, .int .i64 a, .int .i64 b, .str t]) :: R) (fun _ => True)
    case hk => (repeat (first | exact Kept.nil | (apply Kept.cons; rfl)))
    · clear hbad htk hall hii ht
      repeat' (first | ((with_reducible apply o_y); exact y_; rfl) | refine e_call hG hst (within_ct _ _ _) ?_ | refine e_call hG hst (hca _ hti) ?_ | with_reducible refine al_none rfl ?_ | (with_reducible first | apply aw_region | apply al_nil) | refine al_run rfl rfl rfl rr_ ?_ | refine al_skip rfl rfl rfl rr_ rfl rfl rfl ?_ | refine al_skip2 rfl rfl rfl rr_ rfl rfl ?_ | (refine al_gsplit rfl rfl rfl rr_ (fun hg => ?_) (fun hg => ?_)) | (refine al_gsplit_b rfl rfl rfl rr_ (fun hg => ?_) (fun hg => ?_)))
      all_goals
        refine aq_mid () trivial (.of _ (Weak.envCons (lk_bool rfl ?_) Weak.envNil) od_ pk_)
        first
          | (simp [badOp, *]; done)
          | (simp [badOp, *]; simp [inR]; done)
    intro _ _
    by_cases hb1 : badOp op t = true
    · have hd := hbad (by rw [hb1]; rfl)
      rw [hb1, hd]
      repeat' (first | with_reducible refine al_none rfl ?_ | ((with_reducible apply o_assign); rfl; rfl) | with_reducible refine aw_seq ?_ | with_reducible refine aw_region ?_ | with_reducible refine al_nil ?_ | with_reducible refine aq_then ?_ | with_reducible refine aw_ret ?_ | with_reducible refine aq_then_ret ?_ | with_reducible refine aq_block_ret ?_ | refine aw_cond_t rfl rr_ ?_)
      refine aq_nils 2 1 (by omega) rfl fun ss => aq_retm2 x_ rfl (ss, 0) trivial rfl (.cons _ _ _ _ (.nil R)) pk_ (.tmp _ _ rfl) (.tmp _ _ rfl) rfl
    rw [Bool.not_eq_true] at hb1
    rw [hb1] at htk hbad
    simp only [Bool.not_false, Bool.true_and] at htk hbad
    rw [hb1]
    have hlr := labR_length op s6 b6
    have hol := labOff_le op
    repeat' (first | ((with_reducible apply o_y); exact y_; rfl) | ((with_reducible apply o_callM); rfl; kernel_rfl; (repeat (first | exact ArgsM.nil | ((with_reducible apply ArgsM.cons); rfl))); exact hG; exact labelsOf_ct s6 b6 op a b t; exact .cons _ _ _ _ (.nil _); intro y _; obtain ⟨sl5, bl5⟩ := y; refine al_app2 ?_) | with_reducible refine al_none rfl ?_ | (with_reducible first | apply aw_seq | apply aw_region | apply al_nil | apply aq_then | apply aw_block | apply aw_skip) | refine aw_cond_f rfl rr_ ?_)
    apply aw_loopk (X := Nat) [1, 4, 26, 27, 55, 56, 1000000] (fun q => [(57, .int .i64 (q : Int))]) (fun _ => (sl5, bl5, .row 1 (labR op s6 b6)) :: (s6, b6, .box [.int .i64 op, .int .i64 a, .int .i64 b, .str t]) :: R) (fun q => q ≤ (labOff op).length ∧ ((labOff op).take q).all (fun o => inR (labV a b o) 0 ((is.length : Int) - 1)) = true) (fun q => (labOff op).length - q) 0 ⟨Nat.zero_le _, rfl⟩
    exact kp_; (repeat (first | exact Weak.envNil | refine Weak.envCons we_ ?_))
    · exact .refl _
    rintro q ⟨hq, hqa⟩
    try dsimp only
    by_cases hql : q < (labOff op).length
    · have hrow := labR_get (s := s6) (b := b6) hql
      have hqk := all_snoc hql hqa
      have hqb := fun h => hbad (all_bad (p := fun o => inR (labV a b o) 0 ((is.length : Int) - 1)) hql h)
      have hmem := labOff_mem (List.getElem_mem hql)
      generalize (labOff op)[q] = o at hrow hqk hqb hmem
      by_cases hin : inR (labV a b o) 0 ((is.length : Int) - 1) = true
      · have hw : ∀ G, Ct Tryz.prog G 57 [.int .i64 (labV a b o), .int .i64 0, .int .i64 ((is.length - 1 : Nat) : Int)] (fun _ => .bool true) := fun G => by rw [hc1, ← hin]; exact within_ct _ _ _
        rcases hmem with rfl | rfl
        all_goals
          first | rw [show labV a b 1 = a from rfl] at hw | rw [show labV a b 2 = b from rfl] at hw
          repeat' (first | ((with_reducible apply o_y); exact y_; rfl) | refine e_call hG hst (hw _) ?_ | with_reducible refine al_none rfl ?_ | (with_reducible first | apply aw_seq | apply aw_region | apply al_nil | apply aq_then | apply aw_block | apply aw_skip | apply aq_block) | refine aw_cond_f rfl rr_ ?_ | (refine aw_cond_dt rfl rr_ dd_ ?_))
          exact aq_round (q + 1) ⟨by omega, by rw [hqk, hin]⟩ (by omega) (.of _ nw_ od_ pk_)
      · rw [Bool.not_eq_true] at hin
        have hd := hqb hin
        rw [hd]
        have hw : ∀ G, Ct Tryz.prog G 57 [.int .i64 (labV a b o), .int .i64 0, .int .i64 ((is.length - 1 : Nat) : Int)] (fun _ => .bool false) := fun G => by rw [hc1, ← hin]; exact within_ct _ _ _
        rcases hmem with rfl | rfl
        all_goals
          first | rw [show labV a b 1 = a from rfl] at hw | rw [show labV a b 2 = b from rfl] at hw
          repeat' (first | ((with_reducible apply o_y); exact y_; rfl) | refine e_call hG hst (hw _) ?_ | with_reducible refine al_none rfl ?_ | (with_reducible first | apply aw_seq | apply aw_region | apply al_nil | apply aq_then | apply aw_block | apply aw_skip | apply aw_ret | apply aq_then_ret | apply aq_block_ret) | refine aw_cond_t rfl rr_ ?_ | (refine aw_cond_dt rfl rr_ dd_ ?_))
          refine aq_nils 2 1 (by omega) rfl fun ss => aq_retm2 x_ rfl (ss, 0) trivial rfl (.cons _ _ _ _ (.nil R)) pk_ (.tmp _ _ rfl) (.tmp _ _ rfl) rfl
    · rw [List.take_of_length_le (by omega)] at hqa
      rw [hqa] at htk
      repeat' (first | ((with_reducible apply o_y); exact y_; rfl) | with_reducible refine al_none rfl ?_ | (with_reducible first | apply aw_seq | apply aw_region | apply al_nil | apply aq_then | apply aw_exit | apply aq_block_hit | apply aq_then_exit | apply aq_block) | (refine aw_cond_df rfl rr_ dd_ ?_))
      exact aq_round (i + 1) ⟨by omega, htk⟩ (by omega) (.of _ nw_ od_ pk_)
  · rw [List.take_of_length_le (by omega)] at hall
    have hd : depthsL is = flow is (stepI is) is.length (0 :: List.replicate (is.length - 1) (-1)) [0] := by
      unfold depthsL; rw [if_neg hz, if_pos (show preOk is = true from hall)]
    have hn1 : 1 ≤ is.length := hnz
    have hset : (intR (List.replicate is.length (-1))).set 0 [.int .i64 0] = intR (0 :: List.replicate (is.length - 1) (-1)) := by
      have e : is.length = (is.length - 1) + 1 := by omega
      rw [e, List.replicate_succ]; rfl
    have hrow0 : (intR (List.replicate is.length (-1)))[0]? = some [.int .i64 (-1)] := by
      have e : is.length = (is.length - 1) + 1 := by omega
      rw [e, List.replicate_succ]; rfl
    have hrep := fun lo => repeat_ct (G := G) lo is.length hn1 hn
    repeat' (first | ((with_reducible apply o_y); exact y_; rfl) | refine e_lit ?_ | refine e_store ?_ | ((with_reducible apply o_callM); rfl; kernel_rfl; (repeat (first | exact ArgsM.nil | ((with_reducible apply ArgsM.cons); rfl))); exact hG; exact hrep _; exact .nil _; intro y _; obtain ⟨ss, bb⟩ := y; refine al_app1 ?_) | with_reducible refine aw_hold_r (id := 19) ?_ | with_reducible refine al_none rfl ?_ | (with_reducible first | apply aw_seq | apply aw_region | apply al_nil | apply aq_then | apply aw_exit | apply aq_block_hit | apply aq_then_exit) | (refine aw_cond_df rfl rr_ dd_ ?_))
    refine ⟨?_⟩
    generalize ss = sd; generalize bb = bd
    repeat' (first | ((with_reducible apply o_y); exact y_; rfl) | (refine e_own ?_; intro ss bb) | with_reducible refine al_none rfl ?_ | (with_reducible first | apply aw_seq | apply aw_region | apply al_nil | apply aq_then | apply aw_block))
    generalize ss = st; generalize bb = bt
    rw [hset]
    have hpo : preOk is = true := hall
    clear hset hrow0 hrep hlt hnone hall hi
    apply aw_loopk (X := List Int × List Nat × List (List TV) × Nat × Nat) [1, 4, 9, 1000000] (fun x => [(10, .ms st x.2.2.2.1 x.2.2.1.length x.2.1.length)]) (fun x => (st, x.2.2.2.1, .row 1 (x.2.2.1 ++ intR (nts x.2.1))) :: (sd, bd, .row 1 (intR x.1)) :: R)
      (fun x => x.2.2.2.2 ≤ is.length ∧ DSt is.length x.1 x.2.1 x.2.2.2.2 ∧ flow is (stepI is) x.2.2.2.2 x.1 x.2.1 = depthsL is) (fun x => x.2.2.2.2) (0 :: List.replicate (is.length - 1) (-1), [0], [], bt, is.length) ⟨Nat.le_refl _, start_st hn1, hd.symm⟩
    exact kp_; (repeat (first | exact Weak.envNil | refine Weak.envCons we_ ?_))
    · exact .refl _
    rintro ⟨ds, q, pre, bt, f⟩ ⟨hf, hD, hfl⟩
    dsimp only at hf hD hfl ⊢
    cases q with
    | nil =>
      have hdl := hD.len
      have hd' : depthsL is = some ds := by rw [← hfl]; simp [flow]
      have h00 : ([] : List Nat).length = 0 := rfl
      rw [hd']
      repeat' (first | ((with_reducible apply o_y); exact y_; rfl) | with_reducible refine al_none rfl ?_ | (with_reducible first | apply aw_seq | apply aw_region | apply al_nil | apply aq_then | apply aw_exit | apply aw_ret | apply aq_block_hit | apply aq_then_exit) | (refine aw_cond_df rfl rr_ dd_ ?_))
      refine aq_retm2 x_ rfl (sd, bd) trivial rfl (.cons _ _ _ _ (.nil R)) pk_ (.tmp _ _ rfl) (.tmp _ _ rfl) (by simp [dR, hdl])
    | cons p q =>
    obtain ⟨j, rfl, hD', hpn, hg0⟩ := hD.pop
    clear hD
    have hlc : (p :: q).length = q.length + 1 := rfl
    rw [flow_cons _ _ _ _ _ hpn] at hfl
    have hrange := hD'.inv.gd (p : Nat)
    have hdl := hD'.len
    have hmu := hD'.mu
    have hgp : (pre ++ intR (nts (p :: q)))[pre.length + 0]? = some [.int .i64 (p : Int)] := by
      rw [Nat.add_zero, List.getElem?_append_right (Nat.le_refl _), Nat.sub_self]; rfl
    have hdi : (intR ds)[p]? = some [.int .i64 (gd ds (p : Nat))] := by
      have h9 := gd_get (ds := ds) (p := p) (by omega)
      simp only [intR, List.getElem?_map]
      rw [List.getElem?_eq_getElem (by omega), h9]; rfl
    have hii : (instrR is)[p]? = some (is[p]).tv := by simp only [instrR, List.getElem?_map]; rw [List.getElem?_eq_getElem hpn]; rfl
    have hpi : preOkI is.length is[p] = true := List.all_eq_true.1 hpo _ (List.getElem_mem _)
    have hti := ht _ (List.getElem_mem hpn)
    generalize is[p] = ii at hfl hii hpi hti
    obtain ⟨op, a, b, t⟩ := ii
    replace hti : t.size ≤ 1048576 := hti
    have her := eff_range ⟨op, a, b, t⟩
    have hop : inR op 1 26 = true := by simp only [preOkI, Bool.and_eq_true] at hpi; exact hpi.1.1
    have hef := effect_ct hst hca op a b t hti hop
    have hnx := next_ct hst hca op a b t p (gd ds p) hti hop (by omega) ⟨hg0, hrange.2⟩
    replace hii : (instrR is)[p]? = some [.int .i64 op, .int .i64 a, .int .i64 b, .str t] := hii
    have hstep : stepI is ⟨op, a, b, t⟩ p ds = if gd ds p < (TInstr.eff ⟨op, a, b, t⟩).1 then none else if (TInstr.labs ⟨op, a, b, t⟩).any (backI is p op) then none else pushI is.length (TInstr.nexts ⟨op, a, b, t⟩ p (gd ds p)) (ds, []) := rfl
    rw [hstep, labs_eq2, List.any_map] at hfl
    clear hstep
    have hpi0 := hpi
    rw [preOkI_eq, Bool.and_eq_true] at hpi
    have hlb := hpi.2
    clear hpi
    have hn0 : ¬ gd ds p < (TInstr.eff ⟨op, a, b, t⟩).1 → ∀ x ∈ TInstr.nexts ⟨op, a, b, t⟩ p (gd ds p), 0 ≤ x.2 := fun h => nexts_nonneg ⟨op, a, b, t⟩ p (gd ds p) hg0 h fun h14 => by
      have := hpi0
      simp only [preOkI, Bool.and_eq_true] at this
      have h3 := this.1.2
      simp [show op = 14 from h14] at h3
      simp [TInstr.eff, show op = 14 from h14]; exact h3
    clear hpi0
    have hnl := nexts_len ⟨op, a, b, t⟩ p (gd ds p)
    generalize TInstr.nexts ⟨op, a, b, t⟩ p (gd ds p) = L at *
    generalize (TInstr.eff ⟨op, a, b, t⟩).1 = e1 at *
    generalize (TInstr.eff ⟨op, a, b, t⟩).2 = e2 at *
    generalize hgg : gd ds (p : Int) = g at *
    by_cases hlt : g < e1
    · rw [if_pos hlt] at hfl
      rw [← hfl]
      repeat' (first | ((with_reducible apply o_y); exact y_; rfl) | refine e_slms ?_ | (refine e_alloc ?_; intro ss bb) | refine e_storep ?_ | refine e_call hG hst (hef) ?_ | with_reducible refine al_none rfl ?_ | (with_reducible first | apply aw_seq | apply aw_region | apply al_nil | apply aq_then | apply aw_block | apply aw_skip | apply aw_ret | apply aq_then_ret | apply aq_block_ret) | (refine aw_cond_dt rfl rr_ dd_ ?_))
      refine aq_nils 2 1 (by omega) rfl fun ss => aq_retm2 x_ rfl (ss, 0) trivial rfl (.cons _ _ _ _ (.nil R)) pk_ (.tmp _ _ rfl) (.tmp _ _ rfl) rfl
    rw [if_neg hlt] at hfl
    replace hn0 := hn0 hlt
    have hlr := fun s b => labR_length op s b
    have hol := labOff_le op
    repeat' (first | ((with_reducible apply o_y); exact y_; rfl) | refine e_slms ?_ | (refine e_alloc ?_; intro ss bb) | refine e_storep ?_ | refine e_call hG hst (hef) ?_ | ((with_reducible apply o_callM); rfl; kernel_rfl; (repeat (first | exact ArgsM.nil | ((with_reducible apply ArgsM.cons); rfl))); exact hG; exact labelsOf_ct ss bb op a b t; exact .cons _ _ _ _ (.nil _); intro y _; obtain ⟨sl5, bl5⟩ := y; refine al_app2 ?_) | with_reducible refine al_none rfl ?_ | (with_reducible first | apply aw_seq | apply aw_region | apply al_nil | apply aq_then | apply aw_block | apply aw_skip) | (refine aw_cond_dt rfl rr_ dd_ ?_) | (refine aw_cond_df rfl rr_ dd_ ?_))
    generalize ss = s6; generalize bb = b6
    have hlr6 := hlr s6 b6
    clear hlr
    apply aw_loopk (X := Nat) [1, 4, 9, 11, 12, 100, 101, 1000000] (fun k => [(102, .int .i64 (k : Int)), (10, .ms st bt (pre ++ [[TV.int .i64 (p : Int)]]).length q.length)]) (fun _ => (sl5, bl5, .row 1 (labR op s6 b6)) :: (s6, b6, .box [.int .i64 op, .int .i64 a, .int .i64 b, .str t]) :: (st, bt, .row 1 ((pre ++ [[TV.int .i64 (p : Int)]]) ++ intR (nts q))) :: (sd, bd, .row 1 (intR ds)) :: R)
      (fun k => k ≤ (labOff op).length ∧ ((labOff op).take k).any (backI is p op ∘ labV a b) = false) (fun k => (labOff op).length - k) 0 ⟨Nat.zero_le _, rfl⟩
    (repeat (first | exact Kept.nil | (apply Kept.cons; rfl)))
    · (repeat (first | exact Weak.envNil | refine Weak.envCons (by first | rfl | exact lk_ms2 rfl (by simp) (by simp)) ?_))
    · refine .cons (.head _) (.cons (.head _) ?_)
      rw [List.append_assoc]
      exact .refl _
    have hpr : (pre ++ [[TV.int .i64 (p : Int)]]).length = pre.length + 1 := by simp
    generalize pre ++ [[TV.int .i64 (p : Int)]] = pre1 at *
    rintro k ⟨hk, hka⟩
    try dsimp only
    by_cases hkl : k < (labOff op).length
    · have hrow := labR_get (s := s6) (b := b6) hkl
      have hkk : ((labOff op).take (k + 1)).any (backI is p op ∘ labV a b) = (backI is p op ∘ labV a b) (labOff op)[k] := by
        rw [List.take_add_one, List.any_append, hka, List.getElem?_eq_getElem hkl]; simp
      have hkb : (backI is p op ∘ labV a b) (labOff op)[k] = true → (labOff op).any (backI is p op ∘ labV a b) = true := fun h => List.any_eq_true.2 ⟨_, List.getElem_mem hkl, h⟩
      have hmem := labOff_mem (List.getElem_mem hkl)
      have hin := List.all_eq_true.1 hlb _ (List.getElem_mem hkl)
      generalize (labOff op)[k] = o at hrow hkk hkb hmem hin
      dsimp only [Function.comp] at hkk hkb
      simp only [inR, decide_eq_true_eq] at hin
      obtain ⟨vn, hvn⟩ : ∃ vn : Nat, labV a b o = (vn : Int) := ⟨(labV a b o).toNat, by omega⟩
      rw [hvn] at hkk hkb hin
      have hvl : vn < is.length := by omega
      repeat' (first | ((with_reducible apply o_y); exact y_; rfl) | with_reducible refine aw_hold_r (id := 30) ?_ | with_reducible refine al_none rfl ?_ | (with_reducible first | apply aw_seq | apply aw_region | apply al_nil | apply aq_then | apply aw_block | apply aw_skip) | (refine aw_cond_dt rfl rr_ dd_ ?_))
      refine ⟨aw_seq ?_⟩
      apply aw_join (X := Unit) [1, 4, 9, 10, 11, 12, 100, 101, 102, 1000000] (fun _ => [(126, .bool (backI is p op (vn : Int)))]) (fun _ => (sl5, bl5, .row 1 (labR op s6 b6)) :: (s6, b6, .box [.int .i64 op, .int .i64 a, .int .i64 b, .str t]) :: (st, bt, .row 1 (pre1 ++ intR (nts q))) :: (sd, bd, .row 1 (intR ds)) :: R) (fun _ => True)
      case hk => (repeat (first | exact Kept.nil | (apply Kept.cons; rfl)))
      · have hri : (instrR is)[vn]? = some (is[vn]).tv := by simp only [instrR, List.getElem?_map]; rw [List.getElem?_eq_getElem hvl]; rfl
        have hoa : opAt is (vn : Int) = is[vn].op := by simp [opAt, hvl]
        clear hkk hkb hka hlb hfl hnx hef hpo ht
        generalize is[vn] = iu at hri hoa
        obtain ⟨op', a', b', t'⟩ := iu
        replace hri : (instrR is)[vn]? = some [.int .i64 op', .int .i64 a', .int .i64 b', .str t'] := hri
        have hbs : backI is p op (vn : Int) = (!decide (op = 26) && decide ((vn : Int) ≤ p) && !decide (op' = 23)) := by simp [backI, hoa]
        rw [hbs]
        have hw3 : op = 26 ∨ (¬ op = 26 ∧ (vn : Int) ≤ p) ∨ (¬ op = 26 ∧ ¬ (vn : Int) ≤ p) := by omega
        rcases hmem with rfl | rfl
        all_goals
          first
            | obtain rfl : a = (vn : Int) := hvn
            | obtain rfl : b = (vn : Int) := hvn
          rcases hw3 with h26 | ⟨h26, hle⟩ | ⟨h26, hle⟩
          all_goals
            repeat' (first | with_reducible refine aw_draw (by kernel_rfl) (by kernel_rfl) ?_ | with_reducible refine dr_nil ?_ | with_reducible refine dr_none rfl ?_ | refine dr_run rfl rfl rfl rr_ ?_ | refine dr_skip rfl rfl rfl rr_ rfl rfl rfl ?_ | (refine dr_gt rfl rfl rfl rr_ dd_ ?_) | (refine dr_gf rfl rfl rfl rr_ dd_ ?_) | ((with_reducible apply d_y); exact y_; rfl))
            refine aq_mid () trivial (.of _ nw_ od_ pk_)
      · intro _ _
        by_cases hbk : backI is p op (vn : Int) = true
        · rw [hkb hbk, if_pos rfl] at hfl
          rw [hbk, ← hfl]
          repeat' (first | with_reducible refine al_none rfl ?_ | ((with_reducible apply o_assign); rfl; rfl) | with_reducible refine aw_seq ?_ | with_reducible refine aw_region ?_ | with_reducible refine al_nil ?_ | with_reducible refine aq_then ?_ | with_reducible refine aw_ret ?_ | with_reducible refine aq_then_ret ?_ | with_reducible refine aq_block_ret ?_ | refine aw_cond_t rfl rr_ ?_)
          refine aq_nils 2 1 (by omega) rfl fun ss => aq_retm2 x_ rfl (ss, 0) trivial rfl (.cons _ _ _ _ (.nil R)) pk_ (.tmp _ _ rfl) (.tmp _ _ rfl) rfl
        · rw [Bool.not_eq_true] at hbk
          rw [hbk]
          repeat' (first | ((with_reducible apply o_y); exact y_; rfl) | with_reducible refine al_none rfl ?_ | (with_reducible first | apply aw_region | apply al_nil | apply aq_then | apply aw_skip | apply aq_block) | refine aw_cond_f rfl rr_ ?_)
          exact aq_round (k + 1) ⟨by omega, by rw [hkk, hbk]⟩ (by omega) (.of _ nw_ od_ pk_)
    · rw [List.take_of_length_le (by omega)] at hka
      rw [hka, if_neg (by simp)] at hfl
      repeat' (first | ((with_reducible apply o_y); exact y_; rfl) | with_reducible refine aw_draw (by kernel_rfl) (by kernel_rfl) ?_ | with_reducible refine dr_nil ?_ | with_reducible refine dr_none rfl ?_ | ((with_reducible apply d_y); exact y_; rfl) | refine e_calld hG hst (hnx) ?_ | with_reducible refine al_none rfl ?_ | (with_reducible first | apply aw_seq | apply aw_region | apply al_nil | apply aq_then | apply aw_block | apply aw_exit | apply aq_block_hit | apply aq_then_exit) | (refine aw_cond_df rfl rr_ dd_ ?_))
      clear hka hlb hef hnx hmu
      apply aw_loopk (X := Nat × List Int × List Nat × Nat × List (List TV)) [1, 4, 9, 134, 135, 1000000] (fun x => [(136, .int .i64 (x.1 : Int)), (10, .ms st x.2.2.2.1 x.2.2.2.2.length (q.length + x.2.2.1.length))])
        (fun x => (st, x.2.2.2.1, .row 1 (x.2.2.2.2 ++ intR (nts (q ++ x.2.2.1)))) :: (sd, bd, .row 1 (intR x.2.1)) :: R)
        (fun x => x.1 ≤ L.length ∧ x.2.1.length = is.length ∧ x.2.2.1.length ≤ x.1 ∧ pushI is.length (L.drop x.1) (x.2.1, x.2.2.1) = pushI is.length L (ds, [])) (fun x => L.length - x.1) (0, ds, [], bt, pre1) ⟨Nat.zero_le _, hdl, Nat.zero_le _, rfl⟩
      exact kp_; (repeat (first | exact Weak.envNil | refine Weak.envCons we_ ?_))
      · rw [List.append_nil]; exact pk_
      rintro ⟨k, ds', new, bt', pre'⟩ ⟨hk, hdl', hnw, hpu⟩
      dsimp only at hk hdl' hnw hpu ⊢
      have hqf : q.length ≤ is.length := by have := hD'.mu; omega
      by_cases hkl : k < L.length
      · rw [List.drop_eq_getElem_cons hkl] at hpu
        have hrow : (plR L)[k]? = some [.int .i64 L[k].1, .int .i64 L[k].2] := by simp [plR, hkl]
        generalize L[k] = uv at hpu hrow
        obtain ⟨u, v⟩ := uv
        dsimp only at hrow
        rw [pushI_cons] at hpu
        repeat' (first | ((with_reducible apply o_y); exact y_; rfl) | (refine e_alloc ?_; intro ss bb) | refine e_storep ?_ | with_reducible refine aw_hold_b (id := 10) ?_ | with_reducible refine al_none rfl ?_ | (with_reducible first | apply aw_seq | apply aw_region | apply al_nil | apply aq_then | apply aw_block | apply aw_skip) | (refine aw_cond_dt rfl rr_ dd_ ?_))
        refine ⟨aw_block (aw_seq ?_)⟩
        generalize ss = s8; generalize bb = b8
        apply aw_join (X := Unit) [1, 4, 9, 10, 18, 134, 135, 136, 1000000] (fun _ => [(140, .bool (badI is.length ds' u v))]) (fun _ => (s8, b8, .box [.int .i64 u, .int .i64 v]) :: (st, bt', .row 1 (pre' ++ intR (nts (q ++ new)))) :: (sd, bd, .row 1 (intR ds')) :: R) (fun _ => True)
        case hk => (repeat (first | exact Kept.nil | (apply Kept.cons; rfl)))
        · clear hpu hfl hn0 hpo ht
          by_cases hin : inR u 0 ((is.length : Int) - 1) = true
          · have hw : ∀ G, Ct Tryz.prog G 57 [.int .i64 u, .int .i64 0, .int .i64 ((is.length - 1 : Nat) : Int)] (fun _ => .bool true) := fun G => by rw [hc1, ← hin]; exact within_ct _ _ _
            have hin2 : 0 ≤ u ∧ u ≤ (is.length : Int) - 1 := by simpa [inR] using hin
            obtain ⟨un, rfl⟩ : ∃ un : Nat, u = (un : Int) := ⟨u.toNat, by omega⟩
            have hun : un < is.length := by omega
            have hrd : (intR ds')[un]? = some [.int .i64 (gd ds' (un : Int))] := by
              have h9 := gd_get (ds := ds') (p := un) (by omega)
              simp only [intR, List.getElem?_map]
              rw [List.getElem?_eq_getElem (by omega), h9]; rfl
            have hbs : badI is.length ds' (un : Int) v = (decide (250 < v) || (decide (0 ≤ gd ds' (un : Int)) && !decide (gd ds' (un : Int) = v))) := by simp [badI, hin]
            rw [hbs]
            generalize gd ds' (un : Int) = gv at hrd ⊢
            have hw3 : 250 < v ∨ (¬ 250 < v ∧ 0 ≤ gv) ∨ (¬ 250 < v ∧ ¬ 0 ≤ gv) := by omega
            rcases hw3 with h250 | ⟨h250, hg0'⟩ | ⟨h250, hg0'⟩
            all_goals
              repeat' (first | with_reducible refine aw_draw (by kernel_rfl) (by kernel_rfl) ?_ | with_reducible refine dr_nil ?_ | with_reducible refine dr_none rfl ?_ | refine dr_run rfl rfl rfl rr_ ?_ | refine dr_skip rfl rfl rfl rr_ rfl rfl rfl ?_ | refine dr_skip2 rfl rfl rfl rr_ rfl rfl ?_ | (refine dr_gt rfl rfl rfl rr_ dd_ ?_) | (refine dr_gf rfl rfl rfl rr_ dd_ ?_) | ((with_reducible apply d_y); exact y_; rfl) | refine e_calld hG hst (hw _) ?_)
              refine aq_mid () trivial (.of _ (Weak.envCons (lk_bool rfl (by simp [*])) Weak.envNil) od_ pk_)
          · rw [Bool.not_eq_true] at hin
            have hw : ∀ G, Ct Tryz.prog G 57 [.int .i64 u, .int .i64 0, .int .i64 ((is.length - 1 : Nat) : Int)] (fun _ => .bool false) := fun G => by rw [hc1, ← hin]; exact within_ct _ _ _
            have hbs : badI is.length ds' u v = true := by simp [badI, hin]
            rw [hbs]
            repeat' (first | with_reducible refine aw_draw (by kernel_rfl) (by kernel_rfl) ?_ | with_reducible refine dr_nil ?_ | with_reducible refine dr_none rfl ?_ | refine dr_skip rfl rfl rfl rr_ rfl rfl rfl ?_ | refine dr_skip2 rfl rfl rfl rr_ rfl rfl ?_ | ((with_reducible apply d_y); exact y_; rfl) | refine e_calld hG hst (hw _) ?_)
            refine aq_mid () trivial (.of _ nw_ od_ pk_)
        · intro _ _
          by_cases hb : badI is.length ds' u v = true
          · rw [if_pos hb] at hpu
            rw [← hpu] at hfl
            dsimp only at hfl
            rw [hb, ← hfl]
            repeat' (first | with_reducible refine al_none rfl ?_ | ((with_reducible apply o_assign); rfl; rfl) | with_reducible refine aw_seq ?_ | with_reducible refine aw_region ?_ | with_reducible refine al_nil ?_ | with_reducible refine aq_then ?_ | with_reducible refine aw_ret ?_ | with_reducible refine aq_then_ret ?_ | with_reducible refine aq_block_ret ?_ | refine aw_cond_t rfl rr_ ?_)
            refine aq_nils 2 1 (by omega) rfl fun ss => aq_retm2 x_ rfl (ss, 0) trivial rfl (.cons _ _ _ _ (.nil R)) pk_ (.tmp _ _ rfl) (.tmp _ _ rfl) rfl
          · rw [if_neg hb] at hpu
            have hin : inR u 0 ((is.length : Int) - 1) = true := by
              cases h : inR u 0 ((is.length : Int) - 1)
              · exact absurd (by simp [badI, h]) hb
              · rfl
            rw [Bool.not_eq_true] at hb
            rw [hb]
            have hin2 : 0 ≤ u ∧ u ≤ (is.length : Int) - 1 := by simpa [inR] using hin
            obtain ⟨un, rfl⟩ : ∃ un : Nat, u = (un : Int) := ⟨u.toNat, by omega⟩
            have hun : un < is.length := by omega
            have hrd : (intR ds')[un]? = some [.int .i64 (gd ds' (un : Int))] := by
              have h9 := gd_get (ds := ds') (p := un) (by omega)
              simp only [intR, List.getElem?_map]
              rw [List.getElem?_eq_getElem (by omega), h9]; rfl
            have hrl : pre'.length + (q.length + new.length) ≤ (pre' ++ intR (nts (q ++ new))).length := by simp [intR, nts]
            have hlive : ((pre' ++ intR (nts (q ++ new))).drop pre'.length).take (q.length + new.length) = intR (nts (q ++ new)) := by
              rw [List.drop_left, List.take_of_length_le (by simp [intR, nts])]
            by_cases hgn : gd ds' (un : Int) < 0
            · rw [if_pos hgn] at hpu
              have hset : (intR ds').set un [.int .i64 v] = intR (ds'.set un v) := intR_set ds' un v
              repeat' (first | ((with_reducible apply o_y); exact y_; rfl) | refine e_store ?_ | refine e_lit ?_ | (refine e_appq ?_; intro bb pp) | with_reducible refine al_none rfl ?_ | (with_reducible first | apply aw_seq | apply aw_region | apply al_nil | apply aq_then | apply aq_block) | refine aw_cond_f rfl rr_ ?_ | (refine aw_cond_dt rfl rr_ dd_ ?_))
              refine aq_round (k + 1, ds'.set un v, new ++ [un], bb, pp) ⟨by dsimp only; omega, by simp [hdl'], by simp; omega, by dsimp only; rw [← hpu]; rfl⟩ (by dsimp only; omega) (.of _ nw_ od_ pk_)
            · rw [if_neg hgn] at hpu
              repeat' (first | ((with_reducible apply o_y); exact y_; rfl) | with_reducible refine al_none rfl ?_ | (with_reducible first | apply aw_seq | apply aw_region | apply al_nil | apply aq_then | apply aw_skip | apply aq_block) | refine aw_cond_f rfl rr_ ?_ | (refine aw_cond_df rfl rr_ dd_ ?_))
              refine aq_round (k + 1, ds', new, bt', pre') ⟨by dsimp only; omega, hdl', by dsimp only; omega, by dsimp only; exact hpu⟩ (by dsimp only; omega) (.of _ nw_ od_ pk_)
      · rw [List.drop_of_length_le (by omega)] at hpu
        rw [← hpu] at hfl
        dsimp only [pushI] at hfl
        repeat' (first | ((with_reducible apply o_y); exact y_; rfl) | with_reducible refine al_none rfl ?_ | (with_reducible first | apply aw_seq | apply aw_region | apply al_nil | apply aq_then | apply aw_exit | apply aq_block_hit | apply aq_then_exit | apply aq_block) | (refine aw_cond_df rfl rr_ dd_ ?_))
        refine aq_round (ds', q ++ new, pre', bt', j) ⟨by dsimp only; omega, ?_, by dsimp only; exact hfl⟩ (by dsimp only; omega) (.of _ nw_ od_ pk_)
        dsimp only
        exact pushI_st L ds q [] (ds', new) hn0 (by rw [List.append_nil]; exact hD') hpu.symm
end Go.Proofs.YthpdkhejeookhaaGreatDoor
/- IsVerified: what both sides compute of the entries, the blocks' codes and the instructions (no program in sight). -/
namespace Go.Proofs.YthpdkhejeookhaaGreatDoor
open Go Go.RowKit
/-- A code that is no block's and has so many parameters. -/
def plainAt (cs : List TCode) (k n : Int) : Prop := ∃ x, cs[k.toNat]? = some x ∧ x.block = false ∧ x.params = n
theorem plainAt_iff {cs : List TCode} {k n : Int} {j : Nat} {x : TCode} (hk : k = j) (hx : cs[j]? = some x) : plainAt cs k n ↔ x.block = false ∧ x.params = n := by
  unfold plainAt
  subst hk
  rw [Int.toNat_natCast, hx]
  constructor
  · rintro ⟨y, hy, h⟩; cases hy; exact h
  · exact fun h => ⟨x, rfl, h⟩
def entryOk (nc : Nat) (cs : List TCode) (e : TEntry) : Prop :=
  (isSelL e.selector.data.toList = true ∧ inR e.owner 16 ((nc : Int) - 1) = true ∧ inR e.code 0 ((cs.length : Int) - 1) = true) ∧ plainAt cs e.code (nArgsL e.selector.data.toList)
def sameEntry (e f : TEntry) : Prop := f.owner = e.owner ∧ f.class_ = e.class_ ∧ f.selector = e.selector
def newEntry (es : List TEntry) (i : Nat) (e : TEntry) : Prop := ∀ f ∈ es.take i, ¬ sameEntry e f
def entriesOk (nc : Nat) (cs : List TCode) (es : List TEntry) : Prop := ∀ (i : Nat) (h : i < es.length), entryOk nc cs es[i] ∧ newEntry es i es[i]
open Classical in
noncomputable def entriesB (nc : Nat) (cs : List TCode) (es : List TEntry) : Bool := decide (entriesOk nc cs es ∧ es.length ≤ 96)
theorem entries_bad {nc : Nat} {cs : List TCode} {es : List TEntry} {i : Nat} (h : i < es.length) (hb : ¬ (entryOk nc cs es[i] ∧ newEntry es i es[i])) : ¬ entriesOk nc cs es := fun k => hb (k i h)
theorem entries_good {nc : Nat} {cs : List TCode} {es : List TEntry} (h : ∀ j, j < es.length → ∀ h : j < es.length, entryOk nc cs es[j] ∧ newEntry es j es[j]) : entriesOk nc cs es := fun i hi => h i hi hi

open Classical in
theorem entriesB_bad {nc : Nat} {cs : List TCode} {es : List TEntry} {i : Nat} (h : i < es.length) (hb : ¬ (entryOk nc cs es[i] ∧ newEntry es i es[i])) : entriesB nc cs es = false := decide_eq_false fun k => entries_bad h hb k.1
open Classical in
theorem entriesB_good {nc : Nat} {cs : List TCode} {es : List TEntry} (h : ∀ j, j < es.length → ∀ h : j < es.length, entryOk nc cs es[j] ∧ newEntry es j es[j]) : entriesB nc cs es = decide ((es.length : Int) ≤ 96) := by
  unfold entriesB
  rw [decide_eq_decide]
  exact ⟨fun h => by omega, fun k => ⟨entries_good h, by omega⟩⟩
open Classical in
theorem entriesB_long {nc : Nat} {cs : List TCode} {es : List TEntry} (h : ¬ es.length ≤ 96) : entriesB nc cs es = false := decide_eq_false fun k => h k.2
/-- The codes around the blocks' codes: an instruction of code i. -/
def outI (i : Nat) (x : TInstr) (o : List Int) : Option (List Int) :=
  if x.op = 15 then (if (0 ≤ x.a ∧ x.a ≤ (i : Int) - 1) ∧ ¬ 0 ≤ gd o x.a then some (o.set x.a.toNat i) else none) else some o
def outRow (i : Nat) : List TInstr → List Int → Option (List Int)
  | [], o => some o
  | x :: r, o => match outI i x o with
    | none => none
    | some o' => outRow i r o'
def outGo : Nat → List TCode → List Int → Option (List Int)
  | _, [], o => some o
  | i, x :: r, o => match outRow i x.instrs o with
    | none => none
    | some o' => outGo (i + 1) r o'
/-- A block's code stands somewhere, no other does. -/
def outFits (cs : List TCode) (o : List Int) : Prop := ∀ (i : Nat) (h : i < cs.length), cs[i].block = decide (0 ≤ gd o (i : Int))
open Classical in
noncomputable def outFin (cs : List TCode) : Option (List Int) → Option (List Int)
  | none => none
  | some o => if outFits cs o then some o else none
/-- From code i on, with row r of it left. -/
noncomputable def outRest (cs : List TCode) (i : Nat) (r : List TInstr) (o : List Int) : Option (List Int) := outFin cs (match outRow i r o with
    | none => none
    | some o' => outGo (i + 1) (cs.drop (i + 1)) o')
noncomputable def outFrom (cs : List TCode) (i : Nat) (o : List Int) : Option (List Int) := outFin cs (outGo i (cs.drop i) o)
noncomputable def outersL (cs : List TCode) : Option (List Int) := outFrom cs 0 (List.replicate cs.length (-1))
theorem outFrom_step {cs : List TCode} {i : Nat} (h : i < cs.length) (o : List Int) : outFrom cs i o = outRest cs i cs[i].instrs o := by
  unfold outFrom outRest
  rw [List.drop_eq_getElem_cons h]; rfl
theorem outFrom_end {cs : List TCode} {i : Nat} (h : ¬ i < cs.length) (o : List Int) : outFrom cs i o = outFin cs (some o) := by
  unfold outFrom
  rw [List.drop_of_length_le (by omega)]; rfl
theorem outRest_step {cs : List TCode} {i k : Nat} {is : List TInstr} (h : k < is.length) (o : List Int) : outRest cs i (is.drop k) o = match outI i is[k] o with
    | none => none
    | some o' => outRest cs i (is.drop (k + 1)) o' := by
  unfold outRest
  rw [List.drop_eq_getElem_cons h]
  show outFin cs (match (match outI i is[k] o with | none => none | some o' => outRow i (is.drop (k + 1)) o') with | none => none | some o' => outGo (i + 1) (cs.drop (i + 1)) o') = _
  cases outI i is[k] o <;> rfl
theorem outRest_end {cs : List TCode} {i k : Nat} {is : List TInstr} (h : ¬ k < is.length) (o : List Int) : outRest cs i (is.drop k) o = outFrom cs (i + 1) o := by
  unfold outRest outFrom
  rw [List.drop_of_length_le (by omega)]; rfl
theorem gd_set_ne {o : List Int} {a b : Nat} {v : Int} (h : a ≠ b) : gd (o.set a v) (b : Int) = gd o (b : Int) := by
  simp [gd, List.getElem?_set, h]
theorem gd_set_eq {o : List Int} {a : Nat} {v : Int} (h : a < o.length) : gd (o.set a v) (a : Int) = v := by
  simp [gd, List.getElem?_set, h]
/-- What holds all the way: every code's outer one is later. -/
def outInv (n : Nat) (o : List Int) : Prop := o.length = n ∧ ∀ j : Nat, j < n → gd o j = -1 ∨ ((j : Int) < gd o j ∧ gd o j < n)
theorem outInv_zero (n : Nat) : outInv n (List.replicate n (-1)) := ⟨by simp, fun j hj => .inl (by simp [gd, hj])⟩
theorem outI_inv {n i : Nat} {x : TInstr} {o o' : List Int} (hi : i < n) (h : outI i x o = some o') (ho : outInv n o) : outInv n o' ∧ ∀ j : Nat, 0 ≤ gd o j → 0 ≤ gd o' j := by
  unfold outI at h
  split at h
  · split at h
    · rename_i h1
      cases h
      obtain ⟨a, ha⟩ : ∃ a : Nat, x.a = a := ⟨x.a.toNat, by omega⟩
      rw [ha] at h1 ⊢
      rw [Int.toNat_natCast]
      have hal : a < n := by omega
      refine ⟨⟨by simp [ho.1], fun j hj => ?_⟩, fun j hj => ?_⟩
      · by_cases hja : a = j
        · subst hja
          rw [gd_set_eq (by rw [ho.1]; exact hal)]
          exact .inr ⟨by omega, by omega⟩
        · rw [gd_set_ne hja]; exact ho.2 j hj
      · by_cases hja : a = j
        · subst hja
          rw [gd_set_eq (by rw [ho.1]; exact hal)]; omega
        · rw [gd_set_ne hja]; exact hj
    · cases h
  · cases h; exact ⟨ho, fun j hj => hj⟩
theorem outRow_inv {n i : Nat} (hi : i < n) : ∀ {r : List TInstr} {o o' : List Int}, outRow i r o = some o' → outInv n o → outInv n o' ∧ ∀ j : Nat, 0 ≤ gd o j → 0 ≤ gd o' j
  | [], o, o', h, ho => by cases h; exact ⟨ho, fun _ hj => hj⟩
  | x :: r, o, o', h, ho => by
    unfold outRow at h
    split at h
    · cases h
    · rename_i o1 h1
      obtain ⟨h2, h3⟩ := outI_inv hi h1 ho
      obtain ⟨h4, h5⟩ := outRow_inv hi h h2
      exact ⟨h4, fun j hj => h5 j (h3 j hj)⟩
theorem outGo_inv {n : Nat} : ∀ {r : List TCode} {i : Nat} {o o' : List Int}, i + r.length ≤ n → outGo i r o = some o' → outInv n o → outInv n o' ∧ ∀ j : Nat, 0 ≤ gd o j → 0 ≤ gd o' j
  | [], i, o, o', _, h, ho => by cases h; exact ⟨ho, fun _ hj => hj⟩
  | x :: r, i, o, o', hn, h, ho => by
    unfold outGo at h
    split at h
    · cases h
    · rename_i o1 h1
      simp only [List.length_cons] at hn
      obtain ⟨h2, h3⟩ := outRow_inv (by omega) h1 ho
      obtain ⟨h4, h5⟩ := outGo_inv (by omega) h h2
      exact ⟨h4, fun j hj => h5 j (h3 j hj)⟩
theorem outFin_some {cs : List TCode} {p : Option (List Int)} {o : List Int} (h : outFin cs p = some o) : p = some o ∧ outFits cs o := by
  cases p with
  | none => cases h
  | some o' =>
    by_cases hf : outFits cs o'
    · have : outFin cs (some o') = some o' := by unfold outFin; exact if_pos hf
      rw [this] at h; cases h; exact ⟨rfl, hf⟩
    · have : outFin cs (some o') = none := by unfold outFin; exact if_neg hf
      rw [this] at h; cases h
theorem outersL_inv {cs : List TCode} {o : List Int} (h : outersL cs = some o) : outInv cs.length o ∧ outFits cs o := by
  obtain ⟨h1, h2⟩ := outFin_some h
  exact ⟨(outGo_inv (by simp) h1 (outInv_zero _)).1, h2⟩
/-- A code that no block is and that stands somewhere: all is wrong. -/
theorem outRest_noblock {cs : List TCode} {i k : Nat} {is : List TInstr} {o : List Int} {a : Nat} (hi : i < cs.length) (ho : outInv cs.length o) (ha : a < cs.length) (hb : cs[a].block = false) (hp : 0 ≤ gd o (a : Int)) : outRest cs i (is.drop k) o = none := by
  cases h : outRest cs i (is.drop k) o with
  | none => rfl
  | some o' =>
    exfalso
    obtain ⟨h1, h2⟩ := outFin_some h
    split at h1
    · cases h1
    · rename_i o1 h3
      obtain ⟨h4, h5⟩ := outRow_inv hi h3 ho
      obtain ⟨h6, h7⟩ := outGo_inv (by simp; omega) h1 h4
      have h8 := h2 a ha
      rw [hb] at h8
      have h9 := h7 a (h5 a hp)
      rw [decide_eq_true h9] at h8
      cases h8
theorem outFin_bad {cs : List TCode} {o : List Int} {i : Nat} (h : i < cs.length) (hb : cs[i].block ≠ decide (0 ≤ gd o (i : Int))) : outFin cs (some o) = none := by
  unfold outFin
  exact if_neg fun k => hb (k i h)
theorem outFin_good {cs : List TCode} {o : List Int} (h : ∀ j, j < cs.length → ∀ h : j < cs.length, cs[j].block = decide (0 ≤ gd o (j : Int))) : outFin cs (some o) = some o := by
  unfold outFin
  exact if_pos fun i hi => h i hi hi

/-- The code and those around it, the innermost first. -/
def climb (o : List Int) : Nat → Int → List Int
  | 0, _ => []
  | n + 1, k => if k < 0 then [] else k :: climb o n (gd o k)
/-- The way up, counted out. -/
def upN (o : List Int) : Nat → Int → Int
  | 0, k => k
  | n + 1, k => if k < 0 then k else upN o n (gd o k)
theorem upN_neg (o : List Int) (n : Nat) {k : Int} (h : k < 0) : upN o n k = k := by
  cases n with
  | zero => rfl
  | succ n => unfold upN; rw [if_pos h]
theorem climb_up {o : List Int} (hinv : outInv o.length o) : ∀ (n : Nat) (k : Int) (b : Nat), k = -1 ∨ (0 ≤ k ∧ k < o.length ∧ o.length ≤ n + k.toNat) → (climb o n k)[b]? = if 0 ≤ upN o b k then some (upN o b k) else none
  | 0, k, b, h => by
    obtain rfl : k = -1 := by omega
    rw [upN_neg o b (by omega)]; rfl
  | n + 1, k, b, h => by
    rcases h with rfl | ⟨h0, h1, h2⟩
    · rw [upN_neg o b (by omega)]; rfl
    · unfold climb
      rw [if_neg (by omega)]
      obtain ⟨j, rfl⟩ : ∃ j : Nat, k = j := ⟨k.toNat, by omega⟩
      cases b with
      | zero =>
        show some (j : Int) = _
        unfold upN
        rw [if_pos h0]
      | succ b =>
        show (climb o n (gd o j))[b]? = _
        have hj := hinv.2 j (by omega)
        rw [climb_up hinv n (gd o j) b (by rw [Int.toNat_natCast] at h2; omega)]
        have : upN o (b + 1) j = upN o b (gd o j) := by
          conv => lhs; unfold upN
          rw [if_neg (by omega)]
        rw [this]
theorem climb_len (o : List Int) : ∀ (n : Nat) (k : Int), (climb o n k).length ≤ n
  | 0, _ => Nat.le_refl _
  | n + 1, k => by
    unfold climb
    split
    · simp
    · have := climb_len o n (gd o k); simp; omega
end Go.Proofs.YthpdkhejeookhaaGreatDoor
/- IsVerified: what both sides compute of the instructions and codes (no program in sight). -/
namespace Go.Proofs.YthpdkhejeookhaaGreatDoor
open Go Go.RowKit
theorem tcode_row {lo : Nat} {cs : List TCode} {j : Nat} (h : j < cs.length) : (cs.map (TCode.tw lo))[j]? = some [.bool cs[j].block, .int .i64 cs[j].params, .int .i64 cs[j].slots, .sl lo 4 (cs[j].instrs.map (TInstr.tw lo))] := row_map h
theorem tentry_row {lo : Nat} {es : List TEntry} {j : Nat} (h : j < es.length) : (es.map (TEntry.tw lo))[j]? = some [.int .i64 es[j].owner, .bool es[j].class_, .str es[j].selector, .int .i64 es[j].code] := row_map h
theorem tinstr_row {lo : Nat} {is : List TInstr} {j : Nat} (h : j < is.length) : (is.map (TInstr.tw lo))[j]? = some [.int .i64 is[j].op, .int .i64 is[j].a, .int .i64 is[j].b, .str is[j].text] := row_map h
def TInstr.none : TInstr := ⟨0, 0, 0, ⟨#[]⟩⟩
/-- The code so many levels above code k. -/
def levelOf (cs : List TCode) (o : List Int) (k : Nat) (b : Int) : Option TCode := if 0 ≤ b ∧ 0 ≤ upN o b.toNat k then cs[(upN o b.toNat k).toNat]? else none
def varOk (cs : List TCode) (o : List Int) (k : Nat) (x : TInstr) : Bool := match levelOf cs o k x.b with
  | none => false
  | some y => inR x.a (if x.op = 9 then y.params else 0) (IntKind.i64.wrap (y.slots - 1))
def instrHead (x : TInstr) : Prop := inR x.op 1 26 = true ∧ (useA x.op = true ∨ x.a = 0) ∧ (useB x.op = true ∨ x.b = 0) ∧ (useT x.op = true ∨ x.text = ⟨#[]⟩)
instance (x : TInstr) : Decidable (instrHead x) := by unfold instrHead; infer_instance
def instrTail (cs : List TCode) (nc : Nat) (o : List Int) (k : Nat) (own : TCode) (x : TInstr) : Bool :=
  if x.op = 1 then inR x.a 0 999999999
  else if x.op = 2 then plainR x.text
  else if x.op = 3 ∨ x.op = 13 then isSelL x.text.data.toList
  else if x.op = 8 ∨ x.op = 9 then varOk cs o k x
  else if x.op = 10 ∨ x.op = 11 then isNameL x.text.data.toList
  else if x.op = 12 then inR x.a 0 ((nc : Int) - 1)
  else if x.op = 14 then isSelL x.text.data.toList && inR x.a 0 ((nc : Int) - 1)
  else if x.op = 20 then inR x.a 0 ((own.instrs.length : Int) - 1)
  else if x.op = 21 ∨ x.op = 22 then inR x.a 0 ((own.instrs.length : Int) - 1) && inR x.b 0 ((own.instrs.length : Int) - 1)
  else if x.op = 24 then inR x.b 0 ((own.instrs.length : Int) - 1)
  else if x.op = 25 ∨ x.op = 26 then inR x.a own.params (own.slots - 1) && inR x.b 0 ((own.instrs.length : Int) - 1)
  else true
def instrB (cs : List TCode) (nc : Nat) (o : List Int) (k : Nat) (own : TCode) (x : TInstr) : Bool := decide (instrHead x) && instrTail cs nc o k own x
theorem instr_pre {cs : List TCode} {nc : Nat} {o : List Int} {k : Nat} {own : TCode} {x : TInstr} (h : instrB cs nc o k own x = true) : preOkI own.instrs.length x = true := by
  obtain ⟨op, a, b, t⟩ := x
  unfold instrB at h
  rw [Bool.and_eq_true, decide_eq_true_eq] at h
  obtain ⟨h0, h2⟩ := h
  have h1 := h0.1
  clear h0
  unfold preOkI
  rw [labs_eq2, List.all_map]
  simp only [inR, decide_eq_true_eq] at h1
  unfold instrTail at h2
  dsimp only at h2 h1 ⊢
  have h3 : inR op 1 26 = true := inR_t h1
  rw [h3, ← sel_args]
  simp only [labOff]
  have hc : op = 1 ∨ op = 2 ∨ op = 3 ∨ op = 4 ∨ op = 5 ∨ op = 6 ∨ op = 7 ∨ op = 8 ∨ op = 9 ∨ op = 10 ∨ op = 11 ∨ op = 12 ∨ op = 13 ∨ op = 14 ∨ op = 15 ∨ op = 16 ∨ op = 17 ∨ op = 18 ∨ op = 19 ∨ op = 20 ∨ op = 21 ∨ op = 22 ∨ op = 23 ∨ op = 24 ∨ op = 25 ∨ op = 26 := by omega
  clear h1 h3
  rcases hc with rfl | rfl | rfl | rfl | rfl | rfl | rfl | rfl | rfl | rfl | rfl | rfl | rfl | rfl | rfl | rfl | rfl | rfl | rfl | rfl | rfl | rfl | rfl | rfl | rfl | rfl
  all_goals first
    | rfl
    | (simp at h2; simp [h2, labV]; done)
    | (simp at h2; simp [h2.1, h2.2, labV]; done)
theorem instrs_pre {cs : List TCode} {nc : Nat} {o : List Int} {k : Nat} {own : TCode} (h : ∀ y ∈ own.instrs, instrB cs nc o k own y = true) : preOk own.instrs = true := by
  unfold preOk
  rw [List.all_eq_true]
  exact fun x hx => instr_pre (h x hx)
/-- What the blocks' codes tell of a block's instruction. -/
def blockFits (cs : List TCode) (i : Nat) (x : TInstr) : Prop := x.op = 15 → (0 ≤ x.a ∧ x.a ≤ (i : Int) - 1) ∧ ∃ y, cs[x.a.toNat]? = some y ∧ y.block = true
theorem outRow_mem {n i : Nat} (hi : i < n) : ∀ {r : List TInstr} {o o' : List Int}, outRow i r o = some o' → outInv n o → ∀ x ∈ r, x.op = 15 → (0 ≤ x.a ∧ x.a ≤ (i : Int) - 1) ∧ 0 ≤ gd o' x.a
  | [], o, o', h, ho, x, hx, _ => by cases hx
  | y :: r, o, o', h, ho, x, hx, h15 => by
    unfold outRow at h
    split at h
    · cases h
    · rename_i o1 h1
      obtain ⟨h2, h3⟩ := outI_inv hi h1 ho
      rcases List.mem_cons.1 hx with rfl | hx
      · unfold outI at h1
        rw [if_pos h15] at h1
        split at h1
        · rename_i h4
          cases h1
          refine ⟨h4.1, ?_⟩
          obtain ⟨a, ha⟩ : ∃ a : Nat, x.a = a := ⟨x.a.toNat, by omega⟩
          have h5 := (outRow_inv hi h h2).2 a
          rw [ha] at h5 ⊢
          refine h5 ?_
          rw [Int.toNat_natCast, gd_set_eq (by rw [ho.1]; omega)]
          omega
        · cases h1
      · exact outRow_mem hi h h2 x hx h15
theorem outGo_mem {n : Nat} : ∀ {r : List TCode} {i : Nat} {o o' : List Int}, i + r.length ≤ n → outGo i r o = some o' → outInv n o → ∀ (j : Nat) (c : TCode), r[j]? = some c → ∀ x ∈ c.instrs, x.op = 15 → (0 ≤ x.a ∧ x.a ≤ ((i + j : Nat) : Int) - 1) ∧ 0 ≤ gd o' x.a
  | [], i, o, o', _, h, ho, j, c, hc, x, hx, _ => by simp at hc
  | y :: r, i, o, o', hn, h, ho, j, c, hc, x, hx, h15 => by
    unfold outGo at h
    split at h
    · cases h
    · rename_i o1 h1
      simp only [List.length_cons] at hn
      obtain ⟨h2, h3⟩ := outRow_inv (by omega) h1 ho
      cases j with
      | zero =>
        simp at hc; subst hc
        obtain ⟨h4, h5⟩ := outRow_mem (by omega) h1 ho x hx h15
        refine ⟨h4, ?_⟩
        have h6 := (outGo_inv (by omega) h h2).2 x.a.toNat
        rw [Int.toNat_of_nonneg h4.1] at h6
        exact h6 h5
      | succ j =>
        have := outGo_mem (by omega) h h2 j c (by simpa using hc) x hx h15
        rw [show i + 1 + j = i + (j + 1) by omega] at this
        exact this
theorem outersL_block {cs : List TCode} {o : List Int} (h : outersL cs = some o) {i : Nat} {c : TCode} (hc : cs[i]? = some c) : ∀ x ∈ c.instrs, blockFits cs i x := fun x hx h15 => by
  obtain ⟨h1, h2⟩ := outFin_some h
  have hi : i < cs.length := (List.getElem?_eq_some_iff.1 hc).1
  obtain ⟨h3, h4⟩ := outGo_mem (by simp) h1 (outInv_zero _) i c (by simpa using hc) x hx h15
  rw [Nat.zero_add] at h3
  refine ⟨h3, ?_⟩
  obtain ⟨a, ha⟩ : ∃ a : Nat, x.a = a := ⟨x.a.toNat, by omega⟩
  rw [ha] at h3 h4 ⊢
  rw [Int.toNat_natCast]
  have hal : a < cs.length := by omega
  refine ⟨cs[a], List.getElem?_eq_getElem hal, ?_⟩
  rw [h2 a hal]
  exact decide_eq_true h4
/-- A code is right. -/
def codeHead (x : TCode) : Prop := inR x.slots 0 30 = true ∧ inR x.params 0 x.slots = true ∧ x.instrs.length ≤ 900
def codeOk (cs : List TCode) (nc : Nat) (o : List Int) (k : Nat) (x : TCode) : Prop := codeHead x ∧ (∀ y ∈ x.instrs, instrB cs nc o k x y = true) ∧ (depthsL x.instrs).isSome = true
open Classical in
noncomputable def codeB (cs : List TCode) (nc : Nat) (o : List Int) (k : Nat) (x : TCode) : Bool := decide (codeOk cs nc o k x)
def codesOk (cs : List TCode) (nc : Nat) (o : List Int) : Prop := ∀ (k : Nat) (h : k < cs.length), codeOk cs nc o k cs[k]
def outerOk (cs : List TCode) (nc : Nat) : Prop := ∃ o, outersL cs = some o ∧ codesOk cs nc o
def mainOk (x : TCodeBase) : Prop := inR x.main 0 ((x.codes.length : Int) - 1) = true ∧ plainAt x.codes x.main 0
def verifiedP (x : TCodeBase) : Prop := classesOkB x.classes = true ∧ x.codes.length ≤ 200 ∧ mainOk x ∧ entriesB x.classes.length x.codes x.entries = true ∧ outerOk x.codes x.classes.length
open Classical in
noncomputable def verifiedB (x : TCodeBase) : Bool := decide (verifiedP x)
open Classical in
theorem verified_f {x : TCodeBase} (h : ¬ verifiedP x) : verifiedB x = false := decide_eq_false h
open Classical in
theorem verified_t {x : TCodeBase} (h : verifiedP x) : verifiedB x = true := decide_eq_true h
open Classical in
theorem codeB_f {cs : List TCode} {nc : Nat} {o : List Int} {k : Nat} {x : TCode} (h : ¬ codeOk cs nc o k x) : codeB cs nc o k x = false := decide_eq_false h
open Classical in
theorem codeB_t {cs : List TCode} {nc : Nat} {o : List Int} {k : Nat} {x : TCode} (h : codeOk cs nc o k x) : codeB cs nc o k x = true := decide_eq_true h
theorem intR_gd {o : List Int} {j : Nat} (h : j < o.length) : (intR o)[j]? = some [.int .i64 (gd o (j : Int))] := by
  simp [intR, gd, h]
theorem upN_succ (o : List Int) : ∀ (n : Nat) (k : Int), upN o (n + 1) k = if upN o n k < 0 then upN o n k else gd o (upN o n k)
  | 0, k => rfl
  | n + 1, k => by
    by_cases h : k < 0
    · rw [upN_neg o _ h, upN_neg o _ h, if_pos h]
    · have h1 : upN o (n + 1 + 1) k = upN o (n + 1) (gd o k) := by conv => lhs; unfold upN
                                                                   rw [if_neg h]
      have h2 : upN o (n + 1) k = upN o n (gd o k) := by conv => lhs; unfold upN
                                                         rw [if_neg h]
      rw [h1, h2]
      exact upN_succ o n (gd o k)
theorem upN_in {o : List Int} (hinv : outInv o.length o) : ∀ (n : Nat) (k : Int), k = -1 ∨ (0 ≤ k ∧ k < o.length) → upN o n k = -1 ∨ (0 ≤ upN o n k ∧ upN o n k < o.length)
  | 0, k, h => h
  | n + 1, k, h => by
    rw [upN_succ]
    have := upN_in hinv n k h
    split
    · exact this
    · obtain ⟨j, hj⟩ : ∃ j : Nat, upN o n k = j := ⟨(upN o n k).toNat, by omega⟩
      rw [hj] at this ⊢
      have := hinv.2 j (by omega)
      omega
theorem upN_ge {o : List Int} (hinv : outInv o.length o) {k : Int} (hk : 0 ≤ k ∧ k < o.length) : ∀ n : Nat, 0 ≤ upN o n k → (n : Int) ≤ upN o n k
  | 0, h => h
  | n + 1, h => by
    rw [upN_succ] at h ⊢
    have hin := upN_in hinv n k (.inr hk)
    split
    · rename_i h1; rw [if_pos h1] at h; omega
    · rename_i h1
      rw [if_neg h1] at h
      have ih := upN_ge hinv hk n (by omega)
      obtain ⟨j, hj⟩ : ∃ j : Nat, upN o n k = j := ⟨(upN o n k).toNat, by omega⟩
      rw [hj] at h hin ih ⊢
      have := hinv.2 j (by omega)
      omega
theorem upN_stays {o : List Int} {k : Int} {n : Nat} (h : upN o n k < 0) : ∀ m, n ≤ m → upN o m k = upN o n k
  | 0, hm => by obtain rfl : n = 0 := by omega
                rfl
  | m + 1, hm => by
    by_cases he : n = m + 1
    · rw [he]
    · have := upN_stays h m (by omega)
      rw [upN_succ, this, if_pos h]
theorem level_neg {cs : List TCode} {o : List Int} {k : Nat} {b : Int} (h : b < 0) : levelOf cs o k b = none := by
  unfold levelOf
  exact if_neg (by omega)
theorem level_off {cs : List TCode} {o : List Int} {k n : Nat} {b : Int} (h : upN o n k < 0) (hn : (n : Int) ≤ b) : levelOf cs o k b = none := by
  unfold levelOf
  rw [upN_stays h b.toNat (by omega)]
  exact if_neg (by omega)
theorem level_on {cs : List TCode} {o : List Int} {k j : Nat} {b : Int} {y : TCode} (hb : 0 ≤ b) (h : upN o b.toNat k = j) (hj : cs[j]? = some y) : levelOf cs o k b = some y := by
  unfold levelOf
  rw [h, if_pos ⟨hb, by omega⟩, Int.toNat_natCast, hj]
theorem level_list {cs : List TCode} {o : List Int} {k : Nat} (hinv : outInv cs.length o) (hk : k < cs.length) {b : Int} {L : List Int} (hL : L = (climb o cs.length k).reverse) (h : 0 ≤ b ∧ b ≤ (L.length : Int) - 1) :
    ∃ (q v : Nat) (y : TCode), (L.length : Int) - 1 - b = q ∧ (intR L)[q]? = some [.int .i64 (v : Int)] ∧ cs[v]? = some y ∧ levelOf cs o k b = some y := by
  obtain ⟨c, rfl⟩ : ∃ c : Nat, b = c := ⟨b.toNat, by omega⟩
  have hl : o.length = cs.length := hinv.1
  have hinv' : outInv o.length o := by rw [hl]; exact hinv
  have hcl : L.length = (climb o cs.length k).length := by rw [hL, List.length_reverse]
  have hcu := climb_up hinv' cs.length (k : Int) c (.inr ⟨by omega, by omega, by rw [hl]; omega⟩)
  have hc : c < (climb o cs.length k).length := by omega
  rw [List.getElem?_eq_getElem hc] at hcu
  split at hcu
  · rename_i h0
    have hin := upN_in hinv' c k (.inr ⟨by omega, by omega⟩)
    obtain ⟨v, hv⟩ : ∃ v : Nat, upN o c k = v := ⟨(upN o c k).toNat, by omega⟩
    rw [hv] at hin hcu
    have hvl : v < cs.length := by omega
    refine ⟨L.length - 1 - c, v, cs[v], by omega, ?_, List.getElem?_eq_getElem hvl, level_on (by omega) (by rw [Int.toNat_natCast]; exact hv) (List.getElem?_eq_getElem hvl)⟩
    have hg : L[L.length - 1 - c]? = some (v : Int) := by
      rw [hL, List.getElem?_reverse (by rw [List.length_reverse]; omega), List.length_reverse]
      rw [show (climb o cs.length k).length - 1 - ((climb o cs.length k).length - 1 - c) = c by omega, List.getElem?_eq_getElem hc]
      exact hcu
    simp only [intR, List.getElem?_map, hg]; rfl
  · cases hcu
theorem level_list_off {cs : List TCode} {o : List Int} {k : Nat} (hinv : outInv cs.length o) (hk : k < cs.length) {b : Int} {L : List Int} (hL : L = (climb o cs.length k).reverse) (h : ¬ (0 ≤ b ∧ b ≤ (L.length : Int) - 1)) : levelOf cs o k b = none := by
  by_cases h0 : b < 0
  · exact level_neg h0
  obtain ⟨c, rfl⟩ : ∃ c : Nat, b = c := ⟨b.toNat, by omega⟩
  have hl : o.length = cs.length := hinv.1
  have hinv' : outInv o.length o := by rw [hl]; exact hinv
  have hcl : L.length = (climb o cs.length k).length := by rw [hL, List.length_reverse]
  have hcu := climb_up hinv' cs.length (k : Int) c (.inr ⟨by omega, by omega, by rw [hl]; omega⟩)
  rw [List.getElem?_eq_none (by omega)] at hcu
  split at hcu
  · cases hcu
  · rename_i h1
    unfold levelOf
    rw [Int.toNat_natCast]
    exact if_neg fun h => h1 h.2
end Go.Proofs.YthpdkhejeookhaaGreatDoor
/- ReachableSelectors: what both sides compute (no program in sight). -/
namespace Go.Proofs.YthpdkhejeookhaaGreatDoor
open Go Go.RowKit
/-- The codes that are met, the selectors, the codes that are to be looked at. -/
structure RS where
  met : List Bool
  out : List ByteArray
  todo : List Int
def asyB : ByteArray := ⟨#[97, 115, 83, 121, 109, 98, 111, 108]⟩
def gb (l : List Bool) (k : Int) : Bool := l.getD k.toNat true
def metS (s : RS) (k : Int) : RS := if gb s.met k then s else ⟨s.met.set k.toNat true, s.out, s.todo ++ [k]⟩
def outS (l : List ByteArray) (t : ByteArray) : List ByteArray := if hasS l t then l else l ++ [t]
def rsI (s : RS) (x : TInstr) : RS :=
  if x.op = 3 ∨ x.op = 13 ∨ x.op = 14 then ⟨s.met, outS s.out x.text, s.todo⟩ else if x.op = 15 then metS s x.a else s
def rsRow (l : List TInstr) (s : RS) : RS := l.foldl rsI s
def rsE (any : Bool) (s : RS) (e : TEntry) : RS := if !gb s.met e.code && (any || hasS s.out e.selector) then metS s e.code else s
def rsPass (any : Bool) (l : List TEntry) (s : RS) : RS := l.foldl (rsE any) s
def codeI (cs : List TCode) (k : Int) : List TInstr := match cs[k.toNat]? with
  | some c => c.instrs
  | none => []
def rsStep (b : TCodeBase) (s : RS) : RS := match s.todo with
  | [] => rsPass (hasS s.out asyB) b.entries s
  | k :: r => rsRow (codeI b.codes k) ⟨s.met, s.out, r⟩
def rs0 (b : TCodeBase) : RS := ⟨(List.replicate b.codes.length false).set b.main.toNat true, [], [b.main]⟩
def rsIt (b : TCodeBase) : Nat → RS
  | 0 => rs0 b
  | n + 1 => rsStep b (rsIt b n)
def Rs (b : TCodeBase) (s : RS) : Prop := ∃ n, s = rsIt b n
theorem Rs.init (b : TCodeBase) : Rs b (rs0 b) := ⟨0, rfl⟩
theorem Rs.step {b : TCodeBase} {s : RS} (h : Rs b s) : Rs b (rsStep b s) := by
  obtain ⟨n, rfl⟩ := h
  exact ⟨n + 1, rfl⟩
theorem rsIt_fix {b : TCodeBase} {n : Nat} (h : rsStep b (rsIt b n) = rsIt b n) : ∀ m, n ≤ m → rsIt b m = rsIt b n
  | 0, hm => by obtain rfl : n = 0 := by omega
                rfl
  | m + 1, hm => by
    by_cases he : n = m + 1
    · rw [he]
    · show rsStep b (rsIt b m) = _
      rw [rsIt_fix h m (by omega), h]
theorem Rs.same {b : TCodeBase} {s t : RS} (h : Rs b s) (k : Rs b t) (hs : rsStep b s = s) (ht : rsStep b t = t) : s = t := by
  obtain ⟨n, rfl⟩ := h
  obtain ⟨m, rfl⟩ := k
  rcases Nat.le_total n m with h | h
  · exact (rsIt_fix hs m h).symm
  · exact rsIt_fix ht n h
/-- What the verifier tells. -/
structure RsOk (b : TCodeBase) : Prop where
  codes : b.codes.length ≤ 200
  main : 0 ≤ b.main ∧ b.main < b.codes.length
  entries : ∀ e ∈ b.entries, 0 ≤ e.code ∧ e.code < b.codes.length
  row : ∀ c ∈ b.codes, c.instrs.length ≤ 900 ∧ ∀ x ∈ c.instrs, x.op = 15 → 0 ≤ x.a ∧ x.a < b.codes.length
theorem inR_of {a lo hi : Int} (h : inR a lo hi = true) : lo ≤ a ∧ a ≤ hi := by simpa [inR] using h
open Classical in
theorem rs_ok {b : TCodeBase} (h : verifiedB b = true) : RsOk b := by
  have h1 : verifiedP b := of_decide_eq_true h
  obtain ⟨_, h2, h3, h4, o, h5, h6⟩ := h1
  have h7 : entriesOk b.classes.length b.codes b.entries ∧ b.entries.length ≤ 96 := of_decide_eq_true h4
  refine ⟨h2, ?_, fun e he => ?_, fun c hc => ?_⟩
  · have := inR_of h3.1; omega
  · obtain ⟨i, hi, rfl⟩ := List.getElem_of_mem he
    have := inR_of (h7.1 i hi).1.1.2.2; omega
  · obtain ⟨i, hi, rfl⟩ := List.getElem_of_mem hc
    refine ⟨(h6 i hi).1.2.2, fun x hx h15 => ?_⟩
    obtain ⟨g1, y, g2, _⟩ := outersL_block h5 (List.getElem?_eq_getElem hi) x hx h15
    omega
def unmet : List Bool → Nat
  | [] => 0
  | b :: r => (if b then 0 else 1) + unmet r
theorem unmet_set : ∀ {l : List Bool} {k : Nat}, l[k]? = some false → unmet (l.set k true) + 1 = unmet l
  | [], k, h => by simp at h
  | b :: r, 0, h => by
    simp at h; subst h; simp [unmet]; omega
  | b :: r, k + 1, h => by
    have := unmet_set (l := r) (k := k) (by simpa using h)
    simp [unmet]; omega
def RS.mu (s : RS) : Nat := s.todo.length + unmet s.met
/-- The bounds that hold while so many texts may still come. -/
structure RsIn (b : TCodeBase) (n : Nat) (s : RS) : Prop where
  len : s.met.length = b.codes.length
  todo : ∀ k ∈ s.todo, 0 ≤ k ∧ k < b.codes.length
  room : s.out.length + 900 * s.mu + n ≤ 180000
theorem gb_get {l : List Bool} {k : Nat} (h : k < l.length) : l[k]? = some (gb l k) := by
  simp [gb, h]
theorem metS_in {b : TCodeBase} {n : Nat} {s : RS} (h : RsIn b n s) {k : Int} (hk : 0 ≤ k ∧ k < b.codes.length) : RsIn b n (metS s k) ∧ (metS s k).mu = s.mu := by
  unfold metS
  by_cases hg : gb s.met k = true
  · rw [if_pos hg]; exact ⟨h, rfl⟩
  · rw [if_neg hg]
    obtain ⟨j, rfl⟩ : ∃ j : Nat, k = j := ⟨k.toNat, by omega⟩
    have hj : j < s.met.length := by rw [h.len]; omega
    have h1 : s.met[j]? = some false := by rw [gb_get hj]; simpa using hg
    have h2 := unmet_set h1
    have h3 : (RS.mk (s.met.set (Int.toNat j) true) s.out (s.todo ++ [(j : Int)])).mu = s.mu := by
      unfold RS.mu
      rw [Int.toNat_natCast]
      simp; omega
    refine ⟨⟨by simp [h.len], fun x hx => ?_, by rw [h3]; exact h.room⟩, h3⟩
    rcases List.mem_append.1 hx with hx | hx
    · exact h.todo x hx
    · simp at hx; subst hx; exact hk
theorem outS_len (l : List ByteArray) (t : ByteArray) : (outS l t).length ≤ l.length + 1 := by
  unfold outS
  split <;> simp
theorem rsI_in {b : TCodeBase} {n : Nat} {s : RS} (h : RsIn b (n + 1) s) {x : TInstr} (hx : x.op = 15 → 0 ≤ x.a ∧ x.a < b.codes.length) : RsIn b n (rsI s x) ∧ (rsI s x).mu = s.mu := by
  have hr := h.room
  have hw : RsIn b n s := ⟨h.len, h.todo, by omega⟩
  unfold rsI
  split
  · refine ⟨⟨h.len, h.todo, ?_⟩, rfl⟩
    have := outS_len s.out x.text
    have e : (RS.mk s.met (outS s.out x.text) s.todo).mu = s.mu := rfl
    rw [e]
    show (outS s.out x.text).length + _ + _ ≤ _
    omega
  · split
    · rename_i h15; exact metS_in hw (hx h15)
    · exact ⟨hw, rfl⟩
theorem rsE_in {b : TCodeBase} {n : Nat} {any : Bool} {s : RS} (h : RsIn b n s) {e : TEntry} (he : 0 ≤ e.code ∧ e.code < b.codes.length) : RsIn b n (rsE any s e) ∧ (rsE any s e).mu = s.mu := by
  unfold rsE
  split
  · exact metS_in h he
  · exact ⟨h, rfl⟩
theorem unmet_start : ∀ n : Nat, unmet (List.replicate n false) = n
  | 0 => rfl
  | n + 1 => by rw [List.replicate_succ]; simp [unmet, unmet_start n]; omega
theorem rs0_in {b : TCodeBase} (h : RsOk b) : RsIn b 0 (rs0 b) := by
  have hm := h.main
  have hc := h.codes
  obtain ⟨j, hj⟩ : ∃ j : Nat, b.main = j := ⟨b.main.toNat, by omega⟩
  have h1 : unmet ((List.replicate b.codes.length false).set j true) + 1 = b.codes.length := by
    rw [unmet_set (l := List.replicate b.codes.length false) (k := j) (by rw [List.getElem?_replicate, if_pos (by omega)]), unmet_start]
  refine ⟨by simp [rs0], fun k hk => ?_, ?_⟩
  · simp [rs0] at hk; subst hk; exact hm
  · unfold RS.mu rs0
    rw [hj, Int.toNat_natCast]
    show 0 + 900 * (1 + unmet ((List.replicate b.codes.length false).set j true)) + 0 ≤ _
    omega
/-- The pass over the entries adds codes only. -/
theorem metS_out (s : RS) (k : Int) : (metS s k).out = s.out := by
  unfold metS
  split <;> rfl
theorem rsE_out (any : Bool) (s : RS) (e : TEntry) : (rsE any s e).out = s.out := by
  unfold rsE
  split
  · exact metS_out _ _
  · rfl
theorem hasS_outS (l : List ByteArray) (t : ByteArray) : hasS (outS l t) asyB = (hasS l asyB || decide (t = asyB)) := by
  by_cases h : t = asyB
  · subst h
    rw [decide_eq_true rfl, Bool.or_true]
    unfold outS
    split
    · assumption
    · exact hasS_true (i := l.length) (by simp) (by simp)
  · rw [decide_eq_false h, Bool.or_false]
    unfold outS
    split
    · rfl
    · by_cases h2 : hasS l asyB = true
      · rw [h2]
        unfold hasS at h2 ⊢
        rw [List.any_append, h2, Bool.true_or]
      · rw [Bool.not_eq_true] at h2
        rw [h2]
        unfold hasS at h2 ⊢
        rw [List.any_append, h2, Bool.false_or]
        have : hasS [t] asyB = false := hasS_false fun y hy => by
          simp at hy; subst hy; exact h
        exact this
theorem rsRow_snoc {l : List TInstr} {i : Nat} (h : i < l.length) (s : RS) : rsRow (l.take (i + 1)) s = rsI (rsRow (l.take i) s) l[i] := by
  unfold rsRow
  rw [List.take_add_one, List.getElem?_eq_getElem h, List.foldl_append]; rfl
theorem rsPass_snoc {any : Bool} {l : List TEntry} {i : Nat} (h : i < l.length) (s : RS) : rsPass any (l.take (i + 1)) s = rsE any (rsPass any (l.take i) s) l[i] := by
  unfold rsPass
  rw [List.take_add_one, List.getElem?_eq_getElem h, List.foldl_append]; rfl
theorem rsRow_in {b : TCodeBase} {l : List TInstr} {s : RS} {n : Nat} (hl : ∀ x ∈ l, x.op = 15 → 0 ≤ x.a ∧ x.a < b.codes.length) (h : RsIn b (n + l.length) s) : ∀ i, i ≤ l.length → RsIn b (n + (l.length - i)) (rsRow (l.take i) s) ∧ (rsRow (l.take i) s).mu = s.mu
  | 0, _ => by simpa [rsRow] using h
  | i + 1, hi => by
    obtain ⟨h1, h2⟩ := rsRow_in hl h i (by omega)
    rw [rsRow_snoc (by omega)]
    rw [show n + (l.length - i) = (n + (l.length - (i + 1))) + 1 by omega] at h1
    obtain ⟨h3, h4⟩ := rsI_in h1 (hl l[i] (List.getElem_mem _))
    exact ⟨h3, h4.trans h2⟩
theorem rsPass_in {b : TCodeBase} {any : Bool} {l : List TEntry} {s : RS} {n : Nat} (hl : ∀ e ∈ l, 0 ≤ e.code ∧ e.code < b.codes.length) (h : RsIn b n s) : ∀ i, i ≤ l.length → (RsIn b n (rsPass any (l.take i) s) ∧ (rsPass any (l.take i) s).mu = s.mu) ∧ (rsPass any (l.take i) s).out = s.out
  | 0, _ => by simpa [rsPass] using h
  | i + 1, hi => by
    obtain ⟨⟨h1, h2⟩, h5⟩ := rsPass_in (any := any) hl h i (by omega)
    rw [rsPass_snoc (by omega)]
    obtain ⟨h3, h4⟩ := rsE_in (any := any) h1 (hl l[i] (List.getElem_mem _))
    exact ⟨⟨h3, h4.trans h2⟩, (rsE_out _ _ _).trans h5⟩
theorem codeI_get {cs : List TCode} {k : Nat} (h : k < cs.length) : codeI cs (k : Int) = cs[k].instrs := by
  unfold codeI
  rw [Int.toNat_natCast, List.getElem?_eq_getElem h]
/-- A code is taken out and looked at. -/
theorem rs_pop {b : TCodeBase} (hb : RsOk b) {met : List Bool} {out : List ByteArray} {k : Int} {r : List Int} (h : RsIn b 0 ⟨met, out, k :: r⟩) : (0 ≤ k ∧ k < b.codes.length) ∧ RsIn b (codeI b.codes k).length ⟨met, out, r⟩ ∧ (RS.mk met out r).mu + 1 = (RS.mk met out (k :: r)).mu := by
  have hk := h.todo k List.mem_cons_self
  have hm : (RS.mk met out r).mu + 1 = (RS.mk met out (k :: r)).mu := by simp [RS.mu]; omega
  refine ⟨hk, ⟨h.len, fun x hx => h.todo x (List.mem_cons_of_mem _ hx), ?_⟩, hm⟩
  have hr := h.room
  obtain ⟨j, rfl⟩ : ∃ j : Nat, k = j := ⟨k.toNat, by omega⟩
  have hj : j < b.codes.length := by omega
  have := (hb.row _ (List.getElem_mem hj)).1
  rw [codeI_get hj]
  show out.length + _ + _ ≤ _
  simp only at hr
  omega
theorem codeI_ok {b : TCodeBase} (hb : RsOk b) {k : Int} (hk : 0 ≤ k ∧ k < b.codes.length) : (codeI b.codes k).length ≤ 900 ∧ ∀ x ∈ codeI b.codes k, x.op = 15 → 0 ≤ x.a ∧ x.a < b.codes.length := by
  obtain ⟨j, rfl⟩ : ∃ j : Nat, k = j := ⟨k.toNat, by omega⟩
  have hj : j < b.codes.length := by omega
  rw [codeI_get hj]
  exact hb.row _ (List.getElem_mem hj)
theorem metS_todo (s : RS) (k : Int) : s.todo.length ≤ (metS s k).todo.length ∧ ((metS s k).todo.length = s.todo.length → metS s k = s) := by
  unfold metS
  split
  · exact ⟨Nat.le_refl _, fun _ => rfl⟩
  · refine ⟨by simp, fun h => ?_⟩
    simp at h
theorem rsE_todo (any : Bool) (s : RS) (e : TEntry) : s.todo.length ≤ (rsE any s e).todo.length ∧ ((rsE any s e).todo.length = s.todo.length → rsE any s e = s) := by
  unfold rsE
  split
  · exact metS_todo _ _
  · exact ⟨Nat.le_refl _, fun _ => rfl⟩
theorem rsPass_todo (any : Bool) : ∀ (l : List TEntry) (s : RS), s.todo.length ≤ (rsPass any l s).todo.length ∧ ((rsPass any l s).todo.length = s.todo.length → rsPass any l s = s)
  | [], s => ⟨Nat.le_refl _, fun _ => rfl⟩
  | e :: l, s => by
    obtain ⟨h1, h2⟩ := rsE_todo any s e
    obtain ⟨h3, h4⟩ := rsPass_todo any l (rsE any s e)
    show _ ≤ (rsPass any l (rsE any s e)).todo.length ∧ ((rsPass any l (rsE any s e)).todo.length = _ → rsPass any l (rsE any s e) = s)
    refine ⟨by omega, fun h => ?_⟩
    rw [h4 (by omega), h2 (by omega)]
theorem rs_fix {b : TCodeBase} {s : RS} (ht : s.todo = []) (hp : (rsPass (hasS s.out asyB) b.entries s).todo = []) : rsStep b s = s := by
  unfold rsStep
  rw [ht]
  exact (rsPass_todo _ _ _).2 (by rw [ht, hp])
end Go.Proofs.YthpdkhejeookhaaGreatDoor
/- ReachableSelectors of the reference: its state (l28Code, l28Selector, l28Scan). -/
namespace Go.Proofs.YthpdkhejeookhaaGreatDoor
set_option maxRecDepth 20000
open Go Go.RowKit
def boolR (l : List Bool) : List (List TV) := l.map fun b => [TV.bool b]
theorem boolR_len (l : List Bool) : (boolR l).length = l.length := by simp [boolR]
theorem boolR_get {l : List Bool} {k : Nat} (h : k < l.length) : (boolR l)[k]? = some [.bool (gb l k)] := by
  simp only [boolR, List.getElem?_map]
  rw [gb_get h]; rfl
theorem boolR_set (l : List Bool) (k : Nat) (b : Bool) : (boolR l).set k [.bool b] = boolR (l.set k b) := by simp [boolR, List.map_set]
theorem metS_t {s : RS} {k : Int} (h : gb s.met k = true) : metS s k = s := by
  unfold metS; rw [if_pos h]
theorem metS_f {s : RS} {k : Int} (h : gb s.met k = false) : metS s k = ⟨s.met.set k.toNat true, s.out, s.todo ++ [k]⟩ := by
  unfold metS; rw [if_neg (by rw [h]; decide)]
/-- The state's box, and the rows that it holds. -/
def stB (sc bc n so bo no : Nat) (any : Bool) (st bt p t : Nat) : TObj := .box [.ms sc bc 0 n, .ms so bo 0 no, .bool any, .ms st bt p t]
section
variable {G : World → Prop}
theorem l28Code_ctm (s b sc bc so bo no st bt : Nat) (any : Bool) (S : RS) (pre : List (List TV)) (j n : Nat) (hn : S.met.length = n) (hj : j < n) (ht : S.todo.length ≤ 1000) :
    CtM Tryz.prog G 110 [.mp s b 0, .int .i64 (j : Int)] [(s, b, stB sc bc n so bo no any st bt pre.length S.todo.length), (sc, bc, .row 1 (boolR S.met)), (st, bt, .row 1 (pre ++ intR S.todo))]
      (fun _ : Nat × List (List TV) => True) (fun y => [(s, b, stB sc bc n so bo no any st y.1 y.2.length (metS S j).todo.length), (sc, bc, .row 1 (boolR (metS S j).met)), (st, y.1, .row 1 (y.2 ++ intR (metS S j).todo))]) (fun _ => .tup []) := by
  refine ctm_enter Tryz.func110 rfl Tryz.ntmps110 rfl rfl rfl fun w0 R gs objsR hG hR => ?_
  obtain rfl := hR.inv3
  clear hR
  have hrow := boolR_get (l := S.met) (k := j) (by omega)
  have hml := boolR_len S.met
  have hset := boolR_set S.met j true
  have htl := intR_length S.todo
  have hlive : ((pre ++ intR S.todo).drop pre.length).take S.todo.length = intR S.todo := by
    rw [List.drop_left, List.take_of_length_le (by omega)]
  have hlen : pre.length + S.todo.length ≤ (pre ++ intR S.todo).length := by rw [List.length_append, htl]; omega
  unfold stB
  cases hg : gb S.met j with
  | true =>
    rw [metS_t hg]
    rw [hg] at hrow
    repeat' (first | ((with_reducible apply o_y); exact y_; rfl) | with_reducible refine al_none rfl ?_ | (with_reducible first | apply aw_seq | apply aw_region | apply al_nil | apply aq_then | apply aw_skip) | refine aw_cond_f rfl rr_ ?_)
    exact aq_retm0 x_ rfl (bt, pre) trivial rfl (.cons _ _ _ _ (.cons _ _ _ _ (.cons _ _ _ _ (.nil R)))) (.refl _) rfl
  | false =>
    rw [metS_f hg]
    rw [hg] at hrow
    repeat' (first | ((with_reducible apply o_y); exact y_; rfl) | refine e_store ?_ | refine e_storep ?_ | refine e_lit ?_ | (refine e_appq ?_; intro bb pp) | with_reducible refine al_none rfl ?_ | (with_reducible first | apply aw_seq | apply aw_region | apply al_nil | apply aq_then) | refine aw_cond_t rfl rr_ ?_)
    rw [hset]
    refine aq_retm0 x_ rfl (bb, pp) trivial rfl (.cons _ _ _ _ (.cons _ _ _ _ (.cons _ _ _ _ (.nil R)))) pk_ rfl
theorem strR_snoc' (l : List ByteArray) (t : ByteArray) : strR l ++ [[TV.str t]] = strR (l ++ [t]) := by simp [strR]
theorem l28Selector_ctm (hst : Stable G) (s b sc bc n so bo st bt p td : Nat) (out : List ByteArray) (t : ByteArray) (hn : out.length ≤ 1000000) :
    CtM Tryz.prog G 185 [.mp s b 0, .str t] [(s, b, stB sc bc n so bo out.length (hasS out asyB) st bt p td), (so, bo, .row 1 (strR out))]
      (fun _ : Nat => True) (fun y => [(s, b, stB sc bc n so y (outS out t).length (hasS (outS out t) asyB) st bt p td), (so, y, .row 1 (strR (outS out t)))]) (fun _ => .tup []) := by
  refine ctm_enter Tryz.func185 rfl Tryz.ntmps185 rfl rfl rfl fun w0 R gs objsR hG hR => ?_
  obtain rfl := hR.inv2
  clear hR
  have hsl := strR_len out
  have hhas := l1Has_ct (G := G) 0 out t (by omega)
  have hany := hasS_outS out t
  have hsn := strR_snoc' out t
  have hol : (out ++ [t]).length = out.length + 1 := by simp
  unfold stB
  cases hb : hasS out t with
  | true =>
    have ho : outS out t = out := by unfold outS; rw [if_pos hb]
    rw [ho] at hany ⊢
    rw [hb] at hhas
    by_cases ht : t = ⟨#[97, 115, 83, 121, 109, 98, 111, 108]⟩
    · rw [show decide (t = asyB) = true from decide_eq_true ht, Bool.or_true] at hany
      rw [hany]
      repeat' (first | ((with_reducible apply o_y); exact y_; rfl) | refine e_callv hG hst (hhas) ?_ | refine e_storep ?_ | with_reducible refine al_none rfl ?_ | (with_reducible first | apply aw_seq | apply aw_region | apply al_nil | apply aq_then | apply aw_skip) | refine aw_cond_f rfl rr_ ?_ | (refine aw_cond_dt rfl rr_ dd_ ?_))
      exact aq_retm0 x_ rfl bo trivial rfl (.cons _ _ _ _ (.cons _ _ _ _ (.nil R))) pk_ rfl
    · repeat' (first | ((with_reducible apply o_y); exact y_; rfl) | refine e_callv hG hst (hhas) ?_ | with_reducible refine al_none rfl ?_ | (with_reducible first | apply aw_seq | apply aw_region | apply al_nil | apply aq_then | apply aw_skip) | refine aw_cond_f rfl rr_ ?_ | (refine aw_cond_df rfl rr_ dd_ ?_))
      exact aq_retm0 x_ rfl bo trivial rfl (.cons _ _ _ _ (.cons _ _ _ _ (.nil R))) pk_ rfl
  | false =>
    have ho : outS out t = out ++ [t] := by unfold outS; rw [if_neg (by rw [hb]; decide)]
    rw [ho] at hany ⊢
    rw [hb] at hhas
    by_cases ht : t = ⟨#[97, 115, 83, 121, 109, 98, 111, 108]⟩
    · rw [show decide (t = asyB) = true from decide_eq_true ht, Bool.or_true] at hany
      rw [hany, hol]
      repeat' (first | ((with_reducible apply o_y); exact y_; rfl) | refine e_callv hG hst (hhas) ?_ | refine e_storep ?_ | refine e_lit ?_ | (refine e_app ?_; intro bb) | with_reducible refine al_none rfl ?_ | (with_reducible first | apply aw_seq | apply aw_region | apply al_nil | apply aq_then) | refine aw_cond_t rfl rr_ ?_ | (refine aw_cond_dt rfl rr_ dd_ ?_))
      rw [hsn]
      exact aq_retm0 x_ rfl bb trivial rfl (.cons _ _ _ _ (.cons _ _ _ _ (.nil R))) pk_ rfl
    · rw [show decide (t = asyB) = false from decide_eq_false ht, Bool.or_false] at hany
      rw [hany, hol]
      repeat' (first | ((with_reducible apply o_y); exact y_; rfl) | refine e_callv hG hst (hhas) ?_ | refine e_storep ?_ | refine e_lit ?_ | (refine e_app ?_; intro bb) | with_reducible refine al_none rfl ?_ | (with_reducible first | apply aw_seq | apply aw_region | apply al_nil | apply aq_then | apply aw_skip) | refine aw_cond_t rfl rr_ ?_ | (refine aw_cond_df rfl rr_ dd_ ?_))
      rw [hsn]
      exact aq_retm0 x_ rfl bb trivial rfl (.cons _ _ _ _ (.cons _ _ _ _ (.nil R))) pk_ rfl
end
end Go.Proofs.YthpdkhejeookhaaGreatDoor
/- ReachableSelectors of the reference: l28Scan, l28Reach. -/
namespace Go.Proofs.YthpdkhejeookhaaGreatDoor
set_option maxRecDepth 20000
open Go Go.RowKit
theorem rs_small {b : TCodeBase} {n : Nat} {S : RS} (h : RsIn b n S) : S.todo.length ≤ 200 ∧ S.out.length ≤ 180000 := by
  have := h.room
  unfold RS.mu at this
  omega
theorem AppO.inv4 {x y z u : Nat × Nat × TObj} {R l : Objs} (h : AppO [x, y, z, u] R l) : l = x :: y :: z :: u :: R := h.eq.symm
section
variable {G : World → Prop}
set_option maxHeartbeats 1000000 in
theorem l28Scan_ctm (hst : Stable G) (s b sc bc so bo st bt f lo n : Nat) (B : TCodeBase) (hB : RsOk B) (hn : B.codes.length = n) (k : Int) (hk : 0 ≤ k ∧ k < B.codes.length) (S : RS) (hS : RsIn B (codeI B.codes k).length S) (pre : List (List TV)) :
    CtM Tryz.prog G 111 [.cp f [.sl lo 3 (B.classes.map (TClassInfo.tw lo)), .sl lo 4 (B.codes.map (TCode.tw lo)), .sl lo 4 (B.entries.map (TEntry.tw lo)), .int .i64 B.main], .mp s b 0, .int .i64 k]
      [(s, b, stB sc bc n so bo S.out.length (hasS S.out asyB) st bt pre.length S.todo.length), (sc, bc, .row 1 (boolR S.met)), (so, bo, .row 1 (strR S.out)), (st, bt, .row 1 (pre ++ intR S.todo))]
      (fun _ : Nat × Nat × List (List TV) => True) (fun y => [(s, b, stB sc bc n so y.1 (rsRow (codeI B.codes k) S).out.length (hasS (rsRow (codeI B.codes k) S).out asyB) st y.2.1 y.2.2.length (rsRow (codeI B.codes k) S).todo.length), (sc, bc, .row 1 (boolR (rsRow (codeI B.codes k) S).met)), (so, y.1, .row 1 (strR (rsRow (codeI B.codes k) S).out)), (st, y.2.1, .row 1 (y.2.2 ++ intR (rsRow (codeI B.codes k) S).todo))]) (fun _ => .tup []) := by
  refine ctm_enter Tryz.func111 rfl Tryz.ntmps111 rfl rfl rfl fun w0 R gs objsR hG hR => ?_
  obtain rfl := hR.inv4
  clear hR
  obtain ⟨hil, hio⟩ := codeI_ok hB hk
  have hin := rsRow_in (n := 0) hio (by rw [Nat.zero_add]; exact hS)
  have hsn := fun i (h : i < (codeI B.codes k).length) => rsRow_snoc h S
  have hz : S = rsRow ((codeI B.codes k).take 0) S := rfl
  have hrowc : (B.codes.map (TCode.tw lo))[k.toNat]? = some [.bool (B.codes[k.toNat]'(by omega)).block, .int .i64 (B.codes[k.toNat]'(by omega)).params, .int .i64 (B.codes[k.toNat]'(by omega)).slots, .sl lo 4 ((codeI B.codes k).map (TInstr.tw lo))] := by
    rw [tcode_row (by omega), codeI]
    rw [List.getElem?_eq_getElem (by omega)]
  generalize codeI B.codes k = is at hS hil hio hin hsn hz hrowc ⊢
  generalize (B.codes[k.toNat]'(by omega)).block = cb at hrowc
  generalize (B.codes[k.toNat]'(by omega)).params = cp at hrowc
  generalize (B.codes[k.toNat]'(by omega)).slots = cl at hrowc
  obtain ⟨kn, rfl⟩ : ∃ kn : Nat, k = kn := ⟨k.toNat, by omega⟩
  rw [Int.toNat_natCast] at hrowc
  repeat' (first | ((with_reducible apply o_y); exact y_; rfl) | with_reducible refine al_none rfl ?_ | (with_reducible first | apply aw_seq | apply aw_region | apply al_nil | apply aq_then | apply aw_block))
  apply aw_loopk (X := Nat × RS × Nat × Nat × List (List TV)) [0, 1, 2, 1000000] (fun x => [(6, .int .i64 (x.1 : Int))])
    (fun x => (s, b, stB sc bc n so x.2.2.1 x.2.1.out.length (hasS x.2.1.out asyB) st x.2.2.2.1 x.2.2.2.2.length x.2.1.todo.length) :: (sc, bc, .row 1 (boolR x.2.1.met)) :: (so, x.2.2.1, .row 1 (strR x.2.1.out)) :: (st, x.2.2.2.1, .row 1 (x.2.2.2.2 ++ intR x.2.1.todo)) :: R)
    (fun x => x.1 ≤ is.length ∧ x.2.1 = rsRow (is.take x.1) S) (fun x => is.length - x.1) (0, S, bo, bt, pre) ⟨Nat.zero_le _, hz⟩
  exact kp_; (repeat (first | exact Weak.envNil | refine Weak.envCons we_ ?_))
  · exact .refl _
  rintro ⟨i, T, bo, bt, pre⟩ ⟨hi, hT⟩
  dsimp only at hi hT ⊢
  obtain ⟨hTi, _⟩ := hin i hi
  rw [← hT] at hTi
  obtain ⟨hT1, hT2⟩ := rs_small hTi
  have hTl := hTi.len
  have hlen : (is.map (TInstr.tw lo)).length = is.length := by simp
  by_cases hlt : i < is.length
  · have hri := tinstr_row (lo := lo) hlt
    have hxa := hio _ (List.getElem_mem hlt)
    have hs2 := hsn i hlt
    rw [← hT] at hs2
    generalize is[i] = x at hri hxa hs2
    obtain ⟨op, a, bb0, t⟩ := x
    dsimp only at hri hxa
    repeat' (first | ((with_reducible apply o_y); exact y_; rfl) | (refine e_alloc ?_; intro ss bb) | refine e_storep ?_ | with_reducible refine aw_hold_r (id := 4) ?_ | with_reducible refine al_none rfl ?_ | (with_reducible first | apply aw_seq | apply aw_region | apply al_nil | apply aq_then | apply aw_block | apply aw_skip) | (refine aw_cond_dt rfl rr_ dd_ ?_))
    refine ⟨?_⟩
    generalize ss = sx; generalize bb = bx
    by_cases hsel : op = 3 ∨ op = 13 ∨ op = 14
    · have hstep : rsI T ⟨op, a, bb0, t⟩ = ⟨T.met, outS T.out t, T.todo⟩ := if_pos hsel
      rw [hstep] at hs2
      have hct := l28Selector_ctm hst s b sc bc n so bo st bt pre.length T.todo.length T.out t (by omega)
      refine aw_pick (objs' := (s, b, stB sc bc n so bo T.out.length (hasS T.out asyB) st bt pre.length T.todo.length) :: (so, bo, .row 1 (strR T.out)) :: (sc, bc, .row 1 (boolR T.met)) :: (st, bt, .row 1 (pre ++ intR T.todo)) :: (sx, bx, .box [.int .i64 op, .int .i64 a, .int .i64 bb0, .str t]) :: R) pk_ ?_
      rcases hsel with h | h | h
      all_goals
        repeat' (first | ((with_reducible apply o_y); exact y_; rfl) | ((with_reducible apply o_callM); rfl; kernel_rfl; (repeat (first | exact ArgsM.nil | ((with_reducible apply ArgsM.cons); rfl))); exact hG; exact hct; exact .cons _ _ _ _ (.cons _ _ _ _ (.nil _)); intro y hy; refine al_app2 ?_) | with_reducible refine al_none rfl ?_ | (with_reducible first | apply aw_seq | apply aw_region | apply al_nil | apply aq_then | apply aw_block | apply aw_skip | apply aq_block) | (refine aw_cond_dt rfl rr_ dd_ ?_) | (refine aw_cond_df rfl rr_ dd_ ?_))
        exact aq_round (i + 1, ⟨T.met, outS T.out t, T.todo⟩, y, bt, pre) ⟨by dsimp only; omega, hs2.symm⟩ (by dsimp only; omega) (.of _ nw_ od_ pk_)
    · by_cases h15 : op = 15
      · have hstep : rsI T ⟨op, a, bb0, t⟩ = metS T a := by
          unfold rsI
          rw [if_neg hsel, if_pos h15]
        rw [hstep] at hs2
        obtain ⟨j, rfl⟩ : ∃ j : Nat, a = j := ⟨a.toNat, by have := hxa h15; omega⟩
        have hjl := hxa h15
        have hmo := metS_out T (j : Int)
        have hct := l28Code_ctm (G := G) s b sc bc so bo T.out.length st bt (hasS T.out asyB) T pre j n (by omega) (by omega) (by omega)
        refine aw_pick (objs' := (s, b, stB sc bc n so bo T.out.length (hasS T.out asyB) st bt pre.length T.todo.length) :: (sc, bc, .row 1 (boolR T.met)) :: (st, bt, .row 1 (pre ++ intR T.todo)) :: (so, bo, .row 1 (strR T.out)) :: (sx, bx, .box [.int .i64 op, .int .i64 j, .int .i64 bb0, .str t]) :: R) pk_ ?_
        repeat' (first | ((with_reducible apply o_y); exact y_; rfl) | ((with_reducible apply o_callM); rfl; kernel_rfl; (repeat (first | exact ArgsM.nil | ((with_reducible apply ArgsM.cons); rfl))); exact hG; exact hct; exact .cons _ _ _ _ (.cons _ _ _ _ (.cons _ _ _ _ (.nil _))); intro y hy; refine al_app3 ?_) | with_reducible refine al_none rfl ?_ | (with_reducible first | apply aw_seq | apply aw_region | apply al_nil | apply aq_then | apply aw_block | apply aq_block) | (refine aw_cond_dt rfl rr_ dd_ ?_) | (refine aw_cond_df rfl rr_ dd_ ?_))
        refine aq_round (i + 1, metS T j, bo, y.1, y.2) ⟨by dsimp only; omega, hs2.symm⟩ (by dsimp only; omega) (.of _ nw_ od_ ?_)
        dsimp only
        rw [hmo]
        (repeat (first | with_reducible exact Pick.refl _ | (apply Pick.consE; (repeat (first | with_reducible exact DelS.head _ | with_reducible apply DelS.tail)); (with_reducible rfl)) | ((fail_if_success (apply Pick.consE)); refine Pick.drop ?_)))
      · have hstep : rsI T ⟨op, a, bb0, t⟩ = T := by
          unfold rsI
          rw [if_neg hsel, if_neg h15]
        rw [hstep] at hs2
        have h3 : ¬ op = 3 := fun h => hsel (.inl h)
        have h13 : ¬ op = 13 := fun h => hsel (.inr (.inl h))
        have h14 : ¬ op = 14 := fun h => hsel (.inr (.inr h))
        repeat' (first | ((with_reducible apply o_y); exact y_; rfl) | with_reducible refine al_none rfl ?_ | (with_reducible first | apply aw_seq | apply aw_region | apply al_nil | apply aq_then | apply aw_block | apply aw_skip | apply aq_block) | (refine aw_cond_df rfl rr_ dd_ ?_))
        exact aq_round (i + 1, T, bo, bt, pre) ⟨by dsimp only; omega, hs2.symm⟩ (by dsimp only; omega) (.of _ nw_ od_ pk_)
  · obtain rfl : i = is.length := by omega
    rw [List.take_of_length_le (Nat.le_refl _)] at hT
    repeat' (first | ((with_reducible apply o_y); exact y_; rfl) | with_reducible refine al_none rfl ?_ | (with_reducible first | apply aw_seq | apply aw_region | apply al_nil | apply aq_then | apply aw_exit | apply aq_block_hit | apply aq_then_exit) | (refine aw_cond_df rfl rr_ dd_ ?_))
    refine aq_retm0 x_ rfl (bo, bt, pre) trivial rfl (.cons _ _ _ _ (.cons _ _ _ _ (.cons _ _ _ _ (.cons _ _ _ _ (.nil R))))) ?_ rfl
    rw [← hT]
    exact .refl _
end
end Go.Proofs.YthpdkhejeookhaaGreatDoor
/- ReachableSelectors of the reference: l28Reach. -/
namespace Go.Proofs.YthpdkhejeookhaaGreatDoor
set_option maxRecDepth 20000
open Go Go.RowKit
open Classical in
/-- Where the steps end. -/
noncomputable def rsFin (b : TCodeBase) : RS := if h : ∃ s, Rs b s ∧ rsStep b s = s then Classical.choose h else rs0 b
theorem rsFin_eq {b : TCodeBase} {s : RS} (h : Rs b s) (hs : rsStep b s = s) : rsFin b = s := by
  have hex : ∃ s, Rs b s ∧ rsStep b s = s := ⟨s, h, hs⟩
  unfold rsFin
  rw [dif_pos hex]
  obtain ⟨h1, h2⟩ := Classical.choose_spec hex
  exact Rs.same h1 h h2 hs
/-- The box's rows, as the state says. -/
theorem gb_start {n : Nat} {k : Int} (h : 0 ≤ k ∧ k < n) : gb (List.replicate n false) k = false := by
  unfold gb
  rw [List.getD_eq_getElem?_getD, List.getElem?_replicate, if_pos (by omega)]; rfl
theorem met_start {b : TCodeBase} (h : RsOk b) : metS ⟨List.replicate b.codes.length false, [], []⟩ b.main = rs0 b := by
  rw [metS_f (gb_start h.main)]; rfl
section
variable {G : World → Prop}
set_option maxHeartbeats 4000000 in
theorem l28Reach_ct (hst : Stable G) (f lo : Nat) (B : TCodeBase) (hB : RsOk B) (hes : B.entries.length ≤ 1048576) :
    Ct Tryz.prog G 33 [.cp f [.sl lo 3 (B.classes.map (TClassInfo.tw lo)), .sl lo 4 (B.codes.map (TCode.tw lo)), .sl lo 4 (B.entries.map (TEntry.tw lo)), .int .i64 B.main]]
      (fun K => .agg [.sl K 1 (boolR (rsFin B).met), .sl K 1 (strR (rsFin B).out), .bool (hasS (rsFin B).out asyB), .sl K 1 (intR [])]) := by
  refine ct_enter Tryz.func33 rfl Tryz.ntmps33 rfl rfl fun w0 _ hG => ?_
  have hlc := TCode.len lo B.codes
  have hle := TEntry.len lo B.entries
  have hmain := hB.main
  have hc200 := hB.codes
  have hms := met_start hB
  have hin0 := rs0_in hB
  obtain ⟨m, hm⟩ : ∃ m : Nat, B.main = m := ⟨B.main.toNat, by omega⟩
  rw [hm] at hms hmain ⊢
  have hbr : List.replicate B.codes.length [TV.bool false] = boolR (List.replicate B.codes.length false) := by simp [boolR]
  repeat' (first | ((with_reducible apply o_y); exact y_; rfl) | (refine e_alloc ?_; intro ss bb) | (refine e_make ?_; intro ss bb) | refine e_build ?_ | refine e_storep ?_ | with_reducible refine aw_hold_r (id := 2) ?_ | with_reducible refine al_none rfl ?_ | (with_reducible first | apply aw_seq | apply aw_region | apply al_nil | apply aq_then))
  refine ⟨?_⟩
  rename_i s2 b2 sm bm
  generalize ss = s3; generalize bb = b3
  refine aw_pick (objs' := (s3, b3, .box [.ms sm bm 0 B.codes.length, .nils, .bool false, .nils]) :: (sm, bm, .row 1 (List.replicate B.codes.length [.bool false])) :: (s2, b2, .box [.nils, .nils, .bool false, .nils]) :: []) pk_ ?_
  rw [hbr]
  refine aw_nilC 1 1 (by decide) rfl fun so => ?_
  refine aw_nilC 3 1 (by decide) rfl fun st => ?_
  dsimp only [List.set]
  have hct0 := l28Code_ctm (G := G) s3 b3 sm bm so 0 0 st 0 false ⟨List.replicate B.codes.length false, [], []⟩ [] m B.codes.length (by simp) (by omega) (by simp)
  rw [hms] at hct0
  have hrc := Rs.init B
  have hne : (rs0 B).todo ≠ [] := by simp [rs0]
  refine aw_pick (objs' := (s3, b3, stB sm bm B.codes.length so 0 0 false st 0 0 0) :: (sm, bm, .row 1 (boolR (List.replicate B.codes.length false))) :: (st, 0, .row 1 []) :: (so, 0, .row 1 (strR [])) :: (s2, b2, .box [.nils, .nils, .bool false, .nils]) :: []) pk_ ?_
  repeat' (first | ((with_reducible apply o_y); exact y_; rfl) | ((with_reducible apply o_callM); rfl; kernel_rfl; (repeat (first | exact ArgsM.nil | ((with_reducible apply ArgsM.cons); rfl))); exact hG; exact hct0; exact .cons _ _ _ _ (.cons _ _ _ _ (.cons _ _ _ _ (.nil _))); intro y hy; refine al_app3 ?_) | with_reducible refine al_none rfl ?_ | (with_reducible first | apply aw_seq | apply aw_region | apply al_nil | apply aq_then | apply aw_block))
  apply aw_loopk (X := Bool × RS × Nat × Nat × List (List TV)) [0, 2, 3] (fun x => [(4, .bool x.1)])
    (fun x => [(s3, b3, stB sm bm B.codes.length so x.2.2.1 x.2.1.out.length (hasS x.2.1.out asyB) st x.2.2.2.1 x.2.2.2.2.length x.2.1.todo.length), (sm, bm, .row 1 (boolR x.2.1.met)), (so, x.2.2.1, .row 1 (strR x.2.1.out)), (st, x.2.2.2.1, .row 1 (x.2.2.2.2 ++ intR x.2.1.todo)), (s2, b2, .box [.nils, .nils, .bool false, .nils])])
    (fun x => (Rs B x.2.1 ∧ RsIn B 0 x.2.1) ∧ (x.1 = true → x.2.1.todo ≠ []) ∧ (x.1 = false → x.2.1.todo = [] ∧ rsStep B x.2.1 = x.2.1)) (fun x => x.2.1.mu) (true, rs0 B, 0, y.1, y.2) ⟨⟨hrc, hin0⟩, fun _ => hne, fun h => by cases h⟩
  exact kp_; (repeat (first | exact Weak.envNil | refine Weak.envCons we_ ?_))
  · have ho : (rs0 B).out = [] := rfl
    have ha : hasS [] asyB = false := rfl
    dsimp only
    rw [ho, ha]
    (repeat (first | with_reducible exact Pick.refl _ | (apply Pick.consE; (repeat (first | with_reducible exact DelS.head _ | with_reducible apply DelS.tail)); (first | with_reducible rfl | (focus (simp [intR, nts]; done))))))
  clear hct0 hne hrc hin0 hy y hms
  rintro ⟨ch, S, bo, bt, pre⟩ ⟨⟨hrc, hin⟩, hc1, hc2⟩
  dsimp only at hrc hin hc1 hc2 ⊢
  cases ch with
  | false =>
    obtain ⟨ht, hfix⟩ := hc2 rfl
    have hfin := rsFin_eq hrc hfix
    rw [hfin]
    obtain ⟨hb1, hb2⟩ := rs_small hin
    unfold stB
    repeat' (first | ((with_reducible apply o_y); exact y_; rfl) | refine e_storep ?_ | with_reducible refine al_none rfl ?_ | (with_reducible first | apply aw_seq | apply aw_region | apply al_nil | apply aq_then | apply aw_exit | apply aw_ret | apply aq_block_hit | apply aq_then_exit) | refine aw_cond_f rfl rr_ ?_)
    have hsl := hin.len
    rw [← hsl]
    refine aq_ret1 x_ rfl (.cell _ _ _ _ _ rfl mm_ (by kernel_rfl) (by kernel_rfl) (by kernel_rfl)) (fun _ => ?_)
    refine fin_agg (.cons ?_ (.cons ?_ (.cons (.flat rfl) (.cons ?_ .nil))))
    · exact fin_ms (f := fun b : Bool => [TV.bool b]) (f' := fun b : Bool => [TV.bool b]) (fun x => .cons (.flat rfl) .nil) (List.mem_cons_of_mem _ List.mem_cons_self)
    · exact fin_ms (f := fun b : ByteArray => [TV.str b]) (f' := fun b : ByteArray => [TV.str b]) (fun x => .cons (.flat rfl) .nil) (List.mem_cons_of_mem _ (List.mem_cons_of_mem _ List.mem_cons_self))
    · rw [ht]
      exact .ms st bt pre.length 0 1 (pre ++ intR []) [] _ (List.mem_cons_of_mem _ (List.mem_cons_of_mem _ (List.mem_cons_of_mem _ List.mem_cons_self))) (by simp [intR]) (by simp [intR]) rfl (by simp [intR])
  | true =>
    have hne := hc1 rfl
    clear hc1 hc2
    repeat' (first | ((with_reducible apply o_y); exact y_; rfl) | with_reducible refine al_none rfl ?_ | (with_reducible first | apply aw_seq | apply aw_region | apply al_nil | apply aq_then | apply aw_block | apply aw_skip) | refine aw_cond_t rfl rr_ ?_)
    apply aw_loopk (X := RS × Nat × Nat × List (List TV)) [0, 2, 3] (fun x => [(4, .bool false)])
      (fun x => [(s3, b3, stB sm bm B.codes.length so x.2.1 x.1.out.length (hasS x.1.out asyB) st x.2.2.1 x.2.2.2.length x.1.todo.length), (sm, bm, .row 1 (boolR x.1.met)), (so, x.2.1, .row 1 (strR x.1.out)), (st, x.2.2.1, .row 1 (x.2.2.2 ++ intR x.1.todo)), (s2, b2, .box [.nils, .nils, .bool false, .nils])])
      (fun x => (Rs B x.1 ∧ RsIn B 0 x.1) ∧ (x.1 = S ∨ x.1.mu < S.mu)) (fun x => x.1.mu) (S, bo, bt, pre) ⟨⟨hrc, hin⟩, .inl rfl⟩
    exact kp_; (repeat (first | exact Weak.envNil | refine Weak.envCons we_ ?_))
    · exact .refl _
    clear hrc hin
    rintro ⟨⟨met, out, todo⟩, bo, bt, pre⟩ ⟨⟨hrc, hin⟩, hmu⟩
    dsimp only at hrc hin hmu ⊢
    cases todo with
    | cons k r =>
      obtain ⟨hk, hin2, hmu2⟩ := rs_pop hB hin
      obtain ⟨hil, hio⟩ := codeI_ok hB hk
      have hin3 := (rsRow_in (n := 0) hio (by rw [Nat.zero_add]; exact hin2) _ (Nat.le_refl _))
      rw [List.take_of_length_le (Nat.le_refl _), Nat.sub_self] at hin3
      have hrs : Rs B (rsRow (codeI B.codes k) ⟨met, out, r⟩) := hrc.step
      have hct := l28Scan_ctm (G := G) hst s3 b3 sm bm so bo st bt f lo B.codes.length B hB rfl k hk ⟨met, out, r⟩ hin2 (pre ++ [[.int .i64 k]])
      have hp1 : (pre ++ [[TV.int .i64 k]]).length = pre.length + 1 := by simp
      have hp2 : pre ++ intR (k :: r) = (pre ++ [[TV.int .i64 k]]) ++ intR r := by simp [intR]
      obtain ⟨ht1, _⟩ := rs_small hin
      have hpos : (0 : Int) < ((k :: r).length : Nat) := by rw [List.length_cons]; omega
      have hg : (pre ++ intR (k :: r))[pre.length]? = some [.int .i64 k] := by
        rw [List.getElem?_append_right (Nat.le_refl _), Nat.sub_self]; rfl
      rw [hm] at hct
      rw [hp1] at hct
      rw [hp2] at hg ⊢
      unfold stB
      repeat' (first | ((with_reducible apply o_y); exact y_; rfl) | refine e_slms ?_ | refine e_storep ?_ | ((with_reducible apply o_callM); rfl; kernel_rfl; (repeat (first | exact ArgsM.nil | ((with_reducible apply ArgsM.cons); rfl))); exact hG; exact hct; exact .cons _ _ _ _ (.cons _ _ _ _ (.cons _ _ _ _ (.cons _ _ _ _ (.nil _)))); intro y hy; refine al_app4 ?_) | with_reducible refine al_none rfl ?_ | (with_reducible first | apply aw_seq | apply aw_region | apply al_nil | apply aq_then | apply aw_block | apply aw_skip | apply aq_block) | (refine aw_cond_dt rfl rr_ dd_ ?_))
      exact aq_round (rsRow (codeI B.codes k) ⟨met, out, r⟩, y.1, y.2.1, y.2.2) ⟨⟨hrs, hin3.1⟩, .inr (by rcases hmu with h | h <;> (try rw [← h]) <;> (try dsimp only) <;> omega)⟩ (by dsimp only; omega) (.of _ nw_ od_ pk_)
    | nil =>
      have hmu2 : (RS.mk met out []).mu < S.mu := by
        rcases hmu with h | h
        · exact absurd (by rw [← h]) hne
        · exact h
      clear hmu hne
      have hnp : ¬ (0 : Int) < ((([] : List Int).length : Nat) : Int) := by simp
      have hpi := rsPass_in (any := hasS out asyB) hB.entries hin
      have hps := fun i (h : i < B.entries.length) => rsPass_snoc (any := hasS out asyB) h ⟨met, out, []⟩
      have hps0 : (RS.mk met out []) = rsPass (hasS out asyB) (B.entries.take 0) ⟨met, out, []⟩ := rfl
      obtain ⟨_, hol⟩ := rs_small hin
      dsimp only at hol
      unfold stB
      repeat' (first | ((with_reducible apply o_y); exact y_; rfl) | with_reducible refine al_none rfl ?_ | (with_reducible first | apply aw_seq | apply aw_region | apply al_nil | apply aq_then | apply aw_block | apply aw_exit | apply aq_block_hit | apply aq_then_exit) | (refine aw_cond_df rfl rr_ dd_ ?_))
      apply aw_loopk (X := Nat × RS × Nat × List (List TV)) [0, 2, 3] (fun x => [(6, .int .i64 (x.1 : Int)), (4, .bool (decide (0 < x.2.1.todo.length)))])
        (fun x => [(s3, b3, stB sm bm B.codes.length so bo out.length (hasS out asyB) st x.2.2.1 x.2.2.2.length x.2.1.todo.length), (sm, bm, .row 1 (boolR x.2.1.met)), (so, bo, .row 1 (strR out)), (st, x.2.2.1, .row 1 (x.2.2.2 ++ intR x.2.1.todo)), (s2, b2, .box [.nils, .nils, .bool false, .nils])])
        (fun x => x.1 ≤ B.entries.length ∧ x.2.1 = rsPass (hasS out asyB) (B.entries.take x.1) ⟨met, out, []⟩) (fun x => B.entries.length - x.1) (0, ⟨met, out, []⟩, bt, pre) ⟨Nat.zero_le _, hps0⟩
      exact kp_; (repeat (first | exact Weak.envNil | refine Weak.envCons we_ ?_))
      · exact .refl _
      rintro ⟨i, T, bt, pre⟩ ⟨hi, hT⟩
      dsimp only at hi hT ⊢
      obtain ⟨⟨hTi, hTm⟩, hTo⟩ := hpi i hi
      rw [← hT] at hTi hTm hTo
      obtain ⟨hT1, _⟩ := rs_small hTi
      have hTl := hTi.len
      by_cases hlt : i < B.entries.length
      · have hre := tentry_row (lo := lo) hlt
        have hxa := hB.entries _ (List.getElem_mem hlt)
        have hs2 := hps i hlt
        rw [← hT] at hs2
        generalize B.entries[i] = e at hre hxa hs2
        obtain ⟨ow, cl, sel, code⟩ := e
        dsimp only at hre hxa
        obtain ⟨c, rfl⟩ : ∃ c : Nat, code = c := ⟨code.toNat, by omega⟩
        have hrow := boolR_get (l := T.met) (k := c) (by omega)
        have hml := boolR_len T.met
        have hhas := l1Has_ct (G := G) 0 out sel (by omega)
        have hsl := strR_len out
        have hmo := metS_out T (c : Int)
        have hct := l28Code_ctm (G := G) s3 b3 sm bm so bo out.length st bt (hasS out asyB) T pre c B.codes.length (by omega) (by omega) (by omega)
        unfold rsE at hs2
        dsimp only at hs2
        rw [hTo] at hs2
        unfold stB
        repeat' (first | ((with_reducible apply o_y); exact y_; rfl) | (refine e_alloc ?_; intro ss bb) | refine e_storep ?_ | with_reducible refine aw_hold_r (id := 14) ?_ | with_reducible refine al_none rfl ?_ | (with_reducible first | apply aw_seq | apply aw_region | apply al_nil | apply aq_then | apply aw_block | apply aw_skip) | (refine aw_cond_dt rfl rr_ dd_ ?_))
        refine ⟨?_⟩
        generalize ss = sx; generalize bb = bx
        refine aw_pick (objs' := (s3, b3, .box [.ms sm bm 0 B.codes.length, .ms so bo 0 out.length, .bool (hasS out asyB), .ms st bt pre.length T.todo.length]) :: (sm, bm, .row 1 (boolR T.met)) :: (st, bt, .row 1 (pre ++ intR T.todo)) :: (so, bo, .row 1 (strR out)) :: (s2, b2, .box [.nils, .nils, .bool false, .nils]) :: (sx, bx, .box [.int .i64 ow, .bool cl, .str sel, .int .i64 c]) :: []) pk_ ?_
        cases hg : gb T.met c with
        | true =>
          rw [hg] at hrow hs2
          repeat' (first | ((with_reducible apply o_y); exact y_; rfl) | with_reducible refine al_none rfl ?_ | (with_reducible first | apply aw_seq | apply aw_region | apply al_nil | apply aq_then | apply aw_skip | apply aq_block) | refine al_skip rfl rfl rfl rr_ rfl rfl rfl ?_ | refine al_skip2 rfl rfl rfl rr_ rfl rfl ?_ | refine aw_cond_f rfl rr_ ?_)
          exact aq_round (i + 1, T, bt, pre) ⟨by dsimp only; omega, hs2.symm⟩ (by dsimp only; omega) (.of _ nw_ od_ pk_)
        | false =>
          rw [hg] at hrow hs2
          have hch : decide (0 < (metS T (c : Int)).todo.length) = true := by
            rw [metS_f hg]
            exact decide_eq_true (by simp)
          cases ha : hasS out asyB with
          | true =>
            rw [ha] at hs2 hct
            repeat' (first | ((with_reducible apply o_y); exact y_; rfl) | ((with_reducible apply o_callM); rfl; kernel_rfl; (repeat (first | exact ArgsM.nil | ((with_reducible apply ArgsM.cons); rfl))); exact hG; exact hct; exact .cons _ _ _ _ (.cons _ _ _ _ (.cons _ _ _ _ (.nil _))); intro y hy; refine al_app3 ?_) | with_reducible refine al_none rfl ?_ | (with_reducible first | apply aw_seq | apply aw_region | apply al_nil | apply aq_then | apply aq_block) | refine al_run rfl rfl rfl rr_ ?_ | refine al_skip rfl rfl rfl rr_ rfl rfl rfl ?_ | refine aw_cond_t rfl rr_ ?_)
            refine aq_round (i + 1, metS T c, y.1, y.2) ⟨by dsimp only; omega, hs2.symm⟩ (by dsimp only; omega) (.of _ (Weak.envCons rfl (Weak.envCons (lk_bool rfl hch.symm) Weak.envNil)) od_ pk_)
          | false =>
            rw [ha] at hs2 hct
            cases hb : hasS out sel with
            | true =>
              rw [hb] at hs2 hhas
              repeat' (first | ((with_reducible apply o_y); exact y_; rfl) | refine e_callv hG hst (hhas) ?_ | ((with_reducible apply o_callM); rfl; kernel_rfl; (repeat (first | exact ArgsM.nil | ((with_reducible apply ArgsM.cons); rfl))); exact hG; exact hct; exact .cons _ _ _ _ (.cons _ _ _ _ (.cons _ _ _ _ (.nil _))); intro y hy; refine al_app3 ?_) | with_reducible refine al_none rfl ?_ | (with_reducible first | apply aw_seq | apply aw_region | apply al_nil | apply aq_then | apply aq_block) | refine al_run rfl rfl rfl rr_ ?_ | refine aw_cond_t rfl rr_ ?_)
              refine aq_round (i + 1, metS T c, y.1, y.2) ⟨by dsimp only; omega, hs2.symm⟩ (by dsimp only; omega) (.of _ (Weak.envCons rfl (Weak.envCons (lk_bool rfl hch.symm) Weak.envNil)) od_ pk_)
            | false =>
              rw [hb] at hs2 hhas
              repeat' (first | ((with_reducible apply o_y); exact y_; rfl) | refine e_callv hG hst (hhas) ?_ | with_reducible refine al_none rfl ?_ | (with_reducible first | apply aw_seq | apply aw_region | apply al_nil | apply aq_then | apply aw_skip | apply aq_block) | refine al_run rfl rfl rfl rr_ ?_ | refine aw_cond_f rfl rr_ ?_)
              exact aq_round (i + 1, T, bt, pre) ⟨by dsimp only; omega, hs2.symm⟩ (by dsimp only; omega) (.of _ nw_ od_ pk_)
      · obtain rfl : i = B.entries.length := by omega
        rw [List.take_of_length_le (Nat.le_refl _)] at hT
        have hrT : Rs B T := by rw [hT]; exact hrc.step
        repeat' (first | ((with_reducible apply o_y); exact y_; rfl) | with_reducible refine al_none rfl ?_ | (with_reducible first | apply aw_seq | apply aw_region | apply al_nil | apply aq_then | apply aw_exit | apply aq_block_hit | apply aq_then_exit | apply aq_block) | (refine aw_cond_df rfl rr_ dd_ ?_))
        refine aq_round (decide (0 < T.todo.length), T, bo, bt, pre) ⟨⟨hrT, hTi⟩, fun h => ?_, fun h => ?_⟩ (by dsimp only; omega) (.of _ nw_ od_ ?_)
        · intro h2
          rw [h2] at h
          cases h
        · have h1 : T.todo = [] := List.length_eq_zero_iff.1 (by have := of_decide_eq_false h; omega)
          have h2 := rs_fix (b := B) (s := ⟨met, out, []⟩) rfl (by show (rsPass (hasS out asyB) B.entries ⟨met, out, []⟩).todo = []; rw [← hT]; exact h1)
          have h3 : T = ⟨met, out, []⟩ := by rw [hT]; exact h2
          exact ⟨h1, by rw [h3]; exact h2⟩
        · dsimp only
          rw [hTo]
          (repeat (first | with_reducible exact Pick.refl _ | (apply Pick.consE; (repeat (with_reducible exact DelS.head _)); (rfl))))
end
end Go.Proofs.YthpdkhejeookhaaGreatDoor
