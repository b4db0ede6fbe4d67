/- Part 28 of the proof: the texts CpC, CpD, IvA. -/
import Derived.Test.YtiihihgjiklnoaaGreatDoorPart17
import Derived.Test.YtiihihgjiklnoaaGreatDoorPart27
import Derived.Test.YtiihihgjiklnoaaGreatDoorPart19
import Derived.Test.YtiihihgjiklnoaaGreatDoorPart15
/- Copies of a code base that the caller owns: the reference's l11ClassesCopy, l14Copy, l14Base. -/
namespace Go.Proofs.YtiihihgjiklnoaaGreatDoor
set_option maxRecDepth 20000
open Go Go.RowKit
section
variable {G : World → Prop}
theorem l11ClassesCopy_own (_hst : Stable G) (lo : Nat) (l : List TClassInfo) (hb : l.length ≤ 1048576 ∧ ∀ y ∈ l, TClassInfo.small 1048576 y) : CtM Tryz.prog G 130 [.sl lo 3 (l.map (TClassInfo.tw lo))] [] (fun y : (Nat × Nat) × List (Nat × Nat) => y.2.length = l.length) (fun y => (y.1.1, y.1.2, .row 3 (nR clsMk l y.2)) :: nO clsOb l y.2) (fun y => .ms y.1.1 y.1.2 0 l.length) := by
  refine ctm_enter Tryz.func130 rfl Tryz.ntmps130 rfl rfl rfl fun w0 R gs objsR hG hR => ?_
  obtain rfl := hR.inv0
  clear hR
  have hlen := TClassInfo.len lo l
  have hl1 := hb.1
  repeat' (first | refine W_ ?_ | (refine e_own ?_; intro ss bb) | refine c_ (fun hc => ?_) (fun hc => ?_) | refine g_ (fun hg => ?_) (fun hg => ?_))
  generalize ss = so; generalize bb = bo
  apply aw_loopk (X := Nat × Nat × List (Nat × Nat)) [0, 1000000] (fun x => [(4, .int .i64 (x.1 : Int)), (3, .ms so x.2.1 0 x.1)]) (fun x => (so, x.2.1, .row 3 (nR clsMk (l.take x.1) x.2.2)) :: (nO clsOb (l.take x.1) x.2.2 ++ R)) (fun x => x.1 ≤ l.length ∧ x.2.2.length = x.1) (fun x => l.length - x.1) (0, bo, []) ⟨Nat.zero_le _, rfl⟩
  exact kp_; exact nw_
  · exact .refl _
  rintro ⟨i, bo, ps⟩ ⟨hi, hps⟩
  dsimp only at hi hps ⊢
  by_cases hlt : i < l.length
  · have hrs := fun p => nR_snoc clsMk hlt hps p
    have hos := fun p => nO_snoc clsOb hlt hps p
    have hra : (l.map (TClassInfo.tw lo))[i]? = some (l[i].tw lo) := row_map hlt
    have hrl : (nR clsMk (l.take i) ps).length = i := by rw [nR_len _ (by rw [List.length_take]; omega), List.length_take]; omega
    have hbi := hb.2 _ (List.getElem_mem hlt)
    generalize l[i] = x at hrs hos hra hbi
    rw [show x.tw lo = [.str x.name, .int .i64 x.parent, .sl lo 1 (strR x.fields)] from rfl] at hra
    have hsl := strR_len x.fields
    have hf := hbi.2.1
    generalize nO clsOb (l.take i) ps = T at hos ⊢
    repeat' (first | refine W_ ?_ | ((with_reducible apply aw_drawM (id := 5) 20); kernel_rfl; kernel_rfl; kernel_rfl; rfl; (repeat (first | exact Cut.zero _ | apply Cut.succ))) | ((with_reducible apply m_q); exact ym_; rfl; exact ind_) | ((with_reducible apply m_build); rfl; (intro p; try dsimp only); (repeat (first | exact TB.nil _ | ((with_reducible apply TB.cons); rfl; rfl; (first | exact .nil _ | exact .put _ _ _ _ _ (.nil _) | exact .skip _ _ _ _ _ (.put _ _ _ _ _ (.nil _)) | exact .skip _ _ _ _ _ (.skip _ _ _ _ _ (.put _ _ _ _ _ (.nil _))) | (repeat (first | exact .nil _ | apply Splice.put | apply Splice.skip))); kernel_rfl))); rfl; kernel_rfl; kernel_rfl; exact ind_) | ((with_reducible apply m_app0); (intro p; rfl); (intro p; rfl); rfl; kernel_rfl; (intro p; rfl); (first | with_reducible assumption | exact bytR_length _ | exact intR_length _ | exact strR_length _ | exact List.length_map _ | assumption | rfl); omega; exact ⟨by decide, ah_⟩; rfl; (focus (simp; done))) | ((with_reducible apply m_own (n := 0)); (intro p; rfl); rfl; kernel_rfl; kernel_rfl; rfl; kernel_rfl; rfl; rfl; rfl; rfl) | ((with_reducible apply m_litq); (intro p; rfl); rfl; kernel_rfl; kernel_rfl; rfl; kernel_rfl; rfl; (intro p; rfl); rfl; (intro p; rfl); exact ind_) | (with_reducible refine DM.nil _ _ _ ?_) | refine c_ (fun hc => ?_) (fun hc => ?_) | refine g_ (fun hg => ?_) (fun hg => ?_))
    intro p hp
    refine al_obj (objs' := ((p 11).a, (p 17).b, .row 1 (strR x.fields)) :: (so, bo, .row 3 (nR clsMk (l.take i) ps)) :: (T ++ R)) (by rw [show liveL _ = [_] from rfl]; simp only [List.flatMap_cons, List.flatMap_nil, List.append_nil, List.cons_append, List.nil_append]; (try rfl)) ?_
    dsimp only [Nat.reduceAdd]
    generalize Yu.a (p 11) = sx
    generalize Yu.b (p 17) = bx
    repeat' (first | refine W_ ?_ | ((with_reducible apply o_append); rfl; rfl; rfl; kernel_rfl; (repeat (first | with_reducible exact mh | with_reducible refine mt ?_)); exact hrl; (first | (show List.length _ = 1; rfl) | (show List.length _ = 2; rfl) | (show List.length _ = 0; rfl) | (show List.length _ = 3; rfl) | (first | with_reducible assumption | exact bytR_length _ | exact intR_length _ | exact strR_length _ | exact List.length_map _ | assumption | rfl)); omega; exact hrs (_, _); (intro bq; (repeat (first | with_reducible exact Upd.head _ | with_reducible apply Upd.tail))); intro bb) | refine c_ (fun hc => ?_) (fun hc => ?_) | refine g_ (fun hg => ?_) (fun hg => ?_))
    refine aq_round (i + 1, bb, ps ++ [(sx, bx)]) ⟨by dsimp only; omega, by dsimp only; simp [hps]⟩ (by dsimp only; omega) (.of _ nw_ od_ ?_)
    dsimp only
    rw [hos (sx, bx)]
    exact pick_snoc _ _ T R
  · obtain rfl : i = l.length := by omega
    rw [List.take_of_length_le (Nat.le_refl _)]
    repeat' (first | refine W_ ?_ | refine c_ (fun hc => ?_) (fun hc => ?_) | refine g_ (fun hg => ?_) (fun hg => ?_))
    exact aq_retm1 x_ rfl ((so, bo), ps) hps rfl (.cons _ _ _ _ (.app _ R)) (.refl _) (.tmp _ _ rfl) rfl
theorem l14Copy_own (_hst : Stable G) (lo : Nat) (x : TCode) (hb : x.small 1048576) : CtM Tryz.prog G 207 [.agg [.bool x.block, .int .i64 x.params, .int .i64 x.slots, .sl lo 4 (x.instrs.map (TInstr.tw lo))]] [] (fun _ : Nat × Nat => True) (fun y => [(y.1, y.2, codOb x)]) (fun y => .agg (codMk x y)) := by
  refine ctm_enter Tryz.func207 rfl Tryz.ntmps207 rfl rfl rfl fun w0 R gs objsR hG hR => ?_
  obtain rfl := hR.inv0
  clear hR
  have hil : x.instrs.length ≤ 1048576 := hb.1
  repeat' (first | refine W_ ?_ | refine e_box ?_ | (refine e_alloc ?_; intro ss bb) | ((with_reducible apply aw_drawM (id := 1) 11); kernel_rfl; kernel_rfl; kernel_rfl; rfl; (repeat (first | exact Cut.zero _ | apply Cut.succ))) | ((with_reducible apply m_q); exact ym_; rfl; exact ind_) | ((with_reducible apply m_build); rfl; (intro p; try dsimp only); (repeat (first | exact TB.nil _ | ((with_reducible apply TB.cons); rfl; rfl; (first | exact .nil _ | exact .put _ _ _ _ _ (.nil _) | exact .skip _ _ _ _ _ (.put _ _ _ _ _ (.nil _)) | exact .skip _ _ _ _ _ (.skip _ _ _ _ _ (.put _ _ _ _ _ (.nil _))) | (repeat (first | exact .nil _ | apply Splice.put | apply Splice.skip))); kernel_rfl))); rfl; kernel_rfl; kernel_rfl; exact ind_) | ((with_reducible apply m_own); (intro p; rfl); rfl; kernel_rfl; kernel_rfl; rfl; kernel_rfl; rfl; rfl; rfl; rfl) | ((with_reducible apply m_app0); (intro p; rfl); (intro p; rfl); rfl; kernel_rfl; (intro p; rfl); (first | with_reducible assumption | exact bytR_length _ | exact intR_length _ | exact strR_length _ | exact List.length_map _ | assumption | rfl); omega; exact ⟨by decide, ah_⟩; rfl; (focus (simp; done))) | (with_reducible refine DM.nil _ _ _ ?_) | refine c_ (fun hc => ?_) (fun hc => ?_) | refine g_ (fun hg => ?_) (fun hg => ?_))
  generalize ss = s2; generalize bb = b2
  intro p hp
  refine al_obj (objs' := ((p 6).a, (p 9).b, .row 4 (x.instrs.map (TInstr.tw 0))) :: (s2, b2, .box [.bool false, .int .i64 0, .int .i64 0, .nils]) :: R) (by rw [show liveL _ = [_] from rfl]; simp only [List.flatMap_cons, List.flatMap_nil, List.append_nil, List.cons_append, List.nil_append]; (try rfl)) ?_
  dsimp only [Nat.reduceAdd]
  generalize Yu.a (p 6) = sx
  generalize Yu.b (p 9) = bx
  repeat' (first | refine W_ ?_ | refine e_storep ?_ | refine c_ (fun hc => ?_) (fun hc => ?_) | refine g_ (fun hg => ?_) (fun hg => ?_))
  exact aq_retm1 (t1 := .agg [.bool x.block, .int .i64 x.params, .int .i64 x.slots, .ms sx bx 0 x.instrs.length]) x_ rfl (sx, bx) trivial rfl (.cons _ _ _ _ (.nil R)) pk_ (.cell _ _ _ _ _ rfl mm_ (by kernel_rfl) (by kernel_rfl) (by kernel_rfl)) rfl
end
end Go.Proofs.YtiihihgjiklnoaaGreatDoor
/- Copies of a code base that the caller owns: the reference's l14Base. -/
namespace Go.Proofs.YtiihihgjiklnoaaGreatDoor
set_option maxRecDepth 20000
open Go Go.RowKit
theorem codMk_new (x : TCode) (y : Nat × Nat) : (∀ s b o, (s, b, o) ∈ [(y.1, y.2, codOb x)] → ObjNew [(y.1, y.2, codOb x)] o) ∧ NewOk [(y.1, y.2, codOb x)] (.agg (codMk x y)) := by
  refine ⟨fun s b o h => ?_, .agg _ fun t ht => ?_⟩
  · simp only [List.mem_singleton, Prod.mk.injEq] at h
    obtain ⟨_, _, rfl⟩ := h
    refine flat_new fun t ht => ?_
    obtain ⟨r, hr, htr⟩ := List.mem_flatten.1 ht
    obtain ⟨i, _, rfl⟩ := List.mem_map.1 hr
    simp only [TInstr.tw, List.mem_cons, List.not_mem_nil, or_false] at htr
    rcases htr with rfl | rfl | rfl | rfl <;> rfl
  · simp only [codMk, List.mem_cons, List.not_mem_nil, or_false] at ht
    rcases ht with rfl | rfl | rfl | rfl
    · exact .flat _ rfl
    · exact .flat _ rfl
    · exact .flat _ rfl
    · exact .ms _ _ _ _ _ _ List.mem_cons_self
theorem pick_snoc3 (a b z : Nat × Nat × TObj) (T R : Objs) : Pick (a :: b :: ((T ++ [z]) ++ R)) (a :: z :: b :: (T ++ R)) := .perm (by
  have h : ((T ++ [z]) ++ R).Perm (z :: (T ++ R)) := by
    rw [List.append_assoc]
    exact List.perm_middle
  exact (((h.cons b).trans (List.Perm.swap z b _)).cons a))
theorem pick_cpd (a e z2 z3 : Nat × Nat × TObj) (C A R : Objs) : Pick (z2 :: z3 :: a :: (A ++ (e :: (C ++ R)))) (a :: z3 :: (A ++ (e :: (C ++ (z2 :: R))))) := .perm (by
  have h : ((z3 :: a :: A) ++ (e :: C) ++ z2 :: R).Perm (z2 :: ((z3 :: a :: A) ++ (e :: C) ++ R)) := List.perm_middle
  exact .trans (by simpa using h.symm) (List.Perm.swap a z3 _))
section
variable {G : World → Prop}
set_option maxHeartbeats 1000000 in
theorem l14Base_own (hst : Stable G) (f lo : Nat) (x : TCodeBase) (hb : x.small 1048576) : CtM Tryz.prog G 129 [.cp f (x.tw lo)] [] (cbI x) (cbO x) (fun y => .agg (cbC x y)) := by
  refine ctm_enter Tryz.func129 rfl Tryz.ntmps129 rfl rfl rfl fun w0 R gs objsR hG hR => ?_
  obtain rfl := hR.inv0
  clear hR
  have c1 := l11ClassesCopy_own hst lo x.classes hb.1
  have n1 := fun (y : (Nat × Nat) × List (Nat × Nat)) (_ : y.2.length = x.classes.length) => nest_new (m := 3) (s := y.1.1) (b := y.1.2) (n := x.classes.length) clsMk_new clsOb_new x.classes y.2
  have hel := TEntry.len lo x.entries
  have he1 := hb.2.2.1
  unfold TCodeBase.tw
  repeat' (first | refine W_ ?_ | (refine e_alloc ?_; intro ss bb) | ((with_reducible apply aw_drawM (id := 1) 17); kernel_rfl; kernel_rfl; kernel_rfl; rfl; (repeat (first | exact Cut.zero _ | apply Cut.succ))) | ((with_reducible apply m_q); exact ym_; rfl; exact ind_) | ((with_reducible apply m_build); rfl; (intro p; try dsimp only); (repeat (first | exact TB.nil _ | ((with_reducible apply TB.cons); rfl; rfl; (first | exact .nil _ | exact .put _ _ _ _ _ (.nil _) | exact .skip _ _ _ _ _ (.put _ _ _ _ _ (.nil _)) | exact .skip _ _ _ _ _ (.skip _ _ _ _ _ (.put _ _ _ _ _ (.nil _))) | (repeat (first | exact .nil _ | apply Splice.put | apply Splice.skip))); kernel_rfl))); rfl; kernel_rfl; kernel_rfl; exact ind_) | ((with_reducible apply m_alloc); rfl; rfl; kernel_rfl) | ((with_reducible apply m_own); (intro p; rfl); rfl; kernel_rfl; kernel_rfl; rfl; kernel_rfl; rfl; rfl; rfl; rfl) | ((with_reducible apply m_app0); (intro p; rfl); (intro p; rfl); rfl; kernel_rfl; (intro p; rfl); (first | with_reducible assumption | exact bytR_length _ | exact intR_length _ | exact strR_length _ | exact List.length_map _ | assumption | rfl); omega; exact ⟨by decide, ah_⟩; rfl; (focus (simp; done))) | ((with_reducible apply m_call hG hst c1); rfl; kernel_rfl; (intro p; (repeat (first | exact Args.nil | ((with_reducible apply Args.cons); rfl; exact .same _)))); exact n1) | (with_reducible refine DM.nil _ _ _ ?_) | refine c_ (fun hc => ?_) (fun hc => ?_) | refine g_ (fun hg => ?_) (fun hg => ?_))
  generalize ss = s2; generalize bb = b2
  intro p hp
  simp only [List.forall_mem_cons] at hp
  obtain ⟨_, _, _, hI, _⟩ := hp
  refine al_obj (objs' := ((p 16).a, (p 16).b, .box [.nils, .nils, .nils, .int .i64 0]) :: ((p 5).a, (p 10).b, .row 4 (x.entries.map (TEntry.tw lo))) :: (clsO x.classes (Enc.dec (p 4)) ++ ((s2, b2, .box [.nils, .nils, .nils, .int .i64 0]) :: R))) (by rw [show liveL _ = [_, _, _] from rfl]; simp only [List.flatMap_cons, List.flatMap_nil, List.append_nil, List.cons_append, List.nil_append]; (try rfl)) ?_
  dsimp only [Nat.reduceAdd] at hI ⊢
  generalize (Enc.dec (p 4) : (Nat × Nat) × List (Nat × Nat)) = yc at hI ⊢
  generalize Yu.a (p 16) = s3
  generalize Yu.b (p 16) = b3
  generalize Yu.a (p 5) = se
  generalize Yu.b (p 10) = be
  have hcl := TCode.len lo x.codes
  have hc1 := hb.2.1.1
  have hsm := hb.2.1.2
  repeat' (first | refine W_ ?_ | refine e_storep ?_ | refine c_ (fun hc => ?_) (fun hc => ?_) | refine g_ (fun hg => ?_) (fun hg => ?_))
  refine aw_nilC 1 4 (by decide) rfl fun sc => ?_
  obtain ⟨RR, hRR⟩ : ∃ RR : Objs, RR = ((se, be, .row 4 (x.entries.map (TEntry.tw 0))) :: (clsO x.classes yc ++ ((s2, b2, TObj.box [.nils, .nils, .nils, .int .i64 0]) :: R))) := ⟨_, rfl⟩
  refine aw_pick (objs' := (sc, 0, .row 4 []) :: (s3, b3, .box [.ms yc.1.1 yc.1.2 0 x.classes.length, .ms sc 0 0 0, .ms se be 0 x.entries.length, .int .i64 x.main]) :: RR) (by rw [hRR]; exact pk_) ?_
  apply aw_loopk (X := Nat × Nat × List (Nat × Nat)) [0, 2, 3, 1000000] (fun y => [(4, .int .i64 (y.1 : Int))])
    (fun y => (sc, y.2.1, .row 4 (nR codMk (x.codes.take y.1) y.2.2)) :: (s3, b3, .box [.ms yc.1.1 yc.1.2 0 x.classes.length, .ms sc y.2.1 0 y.1, .ms se be 0 x.entries.length, .int .i64 x.main]) :: (nO codOb (x.codes.take y.1) y.2.2 ++ RR))
    (fun y => y.1 ≤ x.codes.length ∧ y.2.2.length = y.1) (fun y => x.codes.length - y.1) (0, 0, []) ⟨Nat.zero_le _, rfl⟩
  exact kp_; exact nw_
  · exact .refl _
  rintro ⟨i, bc, ps⟩ ⟨hi, hps⟩
  dsimp only at hi hps ⊢
  by_cases hlt : i < x.codes.length
  · have hrs := fun p => nR_snoc codMk hlt hps p
    have hos := fun p => nO_snoc codOb hlt hps p
    have hra : (x.codes.map (TCode.tw lo))[i]? = some (x.codes[i].tw lo) := row_map hlt
    have hrl : (nR codMk (x.codes.take i) ps).length = i := by rw [nR_len _ (by rw [List.length_take]; omega), List.length_take]; omega
    have hbi := hsm _ (List.getElem_mem hlt)
    generalize x.codes[i] = c at hrs hos hra hbi
    have hil : c.instrs.length ≤ 1048576 := hbi.1
    rw [show c.tw lo = [.bool c.block, .int .i64 c.params, .int .i64 c.slots, .sl lo 4 (c.instrs.map (TInstr.tw lo))] from rfl] at hra
    have c2 := l14Copy_own hst lo c hbi
    have n2 := fun (y : Nat × Nat) (_ : True) => codMk_new c y
    generalize nO codOb (x.codes.take i) ps = T at hos ⊢
    repeat' (first | refine W_ ?_ | ((with_reducible apply aw_drawC (id := 5) 13); kernel_rfl; kernel_rfl; kernel_rfl; rfl; (repeat (first | exact Cut.zero _ | apply Cut.succ))) | ((with_reducible apply m_q); exact ym_; rfl; exact ind_) | ((with_reducible apply m_build); rfl; (intro p; try dsimp only); (repeat (first | exact TB.nil _ | ((with_reducible apply TB.cons); rfl; rfl; (first | exact .nil _ | exact .put _ _ _ _ _ (.nil _) | exact .skip _ _ _ _ _ (.put _ _ _ _ _ (.nil _)) | exact .skip _ _ _ _ _ (.skip _ _ _ _ _ (.put _ _ _ _ _ (.nil _))) | (repeat (first | exact .nil _ | apply Splice.put | apply Splice.skip))); kernel_rfl))); rfl; kernel_rfl; kernel_rfl; exact ind_) | ((with_reducible apply m_litq); (intro p; rfl); rfl; kernel_rfl; kernel_rfl; rfl; kernel_rfl; rfl; (intro p; rfl); rfl; (intro p; rfl); exact ind_) | ((with_reducible apply m_call hG hst c2); rfl; kernel_rfl; (intro p; (repeat (first | exact Args.nil | ((with_reducible apply Args.cons); rfl; exact .same _)))); exact n2) | ((with_reducible apply m_app1); (intro p; rfl); (intro p; rfl); rfl; kernel_rfl; (intro p; rfl); exact hrl; (intro p; show List.length _ = 1; rfl); omega; exact fun p => hrs (Enc.dec (p _)); exact ⟨by decide, by decide⟩; exact inds_; rfl; (focus (simp; done))) | (with_reducible refine DM.nil _ _ _ ?_) | refine c_ (fun hc => ?_) (fun hc => ?_) | refine g_ (fun hg => ?_) (fun hg => ?_))
    intro p hp
    refine al_obj (objs' := (sc, (p 11).b, .row 4 (nR codMk (x.codes.take (i + 1)) (ps ++ [Enc.dec (p 9)]))) :: ((Enc.dec (p 9) : Nat × Nat).1, (Enc.dec (p 9) : Nat × Nat).2, codOb c) :: (s3, b3, .box [.ms yc.1.1 yc.1.2 0 x.classes.length, .ms sc bc 0 i, .ms se be 0 x.entries.length, .int .i64 x.main]) :: (T ++ RR)) (by rw [show liveL _ = [_, _] from rfl]; (try simp only [List.flatMap_cons, List.flatMap_nil, List.append_nil, List.cons_append, List.nil_append]); (try rfl)) ?_
    dsimp only [Nat.reduceAdd] at hp ⊢
    generalize (Enc.dec (p 9) : Nat × Nat) = q
    generalize Yu.b (p 11) = bb
    repeat' (first | refine W_ ?_ | refine e_storep ?_ | refine c_ (fun hc => ?_) (fun hc => ?_) | refine g_ (fun hg => ?_) (fun hg => ?_))
    refine aq_round (i + 1, bb, ps ++ [q]) ⟨by dsimp only; omega, by dsimp only; simp [hps]⟩ (by dsimp only; omega) (.of _ nw_ od_ ?_)
    dsimp only
    rw [hos q]
    exact pick_snoc3 _ _ _ T RR
  · obtain rfl : i = x.codes.length := by omega
    rw [List.take_of_length_le (Nat.le_refl _), hRR]
    refine aw_pick (pick_cpd _ _ _ _ _ _ _) ?_
    repeat' (first | refine W_ ?_ | refine e_storep ?_ | refine c_ (fun hc => ?_) (fun hc => ?_) | refine g_ (fun hg => ?_) (fun hg => ?_))
    exact aq_retm1 (t1 := .agg [.ms yc.1.1 yc.1.2 0 x.classes.length, .ms sc bc 0 x.codes.length, .ms se be 0 x.entries.length, .int .i64 x.main]) x_ rfl (yc, ((sc, bc), ps), (se, be)) ⟨hI, hps⟩ rfl (.app _ R) (.drop (.drop (.perm (perm_cp _ _ _ _ R)))) (.cell _ _ _ _ _ rfl mm_ (by kernel_rfl) (by kernel_rfl) (by kernel_rfl)) rfl
end
end Go.Proofs.YtiihihgjiklnoaaGreatDoor
/- The built-in classes of both sides. Written by gen_iv.py. -/
namespace Go.Proofs.YtiihihgjiklnoaaGreatDoor
set_option maxRecDepth 20000
open Go Go.RowKit
def builtinL : List TClassInfo := [⟨⟨#[79, 98, 106, 101, 99, 116]⟩, -1, []⟩, ⟨⟨#[69, 120, 99, 101, 112, 116, 105, 111, 110]⟩, 0, [⟨#[116, 101, 120, 116]⟩]⟩, ⟨⟨#[69, 114, 114, 111, 114]⟩, 1, [⟨#[116, 101, 120, 116]⟩]⟩, ⟨⟨#[77, 101, 115, 115, 97, 103, 101, 78, 111, 116, 85, 110, 100, 101, 114, 115, 116, 111, 111, 100]⟩, 2, [⟨#[116, 101, 120, 116]⟩]⟩, ⟨⟨#[90, 101, 114, 111, 68, 105, 118, 105, 100, 101]⟩, 2, [⟨#[116, 101, 120, 116]⟩]⟩, ⟨⟨#[73, 110, 116, 101, 103, 101, 114]⟩, 0, []⟩, ⟨⟨#[66, 111, 111, 108, 101, 97, 110]⟩, 0, []⟩, ⟨⟨#[78, 105, 108]⟩, 0, []⟩, ⟨⟨#[83, 116, 114, 105, 110, 103]⟩, 0, []⟩, ⟨⟨#[83, 121, 109, 98, 111, 108]⟩, 0, []⟩, ⟨⟨#[65, 114, 114, 97, 121]⟩, 0, []⟩, ⟨⟨#[66, 108, 111, 99, 107]⟩, 0, []⟩, ⟨⟨#[83, 101, 109, 97, 112, 104, 111, 114, 101]⟩, 0, []⟩, ⟨⟨#[80, 114, 111, 99, 101, 115, 115]⟩, 0, []⟩, ⟨⟨#[84, 114, 97, 110, 115, 99, 114, 105, 112, 116]⟩, 0, []⟩, ⟨⟨#[67, 108, 97, 115, 115]⟩, 0, []⟩]
def builtinNames : List ByteArray := [⟨#[79, 98, 106, 101, 99, 116]⟩, ⟨#[69, 120, 99, 101, 112, 116, 105, 111, 110]⟩, ⟨#[69, 114, 114, 111, 114]⟩, ⟨#[77, 101, 115, 115, 97, 103, 101, 78, 111, 116, 85, 110, 100, 101, 114, 115, 116, 111, 111, 100]⟩, ⟨#[90, 101, 114, 111, 68, 105, 118, 105, 100, 101]⟩, ⟨#[73, 110, 116, 101, 103, 101, 114]⟩, ⟨#[66, 111, 111, 108, 101, 97, 110]⟩, ⟨#[78, 105, 108]⟩, ⟨#[83, 116, 114, 105, 110, 103]⟩, ⟨#[83, 121, 109, 98, 111, 108]⟩, ⟨#[65, 114, 114, 97, 121]⟩, ⟨#[66, 108, 111, 99, 107]⟩, ⟨#[83, 101, 109, 97, 112, 104, 111, 114, 101]⟩, ⟨#[80, 114, 111, 99, 101, 115, 115]⟩, ⟨#[84, 114, 97, 110, 115, 99, 114, 105, 112, 116]⟩, ⟨#[67, 108, 97, 115, 115]⟩]
def bfields (k : Int) : List ByteArray := if k = 1 ∨ k = 2 ∨ k = 3 ∨ k = 4 then [⟨#[116, 101, 120, 116]⟩] else []
def bparents : List (List TV) := [[TV.int .i64 (-1)], [TV.int .i64 0], [TV.int .i64 1], [TV.int .i64 2], [TV.int .i64 2], [TV.int .i64 0], [TV.int .i64 0], [TV.int .i64 0], [TV.int .i64 0], [TV.int .i64 0], [TV.int .i64 0], [TV.int .i64 0], [TV.int .i64 0], [TV.int .i64 0], [TV.int .i64 0], [TV.int .i64 0]]
theorem builtin_len : builtinL.length = 16 := rfl
theorem builtin_at {i : Nat} (h : i < 16) : ∃ x, builtinL[i]? = some x ∧ (strR builtinNames)[i]? = some [.str x.name] ∧ bparents[i]? = some [.int .i64 x.parent] ∧ bfields (i : Int) = x.fields ∧ builtinL.take (i + 1) = builtinL.take i ++ [x] := by
  match i, h with
  | 0, _ => exact ⟨_, rfl, rfl, rfl, rfl, rfl⟩
  | 1, _ => exact ⟨_, rfl, rfl, rfl, rfl, rfl⟩
  | 2, _ => exact ⟨_, rfl, rfl, rfl, rfl, rfl⟩
  | 3, _ => exact ⟨_, rfl, rfl, rfl, rfl, rfl⟩
  | 4, _ => exact ⟨_, rfl, rfl, rfl, rfl, rfl⟩
  | 5, _ => exact ⟨_, rfl, rfl, rfl, rfl, rfl⟩
  | 6, _ => exact ⟨_, rfl, rfl, rfl, rfl, rfl⟩
  | 7, _ => exact ⟨_, rfl, rfl, rfl, rfl, rfl⟩
  | 8, _ => exact ⟨_, rfl, rfl, rfl, rfl, rfl⟩
  | 9, _ => exact ⟨_, rfl, rfl, rfl, rfl, rfl⟩
  | 10, _ => exact ⟨_, rfl, rfl, rfl, rfl, rfl⟩
  | 11, _ => exact ⟨_, rfl, rfl, rfl, rfl, rfl⟩
  | 12, _ => exact ⟨_, rfl, rfl, rfl, rfl, rfl⟩
  | 13, _ => exact ⟨_, rfl, rfl, rfl, rfl, rfl⟩
  | 14, _ => exact ⟨_, rfl, rfl, rfl, rfl, rfl⟩
  | 15, _ => exact ⟨_, rfl, rfl, rfl, rfl, rfl⟩
  | n + 16, h => omega
section
variable {G : World → Prop}
theorem specBuiltin_ct : Ct Tryz.prog G 252 [] (fun K => .sl K 1 (strR builtinNames)) := by
  refine ct_enter Tryz.func252 rfl Tryz.ntmps252 rfl rfl fun w0 _ hG => ?_
  repeat' (first | refine W_ ?_ | refine e_lit ?_ | refine c_ (fun hc => ?_) (fun hc => ?_) | refine g_ (fun hg => ?_) (fun hg => ?_))
  refine aq_ret1 (r1 := .tmp 0) (t1 := .sl w0.heap.size 1 (strR builtinNames)) (.inr rfl) rfl (.tmp _ _ rfl) (fun _ => ?_)
  exact fin_sl (f := fun s : ByteArray => [TV.str s]) (f' := fun s : ByteArray => [TV.str s]) (fun x => .cons (.flat rfl) .nil) builtinNames
theorem implBuiltin_ct : Ct Tryz.prog G 263 [] (fun K => .sl K 1 (strR builtinNames)) := by
  refine ct_enter Tryz.func263 rfl Tryz.ntmps263 rfl rfl fun w0 _ hG => ?_
  repeat' (first | refine W_ ?_ | refine e_lit ?_ | refine c_ (fun hc => ?_) (fun hc => ?_) | refine g_ (fun hg => ?_) (fun hg => ?_))
  refine aq_ret1 (r1 := .tmp 0) (t1 := .sl w0.heap.size 1 (strR builtinNames)) (.inr rfl) rfl (.tmp _ _ rfl) (fun _ => ?_)
  exact fin_sl (f := fun s : ByteArray => [TV.str s]) (f' := fun s : ByteArray => [TV.str s]) (fun x => .cons (.flat rfl) .nil) builtinNames
theorem l7Fields_ct (tu : TV) (k : Int) (h : k < 16) : Ct Tryz.prog G 253 [tu, .int .i64 k] (fun K => .sl K 1 (strR (bfields k))) := by
  refine ct_enter Tryz.func253 rfl Tryz.ntmps253 rfl rfl fun w0 _ hG => ?_
  by_cases hk : k = 1 ∨ k = 2 ∨ k = 3 ∨ k = 4
  · rw [show bfields k = [⟨#[116, 101, 120, 116]⟩] from if_pos hk]
    repeat' (first | refine W_ ?_ | refine e_lit ?_ | refine c_ (fun hc => ?_) (fun hc => ?_) | refine g_ (fun hg => ?_) (fun hg => ?_))
    all_goals first
      | (exfalso; omega)
      | (refine aq_ret1 x_ rfl (.tmp _ _ rfl) (fun _ => ?_)
         exact fin_sl (f := fun s : ByteArray => [TV.str s]) (f' := fun s : ByteArray => [TV.str s]) (fun x => .cons (.flat rfl) .nil) [⟨#[116, 101, 120, 116]⟩])
  · rw [show bfields k = [] from if_neg hk]
    repeat' (first | refine W_ ?_ | refine e_lit ?_ | refine c_ (fun hc => ?_) (fun hc => ?_) | refine g_ (fun hg => ?_) (fun hg => ?_))
    all_goals first
      | (exfalso; omega)
      | (refine aq_ret1 x_ rfl (.tmp _ _ rfl) (fun _ => ?_)
         exact fin_sl (f := fun s : ByteArray => [TV.str s]) (f' := fun s : ByteArray => [TV.str s]) (fun x => .cons (.flat rfl) .nil) [])
theorem l8Infos_ct (hst : Stable G) (rest : List TV) : Ct Tryz.prog G 199 [.cp 0 (.nils :: rest)] (fun K => .sl K 3 (builtinL.map (TClassInfo.tw K))) := by
  refine ct_enter Tryz.func199 rfl Tryz.ntmps199 rfl rfl fun w0 _ hG => ?_
  repeat' (first | refine H_ 3 ?_ | refine e_call hG hst (specBuiltin_ct) ?_ | (refine e_own ?_; intro ss bb) | refine c_ (fun hc => ?_) (fun hc => ?_) | refine g_ (fun hg => ?_) (fun hg => ?_))
  refine ⟨?_⟩
  repeat' (first | refine W_ ?_ | refine e_lit ?_ | refine c_ (fun hc => ?_) (fun hc => ?_) | refine g_ (fun hg => ?_) (fun hg => ?_))
  apply aw_loopk (X := Nat × Nat) [0, 4, 5] (fun x => [(6, .int .i64 (x.1 : Int)), (3, .ms ss x.2 0 x.1)]) (fun x => [(ss, x.2, .row 3 ((builtinL.take x.1).map (TClassInfo.tw w0.heap.size)))]) (fun x => x.1 ≤ 16) (fun x => 16 - x.1) (0, bb) (Nat.zero_le _)
  exact kp_; exact nw_
  · exact .refl _
  rintro ⟨i, b⟩ hi
  dsimp only at hi ⊢
  by_cases hlt : i < 16
  · obtain ⟨x, hx, h1, h2, h3, h4⟩ := builtin_at hlt
    unfold bparents at h2
    have hle : ((builtinL.take i).map (TClassInfo.tw w0.heap.size)).length = i := by rw [List.length_map, List.length_take, builtin_len]; omega
    repeat' (first | refine W_ ?_ | (with_reducible apply aw_draw2 (id := 7) 14; kernel_rfl; kernel_rfl; kernel_rfl; (repeat (first | exact Cut.zero _ | apply Cut.succ))) | with_reducible refine aw_draw (by kernel_rfl) (by kernel_rfl) ?_ | with_reducible refine dr_nil ?_ | with_reducible refine dr_nil2 ?_ | with_reducible refine dr_none rfl ?_ | refine dr_run rfl rfl rfl rr_ ?_ | refine dr_skip rfl rfl rfl rr_ rfl rfl rfl ?_ | refine dr_skip2 rfl rfl rfl rr_ rfl rfl ?_ | (refine dr_gt rfl rfl rfl rr_ dd_ ?_) | (refine dr_gf rfl rfl rfl rr_ dd_ ?_) | (refine dr_gsplit rfl rfl rfl rr_ (fun hg => ?_) (fun hg => ?_)) | (refine dr_gsplit_b rfl rfl rfl rr_ (fun hg => ?_) (fun hg => ?_)) | ((with_reducible apply d_y); exact y_; rfl) | ((with_reducible apply d_call); rfl; kernel_rfl; (repeat (first | exact Args.nil | ((with_reducible apply Args.cons); rfl; exact .same _))); exact hG; exact hst; exact l7Fields_ct _ _ (by omega)) | refine e_buildd ?_ | refine e_litd ?_ | (refine e_app ?_; intro bb) | refine c_ (fun hc => ?_) (fun hc => ?_) | refine g_ (fun hg => ?_) (fun hg => ?_))
    have hrow : (builtinL.take i).map (TClassInfo.tw w0.heap.size) ++ [[TV.str x.name, .int .i64 x.parent, .sl w0.heap.size 1 (strR (bfields i))]] = (builtinL.take (i + 1)).map (TClassInfo.tw w0.heap.size) := by
      rw [h4, h3, List.map_append]; rfl
    rw [hrow]
    exact aq_round (i + 1, bb) (by dsimp only; omega) (by dsimp only; omega) (.of _ nw_ od_ pk_)
  · obtain rfl : i = 16 := by omega
    repeat' (first | refine W_ ?_ | refine c_ (fun hc => ?_) (fun hc => ?_) | refine g_ (fun hg => ?_) (fun hg => ?_))
    apply aw_loopk (X := Unit) [0, 3] (fun _ => [(7, .int .i64 0)]) (fun _ => [(ss, b, .row 3 (builtinL.map (TClassInfo.tw w0.heap.size)))]) (fun _ => True) (fun _ => 0) () trivial
    exact kp_; exact nw_
    · exact .refl _
    rintro _ -
    repeat' (first | refine W_ ?_ | refine c_ (fun hc => ?_) (fun hc => ?_) | refine g_ (fun hg => ?_) (fun hg => ?_))
    refine aq_ret1 x_ rfl (.tmp _ _ rfl) (fun _ => ?_)
    exact fin_ms (fun x => TClassInfo.fin _ _ _ x) List.mem_cons_self
end
end Go.Proofs.YtiihihgjiklnoaaGreatDoor
