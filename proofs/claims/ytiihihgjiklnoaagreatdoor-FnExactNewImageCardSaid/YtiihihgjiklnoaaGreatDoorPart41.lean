/- Part 41 of the proof: the texts NiY, NiZ, NiZ2. -/
import Derived.Test.YtiihihgjiklnoaaGreatDoorPart40
import Derived.Test.YtiihihgjiklnoaaGreatDoorPart28
import Derived.Test.YtiihihgjiklnoaaGreatDoorPart38
import Derived.Test.YtiihihgjiklnoaaGreatDoorPart30
/- A new image of a code base, given back by the reference's l17New. -/
namespace Go.Proofs.YtiihihgjiklnoaaGreatDoor
set_option maxRecDepth 20000
set_option maxHeartbeats 2000000
open Go Go.RowKit
section
variable {G : World → Prop}
set_option maxHeartbeats 2000000 in
theorem l17New_own (hst : Stable G) (f lo : Nat) (x : TCodeBase) (hb : x.small 1048576) (hv : verifiedP x) (q : Int) : CtM Tryz.prog G 50 [.cp f (x.tw lo), .int .i64 q] [] (imI (newIm x q)) (imO (newIm x q)) (fun y => .agg (imC (newIm x q) y)) := by
  refine ctm_enter Tryz.func50 rfl Tryz.ntmps50 rfl rfl rfl fun w0 R gs objsR hG hR => ?_
  obtain rfl := hR.inv0
  clear hR
  obtain ⟨cm, j, hmj, hcm, hs0, hs1, hsn⟩ := verified_main hv
  have hra : (x.codes.map (TCode.tw lo))[j]? = some (cm.tw lo) := by rw [List.getElem?_map, hcm]; rfl
  have hlj : j < x.codes.length := (List.getElem?_eq_some_iff.1 hcm).1
  have hcl := TCode.len lo x.codes
  have hc1 := hb.2.1.1
  rw [show cm.tw lo = [.bool cm.block, .int .i64 cm.params, .int .i64 cm.slots, .sl lo 4 (cm.instrs.map (TInstr.tw lo))] from rfl] at hra
  have c0 := l14Base_own hst f lo x hb
  have n0 := fun (y : CbP) (_ : cbI x y) => cb_new x y
  have c1 := l11ClassesCopy_own hst lo x.classes hb.1
  have n1 := fun (y : (Nat × Nat) × List (Nat × Nat)) (_ : y.2.length = x.classes.length) => nest_new (m := 3) (s := y.1.1) (b := y.1.2) (n := x.classes.length) clsMk_new clsOb_new x.classes y.2
  unfold TCodeBase.tw at c0 ⊢
  unfold cbC at c0 n0
  repeat' (first | refine W_ ?_ | (refine e_alloc ?_; intro ss bb) | ((with_reducible apply aw_drawM (id := 1) 11); kernel_rfl; kernel_rfl; kernel_rfl; rfl; (repeat (first | exact Cut.zero _ | apply Cut.succ))) | ((with_reducible apply m_q); exact ym_; rfl; exact ind_) | ((with_reducible apply m_build); rfl; (intro p; try dsimp only); (repeat (first | exact TB.nil _ | ((with_reducible apply TB.cons); rfl; rfl; (first | exact .nil _ | exact .put _ _ _ _ _ (.nil _) | exact .skip _ _ _ _ _ (.put _ _ _ _ _ (.nil _)) | exact .skip _ _ _ _ _ (.skip _ _ _ _ _ (.put _ _ _ _ _ (.nil _))) | (repeat (first | exact .nil _ | apply Splice.put | apply Splice.skip))); kernel_rfl))); rfl; kernel_rfl; kernel_rfl; exact ind_) | ((with_reducible apply m_alloc); rfl; rfl; kernel_rfl) | ((with_reducible apply m_call hG hst c0); rfl; kernel_rfl; (intro p; (repeat (first | exact Args.nil | ((with_reducible apply Args.cons); rfl; exact .same _)))); exact n0) | ((with_reducible apply m_call hG hst c1); rfl; kernel_rfl; (intro p; (repeat (first | exact Args.nil | ((with_reducible apply Args.cons); rfl; exact .same _)))); exact n1) | (with_reducible refine DM.nil _ _ _ ?_) | refine c_ (fun hc => ?_) (fun hc => ?_) | refine g_ (fun hg => ?_) (fun hg => ?_))
  generalize ss = s2; generalize bb = b2
  intro p hp
  simp only [List.forall_mem_cons] at hp
  obtain ⟨_, h4, h1, _⟩ := hp
  refine al_obj (objs' := ((p 10).a, (p 10).b, .box TImage.tz) :: (clsO x.classes (Enc.dec (p 6)) ++ (cbO x (Enc.dec (p 1)) ++ ((s2, b2, .box TImage.tz) :: R)))) (by rw [show liveL _ = [_, _, _] from rfl]; simp only [List.flatMap_cons, List.flatMap_nil, List.append_nil, List.append_assoc, List.cons_append, List.nil_append]; rfl) ?_
  unfold TImage.tz
  dsimp only [Nat.reduceAdd] at h1 h4 ⊢
  generalize (Enc.dec (p 6) : (Nat × Nat) × List (Nat × Nat)) = yc at h4 ⊢
  generalize (Enc.dec (p 1) : CbP) = yb at h1 ⊢
  generalize Yu.a (p 10) = s3
  generalize Yu.b (p 10) = b3
  obtain ⟨n, hn⟩ : ∃ n : Nat, n = slotsN x := ⟨_, rfl⟩
  rw [← hn] at hsn
  have hsz : cm.slots = (n : Int) := by omega
  repeat' (first | refine W_ ?_ | refine e_storep ?_ | ((with_reducible apply aw_drawM (id := 2) 17); kernel_rfl; kernel_rfl; kernel_rfl; rfl; (repeat (first | exact Cut.zero _ | apply Cut.succ))) | ((with_reducible apply m_q); exact ym_; rfl; exact ind_) | ((with_reducible apply m_build); rfl; (intro p; try dsimp only); (repeat (first | exact TB.nil _ | ((with_reducible apply TB.cons); rfl; rfl; (first | exact .nil _ | exact .put _ _ _ _ _ (.nil _) | exact .skip _ _ _ _ _ (.put _ _ _ _ _ (.nil _)) | exact .skip _ _ _ _ _ (.skip _ _ _ _ _ (.put _ _ _ _ _ (.nil _))) | (repeat (first | exact .nil _ | apply Splice.put | apply Splice.skip))); kernel_rfl))); rfl; kernel_rfl; kernel_rfl; exact ind_) | ((with_reducible apply m_make); (intro p; rfl); rfl; rfl; exact hsz; kernel_rfl; kernel_rfl; rfl; rfl; kernel_rfl; omega) | (with_reducible refine DM.nil _ _ _ ?_) | refine c_ (fun hc => ?_) (fun hc => ?_) | refine g_ (fun hg => ?_) (fun hg => ?_))
  intro p hp
  refine al_obj (objs' := ((p 15).a, (p 15).b, .row 3 (List.replicate n TValue.tz)) :: ((s3, b3, .box [.ms yb.1.1.1 yb.1.1.2 0 x.classes.length, .ms yb.2.1.1.1 yb.2.1.1.2 0 x.codes.length, .ms yb.2.2.1 yb.2.2.2 0 x.entries.length, .int .i64 x.main, .ms yc.1.1 yc.1.2 0 x.classes.length, .nils, .nils, .int .i64 0, .int .i64 q, .int .i64 0, .nils, .nils, .nils, .nils, .int .i64 0, .int .i64 0, .int .i64 0, .int .i64 0, .str ⟨#[]⟩, .str ⟨#[]⟩]) :: (clsO x.classes yc ++ (cbO x yb ++ ((s2, b2, .box TImage.tz) :: R))))) (by rw [show liveL _ = [_] from rfl]; simp only [List.flatMap_cons, List.flatMap_nil, List.append_nil, List.cons_append, List.nil_append]; rfl) ?_
  dsimp only [Nat.reduceAdd]
  generalize Yu.a (p 15) = s4
  generalize Yu.b (p 15) = b4
  unfold TImage.tz
  refine al_pick (objs' := (s2, b2, .box [.nils, .nils, .nils, .int .i64 0, .nils, .nils, .nils, .int .i64 0, .int .i64 0, .int .i64 0, .nils, .nils, .nils, .nils, .int .i64 0, .int .i64 0, .int .i64 0, .int .i64 0, .str ⟨#[]⟩, .str ⟨#[]⟩]) :: (s4, b4, .row 3 (List.replicate n TValue.tz)) :: (s3, b3, .box [.ms yb.1.1.1 yb.1.1.2 0 x.classes.length, .ms yb.2.1.1.1 yb.2.1.1.2 0 x.codes.length, .ms yb.2.2.1 yb.2.2.2 0 x.entries.length, .int .i64 x.main, .ms yc.1.1 yc.1.2 0 x.classes.length, .nils, .nils, .int .i64 0, .int .i64 q, .int .i64 0, .nils, .nils, .nils, .nils, .int .i64 0, .int .i64 0, .int .i64 0, .int .i64 0, .str ⟨#[]⟩, .str ⟨#[]⟩]) :: (clsO x.classes yc ++ (cbO x yb ++ R))) (.perm (by
    have h := List.perm_middle (l₁ := (clsO x.classes yc ++ cbO x yb)) (l₂ := R) (a := (s2, b2, TObj.box [.nils, .nils, .nils, .int .i64 0, .nils, .nils, .nils, .int .i64 0, .int .i64 0, .int .i64 0, .nils, .nils, .nils, .nils, .int .i64 0, .int .i64 0, .int .i64 0, .int .i64 0, .str ⟨#[]⟩, .str ⟨#[]⟩]))
    simp only [List.append_assoc] at h
    exact (((h.cons _).cons _).trans (((List.Perm.swap _ _ _).cons _).trans (List.Perm.swap _ _ _))).symm)) ?_
  repeat' (first | refine H_ 4 ?_ | refine e_storep ?_ | (refine e_own ?_; intro ss bb) | refine e_build ?_ | refine c_ (fun hc => ?_) (fun hc => ?_) | refine g_ (fun hg => ?_) (fun hg => ?_))
  refine ⟨?_⟩
  rename_i sC bC
  generalize ss = sP
  generalize bb = bP
  refine aw_pick (.perm (List.Perm.swap _ _ _)) ?_
  refine aw_nilR 10 3 (by decide) rfl fun st => ?_
  refine aw_nilR 11 3 (by decide) rfl fun sv => ?_
  refine aw_pick (.perm (List.perm_middle (l₁ := [_, _, _, _, _, _])).symm) ?_
  simp only [List.cons_append, List.nil_append]
  refine aw_nilC 5 4 (by decide) rfl fun so => ?_
  refine aw_nilC 6 1 (by decide) rfl fun sou => ?_
  refine aw_nilC 10 6 (by decide) rfl fun sbk => ?_
  refine aw_nilC 13 1 (by decide) rfl fun srd => ?_
  dsimp only [List.set]
  refine aw_pick (pick_new _ _ _ _ _ _ _ _ _ _ _ _ _ _) ?_
  repeat' (first | refine W_ ?_ | ((with_reducible apply o_load_agg_mp); rfl; rfl; kernel_rfl; kernel_rfl; kernel_rfl; rfl; (repeat (first | with_reducible exact mh | with_reducible refine mt ?_)); (repeat (first | exact .zero _ | apply Taken.succ))) | ((with_reducible apply o_load_agg_cp); rfl; rfl; kernel_rfl; kernel_rfl; kernel_rfl; rfl; (repeat (first | exact .zero _ | apply Taken.succ))) | ((with_reducible apply o_load_agg_me); rfl; rfl; kernel_rfl; kernel_rfl; kernel_rfl; rfl; (repeat (first | with_reducible exact mh | with_reducible refine mt ?_)); (first | (with_reducible assumption) | (refine row_map ?_; omega) | (refine set_row ?_; simp only [List.length_set, List.length_map]; omega) | exact rfl | assumption); (repeat (first | exact .zero _ | apply Taken.succ))) | refine e_storep ?_ | refine c_ (fun hc => ?_) (fun hc => ?_) | refine g_ (fun hg => ?_) (fun hg => ?_))
  have e : (List.replicate n zVal).map (TValue.tw 0) = List.replicate n TValue.tz := by rw [List.map_replicate]; rfl
  subst hn
  refine aq_retm1 (t1 := .agg [.ms yb.1.1.1 yb.1.1.2 0 x.classes.length, .ms yb.2.1.1.1 yb.2.1.1.2 0 x.codes.length, .ms yb.2.2.1 yb.2.2.2 0 x.entries.length, .int .i64 x.main, .ms yc.1.1 yc.1.2 0 x.classes.length, .ms so 0 0 0, .ms sou 0 0 0, .int .i64 0, .int .i64 q, .int .i64 0, .ms sbk 0 0 0, .ms sC bC 0 1, .ms sP bP 0 1, .ms srd 0 0 0, .int .i64 0, .int .i64 0, .int .i64 0, .int .i64 0, .str ⟨#[]⟩, .str ⟨#[]⟩]) x_ rfl (yb, (yc, ((so, 0), []), (sou, 0)), (sbk, 0), ((sC, bC), [((s4, b4), (st, 0), (sv, 0))]), (sP, bP), (srd, 0)) ⟨h1, ⟨h4, rfl⟩, rfl⟩ rfl (.app _ R) (.drop (.drop ?_)) (.cell _ _ _ _ _ rfl mm_ (by kernel_rfl) (by kernel_rfl) (by kernel_rfl)) rfl
  refine pick_eq ?_
  rw [← e]
  simp [imO, stO, ctxO, objO, nRg, nOg, ctxMk, ctxOb, newIm, zVal, TProcess.tw, intR, strR]
end
end Go.Proofs.YtiihihgjiklnoaaGreatDoor
/- NewImage of both programs, as calls that give back an image. -/
namespace Go.Proofs.YtiihihgjiklnoaaGreatDoor
set_option maxRecDepth 20000
set_option maxHeartbeats 2000000
open Go Go.RowKit
def zIm : TImage := ⟨⟨[], [], [], 0⟩, ⟨[], [], [], 0, 0, 0⟩, [], [], [], [], 0, 0, zVal, ⟨#[]⟩⟩
noncomputable def okI (x : TCodeBase) (q : Int) : Bool := verifiedB x && inR q 0 3000
noncomputable def imgB (x : TCodeBase) (q : Int) : TImage := if okI x q = true then newIm x q else zIm
theorem pick_ten (z a0 a1 a2 a4 a5 a6 a10 a11 a12 a13 : Nat × Nat × TObj) (R : Objs) : Pick ((([a0] ++ ([a1] ++ [a2])) ++ (([a4] ++ ([a5] ++ [a6])) ++ ([a10] ++ ([a11] ++ ([a12] ++ [a13]))))) ++ R) (z :: a13 :: a12 :: a11 :: a10 :: a6 :: a5 :: a4 :: a2 :: a1 :: a0 :: R) := .drop (.perm (by
  have h := perm_seg (n := 11) [[a0], [a1], [a2], [a4], [a5], [a6], [a10], [a11], [a12], [a13], R] [9, 8, 7, 6, 5, 4, 3, 2, 1, 0, 10] rfl (by decide)
  simpa using h.symm))
set_option maxHeartbeats 2000000 in
theorem specNewImage_ctm (lo : Nat) (x : TCodeBase) (hx : TCodeBase.small 1048576 x) (q : Int) : CtM Tryz.prog GL 13 [.agg (x.tw lo), .int .i64 q] [] (imI (imgB x q)) (imO (imgB x q)) (fun y => .tup [.agg (imC (imgB x q) y), .bool (okI x q)]) := by
  refine ctm_enter Tryz.func13 rfl Tryz.ntmps13 rfl rfl rfl fun w0 R gs objsR hG hR => ?_
  obtain rfl := hR.inv0
  clear hR
  have hst := GL_st
  have hver := l16Verified_ct w0.heap.size lo x.classes x.entries x.codes x.main hx.1 hx.2.1 hx.2.2
  have hin := l1In_ct (G := GL) q 0 3000
  have hB : verifiedB ⟨x.classes, x.codes, x.entries, x.main⟩ = verifiedB x := rfl
  rw [hB] at hver
  by_cases hok : okI x q = true
  · have hs : imgB x q = newIm x q := if_pos hok
    have h1 : verifiedB x = true ∧ inR q 0 3000 = true := by simpa [okI] using hok
    have hvp : verifiedP x := Classical.byContradiction fun h => by rw [verified_f h] at h1; cases h1.1
    have hnw := l17New_own hst w0.heap.size lo x hx hvp q
    rw [hs, hok]
    rw [h1.1] at hver
    rw [h1.2] at hin
    unfold imC at hnw ⊢
    unfold TCodeBase.tw at hnw ⊢
    dsimp only [newIm, zVal, List.length_cons, List.length_nil, Nat.reduceAdd] at hnw ⊢
    repeat' (first | refine W_ ?_ | refine e_box ?_ | (refine e_alloc ?_; intro ss bb) | refine e_storep ?_ | refine e_call hG hst (hver) ?_ | refine e_call hG hst (hin) ?_ | ((with_reducible apply o_callM); rfl; kernel_rfl; (repeat (first | exact ArgsM.nil | ((with_reducible apply ArgsM.cons); rfl))); exact hG; exact hnw; exact .nil _; intro y hy; refine al_pick (pick_mid1 _ _ _) ?_) | refine c_ (fun hc => ?_) (fun hc => ?_) | refine g_ (fun hg => ?_) (fun hg => ?_))
    exact aq_retm2 (t1 := .agg [.ms y.1.1.1.1 y.1.1.1.2 0 x.classes.length, .ms y.1.2.1.1.1 y.1.2.1.1.2 0 x.codes.length, .ms y.1.2.2.1 y.1.2.2.2 0 x.entries.length, .int .i64 x.main, .ms y.2.1.1.1.1 y.2.1.1.1.2 0 x.classes.length, .ms y.2.1.2.1.1.1 y.2.1.2.1.1.2 0 0, .ms y.2.1.2.2.1 y.2.1.2.2.2 0 0, .int .i64 0, .int .i64 q, .int .i64 0, .ms y.2.2.1.1 y.2.2.1.2 0 0, .ms y.2.2.2.1.1.1 y.2.2.2.1.1.2 0 1, .ms y.2.2.2.2.1.1 y.2.2.2.2.1.2 0 1, .ms y.2.2.2.2.2.1 y.2.2.2.2.2.2 0 0, .int .i64 0, .int .i64 0, .int .i64 0, .int .i64 0, .str ⟨#[]⟩, .str ⟨#[]⟩]) (t2 := .bool true) x_ rfl y hy rfl (.app _ R) (.drop (.refl _)) (.cell _ _ _ _ _ rfl mm_ (by kernel_rfl) (by kernel_rfl) (by kernel_rfl)) (.tmp _ _ rfl) rfl
  · have hs : imgB x q = zIm := if_neg hok
    have hok2 : okI x q = false := by simpa using hok
    rw [hs, hok2]
    cases hV : verifiedB x with
    | false =>
      rw [hV] at hver
      unfold TCodeBase.tw
      repeat' (first | refine W_ ?_ | refine e_box ?_ | (refine e_alloc ?_; intro ss bb) | refine e_build ?_ | refine e_storep ?_ | refine e_call hG hst (hver) ?_ | refine e_call hG hst (hin) ?_ | refine c_ (fun hc => ?_) (fun hc => ?_) | refine g_ (fun hg => ?_) (fun hg => ?_))
      refine aq_nilC 0 3 (by decide) rfl fun s0 => ?_
      refine aq_nilC 1 4 (by decide) rfl fun s1 => ?_
      refine aq_nilC 2 4 (by decide) rfl fun s2 => ?_
      refine aq_nilC 4 3 (by decide) rfl fun s4 => ?_
      refine aq_nilC 5 4 (by decide) rfl fun s5 => ?_
      refine aq_nilC 6 1 (by decide) rfl fun s6 => ?_
      refine aq_nilC 10 6 (by decide) rfl fun s10 => ?_
      refine aq_nilC 11 14 (by decide) rfl fun s11 => ?_
      refine aq_nilC 12 2 (by decide) rfl fun s12 => ?_
      refine aq_nilC 13 1 (by decide) rfl fun s13 => ?_
      dsimp only [List.set]
      exact aq_retm2 (t1 := .agg [.ms s0 0 0 0, .ms s1 0 0 0, .ms s2 0 0 0, .int .i64 0, .ms s4 0 0 0, .ms s5 0 0 0, .ms s6 0 0 0, .int .i64 0, .int .i64 0, .int .i64 0, .ms s10 0 0 0, .ms s11 0 0 0, .ms s12 0 0 0, .ms s13 0 0 0, .int .i64 0, .int .i64 0, .int .i64 0, .int .i64 0, .str ⟨#[]⟩, .str ⟨#[]⟩]) (t2 := .bool false) x_ rfl ((((s0, 0), []), ((s1, 0), []), (s2, 0)), (((s4, 0), []), ((s5, 0), []), (s6, 0)), (s10, 0), ((s11, 0), []), (s12, 0), (s13, 0)) ⟨⟨rfl, rfl⟩, ⟨rfl, rfl⟩, rfl⟩ rfl (.app _ R) (pick_ten _ _ _ _ _ _ _ _ _ _ _ R) (.cell _ _ _ _ _ rfl mm_ (by kernel_rfl) (by kernel_rfl) (by kernel_rfl)) (.tmp _ _ rfl) rfl
    | true =>
      have hq : inR q 0 3000 = false := by simpa [okI, hV] using hok2
      rw [hV] at hver
      rw [hq] at hin
      unfold TCodeBase.tw
      repeat' (first | refine W_ ?_ | refine e_box ?_ | (refine e_alloc ?_; intro ss bb) | refine e_build ?_ | refine e_storep ?_ | refine e_call hG hst (hver) ?_ | refine e_call hG hst (hin) ?_ | refine c_ (fun hc => ?_) (fun hc => ?_) | refine g_ (fun hg => ?_) (fun hg => ?_))
      refine aq_nilC 0 3 (by decide) rfl fun s0 => ?_
      refine aq_nilC 1 4 (by decide) rfl fun s1 => ?_
      refine aq_nilC 2 4 (by decide) rfl fun s2 => ?_
      refine aq_nilC 4 3 (by decide) rfl fun s4 => ?_
      refine aq_nilC 5 4 (by decide) rfl fun s5 => ?_
      refine aq_nilC 6 1 (by decide) rfl fun s6 => ?_
      refine aq_nilC 10 6 (by decide) rfl fun s10 => ?_
      refine aq_nilC 11 14 (by decide) rfl fun s11 => ?_
      refine aq_nilC 12 2 (by decide) rfl fun s12 => ?_
      refine aq_nilC 13 1 (by decide) rfl fun s13 => ?_
      dsimp only [List.set]
      exact aq_retm2 (t1 := .agg [.ms s0 0 0 0, .ms s1 0 0 0, .ms s2 0 0 0, .int .i64 0, .ms s4 0 0 0, .ms s5 0 0 0, .ms s6 0 0 0, .int .i64 0, .int .i64 0, .int .i64 0, .ms s10 0 0 0, .ms s11 0 0 0, .ms s12 0 0 0, .ms s13 0 0 0, .int .i64 0, .int .i64 0, .int .i64 0, .int .i64 0, .str ⟨#[]⟩, .str ⟨#[]⟩]) (t2 := .bool false) x_ rfl ((((s0, 0), []), ((s1, 0), []), (s2, 0)), (((s4, 0), []), ((s5, 0), []), (s6, 0)), (s10, 0), ((s11, 0), []), (s12, 0), (s13, 0)) ⟨⟨rfl, rfl⟩, ⟨rfl, rfl⟩, rfl⟩ rfl (.app _ R) (pick_ten _ _ _ _ _ _ _ _ _ _ _ R) (.cell _ _ _ _ _ rfl mm_ (by kernel_rfl) (by kernel_rfl) (by kernel_rfl)) (.tmp _ _ rfl) rfl
end Go.Proofs.YtiihihgjiklnoaaGreatDoor
/- The program's NewImage, as a call that gives back an image. -/
namespace Go.Proofs.YtiihihgjiklnoaaGreatDoor
set_option maxRecDepth 20000
set_option maxHeartbeats 2000000
open Go Go.RowKit
theorem zIm_small (n : Nat) : zIm.small n :=
  ⟨⟨⟨Nat.zero_le _, by simp [zIm]⟩, ⟨Nat.zero_le _, by simp [zIm]⟩, Nat.zero_le _, by simp [zIm]⟩, ⟨⟨Nat.zero_le _, by simp [zIm]⟩, ⟨Nat.zero_le _, by simp [zIm]⟩, Nat.zero_le _, by simp [zIm]⟩, ⟨Nat.zero_le _, by simp [zIm]⟩, ⟨Nat.zero_le _, by simp [zIm]⟩, ⟨Nat.zero_le _, by simp [zIm]⟩, Nat.zero_le _, Nat.zero_le _, Nat.zero_le _⟩
theorem imgB_small {x : TCodeBase} (hb : x.small 1048576) (q : Int) : (imgB x q).small 1048576 := by
  unfold imgB
  split
  · rename_i h
    have h1 : verifiedB x = true ∧ inR q 0 3000 = true := by simpa [okI] using h
    have hvp : verifiedP x := Classical.byContradiction fun h => by rw [verified_f h] at h1; cases h1.1
    obtain ⟨c, j, _, _, h2, h3, h4⟩ := verified_main hvp
    exact newIm_small q hb (by omega) (by omega)
  · exact zIm_small _
set_option maxHeartbeats 2000000 in
theorem implNewImage_ctm (lo : Nat) (x : TCodeBase) (hx : TCodeBase.small 1048576 x) (q : Int) : CtM Tryz.prog GL 15 [.agg (x.tw lo), .int .i64 q] [] (imI (imgB x q)) (imO (imgB x q)) (fun y => .tup [.agg (imC (imgB x q) y), .bool (okI x q)]) := by
  refine ctm_enter Tryz.func15 rfl Tryz.ntmps15 rfl rfl rfl fun w0 R gs objsR hG hR => ?_
  obtain rfl := hR.inv0
  clear hR
  have hst := GL_st
  have hver := implIsVerified_ct lo x.classes x.entries x.codes x.main hx.1 hx.2.1 hx.2.2
  have hin := within_ct (G := GL) q 0 3000
  have hB : verifiedB ⟨x.classes, x.codes, x.entries, x.main⟩ = verifiedB x := rfl
  rw [hB] at hver
  by_cases hok : okI x q = true
  · have hs : imgB x q = newIm x q := if_pos hok
    have h1 : verifiedB x = true ∧ inR q 0 3000 = true := by simpa [okI] using hok
    have hvp : verifiedP x := Classical.byContradiction fun h => by rw [verified_f h] at h1; cases h1.1
    have hnw := implNewImage_own hst lo x hx hvp q
    rw [hs, hok]
    rw [h1.1] at hver
    rw [h1.2] at hin
    unfold imC at hnw ⊢
    unfold TCodeBase.tw at hnw ⊢
    dsimp only [newIm, zVal, List.length_cons, List.length_nil, Nat.reduceAdd] at hnw ⊢
    repeat' (first | refine W_ ?_ | refine e_box ?_ | (refine e_alloc ?_; intro ss bb) | refine e_storep ?_ | refine e_call hG hst (hver) ?_ | refine e_call hG hst (hin) ?_ | ((with_reducible apply o_callM); rfl; kernel_rfl; (repeat (first | exact ArgsM.nil | ((with_reducible apply ArgsM.cons); rfl))); exact hG; exact hnw; exact .nil _; intro y hy; refine al_pick (pick_mid1 _ _ _) ?_) | refine c_ (fun hc => ?_) (fun hc => ?_) | refine g_ (fun hg => ?_) (fun hg => ?_))
    exact aq_retm2 (t1 := .agg [.ms y.1.1.1.1 y.1.1.1.2 0 x.classes.length, .ms y.1.2.1.1.1 y.1.2.1.1.2 0 x.codes.length, .ms y.1.2.2.1 y.1.2.2.2 0 x.entries.length, .int .i64 x.main, .ms y.2.1.1.1.1 y.2.1.1.1.2 0 x.classes.length, .ms y.2.1.2.1.1.1 y.2.1.2.1.1.2 0 0, .ms y.2.1.2.2.1 y.2.1.2.2.2 0 0, .int .i64 0, .int .i64 q, .int .i64 0, .ms y.2.2.1.1 y.2.2.1.2 0 0, .ms y.2.2.2.1.1.1 y.2.2.2.1.1.2 0 1, .ms y.2.2.2.2.1.1 y.2.2.2.2.1.2 0 1, .ms y.2.2.2.2.2.1 y.2.2.2.2.2.2 0 0, .int .i64 0, .int .i64 0, .int .i64 0, .int .i64 0, .str ⟨#[]⟩, .str ⟨#[]⟩]) (t2 := .bool true) x_ rfl y hy rfl (.app _ R) (.drop (.refl _)) (.cell _ _ _ _ _ rfl mm_ (by kernel_rfl) (by kernel_rfl) (by kernel_rfl)) (.tmp _ _ rfl) rfl
  · have hs : imgB x q = zIm := if_neg hok
    have hok2 : okI x q = false := by simpa using hok
    rw [hs, hok2]
    cases hV : verifiedB x with
    | false =>
      rw [hV] at hver
      unfold TCodeBase.tw
      repeat' (first | refine W_ ?_ | refine e_box ?_ | (refine e_alloc ?_; intro ss bb) | refine e_build ?_ | refine e_storep ?_ | refine e_call hG hst (hver) ?_ | refine e_call hG hst (hin) ?_ | refine c_ (fun hc => ?_) (fun hc => ?_) | refine g_ (fun hg => ?_) (fun hg => ?_))
      refine aq_nilC 0 3 (by decide) rfl fun s0 => ?_
      refine aq_nilC 1 4 (by decide) rfl fun s1 => ?_
      refine aq_nilC 2 4 (by decide) rfl fun s2 => ?_
      refine aq_nilC 4 3 (by decide) rfl fun s4 => ?_
      refine aq_nilC 5 4 (by decide) rfl fun s5 => ?_
      refine aq_nilC 6 1 (by decide) rfl fun s6 => ?_
      refine aq_nilC 10 6 (by decide) rfl fun s10 => ?_
      refine aq_nilC 11 14 (by decide) rfl fun s11 => ?_
      refine aq_nilC 12 2 (by decide) rfl fun s12 => ?_
      refine aq_nilC 13 1 (by decide) rfl fun s13 => ?_
      dsimp only [List.set]
      exact aq_retm2 (t1 := .agg [.ms s0 0 0 0, .ms s1 0 0 0, .ms s2 0 0 0, .int .i64 0, .ms s4 0 0 0, .ms s5 0 0 0, .ms s6 0 0 0, .int .i64 0, .int .i64 0, .int .i64 0, .ms s10 0 0 0, .ms s11 0 0 0, .ms s12 0 0 0, .ms s13 0 0 0, .int .i64 0, .int .i64 0, .int .i64 0, .int .i64 0, .str ⟨#[]⟩, .str ⟨#[]⟩]) (t2 := .bool false) x_ rfl ((((s0, 0), []), ((s1, 0), []), (s2, 0)), (((s4, 0), []), ((s5, 0), []), (s6, 0)), (s10, 0), ((s11, 0), []), (s12, 0), (s13, 0)) ⟨⟨rfl, rfl⟩, ⟨rfl, rfl⟩, rfl⟩ rfl (.app _ R) (pick_ten _ _ _ _ _ _ _ _ _ _ _ R) (.cell _ _ _ _ _ rfl mm_ (by kernel_rfl) (by kernel_rfl) (by kernel_rfl)) (.tmp _ _ rfl) rfl
    | true =>
      have hq : inR q 0 3000 = false := by simpa [okI, hV] using hok2
      rw [hV] at hver
      rw [hq] at hin
      unfold TCodeBase.tw
      repeat' (first | refine W_ ?_ | refine e_box ?_ | (refine e_alloc ?_; intro ss bb) | refine e_build ?_ | refine e_storep ?_ | refine e_call hG hst (hver) ?_ | refine e_call hG hst (hin) ?_ | refine c_ (fun hc => ?_) (fun hc => ?_) | refine g_ (fun hg => ?_) (fun hg => ?_))
      refine aq_nilC 0 3 (by decide) rfl fun s0 => ?_
      refine aq_nilC 1 4 (by decide) rfl fun s1 => ?_
      refine aq_nilC 2 4 (by decide) rfl fun s2 => ?_
      refine aq_nilC 4 3 (by decide) rfl fun s4 => ?_
      refine aq_nilC 5 4 (by decide) rfl fun s5 => ?_
      refine aq_nilC 6 1 (by decide) rfl fun s6 => ?_
      refine aq_nilC 10 6 (by decide) rfl fun s10 => ?_
      refine aq_nilC 11 14 (by decide) rfl fun s11 => ?_
      refine aq_nilC 12 2 (by decide) rfl fun s12 => ?_
      refine aq_nilC 13 1 (by decide) rfl fun s13 => ?_
      dsimp only [List.set]
      exact aq_retm2 (t1 := .agg [.ms s0 0 0 0, .ms s1 0 0 0, .ms s2 0 0 0, .int .i64 0, .ms s4 0 0 0, .ms s5 0 0 0, .ms s6 0 0 0, .int .i64 0, .int .i64 0, .int .i64 0, .ms s10 0 0 0, .ms s11 0 0 0, .ms s12 0 0 0, .ms s13 0 0 0, .int .i64 0, .int .i64 0, .int .i64 0, .int .i64 0, .str ⟨#[]⟩, .str ⟨#[]⟩]) (t2 := .bool false) x_ rfl ((((s0, 0), []), ((s1, 0), []), (s2, 0)), (((s4, 0), []), ((s5, 0), []), (s6, 0)), (s10, 0), ((s11, 0), []), (s12, 0), (s13, 0)) ⟨⟨rfl, rfl⟩, ⟨rfl, rfl⟩, rfl⟩ rfl (.app _ R) (pick_ten _ _ _ _ _ _ _ _ _ _ _ R) (.cell _ _ _ _ _ rfl mm_ (by kernel_rfl) (by kernel_rfl) (by kernel_rfl)) (.tmp _ _ rfl) rfl
end Go.Proofs.YtiihihgjiklnoaaGreatDoor
