/- Part 24 of the proof: the texts NiS, MkV, EngAG, EngAH. -/
import Derived.Test.YtiihihgjiklnoaaGreatDoorPart23
import Derived.Test.YtiihihgjiklnoaaGreatDoorPart21
import Derived.Test.YtiihihgjiklnoaaGreatDoorPart16
import Derived.Test.YtiihihgjiklnoaaGreatDoorPart14
/- The laws' marks of a store and of an image that the call owns: exact. -/
namespace Go.Proofs.YtiihihgjiklnoaaGreatDoor
set_option maxRecDepth 20000
open Go Go.RowKit
theorem pick_mv4 (X Y Z D R : Objs) : Pick (D ++ (X ++ (Y ++ (Z ++ R)))) (X ++ (Y ++ (Z ++ (D ++ R)))) := by
  simpa using front [X, Y, Z] [R] D
theorem pick_mv5 (W X Y Z D R : Objs) : Pick (D ++ (W ++ (X ++ (Y ++ (Z ++ R))))) (W ++ (X ++ (Y ++ (Z ++ (D ++ R))))) := by
  simpa using front [W, X, Y, Z] [R] D
theorem pick_mv6 (V W X Y Z D R : Objs) : Pick (D ++ (V ++ (W ++ (X ++ (Y ++ (Z ++ R)))))) (V ++ (W ++ (X ++ (Y ++ (Z ++ (D ++ R)))))) := by
  simpa using front [V, W, X, Y, Z] [R] D
theorem pick_six (A B C D E F R : Objs) : Pick (A ++ (B ++ (C ++ (D ++ (E ++ (F ++ R)))))) (F ++ (E ++ (D ++ (C ++ (A ++ (B ++ R)))))) := .perm (by
  have h1 : [F, E, D, C, B, A].Perm [A, B, C, D, E, F] := (List.reverse_perm [A, B, C, D, E, F])
  have h2 : [F, E, D, C, A, B].Perm [F, E, D, C, B, A] := ((((List.Perm.swap B A []).cons C).cons D).cons E).cons F
  have h3 := (perm_flat (h2.trans h1)).append_right R
  simpa [List.append_assoc] using h3.symm)
def mkStore (k : Int) (x : TStore) : TStore := ⟨mkL mkClassInfo nxClassInfo k x.classes, mkL mkObject nxObject (kL nxClassInfo k x.classes) x.objects, mkL mkString nxString (kL nxObject (kL nxClassInfo k x.classes) x.objects) x.output, x.ticks, x.budget, x.made⟩
def nxStore (k : Int) (x : TStore) : Int := kL nxString (kL nxObject (kL nxClassInfo k x.classes) x.objects) x.output
theorem nxStore_in {x : TStore} (hb : x.small 1048576) (k : Int) : k ≤ nxStore k x ∧ nxStore k x ≤ k + 6000000000000 := by
  have h1 := kL_take (k := k) (i := x.classes.length) hb.1.1 (nxClassInfo_in hb.1.2) (Nat.le_refl _)
  have h2 := kL_take (k := kL nxClassInfo k x.classes) (i := x.objects.length) hb.2.1.1 (nxObject_in hb.2.1.2) (Nat.le_refl _)
  have h3 := kL_take (k := kL nxObject (kL nxClassInfo k x.classes) x.objects) (i := x.output.length) hb.2.2.1 (nxString_in x.output) (Nat.le_refl _)
  rw [List.take_length] at h1 h2 h3
  unfold nxStore
  omega
section
variable {G : World → Prop}
theorem markStore_own (hst : Stable G) (x : TStore) (y : StP) (hy : stI x y) (hb : x.small 1048576) (k : Int) (hk : 0 ≤ k ∧ k ≤ 60000000000000) :
    CtM Tryz.prog G 68 [.agg (stC x y), .int .i64 k] (stO x y) (fun _ : Unit => True) (fun _ => stO (mkStore k x) y) (fun _ => .int .i64 (nxStore k x)) := by
  refine ctm_enter Tryz.func68 rfl Tryz.ntmps68 rfl rfl rfl fun w0 R gs objsR hG hR => ?_
  obtain rfl := hR.eq
  clear hR
  have h1 := kL_take (k := k) (i := x.classes.length) hb.1.1 (nxClassInfo_in hb.1.2) (Nat.le_refl _)
  have h2 := kL_take (k := kL nxClassInfo k x.classes) (i := x.objects.length) hb.2.1.1 (nxObject_in hb.2.1.2) (Nat.le_refl _)
  rw [List.take_length] at h1 h2
  have c1 := markClassInfoS_own hst y.1.1.1 y.1.1.2 x.classes y.1.2 hy.1 k hb.1 (by omega)
  have c2 := markObjectS_own hst y.2.1.1.1 y.2.1.1.2 x.objects y.2.1.2 hy.2 (kL nxClassInfo k x.classes) hb.2.1 (by omega)
  have c3 := markStringS_own hst y.2.2.1 y.2.2.2 x.output (kL nxObject (kL nxClassInfo k x.classes) x.objects) hb.2.2.1 (by omega)
  have e0 : stO x y ++ R = clsO x.classes y.1 ++ (objO x.objects y.2.1 ++ ([(y.2.2.1, y.2.2.2, .row 1 (strR x.output))] ++ R)) := by unfold stO; simp [List.append_assoc]
  have e1 : stO (mkStore k x) y ++ R = clsO (mkStore k x).classes y.1 ++ (objO (mkStore k x).objects y.2.1 ++ ([(y.2.2.1, y.2.2.2, .row 1 (strR (mkStore k x).output))] ++ R)) := by unfold stO; simp [List.append_assoc]
  rw [e0]
  generalize hz1 : [(y.2.2.1, y.2.2.2, TObj.row 1 (strR x.output))] = z1 at c3 ⊢
  unfold stC
  repeat' (first | refine W_ ?_ | refine e_box ?_ | ((with_reducible apply o_callM); rfl; kernel_rfl; (repeat (first | exact ArgsM.nil | ((with_reducible apply ArgsM.cons); rfl))); exact hG; exact c1; exact .app _ _; intro z hz; refine al_pick (pick_rot _ _ _) ?_) | ((with_reducible apply o_callM); rfl; kernel_rfl; (repeat (first | exact ArgsM.nil | ((with_reducible apply ArgsM.cons); rfl))); exact hG; exact c2; exact .app _ _; intro z hz; refine al_pick (pick_end _ _ _ _) ?_) | ((with_reducible apply o_callM); rfl; kernel_rfl; (repeat (first | exact ArgsM.nil | ((with_reducible apply ArgsM.cons); rfl))); exact hG; exact c3; exact .app _ _; intro z hz) | refine c_ (fun hc => ?_) (fun hc => ?_) | refine g_ (fun hg => ?_) (fun hg => ?_))
  refine aq_retm1 x_ rfl () trivial rfl (.app _ R) ?_ (.tmp _ _ rfl) rfl
  rw [e1]
  exact pick_three _ _ _ R
def mkImage (k : Int) (x : TImage) : TImage := ⟨mkCodeBase k x.base, mkStore (nxCodeBase k x.base) x.store,
  mkL mkClosure nxClosure (nxStore (nxCodeBase k x.base) x.store) x.blocks,
  mkL mkContext nxContext (kL nxClosure (nxStore (nxCodeBase k x.base) x.store) x.blocks) x.contexts,
  mkL mkProcess nxProcess (kL nxContext (kL nxClosure (nxStore (nxCodeBase k x.base) x.store) x.blocks) x.contexts) x.processes,
  mkL mkInt nxInt (kL nxProcess (kL nxContext (kL nxClosure (nxStore (nxCodeBase k x.base) x.store) x.blocks) x.contexts) x.processes) x.ready,
  x.now, x.status, x.value, x.fault⟩
def nxImage (k : Int) (x : TImage) : Int := kL nxInt (kL nxProcess (kL nxContext (kL nxClosure (nxStore (nxCodeBase k x.base) x.store) x.blocks) x.contexts) x.processes) x.ready
theorem nxImage_in {x : TImage} (hb : x.small 1048576) (k : Int) : k ≤ nxImage k x ∧ nxImage k x ≤ k + 30000000000000 := by
  have h1 := nxCodeBase_in hb.1 k
  have h2 := nxStore_in hb.2.1 (nxCodeBase k x.base)
  unfold nxImage
  generalize nxStore (nxCodeBase k x.base) x.store = q2 at h2 ⊢
  have h3 := kL_take (k := q2) (i := x.blocks.length) hb.2.2.1.1 (nxClosure_in x.blocks) (Nat.le_refl _)
  rw [List.take_length] at h3
  generalize kL nxClosure q2 x.blocks = q3 at h3 ⊢
  have h4 := kL_take (k := q3) (i := x.contexts.length) hb.2.2.2.1.1 (nxContext_in hb.2.2.2.1.2) (Nat.le_refl _)
  rw [List.take_length] at h4
  generalize kL nxContext q3 x.contexts = q4 at h4 ⊢
  have h5 := kL_take (k := q4) (i := x.processes.length) hb.2.2.2.2.1.1 (nxProcess_in x.processes) (Nat.le_refl _)
  rw [List.take_length] at h5
  generalize kL nxProcess q4 x.processes = q5 at h5 ⊢
  have h6 := kL_take (k := q5) (i := x.ready.length) hb.2.2.2.2.2.1 (nxInt_in x.ready) (Nat.le_refl _)
  rw [List.take_length] at h6
  omega
set_option maxHeartbeats 1000000 in
theorem markImage_own (hst : Stable G) (x : TImage) (y : ImgPl) (hy : imI x y) (hb : x.small 1048576) (k : Int) (hk : 0 ≤ k ∧ k ≤ 50000000000000) :
    CtM Tryz.prog G 19 [.agg (imC x y), .int .i64 k] (imO x y) (fun _ : Unit => True) (fun _ => imO (mkImage k x) y) (fun _ => .int .i64 (nxImage k x)) := by
  refine ctm_enter Tryz.func19 rfl Tryz.ntmps19 rfl rfl rfl fun w0 R gs objsR hG hR => ?_
  obtain rfl := hR.eq
  clear hR
  have h1 := nxCodeBase_in hb.1 k
  have h2 := nxStore_in hb.2.1 (nxCodeBase k x.base)
  have hm : imO (mkImage k x) y = cbO (mkCodeBase k x.base) y.1 ++ (stO (mkStore (nxCodeBase k x.base) x.store) y.2.1 ++ ([(y.2.2.1.1, y.2.2.1.2, .row 6 ((mkL mkClosure nxClosure (nxStore (nxCodeBase k x.base) x.store) x.blocks).map (TClosure.tw 0)))] ++ (ctxO (mkL mkContext nxContext (kL nxClosure (nxStore (nxCodeBase k x.base) x.store) x.blocks) x.contexts) y.2.2.2.1 ++ ([(y.2.2.2.2.1.1, y.2.2.2.2.1.2, .row 2 ((mkL mkProcess nxProcess (kL nxContext (kL nxClosure (nxStore (nxCodeBase k x.base) x.store) x.blocks) x.contexts) x.processes).map (TProcess.tw 0)))] ++ [(y.2.2.2.2.2.1, y.2.2.2.2.2.2, .row 1 (intR (mkL mkInt nxInt (kL nxProcess (kL nxContext (kL nxClosure (nxStore (nxCodeBase k x.base) x.store) x.blocks) x.contexts) x.processes) x.ready)))])))) := rfl
  rw [hm]
  unfold nxImage
  have c1 := markCodeBase_own hst x.base y.1 hy.1 hb.1 k (by omega)
  have c2 := markStore_own hst x.store y.2.1 hy.2.1 hb.2.1 (nxCodeBase k x.base) (by omega)
  generalize nxStore (nxCodeBase k x.base) x.store = q2 at h2 c2 ⊢
  have h3 := kL_take (k := q2) (i := x.blocks.length) hb.2.2.1.1 (nxClosure_in x.blocks) (Nat.le_refl _)
  rw [List.take_length] at h3
  have c3 := markClosureS_own hst y.2.2.1.1 y.2.2.1.2 x.blocks q2 hb.2.2.1.1 (by omega)
  generalize kL nxClosure q2 x.blocks = q3 at h3 c3 ⊢
  have h4 := kL_take (k := q3) (i := x.contexts.length) hb.2.2.2.1.1 (nxContext_in hb.2.2.2.1.2) (Nat.le_refl _)
  rw [List.take_length] at h4
  have c4 := markContextS_own hst y.2.2.2.1.1.1 y.2.2.2.1.1.2 x.contexts y.2.2.2.1.2 hy.2.2 q3 hb.2.2.2.1 (by omega)
  generalize kL nxContext q3 x.contexts = q4 at h4 c4 ⊢
  have h5 := kL_take (k := q4) (i := x.processes.length) hb.2.2.2.2.1.1 (nxProcess_in x.processes) (Nat.le_refl _)
  rw [List.take_length] at h5
  have c5 := markProcessS_own hst y.2.2.2.2.1.1 y.2.2.2.2.1.2 x.processes q4 hb.2.2.2.2.1.1 (by omega)
  generalize kL nxProcess q4 x.processes = q5 at h5 c5 ⊢
  have c6 := markIntS_own hst y.2.2.2.2.2.1 y.2.2.2.2.2.2 x.ready q5 hb.2.2.2.2.2.1 (by omega)
  have e0 : imO x y ++ R = cbO x.base y.1 ++ (stO x.store y.2.1 ++ ([(y.2.2.1.1, y.2.2.1.2, .row 6 (x.blocks.map (TClosure.tw 0)))] ++ (ctxO x.contexts y.2.2.2.1 ++ ([(y.2.2.2.2.1.1, y.2.2.2.2.1.2, .row 2 (x.processes.map (TProcess.tw 0)))] ++ ([(y.2.2.2.2.2.1, y.2.2.2.2.2.2, .row 1 (intR x.ready))] ++ R))))) := by unfold imO; simp only [List.append_assoc]
  rw [e0]
  replace c4 : CtM Tryz.prog G 70 _ (ctxO x.contexts y.2.2.2.1) _ (fun _ => ctxO (mkL mkContext nxContext q3 x.contexts) y.2.2.2.1) _ := c4
  clear hm e0
  generalize [(y.2.2.1.1, y.2.2.1.2, TObj.row 6 (x.blocks.map (TClosure.tw 0)))] = z1 at c3 ⊢
  generalize [(y.2.2.2.2.1.1, y.2.2.2.2.1.2, TObj.row 2 (x.processes.map (TProcess.tw 0)))] = z2 at c5 ⊢
  generalize [(y.2.2.2.2.2.1, y.2.2.2.2.2.2, TObj.row 1 (intR x.ready))] = z3 at c6 ⊢
  unfold cbC at c1
  unfold stC at c2
  unfold imC
  repeat' (first | refine W_ ?_ | refine e_box ?_ | ((with_reducible apply o_callM); rfl; kernel_rfl; (repeat (first | exact ArgsM.nil | ((with_reducible apply ArgsM.cons); rfl))); exact hG; exact c1; exact .app _ _; intro z hz; refine al_pick (pick_rot _ _ _) ?_) | ((with_reducible apply o_callM); rfl; kernel_rfl; (repeat (first | exact ArgsM.nil | ((with_reducible apply ArgsM.cons); rfl))); exact hG; exact c2; exact .app _ _; intro z hz; refine al_pick (pick_end _ _ _ _) ?_) | ((with_reducible apply o_callM); rfl; kernel_rfl; (repeat (first | exact ArgsM.nil | ((with_reducible apply ArgsM.cons); rfl))); exact hG; exact c3; exact .app _ _; intro z hz; refine al_pick (pick_mv4 _ _ _ _ _) ?_) | ((with_reducible apply o_callM); rfl; kernel_rfl; (repeat (first | exact ArgsM.nil | ((with_reducible apply ArgsM.cons); rfl))); exact hG; exact c4; exact .app _ _; intro z hz; refine al_pick (pick_mv5 _ _ _ _ _ _) ?_) | ((with_reducible apply o_callM); rfl; kernel_rfl; (repeat (first | exact ArgsM.nil | ((with_reducible apply ArgsM.cons); rfl))); exact hG; exact c5; exact .app _ _; intro z hz; refine al_pick (pick_mv6 _ _ _ _ _ _ _) ?_) | ((with_reducible apply o_callM); rfl; kernel_rfl; (repeat (first | exact ArgsM.nil | ((with_reducible apply ArgsM.cons); rfl))); exact hG; exact c6; exact .app _ _; intro z hz) | refine c_ (fun hc => ?_) (fun hc => ?_) | refine g_ (fun hg => ?_) (fun hg => ?_))
  refine aq_retm1 x_ rfl () trivial rfl (.app _ R) ?_ (.tmp _ _ rfl) rfl
  simp only [List.append_assoc]
  exact pick_six _ _ _ _ _ _ R
end
end Go.Proofs.YtiihihgjiklnoaaGreatDoor
/- An owned code base as it looks to who only reads it. -/
namespace Go.Proofs.YtiihihgjiklnoaaGreatDoor
open Go Go.RowKit
def ViewL (objs : Objs) (l l' : List TV) : Prop := l'.length = l.length ∧ ∀ (j : Nat) (t t' : TV), l[j]? = some t → l'[j]? = some t' → View objs t t'
theorem ViewL.nil {objs : Objs} : ViewL objs [] [] := ⟨rfl, by simp⟩
theorem ViewL.cons {objs : Objs} {t t' : TV} {l l' : List TV} (h : View objs t t') (hr : ViewL objs l l') : ViewL objs (t :: l) (t' :: l') := ⟨by simp [hr.1], fun j u u' h1 h2 => by
  cases j with
  | zero => simp at h1 h2; subst h1; subst h2; exact h
  | succ j => exact hr.2 j u u' (by simpa using h1) (by simpa using h2)⟩
theorem ViewL.append {objs : Objs} {a a' b b' : List TV} (h : ViewL objs a a') (k : ViewL objs b b') : ViewL objs (a ++ b) (a' ++ b') := ⟨by simp [h.1, k.1], fun j u u' h1 h2 => by
  by_cases hj : j < a.length
  · rw [List.getElem?_append_left hj] at h1
    rw [List.getElem?_append_left (by rw [h.1]; exact hj)] at h2
    exact h.2 j u u' h1 h2
  · rw [List.getElem?_append_right (by omega)] at h1
    rw [List.getElem?_append_right (by rw [h.1]; omega)] at h2
    rw [h.1] at h2
    exact k.2 _ u u' h1 h2⟩
theorem viewL_zip {α : Type} {objs : Objs} {f : α → List TV} {mk : α → Nat × Nat → List TV} {ob : α → TObj} (h : ∀ x p, (p.1, p.2, ob x) ∈ objs → ViewL objs (mk x p) (f x)) : ∀ (l : List α) (ps : List (Nat × Nat)), ps.length = l.length → (∀ o ∈ nO ob l ps, o ∈ objs) → ViewL objs (nR mk l ps).flatten (l.map f).flatten ∧ (l.map f).map List.length = (nR mk l ps).map List.length
  | [], ps, hl, _ => by simp [nR, ViewL]
  | x :: l, [], hl, _ => by simp at hl
  | x :: l, p :: ps, hl, hm => by
    have h1 := h x p (hm _ (by simp [nO]))
    obtain ⟨h2, h3⟩ := viewL_zip h l ps (by simpa using hl) (fun o ho => hm o (by simp only [nO, List.zipWith_cons_cons, List.mem_cons]; exact .inr ho))
    exact ⟨h1.append h2, by
      show (f x).length :: (l.map f).map List.length = (mk x p).length :: (nR mk l ps).map List.length
      rw [h3, h1.1]⟩
theorem view_zip {α : Type} {objs : Objs} {f : α → List TV} {mk : α → Nat × Nat → List TV} {ob : α → TObj} {m s b : Nat} (h : ∀ x p, (p.1, p.2, ob x) ∈ objs → ViewL objs (mk x p) (f x)) {l : List α} {ps : List (Nat × Nat)} (hl : ps.length = l.length) (hm : (s, b, TObj.row m (nR mk l ps)) ∈ objs) (hp : ∀ o ∈ nO ob l ps, o ∈ objs) : View objs (.ms s b 0 l.length) (.sl 0 m (l.map f)) := by
  obtain ⟨h1, h2⟩ := viewL_zip h l ps hl hp
  have h3 := nR_len mk hl
  exact .ms s b 0 l.length m _ _ _ hm (by omega) rfl (by rw [List.drop_zero, List.take_of_length_le (by omega)]; exact h2) (by rw [List.drop_zero, List.take_of_length_le (by omega)]; exact h1.2)
theorem view_cls {objs : Objs} (x : TClassInfo) (p : Nat × Nat) (h : (p.1, p.2, clsOb x) ∈ objs) : ViewL objs (clsMk x p) (x.tw 0) := .cons (.same _) (.cons (.same _) (.cons (.msAll h (strR_len _)) .nil))
theorem view_cod {objs : Objs} (x : TCode) (p : Nat × Nat) (h : (p.1, p.2, codOb x) ∈ objs) : ViewL objs (codMk x p) (x.tw 0) := .cons (.same _) (.cons (.same _) (.cons (.same _) (.cons (.msAll h (by simp)) .nil)))
theorem view_cb {objs : Objs} {x : TCodeBase} {y : CbP} (hy : cbI x y) (hm : ∀ o ∈ cbO x y, o ∈ objs) : View objs (.agg (cbC x y)) (.agg (x.tw 0)) := by
  have h1 : ∀ o ∈ clsO x.classes y.1, o ∈ objs := fun o h => hm o (List.mem_append_left _ h)
  have h2 : ∀ o ∈ codO x.codes y.2.1, o ∈ objs := fun o h => hm o (List.mem_append_right _ (List.mem_append_left _ h))
  have h3 : ∀ o ∈ entO x.entries y.2.2, o ∈ objs := fun o h => hm o (List.mem_append_right _ (List.mem_append_right _ h))
  have h := (ViewL.cons (view_zip view_cls hy.1 (h1 _ List.mem_cons_self) (fun o h => h1 o (List.mem_cons_of_mem _ h))) (ViewL.cons (view_zip view_cod hy.2 (h2 _ List.mem_cons_self) (fun o h => h2 o (List.mem_cons_of_mem _ h))) (ViewL.cons (View.msAll (len := x.entries.length) (h3 _ List.mem_cons_self) (by simp)) (ViewL.cons (View.same (.int .i64 x.main)) ViewL.nil))))
  exact View.agg (cbC x y) (x.tw 0) h.1 h.2
end Go.Proofs.YtiihihgjiklnoaaGreatDoor
/- The abstract walk, part 33: a row that is owned is forgotten from some place on. -/
namespace Go.Proofs.YtiihihgjiklnoaaGreatDoor
open Go Go.RowKit
section
variable {P : Program} {w0 : World} {N : Nat} {Q : Exit → Act → World → Prop} {env : Env} {objs : Objs}
end
end Go.Proofs.YtiihihgjiklnoaaGreatDoor
/- The abstract walk, part 34: the builtin clear on the end of a row that is owned; s[:j] of a row that is owned. -/
namespace Go.Proofs.YtiihihgjiklnoaaGreatDoor
open Go Go.RowKit
section
variable {P : Program} {w0 : World} {N : Nat} {Q : Exit → Act → World → Prop} {env : Env} {objs objs' : Objs} {o : Oper}
end
end Go.Proofs.YtiihihgjiklnoaaGreatDoor
