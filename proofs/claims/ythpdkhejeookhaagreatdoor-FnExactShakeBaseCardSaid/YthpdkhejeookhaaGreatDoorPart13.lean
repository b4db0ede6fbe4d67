/- Part 13 of the proof: the texts ShD, MkV, MkH, IvW, ShL, ShM. -/
import Derived.Test.YthpdkhejeookhaaGreatDoorPart12
import Derived.Test.YthpdkhejeookhaaGreatDoorPart8
import Derived.Test.YthpdkhejeookhaaGreatDoorPart6
import Derived.Test.YthpdkhejeookhaaGreatDoorPart11
import Derived.Test.YthpdkhejeookhaaGreatDoorPart7
/- impl.ShakeBase. -/
namespace Go.Proofs.YthpdkhejeookhaaGreatDoor
set_option maxRecDepth 20000
open Go Go.RowKit
theorem pick_shi (b5 b4 b2 e : Nat × Nat × TObj) (C D R : Objs) : Pick (e :: b5 :: b4 :: b2 :: (C ++ (D ++ R))) (b5 :: b4 :: ((C ++ (D ++ [e])) ++ (b2 :: R))) := .perm (by
  have h1 : ((C ++ (D ++ [e])) ++ (b2 :: R)).Perm (b2 :: ((C ++ (D ++ [e])) ++ R)) := List.perm_middle
  have h2 : ((C ++ (D ++ [e])) ++ R).Perm (e :: (C ++ (D ++ R))) := by
    have : ((C ++ D) ++ (e :: R)).Perm (e :: ((C ++ D) ++ R)) := List.perm_middle
    simpa using this
  have h3 := h1.trans (h2.cons b2)
  exact (List.perm_middle (l₁ := [b5, b4, b2]) (a := e) (l₂ := C ++ (D ++ R))).symm.trans ((h3.symm.cons b4).cons b5))
theorem pick_shj (r b5 b4 b2 : Nat × Nat × TObj) (C D R : Objs) : Pick (b4 :: b2 :: ((C ++ (D ++ [r])) ++ R)) (r :: b5 :: b4 :: b2 :: (C ++ (D ++ R))) := by
  have h2 : ((C ++ (D ++ [r])) ++ R).Perm (r :: (C ++ (D ++ R))) := by
    have : ((C ++ D) ++ (r :: R)).Perm (r :: ((C ++ D) ++ R)) := List.perm_middle
    simpa using this
  refine (Pick.perm ((h2.cons b2).cons b4)).trans (.trans (.perm (List.perm_middle (l₁ := [b4, b2]))) (.sub ?_))
  exact ((List.Sublist.refl _).cons b5).cons_cons r
set_option maxHeartbeats 1000000 in
theorem implShakeBase_ctm (hst : Stable GL) (lo : Nat) (x : TCodeBase) (hx : TCodeBase.small 1048576 x) : CtM Tryz.prog GL 11 [.agg (x.tw lo)] [] (cbI (shakeB x)) (cbO (shakeB x)) (fun y => .tup [.agg (cbC (shakeB x) y), .bool (verifiedB x)]) := by
  refine ctm_enter Tryz.func11 rfl Tryz.ntmps11 rfl rfl rfl fun w0 R gs objsR hG hR => ?_
  obtain rfl := hR.inv0
  clear hR
  have hver := implIsVerified_ct lo x.classes x.entries x.codes x.main hx.1 hx.2.1 hx.2.2
  have hB : verifiedB ⟨x.classes, x.codes, x.entries, x.main⟩ = verifiedB x := rfl
  rw [hB] at hver
  cases hV : verifiedB x with
  | false =>
    have hs : shakeB x = ⟨[], [], [], 0⟩ := by unfold shakeB; rw [if_neg (by rw [hV]; decide)]
    rw [hV] at hver
    rw [hs]
    unfold TCodeBase.tw
    repeat' (first | ((with_reducible apply o_y); exact y_; rfl) | refine e_box ?_ | (refine e_alloc ?_; intro ss bb) | refine e_build ?_ | refine e_storep ?_ | refine e_call hG hst (hver) ?_ | with_reducible refine al_none rfl ?_ | (with_reducible first | apply aw_seq | apply aw_region | apply al_nil | apply aq_then | apply aw_ret | apply aq_then_ret) | refine aw_cond_t rfl rr_ ?_)
    refine aq_nilC 0 3 (by decide) rfl fun sa => ?_
    refine aq_nilC 1 4 (by decide) rfl fun sb => ?_
    refine aq_nilC 2 4 (by decide) rfl fun sd => ?_
    dsimp only [List.set]
    exact aq_retm2 (t1 := .agg [.ms sa 0 0 0, .ms sb 0 0 0, .ms sd 0 0 0, .int .i64 0]) (t2 := .bool false) x_ rfl (((sa, 0), []), ((sb, 0), []), (sd, 0)) ⟨rfl, rfl⟩ rfl (.app _ R) (l := (sa, 0, .row 3 []) :: (sb, 0, .row 4 []) :: (sd, 0, .row 4 []) :: R) (.drop (pick_rev3 _ _ _ _)) (.cell _ _ _ _ _ rfl mm_ (by kernel_rfl) (by kernel_rfl) (by kernel_rfl)) (.tmp _ _ rfl) rfl
  | true =>
    have hs : shakeB x = ⟨x.classes, x.codes, x.entries.filter (keepE (rsFin x).out), x.main⟩ := by unfold shakeB; rw [if_pos hV]
    have hok := rs_ok hV
    have hre := selectors_ctm hst lo x hok hx.2.2.1
    have hso := (rs_small (rsFin_in hok)).2
    have hcb := implCopyBase_own hst lo x hx
    rw [hV] at hver
    rw [hs]
    unfold TCodeBase.tw at hcb ⊢
    repeat' (first | ((with_reducible apply o_y); exact y_; rfl) | refine e_box ?_ | (refine e_alloc ?_; intro ss bb) | refine e_storep ?_ | refine e_call hG hst (hver) ?_ | ((with_reducible apply o_callM); rfl; kernel_rfl; (repeat (first | exact ArgsM.nil | ((with_reducible apply ArgsM.cons); rfl))); exact hG; exact hcb; exact .nil _; intro y hy) | with_reducible refine aw_hold_r (id := 4) ?_ | with_reducible refine al_none rfl ?_ | (with_reducible first | apply aw_seq | apply aw_region | apply al_nil | apply aq_then | apply aw_skip) | refine aw_cond_f rfl rr_ ?_)
    refine ⟨?_⟩
    have hse : Ct Tryz.prog GL 41 _ (fun K => .sl K 1 (strR (rsFin x).out)) := ct_of_ctm hre fun y _ B L => fin_strs rfl List.mem_cons_self
    clear hre
    generalize (rsFin x).out = out at hso hse ⊢
    obtain ⟨yc, ycc, se, be⟩ := y
    rename_i s2 b2
    generalize ss = s4; generalize bb = b4
    repeat' (first | ((with_reducible apply o_y); exact y_; rfl) | (refine e_alloc ?_; intro ss bb) | refine e_storep ?_ | refine e_call hG hst (hse) ?_ | with_reducible refine aw_hold_r (id := 5) ?_ | with_reducible refine al_none rfl ?_ | (with_reducible first | apply aw_seq | apply aw_region | apply al_nil | apply aq_then))
    refine ⟨?_⟩
    generalize ss = s5; generalize bb = b5
    refine aw_pick (pick_shi _ _ _ _ _ _ _) ?_
    obtain ⟨T, hT⟩ : ∃ T : Objs, T = clsO x.classes yc ++ (codO x.codes ycc ++ R) := ⟨_, rfl⟩
    rw [← hT]
    dsimp only
    have hct := slicesContains_ct hst w0.heap.size out ⟨#[97, 115, 83, 121, 109, 98, 111, 108]⟩ (by omega)
    rw [idxS_has, show (⟨#[97, 115, 83, 121, 109, 98, 111, 108]⟩ : ByteArray) = asyB from rfl] at hct
    cases hA : hasS out asyB
    · rw [hA] at hct
      have hdel := delFunc_ctm hst (s := se) (b := be) (s5 := s5) (b5 := b5) x.entries hx.2.2.1 (shakeFn_ct hst w0.heap.size out (by omega))
      have hfil : x.entries.filter (fun e => !!hasS out e.selector) = x.entries.filter (keepE out) := by
        congr 1; funext e; simp [keepE, hA]
      rw [hfil] at hdel
      repeat' (first | ((with_reducible apply o_y); exact y_; rfl) | refine e_storep ?_ | refine e_mkf ?_ | refine e_call hG hst (hct) ?_ | ((with_reducible apply o_callM); rfl; kernel_rfl; (repeat (first | exact ArgsM.nil | ((with_reducible apply ArgsM.cons); rfl))); exact hG; exact hdel; exact .cons _ _ _ _ (.cons _ _ _ _ (.nil _)); intro y hy2; refine al_app2 ?_) | with_reducible refine aw_hold_r (id := 7) ?_ | with_reducible refine al_none rfl ?_ | (with_reducible first | apply aw_seq | apply aw_region | apply al_nil | apply aq_then) | refine aw_cond_t rfl rr_ ?_)
      refine ⟨?_⟩
      rw [hT]
      refine aw_pick (pick_shj _ _ _ _ _ _ _) ?_
      repeat' (first | ((with_reducible apply o_y); exact y_; rfl) | refine e_storep ?_ | with_reducible refine al_none rfl ?_ | (with_reducible first | apply aw_seq | apply aw_region | apply al_nil | apply aq_then | apply aw_ret))
      exact aq_retm2 (t1 := .agg [.ms yc.1.1 yc.1.2 0 x.classes.length, .ms ycc.1.1 ycc.1.2 0 x.codes.length, .ms se be 0 (x.entries.filter (keepE out)).length, .int .i64 x.main]) (t2 := .bool true) x_ rfl (yc, ycc, (se, be)) hy rfl (.app _ R) (.drop (.drop (.refl _))) (.cell _ _ _ _ _ rfl mm_ (by kernel_rfl) (by kernel_rfl) (by kernel_rfl)) (.tmp _ _ rfl) rfl
    · rw [hA] at hct
      have hfil : x.entries.filter (keepE out) = x.entries := List.filter_eq_self.2 fun e _ => by simp [keepE, hA]
      rw [hfil]
      repeat' (first | ((with_reducible apply o_y); exact y_; rfl) | refine e_call hG hst (hct) ?_ | with_reducible refine aw_hold_r (id := 7) ?_ | with_reducible refine al_none rfl ?_ | (with_reducible first | apply aw_seq | apply aw_region | apply al_nil | apply aq_then | apply aw_skip) | refine aw_cond_f rfl rr_ ?_)
      refine ⟨?_⟩
      rw [hT]
      refine aw_pick (pick_shj _ _ _ _ _ _ _) ?_
      repeat' (first | ((with_reducible apply o_y); exact y_; rfl) | refine e_storep ?_ | with_reducible refine al_none rfl ?_ | (with_reducible first | apply aw_seq | apply aw_region | apply al_nil | apply aq_then | apply aw_ret))
      exact aq_retm2 (t1 := .agg [.ms yc.1.1 yc.1.2 0 x.classes.length, .ms ycc.1.1 ycc.1.2 0 x.codes.length, .ms se be 0 x.entries.length, .int .i64 x.main]) (t2 := .bool true) x_ rfl (yc, ycc, (se, be)) hy rfl (.app _ R) (.drop (.drop (.refl _))) (.cell _ _ _ _ _ rfl mm_ (by kernel_rfl) (by kernel_rfl) (by kernel_rfl)) (.tmp _ _ rfl) rfl
end Go.Proofs.YthpdkhejeookhaaGreatDoor
/- An owned code base as it looks to who only reads it. -/
namespace Go.Proofs.YthpdkhejeookhaaGreatDoor
open Go Go.RowKit
def ViewL (objs : Objs) (l l' : List TV) : Prop := l'.length = l.length ∧ ∀ (j : Nat) (t t' : TV), l[j]? = some t → l'[j]? = some t' → View objs t t'
theorem ViewL.nil {objs : Objs} : ViewL objs [] [] := ⟨rfl, by simp⟩
theorem ViewL.cons {objs : Objs} {t t' : TV} {l l' : List TV} (h : View objs t t') (hr : ViewL objs l l') : ViewL objs (t :: l) (t' :: l') := ⟨by simp [hr.1], fun j u u' h1 h2 => by
  cases j with
  | zero => simp at h1 h2; subst h1; subst h2; exact h
  | succ j => exact hr.2 j u u' (by simpa using h1) (by simpa using h2)⟩
theorem ViewL.append {objs : Objs} {a a' b b' : List TV} (h : ViewL objs a a') (k : ViewL objs b b') : ViewL objs (a ++ b) (a' ++ b') := ⟨by simp [h.1, k.1], fun j u u' h1 h2 => by
  by_cases hj : j < a.length
  · rw [List.getElem?_append_left hj] at h1
    rw [List.getElem?_append_left (by rw [h.1]; exact hj)] at h2
    exact h.2 j u u' h1 h2
  · rw [List.getElem?_append_right (by omega)] at h1
    rw [List.getElem?_append_right (by rw [h.1]; omega)] at h2
    rw [h.1] at h2
    exact k.2 _ u u' h1 h2⟩
theorem viewL_zip {α : Type} {objs : Objs} {f : α → List TV} {mk : α → Nat × Nat → List TV} {ob : α → TObj} (h : ∀ x p, (p.1, p.2, ob x) ∈ objs → ViewL objs (mk x p) (f x)) : ∀ (l : List α) (ps : List (Nat × Nat)), ps.length = l.length → (∀ o ∈ nO ob l ps, o ∈ objs) → ViewL objs (nR mk l ps).flatten (l.map f).flatten ∧ (l.map f).map List.length = (nR mk l ps).map List.length
  | [], ps, hl, _ => by simp [nR, ViewL]
  | x :: l, [], hl, _ => by simp at hl
  | x :: l, p :: ps, hl, hm => by
    have h1 := h x p (hm _ (by simp [nO]))
    obtain ⟨h2, h3⟩ := viewL_zip h l ps (by simpa using hl) (fun o ho => hm o (by simp only [nO, List.zipWith_cons_cons, List.mem_cons]; exact .inr ho))
    exact ⟨h1.append h2, by
      show (f x).length :: (l.map f).map List.length = (mk x p).length :: (nR mk l ps).map List.length
      rw [h3, h1.1]⟩
theorem view_zip {α : Type} {objs : Objs} {f : α → List TV} {mk : α → Nat × Nat → List TV} {ob : α → TObj} {m s b : Nat} (h : ∀ x p, (p.1, p.2, ob x) ∈ objs → ViewL objs (mk x p) (f x)) {l : List α} {ps : List (Nat × Nat)} (hl : ps.length = l.length) (hm : (s, b, TObj.row m (nR mk l ps)) ∈ objs) (hp : ∀ o ∈ nO ob l ps, o ∈ objs) : View objs (.ms s b 0 l.length) (.sl 0 m (l.map f)) := by
  obtain ⟨h1, h2⟩ := viewL_zip h l ps hl hp
  have h3 := nR_len mk hl
  exact .ms s b 0 l.length m _ _ _ hm (by omega) rfl (by rw [List.drop_zero, List.take_of_length_le (by omega)]; exact h2) (by rw [List.drop_zero, List.take_of_length_le (by omega)]; exact h1.2)
theorem view_cls {objs : Objs} (x : TClassInfo) (p : Nat × Nat) (h : (p.1, p.2, clsOb x) ∈ objs) : ViewL objs (clsMk x p) (x.tw 0) := .cons (.same _) (.cons (.same _) (.cons (.msAll h (strR_len _)) .nil))
theorem view_cod {objs : Objs} (x : TCode) (p : Nat × Nat) (h : (p.1, p.2, codOb x) ∈ objs) : ViewL objs (codMk x p) (x.tw 0) := .cons (.same _) (.cons (.same _) (.cons (.same _) (.cons (.msAll h (by simp)) .nil)))
theorem view_cb {objs : Objs} {x : TCodeBase} {y : CbP} (hy : cbI x y) (hm : ∀ o ∈ cbO x y, o ∈ objs) : View objs (.agg (cbC x y)) (.agg (x.tw 0)) := by
  have h1 : ∀ o ∈ clsO x.classes y.1, o ∈ objs := fun o h => hm o (List.mem_append_left _ h)
  have h2 : ∀ o ∈ codO x.codes y.2.1, o ∈ objs := fun o h => hm o (List.mem_append_right _ (List.mem_append_left _ h))
  have h3 : ∀ o ∈ entO x.entries y.2.2, o ∈ objs := fun o h => hm o (List.mem_append_right _ (List.mem_append_right _ h))
  have h := (ViewL.cons (view_zip view_cls hy.1 (h1 _ List.mem_cons_self) (fun o h => h1 o (List.mem_cons_of_mem _ h))) (ViewL.cons (view_zip view_cod hy.2 (h2 _ List.mem_cons_self) (fun o h => h2 o (List.mem_cons_of_mem _ h))) (ViewL.cons (View.msAll (len := x.entries.length) (h3 _ List.mem_cons_self) (by simp)) (ViewL.cons (View.same (.int .i64 x.main)) ViewL.nil))))
  exact View.agg (cbC x y) (x.tw 0) h.1 h.2
end Go.Proofs.YthpdkhejeookhaaGreatDoor
/- The laws' check of their marks. Written by gen_mk.py. -/
namespace Go.Proofs.YthpdkhejeookhaaGreatDoor
set_option maxRecDepth 20000
open Go Go.RowKit
section
variable {G : World → Prop}
set_option maxHeartbeats 1000000 in
theorem heldStringS_m (hst : Stable G) (lo : Nat) (l : List ByteArray) (k : Int) (hn : l.length ≤ 1048576) (hk : 0 ≤ k ∧ k ≤ 1000000000000000) : Ct Tryz.prog G 130 [.sl lo 1 (strR (mkL mkString nxString k l)), .int .i64 k] (fun _ => .int .i64 (kL nxString k l)) := by
  refine ct_enter Tryz.func130 rfl Tryz.ntmps130 rfl rfl fun w0 _ hG => ?_
  have hrl : (strR (mkL mkString nxString k l)).length = l.length := by simp [strR, mkL_len]
  have hget := fun i (h : i < l.length) => mkL_get (mk := mkString) (nx := nxString) (k := k) h
  have hgr : ∀ i (h : i < l.length), (strR (mkL mkString nxString k l))[i]? = some [.str (markB (kL nxString k (l.take i)))] := fun i h => by
    simp only [strR, List.getElem?_map, hget i h]; rfl
  generalize strR (mkL mkString nxString k l) = rows at hrl hgr ⊢
  repeat' (first | ((with_reducible apply o_y); exact y_; rfl) | with_reducible refine al_none rfl ?_ | (with_reducible first | apply aw_seq | apply aw_region | apply al_nil | apply aq_then | apply aw_block))
  apply aw_loopk (X := Nat) [0] (fun x => [(5, .int .i64 (x : Int)), (1, .int .i64 (kL nxString k (l.take x)))]) (fun _ => []) (fun x => x ≤ l.length) (fun x => l.length - x) 0 (Nat.zero_le _)
  exact kp_; (repeat (first | exact Weak.envNil | refine Weak.envCons we_ ?_))
  · exact .refl _
  intro i hi
  try dsimp only
  have hq := kL_take (k := k) (i := i) hn (nxString_in l) hi
  by_cases hlt : i < l.length
  · have hrow := hgr i hlt
    have hks : kL nxString k (l.take (i + 1)) = kL nxString k (l.take i) + 1 := kL_snoc hlt
    generalize kL nxString k (l.take i) = q at hq hrow hks ⊢
    have hs0 : ¬ markB (q) ≠ markB (q) := fun h => h rfl
    have hm0 := markText_ct (G := G) (q) (by omega) (by omega)
    repeat' (first | ((with_reducible apply o_y); exact y_; rfl) | with_reducible refine aw_draw (by kernel_rfl) (by kernel_rfl) ?_ | with_reducible refine dr_nil ?_ | with_reducible refine dr_none rfl ?_ | ((with_reducible apply d_y); exact y_; rfl) | refine e_calld hG hst (hm0) ?_ | with_reducible refine al_none rfl ?_ | (with_reducible first | apply aw_seq | apply aw_region | apply al_nil | apply aq_then | apply aw_block | apply aw_skip | apply aq_block) | (refine aw_cond_dt rfl rr_ dd_ ?_) | (refine aw_cond_df rfl rr_ dd_ ?_))
    all_goals first
      | exact aq_round (i + 1) (by omega) (by omega) (.of _ (Weak.envCons rfl (Weak.envCons (lk_int rfl (by rw [hks])) Weak.envNil)) od_ pk_)
      | (exfalso; simp_all; done)
  · obtain rfl : i = l.length := by omega
    rw [List.take_length]
    repeat' (first | ((with_reducible apply o_y); exact y_; rfl) | with_reducible refine al_none rfl ?_ | (with_reducible first | apply aw_seq | apply aw_region | apply al_nil | apply aq_then | apply aw_exit | apply aw_ret | apply aq_block_hit | apply aq_then_exit) | (refine aw_cond_df rfl rr_ dd_ ?_))
    refine aq_ret1 x_ rfl (.tmp _ _ rfl) (fun _ => ?_)
    exact Fin.flat rfl
set_option maxHeartbeats 1000000 in
theorem heldInstrS_m (hst : Stable G) (lo : Nat) (l : List TInstr) (k : Int) (hn : l.length ≤ 1048576) (hk : 0 ≤ k ∧ k ≤ 1000000000000000) : Ct Tryz.prog G 131 [.sl lo 4 ((mkL mkInstr nxInstr k l).map (TInstr.tw lo)), .int .i64 k] (fun _ => .int .i64 (kL nxInstr k l)) := by
  refine ct_enter Tryz.func131 rfl Tryz.ntmps131 rfl rfl fun w0 _ hG => ?_
  have hrl : ((mkL mkInstr nxInstr k l).map (TInstr.tw lo)).length = l.length := by simp [strR, mkL_len]
  have hget := fun i (h : i < l.length) => mkL_get (mk := mkInstr) (nx := nxInstr) (k := k) h
  have hgr : ∀ i (h : i < l.length), ((mkL mkInstr nxInstr k l).map (TInstr.tw lo))[i]? = some [.int .i64 (kL nxInstr k (l.take i)), .int .i64 (kL nxInstr k (l.take i) + 1), .int .i64 (kL nxInstr k (l.take i) + 1 + 1), .str (markB (kL nxInstr k (l.take i) + 1 + 1 + 1))] := fun i h => by
    simp only [strR, List.getElem?_map, hget i h]; rfl
  generalize (mkL mkInstr nxInstr k l).map (TInstr.tw lo) = rows at hrl hgr ⊢
  repeat' (first | ((with_reducible apply o_y); exact y_; rfl) | with_reducible refine al_none rfl ?_ | (with_reducible first | apply aw_seq | apply aw_region | apply al_nil | apply aq_then | apply aw_block))
  apply aw_loopk (X := Nat) [0] (fun x => [(5, .int .i64 (x : Int)), (1, .int .i64 (kL nxInstr k (l.take x)))]) (fun _ => []) (fun x => x ≤ l.length) (fun x => l.length - x) 0 (Nat.zero_le _)
  exact kp_; (repeat (first | exact Weak.envNil | refine Weak.envCons we_ ?_))
  · exact .refl _
  intro i hi
  try dsimp only
  have hq := kL_take (k := k) (i := i) hn (nxInstr_in l) hi
  by_cases hlt : i < l.length
  · have hrow := hgr i hlt
    have hks : kL nxInstr k (l.take (i + 1)) = kL nxInstr k (l.take i) + 1 + 1 + 1 + 1 := kL_snoc hlt
    generalize kL nxInstr k (l.take i) = q at hq hrow hks ⊢
    have hi0 : ¬ (q) ≠ (q) := fun h => h rfl
    have hi1 : ¬ (q + 1) ≠ (q + 1) := fun h => h rfl
    have hi2 : ¬ (q + 1 + 1) ≠ (q + 1 + 1) := fun h => h rfl
    have hs3 : ¬ markB (q + 1 + 1 + 1) ≠ markB (q + 1 + 1 + 1) := fun h => h rfl
    have hm3 := markText_ct (G := G) (q + 1 + 1 + 1) (by omega) (by omega)
    repeat' (first | ((with_reducible apply o_y); exact y_; rfl) | with_reducible refine aw_draw (by kernel_rfl) (by kernel_rfl) ?_ | with_reducible refine dr_nil ?_ | with_reducible refine dr_none rfl ?_ | ((with_reducible apply d_y); exact y_; rfl) | refine e_calld hG hst (hm3) ?_ | with_reducible refine al_none rfl ?_ | (with_reducible first | apply aw_seq | apply aw_region | apply al_nil | apply aq_then | apply aw_block | apply aw_skip | apply aq_block) | (refine aw_cond_dt rfl rr_ dd_ ?_) | (refine aw_cond_df rfl rr_ dd_ ?_))
    all_goals first
      | exact aq_round (i + 1) (by omega) (by omega) (.of _ (Weak.envCons rfl (Weak.envCons (lk_int rfl (by rw [hks])) Weak.envNil)) od_ pk_)
      | (exfalso; simp_all; done)
  · obtain rfl : i = l.length := by omega
    rw [List.take_length]
    repeat' (first | ((with_reducible apply o_y); exact y_; rfl) | with_reducible refine al_none rfl ?_ | (with_reducible first | apply aw_seq | apply aw_region | apply al_nil | apply aq_then | apply aw_exit | apply aw_ret | apply aq_block_hit | apply aq_then_exit) | (refine aw_cond_df rfl rr_ dd_ ?_))
    refine aq_ret1 x_ rfl (.tmp _ _ rfl) (fun _ => ?_)
    exact Fin.flat rfl
set_option maxHeartbeats 1000000 in
theorem heldEntryS_m (hst : Stable G) (lo : Nat) (l : List TEntry) (k : Int) (hn : l.length ≤ 1048576) (hk : 0 ≤ k ∧ k ≤ 1000000000000000) : Ct Tryz.prog G 53 [.sl lo 4 ((mkL mkEntry nxEntry k l).map (TEntry.tw lo)), .int .i64 k] (fun _ => .int .i64 (kL nxEntry k l)) := by
  refine ct_enter Tryz.func53 rfl Tryz.ntmps53 rfl rfl fun w0 _ hG => ?_
  have hrl : ((mkL mkEntry nxEntry k l).map (TEntry.tw lo)).length = l.length := by simp [strR, mkL_len]
  have hget := fun i (h : i < l.length) => mkL_get (mk := mkEntry) (nx := nxEntry) (k := k) h
  have hgr : ∀ i (h : i < l.length), ((mkL mkEntry nxEntry k l).map (TEntry.tw lo))[i]? = some [.int .i64 (kL nxEntry k (l.take i)), .bool (decide ((kL nxEntry k (l.take i) + 1).tmod 3 = 0)), .str (markB (kL nxEntry k (l.take i) + 1 + 1)), .int .i64 (kL nxEntry k (l.take i) + 1 + 1 + 1)] := fun i h => by
    simp only [strR, List.getElem?_map, hget i h]; rfl
  generalize (mkL mkEntry nxEntry k l).map (TEntry.tw lo) = rows at hrl hgr ⊢
  repeat' (first | ((with_reducible apply o_y); exact y_; rfl) | with_reducible refine al_none rfl ?_ | (with_reducible first | apply aw_seq | apply aw_region | apply al_nil | apply aq_then | apply aw_block))
  apply aw_loopk (X := Nat) [0] (fun x => [(5, .int .i64 (x : Int)), (1, .int .i64 (kL nxEntry k (l.take x)))]) (fun _ => []) (fun x => x ≤ l.length) (fun x => l.length - x) 0 (Nat.zero_le _)
  exact kp_; (repeat (first | exact Weak.envNil | refine Weak.envCons we_ ?_))
  · exact .refl _
  intro i hi
  try dsimp only
  have hq := kL_take (k := k) (i := i) hn (nxEntry_in l) hi
  by_cases hlt : i < l.length
  · have hrow := hgr i hlt
    have hks : kL nxEntry k (l.take (i + 1)) = kL nxEntry k (l.take i) + 1 + 1 + 1 + 1 := kL_snoc hlt
    generalize kL nxEntry k (l.take i) = q at hq hrow hks ⊢
    have hi0 : ¬ (q) ≠ (q) := fun h => h rfl
    have hb1 : (decide ((q + 1).tmod 3 = 0) != decide ((q + 1).tmod 3 = 0)) = false := by simp
    have hs2 : ¬ markB (q + 1 + 1) ≠ markB (q + 1 + 1) := fun h => h rfl
    have hm2 := markText_ct (G := G) (q + 1 + 1) (by omega) (by omega)
    have hi3 : ¬ (q + 1 + 1 + 1) ≠ (q + 1 + 1 + 1) := fun h => h rfl
    repeat' (first | ((with_reducible apply o_y); exact y_; rfl) | with_reducible refine aw_draw (by kernel_rfl) (by kernel_rfl) ?_ | with_reducible refine dr_nil ?_ | with_reducible refine dr_none rfl ?_ | ((with_reducible apply d_y); exact y_; rfl) | refine e_calld hG hst (hm2) ?_ | with_reducible refine al_none rfl ?_ | (with_reducible first | apply aw_seq | apply aw_region | apply al_nil | apply aq_then | apply aw_block | apply aw_skip | apply aw_ret | apply aq_then_ret | apply aq_block_ret | apply aq_block) | (refine aw_cond_dt rfl rr_ dd_ ?_) | (refine aw_cond_df rfl rr_ dd_ ?_) | (refine aw_cond_b rfl rr_ (fun hc => ?_) (fun hc => ?_)))
    all_goals first
      | exact aq_round (i + 1) (by omega) (by omega) (.of _ (Weak.envCons rfl (Weak.envCons (lk_int rfl (by rw [hks])) Weak.envNil)) od_ pk_)
      | (exfalso; simp_all; done)
  · obtain rfl : i = l.length := by omega
    rw [List.take_length]
    repeat' (first | ((with_reducible apply o_y); exact y_; rfl) | with_reducible refine al_none rfl ?_ | (with_reducible first | apply aw_seq | apply aw_region | apply al_nil | apply aq_then | apply aw_exit | apply aw_ret | apply aq_block_hit | apply aq_then_exit) | (refine aw_cond_df rfl rr_ dd_ ?_))
    refine aq_ret1 x_ rfl (.tmp _ _ rfl) (fun _ => ?_)
    exact Fin.flat rfl
set_option maxHeartbeats 1000000 in
theorem heldClassInfoS_m (hst : Stable G) (lo : Nat) (l : List TClassInfo) (k : Int) (hn : l.length ≤ 1048576 ∧ ∀ y ∈ l, TClassInfo.small 1048576 y) (hk : 0 ≤ k ∧ k ≤ 100000000000000) : Ct Tryz.prog G 51 [.sl lo 3 ((mkL mkClassInfo nxClassInfo k l).map (TClassInfo.tw lo)), .int .i64 k] (fun _ => .int .i64 (kL nxClassInfo k l)) := by
  refine ct_enter Tryz.func51 rfl Tryz.ntmps51 rfl rfl fun w0 _ hG => ?_
  obtain ⟨hn, hsm⟩ := hn
  have hrl : ((mkL mkClassInfo nxClassInfo k l).map (TClassInfo.tw lo)).length = l.length := by simp [mkL_len]
  have hgr : ∀ i (h : i < l.length), ((mkL mkClassInfo nxClassInfo k l).map (TClassInfo.tw lo))[i]? = some ((mkClassInfo (kL nxClassInfo k (l.take i)) l[i]).tw lo) := fun i h => by
    simp only [List.getElem?_map, mkL_get (mk := mkClassInfo) (nx := nxClassInfo) (k := k) h]; rfl
  generalize (mkL mkClassInfo nxClassInfo k l).map (TClassInfo.tw lo) = rows at hrl hgr ⊢
  repeat' (first | ((with_reducible apply o_y); exact y_; rfl) | with_reducible refine al_none rfl ?_ | (with_reducible first | apply aw_seq | apply aw_region | apply al_nil | apply aq_then | apply aw_block))
  apply aw_loopk (X := Nat) [0] (fun x => [(5, .int .i64 (x : Int)), (1, .int .i64 (kL nxClassInfo k (l.take x)))]) (fun _ => []) (fun x => x ≤ l.length) (fun x => l.length - x) 0 (Nat.zero_le _)
  exact kp_; (repeat (first | exact Weak.envNil | refine Weak.envCons we_ ?_))
  · exact .refl _
  intro i hi
  try dsimp only
  have hq := kL_take (k := k) (i := i) hn (nxClassInfo_in hsm) hi
  by_cases hlt : i < l.length
  · have hrow := hgr i hlt
    have hks := kL_snoc (nx := nxClassInfo) (k := k) hlt
    have hb := hsm _ (List.getElem_mem hlt)
    generalize kL nxClassInfo k (l.take i) = q at hq hrow hks ⊢
    generalize l[i] = x at hrow hks hb
    replace hrow : rows[i]? = some [.str (markB (q)), .int .i64 (q + 1), .sl lo 1 (strR (mkL mkString nxString (q + 1 + 1) x.fields))] := hrow
    have hin := heldStringS_m hst lo x.fields (q + 1 + 1) hb.2.1 (by omega)
    have hinr := kL_in (nx := nxString) (l := x.fields) (k := q + 1 + 1) (nxString_in _)
    have hks2 : kL nxClassInfo k (l.take (i + 1)) = kL nxString (q + 1 + 1) x.fields := hks
    have hs0 : ¬ markB (q) ≠ markB (q) := fun h => h rfl
    have hm0 := markText_ct (G := G) (q) (by omega) (by omega)
    have hi1 : ¬ (q + 1) ≠ (q + 1) := fun h => h rfl
    repeat' (first | ((with_reducible apply o_y); exact y_; rfl) | with_reducible refine aw_draw (by kernel_rfl) (by kernel_rfl) ?_ | with_reducible refine dr_nil ?_ | with_reducible refine dr_none rfl ?_ | ((with_reducible apply d_y); exact y_; rfl) | refine e_call hG hst (hin) ?_ | refine e_calld hG hst (hm0) ?_ | with_reducible refine al_none rfl ?_ | (with_reducible first | apply aw_seq | apply aw_region | apply al_nil | apply aq_then | apply aw_block | apply aw_skip | apply aq_block) | (refine aw_cond_dt rfl rr_ dd_ ?_) | (refine aw_cond_df rfl rr_ dd_ ?_))
    all_goals first
      | exact aq_round (i + 1) (by omega) (by omega) (.of _ (Weak.envCons rfl (Weak.envCons (lk_int rfl (by rw [hks2])) Weak.envNil)) od_ pk_)
      | (exfalso; simp_all; done)
      | (exfalso; omega)
  · obtain rfl : i = l.length := by omega
    rw [List.take_length]
    repeat' (first | ((with_reducible apply o_y); exact y_; rfl) | with_reducible refine al_none rfl ?_ | (with_reducible first | apply aw_seq | apply aw_region | apply al_nil | apply aq_then | apply aw_exit | apply aw_ret | apply aq_block_hit | apply aq_then_exit) | (refine aw_cond_df rfl rr_ dd_ ?_))
    refine aq_ret1 x_ rfl (.tmp _ _ rfl) (fun _ => ?_)
    exact Fin.flat rfl
set_option maxHeartbeats 1000000 in
theorem heldCodeS_m (hst : Stable G) (lo : Nat) (l : List TCode) (k : Int) (hn : l.length ≤ 1048576 ∧ ∀ y ∈ l, TCode.small 1048576 y) (hk : 0 ≤ k ∧ k ≤ 100000000000000) : Ct Tryz.prog G 52 [.sl lo 4 ((mkL mkCode nxCode k l).map (TCode.tw lo)), .int .i64 k] (fun _ => .int .i64 (kL nxCode k l)) := by
  refine ct_enter Tryz.func52 rfl Tryz.ntmps52 rfl rfl fun w0 _ hG => ?_
  obtain ⟨hn, hsm⟩ := hn
  have hrl : ((mkL mkCode nxCode k l).map (TCode.tw lo)).length = l.length := by simp [mkL_len]
  have hgr : ∀ i (h : i < l.length), ((mkL mkCode nxCode k l).map (TCode.tw lo))[i]? = some ((mkCode (kL nxCode k (l.take i)) l[i]).tw lo) := fun i h => by
    simp only [List.getElem?_map, mkL_get (mk := mkCode) (nx := nxCode) (k := k) h]; rfl
  generalize (mkL mkCode nxCode k l).map (TCode.tw lo) = rows at hrl hgr ⊢
  repeat' (first | ((with_reducible apply o_y); exact y_; rfl) | with_reducible refine al_none rfl ?_ | (with_reducible first | apply aw_seq | apply aw_region | apply al_nil | apply aq_then | apply aw_block))
  apply aw_loopk (X := Nat) [0] (fun x => [(5, .int .i64 (x : Int)), (1, .int .i64 (kL nxCode k (l.take x)))]) (fun _ => []) (fun x => x ≤ l.length) (fun x => l.length - x) 0 (Nat.zero_le _)
  exact kp_; (repeat (first | exact Weak.envNil | refine Weak.envCons we_ ?_))
  · exact .refl _
  intro i hi
  try dsimp only
  have hq := kL_take (k := k) (i := i) hn (nxCode_in hsm) hi
  by_cases hlt : i < l.length
  · have hrow := hgr i hlt
    have hks := kL_snoc (nx := nxCode) (k := k) hlt
    have hb := hsm _ (List.getElem_mem hlt)
    generalize kL nxCode k (l.take i) = q at hq hrow hks ⊢
    generalize l[i] = x at hrow hks hb
    replace hrow : rows[i]? = some [.bool (decide ((q).tmod 3 = 0)), .int .i64 (q + 1), .int .i64 (q + 1 + 1), .sl lo 4 ((mkL mkInstr nxInstr (q + 1 + 1 + 1) x.instrs).map (TInstr.tw lo))] := hrow
    have hin := heldInstrS_m hst lo x.instrs (q + 1 + 1 + 1) hb.1 (by omega)
    have hinr := kL_in (nx := nxInstr) (l := x.instrs) (k := q + 1 + 1 + 1) (nxInstr_in _)
    have hks2 : kL nxCode k (l.take (i + 1)) = kL nxInstr (q + 1 + 1 + 1) x.instrs := hks
    have hb0 : (decide ((q).tmod 3 = 0) != decide ((q).tmod 3 = 0)) = false := by simp
    have hi1 : ¬ (q + 1) ≠ (q + 1) := fun h => h rfl
    have hi2 : ¬ (q + 1 + 1) ≠ (q + 1 + 1) := fun h => h rfl
    repeat' (first | ((with_reducible apply o_y); exact y_; rfl) | refine e_call hG hst (hin) ?_ | with_reducible refine al_none rfl ?_ | (with_reducible first | apply aw_seq | apply aw_region | apply al_nil | apply aq_then | apply aw_block | apply aw_skip | apply aw_ret | apply aq_then_ret | apply aq_block_ret | apply aq_block) | (refine aw_cond_dt rfl rr_ dd_ ?_) | (refine aw_cond_df rfl rr_ dd_ ?_) | (refine aw_cond_b rfl rr_ (fun hc => ?_) (fun hc => ?_)))
    all_goals first
      | exact aq_round (i + 1) (by omega) (by omega) (.of _ (Weak.envCons rfl (Weak.envCons (lk_int rfl (by rw [hks2])) Weak.envNil)) od_ pk_)
      | (exfalso; simp_all; done)
      | (exfalso; omega)
  · obtain rfl : i = l.length := by omega
    rw [List.take_length]
    repeat' (first | ((with_reducible apply o_y); exact y_; rfl) | with_reducible refine al_none rfl ?_ | (with_reducible first | apply aw_seq | apply aw_region | apply al_nil | apply aq_then | apply aw_exit | apply aw_ret | apply aq_block_hit | apply aq_then_exit) | (refine aw_cond_df rfl rr_ dd_ ?_))
    refine aq_ret1 x_ rfl (.tmp _ _ rfl) (fun _ => ?_)
    exact Fin.flat rfl
theorem heldCodeBase_m (hst : Stable G) (lo : Nat) (x : TCodeBase) (hb : x.small 1048576) (k : Int) (hk : 0 ≤ k ∧ k ≤ 50000000000000) : Ct Tryz.prog G 14 [.agg ((mkCodeBase k x).tw lo), .int .i64 k] (fun _ => .int .i64 (nxCodeBase k x)) := by
  refine ct_enter Tryz.func14 rfl Tryz.ntmps14 rfl rfl fun w0 _ hG => ?_
  have h1 := kL_take (k := k) (i := x.classes.length) hb.1.1 (nxClassInfo_in hb.1.2) (Nat.le_refl _)
  have h2 := kL_take (k := kL nxClassInfo k x.classes) (i := x.codes.length) hb.2.1.1 (nxCode_in hb.2.1.2) (Nat.le_refl _)
  have h3 := kL_take (k := kL nxCode (kL nxClassInfo k x.classes) x.codes) (i := x.entries.length) hb.2.2.1 (nxEntry_in x.entries) (Nat.le_refl _)
  rw [List.take_length] at h1 h2 h3
  have c1 := heldClassInfoS_m hst lo x.classes k hb.1 (by omega)
  have c2 := heldCodeS_m hst lo x.codes (kL nxClassInfo k x.classes) hb.2.1 (by omega)
  have c3 := heldEntryS_m hst lo x.entries (kL nxCode (kL nxClassInfo k x.classes) x.codes) hb.2.2.1 (by omega)
  unfold TCodeBase.tw mkCodeBase nxCodeBase
  dsimp only
  repeat' (first | ((with_reducible apply o_y); exact y_; rfl) | refine e_box ?_ | refine e_call hG hst (c1) ?_ | refine e_call hG hst (c2) ?_ | refine e_call hG hst (c3) ?_ | with_reducible refine al_none rfl ?_ | (with_reducible first | apply aw_seq | apply aw_region | apply al_nil | apply aq_then | apply aw_skip | apply aw_ret) | (refine aw_cond_df rfl rr_ dd_ ?_))
  refine aq_ret1 x_ rfl (.tmp _ _ rfl) (fun _ => ?_)
  exact Fin.flat rfl
end
end Go.Proofs.YthpdkhejeookhaaGreatDoor
/- The law FnExactIsVerified, walked. -/
namespace Go.Proofs.YthpdkhejeookhaaGreatDoor
set_option maxRecDepth 20000
open Go Go.RowKit
/-- What a code base is to the walk, and its sizes. -/
theorem atL_tvs {α : Type} {R : PT → α → Prop} {f : α → List TV} {l : List PT} {xs : List α} (h : AtL R l xs) (hf : ∀ t x, R t x → t.tvs = f x) : PT.rowsL l = xs.map f := by
  rw [PT.rowsL_map]
  apply List.ext_getElem?
  intro i
  simp only [List.getElem?_map]
  by_cases hi : i < l.length
  · have hj : i < xs.length := by rw [← h.1]; exact hi
    rw [List.getElem?_eq_getElem hi, List.getElem?_eq_getElem hj]
    simp only [Option.map_some]
    rw [hf _ _ (h.get hi)]
  · rw [List.getElem?_eq_none (by omega), List.getElem?_eq_none (by rw [← h.1]; omega)]; rfl
theorem classInfo_tvs {t : PT} {x : TClassInfo} (h : TClassInfoAt t x) : t.tvs = x.tw 0 := by
  obtain ⟨A, c, rfl⟩ := h
  simp [PT.tvs, PT.tvsL, TClassInfo.tw, strR, PT.rowsL_map, Function.comp_def]
theorem code_tvs {t : PT} {x : TCode} (h : TCodeAt t x) : t.tvs = x.tw 0 := by
  obtain ⟨A, c, rfl⟩ := h
  simp [PT.tvs, PT.tvsL, TCode.tw, TInstr.pt, TInstr.tw, PT.rowsL_map, Function.comp_def]
theorem codeBase_tvs {t : PT} {x : TCodeBase} (h : TCodeBaseAt t x) : t.tvs = x.tw 0 := by
  obtain ⟨A0, c0, l0, A1, c1, l1, A2, c2, h0, h1, rfl⟩ := h
  simp only [PT.tvs, PT.tvsL, TCodeBase.tw, atL_tvs h0 (fun _ _ => classInfo_tvs), atL_tvs h1 (fun _ _ => code_tvs), PT.rowsL_map, List.map_map, List.append_nil, List.cons_append, List.nil_append]
  rfl
theorem classInfo_small {w : World} {S : Nat → Prop} {t : PT} {x : TClassInfo} (h : TClassInfoAt t x) (hs : Seen w S t) (hx : x.sane) : TClassInfo.small 9223372036854775807 x := by
  obtain ⟨A, c, rfl⟩ := h
  simp only [Seen, SeenL] at hs
  have h1 := hs.2.2.1.1
  have h2 := hs.2.2.1.2.1
  simp only [List.length_map] at h1
  exact ⟨hx.1, Nat.le_trans h1 h2, hx.2.2⟩
theorem code_small {w : World} {S : Nat → Prop} {t : PT} {x : TCode} (h : TCodeAt t x) (hs : Seen w S t) (hx : x.sane) : TCode.small 9223372036854775807 x := by
  obtain ⟨A, c, rfl⟩ := h
  simp only [Seen, SeenL] at hs
  have h1 := hs.2.2.2.1.1
  have h2 := hs.2.2.2.1.2.1
  simp only [List.length_map] at h1
  exact ⟨Nat.le_trans h1 h2, fun y hy => (hx.2.2 y hy).2.2.2⟩
theorem seenL_get {w : World} {S : Nat → Prop} : ∀ {l : List PT}, SeenL w S l → ∀ t ∈ l, Seen w S t
  | _ :: _, h, t, ht => by
    simp only [SeenL] at h
    rcases List.mem_cons.1 ht with rfl | ht
    · exact h.1
    · exact seenL_get h.2 t ht
theorem atL_small {α : Type} {R : PT → α → Prop} {w : World} {S : Nat → Prop} {l : List PT} {xs : List α} (h : AtL R l xs) (hs : SeenL w S l) {p q : α → Prop} (hp : ∀ t x, R t x → Seen w S t → p x → q x) (ha : ∀ x ∈ xs, p x) : ∀ x ∈ xs, q x := fun x hx => by
  obtain ⟨i, hi, rfl⟩ := List.getElem_of_mem hx
  have hj : i < l.length := by rw [h.1]; exact hi
  exact hp l[i] _ (h.get hj) (seenL_get hs _ (List.getElem_mem hj)) (ha _ hx)
theorem codeBase_small {w : World} {S : Nat → Prop} {t : PT} {x : TCodeBase} (h : TCodeBaseAt t x) (hs : Seen w S t) (hx : x.sane) : TCodeBase.small 9223372036854775807 x := by
  obtain ⟨A0, c0, l0, A1, c1, l1, A2, c2, h0, h1, rfl⟩ := h
  simp only [Seen, SeenL] at hs
  obtain ⟨⟨a1, a2, _, _, a5⟩, ⟨b1, b2, _, _, b5⟩, ⟨d1, d2, _, _, _⟩, _⟩ := hs
  simp only [List.length_map] at d1
  exact ⟨⟨by rw [← h0.1]; exact Nat.le_trans a1 a2, atL_small h0 a5 (fun _ _ => classInfo_small) hx.1⟩, ⟨by rw [← h1.1]; exact Nat.le_trans b1 b2, atL_small h1 b5 (fun _ _ => code_small) hx.2.1⟩, ⟨Nat.le_trans d1 d2, fun y hy => (hx.2.2.1 y hy).2.1⟩⟩
end Go.Proofs.YthpdkhejeookhaaGreatDoor
/- The law FnExactShakeBase (under way): what the marks and the calls want of an owned code base. -/
namespace Go.Proofs.YthpdkhejeookhaaGreatDoor
open Go Go.RowKit
theorem newOk_mono {objs objs' : Objs} (h : ∀ o ∈ objs, o ∈ objs') {t : TV} (k : NewOk objs t) : NewOk objs' t := by
  induction k with
  | flat t h => exact .flat t h
  | nils => exact .nils
  | ms s b off len m rows hm => exact .ms s b off len m rows (h _ hm)
  | agg l _ ih => exact .agg l ih
  | tup l _ ih => exact .tup l ih
theorem objNew_mono {objs objs' : Objs} (h : ∀ o ∈ objs, o ∈ objs') {o : TObj} (k : ObjNew objs o) : ObjNew objs' o := by
  cases o with
  | row m rows => exact fun t ht => newOk_mono h (k t ht)
  | box cells => exact fun t ht => newOk_mono h (k t ht)
  | _ => exact k
theorem codMk_new2 (x : TCode) (p : Nat × Nat) (objs : Objs) (h : (p.1, p.2, codOb x) ∈ objs) : ∀ t ∈ codMk x p, NewOk objs t := fun t ht => by
  simp only [codMk, List.mem_cons, List.not_mem_nil, or_false] at ht
  rcases ht with rfl | rfl | rfl | rfl
  · exact .flat _ rfl
  · exact .flat _ rfl
  · exact .flat _ rfl
  · exact .ms _ _ _ _ _ _ h
theorem codOb_new (x : TCode) (objs : Objs) : ObjNew objs (codOb x) := flat_new fun t ht => by
  obtain ⟨r, hr, htr⟩ := List.mem_flatten.1 ht
  obtain ⟨i, _, rfl⟩ := List.mem_map.1 hr
  simp only [TInstr.tw, List.mem_cons, List.not_mem_nil, or_false] at htr
  rcases htr with rfl | rfl | rfl | rfl <;> rfl
theorem entOb_new (l : List TEntry) (objs : Objs) : ObjNew objs (.row 4 (l.map (TEntry.tw 0))) := flat_new fun t ht => by
  obtain ⟨r, hr, htr⟩ := List.mem_flatten.1 ht
  obtain ⟨i, _, rfl⟩ := List.mem_map.1 hr
  simp only [TEntry.tw, List.mem_cons, List.not_mem_nil, or_false] at htr
  rcases htr with rfl | rfl | rfl | rfl <;> rfl
theorem cb_new (x : TCodeBase) (y : CbP) : (∀ s b o, (s, b, o) ∈ cbO x y → ObjNew (cbO x y) o) ∧ NewOk (cbO x y) (.agg (cbC x y)) := by
  have h1 := nest_new (m := 3) (s := y.1.1.1) (b := y.1.1.2) (n := x.classes.length) clsMk_new clsOb_new x.classes y.1.2
  have h2 := nest_new (m := 4) (s := y.2.1.1.1) (b := y.2.1.1.2) (n := x.codes.length) codMk_new2 codOb_new x.codes y.2.1.2
  have m1 : ∀ o ∈ clsO x.classes y.1, o ∈ cbO x y := fun o h => List.mem_append_left _ h
  have m2 : ∀ o ∈ codO x.codes y.2.1, o ∈ cbO x y := fun o h => List.mem_append_right _ (List.mem_append_left _ h)
  have m3 : ∀ o ∈ entO x.entries y.2.2, o ∈ cbO x y := fun o h => List.mem_append_right _ (List.mem_append_right _ h)
  refine ⟨fun s b o h => ?_, .agg _ fun t ht => ?_⟩
  · rcases List.mem_append.1 h with h | h
    · exact objNew_mono m1 (h1.1 s b o h)
    · rcases List.mem_append.1 h with h | h
      · exact objNew_mono m2 (h2.1 s b o h)
      · simp only [entO, List.mem_singleton, Prod.mk.injEq] at h
        obtain ⟨_, _, rfl⟩ := h
        exact entOb_new _ _
  · simp only [cbC, List.mem_cons, List.not_mem_nil, or_false] at ht
    rcases ht with rfl | rfl | rfl | rfl
    · exact newOk_mono m1 h1.2
    · exact newOk_mono m2 h2.2
    · exact .ms _ _ _ _ _ _ (m3 _ List.mem_cons_self)
    · exact .flat _ rfl
theorem shakeB_small {n : Nat} {x : TCodeBase} (h : TCodeBase.small n x) : TCodeBase.small n (shakeB x) := by
  unfold shakeB
  split
  · exact ⟨h.1, h.2.1, Nat.le_trans (List.length_filter_le _ _) h.2.2.1, fun y hy => h.2.2.2 y ((List.mem_filter.1 hy).1)⟩
  · exact ⟨⟨Nat.zero_le _, by simp⟩, ⟨Nat.zero_le _, by simp⟩, Nat.zero_le _, by simp⟩
end Go.Proofs.YthpdkhejeookhaaGreatDoor
/- The law FnExactShakeBase, walked (under way). -/
namespace Go.Proofs.YthpdkhejeookhaaGreatDoor
set_option maxRecDepth 20000
open Go Go.RowKit
theorem cb_new2 (x : TCodeBase) (v : Bool) (y : CbP) (_ : cbI x y) : (∀ s b o, (s, b, o) ∈ cbO x y → ObjNew (cbO x y) o) ∧ NewOk (cbO x y) (.tup [.agg (cbC x y), .bool v]) :=
  ⟨(cb_new x y).1, .tup _ fun t ht => by
    simp only [List.mem_cons, List.not_mem_nil, or_false] at ht
    rcases ht with rfl | rfl
    · exact (cb_new x y).2
    · exact .flat _ rfl⟩
theorem pick_box3 (a b c : Nat × Nat × TObj) (A B C : Objs) : Pick (a :: b :: c :: (A ++ (B ++ C))) (a :: (A ++ (b :: (B ++ (c :: C))))) := .perm (by
  have h1 : (A ++ (b :: (B ++ (c :: C)))).Perm (b :: (A ++ (B ++ (c :: C)))) := List.perm_middle
  have h2 : (A ++ (B ++ (c :: C))).Perm (c :: (A ++ (B ++ C))) := by
    have : ((A ++ B) ++ (c :: C)).Perm (c :: ((A ++ B) ++ C)) := List.perm_middle
    simpa using this
  exact ((h1.trans (h2.cons b)).cons a).symm)
theorem perm_m (a b c : Nat × Nat × TObj) (A B C : Objs) : (B ++ (a :: b :: c :: (A ++ C))).Perm (a :: b :: c :: (A ++ (B ++ C))) := by
  have h := List.perm_append_comm_assoc B ([a, b, c] ++ A) C
  simpa using h
theorem perm_n (a b c : Nat × Nat × TObj) (A C : Objs) : (A ++ (a :: b :: c :: C)).Perm (a :: b :: c :: (A ++ C)) := by
  have h := List.perm_append_comm_assoc A [a, b, c] C
  simpa using h
theorem view_cbm {objs : Objs} {x : TCodeBase} {k : Int} {y : CbP} (hy : cbI x y) (hm : ∀ o ∈ cbO (mkCodeBase k x) y, o ∈ objs) : View objs (.agg (cbC x y)) (.agg ((mkCodeBase k x).tw 0)) := by
  have e : cbC (mkCodeBase k x) y = cbC x y := by simp [cbC, mkCodeBase, mkL_len]
  rw [← e]
  exact view_cb (by simpa [cbI, mkCodeBase, mkL_len] using hy) hm
theorem pick_box4 (a b c d : Nat × Nat × TObj) (Y Z : Objs) : Pick (a :: b :: c :: d :: (Y ++ Z)) (a :: (Y ++ (b :: c :: d :: Z))) := .perm (by
  have h := List.perm_append_comm_assoc Y [b, c, d] Z
  exact (h.symm.cons a))
set_option maxRecDepth 4000 in
set_option maxHeartbeats 4000000 in
theorem fnExactShakeBase_ct (x : TCodeBase) (hb : x.small 9223372036854775807) : Ct Tryz.prog GL 3 [.agg (x.tw 0)] (fun _ => .bool true) := by
  have hst := GL_st
  have hto := fun hx => toCodeBase_ct hst 0 x hx
  have htw := fun hx => toCodeBase_own hst 0 x hx
  refine ct_enter Tryz.func3 rfl Tryz.ntmps3 rfl rfl fun w0 _ hG => ?_
  have hsp := fun hx => specShakeBase_ctm w0.heap.size x hx
  have him := fun (hx : x.small 1048576) => implShakeBase_ctm hst 0 x hx
  have him2 := fun (hx : x.small 1048576) => implShakeBase_ctm hst w0.heap.size x hx
  have heq := fun hx => eqCodeBase_ct hst 0 w0.heap.size x hx
  have hmk := fun (hx : x.small 1048576) y hy => markCodeBase_own hst x y hy hx 1 (by omega)
  have hsm : x.small 1048576 → (shakeB x).small 1048576 := shakeB_small
  have hvw : ∀ {objs : Objs} {y : CbP}, cbI x y → (∀ o ∈ cbO x y, o ∈ objs) → View objs (.agg (cbC x y)) (.agg (x.tw 0)) := fun h1 h2 => view_cb h1 h2
  have hnk := fun hx => nxCodeBase_in (x := x) hx 1
  generalize shakeB x = sx at hsp him him2 hsm
  generalize verifiedB x = vb at hsp him him2
  have hnew := cb_new2 sx vb
  have hvs : ∀ {objs : Objs} {y : CbP}, cbI sx y → (∀ o ∈ cbO sx y, o ∈ objs) → View objs (.agg (cbC sx y)) (.agg (sx.tw 0)) := fun h1 h2 => view_cb h1 h2
  unfold TCodeBase.tw at hto htw hsp heq hvw him him2 ⊢
  repeat' (first | ((with_reducible apply o_y); exact y_; rfl) | refine e_box ?_ | ((with_reducible apply o_callM); rfl; kernel_rfl; (repeat (first | exact ArgsM.nil | ((with_reducible apply ArgsM.cons); rfl))); exact hG; exact szCodeBase_ct hst _ x _ (by omega) hb; exact .nil _; intro y hy; refine al_app0 ?_) | with_reducible refine aw_hold_r (id := 3) ?_ | with_reducible refine al_none rfl ?_ | (with_reducible first | apply aw_seq | apply aw_region | apply al_nil | apply aq_then))
  refine ⟨?_⟩
  by_cases hneg : y < 0
  · repeat' (first | ((with_reducible apply o_y); exact y_; rfl) | with_reducible refine al_none rfl ?_ | (with_reducible first | apply aw_seq | apply aw_region | apply al_nil | apply aq_then | apply aw_ret | apply aq_then_ret) | (refine aw_cond_dt rfl rr_ dd_ ?_))
    refine aq_ret1 x_ rfl (.tmp _ _ rfl) (fun _ => ?_)
    exact Fin.flat rfl
  have hx := hy.2.2 (by omega)
  replace hto := hto hx
  replace htw := htw hx
  replace hsp := hsp hx
  replace him := him hx
  replace him2 := him2 hx
  replace heq := heq hx
  replace hnk := hnk hx
  replace hmk := hmk hx
  replace hsm := hsm hx
  have hqs := eqCodeBase_ct hst 0 0 sx hsm
  clear hb hy
  repeat' (first | ((with_reducible apply o_y); exact y_; rfl) | (refine e_alloc ?_; intro ss bb) | refine e_storep ?_ | refine e_call hG hst (hto) ?_ | ((with_reducible apply o_callM); rfl; kernel_rfl; (repeat (first | exact ArgsM.nil | ((with_reducible apply ArgsM.cons); rfl))); exact hG; exact hsp; exact .nil _; intro ys hys) | with_reducible refine aw_hold_r (id := 6) ?_ | with_reducible refine al_none rfl ?_ | (with_reducible first | apply aw_seq | apply aw_region | apply al_nil | apply aq_then | apply aw_skip) | (refine aw_cond_df rfl rr_ dd_ ?_))
  refine ⟨?_⟩
  generalize ss = s4; generalize bb = b4
  repeat' (first | ((with_reducible apply o_y); exact y_; rfl) | ((with_reducible apply o_callM); rfl; kernel_rfl; (repeat (first | exact ArgsM.nil | ((with_reducible apply ArgsM.cons); rfl))); exact hG; exact htw; exact .nil _; intro y hy) | (refine e_alloc ?_; intro ss bb) | refine e_storep ?_ | with_reducible refine aw_hold_r (id := 7) ?_ | with_reducible refine al_none rfl ?_ | (with_reducible first | apply aw_seq | apply aw_region | apply al_nil | apply aq_then))
  refine ⟨?_⟩
  generalize ss = s5; generalize bb = b5
  have hl1 := hmk y hy
  clear hmk
  unfold cbC at hl1 hvw hvs
  repeat' (first | ((with_reducible apply o_y); exact y_; rfl) | (refine e_alloc ?_; intro ss bb) | refine e_storep ?_ | ((with_reducible apply o_callOV); rfl; kernel_rfl; exact hG; exact hst; exact him; (repeat (first | exact Args.nil | ((with_reducible apply Args.cons); rfl; exact hvw hy (fun o h => List.mem_cons_of_mem _ (List.mem_append_left _ h))))); exact hnew; intro yi hyi) | with_reducible refine aw_hold_r (id := 8) ?_ | with_reducible refine al_none rfl ?_ | (with_reducible first | apply aw_seq | apply aw_region | apply al_nil | apply aq_then))
  refine ⟨?_⟩
  generalize ss = s7; generalize bb = b7
  refine aw_pick (pick_box3 _ _ _ _ _ _) ?_
  repeat' (first | ((with_reducible apply o_y); exact y_; rfl) | ((with_reducible apply o_callV); rfl; kernel_rfl; exact hG; exact hst; exact hqs; ((with_reducible apply Args.cons); rfl; exact hvs hyi fun o h => List.mem_cons_of_mem _ (List.mem_cons_of_mem _ (List.mem_cons_of_mem _ (List.mem_append_left _ h)))); ((with_reducible apply Args.cons); rfl; exact hvs hys fun o h => List.mem_cons_of_mem _ (List.mem_cons_of_mem _ (List.mem_cons_of_mem _ (List.mem_append_right _ (List.mem_append_right _ (List.mem_append_left _ h)))))); exact .nil) | with_reducible refine aw_hold_r (id := 10) ?_ | with_reducible refine al_none rfl ?_ | (with_reducible first | apply aw_seq | apply aw_region | apply al_nil | apply aq_then | apply aw_skip | apply aw_ret | apply aq_then_ret) | refine al_run rfl rfl rfl rr_ ?_ | (refine aw_cond_b rfl rr_ (fun hc => ?_) (fun hc => ?_)))
  all_goals first
    | (exfalso; simp at hc; done)
    | skip
  refine ⟨?_⟩
  repeat' (first | ((with_reducible apply o_y); exact y_; rfl) | with_reducible refine aw_draw (by kernel_rfl) (by kernel_rfl) ?_ | with_reducible refine dr_nil ?_ | with_reducible refine dr_none rfl ?_ | ((with_reducible apply d_y); exact y_; rfl) | refine e_calld hG hst (hto) ?_ | ((with_reducible apply d_callV); rfl; kernel_rfl; exact hG; exact hst; exact heq; (repeat (first | exact Args.nil | ((with_reducible apply Args.cons); rfl; (first | (with_reducible exact View.same _) | exact hvw hy fun o h => List.mem_cons_of_mem _ (List.mem_cons_of_mem _ (List.mem_cons_of_mem _ (List.mem_append_right _ (List.mem_append_left _ h))))))))) | with_reducible refine aw_hold_r (id := 13) ?_ | with_reducible refine al_none rfl ?_ | (with_reducible first | apply aw_seq | apply aw_region | apply al_nil | apply aq_then | apply aw_skip) | refine aw_cond_f rfl rr_ ?_)
  all_goals first
    | (exfalso; simp at hc; done)
    | skip
  refine ⟨?_⟩
  repeat' (first | ((with_reducible apply o_y); exact y_; rfl) | with_reducible refine al_none rfl ?_ | (with_reducible first | apply aw_seq | apply aw_region))
  refine ao_pick (.perm (perm_m _ _ _ _ (cbO x y) _)) ?_
  repeat' (first | ((with_reducible apply o_y); exact y_; rfl) | ((with_reducible apply o_callM); rfl; kernel_rfl; (repeat (first | exact ArgsM.nil | ((with_reducible apply ArgsM.cons); rfl))); exact hG; exact hl1; exact .app _ _; rintro ⟨⟩ -; refine al_pick (.perm (perm_m _ _ _ _ _ _).symm) ?_) | ((with_reducible apply o_callV); rfl; kernel_rfl; exact hG; exact hst; exact hqs; ((with_reducible apply Args.cons); rfl; exact hvs hyi fun o h => List.mem_cons_of_mem _ (List.mem_cons_of_mem _ (List.mem_cons_of_mem _ (List.mem_append_left _ h)))); ((with_reducible apply Args.cons); rfl; exact hvs hys fun o h => List.mem_cons_of_mem _ (List.mem_cons_of_mem _ (List.mem_cons_of_mem _ (List.mem_append_right _ (List.mem_append_right _ (List.mem_append_left _ h)))))); exact .nil) | with_reducible refine aw_hold_r (id := 16) ?_ | with_reducible refine al_none rfl ?_ | (with_reducible first | apply aw_seq | apply aw_region | apply al_nil | apply aq_then | apply aw_skip | apply aw_ret | apply aq_then_ret) | refine al_run rfl rfl rfl rr_ ?_ | (refine al_gf rfl rfl rfl rr_ dd_ ?_) | (refine aw_cond_b rfl rr_ (fun hc => ?_) (fun hc => ?_)))
  all_goals first
    | (exfalso; simp at hc; done)
    | skip
  refine ⟨?_⟩
  have hl2 := markCodeBase_own hst sx yi hyi hsm 1 (by omega)
  unfold cbC at hl2
  repeat' (first | ((with_reducible apply o_y); exact y_; rfl) | with_reducible refine al_none rfl ?_ | (with_reducible first | apply aw_seq | apply aw_region | apply al_nil | apply aq_then))
  refine ao_pick (.perm (perm_n _ _ _ (cbO sx yi) _)) ?_
  repeat' (first | ((with_reducible apply o_y); exact y_; rfl) | ((with_reducible apply o_callM); rfl; kernel_rfl; (repeat (first | exact ArgsM.nil | ((with_reducible apply ArgsM.cons); rfl))); exact hG; exact hl2; exact .app _ _; rintro ⟨⟩ -; refine al_pick (.perm (perm_n _ _ _ _ _).symm) ?_) | with_reducible refine aw_hold_r (id := 18) ?_ | with_reducible refine al_none rfl ?_ | (with_reducible first | apply al_nil | apply aq_then))
  refine ⟨?_⟩
  have hhd := heldCodeBase_m hst 0 sx hsm 1 (by omega)
  have hkS := nxCodeBase_in (x := sx) hsm 1
  have hvm : ∀ {objs : Objs}, (∀ o ∈ cbO (mkCodeBase 1 sx) yi, o ∈ objs) → View objs (.agg (cbC sx yi)) (.agg ((mkCodeBase 1 sx).tw 0)) := fun h => view_cbm hyi h
  unfold cbC at hvm
  generalize nxCodeBase 1 sx = kq at hhd hkS ⊢
  repeat' (first | ((with_reducible apply o_y); exact y_; rfl) | ((with_reducible apply o_callV); rfl; kernel_rfl; exact hG; exact hst; exact hhd; ((with_reducible apply Args.cons); rfl; exact hvm fun o h => List.mem_cons_of_mem _ (List.mem_cons_of_mem _ (List.mem_cons_of_mem _ (List.mem_append_left _ h)))); ((with_reducible apply Args.cons); rfl; exact View.same _); exact Args.nil) | with_reducible refine aw_hold_r (id := 24) ?_ | with_reducible refine al_none rfl ?_ | (with_reducible first | apply aw_seq | apply aw_region | apply al_nil | apply aq_then | apply aw_skip) | (refine aw_cond_df rfl rr_ dd_ ?_))
  all_goals first
    | (exfalso; simp at hc; done)
    | skip
  refine ⟨?_⟩
  repeat' (first | ((with_reducible apply o_y); exact y_; rfl) | (refine e_alloc ?_; intro ss bb) | refine e_storep ?_ | refine e_call hG hst (hto) ?_ | ((with_reducible apply o_callOV); rfl; kernel_rfl; exact hG; exact hst; exact him2; ((repeat (first | exact Args.nil | ((with_reducible apply Args.cons); rfl; (with_reducible exact View.same _))))); exact hnew; intro yj hyj) | with_reducible refine aw_hold_r (id := 25) ?_ | with_reducible refine al_none rfl ?_ | (with_reducible first | apply aw_seq | apply aw_region | apply al_nil | apply aq_then))
  refine ⟨?_⟩
  generalize ss = s9; generalize bb = b9
  refine aw_pick (pick_box4 _ _ _ _ _ _) ?_
  repeat' (first | ((with_reducible apply o_y); exact y_; rfl) | ((with_reducible apply o_callV); rfl; kernel_rfl; exact hG; exact hst; exact hqs; ((with_reducible apply Args.cons); rfl; exact hvs hyj fun o h => List.mem_cons_of_mem _ (List.mem_cons_of_mem _ (List.mem_cons_of_mem _ (List.mem_cons_of_mem _ (List.mem_append_left _ h))))); ((with_reducible apply Args.cons); rfl; exact hvs hys fun o h => List.mem_cons_of_mem _ (List.mem_cons_of_mem _ (List.mem_cons_of_mem _ (List.mem_cons_of_mem _ (List.mem_append_right _ (List.mem_append_right _ (List.mem_append_right _ (List.mem_append_left _ h)))))))); exact .nil) | with_reducible refine aw_hold_r (id := 28) ?_ | with_reducible refine al_none rfl ?_ | (with_reducible first | apply aw_seq | apply aw_region | apply al_nil | apply aq_then | apply aw_skip | apply aw_ret | apply aq_then_ret) | refine al_run rfl rfl rfl rr_ ?_ | (refine aw_cond_b rfl rr_ (fun hc => ?_) (fun hc => ?_)))
  all_goals first
    | (exfalso; simp at hc; done)
    | skip
  refine ⟨?_⟩
  repeat' (first | ((with_reducible apply o_y); exact y_; rfl) | ((with_reducible apply o_callV); rfl; kernel_rfl; exact hG; exact hst; exact hhd; ((with_reducible apply Args.cons); rfl; exact hvm fun o h => List.mem_cons_of_mem _ (List.mem_cons_of_mem _ (List.mem_cons_of_mem _ (List.mem_cons_of_mem _ (List.mem_append_right _ (List.mem_append_left _ h)))))); ((with_reducible apply Args.cons); rfl; exact View.same _); exact Args.nil) | with_reducible refine al_none rfl ?_ | (with_reducible first | apply aw_seq | apply aw_region | apply al_nil | apply aq_then | apply aw_skip | apply aw_ret) | (refine aw_cond_df rfl rr_ dd_ ?_))
  all_goals first
    | (refine aq_ret1 x_ rfl (.tmp _ _ rfl) (fun _ => ?_)
       exact Fin.flat rfl)
    | (exfalso; simp at hc; done)
/-- The law, with its argument as the row's datum gives it. -/
theorem fnExactShakeBase_any (w : World) (t : PT) (x : TCodeBase) (hat : TCodeBaseAt t x) (hsee : Seen w (· < w.heap.size) t) (hx : x.sane) (hm : MaxL w) : Calls Tryz.prog 3 #[.agg t.cells.toArray] w fun e w' => e = .returned (.bool true) ∧ Below w.heap.size w w' := by
  have h0 : 0 < w.heap.size := by
    obtain ⟨m, hm⟩ := hm
    have := World.block_lt_of_cell? w _ hm
    omega
  have hok := tv_ok w _ _ hsee
  have hsm := codeBase_small hat hsee hx
  rw [codeBase_tvs hat] at hok
  refine (fnExactShakeBase_ct x hsm w _ h0 hm rfl ?_).mono ?_
  · intro i t v h1 h2
    match i, h1, h2 with
    | 0, h1, h2 =>
      cases h1; cases h2
      exact .agg _ _ hok.2.1 (by simpa using hok.1) (fun i t v ht hv => hok.2.2 i t v ht (by simpa using hv))
  · rintro e w' ⟨v, rfl, hb, hr⟩
    have := (hr 0 (Nat.zero_le _)).bool_inv
    subst this
    exact ⟨rfl, hb⟩
end Go.Proofs.YthpdkhejeookhaaGreatDoor
