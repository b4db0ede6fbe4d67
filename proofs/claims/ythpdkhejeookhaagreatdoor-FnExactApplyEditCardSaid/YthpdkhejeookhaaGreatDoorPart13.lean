/- Part 13 of the proof: the texts MkC, CpA, CpB, CpC, CpD, MkV, ApC, RsB, RsC, RsD, ShA, ApD, ShB, ShC, IvH, IvK. -/
import Derived.Test.YthpdkhejeookhaaGreatDoorPart6
import Derived.Test.YthpdkhejeookhaaGreatDoorPart12
import Derived.Test.YthpdkhejeookhaaGreatDoorPart11
import Derived.Test.YthpdkhejeookhaaGreatDoorPart9
import Derived.Test.YthpdkhejeookhaaGreatDoorPart8
import Derived.Test.YthpdkhejeookhaaGreatDoorPart5
/- A code base that the call owns: its copy (toCodeBase), its marks (markCodeBase), and how it is looked at. -/
namespace Go.Proofs.YthpdkhejeookhaaGreatDoor
set_option maxRecDepth 20000
open Go Go.RowKit
def clsO (l : List TClassInfo) (y : (Nat × Nat) × List (Nat × Nat)) : Objs := (y.1.1, y.1.2, .row 3 (nR clsMk l y.2)) :: nO clsOb l y.2
def codO (l : List TCode) (y : (Nat × Nat) × List (Nat × Nat)) : Objs := (y.1.1, y.1.2, .row 4 (nR codMk l y.2)) :: nO codOb l y.2
def entO (l : List TEntry) (y : Nat × Nat) : Objs := [(y.1, y.2, .row 4 (l.map (TEntry.tw 0)))]
/-- The places of a code base. -/
def CbP : Type := ((Nat × Nat) × List (Nat × Nat)) × ((Nat × Nat) × List (Nat × Nat)) × (Nat × Nat)
def cbO (x : TCodeBase) (y : CbP) : Objs := clsO x.classes y.1 ++ (codO x.codes y.2.1 ++ entO x.entries y.2.2)
def cbC (x : TCodeBase) (y : CbP) : List TV := [.ms y.1.1.1 y.1.1.2 0 x.classes.length, .ms y.2.1.1.1 y.2.1.1.2 0 x.codes.length, .ms y.2.2.1 y.2.2.2 0 x.entries.length, .int .i64 x.main]
def cbI (x : TCodeBase) (y : CbP) : Prop := y.1.2.length = x.classes.length ∧ y.2.1.2.length = x.codes.length
theorem pick_box2 (A : Objs) (x z : Nat × Nat × TObj) (R : Objs) : Pick (x :: z :: (A ++ R)) (A ++ (x :: z :: R)) := .perm (by
  have h1 : (A ++ (x :: z :: R)).Perm (x :: (A ++ (z :: R))) := List.perm_middle
  have h2 : (A ++ (z :: R)).Perm (z :: (A ++ R)) := List.perm_middle
  exact (h1.trans (h2.cons x)).symm)
theorem perm_cb (A B C R : Objs) : ((A ++ (B ++ C)) ++ R).Perm (C ++ (B ++ (A ++ R))) := by
  have h1 : (A ++ (B ++ C)).Perm (C ++ (B ++ A)) := by
    have : (A ++ (B ++ C)).Perm ((B ++ C) ++ A) := List.perm_append_comm
    refine this.trans ?_
    have h2 : ((B ++ C) ++ A).Perm ((C ++ B) ++ A) := (List.perm_append_comm).append_right A
    rw [List.append_assoc] at h2
    rw [List.append_assoc] at h2 ⊢
    exact h2
  have h3 := h1.append_right R
  simpa [List.append_assoc] using h3
theorem pick_end (A B C R : Objs) : Pick (C ++ (A ++ (B ++ R))) (B ++ (A ++ (C ++ R))) := .perm (by
  have h1 : (C ++ (A ++ B)).Perm (B ++ (A ++ C)) := by
    have h := (perm_cb C A B [])
    simpa using h
  simpa [List.append_assoc] using h1.append_right R)
theorem pick_three (A B C R : Objs) : Pick (A ++ (B ++ (C ++ R))) (C ++ (A ++ (B ++ R))) := .perm (by
  have h1 : (A ++ (B ++ C)).Perm (C ++ (A ++ B)) := by
    rw [← List.append_assoc]
    exact List.perm_append_comm
  simpa [List.append_assoc] using h1.append_right R)
section
variable {G : World → Prop}
theorem toCodeBase_own (hst : Stable G) (lo : Nat) (x : TCodeBase) (hb : x.small 1048576) : CtM Tryz.prog G 10 [.agg (x.tw lo)] [] (cbI x) (cbO x) (fun y => .agg (cbC x y)) := by
  refine ctm_enter Tryz.func10 rfl Tryz.ntmps10 rfl rfl rfl fun w0 R gs objsR hG hR => ?_
  obtain rfl := hR.inv0
  clear hR
  have c1 := toClassInfoS_own hst lo x.classes hb.1
  have c2 := toCodeS_own hst lo x.codes hb.2.1
  have c3 := toEntryS_own hst lo x.entries hb.2.2
  unfold TCodeBase.tw
  repeat' (first | ((with_reducible apply o_y); exact y_; rfl) | refine e_box ?_ | (refine e_alloc ?_; intro ss bb) | refine e_storep ?_ | ((with_reducible apply o_callM); rfl; kernel_rfl; (repeat (first | exact ArgsM.nil | ((with_reducible apply ArgsM.cons); rfl))); exact hG; (first | exact c1 | exact c2 | exact c3); exact .nil _; intro y hy; refine al_pick (pick_box2 _ _ _ _) ?_) | with_reducible refine al_none rfl ?_ | (with_reducible first | apply aw_seq | apply aw_region | apply al_nil | apply aq_then | apply aw_ret))
  rename_i yc hyc yd hyd
  refine aq_retm1 (t1 := .agg [.ms yc.1.1 yc.1.2 0 x.classes.length, .ms yd.1.1 yd.1.2 0 x.codes.length, .ms y.1 y.2 0 x.entries.length, .int .i64 x.main]) x_ rfl (yc, yd, y) ⟨hyc, hyd⟩ rfl (.app _ R) (.drop (.drop (.perm (perm_cb _ _ _ R)))) (.cell _ _ _ _ _ rfl mm_ (by kernel_rfl) (by kernel_rfl) (by kernel_rfl)) rfl
def mkCodeBase (k : Int) (x : TCodeBase) : TCodeBase := ⟨mkL mkClassInfo nxClassInfo k x.classes, mkL mkCode nxCode (kL nxClassInfo k x.classes) x.codes, mkL mkEntry nxEntry (kL nxCode (kL nxClassInfo k x.classes) x.codes) x.entries, x.main⟩
def nxCodeBase (k : Int) (x : TCodeBase) : Int := kL nxEntry (kL nxCode (kL nxClassInfo k x.classes) x.codes) x.entries
theorem nxCodeBase_in {x : TCodeBase} (hb : x.small 1048576) (k : Int) : k ≤ nxCodeBase k x ∧ nxCodeBase k x ≤ k + 6000000000000 := by
  have h1 := kL_take (k := k) (i := x.classes.length) hb.1.1 (nxClassInfo_in hb.1.2) (Nat.le_refl _)
  have h2 := kL_take (k := kL nxClassInfo k x.classes) (i := x.codes.length) hb.2.1.1 (nxCode_in hb.2.1.2) (Nat.le_refl _)
  have h3 := kL_take (k := kL nxCode (kL nxClassInfo k x.classes) x.codes) (i := x.entries.length) hb.2.2.1 (nxEntry_in x.entries) (Nat.le_refl _)
  rw [List.take_length] at h1 h2 h3
  unfold nxCodeBase
  omega
theorem markCodeBase_own (hst : Stable G) (x : TCodeBase) (y : CbP) (hy : cbI x y) (hb : x.small 1048576) (k : Int) (hk : 0 ≤ k ∧ k ≤ 50000000000000) :
    CtM Tryz.prog G 13 [.agg (cbC x y), .int .i64 k] (cbO x y) (fun _ : Unit => True) (fun _ => cbO (mkCodeBase k x) y) (fun _ => .int .i64 (nxCodeBase k x)) := by
  refine ctm_enter Tryz.func13 rfl Tryz.ntmps13 rfl rfl rfl fun w0 R gs objsR hG hR => ?_
  obtain rfl := hR.eq
  clear hR
  have h1 := kL_take (k := k) (i := x.classes.length) hb.1.1 (nxClassInfo_in hb.1.2) (Nat.le_refl _)
  have h2 := kL_take (k := kL nxClassInfo k x.classes) (i := x.codes.length) hb.2.1.1 (nxCode_in hb.2.1.2) (Nat.le_refl _)
  rw [List.take_length] at h1 h2
  have c1 := markClassInfoS_own hst y.1.1.1 y.1.1.2 x.classes y.1.2 hy.1 k hb.1 (by omega)
  have c2 := markCodeS_own hst y.2.1.1.1 y.2.1.1.2 x.codes y.2.1.2 hy.2 (kL nxClassInfo k x.classes) hb.2.1 (by omega)
  have c3 := markEntryS_own hst y.2.2.1 y.2.2.2 x.entries (kL nxCode (kL nxClassInfo k x.classes) x.codes) hb.2.2.1 (by omega)
  have e0 : cbO x y ++ R = clsO x.classes y.1 ++ (codO x.codes y.2.1 ++ (entO x.entries y.2.2 ++ R)) := by unfold cbO; simp [List.append_assoc]
  have e1 : cbO (mkCodeBase k x) y ++ R = clsO (mkCodeBase k x).classes y.1 ++ (codO (mkCodeBase k x).codes y.2.1 ++ (entO (mkCodeBase k x).entries y.2.2 ++ R)) := by unfold cbO; simp [List.append_assoc]
  rw [e0]
  unfold cbC
  repeat' (first | ((with_reducible apply o_y); exact y_; rfl) | refine e_box ?_ | ((with_reducible apply o_callM); rfl; kernel_rfl; (repeat (first | exact ArgsM.nil | ((with_reducible apply ArgsM.cons); rfl))); exact hG; exact c1; exact .app _ _; intro z hz; refine al_pick (pick_rot _ _ _) ?_) | ((with_reducible apply o_callM); rfl; kernel_rfl; (repeat (first | exact ArgsM.nil | ((with_reducible apply ArgsM.cons); rfl))); exact hG; exact c2; exact .app _ _; intro z hz; refine al_pick (pick_end _ _ _ _) ?_) | ((with_reducible apply o_callM); rfl; kernel_rfl; (repeat (first | exact ArgsM.nil | ((with_reducible apply ArgsM.cons); rfl))); exact hG; exact c3; exact .app _ _; intro z hz) | with_reducible refine al_none rfl ?_ | (with_reducible first | apply aw_seq | apply aw_region | apply al_nil | apply aq_then | apply aw_ret))
  refine aq_retm1 x_ rfl () trivial rfl (.app _ R) ?_ (.tmp _ _ rfl) rfl
  rw [e1]
  exact pick_three _ _ _ R
end
end Go.Proofs.YthpdkhejeookhaaGreatDoor
/- Copies of a code base that the caller owns: the program's copyClasses. -/
namespace Go.Proofs.YthpdkhejeookhaaGreatDoor
set_option maxRecDepth 20000
open Go Go.RowKit
theorem nR_snoc {α : Type} (mk : α → Nat × Nat → List TV) {l : List α} {ps : List (Nat × Nat)} {i : Nat} (h : i < l.length) (hp : ps.length = i) (p : Nat × Nat) : nR mk (l.take i) ps ++ [mk l[i] p] = nR mk (l.take (i + 1)) (ps ++ [p]) := by
  unfold nR
  rw [takeSnoc h, List.zipWith_append (by rw [List.length_take]; omega)]; rfl
section
variable {G : World → Prop}
theorem copyClasses_own (_hst : Stable G) (lo : Nat) (l : List TClassInfo) (hb : l.length ≤ 1048576 ∧ ∀ y ∈ l, TClassInfo.small 1048576 y) : CtM Tryz.prog G 121 [.sl lo 3 (l.map (TClassInfo.tw lo))] [] (fun y : (Nat × Nat) × List (Nat × Nat) => y.2.length = l.length) (fun y => (y.1.1, y.1.2, .row 3 (nR clsMk l y.2)) :: nO clsOb l y.2) (fun y => .ms y.1.1 y.1.2 0 l.length) := by
  refine ctm_enter Tryz.func121 rfl Tryz.ntmps121 rfl rfl rfl fun w0 R gs objsR hG hR => ?_
  obtain rfl := hR.inv0
  clear hR
  have hlen := TClassInfo.len lo l
  have hl1 := hb.1
  repeat' (first | ((with_reducible apply o_y); exact y_; rfl) | (refine e_own ?_; intro ss bb) | with_reducible refine al_none rfl ?_ | (with_reducible first | apply aw_seq | apply aw_region | apply al_nil | apply aq_then | apply aw_block))
  generalize ss = so; generalize bb = bo
  apply aw_loopk (X := Nat × Nat × List (Nat × Nat)) [7, 8, 1000000] (fun x => [(9, .int .i64 (x.1 : Int)), (3, .ms so x.2.1 0 x.1)]) (fun x => (so, x.2.1, .row 3 (nR clsMk (l.take x.1) x.2.2)) :: (nO clsOb (l.take x.1) x.2.2 ++ R)) (fun x => x.1 ≤ l.length ∧ x.2.2.length = x.1) (fun x => l.length - x.1) (0, bo, []) ⟨Nat.zero_le _, rfl⟩
  exact kp_; (repeat (first | exact Weak.envNil | refine Weak.envCons we_ ?_))
  · exact .refl _
  rintro ⟨i, bo, ps⟩ ⟨hi, hps⟩
  dsimp only at hi hps ⊢
  by_cases hlt : i < l.length
  · have hrs := fun p => nR_snoc clsMk hlt hps p
    have hos := fun p => nO_snoc clsOb hlt hps p
    have hra : (l.map (TClassInfo.tw lo))[i]? = some (l[i].tw lo) := row_map hlt
    have hrl : (nR clsMk (l.take i) ps).length = i := by rw [nR_len _ (by rw [List.length_take]; omega), List.length_take]; omega
    have hbi := hb.2 _ (List.getElem_mem hlt)
    generalize l[i] = x at hrs hos hra hbi
    rw [show x.tw lo = [.str x.name, .int .i64 x.parent, .sl lo 1 (strR x.fields)] from rfl] at hra
    have hsl := strR_len x.fields
    have hf := hbi.2.1
    generalize nO clsOb (l.take i) ps = T at hos ⊢
    repeat' (first | ((with_reducible apply o_y); exact y_; rfl) | (refine e_alloc ?_; intro ss bb) | refine e_storep ?_ | ((with_reducible apply o_own (n := 0)); rfl; rfl; kernel_rfl; kernel_rfl; rfl; kernel_rfl; rfl; rfl; rfl; rfl; intro ss bb) | refine e_lit ?_ | ((with_reducible apply o_append0); rfl; rfl; rfl; kernel_rfl; (repeat (with_reducible exact mh)); (with_reducible assumption); omega; (intro bq; (repeat (with_reducible exact Upd.head _))); intro bb) | ((with_reducible apply o_append); rfl; rfl; rfl; kernel_rfl; (repeat (first | with_reducible exact mh | with_reducible refine mt ?_)); exact hrl; ((show List.length _ = 1; rfl)); omega; exact hrs (_, _); (intro bq; (repeat (first | with_reducible exact Upd.head _ | with_reducible apply Upd.tail))); intro bb) | with_reducible refine al_none rfl ?_ | (with_reducible first | apply aw_seq | apply aw_region | apply al_nil | apply aq_then | apply aw_block | apply aw_skip | apply aq_block) | (refine aw_cond_dt rfl rr_ dd_ ?_))

    rename_i s5 b5 _ bx
    generalize ss = sx
    refine aq_pick (objs' := (sx, bx, .row 1 (strR x.fields)) :: (so, bb, .row 3 (nR clsMk (l.take (i + 1)) (ps ++ [(sx, bx)]))) :: (T ++ R)) pk_ ?_
    refine aq_round (i + 1, bb, ps ++ [(sx, bx)]) ⟨by dsimp only; omega, by dsimp only; simp [hps]⟩ (by dsimp only; omega) (.of _ nw_ od_ ?_)
    dsimp only
    rw [hos (sx, bx)]
    exact pick_snoc _ _ T R
  · obtain rfl : i = l.length := by omega
    rw [List.take_of_length_le (Nat.le_refl _)]
    repeat' (first | ((with_reducible apply o_y); exact y_; rfl) | with_reducible refine al_none rfl ?_ | (with_reducible first | apply aw_seq | apply aw_region | apply al_nil | apply aq_then | apply aw_exit | apply aw_ret | apply aq_block_hit | apply aq_then_exit) | (refine aw_cond_df rfl rr_ dd_ ?_))
    exact aq_retm1 x_ rfl ((so, bo), ps) hps rfl (.cons _ _ _ _ (.app _ R)) (.refl _) (.tmp _ _ rfl) rfl
end
end Go.Proofs.YthpdkhejeookhaaGreatDoor
/- Copies of a code base that the caller owns: the program's copyBase. -/
namespace Go.Proofs.YthpdkhejeookhaaGreatDoor
set_option maxRecDepth 20000
open Go Go.RowKit
theorem zip_mem {α β γ : Type} {f : α → β → γ} {l : List α} {ps : List β} {z : γ} (h : z ∈ List.zipWith f l ps) : ∃ x p, f x p = z ∧ ∀ {δ : Type} (g : α → β → δ), g x p ∈ List.zipWith g l ps := by
  induction l generalizing ps with
  | nil => simp at h
  | cons a l ih =>
    cases ps with
    | nil => simp at h
    | cons q ps =>
      rw [List.zipWith_cons_cons, List.mem_cons] at h
      rcases h with rfl | h
      · exact ⟨a, q, rfl, fun g => by rw [List.zipWith_cons_cons]; exact List.mem_cons_self⟩
      · obtain ⟨x, p, h1, h2⟩ := ih h
        exact ⟨x, p, h1, fun g => by rw [List.zipWith_cons_cons]; exact List.mem_cons_of_mem _ (h2 g)⟩
theorem nest_new {α : Type} {mk : α → Nat × Nat → List TV} {ob : α → TObj} {m s b n : Nat} (hmk : ∀ x p objs, (p.1, p.2, ob x) ∈ objs → ∀ t ∈ mk x p, NewOk objs t) (hob : ∀ x objs, ObjNew objs (ob x)) (l : List α) (ps : List (Nat × Nat)) :
    (∀ s' b' o, (s', b', o) ∈ (s, b, TObj.row m (nR mk l ps)) :: nO ob l ps → ObjNew ((s, b, TObj.row m (nR mk l ps)) :: nO ob l ps) o) ∧ NewOk ((s, b, TObj.row m (nR mk l ps)) :: nO ob l ps) (.ms s b 0 n) := by
  refine ⟨fun s' b' o h => ?_, .ms _ _ _ _ _ _ List.mem_cons_self⟩
  rcases List.mem_cons.1 h with h | h
  · simp only [Prod.mk.injEq] at h
    obtain ⟨_, _, rfl⟩ := h
    intro t ht
    obtain ⟨r, hr, htr⟩ := List.mem_flatten.1 ht
    obtain ⟨x, p, rfl, hg⟩ := zip_mem hr
    exact hmk x p _ (List.mem_cons_of_mem _ (hg fun x p => (p.1, p.2, ob x))) t htr
  · obtain ⟨x, p, he, _⟩ := zip_mem h
    simp only [Prod.mk.injEq] at he
    obtain ⟨_, _, rfl⟩ := he
    exact hob x _
theorem clsMk_new (x : TClassInfo) (p : Nat × Nat) (objs : Objs) (h : (p.1, p.2, clsOb x) ∈ objs) : ∀ t ∈ clsMk x p, NewOk objs t := fun t ht => by
  simp only [clsMk, List.mem_cons, List.not_mem_nil, or_false] at ht
  rcases ht with rfl | rfl | rfl
  · exact .flat _ rfl
  · exact .flat _ rfl
  · exact .ms _ _ _ _ _ _ h
theorem clsOb_new (x : TClassInfo) (objs : Objs) : ObjNew objs (clsOb x) := flat_new (strR_flat _)
theorem pick_snoc2 (a b z : Nat × Nat × TObj) (T R : Objs) : Pick (a :: b :: ((T ++ [z]) ++ R)) (z :: a :: b :: (T ++ R)) := .perm (by
  have h : ((T ++ [z]) ++ R).Perm (z :: (T ++ R)) := by
    rw [List.append_assoc]
    exact List.perm_middle
  exact ((h.cons b).cons a).trans (((List.Perm.swap z b _).cons a).trans (List.Perm.swap z a _)))
theorem pick_cp (a e z2 z3 : Nat × Nat × TObj) (C A R : Objs) : Pick (z2 :: z3 :: a :: (A ++ (e :: (C ++ R)))) (z3 :: a :: (A ++ (e :: (C ++ (z2 :: R))))) := .perm (by
  have h : ((z3 :: a :: A) ++ (e :: C) ++ z2 :: R).Perm (z2 :: ((z3 :: a :: A) ++ (e :: C) ++ R)) := List.perm_middle
  simpa using h.symm)
theorem perm_cp (a e : Nat × Nat × TObj) (C A R : Objs) : ((C ++ ((a :: A) ++ [e])) ++ R).Perm (a :: (A ++ (e :: (C ++ R)))) := by
  rw [List.append_assoc, List.append_assoc]
  refine (List.perm_append_comm_assoc C (a :: A) ([e] ++ R)).trans ?_
  exact List.Perm.append_left (a :: A) (List.perm_append_comm_assoc C [e] R)
section
variable {G : World → Prop}
set_option maxHeartbeats 1000000 in
theorem implCopyBase_own (hst : Stable G) (lo : Nat) (x : TCodeBase) (hb : x.small 1048576) : CtM Tryz.prog G 40 [.agg (x.tw lo)] [] (cbI x) (cbO x) (fun y => .agg (cbC x y)) := by
  refine ctm_enter Tryz.func40 rfl Tryz.ntmps40 rfl rfl rfl fun w0 R gs objsR hG hR => ?_
  obtain rfl := hR.inv0
  clear hR
  have c1 := copyClasses_own hst lo x.classes hb.1
  have n1 := fun (y : (Nat × Nat) × List (Nat × Nat)) (_ : y.2.length = x.classes.length) => nest_new (m := 3) (s := y.1.1) (b := y.1.2) (n := x.classes.length) clsMk_new clsOb_new x.classes y.2
  have hel := TEntry.len lo x.entries
  have he1 := hb.2.2.1
  unfold TCodeBase.tw
  repeat' (first | refine e_box ?_ | (refine e_alloc ?_; intro ss bb) | ((with_reducible apply aw_drawM (id := 1) 11); kernel_rfl; kernel_rfl; kernel_rfl; rfl; (repeat (first | exact Cut.zero _ | apply Cut.succ))) | ((with_reducible apply m_q); exact ym_; rfl; exact ind_) | ((with_reducible apply m_build); rfl; (intro p; try dsimp only); (repeat (first | exact TB.nil _ | ((with_reducible apply TB.cons); rfl; rfl; (first | exact .put _ _ _ _ _ (.nil _) | exact .skip _ _ _ _ _ (.skip _ _ _ _ _ (.put _ _ _ _ _ (.nil _))) | (repeat (first | exact .nil _ | apply Splice.put | apply Splice.skip))); kernel_rfl))); rfl; kernel_rfl; kernel_rfl; exact ind_) | ((with_reducible apply m_alloc); rfl; rfl; kernel_rfl) | ((with_reducible apply m_own); (intro p; rfl); rfl; kernel_rfl; kernel_rfl; rfl; kernel_rfl; rfl; rfl; rfl; rfl) | ((with_reducible apply m_app0); (intro p; rfl); (intro p; rfl); rfl; kernel_rfl; (intro p; rfl); (with_reducible assumption); omega; exact ⟨by decide, ah_⟩; rfl; (focus (simp; done))) | ((with_reducible apply m_call hG hst c1); rfl; kernel_rfl; (intro p; (repeat (first | exact Args.nil | ((with_reducible apply Args.cons); rfl; exact .same _)))); exact n1) | (with_reducible refine DM.nil _ _ _ ?_) | with_reducible refine al_none rfl ?_ | (with_reducible first | apply aw_seq | apply aw_region | apply al_nil | apply aq_then))
  generalize ss = s2; generalize bb = b2
  intro p hp
  simp only [List.forall_mem_cons] at hp
  obtain ⟨_, _, _, hI, _⟩ := hp
  refine al_obj (objs' := ((p 10).a, (p 10).b, .box [.nils, .nils, .nils, .int .i64 0]) :: ((p 3).a, (p 6).b, .row 4 (x.entries.map (TEntry.tw lo))) :: (clsO x.classes (Enc.dec (p 2)) ++ ((s2, b2, .box [.nils, .nils, .nils, .int .i64 0]) :: R))) (by rw [show liveL _ = [_, _, _] from rfl]; simp only [List.flatMap_cons, List.flatMap_nil, List.append_nil, List.cons_append, List.nil_append]; rfl) ?_
  dsimp only [Nat.reduceAdd] at hI ⊢
  generalize (Enc.dec (p 2) : (Nat × Nat) × List (Nat × Nat)) = yc at hI ⊢
  generalize Yu.a (p 10) = s3
  generalize Yu.b (p 10) = b3
  generalize Yu.a (p 3) = se
  generalize Yu.b (p 6) = be
  have hcl := TCode.len lo x.codes
  have hc1 := hb.2.1.1
  have hsm := hb.2.1.2
  repeat' (first | ((with_reducible apply o_y); exact y_; rfl) | refine e_storep ?_ | with_reducible refine al_none rfl ?_ | (with_reducible first | apply aw_seq | apply aw_region | apply al_nil | apply aq_then | apply aw_block))
  refine aw_nilC 1 4 (by decide) rfl fun sc => ?_
  obtain ⟨RR, hRR⟩ : ∃ RR : Objs, RR = ((se, be, .row 4 (x.entries.map (TEntry.tw 0))) :: (clsO x.classes yc ++ ((s2, b2, TObj.box [.nils, .nils, .nils, .int .i64 0]) :: R))) := ⟨_, rfl⟩
  refine aw_pick (objs' := (s3, b3, .box [.ms yc.1.1 yc.1.2 0 x.classes.length, .ms sc 0 0 0, .ms se be 0 x.entries.length, .int .i64 x.main]) :: (sc, 0, .row 4 []) :: RR) (by rw [hRR]; exact .refl _) ?_
  apply aw_loopk (X := Nat × Nat × List (Nat × Nat)) [2, 3, 17, 18, 1000000] (fun y => [(19, .int .i64 (y.1 : Int))])
    (fun y => (s3, b3, .box [.ms yc.1.1 yc.1.2 0 x.classes.length, .ms sc y.2.1 0 y.1, .ms se be 0 x.entries.length, .int .i64 x.main]) :: (sc, y.2.1, .row 4 (nR codMk (x.codes.take y.1) y.2.2)) :: (nO codOb (x.codes.take y.1) y.2.2 ++ RR))
    (fun y => y.1 ≤ x.codes.length ∧ y.2.2.length = y.1) (fun y => x.codes.length - y.1) (0, 0, []) ⟨Nat.zero_le _, rfl⟩
  exact kp_; (repeat (first | exact Weak.envNil | refine Weak.envCons we_ ?_))
  · exact .refl _
  rintro ⟨i, bc, ps⟩ ⟨hi, hps⟩
  dsimp only at hi hps ⊢
  by_cases hlt : i < x.codes.length
  · have hrs := fun p => nR_snoc codMk hlt hps p
    have hos := fun p => nO_snoc codOb hlt hps p
    have hra : (x.codes.map (TCode.tw lo))[i]? = some (x.codes[i].tw lo) := row_map hlt
    have hrl : (nR codMk (x.codes.take i) ps).length = i := by rw [nR_len _ (by rw [List.length_take]; omega), List.length_take]; omega
    have hbi := hsm _ (List.getElem_mem hlt)
    generalize x.codes[i] = c at hrs hos hra hbi
    have hil : c.instrs.length ≤ 1048576 := hbi.1
    rw [show c.tw lo = [.bool c.block, .int .i64 c.params, .int .i64 c.slots, .sl lo 4 (c.instrs.map (TInstr.tw lo))] from rfl] at hra
    generalize nO codOb (x.codes.take i) ps = T at hos ⊢
    repeat' (first | ((with_reducible apply o_y); exact y_; rfl) | (refine e_alloc ?_; intro ss bb) | refine e_storep ?_ | ((with_reducible apply o_own (n := 0)); rfl; rfl; kernel_rfl; kernel_rfl; rfl; kernel_rfl; rfl; rfl; rfl; rfl; intro ss bb) | refine e_lit ?_ | ((with_reducible apply o_append0); rfl; rfl; rfl; kernel_rfl; (repeat (with_reducible exact mh)); (exact List.length_map _); omega; (intro bq; (repeat (with_reducible exact Upd.head _))); intro bb) | ((with_reducible apply o_append); rfl; rfl; rfl; kernel_rfl; (repeat (first | with_reducible exact mh | with_reducible refine mt ?_)); exact hrl; ((show List.length _ = 1; rfl)); omega; exact hrs (_, _); (intro bq; (repeat (first | with_reducible exact Upd.head _ | with_reducible apply Upd.tail))); intro bb) | with_reducible refine al_none rfl ?_ | (with_reducible first | apply aw_seq | apply aw_region | apply al_nil | apply aq_then | apply aw_block | apply aw_skip | apply aq_block) | (refine aw_cond_dt rfl rr_ dd_ ?_))
    rename_i s5 b5 _ bx
    generalize ss = sx
    refine aq_pick (objs' := (sx, bx, .row 4 (c.instrs.map (TInstr.tw 0))) :: (s3, b3, .box [.ms yc.1.1 yc.1.2 0 x.classes.length, .ms sc bb 0 (i + 1), .ms se be 0 x.entries.length, .int .i64 x.main]) :: (sc, bb, .row 4 (nR codMk (x.codes.take (i + 1)) (ps ++ [(sx, bx)]))) :: (T ++ RR)) pk_ ?_
    refine aq_round (i + 1, bb, ps ++ [(sx, bx)]) ⟨by dsimp only; omega, by dsimp only; simp [hps]⟩ (by dsimp only; omega) (.of _ nw_ od_ ?_)
    dsimp only
    rw [hos (sx, bx)]
    exact pick_snoc2 _ _ _ T RR
  · obtain rfl : i = x.codes.length := by omega
    rw [List.take_of_length_le (Nat.le_refl _), hRR]
    refine aw_pick (pick_cp _ _ _ _ _ _ _) ?_
    repeat' (first | ((with_reducible apply o_y); exact y_; rfl) | refine e_storep ?_ | with_reducible refine al_none rfl ?_ | (with_reducible first | apply aw_seq | apply aw_region | apply al_nil | apply aq_then | apply aw_exit | apply aw_ret | apply aq_block_hit | apply aq_then_exit) | (refine aw_cond_df rfl rr_ dd_ ?_))
    exact aq_retm1 (t1 := .agg [.ms yc.1.1 yc.1.2 0 x.classes.length, .ms sc bc 0 x.codes.length, .ms se be 0 x.entries.length, .int .i64 x.main]) x_ rfl (yc, ((sc, bc), ps), (se, be)) ⟨hI, hps⟩ rfl (.app _ R) (.drop (.drop (.perm (perm_cp _ _ _ _ R)))) (.cell _ _ _ _ _ rfl mm_ (by kernel_rfl) (by kernel_rfl) (by kernel_rfl)) rfl
end
end Go.Proofs.YthpdkhejeookhaaGreatDoor
/- Copies of a code base that the caller owns: the reference's l11ClassesCopy, l14Copy, l14Base. -/
namespace Go.Proofs.YthpdkhejeookhaaGreatDoor
set_option maxRecDepth 20000
open Go Go.RowKit
section
variable {G : World → Prop}
theorem l11ClassesCopy_own (_hst : Stable G) (lo : Nat) (l : List TClassInfo) (hb : l.length ≤ 1048576 ∧ ∀ y ∈ l, TClassInfo.small 1048576 y) : CtM Tryz.prog G 112 [.sl lo 3 (l.map (TClassInfo.tw lo))] [] (fun y : (Nat × Nat) × List (Nat × Nat) => y.2.length = l.length) (fun y => (y.1.1, y.1.2, .row 3 (nR clsMk l y.2)) :: nO clsOb l y.2) (fun y => .ms y.1.1 y.1.2 0 l.length) := by
  refine ctm_enter Tryz.func112 rfl Tryz.ntmps112 rfl rfl rfl fun w0 R gs objsR hG hR => ?_
  obtain rfl := hR.inv0
  clear hR
  have hlen := TClassInfo.len lo l
  have hl1 := hb.1
  repeat' (first | ((with_reducible apply o_y); exact y_; rfl) | (refine e_own ?_; intro ss bb) | with_reducible refine al_none rfl ?_ | (with_reducible first | apply aw_seq | apply aw_region | apply al_nil | apply aq_then | apply aw_block))
  generalize ss = so; generalize bb = bo
  apply aw_loopk (X := Nat × Nat × List (Nat × Nat)) [0, 1000000] (fun x => [(4, .int .i64 (x.1 : Int)), (3, .ms so x.2.1 0 x.1)]) (fun x => (so, x.2.1, .row 3 (nR clsMk (l.take x.1) x.2.2)) :: (nO clsOb (l.take x.1) x.2.2 ++ R)) (fun x => x.1 ≤ l.length ∧ x.2.2.length = x.1) (fun x => l.length - x.1) (0, bo, []) ⟨Nat.zero_le _, rfl⟩
  exact kp_; (repeat (first | exact Weak.envNil | refine Weak.envCons we_ ?_))
  · exact .refl _
  rintro ⟨i, bo, ps⟩ ⟨hi, hps⟩
  dsimp only at hi hps ⊢
  by_cases hlt : i < l.length
  · have hrs := fun p => nR_snoc clsMk hlt hps p
    have hos := fun p => nO_snoc clsOb hlt hps p
    have hra : (l.map (TClassInfo.tw lo))[i]? = some (l[i].tw lo) := row_map hlt
    have hrl : (nR clsMk (l.take i) ps).length = i := by rw [nR_len _ (by rw [List.length_take]; omega), List.length_take]; omega
    have hbi := hb.2 _ (List.getElem_mem hlt)
    generalize l[i] = x at hrs hos hra hbi
    rw [show x.tw lo = [.str x.name, .int .i64 x.parent, .sl lo 1 (strR x.fields)] from rfl] at hra
    have hsl := strR_len x.fields
    have hf := hbi.2.1
    generalize nO clsOb (l.take i) ps = T at hos ⊢
    repeat' (first | ((with_reducible apply o_y); exact y_; rfl) | ((with_reducible apply aw_drawM (id := 5) 20); kernel_rfl; kernel_rfl; kernel_rfl; rfl; (repeat (first | exact Cut.zero _ | apply Cut.succ))) | ((with_reducible apply m_q); exact ym_; rfl; exact ind_) | ((with_reducible apply m_build); rfl; (intro p; try dsimp only); (repeat (first | exact TB.nil _ | ((with_reducible apply TB.cons); rfl; rfl; (first | exact .put _ _ _ _ _ (.nil _) | exact .skip _ _ _ _ _ (.put _ _ _ _ _ (.nil _)) | exact .skip _ _ _ _ _ (.skip _ _ _ _ _ (.put _ _ _ _ _ (.nil _)))); kernel_rfl))); rfl; kernel_rfl; kernel_rfl; exact ind_) | ((with_reducible apply m_app0); (intro p; rfl); (intro p; rfl); rfl; kernel_rfl; (intro p; rfl); (with_reducible assumption); omega; exact ⟨by decide, ah_⟩; rfl; (focus (simp; done))) | ((with_reducible apply m_own (n := 0)); (intro p; rfl); rfl; kernel_rfl; kernel_rfl; rfl; kernel_rfl; rfl; rfl; rfl; rfl) | ((with_reducible apply m_litq); (intro p; rfl); rfl; kernel_rfl; kernel_rfl; rfl; kernel_rfl; rfl; (intro p; rfl); rfl; (intro p; rfl); exact ind_) | (with_reducible refine DM.nil _ _ _ ?_) | with_reducible refine al_none rfl ?_ | (with_reducible first | apply aw_seq | apply aw_region | apply al_nil | apply aq_then | apply aw_block | apply aw_skip) | (refine aw_cond_dt rfl rr_ dd_ ?_))
    intro p hp
    refine al_obj (objs' := ((p 11).a, (p 17).b, .row 1 (strR x.fields)) :: (so, bo, .row 3 (nR clsMk (l.take i) ps)) :: (T ++ R)) (by rw [show liveL _ = [_] from rfl]; simp only [List.flatMap_cons, List.flatMap_nil, List.append_nil, List.cons_append, List.nil_append]; (try rfl)) ?_
    dsimp only [Nat.reduceAdd]
    generalize Yu.a (p 11) = sx
    generalize Yu.b (p 17) = bx
    repeat' (first | ((with_reducible apply o_y); exact y_; rfl) | ((with_reducible apply o_append); rfl; rfl; rfl; kernel_rfl; (repeat (first | with_reducible exact mh | with_reducible refine mt ?_)); exact hrl; ((show List.length _ = 1; rfl)); omega; exact hrs (_, _); (intro bq; (repeat (first | with_reducible exact Upd.head _ | with_reducible apply Upd.tail))); intro bb) | with_reducible refine al_none rfl ?_ | (with_reducible first | apply aw_region | apply al_nil | apply aq_then | apply aq_block))
    refine aq_round (i + 1, bb, ps ++ [(sx, bx)]) ⟨by dsimp only; omega, by dsimp only; simp [hps]⟩ (by dsimp only; omega) (.of _ nw_ od_ ?_)
    dsimp only
    rw [hos (sx, bx)]
    exact pick_snoc _ _ T R
  · obtain rfl : i = l.length := by omega
    rw [List.take_of_length_le (Nat.le_refl _)]
    repeat' (first | ((with_reducible apply o_y); exact y_; rfl) | with_reducible refine al_none rfl ?_ | (with_reducible first | apply aw_seq | apply aw_region | apply al_nil | apply aq_then | apply aw_exit | apply aw_ret | apply aq_block_hit | apply aq_then_exit) | (refine aw_cond_df rfl rr_ dd_ ?_))
    exact aq_retm1 x_ rfl ((so, bo), ps) hps rfl (.cons _ _ _ _ (.app _ R)) (.refl _) (.tmp _ _ rfl) rfl
theorem l14Copy_own (_hst : Stable G) (lo : Nat) (x : TCode) (hb : x.small 1048576) : CtM Tryz.prog G 113 [.agg [.bool x.block, .int .i64 x.params, .int .i64 x.slots, .sl lo 4 (x.instrs.map (TInstr.tw lo))]] [] (fun _ : Nat × Nat => True) (fun y => [(y.1, y.2, codOb x)]) (fun y => .agg (codMk x y)) := by
  refine ctm_enter Tryz.func113 rfl Tryz.ntmps113 rfl rfl rfl fun w0 R gs objsR hG hR => ?_
  obtain rfl := hR.inv0
  clear hR
  have hil : x.instrs.length ≤ 1048576 := hb.1
  repeat' (first | refine e_box ?_ | (refine e_alloc ?_; intro ss bb) | ((with_reducible apply aw_drawM (id := 1) 11); kernel_rfl; kernel_rfl; kernel_rfl; rfl; (repeat (first | exact Cut.zero _ | apply Cut.succ))) | ((with_reducible apply m_q); exact ym_; rfl; exact ind_) | ((with_reducible apply m_build); rfl; (intro p; try dsimp only); (repeat (first | exact TB.nil _ | ((with_reducible apply TB.cons); rfl; rfl; (first | exact .put _ _ _ _ _ (.nil _) | exact .skip _ _ _ _ _ (.put _ _ _ _ _ (.nil _)) | exact .skip _ _ _ _ _ (.skip _ _ _ _ _ (.put _ _ _ _ _ (.nil _))) | (repeat (first | exact .nil _ | apply Splice.put | apply Splice.skip))); kernel_rfl))); rfl; kernel_rfl; kernel_rfl; exact ind_) | ((with_reducible apply m_own); (intro p; rfl); rfl; kernel_rfl; kernel_rfl; rfl; kernel_rfl; rfl; rfl; rfl; rfl) | ((with_reducible apply m_app0); (intro p; rfl); (intro p; rfl); rfl; kernel_rfl; (intro p; rfl); (exact List.length_map _); omega; exact ⟨by decide, ah_⟩; rfl; (focus (simp; done))) | (with_reducible refine DM.nil _ _ _ ?_) | with_reducible refine al_none rfl ?_ | (with_reducible first | apply aw_seq | apply aw_region | apply al_nil | apply aq_then))
  generalize ss = s2; generalize bb = b2
  intro p hp
  refine al_obj (objs' := ((p 6).a, (p 9).b, .row 4 (x.instrs.map (TInstr.tw 0))) :: (s2, b2, .box [.bool false, .int .i64 0, .int .i64 0, .nils]) :: R) (by rw [show liveL _ = [_] from rfl]; simp only [List.flatMap_cons, List.flatMap_nil, List.append_nil, List.cons_append, List.nil_append]; (try rfl)) ?_
  dsimp only [Nat.reduceAdd]
  generalize Yu.a (p 6) = sx
  generalize Yu.b (p 9) = bx
  repeat' (first | refine e_storep ?_ | with_reducible refine al_none rfl ?_ | (with_reducible first | apply al_nil | apply aq_then | apply aw_ret))
  exact aq_retm1 (t1 := .agg [.bool x.block, .int .i64 x.params, .int .i64 x.slots, .ms sx bx 0 x.instrs.length]) x_ rfl (sx, bx) trivial rfl (.cons _ _ _ _ (.nil R)) pk_ (.cell _ _ _ _ _ rfl mm_ (by kernel_rfl) (by kernel_rfl) (by kernel_rfl)) rfl
end
end Go.Proofs.YthpdkhejeookhaaGreatDoor
/- Copies of a code base that the caller owns: the reference's l14Base. -/
namespace Go.Proofs.YthpdkhejeookhaaGreatDoor
set_option maxRecDepth 20000
open Go Go.RowKit
theorem codMk_new (x : TCode) (y : Nat × Nat) : (∀ s b o, (s, b, o) ∈ [(y.1, y.2, codOb x)] → ObjNew [(y.1, y.2, codOb x)] o) ∧ NewOk [(y.1, y.2, codOb x)] (.agg (codMk x y)) := by
  refine ⟨fun s b o h => ?_, .agg _ fun t ht => ?_⟩
  · simp only [List.mem_singleton, Prod.mk.injEq] at h
    obtain ⟨_, _, rfl⟩ := h
    refine flat_new fun t ht => ?_
    obtain ⟨r, hr, htr⟩ := List.mem_flatten.1 ht
    obtain ⟨i, _, rfl⟩ := List.mem_map.1 hr
    simp only [TInstr.tw, List.mem_cons, List.not_mem_nil, or_false] at htr
    rcases htr with rfl | rfl | rfl | rfl <;> rfl
  · simp only [codMk, List.mem_cons, List.not_mem_nil, or_false] at ht
    rcases ht with rfl | rfl | rfl | rfl
    · exact .flat _ rfl
    · exact .flat _ rfl
    · exact .flat _ rfl
    · exact .ms _ _ _ _ _ _ List.mem_cons_self
theorem pick_snoc3 (a b z : Nat × Nat × TObj) (T R : Objs) : Pick (a :: b :: ((T ++ [z]) ++ R)) (a :: z :: b :: (T ++ R)) := .perm (by
  have h : ((T ++ [z]) ++ R).Perm (z :: (T ++ R)) := by
    rw [List.append_assoc]
    exact List.perm_middle
  exact (((h.cons b).trans (List.Perm.swap z b _)).cons a))
theorem pick_cpd (a e z2 z3 : Nat × Nat × TObj) (C A R : Objs) : Pick (z2 :: z3 :: a :: (A ++ (e :: (C ++ R)))) (a :: z3 :: (A ++ (e :: (C ++ (z2 :: R))))) := .perm (by
  have h : ((z3 :: a :: A) ++ (e :: C) ++ z2 :: R).Perm (z2 :: ((z3 :: a :: A) ++ (e :: C) ++ R)) := List.perm_middle
  exact .trans (by simpa using h.symm) (List.Perm.swap a z3 _))
section
variable {G : World → Prop}
set_option maxHeartbeats 1000000 in
theorem l14Base_own (hst : Stable G) (f lo : Nat) (x : TCodeBase) (hb : x.small 1048576) : CtM Tryz.prog G 34 [.cp f (x.tw lo)] [] (cbI x) (cbO x) (fun y => .agg (cbC x y)) := by
  refine ctm_enter Tryz.func34 rfl Tryz.ntmps34 rfl rfl rfl fun w0 R gs objsR hG hR => ?_
  obtain rfl := hR.inv0
  clear hR
  have c1 := l11ClassesCopy_own hst lo x.classes hb.1
  have n1 := fun (y : (Nat × Nat) × List (Nat × Nat)) (_ : y.2.length = x.classes.length) => nest_new (m := 3) (s := y.1.1) (b := y.1.2) (n := x.classes.length) clsMk_new clsOb_new x.classes y.2
  have hel := TEntry.len lo x.entries
  have he1 := hb.2.2.1
  unfold TCodeBase.tw
  repeat' (first | (refine e_alloc ?_; intro ss bb) | ((with_reducible apply aw_drawM (id := 1) 17); kernel_rfl; kernel_rfl; kernel_rfl; rfl; (repeat (first | exact Cut.zero _ | apply Cut.succ))) | ((with_reducible apply m_q); exact ym_; rfl; exact ind_) | ((with_reducible apply m_build); rfl; (intro p; try dsimp only); (repeat (first | exact TB.nil _ | ((with_reducible apply TB.cons); rfl; rfl; (first | exact .put _ _ _ _ _ (.nil _) | exact .skip _ _ _ _ _ (.skip _ _ _ _ _ (.put _ _ _ _ _ (.nil _))) | (repeat (first | exact .nil _ | apply Splice.put | apply Splice.skip))); kernel_rfl))); rfl; kernel_rfl; kernel_rfl; exact ind_) | ((with_reducible apply m_alloc); rfl; rfl; kernel_rfl) | ((with_reducible apply m_own); (intro p; rfl); rfl; kernel_rfl; kernel_rfl; rfl; kernel_rfl; rfl; rfl; rfl; rfl) | ((with_reducible apply m_app0); (intro p; rfl); (intro p; rfl); rfl; kernel_rfl; (intro p; rfl); (with_reducible assumption); omega; exact ⟨by decide, ah_⟩; rfl; (focus (simp; done))) | ((with_reducible apply m_call hG hst c1); rfl; kernel_rfl; (intro p; (repeat (first | exact Args.nil | ((with_reducible apply Args.cons); rfl; exact .same _)))); exact n1) | (with_reducible refine DM.nil _ _ _ ?_) | with_reducible refine al_none rfl ?_ | (with_reducible first | apply aw_seq | apply aw_region | apply al_nil | apply aq_then))
  generalize ss = s2; generalize bb = b2
  intro p hp
  simp only [List.forall_mem_cons] at hp
  obtain ⟨_, _, _, hI, _⟩ := hp
  refine al_obj (objs' := ((p 16).a, (p 16).b, .box [.nils, .nils, .nils, .int .i64 0]) :: ((p 5).a, (p 10).b, .row 4 (x.entries.map (TEntry.tw lo))) :: (clsO x.classes (Enc.dec (p 4)) ++ ((s2, b2, .box [.nils, .nils, .nils, .int .i64 0]) :: R))) (by rw [show liveL _ = [_, _, _] from rfl]; simp only [List.flatMap_cons, List.flatMap_nil, List.append_nil, List.cons_append, List.nil_append]; (try rfl)) ?_
  dsimp only [Nat.reduceAdd] at hI ⊢
  generalize (Enc.dec (p 4) : (Nat × Nat) × List (Nat × Nat)) = yc at hI ⊢
  generalize Yu.a (p 16) = s3
  generalize Yu.b (p 16) = b3
  generalize Yu.a (p 5) = se
  generalize Yu.b (p 10) = be
  have hcl := TCode.len lo x.codes
  have hc1 := hb.2.1.1
  have hsm := hb.2.1.2
  repeat' (first | ((with_reducible apply o_y); exact y_; rfl) | refine e_storep ?_ | with_reducible refine al_none rfl ?_ | (with_reducible first | apply aw_seq | apply aw_region | apply al_nil | apply aq_then | apply aw_block))
  refine aw_nilC 1 4 (by decide) rfl fun sc => ?_
  obtain ⟨RR, hRR⟩ : ∃ RR : Objs, RR = ((se, be, .row 4 (x.entries.map (TEntry.tw 0))) :: (clsO x.classes yc ++ ((s2, b2, TObj.box [.nils, .nils, .nils, .int .i64 0]) :: R))) := ⟨_, rfl⟩
  refine aw_pick (objs' := (sc, 0, .row 4 []) :: (s3, b3, .box [.ms yc.1.1 yc.1.2 0 x.classes.length, .ms sc 0 0 0, .ms se be 0 x.entries.length, .int .i64 x.main]) :: RR) (by rw [hRR]; exact pk_) ?_
  apply aw_loopk (X := Nat × Nat × List (Nat × Nat)) [0, 2, 3, 1000000] (fun y => [(4, .int .i64 (y.1 : Int))])
    (fun y => (sc, y.2.1, .row 4 (nR codMk (x.codes.take y.1) y.2.2)) :: (s3, b3, .box [.ms yc.1.1 yc.1.2 0 x.classes.length, .ms sc y.2.1 0 y.1, .ms se be 0 x.entries.length, .int .i64 x.main]) :: (nO codOb (x.codes.take y.1) y.2.2 ++ RR))
    (fun y => y.1 ≤ x.codes.length ∧ y.2.2.length = y.1) (fun y => x.codes.length - y.1) (0, 0, []) ⟨Nat.zero_le _, rfl⟩
  exact kp_; (repeat (first | exact Weak.envNil | refine Weak.envCons we_ ?_))
  · exact .refl _
  rintro ⟨i, bc, ps⟩ ⟨hi, hps⟩
  dsimp only at hi hps ⊢
  by_cases hlt : i < x.codes.length
  · have hrs := fun p => nR_snoc codMk hlt hps p
    have hos := fun p => nO_snoc codOb hlt hps p
    have hra : (x.codes.map (TCode.tw lo))[i]? = some (x.codes[i].tw lo) := row_map hlt
    have hrl : (nR codMk (x.codes.take i) ps).length = i := by rw [nR_len _ (by rw [List.length_take]; omega), List.length_take]; omega
    have hbi := hsm _ (List.getElem_mem hlt)
    generalize x.codes[i] = c at hrs hos hra hbi
    have hil : c.instrs.length ≤ 1048576 := hbi.1
    rw [show c.tw lo = [.bool c.block, .int .i64 c.params, .int .i64 c.slots, .sl lo 4 (c.instrs.map (TInstr.tw lo))] from rfl] at hra
    have c2 := l14Copy_own hst lo c hbi
    have n2 := fun (y : Nat × Nat) (_ : True) => codMk_new c y
    generalize nO codOb (x.codes.take i) ps = T at hos ⊢
    repeat' (first | ((with_reducible apply o_y); exact y_; rfl) | ((with_reducible apply aw_drawC (id := 5) 13); kernel_rfl; kernel_rfl; kernel_rfl; rfl; (repeat (first | exact Cut.zero _ | apply Cut.succ))) | ((with_reducible apply m_q); exact ym_; rfl; exact ind_) | ((with_reducible apply m_litq); (intro p; rfl); rfl; kernel_rfl; kernel_rfl; rfl; kernel_rfl; rfl; (intro p; rfl); rfl; (intro p; rfl); exact ind_) | ((with_reducible apply m_call hG hst c2); rfl; kernel_rfl; (intro p; (repeat (first | exact Args.nil | ((with_reducible apply Args.cons); rfl; exact .same _)))); exact n2) | ((with_reducible apply m_app1); (intro p; rfl); (intro p; rfl); rfl; kernel_rfl; (intro p; rfl); exact hrl; (intro p; show List.length _ = 1; rfl); omega; exact fun p => hrs (Enc.dec (p _)); exact ⟨by decide, by decide⟩; exact inds_; rfl; (focus (simp; done))) | (with_reducible refine DM.nil _ _ _ ?_) | with_reducible refine al_none rfl ?_ | (with_reducible first | apply aw_seq | apply aw_region | apply al_nil | apply aq_then | apply aw_block | apply aw_skip) | (refine aw_cond_dt rfl rr_ dd_ ?_))
    intro p hp
    refine al_obj (objs' := (sc, (p 11).b, .row 4 (nR codMk (x.codes.take (i + 1)) (ps ++ [Enc.dec (p 9)]))) :: ((Enc.dec (p 9) : Nat × Nat).1, (Enc.dec (p 9) : Nat × Nat).2, codOb c) :: (s3, b3, .box [.ms yc.1.1 yc.1.2 0 x.classes.length, .ms sc bc 0 i, .ms se be 0 x.entries.length, .int .i64 x.main]) :: (T ++ RR)) (by rw [show liveL _ = [_, _] from rfl]; (try simp only [List.flatMap_cons, List.flatMap_nil, List.append_nil, List.cons_append, List.nil_append]); (try rfl)) ?_
    dsimp only [Nat.reduceAdd] at hp ⊢
    generalize (Enc.dec (p 9) : Nat × Nat) = q
    generalize Yu.b (p 11) = bb
    repeat' (first | ((with_reducible apply o_y); exact y_; rfl) | refine e_storep ?_ | with_reducible refine al_none rfl ?_ | (with_reducible first | apply aw_region | apply al_nil | apply aq_then | apply aq_block))
    refine aq_round (i + 1, bb, ps ++ [q]) ⟨by dsimp only; omega, by dsimp only; simp [hps]⟩ (by dsimp only; omega) (.of _ nw_ od_ ?_)
    dsimp only
    rw [hos q]
    exact pick_snoc3 _ _ _ T RR
  · obtain rfl : i = x.codes.length := by omega
    rw [List.take_of_length_le (Nat.le_refl _), hRR]
    refine aw_pick (pick_cpd _ _ _ _ _ _ _) ?_
    repeat' (first | ((with_reducible apply o_y); exact y_; rfl) | refine e_storep ?_ | with_reducible refine al_none rfl ?_ | (with_reducible first | apply aw_seq | apply aw_region | apply al_nil | apply aq_then | apply aw_exit | apply aw_ret | apply aq_block_hit | apply aq_then_exit) | (refine aw_cond_df rfl rr_ dd_ ?_))
    exact aq_retm1 (t1 := .agg [.ms yc.1.1 yc.1.2 0 x.classes.length, .ms sc bc 0 x.codes.length, .ms se be 0 x.entries.length, .int .i64 x.main]) x_ rfl (yc, ((sc, bc), ps), (se, be)) ⟨hI, hps⟩ rfl (.app _ R) (.drop (.drop (.perm (perm_cp _ _ _ _ R)))) (.cell _ _ _ _ _ rfl mm_ (by kernel_rfl) (by kernel_rfl) (by kernel_rfl)) rfl
end
end Go.Proofs.YthpdkhejeookhaaGreatDoor
/- An owned code base as it looks to who only reads it. -/
namespace Go.Proofs.YthpdkhejeookhaaGreatDoor
open Go Go.RowKit
def ViewL (objs : Objs) (l l' : List TV) : Prop := l'.length = l.length ∧ ∀ (j : Nat) (t t' : TV), l[j]? = some t → l'[j]? = some t' → View objs t t'
theorem ViewL.nil {objs : Objs} : ViewL objs [] [] := ⟨rfl, by simp⟩
theorem ViewL.cons {objs : Objs} {t t' : TV} {l l' : List TV} (h : View objs t t') (hr : ViewL objs l l') : ViewL objs (t :: l) (t' :: l') := ⟨by simp [hr.1], fun j u u' h1 h2 => by
  cases j with
  | zero => simp at h1 h2; subst h1; subst h2; exact h
  | succ j => exact hr.2 j u u' (by simpa using h1) (by simpa using h2)⟩
theorem ViewL.append {objs : Objs} {a a' b b' : List TV} (h : ViewL objs a a') (k : ViewL objs b b') : ViewL objs (a ++ b) (a' ++ b') := ⟨by simp [h.1, k.1], fun j u u' h1 h2 => by
  by_cases hj : j < a.length
  · rw [List.getElem?_append_left hj] at h1
    rw [List.getElem?_append_left (by rw [h.1]; exact hj)] at h2
    exact h.2 j u u' h1 h2
  · rw [List.getElem?_append_right (by omega)] at h1
    rw [List.getElem?_append_right (by rw [h.1]; omega)] at h2
    rw [h.1] at h2
    exact k.2 _ u u' h1 h2⟩
theorem viewL_zip {α : Type} {objs : Objs} {f : α → List TV} {mk : α → Nat × Nat → List TV} {ob : α → TObj} (h : ∀ x p, (p.1, p.2, ob x) ∈ objs → ViewL objs (mk x p) (f x)) : ∀ (l : List α) (ps : List (Nat × Nat)), ps.length = l.length → (∀ o ∈ nO ob l ps, o ∈ objs) → ViewL objs (nR mk l ps).flatten (l.map f).flatten ∧ (l.map f).map List.length = (nR mk l ps).map List.length
  | [], ps, hl, _ => by simp [nR, ViewL]
  | x :: l, [], hl, _ => by simp at hl
  | x :: l, p :: ps, hl, hm => by
    have h1 := h x p (hm _ (by simp [nO]))
    obtain ⟨h2, h3⟩ := viewL_zip h l ps (by simpa using hl) (fun o ho => hm o (by simp only [nO, List.zipWith_cons_cons, List.mem_cons]; exact .inr ho))
    exact ⟨h1.append h2, by
      show (f x).length :: (l.map f).map List.length = (mk x p).length :: (nR mk l ps).map List.length
      rw [h3, h1.1]⟩
theorem view_zip {α : Type} {objs : Objs} {f : α → List TV} {mk : α → Nat × Nat → List TV} {ob : α → TObj} {m s b : Nat} (h : ∀ x p, (p.1, p.2, ob x) ∈ objs → ViewL objs (mk x p) (f x)) {l : List α} {ps : List (Nat × Nat)} (hl : ps.length = l.length) (hm : (s, b, TObj.row m (nR mk l ps)) ∈ objs) (hp : ∀ o ∈ nO ob l ps, o ∈ objs) : View objs (.ms s b 0 l.length) (.sl 0 m (l.map f)) := by
  obtain ⟨h1, h2⟩ := viewL_zip h l ps hl hp
  have h3 := nR_len mk hl
  exact .ms s b 0 l.length m _ _ _ hm (by omega) rfl (by rw [List.drop_zero, List.take_of_length_le (by omega)]; exact h2) (by rw [List.drop_zero, List.take_of_length_le (by omega)]; exact h1.2)
theorem view_cls {objs : Objs} (x : TClassInfo) (p : Nat × Nat) (h : (p.1, p.2, clsOb x) ∈ objs) : ViewL objs (clsMk x p) (x.tw 0) := .cons (.same _) (.cons (.same _) (.cons (.msAll h (strR_len _)) .nil))
theorem view_cod {objs : Objs} (x : TCode) (p : Nat × Nat) (h : (p.1, p.2, codOb x) ∈ objs) : ViewL objs (codMk x p) (x.tw 0) := .cons (.same _) (.cons (.same _) (.cons (.same _) (.cons (.msAll h (by simp)) .nil)))
theorem view_cb {objs : Objs} {x : TCodeBase} {y : CbP} (hy : cbI x y) (hm : ∀ o ∈ cbO x y, o ∈ objs) : View objs (.agg (cbC x y)) (.agg (x.tw 0)) := by
  have h1 : ∀ o ∈ clsO x.classes y.1, o ∈ objs := fun o h => hm o (List.mem_append_left _ h)
  have h2 : ∀ o ∈ codO x.codes y.2.1, o ∈ objs := fun o h => hm o (List.mem_append_right _ (List.mem_append_left _ h))
  have h3 : ∀ o ∈ entO x.entries y.2.2, o ∈ objs := fun o h => hm o (List.mem_append_right _ (List.mem_append_right _ h))
  have h := (ViewL.cons (view_zip view_cls hy.1 (h1 _ List.mem_cons_self) (fun o h => h1 o (List.mem_cons_of_mem _ h))) (ViewL.cons (view_zip view_cod hy.2 (h2 _ List.mem_cons_self) (fun o h => h2 o (List.mem_cons_of_mem _ h))) (ViewL.cons (View.msAll (len := x.entries.length) (h3 _ List.mem_cons_self) (by simp)) (ViewL.cons (View.same (.int .i64 x.main)) ViewL.nil))))
  exact View.agg (cbC x y) (x.tw 0) h.1 h.2
end Go.Proofs.YthpdkhejeookhaaGreatDoor
/- ApplyEdit of the reference: an edit is made. -/
namespace Go.Proofs.YthpdkhejeookhaaGreatDoor
set_option maxRecDepth 20000
open Go Go.RowKit
section
variable {G : World → Prop}
set_option maxHeartbeats 1000000 in
theorem l27Apply_ctm (hst : Stable G) (s b s2 b2 k : Nat) (rows : List (List TV)) (bl : Bool) (pr sl : Int) (is : List TInstr) (hn : is.length ≤ 900) (hp : preOk is = true) (hr : rows[k]? = some [.bool bl, .int .i64 pr, .int .i64 sl, .ms s2 b2 0 is.length]) (code : Int) (q : Nat) (hq : q < is.length) (kind : Int) (lab : List Bool) (ds : List Int)
    (hfit : fitsB is lab ds q (insAt is q) kind.toNat = true) :
    CtM Tryz.prog G 56 [.me s b 4 k 0, .agg [.int .i64 code, .int .i64 (q : Int), .int .i64 kind]] [(s, b, .row 4 rows), (s2, b2, .row 4 (is.map (TInstr.tw 0)))] (fun _ : Nat × Nat => True)
      (fun y => [(s, b, .row 4 (rows.set k [.bool bl, .int .i64 pr, .int .i64 sl, .ms y.1 y.2 0 (appI is q kind.toNat).length])), (y.1, y.2, .row 4 ((appI is q kind.toNat).map (TInstr.tw 0)))]) (fun _ => .tup []) := by
  refine ctm_enter Tryz.func56 rfl Tryz.ntmps56 rfl rfl rfl fun w0 R gs objsR hG hR => ?_
  obtain rfl := hR.inv2
  clear hR
  have hroom := fits_room hfit
  have hab := pre_ab hp
  have hil := TInstr.len 0 is
  have hk : k < rows.length := (List.getElem?_eq_some_iff.1 hr).1
  have hrk : ∀ z : List TV, (rows.set k z)[k]? = some z := fun z => by rw [List.getElem?_set, if_pos rfl, if_pos hk]
  have hcut := fun (q n : Nat) (h : q + n ≤ is.length) => l27Cut_ctm hst s b (rows.set k [.bool bl, .int .i64 pr, .int .i64 sl, .sl w0.heap.size 4 (is.map (TInstr.tw 0))]) k w0.heap.size bl pr sl is hn (hrk _) q n h hab
  simp only [List.set_set] at hcut
  clear hfit
  rcases hroom with ⟨hk1, hlt⟩ | hk1 | ⟨hk1, hlt⟩ | ⟨hk1, hop⟩ | hk1
  · obtain rfl : kind = 1 := by omega
    have ha : appI is q (1 : Int).toNat = cutL is q 2 := rfl
    rw [ha]
    have hct := hcut q 2 (by omega)
    refine aw_freezeIn k hr (j := 3) rfl hil ?_
    dsimp only [List.set]
    repeat' (first | ((with_reducible apply o_y); exact y_; rfl) | refine e_box ?_ | ((with_reducible apply o_callM); rfl; kernel_rfl; (repeat (first | exact ArgsM.nil | ((with_reducible apply ArgsM.cons); rfl))); exact hG; exact hct; exact .cons _ _ _ _ (.nil _); rintro ⟨sy, by_⟩ -; refine al_app2 ?_) | with_reducible refine al_none rfl ?_ | (with_reducible first | apply aw_seq | apply aw_region | apply al_nil | apply aq_then | apply aw_block | apply aq_block) | (refine aw_cond_dt rfl rr_ dd_ ?_))
    exact aq_retm0 x_ rfl (sy, by_) trivial rfl (.cons _ _ _ _ (.cons _ _ _ _ (.nil R))) pk_ rfl
  · obtain rfl : kind = 2 := by omega
    have ha : appI is q (2 : Int).toNat = cutL is q 1 := rfl
    rw [ha]
    have hct := hcut q 1 (by omega)
    refine aw_freezeIn k hr (j := 3) rfl hil ?_
    dsimp only [List.set]
    repeat' (first | ((with_reducible apply o_y); exact y_; rfl) | refine e_box ?_ | ((with_reducible apply o_callM); rfl; kernel_rfl; (repeat (first | exact ArgsM.nil | ((with_reducible apply ArgsM.cons); rfl))); exact hG; exact hct; exact .cons _ _ _ _ (.nil _); rintro ⟨sy, by_⟩ -; refine al_app2 ?_) | with_reducible refine al_none rfl ?_ | (with_reducible first | apply aw_seq | apply aw_region | apply al_nil | apply aq_then | apply aw_block | apply aw_skip | apply aq_block) | (refine aw_cond_dt rfl rr_ dd_ ?_) | (refine aw_cond_df rfl rr_ dd_ ?_))
    exact aq_retm0 x_ rfl (sy, by_) trivial rfl (.cons _ _ _ _ (.cons _ _ _ _ (.nil R))) pk_ rfl
  · obtain rfl : kind = 3 := by omega
    have ha : appI is q (3 : Int).toNat = cutL is (q + 1) 2 := rfl
    rw [ha]
    have hct := hcut (q + 1) 2 (by omega)
    refine aw_freezeIn k hr (j := 3) rfl hil ?_
    dsimp only [List.set]
    repeat' (first | ((with_reducible apply o_y); exact y_; rfl) | refine e_box ?_ | ((with_reducible apply o_callM); rfl; kernel_rfl; (repeat (first | exact ArgsM.nil | ((with_reducible apply ArgsM.cons); rfl))); exact hG; exact hct; exact .cons _ _ _ _ (.nil _); rintro ⟨sy, by_⟩ -; refine al_app2 ?_) | with_reducible refine al_none rfl ?_ | (with_reducible first | apply aw_seq | apply aw_region | apply al_nil | apply aq_then | apply aw_block | apply aq_block) | (refine aw_cond_dt rfl rr_ dd_ ?_) | (refine aw_cond_df rfl rr_ dd_ ?_))
    exact aq_retm0 x_ rfl (sy, by_) trivial rfl (.cons _ _ _ _ (.cons _ _ _ _ (.nil R))) pk_ rfl
  · obtain rfl : kind = 4 := by omega
    have ha : appI is q (4 : Int).toNat = is.set q (thrI is q) := rfl
    rw [ha, List.length_set, List.map_set]
    have hra := (hab _ (List.getElem_mem hq)).1
    have hiq := insAt_get hq
    have ht : thrI is q = ⟨(insAt is q).op, (insAt is (insAt is q).a.toNat).a, (insAt is q).b, (insAt is q).text⟩ := rfl
    have hrq : (is.map (TInstr.tw 0))[q]? = some (is[q].tw 0) := row_map hq
    rw [hiq] at ht hop
    generalize is[q] = x at ht hop hra hrq
    obtain ⟨op, a, b1, t⟩ := x
    dsimp only at ht hop hra
    subst hop
    replace hra := hra rfl
    obtain ⟨an, rfl⟩ : ∃ an : Nat, a = an := ⟨a.toNat, by omega⟩
    have han : an < is.length := by omega
    rw [Int.toNat_natCast, insAt_get han] at ht
    have hra2 : (is.map (TInstr.tw 0))[an]? = some (is[an].tw 0) := row_map han
    generalize is[an] = x2 at ht hra2
    obtain ⟨op2, a2, b2', t2⟩ := x2
    dsimp only at ht
    rw [ht]
    rw [show ∀ o a b t, TInstr.tw 0 ⟨o, a, b, t⟩ = [.int .i64 o, .int .i64 a, .int .i64 b, .str t] from fun _ _ _ _ => rfl] at hrq hra2 ⊢
    repeat' (first | ((with_reducible apply o_y); exact y_; rfl) | refine e_box ?_ | refine e_store ?_ | (with_reducible apply aw_draw2 (id := 10) 24; kernel_rfl; kernel_rfl; kernel_rfl; (repeat (first | exact Cut.zero _ | apply Cut.succ))) | with_reducible refine dr_nil2 ?_ | with_reducible refine dr_none rfl ?_ | ((with_reducible apply d_y); exact y_; rfl) | with_reducible refine al_none rfl ?_ | (with_reducible first | apply aw_seq | apply aw_region | apply al_nil | apply aq_then | apply aw_block | apply aq_block) | (refine aw_cond_dt rfl rr_ dd_ ?_) | (refine aw_cond_df rfl rr_ dd_ ?_))
    exact aq_retm0 x_ rfl (s2, b2) trivial rfl (.cons _ _ _ _ (.cons _ _ _ _ (.nil R))) (by rw [list_set_self hr]; exact pk_) rfl
  · obtain rfl : kind = 5 := by omega
    have ha : appI is q (5 : Int).toNat = cutL is q 1 := rfl
    rw [ha]
    have hct := hcut q 1 (by omega)
    refine aw_freezeIn k hr (j := 3) rfl hil ?_
    dsimp only [List.set]
    repeat' (first | ((with_reducible apply o_y); exact y_; rfl) | refine e_box ?_ | ((with_reducible apply o_callM); rfl; kernel_rfl; (repeat (first | exact ArgsM.nil | ((with_reducible apply ArgsM.cons); rfl))); exact hG; exact hct; exact .cons _ _ _ _ (.nil _); rintro ⟨sy, by_⟩ -; refine al_app2 ?_) | with_reducible refine al_none rfl ?_ | (with_reducible first | apply aw_seq | apply aw_region | apply al_nil | apply aq_then | apply aw_block | apply aq_block) | (refine aw_cond_dt rfl rr_ dd_ ?_) | (refine aw_cond_df rfl rr_ dd_ ?_))
    exact aq_retm0 x_ rfl (sy, by_) trivial rfl (.cons _ _ _ _ (.cons _ _ _ _ (.nil R))) pk_ rfl
end
end Go.Proofs.YthpdkhejeookhaaGreatDoor
/- ReachableSelectors of the reference: l28Scan, l28Reach. -/
namespace Go.Proofs.YthpdkhejeookhaaGreatDoor
set_option maxRecDepth 20000
open Go Go.RowKit
section
variable {G : World → Prop}
end
end Go.Proofs.YthpdkhejeookhaaGreatDoor
/- ReachableSelectors of the reference: l28Reach. -/
namespace Go.Proofs.YthpdkhejeookhaaGreatDoor
set_option maxRecDepth 20000
open Go Go.RowKit
section
variable {G : World → Prop}
end
end Go.Proofs.YthpdkhejeookhaaGreatDoor
/- ReachableSelectors of the reference. -/
namespace Go.Proofs.YthpdkhejeookhaaGreatDoor
set_option maxRecDepth 20000
open Go Go.RowKit
end Go.Proofs.YthpdkhejeookhaaGreatDoor
/- The reference's ShakeBase. -/
namespace Go.Proofs.YthpdkhejeookhaaGreatDoor
set_option maxRecDepth 20000
open Go Go.RowKit
section
variable {P : Program} {w0 : World} {N : Nat} {Q : Exit → Act → World → Prop} {env : Env} {objs : Objs}
theorem aq_nilC {x : Exit} {s b : Nat} {cells : List TV} (i m : Nat) (hm : 0 < m) (hi : cells[i]? = some .nils) (h : ∀ ss, AQ w0 N Q x env ((s, b, .box (cells.set i (.ms ss 0 0 0))) :: (ss, 0, .row m []) :: objs)) : AQ w0 N Q x env ((s, b, .box cells) :: objs) := ⟨fun a w hs => by
  obtain ⟨ss, h1⟩ := hs.nilC i m hm hi
  exact (h ss).run a w h1⟩
end
theorem pick_rev3 (a b c : Nat × Nat × TObj) (R : Objs) : Pick (a :: b :: c :: R) (c :: b :: a :: R) := .perm ((List.reverse_perm [c, b, a]).append_right R)
end Go.Proofs.YthpdkhejeookhaaGreatDoor
/- ApplyEdit of the reference. -/
namespace Go.Proofs.YthpdkhejeookhaaGreatDoor
set_option maxRecDepth 20000
open Go Go.RowKit
theorem zip_set2 {α β γ : Type} (f : α → β → γ) : ∀ (l : List α) (ps : List β) (i : Nat) (x : α) (p : β), List.zipWith f (l.set i x) (ps.set i p) = (List.zipWith f l ps).set i (f x p)
  | [], _, _, _, _ => by simp
  | _ :: _, [], _, _, _ => by simp
  | a :: l, q :: ps, 0, x, p => by simp
  | a :: l, q :: ps, i + 1, x, p => by simp [zip_set2 f l ps i x p]
/-- What is left of a code base's memory without the row of codes and one of the codes. -/
def cbR (x : TCodeBase) (y : CbP) (k : Nat) : Objs := clsO x.classes y.1 ++ ((nO codOb x.codes y.2.1.2).eraseIdx k ++ entO x.entries y.2.2)
def cbS (y : CbP) (k : Nat) (q : Nat × Nat) : CbP := (y.1, (y.2.1.1, y.2.1.2.set k q), y.2.2)
theorem perm_front (a z : Nat × Nat × TObj) (A N E B : Objs) (h : N.Perm (z :: E)) : (A ++ ((a :: N) ++ B)).Perm (a :: z :: (A ++ (E ++ B))) := by
  have h1 : (A ++ ((a :: N) ++ B)).Perm (a :: (A ++ (N ++ B))) := List.perm_middle
  have h2 : (N ++ B).Perm (z :: (E ++ B)) := h.append_right B
  have h3 : (A ++ (N ++ B)).Perm (z :: (A ++ (E ++ B))) := (h2.append_left A).trans List.perm_middle
  exact h1.trans (h3.cons a)
theorem cb_out {x : TCodeBase} {y : CbP} {k : Nat} {c : TCode} {p : Nat × Nat} (hk : x.codes[k]? = some c) (hp : y.2.1.2[k]? = some p) : (cbO x y).Perm ((y.2.1.1.1, y.2.1.1.2, .row 4 (nR codMk x.codes y.2.1.2)) :: (p.1, p.2, codOb c) :: cbR x y k) :=
  perm_front _ _ _ _ _ _ (perm_out (nO_get codOb hk hp))
theorem cb_in {x : TCodeBase} {y : CbP} {k : Nat} {c : TCode} {p : Nat × Nat} (hk : x.codes[k]? = some c) (hp : y.2.1.2[k]? = some p) (is : List TInstr) (q : Nat × Nat) : (cbO (setB x k is) (cbS y k q)).Perm ((y.2.1.1.1, y.2.1.1.2, .row 4 ((nR codMk x.codes y.2.1.2).set k (codMk (setC c is) q))) :: (q.1, q.2, codOb (setC c is)) :: cbR x y k) := by
  have hc : codeA x k = c := by unfold codeA; rw [hk]; rfl
  have hkl := (List.getElem?_eq_some_iff.1 (nO_get codOb hk hp)).1
  have h1 : nO codOb (x.codes.set k (setC c is)) (y.2.1.2.set k q) = (nO codOb x.codes y.2.1.2).set k (q.1, q.2, codOb (setC c is)) := zip_set2 _ _ _ _ _ _
  have h2 : nR codMk (x.codes.set k (setC c is)) (y.2.1.2.set k q) = (nR codMk x.codes y.2.1.2).set k (codMk (setC c is) q) := zip_set2 _ _ _ _ _ _
  show (clsO x.classes y.1 ++ (((y.2.1.1.1, y.2.1.1.2, .row 4 (nR codMk (x.codes.set k (setC (codeA x k) is)) (y.2.1.2.set k q))) :: nO codOb (x.codes.set k (setC (codeA x k) is)) (y.2.1.2.set k q)) ++ entO x.entries y.2.2)).Perm _
  rw [hc, h1, h2]
  have h3 : ((nO codOb x.codes y.2.1.2).set k (q.1, q.2, codOb (setC c is)))[k]? = some (q.1, q.2, codOb (setC c is)) := by rw [List.getElem?_set, if_pos rfl, if_pos hkl]
  have h4 := perm_out h3
  rw [erase_set] at h4
  exact perm_front _ _ _ _ _ _ h4
theorem pick_ap1 (b6 b4 sc p : Nat × Nat × TObj) (O C R : Objs) (h : O.Perm (sc :: p :: C)) : Pick (sc :: p :: b6 :: b4 :: (C ++ R)) (b6 :: (O ++ (b4 :: R))) := .perm (by
  have h1 : (O ++ (b4 :: R)).Perm (b4 :: (O ++ R)) := List.perm_middle
  have h2 : (O ++ R).Perm (sc :: p :: (C ++ R)) := h.append_right R
  have h3 : (b6 :: (O ++ (b4 :: R))).Perm (b6 :: b4 :: sc :: p :: (C ++ R)) := (h1.trans (h2.cons b4)).cons b6
  have h4 : ([b6, b4] ++ ([sc, p] ++ (C ++ R))).Perm ([sc, p] ++ ([b6, b4] ++ (C ++ R))) := List.perm_append_comm_assoc _ _ _
  exact (h3.trans h4).symm)
theorem pick_ap2 (b6 b4 sc p : Nat × Nat × TObj) (O C R : Objs) (h : O.Perm (sc :: p :: C)) : Pick (b6 :: b4 :: (O ++ R)) (sc :: p :: b6 :: b4 :: (C ++ R)) := .perm (by
  have h2 : (O ++ R).Perm (sc :: p :: (C ++ R)) := h.append_right R
  have h4 : ([b6, b4] ++ ([sc, p] ++ (C ++ R))).Perm ([sc, p] ++ ([b6, b4] ++ (C ++ R))) := List.perm_append_comm_assoc _ _ _
  exact ((h2.cons b4).cons b6).trans h4)
theorem viewL_cb {objs : Objs} {x : TCodeBase} {y : CbP} (hy : cbI x y) (hm : ∀ o ∈ cbO x y, o ∈ objs) : ViewL objs (cbC x y) (x.tw 0) := by
  have h1 : ∀ o ∈ clsO x.classes y.1, o ∈ objs := fun o h => hm o (List.mem_append_left _ h)
  have h2 : ∀ o ∈ codO x.codes y.2.1, o ∈ objs := fun o h => hm o (List.mem_append_right _ (List.mem_append_left _ h))
  have h3 : ∀ o ∈ entO x.entries y.2.2, o ∈ objs := fun o h => hm o (List.mem_append_right _ (List.mem_append_right _ h))
  exact ViewL.cons (view_zip view_cls hy.1 (h1 _ List.mem_cons_self) (fun o h => h1 o (List.mem_cons_of_mem _ h))) (ViewL.cons (view_zip view_cod hy.2 (h2 _ List.mem_cons_self) (fun o h => h2 o (List.mem_cons_of_mem _ h))) (ViewL.cons (View.msAll (len := x.entries.length) (h3 _ List.mem_cons_self) (by simp)) (ViewL.cons (View.same (.int .i64 x.main)) ViewL.nil)))
theorem view_cbp {objs : Objs} {x : TCodeBase} {y : CbP} {s b : Nat} (hb : (s, b, TObj.box (cbC x y)) ∈ objs) (hy : cbI x y) (hm : ∀ o ∈ cbO x y, o ∈ objs) : View objs (.mp s b 0) (.cp 0 (x.tw 0)) := by
  have h := viewL_cb hy hm
  exact .mp s b 0 (cbC x y) _ hb h.1 h.2
theorem setB_small {n : Nat} {x : TCodeBase} (h : TCodeBase.small n x) {k : Nat} {is : List TInstr} (h1 : is.length ≤ n) (h2 : ∀ y ∈ is, y.text.size ≤ n) : TCodeBase.small n (setB x k is) := by
  refine ⟨h.1, ⟨by rw [show (setB x k is).codes.length = x.codes.length from List.length_set ..]; exact h.2.1.1, fun c hc => ?_⟩, h.2.2⟩
  rcases List.mem_or_eq_of_mem_set hc with hc | rfl
  · exact h.2.1.2 c hc
  · exact ⟨h1, h2⟩
theorem editB_small {n : Nat} {x : TCodeBase} (h : TCodeBase.small n x) (e : TEdit) : TCodeBase.small n (editB x e) := by
  have hc : (codeI x.codes e.code).length ≤ n ∧ ∀ y ∈ codeI x.codes e.code, y.text.size ≤ n := by
    unfold codeI
    split
    · rename_i c hc; exact h.2.1.2 c (List.mem_of_getElem? hc)
    · exact ⟨Nat.zero_le _, by simp⟩
  exact setB_small h (Nat.le_trans (appI_len _ _ _) hc.1) (appI_text hc.2 _ _)
theorem applyB_small {n : Nat} {x : TCodeBase} (h : TCodeBase.small n x) (e : TEdit) : TCodeBase.small n (applyB x e) := by
  unfold applyB
  split
  · exact editB_small h e
  · exact ⟨⟨Nat.zero_le _, by simp⟩, ⟨Nat.zero_le _, by simp⟩, Nat.zero_le _, by simp⟩
theorem cbI_set {x : TCodeBase} {y : CbP} (h : cbI x y) (k : Nat) (is : List TInstr) (q : Nat × Nat) : cbI (setB x k is) (cbS y k q) := by
  refine ⟨h.1, ?_⟩
  show (y.2.1.2.set k q).length = (x.codes.set k _).length
  rw [List.length_set, List.length_set]; exact h.2
theorem cbC_set (x : TCodeBase) (y : CbP) (k : Nat) (is : List TInstr) (q : Nat × Nat) : cbC (setB x k is) (cbS y k q) = cbC x y := by
  simp [cbC, setB, cbS]
set_option maxHeartbeats 1000000 in
theorem specApplyEdit_ctm (lo : Nat) (x : TCodeBase) (hx : TCodeBase.small 1048576 x) (e : TEdit) (hat : -9223372036854775808 ≤ e.at_ ∧ e.at_ ≤ 9223372036854775807) : CtM Tryz.prog GL 15 [.agg (x.tw lo), .agg [.int .i64 e.code, .int .i64 e.at_, .int .i64 e.kind]] [] (cbI (applyB x e)) (cbO (applyB x e)) (fun y => .tup [.agg (cbC (applyB x e) y), .bool (okE x e)]) := by
  refine ctm_enter Tryz.func15 rfl Tryz.ntmps15 rfl rfl rfl fun w0 R gs objsR hG hR => ?_
  obtain rfl := hR.inv0
  clear hR
  have hst := GL_st
  have hver := l16Verified_ct w0.heap.size lo x.classes x.entries x.codes x.main hx.1 hx.2.1 hx.2.2
  have hB : verifiedB ⟨x.classes, x.codes, x.entries, x.main⟩ = verifiedB x := rfl
  rw [hB] at hver
  have hcl := TCode.len lo x.codes
  by_cases hcase : verifiedB x = true ∧ (0 ≤ e.code ∧ e.code < x.codes.length) ∧ fitsZ (codeI x.codes e.code) e.at_ e.kind = true
  case neg =>
    have hk : okE x e = false := by
      rw [Bool.eq_false_iff]
      intro h
      unfold okE at h
      rw [Bool.and_eq_true, Bool.and_eq_true, decide_eq_true_eq] at h
      obtain ⟨⟨h1, h2, h3, h4⟩, _⟩ := h
      refine hcase ⟨h1, h2, ?_⟩
      unfold fitsZ
      rw [if_pos (by omega)]; exact h4
    rw [okE_f hk, hk]
    cases hV : verifiedB x with
    | false =>
      rw [hV] at hver
      clear hcase
      unfold TCodeBase.tw
      repeat' (first | ((with_reducible apply o_y); exact y_; rfl) | refine e_box ?_ | (refine e_alloc ?_; intro ss bb) | refine e_build ?_ | refine e_storep ?_ | with_reducible refine aw_draw (by kernel_rfl) (by kernel_rfl) ?_ | with_reducible refine dr_nil ?_ | with_reducible refine dr_none rfl ?_ | refine dr_skip rfl rfl rfl rr_ rfl rfl rfl ?_ | ((with_reducible apply d_y); exact y_; rfl) | refine e_calld hG hst (hver) ?_ | with_reducible refine al_none rfl ?_ | (with_reducible first | apply aw_seq | apply aw_region | apply al_nil | apply aq_then | apply aw_ret | apply aq_then_ret) | refine aw_cond_t rfl rr_ ?_)
      refine aq_nilC 0 3 (by decide) rfl fun sa => ?_
      refine aq_nilC 1 4 (by decide) rfl fun sb => ?_
      refine aq_nilC 2 4 (by decide) rfl fun sd => ?_
      dsimp only [List.set]
      exact aq_retm2 (t1 := .agg [.ms sa 0 0 0, .ms sb 0 0 0, .ms sd 0 0 0, .int .i64 0]) (t2 := .bool false) x_ rfl (((sa, 0), []), ((sb, 0), []), (sd, 0)) ⟨rfl, rfl⟩ rfl (.app _ R) (l := (sa, 0, .row 3 []) :: (sb, 0, .row 4 []) :: (sd, 0, .row 4 []) :: R) (.drop (pick_rev3 _ _ _ _)) (.cell _ _ _ _ _ rfl mm_ (by kernel_rfl) (by kernel_rfl) (by kernel_rfl)) (.tmp _ _ rfl) rfl
    | true =>
      rw [hV] at hver
      have hok := code_ok hV
      obtain ⟨ec, ea, ek⟩ := e
      dsimp only at hcase hat ⊢
      have hwi := l1In_ct (G := GL) ec 0 ((x.codes.length : Int) - 1)
      have h200 := (rs_ok hV).codes
      have hpos := (rs_ok hV).main
      by_cases hr : 0 ≤ ec ∧ ec < x.codes.length
      case neg =>
        rw [show inR ec 0 ((x.codes.length : Int) - 1) = false from by (simp only [inR, decide_eq_false_iff_not]; omega), show (x.codes.length : Int) - 1 = ((x.codes.length - 1 : Nat) : Int) by omega] at hwi
        clear hcase
        unfold TCodeBase.tw
        repeat' (first | ((with_reducible apply o_y); exact y_; rfl) | refine e_box ?_ | (refine e_alloc ?_; intro ss bb) | refine e_build ?_ | refine e_storep ?_ | with_reducible refine aw_draw (by kernel_rfl) (by kernel_rfl) ?_ | with_reducible refine dr_nil ?_ | with_reducible refine dr_none rfl ?_ | refine dr_run rfl rfl rfl rr_ ?_ | refine dr_skip rfl rfl rfl rr_ rfl rfl rfl ?_ | ((with_reducible apply d_y); exact y_; rfl) | refine e_calld hG hst (hver) ?_ | refine e_calld hG hst (hwi) ?_ | with_reducible refine al_none rfl ?_ | (with_reducible first | apply aw_seq | apply aw_region | apply al_nil | apply aq_then | apply aw_ret | apply aq_then_ret) | refine aw_cond_t rfl rr_ ?_)
        refine aq_nilC 0 3 (by decide) rfl fun sa => ?_
        refine aq_nilC 1 4 (by decide) rfl fun sb => ?_
        refine aq_nilC 2 4 (by decide) rfl fun sd => ?_
        dsimp only [List.set]
        exact aq_retm2 (t1 := .agg [.ms sa 0 0 0, .ms sb 0 0 0, .ms sd 0 0 0, .int .i64 0]) (t2 := .bool false) x_ rfl (((sa, 0), []), ((sb, 0), []), (sd, 0)) ⟨rfl, rfl⟩ rfl (.app _ R) (l := (sa, 0, .row 3 []) :: (sb, 0, .row 4 []) :: (sd, 0, .row 4 []) :: R) (.drop (pick_rev3 _ _ _ _)) (.cell _ _ _ _ _ rfl mm_ (by kernel_rfl) (by kernel_rfl) (by kernel_rfl)) (.tmp _ _ rfl) rfl
      case pos =>
        rw [show inR ec 0 ((x.codes.length : Int) - 1) = true from by (simp only [inR, decide_eq_true_eq]; omega), show (x.codes.length : Int) - 1 = ((x.codes.length - 1 : Nat) : Int) by omega] at hwi
        obtain ⟨k, rfl⟩ : ∃ k : Nat, ec = k := ⟨ec.toNat, by omega⟩
        have hkl : k < x.codes.length := by omega
        have hft : fitsZ (codeI x.codes (k : Int)) ea ek = false := by
          rw [Bool.eq_false_iff]; exact fun h => hcase ⟨hV, hr, h⟩
        rw [codeI_get hkl] at hft
        have hrc := tcode_row (lo := lo) hkl
        have hoki := hok _ (List.getElem_mem hkl)
        have hsmi := hx.2.1.2 _ (List.getElem_mem hkl)
        clear hcase
        generalize x.codes[k] = c at hrc hoki hsmi hft
        obtain ⟨bl, pr, sl, is⟩ := c
        dsimp only at hrc hoki hsmi hft
        have hfit := l27Fits_ct lo lo bl pr sl is hoki hsmi.2 (k : Int) ea ek hat
        rw [hft] at hfit
        unfold TCodeBase.tw
        repeat' (first | ((with_reducible apply o_y); exact y_; rfl) | refine e_box ?_ | (refine e_alloc ?_; intro ss bb) | refine e_build ?_ | refine e_storep ?_ | with_reducible refine aw_draw (by kernel_rfl) (by kernel_rfl) ?_ | with_reducible refine dr_nil ?_ | with_reducible refine dr_none rfl ?_ | refine dr_run rfl rfl rfl rr_ ?_ | ((with_reducible apply d_y); exact y_; rfl) | refine e_calld hG hst (hver) ?_ | refine e_calld hG hst (hwi) ?_ | refine e_calld hG hst (hfit) ?_ | with_reducible refine al_none rfl ?_ | (with_reducible first | apply aw_seq | apply aw_region | apply al_nil | apply aq_then | apply aw_ret | apply aq_then_ret) | refine aw_cond_t rfl rr_ ?_)
        refine aq_nilC 0 3 (by decide) rfl fun sa => ?_
        refine aq_nilC 1 4 (by decide) rfl fun sb => ?_
        refine aq_nilC 2 4 (by decide) rfl fun sd => ?_
        dsimp only [List.set]
        exact aq_retm2 (t1 := .agg [.ms sa 0 0 0, .ms sb 0 0 0, .ms sd 0 0 0, .int .i64 0]) (t2 := .bool false) x_ rfl (((sa, 0), []), ((sb, 0), []), (sd, 0)) ⟨rfl, rfl⟩ rfl (.app _ R) (l := (sa, 0, .row 3 []) :: (sb, 0, .row 4 []) :: (sd, 0, .row 4 []) :: R) (.drop (pick_rev3 _ _ _ _)) (.cell _ _ _ _ _ rfl mm_ (by kernel_rfl) (by kernel_rfl) (by kernel_rfl)) (.tmp _ _ rfl) rfl
  case pos =>
    obtain ⟨hV, hr, hft⟩ := hcase
    rw [hV] at hver
    have hok := code_ok hV
    have h200 := (rs_ok hV).codes
    have hesm := editB_small hx e
    obtain ⟨ec, ea, ek⟩ := e
    dsimp only at hr hft hat ⊢
    obtain ⟨k, rfl⟩ : ∃ k : Nat, ec = k := ⟨ec.toNat, by omega⟩
    have hkl : k < x.codes.length := by omega
    have hwi := l1In_ct (G := GL) (k : Int) 0 ((x.codes.length : Int) - 1)
    rw [show inR (k : Int) 0 ((x.codes.length : Int) - 1) = true from by (simp only [inR, decide_eq_true_eq]; omega), show (x.codes.length : Int) - 1 = ((x.codes.length - 1 : Nat) : Int) by omega] at hwi
    have hcI := codeI_get hkl
    have hed : editB x ⟨(k : Int), ea, ek⟩ = setB x k (appI (codeI x.codes (k : Int)) ea.toNat ek.toNat) := rfl
    rw [hcI] at hft hed
    have hfr : 0 ≤ ea ∧ ea < (x.codes[k].instrs.length : Int) := by
      unfold fitsZ at hft
      split at hft
      · omega
      · cases hft
    obtain ⟨q, rfl⟩ : ∃ q : Nat, ea = q := ⟨ea.toNat, by omega⟩
    have hfe : fitsE x ⟨(k : Int), (q : Int), ek⟩ := by
      refine ⟨hr, ?_, ?_⟩
      · dsimp only; rw [hcI]; exact hfr
      · dsimp only
        rw [hcI]
        rw [fitsZ_in (by omega)] at hft
        exact hft
    have hokE : okE x ⟨(k : Int), (q : Int), ek⟩ = verifiedB (editB x ⟨(k : Int), (q : Int), ek⟩) := by
      unfold okE
      rw [hV, decide_eq_true hfe]; rfl
    have hver2 := l16Verified_ct 0 0 (editB x ⟨(k : Int), (q : Int), ek⟩).classes (editB x ⟨(k : Int), (q : Int), ek⟩).entries (editB x ⟨(k : Int), (q : Int), ek⟩).codes (editB x ⟨(k : Int), (q : Int), ek⟩).main hesm.1 hesm.2.1 hesm.2.2
    have hB2 : verifiedB ⟨(editB x ⟨(k : Int), (q : Int), ek⟩).classes, (editB x ⟨(k : Int), (q : Int), ek⟩).codes, (editB x ⟨(k : Int), (q : Int), ek⟩).entries, (editB x ⟨(k : Int), (q : Int), ek⟩).main⟩ = verifiedB (editB x ⟨(k : Int), (q : Int), ek⟩) := rfl
    rw [hB2] at hver2
    replace hver2 : Ct Tryz.prog GL 32 [.cp 0 ((editB x ⟨(k : Int), (q : Int), ek⟩).tw 0)] (fun _ => .bool (verifiedB (editB x ⟨(k : Int), (q : Int), ek⟩))) := hver2
    have hcb := l14Base_own hst w0.heap.size lo x hx
    have hrc := tcode_row (lo := lo) hkl
    have hoki := hok _ (List.getElem_mem hkl)
    have hsmi := hx.2.1.2 _ (List.getElem_mem hkl)
    have hge : x.codes[k]? = some x.codes[k] := List.getElem?_eq_getElem hkl
    have hql : q < x.codes[k].instrs.length := by omega
    rw [fitsZ_in hql] at hft
    have hfz := fitsZ_in hql ek
    rw [hft] at hfz
    rw [Int.toNat_natCast] at hed
    rw [hed] at hver2 hokE
    generalize verifiedB (setB x k (appI x.codes[k].instrs q ek.toNat)) = vb at hver2 hokE
    clear hfe hcI hB2 hesm
    generalize x.codes[k] = c at *
    obtain ⟨bl, pr, sl, is⟩ := c
    dsimp only at hrc hoki hsmi hft hfz hql hver2 hed ⊢
    have hfit := l27Fits_ct lo lo bl pr sl is hoki hsmi.2 (k : Int) (q : Int) ek hat
    rw [hfz] at hfit
    unfold TCodeBase.tw at hcb ⊢
    repeat' (first | ((with_reducible apply o_y); exact y_; rfl) | refine e_box ?_ | (refine e_alloc ?_; intro ss bb) | refine e_storep ?_ | with_reducible refine aw_draw (by kernel_rfl) (by kernel_rfl) ?_ | with_reducible refine dr_nil ?_ | with_reducible refine dr_none rfl ?_ | refine dr_run rfl rfl rfl rr_ ?_ | ((with_reducible apply d_y); exact y_; rfl) | refine e_calld hG hst (hver) ?_ | refine e_calld hG hst (hwi) ?_ | refine e_calld hG hst (hfit) ?_ | ((with_reducible apply o_callM); rfl; kernel_rfl; (repeat (first | exact ArgsM.nil | ((with_reducible apply ArgsM.cons); rfl))); exact hG; exact hcb; exact .nil _; intro y hy) | with_reducible refine aw_hold_r (id := 4) ?_ | with_reducible refine al_none rfl ?_ | (with_reducible first | apply aw_seq | apply aw_region | apply al_nil | apply aq_then | apply aw_skip) | refine aw_cond_f rfl rr_ ?_)
    refine ⟨?_⟩
    rename_i s4 b4
    generalize ss = s6; generalize bb = b6
    obtain ⟨p, hpp⟩ : ∃ p, y.2.1.2[k]? = some p := ⟨_, List.getElem?_eq_getElem (by rw [hy.2]; exact hkl)⟩
    refine aw_pick (pick_ap1 _ _ _ _ _ _ _ (cb_out hge hpp)) ?_
    have hrow : (nR codMk x.codes y.2.1.2)[k]? = some [.bool bl, .int .i64 pr, .int .i64 sl, .ms p.1 p.2 0 is.length] := nR_get codMk hge hpp
    have hap := l27Apply_ctm hst y.2.1.1.1 y.2.1.1.2 p.1 p.2 k (nR codMk x.codes y.2.1.2) bl pr sl is hoki.len hoki.pre hrow (k : Int) q hql ek _ _ hft
    repeat' (first | (with_reducible apply aw_draw2 (id := 4) 6; kernel_rfl; kernel_rfl; kernel_rfl; (repeat (first | exact Cut.zero _ | apply Cut.succ))) | with_reducible refine dr_nil2 ?_ | with_reducible refine dr_none rfl ?_ | ((with_reducible apply d_y); exact y_; rfl) | ((with_reducible apply o_callM); rfl; kernel_rfl; (repeat (first | exact ArgsM.nil | ((with_reducible apply ArgsM.cons); rfl))); exact hG; exact hap; exact .cons _ _ _ _ (.cons _ _ _ _ (.nil _)); rintro ⟨sq, bq⟩ -; refine al_app2 ?_) | with_reducible refine aw_hold_r (id := 5) ?_ | with_reducible refine al_none rfl ?_ | (with_reducible first | apply aw_seq | apply al_nil | apply aq_then))
    refine ⟨?_⟩
    refine aw_pick (pick_ap2 _ _ _ _ _ _ _ (cb_in hge hpp (appI is q ek.toNat) (sq, bq))) ?_
    have hy2 := cbI_set hy k (appI is q ek.toNat) (sq, bq)
    have hvw : ∀ {objs : Objs} {s b : Nat}, (s, b, TObj.box (cbC x y)) ∈ objs → (∀ o ∈ cbO (setB x k (appI is q ek.toNat)) (cbS y k (sq, bq)), o ∈ objs) → View objs (.mp s b 0) (.cp 0 ((setB x k (appI is q ek.toNat)).tw 0)) := fun h1 h2 => view_cbp (by rw [cbC_set]; exact h1) hy2 h2
    repeat' (first | ((with_reducible apply o_y); exact y_; rfl) | refine e_build ?_ | refine e_storep ?_ | ((with_reducible apply o_callV); rfl; kernel_rfl; exact hG; exact hst; exact hver2; ((with_reducible apply Args.cons); rfl; exact hvw List.mem_cons_self (fun o h => List.mem_cons_of_mem _ (List.mem_cons_of_mem _ (List.mem_append_left _ h)))); exact Args.nil) | with_reducible refine al_none rfl ?_ | (with_reducible first | apply aw_seq | apply aw_region | apply al_nil | apply aq_then | apply aw_skip | apply aw_ret | apply aq_then_ret) | (refine aw_cond_b rfl rr_ (fun hc => ?_) (fun hc => ?_)))
    · have hv2 : okE x ⟨(k : Int), (q : Int), ek⟩ = false := by
        rw [hokE]; simpa using hc
      rw [okE_f hv2, hv2]
      refine aq_pick (objs' := (s4, b4, .box [.nils, .nils, .nils, .int .i64 0]) :: R) (.drop (.sub ((List.sublist_append_right _ _).cons_cons _))) ?_
      refine aq_nilC 0 3 (by decide) rfl fun sa => ?_
      refine aq_nilC 1 4 (by decide) rfl fun sb => ?_
      refine aq_nilC 2 4 (by decide) rfl fun sd => ?_
      dsimp only [List.set]
      exact aq_retm2 (t1 := .agg [.ms sa 0 0 0, .ms sb 0 0 0, .ms sd 0 0 0, .int .i64 0]) (t2 := .bool false) x_ rfl (((sa, 0), []), ((sb, 0), []), (sd, 0)) ⟨rfl, rfl⟩ rfl (.app _ R) (l := (sa, 0, .row 3 []) :: (sb, 0, .row 4 []) :: (sd, 0, .row 4 []) :: R) (.drop (pick_rev3 _ _ _ _)) (.cell _ _ _ _ _ rfl mm_ (by kernel_rfl) (by kernel_rfl) (by kernel_rfl)) (.tmp _ _ rfl) rfl
    · have hv2 : okE x ⟨(k : Int), (q : Int), ek⟩ = true := by
        rw [hokE]; simpa using hc
      rw [okE_t hv2, hv2, hed]
      exact aq_retm2 (t1 := .agg [.ms y.1.1.1 y.1.1.2 0 x.classes.length, .ms y.2.1.1.1 y.2.1.1.2 0 x.codes.length, .ms y.2.2.1 y.2.2.2 0 x.entries.length, .int .i64 x.main]) (t2 := .bool true) x_ rfl (cbS y k (sq, bq)) hy2 rfl (.app _ R) (.drop (.drop (.refl _))) (.cell _ _ _ _ _ rfl mm_ (by kernel_rfl) (by kernel_rfl) (by kernel_rfl)) (.tmp _ _ rfl) (by rw [cbC_set]; rfl)
end Go.Proofs.YthpdkhejeookhaaGreatDoor
/- impl.ShakeBase: its function literal, slices.IndexFunc and slices.DeleteFunc on a row that the caller owns. -/
namespace Go.Proofs.YthpdkhejeookhaaGreatDoor
set_option maxRecDepth 20000
open Go Go.RowKit
section
variable {G : World → Prop}
end
end Go.Proofs.YthpdkhejeookhaaGreatDoor
/- slices.DeleteFunc on a row that the caller owns. -/
namespace Go.Proofs.YthpdkhejeookhaaGreatDoor
set_option maxRecDepth 20000
open Go Go.RowKit
section
variable {G : World → Prop}
end
end Go.Proofs.YthpdkhejeookhaaGreatDoor
/- IsVerified: the classes, on the side of the program (classesOk). -/
namespace Go.Proofs.YthpdkhejeookhaaGreatDoor
set_option maxRecDepth 20000
open Go Go.RowKit
section
variable {G : World → Prop}
set_option maxRecDepth 4000 in
set_option maxHeartbeats 4000000 in
theorem classesOk_ct (hst : Stable G) (lo : Nat) (l : List TClassInfo) (hsm : l.length ≤ 1048576 ∧ ∀ y ∈ l, TClassInfo.small 1048576 y) : Ct Tryz.prog G 117 [.sl lo 3 (l.map (TClassInfo.tw lo))] (fun _ => .bool (classesOkB l)) := by
  refine ct_enter Tryz.func117 rfl Tryz.ntmps117 rfl rfl fun w0 _ hG => ?_
  have hlen := TClassInfo.len lo l
  have hbl := TClassInfo.len w0.heap.size builtinL
  rw [builtin_len] at hbl
  have hl1 := hsm.1
  have hwi := within_ct (G := G) (l.length : Int) 16 24
  by_cases hl : 16 ≤ l.length ∧ l.length ≤ 24
  · rw [inR_t (by omega)] at hwi
    repeat' (first | ((with_reducible apply o_y); exact y_; rfl) | refine e_call hG hst (hwi) ?_ | with_reducible refine al_none rfl ?_ | (with_reducible first | apply aw_seq | apply aw_region | apply al_nil | apply aq_then | apply aw_block | apply aw_skip) | refine aw_cond_f rfl rr_ ?_)
    apply aw_loopk (X := Nat) [0, 15, 16] (fun i => [(17, .int .i64 (i : Int))]) (fun _ => []) (fun i => i ≤ l.length ∧ ∀ j, j < i → ∀ h : j < l.length, classOk l j l[j]) (fun i => l.length - i) 0 ⟨Nat.zero_le _, by simp⟩
    exact kp_; (repeat (first | exact Weak.envNil | refine Weak.envCons we_ ?_))
    · exact .nil _
    rintro i ⟨hi, hk⟩
    try dsimp only
    by_cases hlt : i < l.length
    · have hra : (l.map (TClassInfo.tw lo))[i]? = some (l[i].tw lo) := row_map hlt
      have hbi := hsm.2 _ (List.getElem_mem hlt)
      have hbad := classesOk_bad hlt
      have hks : classOk l i l[i] → ∀ j, j < i + 1 → ∀ h : j < l.length, classOk l j l[j] := fun ho => below_succ hk fun _ => ho
      generalize l[i] = x at hra hbi hbad hks
      rw [show x.tw lo = [.str x.name, .int .i64 x.parent, .sl lo 1 (strR x.fields)] from rfl] at hra
      by_cases hlow : i < 16
      · obtain ⟨bi, hb, _, _, h3, _⟩ := builtin_at hlow
        have hrb : (builtinL.map (TClassInfo.tw w0.heap.size))[i]? = some [.str bi.name, .int .i64 bi.parent, .sl w0.heap.size 1 (strR bi.fields)] := by rw [List.getElem?_map, hb]; rfl
        rw [classOk_low hlow hb] at hbad hks
        have hbf : bi.fields.length ≤ 1048576 := by rw [← h3]; unfold bfields; split <;> simp
        have heq := slicesEqual_ct (G := G) lo w0.heap.size x.fields bi.fields hbi.2.1 hbf
        clear h3
        by_cases ho : x.name = bi.name ∧ x.parent = bi.parent ∧ x.fields = bi.fields
        · have n1 : ¬ x.name ≠ bi.name := fun h => h ho.1
          have n2 : ¬ x.parent ≠ bi.parent := fun h => h ho.2.1
          rw [decide_eq_true ho.2.2] at heq
          repeat' (first | ((with_reducible apply o_y); exact y_; rfl) | (refine e_alloc ?_; intro ss bb) | refine e_storep ?_ | refine e_call hG hst (builtinInfos_ct hst) ?_ | refine e_call hG hst (heq) ?_ | with_reducible refine al_none rfl ?_ | (with_reducible first | apply aw_seq | apply aw_region | apply al_nil | apply aq_then | apply aw_block | apply aw_exit | apply aw_skip | apply aq_block_hit | apply aq_then_exit) | refine al_run rfl rfl rfl rr_ ?_ | (refine al_gf rfl rfl rfl rr_ dd_ ?_) | refine aw_cond_f rfl rr_ ?_ | (refine aw_cond_dt rfl rr_ dd_ ?_))
          exact aq_round (i + 1) ⟨by omega, hks ho⟩ (by omega) (.of _ nw_ od_ (Pick.nil _))
        · rw [hbad ho]
          clear hks hbad
          by_cases hfe : x.fields = bi.fields
          · rw [decide_eq_true hfe] at heq
            repeat' (first | ((with_reducible apply o_y); exact y_; rfl) | (refine e_alloc ?_; intro ss bb) | refine e_storep ?_ | refine e_call hG hst (builtinInfos_ct hst) ?_ | refine e_call hG hst (heq) ?_ | with_reducible refine al_none rfl ?_ | (with_reducible first | apply aw_seq | apply aw_region | apply al_nil | apply aq_then | apply aw_block | apply aw_exit | apply aw_skip | apply aw_ret | apply aq_block_hit | apply aq_then_exit | apply aq_then_ret | apply aq_block_ret) | refine al_run rfl rfl rfl rr_ ?_ | refine al_skip rfl rfl rfl rr_ rfl rfl rfl ?_ | (refine al_gsplit rfl rfl rfl rr_ (fun hg => ?_) (fun hg => ?_)) | refine aw_cond_t rfl rr_ ?_ | refine aw_cond_f rfl rr_ ?_ | (refine aw_cond_dt rfl rr_ dd_ ?_))
            all_goals first
              | (exfalso; exact ho ⟨Decidable.of_not_not (by assumption), Decidable.of_not_not (by assumption), hfe⟩)
              | (refine aq_ret1 x_ rfl (.tmp _ _ rfl) (fun _ => ?_)
                 exact Fin.flat rfl)
          · rw [decide_eq_false hfe] at heq
            repeat' (first | ((with_reducible apply o_y); exact y_; rfl) | (refine e_alloc ?_; intro ss bb) | refine e_storep ?_ | refine e_call hG hst (builtinInfos_ct hst) ?_ | refine e_call hG hst (heq) ?_ | with_reducible refine al_none rfl ?_ | (with_reducible first | apply aw_seq | apply aw_region | apply al_nil | apply aq_then | apply aw_block | apply aw_skip | apply aw_ret | apply aq_then_ret | apply aq_block_ret) | refine al_run rfl rfl rfl rr_ ?_ | refine al_skip rfl rfl rfl rr_ rfl rfl rfl ?_ | (refine al_gsplit rfl rfl rfl rr_ (fun hg => ?_) (fun hg => ?_)) | refine aw_cond_t rfl rr_ ?_ | (refine aw_cond_dt rfl rr_ dd_ ?_))
            all_goals
              refine aq_ret1 x_ rfl (.tmp _ _ rfl) (fun _ => ?_)
              exact Fin.flat rfl
      · rw [classOk_high hlow] at hbad hks
        obtain ⟨nm, par, fs⟩ := x
        dsimp only at hra hbi hbad hks
        have hx1 : nm.size ≤ 1048576 := hbi.1
        have hx2 : fs.length ≤ 1048576 := hbi.2.1
        have hx3 : ∀ y ∈ fs, ByteArray.size y ≤ 1048576 := hbi.2.2
        have hfl := strR_len fs
        clear hbl
        repeat' (first | ((with_reducible apply o_y); exact y_; rfl) | (refine e_alloc ?_; intro ss bb) | refine e_storep ?_ | with_reducible refine aw_hold_r (id := 10) ?_ | with_reducible refine al_none rfl ?_ | (with_reducible first | apply aw_seq | apply aw_region | apply al_nil | apply aq_then | apply aw_block | apply aw_skip) | (refine aw_cond_dt rfl rr_ dd_ ?_) | (refine aw_cond_df rfl rr_ dd_ ?_))
        refine ⟨aw_seq ?_⟩
        generalize ss = s3; generalize bb = b3
        apply aw_join (X := Unit) [0, 3, 4, 15, 16, 17] (fun _ => [(70, .bool (!decide (classHead l i ⟨nm, par, fs⟩)))]) (fun _ => [(s3, b3, .box [.str nm, .int .i64 par, .sl lo 1 (strR fs)])]) (fun _ => True)
        case _hk => (repeat (first | exact Kept.nil | (apply Kept.cons; rfl)))
        · repeat' (first | ((with_reducible apply o_y); exact y_; rfl) | refine e_call hG hst (implIsName_ct _ hx1) ?_ | refine e_call hG hst (within_ct _ _ _) ?_ | with_reducible refine al_none rfl ?_ | (with_reducible first | apply aw_region | apply al_nil) | refine al_run rfl rfl rfl rr_ ?_ | refine al_skip rfl rfl rfl rr_ rfl rfl rfl ?_ | (refine al_gsplit_b rfl rfl rfl rr_ (fun hg => ?_) (fun hg => ?_)))
          all_goals
            refine aq_mid () trivial (.of _ (Weak.envCons (lk_bool rfl ?_) Weak.envNil) od_ pk_)
            clear hbad hks hk hra hbi
            simp only [Bool.not_eq_true', Bool.not_eq_false', inR, decide_eq_true_eq, decide_eq_false_iff_not] at *
            by_cases h8 : (8 : Int) < (fs.length : Int)
            all_goals (try simp only [h8, decide_true, decide_false])
            all_goals first
              | (have : classHead l i ⟨nm, par, fs⟩ := ⟨by assumption, by dsimp only; omega, by dsimp only; omega, by dsimp only; omega⟩
                 simp only [decide_eq_true this, Bool.not_true]
                 done)
              | (have : ¬ classHead l i ⟨nm, par, fs⟩ := fun h => by
                   obtain ⟨h1, h2, h3, h4⟩ := h
                   dsimp only at h1 h2 h3 h4
                   first
                     | omega
                     | (simp only [h1] at *; done)
                     | (simp_all; done)
                 simp only [decide_eq_false this, Bool.not_false]
                 done)
        intro _ _
        by_cases hh : classHead l i ⟨nm, par, fs⟩
        · rw [decide_eq_true hh, Bool.not_true]
          have hh2 := hh.2
          obtain ⟨⟨hp0, hp1⟩, _, hf8⟩ := hh2
          dsimp only at hp0 hp1 hf8
          obtain ⟨p, rfl⟩ : ∃ p : Nat, par = p := ⟨par.toNat, by omega⟩
          have hpl : p < l.length := by omega
          have hrp : (l.map (TClassInfo.tw lo))[p]? = some (l[p].tw lo) := row_map hpl
          have hbp := hsm.2 _ (List.getElem_mem hpl)
          have hpf := parentFields_eq (x := ⟨nm, (p : Int), fs⟩) rfl (List.getElem?_eq_getElem hpl)
          generalize l[p] = y at hrp hbp hpf
          obtain ⟨pn, pp, pf⟩ := y
          replace hrp : (l.map (TClassInfo.tw lo))[p]? = some [.str pn, .int .i64 pp, .sl lo 1 (strR pf)] := hrp
          have hx4 : pf.length ≤ 1048576 := hbp.2.1
          have hpl2 := strR_len pf
          have htl : ((l.map (TClassInfo.tw lo)).take i).length = i := by simp; omega
          repeat' (first | ((with_reducible apply o_y); exact y_; rfl) | refine e_slh ?_ | with_reducible refine al_none rfl ?_ | (with_reducible first | apply aw_seq | apply aw_region | apply al_nil | apply aq_then | apply aw_block | apply aw_skip) | refine aw_cond_f rfl rr_ ?_)
          apply aw_loopk (X := Nat) [0, 3, 4, 15, 16, 17, 73, 74] (fun k => [(75, .int .i64 (k : Int))]) (fun _ => [(s3, b3, .box [.str nm, .int .i64 (p : Int), .sl lo 1 (strR fs)])]) (fun k => k ≤ i ∧ ∀ y ∈ l.take k, y.name ≠ nm) (fun k => i - k) 0 ⟨Nat.zero_le _, by simp⟩
          exact kp_; (repeat (first | exact Weak.envNil | refine Weak.envCons we_ ?_))
          · exact .refl _
          rintro k ⟨hki, hkn⟩
          try dsimp only
          by_cases hlk : k < i
          · have hlk2 : k < l.length := by omega
            have hrk : ((l.map (TClassInfo.tw lo)).take i)[k]? = some (l[k].tw lo) := by rw [List.getElem?_take_of_lt hlk]; exact row_map hlk2
            have hta := take_all (p := fun y : TClassInfo => y.name ≠ nm) hlk2 hkn
            have hmem : l[k] ∈ l.take i := List.mem_take_iff_getElem.2 ⟨k, by omega, rfl⟩
            generalize l[k] = z at hrk hta hmem
            obtain ⟨zn, zp, zf⟩ := z
            replace hrk : ((l.map (TClassInfo.tw lo)).take i)[k]? = some [.str zn, .int .i64 zp, .sl lo 1 (strR zf)] := hrk
            by_cases hzn : zn = nm
            · rw [hbad fun h => h.2.1 _ hmem hzn]
              repeat' (first | ((with_reducible apply o_y); exact y_; rfl) | (refine e_alloc ?_; intro ss bb) | refine e_storep ?_ | with_reducible refine al_none rfl ?_ | (with_reducible first | apply aw_seq | apply aw_region | apply al_nil | apply aq_then | apply aw_block | apply aw_skip | apply aw_ret | apply aq_then_ret | apply aq_block_ret) | (refine aw_cond_dt rfl rr_ dd_ ?_))
              refine aq_ret1 x_ rfl (.tmp _ _ rfl) (fun _ => ?_)
              exact Fin.flat rfl
            · repeat' (first | ((with_reducible apply o_y); exact y_; rfl) | (refine e_alloc ?_; intro ss bb) | refine e_storep ?_ | with_reducible refine al_none rfl ?_ | (with_reducible first | apply aw_seq | apply aw_region | apply al_nil | apply aq_then | apply aw_block | apply aw_skip | apply aq_block) | (refine aw_cond_dt rfl rr_ dd_ ?_) | (refine aw_cond_df rfl rr_ dd_ ?_))
              exact aq_round (k + 1) ⟨by omega, hta hzn⟩ (by omega) (.of _ nw_ od_ pk_)
          · obtain rfl : k = i := by omega
            clear hlk
            by_cases hhe : pf.length ≤ fs.length ∧ fs.take pf.length = pf
            · have heq := slicesEqual_ct (G := G) lo lo (fs.take pf.length) pf (by simp; omega) hx4
              rw [decide_eq_true hhe.2] at heq
              have hsl : (strR fs).take pf.length = strR (fs.take pf.length) := by simp [strR, List.map_take]
              have hle := hhe.1
              repeat' (first | ((with_reducible apply o_y); exact y_; rfl) | refine e_slh ?_ | refine e_call hG hst (heq) ?_ | with_reducible refine al_none rfl ?_ | (with_reducible first | apply aw_seq | apply aw_region | apply al_nil | apply aq_then | apply aw_block | apply aw_exit | apply aw_skip | apply aq_block_hit | apply aq_then_exit) | refine al_run rfl rfl rfl rr_ ?_ | (refine al_gf rfl rfl rfl rr_ dd_ ?_) | refine aw_cond_f rfl rr_ ?_ | (refine aw_cond_df rfl rr_ dd_ ?_))
              apply aw_loopk (X := Nat) [0, 3, 4, 8, 15, 16, 17, 108, 109] (fun k => [(110, .int .i64 (k : Int))]) (fun _ => [(s3, b3, .box [.str nm, .int .i64 (p : Int), .sl lo 1 (strR fs)])]) (fun k => k ≤ fs.length ∧ ∀ j, j < k → ∀ h : j < fs.length, fieldAt fs j fs[j] = true) (fun k => fs.length - k) 0 ⟨Nat.zero_le _, by omega⟩
              exact kp_; (repeat (first | exact Weak.envNil | refine Weak.envCons we_ ?_))
              · exact .refl _
              rintro q ⟨hq, hqa⟩
              try dsimp only
              by_cases hqf : q < fs.length
              · have hfr := strR_row hqf
                have hqs := hx3 _ (List.getElem_mem hqf)
                have hqb := fieldsOk_bad hqf
                have hqn : fieldAt fs q fs[q] = true → ∀ j, j < q + 1 → ∀ h : j < fs.length, fieldAt fs j fs[j] = true := fun h => below_succ hqa fun _ => h
                generalize fs[q] = f at hfr hqs hqb hqn
                have hname := implIsName_ct (G := G) f hqs
                have hhas := slicesContains_ct (G := G) hst lo (fs.take q) f (by simp; omega)
                rw [idxS_has] at hhas
                have hsq : (strR fs).take q = strR (fs.take q) := by simp [strR, List.map_take]
                have hqle : q ≤ fs.length := hq
                by_cases hqo : fieldAt fs q f = true
                · have hqo2 := hqo
                  unfold fieldAt at hqo2
                  rw [Bool.and_eq_true, Bool.not_eq_true'] at hqo2
                  rw [hqo2.1] at hname
                  rw [hqo2.2] at hhas
                  repeat' (first | ((with_reducible apply o_y); exact y_; rfl) | refine e_slh ?_ | refine e_call hG hst (hname) ?_ | refine e_call hG hst (hhas) ?_ | with_reducible refine al_none rfl ?_ | (with_reducible first | apply aw_seq | apply aw_region | apply al_nil | apply aq_then | apply aw_block | apply aw_skip | apply aq_block) | refine al_run rfl rfl rfl rr_ ?_ | refine aw_cond_f rfl rr_ ?_ | (refine aw_cond_dt rfl rr_ dd_ ?_))
                  exact aq_round (q + 1) ⟨by omega, hqn hqo⟩ (by omega) (.of _ nw_ od_ pk_)
                · rw [hbad fun h => hqb (Bool.eq_false_iff.2 hqo) h.2.2.2]
                  by_cases hqs1 : isNameL f.data.toList = true
                  · have hqs2 : hasS (fs.take q) f = true := by
                      unfold fieldAt at hqo
                      rw [hqs1, Bool.true_and] at hqo
                      simpa using hqo
                    rw [hqs1] at hname
                    rw [hqs2] at hhas
                    repeat' (first | ((with_reducible apply o_y); exact y_; rfl) | refine e_slh ?_ | refine e_call hG hst (hname) ?_ | refine e_call hG hst (hhas) ?_ | with_reducible refine al_none rfl ?_ | (with_reducible first | apply aw_seq | apply aw_region | apply al_nil | apply aq_then | apply aw_block | apply aw_skip | apply aw_ret | apply aq_then_ret | apply aq_block_ret) | refine al_run rfl rfl rfl rr_ ?_ | refine aw_cond_t rfl rr_ ?_ | (refine aw_cond_dt rfl rr_ dd_ ?_))
                    refine aq_ret1 x_ rfl (.tmp _ _ rfl) (fun _ => ?_)
                    exact Fin.flat rfl
                  · rw [Bool.eq_false_iff.2 hqs1] at hname
                    repeat' (first | ((with_reducible apply o_y); exact y_; rfl) | refine e_call hG hst (hname) ?_ | with_reducible refine al_none rfl ?_ | (with_reducible first | apply aw_seq | apply aw_region | apply al_nil | apply aq_then | apply aw_block | apply aw_skip | apply aw_ret | apply aq_then_ret | apply aq_block_ret) | refine al_skip rfl rfl rfl rr_ rfl rfl rfl ?_ | refine aw_cond_t rfl rr_ ?_ | (refine aw_cond_dt rfl rr_ dd_ ?_))
                    refine aq_ret1 x_ rfl (.tmp _ _ rfl) (fun _ => ?_)
                    exact Fin.flat rfl
              · obtain rfl : q = fs.length := by omega
                repeat' (first | ((with_reducible apply o_y); exact y_; rfl) | with_reducible refine al_none rfl ?_ | (with_reducible first | apply aw_seq | apply aw_region | apply al_nil | apply aq_then | apply aw_exit | apply aq_block_hit | apply aq_then_exit | apply aq_block) | (refine aw_cond_df rfl rr_ dd_ ?_))
                exact aq_round (k + 1) ⟨by omega, hks ⟨hh, hkn, ⟨by rw [hpf]; exact hhe.1, by rw [hpf]; exact hhe.2⟩, fun j hj => hqa j hj hj⟩⟩ (by omega) (.of _ nw_ od_ (Pick.nil _))
            · rw [hbad fun h => hhe (by have := h.2.2.1; unfold heirs at this; rw [hpf] at this; exact this)]
              by_cases hle : pf.length ≤ fs.length
              · have heq := slicesEqual_ct (G := G) lo lo (fs.take pf.length) pf (by simp; omega) hx4
                rw [decide_eq_false fun h => hhe ⟨hle, h⟩] at heq
                have hsl : (strR fs).take pf.length = strR (fs.take pf.length) := by simp [strR, List.map_take]
                repeat' (first | ((with_reducible apply o_y); exact y_; rfl) | refine e_slh ?_ | refine e_call hG hst (heq) ?_ | with_reducible refine al_none rfl ?_ | (with_reducible first | apply aw_seq | apply aw_region | apply al_nil | apply aq_then | apply aw_exit | apply aw_ret | apply aq_block_hit | apply aq_then_exit | apply aq_then_ret | apply aq_block_ret) | refine al_run rfl rfl rfl rr_ ?_ | (refine al_gf rfl rfl rfl rr_ dd_ ?_) | refine aw_cond_t rfl rr_ ?_ | (refine aw_cond_df rfl rr_ dd_ ?_))
                refine aq_ret1 x_ rfl (.tmp _ _ rfl) (fun _ => ?_)
                exact Fin.flat rfl
              · repeat' (first | ((with_reducible apply o_y); exact y_; rfl) | with_reducible refine al_none rfl ?_ | (with_reducible first | apply aw_seq | apply aw_region | apply al_nil | apply aq_then | apply aw_exit | apply aw_ret | apply aq_block_hit | apply aq_then_exit | apply aq_then_ret | apply aq_block_ret) | refine al_skip rfl rfl rfl rr_ rfl rfl rfl ?_ | (refine al_gt rfl rfl rfl rr_ dd_ ?_) | refine aw_cond_t rfl rr_ ?_ | (refine aw_cond_df rfl rr_ dd_ ?_))
                refine aq_ret1 x_ rfl (.tmp _ _ rfl) (fun _ => ?_)
                exact Fin.flat rfl
        · rw [decide_eq_false hh, Bool.not_false, hbad fun h => hh h.1]
          repeat' (first | ((with_reducible apply o_y); exact y_; rfl) | with_reducible refine al_none rfl ?_ | (with_reducible first | apply aw_seq | apply aw_region | apply al_nil | apply aq_then | apply aw_ret | apply aq_then_ret | apply aq_block_ret) | refine aw_cond_t rfl rr_ ?_)
          refine aq_ret1 x_ rfl (.tmp _ _ rfl) (fun _ => ?_)
          exact Fin.flat rfl
    · rw [classesOk_good hl fun j hj => hk j (by omega)]
      repeat' (first | ((with_reducible apply o_y); exact y_; rfl) | with_reducible refine al_none rfl ?_ | (with_reducible first | apply aw_seq | apply aw_region | apply al_nil | apply aq_then | apply aw_exit | apply aw_ret | apply aq_block_hit | apply aq_then_exit) | (refine aw_cond_df rfl rr_ dd_ ?_))
      refine aq_ret1 x_ rfl (.tmp _ _ rfl) (fun _ => ?_)
      exact Fin.flat rfl
  · rw [inR_f (by omega)] at hwi
    rw [classesOk_len hl]
    repeat' (first | ((with_reducible apply o_y); exact y_; rfl) | refine e_call hG hst (hwi) ?_ | with_reducible refine al_none rfl ?_ | (with_reducible first | apply aw_seq | apply aw_region | apply al_nil | apply aq_then | apply aw_ret | apply aq_then_ret) | refine aw_cond_t rfl rr_ ?_)
    refine aq_ret1 x_ rfl (.tmp _ _ rfl) (fun _ => ?_)
    exact Fin.flat rfl
end
end Go.Proofs.YthpdkhejeookhaaGreatDoor
/- IsVerified: the codes around each code, on the side of the program (outers). -/
namespace Go.Proofs.YthpdkhejeookhaaGreatDoor
set_option maxRecDepth 20000
open Go Go.RowKit
section
variable {G : World → Prop}
set_option maxRecDepth 4000 in
set_option maxHeartbeats 4000000 in
theorem outers_ct (hst : Stable G) (lo : Nat) (ccl cen : TV) (cs : List TCode) (mn : Int) (hne : 1 ≤ cs.length) (hcs : cs.length ≤ 1048576 ∧ ∀ y ∈ cs, TCode.small 1048576 y) :
    Ct Tryz.prog G 99 [.agg [ccl, .sl lo 4 (cs.map (TCode.tw lo)), cen, .int .i64 mn]] (outR cs) := by
  refine ct_enter Tryz.func99 rfl Tryz.ntmps99 rfl rfl fun w0 _ hG => ?_
  have hl2 := TCode.len lo cs
  have hcl := hcs.1
  have hrep := fun lo => repeat_ct (G := G) lo cs.length hne hcl
  repeat' (first | ((with_reducible apply o_y); exact y_; rfl) | refine e_box ?_ | refine e_lit ?_ | ((with_reducible apply o_callM); rfl; kernel_rfl; (repeat (first | exact ArgsM.nil | ((with_reducible apply ArgsM.cons); rfl))); exact hG; exact hrep _; exact .nil _; intro y _; obtain ⟨ss, bb⟩ := y; refine al_app1 ?_) | with_reducible refine aw_hold_r (id := 2) ?_ | with_reducible refine al_none rfl ?_ | (with_reducible first | apply aw_seq | apply aw_region | apply al_nil | apply aq_then))
  refine ⟨?_⟩
  generalize ss = sd; generalize bb = bd
  have hst0 : outFrom cs 0 (List.replicate cs.length (-1)) = outersL cs := rfl
  have hin0 := outInv_zero cs.length
  unfold outR
  generalize outersL cs = R at hst0
  generalize List.replicate cs.length (-1 : Int) = o0 at hst0 hin0
  repeat' (first | ((with_reducible apply o_y); exact y_; rfl) | with_reducible refine al_none rfl ?_ | (with_reducible first | apply aw_seq | apply aw_region | apply al_nil | apply aq_then | apply aw_block))
  apply aw_loopk (X := Nat × List Int) [1, 4, 17, 18] (fun x => [(19, .int .i64 (x.1 : Int))]) (fun x => [(sd, bd, .row 1 (intR x.2))]) (fun x => x.1 ≤ cs.length ∧ outInv cs.length x.2 ∧ outFrom cs x.1 x.2 = R) (fun x => cs.length - x.1) (0, o0) ⟨Nat.zero_le _, hin0, hst0⟩
  exact kp_; (repeat (first | exact Weak.envNil | refine Weak.envCons we_ ?_))
  · exact .refl _
  clear hin0 hst0
  rintro ⟨i, o⟩ ⟨hi, hin, hR⟩
  dsimp only at hi hin hR ⊢
  have hol : (intR o).length = cs.length := by rw [intR_length]; exact hin.1
  by_cases hlt : i < cs.length
  · have hra := tcode_row (lo := lo) hlt
    have hsm := hcs.2 _ (List.getElem_mem hlt)
    rw [outFrom_step hlt] at hR
    generalize cs[i] = c at hra hsm hR
    obtain ⟨cb, cp, csl, is⟩ := c
    dsimp only at hra hR
    have hil := TInstr.len lo is
    have hisl : is.length ≤ 1048576 := hsm.1
    repeat' (first | ((with_reducible apply o_y); exact y_; rfl) | (refine e_alloc ?_; intro ss bb) | refine e_storep ?_ | with_reducible refine al_none rfl ?_ | (with_reducible first | apply aw_seq | apply aw_region | apply al_nil | apply aq_then | apply aw_block | apply aw_skip) | (refine aw_cond_dt rfl rr_ dd_ ?_))
    apply aw_loopk (X := Nat × List Int) [1, 4, 5, 17, 18, 19, 25, 26] (fun x => [(27, .int .i64 (x.1 : Int))]) (fun x => [(sd, bd, .row 1 (intR x.2))]) (fun x => x.1 ≤ is.length ∧ outInv cs.length x.2 ∧ outRest cs i (is.drop x.1) x.2 = R) (fun x => is.length - x.1) (0, o) ⟨Nat.zero_le _, hin, hR⟩
    exact kp_; (repeat (first | exact Weak.envNil | refine Weak.envCons we_ ?_))
    · exact pk_
    clear hin hR hol
    rintro ⟨k, o⟩ ⟨hk, hin, hR⟩
    dsimp only at hk hin hR ⊢
    have hol : (intR o).length = cs.length := by rw [intR_length]; exact hin.1
    by_cases hlk : k < is.length
    · have hrk := tinstr_row (lo := lo) hlk
      rw [outRest_step hlk] at hR
      generalize is[k] = x at hrk hR
      obtain ⟨op, a, b, t⟩ := x
      unfold outI at hR
      dsimp only at hrk hR
      by_cases h15 : op = 15
      · rw [if_pos h15] at hR
        have h15' : ¬ op ≠ 15 := fun h => h h15
        by_cases hin2 : 0 ≤ a ∧ a ≤ (i : Int) - 1
        · have cin := within_ct (G := G) a 0 ((i - 1 : Nat) : Int)
          rw [inR_t (by omega)] at cin
          obtain ⟨q, rfl⟩ : ∃ q : Nat, a = q := ⟨a.toNat, by omega⟩
          have hql : q < o.length := by rw [hin.1]; omega
          have hrq := intR_gd hql
          have hqc : q < cs.length := by omega
          have hrc := tcode_row (lo := lo) hqc
          have hblk := fun o' k' hp hinv => outRest_noblock (cs := cs) (i := i) (k := k') (is := is) (o := o') (a := q) hlt hinv hqc hp
          generalize cs[q] = y at hrc hblk
          obtain ⟨yb, yp, ysl, yi⟩ := y
          dsimp only at hrc hblk
          by_cases hg : 0 ≤ gd o (q : Int)
          · rw [if_neg fun h => h.2 hg] at hR
            cases yb
            all_goals
              repeat' (first | ((with_reducible apply o_y); exact y_; rfl) | (refine e_alloc ?_; intro ss bb) | refine e_storep ?_ | refine e_call hG hst (cin) ?_ | with_reducible refine al_none rfl ?_ | (with_reducible first | apply aw_seq | apply aw_region | apply al_nil | apply aq_then | apply aw_block | apply aw_skip | apply aw_ret | apply aq_then_ret | apply aq_block_ret) | refine al_run rfl rfl rfl rr_ ?_ | refine al_skip rfl rfl rfl rr_ rfl rfl rfl ?_ | refine aw_cond_t rfl rr_ ?_ | (refine aw_cond_dt rfl rr_ dd_ ?_) | (refine aw_cond_df rfl rr_ dd_ ?_))
              refine aq_ret2 x_ rfl (.tmp _ _ rfl) (.tmp _ _ rfl) (fun _ => ?_) (fun _ => ?_)
              · exact fin_none hR.symm
              · exact fin_none_b hR.symm
          · rw [if_pos ⟨hin2, hg⟩, Int.toNat_natCast] at hR
            dsimp only at hR
            have hset := intR_set o q (i : Int)
            have hin3 := (outI_inv (n := cs.length) (i := i) (x := ⟨15, q, b, t⟩) (o := o) (o' := o.set q (i : Int)) hlt (by unfold outI; rw [if_pos rfl, if_pos ⟨hin2, hg⟩, Int.toNat_natCast]) hin).1
            cases yb
            case false =>
              have hno := hblk (o.set q (i : Int)) (k + 1) rfl hin3 (by rw [gd_set_eq hql]; omega)
              rw [hR] at hno
              repeat' (first | ((with_reducible apply o_y); exact y_; rfl) | (refine e_alloc ?_; intro ss bb) | refine e_storep ?_ | refine e_call hG hst (cin) ?_ | with_reducible refine al_none rfl ?_ | (with_reducible first | apply aw_seq | apply aw_region | apply al_nil | apply aq_then | apply aw_block | apply aw_skip | apply aw_ret | apply aq_then_ret | apply aq_block_ret) | refine al_run rfl rfl rfl rr_ ?_ | refine al_skip rfl rfl rfl rr_ rfl rfl rfl ?_ | refine aw_cond_t rfl rr_ ?_ | (refine aw_cond_dt rfl rr_ dd_ ?_) | (refine aw_cond_df rfl rr_ dd_ ?_))
              refine aq_ret2 x_ rfl (.tmp _ _ rfl) (.tmp _ _ rfl) (fun _ => ?_) (fun _ => ?_)
              · exact fin_none hno
              · exact fin_none_b hno
            repeat' (first | ((with_reducible apply o_y); exact y_; rfl) | (refine e_alloc ?_; intro ss bb) | refine e_storep ?_ | refine e_call hG hst (cin) ?_ | refine e_store ?_ | with_reducible refine al_none rfl ?_ | (with_reducible first | apply aw_seq | apply aw_region | apply al_nil | apply aq_then | apply aw_block | apply aw_skip | apply aq_block) | refine al_run rfl rfl rfl rr_ ?_ | (refine aw_cond_dt rfl rr_ dd_ ?_) | (refine aw_cond_df rfl rr_ dd_ ?_))
            rw [hset]
            refine aq_round (k + 1, o.set q (i : Int)) ⟨by dsimp only; omega, hin3, hR⟩ (by dsimp only; omega) (.of _ nw_ od_ pk_)
        · have cin := within_ct (G := G) a 0 ((i : Int) - 1)
          have cin' := within_ct (G := G) a 0 ((i - 1 : Nat) : Int)
          rw [inR_f hin2] at cin
          rw [if_neg fun h => hin2 h.1] at hR
          repeat' (first | ((with_reducible apply o_y); exact y_; rfl) | (refine e_alloc ?_; intro ss bb) | refine e_storep ?_ | refine e_call hG hst (cin) ?_ | with_reducible refine al_none rfl ?_ | (with_reducible first | apply aw_seq | apply aw_region | apply al_nil | apply aq_then | apply aw_block | apply aw_skip | apply aw_ret | apply aq_then_ret | apply aq_block_ret) | refine al_skip rfl rfl rfl rr_ rfl rfl rfl ?_ | refine aw_cond_t rfl rr_ ?_ | (refine aw_cond_dt rfl rr_ dd_ ?_) | (refine aw_cond_df rfl rr_ dd_ ?_))
          refine aq_ret2 x_ rfl (.tmp _ _ rfl) (.tmp _ _ rfl) (fun _ => ?_) (fun _ => ?_)
          · exact fin_none hR.symm
          · exact fin_none_b hR.symm
      · rw [if_neg h15] at hR
        dsimp only at hR
        repeat' (first | ((with_reducible apply o_y); exact y_; rfl) | (refine e_alloc ?_; intro ss bb) | refine e_storep ?_ | with_reducible refine al_none rfl ?_ | (with_reducible first | apply aw_seq | apply aw_region | apply al_nil | apply aq_then | apply aw_block | apply aw_exit | apply aw_skip | apply aq_block_hit | apply aq_then_exit) | (refine aw_cond_dt rfl rr_ dd_ ?_))
        refine aq_round (k + 1, o) ⟨by dsimp only; omega, hin, hR⟩ (by dsimp only; omega) (.of _ nw_ od_ pk_)
    · rw [outRest_end hlk] at hR
      repeat' (first | ((with_reducible apply o_y); exact y_; rfl) | with_reducible refine al_none rfl ?_ | (with_reducible first | apply aw_seq | apply aw_region | apply al_nil | apply aq_then | apply aw_exit | apply aq_block_hit | apply aq_then_exit | apply aq_block) | (refine aw_cond_df rfl rr_ dd_ ?_))
      refine aq_round (i + 1, o) ⟨by dsimp only; omega, hin, hR⟩ (by dsimp only; omega) (.of _ nw_ od_ pk_)
  · rw [outFrom_end hlt] at hR
    repeat' (first | ((with_reducible apply o_y); exact y_; rfl) | with_reducible refine al_none rfl ?_ | (with_reducible first | apply aw_seq | apply aw_region | apply al_nil | apply aq_then | apply aw_block | apply aw_exit | apply aq_block_hit | apply aq_then_exit) | (refine aw_cond_df rfl rr_ dd_ ?_))
    apply aw_loopk (X := Nat) [1, 4, 66, 67] (fun j => [(68, .int .i64 (j : Int))]) (fun _ => [(sd, bd, .row 1 (intR o))]) (fun j => j ≤ cs.length ∧ ∀ q, q < j → ∀ h : q < cs.length, cs[q].block = decide (0 ≤ gd o (q : Int))) (fun j => cs.length - j) 0 ⟨Nat.zero_le _, by omega⟩
    exact kp_; (repeat (first | exact Weak.envNil | refine Weak.envCons we_ ?_))
    · exact .refl _
    rintro j ⟨hj, hja⟩
    try dsimp only
    by_cases hlj : j < cs.length
    · have hra := tcode_row (lo := lo) hlj
      have hrj := intR_gd (o := o) (j := j) (by rw [hin.1]; exact hlj)
      have hbad := outFin_bad (o := o) hlj
      have hnx : cs[j].block = decide (0 ≤ gd o (j : Int)) → ∀ q, q < j + 1 → ∀ h : q < cs.length, cs[q].block = decide (0 ≤ gd o (q : Int)) := fun ho => below_succ hja fun _ => ho
      generalize cs[j] = c at hra hbad hnx
      obtain ⟨cb, cp, csl, is⟩ := c
      dsimp only at hra hbad hnx
      generalize gd o (j : Int) = v at hrj hbad hnx
      by_cases hb : cb = decide (0 ≤ v)
      · repeat' (first | ((with_reducible apply o_y); exact y_; rfl) | (refine e_alloc ?_; intro ss bb) | refine e_storep ?_ | with_reducible refine aw_draw (by kernel_rfl) (by kernel_rfl) ?_ | with_reducible refine dr_nil ?_ | with_reducible refine dr_none rfl ?_ | ((with_reducible apply d_y); exact y_; rfl) | with_reducible refine al_none rfl ?_ | (with_reducible first | apply aw_seq | apply aw_region | apply al_nil | apply aq_then | apply aw_block | apply aw_skip | apply aw_ret | apply aq_then_ret | apply aq_block_ret | apply aq_block) | (refine aw_cond_dt rfl rr_ dd_ ?_) | (refine aw_cond_b rfl rr_ (fun hc => ?_) (fun hc => ?_)))
        all_goals first
          | exact aq_round (j + 1) ⟨by omega, hnx hb⟩ (by omega) (.of _ nw_ od_ pk_)
          | (exfalso; simp_all; done)
      · rw [hbad hb] at hR
        repeat' (first | ((with_reducible apply o_y); exact y_; rfl) | (refine e_alloc ?_; intro ss bb) | refine e_storep ?_ | with_reducible refine aw_draw (by kernel_rfl) (by kernel_rfl) ?_ | with_reducible refine dr_nil ?_ | with_reducible refine dr_none rfl ?_ | ((with_reducible apply d_y); exact y_; rfl) | with_reducible refine al_none rfl ?_ | (with_reducible first | apply aw_seq | apply aw_region | apply al_nil | apply aq_then | apply aw_block | apply aw_skip | apply aw_ret | apply aq_then_ret | apply aq_block_ret | apply aq_block) | (refine aw_cond_dt rfl rr_ dd_ ?_) | (refine aw_cond_b rfl rr_ (fun hc => ?_) (fun hc => ?_)))
        all_goals first
          | (exfalso; simp_all; done)
          | (refine aq_ret2 x_ rfl (.tmp _ _ rfl) (.tmp _ _ rfl) (fun _ => ?_) (fun _ => ?_)
             · exact fin_none hR.symm
             · exact fin_none_b hR.symm)
    · rw [outFin_good fun q hq => hja q (by omega)] at hR
      repeat' (first | ((with_reducible apply o_y); exact y_; rfl) | with_reducible refine al_none rfl ?_ | (with_reducible first | apply aw_seq | apply aw_region | apply al_nil | apply aq_then | apply aw_exit | apply aw_ret | apply aq_block_hit | apply aq_then_exit) | (refine aw_cond_df rfl rr_ dd_ ?_))
      refine aq_ret2 x_ rfl (.tmp _ _ rfl) (.tmp _ _ rfl) (fun _ => ?_) (fun _ => ?_)
      · exact fin_some hR.symm hin.1 List.mem_cons_self
      · exact fin_some_b hR.symm
end
end Go.Proofs.YthpdkhejeookhaaGreatDoor
