/- Part 23 of the proof: the texts NiA, NiB, NiM. -/
import Derived.Test.YtiihihgjiklnoaaGreatDoorPart17
import Derived.Test.YtiihihgjiklnoaaGreatDoorPart21
import Derived.Test.YtiihihgjiklnoaaGreatDoorPart22
/- Nested memory that the call owns: the laws' copies of an image. Written by gen_ni.py. -/
namespace Go.Proofs.YtiihihgjiklnoaaGreatDoor
set_option maxRecDepth 20000
open Go Go.RowKit
/-- Rows whose elements hold rows of their own, several for each element. -/
def nRg {α β : Type} (mk : α → β → List TV) (l : List α) (ps : List β) : List (List TV) := List.zipWith mk l ps
def nOg {α β : Type} (ob : α → β → Objs) (l : List α) (ps : List β) : Objs := (List.zipWith ob l ps).flatten
theorem nRg_len {α β : Type} (mk : α → β → List TV) {l : List α} {ps : List β} (h : ps.length = l.length) : (nRg mk l ps).length = l.length := by simp [nRg, h]
theorem pick_mid1 (a : Nat × Nat × TObj) (z R : Objs) : Pick (a :: (z ++ R)) (z ++ (a :: R)) := .perm List.perm_middle.symm
def Pl : Type := Nat × Nat
def objMk (x : TObject) (p : Pl × Pl) : List TV := [.int .i64 x.kind, .int .i64 x.class_, .ms p.1.1 p.1.2 0 x.fields.length, .ms p.2.1 p.2.2 0 x.numbers.length]
def objOb (x : TObject) (p : Pl × Pl) : Objs := [(p.1.1, p.1.2, .row 3 (x.fields.map (TValue.tw 0))), (p.2.1, p.2.2, .row 1 (intR x.numbers))]
def ctxMk (x : TContext) (p : Pl × Pl × Pl) : List TV := [.int .i64 x.mark, .int .i64 x.code, .int .i64 x.pc, .int .i64 x.sender, .int .i64 x.outer, .int .i64 x.home, .int .i64 x.self.kind, .int .i64 x.self.number, .str x.self.text, .ms p.1.1 p.1.2 0 x.slots.length, .ms p.2.1.1 p.2.1.2 0 x.stack.length, .ms p.2.2.1 p.2.2.2 0 x.values.length, .int .i64 x.other, .bool x.retry]
def ctxOb (x : TContext) (p : Pl × Pl × Pl) : Objs := [(p.1.1, p.1.2, .row 3 (x.slots.map (TValue.tw 0))), (p.2.1.1, p.2.1.2, .row 3 (x.stack.map (TValue.tw 0))), (p.2.2.1, p.2.2.2, .row 3 (x.values.map (TValue.tw 0)))]
def objO (l : List TObject) (y : Pl × List (Pl × Pl)) : Objs := (y.1.1, y.1.2, .row 4 (nRg objMk l y.2)) :: nOg objOb l y.2
def ctxO (l : List TContext) (y : Pl × List (Pl × Pl × Pl)) : Objs := (y.1.1, y.1.2, .row 14 (nRg ctxMk l y.2)) :: nOg ctxOb l y.2
/-- The places of a store and of an image. -/
def StP : Type := ((Nat × Nat) × List (Nat × Nat)) × (Pl × List (Pl × Pl)) × Pl
def stO (x : TStore) (y : StP) : Objs := clsO x.classes y.1 ++ (objO x.objects y.2.1 ++ [(y.2.2.1, y.2.2.2, .row 1 (strR x.output))])
def stC (x : TStore) (y : StP) : List TV := [.ms y.1.1.1 y.1.1.2 0 x.classes.length, .ms y.2.1.1.1 y.2.1.1.2 0 x.objects.length, .ms y.2.2.1 y.2.2.2 0 x.output.length, .int .i64 x.ticks, .int .i64 x.budget, .int .i64 x.made]
def stI (x : TStore) (y : StP) : Prop := y.1.2.length = x.classes.length ∧ y.2.1.2.length = x.objects.length
def ImgPl : Type := CbP × StP × Pl × (Pl × List (Pl × Pl × Pl)) × Pl × Pl
def imO (x : TImage) (y : ImgPl) : Objs := cbO x.base y.1 ++ (stO x.store y.2.1 ++ ([(y.2.2.1.1, y.2.2.1.2, .row 6 (x.blocks.map (TClosure.tw 0)))] ++ (ctxO x.contexts y.2.2.2.1 ++ ([(y.2.2.2.2.1.1, y.2.2.2.2.1.2, .row 2 (x.processes.map (TProcess.tw 0)))] ++ [(y.2.2.2.2.2.1, y.2.2.2.2.2.2, .row 1 (intR x.ready))]))))
def imC (x : TImage) (y : ImgPl) : List TV := [.ms y.1.1.1.1 y.1.1.1.2 0 x.base.classes.length, .ms y.1.2.1.1.1 y.1.2.1.1.2 0 x.base.codes.length, .ms y.1.2.2.1 y.1.2.2.2 0 x.base.entries.length, .int .i64 x.base.main,
  .ms y.2.1.1.1.1 y.2.1.1.1.2 0 x.store.classes.length, .ms y.2.1.2.1.1.1 y.2.1.2.1.1.2 0 x.store.objects.length, .ms y.2.1.2.2.1 y.2.1.2.2.2 0 x.store.output.length, .int .i64 x.store.ticks, .int .i64 x.store.budget, .int .i64 x.store.made,
  .ms y.2.2.1.1 y.2.2.1.2 0 x.blocks.length, .ms y.2.2.2.1.1.1 y.2.2.2.1.1.2 0 x.contexts.length, .ms y.2.2.2.2.1.1 y.2.2.2.2.1.2 0 x.processes.length, .ms y.2.2.2.2.2.1 y.2.2.2.2.2.2 0 x.ready.length, .int .i64 x.now, .int .i64 x.status, .int .i64 x.value.kind, .int .i64 x.value.number, .str x.value.text, .str x.fault]
def imI (x : TImage) (y : ImgPl) : Prop := cbI x.base y.1 ∧ stI x.store y.2.1 ∧ y.2.2.2.1.2.length = x.contexts.length
section
variable {G : World → Prop}
end
end Go.Proofs.YtiihihgjiklnoaaGreatDoor
/- The laws' copies of a store and of an image that the call owns. -/
namespace Go.Proofs.YtiihihgjiklnoaaGreatDoor
set_option maxRecDepth 20000
open Go Go.RowKit
section
variable {G : World → Prop}
end
end Go.Proofs.YtiihihgjiklnoaaGreatDoor
/- The laws' marks of an image that the call owns: exact. Written by gen_nm.py. -/
namespace Go.Proofs.YtiihihgjiklnoaaGreatDoor
set_option maxRecDepth 20000
open Go Go.RowKit
theorem nRg_get {α β : Type} (mk : α → β → List TV) {l : List α} {ps : List β} {i : Nat} {p : β} {x : α} (hx : l[i]? = some x) (hp : ps[i]? = some p) : (nRg mk l ps)[i]? = some (mk x p) := by
  unfold nRg
  rw [List.getElem?_zipWith, hx, hp]
theorem nRg_put {α β : Type} (mk : α → β → List TV) {l : List α} {ps : List β} {i : Nat} {p : β} {x : α} (hp : ps[i]? = some p) : nRg mk (l.set i x) ps = (nRg mk l ps).set i (mk x p) := zip_set mk hp
theorem perm_flat {a b : List Objs} (h : a.Perm b) : a.flatten.Perm b.flatten := by
  induction h with
  | nil => exact .refl _
  | cons x _ ih => exact ih.append_left x
  | swap x y l => exact List.perm_append_comm_assoc y x l.flatten
  | trans _ _ h1 h2 => exact h1.trans h2
def ngE {α β : Type} (ob : α → β → Objs) (l : List α) (ps : List β) (i : Nat) : Objs := ((List.zipWith ob l ps).eraseIdx i).flatten
theorem nOg_out {α β : Type} (ob : α → β → Objs) {l : List α} {ps : List β} {i : Nat} {p : β} {x : α} (hx : l[i]? = some x) (hp : ps[i]? = some p) : (nOg ob l ps).Perm (ob x p ++ ngE ob l ps i) := by
  have h := perm_flat (perm_out (l := List.zipWith ob l ps) (i := i) (x := ob x p) (by rw [List.getElem?_zipWith, hx, hp]))
  simpa [nOg, ngE] using h
theorem nOg_in {α β : Type} (ob : α → β → Objs) {l : List α} {ps : List β} {i : Nat} {p : β} {x : α} (hl : i < l.length) (hp : ps[i]? = some p) : (nOg ob (l.set i x) ps).Perm (ob x p ++ ngE ob l ps i) := by
  have h := nOg_out ob (l := l.set i x) (ps := ps) (i := i) (p := p) (x := x) (by rw [List.getElem?_set_self hl]) hp
  have e : ngE ob (l.set i x) ps i = ngE ob l ps i := by
    unfold ngE
    rw [zip_set _ hp, erase_set]
  rw [e] at h
  exact h
theorem front (A B : List Objs) (s : Objs) : Pick (s :: (A ++ B)).flatten (A ++ s :: B).flatten := .perm (perm_flat List.perm_middle).symm
theorem pick_out2 {a z1 z2 : Nat × Nat × TObj} {N E : Objs} (h : N.Perm ([z1, z2] ++ E)) (R : Objs) : Pick (z1 :: z2 :: a :: (E ++ R)) (a :: (N ++ R)) := .perm (by
  have h1 : (a :: (N ++ R)).Perm (a :: (([z1, z2] ++ E) ++ R)) := (h.append_right R).cons a
  exact (List.perm_middle (l₁ := [z1, z2]) (l₂ := E ++ R) (a := a)).trans h1.symm)
theorem pick_in2 {a z1 z2 : Nat × Nat × TObj} {N E : Objs} (h : N.Perm ([z1, z2] ++ E)) (R : Objs) : Pick (a :: (N ++ R)) (z2 :: z1 :: a :: (E ++ R)) := .perm (by
  have h1 : (a :: (N ++ R)).Perm (a :: (([z1, z2] ++ E) ++ R)) := (h.append_right R).cons a
  exact h1.trans ((List.perm_middle (l₁ := [z1, z2]) (l₂ := E ++ R) (a := a)).symm.trans (List.Perm.swap _ _ _)))
theorem pick_out3 {a z1 z2 z3 : Nat × Nat × TObj} {N E : Objs} (h : N.Perm ([z1, z2, z3] ++ E)) (R : Objs) : Pick (z1 :: z2 :: z3 :: a :: (E ++ R)) (a :: (N ++ R)) := .perm (by
  have h1 : (a :: (N ++ R)).Perm (a :: (([z1, z2, z3] ++ E) ++ R)) := (h.append_right R).cons a
  exact (List.perm_middle (l₁ := [z1, z2, z3]) (l₂ := E ++ R) (a := a)).trans h1.symm)
theorem pick_in3 {a z1 z2 z3 : Nat × Nat × TObj} {N E : Objs} (h : N.Perm ([z1, z2, z3] ++ E)) (R : Objs) : Pick (a :: (N ++ R)) (z3 :: z2 :: z1 :: a :: (E ++ R)) := .perm (by
  have h1 : (a :: (N ++ R)).Perm (a :: (([z1, z2, z3] ++ E) ++ R)) := (h.append_right R).cons a
  have h2 : (z3 :: z2 :: z1 :: a :: (E ++ R)).Perm (z1 :: z2 :: z3 :: a :: (E ++ R)) := ((List.Perm.swap z2 z3 _).trans ((List.Perm.swap z1 z3 _).cons z2)).trans ((List.Perm.swap z1 z2 _))
  exact h1.trans ((List.perm_middle (l₁ := [z1, z2, z3]) (l₂ := E ++ R) (a := a)).symm.trans h2.symm))
theorem pick_3rd (z1 z2 z3 : Nat × Nat × TObj) (R : Objs) : Pick (z3 :: z2 :: z1 :: R) (z2 :: z1 :: z3 :: R) := .perm (List.perm_middle (l₁ := [z2, z1]) (l₂ := R) (a := z3)).symm
def mkInt (k : Int) (_ : Int) : Int := k
def nxInt (k : Int) (_ : Int) : Int := k + 1
theorem nxInt_in (l : List Int) : ∀ x ∈ l, ∀ q, q ≤ nxInt q x ∧ nxInt q x ≤ q + (1 : Nat) := fun x _ q => by unfold nxInt; omega
def mkValue (k : Int) (_ : TValue) : TValue := ⟨k, k + 1, markB (k + 1 + 1)⟩
def nxValue (k : Int) (_ : TValue) : Int := k + 1 + 1 + 1
theorem nxValue_in (l : List TValue) : ∀ x ∈ l, ∀ q, q ≤ nxValue q x ∧ nxValue q x ≤ q + (3 : Nat) := fun x _ q => by unfold nxValue; omega
def mkClosure (k : Int) (_ : TClosure) : TClosure := ⟨k, k + 1, k + 1 + 1, ⟨k + 1 + 1 + 1, k + 1 + 1 + 1 + 1, markB (k + 1 + 1 + 1 + 1 + 1)⟩⟩
def nxClosure (k : Int) (_ : TClosure) : Int := k + 1 + 1 + 1 + 1 + 1 + 1
theorem nxClosure_in (l : List TClosure) : ∀ x ∈ l, ∀ q, q ≤ nxClosure q x ∧ nxClosure q x ≤ q + (6 : Nat) := fun x _ q => by unfold nxClosure; omega
def mkProcess (k : Int) (_ : TProcess) : TProcess := ⟨k, decide ((k + 1).tmod 3 = 0)⟩
def nxProcess (k : Int) (_ : TProcess) : Int := k + 1 + 1
theorem nxProcess_in (l : List TProcess) : ∀ x ∈ l, ∀ q, q ≤ nxProcess q x ∧ nxProcess q x ≤ q + (2 : Nat) := fun x _ q => by unfold nxProcess; omega
def mkObject (k : Int) (x : TObject) : TObject := ⟨k, k + 1, mkL mkValue nxValue (k + 1 + 1) x.fields, mkL mkInt nxInt (kL nxValue (k + 1 + 1) x.fields) x.numbers⟩
def nxObject (k : Int) (x : TObject) : Int := kL nxInt (kL nxValue (k + 1 + 1) x.fields) x.numbers
theorem nxObject_in {l : List TObject} (h : ∀ y ∈ l, TObject.small 1048576 y) : ∀ x ∈ l, ∀ q, q ≤ nxObject q x ∧ nxObject q x ≤ q + (4194306 : Nat) := fun x hx q => by
  have h1 := h x hx
  have h2 := h1.1.1
  have h3 := h1.2
  have h4 := kL_in (nx := nxValue) (l := x.fields) (k := q + 1 + 1) (nxValue_in _)
  have h5 := kL_in (nx := nxInt) (l := x.numbers) (k := kL nxValue (q + 1 + 1) x.fields) (nxInt_in _)
  unfold nxObject
  omega
def k9 (k : Int) : Int := k + 1 + 1 + 1 + 1 + 1 + 1 + 1 + 1 + 1
def mkContext (k : Int) (x : TContext) : TContext := ⟨k, k + 1, k + 1 + 1, k + 1 + 1 + 1, k + 1 + 1 + 1 + 1, k + 1 + 1 + 1 + 1 + 1, ⟨k + 1 + 1 + 1 + 1 + 1 + 1, k + 1 + 1 + 1 + 1 + 1 + 1 + 1, markB (k + 1 + 1 + 1 + 1 + 1 + 1 + 1 + 1)⟩, mkL mkValue nxValue (k9 k) x.slots, mkL mkValue nxValue (kL nxValue (k9 k) x.slots) x.stack, mkL mkValue nxValue (kL nxValue (kL nxValue (k9 k) x.slots) x.stack) x.values, kL nxValue (kL nxValue (kL nxValue (k9 k) x.slots) x.stack) x.values, decide ((kL nxValue (kL nxValue (kL nxValue (k9 k) x.slots) x.stack) x.values + 1).tmod 3 = 0)⟩
def nxContext (k : Int) (x : TContext) : Int := kL nxValue (kL nxValue (kL nxValue (k9 k) x.slots) x.stack) x.values + 1 + 1
theorem nxContext_in {l : List TContext} (h : ∀ y ∈ l, TContext.small 1048576 y) : ∀ x ∈ l, ∀ q, q ≤ nxContext q x ∧ nxContext q x ≤ q + (9437195 : Nat) := fun x hx q => by
  have h1 := h x hx
  have h2 := h1.2.1.1
  have h3 := h1.2.2.1.1
  have h4 := h1.2.2.2.1
  have h5 := kL_in (nx := nxValue) (l := x.slots) (k := k9 q) (nxValue_in _)
  have h6 := kL_in (nx := nxValue) (l := x.stack) (k := kL nxValue (k9 q) x.slots) (nxValue_in _)
  have h7 := kL_in (nx := nxValue) (l := x.values) (k := kL nxValue (kL nxValue (k9 q) x.slots) x.stack) (nxValue_in _)
  have h8 : k9 q = q + 9 := by unfold k9; omega
  unfold nxContext
  omega
section
variable {G : World → Prop}
theorem markIntS_own (_hst : Stable G) (s b : Nat) (l : List Int) (k : Int) (hn : l.length ≤ 1048576) (hk : 0 ≤ k ∧ k ≤ 1000000000000000) : CtM Tryz.prog G 33 [.ms s b 0 l.length, .int .i64 k] [(s, b, .row 1 (intR (l)))] (fun _ : Unit => True) (fun _ => [(s, b, .row 1 (intR (mkL mkInt nxInt k l)))]) (fun _ => .int .i64 (kL nxInt k l)) := by
  refine ctm_enter Tryz.func33 rfl Tryz.ntmps33 rfl rfl rfl fun w0 R gs objsR hG hR => ?_
  obtain rfl := hR.inv1
  clear hR
  repeat' (first | refine W_ ?_ | refine c_ (fun hc => ?_) (fun hc => ?_) | refine g_ (fun hg => ?_) (fun hg => ?_))
  apply aw_loopk (X := Nat) [0, 1000000] (fun x => [(5, .int .i64 (x : Int)), (1, .int .i64 (kL nxInt k (l.take x)))]) (fun x => (s, b, .row 1 (intR (ptL mkInt nxInt k l x))) :: R) (fun x => x ≤ l.length) (fun x => l.length - x) 0 (Nat.zero_le _)
  exact kp_; exact nw_
  · exact .refl _
  intro i hi
  try dsimp only
  have hq := kL_take (k := k) (i := i) hn (nxInt_in l) hi
  by_cases hlt : i < l.length
  · have hrow : (intR (ptL mkInt nxInt k l i))[i]? = some ((fun n : Int => [TV.int .i64 n]) l[i]) := by
      simp only [intR, List.getElem?_map, ptL_get hlt]; rfl
    have hset : (intR (ptL mkInt nxInt k l i)).set i ((fun n : Int => [TV.int .i64 n]) (mkInt (kL nxInt k (l.take i)) l[i])) = intR (ptL mkInt nxInt k l (i + 1)) := by
      rw [← ptL_set hlt]; simp [intR, List.map_set]
    have hks := kL_snoc (nx := nxInt) (k := k) hlt
    have hrl : (intR (ptL mkInt nxInt k l i)).length = l.length := by simp [intR, ptL_len hi]
    generalize intR (ptL mkInt nxInt k l i) = rows at hrow hset hrl ⊢
    generalize kL nxInt k (l.take i) = q at hq hset hks ⊢
    generalize l[i] = x at hrow hset hks
    replace hrow : rows[i]? = some [.int .i64 x] := hrow
    have hks2 : kL nxInt k (l.take (i + 1)) = q + 1 := hks
    repeat' (first | refine W_ ?_ | refine e_store ?_ | ((with_reducible apply o_call); rfl; kernel_rfl; (repeat (first | exact Args.nil | ((with_reducible apply Args.cons); rfl; exact .same _))); exact hG; exact _hst; exact markText_ct _ (by omega) (by omega)) | refine c_ (fun hc => ?_) (fun hc => ?_) | refine g_ (fun hg => ?_) (fun hg => ?_))
    refine aq_round (i + 1) (by omega) (by omega) (.of _ (Weak.envCons rfl (Weak.envCons (lk_int rfl (by rw [hks2])) Weak.envNil)) od_ ?_)
    rw [← hset]
    (try simp only [])
    exact .refl _
  · obtain rfl : i = l.length := by omega
    rw [ptL_full, List.take_length]
    repeat' (first | refine W_ ?_ | refine c_ (fun hc => ?_) (fun hc => ?_) | refine g_ (fun hg => ?_) (fun hg => ?_))
    exact aq_retm1 x_ rfl () trivial rfl (.cons _ _ _ _ (.nil R)) pk_ (.tmp _ _ rfl) rfl
theorem markValueS_own (hst : Stable G) (s b : Nat) (l : List TValue) (k : Int) (hn : l.length ≤ 1048576) (hk : 0 ≤ k ∧ k ≤ 1000000000000000) : CtM Tryz.prog G 151 [.ms s b 0 l.length, .int .i64 k] [(s, b, .row 3 ((l).map (TValue.tw 0)))] (fun _ : Unit => True) (fun _ => [(s, b, .row 3 ((mkL mkValue nxValue k l).map (TValue.tw 0)))]) (fun _ => .int .i64 (kL nxValue k l)) := by
  refine ctm_enter Tryz.func151 rfl Tryz.ntmps151 rfl rfl rfl fun w0 R gs objsR hG hR => ?_
  obtain rfl := hR.inv1
  clear hR
  repeat' (first | refine W_ ?_ | refine c_ (fun hc => ?_) (fun hc => ?_) | refine g_ (fun hg => ?_) (fun hg => ?_))
  apply aw_loopk (X := Nat) [0, 1000000] (fun x => [(5, .int .i64 (x : Int)), (1, .int .i64 (kL nxValue k (l.take x)))]) (fun x => (s, b, .row 3 ((ptL mkValue nxValue k l x).map (TValue.tw 0))) :: R) (fun x => x ≤ l.length) (fun x => l.length - x) 0 (Nat.zero_le _)
  exact kp_; exact nw_
  · exact .refl _
  intro i hi
  try dsimp only
  have hq := kL_take (k := k) (i := i) hn (nxValue_in l) hi
  by_cases hlt : i < l.length
  · have hrow : ((ptL mkValue nxValue k l i).map (TValue.tw 0))[i]? = some ((TValue.tw 0) l[i]) := by
      simp only [List.getElem?_map, ptL_get hlt]; rfl
    have hset : ((ptL mkValue nxValue k l i).map (TValue.tw 0)).set i ((TValue.tw 0) (mkValue (kL nxValue k (l.take i)) l[i])) = (ptL mkValue nxValue k l (i + 1)).map (TValue.tw 0) := by
      rw [← ptL_set hlt]; rw [List.map_set]
    have hks := kL_snoc (nx := nxValue) (k := k) hlt
    have hrl : ((ptL mkValue nxValue k l i).map (TValue.tw 0)).length = l.length := by simp [ptL_len hi]
    generalize (ptL mkValue nxValue k l i).map (TValue.tw 0) = rows at hrow hset hrl ⊢
    generalize kL nxValue k (l.take i) = q at hq hset hks ⊢
    generalize l[i] = x at hrow hset hks
    replace hrow : rows[i]? = some [.int .i64 x.kind, .int .i64 x.number, .str x.text] := hrow
    have hr1 : (rows.set i [.int .i64 q, .int .i64 x.number, .str x.text])[i]? = some [.int .i64 q, .int .i64 x.number, .str x.text] := by rw [List.getElem?_set_self (by omega)]
    have hks2 : kL nxValue k (l.take (i + 1)) = q + 1 + 1 + 1 := hks
    repeat' (first | refine W_ ?_ | refine e_store ?_ | ((with_reducible apply o_call); rfl; kernel_rfl; (repeat (first | exact Args.nil | ((with_reducible apply Args.cons); rfl; exact .same _))); exact hG; exact hst; exact markText_ct _ (by omega) (by omega)) | refine c_ (fun hc => ?_) (fun hc => ?_) | refine g_ (fun hg => ?_) (fun hg => ?_))
    refine aq_round (i + 1) (by omega) (by omega) (.of _ (Weak.envCons rfl (Weak.envCons (lk_int rfl (by rw [hks2])) Weak.envNil)) od_ ?_)
    rw [← hset]
    (try simp only [List.set_set])
    exact .refl _
  · obtain rfl : i = l.length := by omega
    rw [ptL_full, List.take_length]
    repeat' (first | refine W_ ?_ | refine c_ (fun hc => ?_) (fun hc => ?_) | refine g_ (fun hg => ?_) (fun hg => ?_))
    exact aq_retm1 x_ rfl () trivial rfl (.cons _ _ _ _ (.nil R)) pk_ (.tmp _ _ rfl) rfl
theorem markClosureS_own (hst : Stable G) (s b : Nat) (l : List TClosure) (k : Int) (hn : l.length ≤ 1048576) (hk : 0 ≤ k ∧ k ≤ 1000000000000000) : CtM Tryz.prog G 69 [.ms s b 0 l.length, .int .i64 k] [(s, b, .row 6 ((l).map (TClosure.tw 0)))] (fun _ : Unit => True) (fun _ => [(s, b, .row 6 ((mkL mkClosure nxClosure k l).map (TClosure.tw 0)))]) (fun _ => .int .i64 (kL nxClosure k l)) := by
  refine ctm_enter Tryz.func69 rfl Tryz.ntmps69 rfl rfl rfl fun w0 R gs objsR hG hR => ?_
  obtain rfl := hR.inv1
  clear hR
  repeat' (first | refine W_ ?_ | refine c_ (fun hc => ?_) (fun hc => ?_) | refine g_ (fun hg => ?_) (fun hg => ?_))
  apply aw_loopk (X := Nat) [0, 1000000] (fun x => [(5, .int .i64 (x : Int)), (1, .int .i64 (kL nxClosure k (l.take x)))]) (fun x => (s, b, .row 6 ((ptL mkClosure nxClosure k l x).map (TClosure.tw 0))) :: R) (fun x => x ≤ l.length) (fun x => l.length - x) 0 (Nat.zero_le _)
  exact kp_; exact nw_
  · exact .refl _
  intro i hi
  try dsimp only
  have hq := kL_take (k := k) (i := i) hn (nxClosure_in l) hi
  by_cases hlt : i < l.length
  · have hrow : ((ptL mkClosure nxClosure k l i).map (TClosure.tw 0))[i]? = some ((TClosure.tw 0) l[i]) := by
      simp only [List.getElem?_map, ptL_get hlt]; rfl
    have hset : ((ptL mkClosure nxClosure k l i).map (TClosure.tw 0)).set i ((TClosure.tw 0) (mkClosure (kL nxClosure k (l.take i)) l[i])) = (ptL mkClosure nxClosure k l (i + 1)).map (TClosure.tw 0) := by
      rw [← ptL_set hlt]; rw [List.map_set]
    have hks := kL_snoc (nx := nxClosure) (k := k) hlt
    have hrl : ((ptL mkClosure nxClosure k l i).map (TClosure.tw 0)).length = l.length := by simp [ptL_len hi]
    generalize (ptL mkClosure nxClosure k l i).map (TClosure.tw 0) = rows at hrow hset hrl ⊢
    generalize kL nxClosure k (l.take i) = q at hq hset hks ⊢
    generalize l[i] = x at hrow hset hks
    replace hrow : rows[i]? = some [.int .i64 x.code, .int .i64 x.outer, .int .i64 x.home, .int .i64 x.self.kind, .int .i64 x.self.number, .str x.self.text] := hrow
    have hr1 : (rows.set i [.int .i64 q, .int .i64 x.outer, .int .i64 x.home, .int .i64 x.self.kind, .int .i64 x.self.number, .str x.self.text])[i]? = some [.int .i64 q, .int .i64 x.outer, .int .i64 x.home, .int .i64 x.self.kind, .int .i64 x.self.number, .str x.self.text] := by rw [List.getElem?_set_self (by omega)]
    have hks2 : kL nxClosure k (l.take (i + 1)) = q + 1 + 1 + 1 + 1 + 1 + 1 := hks
    repeat' (first | refine W_ ?_ | refine e_store ?_ | ((with_reducible apply o_call); rfl; kernel_rfl; (repeat (first | exact Args.nil | ((with_reducible apply Args.cons); rfl; exact .same _))); exact hG; exact hst; exact markText_ct _ (by omega) (by omega)) | refine c_ (fun hc => ?_) (fun hc => ?_) | refine g_ (fun hg => ?_) (fun hg => ?_))
    refine aq_round (i + 1) (by omega) (by omega) (.of _ (Weak.envCons rfl (Weak.envCons (lk_int rfl (by rw [hks2])) Weak.envNil)) od_ ?_)
    rw [← hset]
    (try simp only [List.set_set])
    exact .refl _
  · obtain rfl : i = l.length := by omega
    rw [ptL_full, List.take_length]
    repeat' (first | refine W_ ?_ | refine c_ (fun hc => ?_) (fun hc => ?_) | refine g_ (fun hg => ?_) (fun hg => ?_))
    exact aq_retm1 x_ rfl () trivial rfl (.cons _ _ _ _ (.nil R)) pk_ (.tmp _ _ rfl) rfl
theorem markProcessS_own (_hst : Stable G) (s b : Nat) (l : List TProcess) (k : Int) (hn : l.length ≤ 1048576) (hk : 0 ≤ k ∧ k ≤ 1000000000000000) : CtM Tryz.prog G 71 [.ms s b 0 l.length, .int .i64 k] [(s, b, .row 2 ((l).map (TProcess.tw 0)))] (fun _ : Unit => True) (fun _ => [(s, b, .row 2 ((mkL mkProcess nxProcess k l).map (TProcess.tw 0)))]) (fun _ => .int .i64 (kL nxProcess k l)) := by
  refine ctm_enter Tryz.func71 rfl Tryz.ntmps71 rfl rfl rfl fun w0 R gs objsR hG hR => ?_
  obtain rfl := hR.inv1
  clear hR
  repeat' (first | refine W_ ?_ | refine c_ (fun hc => ?_) (fun hc => ?_) | refine g_ (fun hg => ?_) (fun hg => ?_))
  apply aw_loopk (X := Nat) [0, 1000000] (fun x => [(5, .int .i64 (x : Int)), (1, .int .i64 (kL nxProcess k (l.take x)))]) (fun x => (s, b, .row 2 ((ptL mkProcess nxProcess k l x).map (TProcess.tw 0))) :: R) (fun x => x ≤ l.length) (fun x => l.length - x) 0 (Nat.zero_le _)
  exact kp_; exact nw_
  · exact .refl _
  intro i hi
  try dsimp only
  have hq := kL_take (k := k) (i := i) hn (nxProcess_in l) hi
  by_cases hlt : i < l.length
  · have hrow : ((ptL mkProcess nxProcess k l i).map (TProcess.tw 0))[i]? = some ((TProcess.tw 0) l[i]) := by
      simp only [List.getElem?_map, ptL_get hlt]; rfl
    have hset : ((ptL mkProcess nxProcess k l i).map (TProcess.tw 0)).set i ((TProcess.tw 0) (mkProcess (kL nxProcess k (l.take i)) l[i])) = (ptL mkProcess nxProcess k l (i + 1)).map (TProcess.tw 0) := by
      rw [← ptL_set hlt]; rw [List.map_set]
    have hks := kL_snoc (nx := nxProcess) (k := k) hlt
    have hrl : ((ptL mkProcess nxProcess k l i).map (TProcess.tw 0)).length = l.length := by simp [ptL_len hi]
    generalize (ptL mkProcess nxProcess k l i).map (TProcess.tw 0) = rows at hrow hset hrl ⊢
    generalize kL nxProcess k (l.take i) = q at hq hset hks ⊢
    generalize l[i] = x at hrow hset hks
    replace hrow : rows[i]? = some [.int .i64 x.at_, .bool x.main] := hrow
    have hr1 : (rows.set i [.int .i64 q, .bool x.main])[i]? = some [.int .i64 q, .bool x.main] := by rw [List.getElem?_set_self (by omega)]
    have hks2 : kL nxProcess k (l.take (i + 1)) = q + 1 + 1 := hks
    repeat' (first | refine W_ ?_ | refine e_store ?_ | ((with_reducible apply o_call); rfl; kernel_rfl; (repeat (first | exact Args.nil | ((with_reducible apply Args.cons); rfl; exact .same _))); exact hG; exact _hst; exact markText_ct _ (by omega) (by omega)) | refine c_ (fun hc => ?_) (fun hc => ?_) | refine g_ (fun hg => ?_) (fun hg => ?_))
    refine aq_round (i + 1) (by omega) (by omega) (.of _ (Weak.envCons rfl (Weak.envCons (lk_int rfl (by rw [hks2])) Weak.envNil)) od_ ?_)
    rw [← hset]
    (try simp only [List.set_set])
    exact .refl _
  · obtain rfl : i = l.length := by omega
    rw [ptL_full, List.take_length]
    repeat' (first | refine W_ ?_ | refine c_ (fun hc => ?_) (fun hc => ?_) | refine g_ (fun hg => ?_) (fun hg => ?_))
    exact aq_retm1 x_ rfl () trivial rfl (.cons _ _ _ _ (.nil R)) pk_ (.tmp _ _ rfl) rfl
set_option maxHeartbeats 1000000 in
theorem markObjectS_own (hst : Stable G) (s b : Nat) (l : List TObject) (ps : List (Pl × Pl)) (hps : ps.length = l.length) (k : Int) (hn : l.length ≤ 1048576 ∧ ∀ y ∈ l, TObject.small 1048576 y) (hk : 0 ≤ k ∧ k ≤ 100000000000000) :
    CtM Tryz.prog G 150 [.ms s b 0 l.length, .int .i64 k] ((s, b, .row 4 (nRg objMk l ps)) :: nOg objOb l ps) (fun _ : Unit => True) (fun _ => (s, b, .row 4 (nRg objMk (mkL mkObject nxObject k l) ps)) :: nOg objOb (mkL mkObject nxObject k l) ps) (fun _ => .int .i64 (kL nxObject k l)) := by
  refine ctm_enter Tryz.func150 rfl Tryz.ntmps150 rfl rfl rfl fun w0 R gs objsR hG hR => ?_
  obtain rfl := hR.eq
  clear hR
  obtain ⟨hn, hsm⟩ := hn
  repeat' (first | refine W_ ?_ | refine c_ (fun hc => ?_) (fun hc => ?_) | refine g_ (fun hg => ?_) (fun hg => ?_))
  apply aw_loopk (X := Nat) [0, 1000000] (fun x => [(5, .int .i64 (x : Int)), (1, .int .i64 (kL nxObject k (l.take x)))]) (fun x => (s, b, .row 4 (nRg objMk (ptL mkObject nxObject k l x) ps)) :: (nOg objOb (ptL mkObject nxObject k l x) ps ++ R)) (fun x => x ≤ l.length) (fun x => l.length - x) 0 (Nat.zero_le _)
  exact kp_; exact nw_
  · exact .refl _
  intro i hi
  try dsimp only
  have hq := kL_take (k := k) (i := i) hn (nxObject_in hsm) hi
  by_cases hlt : i < l.length
  · obtain ⟨p, hp⟩ : ∃ p, ps[i]? = some p := ⟨_, List.getElem?_eq_getElem (by omega)⟩
    have hpl : i < (ptL mkObject nxObject k l i).length := by rw [ptL_len hi]; exact hlt
    have hrow := nRg_get objMk (ptL_get (mk := mkObject) (nx := nxObject) (k := k) hlt) hp
    have hset := nRg_put objMk (l := ptL mkObject nxObject k l i) (x := mkObject (kL nxObject k (l.take i)) l[i]) hp
    have hout := nOg_out objOb (ptL_get (mk := mkObject) (nx := nxObject) (k := k) hlt) hp
    have hin := nOg_in objOb (x := mkObject (kL nxObject k (l.take i)) l[i]) hpl hp
    rw [ptL_set hlt] at hset hin
    have hks := kL_snoc (nx := nxObject) (k := k) hlt
    have hrl : (nRg objMk (ptL mkObject nxObject k l i) ps).length = l.length := by rw [nRg_len _ (by rw [ptL_len hi]; exact hps), ptL_len hi]
    have hb := hsm _ (List.getElem_mem hlt)
    generalize ngE objOb (ptL mkObject nxObject k l i) ps i = E at hout hin
    generalize nOg objOb (ptL mkObject nxObject k l i) ps = N0 at hout ⊢
    generalize nRg objMk (ptL mkObject nxObject k l i) ps = rows at hrow hset hrl ⊢
    generalize kL nxObject k (l.take i) = q at hq hset hks hin ⊢
    generalize l[i] = x at hrow hset hks hout hin hb
    replace hrow : rows[i]? = some [.int .i64 x.kind, .int .i64 x.class_, .ms p.1.1 p.1.2 0 x.fields.length, .ms p.2.1 p.2.2 0 x.numbers.length] := hrow
    have hr1 : (rows.set i [.int .i64 q, .int .i64 x.class_, .ms p.1.1 p.1.2 0 x.fields.length, .ms p.2.1 p.2.2 0 x.numbers.length])[i]? = some [.int .i64 q, .int .i64 x.class_, .ms p.1.1 p.1.2 0 x.fields.length, .ms p.2.1 p.2.2 0 x.numbers.length] := by rw [List.getElem?_set_self (by omega)]
    have hk1 := kL_in (nx := nxValue) (l := x.fields) (k := q + 1 + 1) (nxValue_in _)
    have hf1 := hb.1.1
    have hct1 := markValueS_own hst p.1.1 p.1.2 x.fields (q + 1 + 1) hb.1.1 (by omega)
    have hct2 := markIntS_own hst p.2.1 p.2.2 x.numbers (kL nxValue (q + 1 + 1) x.fields) hb.2 (by omega)
    repeat' (first | refine W_ ?_ | refine e_store ?_ | ((with_reducible apply o_call); rfl; kernel_rfl; (repeat (first | exact Args.nil | ((with_reducible apply Args.cons); rfl; exact .same _))); exact hG; exact hst; exact markText_ct _ (by omega) (by omega)) | refine c_ (fun hc => ?_) (fun hc => ?_) | refine g_ (fun hg => ?_) (fun hg => ?_))
    refine ao_pick (pick_out2 hout R) ?_
    repeat' (first | refine W_ ?_ | refine e_store ?_ | ((with_reducible apply o_callM); rfl; kernel_rfl; (repeat (first | exact ArgsM.nil | ((with_reducible apply ArgsM.cons); rfl))); exact hG; exact hct1; exact .cons _ _ _ _ (.nil _); intro y hy; refine al_app1 ?_; refine al_pick (.perm (List.Perm.swap _ _ _)) ?_) | ((with_reducible apply o_callM); rfl; kernel_rfl; (repeat (first | exact ArgsM.nil | ((with_reducible apply ArgsM.cons); rfl))); exact hG; exact hct2; exact .cons _ _ _ _ (.nil _); intro y hy; refine al_app1 ?_) | refine c_ (fun hc => ?_) (fun hc => ?_) | refine g_ (fun hg => ?_) (fun hg => ?_))
    refine aq_round (i + 1) (by omega) (by omega) (.of _ (Weak.envCons rfl (Weak.envCons (lk_int rfl (by rw [hks]; rfl)) Weak.envNil)) od_ ?_)
    rw [hset]
    simp only [List.set_set]
    have hcl : objMk (mkObject q x) p = [.int .i64 q, .int .i64 (q + 1), .ms p.1.1 p.1.2 0 x.fields.length, .ms p.2.1 p.2.2 0 x.numbers.length] := by
      unfold objMk mkObject
      dsimp only
      rw [mkL_len, mkL_len]
    rw [hcl]
    exact pick_in2 hin R
  · obtain rfl : i = l.length := by omega
    rw [ptL_full, List.take_length]
    repeat' (first | refine W_ ?_ | refine c_ (fun hc => ?_) (fun hc => ?_) | refine g_ (fun hg => ?_) (fun hg => ?_))
    exact aq_retm1 x_ rfl () trivial rfl (.cons _ _ _ _ (.app _ R)) (.refl _) (.tmp _ _ rfl) rfl
set_option maxHeartbeats 1000000 in
theorem markContextS_own (hst : Stable G) (s b : Nat) (l : List TContext) (ps : List (Pl × Pl × Pl)) (hps : ps.length = l.length) (k : Int) (hn : l.length ≤ 1048576 ∧ ∀ y ∈ l, TContext.small 1048576 y) (hk : 0 ≤ k ∧ k ≤ 100000000000000) :
    CtM Tryz.prog G 70 [.ms s b 0 l.length, .int .i64 k] ((s, b, .row 14 (nRg ctxMk l ps)) :: nOg ctxOb l ps) (fun _ : Unit => True) (fun _ => (s, b, .row 14 (nRg ctxMk (mkL mkContext nxContext k l) ps)) :: nOg ctxOb (mkL mkContext nxContext k l) ps) (fun _ => .int .i64 (kL nxContext k l)) := by
  refine ctm_enter Tryz.func70 rfl Tryz.ntmps70 rfl rfl rfl fun w0 R gs objsR hG hR => ?_
  obtain rfl := hR.eq
  clear hR
  obtain ⟨hn, hsm⟩ := hn
  repeat' (first | refine W_ ?_ | refine c_ (fun hc => ?_) (fun hc => ?_) | refine g_ (fun hg => ?_) (fun hg => ?_))
  apply aw_loopk (X := Nat) [0, 1000000] (fun x => [(5, .int .i64 (x : Int)), (1, .int .i64 (kL nxContext k (l.take x)))]) (fun x => (s, b, .row 14 (nRg ctxMk (ptL mkContext nxContext k l x) ps)) :: (nOg ctxOb (ptL mkContext nxContext k l x) ps ++ R)) (fun x => x ≤ l.length) (fun x => l.length - x) 0 (Nat.zero_le _)
  exact kp_; exact nw_
  · exact .refl _
  intro i hi
  try dsimp only
  have hq := kL_take (k := k) (i := i) hn (nxContext_in hsm) hi
  by_cases hlt : i < l.length
  · obtain ⟨p, hp⟩ : ∃ p, ps[i]? = some p := ⟨_, List.getElem?_eq_getElem (by omega)⟩
    have hpl : i < (ptL mkContext nxContext k l i).length := by rw [ptL_len hi]; exact hlt
    have hrow := nRg_get ctxMk (ptL_get (mk := mkContext) (nx := nxContext) (k := k) hlt) hp
    have hset := nRg_put ctxMk (l := ptL mkContext nxContext k l i) (x := mkContext (kL nxContext k (l.take i)) l[i]) hp
    have hout := nOg_out ctxOb (ptL_get (mk := mkContext) (nx := nxContext) (k := k) hlt) hp
    have hin := nOg_in ctxOb (x := mkContext (kL nxContext k (l.take i)) l[i]) hpl hp
    rw [ptL_set hlt] at hset hin
    have hks := kL_snoc (nx := nxContext) (k := k) hlt
    have hrl : (nRg ctxMk (ptL mkContext nxContext k l i) ps).length = l.length := by rw [nRg_len _ (by rw [ptL_len hi]; exact hps), ptL_len hi]
    have hb := hsm _ (List.getElem_mem hlt)
    generalize ngE ctxOb (ptL mkContext nxContext k l i) ps i = E at hout hin
    generalize nOg ctxOb (ptL mkContext nxContext k l i) ps = N0 at hout ⊢
    generalize nRg ctxMk (ptL mkContext nxContext k l i) ps = rows at hrow hset hrl ⊢
    generalize kL nxContext k (l.take i) = q at hq hset hks hin ⊢
    generalize l[i] = x at hrow hset hks hout hin hb
    replace hrow : rows[i]? = some [.int .i64 x.mark, .int .i64 x.code, .int .i64 x.pc, .int .i64 x.sender, .int .i64 x.outer, .int .i64 x.home, .int .i64 x.self.kind, .int .i64 x.self.number, .str x.self.text, .ms p.1.1 p.1.2 0 x.slots.length, .ms p.2.1.1 p.2.1.2 0 x.stack.length, .ms p.2.2.1 p.2.2.2 0 x.values.length, .int .i64 x.other, .bool x.retry] := hrow
    have hr1 : (rows.set i [.int .i64 q, .int .i64 x.code, .int .i64 x.pc, .int .i64 x.sender, .int .i64 x.outer, .int .i64 x.home, .int .i64 x.self.kind, .int .i64 x.self.number, .str x.self.text, .ms p.1.1 p.1.2 0 x.slots.length, .ms p.2.1.1 p.2.1.2 0 x.stack.length, .ms p.2.2.1 p.2.2.2 0 x.values.length, .int .i64 x.other, .bool x.retry])[i]? = some [.int .i64 q, .int .i64 x.code, .int .i64 x.pc, .int .i64 x.sender, .int .i64 x.outer, .int .i64 x.home, .int .i64 x.self.kind, .int .i64 x.self.number, .str x.self.text, .ms p.1.1 p.1.2 0 x.slots.length, .ms p.2.1.1 p.2.1.2 0 x.stack.length, .ms p.2.2.1 p.2.2.2 0 x.values.length, .int .i64 x.other, .bool x.retry] := by rw [List.getElem?_set_self (by omega)]
    have hk0 : k9 q = q + 9 := by unfold k9; omega
    have hk1 := kL_in (nx := nxValue) (l := x.slots) (k := k9 q) (nxValue_in _)
    have hk2 := kL_in (nx := nxValue) (l := x.stack) (k := kL nxValue (k9 q) x.slots) (nxValue_in _)
    have hk3 := kL_in (nx := nxValue) (l := x.values) (k := kL nxValue (kL nxValue (k9 q) x.slots) x.stack) (nxValue_in _)
    have hf1 := hb.2.1.1
    have hf2 := hb.2.2.1.1
    have hf3 := hb.2.2.2.1
    have hct1 := markValueS_own hst p.1.1 p.1.2 x.slots (k9 q) hf1 (by omega)
    have hct2 := markValueS_own hst p.2.1.1 p.2.1.2 x.stack (kL nxValue (k9 q) x.slots) hf2 (by omega)
    have hct3 := markValueS_own hst p.2.2.1 p.2.2.2 x.values (kL nxValue (kL nxValue (k9 q) x.slots) x.stack) hf3 (by omega)
    rw [show k9 q = q + 1 + 1 + 1 + 1 + 1 + 1 + 1 + 1 + 1 from rfl] at hct1
    repeat' (first | refine W_ ?_ | refine e_store ?_ | ((with_reducible apply o_call); rfl; kernel_rfl; (repeat (first | exact Args.nil | ((with_reducible apply Args.cons); rfl; exact .same _))); exact hG; exact hst; exact markText_ct _ (by omega) (by omega)) | refine c_ (fun hc => ?_) (fun hc => ?_) | refine g_ (fun hg => ?_) (fun hg => ?_))
    refine ao_pick (pick_out3 hout R) ?_
    repeat' (first | refine W_ ?_ | refine e_store ?_ | ((with_reducible apply o_callM); rfl; kernel_rfl; (repeat (first | exact ArgsM.nil | ((with_reducible apply ArgsM.cons); rfl))); exact hG; exact hct1; exact .cons _ _ _ _ (.nil _); intro y hy; refine al_app1 ?_; refine al_pick (.perm (List.Perm.swap _ _ _)) ?_) | ((with_reducible apply o_callM); rfl; kernel_rfl; (repeat (first | exact ArgsM.nil | ((with_reducible apply ArgsM.cons); rfl))); exact hG; exact hct2; exact .cons _ _ _ _ (.nil _); intro y hy; refine al_app1 ?_; refine al_pick (pick_3rd _ _ _ _) ?_) | ((with_reducible apply o_callM); rfl; kernel_rfl; (repeat (first | exact ArgsM.nil | ((with_reducible apply ArgsM.cons); rfl))); exact hG; exact hct3; exact .cons _ _ _ _ (.nil _); intro y hy; refine al_app1 ?_) | refine c_ (fun hc => ?_) (fun hc => ?_) | refine g_ (fun hg => ?_) (fun hg => ?_))
    refine aq_round (i + 1) (by omega) (by omega) (.of _ (Weak.envCons rfl (Weak.envCons (lk_int rfl (by rw [hks]; rfl)) Weak.envNil)) od_ ?_)
    rw [hset]
    simp only [List.set_set]
    have hcl : ctxMk (mkContext q x) p = [.int .i64 q, .int .i64 (q + 1), .int .i64 (q + 1 + 1), .int .i64 (q + 1 + 1 + 1), .int .i64 (q + 1 + 1 + 1 + 1), .int .i64 (q + 1 + 1 + 1 + 1 + 1), .int .i64 (q + 1 + 1 + 1 + 1 + 1 + 1), .int .i64 (q + 1 + 1 + 1 + 1 + 1 + 1 + 1), .str (markB (q + 1 + 1 + 1 + 1 + 1 + 1 + 1 + 1)), .ms p.1.1 p.1.2 0 x.slots.length, .ms p.2.1.1 p.2.1.2 0 x.stack.length, .ms p.2.2.1 p.2.2.2 0 x.values.length, .int .i64 (kL nxValue (kL nxValue (kL nxValue (k9 q) x.slots) x.stack) x.values), .bool (decide ((kL nxValue (kL nxValue (kL nxValue (k9 q) x.slots) x.stack) x.values + 1).tmod 3 = 0))] := by
      unfold ctxMk mkContext
      dsimp only
      rw [mkL_len, mkL_len, mkL_len]
    rw [hcl]
    exact pick_in3 hin R
  · obtain rfl : i = l.length := by omega
    rw [ptL_full, List.take_length]
    repeat' (first | refine W_ ?_ | refine c_ (fun hc => ?_) (fun hc => ?_) | refine g_ (fun hg => ?_) (fun hg => ?_))
    exact aq_retm1 x_ rfl () trivial rfl (.cons _ _ _ _ (.app _ R)) (.refl _) (.tmp _ _ rfl) rfl
end
end Go.Proofs.YtiihihgjiklnoaaGreatDoor
