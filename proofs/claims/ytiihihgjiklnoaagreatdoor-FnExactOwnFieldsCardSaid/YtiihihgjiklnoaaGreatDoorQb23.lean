/- Part 23 of the proof: the texts NiA, NiB, NiM, NiS, NiH. -/
import Derived.Test.YtiihihgjiklnoaaGreatDoorQb10
import Derived.Test.YtiihihgjiklnoaaGreatDoorQb14
import Derived.Test.YtiihihgjiklnoaaGreatDoorQb19
/- Nested memory that the call owns: the laws' copies of an image. Written by gen_ni.py. -/
namespace Go.Proofs.YtiihihgjiklnoaaGreatDoor
set_option maxRecDepth 20000
open Go Go.RowKit
def nRg {α β : Type} (mk : α → β → List TV) (l : List α) (ps : List β) : List (List TV) := List.zipWith mk l ps
def nOg {α β : Type} (ob : α → β → aI) (l : List α) (ps : List β) : aI := (List.zipWith ob l ps).flatten
theorem tW {α β : Type} (mk : α → β → List TV) {l : List α} {ps : List β} (h : ps.length = l.length) : (nRg mk l ps).length = l.length := by simp [nRg, h]
theorem uV {α β : Type} (ob : α → β → aI) {l : List α} {ps : List β} {i : Nat} (h : i < l.length) (hp : ps.length = i) (p : β) : nOg ob (l.take (i + 1)) (ps ++ [p]) = nOg ob (l.take i) ps ++ ob l[i] p := by
  unfold nOg
  rw [dV h, List.zipWith_append (by simp; omega)]; simp
theorem xS {α β : Type} (mk : α → β → List TV) (z : List TV) {l : List α} {ps : List β} {i : Nat} (h : i < l.length) (hp : ps.length = i) (p : β) :
    (nRg mk (l.take i) ps ++ List.replicate (l.length - i) z)[i]? = some z ∧ (nRg mk (l.take i) ps ++ List.replicate (l.length - i) z).set i (mk l[i] p) = nRg mk (l.take (i + 1)) (ps ++ [p]) ++ List.replicate (l.length - (i + 1)) z := by
  have hl : (nRg mk (l.take i) ps).length = i := by simp [nRg]; omega
  have e : l.length - i = (l.length - (i + 1)) + 1 := by omega
  refine ⟨?_, ?_⟩
  · rw [List.getElem?_append_right (by omega), hl, Nat.sub_self, e, List.replicate_succ]; rfl
  · rw [List.set_append_right _ _ (by omega), hl, Nat.sub_self, e, List.replicate_succ, List.set_cons_zero]
    unfold nRg
    rw [dV h, List.zipWith_append (by simp; omega), List.append_assoc]; rfl
theorem oq (a : Nat × Nat × bu) (z T R : aI) : dg (a :: ((T ++ z) ++ R)) (a :: (z ++ (T ++ R))) := .perm (by
  have h : ((T ++ z) ++ R).Perm (z ++ (T ++ R)) := by
    rw [← List.append_assoc]
    exact List.perm_append_comm.append_right R
  exact h.cons a)
theorem rv (a : Nat × Nat × bu) (z R : aI) : dg (a :: (z ++ R)) (z ++ (a :: R)) := .perm List.perm_middle.symm
def Pl : Type := Nat × Nat
def gN (x : au) (p : Pl × Pl) : List TV := [.int .i64 x.kind, .int .i64 x.class_, .ms p.1.1 p.1.2 0 x.fields.length, .ms p.2.1 p.2.2 0 x.numbers.length]
def jG (x : au) (p : Pl × Pl) : aI := [(p.1.1, p.1.2, .row 3 (x.fields.map (ae.tw 0))), (p.2.1, p.2.2, .row 1 (aO x.numbers))]
def gO (x : am) (p : Pl × Pl × Pl) : List TV := [.int .i64 x.mark, .int .i64 x.code, .int .i64 x.pc, .int .i64 x.sender, .int .i64 x.outer, .int .i64 x.home, .int .i64 x.self.kind, .int .i64 x.self.number, .str x.self.text, .ms p.1.1 p.1.2 0 x.slots.length, .ms p.2.1.1 p.2.1.2 0 x.stack.length, .ms p.2.2.1 p.2.2.2 0 x.values.length, .int .i64 x.other, .bool x.retry]
def jH (x : am) (p : Pl × Pl × Pl) : aI := [(p.1.1, p.1.2, .row 3 (x.slots.map (ae.tw 0))), (p.2.1.1, p.2.1.2, .row 3 (x.stack.map (ae.tw 0))), (p.2.2.1, p.2.2.2, .row 3 (x.values.map (ae.tw 0)))]
def acf (l : List au) (y : Pl × List (Pl × Pl)) : aI := (y.1.1, y.1.2, .row 4 (nRg gN l y.2)) :: nOg jG l y.2
def abb (l : List am) (y : Pl × List (Pl × Pl × Pl)) : aI := (y.1.1, y.1.2, .row 14 (nRg gO l y.2)) :: nOg jH l y.2
def StP : Type := ((Nat × Nat) × List (Nat × Nat)) × (Pl × List (Pl × Pl)) × Pl
def stO (x : aM) (y : StP) : aI := aaS x.classes y.1 ++ (acf x.objects y.2.1 ++ [(y.2.2.1, y.2.2.2, .row 1 (bE x.output))])
def stC (x : aM) (y : StP) : List TV := [.ms y.1.1.1 y.1.1.2 0 x.classes.length, .ms y.2.1.1.1 y.2.1.1.2 0 x.objects.length, .ms y.2.2.1 y.2.2.2 0 x.output.length, .int .i64 x.ticks, .int .i64 x.budget, .int .i64 x.made]
def stI (x : aM) (y : StP) : Prop := y.1.2.length = x.classes.length ∧ y.2.1.2.length = x.objects.length
def rI : Type := CbP × StP × Pl × (Pl × List (Pl × Pl × Pl)) × Pl × Pl
def imO (x : ak) (y : rI) : aI := cbO x.base y.1 ++ (stO x.store y.2.1 ++ ([(y.2.2.1.1, y.2.2.1.2, .row 6 (x.blocks.map (ap.tw 0)))] ++ (abb x.contexts y.2.2.2.1 ++ ([(y.2.2.2.2.1.1, y.2.2.2.2.1.2, .row 2 (x.processes.map (ar.tw 0)))] ++ [(y.2.2.2.2.2.1, y.2.2.2.2.2.2, .row 1 (aO x.ready))]))))
def imC (x : ak) (y : rI) : List TV := [.ms y.1.1.1.1 y.1.1.1.2 0 x.base.classes.length, .ms y.1.2.1.1.1 y.1.2.1.1.2 0 x.base.codes.length, .ms y.1.2.2.1 y.1.2.2.2 0 x.base.entries.length, .int .i64 x.base.main,
  .ms y.2.1.1.1.1 y.2.1.1.1.2 0 x.store.classes.length, .ms y.2.1.2.1.1.1 y.2.1.2.1.1.2 0 x.store.objects.length, .ms y.2.1.2.2.1 y.2.1.2.2.2 0 x.store.output.length, .int .i64 x.store.ticks, .int .i64 x.store.budget, .int .i64 x.store.made,
  .ms y.2.2.1.1 y.2.2.1.2 0 x.blocks.length, .ms y.2.2.2.1.1.1 y.2.2.2.1.1.2 0 x.contexts.length, .ms y.2.2.2.2.1.1 y.2.2.2.2.1.2 0 x.processes.length, .ms y.2.2.2.2.2.1 y.2.2.2.2.2.2 0 x.ready.length, .int .i64 x.now, .int .i64 x.status, .int .i64 x.value.kind, .int .i64 x.value.number, .str x.value.text, .str x.fault]
def imI (x : ak) (y : rI) : Prop := cbI x.base y.1 ∧ stI x.store y.2.1 ∧ y.2.2.2.1.2.length = x.contexts.length
section
variable {G : World → Prop}
theorem om (_hst : az G) (lo : Nat) (l : List Int) (hn : l.length ≤ 1048576) : CtM Tryz.prog G 90 [.sl lo 1 (aO l)] [] (fun _ : Nat × Nat => True) (fun y => [(y.1, y.2, .row 1 (aO l))]) (fun y => .ms y.1 y.2 0 l.length) := by
  refine aC Tryz.func90 rfl Tryz.ntmps90 rfl rfl rfl fun w0 R gs objsR hG hR => ?_
  obtain rfl := hR.inv0
  clear hR
  have hlen := aq l
  have h0 := bC (fun n : Int => [TV.int .i64 n]) [.int .i64 0] l
  repeat' (first | refine W_ ?_ | (refine de ?_; intro ss bb) | refine c_ (fun hc => ?_) (fun hc => ?_) | refine g_ (fun hg => ?_) (fun hg => ?_))
  generalize ss = so; generalize bb = bo
  apply aj (X := Nat) [0, 3, 1000000] (fun i => [(4, .int .i64 (i : Int))]) (fun i => (so, bo, .row 1 (cI (fun n : Int => [TV.int .i64 n]) [.int .i64 0] l i)) :: R) (fun i => i ≤ l.length) (fun i => l.length - i) 0 (Nat.zero_le _)
  exact kp_; exact nw_
  · rw [← h0]; exact .refl _
  intro i hi
  try dsimp only
  by_cases hlt : i < l.length
  · obtain ⟨hrow, hset⟩ := bQ (fun n : Int => [TV.int .i64 n]) [.int .i64 0] hlt
    have hra : (aO l)[i]? = some [.int .i64 l[i]] := aH hlt
    generalize l[i] = x at hset hra
    try dsimp only at hset
    repeat' (first | refine W_ ?_ | refine a6 ?_ | refine c_ (fun hc => ?_) (fun hc => ?_) | refine g_ (fun hg => ?_) (fun hg => ?_))
    refine ah (i + 1) (by omega) (by omega) (.of _ nw_ od_ (by rw [← hset]; exact .refl _))
  · obtain rfl : i = l.length := by omega
    rw [bB]
    repeat' (first | refine W_ ?_ | refine c_ (fun hc => ?_) (fun hc => ?_) | refine g_ (fun hg => ?_) (fun hg => ?_))
    exact av x_ rfl (so, bo) trivial rfl (.cons _ _ _ _ (.nil R)) pk_ (.tmp _ _ rfl) rfl
theorem fD (hst : az G) (lo : Nat) (l : List ae) (hb : l.length ≤ 1048576 ∧ ∀ y ∈ l, ae.small 1048576 y) : CtM Tryz.prog G 238 [.sl lo 3 (l.map (ae.tw lo))] [] (fun _ : Nat × Nat => True) (fun y => [(y.1, y.2, .row 3 (l.map (ae.tw 0)))]) (fun y => .ms y.1 y.2 0 l.length) := by
  refine aC Tryz.func238 rfl Tryz.ntmps238 rfl rfl rfl fun w0 R gs objsR hG hR => ?_
  obtain rfl := hR.inv0
  clear hR
  have hlen := ae.len lo l
  have hl1 := hb.1
  have h0 := bC (ae.tw 0) ae.tz l
  repeat' (first | refine W_ ?_ | (refine de ?_; intro ss bb) | refine c_ (fun hc => ?_) (fun hc => ?_) | refine g_ (fun hg => ?_) (fun hg => ?_))
  generalize ss = so; generalize bb = bo
  apply aj (X := Nat) [0, 3, 1000000] (fun i => [(4, .int .i64 (i : Int))]) (fun i => (so, bo, .row 3 (cI (ae.tw 0) ae.tz l i)) :: R) (fun i => i ≤ l.length) (fun i => l.length - i) 0 (Nat.zero_le _)
  exact kp_; exact nw_
  · rw [← h0]; exact .refl _
  intro i hi
  try dsimp only
  by_cases hlt : i < l.length
  · obtain ⟨hrow, hset⟩ := bQ (ae.tw 0) ae.tz hlt
    have hra : (l.map (ae.tw lo))[i]? = some (l[i].tw lo) := aH hlt
    have hbi := hb.2 _ (List.getElem_mem hlt)
    generalize l[i] = x at hset hra hbi
    have hct := ek hst lo x hbi
    unfold ae.tw at hct
    rw [show x.tw lo = [.int .i64 x.kind, .int .i64 x.number, .str x.text] from rfl] at hra
    replace hrow : (cI (ae.tw 0) ae.tz l i)[i]? = some [.int .i64 0, .int .i64 0, .str ⟨#[]⟩] := hrow
    repeat' (first | refine W_ ?_ | refine ab hG hst (hct) ?_ | refine a6 ?_ | refine c_ (fun hc => ?_) (fun hc => ?_) | refine g_ (fun hg => ?_) (fun hg => ?_))
    refine ah (i + 1) (by omega) (by omega) (.of _ nw_ od_ (by rw [← hset]; exact .refl _))
  · obtain rfl : i = l.length := by omega
    rw [bB]
    repeat' (first | refine W_ ?_ | refine c_ (fun hc => ?_) (fun hc => ?_) | refine g_ (fun hg => ?_) (fun hg => ?_))
    exact av x_ rfl (so, bo) trivial rfl (.cons _ _ _ _ (.nil R)) pk_ (.tmp _ _ rfl) rfl
theorem nX (hst : az G) (lo : Nat) (l : List ap) (hb : l.length ≤ 1048576 ∧ ∀ y ∈ l, ap.small 1048576 y) : CtM Tryz.prog G 87 [.sl lo 6 (l.map (ap.tw lo))] [] (fun _ : Nat × Nat => True) (fun y => [(y.1, y.2, .row 6 (l.map (ap.tw 0)))]) (fun y => .ms y.1 y.2 0 l.length) := by
  refine aC Tryz.func87 rfl Tryz.ntmps87 rfl rfl rfl fun w0 R gs objsR hG hR => ?_
  obtain rfl := hR.inv0
  clear hR
  have hlen := ap.len lo l
  have hl1 := hb.1
  have h0 := bC (ap.tw 0) ap.tz l
  repeat' (first | refine W_ ?_ | (refine de ?_; intro ss bb) | refine c_ (fun hc => ?_) (fun hc => ?_) | refine g_ (fun hg => ?_) (fun hg => ?_))
  generalize ss = so; generalize bb = bo
  apply aj (X := Nat) [0, 3, 1000000] (fun i => [(4, .int .i64 (i : Int))]) (fun i => (so, bo, .row 6 (cI (ap.tw 0) ap.tz l i)) :: R) (fun i => i ≤ l.length) (fun i => l.length - i) 0 (Nat.zero_le _)
  exact kp_; exact nw_
  · rw [← h0]; exact .refl _
  intro i hi
  try dsimp only
  by_cases hlt : i < l.length
  · obtain ⟨hrow, hset⟩ := bQ (ap.tw 0) ap.tz hlt
    have hra : (l.map (ap.tw lo))[i]? = some (l[i].tw lo) := aH hlt
    have hbi := hb.2 _ (List.getElem_mem hlt)
    generalize l[i] = x at hset hra hbi
    have hct := kZ hst lo x hbi
    unfold ap.tw at hct
    rw [show x.tw lo = [.int .i64 x.code, .int .i64 x.outer, .int .i64 x.home, .int .i64 x.self.kind, .int .i64 x.self.number, .str x.self.text] from rfl] at hra
    replace hrow : (cI (ap.tw 0) ap.tz l i)[i]? = some [.int .i64 0, .int .i64 0, .int .i64 0, .int .i64 0, .int .i64 0, .str ⟨#[]⟩] := hrow
    repeat' (first | refine W_ ?_ | refine ab hG hst (hct) ?_ | refine a6 ?_ | refine c_ (fun hc => ?_) (fun hc => ?_) | refine g_ (fun hg => ?_) (fun hg => ?_))
    refine ah (i + 1) (by omega) (by omega) (.of _ nw_ od_ (by rw [← hset]; exact .refl _))
  · obtain rfl : i = l.length := by omega
    rw [bB]
    repeat' (first | refine W_ ?_ | refine c_ (fun hc => ?_) (fun hc => ?_) | refine g_ (fun hg => ?_) (fun hg => ?_))
    exact av x_ rfl (so, bo) trivial rfl (.cons _ _ _ _ (.nil R)) pk_ (.tmp _ _ rfl) rfl
theorem nD (hst : az G) (lo : Nat) (l : List ar) (hb : l.length ≤ 1048576 ∧ ∀ y ∈ l, ar.small 1048576 y) : CtM Tryz.prog G 89 [.sl lo 2 (l.map (ar.tw lo))] [] (fun _ : Nat × Nat => True) (fun y => [(y.1, y.2, .row 2 (l.map (ar.tw 0)))]) (fun y => .ms y.1 y.2 0 l.length) := by
  refine aC Tryz.func89 rfl Tryz.ntmps89 rfl rfl rfl fun w0 R gs objsR hG hR => ?_
  obtain rfl := hR.inv0
  clear hR
  have hlen := ar.len lo l
  have hl1 := hb.1
  have h0 := bC (ar.tw 0) ar.tz l
  repeat' (first | refine W_ ?_ | (refine de ?_; intro ss bb) | refine c_ (fun hc => ?_) (fun hc => ?_) | refine g_ (fun hg => ?_) (fun hg => ?_))
  generalize ss = so; generalize bb = bo
  apply aj (X := Nat) [0, 3, 1000000] (fun i => [(4, .int .i64 (i : Int))]) (fun i => (so, bo, .row 2 (cI (ar.tw 0) ar.tz l i)) :: R) (fun i => i ≤ l.length) (fun i => l.length - i) 0 (Nat.zero_le _)
  exact kp_; exact nw_
  · rw [← h0]; exact .refl _
  intro i hi
  try dsimp only
  by_cases hlt : i < l.length
  · obtain ⟨hrow, hset⟩ := bQ (ar.tw 0) ar.tz hlt
    have hra : (l.map (ar.tw lo))[i]? = some (l[i].tw lo) := aH hlt
    have hbi := hb.2 _ (List.getElem_mem hlt)
    generalize l[i] = x at hset hra hbi
    have hct := kN hst lo x hbi
    unfold ar.tw at hct
    rw [show x.tw lo = [.int .i64 x.at_, .bool x.main] from rfl] at hra
    replace hrow : (cI (ar.tw 0) ar.tz l i)[i]? = some [.int .i64 0, .bool false] := hrow
    repeat' (first | refine W_ ?_ | refine ab hG hst (hct) ?_ | refine a6 ?_ | refine c_ (fun hc => ?_) (fun hc => ?_) | refine g_ (fun hg => ?_) (fun hg => ?_))
    refine ah (i + 1) (by omega) (by omega) (.of _ nw_ od_ (by rw [← hset]; exact .refl _))
  · obtain rfl : i = l.length := by omega
    rw [bB]
    repeat' (first | refine W_ ?_ | refine c_ (fun hc => ?_) (fun hc => ?_) | refine g_ (fun hg => ?_) (fun hg => ?_))
    exact av x_ rfl (so, bo) trivial rfl (.cons _ _ _ _ (.nil R)) pk_ (.tmp _ _ rfl) rfl
theorem rq (hst : az G) (lo : Nat) (x : au) (hb : x.small 1048576) : CtM Tryz.prog G 237 [.agg [.int .i64 x.kind, .int .i64 x.class_, .sl lo 3 (x.fields.map (ae.tw lo)), .sl lo 1 (aO x.numbers)]] [] (fun _ : Pl × Pl => True) (fun y => jG x y) (fun y => .agg (gN x y)) := by
  refine aC Tryz.func237 rfl Tryz.ntmps237 rfl rfl rfl fun w0 R gs objsR hG hR => ?_
  obtain rfl := hR.inv0
  clear hR
  have h1 := fD hst lo x.fields hb.1
  have h2 := om hst lo x.numbers hb.2
  unfold jG gN
  repeat' (first | refine W_ ?_ | refine aE ?_ | (refine ai ?_; intro ss bb) | refine ad ?_ | ((with_reducible apply aF); rfl; kernel_rfl; (repeat (first | exact aD.nil | ((with_reducible apply aD.cons); rfl))); exact hG; exact h1; exact .nil _; intro y1 hy1; refine br ?_) | ((with_reducible apply aF); rfl; kernel_rfl; (repeat (first | exact aD.nil | ((with_reducible apply aD.cons); rfl))); exact hG; exact h2; exact .nil _; intro y2 hy2; refine br ?_) | refine c_ (fun hc => ?_) (fun hc => ?_) | refine g_ (fun hg => ?_) (fun hg => ?_))
  refine av x_ rfl (y1, y2) trivial rfl (.cons _ _ _ _ (.cons _ _ _ _ (.nil R))) pk_ (.cell _ _ _ _ _ rfl mm_ (by kernel_rfl) (by kernel_rfl) (by kernel_rfl)) rfl
theorem qa (hst : az G) (lo : Nat) (l : List au) (hb : l.length ≤ 1048576 ∧ ∀ y ∈ l, au.small 1048576 y) : CtM Tryz.prog G 173 [.sl lo 4 (l.map (au.tw lo))] [] (fun y : Pl × List (Pl × Pl) => y.2.length = l.length) (fun y => acf l y) (fun y => .ms y.1.1 y.1.2 0 l.length) := by
  refine aC Tryz.func173 rfl Tryz.ntmps173 rfl rfl rfl fun w0 R gs objsR hG hR => ?_
  obtain rfl := hR.inv0
  clear hR
  have hlen := au.len lo l
  have hl1 := hb.1
  have h0 : List.replicate l.length au.tz = nRg gN (l.take 0) [] ++ List.replicate (l.length - 0) au.tz := by simp [nRg]
  repeat' (first | refine W_ ?_ | (refine de ?_; intro ss bb) | refine c_ (fun hc => ?_) (fun hc => ?_) | refine g_ (fun hg => ?_) (fun hg => ?_))
  generalize ss = so; generalize bb = bo
  apply aj (X := Nat × List (Pl × Pl)) [0, 3, 1000000] (fun x => [(4, .int .i64 (x.1 : Int))]) (fun x => (so, bo, .row 4 (nRg gN (l.take x.1) x.2 ++ List.replicate (l.length - x.1) au.tz)) :: (nOg jG (l.take x.1) x.2 ++ R)) (fun x => x.1 ≤ l.length ∧ x.2.length = x.1) (fun x => l.length - x.1) (0, []) ⟨Nat.zero_le _, rfl⟩
  exact kp_; exact nw_
  · rw [← h0]; exact .refl _
  rintro ⟨i, ps⟩ ⟨hi, hps⟩
  dsimp only at hi hps ⊢
  by_cases hlt : i < l.length
  · have hrs := fun p => xS gN au.tz hlt hps p
    have hos := fun p => uV jG hlt hps p
    have hra : (l.map (au.tw lo))[i]? = some (l[i].tw lo) := aH hlt
    have hbi := hb.2 _ (List.getElem_mem hlt)
    generalize l[i] = x at hrs hos hra hbi
    have hct := rq hst lo x hbi
    rw [show x.tw lo = [.int .i64 x.kind, .int .i64 x.class_, .sl lo 3 (x.fields.map (ae.tw lo)), .sl lo 1 (aO x.numbers)] from rfl] at hra
    have hrow : (nRg gN (l.take i) ps ++ List.replicate (l.length - i) au.tz)[i]? = some [.int .i64 0, .int .i64 0, .nils, .nils] := (hrs ((0, 0), (0, 0))).1
    generalize nOg jG (l.take i) ps = T at hos ⊢
    unfold gN at hct
    repeat' (first | refine W_ ?_ | ((with_reducible apply aF); rfl; kernel_rfl; (repeat (first | exact aD.nil | ((with_reducible apply aD.cons); rfl))); exact hG; exact hct; exact .nil _; intro y hy; refine cP (rv _ _ _) ?_) | refine a6 ?_ | refine c_ (fun hc => ?_) (fun hc => ?_) | refine g_ (fun hg => ?_) (fun hg => ?_))
    refine ah (i + 1, ps ++ [y]) ⟨by dsimp only; omega, by dsimp only; simp [hps]⟩ (by dsimp only; omega) (.of _ nw_ od_ ?_)
    dsimp only
    rw [hos y, ← (hrs y).2]
    exact oq _ _ T R
  · obtain rfl : i = l.length := by omega
    rw [List.take_of_length_le (Nat.le_refl _), Nat.sub_self, List.replicate_zero, List.append_nil]
    repeat' (first | refine W_ ?_ | refine c_ (fun hc => ?_) (fun hc => ?_) | refine g_ (fun hg => ?_) (fun hg => ?_))
    exact av x_ rfl ((so, bo), ps) hps rfl (.cons _ _ _ _ (.app _ R)) (.refl _) (.tmp _ _ rfl) rfl
theorem pF (hst : az G) (lo : Nat) (x : am) (hb : x.small 1048576) : CtM Tryz.prog G 176 [.agg [.int .i64 x.mark, .int .i64 x.code, .int .i64 x.pc, .int .i64 x.sender, .int .i64 x.outer, .int .i64 x.home, .int .i64 x.self.kind, .int .i64 x.self.number, .str x.self.text, .sl lo 3 (x.slots.map (ae.tw lo)), .sl lo 3 (x.stack.map (ae.tw lo)), .sl lo 3 (x.values.map (ae.tw lo)), .int .i64 x.other, .bool x.retry]] [] (fun _ : Pl × Pl × Pl => True) (fun y => jH x y) (fun y => .agg (gO x y)) := by
  refine aC Tryz.func176 rfl Tryz.ntmps176 rfl rfl rfl fun w0 R gs objsR hG hR => ?_
  obtain rfl := hR.inv0
  clear hR
  have h1 := fD hst lo x.slots hb.2.1
  have h2 := fD hst lo x.stack hb.2.2.1
  have h3 := fD hst lo x.values hb.2.2.2
  have hvc := ek hst lo x.self hb.1
  unfold ae.tw at hvc
  unfold jH gO
  repeat' (first | refine W_ ?_ | refine aE ?_ | (refine ai ?_; intro ss bb) | refine ad ?_ | refine ab hG hst (hvc) ?_ | ((with_reducible apply aF); rfl; kernel_rfl; (repeat (first | exact aD.nil | ((with_reducible apply aD.cons); rfl))); exact hG; exact h1; exact .nil _; intro y1 hy1; refine br ?_) | ((with_reducible apply aF); rfl; kernel_rfl; (repeat (first | exact aD.nil | ((with_reducible apply aD.cons); rfl))); exact hG; exact h2; exact .nil _; intro y2 hy2; refine br ?_) | ((with_reducible apply aF); rfl; kernel_rfl; (repeat (first | exact aD.nil | ((with_reducible apply aD.cons); rfl))); exact hG; exact h3; exact .nil _; intro y3 hy3; refine br ?_) | refine c_ (fun hc => ?_) (fun hc => ?_) | refine g_ (fun hg => ?_) (fun hg => ?_))
  refine av x_ rfl (y1, y2, y3) trivial rfl (.cons _ _ _ _ (.cons _ _ _ _ (.cons _ _ _ _ (.nil R)))) pk_ (.cell _ _ _ _ _ rfl mm_ (by kernel_rfl) (by kernel_rfl) (by kernel_rfl)) rfl
theorem nZ (hst : az G) (lo : Nat) (l : List am) (hb : l.length ≤ 1048576 ∧ ∀ y ∈ l, am.small 1048576 y) : CtM Tryz.prog G 88 [.sl lo 14 (l.map (am.tw lo))] [] (fun y : Pl × List (Pl × Pl × Pl) => y.2.length = l.length) (fun y => abb l y) (fun y => .ms y.1.1 y.1.2 0 l.length) := by
  refine aC Tryz.func88 rfl Tryz.ntmps88 rfl rfl rfl fun w0 R gs objsR hG hR => ?_
  obtain rfl := hR.inv0
  clear hR
  have hlen := am.len lo l
  have hl1 := hb.1
  have h0 : List.replicate l.length am.tz = nRg gO (l.take 0) [] ++ List.replicate (l.length - 0) am.tz := by simp [nRg]
  repeat' (first | refine W_ ?_ | (refine de ?_; intro ss bb) | refine c_ (fun hc => ?_) (fun hc => ?_) | refine g_ (fun hg => ?_) (fun hg => ?_))
  generalize ss = so; generalize bb = bo
  apply aj (X := Nat × List (Pl × Pl × Pl)) [0, 3, 1000000] (fun x => [(4, .int .i64 (x.1 : Int))]) (fun x => (so, bo, .row 14 (nRg gO (l.take x.1) x.2 ++ List.replicate (l.length - x.1) am.tz)) :: (nOg jH (l.take x.1) x.2 ++ R)) (fun x => x.1 ≤ l.length ∧ x.2.length = x.1) (fun x => l.length - x.1) (0, []) ⟨Nat.zero_le _, rfl⟩
  exact kp_; exact nw_
  · rw [← h0]; exact .refl _
  rintro ⟨i, ps⟩ ⟨hi, hps⟩
  dsimp only at hi hps ⊢
  by_cases hlt : i < l.length
  · have hrs := fun p => xS gO am.tz hlt hps p
    have hos := fun p => uV jH hlt hps p
    have hra : (l.map (am.tw lo))[i]? = some (l[i].tw lo) := aH hlt
    have hbi := hb.2 _ (List.getElem_mem hlt)
    generalize l[i] = x at hrs hos hra hbi
    have hct := pF hst lo x hbi
    rw [show x.tw lo = [.int .i64 x.mark, .int .i64 x.code, .int .i64 x.pc, .int .i64 x.sender, .int .i64 x.outer, .int .i64 x.home, .int .i64 x.self.kind, .int .i64 x.self.number, .str x.self.text, .sl lo 3 (x.slots.map (ae.tw lo)), .sl lo 3 (x.stack.map (ae.tw lo)), .sl lo 3 (x.values.map (ae.tw lo)), .int .i64 x.other, .bool x.retry] from rfl] at hra
    have hrow : (nRg gO (l.take i) ps ++ List.replicate (l.length - i) am.tz)[i]? = some [.int .i64 0, .int .i64 0, .int .i64 0, .int .i64 0, .int .i64 0, .int .i64 0, .int .i64 0, .int .i64 0, .str ⟨#[]⟩, .nils, .nils, .nils, .int .i64 0, .bool false] := (hrs ((0, 0), (0, 0), (0, 0))).1
    generalize nOg jH (l.take i) ps = T at hos ⊢
    unfold gO at hct
    repeat' (first | refine W_ ?_ | ((with_reducible apply aF); rfl; kernel_rfl; (repeat (first | exact aD.nil | ((with_reducible apply aD.cons); rfl))); exact hG; exact hct; exact .nil _; intro y hy; refine cP (rv _ _ _) ?_) | refine a6 ?_ | refine c_ (fun hc => ?_) (fun hc => ?_) | refine g_ (fun hg => ?_) (fun hg => ?_))
    refine ah (i + 1, ps ++ [y]) ⟨by dsimp only; omega, by dsimp only; simp [hps]⟩ (by dsimp only; omega) (.of _ nw_ od_ ?_)
    dsimp only
    rw [hos y, ← (hrs y).2]
    exact oq _ _ T R
  · obtain rfl : i = l.length := by omega
    rw [List.take_of_length_le (Nat.le_refl _), Nat.sub_self, List.replicate_zero, List.append_nil]
    repeat' (first | refine W_ ?_ | refine c_ (fun hc => ?_) (fun hc => ?_) | refine g_ (fun hg => ?_) (fun hg => ?_))
    exact av x_ rfl ((so, bo), ps) hps rfl (.cons _ _ _ _ (.app _ R)) (.refl _) (.tmp _ _ rfl) rfl
end
set_option maxRecDepth 20000
theorem m6 (A L R : aI) : ((A ++ L) ++ R).Perm (L ++ (A ++ R)) := by
  rw [List.append_assoc]
  exact List.perm_append_comm_assoc A L R
theorem zJ (A B C D E F R : aI) : ((A ++ (B ++ (C ++ (D ++ (E ++ F))))) ++ R).Perm (F ++ (E ++ (D ++ (C ++ (B ++ (A ++ R)))))) :=
  (m6 A _ R).trans ((m6 B _ _).trans ((m6 C _ _).trans ((m6 D _ _).trans (m6 E _ _))))
section
variable {G : World → Prop}
theorem sM (hst : az G) (lo : Nat) (x : aM) (hb : x.small 1048576) : CtM Tryz.prog G 86 [.agg (x.tw lo)] [] (stI x) (stO x) (fun y => .agg (stC x y)) := by
  refine aC Tryz.func86 rfl Tryz.ntmps86 rfl rfl rfl fun w0 R gs objsR hG hR => ?_
  obtain rfl := hR.inv0
  clear hR
  have c1 := gK hst lo x.classes hb.1
  have c2 := qa hst lo x.objects hb.2.1
  have c3 := jS hst lo x.output hb.2.2.1
  unfold aM.tw
  repeat' (first | refine W_ ?_ | refine aE ?_ | (refine ai ?_; intro ss bb) | refine ad ?_ | ((with_reducible apply aF); rfl; kernel_rfl; (repeat (first | exact aD.nil | ((with_reducible apply aD.cons); rfl))); exact hG; (first | exact c1 | exact c2 | exact c3); exact .nil _; intro y hy; refine cP (io _ _ _ _) ?_) | refine c_ (fun hc => ?_) (fun hc => ?_) | refine g_ (fun hg => ?_) (fun hg => ?_))
  rename_i yc hyc yd hyd
  refine av (t1 := .agg [.ms yc.1.1 yc.1.2 0 x.classes.length, .ms yd.1.1 yd.1.2 0 x.objects.length, .ms y.1 y.2 0 x.output.length, .int .i64 x.ticks, .int .i64 x.budget, .int .i64 x.made]) x_ rfl (yc, yd, y) ⟨hyc, hyd⟩ rfl (.app _ R) (.drop (.drop (.perm (uw _ _ _ R)))) (.cell _ _ _ _ _ rfl mm_ (by kernel_rfl) (by kernel_rfl) (by kernel_rfl)) rfl
theorem nt (hst : az G) (lo : Nat) (x : ak) (hb : x.small 1048576) : CtM Tryz.prog G 23 [.agg (x.tw lo)] [] (imI x) (imO x) (fun y => .agg (imC x y)) := by
  refine aC Tryz.func23 rfl Tryz.ntmps23 rfl rfl rfl fun w0 R gs objsR hG hR => ?_
  obtain rfl := hR.inv0
  clear hR
  have c1 := nI hst lo x.base hb.1
  have c2 := sM hst lo x.store hb.2.1
  have c3 := nX hst lo x.blocks hb.2.2.1
  have c4 := nZ hst lo x.contexts hb.2.2.2.1
  have c5 := nD hst lo x.processes hb.2.2.2.2.1
  have c6 := om hst lo x.ready hb.2.2.2.2.2.1
  have c7 := ek hst lo x.value hb.2.2.2.2.2.2.1
  unfold aA.tw cbC at c1
  unfold aM.tw stC at c2
  unfold ae.tw at c7
  unfold ak.tw
  repeat' (first | refine W_ ?_ | refine aE ?_ | (refine ai ?_; intro ss bb) | refine ad ?_ | refine ab hG hst (c7) ?_ | ((with_reducible apply aF); rfl; kernel_rfl; (repeat (first | exact aD.nil | ((with_reducible apply aD.cons); rfl))); exact hG; (first | exact c1 | exact c2 | exact c3 | exact c4 | exact c5 | exact c6); exact .nil _; intro y hy; refine cP (io _ _ _ _) ?_) | refine c_ (fun hc => ?_) (fun hc => ?_) | refine g_ (fun hg => ?_) (fun hg => ?_))
  rename_i y1 h1 y2 h2 y3 h3 y4 h4 y5 h5
  refine av (t1 := .agg [.ms y1.1.1.1 y1.1.1.2 0 x.base.classes.length, .ms y1.2.1.1.1 y1.2.1.1.2 0 x.base.codes.length, .ms y1.2.2.1 y1.2.2.2 0 x.base.entries.length, .int .i64 x.base.main, .ms y2.1.1.1 y2.1.1.2 0 x.store.classes.length, .ms y2.2.1.1.1 y2.2.1.1.2 0 x.store.objects.length, .ms y2.2.2.1 y2.2.2.2 0 x.store.output.length, .int .i64 x.store.ticks, .int .i64 x.store.budget, .int .i64 x.store.made, .ms y3.1 y3.2 0 x.blocks.length, .ms y4.1.1 y4.1.2 0 x.contexts.length, .ms y5.1 y5.2 0 x.processes.length, .ms y.1 y.2 0 x.ready.length, .int .i64 x.now, .int .i64 x.status, .int .i64 x.value.kind, .int .i64 x.value.number, .str x.value.text, .str x.fault]) x_ rfl (y1, y2, y3, y4, y5, y) ⟨h1, h2, h4⟩ rfl (.app _ R) (.drop (.drop (.perm (zJ _ _ _ _ _ _ R)))) (.cell _ _ _ _ _ rfl mm_ (by kernel_rfl) (by kernel_rfl) (by kernel_rfl)) rfl
end
set_option maxRecDepth 20000
theorem xZ {α β : Type} (mk : α → β → List TV) {l : List α} {ps : List β} {i : Nat} {p : β} {x : α} (hx : l[i]? = some x) (hp : ps[i]? = some p) : (nRg mk l ps)[i]? = some (mk x p) := by
  unfold nRg
  rw [List.getElem?_zipWith, hx, hp]
theorem xl {α β : Type} (mk : α → β → List TV) {l : List α} {ps : List β} {i : Nat} {p : β} {x : α} (hp : ps[i]? = some p) : nRg mk (l.set i x) ps = (nRg mk l ps).set i (mk x p) := my mk hp
theorem mj {a b : List aI} (h : a.Perm b) : a.flatten.Perm b.flatten := by
  induction h with
  | nil => exact .refl _
  | cons x _ ih => exact ih.append_left x
  | swap x y l => exact List.perm_append_comm_assoc y x l.flatten
  | trans _ _ h1 h2 => exact h1.trans h2
def ngE {α β : Type} (ob : α → β → aI) (l : List α) (ps : List β) (i : Nat) : aI := ((List.zipWith ob l ps).eraseIdx i).flatten
theorem tr {α β : Type} (ob : α → β → aI) {l : List α} {ps : List β} {i : Nat} {p : β} {x : α} (hx : l[i]? = some x) (hp : ps[i]? = some p) : (nOg ob l ps).Perm (ob x p ++ ngE ob l ps i) := by
  have h := mj (pH (l := List.zipWith ob l ps) (i := i) (x := ob x p) (by rw [List.getElem?_zipWith, hx, hp]))
  simpa [nOg, ngE] using h
theorem aaP {α β : Type} (ob : α → β → aI) {l : List α} {ps : List β} {i : Nat} {p : β} {x : α} (hl : i < l.length) (hp : ps[i]? = some p) : (nOg ob (l.set i x) ps).Perm (ob x p ++ ngE ob l ps i) := by
  have h := tr ob (l := l.set i x) (ps := ps) (i := i) (p := p) (x := x) (by rw [List.getElem?_set_self hl]) hp
  have e : ngE ob (l.set i x) ps i = ngE ob l ps i := by
    unfold ngE
    rw [my _ hp, mI]
  rw [e] at h
  exact h
theorem abh (A B : List aI) (s : aI) : dg (s :: (A ++ B)).flatten (A ++ s :: B).flatten := .perm (mj List.perm_middle).symm
theorem yZ {a z1 z2 : Nat × Nat × bu} {N E : aI} (h : N.Perm ([z1, z2] ++ E)) (R : aI) : dg (z1 :: z2 :: a :: (E ++ R)) (a :: (N ++ R)) := .perm (by
  have h1 : (a :: (N ++ R)).Perm (a :: (([z1, z2] ++ E) ++ R)) := (h.append_right R).cons a
  exact (List.perm_middle (l₁ := [z1, z2]) (l₂ := E ++ R) (a := a)).trans h1.symm)
theorem aar {a z1 z2 : Nat × Nat × bu} {N E : aI} (h : N.Perm ([z1, z2] ++ E)) (R : aI) : dg (a :: (N ++ R)) (z2 :: z1 :: a :: (E ++ R)) := .perm (by
  have h1 : (a :: (N ++ R)).Perm (a :: (([z1, z2] ++ E) ++ R)) := (h.append_right R).cons a
  exact h1.trans ((List.perm_middle (l₁ := [z1, z2]) (l₂ := E ++ R) (a := a)).symm.trans (List.Perm.swap _ _ _)))
theorem yQ {a z1 z2 z3 : Nat × Nat × bu} {N E : aI} (h : N.Perm ([z1, z2, z3] ++ E)) (R : aI) : dg (z1 :: z2 :: z3 :: a :: (E ++ R)) (a :: (N ++ R)) := .perm (by
  have h1 : (a :: (N ++ R)).Perm (a :: (([z1, z2, z3] ++ E) ++ R)) := (h.append_right R).cons a
  exact (List.perm_middle (l₁ := [z1, z2, z3]) (l₂ := E ++ R) (a := a)).trans h1.symm)
theorem aaf {a z1 z2 z3 : Nat × Nat × bu} {N E : aI} (h : N.Perm ([z1, z2, z3] ++ E)) (R : aI) : dg (a :: (N ++ R)) (z3 :: z2 :: z1 :: a :: (E ++ R)) := .perm (by
  have h1 : (a :: (N ++ R)).Perm (a :: (([z1, z2, z3] ++ E) ++ R)) := (h.append_right R).cons a
  have h2 : (z3 :: z2 :: z1 :: a :: (E ++ R)).Perm (z1 :: z2 :: z3 :: a :: (E ++ R)) := ((List.Perm.swap z2 z3 _).trans ((List.Perm.swap z1 z3 _).cons z2)).trans ((List.Perm.swap z1 z2 _))
  exact h1.trans ((List.perm_middle (l₁ := [z1, z2, z3]) (l₂ := E ++ R) (a := a)).symm.trans h2.symm))
theorem zV (z1 z2 z3 : Nat × Nat × bu) (R : aI) : dg (z3 :: z2 :: z1 :: R) (z2 :: z1 :: z3 :: R) := .perm (List.perm_middle (l₁ := [z2, z1]) (l₂ := R) (a := z3)).symm
def gP (k : Int) (_ : Int) : Int := k
def cZ (k : Int) (_ : Int) : Int := k + 1
theorem jK (l : List Int) : ∀ x ∈ l, ∀ q, q ≤ cZ q x ∧ cZ q x ≤ q + (1 : Nat) := fun x _ q => by unfold cZ; omega
def eO (k : Int) (_ : ae) : ae := ⟨k, k + 1, iR (k + 1 + 1)⟩
def aN (k : Int) (_ : ae) : Int := k + 1 + 1 + 1
theorem dr (l : List ae) : ∀ x ∈ l, ∀ q, q ≤ aN q x ∧ aN q x ≤ q + (3 : Nat) := fun x _ q => by unfold aN; omega
def dE (k : Int) (_ : ap) : ap := ⟨k, k + 1, k + 1 + 1, ⟨k + 1 + 1 + 1, k + 1 + 1 + 1 + 1, iR (k + 1 + 1 + 1 + 1 + 1)⟩⟩
def a8 (k : Int) (_ : ap) : Int := k + 1 + 1 + 1 + 1 + 1 + 1
theorem gX (l : List ap) : ∀ x ∈ l, ∀ q, q ≤ a8 q x ∧ a8 q x ≤ q + (6 : Nat) := fun x _ q => by unfold a8; omega
def dF (k : Int) (_ : ar) : ar := ⟨k, decide ((k + 1).tmod 3 = 0)⟩
def bs (k : Int) (_ : ar) : Int := k + 1 + 1
theorem gW (l : List ar) : ∀ x ∈ l, ∀ q, q ≤ bs q x ∧ bs q x ≤ q + (2 : Nat) := fun x _ q => by unfold bs; omega
def cu (k : Int) (x : au) : au := ⟨k, k + 1, mkL eO aN (k + 1 + 1) x.fields, mkL gP cZ (kL aN (k + 1 + 1) x.fields) x.numbers⟩
def bA (k : Int) (x : au) : Int := kL cZ (kL aN (k + 1 + 1) x.fields) x.numbers
theorem jr {l : List au} (h : ∀ y ∈ l, au.small 1048576 y) : ∀ x ∈ l, ∀ q, q ≤ bA q x ∧ bA q x ≤ q + (4194306 : Nat) := fun x hx q => by
  have h1 := h x hx
  have h2 := h1.1.1
  have h3 := h1.2
  have h4 := je (nx := aN) (l := x.fields) (k := q + 1 + 1) (dr _)
  have h5 := je (nx := cZ) (l := x.numbers) (k := kL aN (q + 1 + 1) x.fields) (jK _)
  unfold bA
  omega
def k9 (k : Int) : Int := k + 1 + 1 + 1 + 1 + 1 + 1 + 1 + 1 + 1
def bK (k : Int) (x : am) : am := ⟨k, k + 1, k + 1 + 1, k + 1 + 1 + 1, k + 1 + 1 + 1 + 1, k + 1 + 1 + 1 + 1 + 1, ⟨k + 1 + 1 + 1 + 1 + 1 + 1, k + 1 + 1 + 1 + 1 + 1 + 1 + 1, iR (k + 1 + 1 + 1 + 1 + 1 + 1 + 1 + 1)⟩, mkL eO aN (k9 k) x.slots, mkL eO aN (kL aN (k9 k) x.slots) x.stack, mkL eO aN (kL aN (kL aN (k9 k) x.slots) x.stack) x.values, kL aN (kL aN (kL aN (k9 k) x.slots) x.stack) x.values, decide ((kL aN (kL aN (kL aN (k9 k) x.slots) x.stack) x.values + 1).tmod 3 = 0)⟩
def aV (k : Int) (x : am) : Int := kL aN (kL aN (kL aN (k9 k) x.slots) x.stack) x.values + 1 + 1
theorem hU {l : List am} (h : ∀ y ∈ l, am.small 1048576 y) : ∀ x ∈ l, ∀ q, q ≤ aV q x ∧ aV q x ≤ q + (9437195 : Nat) := fun x hx q => by
  have h1 := h x hx
  have h2 := h1.2.1.1
  have h3 := h1.2.2.1.1
  have h4 := h1.2.2.2.1
  have h5 := je (nx := aN) (l := x.slots) (k := k9 q) (dr _)
  have h6 := je (nx := aN) (l := x.stack) (k := kL aN (k9 q) x.slots) (dr _)
  have h7 := je (nx := aN) (l := x.values) (k := kL aN (kL aN (k9 q) x.slots) x.stack) (dr _)
  have h8 : k9 q = q + 9 := by unfold k9; omega
  unfold aV
  omega
section
variable {G : World → Prop}
theorem gR (_hst : az G) (s b : Nat) (l : List Int) (k : Int) (hn : l.length ≤ 1048576) (hk : 0 ≤ k ∧ k ≤ 1000000000000000) : CtM Tryz.prog G 33 [.ms s b 0 l.length, .int .i64 k] [(s, b, .row 1 (aO (l)))] (fun _ : Unit => True) (fun _ => [(s, b, .row 1 (aO (mkL gP cZ k l)))]) (fun _ => .int .i64 (kL cZ k l)) := by
  refine aC Tryz.func33 rfl Tryz.ntmps33 rfl rfl rfl fun w0 R gs objsR hG hR => ?_
  obtain rfl := hR.inv1
  clear hR
  repeat' (first | refine W_ ?_ | refine c_ (fun hc => ?_) (fun hc => ?_) | refine g_ (fun hg => ?_) (fun hg => ?_))
  apply aj (X := Nat) [0, 1000000] (fun x => [(5, .int .i64 (x : Int)), (1, .int .i64 (kL cZ k (l.take x)))]) (fun x => (s, b, .row 1 (aO (ptL gP cZ k l x))) :: R) (fun x => x ≤ l.length) (fun x => l.length - x) 0 (Nat.zero_le _)
  exact kp_; exact nw_
  · exact .refl _
  intro i hi
  try dsimp only
  have hq := bH (k := k) (i := i) hn (jK l) hi
  by_cases hlt : i < l.length
  · have hrow : (aO (ptL gP cZ k l i))[i]? = some ((fun n : Int => [TV.int .i64 n]) l[i]) := by
      simp only [aO, List.getElem?_map, dI hlt]; rfl
    have hset : (aO (ptL gP cZ k l i)).set i ((fun n : Int => [TV.int .i64 n]) (gP (kL cZ k (l.take i)) l[i])) = aO (ptL gP cZ k l (i + 1)) := by
      rw [← fl hlt]; simp [aO, List.map_set]
    have hks := ej (nx := cZ) (k := k) hlt
    have hrl : (aO (ptL gP cZ k l i)).length = l.length := by simp [aO, cQ hi]
    generalize aO (ptL gP cZ k l i) = rows at hrow hset hrl ⊢
    generalize kL cZ k (l.take i) = q at hq hset hks ⊢
    generalize l[i] = x at hrow hset hks
    replace hrow : rows[i]? = some [.int .i64 x] := hrow
    have hks2 : kL cZ k (l.take (i + 1)) = q + 1 := hks
    repeat' (first | refine W_ ?_ | refine a6 ?_ | ((with_reducible apply fN); rfl; kernel_rfl; (repeat (first | exact cf.nil | ((with_reducible apply cf.cons); rfl; exact .same _))); exact hG; exact _hst; exact bX _ (by omega) (by omega)) | refine c_ (fun hc => ?_) (fun hc => ?_) | refine g_ (fun hg => ?_) (fun hg => ?_))
    refine ah (i + 1) (by omega) (by omega) (.of _ (dw.envCons rfl (dw.envCons (fw rfl (by rw [hks2])) dw.envNil)) od_ ?_)
    rw [← hset]
    (try simp only [])
    exact .refl _
  · obtain rfl : i = l.length := by omega
    rw [d8, List.take_length]
    repeat' (first | refine W_ ?_ | refine c_ (fun hc => ?_) (fun hc => ?_) | refine g_ (fun hg => ?_) (fun hg => ?_))
    exact av x_ rfl () trivial rfl (.cons _ _ _ _ (.nil R)) pk_ (.tmp _ _ rfl) rfl
theorem ey (hst : az G) (s b : Nat) (l : List ae) (k : Int) (hn : l.length ≤ 1048576) (hk : 0 ≤ k ∧ k ≤ 1000000000000000) : CtM Tryz.prog G 151 [.ms s b 0 l.length, .int .i64 k] [(s, b, .row 3 ((l).map (ae.tw 0)))] (fun _ : Unit => True) (fun _ => [(s, b, .row 3 ((mkL eO aN k l).map (ae.tw 0)))]) (fun _ => .int .i64 (kL aN k l)) := by
  refine aC Tryz.func151 rfl Tryz.ntmps151 rfl rfl rfl fun w0 R gs objsR hG hR => ?_
  obtain rfl := hR.inv1
  clear hR
  repeat' (first | refine W_ ?_ | refine c_ (fun hc => ?_) (fun hc => ?_) | refine g_ (fun hg => ?_) (fun hg => ?_))
  apply aj (X := Nat) [0, 1000000] (fun x => [(5, .int .i64 (x : Int)), (1, .int .i64 (kL aN k (l.take x)))]) (fun x => (s, b, .row 3 ((ptL eO aN k l x).map (ae.tw 0))) :: R) (fun x => x ≤ l.length) (fun x => l.length - x) 0 (Nat.zero_le _)
  exact kp_; exact nw_
  · exact .refl _
  intro i hi
  try dsimp only
  have hq := bH (k := k) (i := i) hn (dr l) hi
  by_cases hlt : i < l.length
  · have hrow : ((ptL eO aN k l i).map (ae.tw 0))[i]? = some ((ae.tw 0) l[i]) := by
      simp only [List.getElem?_map, dI hlt]; rfl
    have hset : ((ptL eO aN k l i).map (ae.tw 0)).set i ((ae.tw 0) (eO (kL aN k (l.take i)) l[i])) = (ptL eO aN k l (i + 1)).map (ae.tw 0) := by
      rw [← fl hlt]; rw [List.map_set]
    have hks := ej (nx := aN) (k := k) hlt
    have hrl : ((ptL eO aN k l i).map (ae.tw 0)).length = l.length := by simp [cQ hi]
    generalize (ptL eO aN k l i).map (ae.tw 0) = rows at hrow hset hrl ⊢
    generalize kL aN k (l.take i) = q at hq hset hks ⊢
    generalize l[i] = x at hrow hset hks
    replace hrow : rows[i]? = some [.int .i64 x.kind, .int .i64 x.number, .str x.text] := hrow
    have hr1 : (rows.set i [.int .i64 q, .int .i64 x.number, .str x.text])[i]? = some [.int .i64 q, .int .i64 x.number, .str x.text] := by rw [List.getElem?_set_self (by omega)]
    have hks2 : kL aN k (l.take (i + 1)) = q + 1 + 1 + 1 := hks
    repeat' (first | refine W_ ?_ | refine a6 ?_ | ((with_reducible apply fN); rfl; kernel_rfl; (repeat (first | exact cf.nil | ((with_reducible apply cf.cons); rfl; exact .same _))); exact hG; exact hst; exact bX _ (by omega) (by omega)) | refine c_ (fun hc => ?_) (fun hc => ?_) | refine g_ (fun hg => ?_) (fun hg => ?_))
    refine ah (i + 1) (by omega) (by omega) (.of _ (dw.envCons rfl (dw.envCons (fw rfl (by rw [hks2])) dw.envNil)) od_ ?_)
    rw [← hset]
    (try simp only [List.set_set])
    exact .refl _
  · obtain rfl : i = l.length := by omega
    rw [d8, List.take_length]
    repeat' (first | refine W_ ?_ | refine c_ (fun hc => ?_) (fun hc => ?_) | refine g_ (fun hg => ?_) (fun hg => ?_))
    exact av x_ rfl () trivial rfl (.cons _ _ _ _ (.nil R)) pk_ (.tmp _ _ rfl) rfl
theorem lq (hst : az G) (s b : Nat) (l : List ap) (k : Int) (hn : l.length ≤ 1048576) (hk : 0 ≤ k ∧ k ≤ 1000000000000000) : CtM Tryz.prog G 69 [.ms s b 0 l.length, .int .i64 k] [(s, b, .row 6 ((l).map (ap.tw 0)))] (fun _ : Unit => True) (fun _ => [(s, b, .row 6 ((mkL dE a8 k l).map (ap.tw 0)))]) (fun _ => .int .i64 (kL a8 k l)) := by
  refine aC Tryz.func69 rfl Tryz.ntmps69 rfl rfl rfl fun w0 R gs objsR hG hR => ?_
  obtain rfl := hR.inv1
  clear hR
  repeat' (first | refine W_ ?_ | refine c_ (fun hc => ?_) (fun hc => ?_) | refine g_ (fun hg => ?_) (fun hg => ?_))
  apply aj (X := Nat) [0, 1000000] (fun x => [(5, .int .i64 (x : Int)), (1, .int .i64 (kL a8 k (l.take x)))]) (fun x => (s, b, .row 6 ((ptL dE a8 k l x).map (ap.tw 0))) :: R) (fun x => x ≤ l.length) (fun x => l.length - x) 0 (Nat.zero_le _)
  exact kp_; exact nw_
  · exact .refl _
  intro i hi
  try dsimp only
  have hq := bH (k := k) (i := i) hn (gX l) hi
  by_cases hlt : i < l.length
  · have hrow : ((ptL dE a8 k l i).map (ap.tw 0))[i]? = some ((ap.tw 0) l[i]) := by
      simp only [List.getElem?_map, dI hlt]; rfl
    have hset : ((ptL dE a8 k l i).map (ap.tw 0)).set i ((ap.tw 0) (dE (kL a8 k (l.take i)) l[i])) = (ptL dE a8 k l (i + 1)).map (ap.tw 0) := by
      rw [← fl hlt]; rw [List.map_set]
    have hks := ej (nx := a8) (k := k) hlt
    have hrl : ((ptL dE a8 k l i).map (ap.tw 0)).length = l.length := by simp [cQ hi]
    generalize (ptL dE a8 k l i).map (ap.tw 0) = rows at hrow hset hrl ⊢
    generalize kL a8 k (l.take i) = q at hq hset hks ⊢
    generalize l[i] = x at hrow hset hks
    replace hrow : rows[i]? = some [.int .i64 x.code, .int .i64 x.outer, .int .i64 x.home, .int .i64 x.self.kind, .int .i64 x.self.number, .str x.self.text] := hrow
    have hr1 : (rows.set i [.int .i64 q, .int .i64 x.outer, .int .i64 x.home, .int .i64 x.self.kind, .int .i64 x.self.number, .str x.self.text])[i]? = some [.int .i64 q, .int .i64 x.outer, .int .i64 x.home, .int .i64 x.self.kind, .int .i64 x.self.number, .str x.self.text] := by rw [List.getElem?_set_self (by omega)]
    have hks2 : kL a8 k (l.take (i + 1)) = q + 1 + 1 + 1 + 1 + 1 + 1 := hks
    repeat' (first | refine W_ ?_ | refine a6 ?_ | ((with_reducible apply fN); rfl; kernel_rfl; (repeat (first | exact cf.nil | ((with_reducible apply cf.cons); rfl; exact .same _))); exact hG; exact hst; exact bX _ (by omega) (by omega)) | refine c_ (fun hc => ?_) (fun hc => ?_) | refine g_ (fun hg => ?_) (fun hg => ?_))
    refine ah (i + 1) (by omega) (by omega) (.of _ (dw.envCons rfl (dw.envCons (fw rfl (by rw [hks2])) dw.envNil)) od_ ?_)
    rw [← hset]
    (try simp only [List.set_set])
    exact .refl _
  · obtain rfl : i = l.length := by omega
    rw [d8, List.take_length]
    repeat' (first | refine W_ ?_ | refine c_ (fun hc => ?_) (fun hc => ?_) | refine g_ (fun hg => ?_) (fun hg => ?_))
    exact av x_ rfl () trivial rfl (.cons _ _ _ _ (.nil R)) pk_ (.tmp _ _ rfl) rfl
theorem lr (_hst : az G) (s b : Nat) (l : List ar) (k : Int) (hn : l.length ≤ 1048576) (hk : 0 ≤ k ∧ k ≤ 1000000000000000) : CtM Tryz.prog G 71 [.ms s b 0 l.length, .int .i64 k] [(s, b, .row 2 ((l).map (ar.tw 0)))] (fun _ : Unit => True) (fun _ => [(s, b, .row 2 ((mkL dF bs k l).map (ar.tw 0)))]) (fun _ => .int .i64 (kL bs k l)) := by
  refine aC Tryz.func71 rfl Tryz.ntmps71 rfl rfl rfl fun w0 R gs objsR hG hR => ?_
  obtain rfl := hR.inv1
  clear hR
  repeat' (first | refine W_ ?_ | refine c_ (fun hc => ?_) (fun hc => ?_) | refine g_ (fun hg => ?_) (fun hg => ?_))
  apply aj (X := Nat) [0, 1000000] (fun x => [(5, .int .i64 (x : Int)), (1, .int .i64 (kL bs k (l.take x)))]) (fun x => (s, b, .row 2 ((ptL dF bs k l x).map (ar.tw 0))) :: R) (fun x => x ≤ l.length) (fun x => l.length - x) 0 (Nat.zero_le _)
  exact kp_; exact nw_
  · exact .refl _
  intro i hi
  try dsimp only
  have hq := bH (k := k) (i := i) hn (gW l) hi
  by_cases hlt : i < l.length
  · have hrow : ((ptL dF bs k l i).map (ar.tw 0))[i]? = some ((ar.tw 0) l[i]) := by
      simp only [List.getElem?_map, dI hlt]; rfl
    have hset : ((ptL dF bs k l i).map (ar.tw 0)).set i ((ar.tw 0) (dF (kL bs k (l.take i)) l[i])) = (ptL dF bs k l (i + 1)).map (ar.tw 0) := by
      rw [← fl hlt]; rw [List.map_set]
    have hks := ej (nx := bs) (k := k) hlt
    have hrl : ((ptL dF bs k l i).map (ar.tw 0)).length = l.length := by simp [cQ hi]
    generalize (ptL dF bs k l i).map (ar.tw 0) = rows at hrow hset hrl ⊢
    generalize kL bs k (l.take i) = q at hq hset hks ⊢
    generalize l[i] = x at hrow hset hks
    replace hrow : rows[i]? = some [.int .i64 x.at_, .bool x.main] := hrow
    have hr1 : (rows.set i [.int .i64 q, .bool x.main])[i]? = some [.int .i64 q, .bool x.main] := by rw [List.getElem?_set_self (by omega)]
    have hks2 : kL bs k (l.take (i + 1)) = q + 1 + 1 := hks
    repeat' (first | refine W_ ?_ | refine a6 ?_ | ((with_reducible apply fN); rfl; kernel_rfl; (repeat (first | exact cf.nil | ((with_reducible apply cf.cons); rfl; exact .same _))); exact hG; exact _hst; exact bX _ (by omega) (by omega)) | refine c_ (fun hc => ?_) (fun hc => ?_) | refine g_ (fun hg => ?_) (fun hg => ?_))
    refine ah (i + 1) (by omega) (by omega) (.of _ (dw.envCons rfl (dw.envCons (fw rfl (by rw [hks2])) dw.envNil)) od_ ?_)
    rw [← hset]
    (try simp only [List.set_set])
    exact .refl _
  · obtain rfl : i = l.length := by omega
    rw [d8, List.take_length]
    repeat' (first | refine W_ ?_ | refine c_ (fun hc => ?_) (fun hc => ?_) | refine g_ (fun hg => ?_) (fun hg => ?_))
    exact av x_ rfl () trivial rfl (.cons _ _ _ _ (.nil R)) pk_ (.tmp _ _ rfl) rfl
set_option maxHeartbeats 1000000 in
theorem m5 (hst : az G) (s b : Nat) (l : List au) (ps : List (Pl × Pl)) (hps : ps.length = l.length) (k : Int) (hn : l.length ≤ 1048576 ∧ ∀ y ∈ l, au.small 1048576 y) (hk : 0 ≤ k ∧ k ≤ 100000000000000) :
    CtM Tryz.prog G 150 [.ms s b 0 l.length, .int .i64 k] ((s, b, .row 4 (nRg gN l ps)) :: nOg jG l ps) (fun _ : Unit => True) (fun _ => (s, b, .row 4 (nRg gN (mkL cu bA k l) ps)) :: nOg jG (mkL cu bA k l) ps) (fun _ => .int .i64 (kL bA k l)) := by
  refine aC Tryz.func150 rfl Tryz.ntmps150 rfl rfl rfl fun w0 R gs objsR hG hR => ?_
  obtain rfl := hR.eq
  clear hR
  obtain ⟨hn, hsm⟩ := hn
  repeat' (first | refine W_ ?_ | refine c_ (fun hc => ?_) (fun hc => ?_) | refine g_ (fun hg => ?_) (fun hg => ?_))
  apply aj (X := Nat) [0, 1000000] (fun x => [(5, .int .i64 (x : Int)), (1, .int .i64 (kL bA k (l.take x)))]) (fun x => (s, b, .row 4 (nRg gN (ptL cu bA k l x) ps)) :: (nOg jG (ptL cu bA k l x) ps ++ R)) (fun x => x ≤ l.length) (fun x => l.length - x) 0 (Nat.zero_le _)
  exact kp_; exact nw_
  · exact .refl _
  intro i hi
  try dsimp only
  have hq := bH (k := k) (i := i) hn (jr hsm) hi
  by_cases hlt : i < l.length
  · obtain ⟨p, hp⟩ : ∃ p, ps[i]? = some p := ⟨_, List.getElem?_eq_getElem (by omega)⟩
    have hpl : i < (ptL cu bA k l i).length := by rw [cQ hi]; exact hlt
    have hrow := xZ gN (dI (mk := cu) (nx := bA) (k := k) hlt) hp
    have hset := xl gN (l := ptL cu bA k l i) (x := cu (kL bA k (l.take i)) l[i]) hp
    have hout := tr jG (dI (mk := cu) (nx := bA) (k := k) hlt) hp
    have hin := aaP jG (x := cu (kL bA k (l.take i)) l[i]) hpl hp
    rw [fl hlt] at hset hin
    have hks := ej (nx := bA) (k := k) hlt
    have hrl : (nRg gN (ptL cu bA k l i) ps).length = l.length := by rw [tW _ (by rw [cQ hi]; exact hps), cQ hi]
    have hb := hsm _ (List.getElem_mem hlt)
    generalize ngE jG (ptL cu bA k l i) ps i = E at hout hin
    generalize nOg jG (ptL cu bA k l i) ps = N0 at hout ⊢
    generalize nRg gN (ptL cu bA k l i) ps = rows at hrow hset hrl ⊢
    generalize kL bA k (l.take i) = q at hq hset hks hin ⊢
    generalize l[i] = x at hrow hset hks hout hin hb
    replace hrow : rows[i]? = some [.int .i64 x.kind, .int .i64 x.class_, .ms p.1.1 p.1.2 0 x.fields.length, .ms p.2.1 p.2.2 0 x.numbers.length] := hrow
    have hr1 : (rows.set i [.int .i64 q, .int .i64 x.class_, .ms p.1.1 p.1.2 0 x.fields.length, .ms p.2.1 p.2.2 0 x.numbers.length])[i]? = some [.int .i64 q, .int .i64 x.class_, .ms p.1.1 p.1.2 0 x.fields.length, .ms p.2.1 p.2.2 0 x.numbers.length] := by rw [List.getElem?_set_self (by omega)]
    have hk1 := je (nx := aN) (l := x.fields) (k := q + 1 + 1) (dr _)
    have hf1 := hb.1.1
    have hct1 := ey hst p.1.1 p.1.2 x.fields (q + 1 + 1) hb.1.1 (by omega)
    have hct2 := gR hst p.2.1 p.2.2 x.numbers (kL aN (q + 1 + 1) x.fields) hb.2 (by omega)
    repeat' (first | refine W_ ?_ | refine a6 ?_ | ((with_reducible apply fN); rfl; kernel_rfl; (repeat (first | exact cf.nil | ((with_reducible apply cf.cons); rfl; exact .same _))); exact hG; exact hst; exact bX _ (by omega) (by omega)) | refine c_ (fun hc => ?_) (fun hc => ?_) | refine g_ (fun hg => ?_) (fun hg => ?_))
    refine kr (yZ hout R) ?_
    repeat' (first | refine W_ ?_ | refine a6 ?_ | ((with_reducible apply aF); rfl; kernel_rfl; (repeat (first | exact aD.nil | ((with_reducible apply aD.cons); rfl))); exact hG; exact hct1; exact .cons _ _ _ _ (.nil _); intro y hy; refine br ?_; refine cP (.perm (List.Perm.swap _ _ _)) ?_) | ((with_reducible apply aF); rfl; kernel_rfl; (repeat (first | exact aD.nil | ((with_reducible apply aD.cons); rfl))); exact hG; exact hct2; exact .cons _ _ _ _ (.nil _); intro y hy; refine br ?_) | refine c_ (fun hc => ?_) (fun hc => ?_) | refine g_ (fun hg => ?_) (fun hg => ?_))
    refine ah (i + 1) (by omega) (by omega) (.of _ (dw.envCons rfl (dw.envCons (fw rfl (by rw [hks]; rfl)) dw.envNil)) od_ ?_)
    rw [hset]
    simp only [List.set_set]
    have hcl : gN (cu q x) p = [.int .i64 q, .int .i64 (q + 1), .ms p.1.1 p.1.2 0 x.fields.length, .ms p.2.1 p.2.2 0 x.numbers.length] := by
      unfold gN cu
      dsimp only
      rw [cL, cL]
    rw [hcl]
    exact aar hin R
  · obtain rfl : i = l.length := by omega
    rw [d8, List.take_length]
    repeat' (first | refine W_ ?_ | refine c_ (fun hc => ?_) (fun hc => ?_) | refine g_ (fun hg => ?_) (fun hg => ?_))
    exact av x_ rfl () trivial rfl (.cons _ _ _ _ (.app _ R)) (.refl _) (.tmp _ _ rfl) rfl
set_option maxHeartbeats 1000000 in
theorem lA (hst : az G) (s b : Nat) (l : List am) (ps : List (Pl × Pl × Pl)) (hps : ps.length = l.length) (k : Int) (hn : l.length ≤ 1048576 ∧ ∀ y ∈ l, am.small 1048576 y) (hk : 0 ≤ k ∧ k ≤ 100000000000000) :
    CtM Tryz.prog G 70 [.ms s b 0 l.length, .int .i64 k] ((s, b, .row 14 (nRg gO l ps)) :: nOg jH l ps) (fun _ : Unit => True) (fun _ => (s, b, .row 14 (nRg gO (mkL bK aV k l) ps)) :: nOg jH (mkL bK aV k l) ps) (fun _ => .int .i64 (kL aV k l)) := by
  refine aC Tryz.func70 rfl Tryz.ntmps70 rfl rfl rfl fun w0 R gs objsR hG hR => ?_
  obtain rfl := hR.eq
  clear hR
  obtain ⟨hn, hsm⟩ := hn
  repeat' (first | refine W_ ?_ | refine c_ (fun hc => ?_) (fun hc => ?_) | refine g_ (fun hg => ?_) (fun hg => ?_))
  apply aj (X := Nat) [0, 1000000] (fun x => [(5, .int .i64 (x : Int)), (1, .int .i64 (kL aV k (l.take x)))]) (fun x => (s, b, .row 14 (nRg gO (ptL bK aV k l x) ps)) :: (nOg jH (ptL bK aV k l x) ps ++ R)) (fun x => x ≤ l.length) (fun x => l.length - x) 0 (Nat.zero_le _)
  exact kp_; exact nw_
  · exact .refl _
  intro i hi
  try dsimp only
  have hq := bH (k := k) (i := i) hn (hU hsm) hi
  by_cases hlt : i < l.length
  · obtain ⟨p, hp⟩ : ∃ p, ps[i]? = some p := ⟨_, List.getElem?_eq_getElem (by omega)⟩
    have hpl : i < (ptL bK aV k l i).length := by rw [cQ hi]; exact hlt
    have hrow := xZ gO (dI (mk := bK) (nx := aV) (k := k) hlt) hp
    have hset := xl gO (l := ptL bK aV k l i) (x := bK (kL aV k (l.take i)) l[i]) hp
    have hout := tr jH (dI (mk := bK) (nx := aV) (k := k) hlt) hp
    have hin := aaP jH (x := bK (kL aV k (l.take i)) l[i]) hpl hp
    rw [fl hlt] at hset hin
    have hks := ej (nx := aV) (k := k) hlt
    have hrl : (nRg gO (ptL bK aV k l i) ps).length = l.length := by rw [tW _ (by rw [cQ hi]; exact hps), cQ hi]
    have hb := hsm _ (List.getElem_mem hlt)
    generalize ngE jH (ptL bK aV k l i) ps i = E at hout hin
    generalize nOg jH (ptL bK aV k l i) ps = N0 at hout ⊢
    generalize nRg gO (ptL bK aV k l i) ps = rows at hrow hset hrl ⊢
    generalize kL aV k (l.take i) = q at hq hset hks hin ⊢
    generalize l[i] = x at hrow hset hks hout hin hb
    replace hrow : rows[i]? = some [.int .i64 x.mark, .int .i64 x.code, .int .i64 x.pc, .int .i64 x.sender, .int .i64 x.outer, .int .i64 x.home, .int .i64 x.self.kind, .int .i64 x.self.number, .str x.self.text, .ms p.1.1 p.1.2 0 x.slots.length, .ms p.2.1.1 p.2.1.2 0 x.stack.length, .ms p.2.2.1 p.2.2.2 0 x.values.length, .int .i64 x.other, .bool x.retry] := hrow
    have hr1 : (rows.set i [.int .i64 q, .int .i64 x.code, .int .i64 x.pc, .int .i64 x.sender, .int .i64 x.outer, .int .i64 x.home, .int .i64 x.self.kind, .int .i64 x.self.number, .str x.self.text, .ms p.1.1 p.1.2 0 x.slots.length, .ms p.2.1.1 p.2.1.2 0 x.stack.length, .ms p.2.2.1 p.2.2.2 0 x.values.length, .int .i64 x.other, .bool x.retry])[i]? = some [.int .i64 q, .int .i64 x.code, .int .i64 x.pc, .int .i64 x.sender, .int .i64 x.outer, .int .i64 x.home, .int .i64 x.self.kind, .int .i64 x.self.number, .str x.self.text, .ms p.1.1 p.1.2 0 x.slots.length, .ms p.2.1.1 p.2.1.2 0 x.stack.length, .ms p.2.2.1 p.2.2.2 0 x.values.length, .int .i64 x.other, .bool x.retry] := by rw [List.getElem?_set_self (by omega)]
    have hk0 : k9 q = q + 9 := by unfold k9; omega
    have hk1 := je (nx := aN) (l := x.slots) (k := k9 q) (dr _)
    have hk2 := je (nx := aN) (l := x.stack) (k := kL aN (k9 q) x.slots) (dr _)
    have hk3 := je (nx := aN) (l := x.values) (k := kL aN (kL aN (k9 q) x.slots) x.stack) (dr _)
    have hf1 := hb.2.1.1
    have hf2 := hb.2.2.1.1
    have hf3 := hb.2.2.2.1
    have hct1 := ey hst p.1.1 p.1.2 x.slots (k9 q) hf1 (by omega)
    have hct2 := ey hst p.2.1.1 p.2.1.2 x.stack (kL aN (k9 q) x.slots) hf2 (by omega)
    have hct3 := ey hst p.2.2.1 p.2.2.2 x.values (kL aN (kL aN (k9 q) x.slots) x.stack) hf3 (by omega)
    rw [show k9 q = q + 1 + 1 + 1 + 1 + 1 + 1 + 1 + 1 + 1 from rfl] at hct1
    repeat' (first | refine W_ ?_ | refine a6 ?_ | ((with_reducible apply fN); rfl; kernel_rfl; (repeat (first | exact cf.nil | ((with_reducible apply cf.cons); rfl; exact .same _))); exact hG; exact hst; exact bX _ (by omega) (by omega)) | refine c_ (fun hc => ?_) (fun hc => ?_) | refine g_ (fun hg => ?_) (fun hg => ?_))
    refine kr (yQ hout R) ?_
    repeat' (first | refine W_ ?_ | refine a6 ?_ | ((with_reducible apply aF); rfl; kernel_rfl; (repeat (first | exact aD.nil | ((with_reducible apply aD.cons); rfl))); exact hG; exact hct1; exact .cons _ _ _ _ (.nil _); intro y hy; refine br ?_; refine cP (.perm (List.Perm.swap _ _ _)) ?_) | ((with_reducible apply aF); rfl; kernel_rfl; (repeat (first | exact aD.nil | ((with_reducible apply aD.cons); rfl))); exact hG; exact hct2; exact .cons _ _ _ _ (.nil _); intro y hy; refine br ?_; refine cP (zV _ _ _ _) ?_) | ((with_reducible apply aF); rfl; kernel_rfl; (repeat (first | exact aD.nil | ((with_reducible apply aD.cons); rfl))); exact hG; exact hct3; exact .cons _ _ _ _ (.nil _); intro y hy; refine br ?_) | refine c_ (fun hc => ?_) (fun hc => ?_) | refine g_ (fun hg => ?_) (fun hg => ?_))
    refine ah (i + 1) (by omega) (by omega) (.of _ (dw.envCons rfl (dw.envCons (fw rfl (by rw [hks]; rfl)) dw.envNil)) od_ ?_)
    rw [hset]
    simp only [List.set_set]
    have hcl : gO (bK q x) p = [.int .i64 q, .int .i64 (q + 1), .int .i64 (q + 1 + 1), .int .i64 (q + 1 + 1 + 1), .int .i64 (q + 1 + 1 + 1 + 1), .int .i64 (q + 1 + 1 + 1 + 1 + 1), .int .i64 (q + 1 + 1 + 1 + 1 + 1 + 1), .int .i64 (q + 1 + 1 + 1 + 1 + 1 + 1 + 1), .str (iR (q + 1 + 1 + 1 + 1 + 1 + 1 + 1 + 1)), .ms p.1.1 p.1.2 0 x.slots.length, .ms p.2.1.1 p.2.1.2 0 x.stack.length, .ms p.2.2.1 p.2.2.2 0 x.values.length, .int .i64 (kL aN (kL aN (kL aN (k9 q) x.slots) x.stack) x.values), .bool (decide ((kL aN (kL aN (kL aN (k9 q) x.slots) x.stack) x.values + 1).tmod 3 = 0))] := by
      unfold gO bK
      dsimp only
      rw [cL, cL, cL]
    rw [hcl]
    exact aaf hin R
  · obtain rfl : i = l.length := by omega
    rw [d8, List.take_length]
    repeat' (first | refine W_ ?_ | refine c_ (fun hc => ?_) (fun hc => ?_) | refine g_ (fun hg => ?_) (fun hg => ?_))
    exact av x_ rfl () trivial rfl (.cons _ _ _ _ (.app _ R)) (.refl _) (.tmp _ _ rfl) rfl
end
set_option maxRecDepth 20000
theorem z8 (X Y Z D R : aI) : dg (D ++ (X ++ (Y ++ (Z ++ R)))) (X ++ (Y ++ (Z ++ (D ++ R)))) := by
  simpa using abh [X, Y, Z] [R] D
theorem aax (W X Y Z D R : aI) : dg (D ++ (W ++ (X ++ (Y ++ (Z ++ R))))) (W ++ (X ++ (Y ++ (Z ++ (D ++ R))))) := by
  simpa using abh [W, X, Y, Z] [R] D
theorem aag (V W X Y Z D R : aI) : dg (D ++ (V ++ (W ++ (X ++ (Y ++ (Z ++ R)))))) (V ++ (W ++ (X ++ (Y ++ (Z ++ (D ++ R)))))) := by
  simpa using abh [V, W, X, Y, Z] [R] D
theorem aaI (A B C D E F R : aI) : dg (A ++ (B ++ (C ++ (D ++ (E ++ (F ++ R)))))) (F ++ (E ++ (D ++ (C ++ (A ++ (B ++ R)))))) := .perm (by
  have h1 : [F, E, D, C, B, A].Perm [A, B, C, D, E, F] := (List.reverse_perm [A, B, C, D, E, F])
  have h2 : [F, E, D, C, A, B].Perm [F, E, D, C, B, A] := ((((List.Perm.swap B A []).cons C).cons D).cons E).cons F
  have h3 := (mj (h2.trans h1)).append_right R
  simpa [List.append_assoc] using h3.symm)
def jt (k : Int) (x : aM) : aM := ⟨mkL bj aG k x.classes, mkL cu bA (kL aG k x.classes) x.objects, mkL co aW (kL bA (kL aG k x.classes) x.objects) x.output, x.ticks, x.budget, x.made⟩
def dL (k : Int) (x : aM) : Int := kL aW (kL bA (kL aG k x.classes) x.objects) x.output
theorem oB {x : aM} (hb : x.small 1048576) (k : Int) : k ≤ dL k x ∧ dL k x ≤ k + 6000000000000 := by
  have h1 := bH (k := k) (i := x.classes.length) hb.1.1 (dD hb.1.2) (Nat.le_refl _)
  have h2 := bH (k := kL aG k x.classes) (i := x.objects.length) hb.2.1.1 (jr hb.2.1.2) (Nat.le_refl _)
  have h3 := bH (k := kL bA (kL aG k x.classes) x.objects) (i := x.output.length) hb.2.2.1 (fp x.output) (Nat.le_refl _)
  rw [List.take_length] at h1 h2 h3
  unfold dL
  omega
section
variable {G : World → Prop}
theorem pj (hst : az G) (x : aM) (y : StP) (hy : stI x y) (hb : x.small 1048576) (k : Int) (hk : 0 ≤ k ∧ k ≤ 60000000000000) :
    CtM Tryz.prog G 68 [.agg (stC x y), .int .i64 k] (stO x y) (fun _ : Unit => True) (fun _ => stO (jt k x) y) (fun _ => .int .i64 (dL k x)) := by
  refine aC Tryz.func68 rfl Tryz.ntmps68 rfl rfl rfl fun w0 R gs objsR hG hR => ?_
  obtain rfl := hR.eq
  clear hR
  have h1 := bH (k := k) (i := x.classes.length) hb.1.1 (dD hb.1.2) (Nat.le_refl _)
  have h2 := bH (k := kL aG k x.classes) (i := x.objects.length) hb.2.1.1 (jr hb.2.1.2) (Nat.le_refl _)
  rw [List.take_length] at h1 h2
  have c1 := fx hst y.1.1.1 y.1.1.2 x.classes y.1.2 hy.1 k hb.1 (by omega)
  have c2 := m5 hst y.2.1.1.1 y.2.1.1.2 x.objects y.2.1.2 hy.2 (kL aG k x.classes) hb.2.1 (by omega)
  have c3 := fo hst y.2.2.1 y.2.2.2 x.output (kL bA (kL aG k x.classes) x.objects) hb.2.2.1 (by omega)
  have e0 : stO x y ++ R = aaS x.classes y.1 ++ (acf x.objects y.2.1 ++ ([(y.2.2.1, y.2.2.2, .row 1 (bE x.output))] ++ R)) := by unfold stO; simp [List.append_assoc]
  have e1 : stO (jt k x) y ++ R = aaS (jt k x).classes y.1 ++ (acf (jt k x).objects y.2.1 ++ ([(y.2.2.1, y.2.2.2, .row 1 (bE (jt k x).output))] ++ R)) := by unfold stO; simp [List.append_assoc]
  rw [e0]
  generalize hz1 : [(y.2.2.1, y.2.2.2, bu.row 1 (bE x.output))] = z1 at c3 ⊢
  unfold stC
  repeat' (first | refine W_ ?_ | refine aE ?_ | ((with_reducible apply aF); rfl; kernel_rfl; (repeat (first | exact aD.nil | ((with_reducible apply aD.cons); rfl))); exact hG; exact c1; exact .app _ _; intro z hz; refine cP (qc _ _ _) ?_) | ((with_reducible apply aF); rfl; kernel_rfl; (repeat (first | exact aD.nil | ((with_reducible apply aD.cons); rfl))); exact hG; exact c2; exact .app _ _; intro z hz; refine cP (qC _ _ _ _) ?_) | ((with_reducible apply aF); rfl; kernel_rfl; (repeat (first | exact aD.nil | ((with_reducible apply aD.cons); rfl))); exact hG; exact c3; exact .app _ _; intro z hz) | refine c_ (fun hc => ?_) (fun hc => ?_) | refine g_ (fun hg => ?_) (fun hg => ?_))
  refine av x_ rfl () trivial rfl (.app _ R) ?_ (.tmp _ _ rfl) rfl
  rw [e1]
  exact oy _ _ _ R
def yh (k : Int) (x : ak) : ak := ⟨en k x.base, jt (bp k x.base) x.store,
  mkL dE a8 (dL (bp k x.base) x.store) x.blocks,
  mkL bK aV (kL a8 (dL (bp k x.base) x.store) x.blocks) x.contexts,
  mkL dF bs (kL aV (kL a8 (dL (bp k x.base) x.store) x.blocks) x.contexts) x.processes,
  mkL gP cZ (kL bs (kL aV (kL a8 (dL (bp k x.base) x.store) x.blocks) x.contexts) x.processes) x.ready,
  x.now, x.status, x.value, x.fault⟩
def nl (k : Int) (x : ak) : Int := kL cZ (kL bs (kL aV (kL a8 (dL (bp k x.base) x.store) x.blocks) x.contexts) x.processes) x.ready
theorem oJ {x : ak} (hb : x.small 1048576) (k : Int) : k ≤ nl k x ∧ nl k x ≤ k + 30000000000000 := by
  have h1 := jW hb.1 k
  have h2 := oB hb.2.1 (bp k x.base)
  unfold nl
  generalize dL (bp k x.base) x.store = q2 at h2 ⊢
  have h3 := bH (k := q2) (i := x.blocks.length) hb.2.2.1.1 (gX x.blocks) (Nat.le_refl _)
  rw [List.take_length] at h3
  generalize kL a8 q2 x.blocks = q3 at h3 ⊢
  have h4 := bH (k := q3) (i := x.contexts.length) hb.2.2.2.1.1 (hU hb.2.2.2.1.2) (Nat.le_refl _)
  rw [List.take_length] at h4
  generalize kL aV q3 x.contexts = q4 at h4 ⊢
  have h5 := bH (k := q4) (i := x.processes.length) hb.2.2.2.2.1.1 (gW x.processes) (Nat.le_refl _)
  rw [List.take_length] at h5
  generalize kL bs q4 x.processes = q5 at h5 ⊢
  have h6 := bH (k := q5) (i := x.ready.length) hb.2.2.2.2.2.1 (jK x.ready) (Nat.le_refl _)
  rw [List.take_length] at h6
  omega
set_option maxHeartbeats 1000000 in
theorem jT (hst : az G) (x : ak) (y : rI) (hy : imI x y) (hb : x.small 1048576) (k : Int) (hk : 0 ≤ k ∧ k ≤ 50000000000000) :
    CtM Tryz.prog G 19 [.agg (imC x y), .int .i64 k] (imO x y) (fun _ : Unit => True) (fun _ => imO (yh k x) y) (fun _ => .int .i64 (nl k x)) := by
  refine aC Tryz.func19 rfl Tryz.ntmps19 rfl rfl rfl fun w0 R gs objsR hG hR => ?_
  obtain rfl := hR.eq
  clear hR
  have h1 := jW hb.1 k
  have h2 := oB hb.2.1 (bp k x.base)
  have hm : imO (yh k x) y = cbO (en k x.base) y.1 ++ (stO (jt (bp k x.base) x.store) y.2.1 ++ ([(y.2.2.1.1, y.2.2.1.2, .row 6 ((mkL dE a8 (dL (bp k x.base) x.store) x.blocks).map (ap.tw 0)))] ++ (abb (mkL bK aV (kL a8 (dL (bp k x.base) x.store) x.blocks) x.contexts) y.2.2.2.1 ++ ([(y.2.2.2.2.1.1, y.2.2.2.2.1.2, .row 2 ((mkL dF bs (kL aV (kL a8 (dL (bp k x.base) x.store) x.blocks) x.contexts) x.processes).map (ar.tw 0)))] ++ [(y.2.2.2.2.2.1, y.2.2.2.2.2.2, .row 1 (aO (mkL gP cZ (kL bs (kL aV (kL a8 (dL (bp k x.base) x.store) x.blocks) x.contexts) x.processes) x.ready)))])))) := rfl
  rw [hm]
  unfold nl
  have c1 := lu hst x.base y.1 hy.1 hb.1 k (by omega)
  have c2 := pj hst x.store y.2.1 hy.2.1 hb.2.1 (bp k x.base) (by omega)
  generalize dL (bp k x.base) x.store = q2 at h2 c2 ⊢
  have h3 := bH (k := q2) (i := x.blocks.length) hb.2.2.1.1 (gX x.blocks) (Nat.le_refl _)
  rw [List.take_length] at h3
  have c3 := lq hst y.2.2.1.1 y.2.2.1.2 x.blocks q2 hb.2.2.1.1 (by omega)
  generalize kL a8 q2 x.blocks = q3 at h3 c3 ⊢
  have h4 := bH (k := q3) (i := x.contexts.length) hb.2.2.2.1.1 (hU hb.2.2.2.1.2) (Nat.le_refl _)
  rw [List.take_length] at h4
  have c4 := lA hst y.2.2.2.1.1.1 y.2.2.2.1.1.2 x.contexts y.2.2.2.1.2 hy.2.2 q3 hb.2.2.2.1 (by omega)
  generalize kL aV q3 x.contexts = q4 at h4 c4 ⊢
  have h5 := bH (k := q4) (i := x.processes.length) hb.2.2.2.2.1.1 (gW x.processes) (Nat.le_refl _)
  rw [List.take_length] at h5
  have c5 := lr hst y.2.2.2.2.1.1 y.2.2.2.2.1.2 x.processes q4 hb.2.2.2.2.1.1 (by omega)
  generalize kL bs q4 x.processes = q5 at h5 c5 ⊢
  have c6 := gR hst y.2.2.2.2.2.1 y.2.2.2.2.2.2 x.ready q5 hb.2.2.2.2.2.1 (by omega)
  have e0 : imO x y ++ R = cbO x.base y.1 ++ (stO x.store y.2.1 ++ ([(y.2.2.1.1, y.2.2.1.2, .row 6 (x.blocks.map (ap.tw 0)))] ++ (abb x.contexts y.2.2.2.1 ++ ([(y.2.2.2.2.1.1, y.2.2.2.2.1.2, .row 2 (x.processes.map (ar.tw 0)))] ++ ([(y.2.2.2.2.2.1, y.2.2.2.2.2.2, .row 1 (aO x.ready))] ++ R))))) := by unfold imO; simp only [List.append_assoc]
  rw [e0]
  replace c4 : CtM Tryz.prog G 70 _ (abb x.contexts y.2.2.2.1) _ (fun _ => abb (mkL bK aV q3 x.contexts) y.2.2.2.1) _ := c4
  clear hm e0
  generalize [(y.2.2.1.1, y.2.2.1.2, bu.row 6 (x.blocks.map (ap.tw 0)))] = z1 at c3 ⊢
  generalize [(y.2.2.2.2.1.1, y.2.2.2.2.1.2, bu.row 2 (x.processes.map (ar.tw 0)))] = z2 at c5 ⊢
  generalize [(y.2.2.2.2.2.1, y.2.2.2.2.2.2, bu.row 1 (aO x.ready))] = z3 at c6 ⊢
  unfold cbC at c1
  unfold stC at c2
  unfold imC
  repeat' (first | refine W_ ?_ | refine aE ?_ | ((with_reducible apply aF); rfl; kernel_rfl; (repeat (first | exact aD.nil | ((with_reducible apply aD.cons); rfl))); exact hG; exact c1; exact .app _ _; intro z hz; refine cP (qc _ _ _) ?_) | ((with_reducible apply aF); rfl; kernel_rfl; (repeat (first | exact aD.nil | ((with_reducible apply aD.cons); rfl))); exact hG; exact c2; exact .app _ _; intro z hz; refine cP (qC _ _ _ _) ?_) | ((with_reducible apply aF); rfl; kernel_rfl; (repeat (first | exact aD.nil | ((with_reducible apply aD.cons); rfl))); exact hG; exact c3; exact .app _ _; intro z hz; refine cP (z8 _ _ _ _ _) ?_) | ((with_reducible apply aF); rfl; kernel_rfl; (repeat (first | exact aD.nil | ((with_reducible apply aD.cons); rfl))); exact hG; exact c4; exact .app _ _; intro z hz; refine cP (aax _ _ _ _ _ _) ?_) | ((with_reducible apply aF); rfl; kernel_rfl; (repeat (first | exact aD.nil | ((with_reducible apply aD.cons); rfl))); exact hG; exact c5; exact .app _ _; intro z hz; refine cP (aag _ _ _ _ _ _ _) ?_) | ((with_reducible apply aF); rfl; kernel_rfl; (repeat (first | exact aD.nil | ((with_reducible apply aD.cons); rfl))); exact hG; exact c6; exact .app _ _; intro z hz) | refine c_ (fun hc => ?_) (fun hc => ?_) | refine g_ (fun hg => ?_) (fun hg => ?_))
  refine av x_ rfl () trivial rfl (.app _ R) ?_ (.tmp _ _ rfl) rfl
  simp only [List.append_assoc]
  exact aaI _ _ _ _ _ _ R
end
set_option maxRecDepth 20000
section
variable {G : World → Prop}
set_option maxHeartbeats 1000000 in
theorem vR (_hst : az G) (lo : Nat) (l : List Int) (k : Int) (hn : l.length ≤ 1048576) (hk : 0 ≤ k ∧ k ≤ 1000000000000000) : Ct Tryz.prog G 34 [.sl lo 1 (aO (mkL gP cZ k l)), .int .i64 k] (fun _ => .int .i64 (kL cZ k l)) := by
  refine ao Tryz.func34 rfl Tryz.ntmps34 rfl rfl fun w0 _ hG => ?_
  have hrl : (aO (mkL gP cZ k l)).length = l.length := by simp [aO, cL]
  have hget := fun i (h : i < l.length) => x4 (mk := gP) (nx := cZ) (k := k) h
  have hgr : ∀ i (h : i < l.length), (aO (mkL gP cZ k l))[i]? = some [.int .i64 (kL cZ k (l.take i))] := fun i h => by
    simp only [aO, List.getElem?_map, hget i h]; rfl
  generalize aO (mkL gP cZ k l) = rows at hrl hgr ⊢
  repeat' (first | refine W_ ?_ | refine c_ (fun hc => ?_) (fun hc => ?_) | refine g_ (fun hg => ?_) (fun hg => ?_))
  apply aj (X := Nat) [0] (fun x => [(5, .int .i64 (x : Int)), (1, .int .i64 (kL cZ k (l.take x)))]) (fun _ => []) (fun x => x ≤ l.length) (fun x => l.length - x) 0 (Nat.zero_le _)
  exact kp_; exact nw_
  · exact .refl _
  intro i hi
  try dsimp only
  have hq := bH (k := k) (i := i) hn (jK l) hi
  by_cases hlt : i < l.length
  · have hrow := hgr i hlt
    have hks : kL cZ k (l.take (i + 1)) = kL cZ k (l.take i) + 1 := ej hlt
    generalize kL cZ k (l.take i) = q at hq hrow hks ⊢
    have hi0 : ¬ (q) ≠ (q) := fun h => h rfl
    repeat' (first | refine V_ ?_ | ((with_reducible apply fN); rfl; kernel_rfl; (repeat (first | exact cf.nil | ((with_reducible apply cf.cons); rfl; exact .same _))); exact hG; exact _hst; (first | fail)) | ((with_reducible apply xW); rfl; kernel_rfl; (repeat (first | exact cf.nil | ((with_reducible apply cf.cons); rfl; exact .same _))); exact hG; exact _hst; (first | fail)) | refine c_ (fun hc => ?_) (fun hc => ?_) | refine g_ (fun hg => ?_) (fun hg => ?_))
    all_goals first
      | exact ah (i + 1) (by omega) (by omega) (.of _ (dw.envCons rfl (dw.envCons (fw rfl (by rw [hks])) dw.envNil)) od_ pk_)
      | (exfalso; simp_all; done)
  · obtain rfl : i = l.length := by omega
    rw [List.take_length]
    repeat' (first | refine W_ ?_ | refine c_ (fun hc => ?_) (fun hc => ?_) | refine g_ (fun hg => ?_) (fun hg => ?_))
    exact r1_
end
end Go.Proofs.YtiihihgjiklnoaaGreatDoor
