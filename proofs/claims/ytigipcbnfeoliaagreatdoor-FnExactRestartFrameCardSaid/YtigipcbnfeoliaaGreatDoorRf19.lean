/- Part 19 of the proof: the texts NiA, NiB, NiM, NiS, NiH. -/
import Derived.Test.YtigipcbnfeoliaaGreatDoorRf7
import Derived.Test.YtigipcbnfeoliaaGreatDoorRf12
import Derived.Test.YtigipcbnfeoliaaGreatDoorRf15
import Derived.Test.YtigipcbnfeoliaaGreatDoorRf16
set_option linter.all false
set_option maxHeartbeats 2000000
set_option maxRecDepth 20000
namespace Go.Proofs.YtigipcbnfeoliaaGreatDoor
open Go Go.RowKit
def nRg {α β : Type} (mk : α -> β -> List TV) (l : List α) (ps : List β) : List (List TV) := List.zipWith mk l ps
def nOg {α β : Type} (ob : α -> β -> aF) (l : List α) (ps : List β) : aF := (List.zipWith ob l ps).flatten
theorem fq {α β : Type} (mk : α -> β -> List TV) {l : List α} {ps : List β} (h : ps.length = l.length) : (nRg mk l ps).length = l.length := by simp [nRg, h]
theorem jl {α β : Type} (ob : α -> β -> aF) {l : List α} {ps : List β} {i : Nat} (h : i < l.length) (hp : ps.length = i) (p : β) : nOg ob (l.take (i + 1)) (ps ++ [p]) = nOg ob (l.take i) ps ++ ob l[i] p := by
 unfold nOg
 rw [dF h, List.zipWith_append (by simp; omega)]; simp
theorem zX {α β : Type} (mk : α -> β -> List TV) (z : List TV) {l : List α} {ps : List β} {i : Nat} (h : i < l.length) (hp : ps.length = i) (p : β) :
   (nRg mk (l.take i) ps ++ List.replicate (l.length - i) z)[i]? = some z /\ (nRg mk (l.take i) ps ++ List.replicate (l.length - i) z).set i (mk l[i] p) = nRg mk (l.take (i + 1)) (ps ++ [p]) ++ List.replicate (l.length - (i + 1)) z := by
 have hl : (nRg mk (l.take i) ps).length = i := by simp [nRg]; omega
 have e : l.length - i = (l.length - (i + 1)) + 1 := by omega
 refine ⟨?_, ?_⟩
 ·rw [List.getElem?_append_right (by omega), hl, Nat.sub_self, e, List.replicate_succ]; rfl
 ·rw [List.set_append_right _ _ (by omega), hl, Nat.sub_self, e, List.replicate_succ, List.set_cons_zero]
  unfold nRg
  rw [dF h, List.zipWith_append (by simp; omega), List.append_assoc]; rfl
theorem pG (a : Nat × Nat × aZ) (z T R : aF) : cj (a :: ((T ++ z) ++ R)) (a :: (z ++ (T ++ R))) := .perm (by
 have h : ((T ++ z) ++ R).Perm (z ++ (T ++ R)) := by
   rw [<- List.append_assoc]
   exact List.perm_append_comm.append_right R
 exact h.cons a)
theorem t8 (a : Nat × Nat × aZ) (z R : aF) : cj (a :: (z ++ R)) (z ++ (a :: R)) := .perm List.perm_middle.symm
def Pl : Type := Nat × Nat
def ce (x : au) (p : Pl × Pl) : List TV := [.int .i64 x.kind, .int .i64 x.class_, .ms p.1.1 p.1.2 0 x.fields.length, .ms p.2.1 p.2.2 0 x.numbers.length]
def cI (x : au) (p : Pl × Pl) : aF := [(p.1.1, p.1.2, .row 3 (x.fields.map (ab.tw 0))), (p.2.1, p.2.2, .row 1 (aN x.numbers))]
def bT (x : ap) (p : Pl × Pl × Pl) : List TV := [.int .i64 x.mark, .int .i64 x.code, .int .i64 x.pc, .int .i64 x.sender, .int .i64 x.outer, .int .i64 x.home, .int .i64 x.self.kind, .int .i64 x.self.number, .str x.self.text, .ms p.1.1 p.1.2 0 x.slots.length, .ms p.2.1.1 p.2.1.2 0 x.stack.length, .ms p.2.2.1 p.2.2.2 0 x.values.length, .int .i64 x.other, .bool x.retry]
def ci (x : ap) (p : Pl × Pl × Pl) : aF := [(p.1.1, p.1.2, .row 3 (x.slots.map (ab.tw 0))), (p.2.1.1, p.2.1.2, .row 3 (x.stack.map (ab.tw 0))), (p.2.2.1, p.2.2.2, .row 3 (x.values.map (ab.tw 0)))]
def ab1 (l : List au) (y : Pl × List (Pl × Pl)) : aF := (y.1.1, y.1.2, .row 4 (nRg ce l y.2)) :: nOg cI l y.2
def xW (l : List ap) (y : Pl × List (Pl × Pl × Pl)) : aF := (y.1.1, y.1.2, .row 14 (nRg bT l y.2)) :: nOg ci l y.2
def StP : Type := ((Nat × Nat) × List (Nat × Nat)) × (Pl × List (Pl × Pl)) × Pl
def stO (x : aP) (y : StP) : aF := mF x.classes y.1 ++ (ab1 x.objects y.2.1 ++ [(y.2.2.1, y.2.2.2, .row 1 (bK x.output))])
def stC (x : aP) (y : StP) : List TV := [.ms y.1.1.1 y.1.1.2 0 x.classes.length, .ms y.2.1.1.1 y.2.1.1.2 0 x.objects.length, .ms y.2.2.1 y.2.2.2 0 x.output.length, .int .i64 x.ticks, .int .i64 x.budget, .int .i64 x.made]
def stI (x : aP) (y : StP) : Prop := y.1.2.length = x.classes.length /\ y.2.1.2.length = x.objects.length
def eF : Type := CbP × StP × Pl × (Pl × List (Pl × Pl × Pl)) × Pl × Pl
def imO (x : ah) (y : eF) : aF := cbO x.base y.1 ++ (stO x.store y.2.1 ++ ([(y.2.2.1.1, y.2.2.1.2, .row 6 (x.blocks.map (ar.tw 0)))] ++ (xW x.contexts y.2.2.2.1 ++ ([(y.2.2.2.2.1.1, y.2.2.2.2.1.2, .row 2 (x.processes.map (ao.tw 0)))] ++ [(y.2.2.2.2.2.1, y.2.2.2.2.2.2, .row 1 (aN x.ready))]))))
def imC (x : ah) (y : eF) : List TV := [.ms y.1.1.1.1 y.1.1.1.2 0 x.base.classes.length, .ms y.1.2.1.1.1 y.1.2.1.1.2 0 x.base.codes.length, .ms y.1.2.2.1 y.1.2.2.2 0 x.base.entries.length, .int .i64 x.base.main,
 .ms y.2.1.1.1.1 y.2.1.1.1.2 0 x.store.classes.length, .ms y.2.1.2.1.1.1 y.2.1.2.1.1.2 0 x.store.objects.length, .ms y.2.1.2.2.1 y.2.1.2.2.2 0 x.store.output.length, .int .i64 x.store.ticks, .int .i64 x.store.budget, .int .i64 x.store.made,
 .ms y.2.2.1.1 y.2.2.1.2 0 x.blocks.length, .ms y.2.2.2.1.1.1 y.2.2.2.1.1.2 0 x.contexts.length, .ms y.2.2.2.2.1.1 y.2.2.2.2.1.2 0 x.processes.length, .ms y.2.2.2.2.2.1 y.2.2.2.2.2.2 0 x.ready.length, .int .i64 x.now, .int .i64 x.status, .int .i64 x.value.kind, .int .i64 x.value.number, .str x.value.text, .str x.fault]
def imI (x : ah) (y : eF) : Prop := cbI x.base y.1 /\ stI x.store y.2.1 /\ y.2.2.2.1.2.length = x.contexts.length
section
variable {G : World -> Prop}
theorem pJ (hst : ay G) (lo : Nat) (l : List Int) (hn : l.length <= 1048576) : CtM Tryz.prog G 44 [.sl lo 1 (aN l)] [] (fun _ : Nat × Nat => True) (fun y => [(y.1, y.2, .row 1 (aN l))]) (fun y => .ms y.1 y.2 0 l.length) := by
 refine aw Tryz.func44 rfl Tryz.ntmps44 rfl rfl rfl fun w0 R gs objsR hG hR => ?_
 obtain rfl := hR.inv0
 clear hR
 have hlen := aj l
 have h0 := eQ (fun n : Int => [TV.int .i64 n]) [.int .i64 0] l
 repeat' (first | refine W_ ?_ | (refine gn ?_; intro ss bb))
 generalize ss = so; generalize bb = bo
 apply am (X := Nat) [0, 3, 1000000] (fun i => [(4, .int .i64 (i : Int))]) (fun i => (so, bo, .row 1 (gC (fun n : Int => [TV.int .i64 n]) [.int .i64 0] l i)) :: R) (fun i => i <= l.length) (fun i => l.length - i) 0 (Nat.zero_le _)
 exact kp_; exact nw_
 ·rw [<- h0]; exact .refl _
 intro i hi
 try dsimp only
 by_cases hlt : i < l.length
 ·obtain ⟨hrow, hset⟩ := fK (fun n : Int => [TV.int .i64 n]) [.int .i64 0] hlt
  have hra : (aN l)[i]? = some [.int .i64 l[i]] := aI hlt
  generalize l[i] = x at hset hra
  try dsimp only at hset
  repeat' (first | refine W_ ?_ | refine bm ?_)
  refine ag (i + 1) (by omega) (by omega) (.of _ nw_ od_ (by rw [<- hset]; exact .refl _))
 ·obtain rfl : i = l.length := by omega
  rw [eH]
  repeat' refine W_ ?_
  exact av x_ rfl (so, bo) trivial rfl (.cons _ _ _ _ (.nil R)) pk_ (.tmp _ _ rfl) rfl
theorem fR (hst : ay G) (lo : Nat) (l : List ab) (hb : l.length <= 1048576 /\ ∀ y ∈ l, ab.small 1048576 y) : CtM Tryz.prog G 206 [.sl lo 3 (l.map (ab.tw lo))] [] (fun _ : Nat × Nat => True) (fun y => [(y.1, y.2, .row 3 (l.map (ab.tw 0)))]) (fun y => .ms y.1 y.2 0 l.length) := by
 refine aw Tryz.func206 rfl Tryz.ntmps206 rfl rfl rfl fun w0 R gs objsR hG hR => ?_
 obtain rfl := hR.inv0
 clear hR
 have hlen := ab.len lo l
 have hl1 := hb.1
 have h0 := eQ (ab.tw 0) ab.tz l
 repeat' (first | refine W_ ?_ | (refine gn ?_; intro ss bb))
 generalize ss = so; generalize bb = bo
 apply am (X := Nat) [0, 3, 1000000] (fun i => [(4, .int .i64 (i : Int))]) (fun i => (so, bo, .row 3 (gC (ab.tw 0) ab.tz l i)) :: R) (fun i => i <= l.length) (fun i => l.length - i) 0 (Nat.zero_le _)
 exact kp_; exact nw_
 ·rw [<- h0]; exact .refl _
 intro i hi
 try dsimp only
 by_cases hlt : i < l.length
 ·obtain ⟨hrow, hset⟩ := fK (ab.tw 0) ab.tz hlt
  have hra : (l.map (ab.tw lo))[i]? = some (l[i].tw lo) := aI hlt
  have hbi := hb.2 _ (List.getElem_mem hlt)
  generalize l[i] = x at hset hra hbi
  have hct := je hst lo x hbi
  unfold ab.tw at hct
  rw [show x.tw lo = [.int .i64 x.kind, .int .i64 x.number, .str x.text] from rfl] at hra
  replace hrow : (gC (ab.tw 0) ab.tz l i)[i]? = some [.int .i64 0, .int .i64 0, .str ⟨#[]⟩] := hrow
  repeat' (first | refine W_ ?_ | refine ad hG hst (hct) ?_ | refine bm ?_)
  refine ag (i + 1) (by omega) (by omega) (.of _ nw_ od_ (by rw [<- hset]; exact .refl _))
 ·obtain rfl : i = l.length := by omega
  rw [eH]
  repeat' refine W_ ?_
  exact av x_ rfl (so, bo) trivial rfl (.cons _ _ _ _ (.nil R)) pk_ (.tmp _ _ rfl) rfl
theorem pi (hst : ay G) (lo : Nat) (l : List ar) (hb : l.length <= 1048576 /\ ∀ y ∈ l, ar.small 1048576 y) : CtM Tryz.prog G 41 [.sl lo 6 (l.map (ar.tw lo))] [] (fun _ : Nat × Nat => True) (fun y => [(y.1, y.2, .row 6 (l.map (ar.tw 0)))]) (fun y => .ms y.1 y.2 0 l.length) := by
 refine aw Tryz.func41 rfl Tryz.ntmps41 rfl rfl rfl fun w0 R gs objsR hG hR => ?_
 obtain rfl := hR.inv0
 clear hR
 have hlen := ar.len lo l
 have hl1 := hb.1
 have h0 := eQ (ar.tw 0) ar.tz l
 repeat' (first | refine W_ ?_ | (refine gn ?_; intro ss bb))
 generalize ss = so; generalize bb = bo
 apply am (X := Nat) [0, 3, 1000000] (fun i => [(4, .int .i64 (i : Int))]) (fun i => (so, bo, .row 6 (gC (ar.tw 0) ar.tz l i)) :: R) (fun i => i <= l.length) (fun i => l.length - i) 0 (Nat.zero_le _)
 exact kp_; exact nw_
 ·rw [<- h0]; exact .refl _
 intro i hi
 try dsimp only
 by_cases hlt : i < l.length
 ·obtain ⟨hrow, hset⟩ := fK (ar.tw 0) ar.tz hlt
  have hra : (l.map (ar.tw lo))[i]? = some (l[i].tw lo) := aI hlt
  have hbi := hb.2 _ (List.getElem_mem hlt)
  generalize l[i] = x at hset hra hbi
  have hct := rP hst lo x hbi
  unfold ar.tw at hct
  rw [show x.tw lo = [.int .i64 x.code, .int .i64 x.outer, .int .i64 x.home, .int .i64 x.self.kind, .int .i64 x.self.number, .str x.self.text] from rfl] at hra
  replace hrow : (gC (ar.tw 0) ar.tz l i)[i]? = some [.int .i64 0, .int .i64 0, .int .i64 0, .int .i64 0, .int .i64 0, .str ⟨#[]⟩] := hrow
  repeat' (first | refine W_ ?_ | refine ad hG hst (hct) ?_ | refine bm ?_)
  refine ag (i + 1) (by omega) (by omega) (.of _ nw_ od_ (by rw [<- hset]; exact .refl _))
 ·obtain rfl : i = l.length := by omega
  rw [eH]
  repeat' refine W_ ?_
  exact av x_ rfl (so, bo) trivial rfl (.cons _ _ _ _ (.nil R)) pk_ (.tmp _ _ rfl) rfl
theorem oU (hst : ay G) (lo : Nat) (l : List ao) (hb : l.length <= 1048576 /\ ∀ y ∈ l, ao.small 1048576 y) : CtM Tryz.prog G 43 [.sl lo 2 (l.map (ao.tw lo))] [] (fun _ : Nat × Nat => True) (fun y => [(y.1, y.2, .row 2 (l.map (ao.tw 0)))]) (fun y => .ms y.1 y.2 0 l.length) := by
 refine aw Tryz.func43 rfl Tryz.ntmps43 rfl rfl rfl fun w0 R gs objsR hG hR => ?_
 obtain rfl := hR.inv0
 clear hR
 have hlen := ao.len lo l
 have hl1 := hb.1
 have h0 := eQ (ao.tw 0) ao.tz l
 repeat' (first | refine W_ ?_ | (refine gn ?_; intro ss bb))
 generalize ss = so; generalize bb = bo
 apply am (X := Nat) [0, 3, 1000000] (fun i => [(4, .int .i64 (i : Int))]) (fun i => (so, bo, .row 2 (gC (ao.tw 0) ao.tz l i)) :: R) (fun i => i <= l.length) (fun i => l.length - i) 0 (Nat.zero_le _)
 exact kp_; exact nw_
 ·rw [<- h0]; exact .refl _
 intro i hi
 try dsimp only
 by_cases hlt : i < l.length
 ·obtain ⟨hrow, hset⟩ := fK (ao.tw 0) ao.tz hlt
  have hra : (l.map (ao.tw lo))[i]? = some (l[i].tw lo) := aI hlt
  have hbi := hb.2 _ (List.getElem_mem hlt)
  generalize l[i] = x at hset hra hbi
  have hct := ui hst lo x hbi
  unfold ao.tw at hct
  rw [show x.tw lo = [.int .i64 x.at_, .bool x.main] from rfl] at hra
  replace hrow : (gC (ao.tw 0) ao.tz l i)[i]? = some [.int .i64 0, .bool false] := hrow
  repeat' (first | refine W_ ?_ | refine ad hG hst (hct) ?_ | refine bm ?_)
  refine ag (i + 1) (by omega) (by omega) (.of _ nw_ od_ (by rw [<- hset]; exact .refl _))
 ·obtain rfl : i = l.length := by omega
  rw [eH]
  repeat' refine W_ ?_
  exact av x_ rfl (so, bo) trivial rfl (.cons _ _ _ _ (.nil R)) pk_ (.tmp _ _ rfl) rfl
theorem tG (hst : ay G) (lo : Nat) (x : au) (hb : x.small 1048576) : CtM Tryz.prog G 205 [.agg [.int .i64 x.kind, .int .i64 x.class_, .sl lo 3 (x.fields.map (ab.tw lo)), .sl lo 1 (aN x.numbers)]] [] (fun _ : Pl × Pl => True) (fun y => cI x y) (fun y => .agg (ce x y)) := by
 refine aw Tryz.func205 rfl Tryz.ntmps205 rfl rfl rfl fun w0 R gs objsR hG hR => ?_
 obtain rfl := hR.inv0
 clear hR
 have h1 := fR hst lo x.fields hb.1
 have h2 := pJ hst lo x.numbers hb.2
 unfold cI ce
 repeat' (first | refine W_ ?_ | refine aH ?_ | (refine ak ?_; intro ss bb) | refine ac ?_ | ((with_reducible apply aG); rfl; kernel_rfl; (repeat (first | exact aE.nil | ((with_reducible apply aE.cons); rfl))); exact hG; exact h1; exact .nil _; intro y1 hy1; refine bE ?_) | ((with_reducible apply aG); rfl; kernel_rfl; (repeat (first | exact aE.nil | ((with_reducible apply aE.cons); rfl))); exact hG; exact h2; exact .nil _; intro y2 hy2; refine bE ?_))
 refine av x_ rfl (y1, y2) trivial rfl (.cons _ _ _ _ (.cons _ _ _ _ (.nil R))) pk_ (.cell _ _ _ _ _ rfl mm_ (by kernel_rfl) (by kernel_rfl) (by kernel_rfl)) rfl
theorem rg (hst : ay G) (lo : Nat) (l : List au) (hb : l.length <= 1048576 /\ ∀ y ∈ l, au.small 1048576 y) : CtM Tryz.prog G 119 [.sl lo 4 (l.map (au.tw lo))] [] (fun y : Pl × List (Pl × Pl) => y.2.length = l.length) (fun y => ab1 l y) (fun y => .ms y.1.1 y.1.2 0 l.length) := by
 refine aw Tryz.func119 rfl Tryz.ntmps119 rfl rfl rfl fun w0 R gs objsR hG hR => ?_
 obtain rfl := hR.inv0
 clear hR
 have hlen := au.len lo l
 have hl1 := hb.1
 have h0 : List.replicate l.length au.tz = nRg ce (l.take 0) [] ++ List.replicate (l.length - 0) au.tz := by simp [nRg]
 repeat' (first | refine W_ ?_ | (refine gn ?_; intro ss bb))
 generalize ss = so; generalize bb = bo
 apply am (X := Nat × List (Pl × Pl)) [0, 3, 1000000] (fun x => [(4, .int .i64 (x.1 : Int))]) (fun x => (so, bo, .row 4 (nRg ce (l.take x.1) x.2 ++ List.replicate (l.length - x.1) au.tz)) :: (nOg cI (l.take x.1) x.2 ++ R)) (fun x => x.1 <= l.length /\ x.2.length = x.1) (fun x => l.length - x.1) (0, []) ⟨Nat.zero_le _, rfl⟩
 exact kp_; exact nw_
 ·rw [<- h0]; exact .refl _
 rintro ⟨i, ps⟩ ⟨hi, hps⟩
 dsimp only at hi hps |-
 by_cases hlt : i < l.length
 ·have hrs := fun p => zX ce au.tz hlt hps p
  have hos := fun p => jl cI hlt hps p
  have hra : (l.map (au.tw lo))[i]? = some (l[i].tw lo) := aI hlt
  have hbi := hb.2 _ (List.getElem_mem hlt)
  generalize l[i] = x at hrs hos hra hbi
  have hct := tG hst lo x hbi
  rw [show x.tw lo = [.int .i64 x.kind, .int .i64 x.class_, .sl lo 3 (x.fields.map (ab.tw lo)), .sl lo 1 (aN x.numbers)] from rfl] at hra
  have hrow : (nRg ce (l.take i) ps ++ List.replicate (l.length - i) au.tz)[i]? = some [.int .i64 0, .int .i64 0, .nils, .nils] := (hrs ((0, 0), (0, 0))).1
  generalize nOg cI (l.take i) ps = T at hos |-
  unfold ce at hct
  repeat' (first | refine W_ ?_ | ((with_reducible apply aG); rfl; kernel_rfl; (repeat (first | exact aE.nil | ((with_reducible apply aE.cons); rfl))); exact hG; exact hct; exact .nil _; intro y hy; refine cL (t8 _ _ _) ?_) | refine bm ?_)
  refine ag (i + 1, ps ++ [y]) ⟨by dsimp only; omega, by dsimp only; simp [hps]⟩ (by dsimp only; omega) (.of _ nw_ od_ ?_)
  dsimp only
  rw [hos y, <- (hrs y).2]
  exact pG _ _ T R
 ·obtain rfl : i = l.length := by omega
  rw [List.take_of_length_le (Nat.le_refl _), Nat.sub_self, List.replicate_zero, List.append_nil]
  repeat' refine W_ ?_
  exact av x_ rfl ((so, bo), ps) hps rfl (.cons _ _ _ _ (.app _ R)) (.refl _) (.tmp _ _ rfl) rfl
theorem qL (hst : ay G) (lo : Nat) (x : ap) (hb : x.small 1048576) : CtM Tryz.prog G 122 [.agg [.int .i64 x.mark, .int .i64 x.code, .int .i64 x.pc, .int .i64 x.sender, .int .i64 x.outer, .int .i64 x.home, .int .i64 x.self.kind, .int .i64 x.self.number, .str x.self.text, .sl lo 3 (x.slots.map (ab.tw lo)), .sl lo 3 (x.stack.map (ab.tw lo)), .sl lo 3 (x.values.map (ab.tw lo)), .int .i64 x.other, .bool x.retry]] [] (fun _ : Pl × Pl × Pl => True) (fun y => ci x y) (fun y => .agg (bT x y)) := by
 refine aw Tryz.func122 rfl Tryz.ntmps122 rfl rfl rfl fun w0 R gs objsR hG hR => ?_
 obtain rfl := hR.inv0
 clear hR
 have h1 := fR hst lo x.slots hb.2.1
 have h2 := fR hst lo x.stack hb.2.2.1
 have h3 := fR hst lo x.values hb.2.2.2
 have hvc := je hst lo x.self hb.1
 unfold ab.tw at hvc
 unfold ci bT
 repeat' (first | refine W_ ?_ | refine aH ?_ | (refine ak ?_; intro ss bb) | refine ac ?_ | refine ad hG hst (hvc) ?_ | ((with_reducible apply aG); rfl; kernel_rfl; (repeat (first | exact aE.nil | ((with_reducible apply aE.cons); rfl))); exact hG; exact h1; exact .nil _; intro y1 hy1; refine bE ?_) | ((with_reducible apply aG); rfl; kernel_rfl; (repeat (first | exact aE.nil | ((with_reducible apply aE.cons); rfl))); exact hG; exact h2; exact .nil _; intro y2 hy2; refine bE ?_) | ((with_reducible apply aG); rfl; kernel_rfl; (repeat (first | exact aE.nil | ((with_reducible apply aE.cons); rfl))); exact hG; exact h3; exact .nil _; intro y3 hy3; refine bE ?_))
 refine av x_ rfl (y1, y2, y3) trivial rfl (.cons _ _ _ _ (.cons _ _ _ _ (.cons _ _ _ _ (.nil R)))) pk_ (.cell _ _ _ _ _ rfl mm_ (by kernel_rfl) (by kernel_rfl) (by kernel_rfl)) rfl
theorem px (hst : ay G) (lo : Nat) (l : List ap) (hb : l.length <= 1048576 /\ ∀ y ∈ l, ap.small 1048576 y) : CtM Tryz.prog G 42 [.sl lo 14 (l.map (ap.tw lo))] [] (fun y : Pl × List (Pl × Pl × Pl) => y.2.length = l.length) (fun y => xW l y) (fun y => .ms y.1.1 y.1.2 0 l.length) := by
 refine aw Tryz.func42 rfl Tryz.ntmps42 rfl rfl rfl fun w0 R gs objsR hG hR => ?_
 obtain rfl := hR.inv0
 clear hR
 have hlen := ap.len lo l
 have hl1 := hb.1
 have h0 : List.replicate l.length ap.tz = nRg bT (l.take 0) [] ++ List.replicate (l.length - 0) ap.tz := by simp [nRg]
 repeat' (first | refine W_ ?_ | (refine gn ?_; intro ss bb))
 generalize ss = so; generalize bb = bo
 apply am (X := Nat × List (Pl × Pl × Pl)) [0, 3, 1000000] (fun x => [(4, .int .i64 (x.1 : Int))]) (fun x => (so, bo, .row 14 (nRg bT (l.take x.1) x.2 ++ List.replicate (l.length - x.1) ap.tz)) :: (nOg ci (l.take x.1) x.2 ++ R)) (fun x => x.1 <= l.length /\ x.2.length = x.1) (fun x => l.length - x.1) (0, []) ⟨Nat.zero_le _, rfl⟩
 exact kp_; exact nw_
 ·rw [<- h0]; exact .refl _
 rintro ⟨i, ps⟩ ⟨hi, hps⟩
 dsimp only at hi hps |-
 by_cases hlt : i < l.length
 ·have hrs := fun p => zX bT ap.tz hlt hps p
  have hos := fun p => jl ci hlt hps p
  have hra : (l.map (ap.tw lo))[i]? = some (l[i].tw lo) := aI hlt
  have hbi := hb.2 _ (List.getElem_mem hlt)
  generalize l[i] = x at hrs hos hra hbi
  have hct := qL hst lo x hbi
  rw [show x.tw lo = [.int .i64 x.mark, .int .i64 x.code, .int .i64 x.pc, .int .i64 x.sender, .int .i64 x.outer, .int .i64 x.home, .int .i64 x.self.kind, .int .i64 x.self.number, .str x.self.text, .sl lo 3 (x.slots.map (ab.tw lo)), .sl lo 3 (x.stack.map (ab.tw lo)), .sl lo 3 (x.values.map (ab.tw lo)), .int .i64 x.other, .bool x.retry] from rfl] at hra
  have hrow : (nRg bT (l.take i) ps ++ List.replicate (l.length - i) ap.tz)[i]? = some [.int .i64 0, .int .i64 0, .int .i64 0, .int .i64 0, .int .i64 0, .int .i64 0, .int .i64 0, .int .i64 0, .str ⟨#[]⟩, .nils, .nils, .nils, .int .i64 0, .bool false] := (hrs ((0, 0), (0, 0), (0, 0))).1
  generalize nOg ci (l.take i) ps = T at hos |-
  unfold bT at hct
  repeat' (first | refine W_ ?_ | ((with_reducible apply aG); rfl; kernel_rfl; (repeat (first | exact aE.nil | ((with_reducible apply aE.cons); rfl))); exact hG; exact hct; exact .nil _; intro y hy; refine cL (t8 _ _ _) ?_) | refine bm ?_)
  refine ag (i + 1, ps ++ [y]) ⟨by dsimp only; omega, by dsimp only; simp [hps]⟩ (by dsimp only; omega) (.of _ nw_ od_ ?_)
  dsimp only
  rw [hos y, <- (hrs y).2]
  exact pG _ _ T R
 ·obtain rfl : i = l.length := by omega
  rw [List.take_of_length_le (Nat.le_refl _), Nat.sub_self, List.replicate_zero, List.append_nil]
  repeat' refine W_ ?_
  exact av x_ rfl ((so, bo), ps) hps rfl (.cons _ _ _ _ (.app _ R)) (.refl _) (.tmp _ _ rfl) rfl
end
theorem nP (A L R : aF) : ((A ++ L) ++ R).Perm (L ++ (A ++ R)) := by
 rw [List.append_assoc]
 exact List.perm_append_comm_assoc A L R
theorem abQ (A B C D E F R : aF) : ((A ++ (B ++ (C ++ (D ++ (E ++ F))))) ++ R).Perm (F ++ (E ++ (D ++ (C ++ (B ++ (A ++ R)))))) :=
 (nP A _ R).trans ((nP B _ _).trans ((nP C _ _).trans ((nP D _ _).trans (nP E _ _))))
section
variable {G : World -> Prop}
theorem uR (hst : ay G) (lo : Nat) (x : aP) (hb : x.small 1048576) : CtM Tryz.prog G 40 [.agg (x.tw lo)] [] (stI x) (stO x) (fun y => .agg (stC x y)) := by
 refine aw Tryz.func40 rfl Tryz.ntmps40 rfl rfl rfl fun w0 R gs objsR hG hR => ?_
 obtain rfl := hR.inv0
 clear hR
 have c1 := ik hst lo x.classes hb.1
 have c2 := rg hst lo x.objects hb.2.1
 have c3 := ks hst lo x.output hb.2.2.1
 unfold aP.tw
 repeat' (first | refine W_ ?_ | refine aH ?_ | (refine ak ?_; intro ss bb) | refine ac ?_ | ((with_reducible apply aG); rfl; kernel_rfl; (repeat (first | exact aE.nil | ((with_reducible apply aE.cons); rfl))); exact hG; (first | exact c1 | exact c2 | exact c3); exact .nil _; intro y hy; refine cL (iE _ _ _ _) ?_))
 rename_i yc hyc yd hyd
 refine av (t1 := .agg [.ms yc.1.1 yc.1.2 0 x.classes.length, .ms yd.1.1 yd.1.2 0 x.objects.length, .ms y.1 y.2 0 x.output.length, .int .i64 x.ticks, .int .i64 x.budget, .int .i64 x.made]) x_ rfl (yc, yd, y) ⟨hyc, hyd⟩ rfl (.app _ R) (.drop (.drop (.perm (vm _ _ _ R)))) (.cell _ _ _ _ _ rfl mm_ (by kernel_rfl) (by kernel_rfl) (by kernel_rfl)) rfl
theorem nu (hst : ay G) (lo : Nat) (x : ah) (hb : x.small 1048576) : CtM Tryz.prog G 10 [.agg (x.tw lo)] [] (imI x) (imO x) (fun y => .agg (imC x y)) := by
 refine aw Tryz.func10 rfl Tryz.ntmps10 rfl rfl rfl fun w0 R gs objsR hG hR => ?_
 obtain rfl := hR.inv0
 clear hR
 have c1 := oV hst lo x.base hb.1
 have c2 := uR hst lo x.store hb.2.1
 have c3 := pi hst lo x.blocks hb.2.2.1
 have c4 := px hst lo x.contexts hb.2.2.2.1
 have c5 := oU hst lo x.processes hb.2.2.2.2.1
 have c6 := pJ hst lo x.ready hb.2.2.2.2.2.1
 have c7 := je hst lo x.value hb.2.2.2.2.2.2.1
 unfold aD.tw cbC at c1
 unfold aP.tw stC at c2
 unfold ab.tw at c7
 unfold ah.tw
 repeat' (first | refine W_ ?_ | refine aH ?_ | (refine ak ?_; intro ss bb) | refine ac ?_ | refine ad hG hst (c7) ?_ | ((with_reducible apply aG); rfl; kernel_rfl; (repeat (first | exact aE.nil | ((with_reducible apply aE.cons); rfl))); exact hG; (first | exact c1 | exact c2 | exact c3 | exact c4 | exact c5 | exact c6); exact .nil _; intro y hy; refine cL (iE _ _ _ _) ?_))
 rename_i y1 h1 y2 h2 y3 h3 y4 h4 y5 h5
 refine av (t1 := .agg [.ms y1.1.1.1 y1.1.1.2 0 x.base.classes.length, .ms y1.2.1.1.1 y1.2.1.1.2 0 x.base.codes.length, .ms y1.2.2.1 y1.2.2.2 0 x.base.entries.length, .int .i64 x.base.main, .ms y2.1.1.1 y2.1.1.2 0 x.store.classes.length, .ms y2.2.1.1.1 y2.2.1.1.2 0 x.store.objects.length, .ms y2.2.2.1 y2.2.2.2 0 x.store.output.length, .int .i64 x.store.ticks, .int .i64 x.store.budget, .int .i64 x.store.made, .ms y3.1 y3.2 0 x.blocks.length, .ms y4.1.1 y4.1.2 0 x.contexts.length, .ms y5.1 y5.2 0 x.processes.length, .ms y.1 y.2 0 x.ready.length, .int .i64 x.now, .int .i64 x.status, .int .i64 x.value.kind, .int .i64 x.value.number, .str x.value.text, .str x.fault]) x_ rfl (y1, y2, y3, y4, y5, y) ⟨h1, h2, h4⟩ rfl (.app _ R) (.drop (.drop (.perm (abQ _ _ _ _ _ _ R)))) (.cell _ _ _ _ _ rfl mm_ (by kernel_rfl) (by kernel_rfl) (by kernel_rfl)) rfl
end
theorem uO {α β : Type} (mk : α -> β -> List TV) {l : List α} {ps : List β} {i : Nat} {p : β} {x : α} (hx : l[i]? = some x) (hp : ps[i]? = some p) : (nRg mk l ps)[i]? = some (mk x p) := by
 unfold nRg
 rw [List.getElem?_zipWith, hx, hp]
theorem aau {α β : Type} (mk : α -> β -> List TV) {l : List α} {ps : List β} {i : Nat} {p : β} {x : α} (hp : ps[i]? = some p) : nRg mk (l.set i x) ps = (nRg mk l ps).set i (mk x p) := oI mk hp
theorem jV {a b : List aF} (h : a.Perm b) : a.flatten.Perm b.flatten := by
 induction h with
 | nil => exact .refl _
 | cons x _ ih => exact ih.append_left x
 | swap x y l => exact List.perm_append_comm_assoc y x l.flatten
 | trans _ _ h1 h2 => exact h1.trans h2
def ngE {α β : Type} (ob : α -> β -> aF) (l : List α) (ps : List β) (i : Nat) : aF := ((List.zipWith ob l ps).eraseIdx i).flatten
theorem oE {α β : Type} (ob : α -> β -> aF) {l : List α} {ps : List β} {i : Nat} {p : β} {x : α} (hx : l[i]? = some x) (hp : ps[i]? = some p) : (nOg ob l ps).Perm (ob x p ++ ngE ob l ps i) := by
 have h := jV (rj (l := List.zipWith ob l ps) (i := i) (x := ob x p) (by rw [List.getElem?_zipWith, hx, hp]))
 simpa [nOg, ngE] using h
theorem acC {α β : Type} (ob : α -> β -> aF) {l : List α} {ps : List β} {i : Nat} {p : β} {x : α} (hl : i < l.length) (hp : ps[i]? = some p) : (nOg ob (l.set i x) ps).Perm (ob x p ++ ngE ob l ps i) := by
 have h := oE ob (l := l.set i x) (ps := ps) (i := i) (p := p) (x := x) (by rw [List.getElem?_set_self hl]) hp
 have e : ngE ob (l.set i x) ps i = ngE ob l ps i := by
   unfold ngE
   rw [oI _ hp, j5]
 rw [e] at h
 exact h
theorem adI (A B : List aF) (s : aF) : cj (s :: (A ++ B)).flatten (A ++ s :: B).flatten := .perm (jV List.perm_middle).symm
theorem aai {a z1 z2 : Nat × Nat × aZ} {N E : aF} (h : N.Perm ([z1, z2] ++ E)) (R : aF) : cj (z1 :: z2 :: a :: (E ++ R)) (a :: (N ++ R)) := .perm (by
 have h1 : (a :: (N ++ R)).Perm (a :: (([z1, z2] ++ E) ++ R)) := (h.append_right R).cons a
 exact (List.perm_middle (l₁ := [z1, z2]) (l₂ := E ++ R) (a := a)).trans h1.symm)
theorem abe {a z1 z2 : Nat × Nat × aZ} {N E : aF} (h : N.Perm ([z1, z2] ++ E)) (R : aF) : cj (a :: (N ++ R)) (z2 :: z1 :: a :: (E ++ R)) := .perm (by
 have h1 : (a :: (N ++ R)).Perm (a :: (([z1, z2] ++ E) ++ R)) := (h.append_right R).cons a
 exact h1.trans ((List.perm_middle (l₁ := [z1, z2]) (l₂ := E ++ R) (a := a)).symm.trans (List.Perm.swap _ _ _)))
theorem zA {a z1 z2 z3 : Nat × Nat × aZ} {N E : aF} (h : N.Perm ([z1, z2, z3] ++ E)) (R : aF) : cj (z1 :: z2 :: z3 :: a :: (E ++ R)) (a :: (N ++ R)) := .perm (by
 have h1 : (a :: (N ++ R)).Perm (a :: (([z1, z2, z3] ++ E) ++ R)) := (h.append_right R).cons a
 exact (List.perm_middle (l₁ := [z1, z2, z3]) (l₂ := E ++ R) (a := a)).trans h1.symm)
theorem abM {a z1 z2 z3 : Nat × Nat × aZ} {N E : aF} (h : N.Perm ([z1, z2, z3] ++ E)) (R : aF) : cj (a :: (N ++ R)) (z3 :: z2 :: z1 :: a :: (E ++ R)) := .perm (by
 have h1 : (a :: (N ++ R)).Perm (a :: (([z1, z2, z3] ++ E) ++ R)) := (h.append_right R).cons a
 have h2 : (z3 :: z2 :: z1 :: a :: (E ++ R)).Perm (z1 :: z2 :: z3 :: a :: (E ++ R)) := ((List.Perm.swap z2 z3 _).trans ((List.Perm.swap z1 z3 _).cons z2)).trans ((List.Perm.swap z1 z2 _))
 exact h1.trans ((List.perm_middle (l₁ := [z1, z2, z3]) (l₂ := E ++ R) (a := a)).symm.trans h2.symm))
theorem acr (z1 z2 z3 : Nat × Nat × aZ) (R : aF) : cj (z3 :: z2 :: z1 :: R) (z2 :: z1 :: z3 :: R) := .perm (List.perm_middle (l₁ := [z2, z1]) (l₂ := R) (a := z3)).symm
def iy (k : Int) (_ : Int) : Int := k
def dp (k : Int) (_ : Int) : Int := k + 1
theorem jb (l : List Int) : ∀ x ∈ l, ∀ q, q <= dp q x /\ dp q x <= q + (1 : Nat) := fun x _ q => by unfold dp; omega
def cM (k : Int) (_ : ab) : ab := ⟨k, k + 1, dB (k + 1 + 1)⟩
def aA (k : Int) (_ : ab) : Int := k + 1 + 1 + 1
theorem cg (l : List ab) : ∀ x ∈ l, ∀ q, q <= aA q x /\ aA q x <= q + (3 : Nat) := fun x _ q => by unfold aA; omega
def cC (k : Int) (_ : ar) : ar := ⟨k, k + 1, k + 1 + 1, ⟨k + 1 + 1 + 1, k + 1 + 1 + 1 + 1, dB (k + 1 + 1 + 1 + 1 + 1)⟩⟩
def aM (k : Int) (_ : ar) : Int := k + 1 + 1 + 1 + 1 + 1 + 1
theorem e8 (l : List ar) : ∀ x ∈ l, ∀ q, q <= aM q x /\ aM q x <= q + (6 : Nat) := fun x _ q => by unfold aM; omega
def cy (k : Int) (_ : ao) : ao := ⟨k, decide ((k + 1).tmod 3 = 0)⟩
def aR (k : Int) (_ : ao) : Int := k + 1 + 1
theorem fd (l : List ao) : ∀ x ∈ l, ∀ q, q <= aR q x /\ aR q x <= q + (2 : Nat) := fun x _ q => by unfold aR; omega
def bL (k : Int) (x : au) : au := ⟨k, k + 1, mkL cM aA (k + 1 + 1) x.fields, mkL iy dp (kL aA (k + 1 + 1) x.fields) x.numbers⟩
def aT (k : Int) (x : au) : Int := kL dp (kL aA (k + 1 + 1) x.fields) x.numbers
theorem fA {l : List au} (h : ∀ y ∈ l, au.small 1048576 y) : ∀ x ∈ l, ∀ q, q <= aT q x /\ aT q x <= q + (4194306 : Nat) := fun x hx q => by
 have h1 := h x hx
 have h2 := h1.1.1
 have h3 := h1.2
 have h4 := gl (nx := aA) (l := x.fields) (k := q + 1 + 1) (cg _)
 have h5 := gl (nx := dp) (l := x.numbers) (k := kL aA (q + 1 + 1) x.fields) (jb _)
 unfold aT
 omega
def k9 (k : Int) : Int := k + 1 + 1 + 1 + 1 + 1 + 1 + 1 + 1 + 1
def bs (k : Int) (x : ap) : ap := ⟨k, k + 1, k + 1 + 1, k + 1 + 1 + 1, k + 1 + 1 + 1 + 1, k + 1 + 1 + 1 + 1 + 1, ⟨k + 1 + 1 + 1 + 1 + 1 + 1, k + 1 + 1 + 1 + 1 + 1 + 1 + 1, dB (k + 1 + 1 + 1 + 1 + 1 + 1 + 1 + 1)⟩, mkL cM aA (k9 k) x.slots, mkL cM aA (kL aA (k9 k) x.slots) x.stack, mkL cM aA (kL aA (kL aA (k9 k) x.slots) x.stack) x.values, kL aA (kL aA (kL aA (k9 k) x.slots) x.stack) x.values, decide ((kL aA (kL aA (kL aA (k9 k) x.slots) x.stack) x.values + 1).tmod 3 = 0)⟩
def aO (k : Int) (x : ap) : Int := kL aA (kL aA (kL aA (k9 k) x.slots) x.stack) x.values + 1 + 1
theorem fc {l : List ap} (h : ∀ y ∈ l, ap.small 1048576 y) : ∀ x ∈ l, ∀ q, q <= aO q x /\ aO q x <= q + (9437195 : Nat) := fun x hx q => by
 have h1 := h x hx
 have h2 := h1.2.1.1
 have h3 := h1.2.2.1.1
 have h4 := h1.2.2.2.1
 have h5 := gl (nx := aA) (l := x.slots) (k := k9 q) (cg _)
 have h6 := gl (nx := aA) (l := x.stack) (k := kL aA (k9 q) x.slots) (cg _)
 have h7 := gl (nx := aA) (l := x.values) (k := kL aA (kL aA (k9 q) x.slots) x.stack) (cg _)
 have h8 : k9 q = q + 9 := by unfold k9; omega
 unfold aO
 omega
section
variable {G : World -> Prop}
theorem ma (hst : ay G) (s b : Nat) (l : List Int) (k : Int) (hn : l.length <= 1048576) (hk : 0 <= k /\ k <= 1000000000000000) : CtM Tryz.prog G 65 [.ms s b 0 l.length, .int .i64 k] [(s, b, .row 1 (aN (l)))] (fun _ : Unit => True) (fun _ => [(s, b, .row 1 (aN (mkL iy dp k l)))]) (fun _ => .int .i64 (kL dp k l)) := by
 refine aw Tryz.func65 rfl Tryz.ntmps65 rfl rfl rfl fun w0 R gs objsR hG hR => ?_
 obtain rfl := hR.inv1
 clear hR
 repeat' refine W_ ?_
 apply am (X := Nat) [0, 1000000] (fun x => [(5, .int .i64 (x : Int)), (1, .int .i64 (kL dp k (l.take x)))]) (fun x => (s, b, .row 1 (aN (ptL iy dp k l x))) :: R) (fun x => x <= l.length) (fun x => l.length - x) 0 (Nat.zero_le _)
 exact kp_; exact nw_
 ·exact .refl _
 intro i hi
 try dsimp only
 have hq := aS (k := k) (i := i) hn (jb l) hi
 by_cases hlt : i < l.length
 ·have hrow : (aN (ptL iy dp k l i))[i]? = some ((fun n : Int => [TV.int .i64 n]) l[i]) := by
    simp only [aN, List.getElem?_map, dU hlt]; rfl
  have hset : (aN (ptL iy dp k l i)).set i ((fun n : Int => [TV.int .i64 n]) (iy (kL dp k (l.take i)) l[i])) = aN (ptL iy dp k l (i + 1)) := by
    rw [<- fE hlt]; simp [aN, List.map_set]
  have hks := cF (nx := dp) (k := k) hlt
  have hrl : (aN (ptL iy dp k l i)).length = l.length := by simp [aN, de hi]
  generalize aN (ptL iy dp k l i) = rows at hrow hset hrl |-
  generalize kL dp k (l.take i) = q at hq hset hks |-
  generalize l[i] = x at hrow hset hks
  replace hrow : rows[i]? = some [.int .i64 x] := hrow
  have hks2 : kL dp k (l.take (i + 1)) = q + 1 := hks
  repeat' (first | refine W_ ?_ | refine bm ?_)
  refine ag (i + 1) (by omega) (by omega) (.of _ (cD.envCons rfl (cD.envCons (dx rfl (by rw [hks2])) cD.envNil)) od_ ?_)
  rw [<- hset]
  (try simp only [List.set_set])
  exact .refl _
 ·obtain rfl : i = l.length := by omega
  rw [ef, List.take_length]
  repeat' refine W_ ?_
  exact av x_ rfl () trivial rfl (.cons _ _ _ _ (.nil R)) pk_ (.tmp _ _ rfl) rfl
theorem eY (hst : ay G) (s b : Nat) (l : List ab) (k : Int) (hn : l.length <= 1048576) (hk : 0 <= k /\ k <= 1000000000000000) : CtM Tryz.prog G 139 [.ms s b 0 l.length, .int .i64 k] [(s, b, .row 3 ((l).map (ab.tw 0)))] (fun _ : Unit => True) (fun _ => [(s, b, .row 3 ((mkL cM aA k l).map (ab.tw 0)))]) (fun _ => .int .i64 (kL aA k l)) := by
 refine aw Tryz.func139 rfl Tryz.ntmps139 rfl rfl rfl fun w0 R gs objsR hG hR => ?_
 obtain rfl := hR.inv1
 clear hR
 repeat' refine W_ ?_
 apply am (X := Nat) [0, 1000000] (fun x => [(5, .int .i64 (x : Int)), (1, .int .i64 (kL aA k (l.take x)))]) (fun x => (s, b, .row 3 ((ptL cM aA k l x).map (ab.tw 0))) :: R) (fun x => x <= l.length) (fun x => l.length - x) 0 (Nat.zero_le _)
 exact kp_; exact nw_
 ·exact .refl _
 intro i hi
 try dsimp only
 have hq := aS (k := k) (i := i) hn (cg l) hi
 by_cases hlt : i < l.length
 ·have hrow : ((ptL cM aA k l i).map (ab.tw 0))[i]? = some ((ab.tw 0) l[i]) := by
    simp only [aN, List.getElem?_map, dU hlt]; rfl
  have hset : ((ptL cM aA k l i).map (ab.tw 0)).set i ((ab.tw 0) (cM (kL aA k (l.take i)) l[i])) = (ptL cM aA k l (i + 1)).map (ab.tw 0) := by
    rw [<- fE hlt]; rw [List.map_set]
  have hks := cF (nx := aA) (k := k) hlt
  have hrl : ((ptL cM aA k l i).map (ab.tw 0)).length = l.length := by simp [aN, de hi]
  generalize (ptL cM aA k l i).map (ab.tw 0) = rows at hrow hset hrl |-
  generalize kL aA k (l.take i) = q at hq hset hks |-
  generalize l[i] = x at hrow hset hks
  replace hrow : rows[i]? = some [.int .i64 x.kind, .int .i64 x.number, .str x.text] := hrow
  have hr1 : (rows.set i [.int .i64 q, .int .i64 x.number, .str x.text])[i]? = some [.int .i64 q, .int .i64 x.number, .str x.text] := by rw [List.getElem?_set_self (by omega)]
  have hks2 : kL aA k (l.take (i + 1)) = q + 1 + 1 + 1 := hks
  repeat' (first | refine W_ ?_ | refine bm ?_ | ((with_reducible apply lO); rfl; kernel_rfl; (repeat (first | exact bS.nil | ((with_reducible apply bS.cons); rfl; exact .same _))); exact hG; exact hst; exact bO _ (by omega) (by omega)))
  refine ag (i + 1) (by omega) (by omega) (.of _ (cD.envCons rfl (cD.envCons (dx rfl (by rw [hks2])) cD.envNil)) od_ ?_)
  rw [<- hset]
  (try simp only [List.set_set])
  exact .refl _
 ·obtain rfl : i = l.length := by omega
  rw [ef, List.take_length]
  repeat' refine W_ ?_
  exact av x_ rfl () trivial rfl (.cons _ _ _ _ (.nil R)) pk_ (.tmp _ _ rfl) rfl
theorem mw (hst : ay G) (s b : Nat) (l : List ar) (k : Int) (hn : l.length <= 1048576) (hk : 0 <= k /\ k <= 1000000000000000) : CtM Tryz.prog G 62 [.ms s b 0 l.length, .int .i64 k] [(s, b, .row 6 ((l).map (ar.tw 0)))] (fun _ : Unit => True) (fun _ => [(s, b, .row 6 ((mkL cC aM k l).map (ar.tw 0)))]) (fun _ => .int .i64 (kL aM k l)) := by
 refine aw Tryz.func62 rfl Tryz.ntmps62 rfl rfl rfl fun w0 R gs objsR hG hR => ?_
 obtain rfl := hR.inv1
 clear hR
 repeat' refine W_ ?_
 apply am (X := Nat) [0, 1000000] (fun x => [(5, .int .i64 (x : Int)), (1, .int .i64 (kL aM k (l.take x)))]) (fun x => (s, b, .row 6 ((ptL cC aM k l x).map (ar.tw 0))) :: R) (fun x => x <= l.length) (fun x => l.length - x) 0 (Nat.zero_le _)
 exact kp_; exact nw_
 ·exact .refl _
 intro i hi
 try dsimp only
 have hq := aS (k := k) (i := i) hn (e8 l) hi
 by_cases hlt : i < l.length
 ·have hrow : ((ptL cC aM k l i).map (ar.tw 0))[i]? = some ((ar.tw 0) l[i]) := by
    simp only [aN, List.getElem?_map, dU hlt]; rfl
  have hset : ((ptL cC aM k l i).map (ar.tw 0)).set i ((ar.tw 0) (cC (kL aM k (l.take i)) l[i])) = (ptL cC aM k l (i + 1)).map (ar.tw 0) := by
    rw [<- fE hlt]; rw [List.map_set]
  have hks := cF (nx := aM) (k := k) hlt
  have hrl : ((ptL cC aM k l i).map (ar.tw 0)).length = l.length := by simp [aN, de hi]
  generalize (ptL cC aM k l i).map (ar.tw 0) = rows at hrow hset hrl |-
  generalize kL aM k (l.take i) = q at hq hset hks |-
  generalize l[i] = x at hrow hset hks
  replace hrow : rows[i]? = some [.int .i64 x.code, .int .i64 x.outer, .int .i64 x.home, .int .i64 x.self.kind, .int .i64 x.self.number, .str x.self.text] := hrow
  have hr1 : (rows.set i [.int .i64 q, .int .i64 x.outer, .int .i64 x.home, .int .i64 x.self.kind, .int .i64 x.self.number, .str x.self.text])[i]? = some [.int .i64 q, .int .i64 x.outer, .int .i64 x.home, .int .i64 x.self.kind, .int .i64 x.self.number, .str x.self.text] := by rw [List.getElem?_set_self (by omega)]
  have hks2 : kL aM k (l.take (i + 1)) = q + 1 + 1 + 1 + 1 + 1 + 1 := hks
  repeat' (first | refine W_ ?_ | refine bm ?_ | ((with_reducible apply lO); rfl; kernel_rfl; (repeat (first | exact bS.nil | ((with_reducible apply bS.cons); rfl; exact .same _))); exact hG; exact hst; exact bO _ (by omega) (by omega)))
  refine ag (i + 1) (by omega) (by omega) (.of _ (cD.envCons rfl (cD.envCons (dx rfl (by rw [hks2])) cD.envNil)) od_ ?_)
  rw [<- hset]
  (try simp only [List.set_set])
  exact .refl _
 ·obtain rfl : i = l.length := by omega
  rw [ef, List.take_length]
  repeat' refine W_ ?_
  exact av x_ rfl () trivial rfl (.cons _ _ _ _ (.nil R)) pk_ (.tmp _ _ rfl) rfl
theorem mC (hst : ay G) (s b : Nat) (l : List ao) (k : Int) (hn : l.length <= 1048576) (hk : 0 <= k /\ k <= 1000000000000000) : CtM Tryz.prog G 64 [.ms s b 0 l.length, .int .i64 k] [(s, b, .row 2 ((l).map (ao.tw 0)))] (fun _ : Unit => True) (fun _ => [(s, b, .row 2 ((mkL cy aR k l).map (ao.tw 0)))]) (fun _ => .int .i64 (kL aR k l)) := by
 refine aw Tryz.func64 rfl Tryz.ntmps64 rfl rfl rfl fun w0 R gs objsR hG hR => ?_
 obtain rfl := hR.inv1
 clear hR
 repeat' refine W_ ?_
 apply am (X := Nat) [0, 1000000] (fun x => [(5, .int .i64 (x : Int)), (1, .int .i64 (kL aR k (l.take x)))]) (fun x => (s, b, .row 2 ((ptL cy aR k l x).map (ao.tw 0))) :: R) (fun x => x <= l.length) (fun x => l.length - x) 0 (Nat.zero_le _)
 exact kp_; exact nw_
 ·exact .refl _
 intro i hi
 try dsimp only
 have hq := aS (k := k) (i := i) hn (fd l) hi
 by_cases hlt : i < l.length
 ·have hrow : ((ptL cy aR k l i).map (ao.tw 0))[i]? = some ((ao.tw 0) l[i]) := by
    simp only [aN, List.getElem?_map, dU hlt]; rfl
  have hset : ((ptL cy aR k l i).map (ao.tw 0)).set i ((ao.tw 0) (cy (kL aR k (l.take i)) l[i])) = (ptL cy aR k l (i + 1)).map (ao.tw 0) := by
    rw [<- fE hlt]; rw [List.map_set]
  have hks := cF (nx := aR) (k := k) hlt
  have hrl : ((ptL cy aR k l i).map (ao.tw 0)).length = l.length := by simp [aN, de hi]
  generalize (ptL cy aR k l i).map (ao.tw 0) = rows at hrow hset hrl |-
  generalize kL aR k (l.take i) = q at hq hset hks |-
  generalize l[i] = x at hrow hset hks
  replace hrow : rows[i]? = some [.int .i64 x.at_, .bool x.main] := hrow
  have hr1 : (rows.set i [.int .i64 q, .bool x.main])[i]? = some [.int .i64 q, .bool x.main] := by rw [List.getElem?_set_self (by omega)]
  have hks2 : kL aR k (l.take (i + 1)) = q + 1 + 1 := hks
  repeat' (first | refine W_ ?_ | refine bm ?_)
  refine ag (i + 1) (by omega) (by omega) (.of _ (cD.envCons rfl (cD.envCons (dx rfl (by rw [hks2])) cD.envNil)) od_ ?_)
  rw [<- hset]
  (try simp only [List.set_set])
  exact .refl _
 ·obtain rfl : i = l.length := by omega
  rw [ef, List.take_length]
  repeat' refine W_ ?_
  exact av x_ rfl () trivial rfl (.cons _ _ _ _ (.nil R)) pk_ (.tmp _ _ rfl) rfl
theorem n7 (hst : ay G) (s b : Nat) (l : List au) (ps : List (Pl × Pl)) (hps : ps.length = l.length) (k : Int) (hn : l.length <= 1048576 /\ ∀ y ∈ l, au.small 1048576 y) (hk : 0 <= k /\ k <= 100000000000000) :
   CtM Tryz.prog G 138 [.ms s b 0 l.length, .int .i64 k] ((s, b, .row 4 (nRg ce l ps)) :: nOg cI l ps) (fun _ : Unit => True) (fun _ => (s, b, .row 4 (nRg ce (mkL bL aT k l) ps)) :: nOg cI (mkL bL aT k l) ps) (fun _ => .int .i64 (kL aT k l)) := by
 refine aw Tryz.func138 rfl Tryz.ntmps138 rfl rfl rfl fun w0 R gs objsR hG hR => ?_
 obtain rfl := hR.eq
 clear hR
 obtain ⟨hn, hsm⟩ := hn
 repeat' refine W_ ?_
 apply am (X := Nat) [0, 1000000] (fun x => [(5, .int .i64 (x : Int)), (1, .int .i64 (kL aT k (l.take x)))]) (fun x => (s, b, .row 4 (nRg ce (ptL bL aT k l x) ps)) :: (nOg cI (ptL bL aT k l x) ps ++ R)) (fun x => x <= l.length) (fun x => l.length - x) 0 (Nat.zero_le _)
 exact kp_; exact nw_
 ·exact .refl _
 intro i hi
 try dsimp only
 have hq := aS (k := k) (i := i) hn (fA hsm) hi
 by_cases hlt : i < l.length
 ·obtain ⟨p, hp⟩ : ∃ p, ps[i]? = some p := ⟨_, List.getElem?_eq_getElem (by omega)⟩
  have hpl : i < (ptL bL aT k l i).length := by rw [de hi]; exact hlt
  have hrow := uO ce (dU (mk := bL) (nx := aT) (k := k) hlt) hp
  have hset := aau ce (l := ptL bL aT k l i) (x := bL (kL aT k (l.take i)) l[i]) hp
  have hout := oE cI (dU (mk := bL) (nx := aT) (k := k) hlt) hp
  have hin := acC cI (x := bL (kL aT k (l.take i)) l[i]) hpl hp
  rw [fE hlt] at hset hin
  have hks := cF (nx := aT) (k := k) hlt
  have hrl : (nRg ce (ptL bL aT k l i) ps).length = l.length := by rw [fq _ (by rw [de hi]; exact hps), de hi]
  have hb := hsm _ (List.getElem_mem hlt)
  generalize ngE cI (ptL bL aT k l i) ps i = E at hout hin
  generalize nOg cI (ptL bL aT k l i) ps = N0 at hout |-
  generalize nRg ce (ptL bL aT k l i) ps = rows at hrow hset hrl |-
  generalize kL aT k (l.take i) = q at hq hset hks hin |-
  generalize l[i] = x at hrow hset hks hout hin hb
  replace hrow : rows[i]? = some [.int .i64 x.kind, .int .i64 x.class_, .ms p.1.1 p.1.2 0 x.fields.length, .ms p.2.1 p.2.2 0 x.numbers.length] := hrow
  have hr1 : (rows.set i [.int .i64 q, .int .i64 x.class_, .ms p.1.1 p.1.2 0 x.fields.length, .ms p.2.1 p.2.2 0 x.numbers.length])[i]? = some [.int .i64 q, .int .i64 x.class_, .ms p.1.1 p.1.2 0 x.fields.length, .ms p.2.1 p.2.2 0 x.numbers.length] := by rw [List.getElem?_set_self (by omega)]
  have hk1 := gl (nx := aA) (l := x.fields) (k := q + 1 + 1) (cg _)
  have hf1 := hb.1.1
  have hct1 := eY hst p.1.1 p.1.2 x.fields (q + 1 + 1) hb.1.1 (by omega)
  have hct2 := ma hst p.2.1 p.2.2 x.numbers (kL aA (q + 1 + 1) x.fields) hb.2 (by omega)
  repeat' (first | refine W_ ?_ | refine bm ?_)
  refine lh (aai hout R) ?_
  repeat' (first | refine W_ ?_ | ((with_reducible apply aG); rfl; kernel_rfl; (repeat (first | exact aE.nil | ((with_reducible apply aE.cons); rfl))); exact hG; exact hct1; exact .cons _ _ _ _ (.nil _); intro y hy; refine bE ?_; refine cL (.perm (List.Perm.swap _ _ _)) ?_) | ((with_reducible apply aG); rfl; kernel_rfl; (repeat (first | exact aE.nil | ((with_reducible apply aE.cons); rfl))); exact hG; exact hct2; exact .cons _ _ _ _ (.nil _); intro y hy; refine bE ?_))
  refine ag (i + 1) (by omega) (by omega) (.of _ (cD.envCons rfl (cD.envCons (dx rfl (by rw [hks]; rfl)) cD.envNil)) od_ ?_)
  rw [hset]
  simp only [List.set_set]
  have hcl : ce (bL q x) p = [.int .i64 q, .int .i64 (q + 1), .ms p.1.1 p.1.2 0 x.fields.length, .ms p.2.1 p.2.2 0 x.numbers.length] := by
    unfold ce bL
    dsimp only
    rw [bU, bU]
  rw [hcl]
  exact abe hin R
 ·obtain rfl : i = l.length := by omega
  rw [ef, List.take_length]
  repeat' refine W_ ?_
  exact av x_ rfl () trivial rfl (.cons _ _ _ _ (.app _ R)) (.refl _) (.tmp _ _ rfl) rfl
theorem mc (hst : ay G) (s b : Nat) (l : List ap) (ps : List (Pl × Pl × Pl)) (hps : ps.length = l.length) (k : Int) (hn : l.length <= 1048576 /\ ∀ y ∈ l, ap.small 1048576 y) (hk : 0 <= k /\ k <= 100000000000000) :
   CtM Tryz.prog G 63 [.ms s b 0 l.length, .int .i64 k] ((s, b, .row 14 (nRg bT l ps)) :: nOg ci l ps) (fun _ : Unit => True) (fun _ => (s, b, .row 14 (nRg bT (mkL bs aO k l) ps)) :: nOg ci (mkL bs aO k l) ps) (fun _ => .int .i64 (kL aO k l)) := by
 refine aw Tryz.func63 rfl Tryz.ntmps63 rfl rfl rfl fun w0 R gs objsR hG hR => ?_
 obtain rfl := hR.eq
 clear hR
 obtain ⟨hn, hsm⟩ := hn
 repeat' refine W_ ?_
 apply am (X := Nat) [0, 1000000] (fun x => [(5, .int .i64 (x : Int)), (1, .int .i64 (kL aO k (l.take x)))]) (fun x => (s, b, .row 14 (nRg bT (ptL bs aO k l x) ps)) :: (nOg ci (ptL bs aO k l x) ps ++ R)) (fun x => x <= l.length) (fun x => l.length - x) 0 (Nat.zero_le _)
 exact kp_; exact nw_
 ·exact .refl _
 intro i hi
 try dsimp only
 have hq := aS (k := k) (i := i) hn (fc hsm) hi
 by_cases hlt : i < l.length
 ·obtain ⟨p, hp⟩ : ∃ p, ps[i]? = some p := ⟨_, List.getElem?_eq_getElem (by omega)⟩
  have hpl : i < (ptL bs aO k l i).length := by rw [de hi]; exact hlt
  have hrow := uO bT (dU (mk := bs) (nx := aO) (k := k) hlt) hp
  have hset := aau bT (l := ptL bs aO k l i) (x := bs (kL aO k (l.take i)) l[i]) hp
  have hout := oE ci (dU (mk := bs) (nx := aO) (k := k) hlt) hp
  have hin := acC ci (x := bs (kL aO k (l.take i)) l[i]) hpl hp
  rw [fE hlt] at hset hin
  have hks := cF (nx := aO) (k := k) hlt
  have hrl : (nRg bT (ptL bs aO k l i) ps).length = l.length := by rw [fq _ (by rw [de hi]; exact hps), de hi]
  have hb := hsm _ (List.getElem_mem hlt)
  generalize ngE ci (ptL bs aO k l i) ps i = E at hout hin
  generalize nOg ci (ptL bs aO k l i) ps = N0 at hout |-
  generalize nRg bT (ptL bs aO k l i) ps = rows at hrow hset hrl |-
  generalize kL aO k (l.take i) = q at hq hset hks hin |-
  generalize l[i] = x at hrow hset hks hout hin hb
  replace hrow : rows[i]? = some [.int .i64 x.mark, .int .i64 x.code, .int .i64 x.pc, .int .i64 x.sender, .int .i64 x.outer, .int .i64 x.home, .int .i64 x.self.kind, .int .i64 x.self.number, .str x.self.text, .ms p.1.1 p.1.2 0 x.slots.length, .ms p.2.1.1 p.2.1.2 0 x.stack.length, .ms p.2.2.1 p.2.2.2 0 x.values.length, .int .i64 x.other, .bool x.retry] := hrow
  have hr1 : (rows.set i [.int .i64 q, .int .i64 x.code, .int .i64 x.pc, .int .i64 x.sender, .int .i64 x.outer, .int .i64 x.home, .int .i64 x.self.kind, .int .i64 x.self.number, .str x.self.text, .ms p.1.1 p.1.2 0 x.slots.length, .ms p.2.1.1 p.2.1.2 0 x.stack.length, .ms p.2.2.1 p.2.2.2 0 x.values.length, .int .i64 x.other, .bool x.retry])[i]? = some [.int .i64 q, .int .i64 x.code, .int .i64 x.pc, .int .i64 x.sender, .int .i64 x.outer, .int .i64 x.home, .int .i64 x.self.kind, .int .i64 x.self.number, .str x.self.text, .ms p.1.1 p.1.2 0 x.slots.length, .ms p.2.1.1 p.2.1.2 0 x.stack.length, .ms p.2.2.1 p.2.2.2 0 x.values.length, .int .i64 x.other, .bool x.retry] := by rw [List.getElem?_set_self (by omega)]
  have hk0 : k9 q = q + 9 := by unfold k9; omega
  have hk1 := gl (nx := aA) (l := x.slots) (k := k9 q) (cg _)
  have hk2 := gl (nx := aA) (l := x.stack) (k := kL aA (k9 q) x.slots) (cg _)
  have hk3 := gl (nx := aA) (l := x.values) (k := kL aA (kL aA (k9 q) x.slots) x.stack) (cg _)
  have hf1 := hb.2.1.1
  have hf2 := hb.2.2.1.1
  have hf3 := hb.2.2.2.1
  have hct1 := eY hst p.1.1 p.1.2 x.slots (k9 q) hf1 (by omega)
  have hct2 := eY hst p.2.1.1 p.2.1.2 x.stack (kL aA (k9 q) x.slots) hf2 (by omega)
  have hct3 := eY hst p.2.2.1 p.2.2.2 x.values (kL aA (kL aA (k9 q) x.slots) x.stack) hf3 (by omega)
  rw [show k9 q = q + 1 + 1 + 1 + 1 + 1 + 1 + 1 + 1 + 1 from rfl] at hct1
  repeat' (first | refine W_ ?_ | refine bm ?_ | ((with_reducible apply lO); rfl; kernel_rfl; (repeat (first | exact bS.nil | ((with_reducible apply bS.cons); rfl; exact .same _))); exact hG; exact hst; exact bO _ (by omega) (by omega)))
  refine lh (zA hout R) ?_
  repeat' (first | refine W_ ?_ | refine bm ?_ | ((with_reducible apply aG); rfl; kernel_rfl; (repeat (first | exact aE.nil | ((with_reducible apply aE.cons); rfl))); exact hG; exact hct1; exact .cons _ _ _ _ (.nil _); intro y hy; refine bE ?_; refine cL (.perm (List.Perm.swap _ _ _)) ?_) | ((with_reducible apply aG); rfl; kernel_rfl; (repeat (first | exact aE.nil | ((with_reducible apply aE.cons); rfl))); exact hG; exact hct2; exact .cons _ _ _ _ (.nil _); intro y hy; refine bE ?_; refine cL (acr _ _ _ _) ?_) | ((with_reducible apply aG); rfl; kernel_rfl; (repeat (first | exact aE.nil | ((with_reducible apply aE.cons); rfl))); exact hG; exact hct3; exact .cons _ _ _ _ (.nil _); intro y hy; refine bE ?_))
  refine ag (i + 1) (by omega) (by omega) (.of _ (cD.envCons rfl (cD.envCons (dx rfl (by rw [hks]; rfl)) cD.envNil)) od_ ?_)
  rw [hset]
  simp only [List.set_set]
  have hcl : bT (bs q x) p = [.int .i64 q, .int .i64 (q + 1), .int .i64 (q + 1 + 1), .int .i64 (q + 1 + 1 + 1), .int .i64 (q + 1 + 1 + 1 + 1), .int .i64 (q + 1 + 1 + 1 + 1 + 1), .int .i64 (q + 1 + 1 + 1 + 1 + 1 + 1), .int .i64 (q + 1 + 1 + 1 + 1 + 1 + 1 + 1), .str (dB (q + 1 + 1 + 1 + 1 + 1 + 1 + 1 + 1)), .ms p.1.1 p.1.2 0 x.slots.length, .ms p.2.1.1 p.2.1.2 0 x.stack.length, .ms p.2.2.1 p.2.2.2 0 x.values.length, .int .i64 (kL aA (kL aA (kL aA (k9 q) x.slots) x.stack) x.values), .bool (decide ((kL aA (kL aA (kL aA (k9 q) x.slots) x.stack) x.values + 1).tmod 3 = 0))] := by
    unfold bT bs
    dsimp only
    rw [bU, bU, bU]
  rw [hcl]
  exact abM hin R
 ·obtain rfl : i = l.length := by omega
  rw [ef, List.take_length]
  repeat' refine W_ ?_
  exact av x_ rfl () trivial rfl (.cons _ _ _ _ (.app _ R)) (.refl _) (.tmp _ _ rfl) rfl
end
theorem ack (X Y Z D R : aF) : cj (D ++ (X ++ (Y ++ (Z ++ R)))) (X ++ (Y ++ (Z ++ (D ++ R)))) := by
 simpa using adI [X, Y, Z] [R] D
theorem abm (W X Y Z D R : aF) : cj (D ++ (W ++ (X ++ (Y ++ (Z ++ R))))) (W ++ (X ++ (Y ++ (Z ++ (D ++ R))))) := by
 simpa using adI [W, X, Y, Z] [R] D
theorem abZ (V W X Y Z D R : aF) : cj (D ++ (V ++ (W ++ (X ++ (Y ++ (Z ++ R)))))) (V ++ (W ++ (X ++ (Y ++ (Z ++ (D ++ R)))))) := by
 simpa using adI [V, W, X, Y, Z] [R] D
theorem acb (A B C D E F R : aF) : cj (A ++ (B ++ (C ++ (D ++ (E ++ (F ++ R)))))) (F ++ (E ++ (D ++ (C ++ (A ++ (B ++ R)))))) := .perm (by
 have h1 : [F, E, D, C, B, A].Perm [A, B, C, D, E, F] := (List.reverse_perm [A, B, C, D, E, F])
 have h2 : [F, E, D, C, A, B].Perm [F, E, D, C, B, A] := ((((List.Perm.swap B A []).cons C).cons D).cons E).cons F
 have h3 := (jV (h2.trans h1)).append_right R
 simpa [List.append_assoc] using h3.symm)
def fg (k : Int) (x : aP) : aP := ⟨mkL aV az k x.classes, mkL bL aT (kL az k x.classes) x.objects, mkL cE aU (kL aT (kL az k x.classes) x.objects) x.output, x.ticks, x.budget, x.made⟩
def di (k : Int) (x : aP) : Int := kL aU (kL aT (kL az k x.classes) x.objects) x.output
theorem k8 {x : aP} (hb : x.small 1048576) (k : Int) : k <= di k x /\ di k x <= k + 6000000000000 := by
 have h1 := aS (k := k) (i := x.classes.length) hb.1.1 (cn hb.1.2) (Nat.le_refl _)
 have h2 := aS (k := kL az k x.classes) (i := x.objects.length) hb.2.1.1 (fA hb.2.1.2) (Nat.le_refl _)
 have h3 := aS (k := kL aT (kL az k x.classes) x.objects) (i := x.output.length) hb.2.2.1 (eK x.output) (Nat.le_refl _)
 rw [List.take_length] at h1 h2 h3
 unfold di
 omega
section
variable {G : World -> Prop}
theorem qv (hst : ay G) (x : aP) (y : StP) (hy : stI x y) (hb : x.small 1048576) (k : Int) (hk : 0 <= k /\ k <= 60000000000000) :
   CtM Tryz.prog G 61 [.agg (stC x y), .int .i64 k] (stO x y) (fun _ : Unit => True) (fun _ => stO (fg k x) y) (fun _ => .int .i64 (di k x)) := by
 refine aw Tryz.func61 rfl Tryz.ntmps61 rfl rfl rfl fun w0 R gs objsR hG hR => ?_
 obtain rfl := hR.eq
 clear hR
 have h1 := aS (k := k) (i := x.classes.length) hb.1.1 (cn hb.1.2) (Nat.le_refl _)
 have h2 := aS (k := kL az k x.classes) (i := x.objects.length) hb.2.1.1 (fA hb.2.1.2) (Nat.le_refl _)
 rw [List.take_length] at h1 h2
 have c1 := f7 hst y.1.1.1 y.1.1.2 x.classes y.1.2 hy.1 k hb.1 (by omega)
 have c2 := n7 hst y.2.1.1.1 y.2.1.1.2 x.objects y.2.1.2 hy.2 (kL az k x.classes) hb.2.1 (by omega)
 have c3 := iS hst y.2.2.1 y.2.2.2 x.output (kL aT (kL az k x.classes) x.objects) hb.2.2.1 (by omega)
 have e0 : stO x y ++ R = mF x.classes y.1 ++ (ab1 x.objects y.2.1 ++ ([(y.2.2.1, y.2.2.2, .row 1 (bK x.output))] ++ R)) := by unfold stO; simp [List.append_assoc]
 have e1 : stO (fg k x) y ++ R = mF (fg k x).classes y.1 ++ (ab1 (fg k x).objects y.2.1 ++ ([(y.2.2.1, y.2.2.2, .row 1 (bK (fg k x).output))] ++ R)) := by unfold stO; simp [List.append_assoc]
 rw [e0]
 generalize hz1 : [(y.2.2.1, y.2.2.2, aZ.row 1 (bK x.output))] = z1 at c3 |-
 unfold stC
 repeat' (first | refine W_ ?_ | refine aH ?_ | ((with_reducible apply aG); rfl; kernel_rfl; (repeat (first | exact aE.nil | ((with_reducible apply aE.cons); rfl))); exact hG; exact c1; exact .app _ _; intro z hz; refine cL (re _ _ _) ?_) | ((with_reducible apply aG); rfl; kernel_rfl; (repeat (first | exact aE.nil | ((with_reducible apply aE.cons); rfl))); exact hG; exact c2; exact .app _ _; intro z hz; refine cL (qW _ _ _ _) ?_) | ((with_reducible apply aG); rfl; kernel_rfl; (repeat (first | exact aE.nil | ((with_reducible apply aE.cons); rfl))); exact hG; exact c3; exact .app _ _; intro z hz))
 refine av x_ rfl () trivial rfl (.app _ R) ?_ (.tmp _ _ rfl) rfl
 rw [e1]
 exact qa _ _ _ R
def fh (k : Int) (x : ah) : ah := ⟨cG k x.base, fg (aW k x.base) x.store,
 mkL cC aM (di (aW k x.base) x.store) x.blocks,
 mkL bs aO (kL aM (di (aW k x.base) x.store) x.blocks) x.contexts,
 mkL cy aR (kL aO (kL aM (di (aW k x.base) x.store) x.blocks) x.contexts) x.processes,
 mkL iy dp (kL aR (kL aO (kL aM (di (aW k x.base) x.store) x.blocks) x.contexts) x.processes) x.ready,
 x.now, x.status, x.value, x.fault⟩
def iB (k : Int) (x : ah) : Int := kL dp (kL aR (kL aO (kL aM (di (aW k x.base) x.store) x.blocks) x.contexts) x.processes) x.ready
theorem pX {x : ah} (hb : x.small 1048576) (k : Int) : k <= iB k x /\ iB k x <= k + 30000000000000 := by
 have h1 := gL hb.1 k
 have h2 := k8 hb.2.1 (aW k x.base)
 unfold iB
 generalize di (aW k x.base) x.store = q2 at h2 |-
 have h3 := aS (k := q2) (i := x.blocks.length) hb.2.2.1.1 (e8 x.blocks) (Nat.le_refl _)
 rw [List.take_length] at h3
 generalize kL aM q2 x.blocks = q3 at h3 |-
 have h4 := aS (k := q3) (i := x.contexts.length) hb.2.2.2.1.1 (fc hb.2.2.2.1.2) (Nat.le_refl _)
 rw [List.take_length] at h4
 generalize kL aO q3 x.contexts = q4 at h4 |-
 have h5 := aS (k := q4) (i := x.processes.length) hb.2.2.2.2.1.1 (fd x.processes) (Nat.le_refl _)
 rw [List.take_length] at h5
 generalize kL aR q4 x.processes = q5 at h5 |-
 have h6 := aS (k := q5) (i := x.ready.length) hb.2.2.2.2.2.1 (jb x.ready) (Nat.le_refl _)
 rw [List.take_length] at h6
 omega
theorem j3 (hst : ay G) (x : ah) (y : eF) (hy : imI x y) (hb : x.small 1048576) (k : Int) (hk : 0 <= k /\ k <= 50000000000000) :
   CtM Tryz.prog G 13 [.agg (imC x y), .int .i64 k] (imO x y) (fun _ : Unit => True) (fun _ => imO (fh k x) y) (fun _ => .int .i64 (iB k x)) := by
 refine aw Tryz.func13 rfl Tryz.ntmps13 rfl rfl rfl fun w0 R gs objsR hG hR => ?_
 obtain rfl := hR.eq
 clear hR
 have h1 := gL hb.1 k
 have h2 := k8 hb.2.1 (aW k x.base)
 have hm : imO (fh k x) y = cbO (cG k x.base) y.1 ++ (stO (fg (aW k x.base) x.store) y.2.1 ++ ([(y.2.2.1.1, y.2.2.1.2, .row 6 ((mkL cC aM (di (aW k x.base) x.store) x.blocks).map (ar.tw 0)))] ++ (xW (mkL bs aO (kL aM (di (aW k x.base) x.store) x.blocks) x.contexts) y.2.2.2.1 ++ ([(y.2.2.2.2.1.1, y.2.2.2.2.1.2, .row 2 ((mkL cy aR (kL aO (kL aM (di (aW k x.base) x.store) x.blocks) x.contexts) x.processes).map (ao.tw 0)))] ++ [(y.2.2.2.2.2.1, y.2.2.2.2.2.2, .row 1 (aN (mkL iy dp (kL aR (kL aO (kL aM (di (aW k x.base) x.store) x.blocks) x.contexts) x.processes) x.ready)))])))) := rfl
 rw [hm]
 unfold iB
 have c1 := mg hst x.base y.1 hy.1 hb.1 k (by omega)
 have c2 := qv hst x.store y.2.1 hy.2.1 hb.2.1 (aW k x.base) (by omega)
 generalize di (aW k x.base) x.store = q2 at h2 c2 |-
 have h3 := aS (k := q2) (i := x.blocks.length) hb.2.2.1.1 (e8 x.blocks) (Nat.le_refl _)
 rw [List.take_length] at h3
 have c3 := mw hst y.2.2.1.1 y.2.2.1.2 x.blocks q2 hb.2.2.1.1 (by omega)
 generalize kL aM q2 x.blocks = q3 at h3 c3 |-
 have h4 := aS (k := q3) (i := x.contexts.length) hb.2.2.2.1.1 (fc hb.2.2.2.1.2) (Nat.le_refl _)
 rw [List.take_length] at h4
 have c4 := mc hst y.2.2.2.1.1.1 y.2.2.2.1.1.2 x.contexts y.2.2.2.1.2 hy.2.2 q3 hb.2.2.2.1 (by omega)
 generalize kL aO q3 x.contexts = q4 at h4 c4 |-
 have h5 := aS (k := q4) (i := x.processes.length) hb.2.2.2.2.1.1 (fd x.processes) (Nat.le_refl _)
 rw [List.take_length] at h5
 have c5 := mC hst y.2.2.2.2.1.1 y.2.2.2.2.1.2 x.processes q4 hb.2.2.2.2.1.1 (by omega)
 generalize kL aR q4 x.processes = q5 at h5 c5 |-
 have c6 := ma hst y.2.2.2.2.2.1 y.2.2.2.2.2.2 x.ready q5 hb.2.2.2.2.2.1 (by omega)
 have e0 : imO x y ++ R = cbO x.base y.1 ++ (stO x.store y.2.1 ++ ([(y.2.2.1.1, y.2.2.1.2, .row 6 (x.blocks.map (ar.tw 0)))] ++ (xW x.contexts y.2.2.2.1 ++ ([(y.2.2.2.2.1.1, y.2.2.2.2.1.2, .row 2 (x.processes.map (ao.tw 0)))] ++ ([(y.2.2.2.2.2.1, y.2.2.2.2.2.2, .row 1 (aN x.ready))] ++ R))))) := by unfold imO; simp only [List.append_assoc]
 rw [e0]
 replace c4 : CtM Tryz.prog G 63 _ (xW x.contexts y.2.2.2.1) _ (fun _ => xW (mkL bs aO q3 x.contexts) y.2.2.2.1) _ := c4
 clear hm e0
 generalize [(y.2.2.1.1, y.2.2.1.2, aZ.row 6 (x.blocks.map (ar.tw 0)))] = z1 at c3 |-
 generalize [(y.2.2.2.2.1.1, y.2.2.2.2.1.2, aZ.row 2 (x.processes.map (ao.tw 0)))] = z2 at c5 |-
 generalize [(y.2.2.2.2.2.1, y.2.2.2.2.2.2, aZ.row 1 (aN x.ready))] = z3 at c6 |-
 unfold cbC at c1
 unfold stC at c2
 unfold imC
 repeat' (first | refine W_ ?_ | refine aH ?_ | ((with_reducible apply aG); rfl; kernel_rfl; (repeat (first | exact aE.nil | ((with_reducible apply aE.cons); rfl))); exact hG; exact c1; exact .app _ _; intro z hz; refine cL (re _ _ _) ?_) | ((with_reducible apply aG); rfl; kernel_rfl; (repeat (first | exact aE.nil | ((with_reducible apply aE.cons); rfl))); exact hG; exact c2; exact .app _ _; intro z hz; refine cL (qW _ _ _ _) ?_) | ((with_reducible apply aG); rfl; kernel_rfl; (repeat (first | exact aE.nil | ((with_reducible apply aE.cons); rfl))); exact hG; exact c3; exact .app _ _; intro z hz; refine cL (ack _ _ _ _ _) ?_) | ((with_reducible apply aG); rfl; kernel_rfl; (repeat (first | exact aE.nil | ((with_reducible apply aE.cons); rfl))); exact hG; exact c4; exact .app _ _; intro z hz; refine cL (abm _ _ _ _ _ _) ?_) | ((with_reducible apply aG); rfl; kernel_rfl; (repeat (first | exact aE.nil | ((with_reducible apply aE.cons); rfl))); exact hG; exact c5; exact .app _ _; intro z hz; refine cL (abZ _ _ _ _ _ _ _) ?_) | ((with_reducible apply aG); rfl; kernel_rfl; (repeat (first | exact aE.nil | ((with_reducible apply aE.cons); rfl))); exact hG; exact c6; exact .app _ _; intro z hz))
 refine av x_ rfl () trivial rfl (.app _ R) ?_ (.tmp _ _ rfl) rfl
 simp only [List.append_assoc]
 exact acb _ _ _ _ _ _ R
end
section
variable {G : World -> Prop}
theorem pF (hst : ay G) (lo : Nat) (l : List Int) (k : Int) (hn : l.length <= 1048576) (hk : 0 <= k /\ k <= 1000000000000000) : Ct Tryz.prog G 71 [.sl lo 1 (aN (mkL iy dp k l)), .int .i64 k] (fun _ => .int .i64 (kL dp k l)) := by
 refine aq Tryz.func71 rfl Tryz.ntmps71 rfl rfl fun w0 _ hG => ?_
 have hrl : (aN (mkL iy dp k l)).length = l.length := by simp [aN, bU]
 have hget := fun i (h : i < l.length) => fw (mk := iy) (nx := dp) (k := k) h
 have hgr : ∀ i (h : i < l.length), (aN (mkL iy dp k l))[i]? = some [.int .i64 (kL dp k (l.take i))] := fun i h => by
   simp only [aN, List.getElem?_map, hget i h]; rfl
 generalize aN (mkL iy dp k l) = rows at hrl hgr |-
 repeat' refine W_ ?_
 apply am (X := Nat) [0] (fun x => [(5, .int .i64 (x : Int)), (1, .int .i64 (kL dp k (l.take x)))]) (fun _ => []) (fun x => x <= l.length) (fun x => l.length - x) 0 (Nat.zero_le _)
 exact kp_; exact nw_
 ·exact .refl _
 intro i hi
 try dsimp only
 have hq := aS (k := k) (i := i) hn (jb l) hi
 by_cases hlt : i < l.length
 ·have hrow := hgr i hlt
  have hks : kL dp k (l.take (i + 1)) = kL dp k (l.take i) + 1 := cF hlt
  generalize kL dp k (l.take i) = q at hq hrow hks |-
  have hi0 : ¬ (q) ≠ (q) := fun h => h rfl
  repeat' refine V_ ?_
  all_goals first
    | exact ag (i + 1) (by omega) (by omega) (.of _ (cD.envCons rfl (cD.envCons (dx rfl (by rw [hks])) cD.envNil)) od_ pk_)
    | (exfalso; simp_all; done)
 ·obtain rfl : i = l.length := by omega
  rw [List.take_length]
  repeat' refine W_ ?_
  exact r1_
theorem fZ (hst : ay G) (lo : Nat) (l : List ab) (k : Int) (hn : l.length <= 1048576) (hk : 0 <= k /\ k <= 1000000000000000) : Ct Tryz.prog G 144 [.sl lo 3 ((mkL cM aA k l).map (ab.tw lo)), .int .i64 k] (fun _ => .int .i64 (kL aA k l)) := by
 refine aq Tryz.func144 rfl Tryz.ntmps144 rfl rfl fun w0 _ hG => ?_
 have hrl : ((mkL cM aA k l).map (ab.tw lo)).length = l.length := by simp [aN, bU]
 have hget := fun i (h : i < l.length) => fw (mk := cM) (nx := aA) (k := k) h
 have hgr : ∀ i (h : i < l.length), ((mkL cM aA k l).map (ab.tw lo))[i]? = some [.int .i64 (kL aA k (l.take i)), .int .i64 (kL aA k (l.take i) + 1), .str (dB (kL aA k (l.take i) + 1 + 1))] := fun i h => by
   simp only [aN, List.getElem?_map, hget i h]; rfl
 generalize (mkL cM aA k l).map (ab.tw lo) = rows at hrl hgr |-
 repeat' refine W_ ?_
 apply am (X := Nat) [0] (fun x => [(5, .int .i64 (x : Int)), (1, .int .i64 (kL aA k (l.take x)))]) (fun _ => []) (fun x => x <= l.length) (fun x => l.length - x) 0 (Nat.zero_le _)
 exact kp_; exact nw_
 ·exact .refl _
 intro i hi
 try dsimp only
 have hq := aS (k := k) (i := i) hn (cg l) hi
 by_cases hlt : i < l.length
 ·have hrow := hgr i hlt
  have hks : kL aA k (l.take (i + 1)) = kL aA k (l.take i) + 1 + 1 + 1 := cF hlt
  generalize kL aA k (l.take i) = q at hq hrow hks |-
  have hi0 : ¬ (q) ≠ (q) := fun h => h rfl
  have hi1 : ¬ (q + 1) ≠ (q + 1) := fun h => h rfl
  have hs2 : ¬ dB (q + 1 + 1) ≠ dB (q + 1 + 1) := fun h => h rfl
  have hm2 := bO (G := G) (q + 1 + 1) (by omega) (by omega)
  repeat' (first | refine V_ ?_ | refine ae hG hst (hm2) ?_)
  all_goals first
    | exact ag (i + 1) (by omega) (by omega) (.of _ (cD.envCons rfl (cD.envCons (dx rfl (by rw [hks])) cD.envNil)) od_ pk_)
    | (exfalso; simp_all; done)
 ·obtain rfl : i = l.length := by omega
  rw [List.take_length]
  repeat' refine W_ ?_
  exact r1_
theorem pv (hst : ay G) (lo : Nat) (l : List ar) (k : Int) (hn : l.length <= 1048576) (hk : 0 <= k /\ k <= 1000000000000000) : Ct Tryz.prog G 68 [.sl lo 6 ((mkL cC aM k l).map (ar.tw lo)), .int .i64 k] (fun _ => .int .i64 (kL aM k l)) := by
 refine aq Tryz.func68 rfl Tryz.ntmps68 rfl rfl fun w0 _ hG => ?_
 have hrl : ((mkL cC aM k l).map (ar.tw lo)).length = l.length := by simp [aN, bU]
 have hget := fun i (h : i < l.length) => fw (mk := cC) (nx := aM) (k := k) h
 have hgr : ∀ i (h : i < l.length), ((mkL cC aM k l).map (ar.tw lo))[i]? = some [.int .i64 (kL aM k (l.take i)), .int .i64 (kL aM k (l.take i) + 1), .int .i64 (kL aM k (l.take i) + 1 + 1), .int .i64 (kL aM k (l.take i) + 1 + 1 + 1), .int .i64 (kL aM k (l.take i) + 1 + 1 + 1 + 1), .str (dB (kL aM k (l.take i) + 1 + 1 + 1 + 1 + 1))] := fun i h => by
   simp only [aN, List.getElem?_map, hget i h]; rfl
 generalize (mkL cC aM k l).map (ar.tw lo) = rows at hrl hgr |-
 repeat' refine W_ ?_
 apply am (X := Nat) [0] (fun x => [(5, .int .i64 (x : Int)), (1, .int .i64 (kL aM k (l.take x)))]) (fun _ => []) (fun x => x <= l.length) (fun x => l.length - x) 0 (Nat.zero_le _)
 exact kp_; exact nw_
 ·exact .refl _
 intro i hi
 try dsimp only
 have hq := aS (k := k) (i := i) hn (e8 l) hi
 by_cases hlt : i < l.length
 ·have hrow := hgr i hlt
  have hks : kL aM k (l.take (i + 1)) = kL aM k (l.take i) + 1 + 1 + 1 + 1 + 1 + 1 := cF hlt
  generalize kL aM k (l.take i) = q at hq hrow hks |-
  have hi0 : ¬ (q) ≠ (q) := fun h => h rfl
  have hi1 : ¬ (q + 1) ≠ (q + 1) := fun h => h rfl
  have hi2 : ¬ (q + 1 + 1) ≠ (q + 1 + 1) := fun h => h rfl
  have hi3 : ¬ (q + 1 + 1 + 1) ≠ (q + 1 + 1 + 1) := fun h => h rfl
  have hi4 : ¬ (q + 1 + 1 + 1 + 1) ≠ (q + 1 + 1 + 1 + 1) := fun h => h rfl
  have hs5 : ¬ dB (q + 1 + 1 + 1 + 1 + 1) ≠ dB (q + 1 + 1 + 1 + 1 + 1) := fun h => h rfl
  have hm5 := bO (G := G) (q + 1 + 1 + 1 + 1 + 1) (by omega) (by omega)
  repeat' (first | refine V_ ?_ | refine ae hG hst (hm5) ?_)
  all_goals first
    | exact ag (i + 1) (by omega) (by omega) (.of _ (cD.envCons rfl (cD.envCons (dx rfl (by rw [hks])) cD.envNil)) od_ pk_)
    | (exfalso; simp_all; done)
 ·obtain rfl : i = l.length := by omega
  rw [List.take_length]
  repeat' refine W_ ?_
  exact r1_
theorem pA (hst : ay G) (lo : Nat) (l : List ao) (k : Int) (hn : l.length <= 1048576) (hk : 0 <= k /\ k <= 1000000000000000) : Ct Tryz.prog G 70 [.sl lo 2 ((mkL cy aR k l).map (ao.tw lo)), .int .i64 k] (fun _ => .int .i64 (kL aR k l)) := by
 refine aq Tryz.func70 rfl Tryz.ntmps70 rfl rfl fun w0 _ hG => ?_
 have hrl : ((mkL cy aR k l).map (ao.tw lo)).length = l.length := by simp [aN, bU]
 have hget := fun i (h : i < l.length) => fw (mk := cy) (nx := aR) (k := k) h
 have hgr : ∀ i (h : i < l.length), ((mkL cy aR k l).map (ao.tw lo))[i]? = some [.int .i64 (kL aR k (l.take i)), .bool (decide ((kL aR k (l.take i) + 1).tmod 3 = 0))] := fun i h => by
   simp only [aN, List.getElem?_map, hget i h]; rfl
 generalize (mkL cy aR k l).map (ao.tw lo) = rows at hrl hgr |-
 repeat' refine W_ ?_
 apply am (X := Nat) [0] (fun x => [(5, .int .i64 (x : Int)), (1, .int .i64 (kL aR k (l.take x)))]) (fun _ => []) (fun x => x <= l.length) (fun x => l.length - x) 0 (Nat.zero_le _)
 exact kp_; exact nw_
 ·exact .refl _
 intro i hi
 try dsimp only
 have hq := aS (k := k) (i := i) hn (fd l) hi
 by_cases hlt : i < l.length
 ·have hrow := hgr i hlt
  have hks : kL aR k (l.take (i + 1)) = kL aR k (l.take i) + 1 + 1 := cF hlt
  generalize kL aR k (l.take i) = q at hq hrow hks |-
  have hi0 : ¬ (q) ≠ (q) := fun h => h rfl
  have hb1 : (decide ((q + 1).tmod 3 = 0) != decide ((q + 1).tmod 3 = 0)) = false := by simp
  repeat' (first | refine V_ ?_ | refine c_ (fun hc => ?_) (fun hc => ?_))
  all_goals first
    | exact ag (i + 1) (by omega) (by omega) (.of _ (cD.envCons rfl (cD.envCons (dx rfl (by rw [hks])) cD.envNil)) od_ pk_)
    | (exfalso; simp_all; done)
 ·obtain rfl : i = l.length := by omega
  rw [List.take_length]
  repeat' refine W_ ?_
  exact r1_
theorem qO (hst : ay G) (lo : Nat) (l : List au) (k : Int) (hn : l.length <= 1048576 /\ ∀ y ∈ l, au.small 1048576 y) (hk : 0 <= k /\ k <= 100000000000000) : Ct Tryz.prog G 143 [.sl lo 4 ((mkL bL aT k l).map (au.tw lo)), .int .i64 k] (fun _ => .int .i64 (kL aT k l)) := by
 refine aq Tryz.func143 rfl Tryz.ntmps143 rfl rfl fun w0 _ hG => ?_
 obtain ⟨hn, hsm⟩ := hn
 have hrl : ((mkL bL aT k l).map (au.tw lo)).length = l.length := by simp [bU]
 have hgr : ∀ i (h : i < l.length), ((mkL bL aT k l).map (au.tw lo))[i]? = some ((bL (kL aT k (l.take i)) l[i]).tw lo) := fun i h => by
   simp only [List.getElem?_map, fw (mk := bL) (nx := aT) (k := k) h]; rfl
 generalize (mkL bL aT k l).map (au.tw lo) = rows at hrl hgr |-
 repeat' refine W_ ?_
 apply am (X := Nat) [0] (fun x => [(5, .int .i64 (x : Int)), (1, .int .i64 (kL aT k (l.take x)))]) (fun _ => []) (fun x => x <= l.length) (fun x => l.length - x) 0 (Nat.zero_le _)
 exact kp_; exact nw_
 ·exact .refl _
 intro i hi
 try dsimp only
 have hq := aS (k := k) (i := i) hn (fA hsm) hi
 by_cases hlt : i < l.length
 ·have hrow := hgr i hlt
  have hks := cF (nx := aT) (k := k) hlt
  have hb := hsm _ (List.getElem_mem hlt)
  generalize kL aT k (l.take i) = q at hq hrow hks |-
  generalize l[i] = x at hrow hks hb
  replace hrow : rows[i]? = some [.int .i64 (q), .int .i64 (q + 1), .sl lo 3 ((mkL cM aA (q + 1 + 1) x.fields).map (ab.tw lo)), .sl lo 1 (aN (mkL iy dp (kL aA (q + 1 + 1) x.fields) x.numbers))] := hrow
  have hln0 : x.fields.length <= 1048576 := hb.1.1
  have hinr0 := gl (nx := aA) (l := x.fields) (k := q + 1 + 1) (cg _)
  have hin0 := fZ hst lo x.fields (q + 1 + 1) hb.1.1 (by omega)
  have hln1 : x.numbers.length <= 1048576 := hb.2
  have hinr1 := gl (nx := dp) (l := x.numbers) (k := kL aA (q + 1 + 1) x.fields) (jb _)
  have hin1 := pF hst lo x.numbers (kL aA (q + 1 + 1) x.fields) hb.2 (by omega)
  have hks2 : kL aT k (l.take (i + 1)) = kL dp (kL aA (q + 1 + 1) x.fields) x.numbers := hks
  have hi0 : ¬ (q) ≠ (q) := fun h => h rfl
  have hi1 : ¬ (q + 1) ≠ (q + 1) := fun h => h rfl
  repeat' (first | refine V_ ?_ | refine ad hG hst (hin0) ?_ | refine ad hG hst (hin1) ?_)
  all_goals first
    | exact ag (i + 1) (by omega) (by omega) (.of _ (cD.envCons rfl (cD.envCons (dx rfl (by rw [hks2])) cD.envNil)) od_ pk_)
    | (exfalso; simp_all; done)
    | (exfalso; omega)
 ·obtain rfl : i = l.length := by omega
  rw [List.take_length]
  repeat' refine W_ ?_
  exact r1_
theorem pj (hst : ay G) (lo : Nat) (l : List ap) (k : Int) (hn : l.length <= 1048576 /\ ∀ y ∈ l, ap.small 1048576 y) (hk : 0 <= k /\ k <= 100000000000000) : Ct Tryz.prog G 69 [.sl lo 14 ((mkL bs aO k l).map (ap.tw lo)), .int .i64 k] (fun _ => .int .i64 (kL aO k l)) := by
 refine aq Tryz.func69 rfl Tryz.ntmps69 rfl rfl fun w0 _ hG => ?_
 obtain ⟨hn, hsm⟩ := hn
 have hrl : ((mkL bs aO k l).map (ap.tw lo)).length = l.length := by simp [bU]
 have hgr : ∀ i (h : i < l.length), ((mkL bs aO k l).map (ap.tw lo))[i]? = some ((bs (kL aO k (l.take i)) l[i]).tw lo) := fun i h => by
   simp only [List.getElem?_map, fw (mk := bs) (nx := aO) (k := k) h]; rfl
 generalize (mkL bs aO k l).map (ap.tw lo) = rows at hrl hgr |-
 repeat' refine W_ ?_
 apply am (X := Nat) [0] (fun x => [(5, .int .i64 (x : Int)), (1, .int .i64 (kL aO k (l.take x)))]) (fun _ => []) (fun x => x <= l.length) (fun x => l.length - x) 0 (Nat.zero_le _)
 exact kp_; exact nw_
 ·exact .refl _
 intro i hi
 try dsimp only
 have hq := aS (k := k) (i := i) hn (fc hsm) hi
 by_cases hlt : i < l.length
 ·have hrow := hgr i hlt
  have hks := cF (nx := aO) (k := k) hlt
  have hb := hsm _ (List.getElem_mem hlt)
  generalize kL aO k (l.take i) = q at hq hrow hks |-
  generalize l[i] = x at hrow hks hb
  replace hrow : rows[i]? = some [.int .i64 (q), .int .i64 (q + 1), .int .i64 (q + 1 + 1), .int .i64 (q + 1 + 1 + 1), .int .i64 (q + 1 + 1 + 1 + 1), .int .i64 (q + 1 + 1 + 1 + 1 + 1), .int .i64 (q + 1 + 1 + 1 + 1 + 1 + 1), .int .i64 (q + 1 + 1 + 1 + 1 + 1 + 1 + 1), .str (dB (q + 1 + 1 + 1 + 1 + 1 + 1 + 1 + 1)), .sl lo 3 ((mkL cM aA (q + 1 + 1 + 1 + 1 + 1 + 1 + 1 + 1 + 1) x.slots).map (ab.tw lo)), .sl lo 3 ((mkL cM aA (kL aA (q + 1 + 1 + 1 + 1 + 1 + 1 + 1 + 1 + 1) x.slots) x.stack).map (ab.tw lo)), .sl lo 3 ((mkL cM aA (kL aA (kL aA (q + 1 + 1 + 1 + 1 + 1 + 1 + 1 + 1 + 1) x.slots) x.stack) x.values).map (ab.tw lo)), .int .i64 (kL aA (kL aA (kL aA (q + 1 + 1 + 1 + 1 + 1 + 1 + 1 + 1 + 1) x.slots) x.stack) x.values), .bool (decide ((kL aA (kL aA (kL aA (q + 1 + 1 + 1 + 1 + 1 + 1 + 1 + 1 + 1) x.slots) x.stack) x.values + 1).tmod 3 = 0))] := hrow
  have hln0 : x.slots.length <= 1048576 := hb.2.1.1
  have hinr0 := gl (nx := aA) (l := x.slots) (k := q + 1 + 1 + 1 + 1 + 1 + 1 + 1 + 1 + 1) (cg _)
  have hin0 := fZ hst lo x.slots (q + 1 + 1 + 1 + 1 + 1 + 1 + 1 + 1 + 1) hb.2.1.1 (by omega)
  have hln1 : x.stack.length <= 1048576 := hb.2.2.1.1
  have hinr1 := gl (nx := aA) (l := x.stack) (k := kL aA (q + 1 + 1 + 1 + 1 + 1 + 1 + 1 + 1 + 1) x.slots) (cg _)
  have hin1 := fZ hst lo x.stack (kL aA (q + 1 + 1 + 1 + 1 + 1 + 1 + 1 + 1 + 1) x.slots) hb.2.2.1.1 (by omega)
  have hln2 : x.values.length <= 1048576 := hb.2.2.2.1
  have hinr2 := gl (nx := aA) (l := x.values) (k := kL aA (kL aA (q + 1 + 1 + 1 + 1 + 1 + 1 + 1 + 1 + 1) x.slots) x.stack) (cg _)
  have hin2 := fZ hst lo x.values (kL aA (kL aA (q + 1 + 1 + 1 + 1 + 1 + 1 + 1 + 1 + 1) x.slots) x.stack) hb.2.2.2.1 (by omega)
  have hi20 : ¬ (kL aA (kL aA (kL aA (q + 1 + 1 + 1 + 1 + 1 + 1 + 1 + 1 + 1) x.slots) x.stack) x.values) ≠ (kL aA (kL aA (kL aA (q + 1 + 1 + 1 + 1 + 1 + 1 + 1 + 1 + 1) x.slots) x.stack) x.values) := fun h => h rfl
  have hb21 : (decide ((kL aA (kL aA (kL aA (q + 1 + 1 + 1 + 1 + 1 + 1 + 1 + 1 + 1) x.slots) x.stack) x.values + 1).tmod 3 = 0) != decide ((kL aA (kL aA (kL aA (q + 1 + 1 + 1 + 1 + 1 + 1 + 1 + 1 + 1) x.slots) x.stack) x.values + 1).tmod 3 = 0)) = false := by simp
  have hks2 : kL aO k (l.take (i + 1)) = kL aA (kL aA (kL aA (q + 1 + 1 + 1 + 1 + 1 + 1 + 1 + 1 + 1) x.slots) x.stack) x.values + 1 + 1 := hks
  have hi0 : ¬ (q) ≠ (q) := fun h => h rfl
  have hi1 : ¬ (q + 1) ≠ (q + 1) := fun h => h rfl
  have hi2 : ¬ (q + 1 + 1) ≠ (q + 1 + 1) := fun h => h rfl
  have hi3 : ¬ (q + 1 + 1 + 1) ≠ (q + 1 + 1 + 1) := fun h => h rfl
  have hi4 : ¬ (q + 1 + 1 + 1 + 1) ≠ (q + 1 + 1 + 1 + 1) := fun h => h rfl
  have hi5 : ¬ (q + 1 + 1 + 1 + 1 + 1) ≠ (q + 1 + 1 + 1 + 1 + 1) := fun h => h rfl
  have hi6 : ¬ (q + 1 + 1 + 1 + 1 + 1 + 1) ≠ (q + 1 + 1 + 1 + 1 + 1 + 1) := fun h => h rfl
  have hi7 : ¬ (q + 1 + 1 + 1 + 1 + 1 + 1 + 1) ≠ (q + 1 + 1 + 1 + 1 + 1 + 1 + 1) := fun h => h rfl
  have hs8 : ¬ dB (q + 1 + 1 + 1 + 1 + 1 + 1 + 1 + 1) ≠ dB (q + 1 + 1 + 1 + 1 + 1 + 1 + 1 + 1) := fun h => h rfl
  have hm8 := bO (G := G) (q + 1 + 1 + 1 + 1 + 1 + 1 + 1 + 1) (by omega) (by omega)
  repeat' (first | refine V_ ?_ | refine ad hG hst (hin0) ?_ | refine ad hG hst (hin1) ?_ | refine ad hG hst (hin2) ?_ | refine ae hG hst (hm8) ?_ | refine c_ (fun hc => ?_) (fun hc => ?_))
  all_goals first
    | exact ag (i + 1) (by omega) (by omega) (.of _ (cD.envCons rfl (cD.envCons (dx rfl (by rw [hks2])) cD.envNil)) od_ pk_)
    | (exfalso; simp_all; done)
    | (exfalso; omega)
 ·obtain rfl : i = l.length := by omega
  rw [List.take_length]
  repeat' refine W_ ?_
  exact r1_
theorem vN (hst : ay G) (lo : Nat) (x : aP) (hb : x.small 1048576) (k : Int) (hk : 0 <= k /\ k <= 60000000000000) : Ct Tryz.prog G 67 [.agg ((fg k x).tw lo), .int .i64 k] (fun _ => .int .i64 (di k x)) := by
 refine aq Tryz.func67 rfl Tryz.ntmps67 rfl rfl fun w0 _ hG => ?_
 have h1 := aS (k := k) (i := x.classes.length) hb.1.1 (cn hb.1.2) (Nat.le_refl _)
 have h2 := aS (k := kL az k x.classes) (i := x.objects.length) hb.2.1.1 (fA hb.2.1.2) (Nat.le_refl _)
 have h3 := aS (k := kL aT (kL az k x.classes) x.objects) (i := x.output.length) hb.2.2.1 (eK x.output) (Nat.le_refl _)
 rw [List.take_length] at h1 h2 h3
 have c1 := ig hst lo x.classes k hb.1 (by omega)
 have c2 := qO hst lo x.objects (kL az k x.classes) hb.2.1 (by omega)
 have c3 := kx hst lo x.output (kL aT (kL az k x.classes) x.objects) hb.2.2.1 (by omega)
 unfold aP.tw fg di
 dsimp only
 repeat' (first | refine W_ ?_ | refine aH ?_ | refine ad hG hst (c1) ?_ | refine ad hG hst (c2) ?_ | refine ad hG hst (c3) ?_)
 exact r1_
theorem vT (hst : ay G) (lo : Nat) (x : ah) (hb : x.small 1048576) (k : Int) (hk : 0 <= k /\ k <= 50000000000000) : Ct Tryz.prog G 14 [.agg ((fh k x).tw lo), .int .i64 k] (fun _ => .int .i64 (iB k x)) := by
 refine aq Tryz.func14 rfl Tryz.ntmps14 rfl rfl fun w0 _ hG => ?_
 have h1 := gL hb.1 k
 have h2 := k8 hb.2.1 (aW k x.base)
 have c1 := pl hst lo x.base hb.1 k (by omega)
 have c2 := vN hst lo x.store hb.2.1 (aW k x.base) (by omega)
 unfold iB ah.tw fh
 dsimp only
 generalize cG k x.base = u1 at c1 |-
 generalize fg (aW k x.base) x.store = u2 at c2 |-
 generalize di (aW k x.base) x.store = q2 at h2 c2 |-
 generalize aW k x.base = q1 at h1 h2 c1 c2 |-
 have h3 := aS (k := q2) (i := x.blocks.length) hb.2.2.1.1 (e8 x.blocks) (Nat.le_refl _)
 rw [List.take_length] at h3
 have c3 := pv hst lo x.blocks q2 hb.2.2.1.1 (by omega)
 generalize kL aM q2 x.blocks = q3 at h3 c3 |-
 have h4 := aS (k := q3) (i := x.contexts.length) hb.2.2.2.1.1 (fc hb.2.2.2.1.2) (Nat.le_refl _)
 rw [List.take_length] at h4
 have c4 := pj hst lo x.contexts q3 hb.2.2.2.1 (by omega)
 generalize kL aO q3 x.contexts = q4 at h4 c4 |-
 have h5 := aS (k := q4) (i := x.processes.length) hb.2.2.2.2.1.1 (fd x.processes) (Nat.le_refl _)
 rw [List.take_length] at h5
 have c5 := pA hst lo x.processes q4 hb.2.2.2.2.1.1 (by omega)
 generalize kL aR q4 x.processes = q5 at h5 c5 |-
 have h6 := aS (k := q5) (i := x.ready.length) hb.2.2.2.2.2.1 (jb x.ready) (Nat.le_refl _)
 rw [List.take_length] at h6
 have c6 := pF hst lo x.ready q5 hb.2.2.2.2.2.1 (by omega)
 unfold aD.tw at c1
 unfold aP.tw at c2
 repeat' (first | refine W_ ?_ | refine aH ?_ | refine ad hG hst (c1) ?_ | refine ad hG hst (c2) ?_ | refine ad hG hst (c3) ?_ | refine ad hG hst (c4) ?_ | refine ad hG hst (c5) ?_ | refine ad hG hst (c6) ?_)
 exact r1_
end
end Go.Proofs.YtigipcbnfeoliaaGreatDoor
