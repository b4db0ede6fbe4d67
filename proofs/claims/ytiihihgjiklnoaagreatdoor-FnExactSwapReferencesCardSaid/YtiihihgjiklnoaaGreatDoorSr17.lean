/- Part 17 of the proof: the texts NiA, NiB, NiM, NiS, NiH. -/
import Derived.Test.YtiihihgjiklnoaaGreatDoorSr3
import Derived.Test.YtiihihgjiklnoaaGreatDoorSr14
import Derived.Test.YtiihihgjiklnoaaGreatDoorSr13
set_option linter.all false
set_option maxHeartbeats 2000000
set_option maxRecDepth 20000
namespace Go.Proofs.YtiihihgjiklnoaaGreatDoor
open Go Go.RowKit
def nRg {α β : Type} (mk : α -> β -> List TV) (l : List α) (ps : List β) : List (List TV) := List.zipWith mk l ps
def nOg {α β : Type} (ob : α -> β -> aG) (l : List α) (ps : List β) : aG := (List.zipWith ob l ps).flatten
theorem fw {α β : Type} (mk : α -> β -> List TV) {l : List α} {ps : List β} (h : ps.length = l.length) : (nRg mk l ps).length = l.length := by simp [nRg, h]
theorem jo {α β : Type} (ob : α -> β -> aG) {l : List α} {ps : List β} {i : Nat} (h : i < l.length) (hp : ps.length = i) (p : β) : nOg ob (l.take (i + 1)) (ps ++ [p]) = nOg ob (l.take i) ps ++ ob l[i] p := by
 unfold nOg
 rw [dN h, List.zipWith_append (by simp; omega)]; simp
theorem zw {α β : Type} (mk : α -> β -> List TV) (z : List TV) {l : List α} {ps : List β} {i : Nat} (h : i < l.length) (hp : ps.length = i) (p : β) :
   (nRg mk (l.take i) ps ++ List.replicate (l.length - i) z)[i]? = some z /\ (nRg mk (l.take i) ps ++ List.replicate (l.length - i) z).set i (mk l[i] p) = nRg mk (l.take (i + 1)) (ps ++ [p]) ++ List.replicate (l.length - (i + 1)) z := by
 have hl : (nRg mk (l.take i) ps).length = i := by simp [nRg]; omega
 have e : l.length - i = (l.length - (i + 1)) + 1 := by omega
 refine ⟨?_, ?_⟩
 ·rw [List.getElem?_append_right (by omega), hl, Nat.sub_self, e, List.replicate_succ]; rfl
 ·rw [List.set_append_right _ _ (by omega), hl, Nat.sub_self, e, List.replicate_succ, List.set_cons_zero]
  unfold nRg
  rw [dN h, List.zipWith_append (by simp; omega), List.append_assoc]; rfl
theorem pR (a : Nat × Nat × aW) (z T R : aG) : cG (a :: ((T ++ z) ++ R)) (a :: (z ++ (T ++ R))) := .perm (by
 have h : ((T ++ z) ++ R).Perm (z ++ (T ++ R)) := by
   rw [<- List.append_assoc]
   exact List.perm_append_comm.append_right R
 exact h.cons a)
theorem sZ (a : Nat × Nat × aW) (z R : aG) : cG (a :: (z ++ R)) (z ++ (a :: R)) := .perm List.perm_middle.symm
def Pl : Type := Nat × Nat
def cz (x : au) (p : Pl × Pl) : List TV := [.int .i64 x.kind, .int .i64 x.class_, .ms p.1.1 p.1.2 0 x.fields.length, .ms p.2.1 p.2.2 0 x.numbers.length]
def cR (x : au) (p : Pl × Pl) : aG := [(p.1.1, p.1.2, .row 3 (x.fields.map (ab.tw 0))), (p.2.1, p.2.2, .row 1 (aS x.numbers))]
def cn (x : ap) (p : Pl × Pl × Pl) : List TV := [.int .i64 x.mark, .int .i64 x.code, .int .i64 x.pc, .int .i64 x.sender, .int .i64 x.outer, .int .i64 x.home, .int .i64 x.self.kind, .int .i64 x.self.number, .str x.self.text, .ms p.1.1 p.1.2 0 x.slots.length, .ms p.2.1.1 p.2.1.2 0 x.stack.length, .ms p.2.2.1 p.2.2.2 0 x.values.length, .int .i64 x.other, .bool x.retry]
def cH (x : ap) (p : Pl × Pl × Pl) : aG := [(p.1.1, p.1.2, .row 3 (x.slots.map (ab.tw 0))), (p.2.1.1, p.2.1.2, .row 3 (x.stack.map (ab.tw 0))), (p.2.2.1, p.2.2.2, .row 3 (x.values.map (ab.tw 0)))]
def pu (l : List au) (y : Pl × List (Pl × Pl)) : aG := (y.1.1, y.1.2, .row 4 (nRg cz l y.2)) :: nOg cR l y.2
def nf (l : List ap) (y : Pl × List (Pl × Pl × Pl)) : aG := (y.1.1, y.1.2, .row 14 (nRg cn l y.2)) :: nOg cH l y.2
def StP : Type := ((Nat × Nat) × List (Nat × Nat)) × (Pl × List (Pl × Pl)) × Pl
def stO (x : aR) (y : StP) : aG := sa x.classes y.1 ++ (pu x.objects y.2.1 ++ [(y.2.2.1, y.2.2.2, .row 1 (bN x.output))])
def stC (x : aR) (y : StP) : List TV := [.ms y.1.1.1 y.1.1.2 0 x.classes.length, .ms y.2.1.1.1 y.2.1.1.2 0 x.objects.length, .ms y.2.2.1 y.2.2.2 0 x.output.length, .int .i64 x.ticks, .int .i64 x.budget, .int .i64 x.made]
def stI (x : aR) (y : StP) : Prop := y.1.2.length = x.classes.length /\ y.2.1.2.length = x.objects.length
def gF : Type := CbP × StP × Pl × (Pl × List (Pl × Pl × Pl)) × Pl × Pl
def imO (x : ao) (y : gF) : aG := cbO x.base y.1 ++ (stO x.store y.2.1 ++ ([(y.2.2.1.1, y.2.2.1.2, .row 6 (x.blocks.map (aj.tw 0)))] ++ (nf x.contexts y.2.2.2.1 ++ ([(y.2.2.2.2.1.1, y.2.2.2.2.1.2, .row 2 (x.processes.map (ar.tw 0)))] ++ [(y.2.2.2.2.2.1, y.2.2.2.2.2.2, .row 1 (aS x.ready))]))))
def imC (x : ao) (y : gF) : List TV := [.ms y.1.1.1.1 y.1.1.1.2 0 x.base.classes.length, .ms y.1.2.1.1.1 y.1.2.1.1.2 0 x.base.codes.length, .ms y.1.2.2.1 y.1.2.2.2 0 x.base.entries.length, .int .i64 x.base.main,
 .ms y.2.1.1.1.1 y.2.1.1.1.2 0 x.store.classes.length, .ms y.2.1.2.1.1.1 y.2.1.2.1.1.2 0 x.store.objects.length, .ms y.2.1.2.2.1 y.2.1.2.2.2 0 x.store.output.length, .int .i64 x.store.ticks, .int .i64 x.store.budget, .int .i64 x.store.made,
 .ms y.2.2.1.1 y.2.2.1.2 0 x.blocks.length, .ms y.2.2.2.1.1.1 y.2.2.2.1.1.2 0 x.contexts.length, .ms y.2.2.2.2.1.1 y.2.2.2.2.1.2 0 x.processes.length, .ms y.2.2.2.2.2.1 y.2.2.2.2.2.2 0 x.ready.length, .int .i64 x.now, .int .i64 x.status, .int .i64 x.value.kind, .int .i64 x.value.number, .str x.value.text, .str x.fault]
def imI (x : ao) (y : gF) : Prop := cbI x.base y.1 /\ stI x.store y.2.1 /\ y.2.2.2.1.2.length = x.contexts.length
section
variable {G : World -> Prop}
theorem qo (hst : az G) (lo : Nat) (l : List Int) (hn : l.length <= 1048576) : CtM Tryz.prog G 90 [.sl lo 1 (aS l)] [] (fun _ : Nat × Nat => True) (fun y => [(y.1, y.2, .row 1 (aS l))]) (fun y => .ms y.1 y.2 0 l.length) := by
 refine aw Tryz.func90 rfl Tryz.ntmps90 rfl rfl rfl fun w0 R gs objsR hG hR => ?_
 obtain rfl := hR.inv0
 clear hR
 have hlen := ai l
 have h0 := e9 (fun n : Int => [TV.int .i64 n]) [.int .i64 0] l
 repeat' (first | refine W_ ?_ | (refine gR ?_; intro ss bb))
 generalize ss = so; generalize bb = bo
 apply ak (X := Nat) [0, 3, 1000000] (fun i => [(4, .int .i64 (i : Int))]) (fun i => (so, bo, .row 1 (gH (fun n : Int => [TV.int .i64 n]) [.int .i64 0] l i)) :: R) (fun i => i <= l.length) (fun i => l.length - i) 0 (Nat.zero_le _)
 exact kp_; exact nw_
 ·rw [<- h0]; exact .refl _
 intro i hi
 try dsimp only
 by_cases hlt : i < l.length
 ·obtain ⟨hrow, hset⟩ := fN (fun n : Int => [TV.int .i64 n]) [.int .i64 0] hlt
  have hra : (aS l)[i]? = some [.int .i64 l[i]] := aK hlt
  generalize l[i] = x at hset hra
  try dsimp only at hset
  repeat' (first | refine W_ ?_ | refine bA ?_)
  refine ag (i + 1) (by omega) (by omega) (.of _ nw_ od_ (by rw [<- hset]; exact .refl _))
 ·obtain rfl : i = l.length := by omega
  rw [fb]
  repeat' refine W_ ?_
  exact av x_ rfl (so, bo) trivial rfl (.cons _ _ _ _ (.nil R)) pk_ (.tmp _ _ rfl) rfl
theorem gm (hst : az G) (lo : Nat) (l : List ab) (hb : l.length <= 1048576 /\ ∀ y ∈ l, ab.small 1048576 y) : CtM Tryz.prog G 238 [.sl lo 3 (l.map (ab.tw lo))] [] (fun _ : Nat × Nat => True) (fun y => [(y.1, y.2, .row 3 (l.map (ab.tw 0)))]) (fun y => .ms y.1 y.2 0 l.length) := by
 refine aw Tryz.func238 rfl Tryz.ntmps238 rfl rfl rfl fun w0 R gs objsR hG hR => ?_
 obtain rfl := hR.inv0
 clear hR
 have hlen := ab.len lo l
 have hl1 := hb.1
 have h0 := e9 (ab.tw 0) ab.tz l
 repeat' (first | refine W_ ?_ | (refine gR ?_; intro ss bb))
 generalize ss = so; generalize bb = bo
 apply ak (X := Nat) [0, 3, 1000000] (fun i => [(4, .int .i64 (i : Int))]) (fun i => (so, bo, .row 3 (gH (ab.tw 0) ab.tz l i)) :: R) (fun i => i <= l.length) (fun i => l.length - i) 0 (Nat.zero_le _)
 exact kp_; exact nw_
 ·rw [<- h0]; exact .refl _
 intro i hi
 try dsimp only
 by_cases hlt : i < l.length
 ·obtain ⟨hrow, hset⟩ := fN (ab.tw 0) ab.tz hlt
  have hra : (l.map (ab.tw lo))[i]? = some (l[i].tw lo) := aK hlt
  have hbi := hb.2 _ (List.getElem_mem hlt)
  generalize l[i] = x at hset hra hbi
  have hct := js hst lo x hbi
  unfold ab.tw at hct
  rw [show x.tw lo = [.int .i64 x.kind, .int .i64 x.number, .str x.text] from rfl] at hra
  replace hrow : (gH (ab.tw 0) ab.tz l i)[i]? = some [.int .i64 0, .int .i64 0, .str ⟨#[]⟩] := hrow
  repeat' (first | refine W_ ?_ | refine ad hG hst (hct) ?_ | refine bA ?_)
  refine ag (i + 1) (by omega) (by omega) (.of _ nw_ od_ (by rw [<- hset]; exact .refl _))
 ·obtain rfl : i = l.length := by omega
  rw [fb]
  repeat' refine W_ ?_
  exact av x_ rfl (so, bo) trivial rfl (.cons _ _ _ _ (.nil R)) pk_ (.tmp _ _ rfl) rfl
theorem o9 (hst : az G) (lo : Nat) (l : List aj) (hb : l.length <= 1048576 /\ ∀ y ∈ l, aj.small 1048576 y) : CtM Tryz.prog G 87 [.sl lo 6 (l.map (aj.tw lo))] [] (fun _ : Nat × Nat => True) (fun y => [(y.1, y.2, .row 6 (l.map (aj.tw 0)))]) (fun y => .ms y.1 y.2 0 l.length) := by
 refine aw Tryz.func87 rfl Tryz.ntmps87 rfl rfl rfl fun w0 R gs objsR hG hR => ?_
 obtain rfl := hR.inv0
 clear hR
 have hlen := aj.len lo l
 have hl1 := hb.1
 have h0 := e9 (aj.tw 0) aj.tz l
 repeat' (first | refine W_ ?_ | (refine gR ?_; intro ss bb))
 generalize ss = so; generalize bb = bo
 apply ak (X := Nat) [0, 3, 1000000] (fun i => [(4, .int .i64 (i : Int))]) (fun i => (so, bo, .row 6 (gH (aj.tw 0) aj.tz l i)) :: R) (fun i => i <= l.length) (fun i => l.length - i) 0 (Nat.zero_le _)
 exact kp_; exact nw_
 ·rw [<- h0]; exact .refl _
 intro i hi
 try dsimp only
 by_cases hlt : i < l.length
 ·obtain ⟨hrow, hset⟩ := fN (aj.tw 0) aj.tz hlt
  have hra : (l.map (aj.tw lo))[i]? = some (l[i].tw lo) := aK hlt
  have hbi := hb.2 _ (List.getElem_mem hlt)
  generalize l[i] = x at hset hra hbi
  have hct := sA hst lo x hbi
  unfold aj.tw at hct
  rw [show x.tw lo = [.int .i64 x.code, .int .i64 x.outer, .int .i64 x.home, .int .i64 x.self.kind, .int .i64 x.self.number, .str x.self.text] from rfl] at hra
  replace hrow : (gH (aj.tw 0) aj.tz l i)[i]? = some [.int .i64 0, .int .i64 0, .int .i64 0, .int .i64 0, .int .i64 0, .str ⟨#[]⟩] := hrow
  repeat' (first | refine W_ ?_ | refine ad hG hst (hct) ?_ | refine bA ?_)
  refine ag (i + 1) (by omega) (by omega) (.of _ nw_ od_ (by rw [<- hset]; exact .refl _))
 ·obtain rfl : i = l.length := by omega
  rw [fb]
  repeat' refine W_ ?_
  exact av x_ rfl (so, bo) trivial rfl (.cons _ _ _ _ (.nil R)) pk_ (.tmp _ _ rfl) rfl
theorem oZ (hst : az G) (lo : Nat) (l : List ar) (hb : l.length <= 1048576 /\ ∀ y ∈ l, ar.small 1048576 y) : CtM Tryz.prog G 89 [.sl lo 2 (l.map (ar.tw lo))] [] (fun _ : Nat × Nat => True) (fun y => [(y.1, y.2, .row 2 (l.map (ar.tw 0)))]) (fun y => .ms y.1 y.2 0 l.length) := by
 refine aw Tryz.func89 rfl Tryz.ntmps89 rfl rfl rfl fun w0 R gs objsR hG hR => ?_
 obtain rfl := hR.inv0
 clear hR
 have hlen := ar.len lo l
 have hl1 := hb.1
 have h0 := e9 (ar.tw 0) ar.tz l
 repeat' (first | refine W_ ?_ | (refine gR ?_; intro ss bb))
 generalize ss = so; generalize bb = bo
 apply ak (X := Nat) [0, 3, 1000000] (fun i => [(4, .int .i64 (i : Int))]) (fun i => (so, bo, .row 2 (gH (ar.tw 0) ar.tz l i)) :: R) (fun i => i <= l.length) (fun i => l.length - i) 0 (Nat.zero_le _)
 exact kp_; exact nw_
 ·rw [<- h0]; exact .refl _
 intro i hi
 try dsimp only
 by_cases hlt : i < l.length
 ·obtain ⟨hrow, hset⟩ := fN (ar.tw 0) ar.tz hlt
  have hra : (l.map (ar.tw lo))[i]? = some (l[i].tw lo) := aK hlt
  have hbi := hb.2 _ (List.getElem_mem hlt)
  generalize l[i] = x at hset hra hbi
  have hct := sN hst lo x hbi
  unfold ar.tw at hct
  rw [show x.tw lo = [.int .i64 x.at_, .bool x.main] from rfl] at hra
  replace hrow : (gH (ar.tw 0) ar.tz l i)[i]? = some [.int .i64 0, .bool false] := hrow
  repeat' (first | refine W_ ?_ | refine ad hG hst (hct) ?_ | refine bA ?_)
  refine ag (i + 1) (by omega) (by omega) (.of _ nw_ od_ (by rw [<- hset]; exact .refl _))
 ·obtain rfl : i = l.length := by omega
  rw [fb]
  repeat' refine W_ ?_
  exact av x_ rfl (so, bo) trivial rfl (.cons _ _ _ _ (.nil R)) pk_ (.tmp _ _ rfl) rfl
theorem sw (hst : az G) (lo : Nat) (x : au) (hb : x.small 1048576) : CtM Tryz.prog G 237 [.agg [.int .i64 x.kind, .int .i64 x.class_, .sl lo 3 (x.fields.map (ab.tw lo)), .sl lo 1 (aS x.numbers)]] [] (fun _ : Pl × Pl => True) (fun y => cR x y) (fun y => .agg (cz x y)) := by
 refine aw Tryz.func237 rfl Tryz.ntmps237 rfl rfl rfl fun w0 R gs objsR hG hR => ?_
 obtain rfl := hR.inv0
 clear hR
 have h1 := gm hst lo x.fields hb.1
 have h2 := qo hst lo x.numbers hb.2
 unfold cR cz
 repeat' (first | refine W_ ?_ | refine aM ?_ | (refine am ?_; intro ss bb) | refine ac ?_ | ((with_reducible apply aJ); rfl; kernel_rfl; (repeat (first | exact aH.nil | ((with_reducible apply aH.cons); rfl))); exact hG; exact h1; exact .nil _; intro y1 hy1; refine bI ?_) | ((with_reducible apply aJ); rfl; kernel_rfl; (repeat (first | exact aH.nil | ((with_reducible apply aH.cons); rfl))); exact hG; exact h2; exact .nil _; intro y2 hy2; refine bI ?_))
 refine av x_ rfl (y1, y2) trivial rfl (.cons _ _ _ _ (.cons _ _ _ _ (.nil R))) pk_ (.cell _ _ _ _ _ rfl mm_ (by kernel_rfl) (by kernel_rfl) (by kernel_rfl)) rfl
theorem qC (hst : az G) (lo : Nat) (l : List au) (hb : l.length <= 1048576 /\ ∀ y ∈ l, au.small 1048576 y) : CtM Tryz.prog G 173 [.sl lo 4 (l.map (au.tw lo))] [] (fun y : Pl × List (Pl × Pl) => y.2.length = l.length) (fun y => pu l y) (fun y => .ms y.1.1 y.1.2 0 l.length) := by
 refine aw Tryz.func173 rfl Tryz.ntmps173 rfl rfl rfl fun w0 R gs objsR hG hR => ?_
 obtain rfl := hR.inv0
 clear hR
 have hlen := au.len lo l
 have hl1 := hb.1
 have h0 : List.replicate l.length au.tz = nRg cz (l.take 0) [] ++ List.replicate (l.length - 0) au.tz := by simp [nRg]
 repeat' (first | refine W_ ?_ | (refine gR ?_; intro ss bb))
 generalize ss = so; generalize bb = bo
 apply ak (X := Nat × List (Pl × Pl)) [0, 3, 1000000] (fun x => [(4, .int .i64 (x.1 : Int))]) (fun x => (so, bo, .row 4 (nRg cz (l.take x.1) x.2 ++ List.replicate (l.length - x.1) au.tz)) :: (nOg cR (l.take x.1) x.2 ++ R)) (fun x => x.1 <= l.length /\ x.2.length = x.1) (fun x => l.length - x.1) (0, []) ⟨Nat.zero_le _, rfl⟩
 exact kp_; exact nw_
 ·rw [<- h0]; exact .refl _
 rintro ⟨i, ps⟩ ⟨hi, hps⟩
 dsimp only at hi hps |-
 by_cases hlt : i < l.length
 ·have hrs := fun p => zw cz au.tz hlt hps p
  have hos := fun p => jo cR hlt hps p
  have hra : (l.map (au.tw lo))[i]? = some (l[i].tw lo) := aK hlt
  have hbi := hb.2 _ (List.getElem_mem hlt)
  generalize l[i] = x at hrs hos hra hbi
  have hct := sw hst lo x hbi
  rw [show x.tw lo = [.int .i64 x.kind, .int .i64 x.class_, .sl lo 3 (x.fields.map (ab.tw lo)), .sl lo 1 (aS x.numbers)] from rfl] at hra
  have hrow : (nRg cz (l.take i) ps ++ List.replicate (l.length - i) au.tz)[i]? = some [.int .i64 0, .int .i64 0, .nils, .nils] := (hrs ((0, 0), (0, 0))).1
  generalize nOg cR (l.take i) ps = T at hos |-
  unfold cz at hct
  repeat' (first | refine W_ ?_ | ((with_reducible apply aJ); rfl; kernel_rfl; (repeat (first | exact aH.nil | ((with_reducible apply aH.cons); rfl))); exact hG; exact hct; exact .nil _; intro y hy; refine bY (sZ _ _ _) ?_) | refine bA ?_)
  refine ag (i + 1, ps ++ [y]) ⟨by dsimp only; omega, by dsimp only; simp [hps]⟩ (by dsimp only; omega) (.of _ nw_ od_ ?_)
  dsimp only
  rw [hos y, <- (hrs y).2]
  exact pR _ _ T R
 ·obtain rfl : i = l.length := by omega
  rw [List.take_of_length_le (Nat.le_refl _), Nat.sub_self, List.replicate_zero, List.append_nil]
  repeat' refine W_ ?_
  exact av x_ rfl ((so, bo), ps) hps rfl (.cons _ _ _ _ (.app _ R)) (.refl _) (.tmp _ _ rfl) rfl
theorem ru (hst : az G) (lo : Nat) (x : ap) (hb : x.small 1048576) : CtM Tryz.prog G 176 [.agg [.int .i64 x.mark, .int .i64 x.code, .int .i64 x.pc, .int .i64 x.sender, .int .i64 x.outer, .int .i64 x.home, .int .i64 x.self.kind, .int .i64 x.self.number, .str x.self.text, .sl lo 3 (x.slots.map (ab.tw lo)), .sl lo 3 (x.stack.map (ab.tw lo)), .sl lo 3 (x.values.map (ab.tw lo)), .int .i64 x.other, .bool x.retry]] [] (fun _ : Pl × Pl × Pl => True) (fun y => cH x y) (fun y => .agg (cn x y)) := by
 refine aw Tryz.func176 rfl Tryz.ntmps176 rfl rfl rfl fun w0 R gs objsR hG hR => ?_
 obtain rfl := hR.inv0
 clear hR
 have h1 := gm hst lo x.slots hb.2.1
 have h2 := gm hst lo x.stack hb.2.2.1
 have h3 := gm hst lo x.values hb.2.2.2
 have hvc := js hst lo x.self hb.1
 unfold ab.tw at hvc
 unfold cH cn
 repeat' (first | refine W_ ?_ | refine aM ?_ | (refine am ?_; intro ss bb) | refine ac ?_ | refine ad hG hst (hvc) ?_ | ((with_reducible apply aJ); rfl; kernel_rfl; (repeat (first | exact aH.nil | ((with_reducible apply aH.cons); rfl))); exact hG; exact h1; exact .nil _; intro y1 hy1; refine bI ?_) | ((with_reducible apply aJ); rfl; kernel_rfl; (repeat (first | exact aH.nil | ((with_reducible apply aH.cons); rfl))); exact hG; exact h2; exact .nil _; intro y2 hy2; refine bI ?_) | ((with_reducible apply aJ); rfl; kernel_rfl; (repeat (first | exact aH.nil | ((with_reducible apply aH.cons); rfl))); exact hG; exact h3; exact .nil _; intro y3 hy3; refine bI ?_))
 refine av x_ rfl (y1, y2, y3) trivial rfl (.cons _ _ _ _ (.cons _ _ _ _ (.cons _ _ _ _ (.nil R)))) pk_ (.cell _ _ _ _ _ rfl mm_ (by kernel_rfl) (by kernel_rfl) (by kernel_rfl)) rfl
theorem oW (hst : az G) (lo : Nat) (l : List ap) (hb : l.length <= 1048576 /\ ∀ y ∈ l, ap.small 1048576 y) : CtM Tryz.prog G 88 [.sl lo 14 (l.map (ap.tw lo))] [] (fun y : Pl × List (Pl × Pl × Pl) => y.2.length = l.length) (fun y => nf l y) (fun y => .ms y.1.1 y.1.2 0 l.length) := by
 refine aw Tryz.func88 rfl Tryz.ntmps88 rfl rfl rfl fun w0 R gs objsR hG hR => ?_
 obtain rfl := hR.inv0
 clear hR
 have hlen := ap.len lo l
 have hl1 := hb.1
 have h0 : List.replicate l.length ap.tz = nRg cn (l.take 0) [] ++ List.replicate (l.length - 0) ap.tz := by simp [nRg]
 repeat' (first | refine W_ ?_ | (refine gR ?_; intro ss bb))
 generalize ss = so; generalize bb = bo
 apply ak (X := Nat × List (Pl × Pl × Pl)) [0, 3, 1000000] (fun x => [(4, .int .i64 (x.1 : Int))]) (fun x => (so, bo, .row 14 (nRg cn (l.take x.1) x.2 ++ List.replicate (l.length - x.1) ap.tz)) :: (nOg cH (l.take x.1) x.2 ++ R)) (fun x => x.1 <= l.length /\ x.2.length = x.1) (fun x => l.length - x.1) (0, []) ⟨Nat.zero_le _, rfl⟩
 exact kp_; exact nw_
 ·rw [<- h0]; exact .refl _
 rintro ⟨i, ps⟩ ⟨hi, hps⟩
 dsimp only at hi hps |-
 by_cases hlt : i < l.length
 ·have hrs := fun p => zw cn ap.tz hlt hps p
  have hos := fun p => jo cH hlt hps p
  have hra : (l.map (ap.tw lo))[i]? = some (l[i].tw lo) := aK hlt
  have hbi := hb.2 _ (List.getElem_mem hlt)
  generalize l[i] = x at hrs hos hra hbi
  have hct := ru hst lo x hbi
  rw [show x.tw lo = [.int .i64 x.mark, .int .i64 x.code, .int .i64 x.pc, .int .i64 x.sender, .int .i64 x.outer, .int .i64 x.home, .int .i64 x.self.kind, .int .i64 x.self.number, .str x.self.text, .sl lo 3 (x.slots.map (ab.tw lo)), .sl lo 3 (x.stack.map (ab.tw lo)), .sl lo 3 (x.values.map (ab.tw lo)), .int .i64 x.other, .bool x.retry] from rfl] at hra
  have hrow : (nRg cn (l.take i) ps ++ List.replicate (l.length - i) ap.tz)[i]? = some [.int .i64 0, .int .i64 0, .int .i64 0, .int .i64 0, .int .i64 0, .int .i64 0, .int .i64 0, .int .i64 0, .str ⟨#[]⟩, .nils, .nils, .nils, .int .i64 0, .bool false] := (hrs ((0, 0), (0, 0), (0, 0))).1
  generalize nOg cH (l.take i) ps = T at hos |-
  unfold cn at hct
  repeat' (first | refine W_ ?_ | ((with_reducible apply aJ); rfl; kernel_rfl; (repeat (first | exact aH.nil | ((with_reducible apply aH.cons); rfl))); exact hG; exact hct; exact .nil _; intro y hy; refine bY (sZ _ _ _) ?_) | refine bA ?_)
  refine ag (i + 1, ps ++ [y]) ⟨by dsimp only; omega, by dsimp only; simp [hps]⟩ (by dsimp only; omega) (.of _ nw_ od_ ?_)
  dsimp only
  rw [hos y, <- (hrs y).2]
  exact pR _ _ T R
 ·obtain rfl : i = l.length := by omega
  rw [List.take_of_length_le (Nat.le_refl _), Nat.sub_self, List.replicate_zero, List.append_nil]
  repeat' refine W_ ?_
  exact av x_ rfl ((so, bo), ps) hps rfl (.cons _ _ _ _ (.app _ R)) (.refl _) (.tmp _ _ rfl) rfl
end
theorem nF (A L R : aG) : ((A ++ L) ++ R).Perm (L ++ (A ++ R)) := by
 rw [List.append_assoc]
 exact List.perm_append_comm_assoc A L R
theorem abf (A B C D E F R : aG) : ((A ++ (B ++ (C ++ (D ++ (E ++ F))))) ++ R).Perm (F ++ (E ++ (D ++ (C ++ (B ++ (A ++ R)))))) :=
 (nF A _ R).trans ((nF B _ _).trans ((nF C _ _).trans ((nF D _ _).trans (nF E _ _))))
section
variable {G : World -> Prop}
theorem vi (hst : az G) (lo : Nat) (x : aR) (hb : x.small 1048576) : CtM Tryz.prog G 86 [.agg (x.tw lo)] [] (stI x) (stO x) (fun y => .agg (stC x y)) := by
 refine aw Tryz.func86 rfl Tryz.ntmps86 rfl rfl rfl fun w0 R gs objsR hG hR => ?_
 obtain rfl := hR.inv0
 clear hR
 have c1 := iG hst lo x.classes hb.1
 have c2 := qC hst lo x.objects hb.2.1
 have c3 := kI hst lo x.output hb.2.2.1
 unfold aR.tw
 repeat' (first | refine W_ ?_ | refine aM ?_ | (refine am ?_; intro ss bb) | refine ac ?_ | ((with_reducible apply aJ); rfl; kernel_rfl; (repeat (first | exact aH.nil | ((with_reducible apply aH.cons); rfl))); exact hG; (first | exact c1 | exact c2 | exact c3); exact .nil _; intro y hy; refine bY (jh _ _ _ _) ?_))
 rename_i yc hyc yd hyd
 refine av (t1 := .agg [.ms yc.1.1 yc.1.2 0 x.classes.length, .ms yd.1.1 yd.1.2 0 x.objects.length, .ms y.1 y.2 0 x.output.length, .int .i64 x.ticks, .int .i64 x.budget, .int .i64 x.made]) x_ rfl (yc, yd, y) ⟨hyc, hyd⟩ rfl (.app _ R) (.drop (.drop (.perm (vy _ _ _ R)))) (.cell _ _ _ _ _ rfl mm_ (by kernel_rfl) (by kernel_rfl) (by kernel_rfl)) rfl
theorem nq (hst : az G) (lo : Nat) (x : ao) (hb : x.small 1048576) : CtM Tryz.prog G 23 [.agg (x.tw lo)] [] (imI x) (imO x) (fun y => .agg (imC x y)) := by
 refine aw Tryz.func23 rfl Tryz.ntmps23 rfl rfl rfl fun w0 R gs objsR hG hR => ?_
 obtain rfl := hR.inv0
 clear hR
 have c1 := pb hst lo x.base hb.1
 have c2 := vi hst lo x.store hb.2.1
 have c3 := o9 hst lo x.blocks hb.2.2.1
 have c4 := oW hst lo x.contexts hb.2.2.2.1
 have c5 := oZ hst lo x.processes hb.2.2.2.2.1
 have c6 := qo hst lo x.ready hb.2.2.2.2.2.1
 have c7 := js hst lo x.value hb.2.2.2.2.2.2.1
 unfold aD.tw cbC at c1
 unfold aR.tw stC at c2
 unfold ab.tw at c7
 unfold ao.tw
 repeat' (first | refine W_ ?_ | refine aM ?_ | (refine am ?_; intro ss bb) | refine ac ?_ | refine ad hG hst (c7) ?_ | ((with_reducible apply aJ); rfl; kernel_rfl; (repeat (first | exact aH.nil | ((with_reducible apply aH.cons); rfl))); exact hG; (first | exact c1 | exact c2 | exact c3 | exact c4 | exact c5 | exact c6); exact .nil _; intro y hy; refine bY (jh _ _ _ _) ?_))
 rename_i y1 h1 y2 h2 y3 h3 y4 h4 y5 h5
 refine av (t1 := .agg [.ms y1.1.1.1 y1.1.1.2 0 x.base.classes.length, .ms y1.2.1.1.1 y1.2.1.1.2 0 x.base.codes.length, .ms y1.2.2.1 y1.2.2.2 0 x.base.entries.length, .int .i64 x.base.main, .ms y2.1.1.1 y2.1.1.2 0 x.store.classes.length, .ms y2.2.1.1.1 y2.2.1.1.2 0 x.store.objects.length, .ms y2.2.2.1 y2.2.2.2 0 x.store.output.length, .int .i64 x.store.ticks, .int .i64 x.store.budget, .int .i64 x.store.made, .ms y3.1 y3.2 0 x.blocks.length, .ms y4.1.1 y4.1.2 0 x.contexts.length, .ms y5.1 y5.2 0 x.processes.length, .ms y.1 y.2 0 x.ready.length, .int .i64 x.now, .int .i64 x.status, .int .i64 x.value.kind, .int .i64 x.value.number, .str x.value.text, .str x.fault]) x_ rfl (y1, y2, y3, y4, y5, y) ⟨h1, h2, h4⟩ rfl (.app _ R) (.drop (.drop (.perm (abf _ _ _ _ _ _ R)))) (.cell _ _ _ _ _ rfl mm_ (by kernel_rfl) (by kernel_rfl) (by kernel_rfl)) rfl
end
theorem rk {α β : Type} (mk : α -> β -> List TV) {l : List α} {ps : List β} {i : Nat} {p : β} {x : α} (hx : l[i]? = some x) (hp : ps[i]? = some p) : (nRg mk l ps)[i]? = some (mk x p) := by
 unfold nRg
 rw [List.getElem?_zipWith, hx, hp]
theorem wb {α β : Type} (mk : α -> β -> List TV) {l : List α} {ps : List β} {i : Nat} {p : β} {x : α} (hp : ps[i]? = some p) : nRg mk (l.set i x) ps = (nRg mk l ps).set i (mk x p) := oq mk hp
theorem lb {a b : List aG} (h : a.Perm b) : a.flatten.Perm b.flatten := by
 induction h with
 | nil => exact .refl _
 | cons x _ ih => exact ih.append_left x
 | swap x y l => exact List.perm_append_comm_assoc y x l.flatten
 | trans _ _ h1 h2 => exact h1.trans h2
def ngE {α β : Type} (ob : α -> β -> aG) (l : List α) (ps : List β) (i : Nat) : aG := ((List.zipWith ob l ps).eraseIdx i).flatten
theorem li {α β : Type} (ob : α -> β -> aG) {l : List α} {ps : List β} {i : Nat} {p : β} {x : α} (hx : l[i]? = some x) (hp : ps[i]? = some p) : (nOg ob l ps).Perm (ob x p ++ ngE ob l ps i) := by
 have h := lb (qX (l := List.zipWith ob l ps) (i := i) (x := ob x p) (by rw [List.getElem?_zipWith, hx, hp]))
 simpa [nOg, ngE] using h
theorem aaK {α β : Type} (ob : α -> β -> aG) {l : List α} {ps : List β} {i : Nat} {p : β} {x : α} (hl : i < l.length) (hp : ps[i]? = some p) : (nOg ob (l.set i x) ps).Perm (ob x p ++ ngE ob l ps i) := by
 have h := li ob (l := l.set i x) (ps := ps) (i := i) (p := p) (x := x) (by rw [List.getElem?_set_self hl]) hp
 have e : ngE ob (l.set i x) ps i = ngE ob l ps i := by
   unfold ngE
   rw [oq _ hp, kp]
 rw [e] at h
 exact h
theorem ac4 (A B : List aG) (s : aG) : cG (s :: (A ++ B)).flatten (A ++ s :: B).flatten := .perm (lb List.perm_middle).symm
theorem zB {a z1 z2 : Nat × Nat × aW} {N E : aG} (h : N.Perm ([z1, z2] ++ E)) (R : aG) : cG (z1 :: z2 :: a :: (E ++ R)) (a :: (N ++ R)) := .perm (by
 have h1 : (a :: (N ++ R)).Perm (a :: (([z1, z2] ++ E) ++ R)) := (h.append_right R).cons a
 exact (List.perm_middle (l₁ := [z1, z2]) (l₂ := E ++ R) (a := a)).trans h1.symm)
theorem abI {a z1 z2 : Nat × Nat × aW} {N E : aG} (h : N.Perm ([z1, z2] ++ E)) (R : aG) : cG (a :: (N ++ R)) (z2 :: z1 :: a :: (E ++ R)) := .perm (by
 have h1 : (a :: (N ++ R)).Perm (a :: (([z1, z2] ++ E) ++ R)) := (h.append_right R).cons a
 exact h1.trans ((List.perm_middle (l₁ := [z1, z2]) (l₂ := E ++ R) (a := a)).symm.trans (List.Perm.swap _ _ _)))
theorem zW {a z1 z2 z3 : Nat × Nat × aW} {N E : aG} (h : N.Perm ([z1, z2, z3] ++ E)) (R : aG) : cG (z1 :: z2 :: z3 :: a :: (E ++ R)) (a :: (N ++ R)) := .perm (by
 have h1 : (a :: (N ++ R)).Perm (a :: (([z1, z2, z3] ++ E) ++ R)) := (h.append_right R).cons a
 exact (List.perm_middle (l₁ := [z1, z2, z3]) (l₂ := E ++ R) (a := a)).trans h1.symm)
theorem abU {a z1 z2 z3 : Nat × Nat × aW} {N E : aG} (h : N.Perm ([z1, z2, z3] ++ E)) (R : aG) : cG (a :: (N ++ R)) (z3 :: z2 :: z1 :: a :: (E ++ R)) := .perm (by
 have h1 : (a :: (N ++ R)).Perm (a :: (([z1, z2, z3] ++ E) ++ R)) := (h.append_right R).cons a
 have h2 : (z3 :: z2 :: z1 :: a :: (E ++ R)).Perm (z1 :: z2 :: z3 :: a :: (E ++ R)) := ((List.Perm.swap z2 z3 _).trans ((List.Perm.swap z1 z3 _).cons z2)).trans ((List.Perm.swap z1 z2 _))
 exact h1.trans ((List.perm_middle (l₁ := [z1, z2, z3]) (l₂ := E ++ R) (a := a)).symm.trans h2.symm))
theorem aa6 (z1 z2 z3 : Nat × Nat × aW) (R : aG) : cG (z3 :: z2 :: z1 :: R) (z2 :: z1 :: z3 :: R) := .perm (List.perm_middle (l₁ := [z2, z1]) (l₂ := R) (a := z3)).symm
def iQ (k : Int) (_ : Int) : Int := k
def dz (k : Int) (_ : Int) : Int := k + 1
theorem jA (l : List Int) : ∀ x ∈ l, ∀ q, q <= dz q x /\ dz q x <= q + (1 : Nat) := fun x _ q => by unfold dz; omega
def cS (k : Int) (_ : ab) : ab := ⟨k, k + 1, dL (k + 1 + 1)⟩
def aB (k : Int) (_ : ab) : Int := k + 1 + 1 + 1
theorem ci (l : List ab) : ∀ x ∈ l, ∀ q, q <= aB q x /\ aB q x <= q + (3 : Nat) := fun x _ q => by unfold aB; omega
def cC (k : Int) (_ : aj) : aj := ⟨k, k + 1, k + 1 + 1, ⟨k + 1 + 1 + 1, k + 1 + 1 + 1 + 1, dL (k + 1 + 1 + 1 + 1 + 1)⟩⟩
def aP (k : Int) (_ : aj) : Int := k + 1 + 1 + 1 + 1 + 1 + 1
theorem fk (l : List aj) : ∀ x ∈ l, ∀ q, q <= aP q x /\ aP q x <= q + (6 : Nat) := fun x _ q => by unfold aP; omega
def cD (k : Int) (_ : ar) : ar := ⟨k, decide ((k + 1).tmod 3 = 0)⟩
def aU (k : Int) (_ : ar) : Int := k + 1 + 1
theorem fj (l : List ar) : ∀ x ∈ l, ∀ q, q <= aU q x /\ aU q x <= q + (2 : Nat) := fun x _ q => by unfold aU; omega
def bQ (k : Int) (x : au) : au := ⟨k, k + 1, mkL cS aB (k + 1 + 1) x.fields, mkL iQ dz (kL aB (k + 1 + 1) x.fields) x.numbers⟩
def aX (k : Int) (x : au) : Int := kL dz (kL aB (k + 1 + 1) x.fields) x.numbers
theorem fV {l : List au} (h : ∀ y ∈ l, au.small 1048576 y) : ∀ x ∈ l, ∀ q, q <= aX q x /\ aX q x <= q + (4194306 : Nat) := fun x hx q => by
 have h1 := h x hx
 have h2 := h1.1.1
 have h3 := h1.2
 have h4 := gK (nx := aB) (l := x.fields) (k := q + 1 + 1) (ci _)
 have h5 := gK (nx := dz) (l := x.numbers) (k := kL aB (q + 1 + 1) x.fields) (jA _)
 unfold aX
 omega
def k9 (k : Int) : Int := k + 1 + 1 + 1 + 1 + 1 + 1 + 1 + 1 + 1
def bw (k : Int) (x : ap) : ap := ⟨k, k + 1, k + 1 + 1, k + 1 + 1 + 1, k + 1 + 1 + 1 + 1, k + 1 + 1 + 1 + 1 + 1, ⟨k + 1 + 1 + 1 + 1 + 1 + 1, k + 1 + 1 + 1 + 1 + 1 + 1 + 1, dL (k + 1 + 1 + 1 + 1 + 1 + 1 + 1 + 1)⟩, mkL cS aB (k9 k) x.slots, mkL cS aB (kL aB (k9 k) x.slots) x.stack, mkL cS aB (kL aB (kL aB (k9 k) x.slots) x.stack) x.values, kL aB (kL aB (kL aB (k9 k) x.slots) x.stack) x.values, decide ((kL aB (kL aB (kL aB (k9 k) x.slots) x.stack) x.values + 1).tmod 3 = 0)⟩
def aQ (k : Int) (x : ap) : Int := kL aB (kL aB (kL aB (k9 k) x.slots) x.stack) x.values + 1 + 1
theorem fp {l : List ap} (h : ∀ y ∈ l, ap.small 1048576 y) : ∀ x ∈ l, ∀ q, q <= aQ q x /\ aQ q x <= q + (9437195 : Nat) := fun x hx q => by
 have h1 := h x hx
 have h2 := h1.2.1.1
 have h3 := h1.2.2.1.1
 have h4 := h1.2.2.2.1
 have h5 := gK (nx := aB) (l := x.slots) (k := k9 q) (ci _)
 have h6 := gK (nx := aB) (l := x.stack) (k := kL aB (k9 q) x.slots) (ci _)
 have h7 := gK (nx := aB) (l := x.values) (k := kL aB (kL aB (k9 q) x.slots) x.stack) (ci _)
 have h8 : k9 q = q + 9 := by unfold k9; omega
 unfold aQ
 omega
section
variable {G : World -> Prop}
theorem lX (hst : az G) (s b : Nat) (l : List Int) (k : Int) (hn : l.length <= 1048576) (hk : 0 <= k /\ k <= 1000000000000000) : CtM Tryz.prog G 33 [.ms s b 0 l.length, .int .i64 k] [(s, b, .row 1 (aS (l)))] (fun _ : Unit => True) (fun _ => [(s, b, .row 1 (aS (mkL iQ dz k l)))]) (fun _ => .int .i64 (kL dz k l)) := by
 refine aw Tryz.func33 rfl Tryz.ntmps33 rfl rfl rfl fun w0 R gs objsR hG hR => ?_
 obtain rfl := hR.inv1
 clear hR
 repeat' refine W_ ?_
 apply ak (X := Nat) [0, 1000000] (fun x => [(5, .int .i64 (x : Int)), (1, .int .i64 (kL dz k (l.take x)))]) (fun x => (s, b, .row 1 (aS (ptL iQ dz k l x))) :: R) (fun x => x <= l.length) (fun x => l.length - x) 0 (Nat.zero_le _)
 exact kp_; exact nw_
 ·exact .refl _
 intro i hi
 try dsimp only
 have hq := aZ (k := k) (i := i) hn (jA l) hi
 by_cases hlt : i < l.length
 ·have hrow : (aS (ptL iQ dz k l i))[i]? = some ((fun n : Int => [TV.int .i64 n]) l[i]) := by
    simp only [aS, List.getElem?_map, d8 hlt]; rfl
  have hset : (aS (ptL iQ dz k l i)).set i ((fun n : Int => [TV.int .i64 n]) (iQ (kL dz k (l.take i)) l[i])) = aS (ptL iQ dz k l (i + 1)) := by
    rw [<- fM hlt]; simp [aS, List.map_set]
  have hks := cI (nx := dz) (k := k) hlt
  have hrl : (aS (ptL iQ dz k l i)).length = l.length := by simp [aS, dk hi]
  generalize aS (ptL iQ dz k l i) = rows at hrow hset hrl |-
  generalize kL dz k (l.take i) = q at hq hset hks |-
  generalize l[i] = x at hrow hset hks
  replace hrow : rows[i]? = some [.int .i64 x] := hrow
  have hks2 : kL dz k (l.take (i + 1)) = q + 1 := hks
  repeat' (first | refine W_ ?_ | refine bA ?_)
  refine ag (i + 1) (by omega) (by omega) (.of _ (cE.envCons rfl (cE.envCons (dG rfl (by rw [hks2])) cE.envNil)) od_ ?_)
  rw [<- hset]
  (try simp only [List.set_set])
  exact .refl _
 ·obtain rfl : i = l.length := by omega
  rw [et, List.take_length]
  repeat' refine W_ ?_
  exact av x_ rfl () trivial rfl (.cons _ _ _ _ (.nil R)) pk_ (.tmp _ _ rfl) rfl
theorem fg (hst : az G) (s b : Nat) (l : List ab) (k : Int) (hn : l.length <= 1048576) (hk : 0 <= k /\ k <= 1000000000000000) : CtM Tryz.prog G 151 [.ms s b 0 l.length, .int .i64 k] [(s, b, .row 3 ((l).map (ab.tw 0)))] (fun _ : Unit => True) (fun _ => [(s, b, .row 3 ((mkL cS aB k l).map (ab.tw 0)))]) (fun _ => .int .i64 (kL aB k l)) := by
 refine aw Tryz.func151 rfl Tryz.ntmps151 rfl rfl rfl fun w0 R gs objsR hG hR => ?_
 obtain rfl := hR.inv1
 clear hR
 repeat' refine W_ ?_
 apply ak (X := Nat) [0, 1000000] (fun x => [(5, .int .i64 (x : Int)), (1, .int .i64 (kL aB k (l.take x)))]) (fun x => (s, b, .row 3 ((ptL cS aB k l x).map (ab.tw 0))) :: R) (fun x => x <= l.length) (fun x => l.length - x) 0 (Nat.zero_le _)
 exact kp_; exact nw_
 ·exact .refl _
 intro i hi
 try dsimp only
 have hq := aZ (k := k) (i := i) hn (ci l) hi
 by_cases hlt : i < l.length
 ·have hrow : ((ptL cS aB k l i).map (ab.tw 0))[i]? = some ((ab.tw 0) l[i]) := by
    simp only [aS, List.getElem?_map, d8 hlt]; rfl
  have hset : ((ptL cS aB k l i).map (ab.tw 0)).set i ((ab.tw 0) (cS (kL aB k (l.take i)) l[i])) = (ptL cS aB k l (i + 1)).map (ab.tw 0) := by
    rw [<- fM hlt]; rw [List.map_set]
  have hks := cI (nx := aB) (k := k) hlt
  have hrl : ((ptL cS aB k l i).map (ab.tw 0)).length = l.length := by simp [aS, dk hi]
  generalize (ptL cS aB k l i).map (ab.tw 0) = rows at hrow hset hrl |-
  generalize kL aB k (l.take i) = q at hq hset hks |-
  generalize l[i] = x at hrow hset hks
  replace hrow : rows[i]? = some [.int .i64 x.kind, .int .i64 x.number, .str x.text] := hrow
  have hr1 : (rows.set i [.int .i64 q, .int .i64 x.number, .str x.text])[i]? = some [.int .i64 q, .int .i64 x.number, .str x.text] := by rw [List.getElem?_set_self (by omega)]
  have hks2 : kL aB k (l.take (i + 1)) = q + 1 + 1 + 1 := hks
  repeat' (first | refine W_ ?_ | refine bA ?_ | ((with_reducible apply lV); rfl; kernel_rfl; (repeat (first | exact bV.nil | ((with_reducible apply bV.cons); rfl; exact .same _))); exact hG; exact hst; exact bP _ (by omega) (by omega)))
  refine ag (i + 1) (by omega) (by omega) (.of _ (cE.envCons rfl (cE.envCons (dG rfl (by rw [hks2])) cE.envNil)) od_ ?_)
  rw [<- hset]
  (try simp only [List.set_set])
  exact .refl _
 ·obtain rfl : i = l.length := by omega
  rw [et, List.take_length]
  repeat' refine W_ ?_
  exact av x_ rfl () trivial rfl (.cons _ _ _ _ (.nil R)) pk_ (.tmp _ _ rfl) rfl
theorem mz (hst : az G) (s b : Nat) (l : List aj) (k : Int) (hn : l.length <= 1048576) (hk : 0 <= k /\ k <= 1000000000000000) : CtM Tryz.prog G 69 [.ms s b 0 l.length, .int .i64 k] [(s, b, .row 6 ((l).map (aj.tw 0)))] (fun _ : Unit => True) (fun _ => [(s, b, .row 6 ((mkL cC aP k l).map (aj.tw 0)))]) (fun _ => .int .i64 (kL aP k l)) := by
 refine aw Tryz.func69 rfl Tryz.ntmps69 rfl rfl rfl fun w0 R gs objsR hG hR => ?_
 obtain rfl := hR.inv1
 clear hR
 repeat' refine W_ ?_
 apply ak (X := Nat) [0, 1000000] (fun x => [(5, .int .i64 (x : Int)), (1, .int .i64 (kL aP k (l.take x)))]) (fun x => (s, b, .row 6 ((ptL cC aP k l x).map (aj.tw 0))) :: R) (fun x => x <= l.length) (fun x => l.length - x) 0 (Nat.zero_le _)
 exact kp_; exact nw_
 ·exact .refl _
 intro i hi
 try dsimp only
 have hq := aZ (k := k) (i := i) hn (fk l) hi
 by_cases hlt : i < l.length
 ·have hrow : ((ptL cC aP k l i).map (aj.tw 0))[i]? = some ((aj.tw 0) l[i]) := by
    simp only [aS, List.getElem?_map, d8 hlt]; rfl
  have hset : ((ptL cC aP k l i).map (aj.tw 0)).set i ((aj.tw 0) (cC (kL aP k (l.take i)) l[i])) = (ptL cC aP k l (i + 1)).map (aj.tw 0) := by
    rw [<- fM hlt]; rw [List.map_set]
  have hks := cI (nx := aP) (k := k) hlt
  have hrl : ((ptL cC aP k l i).map (aj.tw 0)).length = l.length := by simp [aS, dk hi]
  generalize (ptL cC aP k l i).map (aj.tw 0) = rows at hrow hset hrl |-
  generalize kL aP k (l.take i) = q at hq hset hks |-
  generalize l[i] = x at hrow hset hks
  replace hrow : rows[i]? = some [.int .i64 x.code, .int .i64 x.outer, .int .i64 x.home, .int .i64 x.self.kind, .int .i64 x.self.number, .str x.self.text] := hrow
  have hr1 : (rows.set i [.int .i64 q, .int .i64 x.outer, .int .i64 x.home, .int .i64 x.self.kind, .int .i64 x.self.number, .str x.self.text])[i]? = some [.int .i64 q, .int .i64 x.outer, .int .i64 x.home, .int .i64 x.self.kind, .int .i64 x.self.number, .str x.self.text] := by rw [List.getElem?_set_self (by omega)]
  have hks2 : kL aP k (l.take (i + 1)) = q + 1 + 1 + 1 + 1 + 1 + 1 := hks
  repeat' (first | refine W_ ?_ | refine bA ?_ | ((with_reducible apply lV); rfl; kernel_rfl; (repeat (first | exact bV.nil | ((with_reducible apply bV.cons); rfl; exact .same _))); exact hG; exact hst; exact bP _ (by omega) (by omega)))
  refine ag (i + 1) (by omega) (by omega) (.of _ (cE.envCons rfl (cE.envCons (dG rfl (by rw [hks2])) cE.envNil)) od_ ?_)
  rw [<- hset]
  (try simp only [List.set_set])
  exact .refl _
 ·obtain rfl : i = l.length := by omega
  rw [et, List.take_length]
  repeat' refine W_ ?_
  exact av x_ rfl () trivial rfl (.cons _ _ _ _ (.nil R)) pk_ (.tmp _ _ rfl) rfl
theorem my (hst : az G) (s b : Nat) (l : List ar) (k : Int) (hn : l.length <= 1048576) (hk : 0 <= k /\ k <= 1000000000000000) : CtM Tryz.prog G 71 [.ms s b 0 l.length, .int .i64 k] [(s, b, .row 2 ((l).map (ar.tw 0)))] (fun _ : Unit => True) (fun _ => [(s, b, .row 2 ((mkL cD aU k l).map (ar.tw 0)))]) (fun _ => .int .i64 (kL aU k l)) := by
 refine aw Tryz.func71 rfl Tryz.ntmps71 rfl rfl rfl fun w0 R gs objsR hG hR => ?_
 obtain rfl := hR.inv1
 clear hR
 repeat' refine W_ ?_
 apply ak (X := Nat) [0, 1000000] (fun x => [(5, .int .i64 (x : Int)), (1, .int .i64 (kL aU k (l.take x)))]) (fun x => (s, b, .row 2 ((ptL cD aU k l x).map (ar.tw 0))) :: R) (fun x => x <= l.length) (fun x => l.length - x) 0 (Nat.zero_le _)
 exact kp_; exact nw_
 ·exact .refl _
 intro i hi
 try dsimp only
 have hq := aZ (k := k) (i := i) hn (fj l) hi
 by_cases hlt : i < l.length
 ·have hrow : ((ptL cD aU k l i).map (ar.tw 0))[i]? = some ((ar.tw 0) l[i]) := by
    simp only [aS, List.getElem?_map, d8 hlt]; rfl
  have hset : ((ptL cD aU k l i).map (ar.tw 0)).set i ((ar.tw 0) (cD (kL aU k (l.take i)) l[i])) = (ptL cD aU k l (i + 1)).map (ar.tw 0) := by
    rw [<- fM hlt]; rw [List.map_set]
  have hks := cI (nx := aU) (k := k) hlt
  have hrl : ((ptL cD aU k l i).map (ar.tw 0)).length = l.length := by simp [aS, dk hi]
  generalize (ptL cD aU k l i).map (ar.tw 0) = rows at hrow hset hrl |-
  generalize kL aU k (l.take i) = q at hq hset hks |-
  generalize l[i] = x at hrow hset hks
  replace hrow : rows[i]? = some [.int .i64 x.at_, .bool x.main] := hrow
  have hr1 : (rows.set i [.int .i64 q, .bool x.main])[i]? = some [.int .i64 q, .bool x.main] := by rw [List.getElem?_set_self (by omega)]
  have hks2 : kL aU k (l.take (i + 1)) = q + 1 + 1 := hks
  repeat' (first | refine W_ ?_ | refine bA ?_)
  refine ag (i + 1) (by omega) (by omega) (.of _ (cE.envCons rfl (cE.envCons (dG rfl (by rw [hks2])) cE.envNil)) od_ ?_)
  rw [<- hset]
  (try simp only [List.set_set])
  exact .refl _
 ·obtain rfl : i = l.length := by omega
  rw [et, List.take_length]
  repeat' refine W_ ?_
  exact av x_ rfl () trivial rfl (.cons _ _ _ _ (.nil R)) pk_ (.tmp _ _ rfl) rfl
theorem oJ (hst : az G) (s b : Nat) (l : List au) (ps : List (Pl × Pl)) (hps : ps.length = l.length) (k : Int) (hn : l.length <= 1048576 /\ ∀ y ∈ l, au.small 1048576 y) (hk : 0 <= k /\ k <= 100000000000000) :
   CtM Tryz.prog G 150 [.ms s b 0 l.length, .int .i64 k] ((s, b, .row 4 (nRg cz l ps)) :: nOg cR l ps) (fun _ : Unit => True) (fun _ => (s, b, .row 4 (nRg cz (mkL bQ aX k l) ps)) :: nOg cR (mkL bQ aX k l) ps) (fun _ => .int .i64 (kL aX k l)) := by
 refine aw Tryz.func150 rfl Tryz.ntmps150 rfl rfl rfl fun w0 R gs objsR hG hR => ?_
 obtain rfl := hR.eq
 clear hR
 obtain ⟨hn, hsm⟩ := hn
 repeat' refine W_ ?_
 apply ak (X := Nat) [0, 1000000] (fun x => [(5, .int .i64 (x : Int)), (1, .int .i64 (kL aX k (l.take x)))]) (fun x => (s, b, .row 4 (nRg cz (ptL bQ aX k l x) ps)) :: (nOg cR (ptL bQ aX k l x) ps ++ R)) (fun x => x <= l.length) (fun x => l.length - x) 0 (Nat.zero_le _)
 exact kp_; exact nw_
 ·exact .refl _
 intro i hi
 try dsimp only
 have hq := aZ (k := k) (i := i) hn (fV hsm) hi
 by_cases hlt : i < l.length
 ·obtain ⟨p, hp⟩ : ∃ p, ps[i]? = some p := ⟨_, List.getElem?_eq_getElem (by omega)⟩
  have hpl : i < (ptL bQ aX k l i).length := by rw [dk hi]; exact hlt
  have hrow := rk cz (d8 (mk := bQ) (nx := aX) (k := k) hlt) hp
  have hset := wb cz (l := ptL bQ aX k l i) (x := bQ (kL aX k (l.take i)) l[i]) hp
  have hout := li cR (d8 (mk := bQ) (nx := aX) (k := k) hlt) hp
  have hin := aaK cR (x := bQ (kL aX k (l.take i)) l[i]) hpl hp
  rw [fM hlt] at hset hin
  have hks := cI (nx := aX) (k := k) hlt
  have hrl : (nRg cz (ptL bQ aX k l i) ps).length = l.length := by rw [fw _ (by rw [dk hi]; exact hps), dk hi]
  have hb := hsm _ (List.getElem_mem hlt)
  generalize ngE cR (ptL bQ aX k l i) ps i = E at hout hin
  generalize nOg cR (ptL bQ aX k l i) ps = N0 at hout |-
  generalize nRg cz (ptL bQ aX k l i) ps = rows at hrow hset hrl |-
  generalize kL aX k (l.take i) = q at hq hset hks hin |-
  generalize l[i] = x at hrow hset hks hout hin hb
  replace hrow : rows[i]? = some [.int .i64 x.kind, .int .i64 x.class_, .ms p.1.1 p.1.2 0 x.fields.length, .ms p.2.1 p.2.2 0 x.numbers.length] := hrow
  have hr1 : (rows.set i [.int .i64 q, .int .i64 x.class_, .ms p.1.1 p.1.2 0 x.fields.length, .ms p.2.1 p.2.2 0 x.numbers.length])[i]? = some [.int .i64 q, .int .i64 x.class_, .ms p.1.1 p.1.2 0 x.fields.length, .ms p.2.1 p.2.2 0 x.numbers.length] := by rw [List.getElem?_set_self (by omega)]
  have hk1 := gK (nx := aB) (l := x.fields) (k := q + 1 + 1) (ci _)
  have hf1 := hb.1.1
  have hct1 := fg hst p.1.1 p.1.2 x.fields (q + 1 + 1) hb.1.1 (by omega)
  have hct2 := lX hst p.2.1 p.2.2 x.numbers (kL aB (q + 1 + 1) x.fields) hb.2 (by omega)
  repeat' (first | refine W_ ?_ | refine bA ?_)
  refine eY (zB hout R) ?_
  repeat' (first | refine W_ ?_ | ((with_reducible apply aJ); rfl; kernel_rfl; (repeat (first | exact aH.nil | ((with_reducible apply aH.cons); rfl))); exact hG; exact hct1; exact .cons _ _ _ _ (.nil _); intro y hy; refine bI ?_; refine bY (.perm (List.Perm.swap _ _ _)) ?_) | ((with_reducible apply aJ); rfl; kernel_rfl; (repeat (first | exact aH.nil | ((with_reducible apply aH.cons); rfl))); exact hG; exact hct2; exact .cons _ _ _ _ (.nil _); intro y hy; refine bI ?_))
  refine ag (i + 1) (by omega) (by omega) (.of _ (cE.envCons rfl (cE.envCons (dG rfl (by rw [hks]; rfl)) cE.envNil)) od_ ?_)
  rw [hset]
  simp only [List.set_set]
  have hcl : cz (bQ q x) p = [.int .i64 q, .int .i64 (q + 1), .ms p.1.1 p.1.2 0 x.fields.length, .ms p.2.1 p.2.2 0 x.numbers.length] := by
    unfold cz bQ
    dsimp only
    rw [bX, bX]
  rw [hcl]
  exact abI hin R
 ·obtain rfl : i = l.length := by omega
  rw [et, List.take_length]
  repeat' refine W_ ?_
  exact av x_ rfl () trivial rfl (.cons _ _ _ _ (.app _ R)) (.refl _) (.tmp _ _ rfl) rfl
theorem mE (hst : az G) (s b : Nat) (l : List ap) (ps : List (Pl × Pl × Pl)) (hps : ps.length = l.length) (k : Int) (hn : l.length <= 1048576 /\ ∀ y ∈ l, ap.small 1048576 y) (hk : 0 <= k /\ k <= 100000000000000) :
   CtM Tryz.prog G 70 [.ms s b 0 l.length, .int .i64 k] ((s, b, .row 14 (nRg cn l ps)) :: nOg cH l ps) (fun _ : Unit => True) (fun _ => (s, b, .row 14 (nRg cn (mkL bw aQ k l) ps)) :: nOg cH (mkL bw aQ k l) ps) (fun _ => .int .i64 (kL aQ k l)) := by
 refine aw Tryz.func70 rfl Tryz.ntmps70 rfl rfl rfl fun w0 R gs objsR hG hR => ?_
 obtain rfl := hR.eq
 clear hR
 obtain ⟨hn, hsm⟩ := hn
 repeat' refine W_ ?_
 apply ak (X := Nat) [0, 1000000] (fun x => [(5, .int .i64 (x : Int)), (1, .int .i64 (kL aQ k (l.take x)))]) (fun x => (s, b, .row 14 (nRg cn (ptL bw aQ k l x) ps)) :: (nOg cH (ptL bw aQ k l x) ps ++ R)) (fun x => x <= l.length) (fun x => l.length - x) 0 (Nat.zero_le _)
 exact kp_; exact nw_
 ·exact .refl _
 intro i hi
 try dsimp only
 have hq := aZ (k := k) (i := i) hn (fp hsm) hi
 by_cases hlt : i < l.length
 ·obtain ⟨p, hp⟩ : ∃ p, ps[i]? = some p := ⟨_, List.getElem?_eq_getElem (by omega)⟩
  have hpl : i < (ptL bw aQ k l i).length := by rw [dk hi]; exact hlt
  have hrow := rk cn (d8 (mk := bw) (nx := aQ) (k := k) hlt) hp
  have hset := wb cn (l := ptL bw aQ k l i) (x := bw (kL aQ k (l.take i)) l[i]) hp
  have hout := li cH (d8 (mk := bw) (nx := aQ) (k := k) hlt) hp
  have hin := aaK cH (x := bw (kL aQ k (l.take i)) l[i]) hpl hp
  rw [fM hlt] at hset hin
  have hks := cI (nx := aQ) (k := k) hlt
  have hrl : (nRg cn (ptL bw aQ k l i) ps).length = l.length := by rw [fw _ (by rw [dk hi]; exact hps), dk hi]
  have hb := hsm _ (List.getElem_mem hlt)
  generalize ngE cH (ptL bw aQ k l i) ps i = E at hout hin
  generalize nOg cH (ptL bw aQ k l i) ps = N0 at hout |-
  generalize nRg cn (ptL bw aQ k l i) ps = rows at hrow hset hrl |-
  generalize kL aQ k (l.take i) = q at hq hset hks hin |-
  generalize l[i] = x at hrow hset hks hout hin hb
  replace hrow : rows[i]? = some [.int .i64 x.mark, .int .i64 x.code, .int .i64 x.pc, .int .i64 x.sender, .int .i64 x.outer, .int .i64 x.home, .int .i64 x.self.kind, .int .i64 x.self.number, .str x.self.text, .ms p.1.1 p.1.2 0 x.slots.length, .ms p.2.1.1 p.2.1.2 0 x.stack.length, .ms p.2.2.1 p.2.2.2 0 x.values.length, .int .i64 x.other, .bool x.retry] := hrow
  have hr1 : (rows.set i [.int .i64 q, .int .i64 x.code, .int .i64 x.pc, .int .i64 x.sender, .int .i64 x.outer, .int .i64 x.home, .int .i64 x.self.kind, .int .i64 x.self.number, .str x.self.text, .ms p.1.1 p.1.2 0 x.slots.length, .ms p.2.1.1 p.2.1.2 0 x.stack.length, .ms p.2.2.1 p.2.2.2 0 x.values.length, .int .i64 x.other, .bool x.retry])[i]? = some [.int .i64 q, .int .i64 x.code, .int .i64 x.pc, .int .i64 x.sender, .int .i64 x.outer, .int .i64 x.home, .int .i64 x.self.kind, .int .i64 x.self.number, .str x.self.text, .ms p.1.1 p.1.2 0 x.slots.length, .ms p.2.1.1 p.2.1.2 0 x.stack.length, .ms p.2.2.1 p.2.2.2 0 x.values.length, .int .i64 x.other, .bool x.retry] := by rw [List.getElem?_set_self (by omega)]
  have hk0 : k9 q = q + 9 := by unfold k9; omega
  have hk1 := gK (nx := aB) (l := x.slots) (k := k9 q) (ci _)
  have hk2 := gK (nx := aB) (l := x.stack) (k := kL aB (k9 q) x.slots) (ci _)
  have hk3 := gK (nx := aB) (l := x.values) (k := kL aB (kL aB (k9 q) x.slots) x.stack) (ci _)
  have hf1 := hb.2.1.1
  have hf2 := hb.2.2.1.1
  have hf3 := hb.2.2.2.1
  have hct1 := fg hst p.1.1 p.1.2 x.slots (k9 q) hf1 (by omega)
  have hct2 := fg hst p.2.1.1 p.2.1.2 x.stack (kL aB (k9 q) x.slots) hf2 (by omega)
  have hct3 := fg hst p.2.2.1 p.2.2.2 x.values (kL aB (kL aB (k9 q) x.slots) x.stack) hf3 (by omega)
  rw [show k9 q = q + 1 + 1 + 1 + 1 + 1 + 1 + 1 + 1 + 1 from rfl] at hct1
  repeat' (first | refine W_ ?_ | refine bA ?_ | ((with_reducible apply lV); rfl; kernel_rfl; (repeat (first | exact bV.nil | ((with_reducible apply bV.cons); rfl; exact .same _))); exact hG; exact hst; exact bP _ (by omega) (by omega)))
  refine eY (zW hout R) ?_
  repeat' (first | refine W_ ?_ | refine bA ?_ | ((with_reducible apply aJ); rfl; kernel_rfl; (repeat (first | exact aH.nil | ((with_reducible apply aH.cons); rfl))); exact hG; exact hct1; exact .cons _ _ _ _ (.nil _); intro y hy; refine bI ?_; refine bY (.perm (List.Perm.swap _ _ _)) ?_) | ((with_reducible apply aJ); rfl; kernel_rfl; (repeat (first | exact aH.nil | ((with_reducible apply aH.cons); rfl))); exact hG; exact hct2; exact .cons _ _ _ _ (.nil _); intro y hy; refine bI ?_; refine bY (aa6 _ _ _ _) ?_) | ((with_reducible apply aJ); rfl; kernel_rfl; (repeat (first | exact aH.nil | ((with_reducible apply aH.cons); rfl))); exact hG; exact hct3; exact .cons _ _ _ _ (.nil _); intro y hy; refine bI ?_))
  refine ag (i + 1) (by omega) (by omega) (.of _ (cE.envCons rfl (cE.envCons (dG rfl (by rw [hks]; rfl)) cE.envNil)) od_ ?_)
  rw [hset]
  simp only [List.set_set]
  have hcl : cn (bw q x) p = [.int .i64 q, .int .i64 (q + 1), .int .i64 (q + 1 + 1), .int .i64 (q + 1 + 1 + 1), .int .i64 (q + 1 + 1 + 1 + 1), .int .i64 (q + 1 + 1 + 1 + 1 + 1), .int .i64 (q + 1 + 1 + 1 + 1 + 1 + 1), .int .i64 (q + 1 + 1 + 1 + 1 + 1 + 1 + 1), .str (dL (q + 1 + 1 + 1 + 1 + 1 + 1 + 1 + 1)), .ms p.1.1 p.1.2 0 x.slots.length, .ms p.2.1.1 p.2.1.2 0 x.stack.length, .ms p.2.2.1 p.2.2.2 0 x.values.length, .int .i64 (kL aB (kL aB (kL aB (k9 q) x.slots) x.stack) x.values), .bool (decide ((kL aB (kL aB (kL aB (k9 q) x.slots) x.stack) x.values + 1).tmod 3 = 0))] := by
    unfold cn bw
    dsimp only
    rw [bX, bX, bX]
  rw [hcl]
  exact abU hin R
 ·obtain rfl : i = l.length := by omega
  rw [et, List.take_length]
  repeat' refine W_ ?_
  exact av x_ rfl () trivial rfl (.cons _ _ _ _ (.app _ R)) (.refl _) (.tmp _ _ rfl) rfl
end
theorem abl (X Y Z D R : aG) : cG (D ++ (X ++ (Y ++ (Z ++ R)))) (X ++ (Y ++ (Z ++ (D ++ R)))) := by
 simpa using ac4 [X, Y, Z] [R] D
theorem abB (W X Y Z D R : aG) : cG (D ++ (W ++ (X ++ (Y ++ (Z ++ R))))) (W ++ (X ++ (Y ++ (Z ++ (D ++ R))))) := by
 simpa using ac4 [W, X, Y, Z] [R] D
theorem abK (V W X Y Z D R : aG) : cG (D ++ (V ++ (W ++ (X ++ (Y ++ (Z ++ R)))))) (V ++ (W ++ (X ++ (Y ++ (Z ++ (D ++ R)))))) := by
 simpa using ac4 [V, W, X, Y, Z] [R] D
theorem abN (A B C D E F R : aG) : cG (A ++ (B ++ (C ++ (D ++ (E ++ (F ++ R)))))) (F ++ (E ++ (D ++ (C ++ (A ++ (B ++ R)))))) := .perm (by
 have h1 : [F, E, D, C, B, A].Perm [A, B, C, D, E, F] := (List.reverse_perm [A, B, C, D, E, F])
 have h2 : [F, E, D, C, A, B].Perm [F, E, D, C, B, A] := ((((List.Perm.swap B A []).cons C).cons D).cons E).cons F
 have h3 := (lb (h2.trans h1)).append_right R
 simpa [List.append_assoc] using h3.symm)
def ft (k : Int) (x : aR) : aR := ⟨mkL aY ay k x.classes, mkL bQ aX (kL ay k x.classes) x.objects, mkL cY bm (kL aX (kL ay k x.classes) x.objects) x.output, x.ticks, x.budget, x.made⟩
def dv (k : Int) (x : aR) : Int := kL bm (kL aX (kL ay k x.classes) x.objects) x.output
theorem lI {x : aR} (hb : x.small 1048576) (k : Int) : k <= dv k x /\ dv k x <= k + 6000000000000 := by
 have h1 := aZ (k := k) (i := x.classes.length) hb.1.1 (co hb.1.2) (Nat.le_refl _)
 have h2 := aZ (k := kL ay k x.classes) (i := x.objects.length) hb.2.1.1 (fV hb.2.1.2) (Nat.le_refl _)
 have h3 := aZ (k := kL aX (kL ay k x.classes) x.objects) (i := x.output.length) hb.2.2.1 (eU x.output) (Nat.le_refl _)
 rw [List.take_length] at h1 h2 h3
 unfold dv
 omega
section
variable {G : World -> Prop}
theorem rF (hst : az G) (x : aR) (y : StP) (hy : stI x y) (hb : x.small 1048576) (k : Int) (hk : 0 <= k /\ k <= 60000000000000) :
   CtM Tryz.prog G 68 [.agg (stC x y), .int .i64 k] (stO x y) (fun _ : Unit => True) (fun _ => stO (ft k x) y) (fun _ => .int .i64 (dv k x)) := by
 refine aw Tryz.func68 rfl Tryz.ntmps68 rfl rfl rfl fun w0 R gs objsR hG hR => ?_
 obtain rfl := hR.eq
 clear hR
 have h1 := aZ (k := k) (i := x.classes.length) hb.1.1 (co hb.1.2) (Nat.le_refl _)
 have h2 := aZ (k := kL ay k x.classes) (i := x.objects.length) hb.2.1.1 (fV hb.2.1.2) (Nat.le_refl _)
 rw [List.take_length] at h1 h2
 have c1 := gc hst y.1.1.1 y.1.1.2 x.classes y.1.2 hy.1 k hb.1 (by omega)
 have c2 := oJ hst y.2.1.1.1 y.2.1.1.2 x.objects y.2.1.2 hy.2 (kL ay k x.classes) hb.2.1 (by omega)
 have c3 := iR hst y.2.2.1 y.2.2.2 x.output (kL aX (kL ay k x.classes) x.objects) hb.2.2.1 (by omega)
 have e0 : stO x y ++ R = sa x.classes y.1 ++ (pu x.objects y.2.1 ++ ([(y.2.2.1, y.2.2.2, .row 1 (bN x.output))] ++ R)) := by unfold stO; simp [List.append_assoc]
 have e1 : stO (ft k x) y ++ R = sa (ft k x).classes y.1 ++ (pu (ft k x).objects y.2.1 ++ ([(y.2.2.1, y.2.2.2, .row 1 (bN (ft k x).output))] ++ R)) := by unfold stO; simp [List.append_assoc]
 rw [e0]
 generalize hz1 : [(y.2.2.1, y.2.2.2, aW.row 1 (bN x.output))] = z1 at c3 |-
 unfold stC
 repeat' (first | refine W_ ?_ | refine aM ?_ | ((with_reducible apply aJ); rfl; kernel_rfl; (repeat (first | exact aH.nil | ((with_reducible apply aH.cons); rfl))); exact hG; exact c1; exact .app _ _; intro z hz; refine bY (rV _ _ _) ?_) | ((with_reducible apply aJ); rfl; kernel_rfl; (repeat (first | exact aH.nil | ((with_reducible apply aH.cons); rfl))); exact hG; exact c2; exact .app _ _; intro z hz; refine bY (rL _ _ _ _) ?_) | ((with_reducible apply aJ); rfl; kernel_rfl; (repeat (first | exact aH.nil | ((with_reducible apply aH.cons); rfl))); exact hG; exact c3; exact .app _ _; intro z hz))
 refine av x_ rfl () trivial rfl (.app _ R) ?_ (.tmp _ _ rfl) rfl
 rw [e1]
 exact pG _ _ _ R
def fx (k : Int) (x : ao) : ao := ⟨cJ k x.base, ft (ba k x.base) x.store,
 mkL cC aP (dv (ba k x.base) x.store) x.blocks,
 mkL bw aQ (kL aP (dv (ba k x.base) x.store) x.blocks) x.contexts,
 mkL cD aU (kL aQ (kL aP (dv (ba k x.base) x.store) x.blocks) x.contexts) x.processes,
 mkL iQ dz (kL aU (kL aQ (kL aP (dv (ba k x.base) x.store) x.blocks) x.contexts) x.processes) x.ready,
 x.now, x.status, x.value, x.fault⟩
def iL (k : Int) (x : ao) : Int := kL dz (kL aU (kL aQ (kL aP (dv (ba k x.base) x.store) x.blocks) x.contexts) x.processes) x.ready
theorem qt {x : ao} (hb : x.small 1048576) (k : Int) : k <= iL k x /\ iL k x <= k + 30000000000000 := by
 have h1 := ir hb.1 k
 have h2 := lI hb.2.1 (ba k x.base)
 unfold iL
 generalize dv (ba k x.base) x.store = q2 at h2 |-
 have h3 := aZ (k := q2) (i := x.blocks.length) hb.2.2.1.1 (fk x.blocks) (Nat.le_refl _)
 rw [List.take_length] at h3
 generalize kL aP q2 x.blocks = q3 at h3 |-
 have h4 := aZ (k := q3) (i := x.contexts.length) hb.2.2.2.1.1 (fp hb.2.2.2.1.2) (Nat.le_refl _)
 rw [List.take_length] at h4
 generalize kL aQ q3 x.contexts = q4 at h4 |-
 have h5 := aZ (k := q4) (i := x.processes.length) hb.2.2.2.2.1.1 (fj x.processes) (Nat.le_refl _)
 rw [List.take_length] at h5
 generalize kL aU q4 x.processes = q5 at h5 |-
 have h6 := aZ (k := q5) (i := x.ready.length) hb.2.2.2.2.2.1 (jA x.ready) (Nat.le_refl _)
 rw [List.take_length] at h6
 omega
theorem kP (hst : az G) (x : ao) (y : gF) (hy : imI x y) (hb : x.small 1048576) (k : Int) (hk : 0 <= k /\ k <= 50000000000000) :
   CtM Tryz.prog G 19 [.agg (imC x y), .int .i64 k] (imO x y) (fun _ : Unit => True) (fun _ => imO (fx k x) y) (fun _ => .int .i64 (iL k x)) := by
 refine aw Tryz.func19 rfl Tryz.ntmps19 rfl rfl rfl fun w0 R gs objsR hG hR => ?_
 obtain rfl := hR.eq
 clear hR
 have h1 := ir hb.1 k
 have h2 := lI hb.2.1 (ba k x.base)
 have hm : imO (fx k x) y = cbO (cJ k x.base) y.1 ++ (stO (ft (ba k x.base) x.store) y.2.1 ++ ([(y.2.2.1.1, y.2.2.1.2, .row 6 ((mkL cC aP (dv (ba k x.base) x.store) x.blocks).map (aj.tw 0)))] ++ (nf (mkL bw aQ (kL aP (dv (ba k x.base) x.store) x.blocks) x.contexts) y.2.2.2.1 ++ ([(y.2.2.2.2.1.1, y.2.2.2.2.1.2, .row 2 ((mkL cD aU (kL aQ (kL aP (dv (ba k x.base) x.store) x.blocks) x.contexts) x.processes).map (ar.tw 0)))] ++ [(y.2.2.2.2.2.1, y.2.2.2.2.2.2, .row 1 (aS (mkL iQ dz (kL aU (kL aQ (kL aP (dv (ba k x.base) x.store) x.blocks) x.contexts) x.processes) x.ready)))])))) := rfl
 rw [hm]
 unfold iL
 have c1 := mC hst x.base y.1 hy.1 hb.1 k (by omega)
 have c2 := rF hst x.store y.2.1 hy.2.1 hb.2.1 (ba k x.base) (by omega)
 generalize dv (ba k x.base) x.store = q2 at h2 c2 |-
 have h3 := aZ (k := q2) (i := x.blocks.length) hb.2.2.1.1 (fk x.blocks) (Nat.le_refl _)
 rw [List.take_length] at h3
 have c3 := mz hst y.2.2.1.1 y.2.2.1.2 x.blocks q2 hb.2.2.1.1 (by omega)
 generalize kL aP q2 x.blocks = q3 at h3 c3 |-
 have h4 := aZ (k := q3) (i := x.contexts.length) hb.2.2.2.1.1 (fp hb.2.2.2.1.2) (Nat.le_refl _)
 rw [List.take_length] at h4
 have c4 := mE hst y.2.2.2.1.1.1 y.2.2.2.1.1.2 x.contexts y.2.2.2.1.2 hy.2.2 q3 hb.2.2.2.1 (by omega)
 generalize kL aQ q3 x.contexts = q4 at h4 c4 |-
 have h5 := aZ (k := q4) (i := x.processes.length) hb.2.2.2.2.1.1 (fj x.processes) (Nat.le_refl _)
 rw [List.take_length] at h5
 have c5 := my hst y.2.2.2.2.1.1 y.2.2.2.2.1.2 x.processes q4 hb.2.2.2.2.1.1 (by omega)
 generalize kL aU q4 x.processes = q5 at h5 c5 |-
 have c6 := lX hst y.2.2.2.2.2.1 y.2.2.2.2.2.2 x.ready q5 hb.2.2.2.2.2.1 (by omega)
 have e0 : imO x y ++ R = cbO x.base y.1 ++ (stO x.store y.2.1 ++ ([(y.2.2.1.1, y.2.2.1.2, .row 6 (x.blocks.map (aj.tw 0)))] ++ (nf x.contexts y.2.2.2.1 ++ ([(y.2.2.2.2.1.1, y.2.2.2.2.1.2, .row 2 (x.processes.map (ar.tw 0)))] ++ ([(y.2.2.2.2.2.1, y.2.2.2.2.2.2, .row 1 (aS x.ready))] ++ R))))) := by unfold imO; simp only [List.append_assoc]
 rw [e0]
 replace c4 : CtM Tryz.prog G 70 _ (nf x.contexts y.2.2.2.1) _ (fun _ => nf (mkL bw aQ q3 x.contexts) y.2.2.2.1) _ := c4
 clear hm e0
 generalize [(y.2.2.1.1, y.2.2.1.2, aW.row 6 (x.blocks.map (aj.tw 0)))] = z1 at c3 |-
 generalize [(y.2.2.2.2.1.1, y.2.2.2.2.1.2, aW.row 2 (x.processes.map (ar.tw 0)))] = z2 at c5 |-
 generalize [(y.2.2.2.2.2.1, y.2.2.2.2.2.2, aW.row 1 (aS x.ready))] = z3 at c6 |-
 unfold cbC at c1
 unfold stC at c2
 unfold imC
 repeat' (first | refine W_ ?_ | refine aM ?_ | ((with_reducible apply aJ); rfl; kernel_rfl; (repeat (first | exact aH.nil | ((with_reducible apply aH.cons); rfl))); exact hG; exact c1; exact .app _ _; intro z hz; refine bY (rV _ _ _) ?_) | ((with_reducible apply aJ); rfl; kernel_rfl; (repeat (first | exact aH.nil | ((with_reducible apply aH.cons); rfl))); exact hG; exact c2; exact .app _ _; intro z hz; refine bY (rL _ _ _ _) ?_) | ((with_reducible apply aJ); rfl; kernel_rfl; (repeat (first | exact aH.nil | ((with_reducible apply aH.cons); rfl))); exact hG; exact c3; exact .app _ _; intro z hz; refine bY (abl _ _ _ _ _) ?_) | ((with_reducible apply aJ); rfl; kernel_rfl; (repeat (first | exact aH.nil | ((with_reducible apply aH.cons); rfl))); exact hG; exact c4; exact .app _ _; intro z hz; refine bY (abB _ _ _ _ _ _) ?_) | ((with_reducible apply aJ); rfl; kernel_rfl; (repeat (first | exact aH.nil | ((with_reducible apply aH.cons); rfl))); exact hG; exact c5; exact .app _ _; intro z hz; refine bY (abK _ _ _ _ _ _ _) ?_) | ((with_reducible apply aJ); rfl; kernel_rfl; (repeat (first | exact aH.nil | ((with_reducible apply aH.cons); rfl))); exact hG; exact c6; exact .app _ _; intro z hz))
 refine av x_ rfl () trivial rfl (.app _ R) ?_ (.tmp _ _ rfl) rfl
 simp only [List.append_assoc]
 exact abN _ _ _ _ _ _ R
end
section
variable {G : World -> Prop}
theorem qe (hst : az G) (lo : Nat) (l : List Int) (k : Int) (hn : l.length <= 1048576) (hk : 0 <= k /\ k <= 1000000000000000) : Ct Tryz.prog G 34 [.sl lo 1 (aS (mkL iQ dz k l)), .int .i64 k] (fun _ => .int .i64 (kL dz k l)) := by
 refine aq Tryz.func34 rfl Tryz.ntmps34 rfl rfl fun w0 _ hG => ?_
 have hrl : (aS (mkL iQ dz k l)).length = l.length := by simp [aS, bX]
 have hget := fun i (h : i < l.length) => fY (mk := iQ) (nx := dz) (k := k) h
 have hgr : ∀ i (h : i < l.length), (aS (mkL iQ dz k l))[i]? = some [.int .i64 (kL dz k (l.take i))] := fun i h => by
   simp only [aS, List.getElem?_map, hget i h]; rfl
 generalize aS (mkL iQ dz k l) = rows at hrl hgr |-
 repeat' refine W_ ?_
 apply ak (X := Nat) [0] (fun x => [(5, .int .i64 (x : Int)), (1, .int .i64 (kL dz k (l.take x)))]) (fun _ => []) (fun x => x <= l.length) (fun x => l.length - x) 0 (Nat.zero_le _)
 exact kp_; exact nw_
 ·exact .refl _
 intro i hi
 try dsimp only
 have hq := aZ (k := k) (i := i) hn (jA l) hi
 by_cases hlt : i < l.length
 ·have hrow := hgr i hlt
  have hks : kL dz k (l.take (i + 1)) = kL dz k (l.take i) + 1 := cI hlt
  generalize kL dz k (l.take i) = q at hq hrow hks |-
  have hi0 : ¬ (q) ≠ (q) := fun h => h rfl
  repeat' refine V_ ?_
  all_goals first
    | exact ag (i + 1) (by omega) (by omega) (.of _ (cE.envCons rfl (cE.envCons (dG rfl (by rw [hks])) cE.envNil)) od_ pk_)
    | (exfalso; simp_all; done)
 ·obtain rfl : i = l.length := by omega
  rw [List.take_length]
  repeat' refine W_ ?_
  exact r1_
theorem gf (hst : az G) (lo : Nat) (l : List ab) (k : Int) (hn : l.length <= 1048576) (hk : 0 <= k /\ k <= 1000000000000000) : Ct Tryz.prog G 156 [.sl lo 3 ((mkL cS aB k l).map (ab.tw lo)), .int .i64 k] (fun _ => .int .i64 (kL aB k l)) := by
 refine aq Tryz.func156 rfl Tryz.ntmps156 rfl rfl fun w0 _ hG => ?_
 have hrl : ((mkL cS aB k l).map (ab.tw lo)).length = l.length := by simp [aS, bX]
 have hget := fun i (h : i < l.length) => fY (mk := cS) (nx := aB) (k := k) h
 have hgr : ∀ i (h : i < l.length), ((mkL cS aB k l).map (ab.tw lo))[i]? = some [.int .i64 (kL aB k (l.take i)), .int .i64 (kL aB k (l.take i) + 1), .str (dL (kL aB k (l.take i) + 1 + 1))] := fun i h => by
   simp only [aS, List.getElem?_map, hget i h]; rfl
 generalize (mkL cS aB k l).map (ab.tw lo) = rows at hrl hgr |-
 repeat' refine W_ ?_
 apply ak (X := Nat) [0] (fun x => [(5, .int .i64 (x : Int)), (1, .int .i64 (kL aB k (l.take x)))]) (fun _ => []) (fun x => x <= l.length) (fun x => l.length - x) 0 (Nat.zero_le _)
 exact kp_; exact nw_
 ·exact .refl _
 intro i hi
 try dsimp only
 have hq := aZ (k := k) (i := i) hn (ci l) hi
 by_cases hlt : i < l.length
 ·have hrow := hgr i hlt
  have hks : kL aB k (l.take (i + 1)) = kL aB k (l.take i) + 1 + 1 + 1 := cI hlt
  generalize kL aB k (l.take i) = q at hq hrow hks |-
  have hi0 : ¬ (q) ≠ (q) := fun h => h rfl
  have hi1 : ¬ (q + 1) ≠ (q + 1) := fun h => h rfl
  have hs2 : ¬ dL (q + 1 + 1) ≠ dL (q + 1 + 1) := fun h => h rfl
  have hm2 := bP (G := G) (q + 1 + 1) (by omega) (by omega)
  repeat' (first | refine V_ ?_ | refine ae hG hst (hm2) ?_)
  all_goals first
    | exact ag (i + 1) (by omega) (by omega) (.of _ (cE.envCons rfl (cE.envCons (dG rfl (by rw [hks])) cE.envNil)) od_ pk_)
    | (exfalso; simp_all; done)
 ·obtain rfl : i = l.length := by omega
  rw [List.take_length]
  repeat' refine W_ ?_
  exact r1_
theorem pB (hst : az G) (lo : Nat) (l : List aj) (k : Int) (hn : l.length <= 1048576) (hk : 0 <= k /\ k <= 1000000000000000) : Ct Tryz.prog G 74 [.sl lo 6 ((mkL cC aP k l).map (aj.tw lo)), .int .i64 k] (fun _ => .int .i64 (kL aP k l)) := by
 refine aq Tryz.func74 rfl Tryz.ntmps74 rfl rfl fun w0 _ hG => ?_
 have hrl : ((mkL cC aP k l).map (aj.tw lo)).length = l.length := by simp [aS, bX]
 have hget := fun i (h : i < l.length) => fY (mk := cC) (nx := aP) (k := k) h
 have hgr : ∀ i (h : i < l.length), ((mkL cC aP k l).map (aj.tw lo))[i]? = some [.int .i64 (kL aP k (l.take i)), .int .i64 (kL aP k (l.take i) + 1), .int .i64 (kL aP k (l.take i) + 1 + 1), .int .i64 (kL aP k (l.take i) + 1 + 1 + 1), .int .i64 (kL aP k (l.take i) + 1 + 1 + 1 + 1), .str (dL (kL aP k (l.take i) + 1 + 1 + 1 + 1 + 1))] := fun i h => by
   simp only [aS, List.getElem?_map, hget i h]; rfl
 generalize (mkL cC aP k l).map (aj.tw lo) = rows at hrl hgr |-
 repeat' refine W_ ?_
 apply ak (X := Nat) [0] (fun x => [(5, .int .i64 (x : Int)), (1, .int .i64 (kL aP k (l.take x)))]) (fun _ => []) (fun x => x <= l.length) (fun x => l.length - x) 0 (Nat.zero_le _)
 exact kp_; exact nw_
 ·exact .refl _
 intro i hi
 try dsimp only
 have hq := aZ (k := k) (i := i) hn (fk l) hi
 by_cases hlt : i < l.length
 ·have hrow := hgr i hlt
  have hks : kL aP k (l.take (i + 1)) = kL aP k (l.take i) + 1 + 1 + 1 + 1 + 1 + 1 := cI hlt
  generalize kL aP k (l.take i) = q at hq hrow hks |-
  have hi0 : ¬ (q) ≠ (q) := fun h => h rfl
  have hi1 : ¬ (q + 1) ≠ (q + 1) := fun h => h rfl
  have hi2 : ¬ (q + 1 + 1) ≠ (q + 1 + 1) := fun h => h rfl
  have hi3 : ¬ (q + 1 + 1 + 1) ≠ (q + 1 + 1 + 1) := fun h => h rfl
  have hi4 : ¬ (q + 1 + 1 + 1 + 1) ≠ (q + 1 + 1 + 1 + 1) := fun h => h rfl
  have hs5 : ¬ dL (q + 1 + 1 + 1 + 1 + 1) ≠ dL (q + 1 + 1 + 1 + 1 + 1) := fun h => h rfl
  have hm5 := bP (G := G) (q + 1 + 1 + 1 + 1 + 1) (by omega) (by omega)
  repeat' (first | refine V_ ?_ | refine ae hG hst (hm5) ?_)
  all_goals first
    | exact ag (i + 1) (by omega) (by omega) (.of _ (cE.envCons rfl (cE.envCons (dG rfl (by rw [hks])) cE.envNil)) od_ pk_)
    | (exfalso; simp_all; done)
 ·obtain rfl : i = l.length := by omega
  rw [List.take_length]
  repeat' refine W_ ?_
  exact r1_
theorem pe (hst : az G) (lo : Nat) (l : List ar) (k : Int) (hn : l.length <= 1048576) (hk : 0 <= k /\ k <= 1000000000000000) : Ct Tryz.prog G 76 [.sl lo 2 ((mkL cD aU k l).map (ar.tw lo)), .int .i64 k] (fun _ => .int .i64 (kL aU k l)) := by
 refine aq Tryz.func76 rfl Tryz.ntmps76 rfl rfl fun w0 _ hG => ?_
 have hrl : ((mkL cD aU k l).map (ar.tw lo)).length = l.length := by simp [aS, bX]
 have hget := fun i (h : i < l.length) => fY (mk := cD) (nx := aU) (k := k) h
 have hgr : ∀ i (h : i < l.length), ((mkL cD aU k l).map (ar.tw lo))[i]? = some [.int .i64 (kL aU k (l.take i)), .bool (decide ((kL aU k (l.take i) + 1).tmod 3 = 0))] := fun i h => by
   simp only [aS, List.getElem?_map, hget i h]; rfl
 generalize (mkL cD aU k l).map (ar.tw lo) = rows at hrl hgr |-
 repeat' refine W_ ?_
 apply ak (X := Nat) [0] (fun x => [(5, .int .i64 (x : Int)), (1, .int .i64 (kL aU k (l.take x)))]) (fun _ => []) (fun x => x <= l.length) (fun x => l.length - x) 0 (Nat.zero_le _)
 exact kp_; exact nw_
 ·exact .refl _
 intro i hi
 try dsimp only
 have hq := aZ (k := k) (i := i) hn (fj l) hi
 by_cases hlt : i < l.length
 ·have hrow := hgr i hlt
  have hks : kL aU k (l.take (i + 1)) = kL aU k (l.take i) + 1 + 1 := cI hlt
  generalize kL aU k (l.take i) = q at hq hrow hks |-
  have hi0 : ¬ (q) ≠ (q) := fun h => h rfl
  have hb1 : (decide ((q + 1).tmod 3 = 0) != decide ((q + 1).tmod 3 = 0)) = false := by simp
  repeat' (first | refine V_ ?_ | refine c_ (fun hc => ?_) (fun hc => ?_))
  all_goals first
    | exact ag (i + 1) (by omega) (by omega) (.of _ (cE.envCons rfl (cE.envCons (dG rfl (by rw [hks])) cE.envNil)) od_ pk_)
    | (exfalso; simp_all; done)
 ·obtain rfl : i = l.length := by omega
  rw [List.take_length]
  repeat' refine W_ ?_
  exact r1_
theorem rX (hst : az G) (lo : Nat) (l : List au) (k : Int) (hn : l.length <= 1048576 /\ ∀ y ∈ l, au.small 1048576 y) (hk : 0 <= k /\ k <= 100000000000000) : Ct Tryz.prog G 155 [.sl lo 4 ((mkL bQ aX k l).map (au.tw lo)), .int .i64 k] (fun _ => .int .i64 (kL aX k l)) := by
 refine aq Tryz.func155 rfl Tryz.ntmps155 rfl rfl fun w0 _ hG => ?_
 obtain ⟨hn, hsm⟩ := hn
 have hrl : ((mkL bQ aX k l).map (au.tw lo)).length = l.length := by simp [bX]
 have hgr : ∀ i (h : i < l.length), ((mkL bQ aX k l).map (au.tw lo))[i]? = some ((bQ (kL aX k (l.take i)) l[i]).tw lo) := fun i h => by
   simp only [List.getElem?_map, fY (mk := bQ) (nx := aX) (k := k) h]; rfl
 generalize (mkL bQ aX k l).map (au.tw lo) = rows at hrl hgr |-
 repeat' refine W_ ?_
 apply ak (X := Nat) [0] (fun x => [(5, .int .i64 (x : Int)), (1, .int .i64 (kL aX k (l.take x)))]) (fun _ => []) (fun x => x <= l.length) (fun x => l.length - x) 0 (Nat.zero_le _)
 exact kp_; exact nw_
 ·exact .refl _
 intro i hi
 try dsimp only
 have hq := aZ (k := k) (i := i) hn (fV hsm) hi
 by_cases hlt : i < l.length
 ·have hrow := hgr i hlt
  have hks := cI (nx := aX) (k := k) hlt
  have hb := hsm _ (List.getElem_mem hlt)
  generalize kL aX k (l.take i) = q at hq hrow hks |-
  generalize l[i] = x at hrow hks hb
  replace hrow : rows[i]? = some [.int .i64 (q), .int .i64 (q + 1), .sl lo 3 ((mkL cS aB (q + 1 + 1) x.fields).map (ab.tw lo)), .sl lo 1 (aS (mkL iQ dz (kL aB (q + 1 + 1) x.fields) x.numbers))] := hrow
  have hln0 : x.fields.length <= 1048576 := hb.1.1
  have hinr0 := gK (nx := aB) (l := x.fields) (k := q + 1 + 1) (ci _)
  have hin0 := gf hst lo x.fields (q + 1 + 1) hb.1.1 (by omega)
  have hln1 : x.numbers.length <= 1048576 := hb.2
  have hinr1 := gK (nx := dz) (l := x.numbers) (k := kL aB (q + 1 + 1) x.fields) (jA _)
  have hin1 := qe hst lo x.numbers (kL aB (q + 1 + 1) x.fields) hb.2 (by omega)
  have hks2 : kL aX k (l.take (i + 1)) = kL dz (kL aB (q + 1 + 1) x.fields) x.numbers := hks
  have hi0 : ¬ (q) ≠ (q) := fun h => h rfl
  have hi1 : ¬ (q + 1) ≠ (q + 1) := fun h => h rfl
  repeat' (first | refine V_ ?_ | refine ad hG hst (hin0) ?_ | refine ad hG hst (hin1) ?_)
  all_goals first
    | exact ag (i + 1) (by omega) (by omega) (.of _ (cE.envCons rfl (cE.envCons (dG rfl (by rw [hks2])) cE.envNil)) od_ pk_)
    | (exfalso; simp_all; done)
    | (exfalso; omega)
 ·obtain rfl : i = l.length := by omega
  rw [List.take_length]
  repeat' refine W_ ?_
  exact r1_
theorem oX (hst : az G) (lo : Nat) (l : List ap) (k : Int) (hn : l.length <= 1048576 /\ ∀ y ∈ l, ap.small 1048576 y) (hk : 0 <= k /\ k <= 100000000000000) : Ct Tryz.prog G 75 [.sl lo 14 ((mkL bw aQ k l).map (ap.tw lo)), .int .i64 k] (fun _ => .int .i64 (kL aQ k l)) := by
 refine aq Tryz.func75 rfl Tryz.ntmps75 rfl rfl fun w0 _ hG => ?_
 obtain ⟨hn, hsm⟩ := hn
 have hrl : ((mkL bw aQ k l).map (ap.tw lo)).length = l.length := by simp [bX]
 have hgr : ∀ i (h : i < l.length), ((mkL bw aQ k l).map (ap.tw lo))[i]? = some ((bw (kL aQ k (l.take i)) l[i]).tw lo) := fun i h => by
   simp only [List.getElem?_map, fY (mk := bw) (nx := aQ) (k := k) h]; rfl
 generalize (mkL bw aQ k l).map (ap.tw lo) = rows at hrl hgr |-
 repeat' refine W_ ?_
 apply ak (X := Nat) [0] (fun x => [(5, .int .i64 (x : Int)), (1, .int .i64 (kL aQ k (l.take x)))]) (fun _ => []) (fun x => x <= l.length) (fun x => l.length - x) 0 (Nat.zero_le _)
 exact kp_; exact nw_
 ·exact .refl _
 intro i hi
 try dsimp only
 have hq := aZ (k := k) (i := i) hn (fp hsm) hi
 by_cases hlt : i < l.length
 ·have hrow := hgr i hlt
  have hks := cI (nx := aQ) (k := k) hlt
  have hb := hsm _ (List.getElem_mem hlt)
  generalize kL aQ k (l.take i) = q at hq hrow hks |-
  generalize l[i] = x at hrow hks hb
  replace hrow : rows[i]? = some [.int .i64 (q), .int .i64 (q + 1), .int .i64 (q + 1 + 1), .int .i64 (q + 1 + 1 + 1), .int .i64 (q + 1 + 1 + 1 + 1), .int .i64 (q + 1 + 1 + 1 + 1 + 1), .int .i64 (q + 1 + 1 + 1 + 1 + 1 + 1), .int .i64 (q + 1 + 1 + 1 + 1 + 1 + 1 + 1), .str (dL (q + 1 + 1 + 1 + 1 + 1 + 1 + 1 + 1)), .sl lo 3 ((mkL cS aB (q + 1 + 1 + 1 + 1 + 1 + 1 + 1 + 1 + 1) x.slots).map (ab.tw lo)), .sl lo 3 ((mkL cS aB (kL aB (q + 1 + 1 + 1 + 1 + 1 + 1 + 1 + 1 + 1) x.slots) x.stack).map (ab.tw lo)), .sl lo 3 ((mkL cS aB (kL aB (kL aB (q + 1 + 1 + 1 + 1 + 1 + 1 + 1 + 1 + 1) x.slots) x.stack) x.values).map (ab.tw lo)), .int .i64 (kL aB (kL aB (kL aB (q + 1 + 1 + 1 + 1 + 1 + 1 + 1 + 1 + 1) x.slots) x.stack) x.values), .bool (decide ((kL aB (kL aB (kL aB (q + 1 + 1 + 1 + 1 + 1 + 1 + 1 + 1 + 1) x.slots) x.stack) x.values + 1).tmod 3 = 0))] := hrow
  have hln0 : x.slots.length <= 1048576 := hb.2.1.1
  have hinr0 := gK (nx := aB) (l := x.slots) (k := q + 1 + 1 + 1 + 1 + 1 + 1 + 1 + 1 + 1) (ci _)
  have hin0 := gf hst lo x.slots (q + 1 + 1 + 1 + 1 + 1 + 1 + 1 + 1 + 1) hb.2.1.1 (by omega)
  have hln1 : x.stack.length <= 1048576 := hb.2.2.1.1
  have hinr1 := gK (nx := aB) (l := x.stack) (k := kL aB (q + 1 + 1 + 1 + 1 + 1 + 1 + 1 + 1 + 1) x.slots) (ci _)
  have hin1 := gf hst lo x.stack (kL aB (q + 1 + 1 + 1 + 1 + 1 + 1 + 1 + 1 + 1) x.slots) hb.2.2.1.1 (by omega)
  have hln2 : x.values.length <= 1048576 := hb.2.2.2.1
  have hinr2 := gK (nx := aB) (l := x.values) (k := kL aB (kL aB (q + 1 + 1 + 1 + 1 + 1 + 1 + 1 + 1 + 1) x.slots) x.stack) (ci _)
  have hin2 := gf hst lo x.values (kL aB (kL aB (q + 1 + 1 + 1 + 1 + 1 + 1 + 1 + 1 + 1) x.slots) x.stack) hb.2.2.2.1 (by omega)
  have hi20 : ¬ (kL aB (kL aB (kL aB (q + 1 + 1 + 1 + 1 + 1 + 1 + 1 + 1 + 1) x.slots) x.stack) x.values) ≠ (kL aB (kL aB (kL aB (q + 1 + 1 + 1 + 1 + 1 + 1 + 1 + 1 + 1) x.slots) x.stack) x.values) := fun h => h rfl
  have hb21 : (decide ((kL aB (kL aB (kL aB (q + 1 + 1 + 1 + 1 + 1 + 1 + 1 + 1 + 1) x.slots) x.stack) x.values + 1).tmod 3 = 0) != decide ((kL aB (kL aB (kL aB (q + 1 + 1 + 1 + 1 + 1 + 1 + 1 + 1 + 1) x.slots) x.stack) x.values + 1).tmod 3 = 0)) = false := by simp
  have hks2 : kL aQ k (l.take (i + 1)) = kL aB (kL aB (kL aB (q + 1 + 1 + 1 + 1 + 1 + 1 + 1 + 1 + 1) x.slots) x.stack) x.values + 1 + 1 := hks
  have hi0 : ¬ (q) ≠ (q) := fun h => h rfl
  have hi1 : ¬ (q + 1) ≠ (q + 1) := fun h => h rfl
  have hi2 : ¬ (q + 1 + 1) ≠ (q + 1 + 1) := fun h => h rfl
  have hi3 : ¬ (q + 1 + 1 + 1) ≠ (q + 1 + 1 + 1) := fun h => h rfl
  have hi4 : ¬ (q + 1 + 1 + 1 + 1) ≠ (q + 1 + 1 + 1 + 1) := fun h => h rfl
  have hi5 : ¬ (q + 1 + 1 + 1 + 1 + 1) ≠ (q + 1 + 1 + 1 + 1 + 1) := fun h => h rfl
  have hi6 : ¬ (q + 1 + 1 + 1 + 1 + 1 + 1) ≠ (q + 1 + 1 + 1 + 1 + 1 + 1) := fun h => h rfl
  have hi7 : ¬ (q + 1 + 1 + 1 + 1 + 1 + 1 + 1) ≠ (q + 1 + 1 + 1 + 1 + 1 + 1 + 1) := fun h => h rfl
  have hs8 : ¬ dL (q + 1 + 1 + 1 + 1 + 1 + 1 + 1 + 1) ≠ dL (q + 1 + 1 + 1 + 1 + 1 + 1 + 1 + 1) := fun h => h rfl
  have hm8 := bP (G := G) (q + 1 + 1 + 1 + 1 + 1 + 1 + 1 + 1) (by omega) (by omega)
  repeat' (first | refine V_ ?_ | refine ad hG hst (hin0) ?_ | refine ad hG hst (hin1) ?_ | refine ad hG hst (hin2) ?_ | refine ae hG hst (hm8) ?_ | refine c_ (fun hc => ?_) (fun hc => ?_))
  all_goals first
    | exact ag (i + 1) (by omega) (by omega) (.of _ (cE.envCons rfl (cE.envCons (dG rfl (by rw [hks2])) cE.envNil)) od_ pk_)
    | (exfalso; simp_all; done)
    | (exfalso; omega)
 ·obtain rfl : i = l.length := by omega
  rw [List.take_length]
  repeat' refine W_ ?_
  exact r1_
theorem vV (hst : az G) (lo : Nat) (x : aR) (hb : x.small 1048576) (k : Int) (hk : 0 <= k /\ k <= 60000000000000) : Ct Tryz.prog G 73 [.agg ((ft k x).tw lo), .int .i64 k] (fun _ => .int .i64 (dv k x)) := by
 refine aq Tryz.func73 rfl Tryz.ntmps73 rfl rfl fun w0 _ hG => ?_
 have h1 := aZ (k := k) (i := x.classes.length) hb.1.1 (co hb.1.2) (Nat.le_refl _)
 have h2 := aZ (k := kL ay k x.classes) (i := x.objects.length) hb.2.1.1 (fV hb.2.1.2) (Nat.le_refl _)
 have h3 := aZ (k := kL aX (kL ay k x.classes) x.objects) (i := x.output.length) hb.2.2.1 (eU x.output) (Nat.le_refl _)
 rw [List.take_length] at h1 h2 h3
 have c1 := iH hst lo x.classes k hb.1 (by omega)
 have c2 := rX hst lo x.objects (kL ay k x.classes) hb.2.1 (by omega)
 have c3 := ld hst lo x.output (kL aX (kL ay k x.classes) x.objects) hb.2.2.1 (by omega)
 unfold aR.tw ft dv
 dsimp only
 repeat' (first | refine W_ ?_ | refine aM ?_ | refine ad hG hst (c1) ?_ | refine ad hG hst (c2) ?_ | refine ad hG hst (c3) ?_)
 exact r1_
theorem vH (hst : az G) (lo : Nat) (x : ao) (hb : x.small 1048576) (k : Int) (hk : 0 <= k /\ k <= 50000000000000) : Ct Tryz.prog G 20 [.agg ((fx k x).tw lo), .int .i64 k] (fun _ => .int .i64 (iL k x)) := by
 refine aq Tryz.func20 rfl Tryz.ntmps20 rfl rfl fun w0 _ hG => ?_
 have h1 := ir hb.1 k
 have h2 := lI hb.2.1 (ba k x.base)
 have c1 := o5 hst lo x.base hb.1 k (by omega)
 have c2 := vV hst lo x.store hb.2.1 (ba k x.base) (by omega)
 unfold iL ao.tw fx
 dsimp only
 generalize cJ k x.base = u1 at c1 |-
 generalize ft (ba k x.base) x.store = u2 at c2 |-
 generalize dv (ba k x.base) x.store = q2 at h2 c2 |-
 generalize ba k x.base = q1 at h1 h2 c1 c2 |-
 have h3 := aZ (k := q2) (i := x.blocks.length) hb.2.2.1.1 (fk x.blocks) (Nat.le_refl _)
 rw [List.take_length] at h3
 have c3 := pB hst lo x.blocks q2 hb.2.2.1.1 (by omega)
 generalize kL aP q2 x.blocks = q3 at h3 c3 |-
 have h4 := aZ (k := q3) (i := x.contexts.length) hb.2.2.2.1.1 (fp hb.2.2.2.1.2) (Nat.le_refl _)
 rw [List.take_length] at h4
 have c4 := oX hst lo x.contexts q3 hb.2.2.2.1 (by omega)
 generalize kL aQ q3 x.contexts = q4 at h4 c4 |-
 have h5 := aZ (k := q4) (i := x.processes.length) hb.2.2.2.2.1.1 (fj x.processes) (Nat.le_refl _)
 rw [List.take_length] at h5
 have c5 := pe hst lo x.processes q4 hb.2.2.2.2.1.1 (by omega)
 generalize kL aU q4 x.processes = q5 at h5 c5 |-
 have h6 := aZ (k := q5) (i := x.ready.length) hb.2.2.2.2.2.1 (jA x.ready) (Nat.le_refl _)
 rw [List.take_length] at h6
 have c6 := qe hst lo x.ready q5 hb.2.2.2.2.2.1 (by omega)
 unfold aD.tw at c1
 unfold aR.tw at c2
 repeat' (first | refine W_ ?_ | refine aM ?_ | refine ad hG hst (c1) ?_ | refine ad hG hst (c2) ?_ | refine ad hG hst (c3) ?_ | refine ad hG hst (c4) ?_ | refine ad hG hst (c5) ?_ | refine ad hG hst (c6) ?_)
 exact r1_
end
end Go.Proofs.YtiihihgjiklnoaaGreatDoor
