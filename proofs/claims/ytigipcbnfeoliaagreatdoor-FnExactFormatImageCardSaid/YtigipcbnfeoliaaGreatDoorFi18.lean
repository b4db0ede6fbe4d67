/- Part 18 of the proof: the texts NiA, NiB, NiM, NiS, NiH. -/
import Derived.Test.YtigipcbnfeoliaaGreatDoorFi3
import Derived.Test.YtigipcbnfeoliaaGreatDoorFi11
import Derived.Test.YtigipcbnfeoliaaGreatDoorFi13
set_option linter.all false
set_option maxHeartbeats 2000000
set_option maxRecDepth 20000
namespace Go.Proofs.YtigipcbnfeoliaaGreatDoor
open Go Go.RowKit
def nRg {α β : Type} (mk : α -> β -> List TV) (l : List α) (ps : List β) : List (List TV) := List.zipWith mk l ps
def nOg {α β : Type} (ob : α -> β -> aF) (l : List α) (ps : List β) : aF := (List.zipWith ob l ps).flatten
theorem vK {α β : Type} (mk : α -> β -> List TV) {l : List α} {ps : List β} (h : ps.length = l.length) : (nRg mk l ps).length = l.length := by simp [nRg, h]
theorem wQ {α β : Type} (ob : α -> β -> aF) {l : List α} {ps : List β} {i : Nat} (h : i < l.length) (hp : ps.length = i) (p : β) : nOg ob (l.take (i + 1)) (ps ++ [p]) = nOg ob (l.take i) ps ++ ob l[i] p := by
 unfold nOg
 rw [eo h, List.zipWith_append (by simp; omega)]; simp
theorem aai {α β : Type} (mk : α -> β -> List TV) (z : List TV) {l : List α} {ps : List β} {i : Nat} (h : i < l.length) (hp : ps.length = i) (p : β) :
   (nRg mk (l.take i) ps ++ List.replicate (l.length - i) z)[i]? = some z /\ (nRg mk (l.take i) ps ++ List.replicate (l.length - i) z).set i (mk l[i] p) = nRg mk (l.take (i + 1)) (ps ++ [p]) ++ List.replicate (l.length - (i + 1)) z := by
 have hl : (nRg mk (l.take i) ps).length = i := by simp [nRg]; omega
 have e : l.length - i = (l.length - (i + 1)) + 1 := by omega
 refine ⟨?_, ?_⟩
 ·rw [List.getElem?_append_right (by omega), hl, Nat.sub_self, e, List.replicate_succ]; rfl
 ·rw [List.set_append_right _ _ (by omega), hl, Nat.sub_self, e, List.replicate_succ, List.set_cons_zero]
  unfold nRg
  rw [eo h, List.zipWith_append (by simp; omega), List.append_assoc]; rfl
theorem qE (a : Nat × Nat × bv) (z T R : aF) : cZ (a :: ((T ++ z) ++ R)) (a :: (z ++ (T ++ R))) := .perm (by
 have h : ((T ++ z) ++ R).Perm (z ++ (T ++ R)) := by
   rw [<- List.append_assoc]
   exact List.perm_append_comm.append_right R
 exact h.cons a)
theorem uL (a : Nat × Nat × bv) (z R : aF) : cZ (a :: (z ++ R)) (z ++ (a :: R)) := .perm List.perm_middle.symm
def Pl : Type := Nat × Nat
def iJ (x : au) (p : Pl × Pl) : List TV := [.int .i64 x.kind, .int .i64 x.class_, .ms p.1.1 p.1.2 0 x.fields.length, .ms p.2.1 p.2.2 0 x.numbers.length]
def kY (x : au) (p : Pl × Pl) : aF := [(p.1.1, p.1.2, .row 3 (x.fields.map (ab.tw 0))), (p.2.1, p.2.2, .row 1 (aR x.numbers))]
def iI (x : aj) (p : Pl × Pl × Pl) : List TV := [.int .i64 x.mark, .int .i64 x.code, .int .i64 x.pc, .int .i64 x.sender, .int .i64 x.outer, .int .i64 x.home, .int .i64 x.self.kind, .int .i64 x.self.number, .str x.self.text, .ms p.1.1 p.1.2 0 x.slots.length, .ms p.2.1.1 p.2.1.2 0 x.stack.length, .ms p.2.2.1 p.2.2.2 0 x.values.length, .int .i64 x.other, .bool x.retry]
def li (x : aj) (p : Pl × Pl × Pl) : aF := [(p.1.1, p.1.2, .row 3 (x.slots.map (ab.tw 0))), (p.2.1.1, p.2.1.2, .row 3 (x.stack.map (ab.tw 0))), (p.2.2.1, p.2.2.2, .row 3 (x.values.map (ab.tw 0)))]
def ae2 (l : List au) (y : Pl × List (Pl × Pl)) : aF := (y.1.1, y.1.2, .row 4 (nRg iJ l y.2)) :: nOg kY l y.2
def aen (l : List aj) (y : Pl × List (Pl × Pl × Pl)) : aF := (y.1.1, y.1.2, .row 14 (nRg iI l y.2)) :: nOg li l y.2
def StP : Type := ((Nat × Nat) × List (Nat × Nat)) × (Pl × List (Pl × Pl)) × Pl
def stO (x : aQ) (y : StP) : aF := aek x.classes y.1 ++ (ae2 x.objects y.2.1 ++ [(y.2.2.1, y.2.2.2, .row 1 (aT x.output))])
def stC (x : aQ) (y : StP) : List TV := [.ms y.1.1.1 y.1.1.2 0 x.classes.length, .ms y.2.1.1.1 y.2.1.1.2 0 x.objects.length, .ms y.2.2.1 y.2.2.2 0 x.output.length, .int .i64 x.ticks, .int .i64 x.budget, .int .i64 x.made]
def stI (x : aQ) (y : StP) : Prop := y.1.2.length = x.classes.length /\ y.2.1.2.length = x.objects.length
def sx : Type := CbP × StP × Pl × (Pl × List (Pl × Pl × Pl)) × Pl × Pl
def imO (x : ao) (y : sx) : aF := cbO x.base y.1 ++ (stO x.store y.2.1 ++ ([(y.2.2.1.1, y.2.2.1.2, .row 6 (x.blocks.map (am.tw 0)))] ++ (aen x.contexts y.2.2.2.1 ++ ([(y.2.2.2.2.1.1, y.2.2.2.2.1.2, .row 2 (x.processes.map (ap.tw 0)))] ++ [(y.2.2.2.2.2.1, y.2.2.2.2.2.2, .row 1 (aR x.ready))]))))
def imC (x : ao) (y : sx) : List TV := [.ms y.1.1.1.1 y.1.1.1.2 0 x.base.classes.length, .ms y.1.2.1.1.1 y.1.2.1.1.2 0 x.base.codes.length, .ms y.1.2.2.1 y.1.2.2.2 0 x.base.entries.length, .int .i64 x.base.main,
 .ms y.2.1.1.1.1 y.2.1.1.1.2 0 x.store.classes.length, .ms y.2.1.2.1.1.1 y.2.1.2.1.1.2 0 x.store.objects.length, .ms y.2.1.2.2.1 y.2.1.2.2.2 0 x.store.output.length, .int .i64 x.store.ticks, .int .i64 x.store.budget, .int .i64 x.store.made,
 .ms y.2.2.1.1 y.2.2.1.2 0 x.blocks.length, .ms y.2.2.2.1.1.1 y.2.2.2.1.1.2 0 x.contexts.length, .ms y.2.2.2.2.1.1 y.2.2.2.2.1.2 0 x.processes.length, .ms y.2.2.2.2.2.1 y.2.2.2.2.2.2 0 x.ready.length, .int .i64 x.now, .int .i64 x.status, .int .i64 x.value.kind, .int .i64 x.value.number, .str x.value.text, .str x.fault]
def imI (x : ao) (y : sx) : Prop := cbI x.base y.1 /\ stI x.store y.2.1 /\ y.2.2.2.1.2.length = x.contexts.length
section
variable {G : World -> Prop}
theorem qU (hst : aC G) (lo : Nat) (l : List Int) (hn : l.length <= 1048576) : CtM Tryz.prog G 44 [.sl lo 1 (aR l)] [] (fun _ : Nat × Nat => True) (fun y => [(y.1, y.2, .row 1 (aR l))]) (fun y => .ms y.1 y.2 0 l.length) := by
 refine aB Tryz.func44 rfl Tryz.ntmps44 rfl rfl rfl fun w0 R gs objsR hG hR => ?_
 obtain rfl := hR.inv0
 clear hR
 have hlen := ar l
 have h0 := e8 (fun n : Int => [TV.int .i64 n]) [.int .i64 0] l
 repeat' (first | refine W_ ?_ | (refine gI ?_; intro ss bb))
 generalize ss = so; generalize bb = bo
 apply ai (X := Nat) [0, 3, 1000000] (fun i => [(4, .int .i64 (i : Int))]) (fun i => (so, bo, .row 1 (gC (fun n : Int => [TV.int .i64 n]) [.int .i64 0] l i)) :: R) (fun i => i <= l.length) (fun i => l.length - i) 0 (Nat.zero_le _)
 exact kp_; exact nw_
 ·rw [<- h0]; exact .refl _
 intro i hi
 try dsimp only
 by_cases hlt : i < l.length
 ·obtain ⟨hrow, hset⟩ := fV (fun n : Int => [TV.int .i64 n]) [.int .i64 0] hlt
  have hra : (aR l)[i]? = some [.int .i64 l[i]] := aL hlt
  generalize l[i] = x at hset hra
  try dsimp only at hset
  repeat' (first | refine W_ ?_ | refine bJ ?_)
  refine ah (i + 1) (by omega) (by omega) (.of _ nw_ od_ (by rw [<- hset]; exact .refl _))
 ·obtain rfl : i = l.length := by omega
  rw [eO]
  repeat' refine W_ ?_
  exact az x_ rfl (so, bo) trivial rfl (.cons _ _ _ _ (.nil R)) pk_ (.tmp _ _ rfl) rfl
theorem gn (hst : aC G) (lo : Nat) (l : List ab) (hb : l.length <= 1048576 /\ ∀ y ∈ l, ab.small 1048576 y) : CtM Tryz.prog G 206 [.sl lo 3 (l.map (ab.tw lo))] [] (fun _ : Nat × Nat => True) (fun y => [(y.1, y.2, .row 3 (l.map (ab.tw 0)))]) (fun y => .ms y.1 y.2 0 l.length) := by
 refine aB Tryz.func206 rfl Tryz.ntmps206 rfl rfl rfl fun w0 R gs objsR hG hR => ?_
 obtain rfl := hR.inv0
 clear hR
 have hlen := ab.len lo l
 have hl1 := hb.1
 have h0 := e8 (ab.tw 0) ab.tz l
 repeat' (first | refine W_ ?_ | (refine gI ?_; intro ss bb))
 generalize ss = so; generalize bb = bo
 apply ai (X := Nat) [0, 3, 1000000] (fun i => [(4, .int .i64 (i : Int))]) (fun i => (so, bo, .row 3 (gC (ab.tw 0) ab.tz l i)) :: R) (fun i => i <= l.length) (fun i => l.length - i) 0 (Nat.zero_le _)
 exact kp_; exact nw_
 ·rw [<- h0]; exact .refl _
 intro i hi
 try dsimp only
 by_cases hlt : i < l.length
 ·obtain ⟨hrow, hset⟩ := fV (ab.tw 0) ab.tz hlt
  have hra : (l.map (ab.tw lo))[i]? = some (l[i].tw lo) := aL hlt
  have hbi := hb.2 _ (List.getElem_mem hlt)
  generalize l[i] = x at hset hra hbi
  have hct := jx hst lo x hbi
  unfold ab.tw at hct
  rw [show x.tw lo = [.int .i64 x.kind, .int .i64 x.number, .str x.text] from rfl] at hra
  replace hrow : (gC (ab.tw 0) ab.tz l i)[i]? = some [.int .i64 0, .int .i64 0, .str ⟨#[]⟩] := hrow
  repeat' (first | refine W_ ?_ | refine ac hG hst (hct) ?_ | refine bJ ?_)
  refine ah (i + 1) (by omega) (by omega) (.of _ nw_ od_ (by rw [<- hset]; exact .refl _))
 ·obtain rfl : i = l.length := by omega
  rw [eO]
  repeat' refine W_ ?_
  exact az x_ rfl (so, bo) trivial rfl (.cons _ _ _ _ (.nil R)) pk_ (.tmp _ _ rfl) rfl
theorem pV (hst : aC G) (lo : Nat) (l : List am) (hb : l.length <= 1048576 /\ ∀ y ∈ l, am.small 1048576 y) : CtM Tryz.prog G 41 [.sl lo 6 (l.map (am.tw lo))] [] (fun _ : Nat × Nat => True) (fun y => [(y.1, y.2, .row 6 (l.map (am.tw 0)))]) (fun y => .ms y.1 y.2 0 l.length) := by
 refine aB Tryz.func41 rfl Tryz.ntmps41 rfl rfl rfl fun w0 R gs objsR hG hR => ?_
 obtain rfl := hR.inv0
 clear hR
 have hlen := am.len lo l
 have hl1 := hb.1
 have h0 := e8 (am.tw 0) am.tz l
 repeat' (first | refine W_ ?_ | (refine gI ?_; intro ss bb))
 generalize ss = so; generalize bb = bo
 apply ai (X := Nat) [0, 3, 1000000] (fun i => [(4, .int .i64 (i : Int))]) (fun i => (so, bo, .row 6 (gC (am.tw 0) am.tz l i)) :: R) (fun i => i <= l.length) (fun i => l.length - i) 0 (Nat.zero_le _)
 exact kp_; exact nw_
 ·rw [<- h0]; exact .refl _
 intro i hi
 try dsimp only
 by_cases hlt : i < l.length
 ·obtain ⟨hrow, hset⟩ := fV (am.tw 0) am.tz hlt
  have hra : (l.map (am.tw lo))[i]? = some (l[i].tw lo) := aL hlt
  have hbi := hb.2 _ (List.getElem_mem hlt)
  generalize l[i] = x at hset hra hbi
  have hct := ur hst lo x hbi
  unfold am.tw at hct
  rw [show x.tw lo = [.int .i64 x.code, .int .i64 x.outer, .int .i64 x.home, .int .i64 x.self.kind, .int .i64 x.self.number, .str x.self.text] from rfl] at hra
  replace hrow : (gC (am.tw 0) am.tz l i)[i]? = some [.int .i64 0, .int .i64 0, .int .i64 0, .int .i64 0, .int .i64 0, .str ⟨#[]⟩] := hrow
  repeat' (first | refine W_ ?_ | refine ac hG hst (hct) ?_ | refine bJ ?_)
  refine ah (i + 1) (by omega) (by omega) (.of _ nw_ od_ (by rw [<- hset]; exact .refl _))
 ·obtain rfl : i = l.length := by omega
  rw [eO]
  repeat' refine W_ ?_
  exact az x_ rfl (so, bo) trivial rfl (.cons _ _ _ _ (.nil R)) pk_ (.tmp _ _ rfl) rfl
theorem pJ (hst : aC G) (lo : Nat) (l : List ap) (hb : l.length <= 1048576 /\ ∀ y ∈ l, ap.small 1048576 y) : CtM Tryz.prog G 43 [.sl lo 2 (l.map (ap.tw lo))] [] (fun _ : Nat × Nat => True) (fun y => [(y.1, y.2, .row 2 (l.map (ap.tw 0)))]) (fun y => .ms y.1 y.2 0 l.length) := by
 refine aB Tryz.func43 rfl Tryz.ntmps43 rfl rfl rfl fun w0 R gs objsR hG hR => ?_
 obtain rfl := hR.inv0
 clear hR
 have hlen := ap.len lo l
 have hl1 := hb.1
 have h0 := e8 (ap.tw 0) ap.tz l
 repeat' (first | refine W_ ?_ | (refine gI ?_; intro ss bb))
 generalize ss = so; generalize bb = bo
 apply ai (X := Nat) [0, 3, 1000000] (fun i => [(4, .int .i64 (i : Int))]) (fun i => (so, bo, .row 2 (gC (ap.tw 0) ap.tz l i)) :: R) (fun i => i <= l.length) (fun i => l.length - i) 0 (Nat.zero_le _)
 exact kp_; exact nw_
 ·rw [<- h0]; exact .refl _
 intro i hi
 try dsimp only
 by_cases hlt : i < l.length
 ·obtain ⟨hrow, hset⟩ := fV (ap.tw 0) ap.tz hlt
  have hra : (l.map (ap.tw lo))[i]? = some (l[i].tw lo) := aL hlt
  have hbi := hb.2 _ (List.getElem_mem hlt)
  generalize l[i] = x at hset hra hbi
  have hct := ub hst lo x hbi
  unfold ap.tw at hct
  rw [show x.tw lo = [.int .i64 x.at_, .bool x.main] from rfl] at hra
  replace hrow : (gC (ap.tw 0) ap.tz l i)[i]? = some [.int .i64 0, .bool false] := hrow
  repeat' (first | refine W_ ?_ | refine ac hG hst (hct) ?_ | refine bJ ?_)
  refine ah (i + 1) (by omega) (by omega) (.of _ nw_ od_ (by rw [<- hset]; exact .refl _))
 ·obtain rfl : i = l.length := by omega
  rw [eO]
  repeat' refine W_ ?_
  exact az x_ rfl (so, bo) trivial rfl (.cons _ _ _ _ (.nil R)) pk_ (.tmp _ _ rfl) rfl
theorem uD (hst : aC G) (lo : Nat) (x : au) (hb : x.small 1048576) : CtM Tryz.prog G 205 [.agg [.int .i64 x.kind, .int .i64 x.class_, .sl lo 3 (x.fields.map (ab.tw lo)), .sl lo 1 (aR x.numbers)]] [] (fun _ : Pl × Pl => True) (fun y => kY x y) (fun y => .agg (iJ x y)) := by
 refine aB Tryz.func205 rfl Tryz.ntmps205 rfl rfl rfl fun w0 R gs objsR hG hR => ?_
 obtain rfl := hR.inv0
 clear hR
 have h1 := gn hst lo x.fields hb.1
 have h2 := qU hst lo x.numbers hb.2
 unfold kY iJ
 repeat' (first | refine W_ ?_ | refine aJ ?_ | (refine ak ?_; intro ss bb) | refine ae ?_ | ((with_reducible apply aE); rfl; kernel_rfl; (repeat (first | exact ay.nil | ((with_reducible apply ay.cons); rfl))); exact hG; exact h1; exact .nil _; intro y1 hy1; refine bF ?_) | ((with_reducible apply aE); rfl; kernel_rfl; (repeat (first | exact ay.nil | ((with_reducible apply ay.cons); rfl))); exact hG; exact h2; exact .nil _; intro y2 hy2; refine bF ?_))
 refine az x_ rfl (y1, y2) trivial rfl (.cons _ _ _ _ (.cons _ _ _ _ (.nil R))) pk_ (.cell _ _ _ _ _ rfl mm_ (by kernel_rfl) (by kernel_rfl) (by kernel_rfl)) rfl
theorem rJ (hst : aC G) (lo : Nat) (l : List au) (hb : l.length <= 1048576 /\ ∀ y ∈ l, au.small 1048576 y) : CtM Tryz.prog G 119 [.sl lo 4 (l.map (au.tw lo))] [] (fun y : Pl × List (Pl × Pl) => y.2.length = l.length) (fun y => ae2 l y) (fun y => .ms y.1.1 y.1.2 0 l.length) := by
 refine aB Tryz.func119 rfl Tryz.ntmps119 rfl rfl rfl fun w0 R gs objsR hG hR => ?_
 obtain rfl := hR.inv0
 clear hR
 have hlen := au.len lo l
 have hl1 := hb.1
 have h0 : List.replicate l.length au.tz = nRg iJ (l.take 0) [] ++ List.replicate (l.length - 0) au.tz := by simp [nRg]
 repeat' (first | refine W_ ?_ | (refine gI ?_; intro ss bb))
 generalize ss = so; generalize bb = bo
 apply ai (X := Nat × List (Pl × Pl)) [0, 3, 1000000] (fun x => [(4, .int .i64 (x.1 : Int))]) (fun x => (so, bo, .row 4 (nRg iJ (l.take x.1) x.2 ++ List.replicate (l.length - x.1) au.tz)) :: (nOg kY (l.take x.1) x.2 ++ R)) (fun x => x.1 <= l.length /\ x.2.length = x.1) (fun x => l.length - x.1) (0, []) ⟨Nat.zero_le _, rfl⟩
 exact kp_; exact nw_
 ·rw [<- h0]; exact .refl _
 rintro ⟨i, ps⟩ ⟨hi, hps⟩
 dsimp only at hi hps |-
 by_cases hlt : i < l.length
 ·have hrs := fun p => aai iJ au.tz hlt hps p
  have hos := fun p => wQ kY hlt hps p
  have hra : (l.map (au.tw lo))[i]? = some (l[i].tw lo) := aL hlt
  have hbi := hb.2 _ (List.getElem_mem hlt)
  generalize l[i] = x at hrs hos hra hbi
  have hct := uD hst lo x hbi
  rw [show x.tw lo = [.int .i64 x.kind, .int .i64 x.class_, .sl lo 3 (x.fields.map (ab.tw lo)), .sl lo 1 (aR x.numbers)] from rfl] at hra
  have hrow : (nRg iJ (l.take i) ps ++ List.replicate (l.length - i) au.tz)[i]? = some [.int .i64 0, .int .i64 0, .nils, .nils] := (hrs ((0, 0), (0, 0))).1
  generalize nOg kY (l.take i) ps = T at hos |-
  unfold iJ at hct
  repeat' (first | refine W_ ?_ | ((with_reducible apply aE); rfl; kernel_rfl; (repeat (first | exact ay.nil | ((with_reducible apply ay.cons); rfl))); exact hG; exact hct; exact .nil _; intro y hy; refine bY (uL _ _ _) ?_) | refine bJ ?_)
  refine ah (i + 1, ps ++ [y]) ⟨by dsimp only; omega, by dsimp only; simp [hps]⟩ (by dsimp only; omega) (.of _ nw_ od_ ?_)
  dsimp only
  rw [hos y, <- (hrs y).2]
  exact qE _ _ T R
 ·obtain rfl : i = l.length := by omega
  rw [List.take_of_length_le (Nat.le_refl _), Nat.sub_self, List.replicate_zero, List.append_nil]
  repeat' refine W_ ?_
  exact az x_ rfl ((so, bo), ps) hps rfl (.cons _ _ _ _ (.app _ R)) (.refl _) (.tmp _ _ rfl) rfl
theorem rE (hst : aC G) (lo : Nat) (x : aj) (hb : x.small 1048576) : CtM Tryz.prog G 122 [.agg [.int .i64 x.mark, .int .i64 x.code, .int .i64 x.pc, .int .i64 x.sender, .int .i64 x.outer, .int .i64 x.home, .int .i64 x.self.kind, .int .i64 x.self.number, .str x.self.text, .sl lo 3 (x.slots.map (ab.tw lo)), .sl lo 3 (x.stack.map (ab.tw lo)), .sl lo 3 (x.values.map (ab.tw lo)), .int .i64 x.other, .bool x.retry]] [] (fun _ : Pl × Pl × Pl => True) (fun y => li x y) (fun y => .agg (iI x y)) := by
 refine aB Tryz.func122 rfl Tryz.ntmps122 rfl rfl rfl fun w0 R gs objsR hG hR => ?_
 obtain rfl := hR.inv0
 clear hR
 have h1 := gn hst lo x.slots hb.2.1
 have h2 := gn hst lo x.stack hb.2.2.1
 have h3 := gn hst lo x.values hb.2.2.2
 have hvc := jx hst lo x.self hb.1
 unfold ab.tw at hvc
 unfold li iI
 repeat' (first | refine W_ ?_ | refine aJ ?_ | (refine ak ?_; intro ss bb) | refine ae ?_ | refine ac hG hst (hvc) ?_ | ((with_reducible apply aE); rfl; kernel_rfl; (repeat (first | exact ay.nil | ((with_reducible apply ay.cons); rfl))); exact hG; exact h1; exact .nil _; intro y1 hy1; refine bF ?_) | ((with_reducible apply aE); rfl; kernel_rfl; (repeat (first | exact ay.nil | ((with_reducible apply ay.cons); rfl))); exact hG; exact h2; exact .nil _; intro y2 hy2; refine bF ?_) | ((with_reducible apply aE); rfl; kernel_rfl; (repeat (first | exact ay.nil | ((with_reducible apply ay.cons); rfl))); exact hG; exact h3; exact .nil _; intro y3 hy3; refine bF ?_))
 refine az x_ rfl (y1, y2, y3) trivial rfl (.cons _ _ _ _ (.cons _ _ _ _ (.cons _ _ _ _ (.nil R)))) pk_ (.cell _ _ _ _ _ rfl mm_ (by kernel_rfl) (by kernel_rfl) (by kernel_rfl)) rfl
theorem pz (hst : aC G) (lo : Nat) (l : List aj) (hb : l.length <= 1048576 /\ ∀ y ∈ l, aj.small 1048576 y) : CtM Tryz.prog G 42 [.sl lo 14 (l.map (aj.tw lo))] [] (fun y : Pl × List (Pl × Pl × Pl) => y.2.length = l.length) (fun y => aen l y) (fun y => .ms y.1.1 y.1.2 0 l.length) := by
 refine aB Tryz.func42 rfl Tryz.ntmps42 rfl rfl rfl fun w0 R gs objsR hG hR => ?_
 obtain rfl := hR.inv0
 clear hR
 have hlen := aj.len lo l
 have hl1 := hb.1
 have h0 : List.replicate l.length aj.tz = nRg iI (l.take 0) [] ++ List.replicate (l.length - 0) aj.tz := by simp [nRg]
 repeat' (first | refine W_ ?_ | (refine gI ?_; intro ss bb))
 generalize ss = so; generalize bb = bo
 apply ai (X := Nat × List (Pl × Pl × Pl)) [0, 3, 1000000] (fun x => [(4, .int .i64 (x.1 : Int))]) (fun x => (so, bo, .row 14 (nRg iI (l.take x.1) x.2 ++ List.replicate (l.length - x.1) aj.tz)) :: (nOg li (l.take x.1) x.2 ++ R)) (fun x => x.1 <= l.length /\ x.2.length = x.1) (fun x => l.length - x.1) (0, []) ⟨Nat.zero_le _, rfl⟩
 exact kp_; exact nw_
 ·rw [<- h0]; exact .refl _
 rintro ⟨i, ps⟩ ⟨hi, hps⟩
 dsimp only at hi hps |-
 by_cases hlt : i < l.length
 ·have hrs := fun p => aai iI aj.tz hlt hps p
  have hos := fun p => wQ li hlt hps p
  have hra : (l.map (aj.tw lo))[i]? = some (l[i].tw lo) := aL hlt
  have hbi := hb.2 _ (List.getElem_mem hlt)
  generalize l[i] = x at hrs hos hra hbi
  have hct := rE hst lo x hbi
  rw [show x.tw lo = [.int .i64 x.mark, .int .i64 x.code, .int .i64 x.pc, .int .i64 x.sender, .int .i64 x.outer, .int .i64 x.home, .int .i64 x.self.kind, .int .i64 x.self.number, .str x.self.text, .sl lo 3 (x.slots.map (ab.tw lo)), .sl lo 3 (x.stack.map (ab.tw lo)), .sl lo 3 (x.values.map (ab.tw lo)), .int .i64 x.other, .bool x.retry] from rfl] at hra
  have hrow : (nRg iI (l.take i) ps ++ List.replicate (l.length - i) aj.tz)[i]? = some [.int .i64 0, .int .i64 0, .int .i64 0, .int .i64 0, .int .i64 0, .int .i64 0, .int .i64 0, .int .i64 0, .str ⟨#[]⟩, .nils, .nils, .nils, .int .i64 0, .bool false] := (hrs ((0, 0), (0, 0), (0, 0))).1
  generalize nOg li (l.take i) ps = T at hos |-
  unfold iI at hct
  repeat' (first | refine W_ ?_ | ((with_reducible apply aE); rfl; kernel_rfl; (repeat (first | exact ay.nil | ((with_reducible apply ay.cons); rfl))); exact hG; exact hct; exact .nil _; intro y hy; refine bY (uL _ _ _) ?_) | refine bJ ?_)
  refine ah (i + 1, ps ++ [y]) ⟨by dsimp only; omega, by dsimp only; simp [hps]⟩ (by dsimp only; omega) (.of _ nw_ od_ ?_)
  dsimp only
  rw [hos y, <- (hrs y).2]
  exact qE _ _ T R
 ·obtain rfl : i = l.length := by omega
  rw [List.take_of_length_le (Nat.le_refl _), Nat.sub_self, List.replicate_zero, List.append_nil]
  repeat' refine W_ ?_
  exact az x_ rfl ((so, bo), ps) hps rfl (.cons _ _ _ _ (.app _ R)) (.refl _) (.tmp _ _ rfl) rfl
end
theorem nL (A L R : aF) : ((A ++ L) ++ R).Perm (L ++ (A ++ R)) := by
 rw [List.append_assoc]
 exact List.perm_append_comm_assoc A L R
theorem ab2 (A B C D E F R : aF) : ((A ++ (B ++ (C ++ (D ++ (E ++ F))))) ++ R).Perm (F ++ (E ++ (D ++ (C ++ (B ++ (A ++ R)))))) :=
 (nL A _ R).trans ((nL B _ _).trans ((nL C _ _).trans ((nL D _ _).trans (nL E _ _))))
section
variable {G : World -> Prop}
theorem vm (hst : aC G) (lo : Nat) (x : aQ) (hb : x.small 1048576) : CtM Tryz.prog G 40 [.agg (x.tw lo)] [] (stI x) (stO x) (fun y => .agg (stC x y)) := by
 refine aB Tryz.func40 rfl Tryz.ntmps40 rfl rfl rfl fun w0 R gs objsR hG hR => ?_
 obtain rfl := hR.inv0
 clear hR
 have c1 := iG hst lo x.classes hb.1
 have c2 := rJ hst lo x.objects hb.2.1
 have c3 := kv hst lo x.output hb.2.2.1
 unfold aQ.tw
 repeat' (first | refine W_ ?_ | refine aJ ?_ | (refine ak ?_; intro ss bb) | refine ae ?_ | ((with_reducible apply aE); rfl; kernel_rfl; (repeat (first | exact ay.nil | ((with_reducible apply ay.cons); rfl))); exact hG; (first | exact c1 | exact c2 | exact c3); exact .nil _; intro y hy; refine bY (kD _ _ _ _) ?_))
 rename_i yc hyc yd hyd
 refine az (t1 := .agg [.ms yc.1.1 yc.1.2 0 x.classes.length, .ms yd.1.1 yd.1.2 0 x.objects.length, .ms y.1 y.2 0 x.output.length, .int .i64 x.ticks, .int .i64 x.budget, .int .i64 x.made]) x_ rfl (yc, yd, y) ⟨hyc, hyd⟩ rfl (.app _ R) (.drop (.drop (.perm (vM _ _ _ R)))) (.cell _ _ _ _ _ rfl mm_ (by kernel_rfl) (by kernel_rfl) (by kernel_rfl)) rfl
theorem oW (hst : aC G) (lo : Nat) (x : ao) (hb : x.small 1048576) : CtM Tryz.prog G 10 [.agg (x.tw lo)] [] (imI x) (imO x) (fun y => .agg (imC x y)) := by
 refine aB Tryz.func10 rfl Tryz.ntmps10 rfl rfl rfl fun w0 R gs objsR hG hR => ?_
 obtain rfl := hR.inv0
 clear hR
 have c1 := pM hst lo x.base hb.1
 have c2 := vm hst lo x.store hb.2.1
 have c3 := pV hst lo x.blocks hb.2.2.1
 have c4 := pz hst lo x.contexts hb.2.2.2.1
 have c5 := pJ hst lo x.processes hb.2.2.2.2.1
 have c6 := qU hst lo x.ready hb.2.2.2.2.2.1
 have c7 := jx hst lo x.value hb.2.2.2.2.2.2.1
 unfold aA.tw cbC at c1
 unfold aQ.tw stC at c2
 unfold ab.tw at c7
 unfold ao.tw
 repeat' (first | refine W_ ?_ | refine aJ ?_ | (refine ak ?_; intro ss bb) | refine ae ?_ | refine ac hG hst (c7) ?_ | ((with_reducible apply aE); rfl; kernel_rfl; (repeat (first | exact ay.nil | ((with_reducible apply ay.cons); rfl))); exact hG; (first | exact c1 | exact c2 | exact c3 | exact c4 | exact c5 | exact c6); exact .nil _; intro y hy; refine bY (kD _ _ _ _) ?_))
 rename_i y1 h1 y2 h2 y3 h3 y4 h4 y5 h5
 refine az (t1 := .agg [.ms y1.1.1.1 y1.1.1.2 0 x.base.classes.length, .ms y1.2.1.1.1 y1.2.1.1.2 0 x.base.codes.length, .ms y1.2.2.1 y1.2.2.2 0 x.base.entries.length, .int .i64 x.base.main, .ms y2.1.1.1 y2.1.1.2 0 x.store.classes.length, .ms y2.2.1.1.1 y2.2.1.1.2 0 x.store.objects.length, .ms y2.2.2.1 y2.2.2.2 0 x.store.output.length, .int .i64 x.store.ticks, .int .i64 x.store.budget, .int .i64 x.store.made, .ms y3.1 y3.2 0 x.blocks.length, .ms y4.1.1 y4.1.2 0 x.contexts.length, .ms y5.1 y5.2 0 x.processes.length, .ms y.1 y.2 0 x.ready.length, .int .i64 x.now, .int .i64 x.status, .int .i64 x.value.kind, .int .i64 x.value.number, .str x.value.text, .str x.fault]) x_ rfl (y1, y2, y3, y4, y5, y) ⟨h1, h2, h4⟩ rfl (.app _ R) (.drop (.drop (.perm (ab2 _ _ _ _ _ _ R)))) (.cell _ _ _ _ _ rfl mm_ (by kernel_rfl) (by kernel_rfl) (by kernel_rfl)) rfl
end
theorem aaY {α β : Type} (mk : α -> β -> List TV) {l : List α} {ps : List β} {i : Nat} {p : β} {x : α} (hx : l[i]? = some x) (hp : ps[i]? = some p) : (nRg mk l ps)[i]? = some (mk x p) := by
 unfold nRg
 rw [List.getElem?_zipWith, hx, hp]
theorem abq {α β : Type} (mk : α -> β -> List TV) {l : List α} {ps : List β} {i : Nat} {p : β} {x : α} (hp : ps[i]? = some p) : nRg mk (l.set i x) ps = (nRg mk l ps).set i (mk x p) := nM mk hp
theorem oB {a b : List aF} (h : a.Perm b) : a.flatten.Perm b.flatten := by
 induction h with
 | nil => exact .refl _
 | cons x _ ih => exact ih.append_left x
 | swap x y l => exact List.perm_append_comm_assoc y x l.flatten
 | trans _ _ h1 h2 => exact h1.trans h2
def ngE {α β : Type} (ob : α -> β -> aF) (l : List α) (ps : List β) (i : Nat) : aF := ((List.zipWith ob l ps).eraseIdx i).flatten
theorem vA {α β : Type} (ob : α -> β -> aF) {l : List α} {ps : List β} {i : Nat} {p : β} {x : α} (hx : l[i]? = some x) (hp : ps[i]? = some p) : (nOg ob l ps).Perm (ob x p ++ ngE ob l ps i) := by
 have h := oB (rh (l := List.zipWith ob l ps) (i := i) (x := ob x p) (by rw [List.getElem?_zipWith, hx, hp]))
 simpa [nOg, ngE] using h
theorem ac6 {α β : Type} (ob : α -> β -> aF) {l : List α} {ps : List β} {i : Nat} {p : β} {x : α} (hl : i < l.length) (hp : ps[i]? = some p) : (nOg ob (l.set i x) ps).Perm (ob x p ++ ngE ob l ps i) := by
 have h := vA ob (l := l.set i x) (ps := ps) (i := i) (p := p) (x := x) (by rw [List.getElem?_set_self hl]) hp
 have e : ngE ob (l.set i x) ps i = ngE ob l ps i := by
   unfold ngE
   rw [nM _ hp, n6]
 rw [e] at h
 exact h
theorem adW (A B : List aF) (s : aF) : cZ (s :: (A ++ B)).flatten (A ++ s :: B).flatten := .perm (oB List.perm_middle).symm
theorem zY {a z1 z2 : Nat × Nat × bv} {N E : aF} (h : N.Perm ([z1, z2] ++ E)) (R : aF) : cZ (z1 :: z2 :: a :: (E ++ R)) (a :: (N ++ R)) := .perm (by
 have h1 : (a :: (N ++ R)).Perm (a :: (([z1, z2] ++ E) ++ R)) := (h.append_right R).cons a
 exact (List.perm_middle (l₁ := [z1, z2]) (l₂ := E ++ R) (a := a)).trans h1.symm)
theorem abE {a z1 z2 : Nat × Nat × bv} {N E : aF} (h : N.Perm ([z1, z2] ++ E)) (R : aF) : cZ (a :: (N ++ R)) (z2 :: z1 :: a :: (E ++ R)) := .perm (by
 have h1 : (a :: (N ++ R)).Perm (a :: (([z1, z2] ++ E) ++ R)) := (h.append_right R).cons a
 exact h1.trans ((List.perm_middle (l₁ := [z1, z2]) (l₂ := E ++ R) (a := a)).symm.trans (List.Perm.swap _ _ _)))
theorem zI {a z1 z2 z3 : Nat × Nat × bv} {N E : aF} (h : N.Perm ([z1, z2, z3] ++ E)) (R : aF) : cZ (z1 :: z2 :: z3 :: a :: (E ++ R)) (a :: (N ++ R)) := .perm (by
 have h1 : (a :: (N ++ R)).Perm (a :: (([z1, z2, z3] ++ E) ++ R)) := (h.append_right R).cons a
 exact (List.perm_middle (l₁ := [z1, z2, z3]) (l₂ := E ++ R) (a := a)).trans h1.symm)
theorem ab8 {a z1 z2 z3 : Nat × Nat × bv} {N E : aF} (h : N.Perm ([z1, z2, z3] ++ E)) (R : aF) : cZ (a :: (N ++ R)) (z3 :: z2 :: z1 :: a :: (E ++ R)) := .perm (by
 have h1 : (a :: (N ++ R)).Perm (a :: (([z1, z2, z3] ++ E) ++ R)) := (h.append_right R).cons a
 have h2 : (z3 :: z2 :: z1 :: a :: (E ++ R)).Perm (z1 :: z2 :: z3 :: a :: (E ++ R)) := ((List.Perm.swap z2 z3 _).trans ((List.Perm.swap z1 z3 _).cons z2)).trans ((List.Perm.swap z1 z2 _))
 exact h1.trans ((List.perm_middle (l₁ := [z1, z2, z3]) (l₂ := E ++ R) (a := a)).symm.trans h2.symm))
theorem acs (z1 z2 z3 : Nat × Nat × bv) (R : aF) : cZ (z3 :: z2 :: z1 :: R) (z2 :: z1 :: z3 :: R) := .perm (List.perm_middle (l₁ := [z2, z1]) (l₂ := R) (a := z3)).symm
def oU (k : Int) (_ : Int) : Int := k
def f6 (k : Int) (_ : Int) : Int := k + 1
theorem su (l : List Int) : ∀ x ∈ l, ∀ q, q <= f6 q x /\ f6 q x <= q + (1 : Nat) := fun x _ q => by unfold f6; omega
def ft (k : Int) (_ : ab) : ab := ⟨k, k + 1, jA (k + 1 + 1)⟩
def aP (k : Int) (_ : ab) : Int := k + 1 + 1 + 1
theorem dz (l : List ab) : ∀ x ∈ l, ∀ q, q <= aP q x /\ aP q x <= q + (3 : Nat) := fun x _ q => by unfold aP; omega
def dF (k : Int) (_ : am) : am := ⟨k, k + 1, k + 1 + 1, ⟨k + 1 + 1 + 1, k + 1 + 1 + 1 + 1, jA (k + 1 + 1 + 1 + 1 + 1)⟩⟩
def bj (k : Int) (_ : am) : Int := k + 1 + 1 + 1 + 1 + 1 + 1
theorem iR (l : List am) : ∀ x ∈ l, ∀ q, q <= bj q x /\ bj q x <= q + (6 : Nat) := fun x _ q => by unfold bj; omega
def dH (k : Int) (_ : ap) : ap := ⟨k, decide ((k + 1).tmod 3 = 0)⟩
def bB (k : Int) (_ : ap) : Int := k + 1 + 1
theorem iT (l : List ap) : ∀ x ∈ l, ∀ q, q <= bB q x /\ bB q x <= q + (2 : Nat) := fun x _ q => by unfold bB; omega
def cC (k : Int) (x : au) : au := ⟨k, k + 1, mkL ft aP (k + 1 + 1) x.fields, mkL oU f6 (kL aP (k + 1 + 1) x.fields) x.numbers⟩
def bH (k : Int) (x : au) : Int := kL f6 (kL aP (k + 1 + 1) x.fields) x.numbers
theorem kg {l : List au} (h : ∀ y ∈ l, au.small 1048576 y) : ∀ x ∈ l, ∀ q, q <= bH q x /\ bH q x <= q + (4194306 : Nat) := fun x hx q => by
 have h1 := h x hx
 have h2 := h1.1.1
 have h3 := h1.2
 have h4 := kw (nx := aP) (l := x.fields) (k := q + 1 + 1) (dz _)
 have h5 := kw (nx := f6) (l := x.numbers) (k := kL aP (q + 1 + 1) x.fields) (su _)
 unfold bH
 omega
def k9 (k : Int) : Int := k + 1 + 1 + 1 + 1 + 1 + 1 + 1 + 1 + 1
def bM (k : Int) (x : aj) : aj := ⟨k, k + 1, k + 1 + 1, k + 1 + 1 + 1, k + 1 + 1 + 1 + 1, k + 1 + 1 + 1 + 1 + 1, ⟨k + 1 + 1 + 1 + 1 + 1 + 1, k + 1 + 1 + 1 + 1 + 1 + 1 + 1, jA (k + 1 + 1 + 1 + 1 + 1 + 1 + 1 + 1)⟩, mkL ft aP (k9 k) x.slots, mkL ft aP (kL aP (k9 k) x.slots) x.stack, mkL ft aP (kL aP (kL aP (k9 k) x.slots) x.stack) x.values, kL aP (kL aP (kL aP (k9 k) x.slots) x.stack) x.values, decide ((kL aP (kL aP (kL aP (k9 k) x.slots) x.stack) x.values + 1).tmod 3 = 0)⟩
def bf (k : Int) (x : aj) : Int := kL aP (kL aP (kL aP (k9 k) x.slots) x.stack) x.values + 1 + 1
theorem i8 {l : List aj} (h : ∀ y ∈ l, aj.small 1048576 y) : ∀ x ∈ l, ∀ q, q <= bf q x /\ bf q x <= q + (9437195 : Nat) := fun x hx q => by
 have h1 := h x hx
 have h2 := h1.2.1.1
 have h3 := h1.2.2.1.1
 have h4 := h1.2.2.2.1
 have h5 := kw (nx := aP) (l := x.slots) (k := k9 q) (dz _)
 have h6 := kw (nx := aP) (l := x.stack) (k := kL aP (k9 q) x.slots) (dz _)
 have h7 := kw (nx := aP) (l := x.values) (k := kL aP (kL aP (k9 q) x.slots) x.stack) (dz _)
 have h8 : k9 q = q + 9 := by unfold k9; omega
 unfold bf
 omega
section
variable {G : World -> Prop}
theorem mH (hst : aC G) (s b : Nat) (l : List Int) (k : Int) (hn : l.length <= 1048576) (hk : 0 <= k /\ k <= 1000000000000000) : CtM Tryz.prog G 65 [.ms s b 0 l.length, .int .i64 k] [(s, b, .row 1 (aR (l)))] (fun _ : Unit => True) (fun _ => [(s, b, .row 1 (aR (mkL oU f6 k l)))]) (fun _ => .int .i64 (kL f6 k l)) := by
 refine aB Tryz.func65 rfl Tryz.ntmps65 rfl rfl rfl fun w0 R gs objsR hG hR => ?_
 obtain rfl := hR.inv1
 clear hR
 repeat' refine W_ ?_
 apply ai (X := Nat) [0, 1000000] (fun x => [(5, .int .i64 (x : Int)), (1, .int .i64 (kL f6 k (l.take x)))]) (fun x => (s, b, .row 1 (aR (ptL oU f6 k l x))) :: R) (fun x => x <= l.length) (fun x => l.length - x) 0 (Nat.zero_le _)
 exact kp_; exact nw_
 ·exact .refl _
 intro i hi
 try dsimp only
 have hq := bQ (k := k) (i := i) hn (su l) hi
 by_cases hlt : i < l.length
 ·have hrow : (aR (ptL oU f6 k l i))[i]? = some ((fun n : Int => [TV.int .i64 n]) l[i]) := by
    simp only [aR, List.getElem?_map, dT hlt]; rfl
  have hset : (aR (ptL oU f6 k l i)).set i ((fun n : Int => [TV.int .i64 n]) (oU (kL f6 k (l.take i)) l[i])) = aR (ptL oU f6 k l (i + 1)) := by
    rw [<- fN hlt]; simp [aR, List.map_set]
  have hks := fq (nx := f6) (k := k) hlt
  have hrl : (aR (ptL oU f6 k l i)).length = l.length := by simp [aR, cS hi]
  generalize aR (ptL oU f6 k l i) = rows at hrow hset hrl |-
  generalize kL f6 k (l.take i) = q at hq hset hks |-
  generalize l[i] = x at hrow hset hks
  replace hrow : rows[i]? = some [.int .i64 x] := hrow
  have hks2 : kL f6 k (l.take (i + 1)) = q + 1 := hks
  repeat' (first | refine W_ ?_ | refine bJ ?_)
  refine ah (i + 1) (by omega) (by omega) (.of _ (bX.envCons rfl (bX.envCons (gO rfl (by rw [hks2])) bX.envNil)) od_ ?_)
  rw [<- hset]
  (try simp only [List.set_set])
  exact .refl _
 ·obtain rfl : i = l.length := by omega
  rw [ep, List.take_length]
  repeat' refine W_ ?_
  exact az x_ rfl () trivial rfl (.cons _ _ _ _ (.nil R)) pk_ (.tmp _ _ rfl) rfl
theorem fa (hst : aC G) (s b : Nat) (l : List ab) (k : Int) (hn : l.length <= 1048576) (hk : 0 <= k /\ k <= 1000000000000000) : CtM Tryz.prog G 139 [.ms s b 0 l.length, .int .i64 k] [(s, b, .row 3 ((l).map (ab.tw 0)))] (fun _ : Unit => True) (fun _ => [(s, b, .row 3 ((mkL ft aP k l).map (ab.tw 0)))]) (fun _ => .int .i64 (kL aP k l)) := by
 refine aB Tryz.func139 rfl Tryz.ntmps139 rfl rfl rfl fun w0 R gs objsR hG hR => ?_
 obtain rfl := hR.inv1
 clear hR
 repeat' refine W_ ?_
 apply ai (X := Nat) [0, 1000000] (fun x => [(5, .int .i64 (x : Int)), (1, .int .i64 (kL aP k (l.take x)))]) (fun x => (s, b, .row 3 ((ptL ft aP k l x).map (ab.tw 0))) :: R) (fun x => x <= l.length) (fun x => l.length - x) 0 (Nat.zero_le _)
 exact kp_; exact nw_
 ·exact .refl _
 intro i hi
 try dsimp only
 have hq := bQ (k := k) (i := i) hn (dz l) hi
 by_cases hlt : i < l.length
 ·have hrow : ((ptL ft aP k l i).map (ab.tw 0))[i]? = some ((ab.tw 0) l[i]) := by
    simp only [aR, List.getElem?_map, dT hlt]; rfl
  have hset : ((ptL ft aP k l i).map (ab.tw 0)).set i ((ab.tw 0) (ft (kL aP k (l.take i)) l[i])) = (ptL ft aP k l (i + 1)).map (ab.tw 0) := by
    rw [<- fN hlt]; rw [List.map_set]
  have hks := fq (nx := aP) (k := k) hlt
  have hrl : ((ptL ft aP k l i).map (ab.tw 0)).length = l.length := by simp [aR, cS hi]
  generalize (ptL ft aP k l i).map (ab.tw 0) = rows at hrow hset hrl |-
  generalize kL aP k (l.take i) = q at hq hset hks |-
  generalize l[i] = x at hrow hset hks
  replace hrow : rows[i]? = some [.int .i64 x.kind, .int .i64 x.number, .str x.text] := hrow
  have hr1 : (rows.set i [.int .i64 q, .int .i64 x.number, .str x.text])[i]? = some [.int .i64 q, .int .i64 x.number, .str x.text] := by rw [List.getElem?_set_self (by omega)]
  have hks2 : kL aP k (l.take (i + 1)) = q + 1 + 1 + 1 := hks
  repeat' (first | refine W_ ?_ | refine bJ ?_ | ((with_reducible apply mD); rfl; kernel_rfl; (repeat (first | exact dg.nil | ((with_reducible apply dg.cons); rfl; exact .same _))); exact hG; exact hst; exact du _ (by omega) (by omega)))
  refine ah (i + 1) (by omega) (by omega) (.of _ (bX.envCons rfl (bX.envCons (gO rfl (by rw [hks2])) bX.envNil)) od_ ?_)
  rw [<- hset]
  (try simp only [List.set_set])
  exact .refl _
 ·obtain rfl : i = l.length := by omega
  rw [ep, List.take_length]
  repeat' refine W_ ?_
  exact az x_ rfl () trivial rfl (.cons _ _ _ _ (.nil R)) pk_ (.tmp _ _ rfl) rfl
theorem nk (hst : aC G) (s b : Nat) (l : List am) (k : Int) (hn : l.length <= 1048576) (hk : 0 <= k /\ k <= 1000000000000000) : CtM Tryz.prog G 62 [.ms s b 0 l.length, .int .i64 k] [(s, b, .row 6 ((l).map (am.tw 0)))] (fun _ : Unit => True) (fun _ => [(s, b, .row 6 ((mkL dF bj k l).map (am.tw 0)))]) (fun _ => .int .i64 (kL bj k l)) := by
 refine aB Tryz.func62 rfl Tryz.ntmps62 rfl rfl rfl fun w0 R gs objsR hG hR => ?_
 obtain rfl := hR.inv1
 clear hR
 repeat' refine W_ ?_
 apply ai (X := Nat) [0, 1000000] (fun x => [(5, .int .i64 (x : Int)), (1, .int .i64 (kL bj k (l.take x)))]) (fun x => (s, b, .row 6 ((ptL dF bj k l x).map (am.tw 0))) :: R) (fun x => x <= l.length) (fun x => l.length - x) 0 (Nat.zero_le _)
 exact kp_; exact nw_
 ·exact .refl _
 intro i hi
 try dsimp only
 have hq := bQ (k := k) (i := i) hn (iR l) hi
 by_cases hlt : i < l.length
 ·have hrow : ((ptL dF bj k l i).map (am.tw 0))[i]? = some ((am.tw 0) l[i]) := by
    simp only [aR, List.getElem?_map, dT hlt]; rfl
  have hset : ((ptL dF bj k l i).map (am.tw 0)).set i ((am.tw 0) (dF (kL bj k (l.take i)) l[i])) = (ptL dF bj k l (i + 1)).map (am.tw 0) := by
    rw [<- fN hlt]; rw [List.map_set]
  have hks := fq (nx := bj) (k := k) hlt
  have hrl : ((ptL dF bj k l i).map (am.tw 0)).length = l.length := by simp [aR, cS hi]
  generalize (ptL dF bj k l i).map (am.tw 0) = rows at hrow hset hrl |-
  generalize kL bj k (l.take i) = q at hq hset hks |-
  generalize l[i] = x at hrow hset hks
  replace hrow : rows[i]? = some [.int .i64 x.code, .int .i64 x.outer, .int .i64 x.home, .int .i64 x.self.kind, .int .i64 x.self.number, .str x.self.text] := hrow
  have hr1 : (rows.set i [.int .i64 q, .int .i64 x.outer, .int .i64 x.home, .int .i64 x.self.kind, .int .i64 x.self.number, .str x.self.text])[i]? = some [.int .i64 q, .int .i64 x.outer, .int .i64 x.home, .int .i64 x.self.kind, .int .i64 x.self.number, .str x.self.text] := by rw [List.getElem?_set_self (by omega)]
  have hks2 : kL bj k (l.take (i + 1)) = q + 1 + 1 + 1 + 1 + 1 + 1 := hks
  repeat' (first | refine W_ ?_ | refine bJ ?_ | ((with_reducible apply mD); rfl; kernel_rfl; (repeat (first | exact dg.nil | ((with_reducible apply dg.cons); rfl; exact .same _))); exact hG; exact hst; exact du _ (by omega) (by omega)))
  refine ah (i + 1) (by omega) (by omega) (.of _ (bX.envCons rfl (bX.envCons (gO rfl (by rw [hks2])) bX.envNil)) od_ ?_)
  rw [<- hset]
  (try simp only [List.set_set])
  exact .refl _
 ·obtain rfl : i = l.length := by omega
  rw [ep, List.take_length]
  repeat' refine W_ ?_
  exact az x_ rfl () trivial rfl (.cons _ _ _ _ (.nil R)) pk_ (.tmp _ _ rfl) rfl
theorem mY (hst : aC G) (s b : Nat) (l : List ap) (k : Int) (hn : l.length <= 1048576) (hk : 0 <= k /\ k <= 1000000000000000) : CtM Tryz.prog G 64 [.ms s b 0 l.length, .int .i64 k] [(s, b, .row 2 ((l).map (ap.tw 0)))] (fun _ : Unit => True) (fun _ => [(s, b, .row 2 ((mkL dH bB k l).map (ap.tw 0)))]) (fun _ => .int .i64 (kL bB k l)) := by
 refine aB Tryz.func64 rfl Tryz.ntmps64 rfl rfl rfl fun w0 R gs objsR hG hR => ?_
 obtain rfl := hR.inv1
 clear hR
 repeat' refine W_ ?_
 apply ai (X := Nat) [0, 1000000] (fun x => [(5, .int .i64 (x : Int)), (1, .int .i64 (kL bB k (l.take x)))]) (fun x => (s, b, .row 2 ((ptL dH bB k l x).map (ap.tw 0))) :: R) (fun x => x <= l.length) (fun x => l.length - x) 0 (Nat.zero_le _)
 exact kp_; exact nw_
 ·exact .refl _
 intro i hi
 try dsimp only
 have hq := bQ (k := k) (i := i) hn (iT l) hi
 by_cases hlt : i < l.length
 ·have hrow : ((ptL dH bB k l i).map (ap.tw 0))[i]? = some ((ap.tw 0) l[i]) := by
    simp only [aR, List.getElem?_map, dT hlt]; rfl
  have hset : ((ptL dH bB k l i).map (ap.tw 0)).set i ((ap.tw 0) (dH (kL bB k (l.take i)) l[i])) = (ptL dH bB k l (i + 1)).map (ap.tw 0) := by
    rw [<- fN hlt]; rw [List.map_set]
  have hks := fq (nx := bB) (k := k) hlt
  have hrl : ((ptL dH bB k l i).map (ap.tw 0)).length = l.length := by simp [aR, cS hi]
  generalize (ptL dH bB k l i).map (ap.tw 0) = rows at hrow hset hrl |-
  generalize kL bB k (l.take i) = q at hq hset hks |-
  generalize l[i] = x at hrow hset hks
  replace hrow : rows[i]? = some [.int .i64 x.at_, .bool x.main] := hrow
  have hr1 : (rows.set i [.int .i64 q, .bool x.main])[i]? = some [.int .i64 q, .bool x.main] := by rw [List.getElem?_set_self (by omega)]
  have hks2 : kL bB k (l.take (i + 1)) = q + 1 + 1 := hks
  repeat' (first | refine W_ ?_ | refine bJ ?_)
  refine ah (i + 1) (by omega) (by omega) (.of _ (bX.envCons rfl (bX.envCons (gO rfl (by rw [hks2])) bX.envNil)) od_ ?_)
  rw [<- hset]
  (try simp only [List.set_set])
  exact .refl _
 ·obtain rfl : i = l.length := by omega
  rw [ep, List.take_length]
  repeat' refine W_ ?_
  exact az x_ rfl () trivial rfl (.cons _ _ _ _ (.nil R)) pk_ (.tmp _ _ rfl) rfl
theorem oL (hst : aC G) (s b : Nat) (l : List au) (ps : List (Pl × Pl)) (hps : ps.length = l.length) (k : Int) (hn : l.length <= 1048576 /\ ∀ y ∈ l, au.small 1048576 y) (hk : 0 <= k /\ k <= 100000000000000) :
   CtM Tryz.prog G 138 [.ms s b 0 l.length, .int .i64 k] ((s, b, .row 4 (nRg iJ l ps)) :: nOg kY l ps) (fun _ : Unit => True) (fun _ => (s, b, .row 4 (nRg iJ (mkL cC bH k l) ps)) :: nOg kY (mkL cC bH k l) ps) (fun _ => .int .i64 (kL bH k l)) := by
 refine aB Tryz.func138 rfl Tryz.ntmps138 rfl rfl rfl fun w0 R gs objsR hG hR => ?_
 obtain rfl := hR.eq
 clear hR
 obtain ⟨hn, hsm⟩ := hn
 repeat' refine W_ ?_
 apply ai (X := Nat) [0, 1000000] (fun x => [(5, .int .i64 (x : Int)), (1, .int .i64 (kL bH k (l.take x)))]) (fun x => (s, b, .row 4 (nRg iJ (ptL cC bH k l x) ps)) :: (nOg kY (ptL cC bH k l x) ps ++ R)) (fun x => x <= l.length) (fun x => l.length - x) 0 (Nat.zero_le _)
 exact kp_; exact nw_
 ·exact .refl _
 intro i hi
 try dsimp only
 have hq := bQ (k := k) (i := i) hn (kg hsm) hi
 by_cases hlt : i < l.length
 ·obtain ⟨p, hp⟩ : ∃ p, ps[i]? = some p := ⟨_, List.getElem?_eq_getElem (by omega)⟩
  have hpl : i < (ptL cC bH k l i).length := by rw [cS hi]; exact hlt
  have hrow := aaY iJ (dT (mk := cC) (nx := bH) (k := k) hlt) hp
  have hset := abq iJ (l := ptL cC bH k l i) (x := cC (kL bH k (l.take i)) l[i]) hp
  have hout := vA kY (dT (mk := cC) (nx := bH) (k := k) hlt) hp
  have hin := ac6 kY (x := cC (kL bH k (l.take i)) l[i]) hpl hp
  rw [fN hlt] at hset hin
  have hks := fq (nx := bH) (k := k) hlt
  have hrl : (nRg iJ (ptL cC bH k l i) ps).length = l.length := by rw [vK _ (by rw [cS hi]; exact hps), cS hi]
  have hb := hsm _ (List.getElem_mem hlt)
  generalize ngE kY (ptL cC bH k l i) ps i = E at hout hin
  generalize nOg kY (ptL cC bH k l i) ps = N0 at hout |-
  generalize nRg iJ (ptL cC bH k l i) ps = rows at hrow hset hrl |-
  generalize kL bH k (l.take i) = q at hq hset hks hin |-
  generalize l[i] = x at hrow hset hks hout hin hb
  replace hrow : rows[i]? = some [.int .i64 x.kind, .int .i64 x.class_, .ms p.1.1 p.1.2 0 x.fields.length, .ms p.2.1 p.2.2 0 x.numbers.length] := hrow
  have hr1 : (rows.set i [.int .i64 q, .int .i64 x.class_, .ms p.1.1 p.1.2 0 x.fields.length, .ms p.2.1 p.2.2 0 x.numbers.length])[i]? = some [.int .i64 q, .int .i64 x.class_, .ms p.1.1 p.1.2 0 x.fields.length, .ms p.2.1 p.2.2 0 x.numbers.length] := by rw [List.getElem?_set_self (by omega)]
  have hk1 := kw (nx := aP) (l := x.fields) (k := q + 1 + 1) (dz _)
  have hf1 := hb.1.1
  have hct1 := fa hst p.1.1 p.1.2 x.fields (q + 1 + 1) hb.1.1 (by omega)
  have hct2 := mH hst p.2.1 p.2.2 x.numbers (kL aP (q + 1 + 1) x.fields) hb.2 (by omega)
  repeat' (first | refine W_ ?_ | refine bJ ?_)
  refine mc (zY hout R) ?_
  repeat' (first | refine W_ ?_ | ((with_reducible apply aE); rfl; kernel_rfl; (repeat (first | exact ay.nil | ((with_reducible apply ay.cons); rfl))); exact hG; exact hct1; exact .cons _ _ _ _ (.nil _); intro y hy; refine bF ?_; refine bY (.perm (List.Perm.swap _ _ _)) ?_) | ((with_reducible apply aE); rfl; kernel_rfl; (repeat (first | exact ay.nil | ((with_reducible apply ay.cons); rfl))); exact hG; exact hct2; exact .cons _ _ _ _ (.nil _); intro y hy; refine bF ?_))
  refine ah (i + 1) (by omega) (by omega) (.of _ (bX.envCons rfl (bX.envCons (gO rfl (by rw [hks]; rfl)) bX.envNil)) od_ ?_)
  rw [hset]
  simp only [List.set_set]
  have hcl : iJ (cC q x) p = [.int .i64 q, .int .i64 (q + 1), .ms p.1.1 p.1.2 0 x.fields.length, .ms p.2.1 p.2.2 0 x.numbers.length] := by
    unfold iJ cC
    dsimp only
    rw [dn, dn]
  rw [hcl]
  exact abE hin R
 ·obtain rfl : i = l.length := by omega
  rw [ep, List.take_length]
  repeat' refine W_ ?_
  exact az x_ rfl () trivial rfl (.cons _ _ _ _ (.app _ R)) (.refl _) (.tmp _ _ rfl) rfl
theorem nl (hst : aC G) (s b : Nat) (l : List aj) (ps : List (Pl × Pl × Pl)) (hps : ps.length = l.length) (k : Int) (hn : l.length <= 1048576 /\ ∀ y ∈ l, aj.small 1048576 y) (hk : 0 <= k /\ k <= 100000000000000) :
   CtM Tryz.prog G 63 [.ms s b 0 l.length, .int .i64 k] ((s, b, .row 14 (nRg iI l ps)) :: nOg li l ps) (fun _ : Unit => True) (fun _ => (s, b, .row 14 (nRg iI (mkL bM bf k l) ps)) :: nOg li (mkL bM bf k l) ps) (fun _ => .int .i64 (kL bf k l)) := by
 refine aB Tryz.func63 rfl Tryz.ntmps63 rfl rfl rfl fun w0 R gs objsR hG hR => ?_
 obtain rfl := hR.eq
 clear hR
 obtain ⟨hn, hsm⟩ := hn
 repeat' refine W_ ?_
 apply ai (X := Nat) [0, 1000000] (fun x => [(5, .int .i64 (x : Int)), (1, .int .i64 (kL bf k (l.take x)))]) (fun x => (s, b, .row 14 (nRg iI (ptL bM bf k l x) ps)) :: (nOg li (ptL bM bf k l x) ps ++ R)) (fun x => x <= l.length) (fun x => l.length - x) 0 (Nat.zero_le _)
 exact kp_; exact nw_
 ·exact .refl _
 intro i hi
 try dsimp only
 have hq := bQ (k := k) (i := i) hn (i8 hsm) hi
 by_cases hlt : i < l.length
 ·obtain ⟨p, hp⟩ : ∃ p, ps[i]? = some p := ⟨_, List.getElem?_eq_getElem (by omega)⟩
  have hpl : i < (ptL bM bf k l i).length := by rw [cS hi]; exact hlt
  have hrow := aaY iI (dT (mk := bM) (nx := bf) (k := k) hlt) hp
  have hset := abq iI (l := ptL bM bf k l i) (x := bM (kL bf k (l.take i)) l[i]) hp
  have hout := vA li (dT (mk := bM) (nx := bf) (k := k) hlt) hp
  have hin := ac6 li (x := bM (kL bf k (l.take i)) l[i]) hpl hp
  rw [fN hlt] at hset hin
  have hks := fq (nx := bf) (k := k) hlt
  have hrl : (nRg iI (ptL bM bf k l i) ps).length = l.length := by rw [vK _ (by rw [cS hi]; exact hps), cS hi]
  have hb := hsm _ (List.getElem_mem hlt)
  generalize ngE li (ptL bM bf k l i) ps i = E at hout hin
  generalize nOg li (ptL bM bf k l i) ps = N0 at hout |-
  generalize nRg iI (ptL bM bf k l i) ps = rows at hrow hset hrl |-
  generalize kL bf k (l.take i) = q at hq hset hks hin |-
  generalize l[i] = x at hrow hset hks hout hin hb
  replace hrow : rows[i]? = some [.int .i64 x.mark, .int .i64 x.code, .int .i64 x.pc, .int .i64 x.sender, .int .i64 x.outer, .int .i64 x.home, .int .i64 x.self.kind, .int .i64 x.self.number, .str x.self.text, .ms p.1.1 p.1.2 0 x.slots.length, .ms p.2.1.1 p.2.1.2 0 x.stack.length, .ms p.2.2.1 p.2.2.2 0 x.values.length, .int .i64 x.other, .bool x.retry] := hrow
  have hr1 : (rows.set i [.int .i64 q, .int .i64 x.code, .int .i64 x.pc, .int .i64 x.sender, .int .i64 x.outer, .int .i64 x.home, .int .i64 x.self.kind, .int .i64 x.self.number, .str x.self.text, .ms p.1.1 p.1.2 0 x.slots.length, .ms p.2.1.1 p.2.1.2 0 x.stack.length, .ms p.2.2.1 p.2.2.2 0 x.values.length, .int .i64 x.other, .bool x.retry])[i]? = some [.int .i64 q, .int .i64 x.code, .int .i64 x.pc, .int .i64 x.sender, .int .i64 x.outer, .int .i64 x.home, .int .i64 x.self.kind, .int .i64 x.self.number, .str x.self.text, .ms p.1.1 p.1.2 0 x.slots.length, .ms p.2.1.1 p.2.1.2 0 x.stack.length, .ms p.2.2.1 p.2.2.2 0 x.values.length, .int .i64 x.other, .bool x.retry] := by rw [List.getElem?_set_self (by omega)]
  have hk0 : k9 q = q + 9 := by unfold k9; omega
  have hk1 := kw (nx := aP) (l := x.slots) (k := k9 q) (dz _)
  have hk2 := kw (nx := aP) (l := x.stack) (k := kL aP (k9 q) x.slots) (dz _)
  have hk3 := kw (nx := aP) (l := x.values) (k := kL aP (kL aP (k9 q) x.slots) x.stack) (dz _)
  have hf1 := hb.2.1.1
  have hf2 := hb.2.2.1.1
  have hf3 := hb.2.2.2.1
  have hct1 := fa hst p.1.1 p.1.2 x.slots (k9 q) hf1 (by omega)
  have hct2 := fa hst p.2.1.1 p.2.1.2 x.stack (kL aP (k9 q) x.slots) hf2 (by omega)
  have hct3 := fa hst p.2.2.1 p.2.2.2 x.values (kL aP (kL aP (k9 q) x.slots) x.stack) hf3 (by omega)
  rw [show k9 q = q + 1 + 1 + 1 + 1 + 1 + 1 + 1 + 1 + 1 from rfl] at hct1
  repeat' (first | refine W_ ?_ | refine bJ ?_ | ((with_reducible apply mD); rfl; kernel_rfl; (repeat (first | exact dg.nil | ((with_reducible apply dg.cons); rfl; exact .same _))); exact hG; exact hst; exact du _ (by omega) (by omega)))
  refine mc (zI hout R) ?_
  repeat' (first | refine W_ ?_ | refine bJ ?_ | ((with_reducible apply aE); rfl; kernel_rfl; (repeat (first | exact ay.nil | ((with_reducible apply ay.cons); rfl))); exact hG; exact hct1; exact .cons _ _ _ _ (.nil _); intro y hy; refine bF ?_; refine bY (.perm (List.Perm.swap _ _ _)) ?_) | ((with_reducible apply aE); rfl; kernel_rfl; (repeat (first | exact ay.nil | ((with_reducible apply ay.cons); rfl))); exact hG; exact hct2; exact .cons _ _ _ _ (.nil _); intro y hy; refine bF ?_; refine bY (acs _ _ _ _) ?_) | ((with_reducible apply aE); rfl; kernel_rfl; (repeat (first | exact ay.nil | ((with_reducible apply ay.cons); rfl))); exact hG; exact hct3; exact .cons _ _ _ _ (.nil _); intro y hy; refine bF ?_))
  refine ah (i + 1) (by omega) (by omega) (.of _ (bX.envCons rfl (bX.envCons (gO rfl (by rw [hks]; rfl)) bX.envNil)) od_ ?_)
  rw [hset]
  simp only [List.set_set]
  have hcl : iI (bM q x) p = [.int .i64 q, .int .i64 (q + 1), .int .i64 (q + 1 + 1), .int .i64 (q + 1 + 1 + 1), .int .i64 (q + 1 + 1 + 1 + 1), .int .i64 (q + 1 + 1 + 1 + 1 + 1), .int .i64 (q + 1 + 1 + 1 + 1 + 1 + 1), .int .i64 (q + 1 + 1 + 1 + 1 + 1 + 1 + 1), .str (jA (q + 1 + 1 + 1 + 1 + 1 + 1 + 1 + 1)), .ms p.1.1 p.1.2 0 x.slots.length, .ms p.2.1.1 p.2.1.2 0 x.stack.length, .ms p.2.2.1 p.2.2.2 0 x.values.length, .int .i64 (kL aP (kL aP (kL aP (k9 q) x.slots) x.stack) x.values), .bool (decide ((kL aP (kL aP (kL aP (k9 q) x.slots) x.stack) x.values + 1).tmod 3 = 0))] := by
    unfold iI bM
    dsimp only
    rw [dn, dn, dn]
  rw [hcl]
  exact ab8 hin R
 ·obtain rfl : i = l.length := by omega
  rw [ep, List.take_length]
  repeat' refine W_ ?_
  exact az x_ rfl () trivial rfl (.cons _ _ _ _ (.app _ R)) (.refl _) (.tmp _ _ rfl) rfl
end
theorem acA (X Y Z D R : aF) : cZ (D ++ (X ++ (Y ++ (Z ++ R)))) (X ++ (Y ++ (Z ++ (D ++ R)))) := by
 simpa using adW [X, Y, Z] [R] D
theorem ack (W X Y Z D R : aF) : cZ (D ++ (W ++ (X ++ (Y ++ (Z ++ R))))) (W ++ (X ++ (Y ++ (Z ++ (D ++ R))))) := by
 simpa using adW [W, X, Y, Z] [R] D
theorem ab6 (V W X Y Z D R : aF) : cZ (D ++ (V ++ (W ++ (X ++ (Y ++ (Z ++ R)))))) (V ++ (W ++ (X ++ (Y ++ (Z ++ (D ++ R)))))) := by
 simpa using adW [V, W, X, Y, Z] [R] D
theorem aca (A B C D E F R : aF) : cZ (A ++ (B ++ (C ++ (D ++ (E ++ (F ++ R)))))) (F ++ (E ++ (D ++ (C ++ (A ++ (B ++ R)))))) := .perm (by
 have h1 : [F, E, D, C, B, A].Perm [A, B, C, D, E, F] := (List.reverse_perm [A, B, C, D, E, F])
 have h2 : [F, E, D, C, A, B].Perm [F, E, D, C, B, A] := ((((List.Perm.swap B A []).cons C).cons D).cons E).cons F
 have h3 := (oB (h2.trans h1)).append_right R
 simpa [List.append_assoc] using h3.symm)
def jU (k : Int) (x : aQ) : aQ := ⟨mkL br aH k x.classes, mkL cC bH (kL aH k x.classes) x.objects, mkL cu aZ (kL bH (kL aH k x.classes) x.objects) x.output, x.ticks, x.budget, x.made⟩
def dS (k : Int) (x : aQ) : Int := kL aZ (kL bH (kL aH k x.classes) x.objects) x.output
theorem qZ {x : aQ} (hb : x.small 1048576) (k : Int) : k <= dS k x /\ dS k x <= k + 6000000000000 := by
 have h1 := bQ (k := k) (i := x.classes.length) hb.1.1 (dL hb.1.2) (Nat.le_refl _)
 have h2 := bQ (k := kL aH k x.classes) (i := x.objects.length) hb.2.1.1 (kg hb.2.1.2) (Nat.le_refl _)
 have h3 := bQ (k := kL bH (kL aH k x.classes) x.objects) (i := x.output.length) hb.2.2.1 (fJ x.output) (Nat.le_refl _)
 rw [List.take_length] at h1 h2 h3
 unfold dS
 omega
section
variable {G : World -> Prop}
theorem ri (hst : aC G) (x : aQ) (y : StP) (hy : stI x y) (hb : x.small 1048576) (k : Int) (hk : 0 <= k /\ k <= 60000000000000) :
   CtM Tryz.prog G 61 [.agg (stC x y), .int .i64 k] (stO x y) (fun _ : Unit => True) (fun _ => stO (jU k x) y) (fun _ => .int .i64 (dS k x)) := by
 refine aB Tryz.func61 rfl Tryz.ntmps61 rfl rfl rfl fun w0 R gs objsR hG hR => ?_
 obtain rfl := hR.eq
 clear hR
 have h1 := bQ (k := k) (i := x.classes.length) hb.1.1 (dL hb.1.2) (Nat.le_refl _)
 have h2 := bQ (k := kL aH k x.classes) (i := x.objects.length) hb.2.1.1 (kg hb.2.1.2) (Nat.le_refl _)
 rw [List.take_length] at h1 h2
 have c1 := gf hst y.1.1.1 y.1.1.2 x.classes y.1.2 hy.1 k hb.1 (by omega)
 have c2 := oL hst y.2.1.1.1 y.2.1.1.2 x.objects y.2.1.2 hy.2 (kL aH k x.classes) hb.2.1 (by omega)
 have c3 := iN hst y.2.2.1 y.2.2.2 x.output (kL bH (kL aH k x.classes) x.objects) hb.2.2.1 (by omega)
 have e0 : stO x y ++ R = aek x.classes y.1 ++ (ae2 x.objects y.2.1 ++ ([(y.2.2.1, y.2.2.2, .row 1 (aT x.output))] ++ R)) := by unfold stO; simp [List.append_assoc]
 have e1 : stO (jU k x) y ++ R = aek (jU k x).classes y.1 ++ (ae2 (jU k x).objects y.2.1 ++ ([(y.2.2.1, y.2.2.2, .row 1 (aT (jU k x).output))] ++ R)) := by unfold stO; simp [List.append_assoc]
 rw [e0]
 generalize hz1 : [(y.2.2.1, y.2.2.2, bv.row 1 (aT x.output))] = z1 at c3 |-
 unfold stC
 repeat' (first | refine W_ ?_ | refine aJ ?_ | ((with_reducible apply aE); rfl; kernel_rfl; (repeat (first | exact ay.nil | ((with_reducible apply ay.cons); rfl))); exact hG; exact c1; exact .app _ _; intro z hz; refine bY (sc _ _ _) ?_) | ((with_reducible apply aE); rfl; kernel_rfl; (repeat (first | exact ay.nil | ((with_reducible apply ay.cons); rfl))); exact hG; exact c2; exact .app _ _; intro z hz; refine bY (rn _ _ _ _) ?_) | ((with_reducible apply aE); rfl; kernel_rfl; (repeat (first | exact ay.nil | ((with_reducible apply ay.cons); rfl))); exact hG; exact c3; exact .app _ _; intro z hz))
 refine az x_ rfl () trivial rfl (.app _ R) ?_ (.tmp _ _ rfl) rfl
 rw [e1]
 exact qB _ _ _ R
def abu (k : Int) (x : ao) : ao := ⟨eJ k x.base, jU (bw k x.base) x.store,
 mkL dF bj (dS (bw k x.base) x.store) x.blocks,
 mkL bM bf (kL bj (dS (bw k x.base) x.store) x.blocks) x.contexts,
 mkL dH bB (kL bf (kL bj (dS (bw k x.base) x.store) x.blocks) x.contexts) x.processes,
 mkL oU f6 (kL bB (kL bf (kL bj (dS (bw k x.base) x.store) x.blocks) x.contexts) x.processes) x.ready,
 x.now, x.status, x.value, x.fault⟩
def oV (k : Int) (x : ao) : Int := kL f6 (kL bB (kL bf (kL bj (dS (bw k x.base) x.store) x.blocks) x.contexts) x.processes) x.ready
theorem x3 {x : ao} (hb : x.small 1048576) (k : Int) : k <= oV k x /\ oV k x <= k + 30000000000000 := by
 have h1 := kN hb.1 k
 have h2 := qZ hb.2.1 (bw k x.base)
 unfold oV
 generalize dS (bw k x.base) x.store = q2 at h2 |-
 have h3 := bQ (k := q2) (i := x.blocks.length) hb.2.2.1.1 (iR x.blocks) (Nat.le_refl _)
 rw [List.take_length] at h3
 generalize kL bj q2 x.blocks = q3 at h3 |-
 have h4 := bQ (k := q3) (i := x.contexts.length) hb.2.2.2.1.1 (i8 hb.2.2.2.1.2) (Nat.le_refl _)
 rw [List.take_length] at h4
 generalize kL bf q3 x.contexts = q4 at h4 |-
 have h5 := bQ (k := q4) (i := x.processes.length) hb.2.2.2.2.1.1 (iT x.processes) (Nat.le_refl _)
 rw [List.take_length] at h5
 generalize kL bB q4 x.processes = q5 at h5 |-
 have h6 := bQ (k := q5) (i := x.ready.length) hb.2.2.2.2.2.1 (su x.ready) (Nat.le_refl _)
 rw [List.take_length] at h6
 omega
theorem rd (hst : aC G) (x : ao) (y : sx) (hy : imI x y) (hb : x.small 1048576) (k : Int) (hk : 0 <= k /\ k <= 50000000000000) :
   CtM Tryz.prog G 13 [.agg (imC x y), .int .i64 k] (imO x y) (fun _ : Unit => True) (fun _ => imO (abu k x) y) (fun _ => .int .i64 (oV k x)) := by
 refine aB Tryz.func13 rfl Tryz.ntmps13 rfl rfl rfl fun w0 R gs objsR hG hR => ?_
 obtain rfl := hR.eq
 clear hR
 have h1 := kN hb.1 k
 have h2 := qZ hb.2.1 (bw k x.base)
 have hm : imO (abu k x) y = cbO (eJ k x.base) y.1 ++ (stO (jU (bw k x.base) x.store) y.2.1 ++ ([(y.2.2.1.1, y.2.2.1.2, .row 6 ((mkL dF bj (dS (bw k x.base) x.store) x.blocks).map (am.tw 0)))] ++ (aen (mkL bM bf (kL bj (dS (bw k x.base) x.store) x.blocks) x.contexts) y.2.2.2.1 ++ ([(y.2.2.2.2.1.1, y.2.2.2.2.1.2, .row 2 ((mkL dH bB (kL bf (kL bj (dS (bw k x.base) x.store) x.blocks) x.contexts) x.processes).map (ap.tw 0)))] ++ [(y.2.2.2.2.2.1, y.2.2.2.2.2.2, .row 1 (aR (mkL oU f6 (kL bB (kL bf (kL bj (dS (bw k x.base) x.store) x.blocks) x.contexts) x.processes) x.ready)))])))) := rfl
 rw [hm]
 unfold oV
 have c1 := nd hst x.base y.1 hy.1 hb.1 k (by omega)
 have c2 := ri hst x.store y.2.1 hy.2.1 hb.2.1 (bw k x.base) (by omega)
 generalize dS (bw k x.base) x.store = q2 at h2 c2 |-
 have h3 := bQ (k := q2) (i := x.blocks.length) hb.2.2.1.1 (iR x.blocks) (Nat.le_refl _)
 rw [List.take_length] at h3
 have c3 := nk hst y.2.2.1.1 y.2.2.1.2 x.blocks q2 hb.2.2.1.1 (by omega)
 generalize kL bj q2 x.blocks = q3 at h3 c3 |-
 have h4 := bQ (k := q3) (i := x.contexts.length) hb.2.2.2.1.1 (i8 hb.2.2.2.1.2) (Nat.le_refl _)
 rw [List.take_length] at h4
 have c4 := nl hst y.2.2.2.1.1.1 y.2.2.2.1.1.2 x.contexts y.2.2.2.1.2 hy.2.2 q3 hb.2.2.2.1 (by omega)
 generalize kL bf q3 x.contexts = q4 at h4 c4 |-
 have h5 := bQ (k := q4) (i := x.processes.length) hb.2.2.2.2.1.1 (iT x.processes) (Nat.le_refl _)
 rw [List.take_length] at h5
 have c5 := mY hst y.2.2.2.2.1.1 y.2.2.2.2.1.2 x.processes q4 hb.2.2.2.2.1.1 (by omega)
 generalize kL bB q4 x.processes = q5 at h5 c5 |-
 have c6 := mH hst y.2.2.2.2.2.1 y.2.2.2.2.2.2 x.ready q5 hb.2.2.2.2.2.1 (by omega)
 have e0 : imO x y ++ R = cbO x.base y.1 ++ (stO x.store y.2.1 ++ ([(y.2.2.1.1, y.2.2.1.2, .row 6 (x.blocks.map (am.tw 0)))] ++ (aen x.contexts y.2.2.2.1 ++ ([(y.2.2.2.2.1.1, y.2.2.2.2.1.2, .row 2 (x.processes.map (ap.tw 0)))] ++ ([(y.2.2.2.2.2.1, y.2.2.2.2.2.2, .row 1 (aR x.ready))] ++ R))))) := by unfold imO; simp only [List.append_assoc]
 rw [e0]
 replace c4 : CtM Tryz.prog G 63 _ (aen x.contexts y.2.2.2.1) _ (fun _ => aen (mkL bM bf q3 x.contexts) y.2.2.2.1) _ := c4
 clear hm e0
 generalize [(y.2.2.1.1, y.2.2.1.2, bv.row 6 (x.blocks.map (am.tw 0)))] = z1 at c3 |-
 generalize [(y.2.2.2.2.1.1, y.2.2.2.2.1.2, bv.row 2 (x.processes.map (ap.tw 0)))] = z2 at c5 |-
 generalize [(y.2.2.2.2.2.1, y.2.2.2.2.2.2, bv.row 1 (aR x.ready))] = z3 at c6 |-
 unfold cbC at c1
 unfold stC at c2
 unfold imC
 repeat' (first | refine W_ ?_ | refine aJ ?_ | ((with_reducible apply aE); rfl; kernel_rfl; (repeat (first | exact ay.nil | ((with_reducible apply ay.cons); rfl))); exact hG; exact c1; exact .app _ _; intro z hz; refine bY (sc _ _ _) ?_) | ((with_reducible apply aE); rfl; kernel_rfl; (repeat (first | exact ay.nil | ((with_reducible apply ay.cons); rfl))); exact hG; exact c2; exact .app _ _; intro z hz; refine bY (rn _ _ _ _) ?_) | ((with_reducible apply aE); rfl; kernel_rfl; (repeat (first | exact ay.nil | ((with_reducible apply ay.cons); rfl))); exact hG; exact c3; exact .app _ _; intro z hz; refine bY (acA _ _ _ _ _) ?_) | ((with_reducible apply aE); rfl; kernel_rfl; (repeat (first | exact ay.nil | ((with_reducible apply ay.cons); rfl))); exact hG; exact c4; exact .app _ _; intro z hz; refine bY (ack _ _ _ _ _ _) ?_) | ((with_reducible apply aE); rfl; kernel_rfl; (repeat (first | exact ay.nil | ((with_reducible apply ay.cons); rfl))); exact hG; exact c5; exact .app _ _; intro z hz; refine bY (ab6 _ _ _ _ _ _ _) ?_) | ((with_reducible apply aE); rfl; kernel_rfl; (repeat (first | exact ay.nil | ((with_reducible apply ay.cons); rfl))); exact hG; exact c6; exact .app _ _; intro z hz))
 refine az x_ rfl () trivial rfl (.app _ R) ?_ (.tmp _ _ rfl) rfl
 simp only [List.append_assoc]
 exact aca _ _ _ _ _ _ R
end
section
variable {G : World -> Prop}
end
end Go.Proofs.YtigipcbnfeoliaaGreatDoor
