/- Part 17 of the proof. -/
import Derived.Test.YtiihihgjiklnoaaGreatDoorSx3
import Derived.Test.YtiihihgjiklnoaaGreatDoorSx14
import Derived.Test.YtiihihgjiklnoaaGreatDoorSx13
set_option maxHeartbeats 2000000
set_option maxRecDepth 20000
namespace Go.Proofs.YtiihihgjiklnoaaGreatDoor
open Go Go.RowKit
def nRg {α β : Type} (mk : α -> β -> List TV) (l : List α) (ps : List β) : List (List TV) := List.zipWith mk l ps
def nOg {α β : Type} (ob : α -> β -> aI) (l : List α) (ps : List β) : aI := (List.zipWith ob l ps).flatten
theorem gF {α β : Type} (mk : α -> β -> List TV) {l : List α} {ps : List β} (h : ps.length = l.length) : (nRg mk l ps).length = l.length := by simp [nRg, h]
theorem jB {α β : Type} (ob : α -> β -> aI) {l : List α} {ps : List β} {i : Nat} (h : i < l.length) (hp : ps.length = i) (p : β) : nOg ob (l.take (i + 1)) (ps ++ [p]) = nOg ob (l.take i) ps ++ ob l[i] p := by
 unfold nOg
 rw [cY h, List.zipWith_append (by simp; omega)]; simp
theorem aaB {α β : Type} (mk : α -> β -> List TV) (z : List TV) {l : List α} {ps : List β} {i : Nat} (h : i < l.length) (hp : ps.length = i) (p : β) :
   (nRg mk (l.take i) ps ++ List.replicate (l.length - i) z)[i]? = some z /\ (nRg mk (l.take i) ps ++ List.replicate (l.length - i) z).set i (mk l[i] p) = nRg mk (l.take (i + 1)) (ps ++ [p]) ++ List.replicate (l.length - (i + 1)) z := by
 have hl : (nRg mk (l.take i) ps).length = i := by simp [nRg]; omega
 have e : l.length - i = (l.length - (i + 1)) + 1 := by omega
 refine ⟨?_, ?_⟩
 ·rw [List.getElem?_append_right (by omega), hl, Nat.sub_self, e, List.replicate_succ]; rfl
 ·rw [List.set_append_right _ _ (by omega), hl, Nat.sub_self, e, List.replicate_succ, List.set_cons_zero]
  unfold nRg
  rw [cY h, List.zipWith_append (by simp; omega), List.append_assoc]; rfl
theorem pX (a : Nat × Nat × ba) (z T R : aI) : cC (a :: ((T ++ z) ++ R)) (a :: (z ++ (T ++ R))) := .perm (by
 have h : ((T ++ z) ++ R).Perm (z ++ (T ++ R)) := by
   rw [<- List.append_assoc]
   exact List.perm_append_comm.append_right R
 exact h.cons a)
theorem tG (a : Nat × Nat × ba) (z R : aI) : cC (a :: (z ++ R)) (z ++ (a :: R)) := .perm List.perm_middle.symm
def Pl : Type := Nat × Nat
def bQ (x : av) (p : Pl × Pl) : List TV := [.int .i64 x.kind, .int .i64 x.class_, .ms p.1.1 p.1.2 0 x.fields.length, .ms p.2.1 p.2.2 0 x.numbers.length]
def dh (x : av) (p : Pl × Pl) : aI := [(p.1.1, p.1.2, .row 3 (x.fields.map (ad.tw 0))), (p.2.1, p.2.2, .row 1 (aS x.numbers))]
def ek (x : ao) (p : Pl × Pl × Pl) : List TV := [.int .i64 x.mark, .int .i64 x.code, .int .i64 x.pc, .int .i64 x.sender, .int .i64 x.outer, .int .i64 x.home, .int .i64 x.self.kind, .int .i64 x.self.number, .str x.self.text, .ms p.1.1 p.1.2 0 x.slots.length, .ms p.2.1.1 p.2.1.2 0 x.stack.length, .ms p.2.2.1 p.2.2.2 0 x.values.length, .int .i64 x.other, .bool x.retry]
def d9 (x : ao) (p : Pl × Pl × Pl) : aI := [(p.1.1, p.1.2, .row 3 (x.slots.map (ad.tw 0))), (p.2.1.1, p.2.1.2, .row 3 (x.stack.map (ad.tw 0))), (p.2.2.1, p.2.2.2, .row 3 (x.values.map (ad.tw 0)))]
def ad7 (l : List av) (y : Pl × List (Pl × Pl)) : aI := (y.1.1, y.1.2, .row 4 (nRg bQ l y.2)) :: nOg dh l y.2
def abx (l : List ao) (y : Pl × List (Pl × Pl × Pl)) : aI := (y.1.1, y.1.2, .row 14 (nRg ek l y.2)) :: nOg d9 l y.2
def StP : Type := ((Nat × Nat) × List (Nat × Nat)) × (Pl × List (Pl × Pl)) × Pl
def stO (x : aP) (y : StP) : aI := qe x.classes y.1 ++ (ad7 x.objects y.2.1 ++ [(y.2.2.1, y.2.2.2, .row 1 (cg x.output))])
def stC (x : aP) (y : StP) : List TV := [.ms y.1.1.1 y.1.1.2 0 x.classes.length, .ms y.2.1.1.1 y.2.1.1.2 0 x.objects.length, .ms y.2.2.1 y.2.2.2 0 x.output.length, .int .i64 x.ticks, .int .i64 x.budget, .int .i64 x.made]
def stI (x : aP) (y : StP) : Prop := y.1.2.length = x.classes.length /\ y.2.1.2.length = x.objects.length
def dE : Type := CbP × StP × Pl × (Pl × List (Pl × Pl × Pl)) × Pl × Pl
def imO (x : ak) (y : dE) : aI := cbO x.base y.1 ++ (stO x.store y.2.1 ++ ([(y.2.2.1.1, y.2.2.1.2, .row 6 (x.blocks.map (aq.tw 0)))] ++ (abx x.contexts y.2.2.2.1 ++ ([(y.2.2.2.2.1.1, y.2.2.2.2.1.2, .row 2 (x.processes.map (au.tw 0)))] ++ [(y.2.2.2.2.2.1, y.2.2.2.2.2.2, .row 1 (aS x.ready))]))))
def imC (x : ak) (y : dE) : List TV := [.ms y.1.1.1.1 y.1.1.1.2 0 x.base.classes.length, .ms y.1.2.1.1.1 y.1.2.1.1.2 0 x.base.codes.length, .ms y.1.2.2.1 y.1.2.2.2 0 x.base.entries.length, .int .i64 x.base.main,
 .ms y.2.1.1.1.1 y.2.1.1.1.2 0 x.store.classes.length, .ms y.2.1.2.1.1.1 y.2.1.2.1.1.2 0 x.store.objects.length, .ms y.2.1.2.2.1 y.2.1.2.2.2 0 x.store.output.length, .int .i64 x.store.ticks, .int .i64 x.store.budget, .int .i64 x.store.made,
 .ms y.2.2.1.1 y.2.2.1.2 0 x.blocks.length, .ms y.2.2.2.1.1.1 y.2.2.2.1.1.2 0 x.contexts.length, .ms y.2.2.2.2.1.1 y.2.2.2.2.1.2 0 x.processes.length, .ms y.2.2.2.2.2.1 y.2.2.2.2.2.2 0 x.ready.length, .int .i64 x.now, .int .i64 x.status, .int .i64 x.value.kind, .int .i64 x.value.number, .str x.value.text, .str x.fault]
def imI (x : ak) (y : dE) : Prop := cbI x.base y.1 /\ stI x.store y.2.1 /\ y.2.2.2.1.2.length = x.contexts.length
section
variable {G : World -> Prop}
theorem pP (_hst : ay G) (lo : Nat) (l : List Int) (hn : l.length <= 1048576) : CtM Tryz.prog G 90 [.sl lo 1 (aS l)] [] (fun _ : Nat × Nat => True) (fun y => [(y.1, y.2, .row 1 (aS l))]) (fun y => .ms y.1 y.2 0 l.length) := by
 refine aA Tryz.func90 rfl Tryz.ntmps90 rfl rfl rfl fun w0 R gs objsR hG hR => ?_
 obtain rfl := hR.inv0
 clear hR
 have hlen := am l
 have h0 := bK (fun n : Int => [TV.int .i64 n]) [.int .i64 0] l
 repeat' (first | refine W_ ?_ | (refine dC ?_; intro ss bb))
 generalize ss = so; generalize bb = bo
 apply aj (X := Nat) [0, 3, 1000000] (fun i => [(4, .int .i64 (i : Int))]) (fun i => (so, bo, .row 1 (di (fun n : Int => [TV.int .i64 n]) [.int .i64 0] l i)) :: R) (fun i => i <= l.length) (fun i => l.length - i) 0 (Nat.zero_le _)
 exact kp_; exact nw_
 ·rw [<- h0]; exact .refl _
 intro i hi
 try dsimp only
 by_cases hlt : i < l.length
 ·obtain ⟨hrow, hset⟩ := cj (fun n : Int => [TV.int .i64 n]) [.int .i64 0] hlt
  have hra : (aS l)[i]? = some [.int .i64 l[i]] := aK hlt
  generalize l[i] = x at hset hra
  try dsimp only at hset
  repeat' (first | refine W_ ?_ | refine bg ?_)
  refine ag (i + 1) (by omega) (by omega) (.of _ nw_ od_ (by rw [<- hset]; exact .refl _))
 ·obtain rfl : i = l.length := by omega
  rw [bL]
  repeat' refine W_ ?_
  exact aw x_ rfl (so, bo) trivial rfl (.cons _ _ _ _ (.nil R)) pk_ (.tmp _ _ rfl) rfl
theorem gy (hst : ay G) (lo : Nat) (l : List ad) (hb : l.length <= 1048576 /\ ∀ y ∈ l, ad.small 1048576 y) : CtM Tryz.prog G 238 [.sl lo 3 (l.map (ad.tw lo))] [] (fun _ : Nat × Nat => True) (fun y => [(y.1, y.2, .row 3 (l.map (ad.tw 0)))]) (fun y => .ms y.1 y.2 0 l.length) := by
 refine aA Tryz.func238 rfl Tryz.ntmps238 rfl rfl rfl fun w0 R gs objsR hG hR => ?_
 obtain rfl := hR.inv0
 clear hR
 have hlen := ad.len lo l
 have hl1 := hb.1
 have h0 := bK (ad.tw 0) ad.tz l
 repeat' (first | refine W_ ?_ | (refine dC ?_; intro ss bb))
 generalize ss = so; generalize bb = bo
 apply aj (X := Nat) [0, 3, 1000000] (fun i => [(4, .int .i64 (i : Int))]) (fun i => (so, bo, .row 3 (di (ad.tw 0) ad.tz l i)) :: R) (fun i => i <= l.length) (fun i => l.length - i) 0 (Nat.zero_le _)
 exact kp_; exact nw_
 ·rw [<- h0]; exact .refl _
 intro i hi
 try dsimp only
 by_cases hlt : i < l.length
 ·obtain ⟨hrow, hset⟩ := cj (ad.tw 0) ad.tz hlt
  have hra : (l.map (ad.tw lo))[i]? = some (l[i].tw lo) := aK hlt
  have hbi := hb.2 _ (List.getElem_mem hlt)
  generalize l[i] = x at hset hra hbi
  have hct := eZ hst lo x hbi
  unfold ad.tw at hct
  rw [show x.tw lo = [.int .i64 x.kind, .int .i64 x.number, .str x.text] from rfl] at hra
  replace hrow : (di (ad.tw 0) ad.tz l i)[i]? = some [.int .i64 0, .int .i64 0, .str ⟨#[]⟩] := hrow
  repeat' (first | refine W_ ?_ | refine ab hG hst (hct) ?_ | refine bg ?_)
  refine ag (i + 1) (by omega) (by omega) (.of _ nw_ od_ (by rw [<- hset]; exact .refl _))
 ·obtain rfl : i = l.length := by omega
  rw [bL]
  repeat' refine W_ ?_
  exact aw x_ rfl (so, bo) trivial rfl (.cons _ _ _ _ (.nil R)) pk_ (.tmp _ _ rfl) rfl
theorem pl (hst : ay G) (lo : Nat) (l : List aq) (hb : l.length <= 1048576 /\ ∀ y ∈ l, aq.small 1048576 y) : CtM Tryz.prog G 87 [.sl lo 6 (l.map (aq.tw lo))] [] (fun _ : Nat × Nat => True) (fun y => [(y.1, y.2, .row 6 (l.map (aq.tw 0)))]) (fun y => .ms y.1 y.2 0 l.length) := by
 refine aA Tryz.func87 rfl Tryz.ntmps87 rfl rfl rfl fun w0 R gs objsR hG hR => ?_
 obtain rfl := hR.inv0
 clear hR
 have hlen := aq.len lo l
 have hl1 := hb.1
 have h0 := bK (aq.tw 0) aq.tz l
 repeat' (first | refine W_ ?_ | (refine dC ?_; intro ss bb))
 generalize ss = so; generalize bb = bo
 apply aj (X := Nat) [0, 3, 1000000] (fun i => [(4, .int .i64 (i : Int))]) (fun i => (so, bo, .row 6 (di (aq.tw 0) aq.tz l i)) :: R) (fun i => i <= l.length) (fun i => l.length - i) 0 (Nat.zero_le _)
 exact kp_; exact nw_
 ·rw [<- h0]; exact .refl _
 intro i hi
 try dsimp only
 by_cases hlt : i < l.length
 ·obtain ⟨hrow, hset⟩ := cj (aq.tw 0) aq.tz hlt
  have hra : (l.map (aq.tw lo))[i]? = some (l[i].tw lo) := aK hlt
  have hbi := hb.2 _ (List.getElem_mem hlt)
  generalize l[i] = x at hset hra hbi
  have hct := ml hst lo x hbi
  unfold aq.tw at hct
  rw [show x.tw lo = [.int .i64 x.code, .int .i64 x.outer, .int .i64 x.home, .int .i64 x.self.kind, .int .i64 x.self.number, .str x.self.text] from rfl] at hra
  replace hrow : (di (aq.tw 0) aq.tz l i)[i]? = some [.int .i64 0, .int .i64 0, .int .i64 0, .int .i64 0, .int .i64 0, .str ⟨#[]⟩] := hrow
  repeat' (first | refine W_ ?_ | refine ab hG hst (hct) ?_ | refine bg ?_)
  refine ag (i + 1) (by omega) (by omega) (.of _ nw_ od_ (by rw [<- hset]; exact .refl _))
 ·obtain rfl : i = l.length := by omega
  rw [bL]
  repeat' refine W_ ?_
  exact aw x_ rfl (so, bo) trivial rfl (.cons _ _ _ _ (.nil R)) pk_ (.tmp _ _ rfl) rfl
theorem pL (hst : ay G) (lo : Nat) (l : List au) (hb : l.length <= 1048576 /\ ∀ y ∈ l, au.small 1048576 y) : CtM Tryz.prog G 89 [.sl lo 2 (l.map (au.tw lo))] [] (fun _ : Nat × Nat => True) (fun y => [(y.1, y.2, .row 2 (l.map (au.tw 0)))]) (fun y => .ms y.1 y.2 0 l.length) := by
 refine aA Tryz.func89 rfl Tryz.ntmps89 rfl rfl rfl fun w0 R gs objsR hG hR => ?_
 obtain rfl := hR.inv0
 clear hR
 have hlen := au.len lo l
 have hl1 := hb.1
 have h0 := bK (au.tw 0) au.tz l
 repeat' (first | refine W_ ?_ | (refine dC ?_; intro ss bb))
 generalize ss = so; generalize bb = bo
 apply aj (X := Nat) [0, 3, 1000000] (fun i => [(4, .int .i64 (i : Int))]) (fun i => (so, bo, .row 2 (di (au.tw 0) au.tz l i)) :: R) (fun i => i <= l.length) (fun i => l.length - i) 0 (Nat.zero_le _)
 exact kp_; exact nw_
 ·rw [<- h0]; exact .refl _
 intro i hi
 try dsimp only
 by_cases hlt : i < l.length
 ·obtain ⟨hrow, hset⟩ := cj (au.tw 0) au.tz hlt
  have hra : (l.map (au.tw lo))[i]? = some (l[i].tw lo) := aK hlt
  have hbi := hb.2 _ (List.getElem_mem hlt)
  generalize l[i] = x at hset hra hbi
  have hct := lY hst lo x hbi
  unfold au.tw at hct
  rw [show x.tw lo = [.int .i64 x.at_, .bool x.main] from rfl] at hra
  replace hrow : (di (au.tw 0) au.tz l i)[i]? = some [.int .i64 0, .bool false] := hrow
  repeat' (first | refine W_ ?_ | refine ab hG hst (hct) ?_ | refine bg ?_)
  refine ag (i + 1) (by omega) (by omega) (.of _ nw_ od_ (by rw [<- hset]; exact .refl _))
 ·obtain rfl : i = l.length := by omega
  rw [bL]
  repeat' refine W_ ?_
  exact aw x_ rfl (so, bo) trivial rfl (.cons _ _ _ _ (.nil R)) pk_ (.tmp _ _ rfl) rfl
theorem tq (hst : ay G) (lo : Nat) (x : av) (hb : x.small 1048576) : CtM Tryz.prog G 237 [.agg [.int .i64 x.kind, .int .i64 x.class_, .sl lo 3 (x.fields.map (ad.tw lo)), .sl lo 1 (aS x.numbers)]] [] (fun _ : Pl × Pl => True) (fun y => dh x y) (fun y => .agg (bQ x y)) := by
 refine aA Tryz.func237 rfl Tryz.ntmps237 rfl rfl rfl fun w0 R gs objsR hG hR => ?_
 obtain rfl := hR.inv0
 clear hR
 have h1 := gy hst lo x.fields hb.1
 have h2 := pP hst lo x.numbers hb.2
 unfold dh bQ
 repeat' (first | refine W_ ?_ | refine aL ?_ | (refine ai ?_; intro ss bb) | refine ac ?_ | ((with_reducible apply aJ); rfl; kernel_rfl; (repeat (first | exact aH.nil | ((with_reducible apply aH.cons); rfl))); exact hG; exact h1; exact .nil _; intro y1 hy1; refine bN ?_) | ((with_reducible apply aJ); rfl; kernel_rfl; (repeat (first | exact aH.nil | ((with_reducible apply aH.cons); rfl))); exact hG; exact h2; exact .nil _; intro y2 hy2; refine bN ?_))
 refine aw x_ rfl (y1, y2) trivial rfl (.cons _ _ _ _ (.cons _ _ _ _ (.nil R))) pk_ (.cell _ _ _ _ _ rfl mm_ (by kernel_rfl) (by kernel_rfl) (by kernel_rfl)) rfl
theorem rX (hst : ay G) (lo : Nat) (l : List av) (hb : l.length <= 1048576 /\ ∀ y ∈ l, av.small 1048576 y) : CtM Tryz.prog G 173 [.sl lo 4 (l.map (av.tw lo))] [] (fun y : Pl × List (Pl × Pl) => y.2.length = l.length) (fun y => ad7 l y) (fun y => .ms y.1.1 y.1.2 0 l.length) := by
 refine aA Tryz.func173 rfl Tryz.ntmps173 rfl rfl rfl fun w0 R gs objsR hG hR => ?_
 obtain rfl := hR.inv0
 clear hR
 have hlen := av.len lo l
 have hl1 := hb.1
 have h0 : List.replicate l.length av.tz = nRg bQ (l.take 0) [] ++ List.replicate (l.length - 0) av.tz := by simp [nRg]
 repeat' (first | refine W_ ?_ | (refine dC ?_; intro ss bb))
 generalize ss = so; generalize bb = bo
 apply aj (X := Nat × List (Pl × Pl)) [0, 3, 1000000] (fun x => [(4, .int .i64 (x.1 : Int))]) (fun x => (so, bo, .row 4 (nRg bQ (l.take x.1) x.2 ++ List.replicate (l.length - x.1) av.tz)) :: (nOg dh (l.take x.1) x.2 ++ R)) (fun x => x.1 <= l.length /\ x.2.length = x.1) (fun x => l.length - x.1) (0, []) ⟨Nat.zero_le _, rfl⟩
 exact kp_; exact nw_
 ·rw [<- h0]; exact .refl _
 rintro ⟨i, ps⟩ ⟨hi, hps⟩
 dsimp only at hi hps |-
 by_cases hlt : i < l.length
 ·have hrs := fun p => aaB bQ av.tz hlt hps p
  have hos := fun p => jB dh hlt hps p
  have hra : (l.map (av.tw lo))[i]? = some (l[i].tw lo) := aK hlt
  have hbi := hb.2 _ (List.getElem_mem hlt)
  generalize l[i] = x at hrs hos hra hbi
  have hct := tq hst lo x hbi
  rw [show x.tw lo = [.int .i64 x.kind, .int .i64 x.class_, .sl lo 3 (x.fields.map (ad.tw lo)), .sl lo 1 (aS x.numbers)] from rfl] at hra
  have hrow : (nRg bQ (l.take i) ps ++ List.replicate (l.length - i) av.tz)[i]? = some [.int .i64 0, .int .i64 0, .nils, .nils] := (hrs ((0, 0), (0, 0))).1
  generalize nOg dh (l.take i) ps = T at hos |-
  unfold bQ at hct
  repeat' (first | refine W_ ?_ | ((with_reducible apply aJ); rfl; kernel_rfl; (repeat (first | exact aH.nil | ((with_reducible apply aH.cons); rfl))); exact hG; exact hct; exact .nil _; intro y hy; refine cm (tG _ _ _) ?_) | refine bg ?_)
  refine ag (i + 1, ps ++ [y]) ⟨by dsimp only; omega, by dsimp only; simp [hps]⟩ (by dsimp only; omega) (.of _ nw_ od_ ?_)
  dsimp only
  rw [hos y, <- (hrs y).2]
  exact pX _ _ T R
 ·obtain rfl : i = l.length := by omega
  rw [List.take_of_length_le (Nat.le_refl _), Nat.sub_self, List.replicate_zero, List.append_nil]
  repeat' refine W_ ?_
  exact aw x_ rfl ((so, bo), ps) hps rfl (.cons _ _ _ _ (.app _ R)) (.refl _) (.tmp _ _ rfl) rfl
theorem rf (hst : ay G) (lo : Nat) (x : ao) (hb : x.small 1048576) : CtM Tryz.prog G 176 [.agg [.int .i64 x.mark, .int .i64 x.code, .int .i64 x.pc, .int .i64 x.sender, .int .i64 x.outer, .int .i64 x.home, .int .i64 x.self.kind, .int .i64 x.self.number, .str x.self.text, .sl lo 3 (x.slots.map (ad.tw lo)), .sl lo 3 (x.stack.map (ad.tw lo)), .sl lo 3 (x.values.map (ad.tw lo)), .int .i64 x.other, .bool x.retry]] [] (fun _ : Pl × Pl × Pl => True) (fun y => d9 x y) (fun y => .agg (ek x y)) := by
 refine aA Tryz.func176 rfl Tryz.ntmps176 rfl rfl rfl fun w0 R gs objsR hG hR => ?_
 obtain rfl := hR.inv0
 clear hR
 have h1 := gy hst lo x.slots hb.2.1
 have h2 := gy hst lo x.stack hb.2.2.1
 have h3 := gy hst lo x.values hb.2.2.2
 have hvc := eZ hst lo x.self hb.1
 unfold ad.tw at hvc
 unfold d9 ek
 repeat' (first | refine W_ ?_ | refine aL ?_ | (refine ai ?_; intro ss bb) | refine ac ?_ | refine ab hG hst (hvc) ?_ | ((with_reducible apply aJ); rfl; kernel_rfl; (repeat (first | exact aH.nil | ((with_reducible apply aH.cons); rfl))); exact hG; exact h1; exact .nil _; intro y1 hy1; refine bN ?_) | ((with_reducible apply aJ); rfl; kernel_rfl; (repeat (first | exact aH.nil | ((with_reducible apply aH.cons); rfl))); exact hG; exact h2; exact .nil _; intro y2 hy2; refine bN ?_) | ((with_reducible apply aJ); rfl; kernel_rfl; (repeat (first | exact aH.nil | ((with_reducible apply aH.cons); rfl))); exact hG; exact h3; exact .nil _; intro y3 hy3; refine bN ?_))
 refine aw x_ rfl (y1, y2, y3) trivial rfl (.cons _ _ _ _ (.cons _ _ _ _ (.cons _ _ _ _ (.nil R)))) pk_ (.cell _ _ _ _ _ rfl mm_ (by kernel_rfl) (by kernel_rfl) (by kernel_rfl)) rfl
theorem px (hst : ay G) (lo : Nat) (l : List ao) (hb : l.length <= 1048576 /\ ∀ y ∈ l, ao.small 1048576 y) : CtM Tryz.prog G 88 [.sl lo 14 (l.map (ao.tw lo))] [] (fun y : Pl × List (Pl × Pl × Pl) => y.2.length = l.length) (fun y => abx l y) (fun y => .ms y.1.1 y.1.2 0 l.length) := by
 refine aA Tryz.func88 rfl Tryz.ntmps88 rfl rfl rfl fun w0 R gs objsR hG hR => ?_
 obtain rfl := hR.inv0
 clear hR
 have hlen := ao.len lo l
 have hl1 := hb.1
 have h0 : List.replicate l.length ao.tz = nRg ek (l.take 0) [] ++ List.replicate (l.length - 0) ao.tz := by simp [nRg]
 repeat' (first | refine W_ ?_ | (refine dC ?_; intro ss bb))
 generalize ss = so; generalize bb = bo
 apply aj (X := Nat × List (Pl × Pl × Pl)) [0, 3, 1000000] (fun x => [(4, .int .i64 (x.1 : Int))]) (fun x => (so, bo, .row 14 (nRg ek (l.take x.1) x.2 ++ List.replicate (l.length - x.1) ao.tz)) :: (nOg d9 (l.take x.1) x.2 ++ R)) (fun x => x.1 <= l.length /\ x.2.length = x.1) (fun x => l.length - x.1) (0, []) ⟨Nat.zero_le _, rfl⟩
 exact kp_; exact nw_
 ·rw [<- h0]; exact .refl _
 rintro ⟨i, ps⟩ ⟨hi, hps⟩
 dsimp only at hi hps |-
 by_cases hlt : i < l.length
 ·have hrs := fun p => aaB ek ao.tz hlt hps p
  have hos := fun p => jB d9 hlt hps p
  have hra : (l.map (ao.tw lo))[i]? = some (l[i].tw lo) := aK hlt
  have hbi := hb.2 _ (List.getElem_mem hlt)
  generalize l[i] = x at hrs hos hra hbi
  have hct := rf hst lo x hbi
  rw [show x.tw lo = [.int .i64 x.mark, .int .i64 x.code, .int .i64 x.pc, .int .i64 x.sender, .int .i64 x.outer, .int .i64 x.home, .int .i64 x.self.kind, .int .i64 x.self.number, .str x.self.text, .sl lo 3 (x.slots.map (ad.tw lo)), .sl lo 3 (x.stack.map (ad.tw lo)), .sl lo 3 (x.values.map (ad.tw lo)), .int .i64 x.other, .bool x.retry] from rfl] at hra
  have hrow : (nRg ek (l.take i) ps ++ List.replicate (l.length - i) ao.tz)[i]? = some [.int .i64 0, .int .i64 0, .int .i64 0, .int .i64 0, .int .i64 0, .int .i64 0, .int .i64 0, .int .i64 0, .str ⟨#[]⟩, .nils, .nils, .nils, .int .i64 0, .bool false] := (hrs ((0, 0), (0, 0), (0, 0))).1
  generalize nOg d9 (l.take i) ps = T at hos |-
  unfold ek at hct
  repeat' (first | refine W_ ?_ | ((with_reducible apply aJ); rfl; kernel_rfl; (repeat (first | exact aH.nil | ((with_reducible apply aH.cons); rfl))); exact hG; exact hct; exact .nil _; intro y hy; refine cm (tG _ _ _) ?_) | refine bg ?_)
  refine ag (i + 1, ps ++ [y]) ⟨by dsimp only; omega, by dsimp only; simp [hps]⟩ (by dsimp only; omega) (.of _ nw_ od_ ?_)
  dsimp only
  rw [hos y, <- (hrs y).2]
  exact pX _ _ T R
 ·obtain rfl : i = l.length := by omega
  rw [List.take_of_length_le (Nat.le_refl _), Nat.sub_self, List.replicate_zero, List.append_nil]
  repeat' refine W_ ?_
  exact aw x_ rfl ((so, bo), ps) hps rfl (.cons _ _ _ _ (.app _ R)) (.refl _) (.tmp _ _ rfl) rfl
end
theorem od (A L R : aI) : ((A ++ L) ++ R).Perm (L ++ (A ++ R)) := by
 rw [List.append_assoc]
 exact List.perm_append_comm_assoc A L R
theorem acD (A B C D E F R : aI) : ((A ++ (B ++ (C ++ (D ++ (E ++ F))))) ++ R).Perm (F ++ (E ++ (D ++ (C ++ (B ++ (A ++ R)))))) :=
 (od A _ R).trans ((od B _ _).trans ((od C _ _).trans ((od D _ _).trans (od E _ _))))
section
variable {G : World -> Prop}
theorem vd (hst : ay G) (lo : Nat) (x : aP) (hb : x.small 1048576) : CtM Tryz.prog G 86 [.agg (x.tw lo)] [] (stI x) (stO x) (fun y => .agg (stC x y)) := by
 refine aA Tryz.func86 rfl Tryz.ntmps86 rfl rfl rfl fun w0 R gs objsR hG hR => ?_
 obtain rfl := hR.inv0
 clear hR
 have c1 := iP hst lo x.classes hb.1
 have c2 := rX hst lo x.objects hb.2.1
 have c3 := kH hst lo x.output hb.2.2.1
 unfold aP.tw
 repeat' (first | refine W_ ?_ | refine aL ?_ | (refine ai ?_; intro ss bb) | refine ac ?_ | ((with_reducible apply aJ); rfl; kernel_rfl; (repeat (first | exact aH.nil | ((with_reducible apply aH.cons); rfl))); exact hG; (first | exact c1 | exact c2 | exact c3); exact .nil _; intro y hy; refine cm (jn _ _ _ _) ?_))
 rename_i yc hyc yd hyd
 refine aw (t1 := .agg [.ms yc.1.1 yc.1.2 0 x.classes.length, .ms yd.1.1 yd.1.2 0 x.objects.length, .ms y.1 y.2 0 x.output.length, .int .i64 x.ticks, .int .i64 x.budget, .int .i64 x.made]) x_ rfl (yc, yd, y) ⟨hyc, hyd⟩ rfl (.app _ R) (.drop (.drop (.perm (vk _ _ _ R)))) (.cell _ _ _ _ _ rfl mm_ (by kernel_rfl) (by kernel_rfl) (by kernel_rfl)) rfl
theorem oo (hst : ay G) (lo : Nat) (x : ak) (hb : x.small 1048576) : CtM Tryz.prog G 23 [.agg (x.tw lo)] [] (imI x) (imO x) (fun y => .agg (imC x y)) := by
 refine aA Tryz.func23 rfl Tryz.ntmps23 rfl rfl rfl fun w0 R gs objsR hG hR => ?_
 obtain rfl := hR.inv0
 clear hR
 have c1 := o9 hst lo x.base hb.1
 have c2 := vd hst lo x.store hb.2.1
 have c3 := pl hst lo x.blocks hb.2.2.1
 have c4 := px hst lo x.contexts hb.2.2.2.1
 have c5 := pL hst lo x.processes hb.2.2.2.2.1
 have c6 := pP hst lo x.ready hb.2.2.2.2.2.1
 have c7 := eZ hst lo x.value hb.2.2.2.2.2.2.1
 unfold aB.tw cbC at c1
 unfold aP.tw stC at c2
 unfold ad.tw at c7
 unfold ak.tw
 repeat' (first | refine W_ ?_ | refine aL ?_ | (refine ai ?_; intro ss bb) | refine ac ?_ | refine ab hG hst (c7) ?_ | ((with_reducible apply aJ); rfl; kernel_rfl; (repeat (first | exact aH.nil | ((with_reducible apply aH.cons); rfl))); exact hG; (first | exact c1 | exact c2 | exact c3 | exact c4 | exact c5 | exact c6); exact .nil _; intro y hy; refine cm (jn _ _ _ _) ?_))
 rename_i y1 h1 y2 h2 y3 h3 y4 h4 y5 h5
 refine aw (t1 := .agg [.ms y1.1.1.1 y1.1.1.2 0 x.base.classes.length, .ms y1.2.1.1.1 y1.2.1.1.2 0 x.base.codes.length, .ms y1.2.2.1 y1.2.2.2 0 x.base.entries.length, .int .i64 x.base.main, .ms y2.1.1.1 y2.1.1.2 0 x.store.classes.length, .ms y2.2.1.1.1 y2.2.1.1.2 0 x.store.objects.length, .ms y2.2.2.1 y2.2.2.2 0 x.store.output.length, .int .i64 x.store.ticks, .int .i64 x.store.budget, .int .i64 x.store.made, .ms y3.1 y3.2 0 x.blocks.length, .ms y4.1.1 y4.1.2 0 x.contexts.length, .ms y5.1 y5.2 0 x.processes.length, .ms y.1 y.2 0 x.ready.length, .int .i64 x.now, .int .i64 x.status, .int .i64 x.value.kind, .int .i64 x.value.number, .str x.value.text, .str x.fault]) x_ rfl (y1, y2, y3, y4, y5, y) ⟨h1, h2, h4⟩ rfl (.app _ R) (.drop (.drop (.perm (acD _ _ _ _ _ _ R)))) (.cell _ _ _ _ _ rfl mm_ (by kernel_rfl) (by kernel_rfl) (by kernel_rfl)) rfl
end
theorem abd {α β : Type} (mk : α -> β -> List TV) {l : List α} {ps : List β} {i : Nat} {p : β} {x : α} (hx : l[i]? = some x) (hp : ps[i]? = some p) : (nRg mk l ps)[i]? = some (mk x p) := by
 unfold nRg
 rw [List.getElem?_zipWith, hx, hp]
theorem zI {α β : Type} (mk : α -> β -> List TV) {l : List α} {ps : List β} {i : Nat} {p : β} {x : α} (hp : ps[i]? = some p) : nRg mk (l.set i x) ps = (nRg mk l ps).set i (mk x p) := nz mk hp
theorem ji {a b : List aI} (h : a.Perm b) : a.flatten.Perm b.flatten := by
 induction h with
 | nil => exact .refl _
 | cons x _ ih => exact ih.append_left x
 | swap x y l => exact List.perm_append_comm_assoc y x l.flatten
 | trans _ _ h1 h2 => exact h1.trans h2
def ngE {α β : Type} (ob : α -> β -> aI) (l : List α) (ps : List β) (i : Nat) : aI := ((List.zipWith ob l ps).eraseIdx i).flatten
theorem vt {α β : Type} (ob : α -> β -> aI) {l : List α} {ps : List β} {i : Nat} {p : β} {x : α} (hx : l[i]? = some x) (hp : ps[i]? = some p) : (nOg ob l ps).Perm (ob x p ++ ngE ob l ps i) := by
 have h := ji (ra (l := List.zipWith ob l ps) (i := i) (x := ob x p) (by rw [List.getElem?_zipWith, hx, hp]))
 simpa [nOg, ngE] using h
theorem acU {α β : Type} (ob : α -> β -> aI) {l : List α} {ps : List β} {i : Nat} {p : β} {x : α} (hl : i < l.length) (hp : ps[i]? = some p) : (nOg ob (l.set i x) ps).Perm (ob x p ++ ngE ob l ps i) := by
 have h := vt ob (l := l.set i x) (ps := ps) (i := i) (p := p) (x := x) (by rw [List.getElem?_set_self hl]) hp
 have e : ngE ob (l.set i x) ps i = ngE ob l ps i := by
   unfold ngE
   rw [nz _ hp, nC]
 rw [e] at h
 exact h
theorem ael (A B : List aI) (s : aI) : cC (s :: (A ++ B)).flatten (A ++ s :: B).flatten := .perm (ji List.perm_middle).symm
theorem aaG {a z1 z2 : Nat × Nat × ba} {N E : aI} (h : N.Perm ([z1, z2] ++ E)) (R : aI) : cC (z1 :: z2 :: a :: (E ++ R)) (a :: (N ++ R)) := .perm (by
 have h1 : (a :: (N ++ R)).Perm (a :: (([z1, z2] ++ E) ++ R)) := (h.append_right R).cons a
 exact (List.perm_middle (l₁ := [z1, z2]) (l₂ := E ++ R) (a := a)).trans h1.symm)
theorem abU {a z1 z2 : Nat × Nat × ba} {N E : aI} (h : N.Perm ([z1, z2] ++ E)) (R : aI) : cC (a :: (N ++ R)) (z2 :: z1 :: a :: (E ++ R)) := .perm (by
 have h1 : (a :: (N ++ R)).Perm (a :: (([z1, z2] ++ E) ++ R)) := (h.append_right R).cons a
 exact h1.trans ((List.perm_middle (l₁ := [z1, z2]) (l₂ := E ++ R) (a := a)).symm.trans (List.Perm.swap _ _ _)))
theorem aaz {a z1 z2 z3 : Nat × Nat × ba} {N E : aI} (h : N.Perm ([z1, z2, z3] ++ E)) (R : aI) : cC (z1 :: z2 :: z3 :: a :: (E ++ R)) (a :: (N ++ R)) := .perm (by
 have h1 : (a :: (N ++ R)).Perm (a :: (([z1, z2, z3] ++ E) ++ R)) := (h.append_right R).cons a
 exact (List.perm_middle (l₁ := [z1, z2, z3]) (l₂ := E ++ R) (a := a)).trans h1.symm)
theorem acc {a z1 z2 z3 : Nat × Nat × ba} {N E : aI} (h : N.Perm ([z1, z2, z3] ++ E)) (R : aI) : cC (a :: (N ++ R)) (z3 :: z2 :: z1 :: a :: (E ++ R)) := .perm (by
 have h1 : (a :: (N ++ R)).Perm (a :: (([z1, z2, z3] ++ E) ++ R)) := (h.append_right R).cons a
 have h2 : (z3 :: z2 :: z1 :: a :: (E ++ R)).Perm (z1 :: z2 :: z3 :: a :: (E ++ R)) := ((List.Perm.swap z2 z3 _).trans ((List.Perm.swap z1 z3 _).cons z2)).trans ((List.Perm.swap z1 z2 _))
 exact h1.trans ((List.perm_middle (l₁ := [z1, z2, z3]) (l₂ := E ++ R) (a := a)).symm.trans h2.symm))
theorem abK (z1 z2 z3 : Nat × Nat × ba) (R : aI) : cC (z3 :: z2 :: z1 :: R) (z2 :: z1 :: z3 :: R) := .perm (List.perm_middle (l₁ := [z2, z1]) (l₂ := R) (a := z3)).symm
def jp (k : Int) (_ : Int) : Int := k
def dD (k : Int) (_ : Int) : Int := k + 1
theorem jF (l : List Int) : ∀ x ∈ l, ∀ q, q <= dD q x /\ dD q x <= q + (1 : Nat) := fun x _ q => by unfold dD; omega
def cU (k : Int) (_ : ad) : ad := ⟨k, k + 1, dN (k + 1 + 1)⟩
def aD (k : Int) (_ : ad) : Int := k + 1 + 1 + 1
theorem cq (l : List ad) : ∀ x ∈ l, ∀ q, q <= aD q x /\ aD q x <= q + (3 : Nat) := fun x _ q => by unfold aD; omega
def cG (k : Int) (_ : aq) : aq := ⟨k, k + 1, k + 1 + 1, ⟨k + 1 + 1 + 1, k + 1 + 1 + 1 + 1, dN (k + 1 + 1 + 1 + 1 + 1)⟩⟩
def aQ (k : Int) (_ : aq) : Int := k + 1 + 1 + 1 + 1 + 1 + 1
theorem fq (l : List aq) : ∀ x ∈ l, ∀ q, q <= aQ q x /\ aQ q x <= q + (6 : Nat) := fun x _ q => by unfold aQ; omega
def cE (k : Int) (_ : au) : au := ⟨k, decide ((k + 1).tmod 3 = 0)⟩
def aT (k : Int) (_ : au) : Int := k + 1 + 1
theorem fr (l : List au) : ∀ x ∈ l, ∀ q, q <= aT q x /\ aT q x <= q + (2 : Nat) := fun x _ q => by unfold aT; omega
def bU (k : Int) (x : av) : av := ⟨k, k + 1, mkL cU aD (k + 1 + 1) x.fields, mkL jp dD (kL aD (k + 1 + 1) x.fields) x.numbers⟩
def aY (k : Int) (x : av) : Int := kL dD (kL aD (k + 1 + 1) x.fields) x.numbers
theorem f9 {l : List av} (h : ∀ y ∈ l, av.small 1048576 y) : ∀ x ∈ l, ∀ q, q <= aY q x /\ aY q x <= q + (4194306 : Nat) := fun x hx q => by
 have h1 := h x hx
 have h2 := h1.1.1
 have h3 := h1.2
 have h4 := gW (nx := aD) (l := x.fields) (k := q + 1 + 1) (cq _)
 have h5 := gW (nx := dD) (l := x.numbers) (k := kL aD (q + 1 + 1) x.fields) (jF _)
 unfold aY
 omega
def k9 (k : Int) : Int := k + 1 + 1 + 1 + 1 + 1 + 1 + 1 + 1 + 1
def bA (k : Int) (x : ao) : ao := ⟨k, k + 1, k + 1 + 1, k + 1 + 1 + 1, k + 1 + 1 + 1 + 1, k + 1 + 1 + 1 + 1 + 1, ⟨k + 1 + 1 + 1 + 1 + 1 + 1, k + 1 + 1 + 1 + 1 + 1 + 1 + 1, dN (k + 1 + 1 + 1 + 1 + 1 + 1 + 1 + 1)⟩, mkL cU aD (k9 k) x.slots, mkL cU aD (kL aD (k9 k) x.slots) x.stack, mkL cU aD (kL aD (kL aD (k9 k) x.slots) x.stack) x.values, kL aD (kL aD (kL aD (k9 k) x.slots) x.stack) x.values, decide ((kL aD (kL aD (kL aD (k9 k) x.slots) x.stack) x.values + 1).tmod 3 = 0)⟩
def aR (k : Int) (x : ao) : Int := kL aD (kL aD (kL aD (k9 k) x.slots) x.stack) x.values + 1 + 1
theorem fy {l : List ao} (h : ∀ y ∈ l, ao.small 1048576 y) : ∀ x ∈ l, ∀ q, q <= aR q x /\ aR q x <= q + (9437195 : Nat) := fun x hx q => by
 have h1 := h x hx
 have h2 := h1.2.1.1
 have h3 := h1.2.2.1.1
 have h4 := h1.2.2.2.1
 have h5 := gW (nx := aD) (l := x.slots) (k := k9 q) (cq _)
 have h6 := gW (nx := aD) (l := x.stack) (k := kL aD (k9 q) x.slots) (cq _)
 have h7 := gW (nx := aD) (l := x.values) (k := kL aD (kL aD (k9 q) x.slots) x.stack) (cq _)
 have h8 : k9 q = q + 9 := by unfold k9; omega
 unfold aR
 omega
section
variable {G : World -> Prop}
theorem mC (_hst : ay G) (s b : Nat) (l : List Int) (k : Int) (hn : l.length <= 1048576) (hk : 0 <= k /\ k <= 1000000000000000) : CtM Tryz.prog G 33 [.ms s b 0 l.length, .int .i64 k] [(s, b, .row 1 (aS (l)))] (fun _ : Unit => True) (fun _ => [(s, b, .row 1 (aS (mkL jp dD k l)))]) (fun _ => .int .i64 (kL dD k l)) := by
 refine aA Tryz.func33 rfl Tryz.ntmps33 rfl rfl rfl fun w0 R gs objsR hG hR => ?_
 obtain rfl := hR.inv1
 clear hR
 repeat' refine W_ ?_
 apply aj (X := Nat) [0, 1000000] (fun x => [(5, .int .i64 (x : Int)), (1, .int .i64 (kL dD k (l.take x)))]) (fun x => (s, b, .row 1 (aS (ptL jp dD k l x))) :: R) (fun x => x <= l.length) (fun x => l.length - x) 0 (Nat.zero_le _)
 exact kp_; exact nw_
 ·exact .refl _
 intro i hi
 try dsimp only
 have hq := aV (k := k) (i := i) hn (jF l) hi
 by_cases hlt : i < l.length
 ·have hrow : (aS (ptL jp dD k l i))[i]? = some ((fun n : Int => [TV.int .i64 n]) l[i]) := by
    simp only [aS, List.getElem?_map, ej hlt]; rfl
  have hset : (aS (ptL jp dD k l i)).set i ((fun n : Int => [TV.int .i64 n]) (jp (kL dD k (l.take i)) l[i])) = aS (ptL jp dD k l (i + 1)) := by
    rw [<- fY hlt]; simp [aS, List.map_set]
  have hks := cO (nx := dD) (k := k) hlt
  have hrl : (aS (ptL jp dD k l i)).length = l.length := by simp [aS, dp hi]
  generalize aS (ptL jp dD k l i) = rows at hrow hset hrl |-
  generalize kL dD k (l.take i) = q at hq hset hks |-
  generalize l[i] = x at hrow hset hks
  replace hrow : rows[i]? = some [.int .i64 x] := hrow
  have hks2 : kL dD k (l.take (i + 1)) = q + 1 := hks
  repeat' (first | refine W_ ?_ | refine bg ?_)
  refine ag (i + 1) (by omega) (by omega) (.of _ (cw.envCons rfl (cw.envCons (dB rfl (by rw [hks2])) cw.envNil)) od_ ?_)
  rw [<- hset]
  (try simp only [])
  exact .refl _
 ·obtain rfl : i = l.length := by omega
  rw [eu, List.take_length]
  repeat' refine W_ ?_
  exact aw x_ rfl () trivial rfl (.cons _ _ _ _ (.nil R)) pk_ (.tmp _ _ rfl) rfl
theorem fl (hst : ay G) (s b : Nat) (l : List ad) (k : Int) (hn : l.length <= 1048576) (hk : 0 <= k /\ k <= 1000000000000000) : CtM Tryz.prog G 151 [.ms s b 0 l.length, .int .i64 k] [(s, b, .row 3 ((l).map (ad.tw 0)))] (fun _ : Unit => True) (fun _ => [(s, b, .row 3 ((mkL cU aD k l).map (ad.tw 0)))]) (fun _ => .int .i64 (kL aD k l)) := by
 refine aA Tryz.func151 rfl Tryz.ntmps151 rfl rfl rfl fun w0 R gs objsR hG hR => ?_
 obtain rfl := hR.inv1
 clear hR
 repeat' refine W_ ?_
 apply aj (X := Nat) [0, 1000000] (fun x => [(5, .int .i64 (x : Int)), (1, .int .i64 (kL aD k (l.take x)))]) (fun x => (s, b, .row 3 ((ptL cU aD k l x).map (ad.tw 0))) :: R) (fun x => x <= l.length) (fun x => l.length - x) 0 (Nat.zero_le _)
 exact kp_; exact nw_
 ·exact .refl _
 intro i hi
 try dsimp only
 have hq := aV (k := k) (i := i) hn (cq l) hi
 by_cases hlt : i < l.length
 ·have hrow : ((ptL cU aD k l i).map (ad.tw 0))[i]? = some ((ad.tw 0) l[i]) := by
    simp only [List.getElem?_map, ej hlt]; rfl
  have hset : ((ptL cU aD k l i).map (ad.tw 0)).set i ((ad.tw 0) (cU (kL aD k (l.take i)) l[i])) = (ptL cU aD k l (i + 1)).map (ad.tw 0) := by
    rw [<- fY hlt]; rw [List.map_set]
  have hks := cO (nx := aD) (k := k) hlt
  have hrl : ((ptL cU aD k l i).map (ad.tw 0)).length = l.length := by simp [dp hi]
  generalize (ptL cU aD k l i).map (ad.tw 0) = rows at hrow hset hrl |-
  generalize kL aD k (l.take i) = q at hq hset hks |-
  generalize l[i] = x at hrow hset hks
  replace hrow : rows[i]? = some [.int .i64 x.kind, .int .i64 x.number, .str x.text] := hrow
  have hr1 : (rows.set i [.int .i64 q, .int .i64 x.number, .str x.text])[i]? = some [.int .i64 q, .int .i64 x.number, .str x.text] := by rw [List.getElem?_set_self (by omega)]
  have hks2 : kL aD k (l.take (i + 1)) = q + 1 + 1 + 1 := hks
  repeat' (first | refine W_ ?_ | refine bg ?_ | ((with_reducible apply mE); rfl; kernel_rfl; (repeat (first | exact bI.nil | ((with_reducible apply bI.cons); rfl; exact .same _))); exact hG; exact hst; exact bS _ (by omega) (by omega)))
  refine ag (i + 1) (by omega) (by omega) (.of _ (cw.envCons rfl (cw.envCons (dB rfl (by rw [hks2])) cw.envNil)) od_ ?_)
  rw [<- hset]
  (try simp only [List.set_set])
  exact .refl _
 ·obtain rfl : i = l.length := by omega
  rw [eu, List.take_length]
  repeat' refine W_ ?_
  exact aw x_ rfl () trivial rfl (.cons _ _ _ _ (.nil R)) pk_ (.tmp _ _ rfl) rfl
theorem mP (hst : ay G) (s b : Nat) (l : List aq) (k : Int) (hn : l.length <= 1048576) (hk : 0 <= k /\ k <= 1000000000000000) : CtM Tryz.prog G 69 [.ms s b 0 l.length, .int .i64 k] [(s, b, .row 6 ((l).map (aq.tw 0)))] (fun _ : Unit => True) (fun _ => [(s, b, .row 6 ((mkL cG aQ k l).map (aq.tw 0)))]) (fun _ => .int .i64 (kL aQ k l)) := by
 refine aA Tryz.func69 rfl Tryz.ntmps69 rfl rfl rfl fun w0 R gs objsR hG hR => ?_
 obtain rfl := hR.inv1
 clear hR
 repeat' refine W_ ?_
 apply aj (X := Nat) [0, 1000000] (fun x => [(5, .int .i64 (x : Int)), (1, .int .i64 (kL aQ k (l.take x)))]) (fun x => (s, b, .row 6 ((ptL cG aQ k l x).map (aq.tw 0))) :: R) (fun x => x <= l.length) (fun x => l.length - x) 0 (Nat.zero_le _)
 exact kp_; exact nw_
 ·exact .refl _
 intro i hi
 try dsimp only
 have hq := aV (k := k) (i := i) hn (fq l) hi
 by_cases hlt : i < l.length
 ·have hrow : ((ptL cG aQ k l i).map (aq.tw 0))[i]? = some ((aq.tw 0) l[i]) := by
    simp only [List.getElem?_map, ej hlt]; rfl
  have hset : ((ptL cG aQ k l i).map (aq.tw 0)).set i ((aq.tw 0) (cG (kL aQ k (l.take i)) l[i])) = (ptL cG aQ k l (i + 1)).map (aq.tw 0) := by
    rw [<- fY hlt]; rw [List.map_set]
  have hks := cO (nx := aQ) (k := k) hlt
  have hrl : ((ptL cG aQ k l i).map (aq.tw 0)).length = l.length := by simp [dp hi]
  generalize (ptL cG aQ k l i).map (aq.tw 0) = rows at hrow hset hrl |-
  generalize kL aQ k (l.take i) = q at hq hset hks |-
  generalize l[i] = x at hrow hset hks
  replace hrow : rows[i]? = some [.int .i64 x.code, .int .i64 x.outer, .int .i64 x.home, .int .i64 x.self.kind, .int .i64 x.self.number, .str x.self.text] := hrow
  have hr1 : (rows.set i [.int .i64 q, .int .i64 x.outer, .int .i64 x.home, .int .i64 x.self.kind, .int .i64 x.self.number, .str x.self.text])[i]? = some [.int .i64 q, .int .i64 x.outer, .int .i64 x.home, .int .i64 x.self.kind, .int .i64 x.self.number, .str x.self.text] := by rw [List.getElem?_set_self (by omega)]
  have hks2 : kL aQ k (l.take (i + 1)) = q + 1 + 1 + 1 + 1 + 1 + 1 := hks
  repeat' (first | refine W_ ?_ | refine bg ?_ | ((with_reducible apply mE); rfl; kernel_rfl; (repeat (first | exact bI.nil | ((with_reducible apply bI.cons); rfl; exact .same _))); exact hG; exact hst; exact bS _ (by omega) (by omega)))
  refine ag (i + 1) (by omega) (by omega) (.of _ (cw.envCons rfl (cw.envCons (dB rfl (by rw [hks2])) cw.envNil)) od_ ?_)
  rw [<- hset]
  (try simp only [List.set_set])
  exact .refl _
 ·obtain rfl : i = l.length := by omega
  rw [eu, List.take_length]
  repeat' refine W_ ?_
  exact aw x_ rfl () trivial rfl (.cons _ _ _ _ (.nil R)) pk_ (.tmp _ _ rfl) rfl
theorem mK (_hst : ay G) (s b : Nat) (l : List au) (k : Int) (hn : l.length <= 1048576) (hk : 0 <= k /\ k <= 1000000000000000) : CtM Tryz.prog G 71 [.ms s b 0 l.length, .int .i64 k] [(s, b, .row 2 ((l).map (au.tw 0)))] (fun _ : Unit => True) (fun _ => [(s, b, .row 2 ((mkL cE aT k l).map (au.tw 0)))]) (fun _ => .int .i64 (kL aT k l)) := by
 refine aA Tryz.func71 rfl Tryz.ntmps71 rfl rfl rfl fun w0 R gs objsR hG hR => ?_
 obtain rfl := hR.inv1
 clear hR
 repeat' refine W_ ?_
 apply aj (X := Nat) [0, 1000000] (fun x => [(5, .int .i64 (x : Int)), (1, .int .i64 (kL aT k (l.take x)))]) (fun x => (s, b, .row 2 ((ptL cE aT k l x).map (au.tw 0))) :: R) (fun x => x <= l.length) (fun x => l.length - x) 0 (Nat.zero_le _)
 exact kp_; exact nw_
 ·exact .refl _
 intro i hi
 try dsimp only
 have hq := aV (k := k) (i := i) hn (fr l) hi
 by_cases hlt : i < l.length
 ·have hrow : ((ptL cE aT k l i).map (au.tw 0))[i]? = some ((au.tw 0) l[i]) := by
    simp only [List.getElem?_map, ej hlt]; rfl
  have hset : ((ptL cE aT k l i).map (au.tw 0)).set i ((au.tw 0) (cE (kL aT k (l.take i)) l[i])) = (ptL cE aT k l (i + 1)).map (au.tw 0) := by
    rw [<- fY hlt]; rw [List.map_set]
  have hks := cO (nx := aT) (k := k) hlt
  have hrl : ((ptL cE aT k l i).map (au.tw 0)).length = l.length := by simp [dp hi]
  generalize (ptL cE aT k l i).map (au.tw 0) = rows at hrow hset hrl |-
  generalize kL aT k (l.take i) = q at hq hset hks |-
  generalize l[i] = x at hrow hset hks
  replace hrow : rows[i]? = some [.int .i64 x.at_, .bool x.main] := hrow
  have hr1 : (rows.set i [.int .i64 q, .bool x.main])[i]? = some [.int .i64 q, .bool x.main] := by rw [List.getElem?_set_self (by omega)]
  have hks2 : kL aT k (l.take (i + 1)) = q + 1 + 1 := hks
  repeat' (first | refine W_ ?_ | refine bg ?_)
  refine ag (i + 1) (by omega) (by omega) (.of _ (cw.envCons rfl (cw.envCons (dB rfl (by rw [hks2])) cw.envNil)) od_ ?_)
  rw [<- hset]
  (try simp only [List.set_set])
  exact .refl _
 ·obtain rfl : i = l.length := by omega
  rw [eu, List.take_length]
  repeat' refine W_ ?_
  exact aw x_ rfl () trivial rfl (.cons _ _ _ _ (.nil R)) pk_ (.tmp _ _ rfl) rfl
theorem ol (hst : ay G) (s b : Nat) (l : List av) (ps : List (Pl × Pl)) (hps : ps.length = l.length) (k : Int) (hn : l.length <= 1048576 /\ ∀ y ∈ l, av.small 1048576 y) (hk : 0 <= k /\ k <= 100000000000000) :
   CtM Tryz.prog G 150 [.ms s b 0 l.length, .int .i64 k] ((s, b, .row 4 (nRg bQ l ps)) :: nOg dh l ps) (fun _ : Unit => True) (fun _ => (s, b, .row 4 (nRg bQ (mkL bU aY k l) ps)) :: nOg dh (mkL bU aY k l) ps) (fun _ => .int .i64 (kL aY k l)) := by
 refine aA Tryz.func150 rfl Tryz.ntmps150 rfl rfl rfl fun w0 R gs objsR hG hR => ?_
 obtain rfl := hR.eq
 clear hR
 obtain ⟨hn, hsm⟩ := hn
 repeat' refine W_ ?_
 apply aj (X := Nat) [0, 1000000] (fun x => [(5, .int .i64 (x : Int)), (1, .int .i64 (kL aY k (l.take x)))]) (fun x => (s, b, .row 4 (nRg bQ (ptL bU aY k l x) ps)) :: (nOg dh (ptL bU aY k l x) ps ++ R)) (fun x => x <= l.length) (fun x => l.length - x) 0 (Nat.zero_le _)
 exact kp_; exact nw_
 ·exact .refl _
 intro i hi
 try dsimp only
 have hq := aV (k := k) (i := i) hn (f9 hsm) hi
 by_cases hlt : i < l.length
 ·obtain ⟨p, hp⟩ : ∃ p, ps[i]? = some p := ⟨_, List.getElem?_eq_getElem (by omega)⟩
  have hpl : i < (ptL bU aY k l i).length := by rw [dp hi]; exact hlt
  have hrow := abd bQ (ej (mk := bU) (nx := aY) (k := k) hlt) hp
  have hset := zI bQ (l := ptL bU aY k l i) (x := bU (kL aY k (l.take i)) l[i]) hp
  have hout := vt dh (ej (mk := bU) (nx := aY) (k := k) hlt) hp
  have hin := acU dh (x := bU (kL aY k (l.take i)) l[i]) hpl hp
  rw [fY hlt] at hset hin
  have hks := cO (nx := aY) (k := k) hlt
  have hrl : (nRg bQ (ptL bU aY k l i) ps).length = l.length := by rw [gF _ (by rw [dp hi]; exact hps), dp hi]
  have hb := hsm _ (List.getElem_mem hlt)
  generalize ngE dh (ptL bU aY k l i) ps i = E at hout hin
  generalize nOg dh (ptL bU aY k l i) ps = N0 at hout |-
  generalize nRg bQ (ptL bU aY k l i) ps = rows at hrow hset hrl |-
  generalize kL aY k (l.take i) = q at hq hset hks hin |-
  generalize l[i] = x at hrow hset hks hout hin hb
  replace hrow : rows[i]? = some [.int .i64 x.kind, .int .i64 x.class_, .ms p.1.1 p.1.2 0 x.fields.length, .ms p.2.1 p.2.2 0 x.numbers.length] := hrow
  have hr1 : (rows.set i [.int .i64 q, .int .i64 x.class_, .ms p.1.1 p.1.2 0 x.fields.length, .ms p.2.1 p.2.2 0 x.numbers.length])[i]? = some [.int .i64 q, .int .i64 x.class_, .ms p.1.1 p.1.2 0 x.fields.length, .ms p.2.1 p.2.2 0 x.numbers.length] := by rw [List.getElem?_set_self (by omega)]
  have hk1 := gW (nx := aD) (l := x.fields) (k := q + 1 + 1) (cq _)
  have hf1 := hb.1.1
  have hct1 := fl hst p.1.1 p.1.2 x.fields (q + 1 + 1) hb.1.1 (by omega)
  have hct2 := mC hst p.2.1 p.2.2 x.numbers (kL aD (q + 1 + 1) x.fields) hb.2 (by omega)
  repeat' (first | refine W_ ?_ | refine bg ?_)
  refine i6 (aaG hout R) ?_
  repeat' (first | refine W_ ?_ | ((with_reducible apply aJ); rfl; kernel_rfl; (repeat (first | exact aH.nil | ((with_reducible apply aH.cons); rfl))); exact hG; exact hct1; exact .cons _ _ _ _ (.nil _); intro y hy; refine bN ?_; refine cm (.perm (List.Perm.swap _ _ _)) ?_) | ((with_reducible apply aJ); rfl; kernel_rfl; (repeat (first | exact aH.nil | ((with_reducible apply aH.cons); rfl))); exact hG; exact hct2; exact .cons _ _ _ _ (.nil _); intro y hy; refine bN ?_))
  refine ag (i + 1) (by omega) (by omega) (.of _ (cw.envCons rfl (cw.envCons (dB rfl (by rw [hks]; rfl)) cw.envNil)) od_ ?_)
  rw [hset]
  simp only [List.set_set]
  have hcl : bQ (bU q x) p = [.int .i64 q, .int .i64 (q + 1), .ms p.1.1 p.1.2 0 x.fields.length, .ms p.2.1 p.2.2 0 x.numbers.length] := by
    unfold bQ bU
    dsimp only
    rw [ch, ch]
  rw [hcl]
  exact abU hin R
 ·obtain rfl : i = l.length := by omega
  rw [eu, List.take_length]
  repeat' refine W_ ?_
  exact aw x_ rfl () trivial rfl (.cons _ _ _ _ (.app _ R)) (.refl _) (.tmp _ _ rfl) rfl
theorem mO (hst : ay G) (s b : Nat) (l : List ao) (ps : List (Pl × Pl × Pl)) (hps : ps.length = l.length) (k : Int) (hn : l.length <= 1048576 /\ ∀ y ∈ l, ao.small 1048576 y) (hk : 0 <= k /\ k <= 100000000000000) :
   CtM Tryz.prog G 70 [.ms s b 0 l.length, .int .i64 k] ((s, b, .row 14 (nRg ek l ps)) :: nOg d9 l ps) (fun _ : Unit => True) (fun _ => (s, b, .row 14 (nRg ek (mkL bA aR k l) ps)) :: nOg d9 (mkL bA aR k l) ps) (fun _ => .int .i64 (kL aR k l)) := by
 refine aA Tryz.func70 rfl Tryz.ntmps70 rfl rfl rfl fun w0 R gs objsR hG hR => ?_
 obtain rfl := hR.eq
 clear hR
 obtain ⟨hn, hsm⟩ := hn
 repeat' refine W_ ?_
 apply aj (X := Nat) [0, 1000000] (fun x => [(5, .int .i64 (x : Int)), (1, .int .i64 (kL aR k (l.take x)))]) (fun x => (s, b, .row 14 (nRg ek (ptL bA aR k l x) ps)) :: (nOg d9 (ptL bA aR k l x) ps ++ R)) (fun x => x <= l.length) (fun x => l.length - x) 0 (Nat.zero_le _)
 exact kp_; exact nw_
 ·exact .refl _
 intro i hi
 try dsimp only
 have hq := aV (k := k) (i := i) hn (fy hsm) hi
 by_cases hlt : i < l.length
 ·obtain ⟨p, hp⟩ : ∃ p, ps[i]? = some p := ⟨_, List.getElem?_eq_getElem (by omega)⟩
  have hpl : i < (ptL bA aR k l i).length := by rw [dp hi]; exact hlt
  have hrow := abd ek (ej (mk := bA) (nx := aR) (k := k) hlt) hp
  have hset := zI ek (l := ptL bA aR k l i) (x := bA (kL aR k (l.take i)) l[i]) hp
  have hout := vt d9 (ej (mk := bA) (nx := aR) (k := k) hlt) hp
  have hin := acU d9 (x := bA (kL aR k (l.take i)) l[i]) hpl hp
  rw [fY hlt] at hset hin
  have hks := cO (nx := aR) (k := k) hlt
  have hrl : (nRg ek (ptL bA aR k l i) ps).length = l.length := by rw [gF _ (by rw [dp hi]; exact hps), dp hi]
  have hb := hsm _ (List.getElem_mem hlt)
  generalize ngE d9 (ptL bA aR k l i) ps i = E at hout hin
  generalize nOg d9 (ptL bA aR k l i) ps = N0 at hout |-
  generalize nRg ek (ptL bA aR k l i) ps = rows at hrow hset hrl |-
  generalize kL aR k (l.take i) = q at hq hset hks hin |-
  generalize l[i] = x at hrow hset hks hout hin hb
  replace hrow : rows[i]? = some [.int .i64 x.mark, .int .i64 x.code, .int .i64 x.pc, .int .i64 x.sender, .int .i64 x.outer, .int .i64 x.home, .int .i64 x.self.kind, .int .i64 x.self.number, .str x.self.text, .ms p.1.1 p.1.2 0 x.slots.length, .ms p.2.1.1 p.2.1.2 0 x.stack.length, .ms p.2.2.1 p.2.2.2 0 x.values.length, .int .i64 x.other, .bool x.retry] := hrow
  have hr1 : (rows.set i [.int .i64 q, .int .i64 x.code, .int .i64 x.pc, .int .i64 x.sender, .int .i64 x.outer, .int .i64 x.home, .int .i64 x.self.kind, .int .i64 x.self.number, .str x.self.text, .ms p.1.1 p.1.2 0 x.slots.length, .ms p.2.1.1 p.2.1.2 0 x.stack.length, .ms p.2.2.1 p.2.2.2 0 x.values.length, .int .i64 x.other, .bool x.retry])[i]? = some [.int .i64 q, .int .i64 x.code, .int .i64 x.pc, .int .i64 x.sender, .int .i64 x.outer, .int .i64 x.home, .int .i64 x.self.kind, .int .i64 x.self.number, .str x.self.text, .ms p.1.1 p.1.2 0 x.slots.length, .ms p.2.1.1 p.2.1.2 0 x.stack.length, .ms p.2.2.1 p.2.2.2 0 x.values.length, .int .i64 x.other, .bool x.retry] := by rw [List.getElem?_set_self (by omega)]
  have hk0 : k9 q = q + 9 := by unfold k9; omega
  have hk1 := gW (nx := aD) (l := x.slots) (k := k9 q) (cq _)
  have hk2 := gW (nx := aD) (l := x.stack) (k := kL aD (k9 q) x.slots) (cq _)
  have hk3 := gW (nx := aD) (l := x.values) (k := kL aD (kL aD (k9 q) x.slots) x.stack) (cq _)
  have hf1 := hb.2.1.1
  have hf2 := hb.2.2.1.1
  have hf3 := hb.2.2.2.1
  have hct1 := fl hst p.1.1 p.1.2 x.slots (k9 q) hf1 (by omega)
  have hct2 := fl hst p.2.1.1 p.2.1.2 x.stack (kL aD (k9 q) x.slots) hf2 (by omega)
  have hct3 := fl hst p.2.2.1 p.2.2.2 x.values (kL aD (kL aD (k9 q) x.slots) x.stack) hf3 (by omega)
  rw [show k9 q = q + 1 + 1 + 1 + 1 + 1 + 1 + 1 + 1 + 1 from rfl] at hct1
  repeat' (first | refine W_ ?_ | refine bg ?_ | ((with_reducible apply mE); rfl; kernel_rfl; (repeat (first | exact bI.nil | ((with_reducible apply bI.cons); rfl; exact .same _))); exact hG; exact hst; exact bS _ (by omega) (by omega)))
  refine i6 (aaz hout R) ?_
  repeat' (first | refine W_ ?_ | refine bg ?_ | ((with_reducible apply aJ); rfl; kernel_rfl; (repeat (first | exact aH.nil | ((with_reducible apply aH.cons); rfl))); exact hG; exact hct1; exact .cons _ _ _ _ (.nil _); intro y hy; refine bN ?_; refine cm (.perm (List.Perm.swap _ _ _)) ?_) | ((with_reducible apply aJ); rfl; kernel_rfl; (repeat (first | exact aH.nil | ((with_reducible apply aH.cons); rfl))); exact hG; exact hct2; exact .cons _ _ _ _ (.nil _); intro y hy; refine bN ?_; refine cm (abK _ _ _ _) ?_) | ((with_reducible apply aJ); rfl; kernel_rfl; (repeat (first | exact aH.nil | ((with_reducible apply aH.cons); rfl))); exact hG; exact hct3; exact .cons _ _ _ _ (.nil _); intro y hy; refine bN ?_))
  refine ag (i + 1) (by omega) (by omega) (.of _ (cw.envCons rfl (cw.envCons (dB rfl (by rw [hks]; rfl)) cw.envNil)) od_ ?_)
  rw [hset]
  simp only [List.set_set]
  have hcl : ek (bA q x) p = [.int .i64 q, .int .i64 (q + 1), .int .i64 (q + 1 + 1), .int .i64 (q + 1 + 1 + 1), .int .i64 (q + 1 + 1 + 1 + 1), .int .i64 (q + 1 + 1 + 1 + 1 + 1), .int .i64 (q + 1 + 1 + 1 + 1 + 1 + 1), .int .i64 (q + 1 + 1 + 1 + 1 + 1 + 1 + 1), .str (dN (q + 1 + 1 + 1 + 1 + 1 + 1 + 1 + 1)), .ms p.1.1 p.1.2 0 x.slots.length, .ms p.2.1.1 p.2.1.2 0 x.stack.length, .ms p.2.2.1 p.2.2.2 0 x.values.length, .int .i64 (kL aD (kL aD (kL aD (k9 q) x.slots) x.stack) x.values), .bool (decide ((kL aD (kL aD (kL aD (k9 q) x.slots) x.stack) x.values + 1).tmod 3 = 0))] := by
    unfold ek bA
    dsimp only
    rw [ch, ch, ch]
  rw [hcl]
  exact acc hin R
 ·obtain rfl : i = l.length := by omega
  rw [eu, List.take_length]
  repeat' refine W_ ?_
  exact aw x_ rfl () trivial rfl (.cons _ _ _ _ (.app _ R)) (.refl _) (.tmp _ _ rfl) rfl
end
theorem act (X Y Z D R : aI) : cC (D ++ (X ++ (Y ++ (Z ++ R)))) (X ++ (Y ++ (Z ++ (D ++ R)))) := by
 simpa using ael [X, Y, Z] [R] D
theorem acK (W X Y Z D R : aI) : cC (D ++ (W ++ (X ++ (Y ++ (Z ++ R))))) (W ++ (X ++ (Y ++ (Z ++ (D ++ R))))) := by
 simpa using ael [W, X, Y, Z] [R] D
theorem abN (V W X Y Z D R : aI) : cC (D ++ (V ++ (W ++ (X ++ (Y ++ (Z ++ R)))))) (V ++ (W ++ (X ++ (Y ++ (Z ++ (D ++ R)))))) := by
 simpa using ael [V, W, X, Y, Z] [R] D
theorem acN (A B C D E F R : aI) : cC (A ++ (B ++ (C ++ (D ++ (E ++ (F ++ R)))))) (F ++ (E ++ (D ++ (C ++ (A ++ (B ++ R)))))) := .perm (by
 have h1 : [F, E, D, C, B, A].Perm [A, B, C, D, E, F] := (List.reverse_perm [A, B, C, D, E, F])
 have h2 : [F, E, D, C, A, B].Perm [F, E, D, C, B, A] := ((((List.Perm.swap B A []).cons C).cons D).cons E).cons F
 have h3 := (ji (h2.trans h1)).append_right R
 simpa [List.append_assoc] using h3.symm)
def fE (k : Int) (x : aP) : aP := ⟨mkL aZ aC k x.classes, mkL bU aY (kL aC k x.classes) x.objects, mkL cX bs (kL aY (kL aC k x.classes) x.objects) x.output, x.ticks, x.budget, x.made⟩
def dA (k : Int) (x : aP) : Int := kL bs (kL aY (kL aC k x.classes) x.objects) x.output
theorem lN {x : aP} (hb : x.small 1048576) (k : Int) : k <= dA k x /\ dA k x <= k + 6000000000000 := by
 have h1 := aV (k := k) (i := x.classes.length) hb.1.1 (cA hb.1.2) (Nat.le_refl _)
 have h2 := aV (k := kL aC k x.classes) (i := x.objects.length) hb.2.1.1 (f9 hb.2.1.2) (Nat.le_refl _)
 have h3 := aV (k := kL aY (kL aC k x.classes) x.objects) (i := x.output.length) hb.2.2.1 (eY x.output) (Nat.le_refl _)
 rw [List.take_length] at h1 h2 h3
 unfold dA
 omega
section
variable {G : World -> Prop}
theorem rn (hst : ay G) (x : aP) (y : StP) (hy : stI x y) (hb : x.small 1048576) (k : Int) (hk : 0 <= k /\ k <= 60000000000000) :
   CtM Tryz.prog G 68 [.agg (stC x y), .int .i64 k] (stO x y) (fun _ : Unit => True) (fun _ => stO (fE k x) y) (fun _ => .int .i64 (dA k x)) := by
 refine aA Tryz.func68 rfl Tryz.ntmps68 rfl rfl rfl fun w0 R gs objsR hG hR => ?_
 obtain rfl := hR.eq
 clear hR
 have h1 := aV (k := k) (i := x.classes.length) hb.1.1 (cA hb.1.2) (Nat.le_refl _)
 have h2 := aV (k := kL aC k x.classes) (i := x.objects.length) hb.2.1.1 (f9 hb.2.1.2) (Nat.le_refl _)
 rw [List.take_length] at h1 h2
 have c1 := gE hst y.1.1.1 y.1.1.2 x.classes y.1.2 hy.1 k hb.1 (by omega)
 have c2 := ol hst y.2.1.1.1 y.2.1.1.2 x.objects y.2.1.2 hy.2 (kL aC k x.classes) hb.2.1 (by omega)
 have c3 := i9 hst y.2.2.1 y.2.2.2 x.output (kL aY (kL aC k x.classes) x.objects) hb.2.2.1 (by omega)
 have e0 : stO x y ++ R = qe x.classes y.1 ++ (ad7 x.objects y.2.1 ++ ([(y.2.2.1, y.2.2.2, .row 1 (cg x.output))] ++ R)) := by unfold stO; simp [List.append_assoc]
 have e1 : stO (fE k x) y ++ R = qe (fE k x).classes y.1 ++ (ad7 (fE k x).objects y.2.1 ++ ([(y.2.2.1, y.2.2.2, .row 1 (cg (fE k x).output))] ++ R)) := by unfold stO; simp [List.append_assoc]
 rw [e0]
 generalize hz1 : [(y.2.2.1, y.2.2.2, ba.row 1 (cg x.output))] = z1 at c3 |-
 unfold stC
 repeat' (first | refine W_ ?_ | refine aL ?_ | ((with_reducible apply aJ); rfl; kernel_rfl; (repeat (first | exact aH.nil | ((with_reducible apply aH.cons); rfl))); exact hG; exact c1; exact .app _ _; intro z hz; refine cm (qW _ _ _) ?_) | ((with_reducible apply aJ); rfl; kernel_rfl; (repeat (first | exact aH.nil | ((with_reducible apply aH.cons); rfl))); exact hG; exact c2; exact .app _ _; intro z hz; refine cm (rm _ _ _ _) ?_) | ((with_reducible apply aJ); rfl; kernel_rfl; (repeat (first | exact aH.nil | ((with_reducible apply aH.cons); rfl))); exact hG; exact c3; exact .app _ _; intro z hz))
 refine aw x_ rfl () trivial rfl (.app _ R) ?_ (.tmp _ _ rfl) rfl
 rw [e1]
 exact qd _ _ _ R
def ez (k : Int) (x : ak) : ak := ⟨cP k x.base, fE (a7 k x.base) x.store,
 mkL cG aQ (dA (a7 k x.base) x.store) x.blocks,
 mkL bA aR (kL aQ (dA (a7 k x.base) x.store) x.blocks) x.contexts,
 mkL cE aT (kL aR (kL aQ (dA (a7 k x.base) x.store) x.blocks) x.contexts) x.processes,
 mkL jp dD (kL aT (kL aR (kL aQ (dA (a7 k x.base) x.store) x.blocks) x.contexts) x.processes) x.ready,
 x.now, x.status, x.value, x.fault⟩
def iE (k : Int) (x : ak) : Int := kL dD (kL aT (kL aR (kL aQ (dA (a7 k x.base) x.store) x.blocks) x.contexts) x.processes) x.ready
theorem jt {x : ak} (hb : x.small 1048576) (k : Int) : k <= iE k x /\ iE k x <= k + 30000000000000 := by
 have h1 := im hb.1 k
 have h2 := lN hb.2.1 (a7 k x.base)
 unfold iE
 generalize dA (a7 k x.base) x.store = q2 at h2 |-
 have h3 := aV (k := q2) (i := x.blocks.length) hb.2.2.1.1 (fq x.blocks) (Nat.le_refl _)
 rw [List.take_length] at h3
 generalize kL aQ q2 x.blocks = q3 at h3 |-
 have h4 := aV (k := q3) (i := x.contexts.length) hb.2.2.2.1.1 (fy hb.2.2.2.1.2) (Nat.le_refl _)
 rw [List.take_length] at h4
 generalize kL aR q3 x.contexts = q4 at h4 |-
 have h5 := aV (k := q4) (i := x.processes.length) hb.2.2.2.2.1.1 (fr x.processes) (Nat.le_refl _)
 rw [List.take_length] at h5
 generalize kL aT q4 x.processes = q5 at h5 |-
 have h6 := aV (k := q5) (i := x.ready.length) hb.2.2.2.2.2.1 (jF x.ready) (Nat.le_refl _)
 rw [List.take_length] at h6
 omega
theorem fL (hst : ay G) (x : ak) (y : dE) (hy : imI x y) (hb : x.small 1048576) (k : Int) (hk : 0 <= k /\ k <= 50000000000000) :
   CtM Tryz.prog G 19 [.agg (imC x y), .int .i64 k] (imO x y) (fun _ : Unit => True) (fun _ => imO (ez k x) y) (fun _ => .int .i64 (iE k x)) := by
 refine aA Tryz.func19 rfl Tryz.ntmps19 rfl rfl rfl fun w0 R gs objsR hG hR => ?_
 obtain rfl := hR.eq
 clear hR
 have h1 := im hb.1 k
 have h2 := lN hb.2.1 (a7 k x.base)
 have hm : imO (ez k x) y = cbO (cP k x.base) y.1 ++ (stO (fE (a7 k x.base) x.store) y.2.1 ++ ([(y.2.2.1.1, y.2.2.1.2, .row 6 ((mkL cG aQ (dA (a7 k x.base) x.store) x.blocks).map (aq.tw 0)))] ++ (abx (mkL bA aR (kL aQ (dA (a7 k x.base) x.store) x.blocks) x.contexts) y.2.2.2.1 ++ ([(y.2.2.2.2.1.1, y.2.2.2.2.1.2, .row 2 ((mkL cE aT (kL aR (kL aQ (dA (a7 k x.base) x.store) x.blocks) x.contexts) x.processes).map (au.tw 0)))] ++ [(y.2.2.2.2.2.1, y.2.2.2.2.2.2, .row 1 (aS (mkL jp dD (kL aT (kL aR (kL aQ (dA (a7 k x.base) x.store) x.blocks) x.contexts) x.processes) x.ready)))])))) := rfl
 rw [hm]
 unfold iE
 have c1 := mM hst x.base y.1 hy.1 hb.1 k (by omega)
 have c2 := rn hst x.store y.2.1 hy.2.1 hb.2.1 (a7 k x.base) (by omega)
 generalize dA (a7 k x.base) x.store = q2 at h2 c2 |-
 have h3 := aV (k := q2) (i := x.blocks.length) hb.2.2.1.1 (fq x.blocks) (Nat.le_refl _)
 rw [List.take_length] at h3
 have c3 := mP hst y.2.2.1.1 y.2.2.1.2 x.blocks q2 hb.2.2.1.1 (by omega)
 generalize kL aQ q2 x.blocks = q3 at h3 c3 |-
 have h4 := aV (k := q3) (i := x.contexts.length) hb.2.2.2.1.1 (fy hb.2.2.2.1.2) (Nat.le_refl _)
 rw [List.take_length] at h4
 have c4 := mO hst y.2.2.2.1.1.1 y.2.2.2.1.1.2 x.contexts y.2.2.2.1.2 hy.2.2 q3 hb.2.2.2.1 (by omega)
 generalize kL aR q3 x.contexts = q4 at h4 c4 |-
 have h5 := aV (k := q4) (i := x.processes.length) hb.2.2.2.2.1.1 (fr x.processes) (Nat.le_refl _)
 rw [List.take_length] at h5
 have c5 := mK hst y.2.2.2.2.1.1 y.2.2.2.2.1.2 x.processes q4 hb.2.2.2.2.1.1 (by omega)
 generalize kL aT q4 x.processes = q5 at h5 c5 |-
 have c6 := mC hst y.2.2.2.2.2.1 y.2.2.2.2.2.2 x.ready q5 hb.2.2.2.2.2.1 (by omega)
 have e0 : imO x y ++ R = cbO x.base y.1 ++ (stO x.store y.2.1 ++ ([(y.2.2.1.1, y.2.2.1.2, .row 6 (x.blocks.map (aq.tw 0)))] ++ (abx x.contexts y.2.2.2.1 ++ ([(y.2.2.2.2.1.1, y.2.2.2.2.1.2, .row 2 (x.processes.map (au.tw 0)))] ++ ([(y.2.2.2.2.2.1, y.2.2.2.2.2.2, .row 1 (aS x.ready))] ++ R))))) := by unfold imO; simp only [List.append_assoc]
 rw [e0]
 replace c4 : CtM Tryz.prog G 70 _ (abx x.contexts y.2.2.2.1) _ (fun _ => abx (mkL bA aR q3 x.contexts) y.2.2.2.1) _ := c4
 clear hm e0
 generalize [(y.2.2.1.1, y.2.2.1.2, ba.row 6 (x.blocks.map (aq.tw 0)))] = z1 at c3 |-
 generalize [(y.2.2.2.2.1.1, y.2.2.2.2.1.2, ba.row 2 (x.processes.map (au.tw 0)))] = z2 at c5 |-
 generalize [(y.2.2.2.2.2.1, y.2.2.2.2.2.2, ba.row 1 (aS x.ready))] = z3 at c6 |-
 unfold cbC at c1
 unfold stC at c2
 unfold imC
 repeat' (first | refine W_ ?_ | refine aL ?_ | ((with_reducible apply aJ); rfl; kernel_rfl; (repeat (first | exact aH.nil | ((with_reducible apply aH.cons); rfl))); exact hG; exact c1; exact .app _ _; intro z hz; refine cm (qW _ _ _) ?_) | ((with_reducible apply aJ); rfl; kernel_rfl; (repeat (first | exact aH.nil | ((with_reducible apply aH.cons); rfl))); exact hG; exact c2; exact .app _ _; intro z hz; refine cm (rm _ _ _ _) ?_) | ((with_reducible apply aJ); rfl; kernel_rfl; (repeat (first | exact aH.nil | ((with_reducible apply aH.cons); rfl))); exact hG; exact c3; exact .app _ _; intro z hz; refine cm (act _ _ _ _ _) ?_) | ((with_reducible apply aJ); rfl; kernel_rfl; (repeat (first | exact aH.nil | ((with_reducible apply aH.cons); rfl))); exact hG; exact c4; exact .app _ _; intro z hz; refine cm (acK _ _ _ _ _ _) ?_) | ((with_reducible apply aJ); rfl; kernel_rfl; (repeat (first | exact aH.nil | ((with_reducible apply aH.cons); rfl))); exact hG; exact c5; exact .app _ _; intro z hz; refine cm (abN _ _ _ _ _ _ _) ?_) | ((with_reducible apply aJ); rfl; kernel_rfl; (repeat (first | exact aH.nil | ((with_reducible apply aH.cons); rfl))); exact hG; exact c6; exact .app _ _; intro z hz))
 refine aw x_ rfl () trivial rfl (.app _ R) ?_ (.tmp _ _ rfl) rfl
 simp only [List.append_assoc]
 exact acN _ _ _ _ _ _ R
end
section
variable {G : World -> Prop}
theorem qc (_hst : ay G) (lo : Nat) (l : List Int) (k : Int) (hn : l.length <= 1048576) (hk : 0 <= k /\ k <= 1000000000000000) : Ct Tryz.prog G 34 [.sl lo 1 (aS (mkL jp dD k l)), .int .i64 k] (fun _ => .int .i64 (kL dD k l)) := by
 refine ap Tryz.func34 rfl Tryz.ntmps34 rfl rfl fun w0 _ hG => ?_
 have hrl : (aS (mkL jp dD k l)).length = l.length := by simp [aS, ch]
 have hget := fun i (h : i < l.length) => fW (mk := jp) (nx := dD) (k := k) h
 have hgr : ∀ i (h : i < l.length), (aS (mkL jp dD k l))[i]? = some [.int .i64 (kL dD k (l.take i))] := fun i h => by
   simp only [aS, List.getElem?_map, hget i h]; rfl
 generalize aS (mkL jp dD k l) = rows at hrl hgr |-
 repeat' refine W_ ?_
 apply aj (X := Nat) [0] (fun x => [(5, .int .i64 (x : Int)), (1, .int .i64 (kL dD k (l.take x)))]) (fun _ => []) (fun x => x <= l.length) (fun x => l.length - x) 0 (Nat.zero_le _)
 exact kp_; exact nw_
 ·exact .refl _
 intro i hi
 try dsimp only
 have hq := aV (k := k) (i := i) hn (jF l) hi
 by_cases hlt : i < l.length
 ·have hrow := hgr i hlt
  have hks : kL dD k (l.take (i + 1)) = kL dD k (l.take i) + 1 := cO hlt
  generalize kL dD k (l.take i) = q at hq hrow hks |-
  have hi0 : ¬ (q) ≠ (q) := fun h => h rfl
  repeat' refine V_ ?_
  all_goals first
    | exact ag (i + 1) (by omega) (by omega) (.of _ (cw.envCons rfl (cw.envCons (dB rfl (by rw [hks])) cw.envNil)) od_ pk_)
    | (exfalso; simp_all; done)
 ·obtain rfl : i = l.length := by omega
  rw [List.take_length]
  repeat' refine W_ ?_
  exact r1_
theorem gA (hst : ay G) (lo : Nat) (l : List ad) (k : Int) (hn : l.length <= 1048576) (hk : 0 <= k /\ k <= 1000000000000000) : Ct Tryz.prog G 156 [.sl lo 3 ((mkL cU aD k l).map (ad.tw lo)), .int .i64 k] (fun _ => .int .i64 (kL aD k l)) := by
 refine ap Tryz.func156 rfl Tryz.ntmps156 rfl rfl fun w0 _ hG => ?_
 have hrl : ((mkL cU aD k l).map (ad.tw lo)).length = l.length := by simp [ch]
 have hget := fun i (h : i < l.length) => fW (mk := cU) (nx := aD) (k := k) h
 have hgr : ∀ i (h : i < l.length), ((mkL cU aD k l).map (ad.tw lo))[i]? = some [.int .i64 (kL aD k (l.take i)), .int .i64 (kL aD k (l.take i) + 1), .str (dN (kL aD k (l.take i) + 1 + 1))] := fun i h => by
   simp only [List.getElem?_map, hget i h]; rfl
 generalize (mkL cU aD k l).map (ad.tw lo) = rows at hrl hgr |-
 repeat' refine W_ ?_
 apply aj (X := Nat) [0] (fun x => [(5, .int .i64 (x : Int)), (1, .int .i64 (kL aD k (l.take x)))]) (fun _ => []) (fun x => x <= l.length) (fun x => l.length - x) 0 (Nat.zero_le _)
 exact kp_; exact nw_
 ·exact .refl _
 intro i hi
 try dsimp only
 have hq := aV (k := k) (i := i) hn (cq l) hi
 by_cases hlt : i < l.length
 ·have hrow := hgr i hlt
  have hks : kL aD k (l.take (i + 1)) = kL aD k (l.take i) + 1 + 1 + 1 := cO hlt
  generalize kL aD k (l.take i) = q at hq hrow hks |-
  have hi0 : ¬ (q) ≠ (q) := fun h => h rfl
  have hi1 : ¬ (q + 1) ≠ (q + 1) := fun h => h rfl
  have hs2 : ¬ dN (q + 1 + 1) ≠ dN (q + 1 + 1) := fun h => h rfl
  have hm2 := bS (G := G) (q + 1 + 1) (by omega) (by omega)
  repeat' (first | refine V_ ?_ | refine ae hG hst (hm2) ?_)
  all_goals first
    | exact ag (i + 1) (by omega) (by omega) (.of _ (cw.envCons rfl (cw.envCons (dB rfl (by rw [hks])) cw.envNil)) od_ pk_)
    | (exfalso; simp_all; done)
 ·obtain rfl : i = l.length := by omega
  rw [List.take_length]
  repeat' refine W_ ?_
  exact r1_
theorem pB (hst : ay G) (lo : Nat) (l : List aq) (k : Int) (hn : l.length <= 1048576) (hk : 0 <= k /\ k <= 1000000000000000) : Ct Tryz.prog G 74 [.sl lo 6 ((mkL cG aQ k l).map (aq.tw lo)), .int .i64 k] (fun _ => .int .i64 (kL aQ k l)) := by
 refine ap Tryz.func74 rfl Tryz.ntmps74 rfl rfl fun w0 _ hG => ?_
 have hrl : ((mkL cG aQ k l).map (aq.tw lo)).length = l.length := by simp [ch]
 have hget := fun i (h : i < l.length) => fW (mk := cG) (nx := aQ) (k := k) h
 have hgr : ∀ i (h : i < l.length), ((mkL cG aQ k l).map (aq.tw lo))[i]? = some [.int .i64 (kL aQ k (l.take i)), .int .i64 (kL aQ k (l.take i) + 1), .int .i64 (kL aQ k (l.take i) + 1 + 1), .int .i64 (kL aQ k (l.take i) + 1 + 1 + 1), .int .i64 (kL aQ k (l.take i) + 1 + 1 + 1 + 1), .str (dN (kL aQ k (l.take i) + 1 + 1 + 1 + 1 + 1))] := fun i h => by
   simp only [List.getElem?_map, hget i h]; rfl
 generalize (mkL cG aQ k l).map (aq.tw lo) = rows at hrl hgr |-
 repeat' refine W_ ?_
 apply aj (X := Nat) [0] (fun x => [(5, .int .i64 (x : Int)), (1, .int .i64 (kL aQ k (l.take x)))]) (fun _ => []) (fun x => x <= l.length) (fun x => l.length - x) 0 (Nat.zero_le _)
 exact kp_; exact nw_
 ·exact .refl _
 intro i hi
 try dsimp only
 have hq := aV (k := k) (i := i) hn (fq l) hi
 by_cases hlt : i < l.length
 ·have hrow := hgr i hlt
  have hks : kL aQ k (l.take (i + 1)) = kL aQ k (l.take i) + 1 + 1 + 1 + 1 + 1 + 1 := cO hlt
  generalize kL aQ k (l.take i) = q at hq hrow hks |-
  have hi0 : ¬ (q) ≠ (q) := fun h => h rfl
  have hi1 : ¬ (q + 1) ≠ (q + 1) := fun h => h rfl
  have hi2 : ¬ (q + 1 + 1) ≠ (q + 1 + 1) := fun h => h rfl
  have hi3 : ¬ (q + 1 + 1 + 1) ≠ (q + 1 + 1 + 1) := fun h => h rfl
  have hi4 : ¬ (q + 1 + 1 + 1 + 1) ≠ (q + 1 + 1 + 1 + 1) := fun h => h rfl
  have hs5 : ¬ dN (q + 1 + 1 + 1 + 1 + 1) ≠ dN (q + 1 + 1 + 1 + 1 + 1) := fun h => h rfl
  have hm5 := bS (G := G) (q + 1 + 1 + 1 + 1 + 1) (by omega) (by omega)
  repeat' (first | refine V_ ?_ | refine ae hG hst (hm5) ?_)
  all_goals first
    | exact ag (i + 1) (by omega) (by omega) (.of _ (cw.envCons rfl (cw.envCons (dB rfl (by rw [hks])) cw.envNil)) od_ pk_)
    | (exfalso; simp_all; done)
 ·obtain rfl : i = l.length := by omega
  rw [List.take_length]
  repeat' refine W_ ?_
  exact r1_
theorem pK (_hst : ay G) (lo : Nat) (l : List au) (k : Int) (hn : l.length <= 1048576) (hk : 0 <= k /\ k <= 1000000000000000) : Ct Tryz.prog G 76 [.sl lo 2 ((mkL cE aT k l).map (au.tw lo)), .int .i64 k] (fun _ => .int .i64 (kL aT k l)) := by
 refine ap Tryz.func76 rfl Tryz.ntmps76 rfl rfl fun w0 _ hG => ?_
 have hrl : ((mkL cE aT k l).map (au.tw lo)).length = l.length := by simp [ch]
 have hget := fun i (h : i < l.length) => fW (mk := cE) (nx := aT) (k := k) h
 have hgr : ∀ i (h : i < l.length), ((mkL cE aT k l).map (au.tw lo))[i]? = some [.int .i64 (kL aT k (l.take i)), .bool (decide ((kL aT k (l.take i) + 1).tmod 3 = 0))] := fun i h => by
   simp only [List.getElem?_map, hget i h]; rfl
 generalize (mkL cE aT k l).map (au.tw lo) = rows at hrl hgr |-
 repeat' refine W_ ?_
 apply aj (X := Nat) [0] (fun x => [(5, .int .i64 (x : Int)), (1, .int .i64 (kL aT k (l.take x)))]) (fun _ => []) (fun x => x <= l.length) (fun x => l.length - x) 0 (Nat.zero_le _)
 exact kp_; exact nw_
 ·exact .refl _
 intro i hi
 try dsimp only
 have hq := aV (k := k) (i := i) hn (fr l) hi
 by_cases hlt : i < l.length
 ·have hrow := hgr i hlt
  have hks : kL aT k (l.take (i + 1)) = kL aT k (l.take i) + 1 + 1 := cO hlt
  generalize kL aT k (l.take i) = q at hq hrow hks |-
  have hi0 : ¬ (q) ≠ (q) := fun h => h rfl
  have hb1 : (decide ((q + 1).tmod 3 = 0) != decide ((q + 1).tmod 3 = 0)) = false := by simp
  repeat' (first | refine V_ ?_ | refine c_ (fun hc => ?_) (fun hc => ?_))
  all_goals first
    | exact ag (i + 1) (by omega) (by omega) (.of _ (cw.envCons rfl (cw.envCons (dB rfl (by rw [hks])) cw.envNil)) od_ pk_)
    | (exfalso; simp_all; done)
 ·obtain rfl : i = l.length := by omega
  rw [List.take_length]
  repeat' refine W_ ?_
  exact r1_
theorem qY (hst : ay G) (lo : Nat) (l : List av) (k : Int) (hn : l.length <= 1048576 /\ ∀ y ∈ l, av.small 1048576 y) (hk : 0 <= k /\ k <= 100000000000000) : Ct Tryz.prog G 155 [.sl lo 4 ((mkL bU aY k l).map (av.tw lo)), .int .i64 k] (fun _ => .int .i64 (kL aY k l)) := by
 refine ap Tryz.func155 rfl Tryz.ntmps155 rfl rfl fun w0 _ hG => ?_
 obtain ⟨hn, hsm⟩ := hn
 have hrl : ((mkL bU aY k l).map (av.tw lo)).length = l.length := by simp [ch]
 have hgr : ∀ i (h : i < l.length), ((mkL bU aY k l).map (av.tw lo))[i]? = some ((bU (kL aY k (l.take i)) l[i]).tw lo) := fun i h => by
   simp only [List.getElem?_map, fW (mk := bU) (nx := aY) (k := k) h]; rfl
 generalize (mkL bU aY k l).map (av.tw lo) = rows at hrl hgr |-
 repeat' refine W_ ?_
 apply aj (X := Nat) [0] (fun x => [(5, .int .i64 (x : Int)), (1, .int .i64 (kL aY k (l.take x)))]) (fun _ => []) (fun x => x <= l.length) (fun x => l.length - x) 0 (Nat.zero_le _)
 exact kp_; exact nw_
 ·exact .refl _
 intro i hi
 try dsimp only
 have hq := aV (k := k) (i := i) hn (f9 hsm) hi
 by_cases hlt : i < l.length
 ·have hrow := hgr i hlt
  have hks := cO (nx := aY) (k := k) hlt
  have hb := hsm _ (List.getElem_mem hlt)
  generalize kL aY k (l.take i) = q at hq hrow hks |-
  generalize l[i] = x at hrow hks hb
  replace hrow : rows[i]? = some [.int .i64 (q), .int .i64 (q + 1), .sl lo 3 ((mkL cU aD (q + 1 + 1) x.fields).map (ad.tw lo)), .sl lo 1 (aS (mkL jp dD (kL aD (q + 1 + 1) x.fields) x.numbers))] := hrow
  have hln0 : x.fields.length <= 1048576 := hb.1.1
  have hinr0 := gW (nx := aD) (l := x.fields) (k := q + 1 + 1) (cq _)
  have hin0 := gA hst lo x.fields (q + 1 + 1) hb.1.1 (by omega)
  have hln1 : x.numbers.length <= 1048576 := hb.2
  have hinr1 := gW (nx := dD) (l := x.numbers) (k := kL aD (q + 1 + 1) x.fields) (jF _)
  have hin1 := qc hst lo x.numbers (kL aD (q + 1 + 1) x.fields) hb.2 (by omega)
  have hks2 : kL aY k (l.take (i + 1)) = kL dD (kL aD (q + 1 + 1) x.fields) x.numbers := hks
  have hi0 : ¬ (q) ≠ (q) := fun h => h rfl
  have hi1 : ¬ (q + 1) ≠ (q + 1) := fun h => h rfl
  repeat' (first | refine V_ ?_ | refine ab hG hst (hin0) ?_ | refine ab hG hst (hin1) ?_)
  all_goals first
    | exact ag (i + 1) (by omega) (by omega) (.of _ (cw.envCons rfl (cw.envCons (dB rfl (by rw [hks2])) cw.envNil)) od_ pk_)
    | (exfalso; simp_all; done)
    | (exfalso; omega)
 ·obtain rfl : i = l.length := by omega
  rw [List.take_length]
  repeat' refine W_ ?_
  exact r1_
theorem pF (hst : ay G) (lo : Nat) (l : List ao) (k : Int) (hn : l.length <= 1048576 /\ ∀ y ∈ l, ao.small 1048576 y) (hk : 0 <= k /\ k <= 100000000000000) : Ct Tryz.prog G 75 [.sl lo 14 ((mkL bA aR k l).map (ao.tw lo)), .int .i64 k] (fun _ => .int .i64 (kL aR k l)) := by
 refine ap Tryz.func75 rfl Tryz.ntmps75 rfl rfl fun w0 _ hG => ?_
 obtain ⟨hn, hsm⟩ := hn
 have hrl : ((mkL bA aR k l).map (ao.tw lo)).length = l.length := by simp [ch]
 have hgr : ∀ i (h : i < l.length), ((mkL bA aR k l).map (ao.tw lo))[i]? = some ((bA (kL aR k (l.take i)) l[i]).tw lo) := fun i h => by
   simp only [List.getElem?_map, fW (mk := bA) (nx := aR) (k := k) h]; rfl
 generalize (mkL bA aR k l).map (ao.tw lo) = rows at hrl hgr |-
 repeat' refine W_ ?_
 apply aj (X := Nat) [0] (fun x => [(5, .int .i64 (x : Int)), (1, .int .i64 (kL aR k (l.take x)))]) (fun _ => []) (fun x => x <= l.length) (fun x => l.length - x) 0 (Nat.zero_le _)
 exact kp_; exact nw_
 ·exact .refl _
 intro i hi
 try dsimp only
 have hq := aV (k := k) (i := i) hn (fy hsm) hi
 by_cases hlt : i < l.length
 ·have hrow := hgr i hlt
  have hks := cO (nx := aR) (k := k) hlt
  have hb := hsm _ (List.getElem_mem hlt)
  generalize kL aR k (l.take i) = q at hq hrow hks |-
  generalize l[i] = x at hrow hks hb
  replace hrow : rows[i]? = some [.int .i64 (q), .int .i64 (q + 1), .int .i64 (q + 1 + 1), .int .i64 (q + 1 + 1 + 1), .int .i64 (q + 1 + 1 + 1 + 1), .int .i64 (q + 1 + 1 + 1 + 1 + 1), .int .i64 (q + 1 + 1 + 1 + 1 + 1 + 1), .int .i64 (q + 1 + 1 + 1 + 1 + 1 + 1 + 1), .str (dN (q + 1 + 1 + 1 + 1 + 1 + 1 + 1 + 1)), .sl lo 3 ((mkL cU aD (q + 1 + 1 + 1 + 1 + 1 + 1 + 1 + 1 + 1) x.slots).map (ad.tw lo)), .sl lo 3 ((mkL cU aD (kL aD (q + 1 + 1 + 1 + 1 + 1 + 1 + 1 + 1 + 1) x.slots) x.stack).map (ad.tw lo)), .sl lo 3 ((mkL cU aD (kL aD (kL aD (q + 1 + 1 + 1 + 1 + 1 + 1 + 1 + 1 + 1) x.slots) x.stack) x.values).map (ad.tw lo)), .int .i64 (kL aD (kL aD (kL aD (q + 1 + 1 + 1 + 1 + 1 + 1 + 1 + 1 + 1) x.slots) x.stack) x.values), .bool (decide ((kL aD (kL aD (kL aD (q + 1 + 1 + 1 + 1 + 1 + 1 + 1 + 1 + 1) x.slots) x.stack) x.values + 1).tmod 3 = 0))] := hrow
  have hln0 : x.slots.length <= 1048576 := hb.2.1.1
  have hinr0 := gW (nx := aD) (l := x.slots) (k := q + 1 + 1 + 1 + 1 + 1 + 1 + 1 + 1 + 1) (cq _)
  have hin0 := gA hst lo x.slots (q + 1 + 1 + 1 + 1 + 1 + 1 + 1 + 1 + 1) hb.2.1.1 (by omega)
  have hln1 : x.stack.length <= 1048576 := hb.2.2.1.1
  have hinr1 := gW (nx := aD) (l := x.stack) (k := kL aD (q + 1 + 1 + 1 + 1 + 1 + 1 + 1 + 1 + 1) x.slots) (cq _)
  have hin1 := gA hst lo x.stack (kL aD (q + 1 + 1 + 1 + 1 + 1 + 1 + 1 + 1 + 1) x.slots) hb.2.2.1.1 (by omega)
  have hln2 : x.values.length <= 1048576 := hb.2.2.2.1
  have hinr2 := gW (nx := aD) (l := x.values) (k := kL aD (kL aD (q + 1 + 1 + 1 + 1 + 1 + 1 + 1 + 1 + 1) x.slots) x.stack) (cq _)
  have hin2 := gA hst lo x.values (kL aD (kL aD (q + 1 + 1 + 1 + 1 + 1 + 1 + 1 + 1 + 1) x.slots) x.stack) hb.2.2.2.1 (by omega)
  have hi20 : ¬ (kL aD (kL aD (kL aD (q + 1 + 1 + 1 + 1 + 1 + 1 + 1 + 1 + 1) x.slots) x.stack) x.values) ≠ (kL aD (kL aD (kL aD (q + 1 + 1 + 1 + 1 + 1 + 1 + 1 + 1 + 1) x.slots) x.stack) x.values) := fun h => h rfl
  have hb21 : (decide ((kL aD (kL aD (kL aD (q + 1 + 1 + 1 + 1 + 1 + 1 + 1 + 1 + 1) x.slots) x.stack) x.values + 1).tmod 3 = 0) != decide ((kL aD (kL aD (kL aD (q + 1 + 1 + 1 + 1 + 1 + 1 + 1 + 1 + 1) x.slots) x.stack) x.values + 1).tmod 3 = 0)) = false := by simp
  have hks2 : kL aR k (l.take (i + 1)) = kL aD (kL aD (kL aD (q + 1 + 1 + 1 + 1 + 1 + 1 + 1 + 1 + 1) x.slots) x.stack) x.values + 1 + 1 := hks
  have hi0 : ¬ (q) ≠ (q) := fun h => h rfl
  have hi1 : ¬ (q + 1) ≠ (q + 1) := fun h => h rfl
  have hi2 : ¬ (q + 1 + 1) ≠ (q + 1 + 1) := fun h => h rfl
  have hi3 : ¬ (q + 1 + 1 + 1) ≠ (q + 1 + 1 + 1) := fun h => h rfl
  have hi4 : ¬ (q + 1 + 1 + 1 + 1) ≠ (q + 1 + 1 + 1 + 1) := fun h => h rfl
  have hi5 : ¬ (q + 1 + 1 + 1 + 1 + 1) ≠ (q + 1 + 1 + 1 + 1 + 1) := fun h => h rfl
  have hi6 : ¬ (q + 1 + 1 + 1 + 1 + 1 + 1) ≠ (q + 1 + 1 + 1 + 1 + 1 + 1) := fun h => h rfl
  have hi7 : ¬ (q + 1 + 1 + 1 + 1 + 1 + 1 + 1) ≠ (q + 1 + 1 + 1 + 1 + 1 + 1 + 1) := fun h => h rfl
  have hs8 : ¬ dN (q + 1 + 1 + 1 + 1 + 1 + 1 + 1 + 1) ≠ dN (q + 1 + 1 + 1 + 1 + 1 + 1 + 1 + 1) := fun h => h rfl
  have hm8 := bS (G := G) (q + 1 + 1 + 1 + 1 + 1 + 1 + 1 + 1) (by omega) (by omega)
  repeat' (first | refine V_ ?_ | refine ab hG hst (hin0) ?_ | refine ab hG hst (hin1) ?_ | refine ab hG hst (hin2) ?_ | refine ae hG hst (hm8) ?_ | refine c_ (fun hc => ?_) (fun hc => ?_))
  all_goals first
    | exact ag (i + 1) (by omega) (by omega) (.of _ (cw.envCons rfl (cw.envCons (dB rfl (by rw [hks2])) cw.envNil)) od_ pk_)
    | (exfalso; simp_all; done)
    | (exfalso; omega)
 ·obtain rfl : i = l.length := by omega
  rw [List.take_length]
  repeat' refine W_ ?_
  exact r1_
theorem vz (hst : ay G) (lo : Nat) (x : aP) (hb : x.small 1048576) (k : Int) (hk : 0 <= k /\ k <= 60000000000000) : Ct Tryz.prog G 73 [.agg ((fE k x).tw lo), .int .i64 k] (fun _ => .int .i64 (dA k x)) := by
 refine ap Tryz.func73 rfl Tryz.ntmps73 rfl rfl fun w0 _ hG => ?_
 have h1 := aV (k := k) (i := x.classes.length) hb.1.1 (cA hb.1.2) (Nat.le_refl _)
 have h2 := aV (k := kL aC k x.classes) (i := x.objects.length) hb.2.1.1 (f9 hb.2.1.2) (Nat.le_refl _)
 have h3 := aV (k := kL aY (kL aC k x.classes) x.objects) (i := x.output.length) hb.2.2.1 (eY x.output) (Nat.le_refl _)
 rw [List.take_length] at h1 h2 h3
 have c1 := iM hst lo x.classes k hb.1 (by omega)
 have c2 := qY hst lo x.objects (kL aC k x.classes) hb.2.1 (by omega)
 have c3 := kQ hst lo x.output (kL aY (kL aC k x.classes) x.objects) hb.2.2.1 (by omega)
 unfold aP.tw fE dA
 dsimp only
 repeat' (first | refine W_ ?_ | refine aL ?_ | refine ab hG hst (c1) ?_ | refine ab hG hst (c2) ?_ | refine ab hG hst (c3) ?_)
 exact r1_
theorem n9 (hst : ay G) (lo : Nat) (x : ak) (hb : x.small 1048576) (k : Int) (hk : 0 <= k /\ k <= 50000000000000) : Ct Tryz.prog G 20 [.agg ((ez k x).tw lo), .int .i64 k] (fun _ => .int .i64 (iE k x)) := by
 refine ap Tryz.func20 rfl Tryz.ntmps20 rfl rfl fun w0 _ hG => ?_
 have h1 := im hb.1 k
 have h2 := lN hb.2.1 (a7 k x.base)
 have c1 := pd hst lo x.base hb.1 k (by omega)
 have c2 := vz hst lo x.store hb.2.1 (a7 k x.base) (by omega)
 unfold iE ak.tw ez
 dsimp only
 generalize cP k x.base = u1 at c1 |-
 generalize fE (a7 k x.base) x.store = u2 at c2 |-
 generalize dA (a7 k x.base) x.store = q2 at h2 c2 |-
 generalize a7 k x.base = q1 at h1 h2 c1 c2 |-
 have h3 := aV (k := q2) (i := x.blocks.length) hb.2.2.1.1 (fq x.blocks) (Nat.le_refl _)
 rw [List.take_length] at h3
 have c3 := pB hst lo x.blocks q2 hb.2.2.1.1 (by omega)
 generalize kL aQ q2 x.blocks = q3 at h3 c3 |-
 have h4 := aV (k := q3) (i := x.contexts.length) hb.2.2.2.1.1 (fy hb.2.2.2.1.2) (Nat.le_refl _)
 rw [List.take_length] at h4
 have c4 := pF hst lo x.contexts q3 hb.2.2.2.1 (by omega)
 generalize kL aR q3 x.contexts = q4 at h4 c4 |-
 have h5 := aV (k := q4) (i := x.processes.length) hb.2.2.2.2.1.1 (fr x.processes) (Nat.le_refl _)
 rw [List.take_length] at h5
 have c5 := pK hst lo x.processes q4 hb.2.2.2.2.1.1 (by omega)
 generalize kL aT q4 x.processes = q5 at h5 c5 |-
 have h6 := aV (k := q5) (i := x.ready.length) hb.2.2.2.2.2.1 (jF x.ready) (Nat.le_refl _)
 rw [List.take_length] at h6
 have c6 := qc hst lo x.ready q5 hb.2.2.2.2.2.1 (by omega)
 unfold aB.tw at c1
 unfold aP.tw at c2
 repeat' (first | refine W_ ?_ | refine aL ?_ | refine ab hG hst (c1) ?_ | refine ab hG hst (c2) ?_ | refine ab hG hst (c3) ?_ | refine ab hG hst (c4) ?_ | refine ab hG hst (c5) ?_ | refine ab hG hst (c6) ?_)
 exact r1_
end
end Go.Proofs.YtiihihgjiklnoaaGreatDoor
