/- Part 38 of the proof. -/
import Derived.Test.YtiihihgjiklnoaaGreatDoorRd24
import Derived.Test.YtiihihgjiklnoaaGreatDoorRd8
import Derived.Test.YtiihihgjiklnoaaGreatDoorRd35
set_option maxHeartbeats 4000000
set_option maxRecDepth 20000
namespace Go.Proofs.YtiihihgjiklnoaaGreatDoor
open Go Go.RowKit
open Classical in
noncomputable def tS (a b : List aa) : Bool := decide (a = b)
open Classical in
theorem mU {a b : List aa} (h : ¬ a = b) : tS a b = false := decide_eq_false h
open Classical in
theorem sI {a b : List aa} (h : a = b) : tS a b = true := decide_eq_true h
theorem yY {x y : aa} (h1 : x.name = y.name) (h2 : x.parent = y.parent) (h3 : x.fields = y.fields) : x = y := by
 cases x; cases y; simp_all
theorem fS {α : Type} {a b : List α} {i : Nat} (ha : i < a.length) (hb : i < b.length) (h : a.take i = b.take i) (e : a[i] = b[i]) : a.take (i + 1) = b.take (i + 1) := by
 rw [jp ha, jp hb, h, e]
section
variable {G : World -> Prop}
theorem ua (hst : ay G) (l1 l2 : Nat) (a b : List aa) (ha : a.length <= 1048576 /\ ∀ y ∈ a, aa.small 1048576 y) (hb : b.length <= 1048576 /\ ∀ y ∈ b, aa.small 1048576 y) : Ct Tryz.prog G 161 [.sl l1 3 (a.map (aa.tw l1)), .sl l2 3 (b.map (aa.tw l2))] (fun _ => .bool (tS a b)) := by
 refine ak Tryz.func161 rfl Tryz.ntmps161 rfl rfl fun w0 _ hG => ?_
 have hla := aa.len l1 a
 have hlb := aa.len l2 b
 have ha1 := ha.1
 have hb1 := hb.1
 by_cases hl : a.length = b.length
 case neg =>
   rw [mU fun e => hl (by rw [e])]
   repeat' refine W_ ?_
   exact r1_
 repeat' refine W_ ?_
 apply am (X := Nat) [0, 1] (fun i => [(5, .int .i64 (i : Int))]) (fun _ => []) (fun i => i <= a.length /\ a.take i = b.take i) (fun i => a.length - i) 0 ⟨Nat.zero_le _, by simp⟩
 exact kp_; exact nw_
 ·exact .refl _
 rintro i ⟨hi, hs⟩
 try dsimp only
 by_cases hlt : i < a.length
 ·have hr1 := gD (lo := l1) hlt
  have hlt2 : i < b.length := by omega
  have hr2 := gD (lo := l2) hlt2
  have hta := fS hlt hlt2 hs
  have hne : a[i] ≠ b[i] -> tS a b = false := fun h => mU fun e => h (by subst e; rfl)
  have hsa := (ha.2 _ (List.getElem_mem hlt)).2.1
  have hsb := (hb.2 _ (List.getElem_mem hlt2)).2.1
  have hce := yY (x := a[i]) (y := b[i])
  generalize a[i] = x at hr1 hta hne hsa hce
  generalize b[i] = y at hr2 hta hne hsb hce
  have c1 := gG (G := G) l1 l2 x.fields y.fields hsa hsb
  by_cases h1 : x.name = y.name
  case neg =>
    have h1' : x.name ≠ y.name := h1
    rw [hne fun e => h1 (by rw [e])]
    repeat' refine V_ ?_
    exact r1_
  have h1' : ¬ x.name ≠ y.name := fun h => h h1
  by_cases h2 : x.parent = y.parent
  case neg =>
    have h2' : x.parent ≠ y.parent := h2
    rw [hne fun e => h2 (by rw [e])]
    repeat' refine V_ ?_
    exact r1_
  have h2' : ¬ x.parent ≠ y.parent := fun h => h h2
  by_cases h3 : x.fields = y.fields
  case neg =>
    rw [decide_eq_false h3] at c1
    rw [hne fun e => h3 (by rw [e])]
    repeat' (first | refine V_ ?_ | refine ae hG hst (c1) ?_)
    exact r1_
  rw [decide_eq_true h3] at c1
  repeat' (first | refine V_ ?_ | refine ae hG hst (c1) ?_)
  exact ah (i + 1) ⟨by omega, hta (hce h1 h2 h3)⟩ (by omega) (.of _ nw_ od_ pk_)
 ·rw [List.take_of_length_le (by omega), List.take_of_length_le (by omega)] at hs
  rw [sI hs]
  repeat' refine W_ ?_
  exact r1_
theorem md (l1 l2 : Nat) (a b : List aa) (ha : a.length <= 1048576 /\ ∀ y ∈ a, aa.small 1048576 y) (hb : b.length <= 1048576 /\ ∀ y ∈ b, aa.small 1048576 y) : Ct Tryz.prog G 178 [.sl l1 3 (a.map (aa.tw l1)), .sl l2 3 (b.map (aa.tw l2))] (fun _ => .bool (tS a b)) := by
 refine ak Tryz.func178 rfl Tryz.ntmps178 rfl rfl fun w0 _ hG => ?_
 have hla := aa.len l1 a
 have hlb := aa.len l2 b
 have ha1 := ha.1
 have hb1 := hb.1
 by_cases hl : a.length = b.length
 case neg =>
   rw [mU fun e => hl (by rw [e])]
   repeat' refine W_ ?_
   exact r1_
 repeat' refine W_ ?_
 apply am (X := Nat) [0, 1, 13] (fun i => [(14, .int .i64 (i : Int))]) (fun _ => []) (fun i => i <= a.length /\ a.take i = b.take i) (fun i => a.length - i) 0 ⟨Nat.zero_le _, by simp⟩
 exact kp_; exact nw_
 ·exact .refl _
 rintro i ⟨hi, hs⟩
 try dsimp only
 by_cases hlt : i < a.length
 ·have hr1 := gD (lo := l1) hlt
  have hlt2 : i < b.length := by omega
  have hr2 := gD (lo := l2) hlt2
  have hta := fS hlt hlt2 hs
  have hne : a[i] ≠ b[i] -> tS a b = false := fun h => mU fun e => h (by subst e; rfl)
  have hsa := (ha.2 _ (List.getElem_mem hlt)).2.1
  have hsb := (hb.2 _ (List.getElem_mem hlt2)).2.1
  have hce := yY (x := a[i]) (y := b[i])
  generalize a[i] = x at hr1 hta hne hsa hce
  generalize b[i] = y at hr2 hta hne hsb hce
  have hxl := bL x.fields
  have hyl := bL y.fields
  by_cases h1 : x.name = y.name
  case neg =>
    have h1' : x.name ≠ y.name := h1
    rw [hne fun e => h1 (by rw [e])]
    repeat' refine V_ ?_
    exact r1_
  have h1' : ¬ x.name ≠ y.name := fun h => h h1
  by_cases h2 : x.parent = y.parent
  case neg =>
    have h2' : x.parent ≠ y.parent := h2
    rw [hne fun e => h2 (by rw [e])]
    repeat' refine V_ ?_
    exact r1_
  have h2' : ¬ x.parent ≠ y.parent := fun h => h h2
  by_cases h3 : x.fields.length = y.fields.length
  case neg =>
    have h3' : (x.fields.length : Int) ≠ y.fields.length := by omega
    rw [hne fun e => h3 (by rw [e])]
    repeat' refine V_ ?_
    exact r1_
  have h3' : ¬ (x.fields.length : Int) ≠ y.fields.length := by omega
  repeat' refine V_ ?_
  apply am (X := Nat) [0, 1, 13, 14, 5, 61] (fun k => [(62, .int .i64 (k : Int))]) (fun _ => []) (fun k => k <= x.fields.length /\ x.fields.take k = y.fields.take k) (fun k => x.fields.length - k) 0 ⟨Nat.zero_le _, by simp⟩
  exact kp_; exact nw_
  ·exact .refl _
  rintro k ⟨hk, hks⟩
  try dsimp only
  by_cases hkt : k < x.fields.length
  ·have hkt2 : k < y.fields.length := by omega
   have hs1 := kx hkt
   have hs2 := kx hkt2
   have htk := fS hkt hkt2 hks
   have hnf : x.fields[k] ≠ y.fields[k] -> x ≠ y := fun h e => h (by subst e; rfl)
   generalize x.fields[k] = u at hs1 htk hnf
   generalize y.fields[k] = v at hs2 htk hnf
   by_cases h4 : u = v
   case neg =>
     have h4' : u ≠ v := h4
     rw [hne (hnf h4)]
     repeat' refine V_ ?_
     exact r1_
   have h4' : ¬ u ≠ v := fun h => h h4
   repeat' refine V_ ?_
   exact ah (k + 1) ⟨by omega, htk h4⟩ (by omega) (.of _ nw_ od_ pk_)
  ·rw [List.take_of_length_le (by omega), List.take_of_length_le (by omega)] at hks
   repeat' refine W_ ?_
   exact ah (i + 1) ⟨by omega, hta (hce h1 h2 hks)⟩ (by omega) (.of _ nw_ od_ pk_)
 ·rw [List.take_of_length_le (by omega), List.take_of_length_le (by omega)] at hs
  rw [sI hs]
  repeat' refine W_ ?_
  exact r1_
end
structure aa8 (m : ag) : Prop where
 ver : cD m.base = true
 same : m.base.classes = m.store.classes
 store : gY m.store m.blocks.length = true
 made : (m.store.objects.length : Int) + m.blocks.length <= m.store.made
 status : inR m.status 0 5 = true
 procs : inR m.processes.length 1 20 = true
 now : inR m.now 0 ((m.processes.length : Int) - 1) = true
 value : gV m m.value
 fault : ep m.fault = true
 outs : ∀ o, dM m.base.codes = some o -> zg m o
 ats : ∀ p ∈ m.processes, inR p.at_ (-1) ((m.contexts.length : Int) - 1) = true
 live : qf m (lu m ++ m.ready ++ qS m)
 exc : ∀ o ∈ m.store.objects, sy m o
open Classical in
noncomputable def di (m : ag) : Bool := decide (aa8 m)
open Classical in
theorem w9 {m : ag} (h : ¬ aa8 m) : di m = false := decide_eq_false h
open Classical in
theorem xh {m : ag} (h : aa8 m) : di m = true := decide_eq_true h
theorem j9 {st : aL} {nb : Int} (h : gY st nb = true) : bC st.classes = true /\ st.objects.length <= 800 /\ ∀ o ∈ st.objects, o.kind = 3 -> 1 <= o.numbers.length := by
 unfold gY at h
 simp only [Bool.and_eq_true] at h
 obtain ⟨h1, h2, _, _, _, _, h7⟩ := h
 have h2 := of_decide_eq_true h2
 refine ⟨h1, by omega, fun o ho h3 => ?_⟩
 have h8 := List.all_eq_true.1 h7 o ho
 unfold eL at h8
 simp only [Bool.and_eq_true] at h8
 have h9 := h8.2
 rw [if_neg (by omega), if_neg (by omega), if_pos h3] at h9
 exact (of_decide_eq_true h9).2.2.1
open Classical in
theorem fa {x : aC} (h : cD x = true) : 1 <= x.codes.length /\ ∃ o, dM x.codes = some o /\ o.length = x.codes.length := by
 have hp : eN x := of_decide_eq_true h
 obtain ⟨o, ho, _⟩ := hp.2.2.2.2
 have h1 := of_decide_eq_true hp.2.2.1.1
 exact ⟨by omega, o, ho, (iA ho).1.1⟩
inductive Nd
 | obj (n : Nat)
 | blk (n : Nat)
 | ctx (n : Nat)
 | prc (n : Nat)
def dn (v : ab) : List Nd := if v.kind = 6 then [.obj v.number.toNat] else if v.kind = 7 then [.blk v.number.toNat] else []
def dE (k : Int) : List Nd := if 0 <= k then [.ctx k.toNat] else []
def ve (o : ar) : List Nd := o.fields.flatMap dn ++ ((if o.kind = 1 then (o.numbers.take 2).flatMap dE else []) ++ (if o.kind = 3 then (o.numbers.drop 1).map (fun p => .prc p.toNat) else []))
def cxN (c : ao) : List Nd := dE c.sender ++ (dE c.outer ++ (dE c.home ++ ((if c.mark = 3 \/ c.mark = 5 then dE c.other else []) ++ (dn c.self ++ (c.slots.flatMap dn ++ (c.stack.flatMap dn ++ c.values.flatMap dn))))))
def gy (m : ag) : Nd -> List Nd
 | .obj n => match m.store.objects[n]? with | some o => ve o | none => []
 | .blk n => match m.blocks[n]? with | some b => dE b.outer ++ dn b.self | none => []
 | .ctx n => match m.contexts[n]? with | some c => cxN c | none => []
 | .prc n => match m.processes[n]? with | some p => dE p.at_ | none => []
def i7 (m : ag) : List Nd := (if m.status = 0 then [.prc m.now.toNat] else []) ++ (m.ready.map (fun p => .prc p.toNat) ++ dn m.value)
inductive Rch (m : ag) : Nd -> Prop
 | root (x : Nd) (h : x ∈ i7 m) : Rch m x
 | step (x y : Nd) (h : Rch m x) (hs : y ∈ gy m x) : Rch m y
structure Mk4 where
 o : List Bool
 b : List Bool
 c : List Bool
 p : List Bool
def Mk4.has (s : Mk4) : Nd -> Prop
 | .obj n => s.o[n]? = some true
 | .blk n => s.b[n]? = some true
 | .ctx n => s.c[n]? = some true
 | .prc n => s.p[n]? = some true
def Mk4.set (s : Mk4) : Nd -> Mk4
 | .obj n => ⟨s.o.set n true, s.b, s.c, s.p⟩
 | .blk n => ⟨s.o, s.b.set n true, s.c, s.p⟩
 | .ctx n => ⟨s.o, s.b, s.c.set n true, s.p⟩
 | .prc n => ⟨s.o, s.b, s.c, s.p.set n true⟩
def Mk4.fits (s : Mk4) (m : ag) : Prop := s.o.length = m.store.objects.length /\ s.b.length = m.blocks.length /\ s.c.length = m.contexts.length /\ s.p.length = m.processes.length
def inN (m : ag) : Nd -> Prop
 | .obj n => n < m.store.objects.length
 | .blk n => n < m.blocks.length
 | .ctx n => n < m.contexts.length
 | .prc n => n < m.processes.length
theorem Mk4.set_fits {s : Mk4} {m : ag} (h : s.fits m) (x : Nd) : (s.set x).fits m := by
 obtain ⟨h1, h2, h3, h4⟩ := h
 cases x <;> simp [Mk4.set, Mk4.fits, *]
theorem zF {l : List Bool} {n k : Nat} : (l.set n true)[k]? = some true ↔ l[k]? = some true \/ (k = n /\ n < l.length) := by
 rw [List.getElem?_set]
 by_cases h : n = k
 ·subst h
  rw [if_pos rfl]
  by_cases h2 : n < l.length
  ·simp [h2]
  ·simp [h2]
 ·rw [if_neg h]
  constructor
  ·exact .inl
  ·rintro (h2 | ⟨h2, _⟩)
   ·exact h2
   ·exact absurd h2.symm h
theorem Mk4.has_set {s : Mk4} {m : ag} (h : s.fits m) {x : Nd} (hx : inN m x) {y : Nd} : (s.set x).has y ↔ s.has y \/ y = x := by
 obtain ⟨h1, h2, h3, h4⟩ := h
 cases x <;> cases y <;> simp only [Mk4.set, Mk4.has, inN, zF, Nd.obj.injEq, Nd.blk.injEq, Nd.ctx.injEq, Nd.prc.injEq, reduceCtorEq, or_false] at hx |-
 all_goals
   constructor
   ·rintro (h | ⟨h, _⟩)
    ·exact .inl h
    ·exact .inr h
   ·rintro (h | h)
    ·exact .inl h
    ·exact .inr ⟨h, by omega⟩
structure eZ (m : ag) (L : List Nd) (s t : Mk4) : Prop where
 fits : t.fits m
 mono : ∀ x, s.has x -> t.has x
 all : ∀ x ∈ L, t.has x
 new : ∀ x, t.has x -> s.has x \/ (Rch m x /\ ∀ y ∈ gy m x, t.has y)
theorem eZ.refl {m : ag} {L : List Nd} {s : Mk4} (hf : s.fits m) (h : ∀ x ∈ L, s.has x) : eZ m L s s := ⟨hf, fun _ h => h, h, fun _ h => .inl h⟩
theorem eZ.trans {m : ag} {L K : List Nd} {s t u : Mk4} (h : eZ m L s t) (k : eZ m K t u) : eZ m (L ++ K) s u :=
 ⟨k.fits, fun x hx => k.mono x (h.mono x hx), fun x hx => by
   rcases List.mem_append.1 hx with hx | hx
   ·exact k.mono x (h.all x hx)
   ·exact k.all x hx, fun x hx => by
   rcases k.new x hx with hx | hx
   ·rcases h.new x hx with hx | hx
    ·exact .inl hx
    ·exact .inr ⟨hx.1, fun y hy => k.mono y (hx.2 y hy)⟩
   ·exact .inr hx⟩
theorem eZ.mark {m : ag} {s t : Mk4} {x : Nd} (hs : s.fits m) (hx : inN m x) (hr : Rch m x) (h : eZ m (gy m x) (s.set x) t) : eZ m [x] s t :=
 ⟨h.fits, fun y hy => h.mono y ((Mk4.has_set hs hx).2 (.inl hy)), fun y hy => by
   rw [List.mem_singleton] at hy
   exact h.mono y ((Mk4.has_set hs hx).2 (.inr hy)), fun y hy => by
   rcases h.new y hy with hy | hy
   ·rcases (Mk4.has_set hs hx).1 hy with hy | rfl
    ·exact .inl hy
    ·exact .inr ⟨hr, h.all⟩
   ·exact .inr hy⟩
theorem eZ.sub {m : ag} {L K : List Nd} {s t : Mk4} (h : eZ m L s t) (hk : ∀ x ∈ K, x ∈ L) : eZ m K s t := ⟨h.fits, h.mono, fun x hx => h.all x (hk x hx), h.new⟩
structure wT (m : ag) (t : Mk4) : Prop where
 fits : t.fits m
 iff : ∀ x, t.has x ↔ Rch m x
def fr (m : ag) : Mk4 := ⟨List.replicate m.store.objects.length false, List.replicate m.blocks.length false, List.replicate m.contexts.length false, List.replicate m.processes.length false⟩
theorem lR {m : ag} {x : Nd} : ¬ (fr m).has x := by
 cases x <;> simp [fr, Mk4.has, List.getElem?_replicate]
theorem eZ.full {m : ag} {t : Mk4} (h : eZ m (i7 m) (fr m) t) : wT m t :=
 ⟨h.fits, fun x => ⟨fun hx => by
   rcases h.new x hx with hx | hx
   ·exact absurd hx lR
   ·exact hx.1, fun hx => by
   induction hx with
   | root x hx => exact h.all x hx
   | step x y _ hs ih =>
     rcases h.new x ih with hx | hx
     ·exact absurd hx lR
     ·exact hx.2 y hs⟩⟩
theorem iT {a b : List Bool} (hl : a.length = b.length) (h : ∀ n : Nat, a[n]? = some true ↔ b[n]? = some true) : a = b := by
 apply List.ext_getElem hl
 intro n h1 h2
 have := h n
 rw [List.getElem?_eq_getElem h1, List.getElem?_eq_getElem h2] at this
 cases ha : a[n] <;> cases hb : b[n] <;> simp_all
theorem wT.eq {m : ag} {s t : Mk4} (h : wT m s) (k : wT m t) : s = t := by
 obtain ⟨f1, f2, f3, f4⟩ := h.fits
 obtain ⟨g1, g2, g3, g4⟩ := k.fits
 have e := fun x => (h.iff x).trans (k.iff x).symm
 cases s; cases t
 simp only [Mk4.mk.injEq]
 exact ⟨iT (f1.trans g1.symm) fun n => e (.obj n), iT (f2.trans g2.symm) fun n => e (.blk n), iT (f3.trans g3.symm) fun n => e (.ctx n), iT (f4.trans g4.symm) fun n => e (.prc n)⟩
end Go.Proofs.YtiihihgjiklnoaaGreatDoor
