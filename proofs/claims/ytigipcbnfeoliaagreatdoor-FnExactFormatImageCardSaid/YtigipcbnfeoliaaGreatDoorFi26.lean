/- Part 26 of the proof: the texts ImB, ImF, ImC, ImG. -/
import Derived.Test.YtigipcbnfeoliaaGreatDoorFi21
import Derived.Test.YtigipcbnfeoliaaGreatDoorFi23
import Derived.Test.YtigipcbnfeoliaaGreatDoorFi3
set_option linter.all false
set_option maxHeartbeats 2000000
set_option maxRecDepth 20000
namespace Go.Proofs.YtigipcbnfeoliaaGreatDoor
open Go Go.RowKit
inductive IsB (cl : List aa) (a : Int) : Int -> Prop
 | here : IsB cl a a
 | up (k : Nat) (h : k < cl.length) (hne : (k : Int) ≠ a) (hr : IsB cl a cl[k].parent) : IsB cl a k
theorem xz {cl : List aa} {a : Int} {k : Nat} (h : k < cl.length) (hne : (k : Int) ≠ a) : IsB cl a k ↔ IsB cl a cl[k].parent := by
 constructor
 ·intro hb
  generalize hk : (k : Int) = q at hb
  cases hb with
  | here => exact absurd hk hne
  | up k' h' hne' hr =>
    obtain rfl : k = k' := by omega
    exact hr
 ·exact .up k h hne
theorem z7 {cl : List aa} {a k : Int} (h : k < 0) : IsB cl a k ↔ k = a := by
 constructor
 ·intro hb
  cases hb with
  | here => rfl
  | up k' h' hne' hr => omega
 ·rintro rfl; exact .here
theorem adw {cl : List aa} {a : Int} {k : Int} (h : (cl.length : Int) <= k) : IsB cl a k ↔ k = a := by
 constructor
 ·intro hb
  cases hb with
  | here => rfl
  | up k' h' hne' hr => omega
 ·rintro rfl; exact .here
open Classical in
noncomputable def uZ (cl : List aa) (a k : Int) : Bool := decide (IsB cl a k)
def gA (cl : List aa) : Prop := ∀ (i : Nat) (h : i < cl.length), -1 <= cl[i].parent /\ cl[i].parent < i
theorem vy : ∀ (i : Nat) (h : i < 16), ∀ b, bI[i]? = some b -> -1 <= b.parent /\ b.parent < i := by
 intro i h b hb
 match i, h with
 | 0, _ => cases hb; decide
 | 1, _ => cases hb; decide
 | 2, _ => cases hb; decide
 | 3, _ => cases hb; decide
 | 4, _ => cases hb; decide
 | 5, _ => cases hb; decide
 | 6, _ => cases hb; decide
 | 7, _ => cases hb; decide
 | 8, _ => cases hb; decide
 | 9, _ => cases hb; decide
 | 10, _ => cases hb; decide
 | 11, _ => cases hb; decide
 | 12, _ => cases hb; decide
 | 13, _ => cases hb; decide
 | 14, _ => cases hb; decide
 | 15, _ => cases hb; decide
 | n + 16, h => omega
open Classical in
theorem kR {cl : List aa} (h : bS cl = true) : qu cl := of_decide_eq_true h
theorem sr {cl : List aa} (h : bS cl = true) : gA cl := fun i hi => by
 have h1 := (kR h).2 i hi
 unfold en at h1
 split at h1
 ·rename_i h16
  obtain ⟨b, hb, _, hp, _⟩ := h1
  rw [hp]
  exact vy i h16 b hb
 ·have := h1.1.2.1
  omega
section
variable {G : World -> Prop}
theorem gu {lo : Nat} {l : List aa} {i : Nat} (h : i < l.length) : (l.map (aa.tw lo))[i]? = some [.str l[i].name, .int .i64 l[i].parent, .sl lo 1 (aT l[i].fields)] := aL h
open Classical in
theorem qv (lo : Nat) (cl : List aa) (hcl : gA cl) (k0 a : Int) (hk0 : -1 <= k0 /\ k0 < cl.length) : Ct Tryz.prog G 274 [.sl lo 3 (cl.map (aa.tw lo)), .int .i64 k0, .int .i64 a] (fun _ => .bool (uZ cl a k0)) := by
 refine aq Tryz.func274 rfl Tryz.ntmps274 rfl rfl fun w0 _ hG => ?_
 have hlen := aa.len lo cl
 repeat' refine W_ ?_
 apply ai (X := Int) [0, 2] (fun k => [(1, .int .i64 k)]) (fun _ => []) (fun k => (-1 <= k /\ k < cl.length) /\ (IsB cl a k0 ↔ IsB cl a k)) (fun k => (k + 1).toNat) k0 ⟨hk0, Iff.rfl⟩
 exact kp_; exact nw_
 ·exact .refl _
 rintro k ⟨hk, hiff⟩
 try dsimp only
 by_cases hneg : k < 0
 ·have e : uZ cl a k0 = decide (k = a) := decide_eq_decide.2 (hiff.trans (z7 hneg))
  rw [e]
  repeat' refine W_ ?_
  refine aD x_ rfl (.tmp _ _ rfl) (fun _ => ?_)
  exact aI rfl
 obtain ⟨n, rfl⟩ : ∃ n : Nat, k = n := ⟨k.toNat, by omega⟩
 have hn : n < cl.length := by omega
 by_cases hka : (n : Int) = a
 ·have e : uZ cl a k0 = true := decide_eq_true (hiff.2 (hka ▸ .here))
  have hne : ¬ ((n : Int) ≠ a) := fun h => h hka
  rw [e]
  repeat' refine W_ ?_
  refine aD x_ rfl (.tmp _ _ rfl) (fun _ => ?_)
  exact aI (decide_eq_true hka)
 ·have hrow := gu (lo := lo) hn
  have hp := hcl n hn
  have hst2 := hiff.trans (xz hn hka)
  have hne : (n : Int) ≠ a := hka
  generalize cl[n] = c at hrow hp hst2
  repeat' refine W_ ?_
  exact ah c.parent ⟨by omega, hst2⟩ (by omega) (.of _ nw_ od_ pk_)
open Classical in
theorem xP (lo : Nat) (cl : List aa) (hcl : gA cl) (k0 a : Int) (ha : 0 <= a /\ a < cl.length) : Ct Tryz.prog G 252 [.sl lo 3 (cl.map (aa.tw lo)), .int .i64 k0, .int .i64 a] (fun _ => .bool (uZ cl a k0)) := by
 refine aq Tryz.func252 rfl Tryz.ntmps252 rfl rfl fun w0 _ hG => ?_
 have hlen := aa.len lo cl
 repeat' refine W_ ?_
 apply ai (X := Int) [0, 2] (fun k => [(1, .int .i64 k)]) (fun _ => []) (fun k => IsB cl a k0 ↔ IsB cl a k) (fun k => (k + 1).toNat) k0 Iff.rfl
 exact kp_; exact nw_
 ·exact .refl _
 rintro k hiff
 try dsimp only
 by_cases hneg : k < 0
 ·have e : uZ cl a k0 = false := decide_eq_false fun h => by have := (z7 hneg).1 (hiff.1 h); omega
  rw [e]
  repeat' refine W_ ?_
  exact r1_
 by_cases hbig : (cl.length : Int) <= k
 ·have e : uZ cl a k0 = false := decide_eq_false fun h => by have := (adw hbig).1 (hiff.1 h); omega
  rw [e]
  repeat' refine W_ ?_
  exact r1_
 obtain ⟨n, rfl⟩ : ∃ n : Nat, k = n := ⟨k.toNat, by omega⟩
 have hn : n < cl.length := by omega
 by_cases hka : (n : Int) = a
 ·have e : uZ cl a k0 = true := decide_eq_true (hiff.2 (hka ▸ .here))
  rw [e]
  repeat' refine W_ ?_
  exact r1_
 ·have hrow := gu (lo := lo) hn
  have hp := hcl n hn
  have hst2 := hiff.trans (xz hn hka)
  generalize cl[n] = c at hrow hp hst2
  repeat' refine W_ ?_
  exact ah c.parent hst2 (by omega) (.of _ nw_ od_ pk_)
end
def cw (st : aQ) (nb : Int) (x : ab) : Bool := kj x.kind x.number x.text && (if x.kind = 5 then decide (x.number < st.classes.length) else if x.kind = 6 then decide (x.number < st.objects.length) else if x.kind = 7 then decide (x.number < nb) else true)
theorem nQ (lo : Nat) (st : aQ) (nb : Int) (x : ab) (ht : x.text.size <= 1048576) : Ct Tryz.prog GL 154 [.agg (st.tw lo), .agg [.int .i64 x.kind, .int .i64 x.number, .str x.text], .int .i64 nb] (fun _ => .bool (cw st nb x)) := by
 refine aq Tryz.func154 rfl Tryz.ntmps154 rfl rfl fun w0 _ hG => ?_
 have hst := eg
 have hv := px x.kind x.number x.text ht
 have h1 := aa.len lo st.classes
 have h2 := au.len lo st.objects
 unfold cw
 unfold aQ.tw
 generalize kj x.kind x.number x.text = b at hv |-
 cases b with
 | false =>
   rw [Bool.false_and]
   repeat' (first | refine W_ ?_ | refine aJ ?_ | refine ac hG hst (hv) ?_)
   exact r1_
 | true =>
   rw [Bool.true_and]
   repeat' (first | refine W_ ?_ | refine aJ ?_ | refine ac hG hst (hv) ?_ | refine c_ (fun hc => ?_) (fun hc => ?_))
   all_goals
     refine aD x_ rfl (.tmp _ _ rfl) (fun _ => ?_)
     exact aI (by simp [*])
theorem f3 (f lo : Nat) (st : aQ) (nb : Int) (x : ab) (ht : x.text.size <= 1048576) : Ct Tryz.prog GL 104 [.cp f (st.tw lo), .agg [.int .i64 x.kind, .int .i64 x.number, .str x.text], .int .i64 nb] (fun _ => .bool (cw st nb x)) := by
 refine aq Tryz.func104 rfl Tryz.ntmps104 rfl rfl fun w0 _ hG => ?_
 have hst := eg
 have hv := gp x.kind x.number x.text ht
 have h1 := aa.len lo st.classes
 have h2 := au.len lo st.objects
 unfold cw
 unfold aQ.tw
 generalize kj x.kind x.number x.text = b at hv |-
 cases b with
 | false =>
   rw [Bool.false_and]
   repeat' (first | refine V_ ?_ | refine aJ ?_ | refine ac hG hst (hv) ?_)
   exact r1_
 | true =>
   rw [Bool.true_and]
   repeat' (first | refine V_ ?_ | refine aJ ?_ | refine ac hG hst (hv) ?_ | refine c_ (fun hc => ?_) (fun hc => ?_))
   all_goals
     refine aD x_ rfl (.tmp _ _ rfl) (fun _ => ?_)
     exact aI (by simp [*])
def cxA (m : ao) (k : Int) : Option aj := if 0 <= k then m.contexts[k.toNat]? else none
theorem ad8 {m : ao} {k : Int} (h : k < 0) : cxA m k = none := by unfold cxA; rw [if_neg (by omega)]
theorem mj {m : ao} {k : Nat} (h : k < m.contexts.length) : cxA m (k : Int) = some m.contexts[k] := by
 unfold cxA
 rw [if_pos (by omega), Int.toNat_natCast, List.getElem?_eq_getElem h]
theorem rW {m : ao} {k : Int} {c : aj} (h : cxA m k = some c) : 0 <= k /\ ∃ hk : k.toNat < m.contexts.length, m.contexts[k.toNat] = c := by
 unfold cxA at h
 split at h
 ·rename_i h0
  exact ⟨h0, List.getElem?_eq_some_iff.1 h⟩
 ·cases h
def cdA (m : ao) (k : Int) : Option aw := if 0 <= k then m.base.codes[k.toNat]? else none
theorem adg {m : ao} {k : Nat} (h : k < m.base.codes.length) : cdA m (k : Int) = some m.base.codes[k] := by
 unfold cdA
 rw [if_pos (by omega), Int.toNat_natCast, List.getElem?_eq_getElem h]
theorem acl {m : ao} {k : Int} {c : aw} (h : cdA m k = some c) : 0 <= k /\ ∃ hk : k.toNat < m.base.codes.length, m.base.codes[k.toNat] = c := by
 unfold cdA at h
 split at h
 ·rename_i h0
  exact ⟨h0, List.getElem?_eq_some_iff.1 h⟩
 ·cases h
def lu (m : ao) : Prop := ∀ (i : Nat) (h : i < m.contexts.length), -1 <= m.contexts[i].sender /\ m.contexts[i].sender < i
inductive OnW (m : ao) (a : Int) : Int -> Prop
 | here : OnW m a a
 | up (k : Nat) (h : k < m.contexts.length) (hne : (k : Int) ≠ a) (hr : OnW m a m.contexts[k].sender) : OnW m a k
theorem xm {m : ao} {a : Int} {k : Nat} (h : k < m.contexts.length) (hne : (k : Int) ≠ a) : OnW m a k ↔ OnW m a m.contexts[k].sender := by
 constructor
 ·intro hb
  generalize hk : (k : Int) = q at hb
  cases hb with
  | here => exact absurd hk hne
  | up k' h' hne' hr =>
    obtain rfl : k = k' := by omega
    exact hr
 ·exact .up k h hne
theorem aao {m : ao} {a k : Int} (h : k < 0) : OnW m a k ↔ k = a := by
 constructor
 ·intro hb
  cases hb with
  | here => rfl
  | up k' h' hne' hr => omega
 ·rintro rfl; exact .here
theorem aeX {m : ao} (hs : lu m) {a k : Int} (h : OnW m a k) (hk : k < m.contexts.length) : a < m.contexts.length := by
 induction h with
 | here => exact hk
 | up k h hne hr ih => exact ih (by have := hs k h; omega)
open Classical in
noncomputable def onB (m : ao) (a k : Int) : Bool := decide (OnW m a k)
def dps (x : aw) : List Int := (bT x.instrs).getD []
def adj (m : ao) (c : aj) (less : Int) : Bool := match cdA m c.code with
 | some x => decide (c.pc < x.instrs.length) && (decide (0 <= gd (dps x) c.pc) && decide ((c.stack.length : Int) = IntKind.i64.wrap (gd (dps x) c.pc - less)))
 | none => false
noncomputable def pd (m : ao) (c : aj) (less : Int) : Bool := if c.mark = 0 then adj m c less else if c.mark = 3 \/ c.mark = 5 then onB m c.other c.sender else true
inductive yz (m : ao) : Int -> Int -> Prop
 | out (less k : Int) (h : k < 0) : yz m less k
 | up (less : Int) (k : Nat) (h : k < m.contexts.length) (hs : pd m m.contexts[k] less = true) (hr : yz m 1 m.contexts[k].sender) : yz m less k
theorem nr {m : ao} {less : Int} {k : Nat} (h : k < m.contexts.length) : yz m less k ↔ pd m m.contexts[k] less = true /\ yz m 1 m.contexts[k].sender := by
 constructor
 ·intro hb
  generalize hk : (k : Int) = q at hb
  cases hb with
  | out l k' h' => omega
  | up l k' h' hs hr =>
    obtain rfl : k = k' := by omega
    exact ⟨hs, hr⟩
 ·rintro ⟨h1, h2⟩; exact .up less k h h1 h2
def dt (m : ao) (a : Int) : Prop := ∃ c, cxA m a = some c /\ c.mark = 0 /\ yz m 0 a
open Classical in
noncomputable def jQ (m : ao) (a : Int) : Bool := decide (dt m a)
def wF (o : au) : List Int := if o.kind = 3 then o.numbers.drop 1 else []
def wC (m : ao) : List Int := m.store.objects.flatMap wF
def nX (m : ao) : List Int := if m.status = 0 then [m.now] else []
def uq (m : ao) (L : List Int) : Prop := (∀ p ∈ L, 0 <= p /\ p < m.processes.length) /\ L.Nodup /\ ∀ p ∈ L, ∀ q, m.processes[p.toNat]? = some q -> dt m q.at_
theorem qr {m : ao} {L L' : List Int} (h : L.Perm L') (k : uq m L) : uq m L' := ⟨fun p hp => k.1 p (h.mem_iff.2 hp), h.nodup_iff.1 k.2.1, fun p hp => k.2.2 p (h.mem_iff.2 hp)⟩
theorem qD {m : ao} : uq m (m.ready ++ nX m ++ wC m) ↔ uq m (nX m ++ m.ready ++ wC m) :=
 ⟨qr (List.perm_append_comm.append_right _), qr (List.perm_append_comm.append_right _)⟩
def zE (m : ao) (n0 n1 n2 : Int) : Prop := (n0 = -1 /\ n1 = -1 /\ n2 = 0) \/ (n2 = 1 /\ ∃ c, cxA m n1 = some c /\ c.mark = 3 /\ 0 <= n0 /\ OnW m n0 c.sender)
def x1 (m : ao) (o : au) : Prop := o.kind = 1 -> ∀ n0 n1 n2, o.numbers = [n0, n1, n2] -> zE m n0 n1 n2
def afF (m : ao) (v : ab) (most : Int) : Prop := v.kind = 7 /\ ∃ b x, m.blocks[v.number.toNat]? = some b /\ cdA m b.code = some x /\ x.params <= most
open Classical in
noncomputable def uO (m : ao) (v : ab) (most : Int) : Bool := decide (afF m v most)
def mkA (m : ao) (k : Int) : Int := match cxA m k with | some d => d.mark | none => 0
def doB (m : ao) (k i : Int) : Bool := inR i 0 (k - 1) && decide (mkA m i = 1)
def v1 (l : List ab) (g : ab -> Bool) : Bool := match l with
 | [a] => g a
 | _ => false
def v3 (l : List ab) (g : ab -> ab -> ab -> Bool) : Bool := match l with
 | [a, b, c] => g a b c
 | _ => false
theorem abK {l : List ab} {g : ab -> Bool} (h : ¬ l.length = 1) : v1 l g = false := by
 match l, h with
 | [], _ => rfl
 | [a], h => exact absurd rfl h
 | _ :: _ :: _, _ => rfl
theorem aey {l : List ab} {g : ab -> ab -> ab -> Bool} (h : ¬ l.length = 3) : v3 l g = false := by
 match l, h with
 | [], _ => rfl
 | [_], _ => rfl
 | [_, _], _ => rfl
 | [a, b, c], h => exact absurd rfl h
 | _ :: _ :: _ :: _ :: _, _ => rfl
theorem acr (a : ab) (g : ab -> Bool) : v1 [a] g = g a := rfl
theorem aeE (a b c : ab) (g : ab -> ab -> ab -> Bool) : v3 [a, b, c] g = g a b c := rfl
noncomputable def abI (m : ao) (k : Int) (c : aj) : Bool :=
 if c.mark = 1 then v3 c.values fun a b d => decide (a.kind = 5) && (uZ m.store.classes 1 a.number && (uO m b 1 && uO m d 0))
 else if c.mark = 2 then v1 c.values fun a => uO m a 0
 else if c.mark = 3 then v1 c.values fun a => decide (a.kind = 6) && doB m k c.other
 else if c.mark = 4 then decide (c.values.length = 1)
 else if c.mark = 5 then inR c.other (-1) (k - 1) && (decide (c.values.length = 1) && (!c.retry || doB m k c.other))
 else false
def eqV (x y : ab) : Bool := decide (x.kind = y.kind) && (decide (x.number = y.number) && (decide (x.text = y.text) && true))
def shB (c : aj) : Bool := decide (c.code = 0) && (decide (c.pc = 0) && (decide (c.outer = -1) && (decide (c.home = -1) && (eqV c.self ⟨0, 0, ⟨#[]⟩⟩ && (decide (c.slots.length = 0) && (decide (c.stack.length = 0) && (!c.retry || decide (c.mark = 5))))))))
def adK (c : aj) : Bool := decide (c.mark = 3) || (decide (c.mark = 5) || decide (c.other = 0))
def afK (m : ao) (o : List Int) (k : Int) (c : aj) (x : aw) : Bool :=
 if x.block = true then inR c.outer 0 (k - 1) && (match cxA m c.outer with | some p => decide (p.mark = 0) && (decide (p.code = gd o c.code) && (decide (c.home = p.home) && eqV c.self p.self)) | none => false)
 else decide (c.outer = -1) && decide (c.home = k)
def plB (m : ao) (o : List Int) (k : Int) (c : aj) : Bool :=
 decide (c.values.length = 0) && (decide (c.other = 0) && (!c.retry && (inR c.code 0 ((m.base.codes.length : Int) - 1) && (match cdA m c.code with | some x => decide ((c.slots.length : Int) = x.slots) && (inR c.pc 0 x.instrs.length && (decide (c.stack.length <= 250) && afK m o k c x)) | none => false))))
def wt (m : ao) (v : ab) : Prop := cw m.store m.blocks.length v = true
def pg (m : ao) (l : List ab) : Bool := l.all (cw m.store m.blocks.length)
theorem xA {m : ao} {l : List ab} (h : pg m l = true) : ∀ v ∈ l, wt m v := fun v hv => List.all_eq_true.1 h v hv
noncomputable def qM (m : ao) (o : List Int) (k : Int) (c : aj) : Bool :=
 inR c.sender (-1) (k - 1) && (cw m.store m.blocks.length c.self && (pg m c.slots && (pg m c.stack && (pg m c.values && (if c.mark = 0 then plB m o k c else shB c && (abI m k c && adK c))))))
def jS (m : ao) (o : List Int) (b : am) : Bool :=
 inR b.code 0 ((m.base.codes.length : Int) - 1) && ((match cdA m b.code with | some x => x.block | none => false) && (inR b.outer 0 ((m.contexts.length : Int) - 1) && (match cxA m b.outer with | some c => decide (c.mark = 0) && (decide (c.code = gd o b.code) && (decide (b.home = c.home) && eqV b.self c.self)) | none => false)))
def adS (m : ao) (o : List Int) : Prop := (∀ (i : Nat) (h : i < m.contexts.length), qM m o i m.contexts[i] = true) /\ ∀ b ∈ m.blocks, jS m o b = true
theorem qk {m : ao} {o : List Int} {k : Int} {c : aj} (h : qM m o k c = true) : (-1 <= c.sender /\ c.sender <= k - 1) /\ wt m c.self /\ pg m c.slots = true /\ pg m c.stack = true /\ pg m c.values = true /\ (if c.mark = 0 then plB m o k c else shB c && (abI m k c && adK c)) = true := by
 unfold qM at h
 simp only [Bool.and_eq_true] at h
 obtain ⟨h1, h2, h3, h4, h5, h6⟩ := h
 exact ⟨of_decide_eq_true h1, h2, h3, h4, h5, h6⟩
theorem sP {m : ao} {o : List Int} (h : ∀ (i : Nat) (h : i < m.contexts.length), qM m o i m.contexts[i] = true) : lu m := fun i hi => by
 have := (qk (h i hi)).1
 omega
theorem tc {m : ao} {o : List Int} {k : Int} {c : aj} (h : qM m o k c = true) (h0 : c.mark = 0) : ∃ x, cdA m c.code = some x /\ (0 <= c.code /\ c.code < m.base.codes.length) /\ (0 <= c.pc /\ c.pc <= x.instrs.length) /\ c.stack.length <= 250 := by
 have h1 := (qk h).2.2.2.2.2
 rw [if_pos h0] at h1
 unfold plB at h1
 simp only [Bool.and_eq_true] at h1
 obtain ⟨_, _, _, h4, h5⟩ := h1
 have h4 := of_decide_eq_true h4
 cases hx : cdA m c.code with
 | none => rw [hx] at h5; cases h5
 | some x =>
   rw [hx] at h5
   simp only [Bool.and_eq_true] at h5
   obtain ⟨_, h6, h7, _⟩ := h5
   exact ⟨x, rfl, by omega, of_decide_eq_true h6, of_decide_eq_true h7⟩
def xQ (l : List Int) : Nat -> Int
 | 0 => l.getD 0 0
 | i + 1 => if l.getD (i + 1) 0 < xQ l i then l.getD (i + 1) 0 else xQ l i
theorem aae (l : List Int) : ∀ i, 0 <= xQ l i ↔ ∀ j, j <= i -> 0 <= l.getD j 0
 | 0 => by
   unfold xQ
   exact ⟨fun h j hj => by rw [Nat.le_zero.1 hj]; exact h, fun h => h 0 (Nat.le_refl _)⟩
 | i + 1 => by
   have ih := aae l i
   unfold xQ
   constructor
   ·intro h j hj
    rcases Nat.lt_or_ge j (i + 1) with h1 | h1
    ·refine ih.1 ?_ j (by omega)
     split at h <;> omega
    ·obtain rfl : j = i + 1 := by omega
     split at h <;> omega
   ·intro h
    have h1 := ih.2 fun j hj => h j (by omega)
    have h2 := h (i + 1) (Nat.le_refl _)
    split <;> assumption
def nnL (l : List Int) : Prop := ∀ n ∈ l, 0 <= n
instance (l : List Int) : Decidable (nnL l) := by unfold nnL; infer_instance
theorem abP {l : List Int} (h : 0 < l.length) : 0 <= xQ l (l.length - 1) ↔ nnL l := by
 rw [aae]
 constructor
 ·intro h1 n hn
  obtain ⟨j, hj, rfl⟩ := List.getElem_of_mem hn
  have := h1 j (by omega)
  rwa [List.getD_eq_getElem?_getD, List.getElem?_eq_getElem hj] at this
 ·intro h1 j hj
  rw [List.getD_eq_getElem?_getD, List.getElem?_eq_getElem (by omega)]
  exact h1 _ (List.getElem_mem _)
theorem uC {G : World -> Prop} (lo : Nat) (l : List Int) (hl : 0 < l.length) (hn : l.length <= 1048576) : Ct Tryz.prog G 275 [.sl lo 1 (aR l)] (fun _ => .int .i64 (xQ l (l.length - 1))) := by
 refine aq Tryz.func275 rfl Tryz.ntmps275 rfl rfl fun w0 _ hG => ?_
 have hlen := ar l
 have h0 : (aR l)[0]? = some [.int .i64 (xQ l 0)] := by
   rw [iq hl]
   unfold xQ
   rw [List.getD_eq_getElem?_getD, List.getElem?_eq_getElem hl]; rfl
 repeat' refine W_ ?_
 apply ai (X := Nat) [0] (fun i => [(4, .int .i64 ((i : Int) + 1)), (3, .int .i64 (xQ l i))]) (fun _ => []) (fun i => i < l.length) (fun i => l.length - i) 0 hl
 exact kp_; exact nw_
 ·exact .refl _
 intro i hi
 try dsimp only
 by_cases hlt : i + 1 < l.length
 ·have hrow : (aR l)[i + 1]? = some [.int .i64 (l.getD (i + 1) 0)] := by
    rw [iq hlt, List.getD_eq_getElem?_getD, List.getElem?_eq_getElem hlt]; rfl
  have hs : xQ l (i + 1) = if l.getD (i + 1) 0 < xQ l i then l.getD (i + 1) 0 else xQ l i := rfl
  have hi1 : (i : Int) + 1 = ((i + 1 : Nat) : Int) := by omega
  rw [hi1]
  generalize l.getD (i + 1) 0 = v at hrow hs
  repeat' (first | refine W_ ?_ | ((with_reducible apply afG); rfl; rfl; rfl))
  exact ah (i + 1) hlt (by omega) (.of _ (by rw [hs]; exact nw_) od_ pk_)
 ·obtain rfl : i = l.length - 1 := by omega
  rw [show ((l.length - 1 : Nat) : Int) + 1 = (l.length : Int) by omega]
  repeat' refine W_ ?_
  exact r1_
def aei (cl : List aa) (k : Int) : Nat := match cl[k.toNat]? with
 | some c => c.fields.length
 | none => 0
open Classical in
noncomputable def f7 (st : aQ) (nb : Int) (o : au) : Bool :=
 o.fields.all (cw st nb) &&
 (if o.kind = 1 then decide ((0 <= o.class_ /\ o.class_ < st.classes.length) /\ ¬ (5 <= o.class_ /\ o.class_ <= 15) /\ o.fields.length = aei st.classes o.class_) && decide (o.numbers.length = if uZ st.classes 1 o.class_ then 3 else 0)
  else if o.kind = 2 then decide (o.class_ = 10 /\ o.fields.length <= 50 /\ o.numbers.length = 0)
  else if o.kind = 3 then decide (o.class_ = 12 /\ o.fields.length = 0 /\ 1 <= o.numbers.length /\ nnL o.numbers)
  else false)
theorem eW {st : aQ} {nb : Int} {l : List ab} {i : Nat} (h : i < l.length) (hf : cw st nb l[i] = false) : l.all (cw st nb) = false := by
 rw [Bool.eq_false_iff]
 intro h2
 have := List.all_eq_true.1 h2 _ (List.getElem_mem h)
 rw [hf] at this; cases this
theorem hY {lo : Nat} {l : List ab} {i : Nat} (h : i < l.length) : (l.map (ab.tw lo))[i]? = some [.int .i64 l[i].kind, .int .i64 l[i].number, .str l[i].text] := aL h
theorem sW (k : Int) : k = 1 \/ k = 2 \/ k = 3 \/ (¬ k = 1 /\ ¬ k = 2 /\ ¬ k = 3) := by omega
theorem wD (lo : Nat) (st : aQ) (hcl : gA st.classes) (h16 : 16 <= st.classes.length /\ st.classes.length <= 24) (nb : Int) (o : au) (ho : o.small 1048576) : Ct Tryz.prog GL 222 [.agg (st.tw lo), .agg [.int .i64 o.kind, .int .i64 o.class_, .sl lo 3 (o.fields.map (ab.tw lo)), .sl lo 1 (aR o.numbers)], .int .i64 nb] (fun _ => .bool (f7 st nb o)) := by
 refine aq Tryz.func222 rfl Tryz.ntmps222 rfl rfl fun w0 _ hG => ?_
 have hst := eg
 obtain ⟨ok, oc, fs, ns⟩ := o
 have hf1 := ho.1.1
 have hf2 := ho.1.2
 have hn1 := ho.2
 dsimp only at hf1 hf2 hn1 |-
 have hfl := ab.len lo fs
 have hnl := ar ns
 have hcn := aa.len lo st.classes
 have hex := fun (x : ab) (h : x.text.size <= 1048576) => nQ lo st nb x h
 unfold aQ.tw at hex |-
 repeat' (first | refine W_ ?_ | refine aJ ?_)
 apply ai (X := Nat) [2, 3, 4, 10, 11] (fun i => [(12, .int .i64 (i : Int))]) (fun _ => []) (fun i => i <= fs.length /\ ∀ y ∈ fs.take i, cw st nb y = true) (fun i => fs.length - i) 0 ⟨Nat.zero_le _, by simp⟩
 exact kp_; exact nw_
 ·exact .refl _
 rintro i ⟨hi, hall⟩
 try dsimp only
 by_cases hlt : i < fs.length
 ·have hrow := hY (lo := lo) hlt
  have hxi := hex _ (hf2 _ (List.getElem_mem hlt))
  have hta := aY (p := fun y => cw st nb y = true) hlt hall
  cases hfi : cw st nb fs[i] with
  | false =>
    have e : f7 st nb ⟨ok, oc, fs, ns⟩ = false := by
      unfold f7
      rw [eW hlt hfi, Bool.false_and]
    rw [e]
    rw [hfi] at hxi
    generalize fs[i] = x at hrow hxi
    repeat' (first | refine W_ ?_ | (refine ak ?_; intro ss bb) | refine ae ?_ | refine ac hG hst (hxi) ?_)
    exact r1_
  | true =>
    rw [hfi] at hxi hta
    generalize fs[i] = x at hrow hxi
    repeat' (first | refine W_ ?_ | (refine ak ?_; intro ss bb) | refine ae ?_ | refine ac hG hst (hxi) ?_)
    exact ah (i + 1) ⟨by omega, hta rfl⟩ (by omega) (.of _ nw_ od_ pk_)
 obtain rfl : i = fs.length := by omega
 rw [List.take_of_length_le (Nat.le_refl _)] at hall
 have hA : fs.all (cw st nb) = true := List.all_eq_true.2 hall
 clear hex hall
 rcases sW ok with rfl | rfl | rfl | ⟨g1, g2, g3⟩
 ·have e : f7 st nb ⟨1, oc, fs, ns⟩ = (decide ((0 <= oc /\ oc < st.classes.length) /\ ¬ (5 <= oc /\ oc <= 15) /\ fs.length = aei st.classes oc) && decide (ns.length = if uZ st.classes 1 oc then 3 else 0)) := by
    unfold f7
    rw [hA, Bool.true_and, if_pos rfl]
  rw [e]
  clear e hA
  have w1 := aK (G := GL) oc 0 ((st.classes.length : Int) - 1)
  have w2 := aK (G := GL) oc 5 15
  rw [show (st.classes.length : Int) - 1 = ((st.classes.length - 1 : Nat) : Int) by omega] at w1
  by_cases hr : 0 <= oc /\ oc < st.classes.length
  case neg =>
    rw [show inR oc 0 ((st.classes.length - 1 : Nat) : Int) = false from by simp only [inR, decide_eq_false_iff_not]; omega] at w1
    rw [decide_eq_false fun h => hr h.1, Bool.false_and]
    repeat' (first | refine V_ ?_ | refine ad hG hst (w1) ?_)
    exact r1_
  rw [show inR oc 0 ((st.classes.length - 1 : Nat) : Int) = true from by simp only [inR, decide_eq_true_eq]; omega] at w1
  by_cases h5 : 5 <= oc /\ oc <= 15
  ·rw [show inR oc 5 15 = true from by simp only [inR, decide_eq_true_eq]; omega] at w2
   rw [decide_eq_false fun h => h.2.1 h5, Bool.false_and]
   repeat' (first | refine V_ ?_ | refine ad hG hst (w1) ?_ | refine ad hG hst (w2) ?_)
   exact r1_
  rw [show inR oc 5 15 = false from by simp only [inR, decide_eq_false_iff_not]; exact h5] at w2
  obtain ⟨c, rfl⟩ : ∃ c : Nat, oc = c := ⟨oc.toNat, by omega⟩
  have hc : c < st.classes.length := by omega
  have hrow := gu (lo := lo) hc
  have hfn : aei st.classes (c : Int) = st.classes[c].fields.length := by
    unfold aei
    rw [Int.toNat_natCast, List.getElem?_eq_getElem hc]
  have hib := qv (G := GL) lo st.classes hcl (c : Int) 1 (by omega)
  rw [hfn]
  generalize st.classes[c] = x at hrow hfn |-
  have hxl := aG x.fields
  by_cases hlen : fs.length = x.fields.length
  case neg =>
    have hne : (fs.length : Int) ≠ x.fields.length := by omega
    rw [decide_eq_false fun h => hlen h.2.2, Bool.false_and]
    repeat' (first | refine V_ ?_ | refine ad hG hst (w1) ?_ | refine ad hG hst (w2) ?_)
    exact r1_
  have hne : ¬ ((fs.length : Int) ≠ x.fields.length) := by omega
  rw [decide_eq_true ⟨hr, h5, hlen⟩, Bool.true_and]
  generalize uZ st.classes 1 (c : Int) = b at hib |-
  cases b
  all_goals
    repeat' (first | refine V_ ?_ | refine ad hG hst (w1) ?_ | refine ad hG hst (w2) ?_ | refine ac hG hst (hib) ?_)
    refine aD x_ rfl (.tmp _ _ rfl) (fun _ => ?_)
    exact aI (by first | (simp; done) | (simp; omega))
 ·have e : f7 st nb ⟨2, oc, fs, ns⟩ = decide (oc = 10 /\ fs.length <= 50 /\ ns.length = 0) := by
    unfold f7
    rw [hA, Bool.true_and, if_neg (by dsimp only; decide), if_pos rfl]
  rw [e]
  clear e hA
  repeat' (first | refine W_ ?_ | refine g_ (fun hg => ?_) (fun hg => ?_))
  all_goals
    refine aD x_ rfl (.tmp _ _ rfl) (fun _ => ?_)
    refine aI ?_
    first
      | (rw [decide_eq_decide]; omega)
      | (symm; rw [decide_eq_false_iff_not]; omega)
 ·have e : f7 st nb ⟨3, oc, fs, ns⟩ = decide (oc = 12 /\ fs.length = 0 /\ 1 <= ns.length /\ nnL ns) := by
    unfold f7
    rw [hA, Bool.true_and, if_neg (by dsimp only; decide), if_neg (by dsimp only; decide), if_pos rfl]
  rw [e]
  clear e hA
  by_cases hns : 0 < ns.length
  ·have hmi := uC (G := GL) lo ns hns hn1
   have hma := abP hns
   generalize xQ ns (ns.length - 1) = mv at hmi hma
   repeat' (first | refine W_ ?_ | refine ac hG hst (hmi) ?_ | refine g_ (fun hg => ?_) (fun hg => ?_))
   all_goals
     refine aD x_ rfl (.tmp _ _ rfl) (fun _ => ?_)
     refine aI ?_
     first
       | (rw [decide_eq_decide, <- hma]; omega)
       | (symm; rw [decide_eq_false_iff_not, <- hma]; omega)
  ·repeat' (first | refine W_ ?_ | refine g_ (fun hg => ?_) (fun hg => ?_))
   all_goals
     refine aD x_ rfl (.tmp _ _ rfl) (fun _ => ?_)
     refine aI ?_
     first
       | (symm; rw [decide_eq_false_iff_not]; omega)
       | (symm; rw [decide_eq_false_iff_not]; rintro ⟨_, _, h, _⟩; omega)
 ·have e : f7 st nb ⟨ok, oc, fs, ns⟩ = false := by
    unfold f7
    rw [if_neg g1, if_neg g2, if_neg g3, Bool.and_false]
  rw [e]
  repeat' refine W_ ?_
  exact r1_
section
variable {G : World -> Prop}
theorem cV {lo : Nat} {l : List aj} {i : Nat} (h : i < l.length) : (l.map (aj.tw lo))[i]? = some [.int .i64 l[i].mark, .int .i64 l[i].code, .int .i64 l[i].pc, .int .i64 l[i].sender, .int .i64 l[i].outer, .int .i64 l[i].home, .int .i64 l[i].self.kind, .int .i64 l[i].self.number, .str l[i].self.text, .sl lo 3 (l[i].slots.map (ab.tw lo)), .sl lo 3 (l[i].stack.map (ab.tw lo)), .sl lo 3 (l[i].values.map (ab.tw lo)), .int .i64 l[i].other, .bool l[i].retry] := aL h
open Classical in
theorem wX (f lo : Nat) (m : ao) (hcl : m.contexts.length <= 1048576) (hs : lu m) (k0 a : Int) (hk0 : -1 <= k0 /\ k0 < m.contexts.length) : Ct Tryz.prog G 198 [.cp f (m.tw lo), .int .i64 k0, .int .i64 a] (fun _ => .bool (onB m a k0)) := by
 refine aq Tryz.func198 rfl Tryz.ntmps198 rfl rfl fun w0 _ hG => ?_
 have hlen := aj.len lo m.contexts
 unfold ao.tw
 repeat' refine W_ ?_
 apply ai (X := Int) [0, 2] (fun k => [(1, .int .i64 k)]) (fun _ => []) (fun k => (-1 <= k /\ k < m.contexts.length) /\ (OnW m a k0 ↔ OnW m a k)) (fun k => (k + 1).toNat) k0 ⟨hk0, Iff.rfl⟩
 exact kp_; exact nw_
 ·exact .refl _
 rintro k ⟨hk, hiff⟩
 try dsimp only
 by_cases hneg : k < 0
 ·have e : onB m a k0 = decide (a = -1) := decide_eq_decide.2 (hiff.trans ((aao hneg).trans (by omega)))
  rw [e]
  repeat' refine W_ ?_
  refine aD x_ rfl (.tmp _ _ rfl) (fun _ => ?_)
  exact aI rfl
 obtain ⟨n, rfl⟩ : ∃ n : Nat, k = n := ⟨k.toNat, by omega⟩
 have hn : n < m.contexts.length := by omega
 by_cases hka : (n : Int) = a
 ·have e : onB m a k0 = true := decide_eq_true (hiff.2 (hka ▸ .here))
  rw [e]
  repeat' refine W_ ?_
  exact r1_
 ·have hrow := cV (lo := lo) hn
  have hp := hs n hn
  have hst2 := hiff.trans (xm hn hka)
  generalize m.contexts[n] = c at hrow hp hst2
  repeat' refine W_ ?_
  exact ah c.sender ⟨by omega, hst2⟩ (by omega) (.of _ nw_ od_ pk_)
open Classical in
theorem xg (f lo : Nat) (m : ao) (hcl : m.contexts.length <= 1048576) (hs : lu m) (k0 a : Int) (hk0 : -1 <= k0 /\ k0 < m.contexts.length) : Ct Tryz.prog G 230 [.cp f (m.tw lo), .int .i64 k0, .int .i64 a] (fun _ => .bool (onB m a k0)) := by
 refine aq Tryz.func230 rfl Tryz.ntmps230 rfl rfl fun w0 _ hG => ?_
 have hlen := aj.len lo m.contexts
 unfold ao.tw
 repeat' refine W_ ?_
 apply ai (X := Int) [0, 2] (fun k => [(1, .int .i64 k)]) (fun _ => []) (fun k => (-1 <= k /\ k < m.contexts.length) /\ (OnW m a k0 ↔ OnW m a k)) (fun k => (k + 1).toNat) k0 ⟨hk0, Iff.rfl⟩
 exact kp_; exact nw_
 ·exact .refl _
 rintro k ⟨hk, hiff⟩
 try dsimp only
 by_cases hneg : k < 0
 ·have e : onB m a k0 = decide (k = a) := decide_eq_decide.2 (hiff.trans (aao hneg))
  rw [e]
  repeat' refine W_ ?_
  refine aD x_ rfl (.tmp _ _ rfl) (fun _ => ?_)
  exact aI rfl
 obtain ⟨n, rfl⟩ : ∃ n : Nat, k = n := ⟨k.toNat, by omega⟩
 have hn : n < m.contexts.length := by omega
 by_cases hka : (n : Int) = a
 ·have e : onB m a k0 = true := decide_eq_true (hiff.2 (hka ▸ .here))
  have hne : ¬ ((n : Int) ≠ a) := fun h => h hka
  rw [e]
  repeat' refine W_ ?_
  refine aD x_ rfl (.tmp _ _ rfl) (fun _ => ?_)
  exact aI (decide_eq_true hka)
 ·have hrow := cV (lo := lo) hn
  have hp := hs n hn
  have hst2 := hiff.trans (xm hn hka)
  have hne : (n : Int) ≠ a := hka
  generalize m.contexts[n] = c at hrow hp hst2
  repeat' refine W_ ?_
  exact ah c.sender ⟨by omega, hst2⟩ (by omega) (.of _ nw_ od_ pk_)
end
theorem xD {m : ao} {v : ab} (h : wt m v) (h7 : v.kind = 7) : 0 <= v.number /\ v.number < m.blocks.length := by
 unfold wt cw kj at h
 rw [h7] at h
 simp at h
 omega
theorem acF {m : ao} {v : ab} (h : wt m v) (h5 : v.kind = 5) : 0 <= v.number /\ v.number < m.store.classes.length := by
 unfold wt cw kj at h
 rw [h5] at h
 simp at h
 omega
theorem abD {m : ao} {v : ab} (h : wt m v) (h0 : v.kind = 0) : v = ⟨0, 0, ⟨#[]⟩⟩ := by
 obtain ⟨k, n, t⟩ := v
 dsimp only at h0
 subst h0
 unfold wt cw kj at h
 simp at h
 rw [h.1, h.2]
theorem abx {m : ao} {v : ab} {most : Int} {n q : Nat} {b : am} {x : aw} (h7 : v.kind = 7) (hn : v.number = n) (hb : m.blocks[n]? = some b) (hq : b.code = q) (hx : m.base.codes[q]? = some x) : afF m v most ↔ x.params <= most := by
 unfold afF cdA
 rw [hn, Int.toNat_natCast, hb]
 constructor
 ·rintro ⟨_, b', x', hb', hx', h⟩
  cases hb'
  rw [hq, if_pos (by omega), Int.toNat_natCast, hx] at hx'
  cases hx'
  exact h
 ·intro h
  exact ⟨h7, b, x, rfl, by rw [hq, if_pos (by omega), Int.toNat_natCast, hx], h⟩
theorem mo {lo : Nat} {l : List am} {i : Nat} (h : i < l.length) : (l.map (am.tw lo))[i]? = some [.int .i64 l[i].code, .int .i64 l[i].outer, .int .i64 l[i].home, .int .i64 l[i].self.kind, .int .i64 l[i].self.number, .str l[i].self.text] := aL h
section
variable {G : World -> Prop}
open Classical in
theorem wm (lo : Nat) (m : ao) (hbl : m.blocks.length <= 1048576) (hcl : m.base.codes.length <= 1048576) (n q : Nat) (b : am) (x : aw) (hb : m.blocks[n]? = some b) (hq : b.code = q) (hx : m.base.codes[q]? = some x) : Ct Tryz.prog G 316 [.agg (m.tw lo), .int .i64 (n : Int)] (fun _ => .int .i64 x.params) := by
 refine aq Tryz.func316 rfl Tryz.ntmps316 rfl rfl fun w0 _ hG => ?_
 have hlen := am.len lo m.blocks
 have hlc := aw.len lo m.base.codes
 obtain ⟨h1, e1⟩ := List.getElem?_eq_some_iff.1 hb
 obtain ⟨h2, e2⟩ := List.getElem?_eq_some_iff.1 hx
 have hr1 := mo (lo := lo) h1
 have hr2 := bP (lo := lo) h2
 rw [e1] at hr1
 rw [e2] at hr2
 rw [hq] at hr1
 unfold ao.tw
 repeat' (first | refine V_ ?_ | refine aJ ?_)
 exact r1_
open Classical in
theorem zl (hst : aC G) (lo : Nat) (m : ao) (hbl : m.blocks.length <= 1048576) (hcl : m.base.codes.length <= 1048576) (hbc : ∀ b ∈ m.blocks, 0 <= b.code /\ b.code < m.base.codes.length) (v : ab) (hv : wt m v) (most : Int) : Ct Tryz.prog G 278 [.agg (m.tw lo), .agg [.int .i64 v.kind, .int .i64 v.number, .str v.text], .int .i64 most] (fun _ => .bool (uO m v most)) := by
 refine aq Tryz.func278 rfl Tryz.ntmps278 rfl rfl fun w0 _ hG => ?_
 by_cases h7 : v.kind = 7
 case neg =>
   rw [show uO m v most = false from decide_eq_false fun h => h7 h.1]
   unfold ao.tw
   repeat' (first | refine W_ ?_ | refine aJ ?_)
   exact r1_
 have hr := xD hv h7
 obtain ⟨n, hn⟩ : ∃ n : Nat, v.number = n := ⟨v.number.toNat, by omega⟩
 have h1 : n < m.blocks.length := by omega
 have h2 := hbc _ (List.getElem_mem h1)
 obtain ⟨q, hq⟩ : ∃ q : Nat, m.blocks[n].code = q := ⟨m.blocks[n].code.toNat, by omega⟩
 have h3 : q < m.base.codes.length := by omega
 have hiff := abx (most := most) h7 hn (List.getElem?_eq_getElem h1) hq (List.getElem?_eq_getElem h3)
 have hct := wm (G := G) lo m hbl hcl n q _ _ (List.getElem?_eq_getElem h1) hq (List.getElem?_eq_getElem h3)
 rw [show uO m v most = decide (m.base.codes[q].params <= most) from decide_eq_decide.2 hiff, h7, hn]
 generalize m.base.codes[q].params = pr at hct
 unfold ao.tw at hct |-
 repeat' (first | refine W_ ?_ | refine aJ ?_ | refine ac hG hst (hct) ?_)
 refine aD x_ rfl (.tmp _ _ rfl) (fun _ => ?_)
 exact aI rfl
open Classical in
theorem uV (hst : aC G) (f lo : Nat) (m : ao) (hbl : m.blocks.length <= 1048576) (hcl : m.base.codes.length <= 1048576) (hc1 : 1 <= m.base.codes.length) (v : ab) (hv : wt m v) (most : Int) : Ct Tryz.prog G 257 [.cp f (m.tw lo), .agg [.int .i64 v.kind, .int .i64 v.number, .str v.text], .int .i64 most] (fun _ => .bool (uO m v most)) := by
 refine aq Tryz.func257 rfl Tryz.ntmps257 rfl rfl fun w0 _ hG => ?_
 have hlen := am.len lo m.blocks
 have hlc := aw.len lo m.base.codes
 by_cases h7 : v.kind = 7
 case neg =>
   rw [show uO m v most = false from decide_eq_false fun h => h7 h.1]
   unfold ao.tw
   repeat' (first | refine V_ ?_ | refine aJ ?_)
   exact r1_
 have hr := xD hv h7
 obtain ⟨n, hn⟩ : ∃ n : Nat, v.number = n := ⟨v.number.toNat, by omega⟩
 have h1 : n < m.blocks.length := by omega
 have hr1 := mo (lo := lo) h1
 have hbg : m.blocks[n]? = some m.blocks[n] := List.getElem?_eq_getElem h1
 generalize m.blocks[n] = b at hr1 hbg
 have c1 := bm (G := G) b.code 0 ((m.base.codes.length - 1 : Nat) : Int)
 have hsub : (m.base.codes.length : Int) - 1 = ((m.base.codes.length - 1 : Nat) : Int) := by omega
 by_cases h2 : 0 <= b.code /\ b.code < m.base.codes.length
 case neg =>
   rw [show inR b.code 0 ((m.base.codes.length - 1 : Nat) : Int) = false from by simp only [inR, decide_eq_false_iff_not]; omega] at c1
   rw [show uO m v most = false from decide_eq_false fun h => by
     obtain ⟨_, b', x, hb', hx, _⟩ := h
     rw [hn, Int.toNat_natCast, hbg] at hb'
     cases hb'
     obtain ⟨h3, h4, _⟩ := acl hx
     omega]
   rw [h7, hn]
   unfold ao.tw
   repeat' (first | refine V_ ?_ | refine aJ ?_ | refine ad hG hst (c1) ?_)
   exact r1_
 rw [show inR b.code 0 ((m.base.codes.length - 1 : Nat) : Int) = true from by simp only [inR, decide_eq_true_eq]; omega] at c1
 obtain ⟨q, hq⟩ : ∃ q : Nat, b.code = q := ⟨b.code.toNat, by omega⟩
 have h3 : q < m.base.codes.length := by omega
 have hiff := abx (most := most) h7 hn hbg hq (List.getElem?_eq_getElem h3)
 have hr2 := bP (lo := lo) h3
 rw [show uO m v most = decide (m.base.codes[q].params <= most) from decide_eq_decide.2 hiff, h7, hn]
 rw [hq] at hr1 c1
 generalize m.base.codes[q] = x at hr2
 unfold ao.tw
 repeat' (first | refine V_ ?_ | refine aJ ?_ | refine ad hG hst (c1) ?_)
 refine aD x_ rfl (.tmp _ _ rfl) (fun _ => ?_)
 exact aI rfl
end
theorem tr (k : Int) : k = 1 \/ k = 2 \/ k = 3 \/ k = 4 \/ k = 5 \/ (¬ k = 1 /\ ¬ k = 2 /\ ¬ k = 3 /\ ¬ k = 4 /\ ¬ k = 5) := by omega
theorem ae3 {α : Type} {l : List α} (h : l.length = 1) : ∃ a, l = [a] := by
 match l, h with
 | [a], _ => exact ⟨a, rfl⟩
theorem afU {α : Type} {l : List α} (h : l.length = 3) : ∃ a b c, l = [a, b, c] := by
 match l, h with
 | [a, b, c], _ => exact ⟨a, b, c, rfl⟩
theorem uS {m : ao} {k i : Int} (h : inR i 0 (k - 1) = false) : doB m k i = false := by unfold doB; rw [h, Bool.false_and]
theorem aar {m : ao} {k i : Int} (h : inR i 0 (k - 1) = true) : doB m k i = decide (mkA m i = 1) := by unfold doB; rw [h, Bool.true_and]
theorem aaL {m : ao} {k : Nat} (h : k < m.contexts.length) : mkA m (k : Int) = m.contexts[k].mark := by
 unfold mkA; rw [mj h]
theorem adD {m : ao} {k n : Int} {t : ByteArray} (h : cw m.store m.blocks.length ⟨k, n, t⟩ = true) : eqV ⟨k, n, t⟩ ⟨0, 0, ⟨#[]⟩⟩ = decide (k = 0) := by
 by_cases hk : k = 0
 ·rw [decide_eq_true hk, abD (m := m) h hk]; rfl
 ·unfold eqV
  rw [decide_eq_false hk, Bool.false_and]
theorem xV {m : ao} {k : Nat} {c : aj} (h : k < m.contexts.length) (e : m.contexts[k] = c) : cxA m (k : Int) = some c := by rw [mj h, e]
theorem xx {m : ao} {k : Nat} {c : aw} (h : k < m.base.codes.length) (e : m.base.codes[k] = c) : cdA m (k : Int) = some c := by rw [adg h, e]
end Go.Proofs.YtigipcbnfeoliaaGreatDoor
