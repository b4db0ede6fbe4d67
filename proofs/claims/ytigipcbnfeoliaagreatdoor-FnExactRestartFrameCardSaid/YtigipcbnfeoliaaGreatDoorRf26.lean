/- Part 26 of the proof: the texts ImB, ImF, ImC, ImG. -/
import Derived.Test.YtigipcbnfeoliaaGreatDoorRf22
import Derived.Test.YtigipcbnfeoliaaGreatDoorRf24
import Derived.Test.YtigipcbnfeoliaaGreatDoorRf7
set_option linter.all false
set_option maxHeartbeats 2000000
set_option maxRecDepth 20000
namespace Go.Proofs.YtigipcbnfeoliaaGreatDoor
open Go Go.RowKit
inductive IsB (cl : List aa) (a : Int) : Int -> Prop
 | here : IsB cl a a
 | up (k : Nat) (h : k < cl.length) (hne : (k : Int) ≠ a) (hr : IsB cl a cl[k].parent) : IsB cl a k
theorem wh {cl : List aa} {a : Int} {k : Nat} (h : k < cl.length) (hne : (k : Int) ≠ a) : IsB cl a k ↔ IsB cl a cl[k].parent := by
 constructor
 ·intro hb
  generalize hk : (k : Int) = q at hb
  cases hb with
  | here => exact absurd hk hne
  | up k' h' hne' hr =>
    obtain rfl : k = k' := by omega
    exact hr
 ·exact .up k h hne
theorem aaa {cl : List aa} {a k : Int} (h : k < 0) : IsB cl a k ↔ k = a := by
 constructor
 ·intro hb
  cases hb with
  | here => rfl
  | up k' h' hne' hr => omega
 ·rintro rfl; exact .here
theorem ac9 {cl : List aa} {a : Int} {k : Int} (h : (cl.length : Int) <= k) : IsB cl a k ↔ k = a := by
 constructor
 ·intro hb
  cases hb with
  | here => rfl
  | up k' h' hne' hr => omega
 ·rintro rfl; exact .here
open Classical in
noncomputable def uY (cl : List aa) (a k : Int) : Bool := decide (IsB cl a k)
def gw (cl : List aa) : Prop := ∀ (i : Nat) (h : i < cl.length), -1 <= cl[i].parent /\ cl[i].parent < i
theorem uQ : ∀ (i : Nat) (h : i < 16), ∀ b, bG[i]? = some b -> -1 <= b.parent /\ b.parent < i := by
 intro i h b hb
 match i, h with
 | 0, _ => cases hb; decide
 | 1, _ => cases hb; decide
 | 2, _ => cases hb; decide
 | 3, _ => cases hb; decide
 | 4, _ => cases hb; decide
 | 5, _ => cases hb; decide
 | 6, _ => cases hb; decide
 | 7, _ => cases hb; decide
 | 8, _ => cases hb; decide
 | 9, _ => cases hb; decide
 | 10, _ => cases hb; decide
 | 11, _ => cases hb; decide
 | 12, _ => cases hb; decide
 | 13, _ => cases hb; decide
 | 14, _ => cases hb; decide
 | 15, _ => cases hb; decide
 | n + 16, h => omega
open Classical in
theorem kw {cl : List aa} (h : bR cl = true) : pQ cl := of_decide_eq_true h
theorem qs {cl : List aa} (h : bR cl = true) : gw cl := fun i hi => by
 have h1 := (kw h).2 i hi
 unfold ey at h1
 split at h1
 ·rename_i h16
  obtain ⟨b, hb, _, hp, _⟩ := h1
  rw [hp]
  exact uQ i h16 b hb
 ·have := h1.1.2.1
  omega
section
variable {G : World -> Prop}
theorem iL {lo : Nat} {l : List aa} {i : Nat} (h : i < l.length) : (l.map (aa.tw lo))[i]? = some [.str l[i].name, .int .i64 l[i].parent, .sl lo 1 (bK l[i].fields)] := aI h
open Classical in
theorem pY (lo : Nat) (cl : List aa) (hcl : gw cl) (k0 a : Int) (hk0 : -1 <= k0 /\ k0 < cl.length) : Ct Tryz.prog G 274 [.sl lo 3 (cl.map (aa.tw lo)), .int .i64 k0, .int .i64 a] (fun _ => .bool (uY cl a k0)) := by
 refine aq Tryz.func274 rfl Tryz.ntmps274 rfl rfl fun w0 _ hG => ?_
 have hlen := aa.len lo cl
 repeat' refine W_ ?_
 apply am (X := Int) [0, 2] (fun k => [(1, .int .i64 k)]) (fun _ => []) (fun k => (-1 <= k /\ k < cl.length) /\ (IsB cl a k0 ↔ IsB cl a k)) (fun k => (k + 1).toNat) k0 ⟨hk0, Iff.rfl⟩
 exact kp_; exact nw_
 ·exact .refl _
 rintro k ⟨hk, hiff⟩
 try dsimp only
 by_cases hneg : k < 0
 ·have e : uY cl a k0 = decide (k = a) := decide_eq_decide.2 (hiff.trans (aaa hneg))
  rw [e]
  repeat' refine W_ ?_
  refine aK x_ rfl (.tmp _ _ rfl) (fun _ => ?_)
  exact aJ rfl
 obtain ⟨n, rfl⟩ : ∃ n : Nat, k = n := ⟨k.toNat, by omega⟩
 have hn : n < cl.length := by omega
 by_cases hka : (n : Int) = a
 ·have e : uY cl a k0 = true := decide_eq_true (hiff.2 (hka ▸ .here))
  have hne : ¬ ((n : Int) ≠ a) := fun h => h hka
  rw [e]
  repeat' refine W_ ?_
  refine aK x_ rfl (.tmp _ _ rfl) (fun _ => ?_)
  exact aJ (decide_eq_true hka)
 ·have hrow := iL (lo := lo) hn
  have hp := hcl n hn
  have hst2 := hiff.trans (wh hn hka)
  have hne : (n : Int) ≠ a := hka
  generalize cl[n] = c at hrow hp hst2
  repeat' refine W_ ?_
  exact ag c.parent ⟨by omega, hst2⟩ (by omega) (.of _ nw_ od_ pk_)
open Classical in
theorem wX (lo : Nat) (cl : List aa) (hcl : gw cl) (k0 a : Int) (ha : 0 <= a /\ a < cl.length) : Ct Tryz.prog G 252 [.sl lo 3 (cl.map (aa.tw lo)), .int .i64 k0, .int .i64 a] (fun _ => .bool (uY cl a k0)) := by
 refine aq Tryz.func252 rfl Tryz.ntmps252 rfl rfl fun w0 _ hG => ?_
 have hlen := aa.len lo cl
 repeat' refine W_ ?_
 apply am (X := Int) [0, 2] (fun k => [(1, .int .i64 k)]) (fun _ => []) (fun k => IsB cl a k0 ↔ IsB cl a k) (fun k => (k + 1).toNat) k0 Iff.rfl
 exact kp_; exact nw_
 ·exact .refl _
 rintro k hiff
 try dsimp only
 by_cases hneg : k < 0
 ·have e : uY cl a k0 = false := decide_eq_false fun h => by have := (aaa hneg).1 (hiff.1 h); omega
  rw [e]
  repeat' refine W_ ?_
  exact r1_
 by_cases hbig : (cl.length : Int) <= k
 ·have e : uY cl a k0 = false := decide_eq_false fun h => by have := (ac9 hbig).1 (hiff.1 h); omega
  rw [e]
  repeat' refine W_ ?_
  exact r1_
 obtain ⟨n, rfl⟩ : ∃ n : Nat, k = n := ⟨k.toNat, by omega⟩
 have hn : n < cl.length := by omega
 by_cases hka : (n : Int) = a
 ·have e : uY cl a k0 = true := decide_eq_true (hiff.2 (hka ▸ .here))
  rw [e]
  repeat' refine W_ ?_
  exact r1_
 ·have hrow := iL (lo := lo) hn
  have hp := hcl n hn
  have hst2 := hiff.trans (wh hn hka)
  generalize cl[n] = c at hrow hp hst2
  repeat' refine W_ ?_
  exact ag c.parent hst2 (by omega) (.of _ nw_ od_ pk_)
end
def cz (st : aP) (nb : Int) (x : ab) : Bool := jM x.kind x.number x.text && (if x.kind = 5 then decide (x.number < st.classes.length) else if x.kind = 6 then decide (x.number < st.objects.length) else if x.kind = 7 then decide (x.number < nb) else true)
theorem nZ (lo : Nat) (st : aP) (nb : Int) (x : ab) (ht : x.text.size <= 1048576) : Ct Tryz.prog GL 154 [.agg (st.tw lo), .agg [.int .i64 x.kind, .int .i64 x.number, .str x.text], .int .i64 nb] (fun _ => .bool (cz st nb x)) := by
 refine aq Tryz.func154 rfl Tryz.ntmps154 rfl rfl fun w0 _ hG => ?_
 have hst := dG
 have hv := o8 x.kind x.number x.text ht
 have h1 := aa.len lo st.classes
 have h2 := au.len lo st.objects
 unfold cz
 unfold aP.tw
 generalize jM x.kind x.number x.text = b at hv |-
 cases b with
 | false =>
   rw [Bool.false_and]
   repeat' (first | refine W_ ?_ | refine aH ?_ | refine ad hG hst (hv) ?_)
   exact r1_
 | true =>
   rw [Bool.true_and]
   repeat' (first | refine W_ ?_ | refine aH ?_ | refine ad hG hst (hv) ?_ | refine c_ (fun hc => ?_) (fun hc => ?_))
   all_goals
     refine aK x_ rfl (.tmp _ _ rfl) (fun _ => ?_)
     exact aJ (by simp [*])
theorem fH (f lo : Nat) (st : aP) (nb : Int) (x : ab) (ht : x.text.size <= 1048576) : Ct Tryz.prog GL 104 [.cp f (st.tw lo), .agg [.int .i64 x.kind, .int .i64 x.number, .str x.text], .int .i64 nb] (fun _ => .bool (cz st nb x)) := by
 refine aq Tryz.func104 rfl Tryz.ntmps104 rfl rfl fun w0 _ hG => ?_
 have hst := dG
 have hv := f8 x.kind x.number x.text ht
 have h1 := aa.len lo st.classes
 have h2 := au.len lo st.objects
 unfold cz
 unfold aP.tw
 generalize jM x.kind x.number x.text = b at hv |-
 cases b with
 | false =>
   rw [Bool.false_and]
   repeat' (first | refine V_ ?_ | refine aH ?_ | refine ad hG hst (hv) ?_)
   exact r1_
 | true =>
   rw [Bool.true_and]
   repeat' (first | refine V_ ?_ | refine aH ?_ | refine ad hG hst (hv) ?_ | refine c_ (fun hc => ?_) (fun hc => ?_))
   all_goals
     refine aK x_ rfl (.tmp _ _ rfl) (fun _ => ?_)
     exact aJ (by simp [*])
def cxA (m : ah) (k : Int) : Option ap := if 0 <= k then m.contexts[k.toNat]? else none
theorem vI {m : ah} {k : Int} (h : k < 0) : cxA m k = none := by unfold cxA; rw [if_neg (by omega)]
theorem iN {m : ah} {k : Nat} (h : k < m.contexts.length) : cxA m (k : Int) = some m.contexts[k] := by
 unfold cxA
 rw [if_pos (by omega), Int.toNat_natCast, List.getElem?_eq_getElem h]
theorem km {m : ah} {k : Int} {c : ap} (h : cxA m k = some c) : 0 <= k /\ ∃ hk : k.toNat < m.contexts.length, m.contexts[k.toNat] = c := by
 unfold cxA at h
 split at h
 ·rename_i h0
  exact ⟨h0, List.getElem?_eq_some_iff.1 h⟩
 ·cases h
def cdA (m : ah) (k : Int) : Option aC := if 0 <= k then m.base.codes[k.toNat]? else none
theorem ac6 {m : ah} {k : Nat} (h : k < m.base.codes.length) : cdA m (k : Int) = some m.base.codes[k] := by
 unfold cdA
 rw [if_pos (by omega), Int.toNat_natCast, List.getElem?_eq_getElem h]
theorem xl {m : ah} {k : Int} {c : aC} (h : cdA m k = some c) : 0 <= k /\ ∃ hk : k.toNat < m.base.codes.length, m.base.codes[k.toNat] = c := by
 unfold cdA at h
 split at h
 ·rename_i h0
  exact ⟨h0, List.getElem?_eq_some_iff.1 h⟩
 ·cases h
def eg (m : ah) : Prop := ∀ (i : Nat) (h : i < m.contexts.length), -1 <= m.contexts[i].sender /\ m.contexts[i].sender < i
inductive OnW (m : ah) (a : Int) : Int -> Prop
 | here : OnW m a a
 | up (k : Nat) (h : k < m.contexts.length) (hne : (k : Int) ≠ a) (hr : OnW m a m.contexts[k].sender) : OnW m a k
theorem wJ {m : ah} {a : Int} {k : Nat} (h : k < m.contexts.length) (hne : (k : Int) ≠ a) : OnW m a k ↔ OnW m a m.contexts[k].sender := by
 constructor
 ·intro hb
  generalize hk : (k : Int) = q at hb
  cases hb with
  | here => exact absurd hk hne
  | up k' h' hne' hr =>
    obtain rfl : k = k' := by omega
    exact hr
 ·exact .up k h hne
theorem aa1 {m : ah} {a k : Int} (h : k < 0) : OnW m a k ↔ k = a := by
 constructor
 ·intro hb
  cases hb with
  | here => rfl
  | up k' h' hne' hr => omega
 ·rintro rfl; exact .here
theorem ad9 {m : ah} (hs : eg m) {a k : Int} (h : OnW m a k) (hk : k < m.contexts.length) : a < m.contexts.length := by
 induction h with
 | here => exact hk
 | up k h hne hr ih => exact ih (by have := hs k h; omega)
open Classical in
noncomputable def onB (m : ah) (a k : Int) : Bool := decide (OnW m a k)
def dps (x : aC) : List Int := (bX x.instrs).getD []
def adl (m : ah) (c : ap) (less : Int) : Bool := match cdA m c.code with
 | some x => decide (c.pc < x.instrs.length) && (decide (0 <= gd (dps x) c.pc) && decide ((c.stack.length : Int) = IntKind.i64.wrap (gd (dps x) c.pc - less)))
 | none => false
noncomputable def nI (m : ah) (c : ap) (less : Int) : Bool := if c.mark = 0 then adl m c less else if c.mark = 3 \/ c.mark = 5 then onB m c.other c.sender else true
inductive yo (m : ah) : Int -> Int -> Prop
 | out (less k : Int) (h : k < 0) : yo m less k
 | up (less : Int) (k : Nat) (h : k < m.contexts.length) (hs : nI m m.contexts[k] less = true) (hr : yo m 1 m.contexts[k].sender) : yo m less k
theorem mM {m : ah} {less : Int} {k : Nat} (h : k < m.contexts.length) : yo m less k ↔ nI m m.contexts[k] less = true /\ yo m 1 m.contexts[k].sender := by
 constructor
 ·intro hb
  generalize hk : (k : Int) = q at hb
  cases hb with
  | out l k' h' => omega
  | up l k' h' hs hr =>
    obtain rfl : k = k' := by omega
    exact ⟨hs, hr⟩
 ·rintro ⟨h1, h2⟩; exact .up less k h h1 h2
def dv (m : ah) (a : Int) : Prop := ∃ c, cxA m a = some c /\ c.mark = 0 /\ yo m 0 a
open Classical in
noncomputable def ju (m : ah) (a : Int) : Bool := decide (dv m a)
def vq (o : au) : List Int := if o.kind = 3 then o.numbers.drop 1 else []
def vW (m : ah) : List Int := m.store.objects.flatMap vq
def nd (m : ah) : List Int := if m.status = 0 then [m.now] else []
def sy (m : ah) (L : List Int) : Prop := (∀ p ∈ L, 0 <= p /\ p < m.processes.length) /\ L.Nodup /\ ∀ p ∈ L, ∀ q, m.processes[p.toNat]? = some q -> dv m q.at_
theorem pL {m : ah} {L L' : List Int} (h : L.Perm L') (k : sy m L) : sy m L' := ⟨fun p hp => k.1 p (h.mem_iff.2 hp), h.nodup_iff.1 k.2.1, fun p hp => k.2.2 p (h.mem_iff.2 hp)⟩
theorem pS {m : ah} : sy m (m.ready ++ nd m ++ vW m) ↔ sy m (nd m ++ m.ready ++ vW m) :=
 ⟨pL (List.perm_append_comm.append_right _), pL (List.perm_append_comm.append_right _)⟩
def yQ (m : ah) (n0 n1 n2 : Int) : Prop := (n0 = -1 /\ n1 = -1 /\ n2 = 0) \/ (n2 = 1 /\ ∃ c, cxA m n1 = some c /\ c.mark = 3 /\ 0 <= n0 /\ OnW m n0 c.sender)
def xe (m : ah) (o : au) : Prop := o.kind = 1 -> ∀ n0 n1 n2, o.numbers = [n0, n1, n2] -> yQ m n0 n1 n2
def ae4 (m : ah) (v : ab) (most : Int) : Prop := v.kind = 7 /\ ∃ b x, m.blocks[v.number.toNat]? = some b /\ cdA m b.code = some x /\ x.params <= most
open Classical in
noncomputable def uk (m : ah) (v : ab) (most : Int) : Bool := decide (ae4 m v most)
def mkA (m : ah) (k : Int) : Int := match cxA m k with | some d => d.mark | none => 0
def doB (m : ah) (k i : Int) : Bool := inR i 0 (k - 1) && decide (mkA m i = 1)
def v1 (l : List ab) (g : ab -> Bool) : Bool := match l with
 | [a] => g a
 | _ => false
def v3 (l : List ab) (g : ab -> ab -> ab -> Bool) : Bool := match l with
 | [a, b, c] => g a b c
 | _ => false
theorem abB {l : List ab} {g : ab -> Bool} (h : ¬ l.length = 1) : v1 l g = false := by
 match l, h with
 | [], _ => rfl
 | [a], h => exact absurd rfl h
 | _ :: _ :: _, _ => rfl
theorem aew {l : List ab} {g : ab -> ab -> ab -> Bool} (h : ¬ l.length = 3) : v3 l g = false := by
 match l, h with
 | [], _ => rfl
 | [_], _ => rfl
 | [_, _], _ => rfl
 | [a, b, c], h => exact absurd rfl h
 | _ :: _ :: _ :: _ :: _, _ => rfl
theorem y0 (a : ab) (g : ab -> Bool) : v1 [a] g = g a := rfl
theorem aep (a b c : ab) (g : ab -> ab -> ab -> Bool) : v3 [a, b, c] g = g a b c := rfl
noncomputable def aa9 (m : ah) (k : Int) (c : ap) : Bool :=
 if c.mark = 1 then v3 c.values fun a b d => decide (a.kind = 5) && (uY m.store.classes 1 a.number && (uk m b 1 && uk m d 0))
 else if c.mark = 2 then v1 c.values fun a => uk m a 0
 else if c.mark = 3 then v1 c.values fun a => decide (a.kind = 6) && doB m k c.other
 else if c.mark = 4 then decide (c.values.length = 1)
 else if c.mark = 5 then inR c.other (-1) (k - 1) && (decide (c.values.length = 1) && (!c.retry || doB m k c.other))
 else false
def eqV (x y : ab) : Bool := decide (x.kind = y.kind) && (decide (x.number = y.number) && (decide (x.text = y.text) && true))
def shB (c : ap) : Bool := decide (c.code = 0) && (decide (c.pc = 0) && (decide (c.outer = -1) && (decide (c.home = -1) && (eqV c.self ⟨0, 0, ⟨#[]⟩⟩ && (decide (c.slots.length = 0) && (decide (c.stack.length = 0) && (!c.retry || decide (c.mark = 5))))))))
def adj (c : ap) : Bool := decide (c.mark = 3) || (decide (c.mark = 5) || decide (c.other = 0))
def aeS (m : ah) (o : List Int) (k : Int) (c : ap) (x : aC) : Bool :=
 if x.block = true then inR c.outer 0 (k - 1) && (match cxA m c.outer with | some p => decide (p.mark = 0) && (decide (p.code = gd o c.code) && (decide (c.home = p.home) && eqV c.self p.self)) | none => false)
 else decide (c.outer = -1) && decide (c.home = k)
def plB (m : ah) (o : List Int) (k : Int) (c : ap) : Bool :=
 decide (c.values.length = 0) && (decide (c.other = 0) && (!c.retry && (inR c.code 0 ((m.base.codes.length : Int) - 1) && (match cdA m c.code with | some x => decide ((c.slots.length : Int) = x.slots) && (inR c.pc 0 x.instrs.length && (decide (c.stack.length <= 250) && aeS m o k c x)) | none => false))))
def mT (m : ah) (v : ab) : Prop := cz m.store m.blocks.length v = true
def oK (m : ah) (l : List ab) : Bool := l.all (cz m.store m.blocks.length)
theorem rJ {m : ah} {l : List ab} (h : oK m l = true) : ∀ v ∈ l, mT m v := fun v hv => List.all_eq_true.1 h v hv
noncomputable def pP (m : ah) (o : List Int) (k : Int) (c : ap) : Bool :=
 inR c.sender (-1) (k - 1) && (cz m.store m.blocks.length c.self && (oK m c.slots && (oK m c.stack && (oK m c.values && (if c.mark = 0 then plB m o k c else shB c && (aa9 m k c && adj c))))))
def jL (m : ah) (o : List Int) (b : ar) : Bool :=
 inR b.code 0 ((m.base.codes.length : Int) - 1) && ((match cdA m b.code with | some x => x.block | none => false) && (inR b.outer 0 ((m.contexts.length : Int) - 1) && (match cxA m b.outer with | some c => decide (c.mark = 0) && (decide (c.code = gd o b.code) && (decide (b.home = c.home) && eqV b.self c.self)) | none => false)))
def adc (m : ah) (o : List Int) : Prop := (∀ (i : Nat) (h : i < m.contexts.length), pP m o i m.contexts[i] = true) /\ ∀ b ∈ m.blocks, jL m o b = true
theorem jc {m : ah} {o : List Int} {k : Int} {c : ap} (h : pP m o k c = true) : (-1 <= c.sender /\ c.sender <= k - 1) /\ mT m c.self /\ oK m c.slots = true /\ oK m c.stack = true /\ oK m c.values = true /\ (if c.mark = 0 then plB m o k c else shB c && (aa9 m k c && adj c)) = true := by
 unfold pP at h
 simp only [Bool.and_eq_true] at h
 obtain ⟨h1, h2, h3, h4, h5, h6⟩ := h
 exact ⟨of_decide_eq_true h1, h2, h3, h4, h5, h6⟩
theorem nE {m : ah} {o : List Int} (h : ∀ (i : Nat) (h : i < m.contexts.length), pP m o i m.contexts[i] = true) : eg m := fun i hi => by
 have := (jc (h i hi)).1
 omega
theorem rZ {m : ah} {o : List Int} {k : Int} {c : ap} (h : pP m o k c = true) (h0 : c.mark = 0) : ∃ x, cdA m c.code = some x /\ (0 <= c.code /\ c.code < m.base.codes.length) /\ (0 <= c.pc /\ c.pc <= x.instrs.length) /\ c.stack.length <= 250 := by
 have h1 := (jc h).2.2.2.2.2
 rw [if_pos h0] at h1
 unfold plB at h1
 simp only [Bool.and_eq_true] at h1
 obtain ⟨_, _, _, h4, h5⟩ := h1
 have h4 := of_decide_eq_true h4
 cases hx : cdA m c.code with
 | none => rw [hx] at h5; cases h5
 | some x =>
   rw [hx] at h5
   simp only [Bool.and_eq_true] at h5
   obtain ⟨_, h6, h7, _⟩ := h5
   exact ⟨x, rfl, by omega, of_decide_eq_true h6, of_decide_eq_true h7⟩
def wn (l : List Int) : Nat -> Int
 | 0 => l.getD 0 0
 | i + 1 => if l.getD (i + 1) 0 < wn l i then l.getD (i + 1) 0 else wn l i
theorem aak (l : List Int) : ∀ i, 0 <= wn l i ↔ ∀ j, j <= i -> 0 <= l.getD j 0
 | 0 => by
   unfold wn
   exact ⟨fun h j hj => by rw [Nat.le_zero.1 hj]; exact h, fun h => h 0 (Nat.le_refl _)⟩
 | i + 1 => by
   have ih := aak l i
   unfold wn
   constructor
   ·intro h j hj
    rcases Nat.lt_or_ge j (i + 1) with h1 | h1
    ·refine ih.1 ?_ j (by omega)
     split at h <;> omega
    ·obtain rfl : j = i + 1 := by omega
     split at h <;> omega
   ·intro h
    have h1 := ih.2 fun j hj => h j (by omega)
    have h2 := h (i + 1) (Nat.le_refl _)
    split <;> assumption
def nnL (l : List Int) : Prop := ∀ n ∈ l, 0 <= n
instance (l : List Int) : Decidable (nnL l) := by unfold nnL; infer_instance
theorem abf {l : List Int} (h : 0 < l.length) : 0 <= wn l (l.length - 1) ↔ nnL l := by
 rw [aak]
 constructor
 ·intro h1 n hn
  obtain ⟨j, hj, rfl⟩ := List.getElem_of_mem hn
  have := h1 j (by omega)
  rwa [List.getD_eq_getElem?_getD, List.getElem?_eq_getElem hj] at this
 ·intro h1 j hj
  rw [List.getD_eq_getElem?_getD, List.getElem?_eq_getElem (by omega)]
  exact h1 _ (List.getElem_mem _)
theorem tp {G : World -> Prop} (lo : Nat) (l : List Int) (hl : 0 < l.length) (hn : l.length <= 1048576) : Ct Tryz.prog G 275 [.sl lo 1 (aN l)] (fun _ => .int .i64 (wn l (l.length - 1))) := by
 refine aq Tryz.func275 rfl Tryz.ntmps275 rfl rfl fun w0 _ hG => ?_
 have hlen := aj l
 have h0 : (aN l)[0]? = some [.int .i64 (wn l 0)] := by
   rw [j9 hl]
   unfold wn
   rw [List.getD_eq_getElem?_getD, List.getElem?_eq_getElem hl]; rfl
 repeat' refine W_ ?_
 apply am (X := Nat) [0] (fun i => [(4, .int .i64 ((i : Int) + 1)), (3, .int .i64 (wn l i))]) (fun _ => []) (fun i => i < l.length) (fun i => l.length - i) 0 hl
 exact kp_; exact nw_
 ·exact .refl _
 intro i hi
 try dsimp only
 by_cases hlt : i + 1 < l.length
 ·have hrow : (aN l)[i + 1]? = some [.int .i64 (l.getD (i + 1) 0)] := by
    rw [j9 hlt, List.getD_eq_getElem?_getD, List.getElem?_eq_getElem hlt]; rfl
  have hs : wn l (i + 1) = if l.getD (i + 1) 0 < wn l i then l.getD (i + 1) 0 else wn l i := rfl
  have hi1 : (i : Int) + 1 = ((i + 1 : Nat) : Int) := by omega
  rw [hi1]
  generalize l.getD (i + 1) 0 = v at hrow hs
  repeat' (first | refine W_ ?_ | ((with_reducible apply aeR); rfl; rfl; rfl))
  exact ag (i + 1) hlt (by omega) (.of _ (by rw [hs]; exact nw_) od_ pk_)
 ·obtain rfl : i = l.length - 1 := by omega
  rw [show ((l.length - 1 : Nat) : Int) + 1 = (l.length : Int) by omega]
  repeat' refine W_ ?_
  exact r1_
def adn (cl : List aa) (k : Int) : Nat := match cl[k.toNat]? with
 | some c => c.fields.length
 | none => 0
open Classical in
noncomputable def fY (st : aP) (nb : Int) (o : au) : Bool :=
 o.fields.all (cz st nb) &&
 (if o.kind = 1 then decide ((0 <= o.class_ /\ o.class_ < st.classes.length) /\ ¬ (5 <= o.class_ /\ o.class_ <= 15) /\ o.fields.length = adn st.classes o.class_) && decide (o.numbers.length = if uY st.classes 1 o.class_ then 3 else 0)
  else if o.kind = 2 then decide (o.class_ = 10 /\ o.fields.length <= 50 /\ o.numbers.length = 0)
  else if o.kind = 3 then decide (o.class_ = 12 /\ o.fields.length = 0 /\ 1 <= o.numbers.length /\ nnL o.numbers)
  else false)
theorem eO {st : aP} {nb : Int} {l : List ab} {i : Nat} (h : i < l.length) (hf : cz st nb l[i] = false) : l.all (cz st nb) = false := by
 rw [Bool.eq_false_iff]
 intro h2
 have := List.all_eq_true.1 h2 _ (List.getElem_mem h)
 rw [hf] at this; cases this
theorem jI {lo : Nat} {l : List ab} {i : Nat} (h : i < l.length) : (l.map (ab.tw lo))[i]? = some [.int .i64 l[i].kind, .int .i64 l[i].number, .str l[i].text] := aI h
theorem tT (k : Int) : k = 1 \/ k = 2 \/ k = 3 \/ (¬ k = 1 /\ ¬ k = 2 /\ ¬ k = 3) := by omega
theorem vu (lo : Nat) (st : aP) (hcl : gw st.classes) (h16 : 16 <= st.classes.length /\ st.classes.length <= 24) (nb : Int) (o : au) (ho : o.small 1048576) : Ct Tryz.prog GL 222 [.agg (st.tw lo), .agg [.int .i64 o.kind, .int .i64 o.class_, .sl lo 3 (o.fields.map (ab.tw lo)), .sl lo 1 (aN o.numbers)], .int .i64 nb] (fun _ => .bool (fY st nb o)) := by
 refine aq Tryz.func222 rfl Tryz.ntmps222 rfl rfl fun w0 _ hG => ?_
 have hst := dG
 obtain ⟨ok, oc, fs, ns⟩ := o
 have hf1 := ho.1.1
 have hf2 := ho.1.2
 have hn1 := ho.2
 dsimp only at hf1 hf2 hn1 |-
 have hfl := ab.len lo fs
 have hnl := aj ns
 have hcn := aa.len lo st.classes
 have hex := fun (x : ab) (h : x.text.size <= 1048576) => nZ lo st nb x h
 unfold aP.tw at hex |-
 repeat' (first | refine W_ ?_ | refine aH ?_)
 apply am (X := Nat) [2, 3, 4, 10, 11] (fun i => [(12, .int .i64 (i : Int))]) (fun _ => []) (fun i => i <= fs.length /\ ∀ y ∈ fs.take i, cz st nb y = true) (fun i => fs.length - i) 0 ⟨Nat.zero_le _, by simp⟩
 exact kp_; exact nw_
 ·exact .refl _
 rintro i ⟨hi, hall⟩
 try dsimp only
 by_cases hlt : i < fs.length
 ·have hrow := jI (lo := lo) hlt
  have hxi := hex _ (hf2 _ (List.getElem_mem hlt))
  have hta := aX (p := fun y => cz st nb y = true) hlt hall
  cases hfi : cz st nb fs[i] with
  | false =>
    have e : fY st nb ⟨ok, oc, fs, ns⟩ = false := by
      unfold fY
      rw [eO hlt hfi, Bool.false_and]
    rw [e]
    rw [hfi] at hxi
    generalize fs[i] = x at hrow hxi
    repeat' (first | refine W_ ?_ | (refine ak ?_; intro ss bb) | refine ac ?_ | refine ad hG hst (hxi) ?_)
    exact r1_
  | true =>
    rw [hfi] at hxi hta
    generalize fs[i] = x at hrow hxi
    repeat' (first | refine W_ ?_ | (refine ak ?_; intro ss bb) | refine ac ?_ | refine ad hG hst (hxi) ?_)
    exact ag (i + 1) ⟨by omega, hta rfl⟩ (by omega) (.of _ nw_ od_ pk_)
 obtain rfl : i = fs.length := by omega
 rw [List.take_of_length_le (Nat.le_refl _)] at hall
 have hA : fs.all (cz st nb) = true := List.all_eq_true.2 hall
 clear hex hall
 rcases tT ok with rfl | rfl | rfl | ⟨g1, g2, g3⟩
 ·have e : fY st nb ⟨1, oc, fs, ns⟩ = (decide ((0 <= oc /\ oc < st.classes.length) /\ ¬ (5 <= oc /\ oc <= 15) /\ fs.length = adn st.classes oc) && decide (ns.length = if uY st.classes 1 oc then 3 else 0)) := by
    unfold fY
    rw [hA, Bool.true_and, if_pos rfl]
  rw [e]
  clear e hA
  have w1 := aL (G := GL) oc 0 ((st.classes.length : Int) - 1)
  have w2 := aL (G := GL) oc 5 15
  rw [show (st.classes.length : Int) - 1 = ((st.classes.length - 1 : Nat) : Int) by omega] at w1
  by_cases hr : 0 <= oc /\ oc < st.classes.length
  case neg =>
    rw [show inR oc 0 ((st.classes.length - 1 : Nat) : Int) = false from by simp only [inR, decide_eq_false_iff_not]; omega] at w1
    rw [decide_eq_false fun h => hr h.1, Bool.false_and]
    repeat' (first | refine V_ ?_ | refine ae hG hst (w1) ?_)
    exact r1_
  rw [show inR oc 0 ((st.classes.length - 1 : Nat) : Int) = true from by simp only [inR, decide_eq_true_eq]; omega] at w1
  by_cases h5 : 5 <= oc /\ oc <= 15
  ·rw [show inR oc 5 15 = true from by simp only [inR, decide_eq_true_eq]; omega] at w2
   rw [decide_eq_false fun h => h.2.1 h5, Bool.false_and]
   repeat' (first | refine V_ ?_ | refine ae hG hst (w1) ?_ | refine ae hG hst (w2) ?_)
   exact r1_
  rw [show inR oc 5 15 = false from by simp only [inR, decide_eq_false_iff_not]; exact h5] at w2
  obtain ⟨c, rfl⟩ : ∃ c : Nat, oc = c := ⟨oc.toNat, by omega⟩
  have hc : c < st.classes.length := by omega
  have hrow := iL (lo := lo) hc
  have hfn : adn st.classes (c : Int) = st.classes[c].fields.length := by
    unfold adn
    rw [Int.toNat_natCast, List.getElem?_eq_getElem hc]
  have hib := pY (G := GL) lo st.classes hcl (c : Int) 1 (by omega)
  rw [hfn]
  generalize st.classes[c] = x at hrow hfn |-
  have hxl := bP x.fields
  by_cases hlen : fs.length = x.fields.length
  case neg =>
    have hne : (fs.length : Int) ≠ x.fields.length := by omega
    rw [decide_eq_false fun h => hlen h.2.2, Bool.false_and]
    repeat' (first | refine V_ ?_ | refine ae hG hst (w1) ?_ | refine ae hG hst (w2) ?_)
    exact r1_
  have hne : ¬ ((fs.length : Int) ≠ x.fields.length) := by omega
  rw [decide_eq_true ⟨hr, h5, hlen⟩, Bool.true_and]
  generalize uY st.classes 1 (c : Int) = b at hib |-
  cases b
  all_goals
    repeat' (first | refine V_ ?_ | refine ae hG hst (w1) ?_ | refine ae hG hst (w2) ?_ | refine ad hG hst (hib) ?_)
    refine aK x_ rfl (.tmp _ _ rfl) (fun _ => ?_)
    exact aJ (by first | (simp; done) | (simp; omega))
 ·have e : fY st nb ⟨2, oc, fs, ns⟩ = decide (oc = 10 /\ fs.length <= 50 /\ ns.length = 0) := by
    unfold fY
    rw [hA, Bool.true_and, if_neg (by dsimp only; decide), if_pos rfl]
  rw [e]
  clear e hA
  repeat' (first | refine W_ ?_ | refine g_ (fun hg => ?_) (fun hg => ?_))
  all_goals
    refine aK x_ rfl (.tmp _ _ rfl) (fun _ => ?_)
    refine aJ ?_
    first
      | (rw [decide_eq_decide]; omega)
      | (symm; rw [decide_eq_false_iff_not]; omega)
 ·have e : fY st nb ⟨3, oc, fs, ns⟩ = decide (oc = 12 /\ fs.length = 0 /\ 1 <= ns.length /\ nnL ns) := by
    unfold fY
    rw [hA, Bool.true_and, if_neg (by dsimp only; decide), if_neg (by dsimp only; decide), if_pos rfl]
  rw [e]
  clear e hA
  by_cases hns : 0 < ns.length
  ·have hmi := tp (G := GL) lo ns hns hn1
   have hma := abf hns
   generalize wn ns (ns.length - 1) = mv at hmi hma
   repeat' (first | refine W_ ?_ | refine ad hG hst (hmi) ?_ | refine g_ (fun hg => ?_) (fun hg => ?_))
   all_goals
     refine aK x_ rfl (.tmp _ _ rfl) (fun _ => ?_)
     refine aJ ?_
     first
       | (rw [decide_eq_decide, <- hma]; omega)
       | (symm; rw [decide_eq_false_iff_not, <- hma]; omega)
  ·repeat' (first | refine W_ ?_ | refine g_ (fun hg => ?_) (fun hg => ?_))
   all_goals
     refine aK x_ rfl (.tmp _ _ rfl) (fun _ => ?_)
     refine aJ ?_
     first
       | (symm; rw [decide_eq_false_iff_not]; omega)
       | (symm; rw [decide_eq_false_iff_not]; rintro ⟨_, _, h, _⟩; omega)
 ·have e : fY st nb ⟨ok, oc, fs, ns⟩ = false := by
    unfold fY
    rw [if_neg g1, if_neg g2, if_neg g3, Bool.and_false]
  rw [e]
  repeat' refine W_ ?_
  exact r1_
section
variable {G : World -> Prop}
theorem cZ {lo : Nat} {l : List ap} {i : Nat} (h : i < l.length) : (l.map (ap.tw lo))[i]? = some [.int .i64 l[i].mark, .int .i64 l[i].code, .int .i64 l[i].pc, .int .i64 l[i].sender, .int .i64 l[i].outer, .int .i64 l[i].home, .int .i64 l[i].self.kind, .int .i64 l[i].self.number, .str l[i].self.text, .sl lo 3 (l[i].slots.map (ab.tw lo)), .sl lo 3 (l[i].stack.map (ab.tw lo)), .sl lo 3 (l[i].values.map (ab.tw lo)), .int .i64 l[i].other, .bool l[i].retry] := aI h
open Classical in
theorem xo (f lo : Nat) (m : ah) (hcl : m.contexts.length <= 1048576) (hs : eg m) (k0 a : Int) (hk0 : -1 <= k0 /\ k0 < m.contexts.length) : Ct Tryz.prog G 198 [.cp f (m.tw lo), .int .i64 k0, .int .i64 a] (fun _ => .bool (onB m a k0)) := by
 refine aq Tryz.func198 rfl Tryz.ntmps198 rfl rfl fun w0 _ hG => ?_
 have hlen := ap.len lo m.contexts
 unfold ah.tw
 repeat' refine W_ ?_
 apply am (X := Int) [0, 2] (fun k => [(1, .int .i64 k)]) (fun _ => []) (fun k => (-1 <= k /\ k < m.contexts.length) /\ (OnW m a k0 ↔ OnW m a k)) (fun k => (k + 1).toNat) k0 ⟨hk0, Iff.rfl⟩
 exact kp_; exact nw_
 ·exact .refl _
 rintro k ⟨hk, hiff⟩
 try dsimp only
 by_cases hneg : k < 0
 ·have e : onB m a k0 = decide (a = -1) := decide_eq_decide.2 (hiff.trans ((aa1 hneg).trans (by omega)))
  rw [e]
  repeat' refine W_ ?_
  refine aK x_ rfl (.tmp _ _ rfl) (fun _ => ?_)
  exact aJ rfl
 obtain ⟨n, rfl⟩ : ∃ n : Nat, k = n := ⟨k.toNat, by omega⟩
 have hn : n < m.contexts.length := by omega
 by_cases hka : (n : Int) = a
 ·have e : onB m a k0 = true := decide_eq_true (hiff.2 (hka ▸ .here))
  rw [e]
  repeat' refine W_ ?_
  exact r1_
 ·have hrow := cZ (lo := lo) hn
  have hp := hs n hn
  have hst2 := hiff.trans (wJ hn hka)
  generalize m.contexts[n] = c at hrow hp hst2
  repeat' refine W_ ?_
  exact ag c.sender ⟨by omega, hst2⟩ (by omega) (.of _ nw_ od_ pk_)
open Classical in
theorem wv (f lo : Nat) (m : ah) (hcl : m.contexts.length <= 1048576) (hs : eg m) (k0 a : Int) (hk0 : -1 <= k0 /\ k0 < m.contexts.length) : Ct Tryz.prog G 230 [.cp f (m.tw lo), .int .i64 k0, .int .i64 a] (fun _ => .bool (onB m a k0)) := by
 refine aq Tryz.func230 rfl Tryz.ntmps230 rfl rfl fun w0 _ hG => ?_
 have hlen := ap.len lo m.contexts
 unfold ah.tw
 repeat' refine W_ ?_
 apply am (X := Int) [0, 2] (fun k => [(1, .int .i64 k)]) (fun _ => []) (fun k => (-1 <= k /\ k < m.contexts.length) /\ (OnW m a k0 ↔ OnW m a k)) (fun k => (k + 1).toNat) k0 ⟨hk0, Iff.rfl⟩
 exact kp_; exact nw_
 ·exact .refl _
 rintro k ⟨hk, hiff⟩
 try dsimp only
 by_cases hneg : k < 0
 ·have e : onB m a k0 = decide (k = a) := decide_eq_decide.2 (hiff.trans (aa1 hneg))
  rw [e]
  repeat' refine W_ ?_
  refine aK x_ rfl (.tmp _ _ rfl) (fun _ => ?_)
  exact aJ rfl
 obtain ⟨n, rfl⟩ : ∃ n : Nat, k = n := ⟨k.toNat, by omega⟩
 have hn : n < m.contexts.length := by omega
 by_cases hka : (n : Int) = a
 ·have e : onB m a k0 = true := decide_eq_true (hiff.2 (hka ▸ .here))
  have hne : ¬ ((n : Int) ≠ a) := fun h => h hka
  rw [e]
  repeat' refine W_ ?_
  refine aK x_ rfl (.tmp _ _ rfl) (fun _ => ?_)
  exact aJ (decide_eq_true hka)
 ·have hrow := cZ (lo := lo) hn
  have hp := hs n hn
  have hst2 := hiff.trans (wJ hn hka)
  have hne : (n : Int) ≠ a := hka
  generalize m.contexts[n] = c at hrow hp hst2
  repeat' refine W_ ?_
  exact ag c.sender ⟨by omega, hst2⟩ (by omega) (.of _ nw_ od_ pk_)
end
theorem xw {m : ah} {v : ab} (h : mT m v) (h7 : v.kind = 7) : 0 <= v.number /\ v.number < m.blocks.length := by
 unfold mT cz jM at h
 rw [h7] at h
 simp at h
 omega
theorem abI {m : ah} {v : ab} (h : mT m v) (h5 : v.kind = 5) : 0 <= v.number /\ v.number < m.store.classes.length := by
 unfold mT cz jM at h
 rw [h5] at h
 simp at h
 omega
theorem abH {m : ah} {v : ab} (h : mT m v) (h0 : v.kind = 0) : v = ⟨0, 0, ⟨#[]⟩⟩ := by
 obtain ⟨k, n, t⟩ := v
 dsimp only at h0
 subst h0
 unfold mT cz jM at h
 simp at h
 rw [h.1, h.2]
theorem zg {m : ah} {v : ab} {most : Int} {n q : Nat} {b : ar} {x : aC} (h7 : v.kind = 7) (hn : v.number = n) (hb : m.blocks[n]? = some b) (hq : b.code = q) (hx : m.base.codes[q]? = some x) : ae4 m v most ↔ x.params <= most := by
 unfold ae4 cdA
 rw [hn, Int.toNat_natCast, hb]
 constructor
 ·rintro ⟨_, b', x', hb', hx', h⟩
  cases hb'
  rw [hq, if_pos (by omega), Int.toNat_natCast, hx] at hx'
  cases hx'
  exact h
 ·intro h
  exact ⟨h7, b, x, rfl, by rw [hq, if_pos (by omega), Int.toNat_natCast, hx], h⟩
theorem ru {lo : Nat} {l : List ar} {i : Nat} (h : i < l.length) : (l.map (ar.tw lo))[i]? = some [.int .i64 l[i].code, .int .i64 l[i].outer, .int .i64 l[i].home, .int .i64 l[i].self.kind, .int .i64 l[i].self.number, .str l[i].self.text] := aI h
section
variable {G : World -> Prop}
open Classical in
theorem vZ (lo : Nat) (m : ah) (hbl : m.blocks.length <= 1048576) (hcl : m.base.codes.length <= 1048576) (n q : Nat) (b : ar) (x : aC) (hb : m.blocks[n]? = some b) (hq : b.code = q) (hx : m.base.codes[q]? = some x) : Ct Tryz.prog G 316 [.agg (m.tw lo), .int .i64 (n : Int)] (fun _ => .int .i64 x.params) := by
 refine aq Tryz.func316 rfl Tryz.ntmps316 rfl rfl fun w0 _ hG => ?_
 have hlen := ar.len lo m.blocks
 have hlc := aC.len lo m.base.codes
 obtain ⟨h1, e1⟩ := List.getElem?_eq_some_iff.1 hb
 obtain ⟨h2, e2⟩ := List.getElem?_eq_some_iff.1 hx
 have hr1 := ru (lo := lo) h1
 have hr2 := bN (lo := lo) h2
 rw [e1] at hr1
 rw [e2] at hr2
 rw [hq] at hr1
 unfold ah.tw
 repeat' (first | refine V_ ?_ | refine aH ?_)
 exact r1_
open Classical in
theorem xQ (hst : ay G) (lo : Nat) (m : ah) (hbl : m.blocks.length <= 1048576) (hcl : m.base.codes.length <= 1048576) (hbc : ∀ b ∈ m.blocks, 0 <= b.code /\ b.code < m.base.codes.length) (v : ab) (hv : mT m v) (most : Int) : Ct Tryz.prog G 278 [.agg (m.tw lo), .agg [.int .i64 v.kind, .int .i64 v.number, .str v.text], .int .i64 most] (fun _ => .bool (uk m v most)) := by
 refine aq Tryz.func278 rfl Tryz.ntmps278 rfl rfl fun w0 _ hG => ?_
 by_cases h7 : v.kind = 7
 case neg =>
   rw [show uk m v most = false from decide_eq_false fun h => h7 h.1]
   unfold ah.tw
   repeat' (first | refine W_ ?_ | refine aH ?_)
   exact r1_
 have hr := xw hv h7
 obtain ⟨n, hn⟩ : ∃ n : Nat, v.number = n := ⟨v.number.toNat, by omega⟩
 have h1 : n < m.blocks.length := by omega
 have h2 := hbc _ (List.getElem_mem h1)
 obtain ⟨q, hq⟩ : ∃ q : Nat, m.blocks[n].code = q := ⟨m.blocks[n].code.toNat, by omega⟩
 have h3 : q < m.base.codes.length := by omega
 have hiff := zg (most := most) h7 hn (List.getElem?_eq_getElem h1) hq (List.getElem?_eq_getElem h3)
 have hct := vZ (G := G) lo m hbl hcl n q _ _ (List.getElem?_eq_getElem h1) hq (List.getElem?_eq_getElem h3)
 rw [show uk m v most = decide (m.base.codes[q].params <= most) from decide_eq_decide.2 hiff, h7, hn]
 generalize m.base.codes[q].params = pr at hct
 unfold ah.tw at hct |-
 repeat' (first | refine W_ ?_ | refine aH ?_ | refine ad hG hst (hct) ?_)
 refine aK x_ rfl (.tmp _ _ rfl) (fun _ => ?_)
 exact aJ rfl
open Classical in
theorem uU (hst : ay G) (f lo : Nat) (m : ah) (hbl : m.blocks.length <= 1048576) (hcl : m.base.codes.length <= 1048576) (hc1 : 1 <= m.base.codes.length) (v : ab) (hv : mT m v) (most : Int) : Ct Tryz.prog G 257 [.cp f (m.tw lo), .agg [.int .i64 v.kind, .int .i64 v.number, .str v.text], .int .i64 most] (fun _ => .bool (uk m v most)) := by
 refine aq Tryz.func257 rfl Tryz.ntmps257 rfl rfl fun w0 _ hG => ?_
 have hlen := ar.len lo m.blocks
 have hlc := aC.len lo m.base.codes
 by_cases h7 : v.kind = 7
 case neg =>
   rw [show uk m v most = false from decide_eq_false fun h => h7 h.1]
   unfold ah.tw
   repeat' (first | refine V_ ?_ | refine aH ?_)
   exact r1_
 have hr := xw hv h7
 obtain ⟨n, hn⟩ : ∃ n : Nat, v.number = n := ⟨v.number.toNat, by omega⟩
 have h1 : n < m.blocks.length := by omega
 have hr1 := ru (lo := lo) h1
 have hbg : m.blocks[n]? = some m.blocks[n] := List.getElem?_eq_getElem h1
 generalize m.blocks[n] = b at hr1 hbg
 have c1 := bg (G := G) b.code 0 ((m.base.codes.length - 1 : Nat) : Int)
 have hsub : (m.base.codes.length : Int) - 1 = ((m.base.codes.length - 1 : Nat) : Int) := by omega
 by_cases h2 : 0 <= b.code /\ b.code < m.base.codes.length
 case neg =>
   rw [show inR b.code 0 ((m.base.codes.length - 1 : Nat) : Int) = false from by simp only [inR, decide_eq_false_iff_not]; omega] at c1
   rw [show uk m v most = false from decide_eq_false fun h => by
     obtain ⟨_, b', x, hb', hx, _⟩ := h
     rw [hn, Int.toNat_natCast, hbg] at hb'
     cases hb'
     obtain ⟨h3, h4, _⟩ := xl hx
     omega]
   rw [h7, hn]
   unfold ah.tw
   repeat' (first | refine V_ ?_ | refine aH ?_ | refine ae hG hst (c1) ?_)
   exact r1_
 rw [show inR b.code 0 ((m.base.codes.length - 1 : Nat) : Int) = true from by simp only [inR, decide_eq_true_eq]; omega] at c1
 obtain ⟨q, hq⟩ : ∃ q : Nat, b.code = q := ⟨b.code.toNat, by omega⟩
 have h3 : q < m.base.codes.length := by omega
 have hiff := zg (most := most) h7 hn hbg hq (List.getElem?_eq_getElem h3)
 have hr2 := bN (lo := lo) h3
 rw [show uk m v most = decide (m.base.codes[q].params <= most) from decide_eq_decide.2 hiff, h7, hn]
 rw [hq] at hr1 c1
 generalize m.base.codes[q] = x at hr2
 unfold ah.tw
 repeat' (first | refine V_ ?_ | refine aH ?_ | refine ae hG hst (c1) ?_)
 refine aK x_ rfl (.tmp _ _ rfl) (fun _ => ?_)
 exact aJ rfl
end
theorem tB (k : Int) : k = 1 \/ k = 2 \/ k = 3 \/ k = 4 \/ k = 5 \/ (¬ k = 1 /\ ¬ k = 2 /\ ¬ k = 3 /\ ¬ k = 4 /\ ¬ k = 5) := by omega
theorem aeQ {α : Type} {l : List α} (h : l.length = 1) : ∃ a, l = [a] := by
 match l, h with
 | [a], _ => exact ⟨a, rfl⟩
theorem afv {α : Type} {l : List α} (h : l.length = 3) : ∃ a b c, l = [a, b, c] := by
 match l, h with
 | [a, b, c], _ => exact ⟨a, b, c, rfl⟩
theorem vz {m : ah} {k i : Int} (h : inR i 0 (k - 1) = false) : doB m k i = false := by unfold doB; rw [h, Bool.false_and]
theorem zR {m : ah} {k i : Int} (h : inR i 0 (k - 1) = true) : doB m k i = decide (mkA m i = 1) := by unfold doB; rw [h, Bool.true_and]
theorem zb {m : ah} {k : Nat} (h : k < m.contexts.length) : mkA m (k : Int) = m.contexts[k].mark := by
 unfold mkA; rw [iN h]
theorem adU {m : ah} {k n : Int} {t : ByteArray} (h : cz m.store m.blocks.length ⟨k, n, t⟩ = true) : eqV ⟨k, n, t⟩ ⟨0, 0, ⟨#[]⟩⟩ = decide (k = 0) := by
 by_cases hk : k = 0
 ·rw [decide_eq_true hk, abH (m := m) h hk]; rfl
 ·unfold eqV
  rw [decide_eq_false hk, Bool.false_and]
theorem wF {m : ah} {k : Nat} {c : ap} (h : k < m.contexts.length) (e : m.contexts[k] = c) : cxA m (k : Int) = some c := by rw [iN h, e]
theorem wB {m : ah} {k : Nat} {c : aC} (h : k < m.base.codes.length) (e : m.base.codes[k] = c) : cdA m (k : Int) = some c := by rw [ac6 h, e]
end Go.Proofs.YtigipcbnfeoliaaGreatDoor
