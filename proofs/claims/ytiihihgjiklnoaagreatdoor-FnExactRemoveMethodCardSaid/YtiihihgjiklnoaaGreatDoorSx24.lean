/- Part 24 of the proof. -/
import Derived.Test.YtiihihgjiklnoaaGreatDoorSx20
import Derived.Test.YtiihihgjiklnoaaGreatDoorSx22
import Derived.Test.YtiihihgjiklnoaaGreatDoorSx3
set_option maxHeartbeats 2000000
set_option maxRecDepth 20000
namespace Go.Proofs.YtiihihgjiklnoaaGreatDoor
open Go Go.RowKit
inductive IsB (cl : List aa) (a : Int) : Int -> Prop
 | here : IsB cl a a
 | up (k : Nat) (h : k < cl.length) (hne : (k : Int) ≠ a) (hr : IsB cl a cl[k].parent) : IsB cl a k
theorem xO {cl : List aa} {a : Int} {k : Nat} (h : k < cl.length) (hne : (k : Int) ≠ a) : IsB cl a k ↔ IsB cl a cl[k].parent := by
 constructor
 ·intro hb
  generalize hk : (k : Int) = q at hb
  cases hb with
  | here => exact absurd hk hne
  | up k' h' hne' hr =>
    obtain rfl : k = k' := by omega
    exact hr
 ·exact .up k h hne
theorem zR {cl : List aa} {a k : Int} (h : k < 0) : IsB cl a k ↔ k = a := by
 constructor
 ·intro hb
  cases hb with
  | here => rfl
  | up k' h' hne' hr => omega
 ·rintro rfl; exact .here
theorem adp {cl : List aa} {a : Int} {k : Int} (h : (cl.length : Int) <= k) : IsB cl a k ↔ k = a := by
 constructor
 ·intro hb
  cases hb with
  | here => rfl
  | up k' h' hne' hr => omega
 ·rintro rfl; exact .here
open Classical in
noncomputable def we (cl : List aa) (a k : Int) : Bool := decide (IsB cl a k)
def gU (cl : List aa) : Prop := ∀ (i : Nat) (h : i < cl.length), -1 <= cl[i].parent /\ cl[i].parent < i
theorem wy : ∀ (i : Nat) (_h : i < 16), ∀ b, bP[i]? = some b -> -1 <= b.parent /\ b.parent < i := by
 intro i _h b hb
 match i, _h with
 | 0, _ => cases hb; decide
 | 1, _ => cases hb; decide
 | 2, _ => cases hb; decide
 | 3, _ => cases hb; decide
 | 4, _ => cases hb; decide
 | 5, _ => cases hb; decide
 | 6, _ => cases hb; decide
 | 7, _ => cases hb; decide
 | 8, _ => cases hb; decide
 | 9, _ => cases hb; decide
 | 10, _ => cases hb; decide
 | 11, _ => cases hb; decide
 | 12, _ => cases hb; decide
 | 13, _ => cases hb; decide
 | 14, _ => cases hb; decide
 | 15, _ => cases hb; decide
 | n + 16, _h => omega
open Classical in
theorem ks {cl : List aa} (h : ce cl = true) : p5 cl := of_decide_eq_true h
theorem sg {cl : List aa} (h : ce cl = true) : gU cl := fun i hi => by
 have h1 := (ks h).2 i hi
 unfold eJ at h1
 split at h1
 ·rename_i h16
  obtain ⟨b, hb, _, hp, _⟩ := h1
  rw [hp]
  exact wy i h16 b hb
 ·have := h1.1.2.1
  omega
section
variable {G : World -> Prop}
theorem iU {lo : Nat} {l : List aa} {i : Nat} (h : i < l.length) : (l.map (aa.tw lo))[i]? = some [.str l[i].name, .int .i64 l[i].parent, .sl lo 1 (cg l[i].fields)] := aK h
open Classical in
theorem qb (lo : Nat) (cl : List aa) (hcl : gU cl) (k0 a : Int) (hk0 : -1 <= k0 /\ k0 < cl.length) : Ct Tryz.prog G 275 [.sl lo 3 (cl.map (aa.tw lo)), .int .i64 k0, .int .i64 a] (fun _ => .bool (we cl a k0)) := by
 refine ap Tryz.func275 rfl Tryz.ntmps275 rfl rfl fun w0 _ hG => ?_
 have hlen := aa.len lo cl
 repeat' refine W_ ?_
 apply aj (X := Int) [0, 2] (fun k => [(1, .int .i64 k)]) (fun _ => []) (fun k => (-1 <= k /\ k < cl.length) /\ (IsB cl a k0 ↔ IsB cl a k)) (fun k => (k + 1).toNat) k0 ⟨hk0, Iff.rfl⟩
 exact kp_; exact nw_
 ·exact .refl _
 rintro k ⟨hk, hiff⟩
 try dsimp only
 by_cases hneg : k < 0
 ·have e : we cl a k0 = decide (k = a) := decide_eq_decide.2 (hiff.trans (zR hneg))
  rw [e]
  repeat' refine W_ ?_
  refine aE x_ rfl (.tmp _ _ rfl) (fun _ => ?_)
  exact aM rfl
 obtain ⟨n, rfl⟩ : ∃ n : Nat, k = n := ⟨k.toNat, by omega⟩
 have hn : n < cl.length := by omega
 by_cases hka : (n : Int) = a
 ·have e : we cl a k0 = true := decide_eq_true (hiff.2 (hka ▸ .here))
  have hne : ¬ ((n : Int) ≠ a) := fun h => h hka
  rw [e]
  repeat' refine W_ ?_
  refine aE x_ rfl (.tmp _ _ rfl) (fun _ => ?_)
  exact aM (decide_eq_true hka)
 ·have hrow := iU (lo := lo) hn
  have hp := hcl n hn
  have hst2 := hiff.trans (xO hn hka)
  have hne : (n : Int) ≠ a := hka
  generalize cl[n] = c at hrow hp hst2
  repeat' refine W_ ?_
  exact ag c.parent ⟨by omega, hst2⟩ (by omega) (.of _ nw_ od_ pk_)
open Classical in
theorem wU (lo : Nat) (cl : List aa) (hcl : gU cl) (k0 a : Int) (ha : 0 <= a /\ a < cl.length) : Ct Tryz.prog G 273 [.sl lo 3 (cl.map (aa.tw lo)), .int .i64 k0, .int .i64 a] (fun _ => .bool (we cl a k0)) := by
 refine ap Tryz.func273 rfl Tryz.ntmps273 rfl rfl fun w0 _ hG => ?_
 have hlen := aa.len lo cl
 repeat' refine W_ ?_
 apply aj (X := Int) [0, 2] (fun k => [(1, .int .i64 k)]) (fun _ => []) (fun k => IsB cl a k0 ↔ IsB cl a k) (fun k => (k + 1).toNat) k0 Iff.rfl
 exact kp_; exact nw_
 ·exact .refl _
 rintro k hiff
 try dsimp only
 by_cases hneg : k < 0
 ·have e : we cl a k0 = false := decide_eq_false fun h => by have := (zR hneg).1 (hiff.1 h); omega
  rw [e]
  repeat' refine W_ ?_
  exact r1_
 by_cases hbig : (cl.length : Int) <= k
 ·have e : we cl a k0 = false := decide_eq_false fun h => by have := (adp hbig).1 (hiff.1 h); omega
  rw [e]
  repeat' refine W_ ?_
  exact r1_
 obtain ⟨n, rfl⟩ : ∃ n : Nat, k = n := ⟨k.toNat, by omega⟩
 have hn : n < cl.length := by omega
 by_cases hka : (n : Int) = a
 ·have e : we cl a k0 = true := decide_eq_true (hiff.2 (hka ▸ .here))
  rw [e]
  repeat' refine W_ ?_
  exact r1_
 ·have hrow := iU (lo := lo) hn
  have hp := hcl n hn
  have hst2 := hiff.trans (xO hn hka)
  generalize cl[n] = c at hrow hp hst2
  repeat' refine W_ ?_
  exact ag c.parent hst2 (by omega) (.of _ nw_ od_ pk_)
end
def cK (st : aP) (nb : Int) (x : ad) : Bool := kp x.kind x.number x.text && (if x.kind = 5 then decide (x.number < st.classes.length) else if x.kind = 6 then decide (x.number < st.objects.length) else if x.kind = 7 then decide (x.number < nb) else true)
theorem nS (lo : Nat) (st : aP) (nb : Int) (x : ad) (ht : x.text.size <= 1048576) : Ct Tryz.prog GL 180 [.agg (st.tw lo), .agg [.int .i64 x.kind, .int .i64 x.number, .str x.text], .int .i64 nb] (fun _ => .bool (cK st nb x)) := by
 refine ap Tryz.func180 rfl Tryz.ntmps180 rfl rfl fun w0 _ hG => ?_
 have hst := dx
 have hv := pb x.kind x.number x.text ht
 have h1 := aa.len lo st.classes
 have h2 := av.len lo st.objects
 unfold cK
 unfold aP.tw
 generalize kp x.kind x.number x.text = b at hv |-
 cases b with
 | false =>
   rw [Bool.false_and]
   repeat' (first | refine W_ ?_ | refine aL ?_ | refine ab hG hst (hv) ?_)
   exact r1_
 | true =>
   rw [Bool.true_and]
   repeat' (first | refine W_ ?_ | refine aL ?_ | refine ab hG hst (hv) ?_ | refine c_ (fun hc => ?_) (fun hc => ?_))
   all_goals
     refine aE x_ rfl (.tmp _ _ rfl) (fun _ => ?_)
     exact aM (by simp [*])
theorem fU (f lo : Nat) (st : aP) (nb : Int) (x : ad) (ht : x.text.size <= 1048576) : Ct Tryz.prog GL 163 [.cp f (st.tw lo), .agg [.int .i64 x.kind, .int .i64 x.number, .str x.text], .int .i64 nb] (fun _ => .bool (cK st nb x)) := by
 refine ap Tryz.func163 rfl Tryz.ntmps163 rfl rfl fun w0 _ hG => ?_
 have hst := dx
 have hv := gO x.kind x.number x.text ht
 have h1 := aa.len lo st.classes
 have h2 := av.len lo st.objects
 unfold cK
 unfold aP.tw
 generalize kp x.kind x.number x.text = b at hv |-
 cases b with
 | false =>
   rw [Bool.false_and]
   repeat' (first | refine V_ ?_ | refine aL ?_ | refine ab hG hst (hv) ?_)
   exact r1_
 | true =>
   rw [Bool.true_and]
   repeat' (first | refine V_ ?_ | refine aL ?_ | refine ab hG hst (hv) ?_ | refine c_ (fun hc => ?_) (fun hc => ?_))
   all_goals
     refine aE x_ rfl (.tmp _ _ rfl) (fun _ => ?_)
     exact aM (by simp [*])
def cxA (m : ak) (k : Int) : Option ao := if 0 <= k then m.contexts[k.toNat]? else none
theorem adr {m : ak} {k : Int} (h : k < 0) : cxA m k = none := by unfold cxA; rw [if_neg (by omega)]
theorem lE {m : ak} {k : Nat} (h : k < m.contexts.length) : cxA m (k : Int) = some m.contexts[k] := by
 unfold cxA
 rw [if_pos (by omega), Int.toNat_natCast, List.getElem?_eq_getElem h]
theorem rp {m : ak} {k : Int} {c : ao} (h : cxA m k = some c) : 0 <= k /\ ∃ hk : k.toNat < m.contexts.length, m.contexts[k.toNat] = c := by
 unfold cxA at h
 split at h
 ·rename_i h0
  exact ⟨h0, List.getElem?_eq_some_iff.1 h⟩
 ·cases h
def cdA (m : ak) (k : Int) : Option az := if 0 <= k then m.base.codes[k.toNat]? else none
theorem adO {m : ak} {k : Nat} (h : k < m.base.codes.length) : cdA m (k : Int) = some m.base.codes[k] := by
 unfold cdA
 rw [if_pos (by omega), Int.toNat_natCast, List.getElem?_eq_getElem h]
theorem ab0 {m : ak} {k : Int} {c : az} (h : cdA m k = some c) : 0 <= k /\ ∃ hk : k.toNat < m.base.codes.length, m.base.codes[k.toNat] = c := by
 unfold cdA at h
 split at h
 ·rename_i h0
  exact ⟨h0, List.getElem?_eq_some_iff.1 h⟩
 ·cases h
def k7 (m : ak) : Prop := ∀ (i : Nat) (h : i < m.contexts.length), -1 <= m.contexts[i].sender /\ m.contexts[i].sender < i
inductive OnW (m : ak) (a : Int) : Int -> Prop
 | here : OnW m a a
 | up (k : Nat) (h : k < m.contexts.length) (hne : (k : Int) ≠ a) (hr : OnW m a m.contexts[k].sender) : OnW m a k
theorem wJ {m : ak} {a : Int} {k : Nat} (h : k < m.contexts.length) (hne : (k : Int) ≠ a) : OnW m a k ↔ OnW m a m.contexts[k].sender := by
 constructor
 ·intro hb
  generalize hk : (k : Int) = q at hb
  cases hb with
  | here => exact absurd hk hne
  | up k' h' hne' hr =>
    obtain rfl : k = k' := by omega
    exact hr
 ·exact .up k h hne
theorem aaM {m : ak} {a k : Int} (h : k < 0) : OnW m a k ↔ k = a := by
 constructor
 ·intro hb
  cases hb with
  | here => rfl
  | up k' h' hne' hr => omega
 ·rintro rfl; exact .here
theorem aex {m : ak} (hs : k7 m) {a k : Int} (h : OnW m a k) (hk : k < m.contexts.length) : a < m.contexts.length := by
 induction h with
 | here => exact hk
 | up k h hne hr ih => exact ih (by have := hs k h; omega)
open Classical in
noncomputable def onB (m : ak) (a k : Int) : Bool := decide (OnW m a k)
def dps (x : az) : List Int := (ck x.instrs).getD []
def ad5 (m : ak) (c : ao) (less : Int) : Bool := match cdA m c.code with
 | some x => decide (c.pc < x.instrs.length) && (decide (0 <= gd (dps x) c.pc) && decide ((c.stack.length : Int) = IntKind.i64.wrap (gd (dps x) c.pc - less)))
 | none => false
noncomputable def oE (m : ak) (c : ao) (less : Int) : Bool := if c.mark = 0 then ad5 m c less else if c.mark = 3 \/ c.mark = 5 then onB m c.other c.sender else true
inductive x5 (m : ak) : Int -> Int -> Prop
 | out (less k : Int) (h : k < 0) : x5 m less k
 | up (less : Int) (k : Nat) (h : k < m.contexts.length) (hs : oE m m.contexts[k] less = true) (hr : x5 m 1 m.contexts[k].sender) : x5 m less k
theorem nj {m : ak} {less : Int} {k : Nat} (h : k < m.contexts.length) : x5 m less k ↔ oE m m.contexts[k] less = true /\ x5 m 1 m.contexts[k].sender := by
 constructor
 ·intro hb
  generalize hk : (k : Int) = q at hb
  cases hb with
  | out l k' h' => omega
  | up l k' h' hs hr =>
    obtain rfl : k = k' := by omega
    exact ⟨hs, hr⟩
 ·rintro ⟨h1, h2⟩; exact .up less k h h1 h2
def dF (m : ak) (a : Int) : Prop := ∃ c, cxA m a = some c /\ c.mark = 0 /\ x5 m 0 a
open Classical in
noncomputable def jX (m : ak) (a : Int) : Bool := decide (dF m a)
def wj (o : av) : List Int := if o.kind = 3 then o.numbers.drop 1 else []
def wv (m : ak) : List Int := m.store.objects.flatMap wj
def nU (m : ak) : List Int := if m.status = 0 then [m.now] else []
def sy (m : ak) (L : List Int) : Prop := (∀ p ∈ L, 0 <= p /\ p < m.processes.length) /\ L.Nodup /\ ∀ p ∈ L, ∀ q, m.processes[p.toNat]? = some q -> dF m q.at_
theorem qz {m : ak} {L L' : List Int} (h : L.Perm L') (k : sy m L) : sy m L' := ⟨fun p hp => k.1 p (h.mem_iff.2 hp), h.nodup_iff.1 k.2.1, fun p hp => k.2.2 p (h.mem_iff.2 hp)⟩
theorem pW {m : ak} : sy m (m.ready ++ nU m ++ wv m) ↔ sy m (nU m ++ m.ready ++ wv m) :=
 ⟨qz (List.perm_append_comm.append_right _), qz (List.perm_append_comm.append_right _)⟩
def zt (m : ak) (n0 n1 n2 : Int) : Prop := (n0 = -1 /\ n1 = -1 /\ n2 = 0) \/ (n2 = 1 /\ ∃ c, cxA m n1 = some c /\ c.mark = 3 /\ 0 <= n0 /\ OnW m n0 c.sender)
def xM (m : ak) (o : av) : Prop := o.kind = 1 -> ∀ n0 n1 n2, o.numbers = [n0, n1, n2] -> zt m n0 n1 n2
def afo (m : ak) (v : ad) (most : Int) : Prop := v.kind = 7 /\ ∃ b x, m.blocks[v.number.toNat]? = some b /\ cdA m b.code = some x /\ x.params <= most
open Classical in
noncomputable def uR (m : ak) (v : ad) (most : Int) : Bool := decide (afo m v most)
def mkA (m : ak) (k : Int) : Int := match cxA m k with | some d => d.mark | none => 0
def doB (m : ak) (k i : Int) : Bool := inR i 0 (k - 1) && decide (mkA m i = 1)
def v1 (l : List ad) (g : ad -> Bool) : Bool := match l with
 | [a] => g a
 | _ => false
def v3 (l : List ad) (g : ad -> ad -> ad -> Bool) : Bool := match l with
 | [a, b, c] => g a b c
 | _ => false
theorem abW {l : List ad} {g : ad -> Bool} (h : ¬ l.length = 1) : v1 l g = false := by
 match l, h with
 | [], _ => rfl
 | [a], h => exact absurd rfl h
 | _ :: _ :: _, _ => rfl
theorem ae6 {l : List ad} {g : ad -> ad -> ad -> Bool} (h : ¬ l.length = 3) : v3 l g = false := by
 match l, h with
 | [], _ => rfl
 | [_], _ => rfl
 | [_, _], _ => rfl
 | [a, b, c], h => exact absurd rfl h
 | _ :: _ :: _ :: _ :: _, _ => rfl
theorem abS (a : ad) (g : ad -> Bool) : v1 [a] g = g a := rfl
theorem aeW (a b c : ad) (g : ad -> ad -> ad -> Bool) : v3 [a, b, c] g = g a b c := rfl
noncomputable def abC (m : ak) (k : Int) (c : ao) : Bool :=
 if c.mark = 1 then v3 c.values fun a b d => decide (a.kind = 5) && (we m.store.classes 1 a.number && (uR m b 1 && uR m d 0))
 else if c.mark = 2 then v1 c.values fun a => uR m a 0
 else if c.mark = 3 then v1 c.values fun a => decide (a.kind = 6) && doB m k c.other
 else if c.mark = 4 then decide (c.values.length = 1)
 else if c.mark = 5 then inR c.other (-1) (k - 1) && (decide (c.values.length = 1) && (!c.retry || doB m k c.other))
 else false
def eqV (x y : ad) : Bool := decide (x.kind = y.kind) && (decide (x.number = y.number) && (decide (x.text = y.text) && true))
def shB (c : ao) : Bool := decide (c.code = 0) && (decide (c.pc = 0) && (decide (c.outer = -1) && (decide (c.home = -1) && (eqV c.self ⟨0, 0, ⟨#[]⟩⟩ && (decide (c.slots.length = 0) && (decide (c.stack.length = 0) && (!c.retry || decide (c.mark = 5))))))))
def ad1 (c : ao) : Bool := decide (c.mark = 3) || (decide (c.mark = 5) || decide (c.other = 0))
def afc (m : ak) (o : List Int) (k : Int) (c : ao) (x : az) : Bool :=
 if x.block = true then inR c.outer 0 (k - 1) && (match cxA m c.outer with | some p => decide (p.mark = 0) && (decide (p.code = gd o c.code) && (decide (c.home = p.home) && eqV c.self p.self)) | none => false)
 else decide (c.outer = -1) && decide (c.home = k)
def plB (m : ak) (o : List Int) (k : Int) (c : ao) : Bool :=
 decide (c.values.length = 0) && (decide (c.other = 0) && (!c.retry && (inR c.code 0 ((m.base.codes.length : Int) - 1) && (match cdA m c.code with | some x => decide ((c.slots.length : Int) = x.slots) && (inR c.pc 0 x.instrs.length && (decide (c.stack.length <= 250) && afc m o k c x)) | none => false))))
def wl (m : ak) (v : ad) : Prop := cK m.store m.blocks.length v = true
def oR (m : ak) (l : List ad) : Bool := l.all (cK m.store m.blocks.length)
theorem xG {m : ak} {l : List ad} (h : oR m l = true) : ∀ v ∈ l, wl m v := fun v hv => List.all_eq_true.1 h v hv
noncomputable def qr (m : ak) (o : List Int) (k : Int) (c : ao) : Bool :=
 inR c.sender (-1) (k - 1) && (cK m.store m.blocks.length c.self && (oR m c.slots && (oR m c.stack && (oR m c.values && (if c.mark = 0 then plB m o k c else shB c && (abC m k c && ad1 c))))))
def jZ (m : ak) (o : List Int) (b : aq) : Bool :=
 inR b.code 0 ((m.base.codes.length : Int) - 1) && ((match cdA m b.code with | some x => x.block | none => false) && (inR b.outer 0 ((m.contexts.length : Int) - 1) && (match cxA m b.outer with | some c => decide (c.mark = 0) && (decide (c.code = gd o b.code) && (decide (b.home = c.home) && eqV b.self c.self)) | none => false)))
def adm (m : ak) (o : List Int) : Prop := (∀ (i : Nat) (h : i < m.contexts.length), qr m o i m.contexts[i] = true) /\ ∀ b ∈ m.blocks, jZ m o b = true
theorem p9 {m : ak} {o : List Int} {k : Int} {c : ao} (h : qr m o k c = true) : (-1 <= c.sender /\ c.sender <= k - 1) /\ wl m c.self /\ oR m c.slots = true /\ oR m c.stack = true /\ oR m c.values = true /\ (if c.mark = 0 then plB m o k c else shB c && (abC m k c && ad1 c)) = true := by
 unfold qr at h
 simp only [Bool.and_eq_true] at h
 obtain ⟨h1, h2, h3, h4, h5, h6⟩ := h
 exact ⟨of_decide_eq_true h1, h2, h3, h4, h5, h6⟩
theorem sH {m : ak} {o : List Int} (h : ∀ (i : Nat) (h : i < m.contexts.length), qr m o i m.contexts[i] = true) : k7 m := fun i hi => by
 have := (p9 (h i hi)).1
 omega
theorem ui {m : ak} {o : List Int} {k : Int} {c : ao} (h : qr m o k c = true) (h0 : c.mark = 0) : ∃ x, cdA m c.code = some x /\ (0 <= c.code /\ c.code < m.base.codes.length) /\ (0 <= c.pc /\ c.pc <= x.instrs.length) /\ c.stack.length <= 250 := by
 have h1 := (p9 h).2.2.2.2.2
 rw [if_pos h0] at h1
 unfold plB at h1
 simp only [Bool.and_eq_true] at h1
 obtain ⟨_, _, _, h4, h5⟩ := h1
 have h4 := of_decide_eq_true h4
 cases hx : cdA m c.code with
 | none => rw [hx] at h5; cases h5
 | some x =>
   rw [hx] at h5
   simp only [Bool.and_eq_true] at h5
   obtain ⟨_, h6, h7, _⟩ := h5
   exact ⟨x, rfl, by omega, of_decide_eq_true h6, of_decide_eq_true h7⟩
def xg (l : List Int) : Nat -> Int
 | 0 => l.getD 0 0
 | i + 1 => if l.getD (i + 1) 0 < xg l i then l.getD (i + 1) 0 else xg l i
theorem zS (l : List Int) : ∀ i, 0 <= xg l i ↔ ∀ j, j <= i -> 0 <= l.getD j 0
 | 0 => by
   unfold xg
   exact ⟨fun h j hj => by rw [Nat.le_zero.1 hj]; exact h, fun h => h 0 (Nat.le_refl _)⟩
 | i + 1 => by
   have ih := zS l i
   unfold xg
   constructor
   ·intro h j hj
    rcases Nat.lt_or_ge j (i + 1) with h1 | h1
    ·refine ih.1 ?_ j (by omega)
     split at h <;> omega
    ·obtain rfl : j = i + 1 := by omega
     split at h <;> omega
   ·intro h
    have h1 := ih.2 fun j hj => h j (by omega)
    have h2 := h (i + 1) (Nat.le_refl _)
    split <;> assumption
def nnL (l : List Int) : Prop := ∀ n ∈ l, 0 <= n
instance (l : List Int) : Decidable (nnL l) := by unfold nnL; infer_instance
theorem acq {l : List Int} (h : 0 < l.length) : 0 <= xg l (l.length - 1) ↔ nnL l := by
 rw [zS]
 constructor
 ·intro h1 n hn
  obtain ⟨j, hj, rfl⟩ := List.getElem_of_mem hn
  have := h1 j (by omega)
  rwa [List.getD_eq_getElem?_getD, List.getElem?_eq_getElem hj] at this
 ·intro h1 j hj
  rw [List.getD_eq_getElem?_getD, List.getElem?_eq_getElem (by omega)]
  exact h1 _ (List.getElem_mem _)
theorem tg {G : World -> Prop} (lo : Nat) (l : List Int) (hl : 0 < l.length) (hn : l.length <= 1048576) : Ct Tryz.prog G 276 [.sl lo 1 (aS l)] (fun _ => .int .i64 (xg l (l.length - 1))) := by
 refine ap Tryz.func276 rfl Tryz.ntmps276 rfl rfl fun w0 _ hG => ?_
 have hlen := am l
 have h0 : (aS l)[0]? = some [.int .i64 (xg l 0)] := by
   rw [jv hl]
   unfold xg
   rw [List.getD_eq_getElem?_getD, List.getElem?_eq_getElem hl]; rfl
 repeat' refine W_ ?_
 apply aj (X := Nat) [0] (fun i => [(4, .int .i64 ((i : Int) + 1)), (3, .int .i64 (xg l i))]) (fun _ => []) (fun i => i < l.length) (fun i => l.length - i) 0 hl
 exact kp_; exact nw_
 ·exact .refl _
 intro i hi
 try dsimp only
 by_cases hlt : i + 1 < l.length
 ·have hrow : (aS l)[i + 1]? = some [.int .i64 (l.getD (i + 1) 0)] := by
    rw [jv hlt, List.getD_eq_getElem?_getD, List.getElem?_eq_getElem hlt]; rfl
  have hs : xg l (i + 1) = if l.getD (i + 1) 0 < xg l i then l.getD (i + 1) 0 else xg l i := rfl
  have hi1 : (i : Int) + 1 = ((i + 1 : Nat) : Int) := by omega
  rw [hi1]
  generalize l.getD (i + 1) 0 = v at hrow hs
  repeat' (first | refine W_ ?_ | ((with_reducible apply afN); rfl; rfl; rfl))
  exact ag (i + 1) hlt (by omega) (.of _ (by rw [hs]; exact nw_) od_ pk_)
 ·obtain rfl : i = l.length - 1 := by omega
  rw [show ((l.length - 1 : Nat) : Int) + 1 = (l.length : Int) by omega]
  repeat' refine W_ ?_
  exact r1_
def adA (cl : List aa) (k : Int) : Nat := match cl[k.toNat]? with
 | some c => c.fields.length
 | none => 0
open Classical in
noncomputable def gx (st : aP) (nb : Int) (o : av) : Bool :=
 o.fields.all (cK st nb) &&
 (if o.kind = 1 then decide ((0 <= o.class_ /\ o.class_ < st.classes.length) /\ ¬ (5 <= o.class_ /\ o.class_ <= 15) /\ o.fields.length = adA st.classes o.class_) && decide (o.numbers.length = if we st.classes 1 o.class_ then 3 else 0)
  else if o.kind = 2 then decide (o.class_ = 10 /\ o.fields.length <= 50 /\ o.numbers.length = 0)
  else if o.kind = 3 then decide (o.class_ = 12 /\ o.fields.length = 0 /\ 1 <= o.numbers.length /\ nnL o.numbers)
  else false)
theorem fd {st : aP} {nb : Int} {l : List ad} {i : Nat} (h : i < l.length) (hf : cK st nb l[i] = false) : l.all (cK st nb) = false := by
 rw [Bool.eq_false_iff]
 intro h2
 have := List.all_eq_true.1 h2 _ (List.getElem_mem h)
 rw [hf] at this; cases this
theorem j8 {lo : Nat} {l : List ad} {i : Nat} (h : i < l.length) : (l.map (ad.tw lo))[i]? = some [.int .i64 l[i].kind, .int .i64 l[i].number, .str l[i].text] := aK h
theorem tW (k : Int) : k = 1 \/ k = 2 \/ k = 3 \/ (¬ k = 1 /\ ¬ k = 2 /\ ¬ k = 3) := by omega
theorem vT (lo : Nat) (st : aP) (hcl : gU st.classes) (h16 : 16 <= st.classes.length /\ st.classes.length <= 24) (nb : Int) (o : av) (ho : o.small 1048576) : Ct Tryz.prog GL 239 [.agg (st.tw lo), .agg [.int .i64 o.kind, .int .i64 o.class_, .sl lo 3 (o.fields.map (ad.tw lo)), .sl lo 1 (aS o.numbers)], .int .i64 nb] (fun _ => .bool (gx st nb o)) := by
 refine ap Tryz.func239 rfl Tryz.ntmps239 rfl rfl fun w0 _ hG => ?_
 have hst := dx
 obtain ⟨ok, oc, fs, ns⟩ := o
 have hf1 := ho.1.1
 have hf2 := ho.1.2
 have hn1 := ho.2
 dsimp only at hf1 hf2 hn1 |-
 have hfl := ad.len lo fs
 have hnl := am ns
 have hcn := aa.len lo st.classes
 have hex := fun (x : ad) (h : x.text.size <= 1048576) => nS lo st nb x h
 unfold aP.tw at hex |-
 repeat' (first | refine W_ ?_ | refine aL ?_)
 apply aj (X := Nat) [2, 3, 4, 10, 11] (fun i => [(12, .int .i64 (i : Int))]) (fun _ => []) (fun i => i <= fs.length /\ ∀ y ∈ fs.take i, cK st nb y = true) (fun i => fs.length - i) 0 ⟨Nat.zero_le _, by simp⟩
 exact kp_; exact nw_
 ·exact .refl _
 rintro i ⟨hi, hall⟩
 try dsimp only
 by_cases hlt : i < fs.length
 ·have hrow := j8 (lo := lo) hlt
  have hxi := hex _ (hf2 _ (List.getElem_mem hlt))
  have hta := aX (p := fun y => cK st nb y = true) hlt hall
  cases hfi : cK st nb fs[i] with
  | false =>
    have e : gx st nb ⟨ok, oc, fs, ns⟩ = false := by
      unfold gx
      rw [fd hlt hfi, Bool.false_and]
    rw [e]
    rw [hfi] at hxi
    generalize fs[i] = x at hrow hxi
    repeat' (first | refine W_ ?_ | (refine ai ?_; intro ss bb) | refine ac ?_ | refine ab hG hst (hxi) ?_)
    exact r1_
  | true =>
    rw [hfi] at hxi hta
    generalize fs[i] = x at hrow hxi
    repeat' (first | refine W_ ?_ | (refine ai ?_; intro ss bb) | refine ac ?_ | refine ab hG hst (hxi) ?_)
    exact ag (i + 1) ⟨by omega, hta rfl⟩ (by omega) (.of _ nw_ od_ pk_)
 obtain rfl : i = fs.length := by omega
 rw [List.take_of_length_le (Nat.le_refl _)] at hall
 have hA : fs.all (cK st nb) = true := List.all_eq_true.2 hall
 clear hex hall
 rcases tW ok with rfl | rfl | rfl | ⟨g1, g2, g3⟩
 ·have e : gx st nb ⟨1, oc, fs, ns⟩ = (decide ((0 <= oc /\ oc < st.classes.length) /\ ¬ (5 <= oc /\ oc <= 15) /\ fs.length = adA st.classes oc) && decide (ns.length = if we st.classes 1 oc then 3 else 0)) := by
    unfold gx
    rw [hA, Bool.true_and, if_pos rfl]
  rw [e]
  clear e hA
  have w1 := aN (G := GL) oc 0 ((st.classes.length : Int) - 1)
  have w2 := aN (G := GL) oc 5 15
  rw [show (st.classes.length : Int) - 1 = ((st.classes.length - 1 : Nat) : Int) by omega] at w1
  by_cases hr : 0 <= oc /\ oc < st.classes.length
  case neg =>
    rw [show inR oc 0 ((st.classes.length - 1 : Nat) : Int) = false from by simp only [inR, decide_eq_false_iff_not]; omega] at w1
    rw [decide_eq_false fun h => hr h.1, Bool.false_and]
    repeat' (first | refine V_ ?_ | refine ae hG hst (w1) ?_)
    exact r1_
  rw [show inR oc 0 ((st.classes.length - 1 : Nat) : Int) = true from by simp only [inR, decide_eq_true_eq]; omega] at w1
  by_cases h5 : 5 <= oc /\ oc <= 15
  ·rw [show inR oc 5 15 = true from by simp only [inR, decide_eq_true_eq]; omega] at w2
   rw [decide_eq_false fun h => h.2.1 h5, Bool.false_and]
   repeat' (first | refine V_ ?_ | refine ae hG hst (w1) ?_ | refine ae hG hst (w2) ?_)
   exact r1_
  rw [show inR oc 5 15 = false from by simp only [inR, decide_eq_false_iff_not]; exact h5] at w2
  obtain ⟨c, rfl⟩ : ∃ c : Nat, oc = c := ⟨oc.toNat, by omega⟩
  have hc : c < st.classes.length := by omega
  have hrow := iU (lo := lo) hc
  have hfn : adA st.classes (c : Int) = st.classes[c].fields.length := by
    unfold adA
    rw [Int.toNat_natCast, List.getElem?_eq_getElem hc]
  have hib := qb (G := GL) lo st.classes hcl (c : Int) 1 (by omega)
  rw [hfn]
  generalize st.classes[c] = x at hrow hfn |-
  have hxl := bJ x.fields
  by_cases hlen : fs.length = x.fields.length
  case neg =>
    have hne : (fs.length : Int) ≠ x.fields.length := by omega
    rw [decide_eq_false fun h => hlen h.2.2, Bool.false_and]
    repeat' (first | refine V_ ?_ | refine ae hG hst (w1) ?_ | refine ae hG hst (w2) ?_)
    exact r1_
  have hne : ¬ ((fs.length : Int) ≠ x.fields.length) := by omega
  rw [decide_eq_true ⟨hr, h5, hlen⟩, Bool.true_and]
  generalize we st.classes 1 (c : Int) = b at hib |-
  cases b
  all_goals
    repeat' (first | refine V_ ?_ | refine ae hG hst (w1) ?_ | refine ae hG hst (w2) ?_ | refine ab hG hst (hib) ?_)
    refine aE x_ rfl (.tmp _ _ rfl) (fun _ => ?_)
    exact aM (by first | (simp; done) | (simp; omega))
 ·have e : gx st nb ⟨2, oc, fs, ns⟩ = decide (oc = 10 /\ fs.length <= 50 /\ ns.length = 0) := by
    unfold gx
    rw [hA, Bool.true_and, if_neg (by dsimp only; decide), if_pos rfl]
  rw [e]
  clear e hA
  repeat' (first | refine W_ ?_ | refine g_ (fun hg => ?_) (fun hg => ?_))
  all_goals
    refine aE x_ rfl (.tmp _ _ rfl) (fun _ => ?_)
    refine aM ?_
    first
      | (rw [decide_eq_decide]; omega)
      | (symm; rw [decide_eq_false_iff_not]; omega)
 ·have e : gx st nb ⟨3, oc, fs, ns⟩ = decide (oc = 12 /\ fs.length = 0 /\ 1 <= ns.length /\ nnL ns) := by
    unfold gx
    rw [hA, Bool.true_and, if_neg (by dsimp only; decide), if_neg (by dsimp only; decide), if_pos rfl]
  rw [e]
  clear e hA
  by_cases hns : 0 < ns.length
  ·have hmi := tg (G := GL) lo ns hns hn1
   have hma := acq hns
   generalize xg ns (ns.length - 1) = mv at hmi hma
   repeat' (first | refine W_ ?_ | refine ab hG hst (hmi) ?_ | refine g_ (fun hg => ?_) (fun hg => ?_))
   all_goals
     refine aE x_ rfl (.tmp _ _ rfl) (fun _ => ?_)
     refine aM ?_
     first
       | (rw [decide_eq_decide, <- hma]; omega)
       | (symm; rw [decide_eq_false_iff_not, <- hma]; omega)
  ·repeat' (first | refine W_ ?_ | refine g_ (fun hg => ?_) (fun hg => ?_))
   all_goals
     refine aE x_ rfl (.tmp _ _ rfl) (fun _ => ?_)
     refine aM ?_
     first
       | (symm; rw [decide_eq_false_iff_not]; omega)
       | (symm; rw [decide_eq_false_iff_not]; rintro ⟨_, _, h, _⟩; omega)
 ·have e : gx st nb ⟨ok, oc, fs, ns⟩ = false := by
    unfold gx
    rw [if_neg g1, if_neg g2, if_neg g3, Bool.and_false]
  rw [e]
  repeat' refine W_ ?_
  exact r1_
section
variable {G : World -> Prop}
theorem dJ {lo : Nat} {l : List ao} {i : Nat} (h : i < l.length) : (l.map (ao.tw lo))[i]? = some [.int .i64 l[i].mark, .int .i64 l[i].code, .int .i64 l[i].pc, .int .i64 l[i].sender, .int .i64 l[i].outer, .int .i64 l[i].home, .int .i64 l[i].self.kind, .int .i64 l[i].self.number, .str l[i].self.text, .sl lo 3 (l[i].slots.map (ad.tw lo)), .sl lo 3 (l[i].stack.map (ad.tw lo)), .sl lo 3 (l[i].values.map (ad.tw lo)), .int .i64 l[i].other, .bool l[i].retry] := aK h
open Classical in
theorem xU (f lo : Nat) (m : ak) (_hcl : m.contexts.length <= 1048576) (hs : k7 m) (k0 a : Int) (hk0 : -1 <= k0 /\ k0 < m.contexts.length) : Ct Tryz.prog G 234 [.cp f (m.tw lo), .int .i64 k0, .int .i64 a] (fun _ => .bool (onB m a k0)) := by
 refine ap Tryz.func234 rfl Tryz.ntmps234 rfl rfl fun w0 _ hG => ?_
 have hlen := ao.len lo m.contexts
 unfold ak.tw
 repeat' refine W_ ?_
 apply aj (X := Int) [0, 2] (fun k => [(1, .int .i64 k)]) (fun _ => []) (fun k => (-1 <= k /\ k < m.contexts.length) /\ (OnW m a k0 ↔ OnW m a k)) (fun k => (k + 1).toNat) k0 ⟨hk0, Iff.rfl⟩
 exact kp_; exact nw_
 ·exact .refl _
 rintro k ⟨hk, hiff⟩
 try dsimp only
 by_cases hneg : k < 0
 ·have e : onB m a k0 = decide (a = -1) := decide_eq_decide.2 (hiff.trans ((aaM hneg).trans (by omega)))
  rw [e]
  repeat' refine W_ ?_
  refine aE x_ rfl (.tmp _ _ rfl) (fun _ => ?_)
  exact aM rfl
 obtain ⟨n, rfl⟩ : ∃ n : Nat, k = n := ⟨k.toNat, by omega⟩
 have hn : n < m.contexts.length := by omega
 by_cases hka : (n : Int) = a
 ·have e : onB m a k0 = true := decide_eq_true (hiff.2 (hka ▸ .here))
  rw [e]
  repeat' refine W_ ?_
  exact r1_
 ·have hrow := dJ (lo := lo) hn
  have hp := hs n hn
  have hst2 := hiff.trans (wJ hn hka)
  generalize m.contexts[n] = c at hrow hp hst2
  repeat' refine W_ ?_
  exact ag c.sender ⟨by omega, hst2⟩ (by omega) (.of _ nw_ od_ pk_)
open Classical in
theorem xe (f lo : Nat) (m : ak) (_hcl : m.contexts.length <= 1048576) (hs : k7 m) (k0 a : Int) (hk0 : -1 <= k0 /\ k0 < m.contexts.length) : Ct Tryz.prog G 246 [.cp f (m.tw lo), .int .i64 k0, .int .i64 a] (fun _ => .bool (onB m a k0)) := by
 refine ap Tryz.func246 rfl Tryz.ntmps246 rfl rfl fun w0 _ hG => ?_
 have hlen := ao.len lo m.contexts
 unfold ak.tw
 repeat' refine W_ ?_
 apply aj (X := Int) [0, 2] (fun k => [(1, .int .i64 k)]) (fun _ => []) (fun k => (-1 <= k /\ k < m.contexts.length) /\ (OnW m a k0 ↔ OnW m a k)) (fun k => (k + 1).toNat) k0 ⟨hk0, Iff.rfl⟩
 exact kp_; exact nw_
 ·exact .refl _
 rintro k ⟨hk, hiff⟩
 try dsimp only
 by_cases hneg : k < 0
 ·have e : onB m a k0 = decide (k = a) := decide_eq_decide.2 (hiff.trans (aaM hneg))
  rw [e]
  repeat' refine W_ ?_
  refine aE x_ rfl (.tmp _ _ rfl) (fun _ => ?_)
  exact aM rfl
 obtain ⟨n, rfl⟩ : ∃ n : Nat, k = n := ⟨k.toNat, by omega⟩
 have hn : n < m.contexts.length := by omega
 by_cases hka : (n : Int) = a
 ·have e : onB m a k0 = true := decide_eq_true (hiff.2 (hka ▸ .here))
  have hne : ¬ ((n : Int) ≠ a) := fun h => h hka
  rw [e]
  repeat' refine W_ ?_
  refine aE x_ rfl (.tmp _ _ rfl) (fun _ => ?_)
  exact aM (decide_eq_true hka)
 ·have hrow := dJ (lo := lo) hn
  have hp := hs n hn
  have hst2 := hiff.trans (wJ hn hka)
  have hne : (n : Int) ≠ a := hka
  generalize m.contexts[n] = c at hrow hp hst2
  repeat' refine W_ ?_
  exact ag c.sender ⟨by omega, hst2⟩ (by omega) (.of _ nw_ od_ pk_)
end
theorem xu {m : ak} {v : ad} (h : wl m v) (h7 : v.kind = 7) : 0 <= v.number /\ v.number < m.blocks.length := by
 unfold wl cK kp at h
 rw [h7] at h
 simp at h
 omega
theorem ab2 {m : ak} {v : ad} (h : wl m v) (h5 : v.kind = 5) : 0 <= v.number /\ v.number < m.store.classes.length := by
 unfold wl cK kp at h
 rw [h5] at h
 simp at h
 omega
theorem acp {m : ak} {v : ad} (h : wl m v) (h0 : v.kind = 0) : v = ⟨0, 0, ⟨#[]⟩⟩ := by
 obtain ⟨k, n, t⟩ := v
 dsimp only at h0
 subst h0
 unfold wl cK kp at h
 simp at h
 rw [h.1, h.2]
theorem aaI {m : ak} {v : ad} {most : Int} {n q : Nat} {b : aq} {x : az} (h7 : v.kind = 7) (hn : v.number = n) (hb : m.blocks[n]? = some b) (hq : b.code = q) (hx : m.base.codes[q]? = some x) : afo m v most ↔ x.params <= most := by
 unfold afo cdA
 rw [hn, Int.toNat_natCast, hb]
 constructor
 ·rintro ⟨_, b', x', hb', hx', h⟩
  cases hb'
  rw [hq, if_pos (by omega), Int.toNat_natCast, hx] at hx'
  cases hx'
  exact h
 ·intro h
  exact ⟨h7, b, x, rfl, by rw [hq, if_pos (by omega), Int.toNat_natCast, hx], h⟩
theorem rO {lo : Nat} {l : List aq} {i : Nat} (h : i < l.length) : (l.map (aq.tw lo))[i]? = some [.int .i64 l[i].code, .int .i64 l[i].outer, .int .i64 l[i].home, .int .i64 l[i].self.kind, .int .i64 l[i].self.number, .str l[i].self.text] := aK h
section
variable {G : World -> Prop}
open Classical in
theorem uS (lo : Nat) (m : ak) (_hbl : m.blocks.length <= 1048576) (_hcl : m.base.codes.length <= 1048576) (n q : Nat) (b : aq) (x : az) (hb : m.blocks[n]? = some b) (hq : b.code = q) (hx : m.base.codes[q]? = some x) : Ct Tryz.prog G 292 [.agg (m.tw lo), .int .i64 (n : Int)] (fun _ => .int .i64 x.params) := by
 refine ap Tryz.func292 rfl Tryz.ntmps292 rfl rfl fun w0 _ hG => ?_
 have hlen := aq.len lo m.blocks
 have hlc := az.len lo m.base.codes
 obtain ⟨h1, e1⟩ := List.getElem?_eq_some_iff.1 hb
 obtain ⟨h2, e2⟩ := List.getElem?_eq_some_iff.1 hx
 have hr1 := rO (lo := lo) h1
 have hr2 := bZ (lo := lo) h2
 rw [e1] at hr1
 rw [e2] at hr2
 rw [hq] at hr1
 unfold ak.tw
 repeat' (first | refine V_ ?_ | refine aL ?_)
 exact r1_
open Classical in
theorem yq (hst : ay G) (lo : Nat) (m : ak) (hbl : m.blocks.length <= 1048576) (hcl : m.base.codes.length <= 1048576) (hbc : ∀ b ∈ m.blocks, 0 <= b.code /\ b.code < m.base.codes.length) (v : ad) (hv : wl m v) (most : Int) : Ct Tryz.prog G 278 [.agg (m.tw lo), .agg [.int .i64 v.kind, .int .i64 v.number, .str v.text], .int .i64 most] (fun _ => .bool (uR m v most)) := by
 refine ap Tryz.func278 rfl Tryz.ntmps278 rfl rfl fun w0 _ hG => ?_
 by_cases h7 : v.kind = 7
 case neg =>
   rw [show uR m v most = false from decide_eq_false fun h => h7 h.1]
   unfold ak.tw
   repeat' (first | refine W_ ?_ | refine aL ?_)
   exact r1_
 have hr := xu hv h7
 obtain ⟨n, hn⟩ : ∃ n : Nat, v.number = n := ⟨v.number.toNat, by omega⟩
 have h1 : n < m.blocks.length := by omega
 have h2 := hbc _ (List.getElem_mem h1)
 obtain ⟨q, hq⟩ : ∃ q : Nat, m.blocks[n].code = q := ⟨m.blocks[n].code.toNat, by omega⟩
 have h3 : q < m.base.codes.length := by omega
 have hiff := aaI (most := most) h7 hn (List.getElem?_eq_getElem h1) hq (List.getElem?_eq_getElem h3)
 have hct := uS (G := G) lo m hbl hcl n q _ _ (List.getElem?_eq_getElem h1) hq (List.getElem?_eq_getElem h3)
 rw [show uR m v most = decide (m.base.codes[q].params <= most) from decide_eq_decide.2 hiff, h7, hn]
 generalize m.base.codes[q].params = pr at hct
 unfold ak.tw at hct |-
 repeat' (first | refine W_ ?_ | refine aL ?_ | refine ab hG hst (hct) ?_)
 refine aE x_ rfl (.tmp _ _ rfl) (fun _ => ?_)
 exact aM rfl
open Classical in
theorem wo (hst : ay G) (f lo : Nat) (m : ak) (_hbl : m.blocks.length <= 1048576) (hcl : m.base.codes.length <= 1048576) (hc1 : 1 <= m.base.codes.length) (v : ad) (hv : wl m v) (most : Int) : Ct Tryz.prog G 274 [.cp f (m.tw lo), .agg [.int .i64 v.kind, .int .i64 v.number, .str v.text], .int .i64 most] (fun _ => .bool (uR m v most)) := by
 refine ap Tryz.func274 rfl Tryz.ntmps274 rfl rfl fun w0 _ hG => ?_
 have hlen := aq.len lo m.blocks
 have hlc := az.len lo m.base.codes
 by_cases h7 : v.kind = 7
 case neg =>
   rw [show uR m v most = false from decide_eq_false fun h => h7 h.1]
   unfold ak.tw
   repeat' (first | refine V_ ?_ | refine aL ?_)
   exact r1_
 have hr := xu hv h7
 obtain ⟨n, hn⟩ : ∃ n : Nat, v.number = n := ⟨v.number.toNat, by omega⟩
 have h1 : n < m.blocks.length := by omega
 have hr1 := rO (lo := lo) h1
 have hbg : m.blocks[n]? = some m.blocks[n] := List.getElem?_eq_getElem h1
 generalize m.blocks[n] = b at hr1 hbg
 have c1 := bv (G := G) b.code 0 ((m.base.codes.length - 1 : Nat) : Int)
 have hsub : (m.base.codes.length : Int) - 1 = ((m.base.codes.length - 1 : Nat) : Int) := by omega
 by_cases h2 : 0 <= b.code /\ b.code < m.base.codes.length
 case neg =>
   rw [show inR b.code 0 ((m.base.codes.length - 1 : Nat) : Int) = false from by simp only [inR, decide_eq_false_iff_not]; omega] at c1
   rw [show uR m v most = false from decide_eq_false fun h => by
     obtain ⟨_, b', x, hb', hx, _⟩ := h
     rw [hn, Int.toNat_natCast, hbg] at hb'
     cases hb'
     obtain ⟨h3, h4, _⟩ := ab0 hx
     omega]
   rw [h7, hn]
   unfold ak.tw
   repeat' (first | refine V_ ?_ | refine aL ?_ | refine ae hG hst (c1) ?_)
   exact r1_
 rw [show inR b.code 0 ((m.base.codes.length - 1 : Nat) : Int) = true from by simp only [inR, decide_eq_true_eq]; omega] at c1
 obtain ⟨q, hq⟩ : ∃ q : Nat, b.code = q := ⟨b.code.toNat, by omega⟩
 have h3 : q < m.base.codes.length := by omega
 have hiff := aaI (most := most) h7 hn hbg hq (List.getElem?_eq_getElem h3)
 have hr2 := bZ (lo := lo) h3
 rw [show uR m v most = decide (m.base.codes[q].params <= most) from decide_eq_decide.2 hiff, h7, hn]
 rw [hq] at hr1 c1
 generalize m.base.codes[q] = x at hr2
 unfold ak.tw
 repeat' (first | refine V_ ?_ | refine aL ?_ | refine ae hG hst (c1) ?_)
 refine aE x_ rfl (.tmp _ _ rfl) (fun _ => ?_)
 exact aM rfl
end
theorem tk (k : Int) : k = 1 \/ k = 2 \/ k = 3 \/ k = 4 \/ k = 5 \/ (¬ k = 1 /\ ¬ k = 2 /\ ¬ k = 3 /\ ¬ k = 4 /\ ¬ k = 5) := by omega
theorem ae9 {α : Type} {l : List α} (h : l.length = 1) : ∃ a, l = [a] := by
 match l, h with
 | [a], _ => exact ⟨a, rfl⟩
theorem afT {α : Type} {l : List α} (h : l.length = 3) : ∃ a b c, l = [a, b, c] := by
 match l, h with
 | [a, b, c], _ => exact ⟨a, b, c, rfl⟩
theorem wc {m : ak} {k i : Int} (h : inR i 0 (k - 1) = false) : doB m k i = false := by unfold doB; rw [h, Bool.false_and]
theorem aas {m : ak} {k i : Int} (h : inR i 0 (k - 1) = true) : doB m k i = decide (mkA m i = 1) := by unfold doB; rw [h, Bool.true_and]
theorem zL {m : ak} {k : Nat} (h : k < m.contexts.length) : mkA m (k : Int) = m.contexts[k].mark := by
 unfold mkA; rw [lE h]
theorem adH {m : ak} {k n : Int} {t : ByteArray} (h : cK m.store m.blocks.length ⟨k, n, t⟩ = true) : eqV ⟨k, n, t⟩ ⟨0, 0, ⟨#[]⟩⟩ = decide (k = 0) := by
 by_cases hk : k = 0
 ·rw [decide_eq_true hk, acp (m := m) h hk]; rfl
 ·unfold eqV
  rw [decide_eq_false hk, Bool.false_and]
theorem xS {m : ak} {k : Nat} {c : ao} (h : k < m.contexts.length) (e : m.contexts[k] = c) : cxA m (k : Int) = some c := by rw [lE h, e]
theorem w7 {m : ak} {k : Nat} {c : az} (h : k < m.base.codes.length) (e : m.base.codes[k] = c) : cdA m (k : Int) = some c := by rw [adO h, e]
end Go.Proofs.YtiihihgjiklnoaaGreatDoor
