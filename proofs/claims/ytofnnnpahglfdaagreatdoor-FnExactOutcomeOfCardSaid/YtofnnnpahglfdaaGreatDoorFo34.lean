/- Part 34 of the proof: the texts ImP0, RcP, FrP, FiP, FiA, FiB. -/
import Derived.Test.YtofnnnpahglfdaaGreatDoorFo21
import Derived.Test.YtofnnnpahglfdaaGreatDoorFo31
import Derived.Test.YtofnnnpahglfdaaGreatDoorFo32
import Derived.Test.YtofnnnpahglfdaaGreatDoorFo7
import Derived.Test.YtofnnnpahglfdaaGreatDoorFo14
import Derived.Test.YtofnnnpahglfdaaGreatDoorFo11
import Derived.Test.YtofnnnpahglfdaaGreatDoorFo6
import Derived.Test.YtofnnnpahglfdaaGreatDoorFo3
import Derived.Test.YtofnnnpahglfdaaGreatDoorFo20
import Derived.Test.YtofnnnpahglfdaaGreatDoorFo10
import Derived.Test.YtofnnnpahglfdaaGreatDoorFo23
set_option linter.all false
set_option maxHeartbeats 2000000
set_option maxRecDepth 20000
namespace Go.Proofs.YtofnnnpahglfdaaGreatDoor
open Go Go.RowKit
structure abz (m : ai) : Prop where
 ver : cX m.base = true
 same : m.base.classes = m.store.classes
 store : jD m.store m.blocks.length = true
 made : (m.store.objects.length : Int) + m.blocks.length <= m.store.made
 status : inR m.status 0 5 = true
 procs : inR m.processes.length 1 20 = true
 now : inR m.now 0 ((m.processes.length : Int) - 1) = true
 value : oL m m.value
 fault : fb m.fault = true
 outs : ∀ o, ep m.base.codes = some o -> aem m o
 ats : ∀ p ∈ m.processes, inR p.at_ (-1) ((m.contexts.length : Int) - 1) = true
 live : tB m (nl m ++ m.ready ++ vG m)
 exc : ∀ o ∈ m.store.objects, xA m o
open Classical in
noncomputable def bX (m : ai) : Bool := decide (abz m)
open Classical in
theorem aaz {m : ai} (h : ¬ abz m) : bX m = false := decide_eq_false h
open Classical in
theorem zH {m : ai} (h : abz m) : bX m = true := decide_eq_true h
theorem mj {st : aJ} {nb : Int} (h : jD st nb = true) : bH st.classes = true /\ st.objects.length <= 800 /\ ∀ o ∈ st.objects, o.kind = 3 -> 1 <= o.numbers.length := by
 unfold jD at h
 simp only [Bool.and_eq_true] at h
 obtain ⟨h1, h2, _, _, _, _, h7⟩ := h
 have h2 := of_decide_eq_true h2
 refine ⟨h1, by omega, fun o ho h3 => ?_⟩
 have h8 := List.all_eq_true.1 h7 o ho
 unfold fi at h8
 simp only [Bool.and_eq_true] at h8
 have h9 := h8.2
 rw [if_neg (by omega), if_neg (by omega), if_pos h3] at h9
 exact (of_decide_eq_true h9).2.2.1
open Classical in
theorem dE {x : aw} (h : cX x = true) : 1 <= x.codes.length /\ ∃ o, ep x.codes = some o /\ o.length = x.codes.length := by
 have hp : eK x := of_decide_eq_true h
 obtain ⟨o, ho, _⟩ := hp.2.2.2.2
 have h1 := of_decide_eq_true hp.2.2.1.1
 exact ⟨by omega, o, ho, (jR ho).1.1⟩
inductive Nd
 | obj (n : Nat)
 | blk (n : Nat)
 | ctx (n : Nat)
 | prc (n : Nat)
def ad9 (v : ad) : List Nd := if v.kind = 6 then [.obj v.number.toNat] else if v.kind = 7 then [.blk v.number.toNat] else []
def adO (k : Int) : List Nd := if 0 <= k then [.ctx k.toNat] else []
def age (o : ay) : List Nd := o.fields.flatMap ad9 ++ ((if o.kind = 1 then (o.numbers.take 2).flatMap adO else []) ++ (if o.kind = 3 then (o.numbers.drop 1).map (fun p => .prc p.toNat) else []))
def cxN (c : ap) : List Nd := adO c.sender ++ (adO c.outer ++ (adO c.home ++ ((if c.mark = 3 \/ c.mark = 5 then adO c.other else []) ++ (ad9 c.self ++ (c.slots.flatMap ad9 ++ (c.stack.flatMap ad9 ++ c.values.flatMap ad9))))))
def afz (m : ai) : Nd -> List Nd
 | .obj n => match m.store.objects[n]? with | some o => age o | none => []
 | .blk n => match m.blocks[n]? with | some b => adO b.outer ++ ad9 b.self | none => []
 | .ctx n => match m.contexts[n]? with | some c => cxN c | none => []
 | .prc n => match m.processes[n]? with | some p => adO p.at_ | none => []
def aeL (m : ai) : List Nd := (if m.status = 0 then [.prc m.now.toNat] else []) ++ (m.ready.map (fun p => .prc p.toNat) ++ ad9 m.value)
inductive Rch (m : ai) : Nd -> Prop
 | root (x : Nd) (h : x ∈ aeL m) : Rch m x
 | step (x y : Nd) (h : Rch m x) (hs : y ∈ afz m x) : Rch m y
structure Mk4 where
 o : List Bool
 b : List Bool
 c : List Bool
 p : List Bool
def Mk4.has (s : Mk4) : Nd -> Prop
 | .obj n => s.o[n]? = some true
 | .blk n => s.b[n]? = some true
 | .ctx n => s.c[n]? = some true
 | .prc n => s.p[n]? = some true
def Mk4.set (s : Mk4) : Nd -> Mk4
 | .obj n => ⟨s.o.set n true, s.b, s.c, s.p⟩
 | .blk n => ⟨s.o, s.b.set n true, s.c, s.p⟩
 | .ctx n => ⟨s.o, s.b, s.c.set n true, s.p⟩
 | .prc n => ⟨s.o, s.b, s.c, s.p.set n true⟩
def Mk4.fits (s : Mk4) (m : ai) : Prop := s.o.length = m.store.objects.length /\ s.b.length = m.blocks.length /\ s.c.length = m.contexts.length /\ s.p.length = m.processes.length
def inN (m : ai) : Nd -> Prop
 | .obj n => n < m.store.objects.length
 | .blk n => n < m.blocks.length
 | .ctx n => n < m.contexts.length
 | .prc n => n < m.processes.length
theorem ad3 {l : List Bool} {n k : Nat} : (l.set n true)[k]? = some true ↔ l[k]? = some true \/ (k = n /\ n < l.length) := by
 rw [List.getElem?_set]
 by_cases h : n = k
 ·subst h
  rw [if_pos rfl]
  by_cases h2 : n < l.length
  ·simp [h2]
  ·simp [h2]
 ·rw [if_neg h]
  constructor
  ·exact .inl
  ·rintro (h2 | ⟨h2, _⟩)
   ·exact h2
   ·exact absurd h2.symm h
theorem Mk4.has_set {s : Mk4} {m : ai} (h : s.fits m) {x : Nd} (hx : inN m x) {y : Nd} : (s.set x).has y ↔ s.has y \/ y = x := by
 obtain ⟨h1, h2, h3, h4⟩ := h
 cases x <;> cases y <;> simp only [Mk4.set, Mk4.has, inN, ad3, Nd.obj.injEq, Nd.blk.injEq, Nd.ctx.injEq, Nd.prc.injEq, reduceCtorEq, or_false] at hx |-
 all_goals
   constructor
   ·rintro (h | ⟨h, _⟩)
    ·exact .inl h
    ·exact .inr h
   ·rintro (h | h)
    ·exact .inl h
    ·exact .inr ⟨h, by omega⟩
structure wV (m : ai) (L : List Nd) (s t : Mk4) : Prop where
 fits : t.fits m
 mono : ∀ x, s.has x -> t.has x
 all : ∀ x ∈ L, t.has x
 new : ∀ x, t.has x -> s.has x \/ (Rch m x /\ ∀ y ∈ afz m x, t.has y)
theorem wV.refl {m : ai} {L : List Nd} {s : Mk4} (hf : s.fits m) (h : ∀ x ∈ L, s.has x) : wV m L s s := ⟨hf, fun _ h => h, h, fun _ h => .inl h⟩
theorem wV.trans {m : ai} {L K : List Nd} {s t u : Mk4} (h : wV m L s t) (k : wV m K t u) : wV m (L ++ K) s u :=
 ⟨k.fits, fun x hx => k.mono x (h.mono x hx), fun x hx => by
   rcases List.mem_append.1 hx with hx | hx
   ·exact k.mono x (h.all x hx)
   ·exact k.all x hx, fun x hx => by
   rcases k.new x hx with hx | hx
   ·rcases h.new x hx with hx | hx
    ·exact .inl hx
    ·exact .inr ⟨hx.1, fun y hy => k.mono y (hx.2 y hy)⟩
   ·exact .inr hx⟩
theorem wV.mark {m : ai} {s t : Mk4} {x : Nd} (hs : s.fits m) (hx : inN m x) (hr : Rch m x) (h : wV m (afz m x) (s.set x) t) : wV m [x] s t :=
 ⟨h.fits, fun y hy => h.mono y ((Mk4.has_set hs hx).2 (.inl hy)), fun y hy => by
   rw [List.mem_singleton] at hy
   exact h.mono y ((Mk4.has_set hs hx).2 (.inr hy)), fun y hy => by
   rcases h.new y hy with hy | hy
   ·rcases (Mk4.has_set hs hx).1 hy with hy | rfl
    ·exact .inl hy
    ·exact .inr ⟨hr, h.all⟩
   ·exact .inr hy⟩
theorem wV.sub {m : ai} {L K : List Nd} {s t : Mk4} (h : wV m L s t) (hk : ∀ x ∈ K, x ∈ L) : wV m K s t := ⟨h.fits, h.mono, fun x hx => h.all x (hk x hx), h.new⟩
structure afk (m : ai) (t : Mk4) : Prop where
 fits : t.fits m
 iff : ∀ x, t.has x ↔ Rch m x
def aef (m : ai) : Mk4 := ⟨List.replicate m.store.objects.length false, List.replicate m.blocks.length false, List.replicate m.contexts.length false, List.replicate m.processes.length false⟩
theorem sV {m : ai} {x : Nd} : ¬ (aef m).has x := by
 cases x <;> simp [aef, Mk4.has, List.getElem?_replicate]
theorem wV.full {m : ai} {t : Mk4} (h : wV m (aeL m) (aef m) t) : afk m t :=
 ⟨h.fits, fun x => ⟨fun hx => by
   rcases h.new x hx with hx | hx
   ·exact absurd hx sV
   ·exact hx.1, fun hx => by
   induction hx with
   | root x hx => exact h.all x hx
   | step x y _ hs ih =>
     rcases h.new x ih with hx | hx
     ·exact absurd hx sV
     ·exact hx.2 y hs⟩⟩
theorem kC {a b : List Bool} (hl : a.length = b.length) (h : ∀ n : Nat, a[n]? = some true ↔ b[n]? = some true) : a = b := by
 apply List.ext_getElem hl
 intro n h1 h2
 have := h n
 rw [List.getElem?_eq_getElem h1, List.getElem?_eq_getElem h2] at this
 cases ha : a[n] <;> cases hb : b[n] <;> simp_all
theorem afk.eq {m : ai} {s t : Mk4} (h : afk m s) (k : afk m t) : s = t := by
 obtain ⟨f1, f2, f3, f4⟩ := h.fits
 obtain ⟨g1, g2, g3, g4⟩ := k.fits
 have e := fun x => (h.iff x).trans (k.iff x).symm
 cases s; cases t
 simp only [Mk4.mk.injEq]
 exact ⟨kC (f1.trans g1.symm) fun n => e (.obj n), kC (f2.trans g2.symm) fun n => e (.blk n), kC (f3.trans g3.symm) fun n => e (.ctx n), kC (f4.trans g4.symm) fun n => e (.prc n)⟩
def frF (m : ai) : Nat -> Int -> List Int
 | 0, _ => []
 | n + 1, k => match cxA m k with
   | some c => (if c.mark = 0 then [k] else []) ++ frF m n c.sender
   | none => []
def dc (m : ai) (k : Int) : List Int := frF m (k + 1).toNat k
theorem afh {m : ai} (hs : fE m) (n : Nat) : ∀ k : Int, (k + 1).toNat <= n -> frF m n k = frF m (k + 1).toNat k := by
 induction n using Nat.strongRecOn with
 | _ n ih =>
   intro k hk
   generalize hj : (k + 1).toNat = j at hk |-
   cases j with
   | zero =>
     cases n with
     | zero => rfl
     | succ n => simp only [frF, aab (m := m) (k := k) (by omega)]
   | succ j =>
     obtain ⟨q, rfl⟩ : ∃ q, n = q + 1 := ⟨n - 1, by omega⟩
     simp only [frF]
     cases hc : cxA m k with
     | none => rfl
     | some c =>
       obtain ⟨h0, hl, he⟩ := j7 hc
       have h1 := hs k.toNat hl
       rw [he] at h1
       dsimp only
       rw [ih q (by omega) c.sender (by omega), ih j (by omega) c.sender (by omega)]
theorem om {m : ai} {k : Int} (h : k < 0) : dc m k = [] := by
 unfold dc
 rw [show (k + 1).toNat = 0 by omega]; rfl
theorem mr {m : ai} (hs : fE m) {k : Nat} (h : k < m.contexts.length) : dc m k = (if m.contexts[k].mark = 0 then [(k : Int)] else []) ++ dc m m.contexts[k].sender := by
 have h1 := hs k h
 unfold dc
 rw [show ((k : Int) + 1).toNat = k + 1 by omega]
 simp only [frF, jG h]
 rw [afh hs k _ (by omega)]
theorem jS (m : ai) (k : Int) : (dc m k).length <= (k + 1).toNat := by
 have h : ∀ (n : Nat) (k : Int), (frF m n k).length <= n := by
   intro n
   induction n with
   | zero => intro k; simp [frF]
   | succ n ih =>
     intro k
     simp only [frF]
     cases cxA m k with
     | none => simp
     | some c =>
       have := ih c.sender
       dsimp only
       split <;> simp <;> omega
 exact h _ _
def atN (m : ai) : Int := match m.processes[m.now.toNat]? with | some p => p.at_ | none => -1
noncomputable def cK (m : ai) : List Int := if bX m = true /\ m.status = 0 then dc m (atN m) else []
open Classical in
theorem rl {m : ai} (h : bX m = true) : fE m /\ ∃ (n : Nat) (p : au), m.now = n /\ n < m.processes.length /\ m.processes[n]? = some p /\ atN m = p.at_ /\ -1 <= p.at_ /\ p.at_ < m.contexts.length := by
 have hi : abz m := of_decide_eq_true h
 obtain ⟨_, o, ho, _⟩ := dE hi.ver
 refine ⟨nW (hi.outs o ho).1, ?_⟩
 have h1 : 0 <= m.now /\ m.now <= (m.processes.length : Int) - 1 := of_decide_eq_true hi.now
 obtain ⟨n, hn⟩ : ∃ n : Nat, m.now = n := ⟨m.now.toNat, by omega⟩
 have hl : n < m.processes.length := by omega
 have h2 : -1 <= m.processes[n].at_ /\ m.processes[n].at_ <= (m.contexts.length : Int) - 1 := of_decide_eq_true (hi.ats _ (List.getElem_mem hl))
 refine ⟨n, m.processes[n], hn, hl, List.getElem?_eq_getElem hl, ?_, by omega, by omega⟩
 unfold atN
 rw [hn, Int.toNat_natCast, List.getElem?_eq_getElem hl]
theorem gN {m : ai} (hx : m.small 1048576) : (cK m).length <= 1048576 := by
 unfold cK
 split
 ·rename_i h
  obtain ⟨_, n, p, _, _, _, h1, _, h2⟩ := rl h.1
  have h3 := jS m (atN m)
  have h4 := hx.2.2.2.1.1
  rw [h1] at h3 |-
  omega
 ·simp
def ae3 : List ByteArray := [⟨#[]⟩, ⟨#[105, 110, 116]⟩, ⟨#[116, 101, 120, 116]⟩, ⟨#[115, 121, 109, 98, 111, 108]⟩, ⟨#[110, 105, 108]⟩, ⟨#[116, 114, 117, 101]⟩, ⟨#[102, 97, 108, 115, 101]⟩, ⟨#[115, 101, 108, 102]⟩, ⟨#[118, 97, 114]⟩, ⟨#[115, 101, 116, 118, 97, 114]⟩, ⟨#[102, 105, 101, 108, 100]⟩, ⟨#[115, 101, 116, 102, 105, 101, 108, 100]⟩, ⟨#[99, 108, 97, 115, 115]⟩, ⟨#[115, 101, 110, 100]⟩, ⟨#[115, 117, 112, 101, 114]⟩, ⟨#[98, 108, 111, 99, 107]⟩, ⟨#[112, 111, 112]⟩, ⟨#[100, 117, 112]⟩, ⟨#[114, 101, 116, 117, 114, 110]⟩, ⟨#[101, 110, 100]⟩, ⟨#[106, 117, 109, 112]⟩, ⟨#[105, 102, 102, 97, 108, 115, 101]⟩, ⟨#[105, 102, 116, 114, 117, 101]⟩, ⟨#[116, 105, 99, 107]⟩, ⟨#[108, 105, 109, 105, 116, 115]⟩, ⟨#[99, 111, 117, 110, 116]⟩, ⟨#[115, 116, 101, 112]⟩]
def opt (b : Bool) (t : ByteArray) : List ByteArray := if b then [t] else []
def ah.ln (x : ah) : ByteArray := if inR x.op 1 26 then lnB (ae3.getD x.op.toNat ⟨#[]⟩) (opt (aex x.op) (gn x.a) ++ (opt (aez x.op) (gn x.b) ++ opt (aet x.op) x.text)) else ⟨#[]⟩
def aa.ln (x : aa) : ByteArray := lnB ⟨#[99, 108, 97, 115, 115]⟩ ([x.name, gn x.parent] ++ x.fields)
def aeg (b : Bool) : ByteArray := if b then ⟨#[49]⟩ else ⟨#[48]⟩
def az.ln (x : az) : ByteArray := lnB ⟨#[101, 110, 116, 114, 121]⟩ [gn x.owner, aeg x.class_, x.selector, gn x.code]
def abX (l : List ad) : List ByteArray := gn (l.length : Nat) :: l.map ad.fmt
def ay.ln (x : ay) : ByteArray := lnB ⟨#[111, 98, 106, 101, 99, 116]⟩ ([gn x.kind, gn x.class_, gn (x.numbers.length : Nat)] ++ (x.numbers.map gn ++ abX x.fields))
def aq.ln (x : aq) : ByteArray := lnB ⟨#[99, 108, 111, 115, 117, 114, 101]⟩ [gn x.code, gn x.outer, gn x.home, x.self.fmt]
def ap.ln (x : ap) : ByteArray := lnB ⟨#[99, 111, 110, 116, 101, 120, 116]⟩ ([gn x.mark, gn x.code, gn x.pc, gn x.sender, gn x.outer, gn x.home, gn x.other, aeg x.retry, x.self.fmt] ++ (abX x.slots ++ (abX x.stack ++ abX x.values)))
def au.ln (x : au) : ByteArray := lnB ⟨#[112, 114, 111, 99, 101, 115, 115]⟩ [gn x.at_, aeg x.main]
def GF (w : World) : Prop := qs w /\ acX w
theorem ot : aB GF := ⟨fun _ _ h hb => ⟨qs.below h.1 hb, h.2.below hb⟩⟩
theorem wv (n : Int) (h : i64 n) : Ct Tryz.prog GF 63 [.int .i64 n] (fun _ => .str (gn n)) := i8 fun w hG => rZ n w hG.2 h.1 h.2
theorem ku {B : Nat} {objs : aH} {K s b n : Nat} {l : List ByteArray} (hn : l.length = n) (hm : (s, b, bj.row 1 (a8 l)) ∈ objs) : Fin B objs K (.ms s b 0 n) (.sl K 1 (a8 l)) := by
 subst hn
 exact xu (f := fun b : ByteArray => [TV.str b]) (f' := fun b : ByteArray => [TV.str b]) (fun x => .cons (.flat rfl) .nil) hm
theorem aeA {L : List ByteArray} {e e2 : ByteArray} (h : e = e2) : a8 L ++ [[TV.str e]] = a8 (L ++ [e2]) := by subst h; exact nI _ _
theorem rQ {n : Int} (h : i64 n) : (gn n).size <= 20 := nC h.1 h.2
theorem qF {n : Nat} (h : n <= 1000000000000) : i64 (n : Int) := by unfold i64; omega
theorem xq {G : World -> Prop} (n : Int) (h : i64 n) : Ct Tryz.prog G 59 [.int .i64 n] (fun _ => .str (gn n)) := i8 fun w _ => fY n w h.1 h.2
end Go.Proofs.YtofnnnpahglfdaaGreatDoor
