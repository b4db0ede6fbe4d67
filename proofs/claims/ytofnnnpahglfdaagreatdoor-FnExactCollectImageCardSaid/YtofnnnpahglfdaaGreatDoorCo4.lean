/- Part 4 of the proof: the texts Types, DepP, DepF, DepG. -/
import Derived.Test.YtofnnnpahglfdaaGreatDoorCo1
set_option linter.all false
namespace Go.Proofs.YtofnnnpahglfdaaGreatDoor
open Go Go.RowKit
def bl {α:Type} (f:α->Nat) (l:List α):Nat:=l.length+(l.map f).sum
theorem ji {α:Type} {R:PT->α->Prop} {P:α->Prop} {l:List PT} {xs:List α} (h:AtL R l xs) (hs:PT.saneL l) (hp:∀t x,R t x->t.sane->P x):∀x∈xs,P x:=fun x hx=>by
 obtain⟨i,hi,rfl⟩:=ZE hx
 have hi':i<l.length:=by rw[h.1];exact hi
 exact hp _ _ (h.get hi') (PT.saneL_mem hs (Zb hi'))
structure ab where
 kind:Int
 number:Int
 text:ByteArray
def ab.ty:Ty:=.agg [.int .i64,.int .i64,.str]
def ab.sane (x:ab):Prop:=i64 x.kind/\i64 x.number/\x.text.size<=maxLen
def ab.pt (x:ab):PT:=.agg [.int .i64 x.kind,.int .i64 x.number,.str x.text]
theorem ab.flat:tG ab.pt 3:=⟨fun _=>rfl,fun _=>rfl,fun _ _=>by simp[ab.pt,Own,jb],fun _ _ _=>by simp[ab.pt,er,cQ]⟩
theorem ab.of_ty {t:PT} (h:df ab.ty t):∃x:ab,t=x.pt:=by
 simp only[ab.ty,df,ea] at h
 obtain⟨_,rfl,h⟩:=h
 obtain⟨u0,_,rfl,h0,h⟩:=h
 obtain⟨v0,rfl⟩:=h0
 obtain⟨u1,_,rfl,h1,h⟩:=h
 obtain⟨v1,rfl⟩:=h1
 obtain⟨u2,_,rfl,h2,h⟩:=h
 obtain⟨v2,rfl⟩:=h2
 subst h
 exact⟨⟨v0,v1,v2⟩,rfl⟩
theorem ab.sane_of {x:ab} (h:x.pt.sane):x.sane:=by
 simp only[ab.pt,PT.sane,PT.saneL] at h
 exact⟨cx h.1,cx h.2.1,h.2.2.1⟩
structure ak where
 op:Int
 a:Int
 b:Int
 text:ByteArray
def ak.ty:Ty:=.agg [.int .i64,.int .i64,.int .i64,.str]
def ak.sane (x:ak):Prop:=i64 x.op/\i64 x.a/\i64 x.b/\x.text.size<=maxLen
def ak.pt (x:ak):PT:=.agg [.int .i64 x.op,.int .i64 x.a,.int .i64 x.b,.str x.text]
theorem ak.flat:tG ak.pt 4:=⟨fun _=>rfl,fun _=>rfl,fun _ _=>by simp[ak.pt,Own,jb],fun _ _ _=>by simp[ak.pt,er,cQ]⟩
theorem ak.of_ty {t:PT} (h:df ak.ty t):∃x:ak,t=x.pt:=by
 simp only[ak.ty,df,ea] at h
 obtain⟨_,rfl,h⟩:=h
 obtain⟨u0,_,rfl,h0,h⟩:=h
 obtain⟨v0,rfl⟩:=h0
 obtain⟨u1,_,rfl,h1,h⟩:=h
 obtain⟨v1,rfl⟩:=h1
 obtain⟨u2,_,rfl,h2,h⟩:=h
 obtain⟨v2,rfl⟩:=h2
 obtain⟨u3,_,rfl,h3,h⟩:=h
 obtain⟨v3,rfl⟩:=h3
 subst h
 exact⟨⟨v0,v1,v2,v3⟩,rfl⟩
theorem ak.sane_of {x:ak} (h:x.pt.sane):x.sane:=by
 simp only[ak.pt,PT.sane,PT.saneL] at h
 exact⟨cx h.1,cx h.2.1,cx h.2.2.1,h.2.2.2.1⟩
structure aH where
 block:Bool
 params:Int
 slots:Int
 instrs:List ak
def aH.ty:Ty:=.agg [.bool,.int .i64,.int .i64,.sl 4 ak.ty]
def aH.sane (x:aH):Prop:=i64 x.params/\i64 x.slots/\(∀y∈x.instrs,y.sane)
def kh (t:PT) (x:aH):Prop:=∃(A3:Option Addr) (c3:Nat),t=.agg [.bool x.block,.int .i64 x.params,.int .i64 x.slots,.sl A3 c3 4 ((x.instrs).map ak.pt)]
theorem kh.cells {t:PT} {x:aH} (h:kh t x):t.cells.length=4:=by
 obtain⟨A3,c3,rfl⟩:=h
 rfl
theorem aH.of_ty {t:PT} (h:df aH.ty t):∃x:aH,kh t x:=by
 simp only[aH.ty,df,ea] at h
 obtain⟨_,rfl,h⟩:=h
 obtain⟨u0,_,rfl,h0,h⟩:=h
 obtain⟨v0,rfl⟩:=h0
 obtain⟨u1,_,rfl,h1,h⟩:=h
 obtain⟨v1,rfl⟩:=h1
 obtain⟨u2,_,rfl,h2,h⟩:=h
 obtain⟨v2,rfl⟩:=h2
 obtain⟨u3,_,rfl,h3,h⟩:=h
 obtain⟨A3,c3,l3,rfl,h3⟩:=h3
 obtain⟨v3,rfl⟩:=iX fun t ht=>ak.of_ty (h3 t ht)
 subst h
 exact⟨⟨v0,v1,v2,v3⟩,_,_,rfl⟩
theorem aH.sane_of {t:PT} {x:aH} (ha:kh t x) (h:t.sane):x.sane:=by
 obtain⟨A3,c3,rfl⟩:=ha
 simp only[PT.sane,PT.saneL] at h
 exact⟨cx h.2.1,cx h.2.2.1,fun y hy=>ak.sane_of (PT.saneL_mem h.2.2.2.1 (Z3 (f:=ak.pt) hy))⟩
structure aF where
 owner:Int
 class_:Bool
 selector:ByteArray
 code:Int
def aF.ty:Ty:=.agg [.int .i64,.bool,.str,.int .i64]
def aF.sane (x:aF):Prop:=i64 x.owner/\x.selector.size<=maxLen/\i64 x.code
def aF.pt (x:aF):PT:=.agg [.int .i64 x.owner,.bool x.class_,.str x.selector,.int .i64 x.code]
theorem aF.flat:tG aF.pt 4:=⟨fun _=>rfl,fun _=>rfl,fun _ _=>by simp[aF.pt,Own,jb],fun _ _ _=>by simp[aF.pt,er,cQ]⟩
theorem aF.of_ty {t:PT} (h:df aF.ty t):∃x:aF,t=x.pt:=by
 simp only[aF.ty,df,ea] at h
 obtain⟨_,rfl,h⟩:=h
 obtain⟨u0,_,rfl,h0,h⟩:=h
 obtain⟨v0,rfl⟩:=h0
 obtain⟨u1,_,rfl,h1,h⟩:=h
 obtain⟨v1,rfl⟩:=h1
 obtain⟨u2,_,rfl,h2,h⟩:=h
 obtain⟨v2,rfl⟩:=h2
 obtain⟨u3,_,rfl,h3,h⟩:=h
 obtain⟨v3,rfl⟩:=h3
 subst h
 exact⟨⟨v0,v1,v2,v3⟩,rfl⟩
theorem aF.sane_of {x:aF} (h:x.pt.sane):x.sane:=by
 simp only[aF.pt,PT.sane,PT.saneL] at h
 exact⟨cx h.1,h.2.2.1,cx h.2.2.2.1⟩
structure aa where
 name:ByteArray
 parent:Int
 fields:List ByteArray
def aa.ty:Ty:=.agg [.str,.int .i64,.sl 1 (.str)]
def aa.sane (x:aa):Prop:=x.name.size<=maxLen/\i64 x.parent/\(∀s∈x.fields,s.size<=maxLen)
def dn (t:PT) (x:aa):Prop:=∃(A2:Option Addr) (c2:Nat),t=.agg [.str x.name,.int .i64 x.parent,.sl A2 c2 1 ((x.fields).map PT.str)]
theorem dn.cells {t:PT} {x:aa} (h:dn t x):t.cells.length=3:=by
 obtain⟨A2,c2,rfl⟩:=h
 rfl
theorem aa.of_ty {t:PT} (h:df aa.ty t):∃x:aa,dn t x:=by
 simp only[aa.ty,df,ea] at h
 obtain⟨_,rfl,h⟩:=h
 obtain⟨u0,_,rfl,h0,h⟩:=h
 obtain⟨v0,rfl⟩:=h0
 obtain⟨u1,_,rfl,h1,h⟩:=h
 obtain⟨v1,rfl⟩:=h1
 obtain⟨u2,_,rfl,h2,h⟩:=h
 obtain⟨A2,c2,l2,rfl,h2⟩:=h2
 obtain⟨v2,rfl⟩:=iX fun t ht=>h2 t ht
 subst h
 exact⟨⟨v0,v1,v2⟩,_,_,rfl⟩
theorem aa.sane_of {t:PT} {x:aa} (ha:dn t x) (h:t.sane):x.sane:=by
 obtain⟨A2,c2,rfl⟩:=ha
 simp only[PT.sane,PT.saneL] at h
 exact⟨h.1,cx h.2.1,fun s hs=>PT.saneL_mem h.2.2.1 (Z3 (f:=PT.str) hs)⟩
structure aI where
 classes:List aa
 codes:List aH
 entries:List aF
 main:Int
def aI.ty:Ty:=.agg [.sl 3 aa.ty,.sl 4 aH.ty,.sl 4 aF.ty,.int .i64]
def aI.sane (x:aI):Prop:=(∀y∈x.classes,y.sane)/\(∀y∈x.codes,y.sane)/\(∀y∈x.entries,y.sane)/\i64 x.main
def dS (t:PT) (x:aI):Prop:=∃(A0:Option Addr) (c0:Nat) (l0:List PT) (A1:Option Addr) (c1:Nat) (l1:List PT) (A2:Option Addr) (c2:Nat),AtL dn l0 (x.classes)/\AtL kh l1 (x.codes)/\t=.agg [.sl A0 c0 3 l0,.sl A1 c1 4 l1,.sl A2 c2 4 ((x.entries).map aF.pt),.int .i64 x.main]
theorem dS.cells {t:PT} {x:aI} (h:dS t x):t.cells.length=4:=by
 obtain⟨A0,c0,l0,A1,c1,l1,A2,c2,h0,h1,rfl⟩:=h
 rfl
theorem aI.of_ty {t:PT} (h:df aI.ty t):∃x:aI,dS t x:=by
 simp only[aI.ty,df,ea] at h
 obtain⟨_,rfl,h⟩:=h
 obtain⟨u0,_,rfl,h0,h⟩:=h
 obtain⟨A0,c0,l0,rfl,h0⟩:=h0
 obtain⟨v0,k0⟩:=va fun t ht=>aa.of_ty (h0 t ht)
 obtain⟨u1,_,rfl,h1,h⟩:=h
 obtain⟨A1,c1,l1,rfl,h1⟩:=h1
 obtain⟨v1,k1⟩:=va fun t ht=>aH.of_ty (h1 t ht)
 obtain⟨u2,_,rfl,h2,h⟩:=h
 obtain⟨A2,c2,l2,rfl,h2⟩:=h2
 obtain⟨v2,rfl⟩:=iX fun t ht=>aF.of_ty (h2 t ht)
 obtain⟨u3,_,rfl,h3,h⟩:=h
 obtain⟨v3,rfl⟩:=h3
 subst h
 exact⟨⟨v0,v1,v2,v3⟩,_,_,_,_,_,_,_,_,k0,k1,rfl⟩
theorem aI.sane_of {t:PT} {x:aI} (ha:dS t x) (h:t.sane):x.sane:=by
 obtain⟨A0,c0,l0,A1,c1,l1,A2,c2,h0,h1,rfl⟩:=ha
 simp only[PT.sane,PT.saneL] at h
 exact⟨ji h0 h.1 fun _ _ a b=>aa.sane_of a b,ji h1 h.2.1 fun _ _ a b=>aH.sane_of a b,fun y hy=>aF.sane_of (PT.saneL_mem h.2.2.1 (Z3 (f:=aF.pt) hy)),cx h.2.2.2.1⟩
structure az where
 kind:Int
 class_:Int
 fields:List ab
 numbers:List Int
def az.ty:Ty:=.agg [.int .i64,.int .i64,.sl 3 ab.ty,.sl 1 (.int .i64)]
def az.sane (x:az):Prop:=i64 x.kind/\i64 x.class_/\(∀y∈x.fields,y.sane)/\(∀n∈x.numbers,i64 n)
def gA (t:PT) (x:az):Prop:=∃(A2:Option Addr) (c2:Nat) (A3:Option Addr) (c3:Nat),t=.agg [.int .i64 x.kind,.int .i64 x.class_,.sl A2 c2 3 ((x.fields).map ab.pt),.sl A3 c3 1 ((x.numbers).map (PT.int .i64))]
theorem gA.cells {t:PT} {x:az} (h:gA t x):t.cells.length=4:=by
 obtain⟨A2,c2,A3,c3,rfl⟩:=h
 rfl
theorem az.of_ty {t:PT} (h:df az.ty t):∃x:az,gA t x:=by
 simp only[az.ty,df,ea] at h
 obtain⟨_,rfl,h⟩:=h
 obtain⟨u0,_,rfl,h0,h⟩:=h
 obtain⟨v0,rfl⟩:=h0
 obtain⟨u1,_,rfl,h1,h⟩:=h
 obtain⟨v1,rfl⟩:=h1
 obtain⟨u2,_,rfl,h2,h⟩:=h
 obtain⟨A2,c2,l2,rfl,h2⟩:=h2
 obtain⟨v2,rfl⟩:=iX fun t ht=>ab.of_ty (h2 t ht)
 obtain⟨u3,_,rfl,h3,h⟩:=h
 obtain⟨A3,c3,l3,rfl,h3⟩:=h3
 obtain⟨v3,rfl⟩:=iX fun t ht=>h3 t ht
 subst h
 exact⟨⟨v0,v1,v2,v3⟩,_,_,_,_,rfl⟩
theorem az.sane_of {t:PT} {x:az} (ha:gA t x) (h:t.sane):x.sane:=by
 obtain⟨A2,c2,A3,c3,rfl⟩:=ha
 simp only[PT.sane,PT.saneL] at h
 exact⟨cx h.1,cx h.2.1,fun y hy=>ab.sane_of (PT.saneL_mem h.2.2.1 (Z3 (f:=ab.pt) hy)),fun n hn=>cx (PT.saneL_mem h.2.2.2.1 (Z3 (f:=PT.int .i64) hn))⟩
structure aR where
 classes:List aa
 objects:List az
 output:List ByteArray
 ticks:Int
 budget:Int
 made:Int
def aR.ty:Ty:=.agg [.sl 3 aa.ty,.sl 4 az.ty,.sl 1 (.str),.int .i64,.int .i64,.int .i64]
def aR.sane (x:aR):Prop:=(∀y∈x.classes,y.sane)/\(∀y∈x.objects,y.sane)/\(∀s∈x.output,s.size<=maxLen)/\i64 x.ticks/\i64 x.budget/\i64 x.made
def gI (t:PT) (x:aR):Prop:=∃(A0:Option Addr) (c0:Nat) (l0:List PT) (A1:Option Addr) (c1:Nat) (l1:List PT) (A2:Option Addr) (c2:Nat),AtL dn l0 (x.classes)/\AtL gA l1 (x.objects)/\t=.agg [.sl A0 c0 3 l0,.sl A1 c1 4 l1,.sl A2 c2 1 ((x.output).map PT.str),.int .i64 x.ticks,.int .i64 x.budget,.int .i64 x.made]
theorem gI.cells {t:PT} {x:aR} (h:gI t x):t.cells.length=6:=by
 obtain⟨A0,c0,l0,A1,c1,l1,A2,c2,h0,h1,rfl⟩:=h
 rfl
theorem aR.of_ty {t:PT} (h:df aR.ty t):∃x:aR,gI t x:=by
 simp only[aR.ty,df,ea] at h
 obtain⟨_,rfl,h⟩:=h
 obtain⟨u0,_,rfl,h0,h⟩:=h
 obtain⟨A0,c0,l0,rfl,h0⟩:=h0
 obtain⟨v0,k0⟩:=va fun t ht=>aa.of_ty (h0 t ht)
 obtain⟨u1,_,rfl,h1,h⟩:=h
 obtain⟨A1,c1,l1,rfl,h1⟩:=h1
 obtain⟨v1,k1⟩:=va fun t ht=>az.of_ty (h1 t ht)
 obtain⟨u2,_,rfl,h2,h⟩:=h
 obtain⟨A2,c2,l2,rfl,h2⟩:=h2
 obtain⟨v2,rfl⟩:=iX fun t ht=>h2 t ht
 obtain⟨u3,_,rfl,h3,h⟩:=h
 obtain⟨v3,rfl⟩:=h3
 obtain⟨u4,_,rfl,h4,h⟩:=h
 obtain⟨v4,rfl⟩:=h4
 obtain⟨u5,_,rfl,h5,h⟩:=h
 obtain⟨v5,rfl⟩:=h5
 subst h
 exact⟨⟨v0,v1,v2,v3,v4,v5⟩,_,_,_,_,_,_,_,_,k0,k1,rfl⟩
theorem aR.sane_of {t:PT} {x:aR} (ha:gI t x) (h:t.sane):x.sane:=by
 obtain⟨A0,c0,l0,A1,c1,l1,A2,c2,h0,h1,rfl⟩:=ha
 simp only[PT.sane,PT.saneL] at h
 exact⟨ji h0 h.1 fun _ _ a b=>aa.sane_of a b,ji h1 h.2.1 fun _ _ a b=>az.sane_of a b,fun s hs=>PT.saneL_mem h.2.2.1 (Z3 (f:=PT.str) hs),cx h.2.2.2.1,cx h.2.2.2.2.1,cx h.2.2.2.2.2.1⟩
structure ap where
 code:Int
 outer:Int
 home:Int
 self:ab
def ap.ty:Ty:=.agg [.int .i64,.int .i64,.int .i64,ab.ty]
def ap.sane (x:ap):Prop:=i64 x.code/\i64 x.outer/\i64 x.home/\x.self.sane
def ap.pt (x:ap):PT:=.agg [.int .i64 x.code,.int .i64 x.outer,.int .i64 x.home,x.self.pt]
theorem ap.flat:tG ap.pt 6:=⟨fun _=>rfl,fun _=>rfl,fun _ _=>by simp[ap.pt,Own,jb,ab.pt],fun _ _ _=>by simp[ap.pt,er,cQ,ab.pt]⟩
theorem ap.of_ty {t:PT} (h:df ap.ty t):∃x:ap,t=x.pt:=by
 simp only[ap.ty,df,ea] at h
 obtain⟨_,rfl,h⟩:=h
 obtain⟨u0,_,rfl,h0,h⟩:=h
 obtain⟨v0,rfl⟩:=h0
 obtain⟨u1,_,rfl,h1,h⟩:=h
 obtain⟨v1,rfl⟩:=h1
 obtain⟨u2,_,rfl,h2,h⟩:=h
 obtain⟨v2,rfl⟩:=h2
 obtain⟨u3,_,rfl,h3,h⟩:=h
 obtain⟨v3,rfl⟩:=ab.of_ty h3
 subst h
 exact⟨⟨v0,v1,v2,v3⟩,rfl⟩
theorem ap.sane_of {x:ap} (h:x.pt.sane):x.sane:=by
 simp only[ap.pt,PT.sane,PT.saneL] at h
 exact⟨cx h.1,cx h.2.1,cx h.2.2.1,ab.sane_of h.2.2.2.1⟩
structure aq where
 mark:Int
 code:Int
 pc:Int
 sender:Int
 outer:Int
 home:Int
 self:ab
 slots:List ab
 stack:List ab
 values:List ab
 other:Int
 retry:Bool
def aq.ty:Ty:=.agg [.int .i64,.int .i64,.int .i64,.int .i64,.int .i64,.int .i64,ab.ty,.sl 3 ab.ty,.sl 3 ab.ty,.sl 3 ab.ty,.int .i64,.bool]
def aq.sane (x:aq):Prop:=i64 x.mark/\i64 x.code/\i64 x.pc/\i64 x.sender/\i64 x.outer/\i64 x.home/\x.self.sane/\(∀y∈x.slots,y.sane)/\(∀y∈x.stack,y.sane)/\(∀y∈x.values,y.sane)/\i64 x.other
def fj (t:PT) (x:aq):Prop:=∃(A7:Option Addr) (c7:Nat) (A8:Option Addr) (c8:Nat) (A9:Option Addr) (c9:Nat),t=.agg [.int .i64 x.mark,.int .i64 x.code,.int .i64 x.pc,.int .i64 x.sender,.int .i64 x.outer,.int .i64 x.home,x.self.pt,.sl A7 c7 3 ((x.slots).map ab.pt),.sl A8 c8 3 ((x.stack).map ab.pt),.sl A9 c9 3 ((x.values).map ab.pt),.int .i64 x.other,.bool x.retry]
theorem fj.cells {t:PT} {x:aq} (h:fj t x):t.cells.length=14:=by
 obtain⟨A7,c7,A8,c8,A9,c9,rfl⟩:=h
 rfl
theorem aq.of_ty {t:PT} (h:df aq.ty t):∃x:aq,fj t x:=by
 simp only[aq.ty,df,ea] at h
 obtain⟨_,rfl,h⟩:=h
 obtain⟨u0,_,rfl,h0,h⟩:=h
 obtain⟨v0,rfl⟩:=h0
 obtain⟨u1,_,rfl,h1,h⟩:=h
 obtain⟨v1,rfl⟩:=h1
 obtain⟨u2,_,rfl,h2,h⟩:=h
 obtain⟨v2,rfl⟩:=h2
 obtain⟨u3,_,rfl,h3,h⟩:=h
 obtain⟨v3,rfl⟩:=h3
 obtain⟨u4,_,rfl,h4,h⟩:=h
 obtain⟨v4,rfl⟩:=h4
 obtain⟨u5,_,rfl,h5,h⟩:=h
 obtain⟨v5,rfl⟩:=h5
 obtain⟨u6,_,rfl,h6,h⟩:=h
 obtain⟨v6,rfl⟩:=ab.of_ty h6
 obtain⟨u7,_,rfl,h7,h⟩:=h
 obtain⟨A7,c7,l7,rfl,h7⟩:=h7
 obtain⟨v7,rfl⟩:=iX fun t ht=>ab.of_ty (h7 t ht)
 obtain⟨u8,_,rfl,h8,h⟩:=h
 obtain⟨A8,c8,l8,rfl,h8⟩:=h8
 obtain⟨v8,rfl⟩:=iX fun t ht=>ab.of_ty (h8 t ht)
 obtain⟨u9,_,rfl,h9,h⟩:=h
 obtain⟨A9,c9,l9,rfl,h9⟩:=h9
 obtain⟨v9,rfl⟩:=iX fun t ht=>ab.of_ty (h9 t ht)
 obtain⟨u10,_,rfl,h10,h⟩:=h
 obtain⟨v10,rfl⟩:=h10
 obtain⟨u11,_,rfl,h11,h⟩:=h
 obtain⟨v11,rfl⟩:=h11
 subst h
 exact⟨⟨v0,v1,v2,v3,v4,v5,v6,v7,v8,v9,v10,v11⟩,_,_,_,_,_,_,rfl⟩
theorem aq.sane_of {t:PT} {x:aq} (ha:fj t x) (h:t.sane):x.sane:=by
 obtain⟨A7,c7,A8,c8,A9,c9,rfl⟩:=ha
 simp only[PT.sane,PT.saneL] at h
 exact⟨cx h.1,cx h.2.1,cx h.2.2.1,cx h.2.2.2.1,cx h.2.2.2.2.1,cx h.2.2.2.2.2.1,ab.sane_of h.2.2.2.2.2.2.1,fun y hy=>ab.sane_of (PT.saneL_mem h.2.2.2.2.2.2.2.1 (Z3 (f:=ab.pt) hy)),fun y hy=>ab.sane_of (PT.saneL_mem h.2.2.2.2.2.2.2.2.1 (Z3 (f:=ab.pt) hy)),fun y hy=>ab.sane_of (PT.saneL_mem h.2.2.2.2.2.2.2.2.2.1 (Z3 (f:=ab.pt) hy)),cx h.2.2.2.2.2.2.2.2.2.2.1⟩
structure ao where
 at_:Int
 main:Bool
def ao.ty:Ty:=.agg [.int .i64,.bool]
def ao.sane (x:ao):Prop:=i64 x.at_
def ao.pt (x:ao):PT:=.agg [.int .i64 x.at_,.bool x.main]
theorem ao.flat:tG ao.pt 2:=⟨fun _=>rfl,fun _=>rfl,fun _ _=>by simp[ao.pt,Own,jb],fun _ _ _=>by simp[ao.pt,er,cQ]⟩
theorem ao.of_ty {t:PT} (h:df ao.ty t):∃x:ao,t=x.pt:=by
 simp only[ao.ty,df,ea] at h
 obtain⟨_,rfl,h⟩:=h
 obtain⟨u0,_,rfl,h0,h⟩:=h
 obtain⟨v0,rfl⟩:=h0
 obtain⟨u1,_,rfl,h1,h⟩:=h
 obtain⟨v1,rfl⟩:=h1
 subst h
 exact⟨⟨v0,v1⟩,rfl⟩
theorem ao.sane_of {x:ao} (h:x.pt.sane):x.sane:=by
 simp only[ao.pt,PT.sane,PT.saneL] at h
 exact cx h.1
structure ah where
 base:aI
 store:aR
 blocks:List ap
 contexts:List aq
 processes:List ao
 ready:List Int
 now:Int
 status:Int
 value:ab
 fault:ByteArray
def ah.ty:Ty:=.agg [aI.ty,aR.ty,.sl 6 ap.ty,.sl 14 aq.ty,.sl 2 ao.ty,.sl 1 (.int .i64),.int .i64,.int .i64,ab.ty,.str]
def ah.sane (x:ah):Prop:=x.base.sane/\x.store.sane/\(∀y∈x.blocks,y.sane)/\(∀y∈x.contexts,y.sane)/\(∀y∈x.processes,y.sane)/\(∀n∈x.ready,i64 n)/\i64 x.now/\i64 x.status/\x.value.sane/\x.fault.size<=maxLen
def gP (t:PT) (x:ah):Prop:=∃(t0:PT) (t1:PT) (A2:Option Addr) (c2:Nat) (A3:Option Addr) (c3:Nat) (l3:List PT) (A4:Option Addr) (c4:Nat) (A5:Option Addr) (c5:Nat),dS t0 x.base/\gI t1 x.store/\AtL fj l3 (x.contexts)/\t=.agg [t0,t1,.sl A2 c2 6 ((x.blocks).map ap.pt),.sl A3 c3 14 l3,.sl A4 c4 2 ((x.processes).map ao.pt),.sl A5 c5 1 ((x.ready).map (PT.int .i64)),.int .i64 x.now,.int .i64 x.status,x.value.pt,.str x.fault]
theorem gP.cells {t:PT} {x:ah} (h:gP t x):t.cells.length=20:=by
 obtain⟨t0,t1,A2,c2,A3,c3,l3,A4,c4,A5,c5,h0,h1,h2,rfl⟩:=h
 have e0:=dS.cells h0
 have e1:=gI.cells h1
 simp[PT.cells,PT.cellsL,Zs,ZC,Y4,ab.pt,e0,e1]
theorem ah.of_ty {t:PT} (h:df ah.ty t):∃x:ah,gP t x:=by
 simp only[ah.ty,df,ea] at h
 obtain⟨_,rfl,h⟩:=h
 obtain⟨u0,_,rfl,h0,h⟩:=h
 obtain⟨v0,k0⟩:=aI.of_ty h0
 obtain⟨u1,_,rfl,h1,h⟩:=h
 obtain⟨v1,k1⟩:=aR.of_ty h1
 obtain⟨u2,_,rfl,h2,h⟩:=h
 obtain⟨A2,c2,l2,rfl,h2⟩:=h2
 obtain⟨v2,rfl⟩:=iX fun t ht=>ap.of_ty (h2 t ht)
 obtain⟨u3,_,rfl,h3,h⟩:=h
 obtain⟨A3,c3,l3,rfl,h3⟩:=h3
 obtain⟨v3,k3⟩:=va fun t ht=>aq.of_ty (h3 t ht)
 obtain⟨u4,_,rfl,h4,h⟩:=h
 obtain⟨A4,c4,l4,rfl,h4⟩:=h4
 obtain⟨v4,rfl⟩:=iX fun t ht=>ao.of_ty (h4 t ht)
 obtain⟨u5,_,rfl,h5,h⟩:=h
 obtain⟨A5,c5,l5,rfl,h5⟩:=h5
 obtain⟨v5,rfl⟩:=iX fun t ht=>h5 t ht
 obtain⟨u6,_,rfl,h6,h⟩:=h
 obtain⟨v6,rfl⟩:=h6
 obtain⟨u7,_,rfl,h7,h⟩:=h
 obtain⟨v7,rfl⟩:=h7
 obtain⟨u8,_,rfl,h8,h⟩:=h
 obtain⟨v8,rfl⟩:=ab.of_ty h8
 obtain⟨u9,_,rfl,h9,h⟩:=h
 obtain⟨v9,rfl⟩:=h9
 subst h
 exact⟨⟨v0,v1,v2,v3,v4,v5,v6,v7,v8,v9⟩,_,_,_,_,_,_,_,_,_,_,_,k0,k1,k3,rfl⟩
theorem ah.sane_of {t:PT} {x:ah} (ha:gP t x) (h:t.sane):x.sane:=by
 obtain⟨t0,t1,A2,c2,A3,c3,l3,A4,c4,A5,c5,h0,h1,h2,rfl⟩:=ha
 simp only[PT.sane,PT.saneL] at h
 exact⟨aI.sane_of h0 h.1,aR.sane_of h1 h.2.1,fun y hy=>ap.sane_of (PT.saneL_mem h.2.2.1 (Z3 (f:=ap.pt) hy)),ji h2 h.2.2.2.1 fun _ _ a b=>aq.sane_of a b,fun y hy=>ao.sane_of (PT.saneL_mem h.2.2.2.2.1 (Z3 (f:=ao.pt) hy)),fun n hn=>cx (PT.saneL_mem h.2.2.2.2.2.1 (Z3 (f:=PT.int .i64) hn)),cx h.2.2.2.2.2.2.1,cx h.2.2.2.2.2.2.2.1,ab.sane_of h.2.2.2.2.2.2.2.2.1,h.2.2.2.2.2.2.2.2.2.1⟩
structure fK where
 code:Int
 at_:Int
 kind:Int
def fK.ty:Ty:=.agg [.int .i64,.int .i64,.int .i64]
def fK.sane (x:fK):Prop:=i64 x.code/\i64 x.at_/\i64 x.kind
def fK.pt (x:fK):PT:=.agg [.int .i64 x.code,.int .i64 x.at_,.int .i64 x.kind]
theorem fK.flat:tG fK.pt 3:=⟨fun _=>rfl,fun _=>rfl,fun _ _=>by simp[fK.pt,Own,jb],fun _ _ _=>by simp[fK.pt,er,cQ]⟩
theorem fK.of_ty {t:PT} (h:df fK.ty t):∃x:fK,t=x.pt:=by
 simp only[fK.ty,df,ea] at h
 obtain⟨_,rfl,h⟩:=h
 obtain⟨u0,_,rfl,h0,h⟩:=h
 obtain⟨v0,rfl⟩:=h0
 obtain⟨u1,_,rfl,h1,h⟩:=h
 obtain⟨v1,rfl⟩:=h1
 obtain⟨u2,_,rfl,h2,h⟩:=h
 obtain⟨v2,rfl⟩:=h2
 subst h
 exact⟨⟨v0,v1,v2⟩,rfl⟩
theorem fK.sane_of {x:fK} (h:x.pt.sane):x.sane:=by
 simp only[fK.pt,PT.sane,PT.saneL] at h
 exact⟨cx h.1,cx h.2.1,cx h.2.2.1⟩
def ak.eff (i:ak):Int×Int :=
 if i.op=9\/i.op=11\/i.op=18 then (1,1)
 else if i.op=13 then (co i.text.data.toList+1,1)
 else if i.op=14 then (co i.text.data.toList,1)
 else if i.op=16\/i.op=19\/i.op=21\/i.op=22 then (1,0)
 else if i.op=17 then (1,2)
 else if i.op=24\/i.op=25 then (2,2)
 else if i.op=26 then (2,1)
 else if i.op=20\/i.op=23 then (0,0)
 else (0,1)
def ak.labs (i:ak):List Int :=
 if i.op=20 then [i.a] else if i.op=21\/i.op=22 then [i.a,i.b] else if i.op=24\/i.op=25\/i.op=26 then [i.b] else []
def ak.nexts (i:ak) (at_ d:Int):List (Int×Int) :=
 if i.op=19 then []
 else if i.op=20 then [(i.a,d - i.eff.1+i.eff.2)]
 else if i.op=21\/i.op=22 then [(at_+1,d - i.eff.1+i.eff.2),(i.a,d - i.eff.1+i.eff.2),(i.b,d - i.eff.1+i.eff.2+1)]
 else if i.op=24\/i.op=25 then [(at_+1,d - i.eff.1+i.eff.2),(i.b,d - 1)]
 else if i.op=26 then [(at_+1,d - i.eff.1+i.eff.2),(i.b,d)]
 else [(at_+1,d - i.eff.1+i.eff.2)]
theorem oP (k:Int):k=9\/k=11\/k=13\/k=14\/k=16\/k=17\/k=18\/k=19\/k=20\/k=21\/k=22\/k=23\/k=24\/k=25\/k=26\/(¬ k=9/\¬ k=11/\¬ k=13/\¬ k=14/\¬ k=16/\¬ k=17/\¬ k=18/\¬ k=19/\¬ k=20/\¬ k=21/\¬ k=22/\¬ k=23/\¬ k=24/\¬ k=25/\¬ k=26):=by omega
theorem ac9 (l:List UInt8):cY l=decide (0<=co l):=by
 unfold cY co
 cases mB l
 ·cases cO l
  ·cases kwL l <;> simp
  ·simp
 ·simp
theorem sy (l:List UInt8):-1<=co l:=by
 unfold co
 split
 ·omega
 ·split
  ·omega
  ·split <;> omega
theorem ab8 {l:List UInt8} {ps:List (List UInt8)} (h:kwL l=some ps):ps.length<=4:=by
 unfold kwL at h
 split at h
 ·split at h
  ·rename_i h2
   simp only[Zm,decide_eq_true_eq] at h2
   cases h;exact h2.2
  ·cases h
 ·cases h
theorem sh (l:List UInt8):co l<=4:=by
 unfold co
 split
 ·omega
 ·split
  ·omega
  ·split
   ·rename_i ps h
    have:=ab8 h
    omega
   ·omega
theorem jk (i:ak):-1<=i.eff.1/\i.eff.1<=5/\0<=i.eff.2/\i.eff.2<=2:=by
 have h1:=sy i.text.data.toList
 have h2:=sh i.text.data.toList
 unfold ak.eff
 repeat' split
 all_goals (refine⟨?_, ?_, ?_, ?_⟩ <;> simp <;> omega)
def gd (ds:List Int) (p:Int):Int:=ds.getD p.toNat 0
def agk (is:List ak) (p:Int):Int:=((is[p.toNat]?).map ak.op).getD 0
def d7 (n:Nat) (i:ak):Bool:=inR i.op 1 26 && (!(decide (i.op=13) || decide (i.op=14)) || decide (0<=co i.text.data.toList)) && i.labs.all fun l=>inR l 0 ((n:Int) - 1)
def kx (is:List ak):Bool:=is.all (d7 is.length)
abbrev Dst:=List Int×List Nat
def vO (n:Nat) (ds:List Int) (p d:Int):Bool:=!inR p 0 ((n:Int) - 1) || decide (250<d) || (decide (0<=gd ds p) && !decide (gd ds p=d))
def il (n:Nat):List (Int×Int)->Dst->Option Dst
 | [],s=>some s
 | (p,d)::r,(ds,q)=>if vO n ds p d then none else if gd ds p<0 then il n r (ds.set p.toNat d,q++[p.toNat]) else il n r (ds,q)
def im (is:List ak) (at_:Int) (op l:Int):Bool:=!decide (op=26) && decide (l<=at_) && !decide (agk is l=23)
def ml (is:List ak) (i:ak) (at_:Nat) (ds:List Int):Option Dst :=
 if gd ds at_<i.eff.1 then none
 else if i.labs.any (im is at_ i.op) then none
 else il is.length (i.nexts at_ (gd ds at_)) (ds,[])
def aaD (is:List ak) (at_:Int) (op p:Int):Bool:=decide ((is.length:Int)<=p) || im is at_ op p
def j0 (is:List ak) (at_ op:Int):List (Int×Int)->Dst->Option Dst
 | [],s=>some s
 | (p,d)::r,(ds,q)=>if aaD is at_ op p then none else if gd ds p=-1 then j0 is at_ op r (ds.set p.toNat d,q++[p.toNat]) else if gd ds p=d then j0 is at_ op r (ds,q) else none
def vB (is:List ak) (i:ak) (at_:Nat) (ds:List Int):Option Dst :=
 if gd ds at_ - i.eff.1<0\/250<gd ds at_ - i.eff.1+i.eff.2 then none
 else j0 is at_ i.op (i.nexts at_ (gd ds at_)) (ds,[])
def nt:List (Int×Int)->Dst->Option Dst
 | [],s=>some s
 | (p,d)::r,(ds,q)=>if gd ds p<0 then nt r (ds.set p.toNat d,q++[p.toNat]) else if gd ds p=d then nt r (ds,q) else none
def okP (n:Nat) (x:Int×Int):Bool:=inR x.1 0 ((n:Int) - 1) && decide (x.2<=250)
theorem yk (n:Nat):∀(l:List (Int×Int)) (s:Dst),il n l s=if l.all (okP n) then nt l s else none
 | [],s=>by simp[il,nt]
 | (p,d)::r,(ds,q)=>by
   have ih:=yk n r
   by_cases hr:inR p 0 ((n:Int) - 1)=true
   ·by_cases hd:d<=250
    ·have hd':¬ 250<d:=by omega
     by_cases hg:gd ds p<0
     ·have hg':¬ 0<=gd ds p:=by omega
      simp only[il,vO,nt,okP,YM,hr,hd,hd',hg,hg',ih,decide_true,decide_false,YF,Bool.or_false,Zl,Zn,if_true,YK,if_false]
     ·have hg':0<=gd ds p:=by omega
      by_cases he:gd ds p=d
      ·have h1:¬ d<0:=he ▸ hg
       have h2:0<=d:=he ▸ hg'
       simp only[il,vO,nt,okP,YM,hr,hd,hd',he,h1,h2,ih,decide_true,decide_false,YF,Bool.or_false,Zn,if_true,YK,if_false]
      ·simp[il,vO,nt,okP,hr,hd,hd',hg,hg',he]
       exact(ite_self _).symm
    ·have hd':250<d:=by omega
     simp[il,vO,okP,hr,hd,hd']
   ·simp[il,vO,okP,hr]
def ae1 (ds:List Int):Prop:=∀x∈ds,-1<=x/\x<=250
theorem ae1.gd {ds:List Int} (h:ae1 ds) (p:Int):-1<=gd ds p/\gd ds p<=250:=by
 unfold Proofs.YtofnnnpahglfdaaGreatDoor.gd
 rw[ZS]
 cases hp:ds[p.toNat]? with
 | none=>simp
 | some x=>exact h x (Zq hp)
theorem ae1.set {ds:List Int} (h:ae1 ds) {d:Int} (h0:-1<=d) (h1:d<=250) (p:Nat):ae1 (ds.set p d):=fun x hx=>by
 rcases YJ hx with hx|rfl
 ·exact h x hx
 ·exact⟨h0,h1⟩
theorem y8 (is:List ak) (at_ op:Int):∀(l:List (Int×Int)) (s:Dst),ae1 s.1->(∀x∈l,0<=x.2/\x.2<=250)->j0 is at_ op l s=if l.all (fun x=>!aaD is at_ op x.1) then nt l s else none
 | [],s,_,_=>by simp[j0,nt]
 | (p,d)::r,(ds,q),hI,hl=>by
   have ih:=y8 is at_ op r
   have hd:=hl (p,d) (by simp)
   have hl':∀x∈r,0<=x.2/\x.2<=250:=fun x hx=>hl x (by simp[hx])
   have hg:=hI.gd p
   by_cases hb:aaD is at_ op p=true
   ·simp[j0,hb]
   ·by_cases h1:gd ds p=-1
    ·have h2:gd ds p<0:=by omega
     have:=ih (ds.set p.toNat d,q++[p.toNat]) (hI.set (by omega) hd.2 _) hl'
     simp only[j0,nt,YM,hb,h1,if_true,YK,if_false,Yv,Zn,this,show ((-1:Int)<0) from by omega]
    ·have h2:¬ gd ds p<0:=by simp only at hg;omega
     by_cases he:gd ds p=d
     ·have h3:¬ d<0:=he ▸ h2
      have h4:¬ d=-1:=he ▸ h1
      have:=ih (ds,q) hI hl'
      simp only[j0,nt,YM,hb,he,h3,h4,if_true,YK,if_false,Yv,Zn,this]
     ·simp[j0,nt,hb,h1,h2,he]
      exact(ite_self _).symm
theorem adD (i:ak) (at_:Nat) (g:Int) (h0:0<=g) (h1:g<=250) (h:250<g - i.eff.1+i.eff.2) (hl:∀l:Int,True):∃x∈i.nexts at_ g,250<x.2:=by
 rcases oP i.op with h'|h'|h'|h'|h'|h'|h'|h'|h'|h'|h'|h'|h'|h'|h'|h'
 all_goals first
   | (refine⟨((at_:Int)+1,g - i.eff.1+i.eff.2), ?_,h⟩;simp[ak.nexts,h'];done)
   | (refine⟨(i.a,g - i.eff.1+i.eff.2), ?_,h⟩;simp[ak.nexts,h'];done)
   | (exfalso;simp[ak.eff,h'] at h;omega)
theorem wJ (i:ak) (at_:Nat) (g:Int) (h0:0<=g) (h1:g<=250) (ht:¬ g<i.eff.1) (h:¬ 250<g - i.eff.1+i.eff.2) (hsel:i.op=14->0<=i.eff.1):∀x∈i.nexts at_ g,0<=x.2/\x.2<=250:=by
 have he:=jk i
 intro x hx
 rcases oP i.op with h'|h'|h'|h'|h'|h'|h'|h'|h'|h'|h'|h'|h'|h'|h'|h'
 all_goals first
     | (simp[ak.nexts,h'] at hx;done)
     | skip
 all_goals
   simp[ak.nexts,h'] at hx
   try simp[ak.eff,h'] at ht h he hsel hx
   first
     | (subst hx;simp;omega)
     | (rcases hx with rfl|rfl <;> simp <;> omega)
     | (rcases hx with rfl|rfl|rfl <;> simp <;> omega)
theorem agd (n:Nat) (l:Int):inR l 0 ((n:Int) - 1)=(decide (0<=l) && !decide ((n:Int)<=l)):=by
 simp only[inR];rw[YI];simp;omega
theorem abN (is:List ak) (i:ak) (at_:Nat) (g:Int) (h0:0<=g) (h1:g<=250) (ht:¬ g<i.eff.1) (h:¬ 250<g - i.eff.1+i.eff.2) (hlab:(i.labs.all fun l=>inR l 0 ((is.length:Int) - 1))=true) :
   (!i.labs.any (im is at_ i.op) && (i.nexts at_ g).all (okP is.length))=(i.nexts at_ g).all (fun x=>!aaD is at_ i.op x.1):=by
 have hb1:∀op,im is at_ op ((at_:Int)+1)=false:=fun op=>by
   simp only[im]
   rw[show decide ((at_:Int)+1<=at_)=false from decide_eq_false (by omega)];simp
 have hin1:inR ((at_:Int)+1) 0 ((is.length:Int) - 1)=!decide ((is.length:Int)<=(at_:Int)+1):=by
   rw[agd,show decide (0<=(at_:Int)+1)=true from decide_eq_true (by omega)];rfl
 have hl2:∀l∈i.labs,inR l 0 ((is.length:Int) - 1)=true/\decide ((is.length:Int)<=l)=false:=fun l hl=>by
   have:=List.all_eq_true.1 hlab l hl
   refine⟨this, ?_⟩
   simp only[inR,decide_eq_true_eq] at this
   exact decide_eq_false (by omega)
 rcases oP i.op with h'|h'|h'|h'|h'|h'|h'|h'|h'|h'|h'|h'|h'|h'|h'|h'
 all_goals
   simp only[ak.labs,ak.eff,h'] at hl2 ht h
   simp[ak.nexts,ak.labs,ak.eff,h',okP,aaD,hb1,hin1]
   try simp at hl2 ht h
 all_goals first
   | (intros;omega)
   | grind
theorem acK (is:List ak) (i:ak) (at_:Nat) (ds:List Int) (hI:ae1 ds) (hp:d7 is.length i=true) (hg:0<=gd ds at_):ml is i at_ ds=vB is i at_ ds:=by
 have hr:=hI.gd at_
 unfold ml vB
 by_cases ht:gd ds at_<i.eff.1
 ·rw[if_pos ht,if_pos (by omega)]
 rw[if_neg ht]
 simp only[d7,Zm] at hp
 obtain⟨⟨hop,hsel⟩,hlab⟩:=hp
 have hsel':i.op=14->0<=i.eff.1:=fun h=>by
   simp[h] at hsel
   simp[ak.eff,h];exact hsel
 rw[yk]
 by_cases h250:250<gd ds at_ - i.eff.1+i.eff.2
 ·rw[if_pos (Or.inr h250)]
  obtain⟨x,hx,hx2⟩:=adD i at_ _ hg hr.2 h250 fun _=>trivial
  have hno:(i.nexts at_ (gd ds at_)).all (okP is.length)=false:=by
    rw[List.all_eq_false]
    exact⟨x,hx,by simp[okP];intro _;omega⟩
  rw[hno];simp
 ·rw[if_neg (c:=gd ds at_ - i.eff.1<0\/250<gd ds at_ - i.eff.1+i.eff.2) (by omega),y8 _ _ _ _ _ hI (wJ i at_ _ hg hr.2 ht h250 hsel')]
  have key:=abN is i at_ _ hg hr.2 ht h250 hlab
  by_cases hA:i.labs.any (im is at_ i.op)=true
  ·rw[hA] at key
   rw[if_pos hA,<- key];rfl
  ·rw[if_neg hA]
   rw[YL] at hA
   rw[hA] at key
   rw[<- key];rfl
structure DSt (n:Nat) (ds:List Int) (q:List Nat) (k:Nat):Prop where
 len:ds.length=n
 inv:ae1 ds
 ok:∀p∈q,p<n/\0<=gd ds p
 mu:q.length+ds.countP (·<0)<=k
theorem agw {ds:List Int} {p:Int} (hp:p.toNat<ds.length) (d:Int) (x:Nat):gd (ds.set p.toNat d) (x:Int)=if p.toNat=x then d else gd ds x:=by
 unfold gd
 simp only[ZF,ZS,Xa]
 split
 ·rename_i h;subst h;simp[hp]
 ·rfl
theorem ry {ds:List Int} {p:Nat} (hp:p<ds.length):gd ds (p:Int)=ds[p]:=by
 unfold gd;simp[hp]
theorem DSt.push {n:Nat} {ds:List Int} {q:List Nat} {k:Nat} (h:DSt n ds q k) {p d:Int} (hp:inR p 0 ((n:Int) - 1)=true) (h0:0<=d) (h1:d<=250) (hg:gd ds p<0):DSt n (ds.set p.toNat d) (q++[p.toNat]) k:=by
 simp only[inR,decide_eq_true_eq] at hp
 have hl:=h.len
 have hpl:p.toNat<ds.length:=by omega
 refine⟨by simp[hl],h.inv.set (by omega) h1 _,fun x hx=>?_, ?_⟩
 ·rw[agw hpl]
  rcases List.mem_append.1 hx with hx|hx
  ·refine⟨(h.ok x hx).1, ?_⟩
   split
   ·exact h0
   ·exact(h.ok x hx).2
  ·simp at hx;subst hx
   exact⟨by omega,by rw[if_pos rfl];exact h0⟩
 ·have hn:ds[p.toNat]<0:=by
    have:=ry hpl
    have hpp:((p.toNat:Nat):Int)=p:=by omega
    rw[hpp] at this;omega
  have hc:=List.countP_set (p:=fun x:Int=>decide (x<0)) (l:=ds) (a:=d) hpl
  have hpos:0<ds.countP (fun x:Int=>decide (x<0)):=List.countP_pos_iff.2 ⟨_,Zb hpl,by simpa using hn⟩
  have hm:=h.mu
  simp only[hn,decide_true,if_true,show decide (d<0)=false from decide_eq_false (by omega),YK,if_false] at hc
  rw[Zs,Y6,hc]
  omega
theorem DSt.pop {n:Nat} {ds:List Int} {p:Nat} {q:List Nat} {k:Nat} (h:DSt n ds (p::q) k):∃j,k=j+1/\DSt n ds q j/\p<n/\0<=gd ds p:=by
 have hm:=h.mu
 rw[ZC] at hm
 exact⟨k - 1,by omega,⟨h.len,h.inv,fun x hx=>h.ok x (by simp[hx]),by omega⟩,h.ok p (by simp)⟩
def sQ (is:List ak) (step:ak->Nat->List Int->Option Dst):Nat->List Int->List Nat->Option (List Int)
 | _,ds,[]=>some ds
 | 0,_,_::_=>none
 | f+1,ds,p::q=>match is[p]? with
   | none=>none
   | some i=>match step i p ds with
     | none=>none
     | some (ds',new)=>sQ is step f ds' (q++new)
theorem jg (is : List ak) (step : ak -> Nat -> List Int -> Option Dst) (f : Nat) (ds : List Int) {p : Nat} (q : List Nat) (hp : p < is.length) : sQ is step (f + 1) ds (p :: q) = match step is[p] p ds with
     | none=>none
     | some (ds',new)=>sQ is step f ds' (q++new):=by
 simp only[sQ,Za hp]
theorem gN (i:ak) (at_:Nat) (g:Int) (h0:0<=g) (ht:¬ g<i.eff.1) (hsel:i.op=14->0<=i.eff.1):∀x∈i.nexts at_ g,0<=x.2:=by
 have he:=jk i
 intro x hx
 rcases oP i.op with h'|h'|h'|h'|h'|h'|h'|h'|h'|h'|h'|h'|h'|h'|h'|h'
 all_goals first
     | (simp[ak.nexts,h'] at hx;done)
     | skip
 all_goals
   simp[ak.nexts,h'] at hx
   try simp[ak.eff,h'] at ht he hsel hx
   first
     | (subst hx;simp;omega)
     | (rcases hx with rfl|rfl <;> simp <;> omega)
     | (rcases hx with rfl|rfl|rfl <;> simp <;> omega)
theorem jK {n k:Nat}:∀(l:List (Int×Int)) (ds:List Int) (q0 new:List Nat) (s:Dst),(∀x∈l,0<=x.2)->DSt n ds (q0++new) k->il n l (ds,new)=some s->DSt n s.1 (q0++s.2) k
 | [],ds,q0,new,s,_,h,e=>by simp only[il,Zx] at e;subst e;exact h
 | (p,d)::r,ds,q0,new,s,hl,h,e=>by
   have h0:=hl (p,d) (by simp)
   have hr:∀x∈r,0<=x.2:=fun x hx=>hl x (by simp[hx])
   simp only[il] at e
   by_cases hb:vO n ds p d=true
   ·rw[if_pos hb] at e;cases e
   ·rw[if_neg hb] at e
    simp only[vO,Xi,not_or,YL,Y3,decide_eq_false_iff_not] at hb
    by_cases hg:gd ds p<0
    ·rw[if_pos hg] at e
     exact jK r _ q0 _ s hr (by rw[<- Zh];exact h.push hb.1.1 h0 (by omega) hg) e
    ·rw[if_neg hg] at e
     exact jK r _ q0 _ s hr h e
theorem abM (is:List ak) (hp:kx is=true):∀(f:Nat) (ds:List Int) (q:List Nat),DSt is.length ds q f->sQ is (ml is) f ds q=sQ is (vB is) f ds q
 | _,_,[],_=>by simp[sQ]
 | 0,_,_::_,_=>by simp[sQ]
 | f+1,ds,p::q,h=>by
   obtain⟨j,hj,hst,hpl,hg⟩:=h.pop
   obtain rfl:f=j:=by omega
   rw[jg _ _ _ _ _ hpl,jg _ _ _ _ _ hpl]
   have hpi:d7 is.length is[p]=true:=List.all_eq_true.1 hp _ (Zb _)
   have hse:=acK is is[p] p ds h.inv hpi hg
   rw[<- hse]
   cases hs:ml is is[p] p ds with
   | none=>rfl
   | some s =>
     have hsel:is[p].op=14->0<=is[p].eff.1:=fun h14=>by
       simp only[d7,Zm] at hpi
       have:=hpi.1.2
       simp[h14] at this
       simp[ak.eff,h14];exact this
     unfold ml at hs
     by_cases ht:gd ds p<is[p].eff.1
     ·rw[if_pos ht] at hs;cases hs
     ·rw[if_neg ht] at hs
      by_cases hA:(is[p].labs.any (im is p is[p].op))=true
      ·rw[if_pos hA] at hs;cases hs
      ·rw[if_neg hA] at hs
       have hst':=jK _ ds q [] s (gN _ p _ hg ht hsel) (by rw[Zo];exact hst) hs
       exact abM is hp f s.1 (q++s.2) hst'
def cn (is:List ak):Option (List Int) :=
 if is.length=0 then none else if kx is then sQ is (ml is) is.length (0::List.replicate (is.length - 1) (-1)) [0] else none
theorem nX {n:Nat} (hn:1<=n):DSt n (0::List.replicate (n - 1) (-1)) [0] n:=by
 refine⟨by simp;omega,fun x hx=>?_,fun p hp=>?_, ?_⟩
 ·rcases List.mem_cons.1 hx with rfl|hx
  ·omega
  ·rw[Yr hx];omega
 ·simp at hp;subst hp;exact⟨by omega,by simp[gd]⟩
 ·simp[List.countP_replicate];omega
def ac3 (ds:List Int):Array Value:=(ds.map (Value.int .i64)).toArray
theorem adR (ds:List Int) (p:Nat) (d:Int):(ac3 ds).setIfInBounds p (.int .i64 d)=ac3 (ds.set p d):=by
 unfold ac3
 rw[List.setIfInBounds_toArray,Ys]
def nts (q:List Nat):List Int:=q.map Int.ofNat
theorem zr (a b:List Nat):nts (a++b)=nts a++nts b:=by simp[nts]
theorem i8.blk {w:World} {g:Nat} {e:TypeId} {xs:List Value} (h:i8 w g e xs.length xs):Blk w g e xs.toArray:=by
 obtain⟨cur,h1,h2,_,h4⟩:=h
 have:cur=xs.toArray:=by
   rw[Zc (by simp[h2])] at h4
   rw[<- h4]
 rw[<- this];exact h1
theorem Blk.owned_ints {w:World} {g:Nat} {ds:List Int} {S:Nat->Prop} (h:Blk w g 3 (ac3 ds)) (hl:ds.length<=maxLen) (hS:S g):cJ w S (.sl (some ⟨g,0,none⟩) ds.length 1 (qK ds)) :=
 Proofs.YtofnnnpahglfdaaGreatDoor.owned_ints (zs:=ds) (c:=ds.length) ⟨_,h,by simp[ac3],by simp,by rw[ac3,Ze,Zc (by simp)]⟩ (Zf _) hl hS
def aeU (x:ak):Array Value:=#[.int .i64 x.op,.int .i64 x.a,.int .i64 x.b,.string x.text]
structure mr (w wi:World) (g B B2 gb:Nat) (x:ak) (L:List (Int×Int)) (A13:Option Addr) (c13:Nat) (A14:Option Addr) (c14:Nat) (r14:List Int) (ds:List Int) (tl:List Nat) (A:Option Addr) (c:Nat):Prop where
 own:cJ wi (fun b=>g<b/\(b<B\/B2<=b)) (.sl A c 1 (qK (nts tl)))
 dep:Blk wi g 3 (ac3 ds)
 s13:er wi (Rng B B2) (.sl A13 c13 1 (qK (L.map Prod.fst)))
 s14:er wi (Rng B B2) (.sl A14 c14 1 (qK (L.map Prod.snd++r14)))
 box:Blk wi gb 245 (aeU x)
 old:Below w.heap.size w wi
 sz:B2<=wi.heap.size
 hg:g<B
 hg0:w.heap.size<=g
 hB:B<=B2
 hgb:B<=gb
 hgb2:gb<B2
section
variable {w wi:World} {g B B2 gb:Nat} {x:ak} {L:List (Int×Int)} {A13:Option Addr} {c13:Nat} {A14:Option Addr} {c14:Nat} {r14:List Int} {ds:List Int} {tl:List Nat} {A:Option Addr} {c:Nat}
theorem mr.set (h:mr w wi g B B2 gb x L A13 c13 A14 c14 r14 ds tl A c) (p:Nat) (d:Int):mr w (wi.setCell ⟨g,p,none⟩ (.int .i64 d)) g B B2 gb x L A13 c13 A14 c14 r14 (ds.set p d) tl A c :=
 ⟨h.own.far (p:=⟨g,p,none⟩) (fun hh=>by have:=hh.1;simp at this) _,by rw[<- adR];exact h.dep.set_ p _,
  h.s13.keep (fun b hb=>Below.heap_setCell _ _ _ _ (by have:=hb.1;have:=h.hg;simp only;omega)) (fun _ hb _=>hb),
  h.s14.keep (fun b hb=>Below.heap_setCell _ _ _ _ (by have:=hb.1;have:=h.hg;simp only;omega)) (fun _ hb _=>hb),
  h.box.far (p:=⟨g,p,none⟩) (by have:=h.hg;have:=h.hgb;simp only;omega) _,h.old.setCell h.hg0 _,by have:=h.sz;simpa [World.setCell] using this,h.hg,h.hg0,h.hB,h.hgb,h.hgb2⟩
theorem mr.drewN (h:mr w wi g B B2 gb x L A13 c13 A14 c14 r14 ds tl A c) (n:Nat):mr w (wi.drewN n) g B B2 gb x L A13 c13 A14 c14 r14 ds tl A c :=
 ⟨h.own.keep fun _ _ _=>rfl,h.dep,h.s13.keep (fun _ _=>rfl) fun _ hb _=>hb,h.s14.keep (fun _ _=>rfl) fun _ hb _=>hb,h.box,bv h.old n,h.sz,h.hg,h.hg0,h.hB,h.hgb,h.hgb2⟩
theorem mr.push (h:mr w wi g B B2 gb x L A13 c13 A14 c14 r14 ds tl A c) {w2:World} {A':Option Addr} {c' p:Nat} (ho:cJ w2 (fun b=>g<b/\(b<B\/B2<=b)) (.sl A' c' 1 (qK (nts tl++[(p:Int)])))) (ht:eb (·∈PT.rowOf A) wi w2):mr w w2 g B B2 gb x L A13 c13 A14 c14 r14 ds (tl++[p]) A' c':=by
 have hA:∀b,b∈PT.rowOf A->g<b/\(b<B\/B2<=b):=fun b hb=>h.own.2.2 b (by simp[PT.blocks,hb])
 refine⟨by rw[zr];exact ho,h.dep.touch ht fun hb=>by have:=(hA g hb).1;omega,h.s13.touch ht fun b hb _ hm=>?_,h.s14.touch ht fun b hb _ hm=>?_,h.box.touch ht fun hb=>?_,h.old.trans (ht.below h.old.size fun b hb=>by have:=(hA b hb).1;have:=h.hg0;omega),ZN h.sz ht.size,h.hg,h.hg0,h.hB,h.hgb,h.hgb2⟩
 ·have h1:=hA b hm;have h2:=hb.1;have h3:=hb.2;omega
 ·have h1:=hA b hm;have h2:=hb.1;have h3:=hb.2;omega
 ·have h1:=hA gb hb;have h2:=h.hgb;have h3:=h.hgb2;omega
end
structure o6 (w wx:World) (g:Nat) (ds:List Int) (tl:List Nat) (A:Option Addr) (c:Nat):Prop where
 own:cJ wx (g<·) (.sl A c 1 (qK (nts tl)))
 dep:Blk wx g 3 (ac3 ds)
 old:Below w.heap.size w wx
 hg0:w.heap.size<=g
theorem o6.below {w wx w':World} {g:Nat} {ds:List Int} {tl:List Nat} {A:Option Addr} {c:Nat} (h:o6 w wx g ds tl A c) (hb:Below wx.heap.size wx w'):o6 w w' g ds tl A c :=
 ⟨h.own.below hb,h.dep.below hb h.dep.lt,h.old.trans (hb.mono h.old.size),h.hg0⟩
theorem o6.start {w wr:World} {n:Nat} (h0:n≠0) (hb:Below w.heap.size w wr) (hf:Blk wr w.heap.size 3 (List.replicate n (Value.int .i64 (-1))).toArray):o6 w ((wr.alloc (.cells #[.int .i64 0] 3)).setCell ⟨w.heap.size,0,none⟩ (.int .i64 0)) w.heap.size (0::List.replicate (n - 1) (-1)) [0] (some ⟨wr.heap.size,0,none⟩) 1:=by
 have hlt:=hf.lt
 have hz:=hb.size
 refine⟨?_, ?_,(hb.alloc hz _).setCell (Zf _) _,Zf _⟩
 ·refine cJ.far (p:=⟨w.heap.size,0,none⟩) ?_ (by simp) _
  exact Blk.owned_ints (ds:=[0]) (g:=wr.heap.size) (Blk.new wr _ _) (by simp[maxLen]) hlt
 ·have:=(hf.alloc (.cells #[.int .i64 0] 3)).set_ 0 (.int .i64 0)
  obtain⟨m,rfl⟩:∃m,n=m+1:=⟨n - 1,by omega⟩
  rw[show ac3 (0::List.replicate (m+1 - 1) (-1))=(List.replicate (m+1) (Value.int .i64 (-1))).toArray.setIfInBounds 0 (.int .i64 0) by
    unfold ac3;rw[List.setIfInBounds_toArray];simp[ZY]]
  exact this
theorem mr.start {w wr wc:World} {g:Nat} {x:ak} {L:List (Int×Int)} {A13:Option Addr} {c13:Nat} {A14:Option Addr} {c14:Nat} {r14:List Int} {ds:List Int} {tl:List Nat} {A:Option Addr} {c:Nat} (h:o6 w wr g ds tl A c) (hcB:Below wr.heap.size wr wc) (hcx:Blk wc wr.heap.size 245 (aeU x))
   (s13:er wc (wr.heap.size<=·) (.sl A13 c13 1 (qK (L.map Prod.fst)))) (s14:er wc (wr.heap.size<=·) (.sl A14 c14 1 (qK (L.map Prod.snd++r14)))):mr w wc g wr.heap.size wc.heap.size wr.heap.size x L A13 c13 A14 c14 r14 ds tl A c :=
 ⟨(h.own.mono fun b hb hlt=>⟨hb,Or.inl hlt⟩).below hcB,h.dep.below hcB h.dep.lt,s13.mono fun b hb hlt=>⟨hb,hlt⟩,s14.mono fun b hb hlt=>⟨hb,hlt⟩,hcx,h.old.trans (hcB.mono h.old.size),Zf _,h.dep.lt,h.hg0,hcB.size,Zf _,hcx.lt⟩
theorem mr.out {w wi:World} {g B B2 gb:Nat} {x:ak} {L:List (Int×Int)} {A13:Option Addr} {c13:Nat} {A14:Option Addr} {c14:Nat} {r14:List Int} {ds:List Int} {tl:List Nat} {A:Option Addr} {c:Nat} (h:mr w wi g B B2 gb x L A13 c13 A14 c14 r14 ds tl A c):o6 w wi g ds tl A c :=
 ⟨h.own.mono fun b hb _=>hb.1,h.dep,h.old,h.hg0⟩
theorem adz {is:List ak} {i:ak} {at_:Nat} {ds ds':List Int} {new q:List Nat} {k:Nat} (hpi:d7 is.length i=true) (hD:DSt is.length ds q k) (hg:0<=gd ds at_) (h:vB is i at_ ds=some (ds',new)):DSt is.length ds' (q++new) k:=by
 rw[<- acK is i at_ ds hD.inv hpi hg] at h
 have hsel:i.op=14->0<=i.eff.1:=fun h14=>by
   simp only[d7,Zm] at hpi
   have:=hpi.1.2
   simp[h14] at this
   simp[ak.eff,h14];exact this
 unfold ml at h
 by_cases ht:gd ds at_<i.eff.1
 ·rw[if_pos ht] at h;cases h
 ·rw[if_neg ht] at h
  by_cases hA:(i.labs.any (im is at_ i.op))=true
  ·rw[if_pos hA] at h;cases h
  ·rw[if_neg hA] at h
   exact jK _ ds q [] _ (gN _ at_ _ hg ht hsel) (by rw[Zo];exact hD) h
theorem zy (is:List ak) (at_ op p d:Int) (r:List (Int×Int)) (ds:List Int) (q:List Nat):j0 is at_ op ((p,d)::r) (ds,q)=if aaD is at_ op p then none else if gd ds p=-1 then j0 is at_ op r (ds.set p.toNat d,q++[p.toNat]) else if gd ds p=d then j0 is at_ op r (ds,q) else none:=rfl
def dw (is:List ak):Option (List Int):=if is.length=0 then none else sQ is (vB is) is.length (0::List.replicate (is.length - 1) (-1)) [0]
theorem rv (is:List ak) (hp:kx is=true):cn is=dw is:=by
 unfold cn dw
 rw[if_pos hp]
 split
 ·rfl
 ·rename_i h
  exact abM is hp _ _ _ (nX (by omega))
theorem ack {n:Nat} (i:ak) (at_:Nat) (d:Int) (h:d7 n i=true):∀x∈i.nexts at_ d,0<=x.1:=by
 simp only[d7,Zm] at h
 have hl:=h.2
 simp only[List.all_eq_true,inR,decide_eq_true_eq] at hl
 intro x hx
 rcases oP i.op with h'|h'|h'|h'|h'|h'|h'|h'|h'|h'|h'|h'|h'|h'|h'|h'
 all_goals
   simp only[ak.labs,h'] at hl
   simp[ak.nexts,h'] at hx
   try simp at hl
   try first
     | (subst hx;simp;omega)
     | (rcases hx with rfl|rfl <;> simp <;> omega)
     | (rcases hx with rfl|rfl|rfl <;> simp <;> omega)
theorem vy (i:ak) (a d:Int):(i.nexts a d).length<=3:=by
 unfold ak.nexts
 repeat' split
 all_goals simp
end Go.Proofs.YtofnnnpahglfdaaGreatDoor
