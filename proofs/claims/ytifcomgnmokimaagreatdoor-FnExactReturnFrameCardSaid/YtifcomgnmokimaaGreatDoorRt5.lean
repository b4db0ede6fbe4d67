/- Part 5 of the proof: the texts Num, Types. -/
import Derived.Test.YtifcomgnmokimaaGreatDoorRt1
import Derived.Test.YtifcomgnmokimaaGreatDoorRt2
import Derived.Lib.AppendIntMem
set_option linter.all false
namespace Go.Proofs.YtifcomgnmokimaaGreatDoor
open Go Go.RowKit
def ahu (w:World):Prop:=Lib.TabIs Tryz.prog w "internal/strconv.uint64pow10" .u64 Lib.pow10Tab
theorem ahu.below {w w':World} (h:ahu w) (hb:Below w.heap.size w w'):ahu w':=Lib.tabBelow_of_tabIs h w' hb
def ain (n:Int):ByteArray:=⟨(Lib.itoa n).toArray⟩
theorem qX:∀(k u:Nat),u<10 ^ (k+1)->Lib.nDigits u<=k+1
 | 0,u,h=>by rw[Lib.nDigits_small (by simpa using h)];omega
 | k+1,u,h=>by
   by_cases h1:u<10
   ·rw[Lib.nDigits_small h1];omega
   ·rw[Lib.nDigits_big h1]
    have:=qX k (u / 10) (by rw[Nat.pow_succ] at h;omega)
    omega
def pre (u:Nat):List UInt8:=if u=0 then [] else Lib.decDigits u
theorem adG {u:Nat} (h:u≠0):pre u=pre (u / 10)++[UInt8.ofNat (48+u % 10)]:=by
 unfold pre
 rw[if_neg h,Lib.decDigits]
 by_cases h1:u<10
 ·rw[dif_pos h1,if_pos (by omega),Nat.mod_eq_of_lt h1];rfl
 ·rw[dif_neg h1,if_neg (by omega)]
theorem zl {u:Nat} (h:u<10000000000000000000):(pre u).length<=19:=by
 unfold pre
 split
 ·simp
 ·rw[Lib.decDigits_length];exact qX 18 u (by simpa using h)
theorem ac2 {n:Int} (hz:n≠0):ain n=if n<0 then ⟨(45::pre n.natAbs).toArray⟩ else ⟨(pre n.natAbs).toArray⟩:=by
 have h1:pre n.natAbs=Lib.decDigits n.natAbs:=by unfold pre;rw[if_neg (by omega)]
 rw[h1]
 unfold ain Lib.itoa
 by_cases h:n<0
 ·rw[if_pos h,if_pos h]
 ·rw[if_neg h,if_neg h,show n.toNat=n.natAbs by omega]
theorem ad2 (src:TypeId) (e:TypeId) (w:World) (d:Nat) (hd:d<256) (v:Int) (hv:v=d) (hs:Tryz.prog.underlying src=some (.slice e)) (he:Tryz.prog.underlying e=some (.int .u8)) :
   (convert src 9 (.slice (some ⟨w.heap.size,0,none⟩) 1 1)).run Tryz.prog (w.alloc (.cells #[.int .u8 v] e))=.ok (.string ⟨#[UInt8.ofNat d]⟩) (w.alloc (.cells #[.int .u8 v] e)):=by
 subst hv
 refine run_convert_bytes_back (P:=Tryz.prog) _ src 9 e ⟨w.heap.size,0,none⟩ 1 [UInt8.ofNat d] hs he Tryz.underlying9 fun j hj=>?_
 have hj0:j=0:=by simp at hj;omega
 subst hj0
 have h:=Blk.cell (Blk.new w e #[.int .u8 (d:Int)]) 0
 rw[show (⟨w.heap.size,0,none⟩:Addr).add 0=⟨w.heap.size,0,none⟩ from rfl,h]
 show some (Value.int .u8 (d:Int))=some (.int .u8 ((UInt8.ofNat d).toNat:Int))
 rw[UInt8.toNat_ofNat',Nat.mod_eq_of_lt hd]
def bl {α:Type} (f:α->Nat) (l:List α):Nat:=l.length+(l.map f).sum
theorem jG {α:Type} {R:PT->α->Prop} {P:α->Prop} {l:List PT} {xs:List α} (h:AtL R l xs) (hs:PT.saneL l) (hp:∀t x,R t x->t.sane->P x):∀x∈xs,P x:=fun x hx=>by
 obtain⟨i,hi,rfl⟩:=ZD hx
 have hi':i<l.length:=by rw[h.1];exact hi
 exact hp _ _ (h.get hi') (PT.saneL_mem hs (Zb hi'))
structure ab where
 kind:Int
 number:Int
 text:ByteArray
def ab.ty:Ty:=.agg [.int .i64,.int .i64,.str]
def ab.sane (x:ab):Prop:=i64 x.kind/\i64 x.number/\x.text.size<=maxLen
def ab.pt (x:ab):PT:=.agg [.int .i64 x.kind,.int .i64 x.number,.str x.text]
theorem ab.flat:tC ab.pt 3:=⟨fun _=>rfl,fun _=>rfl,fun _ _=>by simp[ab.pt,Own,j7],fun _ _ _=>by simp[ab.pt,eF,cZ]⟩
def xT (t:PT) (x:ab):Prop:=t=x.pt
theorem ab.of_ty {t:PT} (h:dn ab.ty t):∃x:ab,t=x.pt:=by
 simp only[ab.ty,dn,ex] at h
 obtain⟨_,rfl,h⟩:=h
 obtain⟨u0,_,rfl,h0,h⟩:=h
 obtain⟨v0,rfl⟩:=h0
 obtain⟨u1,_,rfl,h1,h⟩:=h
 obtain⟨v1,rfl⟩:=h1
 obtain⟨u2,_,rfl,h2,h⟩:=h
 obtain⟨v2,rfl⟩:=h2
 subst h
 exact⟨⟨v0,v1,v2⟩,rfl⟩
theorem ab.sane_of {x:ab} (h:x.pt.sane):x.sane:=by
 simp only[ab.pt,PT.sane,PT.saneL] at h
 exact⟨cC h.1,cC h.2.1,h.2.2.1⟩
structure am where
 op:Int
 a:Int
 b:Int
 text:ByteArray
def am.ty:Ty:=.agg [.int .i64,.int .i64,.int .i64,.str]
def am.sane (x:am):Prop:=i64 x.op/\i64 x.a/\i64 x.b/\x.text.size<=maxLen
def am.pt (x:am):PT:=.agg [.int .i64 x.op,.int .i64 x.a,.int .i64 x.b,.str x.text]
theorem am.flat:tC am.pt 4:=⟨fun _=>rfl,fun _=>rfl,fun _ _=>by simp[am.pt,Own,j7],fun _ _ _=>by simp[am.pt,eF,cZ]⟩
theorem am.of_ty {t:PT} (h:dn am.ty t):∃x:am,t=x.pt:=by
 simp only[am.ty,dn,ex] at h
 obtain⟨_,rfl,h⟩:=h
 obtain⟨u0,_,rfl,h0,h⟩:=h
 obtain⟨v0,rfl⟩:=h0
 obtain⟨u1,_,rfl,h1,h⟩:=h
 obtain⟨v1,rfl⟩:=h1
 obtain⟨u2,_,rfl,h2,h⟩:=h
 obtain⟨v2,rfl⟩:=h2
 obtain⟨u3,_,rfl,h3,h⟩:=h
 obtain⟨v3,rfl⟩:=h3
 subst h
 exact⟨⟨v0,v1,v2,v3⟩,rfl⟩
theorem am.sane_of {x:am} (h:x.pt.sane):x.sane:=by
 simp only[am.pt,PT.sane,PT.saneL] at h
 exact⟨cC h.1,cC h.2.1,cC h.2.2.1,h.2.2.2.1⟩
structure aB where
 block:Bool
 params:Int
 slots:Int
 instrs:List am
def aB.ty:Ty:=.agg [.bool,.int .i64,.int .i64,.sl 4 am.ty]
def aB.sane (x:aB):Prop:=i64 x.params/\i64 x.slots/\(∀y∈x.instrs,y.sane)
def kx (t:PT) (x:aB):Prop:=∃(A3:Option Addr) (c3:Nat),t=.agg [.bool x.block,.int .i64 x.params,.int .i64 x.slots,.sl A3 c3 4 ((x.instrs).map am.pt)]
theorem kx.cells {t:PT} {x:aB} (h:kx t x):t.cells.length=4:=by
 obtain⟨A3,c3,rfl⟩:=h
 rfl
theorem aB.of_ty {t:PT} (h:dn aB.ty t):∃x:aB,kx t x:=by
 simp only[aB.ty,dn,ex] at h
 obtain⟨_,rfl,h⟩:=h
 obtain⟨u0,_,rfl,h0,h⟩:=h
 obtain⟨v0,rfl⟩:=h0
 obtain⟨u1,_,rfl,h1,h⟩:=h
 obtain⟨v1,rfl⟩:=h1
 obtain⟨u2,_,rfl,h2,h⟩:=h
 obtain⟨v2,rfl⟩:=h2
 obtain⟨u3,_,rfl,h3,h⟩:=h
 obtain⟨A3,c3,l3,rfl,h3⟩:=h3
 obtain⟨v3,rfl⟩:=jl fun t ht=>am.of_ty (h3 t ht)
 subst h
 exact⟨⟨v0,v1,v2,v3⟩,_,_,rfl⟩
theorem aB.sane_of {t:PT} {x:aB} (ha:kx t x) (h:t.sane):x.sane:=by
 obtain⟨A3,c3,rfl⟩:=ha
 simp only[PT.sane,PT.saneL] at h
 exact⟨cC h.2.1,cC h.2.2.1,fun y hy=>am.sane_of (PT.saneL_mem h.2.2.2.1 (Z2 (f:=am.pt) hy))⟩
structure aD where
 owner:Int
 class_:Bool
 selector:ByteArray
 code:Int
def aD.ty:Ty:=.agg [.int .i64,.bool,.str,.int .i64]
def aD.sane (x:aD):Prop:=i64 x.owner/\x.selector.size<=maxLen/\i64 x.code
def aD.pt (x:aD):PT:=.agg [.int .i64 x.owner,.bool x.class_,.str x.selector,.int .i64 x.code]
theorem aD.flat:tC aD.pt 4:=⟨fun _=>rfl,fun _=>rfl,fun _ _=>by simp[aD.pt,Own,j7],fun _ _ _=>by simp[aD.pt,eF,cZ]⟩
theorem aD.of_ty {t:PT} (h:dn aD.ty t):∃x:aD,t=x.pt:=by
 simp only[aD.ty,dn,ex] at h
 obtain⟨_,rfl,h⟩:=h
 obtain⟨u0,_,rfl,h0,h⟩:=h
 obtain⟨v0,rfl⟩:=h0
 obtain⟨u1,_,rfl,h1,h⟩:=h
 obtain⟨v1,rfl⟩:=h1
 obtain⟨u2,_,rfl,h2,h⟩:=h
 obtain⟨v2,rfl⟩:=h2
 obtain⟨u3,_,rfl,h3,h⟩:=h
 obtain⟨v3,rfl⟩:=h3
 subst h
 exact⟨⟨v0,v1,v2,v3⟩,rfl⟩
theorem aD.sane_of {x:aD} (h:x.pt.sane):x.sane:=by
 simp only[aD.pt,PT.sane,PT.saneL] at h
 exact⟨cC h.1,h.2.2.1,cC h.2.2.2.1⟩
structure aa where
 name:ByteArray
 parent:Int
 fields:List ByteArray
def aa.ty:Ty:=.agg [.str,.int .i64,.sl 1 (.str)]
def aa.sane (x:aa):Prop:=x.name.size<=maxLen/\i64 x.parent/\(∀s∈x.fields,s.size<=maxLen)
def dD (t:PT) (x:aa):Prop:=∃(A2:Option Addr) (c2:Nat),t=.agg [.str x.name,.int .i64 x.parent,.sl A2 c2 1 ((x.fields).map PT.str)]
theorem dD.cells {t:PT} {x:aa} (h:dD t x):t.cells.length=3:=by
 obtain⟨A2,c2,rfl⟩:=h
 rfl
theorem aa.of_ty {t:PT} (h:dn aa.ty t):∃x:aa,dD t x:=by
 simp only[aa.ty,dn,ex] at h
 obtain⟨_,rfl,h⟩:=h
 obtain⟨u0,_,rfl,h0,h⟩:=h
 obtain⟨v0,rfl⟩:=h0
 obtain⟨u1,_,rfl,h1,h⟩:=h
 obtain⟨v1,rfl⟩:=h1
 obtain⟨u2,_,rfl,h2,h⟩:=h
 obtain⟨A2,c2,l2,rfl,h2⟩:=h2
 obtain⟨v2,rfl⟩:=jl fun t ht=>h2 t ht
 subst h
 exact⟨⟨v0,v1,v2⟩,_,_,rfl⟩
theorem aa.sane_of {t:PT} {x:aa} (ha:dD t x) (h:t.sane):x.sane:=by
 obtain⟨A2,c2,rfl⟩:=ha
 simp only[PT.sane,PT.saneL] at h
 exact⟨h.1,cC h.2.1,fun s hs=>PT.saneL_mem h.2.2.1 (Z2 (f:=PT.str) hs)⟩
structure aF where
 classes:List aa
 codes:List aB
 entries:List aD
 main:Int
def aF.ty:Ty:=.agg [.sl 3 aa.ty,.sl 4 aB.ty,.sl 4 aD.ty,.int .i64]
def aF.sane (x:aF):Prop:=(∀y∈x.classes,y.sane)/\(∀y∈x.codes,y.sane)/\(∀y∈x.entries,y.sane)/\i64 x.main
def eb (t:PT) (x:aF):Prop:=∃(A0:Option Addr) (c0:Nat) (l0:List PT) (A1:Option Addr) (c1:Nat) (l1:List PT) (A2:Option Addr) (c2:Nat),AtL dD l0 (x.classes)/\AtL kx l1 (x.codes)/\t=.agg [.sl A0 c0 3 l0,.sl A1 c1 4 l1,.sl A2 c2 4 ((x.entries).map aD.pt),.int .i64 x.main]
theorem eb.cells {t:PT} {x:aF} (h:eb t x):t.cells.length=4:=by
 obtain⟨A0,c0,l0,A1,c1,l1,A2,c2,h0,h1,rfl⟩:=h
 rfl
theorem aF.of_ty {t:PT} (h:dn aF.ty t):∃x:aF,eb t x:=by
 simp only[aF.ty,dn,ex] at h
 obtain⟨_,rfl,h⟩:=h
 obtain⟨u0,_,rfl,h0,h⟩:=h
 obtain⟨A0,c0,l0,rfl,h0⟩:=h0
 obtain⟨v0,k0⟩:=uO fun t ht=>aa.of_ty (h0 t ht)
 obtain⟨u1,_,rfl,h1,h⟩:=h
 obtain⟨A1,c1,l1,rfl,h1⟩:=h1
 obtain⟨v1,k1⟩:=uO fun t ht=>aB.of_ty (h1 t ht)
 obtain⟨u2,_,rfl,h2,h⟩:=h
 obtain⟨A2,c2,l2,rfl,h2⟩:=h2
 obtain⟨v2,rfl⟩:=jl fun t ht=>aD.of_ty (h2 t ht)
 obtain⟨u3,_,rfl,h3,h⟩:=h
 obtain⟨v3,rfl⟩:=h3
 subst h
 exact⟨⟨v0,v1,v2,v3⟩,_,_,_,_,_,_,_,_,k0,k1,rfl⟩
theorem aF.sane_of {t:PT} {x:aF} (ha:eb t x) (h:t.sane):x.sane:=by
 obtain⟨A0,c0,l0,A1,c1,l1,A2,c2,h0,h1,rfl⟩:=ha
 simp only[PT.sane,PT.saneL] at h
 exact⟨jG h0 h.1 fun _ _ a b=>aa.sane_of a b,jG h1 h.2.1 fun _ _ a b=>aB.sane_of a b,fun y hy=>aD.sane_of (PT.saneL_mem h.2.2.1 (Z2 (f:=aD.pt) hy)),cC h.2.2.2.1⟩
structure ar where
 kind:Int
 class_:Int
 fields:List ab
 numbers:List Int
def ar.ty:Ty:=.agg [.int .i64,.int .i64,.sl 3 ab.ty,.sl 1 (.int .i64)]
def ar.sane (x:ar):Prop:=i64 x.kind/\i64 x.class_/\(∀y∈x.fields,y.sane)/\(∀n∈x.numbers,i64 n)
def gx (t:PT) (x:ar):Prop:=∃(A2:Option Addr) (c2:Nat) (A3:Option Addr) (c3:Nat),t=.agg [.int .i64 x.kind,.int .i64 x.class_,.sl A2 c2 3 ((x.fields).map ab.pt),.sl A3 c3 1 ((x.numbers).map (PT.int .i64))]
theorem gx.cells {t:PT} {x:ar} (h:gx t x):t.cells.length=4:=by
 obtain⟨A2,c2,A3,c3,rfl⟩:=h
 rfl
theorem ar.of_ty {t:PT} (h:dn ar.ty t):∃x:ar,gx t x:=by
 simp only[ar.ty,dn,ex] at h
 obtain⟨_,rfl,h⟩:=h
 obtain⟨u0,_,rfl,h0,h⟩:=h
 obtain⟨v0,rfl⟩:=h0
 obtain⟨u1,_,rfl,h1,h⟩:=h
 obtain⟨v1,rfl⟩:=h1
 obtain⟨u2,_,rfl,h2,h⟩:=h
 obtain⟨A2,c2,l2,rfl,h2⟩:=h2
 obtain⟨v2,rfl⟩:=jl fun t ht=>ab.of_ty (h2 t ht)
 obtain⟨u3,_,rfl,h3,h⟩:=h
 obtain⟨A3,c3,l3,rfl,h3⟩:=h3
 obtain⟨v3,rfl⟩:=jl fun t ht=>h3 t ht
 subst h
 exact⟨⟨v0,v1,v2,v3⟩,_,_,_,_,rfl⟩
theorem ar.sane_of {t:PT} {x:ar} (ha:gx t x) (h:t.sane):x.sane:=by
 obtain⟨A2,c2,A3,c3,rfl⟩:=ha
 simp only[PT.sane,PT.saneL] at h
 exact⟨cC h.1,cC h.2.1,fun y hy=>ab.sane_of (PT.saneL_mem h.2.2.1 (Z2 (f:=ab.pt) hy)),fun n hn=>cC (PT.saneL_mem h.2.2.2.1 (Z2 (f:=PT.int .i64) hn))⟩
structure aQ where
 classes:List aa
 objects:List ar
 output:List ByteArray
 ticks:Int
 budget:Int
 made:Int
def aQ.ty:Ty:=.agg [.sl 3 aa.ty,.sl 4 ar.ty,.sl 1 (.str),.int .i64,.int .i64,.int .i64]
def aQ.sane (x:aQ):Prop:=(∀y∈x.classes,y.sane)/\(∀y∈x.objects,y.sane)/\(∀s∈x.output,s.size<=maxLen)/\i64 x.ticks/\i64 x.budget/\i64 x.made
def gP (t:PT) (x:aQ):Prop:=∃(A0:Option Addr) (c0:Nat) (l0:List PT) (A1:Option Addr) (c1:Nat) (l1:List PT) (A2:Option Addr) (c2:Nat),AtL dD l0 (x.classes)/\AtL gx l1 (x.objects)/\t=.agg [.sl A0 c0 3 l0,.sl A1 c1 4 l1,.sl A2 c2 1 ((x.output).map PT.str),.int .i64 x.ticks,.int .i64 x.budget,.int .i64 x.made]
theorem gP.cells {t:PT} {x:aQ} (h:gP t x):t.cells.length=6:=by
 obtain⟨A0,c0,l0,A1,c1,l1,A2,c2,h0,h1,rfl⟩:=h
 rfl
theorem aQ.of_ty {t:PT} (h:dn aQ.ty t):∃x:aQ,gP t x:=by
 simp only[aQ.ty,dn,ex] at h
 obtain⟨_,rfl,h⟩:=h
 obtain⟨u0,_,rfl,h0,h⟩:=h
 obtain⟨A0,c0,l0,rfl,h0⟩:=h0
 obtain⟨v0,k0⟩:=uO fun t ht=>aa.of_ty (h0 t ht)
 obtain⟨u1,_,rfl,h1,h⟩:=h
 obtain⟨A1,c1,l1,rfl,h1⟩:=h1
 obtain⟨v1,k1⟩:=uO fun t ht=>ar.of_ty (h1 t ht)
 obtain⟨u2,_,rfl,h2,h⟩:=h
 obtain⟨A2,c2,l2,rfl,h2⟩:=h2
 obtain⟨v2,rfl⟩:=jl fun t ht=>h2 t ht
 obtain⟨u3,_,rfl,h3,h⟩:=h
 obtain⟨v3,rfl⟩:=h3
 obtain⟨u4,_,rfl,h4,h⟩:=h
 obtain⟨v4,rfl⟩:=h4
 obtain⟨u5,_,rfl,h5,h⟩:=h
 obtain⟨v5,rfl⟩:=h5
 subst h
 exact⟨⟨v0,v1,v2,v3,v4,v5⟩,_,_,_,_,_,_,_,_,k0,k1,rfl⟩
theorem aQ.sane_of {t:PT} {x:aQ} (ha:gP t x) (h:t.sane):x.sane:=by
 obtain⟨A0,c0,l0,A1,c1,l1,A2,c2,h0,h1,rfl⟩:=ha
 simp only[PT.sane,PT.saneL] at h
 exact⟨jG h0 h.1 fun _ _ a b=>aa.sane_of a b,jG h1 h.2.1 fun _ _ a b=>ar.sane_of a b,fun s hs=>PT.saneL_mem h.2.2.1 (Z2 (f:=PT.str) hs),cC h.2.2.2.1,cC h.2.2.2.2.1,cC h.2.2.2.2.2.1⟩
structure aq where
 code:Int
 outer:Int
 home:Int
 self:ab
def aq.ty:Ty:=.agg [.int .i64,.int .i64,.int .i64,ab.ty]
def aq.sane (x:aq):Prop:=i64 x.code/\i64 x.outer/\i64 x.home/\x.self.sane
def aq.pt (x:aq):PT:=.agg [.int .i64 x.code,.int .i64 x.outer,.int .i64 x.home,x.self.pt]
theorem aq.flat:tC aq.pt 6:=⟨fun _=>rfl,fun _=>rfl,fun _ _=>by simp[aq.pt,Own,j7,ab.pt],fun _ _ _=>by simp[aq.pt,eF,cZ,ab.pt]⟩
theorem aq.of_ty {t:PT} (h:dn aq.ty t):∃x:aq,t=x.pt:=by
 simp only[aq.ty,dn,ex] at h
 obtain⟨_,rfl,h⟩:=h
 obtain⟨u0,_,rfl,h0,h⟩:=h
 obtain⟨v0,rfl⟩:=h0
 obtain⟨u1,_,rfl,h1,h⟩:=h
 obtain⟨v1,rfl⟩:=h1
 obtain⟨u2,_,rfl,h2,h⟩:=h
 obtain⟨v2,rfl⟩:=h2
 obtain⟨u3,_,rfl,h3,h⟩:=h
 obtain⟨v3,rfl⟩:=ab.of_ty h3
 subst h
 exact⟨⟨v0,v1,v2,v3⟩,rfl⟩
theorem aq.sane_of {x:aq} (h:x.pt.sane):x.sane:=by
 simp only[aq.pt,PT.sane,PT.saneL] at h
 exact⟨cC h.1,cC h.2.1,cC h.2.2.1,ab.sane_of h.2.2.2.1⟩
structure ao where
 mark:Int
 code:Int
 pc:Int
 sender:Int
 outer:Int
 home:Int
 self:ab
 slots:List ab
 stack:List ab
 values:List ab
 other:Int
 retry:Bool
def ao.ty:Ty:=.agg [.int .i64,.int .i64,.int .i64,.int .i64,.int .i64,.int .i64,ab.ty,.sl 3 ab.ty,.sl 3 ab.ty,.sl 3 ab.ty,.int .i64,.bool]
def ao.sane (x:ao):Prop:=i64 x.mark/\i64 x.code/\i64 x.pc/\i64 x.sender/\i64 x.outer/\i64 x.home/\x.self.sane/\(∀y∈x.slots,y.sane)/\(∀y∈x.stack,y.sane)/\(∀y∈x.values,y.sane)/\i64 x.other
def fK (t:PT) (x:ao):Prop:=∃(A7:Option Addr) (c7:Nat) (A8:Option Addr) (c8:Nat) (A9:Option Addr) (c9:Nat),t=.agg [.int .i64 x.mark,.int .i64 x.code,.int .i64 x.pc,.int .i64 x.sender,.int .i64 x.outer,.int .i64 x.home,x.self.pt,.sl A7 c7 3 ((x.slots).map ab.pt),.sl A8 c8 3 ((x.stack).map ab.pt),.sl A9 c9 3 ((x.values).map ab.pt),.int .i64 x.other,.bool x.retry]
theorem fK.cells {t:PT} {x:ao} (h:fK t x):t.cells.length=14:=by
 obtain⟨A7,c7,A8,c8,A9,c9,rfl⟩:=h
 rfl
theorem ao.of_ty {t:PT} (h:dn ao.ty t):∃x:ao,fK t x:=by
 simp only[ao.ty,dn,ex] at h
 obtain⟨_,rfl,h⟩:=h
 obtain⟨u0,_,rfl,h0,h⟩:=h
 obtain⟨v0,rfl⟩:=h0
 obtain⟨u1,_,rfl,h1,h⟩:=h
 obtain⟨v1,rfl⟩:=h1
 obtain⟨u2,_,rfl,h2,h⟩:=h
 obtain⟨v2,rfl⟩:=h2
 obtain⟨u3,_,rfl,h3,h⟩:=h
 obtain⟨v3,rfl⟩:=h3
 obtain⟨u4,_,rfl,h4,h⟩:=h
 obtain⟨v4,rfl⟩:=h4
 obtain⟨u5,_,rfl,h5,h⟩:=h
 obtain⟨v5,rfl⟩:=h5
 obtain⟨u6,_,rfl,h6,h⟩:=h
 obtain⟨v6,rfl⟩:=ab.of_ty h6
 obtain⟨u7,_,rfl,h7,h⟩:=h
 obtain⟨A7,c7,l7,rfl,h7⟩:=h7
 obtain⟨v7,rfl⟩:=jl fun t ht=>ab.of_ty (h7 t ht)
 obtain⟨u8,_,rfl,h8,h⟩:=h
 obtain⟨A8,c8,l8,rfl,h8⟩:=h8
 obtain⟨v8,rfl⟩:=jl fun t ht=>ab.of_ty (h8 t ht)
 obtain⟨u9,_,rfl,h9,h⟩:=h
 obtain⟨A9,c9,l9,rfl,h9⟩:=h9
 obtain⟨v9,rfl⟩:=jl fun t ht=>ab.of_ty (h9 t ht)
 obtain⟨u10,_,rfl,h10,h⟩:=h
 obtain⟨v10,rfl⟩:=h10
 obtain⟨u11,_,rfl,h11,h⟩:=h
 obtain⟨v11,rfl⟩:=h11
 subst h
 exact⟨⟨v0,v1,v2,v3,v4,v5,v6,v7,v8,v9,v10,v11⟩,_,_,_,_,_,_,rfl⟩
theorem ao.sane_of {t:PT} {x:ao} (ha:fK t x) (h:t.sane):x.sane:=by
 obtain⟨A7,c7,A8,c8,A9,c9,rfl⟩:=ha
 simp only[PT.sane,PT.saneL] at h
 exact⟨cC h.1,cC h.2.1,cC h.2.2.1,cC h.2.2.2.1,cC h.2.2.2.2.1,cC h.2.2.2.2.2.1,ab.sane_of h.2.2.2.2.2.2.1,fun y hy=>ab.sane_of (PT.saneL_mem h.2.2.2.2.2.2.2.1 (Z2 (f:=ab.pt) hy)),fun y hy=>ab.sane_of (PT.saneL_mem h.2.2.2.2.2.2.2.2.1 (Z2 (f:=ab.pt) hy)),fun y hy=>ab.sane_of (PT.saneL_mem h.2.2.2.2.2.2.2.2.2.1 (Z2 (f:=ab.pt) hy)),cC h.2.2.2.2.2.2.2.2.2.2.1⟩
structure ag where
 at_:Int
 main:Bool
def ag.ty:Ty:=.agg [.int .i64,.bool]
def ag.sane (x:ag):Prop:=i64 x.at_
def ag.pt (x:ag):PT:=.agg [.int .i64 x.at_,.bool x.main]
theorem ag.flat:tC ag.pt 2:=⟨fun _=>rfl,fun _=>rfl,fun _ _=>by simp[ag.pt,Own,j7],fun _ _ _=>by simp[ag.pt,eF,cZ]⟩
theorem ag.of_ty {t:PT} (h:dn ag.ty t):∃x:ag,t=x.pt:=by
 simp only[ag.ty,dn,ex] at h
 obtain⟨_,rfl,h⟩:=h
 obtain⟨u0,_,rfl,h0,h⟩:=h
 obtain⟨v0,rfl⟩:=h0
 obtain⟨u1,_,rfl,h1,h⟩:=h
 obtain⟨v1,rfl⟩:=h1
 subst h
 exact⟨⟨v0,v1⟩,rfl⟩
theorem ag.sane_of {x:ag} (h:x.pt.sane):x.sane:=by
 simp only[ag.pt,PT.sane,PT.saneL] at h
 exact cC h.1
structure ad where
 base:aF
 store:aQ
 blocks:List aq
 contexts:List ao
 processes:List ag
 ready:List Int
 now:Int
 status:Int
 value:ab
 fault:ByteArray
def ad.ty:Ty:=.agg [aF.ty,aQ.ty,.sl 6 aq.ty,.sl 14 ao.ty,.sl 2 ag.ty,.sl 1 (.int .i64),.int .i64,.int .i64,ab.ty,.str]
def ad.sane (x:ad):Prop:=x.base.sane/\x.store.sane/\(∀y∈x.blocks,y.sane)/\(∀y∈x.contexts,y.sane)/\(∀y∈x.processes,y.sane)/\(∀n∈x.ready,i64 n)/\i64 x.now/\i64 x.status/\x.value.sane/\x.fault.size<=maxLen
def ic (t:PT) (x:ad):Prop:=∃(t0:PT) (t1:PT) (A2:Option Addr) (c2:Nat) (A3:Option Addr) (c3:Nat) (l3:List PT) (A4:Option Addr) (c4:Nat) (A5:Option Addr) (c5:Nat),eb t0 x.base/\gP t1 x.store/\AtL fK l3 (x.contexts)/\t=.agg [t0,t1,.sl A2 c2 6 ((x.blocks).map aq.pt),.sl A3 c3 14 l3,.sl A4 c4 2 ((x.processes).map ag.pt),.sl A5 c5 1 ((x.ready).map (PT.int .i64)),.int .i64 x.now,.int .i64 x.status,x.value.pt,.str x.fault]
theorem ic.cells {t:PT} {x:ad} (h:ic t x):t.cells.length=20:=by
 obtain⟨t0,t1,A2,c2,A3,c3,l3,A4,c4,A5,c5,h0,h1,h2,rfl⟩:=h
 have e0:=eb.cells h0
 have e1:=gP.cells h1
 simp[PT.cells,PT.cellsL,Zh,Zy,YE,ab.pt,e0,e1]
theorem ad.of_ty {t:PT} (h:dn ad.ty t):∃x:ad,ic t x:=by
 simp only[ad.ty,dn,ex] at h
 obtain⟨_,rfl,h⟩:=h
 obtain⟨u0,_,rfl,h0,h⟩:=h
 obtain⟨v0,k0⟩:=aF.of_ty h0
 obtain⟨u1,_,rfl,h1,h⟩:=h
 obtain⟨v1,k1⟩:=aQ.of_ty h1
 obtain⟨u2,_,rfl,h2,h⟩:=h
 obtain⟨A2,c2,l2,rfl,h2⟩:=h2
 obtain⟨v2,rfl⟩:=jl fun t ht=>aq.of_ty (h2 t ht)
 obtain⟨u3,_,rfl,h3,h⟩:=h
 obtain⟨A3,c3,l3,rfl,h3⟩:=h3
 obtain⟨v3,k3⟩:=uO fun t ht=>ao.of_ty (h3 t ht)
 obtain⟨u4,_,rfl,h4,h⟩:=h
 obtain⟨A4,c4,l4,rfl,h4⟩:=h4
 obtain⟨v4,rfl⟩:=jl fun t ht=>ag.of_ty (h4 t ht)
 obtain⟨u5,_,rfl,h5,h⟩:=h
 obtain⟨A5,c5,l5,rfl,h5⟩:=h5
 obtain⟨v5,rfl⟩:=jl fun t ht=>h5 t ht
 obtain⟨u6,_,rfl,h6,h⟩:=h
 obtain⟨v6,rfl⟩:=h6
 obtain⟨u7,_,rfl,h7,h⟩:=h
 obtain⟨v7,rfl⟩:=h7
 obtain⟨u8,_,rfl,h8,h⟩:=h
 obtain⟨v8,rfl⟩:=ab.of_ty h8
 obtain⟨u9,_,rfl,h9,h⟩:=h
 obtain⟨v9,rfl⟩:=h9
 subst h
 exact⟨⟨v0,v1,v2,v3,v4,v5,v6,v7,v8,v9⟩,_,_,_,_,_,_,_,_,_,_,_,k0,k1,k3,rfl⟩
theorem ad.sane_of {t:PT} {x:ad} (ha:ic t x) (h:t.sane):x.sane:=by
 obtain⟨t0,t1,A2,c2,A3,c3,l3,A4,c4,A5,c5,h0,h1,h2,rfl⟩:=ha
 simp only[PT.sane,PT.saneL] at h
 exact⟨aF.sane_of h0 h.1,aQ.sane_of h1 h.2.1,fun y hy=>aq.sane_of (PT.saneL_mem h.2.2.1 (Z2 (f:=aq.pt) hy)),jG h2 h.2.2.2.1 fun _ _ a b=>ao.sane_of a b,fun y hy=>ag.sane_of (PT.saneL_mem h.2.2.2.2.1 (Z2 (f:=ag.pt) hy)),fun n hn=>cC (PT.saneL_mem h.2.2.2.2.2.1 (Z2 (f:=PT.int .i64) hn)),cC h.2.2.2.2.2.2.1,cC h.2.2.2.2.2.2.2.1,ab.sane_of h.2.2.2.2.2.2.2.2.1,h.2.2.2.2.2.2.2.2.2.1⟩
structure fV where
 code:Int
 at_:Int
 kind:Int
def fV.ty:Ty:=.agg [.int .i64,.int .i64,.int .i64]
def fV.sane (x:fV):Prop:=i64 x.code/\i64 x.at_/\i64 x.kind
def fV.pt (x:fV):PT:=.agg [.int .i64 x.code,.int .i64 x.at_,.int .i64 x.kind]
theorem fV.flat:tC fV.pt 3:=⟨fun _=>rfl,fun _=>rfl,fun _ _=>by simp[fV.pt,Own,j7],fun _ _ _=>by simp[fV.pt,eF,cZ]⟩
theorem fV.of_ty {t:PT} (h:dn fV.ty t):∃x:fV,t=x.pt:=by
 simp only[fV.ty,dn,ex] at h
 obtain⟨_,rfl,h⟩:=h
 obtain⟨u0,_,rfl,h0,h⟩:=h
 obtain⟨v0,rfl⟩:=h0
 obtain⟨u1,_,rfl,h1,h⟩:=h
 obtain⟨v1,rfl⟩:=h1
 obtain⟨u2,_,rfl,h2,h⟩:=h
 obtain⟨v2,rfl⟩:=h2
 subst h
 exact⟨⟨v0,v1,v2⟩,rfl⟩
theorem fV.sane_of {x:fV} (h:x.pt.sane):x.sane:=by
 simp only[fV.pt,PT.sane,PT.saneL] at h
 exact⟨cC h.1,cC h.2.1,cC h.2.2.1⟩
end Go.Proofs.YtifcomgnmokimaaGreatDoor
