/- Part 24 of the proof: the texts ImB, ImF, ImC, ImG. -/
import Derived.Test.YtifcomgnmokimaaGreatDoorRt20
import Derived.Test.YtifcomgnmokimaaGreatDoorRt22
import Derived.Test.YtifcomgnmokimaaGreatDoorRt3
set_option linter.all false
set_option maxHeartbeats 2000000
set_option maxRecDepth 20000
namespace Go.Proofs.YtifcomgnmokimaaGreatDoor
open Go Go.RowKit
inductive IsB (cl:List aa) (a:Int):Int->Prop
 | here:IsB cl a a
 | up (k:Nat) (h:k<cl.length) (hne:(k:Int)≠a) (hr:IsB cl a cl[k].parent):IsB cl a k
theorem xV {cl:List aa} {a:Int} {k:Nat} (h:k<cl.length) (hne:(k:Int)≠a):IsB cl a k↔IsB cl a cl[k].parent:=by
 constructor
 ·intro hb
  generalize hk:(k:Int)=q at hb
  cases hb with
  | here=>exact absurd hk hne
  | up k' h' hne' hr =>
    obtain rfl:k=k':=by omega
    exact hr
 ·exact .up k h hne
theorem abT {cl:List aa} {a k:Int} (h:k<0):IsB cl a k↔k=a:=by
 constructor
 ·intro hb
  cases hb with
  | here=>rfl
  | up k' h' hne' hr=>omega
 ·rintro rfl;exact .here
theorem afm {cl:List aa} {a:Int} {k:Int} (h:(cl.length:Int)<=k):IsB cl a k↔k=a:=by
 constructor
 ·intro hb
  cases hb with
  | here=>rfl
  | up k' h' hne' hr=>omega
 ·rintro rfl;exact .here
open Classical in
noncomputable def wJ (cl:List aa) (a k:Int):Bool:=decide (IsB cl a k)
def iA (cl:List aa):Prop:=∀(i:Nat) (h:i<cl.length),-1<=cl[i].parent/\cl[i].parent<i
theorem wh:∀(i:Nat) (h:i<16),∀b,bY[i]?=some b->-1<=b.parent/\b.parent<i:=by
 intro i h b hb
 match i,h with
 | 0,_=>cases hb;decide
 | 1,_=>cases hb;decide
 | 2,_=>cases hb;decide
 | 3,_=>cases hb;decide
 | 4,_=>cases hb;decide
 | 5,_=>cases hb;decide
 | 6,_=>cases hb;decide
 | 7,_=>cases hb;decide
 | 8,_=>cases hb;decide
 | 9,_=>cases hb;decide
 | 10,_=>cases hb;decide
 | 11,_=>cases hb;decide
 | 12,_=>cases hb;decide
 | 13,_=>cases hb;decide
 | 14,_=>cases hb;decide
 | 15,_=>cases hb;decide
 | n+16,h=>omega
open Classical in
theorem lU {cl:List aa} (h:cn cl=true):ml cl:=of_decide_eq_true h
theorem sR {cl:List aa} (h:cn cl=true):iA cl:=fun i hi=>by
 have h1:=(lU h).2 i hi
 unfold fk at h1
 split at h1
 ·rename_i h16
  obtain⟨b,hb,_,hp,_⟩:=h1
  rw[hp]
  exact wh i h16 b hb
 ·have:=h1.1.2.1
  omega
section
variable {G:World->Prop}
theorem jy {lo:Nat} {l:List aa} {i:Nat} (h:i<l.length):(l.map (aa.tw lo))[i]?=some [.str l[i].name,.int .i64 l[i].parent,.sl lo 1 (ca l[i].fields)]:=aK h
open Classical in
theorem rq (lo:Nat) (cl:List aa) (hcl:iA cl) (k0 a:Int) (hk0:-1<=k0/\k0<cl.length):Ct Tryz.prog G 249 [.sl lo 3 (cl.map (aa.tw lo)),.int .i64 k0,.int .i64 a] (fun _=>.bool (wJ cl a k0)):=by
 refine av Tryz.func249 rfl Tryz.ntmps249 rfl rfl fun w0 _ hG=>?_
 have hlen:=aa.len lo cl
 repeat' refine W_ ?_
 apply ap (X:=Int) [0,2] (fun k=>[(1,.int .i64 k)]) (fun _=>[]) (fun k=>(-1<=k/\k<cl.length)/\(IsB cl a k0↔IsB cl a k)) (fun k=>(k+1).toNat) k0 ⟨hk0,Iff.rfl⟩
 exact kp_;exact nw_
 ·exact .refl _
 rintro k ⟨hk,hiff⟩
 try dsimp only
 by_cases hneg:k<0
 ·have e:wJ cl a k0=decide (k=a):=decide_eq_decide.2 (hiff.trans (abT hneg))
  rw[e]
  repeat' refine W_ ?_
  refine aN x_ rfl (.tmp _ _ rfl) (fun _=>?_)
  exact aL rfl
 obtain⟨n,rfl⟩:∃n:Nat,k=n:=⟨k.toNat,by omega⟩
 have hn:n<cl.length:=by omega
 by_cases hka:(n:Int)=a
 ·have e:wJ cl a k0=true:=decide_eq_true (hiff.2 (hka ▸ .here))
  have hne:¬ ((n:Int)≠a):=fun h=>h hka
  rw[e]
  repeat' refine W_ ?_
  refine aN x_ rfl (.tmp _ _ rfl) (fun _=>?_)
  exact aL (decide_eq_true hka)
 ·have hrow:=jy (lo:=lo) hn
  have hp:=hcl n hn
  have hst2:=hiff.trans (xV hn hka)
  have hne:(n:Int)≠a:=hka
  generalize cl[n]=c at hrow hp hst2
  repeat' refine W_ ?_
  exact ah c.parent ⟨by omega,hst2⟩ (by omega) (.of _ nw_ od_ pk_)
open Classical in
theorem yW (lo:Nat) (cl:List aa) (hcl:iA cl) (k0 a:Int) (ha:0<=a/\a<cl.length):Ct Tryz.prog G 226 [.sl lo 3 (cl.map (aa.tw lo)),.int .i64 k0,.int .i64 a] (fun _=>.bool (wJ cl a k0)):=by
 refine av Tryz.func226 rfl Tryz.ntmps226 rfl rfl fun w0 _ hG=>?_
 have hlen:=aa.len lo cl
 repeat' refine W_ ?_
 apply ap (X:=Int) [0,2] (fun k=>[(1,.int .i64 k)]) (fun _=>[]) (fun k=>IsB cl a k0↔IsB cl a k) (fun k=>(k+1).toNat) k0 Iff.rfl
 exact kp_;exact nw_
 ·exact .refl _
 rintro k hiff
 try dsimp only
 by_cases hneg:k<0
 ·have e:wJ cl a k0=false:=decide_eq_false fun h=>by have:=(abT hneg).1 (hiff.1 h);omega
  rw[e]
  repeat' refine W_ ?_
  exact r1_
 by_cases hbig:(cl.length:Int)<=k
 ·have e:wJ cl a k0=false:=decide_eq_false fun h=>by have:=(afm hbig).1 (hiff.1 h);omega
  rw[e]
  repeat' refine W_ ?_
  exact r1_
 obtain⟨n,rfl⟩:∃n:Nat,k=n:=⟨k.toNat,by omega⟩
 have hn:n<cl.length:=by omega
 by_cases hka:(n:Int)=a
 ·have e:wJ cl a k0=true:=decide_eq_true (hiff.2 (hka ▸ .here))
  rw[e]
  repeat' refine W_ ?_
  exact r1_
 ·have hrow:=jy (lo:=lo) hn
  have hp:=hcl n hn
  have hst2:=hiff.trans (xV hn hka)
  generalize cl[n]=c at hrow hp hst2
  repeat' refine W_ ?_
  exact ah c.parent hst2 (by omega) (.of _ nw_ od_ pk_)
end
def cD (st:aQ) (nb:Int) (x:ab):Bool:=kf x.kind x.number x.text && (if x.kind=5 then decide (x.number<st.classes.length) else if x.kind=6 then decide (x.number<st.objects.length) else if x.kind=7 then decide (x.number<nb) else true)
theorem lD (lo:Nat) (st:aQ) (nb:Int) (x:ab) (ht:x.text.size<=1048576):Ct Tryz.prog GL 50 [.agg (st.tw lo),.agg [.int .i64 x.kind,.int .i64 x.number,.str x.text],.int .i64 nb] (fun _=>.bool (cD st nb x)):=by
 refine av Tryz.func50 rfl Tryz.ntmps50 rfl rfl fun w0 _ hG=>?_
 have hst:=en
 have hv:=qB x.kind x.number x.text ht
 have h1:=aa.len lo st.classes
 have h2:=ar.len lo st.objects
 unfold cD
 unfold aQ.tw
 generalize kf x.kind x.number x.text=b at hv |-
 cases b with
 | false =>
   rw[Zl]
   repeat' (first|refine W_ ?_|refine aJ ?_|refine ae hG hst (hv) ?_)
   exact r1_
 | true =>
   rw[Zn]
   repeat' (first|refine W_ ?_|refine aJ ?_|refine ae hG hst (hv) ?_|refine c_ (fun hc=>?_) (fun hc=>?_))
   all_goals
     refine aN x_ rfl (.tmp _ _ rfl) (fun _=>?_)
     exact aL (by simp[*])
theorem fh (f lo:Nat) (st:aQ) (nb:Int) (x:ab) (ht:x.text.size<=1048576):Ct Tryz.prog GL 45 [.cp f (st.tw lo),.agg [.int .i64 x.kind,.int .i64 x.number,.str x.text],.int .i64 nb] (fun _=>.bool (cD st nb x)):=by
 refine av Tryz.func45 rfl Tryz.ntmps45 rfl rfl fun w0 _ hG=>?_
 have hst:=en
 have hv:=ik x.kind x.number x.text ht
 have h1:=aa.len lo st.classes
 have h2:=ar.len lo st.objects
 unfold cD
 unfold aQ.tw
 generalize kf x.kind x.number x.text=b at hv |-
 cases b with
 | false =>
   rw[Zl]
   repeat' (first|refine V_ ?_|refine aJ ?_|refine ae hG hst (hv) ?_)
   exact r1_
 | true =>
   rw[Zn]
   repeat' (first|refine V_ ?_|refine aJ ?_|refine ae hG hst (hv) ?_|refine c_ (fun hc=>?_) (fun hc=>?_))
   all_goals
     refine aN x_ rfl (.tmp _ _ rfl) (fun _=>?_)
     exact aL (by simp[*])
def cxA (m:ad) (k:Int):Option ao:=if 0<=k then m.contexts[k.toNat]? else none
theorem rO {m:ad} {k:Int} (h:k<0):cxA m k=none:=by unfold cxA;rw[if_neg (by omega)]
theorem dF {m:ad} {k:Nat} (h:k<m.contexts.length):cxA m (k:Int)=some m.contexts[k]:=by
 unfold cxA
 rw[if_pos (by omega),ZB,Za h]
theorem lW {m:ad} {k:Int} {c:ao} (h:cxA m k=some c):0<=k/\∃hk:k.toNat<m.contexts.length,m.contexts[k.toNat]=c:=by
 unfold cxA at h
 split at h
 ·rename_i h0
  exact⟨h0,List.getElem?_eq_some_iff.1 h⟩
 ·cases h
def cdA (m:ad) (k:Int):Option aB:=if 0<=k then m.base.codes[k.toNat]? else none
theorem afQ {m:ad} {k:Nat} (h:k<m.base.codes.length):cdA m (k:Int)=some m.base.codes[k]:=by
 unfold cdA
 rw[if_pos (by omega),ZB,Za h]
theorem nZ {m:ad} {k:Int} {c:aB} (h:cdA m k=some c):0<=k/\∃hk:k.toNat<m.base.codes.length,m.base.codes[k.toNat]=c:=by
 unfold cdA at h
 split at h
 ·rename_i h0
  exact⟨h0,List.getElem?_eq_some_iff.1 h⟩
 ·cases h
def eY (m:ad):Prop:=∀(i:Nat) (h:i<m.contexts.length),-1<=m.contexts[i].sender/\m.contexts[i].sender<i
inductive OnW (m:ad) (a:Int):Int->Prop
 | here:OnW m a a
 | up (k:Nat) (h:k<m.contexts.length) (hne:(k:Int)≠a) (hr:OnW m a m.contexts[k].sender):OnW m a k
theorem xY {m:ad} {a:Int} {k:Nat} (h:k<m.contexts.length) (hne:(k:Int)≠a):OnW m a k↔OnW m a m.contexts[k].sender:=by
 constructor
 ·intro hb
  generalize hk:(k:Int)=q at hb
  cases hb with
  | here=>exact absurd hk hne
  | up k' h' hne' hr =>
    obtain rfl:k=k':=by omega
    exact hr
 ·exact .up k h hne
theorem abc {m:ad} {a k:Int} (h:k<0):OnW m a k↔k=a:=by
 constructor
 ·intro hb
  cases hb with
  | here=>rfl
  | up k' h' hne' hr=>omega
 ·rintro rfl;exact .here
theorem agz {m:ad} (hs:eY m) {a k:Int} (h:OnW m a k) (hk:k<m.contexts.length):a<m.contexts.length:=by
 induction h with
 | here=>exact hk
 | up k h hne hr ih=>exact ih (by have:=hs k h;omega)
open Classical in
noncomputable def onB (m:ad) (a k:Int):Bool:=decide (OnW m a k)
def dps (x:aB):List Int:=(cx x.instrs).getD []
def aeJ (m:ad) (c:ao) (less:Int):Bool:=match cdA m c.code with
 | some x=>decide (c.pc<x.instrs.length) && (decide (0<=gd (dps x) c.pc) && decide ((c.stack.length:Int)=IntKind.i64.wrap (gd (dps x) c.pc - less)))
 | none=>false
noncomputable def oA (m:ad) (c:ao) (less:Int):Bool:=if c.mark=0 then aeJ m c less else if c.mark=3\/c.mark=5 then onB m c.other c.sender else true
inductive zG (m:ad):Int->Int->Prop
 | out (less k:Int) (h:k<0):zG m less k
 | up (less:Int) (k:Nat) (h:k<m.contexts.length) (hs:oA m m.contexts[k] less=true) (hr:zG m 1 m.contexts[k].sender):zG m less k
theorem n8 {m:ad} {less:Int} {k:Nat} (h:k<m.contexts.length):zG m less k↔oA m m.contexts[k] less=true/\zG m 1 m.contexts[k].sender:=by
 constructor
 ·intro hb
  generalize hk:(k:Int)=q at hb
  cases hb with
  | out l k' h'=>omega
  | up l k' h' hs hr =>
    obtain rfl:k=k':=by omega
    exact⟨hs,hr⟩
 ·rintro ⟨h1,h2⟩;exact .up less k h h1 h2
def d7 (m:ad) (a:Int):Prop:=∃c,cxA m a=some c/\c.mark=0/\zG m 0 a
open Classical in
noncomputable def kg (m:ad) (a:Int):Bool:=decide (d7 m a)
def xa (o:ar):List Int:=if o.kind=3 then o.numbers.drop 1 else []
def wB (m:ad):List Int:=m.store.objects.flatMap xa
def pb (m:ad):List Int:=if m.status=0 then [m.now] else []
def vc (m:ad) (L:List Int):Prop:=(∀p∈L,0<=p/\p<m.processes.length)/\L.Nodup/\∀p∈L,∀q,m.processes[p.toNat]?=some q->d7 m q.at_
theorem rb {m:ad} {L L':List Int} (h:L.Perm L') (k:vc m L):vc m L':=⟨fun p hp=>k.1 p (h.mem_iff.2 hp),h.nodup_iff.1 k.2.1,fun p hp=>k.2.2 p (h.mem_iff.2 hp)⟩
theorem rl {m:ad}:vc m (m.ready++pb m++wB m)↔vc m (pb m++m.ready++wB m) :=
 ⟨rb (List.perm_append_comm.append_right _),rb (List.perm_append_comm.append_right _)⟩
def aaE (m:ad) (n0 n1 n2:Int):Prop:=(n0=-1/\n1=-1/\n2=0)\/(n2=1/\∃c,cxA m n1=some c/\c.mark=3/\0<=n0/\OnW m n0 c.sender)
def xL (m:ad) (o:ar):Prop:=o.kind=1->∀n0 n1 n2,o.numbers=[n0,n1,n2]->aaE m n0 n1 n2
def aha (m:ad) (v:ab) (most:Int):Prop:=v.kind=7/\∃b x,m.blocks[v.number.toNat]?=some b/\cdA m b.code=some x/\x.params<=most
open Classical in
noncomputable def tN (m:ad) (v:ab) (most:Int):Bool:=decide (aha m v most)
def mkA (m:ad) (k:Int):Int:=match cxA m k with|some d=>d.mark|none=>0
def doB (m:ad) (k i:Int):Bool:=inR i 0 (k - 1) && decide (mkA m i=1)
def v1 (l:List ab) (g:ab->Bool):Bool:=match l with
 | [a]=>g a
 | _=>false
def v3 (l:List ab) (g:ab->ab->ab->Bool):Bool:=match l with
 | [a,b,c]=>g a b c
 | _=>false
theorem adj {l:List ab} {g:ab->Bool} (h:¬ l.length=1):v1 l g=false:=by
 match l,h with
 | [],_=>rfl
 | [a],h=>exact absurd rfl h
 | _::_::_,_=>rfl
theorem agF {l:List ab} {g:ab->ab->ab->Bool} (h:¬ l.length=3):v3 l g=false:=by
 match l,h with
 | [],_=>rfl
 | [_],_=>rfl
 | [_,_],_=>rfl
 | [a,b,c],h=>exact absurd rfl h
 | _::_::_::_::_,_=>rfl
theorem wc (a:ab) (g:ab->Bool):v1 [a] g=g a:=rfl
theorem afb (a b c:ab) (g:ab->ab->ab->Bool):v3 [a,b,c] g=g a b c:=rfl
noncomputable def tK (m:ad) (k:Int) (c:ao):Bool :=
 if c.mark=1 then v3 c.values fun a b d=>decide (a.kind=5) && (wJ m.store.classes 1 a.number && (tN m b 1 && tN m d 0))
 else if c.mark=2 then v1 c.values fun a=>tN m a 0
 else if c.mark=3 then v1 c.values fun a=>decide (a.kind=6) && doB m k c.other
 else if c.mark=4 then decide (c.values.length=1)
 else if c.mark=5 then inR c.other (-1) (k - 1) && (decide (c.values.length=1) && (!c.retry || doB m k c.other))
 else false
def eqV (x y:ab):Bool:=decide (x.kind=y.kind) && (decide (x.number=y.number) && (decide (x.text=y.text) && true))
def shB (c:ao):Bool:=decide (c.code=0) && (decide (c.pc=0) && (decide (c.outer=-1) && (decide (c.home=-1) && (eqV c.self ⟨0,0,⟨#[]⟩⟩ && (decide (c.slots.length=0) && (decide (c.stack.length=0) && (!c.retry || decide (c.mark=5))))))))
def afa (c:ao):Bool:=decide (c.mark=3) || (decide (c.mark=5) || decide (c.other=0))
def ahZ (m:ad) (o:List Int) (k:Int) (c:ao) (x:aB):Bool :=
 if x.block=true then inR c.outer 0 (k - 1) && (match cxA m c.outer with|some p=>decide (p.mark=0) && (decide (p.code=gd o c.code) && (decide (c.home=p.home) && eqV c.self p.self))|none=>false)
 else decide (c.outer=-1) && decide (c.home=k)
def plB (m:ad) (o:List Int) (k:Int) (c:ao):Bool :=
 decide (c.values.length=0) && (decide (c.other=0) && (!c.retry && (inR c.code 0 ((m.base.codes.length:Int) - 1) && (match cdA m c.code with|some x=>decide ((c.slots.length:Int)=x.slots) && (inR c.pc 0 x.instrs.length && (decide (c.stack.length<=250) && ahZ m o k c x))|none=>false))))
def mL (m:ad) (v:ab):Prop:=cD m.store m.blocks.length v=true
def pS (m:ad) (l:List ab):Bool:=l.all (cD m.store m.blocks.length)
theorem kR {m:ad} {l:List ab} (h:pS m l=true):∀v∈l,mL m v:=fun v hv=>List.all_eq_true.1 h v hv
noncomputable def qI (m:ad) (o:List Int) (k:Int) (c:ao):Bool :=
 inR c.sender (-1) (k - 1) && (cD m.store m.blocks.length c.self && (pS m c.slots && (pS m c.stack && (pS m c.values && (if c.mark=0 then plB m o k c else shB c && (tK m k c && afa c))))))
def ks (m:ad) (o:List Int) (b:aq):Bool :=
 inR b.code 0 ((m.base.codes.length:Int) - 1) && ((match cdA m b.code with|some x=>x.block|none=>false) && (inR b.outer 0 ((m.contexts.length:Int) - 1) && (match cxA m b.outer with|some c=>decide (c.mark=0) && (decide (c.code=gd o b.code) && (decide (b.home=c.home) && eqV b.self c.self))|none=>false)))
def aeH (m:ad) (o:List Int):Prop:=(∀(i:Nat) (h:i<m.contexts.length),qI m o i m.contexts[i]=true)/\∀b∈m.blocks,ks m o b=true
theorem iq {m:ad} {o:List Int} {k:Int} {c:ao} (h:qI m o k c=true):(-1<=c.sender/\c.sender<=k - 1)/\mL m c.self/\pS m c.slots=true/\pS m c.stack=true/\pS m c.values=true/\(if c.mark=0 then plB m o k c else shB c && (tK m k c && afa c))=true:=by
 unfold qI at h
 simp only[Zq] at h
 obtain⟨h1,h2,h3,h4,h5,h6⟩:=h
 exact⟨of_decide_eq_true h1,h2,h3,h4,h5,h6⟩
theorem pH {m:ad} {o:List Int} (h:∀(i:Nat) (h:i<m.contexts.length),qI m o i m.contexts[i]=true):eY m:=fun i hi=>by
 have:=(iq (h i hi)).1
 omega
theorem vJ {m:ad} {o:List Int} {k:Int} {c:ao} (h:qI m o k c=true) (h0:c.mark=0):∃x,cdA m c.code=some x/\(0<=c.code/\c.code<m.base.codes.length)/\(0<=c.pc/\c.pc<=x.instrs.length)/\c.stack.length<=250:=by
 have h1:=(iq h).2.2.2.2.2
 rw[if_pos h0] at h1
 unfold plB at h1
 simp only[Zq] at h1
 obtain⟨_,_,_,h4,h5⟩:=h1
 have h4:=of_decide_eq_true h4
 cases hx:cdA m c.code with
 | none=>rw[hx] at h5;cases h5
 | some x =>
   rw[hx] at h5
   simp only[Zq] at h5
   obtain⟨_,h6,h7,_⟩:=h5
   exact⟨x,rfl,by omega,of_decide_eq_true h6,of_decide_eq_true h7⟩
def yq (l:List Int):Nat->Int
 | 0=>l.getD 0 0
 | i+1=>if l.getD (i+1) 0<yq l i then l.getD (i+1) 0 else yq l i
theorem abx (l:List Int):∀i,0<=yq l i↔∀j,j<=i->0<=l.getD j 0
 | 0=>by
   unfold yq
   exact⟨fun h j hj=>by rw[Nat.le_zero.1 hj];exact h,fun h=>h 0 (Zg _)⟩
 | i+1=>by
   have ih:=abx l i
   unfold yq
   constructor
   ·intro h j hj
    rcases YB j (i+1) with h1|h1
    ·refine ih.1 ?_ j (by omega)
     split at h <;> omega
    ·obtain rfl:j=i+1:=by omega
     split at h <;> omega
   ·intro h
    have h1:=ih.2 fun j hj=>h j (by omega)
    have h2:=h (i+1) (Zg _)
    split <;> assumption
def nnL (l:List Int):Prop:=∀n∈l,0<=n
instance (l:List Int):Decidable (nnL l):=by unfold nnL;infer_instance
theorem acR {l:List Int} (h:0<l.length):0<=yq l (l.length - 1)↔nnL l:=by
 rw[abx]
 constructor
 ·intro h1 n hn
  obtain⟨j,hj,rfl⟩:=ZD hn
  have:=h1 j (by omega)
  rwa [ZT,Za hj] at this
 ·intro h1 j hj
  rw[ZT,Za (by omega)]
  exact h1 _ (Zb _)
theorem uh {G:World->Prop} (lo:Nat) (l:List Int) (hl:0<l.length) (hn:l.length<=1048576):Ct Tryz.prog G 250 [.sl lo 1 (aS l)] (fun _=>.int .i64 (yq l (l.length - 1))):=by
 refine av Tryz.func250 rfl Tryz.ntmps250 rfl rfl fun w0 _ hG=>?_
 have hlen:=aj l
 have h0:(aS l)[0]?=some [.int .i64 (yq l 0)]:=by
   rw[lE hl]
   unfold yq
   rw[ZT,Za hl];rfl
 repeat' refine W_ ?_
 apply ap (X:=Nat) [0] (fun i=>[(4,.int .i64 ((i:Int)+1)),(3,.int .i64 (yq l i))]) (fun _=>[]) (fun i=>i<l.length) (fun i=>l.length - i) 0 hl
 exact kp_;exact nw_
 ·exact .refl _
 intro i hi
 try dsimp only
 by_cases hlt:i+1<l.length
 ·have hrow:(aS l)[i+1]?=some [.int .i64 (l.getD (i+1) 0)]:=by
    rw[lE hlt,ZT,Za hlt];rfl
  have hs:yq l (i+1)=if l.getD (i+1) 0<yq l i then l.getD (i+1) 0 else yq l i:=rfl
  have hi1:(i:Int)+1=((i+1:Nat):Int):=by omega
  rw[hi1]
  generalize l.getD (i+1) 0=v at hrow hs
  repeat' (first|refine W_ ?_|((with_reducible apply ahp);rfl;rfl;rfl))
  exact ah (i+1) hlt (by omega) (.of _ (by rw[hs];exact nw_) od_ pk_)
 ·obtain rfl:i=l.length - 1:=by omega
  rw[show ((l.length - 1:Nat):Int)+1=(l.length:Int) by omega]
  repeat' refine W_ ?_
  exact r1_
def afA (cl:List aa) (k:Int):Nat:=match cl[k.toNat]? with
 | some c=>c.fields.length
 | none=>0
open Classical in
noncomputable def hY (st:aQ) (nb:Int) (o:ar):Bool :=
 o.fields.all (cD st nb) &&
 (if o.kind=1 then decide ((0<=o.class_/\o.class_<st.classes.length)/\¬ (5<=o.class_/\o.class_<=15)/\o.fields.length=afA st.classes o.class_) && decide (o.numbers.length=if wJ st.classes 1 o.class_ then 3 else 0)
  else if o.kind=2 then decide (o.class_=10/\o.fields.length<=50/\o.numbers.length=0)
  else if o.kind=3 then decide (o.class_=12/\o.fields.length=0/\1<=o.numbers.length/\nnL o.numbers)
  else false)
theorem fB {st:aQ} {nb:Int} {l:List ab} {i:Nat} (h:i<l.length) (hf:cD st nb l[i]=false):l.all (cD st nb)=false:=by
 rw[Bool.eq_false_iff]
 intro h2
 have:=List.all_eq_true.1 h2 _ (Zb h)
 rw[hf] at this;cases this
theorem kO {lo:Nat} {l:List ab} {i:Nat} (h:i<l.length):(l.map (ab.tw lo))[i]?=some [.int .i64 l[i].kind,.int .i64 l[i].number,.str l[i].text]:=aK h
theorem uB (k:Int):k=1\/k=2\/k=3\/(¬ k=1/\¬ k=2/\¬ k=3):=by omega
theorem w9 (lo:Nat) (st:aQ) (hcl:iA st.classes) (h16:16<=st.classes.length/\st.classes.length<=24) (nb:Int) (o:ar) (ho:o.small 1048576):Ct Tryz.prog GL 183 [.agg (st.tw lo),.agg [.int .i64 o.kind,.int .i64 o.class_,.sl lo 3 (o.fields.map (ab.tw lo)),.sl lo 1 (aS o.numbers)],.int .i64 nb] (fun _=>.bool (hY st nb o)):=by
 refine av Tryz.func183 rfl Tryz.ntmps183 rfl rfl fun w0 _ hG=>?_
 have hst:=en
 obtain⟨ok,oc,fs,ns⟩:=o
 have hf1:=ho.1.1
 have hf2:=ho.1.2
 have hn1:=ho.2
 dsimp only at hf1 hf2 hn1 |-
 have hfl:=ab.len lo fs
 have hnl:=aj ns
 have hcn:=aa.len lo st.classes
 have hex:=fun(x:ab) (h:x.text.size<=1048576)=>lD lo st nb x h
 unfold aQ.tw at hex |-
 repeat' (first|refine W_ ?_|refine aJ ?_)
 apply ap (X:=Nat) [2,3,4,10,11] (fun i=>[(12,.int .i64 (i:Int))]) (fun _=>[]) (fun i=>i<=fs.length/\∀y∈fs.take i,cD st nb y=true) (fun i=>fs.length - i) 0 ⟨Ze _,by simp⟩
 exact kp_;exact nw_
 ·exact .refl _
 rintro i ⟨hi,hall⟩
 try dsimp only
 by_cases hlt:i<fs.length
 ·have hrow:=kO (lo:=lo) hlt
  have hxi:=hex _ (hf2 _ (Zb hlt))
  have hta:=aY (p:=fun y=>cD st nb y=true) hlt hall
  cases hfi:cD st nb fs[i] with
  | false =>
    have e:hY st nb ⟨ok,oc,fs,ns⟩=false:=by
      unfold hY
      rw[fB hlt hfi,Zl]
    rw[e]
    rw[hfi] at hxi
    generalize fs[i]=x at hrow hxi
    repeat' (first|refine W_ ?_|(refine ak ?_;intro ss bb)|refine ac ?_|refine ae hG hst (hxi) ?_)
    exact r1_
  | true =>
    rw[hfi] at hxi hta
    generalize fs[i]=x at hrow hxi
    repeat' (first|refine W_ ?_|(refine ak ?_;intro ss bb)|refine ac ?_|refine ae hG hst (hxi) ?_)
    exact ah (i+1) ⟨by omega,hta rfl⟩ (by omega) (.of _ nw_ od_ pk_)
 obtain rfl:i=fs.length:=by omega
 rw[Zc (Zg _)] at hall
 have hA:fs.all (cD st nb)=true:=List.all_eq_true.2 hall
 clear hex hall
 rcases uB ok with rfl|rfl|rfl|⟨g1,g2,g3⟩
 ·have e:hY st nb ⟨1,oc,fs,ns⟩=(decide ((0<=oc/\oc<st.classes.length)/\¬ (5<=oc/\oc<=15)/\fs.length=afA st.classes oc) && decide (ns.length=if wJ st.classes 1 oc then 3 else 0)):=by
    unfold hY
    rw[hA,Zn,if_pos rfl]
  rw[e]
  clear e hA
  have w1:=aP (G:=GL) oc 0 ((st.classes.length:Int) - 1)
  have w2:=aP (G:=GL) oc 5 15
  rw[show (st.classes.length:Int) - 1=((st.classes.length - 1:Nat):Int) by omega] at w1
  by_cases hr:0<=oc/\oc<st.classes.length
  case neg =>
    rw[show inR oc 0 ((st.classes.length - 1:Nat):Int)=false from by simp only[inR,decide_eq_false_iff_not];omega] at w1
    rw[decide_eq_false fun h=>hr h.1,Zl]
    repeat' (first|refine V_ ?_|refine ai hG hst (w1) ?_)
    exact r1_
  rw[show inR oc 0 ((st.classes.length - 1:Nat):Int)=true from by simp only[inR,decide_eq_true_eq];omega] at w1
  by_cases h5:5<=oc/\oc<=15
  ·rw[show inR oc 5 15=true from by simp only[inR,decide_eq_true_eq];omega] at w2
   rw[decide_eq_false fun h=>h.2.1 h5,Zl]
   repeat' (first|refine V_ ?_|refine ai hG hst (w1) ?_|refine ai hG hst (w2) ?_)
   exact r1_
  rw[show inR oc 5 15=false from by simp only[inR,decide_eq_false_iff_not];exact h5] at w2
  obtain⟨c,rfl⟩:∃c:Nat,oc=c:=⟨oc.toNat,by omega⟩
  have hc:c<st.classes.length:=by omega
  have hrow:=jy (lo:=lo) hc
  have hfn:afA st.classes (c:Int)=st.classes[c].fields.length:=by
    unfold afA
    rw[ZB,Za hc]
  have hib:=rq (G:=GL) lo st.classes hcl (c:Int) 1 (by omega)
  rw[hfn]
  generalize st.classes[c]=x at hrow hfn |-
  have hxl:=cg x.fields
  by_cases hlen:fs.length=x.fields.length
  case neg =>
    have hne:(fs.length:Int)≠x.fields.length:=by omega
    rw[decide_eq_false fun h=>hlen h.2.2,Zl]
    repeat' (first|refine V_ ?_|refine ai hG hst (w1) ?_|refine ai hG hst (w2) ?_)
    exact r1_
  have hne:¬ ((fs.length:Int)≠x.fields.length):=by omega
  rw[decide_eq_true ⟨hr,h5,hlen⟩,Zn]
  generalize wJ st.classes 1 (c:Int)=b at hib |-
  cases b
  all_goals
    repeat' (first|refine V_ ?_|refine ai hG hst (w1) ?_|refine ai hG hst (w2) ?_|refine ae hG hst (hib) ?_)
    refine aN x_ rfl (.tmp _ _ rfl) (fun _=>?_)
    exact aL (by first|(simp;done)|(simp;omega))
 ·have e:hY st nb ⟨2,oc,fs,ns⟩=decide (oc=10/\fs.length<=50/\ns.length=0):=by
    unfold hY
    rw[hA,Zn,if_neg (by dsimp only;decide),if_pos rfl]
  rw[e]
  clear e hA
  repeat' (first|refine W_ ?_|refine g_ (fun hg=>?_) (fun hg=>?_))
  all_goals
    refine aN x_ rfl (.tmp _ _ rfl) (fun _=>?_)
    refine aL ?_
    first
      | (rw[decide_eq_decide];omega)
      | (symm;rw[decide_eq_false_iff_not];omega)
 ·have e:hY st nb ⟨3,oc,fs,ns⟩=decide (oc=12/\fs.length=0/\1<=ns.length/\nnL ns):=by
    unfold hY
    rw[hA,Zn,if_neg (by dsimp only;decide),if_neg (by dsimp only;decide),if_pos rfl]
  rw[e]
  clear e hA
  by_cases hns:0<ns.length
  ·have hmi:=uh (G:=GL) lo ns hns hn1
   have hma:=acR hns
   generalize yq ns (ns.length - 1)=mv at hmi hma
   repeat' (first|refine W_ ?_|refine ae hG hst (hmi) ?_|refine g_ (fun hg=>?_) (fun hg=>?_))
   all_goals
     refine aN x_ rfl (.tmp _ _ rfl) (fun _=>?_)
     refine aL ?_
     first
       | (rw[decide_eq_decide,<- hma];omega)
       | (symm;rw[decide_eq_false_iff_not,<- hma];omega)
  ·repeat' (first|refine W_ ?_|refine g_ (fun hg=>?_) (fun hg=>?_))
   all_goals
     refine aN x_ rfl (.tmp _ _ rfl) (fun _=>?_)
     refine aL ?_
     first
       | (symm;rw[decide_eq_false_iff_not];omega)
       | (symm;rw[decide_eq_false_iff_not];rintro ⟨_,_,h,_⟩;omega)
 ·have e:hY st nb ⟨ok,oc,fs,ns⟩=false:=by
    unfold hY
    rw[if_neg g1,if_neg g2,if_neg g3,YD]
  rw[e]
  repeat' refine W_ ?_
  exact r1_
section
variable {G:World->Prop}
theorem dI {lo:Nat} {l:List ao} {i:Nat} (h:i<l.length):(l.map (ao.tw lo))[i]?=some [.int .i64 l[i].mark,.int .i64 l[i].code,.int .i64 l[i].pc,.int .i64 l[i].sender,.int .i64 l[i].outer,.int .i64 l[i].home,.int .i64 l[i].self.kind,.int .i64 l[i].self.number,.str l[i].self.text,.sl lo 3 (l[i].slots.map (ab.tw lo)),.sl lo 3 (l[i].stack.map (ab.tw lo)),.sl lo 3 (l[i].values.map (ab.tw lo)),.int .i64 l[i].other,.bool l[i].retry]:=aK h
open Classical in
theorem yw (f lo:Nat) (m:ad) (hcl:m.contexts.length<=1048576) (hs:eY m) (k0 a:Int) (hk0:-1<=k0/\k0<m.contexts.length):Ct Tryz.prog G 168 [.cp f (m.tw lo),.int .i64 k0,.int .i64 a] (fun _=>.bool (onB m a k0)):=by
 refine av Tryz.func168 rfl Tryz.ntmps168 rfl rfl fun w0 _ hG=>?_
 have hlen:=ao.len lo m.contexts
 unfold ad.tw
 repeat' refine W_ ?_
 apply ap (X:=Int) [0,2] (fun k=>[(1,.int .i64 k)]) (fun _=>[]) (fun k=>(-1<=k/\k<m.contexts.length)/\(OnW m a k0↔OnW m a k)) (fun k=>(k+1).toNat) k0 ⟨hk0,Iff.rfl⟩
 exact kp_;exact nw_
 ·exact .refl _
 rintro k ⟨hk,hiff⟩
 try dsimp only
 by_cases hneg:k<0
 ·have e:onB m a k0=decide (a=-1):=decide_eq_decide.2 (hiff.trans ((abc hneg).trans (by omega)))
  rw[e]
  repeat' refine W_ ?_
  refine aN x_ rfl (.tmp _ _ rfl) (fun _=>?_)
  exact aL rfl
 obtain⟨n,rfl⟩:∃n:Nat,k=n:=⟨k.toNat,by omega⟩
 have hn:n<m.contexts.length:=by omega
 by_cases hka:(n:Int)=a
 ·have e:onB m a k0=true:=decide_eq_true (hiff.2 (hka ▸ .here))
  rw[e]
  repeat' refine W_ ?_
  exact r1_
 ·have hrow:=dI (lo:=lo) hn
  have hp:=hs n hn
  have hst2:=hiff.trans (xY hn hka)
  generalize m.contexts[n]=c at hrow hp hst2
  repeat' refine W_ ?_
  exact ah c.sender ⟨by omega,hst2⟩ (by omega) (.of _ nw_ od_ pk_)
open Classical in
theorem yU (f lo:Nat) (m:ad) (hcl:m.contexts.length<=1048576) (hs:eY m) (k0 a:Int) (hk0:-1<=k0/\k0<m.contexts.length):Ct Tryz.prog G 190 [.cp f (m.tw lo),.int .i64 k0,.int .i64 a] (fun _=>.bool (onB m a k0)):=by
 refine av Tryz.func190 rfl Tryz.ntmps190 rfl rfl fun w0 _ hG=>?_
 have hlen:=ao.len lo m.contexts
 unfold ad.tw
 repeat' refine W_ ?_
 apply ap (X:=Int) [0,2] (fun k=>[(1,.int .i64 k)]) (fun _=>[]) (fun k=>(-1<=k/\k<m.contexts.length)/\(OnW m a k0↔OnW m a k)) (fun k=>(k+1).toNat) k0 ⟨hk0,Iff.rfl⟩
 exact kp_;exact nw_
 ·exact .refl _
 rintro k ⟨hk,hiff⟩
 try dsimp only
 by_cases hneg:k<0
 ·have e:onB m a k0=decide (k=a):=decide_eq_decide.2 (hiff.trans (abc hneg))
  rw[e]
  repeat' refine W_ ?_
  refine aN x_ rfl (.tmp _ _ rfl) (fun _=>?_)
  exact aL rfl
 obtain⟨n,rfl⟩:∃n:Nat,k=n:=⟨k.toNat,by omega⟩
 have hn:n<m.contexts.length:=by omega
 by_cases hka:(n:Int)=a
 ·have e:onB m a k0=true:=decide_eq_true (hiff.2 (hka ▸ .here))
  have hne:¬ ((n:Int)≠a):=fun h=>h hka
  rw[e]
  repeat' refine W_ ?_
  refine aN x_ rfl (.tmp _ _ rfl) (fun _=>?_)
  exact aL (decide_eq_true hka)
 ·have hrow:=dI (lo:=lo) hn
  have hp:=hs n hn
  have hst2:=hiff.trans (xY hn hka)
  have hne:(n:Int)≠a:=hka
  generalize m.contexts[n]=c at hrow hp hst2
  repeat' refine W_ ?_
  exact ah c.sender ⟨by omega,hst2⟩ (by omega) (.of _ nw_ od_ pk_)
end
theorem yz {m:ad} {v:ab} (h:mL m v) (h7:v.kind=7):0<=v.number/\v.number<m.blocks.length:=by
 unfold mL cD kf at h
 rw[h7] at h
 simp at h
 omega
theorem adO {m:ad} {v:ab} (h:mL m v) (h5:v.kind=5):0<=v.number/\v.number<m.store.classes.length:=by
 unfold mL cD kf at h
 rw[h5] at h
 simp at h
 omega
theorem adf {m:ad} {v:ab} (h:mL m v) (h0:v.kind=0):v=⟨0,0,⟨#[]⟩⟩:=by
 obtain⟨k,n,t⟩:=v
 dsimp only at h0
 subst h0
 unfold mL cD kf at h
 simp at h
 rw[h.1,h.2]
theorem abM {m:ad} {v:ab} {most:Int} {n q:Nat} {b:aq} {x:aB} (h7:v.kind=7) (hn:v.number=n) (hb:m.blocks[n]?=some b) (hq:b.code=q) (hx:m.base.codes[q]?=some x):aha m v most↔x.params<=most:=by
 unfold aha cdA
 rw[hn,ZB,hb]
 constructor
 ·rintro ⟨_,b',x',hb',hx',h⟩
  cases hb'
  rw[hq,if_pos (by omega),ZB,hx] at hx'
  cases hx'
  exact h
 ·intro h
  exact⟨h7,b,x,rfl,by rw[hq,if_pos (by omega),ZB,hx],h⟩
theorem rZ {lo:Nat} {l:List aq} {i:Nat} (h:i<l.length):(l.map (aq.tw lo))[i]?=some [.int .i64 l[i].code,.int .i64 l[i].outer,.int .i64 l[i].home,.int .i64 l[i].self.kind,.int .i64 l[i].self.number,.str l[i].self.text]:=aK h
section
variable {G:World->Prop}
open Classical in
theorem wl (lo:Nat) (m:ad) (hbl:m.blocks.length<=1048576) (hcl:m.base.codes.length<=1048576) (n q:Nat) (b:aq) (x:aB) (hb:m.blocks[n]?=some b) (hq:b.code=q) (hx:m.base.codes[q]?=some x):Ct Tryz.prog G 286 [.agg (m.tw lo),.int .i64 (n:Int)] (fun _=>.int .i64 x.params):=by
 refine av Tryz.func286 rfl Tryz.ntmps286 rfl rfl fun w0 _ hG=>?_
 have hlen:=aq.len lo m.blocks
 have hlc:=aB.len lo m.base.codes
 obtain⟨h1,e1⟩:=List.getElem?_eq_some_iff.1 hb
 obtain⟨h2,e2⟩:=List.getElem?_eq_some_iff.1 hx
 have hr1:=rZ (lo:=lo) h1
 have hr2:=cj (lo:=lo) h2
 rw[e1] at hr1
 rw[e2] at hr2
 rw[hq] at hr1
 unfold ad.tw
 repeat' (first|refine V_ ?_|refine aJ ?_)
 exact r1_
open Classical in
theorem aab (hst:ay G) (lo:Nat) (m:ad) (hbl:m.blocks.length<=1048576) (hcl:m.base.codes.length<=1048576) (hbc:∀b∈m.blocks,0<=b.code/\b.code<m.base.codes.length) (v:ab) (hv:mL m v) (most:Int):Ct Tryz.prog G 253 [.agg (m.tw lo),.agg [.int .i64 v.kind,.int .i64 v.number,.str v.text],.int .i64 most] (fun _=>.bool (tN m v most)):=by
 refine av Tryz.func253 rfl Tryz.ntmps253 rfl rfl fun w0 _ hG=>?_
 by_cases h7:v.kind=7
 case neg =>
   rw[show tN m v most=false from decide_eq_false fun h=>h7 h.1]
   unfold ad.tw
   repeat' (first|refine W_ ?_|refine aJ ?_)
   exact r1_
 have hr:=yz hv h7
 obtain⟨n,hn⟩:∃n:Nat,v.number=n:=⟨v.number.toNat,by omega⟩
 have h1:n<m.blocks.length:=by omega
 have h2:=hbc _ (Zb h1)
 obtain⟨q,hq⟩:∃q:Nat,m.blocks[n].code=q:=⟨m.blocks[n].code.toNat,by omega⟩
 have h3:q<m.base.codes.length:=by omega
 have hiff:=abM (most:=most) h7 hn (Za h1) hq (Za h3)
 have hct:=wl (G:=G) lo m hbl hcl n q _ _ (Za h1) hq (Za h3)
 rw[show tN m v most=decide (m.base.codes[q].params<=most) from decide_eq_decide.2 hiff,h7,hn]
 generalize m.base.codes[q].params=pr at hct
 unfold ad.tw at hct |-
 repeat' (first|refine W_ ?_|refine aJ ?_|refine ae hG hst (hct) ?_)
 refine aN x_ rfl (.tmp _ _ rfl) (fun _=>?_)
 exact aL rfl
open Classical in
theorem xt (hst:ay G) (f lo:Nat) (m:ad) (hbl:m.blocks.length<=1048576) (hcl:m.base.codes.length<=1048576) (hc1:1<=m.base.codes.length) (v:ab) (hv:mL m v) (most:Int):Ct Tryz.prog G 231 [.cp f (m.tw lo),.agg [.int .i64 v.kind,.int .i64 v.number,.str v.text],.int .i64 most] (fun _=>.bool (tN m v most)):=by
 refine av Tryz.func231 rfl Tryz.ntmps231 rfl rfl fun w0 _ hG=>?_
 have hlen:=aq.len lo m.blocks
 have hlc:=aB.len lo m.base.codes
 by_cases h7:v.kind=7
 case neg =>
   rw[show tN m v most=false from decide_eq_false fun h=>h7 h.1]
   unfold ad.tw
   repeat' (first|refine V_ ?_|refine aJ ?_)
   exact r1_
 have hr:=yz hv h7
 obtain⟨n,hn⟩:∃n:Nat,v.number=n:=⟨v.number.toNat,by omega⟩
 have h1:n<m.blocks.length:=by omega
 have hr1:=rZ (lo:=lo) h1
 have hbg:m.blocks[n]?=some m.blocks[n]:=Za h1
 generalize m.blocks[n]=b at hr1 hbg
 have c1:=bC (G:=G) b.code 0 ((m.base.codes.length - 1:Nat):Int)
 have hsub:(m.base.codes.length:Int) - 1=((m.base.codes.length - 1:Nat):Int):=by omega
 by_cases h2:0<=b.code/\b.code<m.base.codes.length
 case neg =>
   rw[show inR b.code 0 ((m.base.codes.length - 1:Nat):Int)=false from by simp only[inR,decide_eq_false_iff_not];omega] at c1
   rw[show tN m v most=false from decide_eq_false fun h=>by
     obtain⟨_,b',x,hb',hx,_⟩:=h
     rw[hn,ZB,hbg] at hb'
     cases hb'
     obtain⟨h3,h4,_⟩:=nZ hx
     omega]
   rw[h7,hn]
   unfold ad.tw
   repeat' (first|refine V_ ?_|refine aJ ?_|refine ai hG hst (c1) ?_)
   exact r1_
 rw[show inR b.code 0 ((m.base.codes.length - 1:Nat):Int)=true from by simp only[inR,decide_eq_true_eq];omega] at c1
 obtain⟨q,hq⟩:∃q:Nat,b.code=q:=⟨b.code.toNat,by omega⟩
 have h3:q<m.base.codes.length:=by omega
 have hiff:=abM (most:=most) h7 hn hbg hq (Za h3)
 have hr2:=cj (lo:=lo) h3
 rw[show tN m v most=decide (m.base.codes[q].params<=most) from decide_eq_decide.2 hiff,h7,hn]
 rw[hq] at hr1 c1
 generalize m.base.codes[q]=x at hr2
 unfold ad.tw
 repeat' (first|refine V_ ?_|refine aJ ?_|refine ai hG hst (c1) ?_)
 refine aN x_ rfl (.tmp _ _ rfl) (fun _=>?_)
 exact aL rfl
end
theorem ui (k:Int):k=1\/k=2\/k=3\/k=4\/k=5\/(¬ k=1/\¬ k=2/\¬ k=3/\¬ k=4/\¬ k=5):=by omega
theorem ahb {α:Type} {l:List α} (h:l.length=1):∃a,l=[a]:=by
 match l,h with
 | [a],_=>exact⟨a,rfl⟩
theorem aij {α:Type} {l:List α} (h:l.length=3):∃a b c,l=[a,b,c]:=by
 match l,h with
 | [a,b,c],_=>exact⟨a,b,c,rfl⟩
theorem xh {m:ad} {k i:Int} (h:inR i 0 (k - 1)=false):doB m k i=false:=by unfold doB;rw[h,Zl]
theorem abm {m:ad} {k i:Int} (h:inR i 0 (k - 1)=true):doB m k i=decide (mkA m i=1):=by unfold doB;rw[h,Zn]
theorem acq {m:ad} {k:Nat} (h:k<m.contexts.length):mkA m (k:Int)=m.contexts[k].mark:=by
 unfold mkA;rw[dF h]
theorem afu {m:ad} {k n:Int} {t:ByteArray} (h:cD m.store m.blocks.length ⟨k,n,t⟩=true):eqV ⟨k,n,t⟩ ⟨0,0,⟨#[]⟩⟩=decide (k=0):=by
 by_cases hk:k=0
 ·rw[decide_eq_true hk,adf (m:=m) h hk];rfl
 ·unfold eqV
  rw[decide_eq_false hk,Zl]
theorem yr {m:ad} {k:Nat} {c:ao} (h:k<m.contexts.length) (e:m.contexts[k]=c):cxA m (k:Int)=some c:=by rw[dF h,e]
theorem yS {m:ad} {k:Nat} {c:aB} (h:k<m.base.codes.length) (e:m.base.codes[k]=c):cdA m (k:Int)=some c:=by rw[afQ h,e]
end Go.Proofs.YtifcomgnmokimaaGreatDoor
