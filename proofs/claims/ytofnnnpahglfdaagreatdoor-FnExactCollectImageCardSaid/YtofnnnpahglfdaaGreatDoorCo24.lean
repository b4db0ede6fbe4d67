/- Part 24 of the proof: the texts ImB, ImF, ImC, ImG. -/
import Derived.Test.YtofnnnpahglfdaaGreatDoorCo20
import Derived.Test.YtofnnnpahglfdaaGreatDoorCo22
import Derived.Test.YtofnnnpahglfdaaGreatDoorCo3
set_option linter.all false
set_option maxHeartbeats 2000000
set_option maxRecDepth 20000
namespace Go.Proofs.YtofnnnpahglfdaaGreatDoor
open Go Go.RowKit
inductive IsB (cl:List aa) (a:Int):Int->Prop
 | here:IsB cl a a
 | up (k:Nat) (h:k<cl.length) (hne:(k:Int)≠a) (hr:IsB cl a cl[k].parent):IsB cl a k
theorem yZ {cl:List aa} {a:Int} {k:Nat} (h:k<cl.length) (hne:(k:Int)≠a):IsB cl a k↔IsB cl a cl[k].parent:=by
 constructor
 ·intro hb
  generalize hk:(k:Int)=q at hb
  cases hb with
  | here=>exact absurd hk hne
  | up k' h' hne' hr =>
    obtain rfl:k=k':=by omega
    exact hr
 ·exact .up k h hne
theorem acV {cl:List aa} {a k:Int} (h:k<0):IsB cl a k↔k=a:=by
 constructor
 ·intro hb
  cases hb with
  | here=>rfl
  | up k' h' hne' hr=>omega
 ·rintro rfl;exact .here
theorem af0 {cl:List aa} {a:Int} {k:Int} (h:(cl.length:Int)<=k):IsB cl a k↔k=a:=by
 constructor
 ·intro hb
  cases hb with
  | here=>rfl
  | up k' h' hne' hr=>omega
 ·rintro rfl;exact .here
open Classical in
noncomputable def vS (cl:List aa) (a k:Int):Bool:=decide (IsB cl a k)
def ic (cl:List aa):Prop:=∀(i:Nat) (h:i<cl.length),-1<=cl[i].parent/\cl[i].parent<i
theorem xK:∀(i:Nat) (h:i<16),∀b,bS[i]?=some b->-1<=b.parent/\b.parent<i:=by
 intro i h b hb
 match i,h with
 | 0,_=>cases hb;decide
 | 1,_=>cases hb;decide
 | 2,_=>cases hb;decide
 | 3,_=>cases hb;decide
 | 4,_=>cases hb;decide
 | 5,_=>cases hb;decide
 | 6,_=>cases hb;decide
 | 7,_=>cases hb;decide
 | 8,_=>cases hb;decide
 | 9,_=>cases hb;decide
 | 10,_=>cases hb;decide
 | 11,_=>cases hb;decide
 | 12,_=>cases hb;decide
 | 13,_=>cases hb;decide
 | 14,_=>cases hb;decide
 | 15,_=>cases hb;decide
 | n+16,h=>omega
open Classical in
theorem lr {cl:List aa} (h:ci cl=true):qL cl:=of_decide_eq_true h
theorem sq {cl:List aa} (h:ci cl=true):ic cl:=fun i hi=>by
 have h1:=(lr h).2 i hi
 unfold eY at h1
 split at h1
 ·rename_i h16
  obtain⟨b,hb,_,hp,_⟩:=h1
  rw[hp]
  exact xK i h16 b hb
 ·have:=h1.1.2.1
  omega
section
variable {G:World->Prop}
theorem jq {lo:Nat} {l:List aa} {i:Nat} (h:i<l.length):(l.map (aa.tw lo))[i]?=some [.str l[i].name,.int .i64 l[i].parent,.sl lo 1 (bQ l[i].fields)]:=aK h
open Classical in
theorem rp (lo:Nat) (cl:List aa) (hcl:ic cl) (k0 a:Int) (hk0:-1<=k0/\k0<cl.length):Ct Tryz.prog G 265 [.sl lo 3 (cl.map (aa.tw lo)),.int .i64 k0,.int .i64 a] (fun _=>.bool (vS cl a k0)):=by
 refine au Tryz.func265 rfl Tryz.ntmps265 rfl rfl fun w0 _ hG=>?_
 have hlen:=aa.len lo cl
 repeat' refine W_ ?_
 apply aj (X:=Int) [0,2] (fun k=>[(1,.int .i64 k)]) (fun _=>[]) (fun k=>(-1<=k/\k<cl.length)/\(IsB cl a k0↔IsB cl a k)) (fun k=>(k+1).toNat) k0 ⟨hk0,Iff.rfl⟩
 exact kp_;exact nw_
 ·exact .refl _
 rintro k ⟨hk,hiff⟩
 try dsimp only
 by_cases hneg:k<0
 ·have e:vS cl a k0=decide (k=a):=decide_eq_decide.2 (hiff.trans (acV hneg))
  rw[e]
  repeat' refine W_ ?_
  refine aM x_ rfl (.tmp _ _ rfl) (fun _=>?_)
  exact aO rfl
 obtain⟨n,rfl⟩:∃n:Nat,k=n:=⟨k.toNat,by omega⟩
 have hn:n<cl.length:=by omega
 by_cases hka:(n:Int)=a
 ·have e:vS cl a k0=true:=decide_eq_true (hiff.2 (hka ▸ .here))
  have hne:¬ ((n:Int)≠a):=fun h=>h hka
  rw[e]
  repeat' refine W_ ?_
  refine aM x_ rfl (.tmp _ _ rfl) (fun _=>?_)
  exact aO (decide_eq_true hka)
 ·have hrow:=jq (lo:=lo) hn
  have hp:=hcl n hn
  have hst2:=hiff.trans (yZ hn hka)
  have hne:(n:Int)≠a:=hka
  generalize cl[n]=c at hrow hp hst2
  repeat' refine W_ ?_
  exact ag c.parent ⟨by omega,hst2⟩ (by omega) (.of _ nw_ od_ pk_)
open Classical in
theorem zm (lo:Nat) (cl:List aa) (hcl:ic cl) (k0 a:Int) (ha:0<=a/\a<cl.length):Ct Tryz.prog G 245 [.sl lo 3 (cl.map (aa.tw lo)),.int .i64 k0,.int .i64 a] (fun _=>.bool (vS cl a k0)):=by
 refine au Tryz.func245 rfl Tryz.ntmps245 rfl rfl fun w0 _ hG=>?_
 have hlen:=aa.len lo cl
 repeat' refine W_ ?_
 apply aj (X:=Int) [0,2] (fun k=>[(1,.int .i64 k)]) (fun _=>[]) (fun k=>IsB cl a k0↔IsB cl a k) (fun k=>(k+1).toNat) k0 Iff.rfl
 exact kp_;exact nw_
 ·exact .refl _
 rintro k hiff
 try dsimp only
 by_cases hneg:k<0
 ·have e:vS cl a k0=false:=decide_eq_false fun h=>by have:=(acV hneg).1 (hiff.1 h);omega
  rw[e]
  repeat' refine W_ ?_
  exact r1_
 by_cases hbig:(cl.length:Int)<=k
 ·have e:vS cl a k0=false:=decide_eq_false fun h=>by have:=(af0 hbig).1 (hiff.1 h);omega
  rw[e]
  repeat' refine W_ ?_
  exact r1_
 obtain⟨n,rfl⟩:∃n:Nat,k=n:=⟨k.toNat,by omega⟩
 have hn:n<cl.length:=by omega
 by_cases hka:(n:Int)=a
 ·have e:vS cl a k0=true:=decide_eq_true (hiff.2 (hka ▸ .here))
  rw[e]
  repeat' refine W_ ?_
  exact r1_
 ·have hrow:=jq (lo:=lo) hn
  have hp:=hcl n hn
  have hst2:=hiff.trans (yZ hn hka)
  generalize cl[n]=c at hrow hp hst2
  repeat' refine W_ ?_
  exact ag c.parent hst2 (by omega) (.of _ nw_ od_ pk_)
end
def cD (st:aR) (nb:Int) (x:ab):Bool:=j1 x.kind x.number x.text && (if x.kind=5 then decide (x.number<st.classes.length) else if x.kind=6 then decide (x.number<st.objects.length) else if x.kind=7 then decide (x.number<nb) else true)
theorem oM (lo:Nat) (st:aR) (nb:Int) (x:ab) (ht:x.text.size<=1048576):Ct Tryz.prog GL 71 [.agg (st.tw lo),.agg [.int .i64 x.kind,.int .i64 x.number,.str x.text],.int .i64 nb] (fun _=>.bool (cD st nb x)):=by
 refine au Tryz.func71 rfl Tryz.ntmps71 rfl rfl fun w0 _ hG=>?_
 have hst:=d8
 have hv:=qt x.kind x.number x.text ht
 have h1:=aa.len lo st.classes
 have h2:=az.len lo st.objects
 unfold cD
 unfold aR.tw
 generalize j1 x.kind x.number x.text=b at hv |-
 cases b with
 | false =>
   rw[Zl]
   repeat' (first|refine W_ ?_|refine aN ?_|refine ad hG hst (hv) ?_)
   exact r1_
 | true =>
   rw[Zn]
   repeat' (first|refine W_ ?_|refine aN ?_|refine ad hG hst (hv) ?_|refine c_ (fun hc=>?_) (fun hc=>?_))
   all_goals
     refine aM x_ rfl (.tmp _ _ rfl) (fun _=>?_)
     exact aO (by simp[*])
theorem gc (f lo:Nat) (st:aR) (nb:Int) (x:ab) (ht:x.text.size<=1048576):Ct Tryz.prog GL 67 [.cp f (st.tw lo),.agg [.int .i64 x.kind,.int .i64 x.number,.str x.text],.int .i64 nb] (fun _=>.bool (cD st nb x)):=by
 refine au Tryz.func67 rfl Tryz.ntmps67 rfl rfl fun w0 _ hG=>?_
 have hst:=d8
 have hv:=gS x.kind x.number x.text ht
 have h1:=aa.len lo st.classes
 have h2:=az.len lo st.objects
 unfold cD
 unfold aR.tw
 generalize j1 x.kind x.number x.text=b at hv |-
 cases b with
 | false =>
   rw[Zl]
   repeat' (first|refine V_ ?_|refine aN ?_|refine ad hG hst (hv) ?_)
   exact r1_
 | true =>
   rw[Zn]
   repeat' (first|refine V_ ?_|refine aN ?_|refine ad hG hst (hv) ?_|refine c_ (fun hc=>?_) (fun hc=>?_))
   all_goals
     refine aM x_ rfl (.tmp _ _ rfl) (fun _=>?_)
     exact aO (by simp[*])
def cxA (m:ah) (k:Int):Option aq:=if 0<=k then m.contexts[k.toNat]? else none
theorem afy {m:ah} {k:Int} (h:k<0):cxA m k=none:=by unfold cxA;rw[if_neg (by omega)]
theorem jr {m:ah} {k:Nat} (h:k<m.contexts.length):cxA m (k:Int)=some m.contexts[k]:=by
 unfold cxA
 rw[if_pos (by omega),ZF,Za h]
theorem kQ {m:ah} {k:Int} {c:aq} (h:cxA m k=some c):0<=k/\∃hk:k.toNat<m.contexts.length,m.contexts[k.toNat]=c:=by
 unfold cxA at h
 split at h
 ·rename_i h0
  exact⟨h0,List.getElem?_eq_some_iff.1 h⟩
 ·cases h
def cdA (m:ah) (k:Int):Option aH:=if 0<=k then m.base.codes[k.toNat]? else none
theorem ae7 {m:ah} {k:Nat} (h:k<m.base.codes.length):cdA m (k:Int)=some m.base.codes[k]:=by
 unfold cdA
 rw[if_pos (by omega),ZF,Za h]
theorem adV {m:ah} {k:Int} {c:aH} (h:cdA m k=some c):0<=k/\∃hk:k.toNat<m.base.codes.length,m.base.codes[k.toNat]=c:=by
 unfold cdA at h
 split at h
 ·rename_i h0
  exact⟨h0,List.getElem?_eq_some_iff.1 h⟩
 ·cases h
def kM (m:ah):Prop:=∀(i:Nat) (h:i<m.contexts.length),-1<=m.contexts[i].sender/\m.contexts[i].sender<i
inductive OnW (m:ah) (a:Int):Int->Prop
 | here:OnW m a a
 | up (k:Nat) (h:k<m.contexts.length) (hne:(k:Int)≠a) (hr:OnW m a m.contexts[k].sender):OnW m a k
theorem yF {m:ah} {a:Int} {k:Nat} (h:k<m.contexts.length) (hne:(k:Int)≠a):OnW m a k↔OnW m a m.contexts[k].sender:=by
 constructor
 ·intro hb
  generalize hk:(k:Int)=q at hb
  cases hb with
  | here=>exact absurd hk hne
  | up k' h' hne' hr =>
    obtain rfl:k=k':=by omega
    exact hr
 ·exact .up k h hne
theorem abS {m:ah} {a k:Int} (h:k<0):OnW m a k↔k=a:=by
 constructor
 ·intro hb
  cases hb with
  | here=>rfl
  | up k' h' hne' hr=>omega
 ·rintro rfl;exact .here
theorem ae2 {m:ah} (hs:kM m) {a k:Int} (h:OnW m a k) (hk:k<m.contexts.length):a<m.contexts.length:=by
 induction h with
 | here=>exact hk
 | up k h hne hr ih=>exact ih (by have:=hs k h;omega)
open Classical in
noncomputable def onB (m:ah) (a k:Int):Bool:=decide (OnW m a k)
def dps (x:aH):List Int:=(cn x.instrs).getD []
def afI (m:ah) (c:aq) (less:Int):Bool:=match cdA m c.code with
 | some x=>decide (c.pc<x.instrs.length) && (decide (0<=gd (dps x) c.pc) && decide ((c.stack.length:Int)=IntKind.i64.wrap (gd (dps x) c.pc - less)))
 | none=>false
noncomputable def pg (m:ah) (c:aq) (less:Int):Bool:=if c.mark=0 then afI m c less else if c.mark=3\/c.mark=5 then onB m c.other c.sender else true
inductive aaL (m:ah):Int->Int->Prop
 | out (less k:Int) (h:k<0):aaL m less k
 | up (less:Int) (k:Nat) (h:k<m.contexts.length) (hs:pg m m.contexts[k] less=true) (hr:aaL m 1 m.contexts[k].sender):aaL m less k
theorem n9 {m:ah} {less:Int} {k:Nat} (h:k<m.contexts.length):aaL m less k↔pg m m.contexts[k] less=true/\aaL m 1 m.contexts[k].sender:=by
 constructor
 ·intro hb
  generalize hk:(k:Int)=q at hb
  cases hb with
  | out l k' h'=>omega
  | up l k' h' hs hr =>
    obtain rfl:k=k':=by omega
    exact⟨hs,hr⟩
 ·rintro ⟨h1,h2⟩;exact .up less k h h1 h2
def dN (m:ah) (a:Int):Prop:=∃c,cxA m a=some c/\c.mark=0/\aaL m 0 a
open Classical in
noncomputable def j7 (m:ah) (a:Int):Bool:=decide (dN m a)
def vH (o:az):List Int:=if o.kind=3 then o.numbers.drop 1 else []
def tH (m:ah):List Int:=m.store.objects.flatMap vH
def np (m:ah):List Int:=if m.status=0 then [m.now] else []
def ve (m:ah) (L:List Int):Prop:=(∀p∈L,0<=p/\p<m.processes.length)/\L.Nodup/\∀p∈L,∀q,m.processes[p.toNat]?=some q->dN m q.at_
theorem qI {m:ah} {L L':List Int} (h:L.Perm L') (k:ve m L):ve m L':=⟨fun p hp=>k.1 p (h.mem_iff.2 hp),h.nodup_iff.1 k.2.1,fun p hp=>k.2.2 p (h.mem_iff.2 hp)⟩
theorem qE {m:ah}:ve m (m.ready++np m++tH m)↔ve m (np m++m.ready++tH m) :=
 ⟨qI (List.perm_append_comm.append_right _),qI (List.perm_append_comm.append_right _)⟩
def aaT (m:ah) (n0 n1 n2:Int):Prop:=(n0=-1/\n1=-1/\n2=0)\/(n2=1/\∃c,cxA m n1=some c/\c.mark=3/\0<=n0/\OnW m n0 c.sender)
def yy (m:ah) (o:az):Prop:=o.kind=1->∀n0 n1 n2,o.numbers=[n0,n1,n2]->aaT m n0 n1 n2
def ahE (m:ah) (v:ab) (most:Int):Prop:=v.kind=7/\∃b x,m.blocks[v.number.toNat]?=some b/\cdA m b.code=some x/\x.params<=most
open Classical in
noncomputable def vQ (m:ah) (v:ab) (most:Int):Bool:=decide (ahE m v most)
def mkA (m:ah) (k:Int):Int:=match cxA m k with|some d=>d.mark|none=>0
def doB (m:ah) (k i:Int):Bool:=inR i 0 (k - 1) && decide (mkA m i=1)
def v1 (l:List ab) (g:ab->Bool):Bool:=match l with
 | [a]=>g a
 | _=>false
def v3 (l:List ab) (g:ab->ab->ab->Bool):Bool:=match l with
 | [a,b,c]=>g a b c
 | _=>false
theorem ad0 {l:List ab} {g:ab->Bool} (h:¬ l.length=1):v1 l g=false:=by
 match l,h with
 | [],_=>rfl
 | [a],h=>exact absurd rfl h
 | _::_::_,_=>rfl
theorem agE {l:List ab} {g:ab->ab->ab->Bool} (h:¬ l.length=3):v3 l g=false:=by
 match l,h with
 | [],_=>rfl
 | [_],_=>rfl
 | [_,_],_=>rfl
 | [a,b,c],h=>exact absurd rfl h
 | _::_::_::_::_,_=>rfl
theorem abT (a:ab) (g:ab->Bool):v1 [a] g=g a:=rfl
theorem ags (a b c:ab) (g:ab->ab->ab->Bool):v3 [a,b,c] g=g a b c:=rfl
noncomputable def ac2 (m:ah) (k:Int) (c:aq):Bool :=
 if c.mark=1 then v3 c.values fun a b d=>decide (a.kind=5) && (vS m.store.classes 1 a.number && (vQ m b 1 && vQ m d 0))
 else if c.mark=2 then v1 c.values fun a=>vQ m a 0
 else if c.mark=3 then v1 c.values fun a=>decide (a.kind=6) && doB m k c.other
 else if c.mark=4 then decide (c.values.length=1)
 else if c.mark=5 then inR c.other (-1) (k - 1) && (decide (c.values.length=1) && (!c.retry || doB m k c.other))
 else false
def eqV (x y:ab):Bool:=decide (x.kind=y.kind) && (decide (x.number=y.number) && (decide (x.text=y.text) && true))
theorem agx {x y:ab}:eqV x y=true↔x=y:=by
 cases x;cases y;simp[eqV]
def shB (c:aq):Bool:=decide (c.code=0) && (decide (c.pc=0) && (decide (c.outer=-1) && (decide (c.home=-1) && (eqV c.self ⟨0,0,⟨#[]⟩⟩ && (decide (c.slots.length=0) && (decide (c.stack.length=0) && (!c.retry || decide (c.mark=5))))))))
def afJ (c:aq):Bool:=decide (c.mark=3) || (decide (c.mark=5) || decide (c.other=0))
def agZ (m:ah) (o:List Int) (k:Int) (c:aq) (x:aH):Bool :=
 if x.block=true then inR c.outer 0 (k - 1) && (match cxA m c.outer with|some p=>decide (p.mark=0) && (decide (p.code=gd o c.code) && (decide (c.home=p.home) && eqV c.self p.self))|none=>false)
 else decide (c.outer=-1) && decide (c.home=k)
def plB (m:ah) (o:List Int) (k:Int) (c:aq):Bool :=
 decide (c.values.length=0) && (decide (c.other=0) && (!c.retry && (inR c.code 0 ((m.base.codes.length:Int) - 1) && (match cdA m c.code with|some x=>decide ((c.slots.length:Int)=x.slots) && (inR c.pc 0 x.instrs.length && (decide (c.stack.length<=250) && agZ m o k c x))|none=>false))))
def iP (m:ah) (v:ab):Prop:=cD m.store m.blocks.length v=true
def pU (m:ah) (l:List ab):Bool:=l.all (cD m.store m.blocks.length)
theorem ly {m:ah} {l:List ab} (h:pU m l=true):∀v∈l,iP m v:=fun v hv=>List.all_eq_true.1 h v hv
noncomputable def qe (m:ah) (o:List Int) (k:Int) (c:aq):Bool :=
 inR c.sender (-1) (k - 1) && (cD m.store m.blocks.length c.self && (pU m c.slots && (pU m c.stack && (pU m c.values && (if c.mark=0 then plB m o k c else shB c && (ac2 m k c && afJ c))))))
def jX (m:ah) (o:List Int) (b:ap):Bool :=
 inR b.code 0 ((m.base.codes.length:Int) - 1) && ((match cdA m b.code with|some x=>x.block|none=>false) && (inR b.outer 0 ((m.contexts.length:Int) - 1) && (match cxA m b.outer with|some c=>decide (c.mark=0) && (decide (c.code=gd o b.code) && (decide (b.home=c.home) && eqV b.self c.self))|none=>false)))
def af5 (m:ah) (o:List Int):Prop:=(∀(i:Nat) (h:i<m.contexts.length),qe m o i m.contexts[i]=true)/\∀b∈m.blocks,jX m o b=true
theorem fY {m:ah} {o:List Int} {k:Int} {c:aq} (h:qe m o k c=true):(-1<=c.sender/\c.sender<=k - 1)/\iP m c.self/\pU m c.slots=true/\pU m c.stack=true/\pU m c.values=true/\(if c.mark=0 then plB m o k c else shB c && (ac2 m k c && afJ c))=true:=by
 unfold qe at h
 simp only[Zm] at h
 obtain⟨h1,h2,h3,h4,h5,h6⟩:=h
 exact⟨of_decide_eq_true h1,h2,h3,h4,h5,h6⟩
theorem oT {m:ah} {o:List Int} (h:∀(i:Nat) (h:i<m.contexts.length),qe m o i m.contexts[i]=true):kM m:=fun i hi=>by
 have:=(fY (h i hi)).1
 omega
theorem vg {m:ah} {o:List Int} {k:Int} {c:aq} (h:qe m o k c=true) (h0:c.mark=0):∃x,cdA m c.code=some x/\(0<=c.code/\c.code<m.base.codes.length)/\(0<=c.pc/\c.pc<=x.instrs.length)/\c.stack.length<=250:=by
 have h1:=(fY h).2.2.2.2.2
 rw[if_pos h0] at h1
 unfold plB at h1
 simp only[Zm] at h1
 obtain⟨_,_,_,h4,h5⟩:=h1
 have h4:=of_decide_eq_true h4
 cases hx:cdA m c.code with
 | none=>rw[hx] at h5;cases h5
 | some x =>
   rw[hx] at h5
   simp only[Zm] at h5
   obtain⟨_,h6,h7,_⟩:=h5
   exact⟨x,rfl,by omega,of_decide_eq_true h6,of_decide_eq_true h7⟩
def yw (l:List Int):Nat->Int
 | 0=>l.getD 0 0
 | i+1=>if l.getD (i+1) 0<yw l i then l.getD (i+1) 0 else yw l i
theorem acY (l:List Int):∀i,0<=yw l i↔∀j,j<=i->0<=l.getD j 0
 | 0=>by
   unfold yw
   exact⟨fun h j hj=>by rw[Nat.le_zero.1 hj];exact h,fun h=>h 0 (Zf _)⟩
 | i+1=>by
   have ih:=acY l i
   unfold yw
   constructor
   ·intro h j hj
    rcases Yx j (i+1) with h1|h1
    ·refine ih.1 ?_ j (by omega)
     split at h <;> omega
    ·obtain rfl:j=i+1:=by omega
     split at h <;> omega
   ·intro h
    have h1:=ih.2 fun j hj=>h j (by omega)
    have h2:=h (i+1) (Zf _)
    split <;> assumption
def nnL (l:List Int):Prop:=∀n∈l,0<=n
instance (l:List Int):Decidable (nnL l):=by unfold nnL;infer_instance
theorem adh {l:List Int} (h:0<l.length):0<=yw l (l.length - 1)↔nnL l:=by
 rw[acY]
 constructor
 ·intro h1 n hn
  obtain⟨j,hj,rfl⟩:=ZE hn
  have:=h1 j (by omega)
  rwa [ZS,Za hj] at this
 ·intro h1 j hj
  rw[ZS,Za (by omega)]
  exact h1 _ (Zb _)
theorem tM {G:World->Prop} (lo:Nat) (l:List Int) (hl:0<l.length) (hn:l.length<=1048576):Ct Tryz.prog G 266 [.sl lo 1 (aL l)] (fun _=>.int .i64 (yw l (l.length - 1))):=by
 refine au Tryz.func266 rfl Tryz.ntmps266 rfl rfl fun w0 _ hG=>?_
 have hlen:=ae l
 have h0:(aL l)[0]?=some [.int .i64 (yw l 0)]:=by
   rw[jW hl]
   unfold yw
   rw[ZS,Za hl];rfl
 repeat' refine W_ ?_
 apply aj (X:=Nat) [0] (fun i=>[(4,.int .i64 ((i:Int)+1)),(3,.int .i64 (yw l i))]) (fun _=>[]) (fun i=>i<l.length) (fun i=>l.length - i) 0 hl
 exact kp_;exact nw_
 ·exact .refl _
 intro i hi
 try dsimp only
 by_cases hlt:i+1<l.length
 ·have hrow:(aL l)[i+1]?=some [.int .i64 (l.getD (i+1) 0)]:=by
    rw[jW hlt,ZS,Za hlt];rfl
  have hs:yw l (i+1)=if l.getD (i+1) 0<yw l i then l.getD (i+1) 0 else yw l i:=rfl
  have hi1:(i:Int)+1=((i+1:Nat):Int):=by omega
  rw[hi1]
  generalize l.getD (i+1) 0=v at hrow hs
  repeat' (first|refine W_ ?_|((with_reducible apply ahb);rfl;rfl;rfl))
  exact ag (i+1) hlt (by omega) (.of _ (by rw[hs];exact nw_) od_ pk_)
 ·obtain rfl:i=l.length - 1:=by omega
  rw[show ((l.length - 1:Nat):Int)+1=(l.length:Int) by omega]
  repeat' refine W_ ?_
  exact r1_
def ae6 (cl:List aa) (k:Int):Nat:=match cl[k.toNat]? with
 | some c=>c.fields.length
 | none=>0
open Classical in
noncomputable def f7 (st:aR) (nb:Int) (o:az):Bool :=
 o.fields.all (cD st nb) &&
 (if o.kind=1 then decide ((0<=o.class_/\o.class_<st.classes.length)/\¬ (5<=o.class_/\o.class_<=15)/\o.fields.length=ae6 st.classes o.class_) && decide (o.numbers.length=if vS st.classes 1 o.class_ then 3 else 0)
  else if o.kind=2 then decide (o.class_=10/\o.fields.length<=50/\o.numbers.length=0)
  else if o.kind=3 then decide (o.class_=12/\o.fields.length=0/\1<=o.numbers.length/\nnL o.numbers)
  else false)
theorem fk {st:aR} {nb:Int} {l:List ab} {i:Nat} (h:i<l.length) (hf:cD st nb l[i]=false):l.all (cD st nb)=false:=by
 rw[Bool.eq_false_iff]
 intro h2
 have:=List.all_eq_true.1 h2 _ (Zb h)
 rw[hf] at this;cases this
theorem kn {lo:Nat} {l:List ab} {i:Nat} (h:i<l.length):(l.map (ab.tw lo))[i]?=some [.int .i64 l[i].kind,.int .i64 l[i].number,.str l[i].text]:=aK h
theorem tV (k:Int):k=1\/k=2\/k=3\/(¬ k=1/\¬ k=2/\¬ k=3):=by omega
theorem wZ (lo:Nat) (st:aR) (hcl:ic st.classes) (h16:16<=st.classes.length/\st.classes.length<=24) (nb:Int) (o:az) (ho:o.small 1048576):Ct Tryz.prog GL 198 [.agg (st.tw lo),.agg [.int .i64 o.kind,.int .i64 o.class_,.sl lo 3 (o.fields.map (ab.tw lo)),.sl lo 1 (aL o.numbers)],.int .i64 nb] (fun _=>.bool (f7 st nb o)):=by
 refine au Tryz.func198 rfl Tryz.ntmps198 rfl rfl fun w0 _ hG=>?_
 have hst:=d8
 obtain⟨ok,oc,fs,ns⟩:=o
 have hf1:=ho.1.1
 have hf2:=ho.1.2
 have hn1:=ho.2
 dsimp only at hf1 hf2 hn1 |-
 have hfl:=ab.len lo fs
 have hnl:=ae ns
 have hcn:=aa.len lo st.classes
 have hex:=fun(x:ab) (h:x.text.size<=1048576)=>oM lo st nb x h
 unfold aR.tw at hex |-
 repeat' (first|refine W_ ?_|refine aN ?_)
 apply aj (X:=Nat) [2,3,4,10,11] (fun i=>[(12,.int .i64 (i:Int))]) (fun _=>[]) (fun i=>i<=fs.length/\∀y∈fs.take i,cD st nb y=true) (fun i=>fs.length - i) 0 ⟨Zd _,by simp⟩
 exact kp_;exact nw_
 ·exact .refl _
 rintro i ⟨hi,hall⟩
 try dsimp only
 by_cases hlt:i<fs.length
 ·have hrow:=kn (lo:=lo) hlt
  have hxi:=hex _ (hf2 _ (Zb hlt))
  have hta:=bu (p:=fun y=>cD st nb y=true) hlt hall
  cases hfi:cD st nb fs[i] with
  | false =>
    have e:f7 st nb ⟨ok,oc,fs,ns⟩=false:=by
      unfold f7
      rw[fk hlt hfi,Zl]
    rw[e]
    rw[hfi] at hxi
    generalize fs[i]=x at hrow hxi
    repeat' (first|refine W_ ?_|(refine am ?_;intro ss bb)|refine ac ?_|refine ad hG hst (hxi) ?_)
    exact r1_
  | true =>
    rw[hfi] at hxi hta
    generalize fs[i]=x at hrow hxi
    repeat' (first|refine W_ ?_|(refine am ?_;intro ss bb)|refine ac ?_|refine ad hG hst (hxi) ?_)
    exact ag (i+1) ⟨by omega,hta rfl⟩ (by omega) (.of _ nw_ od_ pk_)
 obtain rfl:i=fs.length:=by omega
 rw[Zc (Zf _)] at hall
 have hA:fs.all (cD st nb)=true:=List.all_eq_true.2 hall
 clear hex hall
 rcases tV ok with rfl|rfl|rfl|⟨g1,g2,g3⟩
 ·have e:f7 st nb ⟨1,oc,fs,ns⟩=(decide ((0<=oc/\oc<st.classes.length)/\¬ (5<=oc/\oc<=15)/\fs.length=ae6 st.classes oc) && decide (ns.length=if vS st.classes 1 oc then 3 else 0)):=by
    unfold f7
    rw[hA,Zn,if_pos rfl]
  rw[e]
  clear e hA
  have w1:=aP (G:=GL) oc 0 ((st.classes.length:Int) - 1)
  have w2:=aP (G:=GL) oc 5 15
  rw[show (st.classes.length:Int) - 1=((st.classes.length - 1:Nat):Int) by omega] at w1
  by_cases hr:0<=oc/\oc<st.classes.length
  case neg =>
    rw[show inR oc 0 ((st.classes.length - 1:Nat):Int)=false from by simp only[inR,decide_eq_false_iff_not];omega] at w1
    rw[decide_eq_false fun h=>hr h.1,Zl]
    repeat' (first|refine V_ ?_|refine ai hG hst (w1) ?_)
    exact r1_
  rw[show inR oc 0 ((st.classes.length - 1:Nat):Int)=true from by simp only[inR,decide_eq_true_eq];omega] at w1
  by_cases h5:5<=oc/\oc<=15
  ·rw[show inR oc 5 15=true from by simp only[inR,decide_eq_true_eq];omega] at w2
   rw[decide_eq_false fun h=>h.2.1 h5,Zl]
   repeat' (first|refine V_ ?_|refine ai hG hst (w1) ?_|refine ai hG hst (w2) ?_)
   exact r1_
  rw[show inR oc 5 15=false from by simp only[inR,decide_eq_false_iff_not];exact h5] at w2
  obtain⟨c,rfl⟩:∃c:Nat,oc=c:=⟨oc.toNat,by omega⟩
  have hc:c<st.classes.length:=by omega
  have hrow:=jq (lo:=lo) hc
  have hfn:ae6 st.classes (c:Int)=st.classes[c].fields.length:=by
    unfold ae6
    rw[ZF,Za hc]
  have hib:=rp (G:=GL) lo st.classes hcl (c:Int) 1 (by omega)
  rw[hfn]
  generalize st.classes[c]=x at hrow hfn |-
  have hxl:=ch x.fields
  by_cases hlen:fs.length=x.fields.length
  case neg =>
    have hne:(fs.length:Int)≠x.fields.length:=by omega
    rw[decide_eq_false fun h=>hlen h.2.2,Zl]
    repeat' (first|refine V_ ?_|refine ai hG hst (w1) ?_|refine ai hG hst (w2) ?_)
    exact r1_
  have hne:¬ ((fs.length:Int)≠x.fields.length):=by omega
  rw[decide_eq_true ⟨hr,h5,hlen⟩,Zn]
  generalize vS st.classes 1 (c:Int)=b at hib |-
  cases b
  all_goals
    repeat' (first|refine V_ ?_|refine ai hG hst (w1) ?_|refine ai hG hst (w2) ?_|refine ad hG hst (hib) ?_)
    refine aM x_ rfl (.tmp _ _ rfl) (fun _=>?_)
    exact aO (by first|(simp;done)|(simp;omega))
 ·have e:f7 st nb ⟨2,oc,fs,ns⟩=decide (oc=10/\fs.length<=50/\ns.length=0):=by
    unfold f7
    rw[hA,Zn,if_neg (by dsimp only;decide),if_pos rfl]
  rw[e]
  clear e hA
  repeat' (first|refine W_ ?_|refine g_ (fun hg=>?_) (fun hg=>?_))
  all_goals
    refine aM x_ rfl (.tmp _ _ rfl) (fun _=>?_)
    refine aO ?_
    first
      | (rw[decide_eq_decide];omega)
      | (symm;rw[decide_eq_false_iff_not];omega)
 ·have e:f7 st nb ⟨3,oc,fs,ns⟩=decide (oc=12/\fs.length=0/\1<=ns.length/\nnL ns):=by
    unfold f7
    rw[hA,Zn,if_neg (by dsimp only;decide),if_neg (by dsimp only;decide),if_pos rfl]
  rw[e]
  clear e hA
  by_cases hns:0<ns.length
  ·have hmi:=tM (G:=GL) lo ns hns hn1
   have hma:=adh hns
   generalize yw ns (ns.length - 1)=mv at hmi hma
   repeat' (first|refine W_ ?_|refine ad hG hst (hmi) ?_|refine g_ (fun hg=>?_) (fun hg=>?_))
   all_goals
     refine aM x_ rfl (.tmp _ _ rfl) (fun _=>?_)
     refine aO ?_
     first
       | (rw[decide_eq_decide,<- hma];omega)
       | (symm;rw[decide_eq_false_iff_not,<- hma];omega)
  ·repeat' (first|refine W_ ?_|refine g_ (fun hg=>?_) (fun hg=>?_))
   all_goals
     refine aM x_ rfl (.tmp _ _ rfl) (fun _=>?_)
     refine aO ?_
     first
       | (symm;rw[decide_eq_false_iff_not];omega)
       | (symm;rw[decide_eq_false_iff_not];rintro ⟨_,_,h,_⟩;omega)
 ·have e:f7 st nb ⟨ok,oc,fs,ns⟩=false:=by
    unfold f7
    rw[if_neg g1,if_neg g2,if_neg g3,YH]
  rw[e]
  repeat' refine W_ ?_
  exact r1_
section
variable {G:World->Prop}
theorem dB {lo:Nat} {l:List aq} {i:Nat} (h:i<l.length):(l.map (aq.tw lo))[i]?=some [.int .i64 l[i].mark,.int .i64 l[i].code,.int .i64 l[i].pc,.int .i64 l[i].sender,.int .i64 l[i].outer,.int .i64 l[i].home,.int .i64 l[i].self.kind,.int .i64 l[i].self.number,.str l[i].self.text,.sl lo 3 (l[i].slots.map (ab.tw lo)),.sl lo 3 (l[i].stack.map (ab.tw lo)),.sl lo 3 (l[i].values.map (ab.tw lo)),.int .i64 l[i].other,.bool l[i].retry]:=aK h
open Classical in
theorem yW (f lo:Nat) (m:ah) (hcl:m.contexts.length<=1048576) (hs:kM m) (k0 a:Int) (hk0:-1<=k0/\k0<m.contexts.length):Ct Tryz.prog G 187 [.cp f (m.tw lo),.int .i64 k0,.int .i64 a] (fun _=>.bool (onB m a k0)):=by
 refine au Tryz.func187 rfl Tryz.ntmps187 rfl rfl fun w0 _ hG=>?_
 have hlen:=aq.len lo m.contexts
 unfold ah.tw
 repeat' refine W_ ?_
 apply aj (X:=Int) [0,2] (fun k=>[(1,.int .i64 k)]) (fun _=>[]) (fun k=>(-1<=k/\k<m.contexts.length)/\(OnW m a k0↔OnW m a k)) (fun k=>(k+1).toNat) k0 ⟨hk0,Iff.rfl⟩
 exact kp_;exact nw_
 ·exact .refl _
 rintro k ⟨hk,hiff⟩
 try dsimp only
 by_cases hneg:k<0
 ·have e:onB m a k0=decide (a=-1):=decide_eq_decide.2 (hiff.trans ((abS hneg).trans (by omega)))
  rw[e]
  repeat' refine W_ ?_
  refine aM x_ rfl (.tmp _ _ rfl) (fun _=>?_)
  exact aO rfl
 obtain⟨n,rfl⟩:∃n:Nat,k=n:=⟨k.toNat,by omega⟩
 have hn:n<m.contexts.length:=by omega
 by_cases hka:(n:Int)=a
 ·have e:onB m a k0=true:=decide_eq_true (hiff.2 (hka ▸ .here))
  rw[e]
  repeat' refine W_ ?_
  exact r1_
 ·have hrow:=dB (lo:=lo) hn
  have hp:=hs n hn
  have hst2:=hiff.trans (yF hn hka)
  generalize m.contexts[n]=c at hrow hp hst2
  repeat' refine W_ ?_
  exact ag c.sender ⟨by omega,hst2⟩ (by omega) (.of _ nw_ od_ pk_)
open Classical in
theorem y9 (f lo:Nat) (m:ah) (hcl:m.contexts.length<=1048576) (hs:kM m) (k0 a:Int) (hk0:-1<=k0/\k0<m.contexts.length):Ct Tryz.prog G 205 [.cp f (m.tw lo),.int .i64 k0,.int .i64 a] (fun _=>.bool (onB m a k0)):=by
 refine au Tryz.func205 rfl Tryz.ntmps205 rfl rfl fun w0 _ hG=>?_
 have hlen:=aq.len lo m.contexts
 unfold ah.tw
 repeat' refine W_ ?_
 apply aj (X:=Int) [0,2] (fun k=>[(1,.int .i64 k)]) (fun _=>[]) (fun k=>(-1<=k/\k<m.contexts.length)/\(OnW m a k0↔OnW m a k)) (fun k=>(k+1).toNat) k0 ⟨hk0,Iff.rfl⟩
 exact kp_;exact nw_
 ·exact .refl _
 rintro k ⟨hk,hiff⟩
 try dsimp only
 by_cases hneg:k<0
 ·have e:onB m a k0=decide (k=a):=decide_eq_decide.2 (hiff.trans (abS hneg))
  rw[e]
  repeat' refine W_ ?_
  refine aM x_ rfl (.tmp _ _ rfl) (fun _=>?_)
  exact aO rfl
 obtain⟨n,rfl⟩:∃n:Nat,k=n:=⟨k.toNat,by omega⟩
 have hn:n<m.contexts.length:=by omega
 by_cases hka:(n:Int)=a
 ·have e:onB m a k0=true:=decide_eq_true (hiff.2 (hka ▸ .here))
  have hne:¬ ((n:Int)≠a):=fun h=>h hka
  rw[e]
  repeat' refine W_ ?_
  refine aM x_ rfl (.tmp _ _ rfl) (fun _=>?_)
  exact aO (decide_eq_true hka)
 ·have hrow:=dB (lo:=lo) hn
  have hp:=hs n hn
  have hst2:=hiff.trans (yF hn hka)
  have hne:(n:Int)≠a:=hka
  generalize m.contexts[n]=c at hrow hp hst2
  repeat' refine W_ ?_
  exact ag c.sender ⟨by omega,hst2⟩ (by omega) (.of _ nw_ od_ pk_)
end
theorem lq {m:ah} {v:ab} (h:iP m v) (h7:v.kind=7):0<=v.number/\v.number<m.blocks.length:=by
 unfold iP cD j1 at h
 rw[h7] at h
 simp at h
 omega
theorem adp {m:ah} {v:ab} (h:iP m v) (h5:v.kind=5):0<=v.number/\v.number<m.store.classes.length:=by
 unfold iP cD j1 at h
 rw[h5] at h
 simp at h
 omega
theorem ada {m:ah} {v:ab} (h:iP m v) (h0:v.kind=0):v=⟨0,0,⟨#[]⟩⟩:=by
 obtain⟨k,n,t⟩:=v
 dsimp only at h0
 subst h0
 unfold iP cD j1 at h
 simp at h
 rw[h.1,h.2]
theorem abZ {m:ah} {v:ab} {most:Int} {n q:Nat} {b:ap} {x:aH} (h7:v.kind=7) (hn:v.number=n) (hb:m.blocks[n]?=some b) (hq:b.code=q) (hx:m.base.codes[q]?=some x):ahE m v most↔x.params<=most:=by
 unfold ahE cdA
 rw[hn,ZF,hb]
 constructor
 ·rintro ⟨_,b',x',hb',hx',h⟩
  cases hb'
  rw[hq,if_pos (by omega),ZF,hx] at hx'
  cases hx'
  exact h
 ·intro h
  exact⟨h7,b,x,rfl,by rw[hq,if_pos (by omega),ZF,hx],h⟩
theorem mb {lo:Nat} {l:List ap} {i:Nat} (h:i<l.length):(l.map (ap.tw lo))[i]?=some [.int .i64 l[i].code,.int .i64 l[i].outer,.int .i64 l[i].home,.int .i64 l[i].self.kind,.int .i64 l[i].self.number,.str l[i].self.text]:=aK h
section
variable {G:World->Prop}
open Classical in
theorem xu (lo:Nat) (m:ah) (hbl:m.blocks.length<=1048576) (hcl:m.base.codes.length<=1048576) (n q:Nat) (b:ap) (x:aH) (hb:m.blocks[n]?=some b) (hq:b.code=q) (hx:m.base.codes[q]?=some x):Ct Tryz.prog G 308 [.agg (m.tw lo),.int .i64 (n:Int)] (fun _=>.int .i64 x.params):=by
 refine au Tryz.func308 rfl Tryz.ntmps308 rfl rfl fun w0 _ hG=>?_
 have hlen:=ap.len lo m.blocks
 have hlc:=aH.len lo m.base.codes
 obtain⟨h1,e1⟩:=List.getElem?_eq_some_iff.1 hb
 obtain⟨h2,e2⟩:=List.getElem?_eq_some_iff.1 hx
 have hr1:=mb (lo:=lo) h1
 have hr2:=ca (lo:=lo) h2
 rw[e1] at hr1
 rw[e2] at hr2
 rw[hq] at hr1
 unfold ah.tw
 repeat' (first|refine V_ ?_|refine aN ?_)
 exact r1_
open Classical in
theorem zE (hst:aC G) (lo:Nat) (m:ah) (hbl:m.blocks.length<=1048576) (hcl:m.base.codes.length<=1048576) (hbc:∀b∈m.blocks,0<=b.code/\b.code<m.base.codes.length) (v:ab) (hv:iP m v) (most:Int):Ct Tryz.prog G 269 [.agg (m.tw lo),.agg [.int .i64 v.kind,.int .i64 v.number,.str v.text],.int .i64 most] (fun _=>.bool (vQ m v most)):=by
 refine au Tryz.func269 rfl Tryz.ntmps269 rfl rfl fun w0 _ hG=>?_
 by_cases h7:v.kind=7
 case neg =>
   rw[show vQ m v most=false from decide_eq_false fun h=>h7 h.1]
   unfold ah.tw
   repeat' (first|refine W_ ?_|refine aN ?_)
   exact r1_
 have hr:=lq hv h7
 obtain⟨n,hn⟩:∃n:Nat,v.number=n:=⟨v.number.toNat,by omega⟩
 have h1:n<m.blocks.length:=by omega
 have h2:=hbc _ (Zb h1)
 obtain⟨q,hq⟩:∃q:Nat,m.blocks[n].code=q:=⟨m.blocks[n].code.toNat,by omega⟩
 have h3:q<m.base.codes.length:=by omega
 have hiff:=abZ (most:=most) h7 hn (Za h1) hq (Za h3)
 have hct:=xu (G:=G) lo m hbl hcl n q _ _ (Za h1) hq (Za h3)
 rw[show vQ m v most=decide (m.base.codes[q].params<=most) from decide_eq_decide.2 hiff,h7,hn]
 generalize m.base.codes[q].params=pr at hct
 unfold ah.tw at hct |-
 repeat' (first|refine W_ ?_|refine aN ?_|refine ad hG hst (hct) ?_)
 refine aM x_ rfl (.tmp _ _ rfl) (fun _=>?_)
 exact aO rfl
open Classical in
theorem wI (hst:aC G) (f lo:Nat) (m:ah) (hbl:m.blocks.length<=1048576) (hcl:m.base.codes.length<=1048576) (hc1:1<=m.base.codes.length) (v:ab) (hv:iP m v) (most:Int):Ct Tryz.prog G 250 [.cp f (m.tw lo),.agg [.int .i64 v.kind,.int .i64 v.number,.str v.text],.int .i64 most] (fun _=>.bool (vQ m v most)):=by
 refine au Tryz.func250 rfl Tryz.ntmps250 rfl rfl fun w0 _ hG=>?_
 have hlen:=ap.len lo m.blocks
 have hlc:=aH.len lo m.base.codes
 by_cases h7:v.kind=7
 case neg =>
   rw[show vQ m v most=false from decide_eq_false fun h=>h7 h.1]
   unfold ah.tw
   repeat' (first|refine V_ ?_|refine aN ?_)
   exact r1_
 have hr:=lq hv h7
 obtain⟨n,hn⟩:∃n:Nat,v.number=n:=⟨v.number.toNat,by omega⟩
 have h1:n<m.blocks.length:=by omega
 have hr1:=mb (lo:=lo) h1
 have hbg:m.blocks[n]?=some m.blocks[n]:=Za h1
 generalize m.blocks[n]=b at hr1 hbg
 have c1:=bA (G:=G) b.code 0 ((m.base.codes.length - 1:Nat):Int)
 have hsub:(m.base.codes.length:Int) - 1=((m.base.codes.length - 1:Nat):Int):=by omega
 by_cases h2:0<=b.code/\b.code<m.base.codes.length
 case neg =>
   rw[show inR b.code 0 ((m.base.codes.length - 1:Nat):Int)=false from by simp only[inR,decide_eq_false_iff_not];omega] at c1
   rw[show vQ m v most=false from decide_eq_false fun h=>by
     obtain⟨_,b',x,hb',hx,_⟩:=h
     rw[hn,ZF,hbg] at hb'
     cases hb'
     obtain⟨h3,h4,_⟩:=adV hx
     omega]
   rw[h7,hn]
   unfold ah.tw
   repeat' (first|refine V_ ?_|refine aN ?_|refine ai hG hst (c1) ?_)
   exact r1_
 rw[show inR b.code 0 ((m.base.codes.length - 1:Nat):Int)=true from by simp only[inR,decide_eq_true_eq];omega] at c1
 obtain⟨q,hq⟩:∃q:Nat,b.code=q:=⟨b.code.toNat,by omega⟩
 have h3:q<m.base.codes.length:=by omega
 have hiff:=abZ (most:=most) h7 hn hbg hq (Za h3)
 have hr2:=ca (lo:=lo) h3
 rw[show vQ m v most=decide (m.base.codes[q].params<=most) from decide_eq_decide.2 hiff,h7,hn]
 rw[hq] at hr1 c1
 generalize m.base.codes[q]=x at hr2
 unfold ah.tw
 repeat' (first|refine V_ ?_|refine aN ?_|refine ai hG hst (c1) ?_)
 refine aM x_ rfl (.tmp _ _ rfl) (fun _=>?_)
 exact aO rfl
end
theorem tW (k:Int):k=1\/k=2\/k=3\/k=4\/k=5\/(¬ k=1/\¬ k=2/\¬ k=3/\¬ k=4/\¬ k=5):=by omega
theorem agY {α:Type} {l:List α} (h:l.length=1):∃a,l=[a]:=by
 match l,h with
 | [a],_=>exact⟨a,rfl⟩
theorem ahn {α:Type} {l:List α} (h:l.length=3):∃a b c,l=[a,b,c]:=by
 match l,h with
 | [a,b,c],_=>exact⟨a,b,c,rfl⟩
theorem xB {m:ah} {k i:Int} (h:inR i 0 (k - 1)=false):doB m k i=false:=by unfold doB;rw[h,Zl]
theorem acb {m:ah} {k i:Int} (h:inR i 0 (k - 1)=true):doB m k i=decide (mkA m i=1):=by unfold doB;rw[h,Zn]
theorem ace {m:ah} {k:Nat} (h:k<m.contexts.length):mkA m (k:Int)=m.contexts[k].mark:=by
 unfold mkA;rw[jr h]
theorem afz {m:ah} {k n:Int} {t:ByteArray} (h:cD m.store m.blocks.length ⟨k,n,t⟩=true):eqV ⟨k,n,t⟩ ⟨0,0,⟨#[]⟩⟩=decide (k=0):=by
 by_cases hk:k=0
 ·rw[decide_eq_true hk,ada (m:=m) h hk];rfl
 ·unfold eqV
  rw[decide_eq_false hk,Zl]
theorem yr {m:ah} {k:Nat} {c:aq} (h:k<m.contexts.length) (e:m.contexts[k]=c):cxA m (k:Int)=some c:=by rw[jr h,e]
theorem yG {m:ah} {k:Nat} {c:aH} (h:k<m.base.codes.length) (e:m.base.codes[k]=c):cdA m (k:Int)=some c:=by rw[ae7 h,e]
end Go.Proofs.YtofnnnpahglfdaaGreatDoor
