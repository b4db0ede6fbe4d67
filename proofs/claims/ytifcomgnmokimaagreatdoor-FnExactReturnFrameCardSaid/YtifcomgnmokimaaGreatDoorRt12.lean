/- Part 12 of the proof: the texts IvB, IvC, IvD, IvE, IvP, IvF, IvH. -/
import Derived.Test.YtifcomgnmokimaaGreatDoorRt3
import Derived.Test.YtifcomgnmokimaaGreatDoorRt8
import Derived.Test.YtifcomgnmokimaaGreatDoorRt7
import Derived.Test.YtifcomgnmokimaaGreatDoorRt4
set_option linter.all false
set_option maxHeartbeats 4000000
set_option maxRecDepth 20000
namespace Go.Proofs.YtifcomgnmokimaaGreatDoor
open Go Go.RowKit
theorem sB {i:Nat} {x:aa} (hx:bY[i]?=some x):((i=0->x.parent=-1)/\(i=2->x.parent=1)/\(i=3->x.parent=2)/\(i=4->x.parent=2)/\(i≠0->i≠2->i≠3->i≠4->x.parent=0))/\(i<16):=by
 have hi:i<16:=by
   have:=(List.getElem?_eq_some_iff.1 hx).1
   rwa [gB] at this
 refine⟨?_,hi⟩
 match i,hi,hx with
 | 0,_,hx=>cases hx;simp
 | 1,_,hx=>cases hx;simp
 | 2,_,hx=>cases hx;simp
 | 3,_,hx=>cases hx;simp
 | 4,_,hx=>cases hx;simp
 | 5,_,hx=>cases hx;simp
 | 6,_,hx=>cases hx;simp
 | 7,_,hx=>cases hx;simp
 | 8,_,hx=>cases hx;simp
 | 9,_,hx=>cases hx;simp
 | 10,_,hx=>cases hx;simp
 | 11,_,hx=>cases hx;simp
 | 12,_,hx=>cases hx;simp
 | 13,_,hx=>cases hx;simp
 | 14,_,hx=>cases hx;simp
 | 15,_,hx=>cases hx;simp
 | n+16,h,_=>omega
def tj (lo:Nat):List ByteArray->TV
 | []=>.nils
 | a::l=>.sl lo 1 (ca (a::l))
def aa.twN (lo:Nat) (x:aa):List TV:=[.str x.name,.int .i64 x.parent,tj lo x.fields]
theorem wK (B K:Nat) (objs:aG):∀l:List ByteArray,Fin B objs K (tj B l) (.sl K 1 (ca l))
 | []=>.nils 1
 | a::l=>df (f:=fun s:ByteArray=>[TV.str s]) (f':=fun s:ByteArray=>[TV.str s]) (fun x=>.cons (.flat rfl) .nil) (a::l)
theorem aa.finN (B K:Nat) (objs:aG) (x:aa):jr B objs K (x.twN B) (x.tw K):=.cons (.flat rfl) (.cons (.flat rfl) (.cons (wK B K objs x.fields) .nil))
section
variable {G:World->Prop}
theorem gA (hst:ay G):Ct Tryz.prog G 237 [] (fun K=>.sl K 3 (bY.map (aa.tw K))):=by
 refine av Tryz.func237 rfl Tryz.ntmps237 rfl rfl fun w0 _ hG=>?_
 have hlen:(ca de).length=16:=rfl
 have hbl:de.length=16:=rfl
 repeat' (first|refine W_ ?_|refine ae hG hst (qy) ?_|(refine jz ?_;intro ss bb))
 apply ap (X:=Nat×Nat) [6,7] (fun x=>[(8,.int .i64 (x.1:Int)),(1,.ms ss x.2 0 x.1)]) (fun x=>[(ss,x.2,.row 3 ((bY.take x.1).map (aa.twN w0.heap.size)))]) (fun x=>x.1<=16) (fun x=>16 - x.1) (0,bb) (Ze _)
 exact kp_;exact nw_
 ·exact .refl _
 rintro ⟨i,b⟩ hi
 dsimp only at hi |-
 by_cases hlt:i<16
 ·obtain⟨x,hx,h1,_,h3,h4⟩:=j1 hlt
  obtain⟨hp,_⟩:=sB hx
  have hle:((bY.take i).map (aa.twN w0.heap.size)).length=i:=by rw[Zf,Zu,gB];omega
  by_cases hf:1<=i/\i<=4
  ·have hin:inR (i:Int) 1 4=true:=by unfold inR;simp;omega
   have hw:Ct Tryz.prog G 49 [.int .i64 i,.int .i64 1,.int .i64 4] (fun _=>.bool true):=by rw[<- hin];exact aP _ _ _
   have hbf:jg (i:Int)=[⟨#[116,101,120,116]⟩]:=if_pos (by omega)
   rw[hbf] at h3
   have hrow:∀p:Int,p=x.parent->(bY.take i).map (aa.twN w0.heap.size)++[[TV.str x.name,.int .i64 p,.sl w0.heap.size 1 [[TV.str ⟨#[116,101,120,116]⟩]]]]=(bY.take (i+1)).map (aa.twN w0.heap.size):=fun p h=>by
     rw[h4,YG,h];show _++_=_++[[_,_,tj w0.heap.size x.fields]];rw[<- h3];rfl
   clear h4
   repeat' (first|refine W_ ?_|(refine ak ?_;intro ss bb)|refine er ?_|refine ac ?_|refine ae hG hst (hw) ?_|refine ef ?_|(refine vy ?_;intro bb)|refine c_ (fun hc=>?_) (fun hc=>?_)|refine g_ (fun hg=>?_) (fun hg=>?_))
   all_goals
     rw[hrow]
     ·exact ah (i+1,bb) (by dsimp only;omega) (by dsimp only;omega) (.of _ nw_ od_ pk_)
     ·omega
  ·have hin:inR (i:Int) 1 4=false:=by unfold inR;simp;omega
   have hw:Ct Tryz.prog G 49 [.int .i64 i,.int .i64 1,.int .i64 4] (fun _=>.bool false):=by rw[<- hin];exact aP _ _ _
   have hbf:jg (i:Int)=[]:=if_neg (by omega)
   rw[hbf] at h3
   have hrow:∀p:Int,p=x.parent->(bY.take i).map (aa.twN w0.heap.size)++[[TV.str x.name,.int .i64 p,.nils]]=(bY.take (i+1)).map (aa.twN w0.heap.size):=fun p h=>by
     rw[h4,YG,h];show _++_=_++[[_,_,tj w0.heap.size x.fields]];rw[<- h3];rfl
   clear h4
   repeat' (first|refine W_ ?_|(refine ak ?_;intro ss bb)|refine er ?_|refine ac ?_|refine ae hG hst (hw) ?_|refine ef ?_|(refine vy ?_;intro bb)|refine c_ (fun hc=>?_) (fun hc=>?_))
   all_goals
     rw[hrow]
     ·exact ah (i+1,bb) (by dsimp only;omega) (by dsimp only;omega) (.of _ nw_ od_ pk_)
     ·omega
 ·obtain rfl:i=16:=by omega
  repeat' refine W_ ?_
  refine aN x_ rfl (.tmp _ _ rfl) (fun _=>?_)
  exact abw (f':=aa.tw _) (fun x=>aa.finN _ _ _ x) Zi
end
theorem uP {l:List ByteArray} {s:ByteArray} {i:Nat} (h:i<l.length) (e:l[i]=s):kK l s=true:=by
 unfold kK
 exact List.any_eq_true.2 ⟨_,Zb h,by simp[e]⟩
theorem rp {l:List ByteArray} {s:ByteArray} (h:∀y∈l,y≠s):kK l s=false:=by
 unfold kK
 exact List.any_eq_false.2 fun y hy hb=>h y hy (ByteArray.ext (Array.toList_inj.1 (by simpa [Lib.toList_data] using hb)))
theorem mT {a b:List ByteArray} {i:Nat} (ha:i<a.length) (hb:i<b.length) (h:a.take i=b.take i) (e:a[i]=b[i]):a.take (i+1)=b.take (i+1):=by
 rw[Ye,Ye,h,Za ha,Za hb,e]
section
variable {G:World->Prop}
theorem yM (lo:Nat) (l:List ByteArray) (s:ByteArray) (hn:l.length<=1048576):Ct Tryz.prog G 222 [.sl lo 1 (ca l),.str s] (fun _=>.bool (kK l s)):=by
 refine av Tryz.func222 rfl Tryz.ntmps222 rfl rfl fun w0 _ hG=>?_
 have hlen:=cg l
 repeat' refine W_ ?_
 apply ap (X:=Nat) [0,1] (fun i=>[(5,.int .i64 (i:Int))]) (fun _=>[]) (fun i=>i<=l.length/\∀y∈l.take i,y≠s) (fun i=>l.length - i) 0 ⟨Ze _,by simp⟩
 exact kp_;exact nw_
 ·exact .refl _
 rintro i ⟨hi,hs⟩
 try dsimp only
 by_cases hlt:i<l.length
 ·have hrow:=e9 hlt
  have hta:=aY (p:=fun y=>y≠s) hlt hs
  have htr:=uP (s:=s) hlt
  generalize l[i]=x at hrow hta htr
  by_cases hx:x=s
  ·rw[htr hx]
   repeat' refine W_ ?_
   exact r1_
  ·repeat' refine W_ ?_
   exact ah (i+1) ⟨by omega,hta hx⟩ (by omega) (.of _ nw_ od_ pk_)
 ·rw[Zc (by omega)] at hs
  rw[rp hs]
  repeat' refine W_ ?_
  exact r1_
theorem j2 (l1 l2:Nat) (a b:List ByteArray) (hn:a.length<=1048576) (hm:b.length<=1048576):Ct Tryz.prog G 86 [.sl l1 1 (ca a),.sl l2 1 (ca b)] (fun _=>.bool (decide (a=b))):=by
 refine av Tryz.func86 rfl Tryz.ntmps86 rfl rfl fun w0 _ hG=>?_
 have hla:=cg a
 have hlb:=cg b
 by_cases hl:a.length=b.length
 ·repeat' refine W_ ?_
  apply ap (X:=Nat) [0,1] (fun i=>[(5,.int .i64 (i:Int))]) (fun _=>[]) (fun i=>i<=a.length/\a.take i=b.take i) (fun i=>a.length - i) 0 ⟨Ze _,by simp⟩
  exact kp_;exact nw_
  ·exact .refl _
  rintro i ⟨hi,hs⟩
  try dsimp only
  by_cases hlt:i<a.length
  ·have hr1:=e9 hlt
   have hlt2:i<b.length:=by omega
   have hr2:=e9 hlt2
   have hta:=mT hlt hlt2 hs
   have hne:a[i]≠b[i]->decide (a=b)=false:=fun h=>decide_eq_false fun e=>h (by subst e;rfl)
   generalize a[i]=x at hr1 hta hne
   generalize b[i]=y at hr2 hta hne
   by_cases hx:x=y
   ·have hx':¬ x≠y:=fun h=>h hx
    repeat' refine V_ ?_
    exact ah (i+1) ⟨by omega,hta hx⟩ (by omega) (.of _ nw_ od_ pk_)
   ·have hx':x≠y:=hx
    rw[hne hx]
    repeat' refine V_ ?_
    exact r1_
  ·rw[Zc (by omega),Zc (by omega)] at hs
   rw[decide_eq_true hs]
   repeat' refine W_ ?_
   exact r1_
 ·rw[decide_eq_false (p:=a=b) fun e=>hl (by rw[e])]
  repeat' refine W_ ?_
  exact r1_
theorem io (l1 l2:Nat) (a b:List ByteArray) (hn:a.length<=1048576) (hm:b.length<=1048576):Ct Tryz.prog G 31 [.sl l1 1 (ca a),.sl l2 1 (ca b)] (fun _=>.bool (decide (a=b))):=by
 refine av Tryz.func31 rfl Tryz.ntmps31 rfl rfl fun w0 _ hG=>?_
 have hla:=cg a
 have hlb:=cg b
 by_cases hl:a.length=b.length
 ·repeat' refine W_ ?_
  apply ap (X:=Nat) [0,1,12] (fun i=>[(13,.int .i64 (i:Int))]) (fun _=>[]) (fun i=>i<=a.length/\a.take i=b.take i) (fun i=>a.length - i) 0 ⟨Ze _,by simp⟩
  exact kp_;exact nw_
  ·exact .refl _
  rintro i ⟨hi,hs⟩
  try dsimp only
  by_cases hlt:i<a.length
  ·have hr1:=e9 hlt
   have hlt2:i<b.length:=by omega
   have hr2:=e9 hlt2
   have hta:=mT hlt hlt2 hs
   have hne:a[i]≠b[i]->decide (a=b)=false:=fun h=>decide_eq_false fun e=>h (by subst e;rfl)
   generalize a[i]=x at hr1 hta hne
   generalize b[i]=y at hr2 hta hne
   by_cases hx:x=y
   ·have hx':¬ x≠y:=fun h=>h hx
    repeat' refine V_ ?_
    exact ah (i+1) ⟨by omega,hta hx⟩ (by omega) (.of _ nw_ od_ pk_)
   ·have hx':x≠y:=hx
    rw[hne hx]
    repeat' refine V_ ?_
    exact r1_
  ·rw[Zc (by omega),Zc (by omega)] at hs
   rw[decide_eq_true hs]
   repeat' refine W_ ?_
   exact r1_
 ·rw[decide_eq_false (p:=a=b) fun e=>hl (by rw[e])]
  repeat' refine W_ ?_
  exact r1_
end
def adr (l:List ByteArray) (s:ByteArray):Int:=if kK l s then (l.findIdx (fun y=>decide (y=s)):Nat) else -1
theorem ae6 {l:List ByteArray} {s:ByteArray} {i:Nat} (h:i<l.length) (e:l[i]=s) (hb:∀y∈l.take i,y≠s):adr l s=i:=by
 unfold adr
 rw[if_pos (uP h e),(List.findIdx_eq (p:=fun y=>decide (y=s)) h).2 ⟨by simp[e],fun j hj=>?_⟩]
 refine decide_eq_false (hb _ ?_)
 exact List.mem_take_iff_getElem.2 ⟨j,by omega,rfl⟩
theorem abn {l:List ByteArray} {s:ByteArray} (h:∀y∈l,y≠s):adr l s=-1:=by
 unfold adr
 rw[rp h];rfl
section
variable {G:World->Prop}
theorem je (s:ByteArray) (hs:s.size<=1048576):Ct Tryz.prog G 238 [.str s] (fun _=>.bool (cV s.data.toList)):=iX fun w _=>(fH s w hs).mono fun _ _ h=>⟨h.1,wQ h.2⟩
theorem wC (s:ByteArray) (hs:s.size<=1048576):Ct Tryz.prog G 229 [.str s] (fun _=>.bool (ch s.data.toList)):=iX fun w _=>(fS s w hs).mono fun _ _ h=>⟨h.1,wQ h.2⟩
theorem aas:Ct Tryz.prog G 230 [] (fun K=>.sl K 1 (ca fT)):=by
 refine av Tryz.func230 rfl Tryz.ntmps230 rfl rfl fun w0 _ hG=>?_
 repeat' (first|refine W_ ?_|refine ef ?_)
 refine aN (r1:=.tmp 0) (t1:=.sl w0.heap.size 1 (ca fT)) (.inr rfl) rfl (.tmp _ _ rfl) (fun _=>?_)
 exact df (f:=fun s:ByteArray=>[TV.str s]) (f':=fun s:ByteArray=>[TV.str s]) (fun x=>.cons (.flat rfl) .nil) fT
theorem i5 (hst:ay G) (s:ByteArray) (hs:s.size<=1048576):Ct Tryz.prog G 221 [.str s] (fun _=>.bool (cV s.data.toList)):=by
 refine av Tryz.func221 rfl Tryz.ntmps221 rfl rfl fun w0 _ hG=>?_
 have hw:fT.length<=1048576:=by decide
 have hp:=wC (G:=G) s hs
 rw[show cV s.data.toList=(ch s.data.toList && !kK fT s) from by rw[md];rfl]
 cases h:ch s.data.toList
 all_goals
   rw[h] at hp
   cases h2:kK fT s
   all_goals
     have hh:=yM (G:=G) w0.heap.size fT s hw
     rw[h2] at hh
     repeat' (first|refine W_ ?_|refine ae hG hst (hp) ?_|refine ae hG hst (aas) ?_|refine ae hG hst (hh) ?_)
     exact r1_
theorem qt (lo:Nat) (l:List ByteArray) (s:ByteArray) (hn:l.length<=1048576):Ct Tryz.prog G 279 [.sl lo 1 (ca l),.str s] (fun _=>.int .i64 (adr l s)):=by
 refine av Tryz.func279 rfl Tryz.ntmps279 rfl rfl fun w0 _ hG=>?_
 have hlen:=cg l
 repeat' refine W_ ?_
 apply ap (X:=Nat) [0,1,7] (fun i=>[(8,.int .i64 (i:Int))]) (fun _=>[]) (fun i=>i<=l.length/\∀y∈l.take i,y≠s) (fun i=>l.length - i) 0 ⟨Ze _,by simp⟩
 exact kp_;exact nw_
 ·exact .refl _
 rintro i ⟨hi,hs⟩
 try dsimp only
 by_cases hlt:i<l.length
 ·have hrow:=e9 hlt
  have hta:=aY (p:=fun y=>y≠s) hlt hs
  have htr:l[i]=s->adr l s=i:=fun e=>ae6 hlt e hs
  generalize l[i]=x at hrow hta htr
  by_cases hx:x=s
  ·rw[htr hx]
   have hx2:s=x:=hx.symm
   repeat' refine W_ ?_
   exact r1_
  ·have hx2:¬ s=x:=fun e=>hx e.symm
   repeat' refine W_ ?_
   exact ah (i+1) ⟨by omega,hta hx⟩ (by omega) (.of _ nw_ od_ pk_)
 ·rw[Zc (by omega)] at hs
  rw[abn hs]
  repeat' refine W_ ?_
  exact r1_
theorem mf (hst:ay G) (lo:Nat) (l:List ByteArray) (s:ByteArray) (hn:l.length<=1048576):Ct Tryz.prog G 239 [.sl lo 1 (ca l),.str s] (fun _=>.bool (decide (adr l s ≥ 0))):=by
 refine av Tryz.func239 rfl Tryz.ntmps239 rfl rfl fun w0 _ hG=>?_
 repeat' (first|refine W_ ?_|refine ae hG hst (qt lo l s hn) ?_)
 exact r1_
theorem adl (l:List ByteArray) (s:ByteArray):decide (adr l s ≥ 0)=kK l s:=by
 unfold adr
 cases kK l s
 ·rfl
 ·rw[if_pos rfl];exact decide_eq_true (Int.natCast_nonneg _)
end
def pO (s:ByteArray):Bool:=decide (∀j,j<s.size->32<=bat s j/\bat s j<=126) && decide ((s.size:Int)<=40)
theorem ri {s:ByteArray} {i:Nat} (h:i<s.size) (hb:¬ (32<=bat s i/\bat s i<=126)):pO s=false:=by
 unfold pO
 rw[decide_eq_false fun hk=>hb (hk i h)];rfl
theorem oK {s:ByteArray} (h:∀j,j<s.size->32<=bat s j/\bat s j<=126):pO s=decide ((s.size:Int)<=40):=by
 unfold pO
 rw[decide_eq_true h];rfl
theorem cH {p:Nat->Prop} {i:Nat} (h:∀j,j<i->p j) (hi:p i):∀j,j<i+1->p j:=fun j hj=>by
 rcases YB j i with hk|hk
 ·exact h j hk
 ·obtain rfl:j=i:=by omega
  exact hi
section
variable {G:World->Prop}
theorem wM (s:ByteArray) (hs:s.size<=1048576):Ct Tryz.prog G 270 [.str s] (fun _=>.bool (pO s)):=by
 refine av Tryz.func270 rfl Tryz.ntmps270 rfl rfl fun w0 _ hG=>?_
 repeat' refine W_ ?_
 apply ap (X:=Nat) [0] (fun i=>[(3,.int .i64 (i:Int))]) (fun _=>[]) (fun i=>i<=s.size/\∀j,j<i->32<=bat s j/\bat s j<=126) (fun i=>s.size - i) 0 ⟨Ze _,by simp⟩
 exact kp_;exact nw_
 ·exact .refl _
 rintro i ⟨hi,hk⟩
 try dsimp only
 by_cases hlt:i<s.size
 ·have hb:=yJ s i
  by_cases hx:32<=bat s i/\bat s i<=126
  ·repeat' refine W_ ?_
   exact ah (i+1) ⟨by omega,cH hk hx⟩ (by omega) (.of _ nw_ od_ pk_)
  ·rw[ri hlt hx]
   repeat' (first|refine W_ ?_|refine g_ (fun hg=>?_) (fun hg=>?_))
   all_goals first
     | (exfalso;omega)
     | (exact r1_)
 ·rw[oK fun j hj=>hk j (by omega)]
  repeat' refine W_ ?_
  exact r1_
theorem vA (hst:ay G) (s:ByteArray) (hs:s.size<=1048576):Ct Tryz.prog G 248 [.str s] (fun _=>.bool (pO s)):=by
 refine av Tryz.func248 rfl Tryz.ntmps248 rfl rfl fun w0 _ hG=>?_
 repeat' refine W_ ?_
 apply ap (X:=Nat) [0] (fun i=>[(3,.int .i64 (i:Int))]) (fun _=>[]) (fun i=>i<=s.size/\∀j,j<i->32<=bat s j/\bat s j<=126) (fun i=>s.size - i) 0 ⟨Ze _,by simp⟩
 exact kp_;exact nw_
 ·exact .refl _
 rintro i ⟨hi,hk⟩
 try dsimp only
 by_cases hlt:i<s.size
 ·have hb:=yJ s i
  by_cases hx:32<=bat s i/\bat s i<=126
  ·have hw:Ct Tryz.prog G 49 [.int .i64 (bat s i),.int .i64 32,.int .i64 126] (fun _=>.bool true):=by rw[<- show inR (bat s i) 32 126=true from by unfold inR;simp;omega];exact aP _ _ _
   repeat' (first|refine W_ ?_|refine ae hG hst (hw) ?_)
   exact ah (i+1) ⟨by omega,cH hk hx⟩ (by omega) (.of _ nw_ od_ pk_)
  ·have hw:Ct Tryz.prog G 49 [.int .i64 (bat s i),.int .i64 32,.int .i64 126] (fun _=>.bool false):=by rw[<- show inR (bat s i) 32 126=false from by unfold inR;simp;omega];exact aP _ _ _
   rw[ri hlt hx]
   repeat' (first|refine W_ ?_|refine ae hG hst (hw) ?_)
   exact r1_
 ·rw[oK fun j hj=>hk j (by omega)]
  repeat' refine W_ ?_
  exact r1_
end
def fieldAt (f:List ByteArray) (k:Nat) (s:ByteArray):Bool:=cV s.data.toList && !kK (f.take k) s
def sD (f:List ByteArray):Prop:=∀(k:Nat) (h:k<f.length),fieldAt f k f[k]=true
def dT (l:List aa) (i:Nat) (x:aa):Prop :=
 cV x.name.data.toList=true/\(0<=x.parent/\x.parent<i)/\¬ (5<=x.parent/\x.parent<=15)/\x.fields.length<=8
instance (l:List aa) (i:Nat) (x:aa):Decidable (dT l i x):=by unfold dT;infer_instance
def tQ (l:List aa) (i:Nat) (x:aa):Prop:=∀y∈l.take i,y.name≠x.name
def eW (l:List aa) (x:aa):List ByteArray:=match l[x.parent.toNat]? with
 | some p=>p.fields
 | none=>[]
def acF (l:List aa) (x:aa):Prop:=(eW l x).length<=x.fields.length/\x.fields.take (eW l x).length=eW l x
def fk (l:List aa) (i:Nat) (x:aa):Prop :=
 if i<16 then ∃b,bY[i]?=some b/\x.name=b.name/\x.parent=b.parent/\x.fields=b.fields
 else dT l i x/\tQ l i x/\acF l x/\sD x.fields
def ml (l:List aa):Prop:=(16<=l.length/\l.length<=24)/\∀(i:Nat) (h:i<l.length),fk l i l[i]
open Classical in
noncomputable def cn (l:List aa):Bool:=decide (ml l)
open Classical in
theorem lL {l:List aa} (h:¬ (16<=l.length/\l.length<=24)):cn l=false:=decide_eq_false fun k=>h k.1
open Classical in
theorem lb {l:List aa} {i:Nat} (h:i<l.length) (hb:¬ fk l i l[i]):cn l=false:=decide_eq_false fun k=>hb (k.2 i h)
open Classical in
theorem ke {l:List aa} (hl:16<=l.length/\l.length<=24) (h:∀j,j<l.length->∀h:j<l.length,fk l j l[j]):cn l=true:=decide_eq_true ⟨hl,fun i hi=>h i hi hi⟩
theorem pL {l:List aa} {i:Nat} {x b:aa} (h:i<16) (hb:bY[i]?=some b):fk l i x↔x.name=b.name/\x.parent=b.parent/\x.fields=b.fields:=by
 unfold fk
 rw[if_pos h]
 constructor
 ·rintro ⟨c,hc,k⟩
  rw[hb] at hc;cases hc;exact k
 ·exact fun k=>⟨b,hb,k⟩
theorem ng {l:List aa} {i:Nat} {x:aa} (h:¬ i<16):fk l i x↔dT l i x/\tQ l i x/\acF l x/\sD x.fields:=by
 unfold fk
 rw[if_neg h]
theorem jH {l:List aa} {x p:aa} {k:Nat} (h:x.parent=k) (hp:l[k]?=some p):eW l x=p.fields:=by
 unfold eW
 rw[h,ZB,hp]
theorem nu {f:List ByteArray} {k:Nat} (h:k<f.length) (hb:fieldAt f k f[k]=false):¬ sD f:=fun a=>by
 have:=a k h
 rw[hb] at this;cases this
theorem acf {G:World->Prop} (op:Int):Ct Tryz.prog G 245 [.int .i64 op] (fun _=>.tup [.bool (af5 op),.bool (agO op),.bool (agB op)]):=by
 refine av Tryz.func245 rfl Tryz.ntmps245 rfl rfl fun w0 _ hG=>?_
 repeat' (first|with_reducible refine dJ rfl ?_|((with_reducible apply o_y);exact y_;rfl)|with_reducible refine d8 ?_|with_reducible refine cP ?_|with_reducible refine gp ?_|with_reducible refine eK ?_|with_reducible refine du ?_|with_reducible refine eL ?_|with_reducible refine eI ?_|with_reducible refine gG ?_|with_reducible refine bP ?_|with_reducible refine bE rfl ?_|with_reducible refine bM ?_|with_reducible refine bZ ?_|with_reducible refine bN ?_|with_reducible refine dG ?_|with_reducible refine dJ rfl ?_|refine jI rfl rfl rfl rr_ ?_|refine gM rfl rfl rfl rr_ rfl rfl rfl ?_|refine fc rfl rfl rfl rr_ rfl rfl ?_|(refine oC rfl rfl rfl rr_ dd_ ?_)|(refine pK rfl rfl rfl rr_ dd_ ?_)|(refine ew rfl rfl rfl rr_ (fun hg=>?_) (fun hg=>?_))|(refine ed rfl rfl rfl rr_ (fun hg=>?_) (fun hg=>?_))|refine cQ rfl rr_ ?_|refine cO rfl rr_ ?_|(refine cw rfl rr_ dd_ ?_)|(refine cu rfl rr_ dd_ ?_)|(refine eZ rfl rr_ (fun hc=>?_) (fun hc=>?_))|(refine dQ rfl rr_ (fun hc=>?_) (fun hc=>?_)))
 all_goals
   refine abk x_ rfl (.tmp _ _ rfl) (.tmp _ _ rfl) (.tmp _ _ rfl) (fun _=>?_) (fun _=>?_) (fun _=>?_)
   all_goals
     refine aL ?_
     simp only[af5,agO,agB]
     symm
     first|(rw[decide_eq_true_iff];omega)|(rw[decide_eq_false_iff_not];omega)
section
variable {G:World->Prop}
theorem mY (hst:ay G) (lo:Nat) (l:List aa) (hsm:l.length<=1048576/\∀y∈l,aa.small 1048576 y):Ct Tryz.prog G 178 [.sl lo 3 (l.map (aa.tw lo))] (fun _=>.bool (cn l)):=by
 refine av Tryz.func178 rfl Tryz.ntmps178 rfl rfl fun w0 _ hG=>?_
 have hlen:=aa.len lo l
 have hbl:=aa.len w0.heap.size bY
 rw[gB] at hbl
 have hl1:=hsm.1
 have hwi:=aP (G:=G) (l.length:Int) 16 24
 by_cases hl:16<=l.length/\l.length<=24
 ·rw[wP (by omega)] at hwi
  repeat' (first|refine W_ ?_|refine ae hG hst (hwi) ?_)
  apply ap (X:=Nat) [0,15,16] (fun i=>[(17,.int .i64 (i:Int))]) (fun _=>[]) (fun i=>i<=l.length/\∀j,j<i->∀h:j<l.length,fk l j l[j]) (fun i=>l.length - i) 0 ⟨Ze _,by simp⟩
  exact kp_;exact nw_
  ·exact .nil _
  rintro i ⟨hi,hk⟩
  try dsimp only
  by_cases hlt:i<l.length
  ·have hra:(l.map (aa.tw lo))[i]?=some (l[i].tw lo):=aK hlt
   have hbi:=hsm.2 _ (Zb hlt)
   have hbad:=lb hlt
   have hks:fk l i l[i]->∀j,j<i+1->∀h:j<l.length,fk l j l[j]:=fun ho=>cH hk fun _=>ho
   generalize l[i]=x at hra hbi hbad hks
   rw[show x.tw lo=[.str x.name,.int .i64 x.parent,.sl lo 1 (ca x.fields)] from rfl] at hra
   by_cases hlow:i<16
   ·obtain⟨bi,hb,_,_,h3,_⟩:=j1 hlow
    have hrb:(bY.map (aa.tw w0.heap.size))[i]?=some [.str bi.name,.int .i64 bi.parent,.sl w0.heap.size 1 (ca bi.fields)]:=by rw[Zj,hb];rfl
    rw[pL hlow hb] at hbad hks
    have hbf:bi.fields.length<=1048576:=by rw[<- h3];unfold jg;split <;> simp
    have heq:=io (G:=G) lo w0.heap.size x.fields bi.fields hbi.2.1 hbf
    clear h3
    by_cases ho:x.name=bi.name/\x.parent=bi.parent/\x.fields=bi.fields
    ·have n1:¬ x.name≠bi.name:=fun h=>h ho.1
     have n2:¬ x.parent≠bi.parent:=fun h=>h ho.2.1
     rw[decide_eq_true ho.2.2] at heq
     repeat' (first|refine W_ ?_|(refine ak ?_;intro ss bb)|refine ac ?_|refine ae hG hst (gA hst) ?_|refine ae hG hst (heq) ?_)
     exact ah (i+1) ⟨by omega,hks ho⟩ (by omega) (.of _ nw_ od_ (bS.nil _))
    ·rw[hbad ho]
     clear hks hbad
     by_cases hfe:x.fields=bi.fields
     ·rw[decide_eq_true hfe] at heq
      repeat' (first|refine W_ ?_|(refine ak ?_;intro ss bb)|refine ac ?_|refine ae hG hst (gA hst) ?_|refine ae hG hst (heq) ?_|refine g_ (fun hg=>?_) (fun hg=>?_))
      all_goals first
        | (exfalso;exact ho ⟨Decidable.of_not_not (by assumption),Decidable.of_not_not (by assumption),hfe⟩)
        | (exact r1_)
     ·rw[decide_eq_false hfe] at heq
      repeat' (first|refine W_ ?_|(refine ak ?_;intro ss bb)|refine ac ?_|refine ae hG hst (gA hst) ?_|refine ae hG hst (heq) ?_|refine g_ (fun hg=>?_) (fun hg=>?_))
      all_goals
        exact r1_
   ·rw[ng hlow] at hbad hks
    obtain⟨nm,par,fs⟩:=x
    dsimp only at hra hbi hbad hks
    have hx1:nm.size<=1048576:=hbi.1
    have hx2:fs.length<=1048576:=hbi.2.1
    have hx3:∀y∈fs,ByteArray.size y<=1048576:=hbi.2.2
    have hfl:=cg fs
    clear hbl
    repeat' (first|refine H_ 10 ?_|(refine ak ?_;intro ss bb)|refine ac ?_)
    refine⟨d8 ?_⟩
    generalize ss=s3;generalize bb=b3
    apply gq (X:=Unit) [0,3,4,15,16,17] (fun _=>[(70,.bool (!decide (dT l i ⟨nm,par,fs⟩)))]) (fun _=>[(s3,b3,.box [.str nm,.int .i64 par,.sl lo 1 (ca fs)])]) (fun _=>True)
    case hk=>(repeat (first|exact j9.nil|(apply j9.cons;rfl)))
    ·repeat' (first|refine W_ ?_|refine ae hG hst (je _ hx1) ?_|refine ae hG hst (aP _ _ _) ?_|refine g_ (fun hg=>?_) (fun hg=>?_))
     all_goals
       refine eR () trivial (.of _ (cW.envCons (km rfl ?_) cW.envNil) od_ pk_)
       clear hbad hks hk hra hbi
       simp only[Z9,Y3,inR,decide_eq_true_eq,decide_eq_false_iff_not] at *
       by_cases h8:(8:Int)<(fs.length:Int)
       all_goals (try simp only[h8,decide_true,decide_false])
       all_goals first
         | (have:dT l i ⟨nm,par,fs⟩:=⟨by assumption,by dsimp only;omega,by dsimp only;omega,by dsimp only;omega⟩
            simp only[decide_eq_true this,YA]
            done)
         | (have : ¬ dT l i ⟨nm, par, fs⟩ := fun h => by
              obtain⟨h1,h2,h3,h4⟩:=h
              dsimp only at h1 h2 h3 h4
              first
                | omega
                | (simp only[h1] at *;done)
                | (simp_all;done)
            simp only[decide_eq_false this,Yq]
            done)
    intro _ _
    by_cases hh:dT l i ⟨nm,par,fs⟩
    ·rw[decide_eq_true hh,YA]
     have hh2:=hh.2
     obtain⟨⟨hp0,hp1⟩,_,hf8⟩:=hh2
     dsimp only at hp0 hp1 hf8
     obtain⟨p,rfl⟩:∃p:Nat,par=p:=⟨par.toNat,by omega⟩
     have hpl:p<l.length:=by omega
     have hrp:(l.map (aa.tw lo))[p]?=some (l[p].tw lo):=aK hpl
     have hbp:=hsm.2 _ (Zb hpl)
     have hpf:=jH (x:=⟨nm,(p:Int),fs⟩) rfl (Za hpl)
     generalize l[p]=y at hrp hbp hpf
     obtain⟨pn,pp,pf⟩:=y
     replace hrp:(l.map (aa.tw lo))[p]?=some [.str pn,.int .i64 pp,.sl lo 1 (ca pf)]:=hrp
     have hx4:pf.length<=1048576:=hbp.2.1
     have hpl2:=cg pf
     have htl:((l.map (aa.tw lo)).take i).length=i:=by simp;omega
     repeat' (first|refine W_ ?_|refine zU ?_)
     apply ap (X:=Nat) [0,3,4,15,16,17,73,74] (fun k=>[(75,.int .i64 (k:Int))]) (fun _=>[(s3,b3,.box [.str nm,.int .i64 (p:Int),.sl lo 1 (ca fs)])]) (fun k=>k<=i/\∀y∈l.take k,y.name≠nm) (fun k=>i - k) 0 ⟨Ze _,by simp⟩
     exact kp_;exact nw_
     ·exact .refl _
     rintro k ⟨hki,hkn⟩
     try dsimp only
     by_cases hlk:k<i
     ·have hlk2:k<l.length:=by omega
      have hrk:((l.map (aa.tw lo)).take i)[k]?=some (l[k].tw lo):=by rw[List.getElem?_take_of_lt hlk];exact aK hlk2
      have hta:=aY (p:=fun y:aa=>y.name≠nm) hlk2 hkn
      have hmem:l[k]∈l.take i:=List.mem_take_iff_getElem.2 ⟨k,by omega,rfl⟩
      generalize l[k]=z at hrk hta hmem
      obtain⟨zn,zp,zf⟩:=z
      replace hrk:((l.map (aa.tw lo)).take i)[k]?=some [.str zn,.int .i64 zp,.sl lo 1 (ca zf)]:=hrk
      by_cases hzn:zn=nm
      ·rw[hbad fun h=>h.2.1 _ hmem hzn]
       repeat' (first|refine W_ ?_|(refine ak ?_;intro ss bb)|refine ac ?_)
       exact r1_
      ·repeat' (first|refine W_ ?_|(refine ak ?_;intro ss bb)|refine ac ?_)
       exact ah (k+1) ⟨by omega,hta hzn⟩ (by omega) (.of _ nw_ od_ pk_)
     ·obtain rfl:k=i:=by omega
      clear hlk
      by_cases hhe:pf.length<=fs.length/\fs.take pf.length=pf
      ·have heq:=io (G:=G) lo lo (fs.take pf.length) pf (by simp;omega) hx4
       rw[decide_eq_true hhe.2] at heq
       have hsl:(ca fs).take pf.length=ca (fs.take pf.length):=by simp[ca,Xa]
       have hle:=hhe.1
       repeat' (first|refine W_ ?_|refine zU ?_|refine ae hG hst (heq) ?_)
       apply ap (X:=Nat) [0,3,4,8,15,16,17,108,109] (fun k=>[(110,.int .i64 (k:Int))]) (fun _=>[(s3,b3,.box [.str nm,.int .i64 (p:Int),.sl lo 1 (ca fs)])]) (fun k=>k<=fs.length/\∀j,j<k->∀h:j<fs.length,fieldAt fs j fs[j]=true) (fun k=>fs.length - k) 0 ⟨Ze _,by omega⟩
       exact kp_;exact nw_
       ·exact .refl _
       rintro q ⟨hq,hqa⟩
       try dsimp only
       by_cases hqf:q<fs.length
       ·have hfr:=e9 hqf
        have hqs:=hx3 _ (Zb hqf)
        have hqb:=nu hqf
        have hqn:fieldAt fs q fs[q]=true->∀j,j<q+1->∀h:j<fs.length,fieldAt fs j fs[j]=true:=fun h=>cH hqa fun _=>h
        generalize fs[q]=f at hfr hqs hqb hqn
        have hname:=je (G:=G) f hqs
        have hhas:=mf (G:=G) hst lo (fs.take q) f (by simp;omega)
        rw[adl] at hhas
        have hsq:(ca fs).take q=ca (fs.take q):=by simp[ca,Xa]
        have hqle:q<=fs.length:=hq
        by_cases hqo:fieldAt fs q f=true
        ·have hqo2:=hqo
         unfold fieldAt at hqo2
         rw[Zq,Z9] at hqo2
         rw[hqo2.1] at hname
         rw[hqo2.2] at hhas
         repeat' (first|refine W_ ?_|refine zU ?_|refine ae hG hst (hname) ?_|refine ae hG hst (hhas) ?_)
         exact ah (q+1) ⟨by omega,hqn hqo⟩ (by omega) (.of _ nw_ od_ pk_)
        ·rw[hbad fun h=>hqb (Bool.eq_false_iff.2 hqo) h.2.2.2]
         by_cases hqs1:cV f.data.toList=true
         ·have hqs2:kK (fs.take q) f=true:=by
            unfold fieldAt at hqo
            rw[hqs1,Zn] at hqo
            simpa using hqo
          rw[hqs1] at hname
          rw[hqs2] at hhas
          repeat' (first|refine W_ ?_|refine zU ?_|refine ae hG hst (hname) ?_|refine ae hG hst (hhas) ?_)
          exact r1_
         ·rw[Bool.eq_false_iff.2 hqs1] at hname
          repeat' (first|refine W_ ?_|refine ae hG hst (hname) ?_)
          exact r1_
       ·obtain rfl:q=fs.length:=by omega
        repeat' refine W_ ?_
        exact ah (k+1) ⟨by omega,hks ⟨hh,hkn,⟨by rw[hpf];exact hhe.1,by rw[hpf];exact hhe.2⟩,fun j hj=>hqa j hj hj⟩⟩ (by omega) (.of _ nw_ od_ (bS.nil _))
      ·rw[hbad fun h=>hhe (by have:=h.2.2.1;unfold acF at this;rw[hpf] at this;exact this)]
       by_cases hle:pf.length<=fs.length
       ·have heq:=io (G:=G) lo lo (fs.take pf.length) pf (by simp;omega) hx4
        rw[decide_eq_false fun h=>hhe ⟨hle,h⟩] at heq
        have hsl:(ca fs).take pf.length=ca (fs.take pf.length):=by simp[ca,Xa]
        repeat' (first|refine W_ ?_|refine zU ?_|refine ae hG hst (heq) ?_)
        exact r1_
       ·repeat' refine W_ ?_
        exact r1_
    ·rw[decide_eq_false hh,Yq,hbad fun h=>hh h.1]
     repeat' refine W_ ?_
     exact r1_
  ·rw[ke hl fun j hj=>hk j (by omega)]
   repeat' refine W_ ?_
   exact r1_
 ·rw[acX (by omega)] at hwi
  rw[lL hl]
  repeat' (first|refine W_ ?_|refine ae hG hst (hwi) ?_)
  exact r1_
end
end Go.Proofs.YtifcomgnmokimaaGreatDoor
