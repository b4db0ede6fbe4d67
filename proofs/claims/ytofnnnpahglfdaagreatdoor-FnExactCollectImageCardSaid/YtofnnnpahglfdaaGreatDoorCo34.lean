/- Part 34 of the proof: the texts ImP, ImQ, ImO, CpE, NiZ, NiZ2, ZR. -/
import Derived.Test.YtofnnnpahglfdaaGreatDoorCo30
import Derived.Test.YtofnnnpahglfdaaGreatDoorCo31
import Derived.Test.YtofnnnpahglfdaaGreatDoorCo3
import Derived.Test.YtofnnnpahglfdaaGreatDoorCo15
import Derived.Test.YtofnnnpahglfdaaGreatDoorCo8
import Derived.Test.YtofnnnpahglfdaaGreatDoorCo14
import Derived.Test.YtofnnnpahglfdaaGreatDoorCo23
import Derived.Test.YtofnnnpahglfdaaGreatDoorCo7
set_option linter.all false
set_option maxHeartbeats 4000000
set_option maxRecDepth 20000
namespace Go.Proofs.YtofnnnpahglfdaaGreatDoor
open Go Go.RowKit
theorem lT {lo:Nat} {l:List az} {i:Nat} (h:i<l.length):(l.map (az.tw lo))[i]?=some [.int .i64 l[i].kind,.int .i64 l[i].class_,.sl lo 3 (l[i].fields.map (ab.tw lo)),.sl lo 1 (aL l[i].numbers)]:=aK h
theorem agA {m:ah} {oc:Int} {fs:List ab} {n0 n1 n2:Int}:yy m ⟨1,oc,fs,[n0,n1,n2]⟩↔aaT m n0 n1 n2:=by
 unfold yy
 constructor
 ·intro h;exact h rfl n0 n1 n2 rfl
 ·intro h _ a b c e
  simp only[List.cons.injEq] at e
  obtain⟨rfl,rfl,rfl,_⟩:=e
  exact h
open Classical in
noncomputable def xd (m:ah):Bool:=decide (∀o∈m.store.objects,yy m o)
open Classical in
theorem agm {m:ah} {o:az} (ho:o∈m.store.objects) (h:¬ yy m o):xd m=false:=decide_eq_false fun k=>h (k o ho)
open Classical in
theorem agF {m:ah} (h:∀o∈m.store.objects,yy m o):xd m=true:=decide_eq_true h
theorem agP {l:List Int} (h:l.length=3):∃a b c,l=[a,b,c]:=by
 match l,h with
 | [a,b,c],_=>exact⟨a,b,c,rfl⟩
section
variable {G:World->Prop}
theorem xF (lo:Nat) (l:List Int) (v:Int) (hn:l.length<=1000000000):Ct Tryz.prog G 185 [.sl lo 1 (aL l),.int .i64 v] (fun _=>.bool (decide (v∈l))):=by
 refine au Tryz.func185 rfl Tryz.ntmps185 rfl rfl fun w0 _ hG=>?_
 have hlen:=ae l
 repeat' refine W_ ?_
 apply aj (X:=Nat) [0,1] (fun i=>[(5,.int .i64 (i:Int))]) (fun _=>[]) (fun i=>i<=l.length/\∀y∈l.take i,y≠v) (fun i=>l.length - i) 0 ⟨Zd _,by simp⟩
 exact kp_;exact nw_
 ·exact .refl _
 rintro i ⟨hi,hs⟩
 try dsimp only
 by_cases hlt:i<l.length
 ·have hrow:=ko hlt
  have hta:=bu (p:=fun y=>y≠v) hlt hs
  have hmm:=Zb hlt
  generalize l[i]=x at hrow hta hmm
  by_cases hx:x=v
  ·rw[decide_eq_true (hx ▸ hmm)]
   repeat' refine W_ ?_
   exact r1_
  ·repeat' refine W_ ?_
   exact ag (i+1) ⟨by omega,hta hx⟩ (by omega) (.of _ nw_ od_ pk_)
 ·rw[Zc (by omega)] at hs
  rw[decide_eq_false fun h=>hs v h rfl]
  repeat' refine W_ ?_
  exact r1_
end
def pF (m:ah) (L:List Int):Prop:=(∀p∈L,0<=p/\p<m.processes.length)/\L.Nodup
open Classical in
noncomputable def alO (m:ah):Option (List Int):=if pF m (np m++m.ready++tH m) then some (np m++m.ready++tH m) else none
open Classical in
theorem ag2 {m:ah} {L:List Int} (e:L=np m++m.ready++tH m) (h:pF m L):alO m=some L:=by subst e;exact if_pos h
open Classical in
theorem ag5 {m:ah} {L:List Int} (e:L=np m++m.ready++tH m) (h:¬ pF m L):alO m=none:=by subst e;exact if_neg h
open Classical in
theorem ad5 {m:ah} {L:List Int} (h:alO m=some L):L=np m++m.ready++tH m/\pF m L:=by
 unfold alO at h
 split at h
 ·rename_i hp
  cases h
  exact⟨rfl,hp⟩
 ·cases h
open Classical in
theorem ael {m:ah} (h:alO m=none):¬ pF m (np m++m.ready++tH m):=by
 unfold alO at h
 split at h
 ·cases h
 ·assumption
noncomputable def aaZ (m:ah) (K:Nat):TV:=.tup [.sl K 1 (aL ((alO m).getD [])),.bool (alO m).isSome]
theorem ri {L:List Int} {i:Nat} (h:i<L.length) (hn:(L.take i).Nodup) (hx:L[i]∉L.take i):(L.take (i+1)).Nodup:=by
 rw[dV h,Xl]
 refine⟨hn,by simp,fun a ha b hb e=>?_⟩
 rw[Zy] at hb
 subst hb
 exact hx (e ▸ ha)
theorem vG {L:List Int} {i:Nat} (h:i<L.length) (hx:L[i]∈L.take i):¬ L.Nodup:=fun hn=>by
 rw[<- YT i L,Xl] at hn
 exact hn.2.2 _ hx L[i] (by rw[ZH h];exact Zi) rfl
theorem sB (a b:List Int):aL a++aL b=aL (a++b):=by simp[aL]
theorem tS (a:List Int) (n:Nat):(aL a).drop n=aL (a.drop n):=by simp[aL]
theorem vr (a:List Int) (n:Nat):(aL a).take n=aL (a.take n):=by simp[aL]
theorem pz {l:List az} {i:Nat} (h:i<l.length):(l.take (i+1)).flatMap vH=(l.take i).flatMap vH++vH l[i]:=by
 rw[dV h,Xe];simp
theorem vV {l:List az} {i:Nat} (hi:i<=l.length) (hs:∀o∈l,o.numbers.length<=1048576):((l.take i).flatMap vH).length<=i * 1048576:=by
 induction i with
 | zero=>simp
 | succ i ih =>
   have hlt:i<l.length:=by omega
   rw[pz hlt,Zs]
   have h1:=ih (by omega)
   have h2:(vH l[i]).length<=1048576:=by
     have:=hs _ (Zb hlt)
     unfold vH
     split
     ·rw[Yw];omega
     ·simp
   omega
theorem xO (m:ah):(np m).length<=1:=by unfold np;split <;> simp
theorem xM (f lo:Nat) (m:ah) (hsm:m.small 1048576) (h800:m.store.objects.length<=800) (hsem:∀o∈m.store.objects,o.kind=3->1<=o.numbers.length) (hp1:1<=m.processes.length):Ct Tryz.prog GL 105 [.cp f (m.tw lo)] (aaZ m):=by
 refine au Tryz.func105 rfl Tryz.ntmps105 rfl rfl fun w0 _ hG=>?_
 have hst:=d8
 have hlo:=az.len lo m.store.objects
 have hlp:=ao.len lo m.processes
 have hpl:=hsm.2.2.2.2.1.1
 have hrl:=hsm.2.2.2.2.2.1
 have hrl2:=ae m.ready
 have hnum:∀o∈m.store.objects,o.numbers.length<=1048576:=fun o h=>(hsm.2.1.2.1.2 o h).2
 have hsl:=fun(i:Nat) (h:i<=m.store.objects.length)=>vV h hnum
 have hnl:=xO m
 have hnow:np m=if m.status=0 then [m.now] else []:=rfl
 unfold aaZ
 unfold ah.tw
 repeat' (first|refine H_ 2 ?_|((with_reducible apply ni (n:=0));rfl;rfl;kernel_rfl;kernel_rfl;rfl;kernel_rfl;rfl;rfl;rfl;rfl;intro ss bb))
 refine⟨?_⟩
 generalize ss=s4;generalize bb=b4
 apply gq (X:=Nat) [0] (fun b=>[(4,.ms s4 b 0 (np m).length)]) (fun b=>[(s4,b,.row 1 (aL (np m)))]) (fun _=>True)
 case hk=>(repeat (first|exact jY.nil|(apply jY.cons;rfl)))
 ·rw[hnow]
  by_cases hs:m.status=0
  ·rw[if_pos hs]
   repeat' (first|refine W_ ?_|refine cK ?_|((with_reducible apply ee);rfl;rfl;rfl;kernel_rfl;(repeat (first|with_reducible exact mh|with_reducible refine mt ?_));exact(rfl:_=1);omega;(intro bq;(repeat (first|with_reducible exact Upd.head _|with_reducible apply Upd.tail)));intro bb))
   exact eG _ trivial (.of _ nw_ od_ pk_)
  ·rw[if_neg hs]
   repeat' refine W_ ?_
   exact eG b4 trivial (.of _ nw_ od_ pk_)
 clear hnow
 intro b5 _
 generalize hN0:np m=N0 at hnl |-
 have hap1:=sB N0 m.ready
 repeat' (first|refine W_ ?_|((with_reducible apply bT);rfl;rfl;rfl;kernel_rfl;(repeat (first|with_reducible exact mh|with_reducible refine mt ?_));exact ae _;exact hrl2;omega;exact hap1;(intro bq;(repeat (first|with_reducible exact Upd.head _|with_reducible apply Upd.tail)));intro bb))
 rw[<- Zs]
 apply aj (X:=Nat×Nat×List Int) [0] (fun x=>[(5,.int .i64 (x.1:Int)),(4,.ms s4 x.2.1 0 x.2.2.length)]) (fun x=>[(s4,x.2.1,.row 1 (aL x.2.2))]) (fun x=>x.1<=m.store.objects.length/\x.2.2=N0++m.ready++(m.store.objects.take x.1).flatMap vH) (fun x=>m.store.objects.length - x.1) (0,bb,N0++m.ready) ⟨Zd _,by simp⟩
 exact kp_;exact nw_
 ·exact .refl _
 rintro ⟨i,b6,A⟩ ⟨hi,hA⟩
 dsimp only at hi hA |-
 have hAl:A.length<=1+1048576+i * 1048576:=by
   rw[hA,Zs,Zs]
   have:=hsl i hi
   omega
 by_cases hlt:i<m.store.objects.length
 ·have hrow:=lT (lo:=lo) hlt
  have hsn:=pz hlt
  have hol:=hnum _ (Zb hlt)
  have hse:=hsem _ (Zb hlt)
  have hA2:A++vH m.store.objects[i]=N0++m.ready++(m.store.objects.take (i+1)).flatMap vH:=by rw[hsn,hA,Zh (N0++m.ready)]
  clear hsn hsem hsl hnum
  generalize m.store.objects[i]=o at hrow hol hse hA2
  obtain⟨ok,oc,fs,ns⟩:=o
  dsimp only at hrow hol hse
  unfold vH at hA2
  dsimp only at hA2
  have hnl2:=ae ns
  by_cases hk:ok=3
  ·rw[if_pos hk] at hA2
   have h1:=hse hk
   have hdr:=tS ns 1
   have hdl:=ae (ns.drop 1)
   have hdl2:(ns.drop 1).length<=1048576:=by rw[Yw];omega
   have hap:=sB A (ns.drop 1)
   repeat' (first|refine W_ ?_|(refine am ?_;intro ss bb)|refine ac ?_|refine afO ?_|((with_reducible apply bT);rfl;rfl;rfl;kernel_rfl;(repeat (first|with_reducible exact mh|with_reducible refine mt ?_));exact ae _;exact hdl;omega;exact hap;(intro bq;(repeat (first|with_reducible exact Upd.head _|with_reducible apply Upd.tail)));intro bb))
   rw[<- Zs]
   exact ag (i+1,_,A++ns.drop 1) ⟨by dsimp only;omega,hA2⟩ (by dsimp only;omega) (.of _ nw_ od_ pk_)
  ·rw[if_neg hk,Zo] at hA2
   repeat' (first|refine W_ ?_|(refine am ?_;intro ss bb)|refine ac ?_)
   exact ag (i+1,b6,A) ⟨by dsimp only;omega,hA2⟩ (by dsimp only;omega) (.of _ nw_ od_ pk_)
 obtain rfl:i=m.store.objects.length:=by omega
 rw[Zc (Zf _)] at hA
 have hAe:A=np m++m.ready++tH m:=by rw[hA,hN0];rfl
 have hT:=ag2 hAe
 have hF:=ag5 hAe
 generalize alO m=r at hT hF |-
 clear hA hAe hN0 hap1 hsl hsem hnum
 replace hAl:A.length<=900000000:=by omega
 repeat' refine H_ 11 ?_
 refine⟨?_⟩
 refine oN (t:=4) rfl (ae _) (.head _) ?_
 have hll:=ae A
 repeat' refine W_ ?_
 apply aj (X:=Nat) [0,4] (fun i=>[(7,.int .i64 (i:Int))]) (fun _=>[]) (fun i=>i<=A.length/\(∀p∈A.take i,0<=p/\p<m.processes.length)/\(A.take i).Nodup) (fun i=>A.length - i) 0 ⟨Zd _,by simp,by simp⟩
 exact kp_;exact nw_
 ·exact .refl _
 rintro i ⟨hi,hin,hnd⟩
 try dsimp only
 by_cases hlt:i<A.length
 case neg =>
   obtain rfl:i=A.length:=by omega
   rw[Zc (Zf _)] at hin hnd
   rw[hT ⟨hin,hnd⟩]
   repeat' refine W_ ?_
   refine eO x_ rfl (.tmp _ _ rfl) (.tmp _ _ rfl) (fun _=>?_) (fun _=>?_)
   ·exact Fin.slFlat (Zf _) (lv _)
   ·exact Fin.flat rfl
 have hrow:=ko hlt
 have hta:=bu (p:=fun p:Int=>0<=p/\p<m.processes.length) hlt hin
 have hns:=ri hlt hnd
 have hb1:¬ (0<=A[i]/\A[i]<m.processes.length)->r=none:=fun h=>hF fun k=>h (k.1 _ (Zb hlt))
 have hb2:A[i]∈A.take i->r=none:=fun h=>hF fun k=>vG hlt h k.2
 have htk:=vr A i
 have hhas:=xF (G:=GL) w0.heap.size (A.take i) A[i] (by rw[Zu];omega)
 have k1:=bA (G:=GL) A[i] 0 ((m.processes.length - 1:Nat):Int)
 generalize A[i]=p at hrow hta hns hb1 hb2 hhas k1
 by_cases hr:0<=p/\p<m.processes.length
 case neg =>
   rw[show inR p 0 ((m.processes.length - 1:Nat):Int)=false from by simp only[inR,decide_eq_false_iff_not];omega] at k1
   rw[hb1 hr]
   repeat' (first|refine V_ ?_|refine ai hG hst (k1) ?_)
   refine eO x_ rfl (.tmp _ _ rfl) (.tmp _ _ rfl) (fun _=>?_) (fun _=>?_)
   ·exact .nils 1
   ·exact Fin.flat rfl
 rw[show inR p 0 ((m.processes.length - 1:Nat):Int)=true from by simp only[inR,decide_eq_true_eq];omega] at k1
 by_cases hm:p∈A.take i
 ·rw[decide_eq_true hm] at hhas
  rw[hb2 hm]
  repeat' (first|refine V_ ?_|refine kH ?_|refine ai hG hst (k1) ?_|refine ai hG hst (hhas) ?_)
  refine eO x_ rfl (.tmp _ _ rfl) (.tmp _ _ rfl) (fun _=>?_) (fun _=>?_)
  ·exact .nils 1
  ·exact Fin.flat rfl
 ·rw[decide_eq_false hm] at hhas
  repeat' (first|refine V_ ?_|refine kH ?_|refine ai hG hst (k1) ?_|refine ai hG hst (hhas) ?_)
  exact ag (i+1) ⟨by omega,hta hr,hns hm⟩ (by omega) (.of _ nw_ od_ pk_)
theorem adS {l:List Int} (h:aL l=[]):l=[]:=by
 cases l with
 | nil=>rfl
 | cons a r=>simp[aL] at h
theorem pC {G:World->Prop} (lo:Nat) (l:List Int) (hn:l.length<=1048576):CtM Tryz.prog G 201 [.sl lo 1 (aL l)] [] (fun _:Nat×Nat=>True) (fun y=>[(y.1,y.2,.row 1 (aL l))]) (fun y=>.ms y.1 y.2 0 l.length):=by
 refine aA Tryz.func201 rfl Tryz.ntmps201 rfl rfl rfl fun w0 R gs objsR hG hR=>?_
 obtain rfl:=hR.inv0
 clear hR
 have hlen:=ae l
 repeat' (first|refine W_ ?_|((with_reducible apply afb);rfl;rfl;rfl;kernel_rfl;intro bl hbl)|((with_reducible apply ni (n:=0));rfl;rfl;kernel_rfl;kernel_rfl;rfl;kernel_rfl;rfl;rfl;rfl;rfl;intro ss bb)|((with_reducible apply ee);rfl;rfl;rfl;kernel_rfl;(repeat (first|with_reducible exact mh|with_reducible refine mt ?_));(first|with_reducible assumption|exact aw _|exact ae _|exact av _|exact Ze _|assumption|rfl);omega;(intro bq;(repeat (first|with_reducible exact Upd.head _|with_reducible apply Upd.tail)));intro bb)|refine c_ (fun hc=>?_) (fun hc=>?_))
 ·obtain rfl:=adS (hbl hc)
  refine ft 2 1 (by decide) rfl fun ss=>?_
  exact aD x_ rfl (ss,0) trivial rfl (.cons _ _ _ _ (.nil R)) (.refl _) (.tmp _ _ rfl) rfl
 ·exact aD x_ rfl (_,_) trivial rfl (.cons _ _ _ _ (.nil R)) (.refl _) (.tmp _ _ rfl) rfl
theorem agp {l2:Nat} {l:List aH} {i:Nat} (h:i<l.length):(l.map fun x=>[TV.sl l2 1 (aL (dps x))])[i]?=some [.sl l2 1 (aL (dps l[i]))]:=aK h
theorem aeX {x:aH} {ds:List Int} (h:cn x.instrs=some ds):dps x=ds:=by unfold dps;rw[h];rfl
theorem adE (lo l2:Nat) (m:ah) (hsm:m.small 1048576) (hdep:∀c∈m.base.codes,kx c.instrs=true/\∃ds,cn c.instrs=some ds/\ds.length=c.instrs.length) (hsd:kM m)
   (hpl:∀(i:Nat) (h:i<m.contexts.length),m.contexts[i].mark=0->(0<=m.contexts[i].code/\m.contexts[i].code<m.base.codes.length)/\0<=m.contexts[i].pc) (at0:Int):Ct Tryz.prog GL 203 [.agg (m.tw lo),.sl l2 1 (m.base.codes.map fun x=>[TV.sl l2 1 (aL (dps x))]),.int .i64 at0] (fun _=>.bool (j7 m at0)):=by
 refine au Tryz.func203 rfl Tryz.ntmps203 rfl rfl fun w0 _ hG=>?_
 have hst:=d8
 have hlx:=aq.len lo m.contexts
 have hxl:=hsm.2.2.2.1.1
 have hcl2:=hsm.1.2.1.1
 have hxr:=fun(i:Nat) (h:i<m.contexts.length)=>dB (lo:=lo) (l:=m.contexts) h
 have hdr:=fun(i:Nat) (h:i<m.base.codes.length)=>agp (l2:=l2) h
 have hdl:(m.base.codes.map fun x=>[TV.sl l2 1 (aL (dps x))]).length=m.base.codes.length:=by simp
 have hon:=fun(k0 a:Int) h=>y9 (G:=GL) w0.heap.size lo m hxl hsd k0 a h
 have hsx:=fun(i:Nat) (h:i<m.contexts.length)=>(hsm.2.2.2.1.2 _ (Zb h)).2.2.1.1
 have hsi:=fun(i:Nat) (h:i<m.base.codes.length)=>(hsm.1.2.1.2 _ (Zb h)).1
 have k1:=aP (G:=GL) at0 0 ((m.contexts.length:Int) - 1)
 generalize (m.base.codes.map fun x=>[TV.sl l2 1 (aL (dps x))])=dd at hdr hdl |-
 unfold ah.tw at hon |-
 by_cases hin:0<=at0/\at0<m.contexts.length
 case neg =>
   rw[kv fun h=>hin (by
     obtain⟨c,hc,_⟩:=h
     obtain⟨h0,h1,_⟩:=kQ hc
     omega)]
   rw[show inR at0 0 ((m.contexts.length:Int) - 1)=false from by simp only[inR,decide_eq_false_iff_not];omega] at k1
   by_cases hz:1<=m.contexts.length
   ·rw[show (m.contexts.length:Int) - 1=((m.contexts.length - 1:Nat):Int) by omega] at k1
    repeat' (first|refine W_ ?_|refine aN ?_|refine ad hG hst (k1) ?_)
    exact r1_
   ·repeat' (first|refine W_ ?_|refine aN ?_|refine ad hG hst (k1) ?_)
    exact r1_
 rw[show inR at0 0 ((m.contexts.length:Int) - 1)=true from by simp only[inR,decide_eq_true_eq];omega] at k1
 rw[show (m.contexts.length:Int) - 1=((m.contexts.length - 1:Nat):Int) by omega] at k1
 obtain⟨u,rfl⟩:∃u:Nat,at0=u:=⟨at0.toNat,by omega⟩
 have hu:u<m.contexts.length:=by omega
 have hru:=hxr u hu
 by_cases hm0:m.contexts[u].mark=0
 case neg =>
   rw[kv fun h=>by
     obtain⟨c,hc,h0,_⟩:=h
     rw[jr hu] at hc
     cases hc
     exact hm0 h0]
   have hm0':m.contexts[u].mark≠0:=hm0
   generalize m.contexts[u]=c at hru hm0'
   repeat' (first|refine W_ ?_|refine aN ?_|refine ad hG hst (k1) ?_)
   exact r1_
 have hm0':¬ m.contexts[u].mark≠0:=fun h=>h hm0
 have hiff:dN m (u:Int)↔aaL m 0 (u:Int):=⟨fun h=>by
   obtain⟨c,_,_,h3⟩:=h
   exact h3,fun h=>⟨_,jr hu,hm0,h⟩⟩
 clear hm0
 generalize m.contexts[u]=c at hru hm0'
 repeat' (first|refine W_ ?_|refine aN ?_|refine ad hG hst (k1) ?_)
 apply aj (X:=Int×Int) [1,3] (fun x=>[(7,.int .i64 x.1),(8,.int .i64 x.2)]) (fun _=>[]) (fun x=>(-1<=x.1/\x.1<m.contexts.length)/\(dN m (u:Int)↔aaL m x.2 x.1)) (fun x=>(x.1+1).toNat) ((u:Int),0) ⟨by dsimp only;omega,hiff⟩
 exact kp_;exact nw_
 ·exact .refl _
 clear hiff k1 hru hm0'
 rintro ⟨k,less⟩ ⟨hk,hiff⟩
 dsimp only at hk hiff |-
 by_cases hneg:k<0
 ·rw[sF (hiff.2 (.out _ _ hneg))]
  repeat' refine W_ ?_
  exact r1_
 obtain⟨n,rfl⟩:∃n:Nat,k=n:=⟨k.toNat,by omega⟩
 have hn:n<m.contexts.length:=by omega
 have hrn:=hxr n hn
 have hst2:=hiff.trans (n9 hn)
 have hsn:=hsd n hn
 have hpn:=hpl n hn
 have hsz:=hsx n hn
 have hot:=hon m.contexts[n].sender m.contexts[n].other (by omega)
 clear hxr hpl hon hsd hsx
 have hF:pg m m.contexts[n] less=false->j7 m (u:Int)=false:=fun h=>kv fun hc=>by have:=(hst2.1 hc).1;rw[h] at this;cases this
 have hT:pg m m.contexts[n] less=true->(dN m (u:Int)↔aaL m 1 m.contexts[n].sender):=fun h=>⟨fun hc=>(hst2.1 hc).2,fun hw=>hst2.2 ⟨h,hw⟩⟩
 clear hst2
 unfold pg at hF hT
 by_cases hm0:m.contexts[n].mark=0
 ·rw[if_pos hm0] at hF hT
  obtain⟨⟨c0,c1⟩,c2⟩:=hpn hm0
  obtain⟨q,hq⟩:∃q:Nat,m.contexts[n].code=q:=⟨m.contexts[n].code.toNat,by omega⟩
  obtain⟨p,hp⟩:∃p:Nat,m.contexts[n].pc=p:=⟨m.contexts[n].pc.toNat,by omega⟩
  have hql:q<m.base.codes.length:=by omega
  obtain⟨_,ds,hds,hdsl⟩:=hdep _ (Zb hql)
  have hB:=acG (less:=less) hq (Za hql) hp hds
  have hdq:=hdr q hql
  rw[aeX hds] at hdq
  have hil:=hsi q hql
  rw[hB] at hF hT
  rw[hq,hp] at hrn
  rw[<- hdsl] at hF hT hil
  clear hB hdr hsi hot hds hdep hdsl
  have hol:=ae ds
  generalize m.contexts[n]=c at hrn hm0 hsn hT hF hsz
  obtain⟨mk,cc,pc,sd,ou,hm,⟨sk,sn,st⟩,slots,stack,values,oth,rt⟩:=c
  dsimp only at hrn hm0 hsn hT hF hsz
  have htl:=ab.len lo stack
  by_cases hpl:p<ds.length
  case neg =>
    rw[hF (by rw[decide_eq_false hpl,Zl])]
    repeat' (first|refine V_ ?_|(refine am ?_;intro ss bb)|refine ac ?_)
    exact r1_
  rw[decide_eq_true hpl,Zn] at hF hT
  have hgp:=dz (o:=ds) (j:=p) (by omega)
  generalize hW:IntKind.i64.wrap (gd ds (p:Int) - less)=W at hF hT
  generalize gd ds (p:Int)=g at hgp hW hF hT
  by_cases hg0:0<=g
  case neg =>
    rw[hF (by rw[decide_eq_false hg0,Zl])]
    repeat' (first|refine V_ ?_|(refine am ?_;intro ss bb)|refine ac ?_)
    exact r1_
  rw[decide_eq_true hg0,Zn] at hF hT
  have hg0':¬ g<0:=by omega
  by_cases hsW:(stack.length:Int)=W
  case neg =>
    have hsW':(stack.length:Int)≠W:=hsW
    rw[hF (decide_eq_false hsW)]
    repeat' (first|refine V_ ?_|(refine am ?_;intro ss bb)|refine ac ?_)
    exact r1_
  have hsW':¬ (stack.length:Int)≠W:=fun h=>h hsW
  replace hT:=hT (decide_eq_true hsW)
  repeat' (first|refine V_ ?_|(refine am ?_;intro ss bb)|refine ac ?_)
  exact ag (sd,1) ⟨by dsimp only;omega,hT⟩ (by dsimp only;omega) (.of _ nw_ od_ pk_)
 rw[if_neg hm0] at hF hT
 clear hpn hdr hsi hdep
 by_cases hm35:m.contexts[n].mark=3\/m.contexts[n].mark=5
 ·rw[if_pos hm35] at hF hT
  generalize onB m m.contexts[n].other m.contexts[n].sender=b at hot hF hT
  generalize m.contexts[n]=c at hrn hm0 hm35 hsn hT hot
  rcases hm35 with hm3|hm5
  ·have hm5:¬ c.mark=5:=by omega
   cases b
   ·rw[hF rfl]
    repeat' (first|refine W_ ?_|(refine am ?_;intro ss bb)|refine ac ?_|refine ad hG hst (hot) ?_)
    exact r1_
   ·repeat' (first|refine W_ ?_|(refine am ?_;intro ss bb)|refine ac ?_|refine ad hG hst (hot) ?_)
    exact ag (c.sender,1) ⟨by dsimp only;omega,hT rfl⟩ (by dsimp only;omega) (.of _ nw_ od_ pk_)
  ·have hm3:¬ c.mark=3:=by omega
   cases b
   ·rw[hF rfl]
    repeat' (first|refine W_ ?_|(refine am ?_;intro ss bb)|refine ac ?_|refine ad hG hst (hot) ?_)
    exact r1_
   ·repeat' (first|refine W_ ?_|(refine am ?_;intro ss bb)|refine ac ?_|refine ad hG hst (hot) ?_)
    exact ag (c.sender,1) ⟨by dsimp only;omega,hT rfl⟩ (by dsimp only;omega) (.of _ nw_ od_ pk_)
 ·rw[if_neg hm35] at hT
  have hm3:¬ m.contexts[n].mark=3:=fun h=>hm35 (.inl h)
  have hm5:¬ m.contexts[n].mark=5:=fun h=>hm35 (.inr h)
  generalize m.contexts[n]=c at hrn hm0 hm3 hm5 hsn hT
  repeat' (first|refine W_ ?_|(refine am ?_;intro ss bb)|refine ac ?_)
  exact ag (c.sender,1) ⟨by dsimp only;omega,hT rfl⟩ (by dsimp only;omega) (.of _ nw_ od_ pk_)
instance:Enc (Pl×Pl):=inferInstanceAs (Enc ((Nat×Nat)×(Nat×Nat)))
instance:Enc (Pl×Pl×Pl):=inferInstanceAs (Enc ((Nat×Nat)×(Nat×Nat)×(Nat×Nat)))
theorem nE {α β:Type} (mk:α->β->List TV) {l:List α} {ps:List β} {i:Nat} (h:i<l.length) (hp:ps.length=i) (p:β):nRg mk (l.take i) ps++[mk l[i] p]=nRg mk (l.take (i+1)) (ps++[p]):=by
 unfold nRg
 rw[dV h,Yz (by rw[Zu];omega)];rfl
theorem adZ (x:az) (y:Pl×Pl):(∀s b o,(s,b,o)∈cS x y->cz (cS x y) o)/\dL (cS x y) (.agg (cu x y)) :=
 ⟨fun s b o h=>tZ x y _ s b o h,.agg _ (uG x y _ fun _ h=>h)⟩
theorem yl (x:aq) (y:Pl×Pl×Pl):(∀s b o,(s,b,o)∈de x y->cz (de x y) o)/\dL (de x y) (.agg (cR x y)) :=
 ⟨fun s b o h=>vq x y _ s b o h,.agg _ (vN x y _ fun _ h=>h)⟩
theorem jU (a b:Nat×Nat×aW) (z T R:aJ):bW (a::b::((T++z)++R)) (a::(z++(b::(T++R)))):=.perm (by
 have h:((T++z)++R).Perm (z++(T++R)):=by
   rw[<- Zh]
   exact List.perm_append_comm.append_right R
 exact((h.cons b).trans List.perm_middle.symm).cons a)
section
variable {G:World->Prop}
theorem j8 (lo:Nat) (x:az) (hb:x.small 1048576):CtM Tryz.prog G 84 [.agg [.int .i64 x.kind,.int .i64 x.class_,.sl lo 3 (x.fields.map (ab.tw lo)),.sl lo 1 (aL x.numbers)]] [] (fun _:Pl×Pl=>True) (cS x) (fun y=>.agg (cu x y)):=by
 refine aA Tryz.func84 rfl Tryz.ntmps84 rfl rfl rfl fun w0 R gs objsR hG hR=>?_
 obtain rfl:=hR.inv0
 clear hR
 have h1:=hb.1.1
 have h2:=hb.2
 repeat' (first|refine W_ ?_|((with_reducible apply j4);rfl;rfl;rfl;intro ss bb)|(refine am ?_;intro ss bb)|refine ac ?_|((with_reducible apply ni (n:=0));rfl;rfl;kernel_rfl;kernel_rfl;rfl;kernel_rfl;rfl;rfl;rfl;rfl;intro ss bb)|((with_reducible apply ee);rfl;rfl;rfl;kernel_rfl;(repeat (first|with_reducible exact mh|with_reducible refine mt ?_));(first|with_reducible assumption|exact aw _|exact ae _|exact av _|exact Ze _|assumption|rfl);omega;(intro bq;(repeat (first|with_reducible exact Upd.head _|with_reducible apply Upd.tail)));intro bb))
 rename_i s3 b3 b4 b5
 exact aD (t1:=.agg [.int .i64 x.kind,.int .i64 x.class_,.ms s3 b4 0 x.fields.length,.ms ss bb 0 x.numbers.length]) x_ rfl ((s3,b4),(ss,bb)) trivial rfl (.cons _ _ _ _ (.cons _ _ _ _ (.nil R))) pk_ (.cell _ _ _ _ _ rfl mm_ (by kernel_rfl) (by kernel_rfl) (by kernel_rfl)) rfl
theorem oY (lo:Nat) (x:aq) (hb:x.small 1048576):CtM Tryz.prog G 155 [.agg [.int .i64 x.mark,.int .i64 x.code,.int .i64 x.pc,.int .i64 x.sender,.int .i64 x.outer,.int .i64 x.home,.int .i64 x.self.kind,.int .i64 x.self.number,.str x.self.text,.sl lo 3 (x.slots.map (ab.tw lo)),.sl lo 3 (x.stack.map (ab.tw lo)),.sl lo 3 (x.values.map (ab.tw lo)),.int .i64 x.other,.bool x.retry]] [] (fun _:Pl×Pl×Pl=>True) (de x) (fun y=>.agg (cR x y)):=by
 refine aA Tryz.func155 rfl Tryz.ntmps155 rfl rfl rfl fun w0 R gs objsR hG hR=>?_
 obtain rfl:=hR.inv0
 clear hR
 have h1:=hb.2.1.1
 have h2:=hb.2.2.1.1
 have h3:=hb.2.2.2.1
 repeat' (first|refine W_ ?_|((with_reducible apply j4);rfl;rfl;rfl;intro ss bb)|(refine am ?_;intro ss bb)|refine ac ?_|((with_reducible apply ni (n:=0));rfl;rfl;kernel_rfl;kernel_rfl;rfl;kernel_rfl;rfl;rfl;rfl;rfl;intro ss bb)|((with_reducible apply ee);rfl;rfl;rfl;kernel_rfl;(repeat (first|with_reducible exact mh|with_reducible refine mt ?_));(first|with_reducible assumption|exact aw _|exact ae _|exact av _|exact Ze _|assumption|rfl);omega;(intro bq;(repeat (first|with_reducible exact Upd.head _|with_reducible apply Upd.tail)));intro bb))
 rename_i s3 b3 b4 s5 b5 b6 b7
 exact aD (t1:=.agg [.int .i64 x.mark,.int .i64 x.code,.int .i64 x.pc,.int .i64 x.sender,.int .i64 x.outer,.int .i64 x.home,.int .i64 x.self.kind,.int .i64 x.self.number,.str x.self.text,.ms s3 b4 0 x.slots.length,.ms s5 b6 0 x.stack.length,.ms ss bb 0 x.values.length,.int .i64 x.other,.bool x.retry]) x_ rfl ((s3,b4),(s5,b6),(ss,bb)) trivial rfl (.cons _ _ _ _ (.cons _ _ _ _ (.cons _ _ _ _ (.nil R)))) pk_ (.cell _ _ _ _ _ rfl mm_ (by kernel_rfl) (by kernel_rfl) (by kernel_rfl)) rfl
theorem iC (lo:Nat) (l:List ab) (hb:l.length<=1048576):CtM Tryz.prog G 221 [.sl lo 3 (l.map (ab.tw lo))] [] (fun _:Nat×Nat=>True) (fun y=>[(y.1,y.2,.row 3 (l.map (ab.tw 0)))]) (fun y=>.ms y.1 y.2 0 l.length):=by
 refine aA Tryz.func221 rfl Tryz.ntmps221 rfl rfl rfl fun w0 R gs objsR hG hR=>?_
 obtain rfl:=hR.inv0
 clear hR
 repeat' (first|refine W_ ?_|((with_reducible apply ni (n:=0));rfl;rfl;kernel_rfl;kernel_rfl;rfl;kernel_rfl;rfl;rfl;rfl;rfl;intro ss bb)|((with_reducible apply ee);rfl;rfl;rfl;kernel_rfl;(repeat (first|with_reducible exact mh|with_reducible refine mt ?_));(first|with_reducible assumption|exact aw _|exact ae _|exact av _|exact Ze _|assumption|rfl);omega;(intro bq;(repeat (first|with_reducible exact Upd.head _|with_reducible apply Upd.tail)));intro bb))
 exact aD x_ rfl (_,_) trivial rfl (.cons _ _ _ _ (.nil R)) pk_ (.tmp _ _ rfl) rfl
theorem gJ (lo:Nat) (x:aq) (hb:x.small 1048576):CtM Tryz.prog G 148 [.agg [.int .i64 x.mark,.int .i64 x.code,.int .i64 x.pc,.int .i64 x.sender,.int .i64 x.outer,.int .i64 x.home,.int .i64 x.self.kind,.int .i64 x.self.number,.str x.self.text,.sl lo 3 (x.slots.map (ab.tw lo)),.sl lo 3 (x.stack.map (ab.tw lo)),.sl lo 3 (x.values.map (ab.tw lo)),.int .i64 x.other,.bool x.retry]] [] (fun _:Pl×Pl×Pl=>True) (de x) (fun y=>.agg (cR x y)):=by
 refine aA Tryz.func148 rfl Tryz.ntmps148 rfl rfl rfl fun w0 R gs objsR hG hR=>?_
 obtain rfl:=hR.inv0
 clear hR
 have c1:=iC (G:=G) lo x.slots hb.2.1.1
 have c2:=iC (G:=G) lo x.stack hb.2.2.1.1
 have c3:=iC (G:=G) lo x.values hb.2.2.2.1
 repeat' (first|refine W_ ?_|((with_reducible apply j4);rfl;rfl;rfl;intro ss bb)|(refine am ?_;intro ss bb)|refine ac ?_|((with_reducible apply aB);rfl;kernel_rfl;(repeat (first|exact ay.nil|((with_reducible apply ay.cons);rfl)));exact hG;(first|exact c1|exact c2|exact c3);exact .nil _;intro y hy;refine bF ?_))
 rename_i y1 _ y2 _
 exact aD (t1:=.agg [.int .i64 x.mark,.int .i64 x.code,.int .i64 x.pc,.int .i64 x.sender,.int .i64 x.outer,.int .i64 x.home,.int .i64 x.self.kind,.int .i64 x.self.number,.str x.self.text,.ms y1.1 y1.2 0 x.slots.length,.ms y2.1 y2.2 0 x.stack.length,.ms y.1 y.2 0 x.values.length,.int .i64 x.other,.bool x.retry]) x_ rfl (y1,y2,y) trivial rfl (.cons _ _ _ _ (.cons _ _ _ _ (.cons _ _ _ _ (.nil R)))) pk_ (.cell _ _ _ _ _ rfl mm_ (by kernel_rfl) (by kernel_rfl) (by kernel_rfl)) rfl
theorem act (a e z2 z3:Nat×Nat×aW) (C A R:aJ):bW (z2::z3::a::(A++(e::(C++R)))) (a::z3::(A++(e::(C++(z2::R))))):=.perm (by
 have h:((z3::a::A)++(e::C)++z2::R).Perm (z2::((z3::a::A)++(e::C)++R)):=Z2
 exact .trans (by simpa using h.symm) (List.Perm.swap a z3 _))
theorem aba (a e:Nat×Nat×aW) (C A R:aJ):((C++((a::A)++[e]))++R).Perm (a::(A++(e::(C++R)))):=xw a e C A R
theorem sU (hst:aC G) (lo:Nat) (x:aR) (hb:x.small 1048576):CtM Tryz.prog G 154 [.agg (x.tw lo)] [] (stI x) (stO x) (fun y=>.agg (stC x y)):=by
 refine aA Tryz.func154 rfl Tryz.ntmps154 rfl rfl rfl fun w0 R gs objsR hG hR=>?_
 obtain rfl:=hR.inv0
 clear hR
 have c1:=jd hst lo x.classes hb.1
 have n1:=fun(y:(Nat×Nat)×List (Nat×Nat)) (_:y.2.length=x.classes.length)=>iz (m:=3) (s:=y.1.1) (b:=y.1.2) (n:=x.classes.length) hH ip x.classes y.2
 have hel:=ch x.output
 have he1:=hb.2.2.1
 unfold aR.tw
 repeat' (first|refine W_ ?_|refine aN ?_|(refine am ?_;intro ss bb)|((with_reducible apply dv (id:=1) 15);kernel_rfl;kernel_rfl;kernel_rfl;rfl;(repeat (first|exact Cut.zero _|apply Cut.succ)))|((with_reducible apply m_q);exact ym_;rfl;exact eh)|((with_reducible apply cr);rfl;(intro p;try dsimp only);(repeat (first|exact TB.nil _|((with_reducible apply TB.cons);rfl;rfl;(first|exact .nil _|exact .put _ _ _ _ _ (.nil _)|exact .skip _ _ _ _ _ (.put _ _ _ _ _ (.nil _))|exact .skip _ _ _ _ _ (.skip _ _ _ _ _ (.put _ _ _ _ _ (.nil _)))|(repeat (first|exact .nil _|apply aY.put|apply aY.skip)));kernel_rfl)));rfl;kernel_rfl;kernel_rfl;exact eh)|((with_reducible apply gW);rfl;rfl;kernel_rfl)|((with_reducible apply tp);(intro p;rfl);rfl;kernel_rfl;kernel_rfl;rfl;kernel_rfl;rfl;rfl;rfl;rfl)|((with_reducible apply lM);(intro p;rfl);(intro p;rfl);rfl;kernel_rfl;(intro p;rfl);(first|with_reducible assumption|exact aw _|exact ae _|exact av _|exact Ze _|assumption|rfl);omega;exact⟨by decide,ah_⟩;rfl;(focus (simp;done)))|((with_reducible apply fJ hG hst c1);rfl;kernel_rfl;(intro p;(repeat (first|exact bD.nil|((with_reducible apply bD.cons);rfl;exact .same _))));exact n1)|(with_reducible refine DM.nil _ _ _ ?_))
 generalize ss=s2;generalize bb=b2
 intro p hp
 simp only[YW] at hp
 obtain⟨_,_,_,hI,_⟩:=hp
 refine aT (objs':=((p 14).a,(p 14).b,.box [.nils,.nils,.nils,.int .i64 0,.int .i64 0,.int .i64 0])::((p 3).a,(p 6).b,.row 1 (bQ x.output))::(pV x.classes (Enc.dec (p 2))++((s2,b2,.box [.nils,.nils,.nils,.int .i64 0,.int .i64 0,.int .i64 0])::R))) (by rw[show ed _=[_,_,_] from rfl];simp only[ZB,ZM,Zo,Zh,ZD,Zz];(try rfl)) ?_
 dsimp only [Nat.reduceAdd] at hI |-
 generalize (Enc.dec (p 2):(Nat×Nat)×List (Nat×Nat))=yc at hI |-
 generalize Yu.a (p 14)=s3
 generalize Yu.b (p 14)=b3
 generalize Yu.a (p 3)=se
 generalize Yu.b (p 6)=be
 have hcl:=az.len lo x.objects
 have hc1:=hb.2.1.1
 have hsm:=hb.2.1.2
 repeat' (first|refine W_ ?_|refine ac ?_)
 refine fS 1 4 (by decide) rfl fun sc=>?_
 obtain⟨RR,hRR⟩:∃RR:aJ,RR=((se,be,.row 1 (bQ x.output))::(pV x.classes yc++((s2,b2,aW.box [.nils,.nils,.nils,.int .i64 0,.int .i64 0,.int .i64 0])::R))):=⟨_,rfl⟩
 refine aV (objs':=(sc,0,.row 4 [])::(s3,b3,.box [.ms yc.1.1 yc.1.2 0 x.classes.length,.ms sc 0 0 0,.ms se be 0 x.output.length,.int .i64 x.ticks,.int .i64 x.budget,.int .i64 x.made])::RR) (by rw[hRR];exact pk_) ?_
 apply aj (X:=Nat×Nat×List (Pl×Pl)) [2,3,21,22,1000000] (fun y=>[(23,.int .i64 (y.1:Int))])
   (fun y=>(sc,y.2.1,.row 4 (nRg cu (x.objects.take y.1) y.2.2))::(s3,b3,.box [.ms yc.1.1 yc.1.2 0 x.classes.length,.ms sc y.2.1 0 y.1,.ms se be 0 x.output.length,.int .i64 x.ticks,.int .i64 x.budget,.int .i64 x.made])::(nOg cS (x.objects.take y.1) y.2.2++RR))
   (fun y=>y.1<=x.objects.length/\y.2.2.length=y.1) (fun y=>x.objects.length - y.1) (0,0,[]) ⟨Zd _,rfl⟩
 exact kp_;exact nw_
 ·exact .refl _
 rintro ⟨i,bc,ps⟩ ⟨hi,hps⟩
 dsimp only at hi hps |-
 by_cases hlt:i<x.objects.length
 ·have hrs:=fun p=>nE cu hlt hps p
  have hos:=fun p=>jV cS hlt hps p
  have hra:(x.objects.map (az.tw lo))[i]?=some (x.objects[i].tw lo):=aK hlt
  have hrl:(nRg cu (x.objects.take i) ps).length=i:=by rw[gr _ (by rw[Zu];omega),Zu];omega
  have hbi:=hsm _ (Zb hlt)
  generalize x.objects[i]=c at hrs hos hra hbi
  rw[show c.tw lo=[.int .i64 c.kind,.int .i64 c.class_,.sl lo 3 (c.fields.map (ab.tw lo)),.sl lo 1 (aL c.numbers)] from rfl] at hra
  have c2:=j8 (G:=G) lo c hbi
  have n2:=fun(y:Pl×Pl) (_:True)=>adZ c y
  generalize nOg cS (x.objects.take i) ps=T at hos |-
  repeat' (first|refine W_ ?_|(refine am ?_;intro ss bb)|refine ac ?_)
  generalize ss=s5;generalize bb=b5
  refine aV (.perm (List.Perm.swap _ _ _)) ?_
  repeat' (first|refine W_ ?_|((with_reducible apply eS (id:=5) 7);kernel_rfl;kernel_rfl;kernel_rfl;rfl;(repeat (first|exact Cut.zero _|apply Cut.succ)))|((with_reducible apply m_q);exact ym_;rfl;exact eh)|((with_reducible apply cr);rfl;(intro p;try dsimp only);(repeat (first|exact TB.nil _|((with_reducible apply TB.cons);rfl;rfl;(first|exact .nil _|exact .put _ _ _ _ _ (.nil _)|exact .skip _ _ _ _ _ (.put _ _ _ _ _ (.nil _))|exact .skip _ _ _ _ _ (.skip _ _ _ _ _ (.put _ _ _ _ _ (.nil _)))|(repeat (first|exact .nil _|apply aY.put|apply aY.skip)));kernel_rfl)));rfl;kernel_rfl;kernel_rfl;exact eh)|((with_reducible apply i5);(intro p;rfl);rfl;kernel_rfl;kernel_rfl;rfl;kernel_rfl;rfl;(intro p;rfl);rfl;(intro p;rfl);exact eh)|((with_reducible apply fJ hG hst c2);rfl;kernel_rfl;(intro p;(repeat (first|exact bD.nil|((with_reducible apply bD.cons);rfl;exact .same _))));exact n2)|((with_reducible apply jA);(intro p;rfl);(intro p;rfl);rfl;kernel_rfl;(intro p;rfl);exact hrl;(intro p;show List.length _=1;rfl);omega;exact fun p=>hrs (Enc.dec (p _));exact⟨by decide,by decide⟩;exact oE;rfl;(focus (simp;done)))|(with_reducible refine DM.nil _ _ _ ?_))
  intro p hp
  refine aT (objs':=(sc,(p 5).b,.row 4 (nRg cu (x.objects.take (i+1)) (ps++[Enc.dec (p 3)])))::(cS c (Enc.dec (p 3))++((s5,b5,.box [.int .i64 c.kind,.int .i64 c.class_,.sl lo 3 (c.fields.map (ab.tw lo)),.sl lo 1 (aL c.numbers)])::(s3,b3,.box [.ms yc.1.1 yc.1.2 0 x.classes.length,.ms sc bc 0 i,.ms se be 0 x.output.length,.int .i64 x.ticks,.int .i64 x.budget,.int .i64 x.made])::(T++RR)))) (by rw[show ed _=[_,_] from rfl];(try simp only[ZB,ZM,Zo,Zh,ZD,Zz]);(try rfl)) ?_
  dsimp only [Nat.reduceAdd] at hp |-
  generalize (Enc.dec (p 3):Pl×Pl)=q
  generalize Yu.b (p 5)=bb
  refine aT (objs':=_::(q.1.1,q.1.2,.row 3 (c.fields.map (ab.tw 0)))::(q.2.1,q.2.2,.row 1 (aL c.numbers))::(s5,b5,_)::(s3,b3,_)::_) rfl ?_
  repeat' (first|refine W_ ?_|refine ac ?_)
  refine ag (i+1,bb,ps++[q]) ⟨by dsimp only;omega,by dsimp only;simp[hps]⟩ (by dsimp only;omega) (.of _ nw_ od_ ?_)
  dsimp only
  rw[hos q]
  refine bW.trans (jU _ _ (cS c q) T RR) ?_
  exact .sub (.cons_cons _ (.cons_cons _ (.cons_cons _ (.cons _ (Z0 _)))))
 ·obtain rfl:i=x.objects.length:=by omega
  rw[Zc (Zf _),hRR]
  refine aV (act _ _ _ _ _ _ _) ?_
  repeat' (first|refine W_ ?_|refine ac ?_)
  exact aD (t1:=.agg [.ms yc.1.1 yc.1.2 0 x.classes.length,.ms sc bc 0 x.objects.length,.ms se be 0 x.output.length,.int .i64 x.ticks,.int .i64 x.budget,.int .i64 x.made]) x_ rfl (yc,((sc,bc),ps),(se,be)) ⟨hI,hps⟩ rfl (.app _ R) (.drop (.drop (.perm (aba _ _ _ _ R)))) (.cell _ _ _ _ _ rfl mm_ (by kernel_rfl) (by kernel_rfl) (by kernel_rfl)) rfl
end
def zIm:ah:=⟨⟨[],[],[],0⟩,⟨[],[],[],0,0,0⟩,[],[],[],[],0,0,ahP,⟨#[]⟩⟩
theorem acD (n:Nat):zIm.small n :=
 ⟨⟨⟨Zd _,by simp[zIm]⟩,⟨Zd _,by simp[zIm]⟩,Zd _,by simp[zIm]⟩,⟨⟨Zd _,by simp[zIm]⟩,⟨Zd _,by simp[zIm]⟩,Zd _,by simp[zIm]⟩,⟨Zd _,by simp[zIm]⟩,⟨Zd _,by simp[zIm]⟩,⟨Zd _,by simp[zIm]⟩,Zd _,Zd _,Zd _⟩
section
variable {w0:World} {N:Nat} {Q:Exit->Act->World->Prop} {env:Env} {objs:aJ}
theorem abz (z a0 a1 a2 a4 a5 a6 a10 a11 a12 a13:Nat×Nat×aW) (R:aJ):bW (z::((([a0]++([a1]++[a2]))++(([a4]++([a5]++[a6]))++([a10]++([a11]++([a12]++[a13])))))++R)) (z::a13::a12::a11::a10::a6::a5::a4::a2::a1::a0::R):=.perm (by
 have h:=ce (n:=11) [[a0],[a1],[a2],[a4],[a5],[a6],[a10],[a11],[a12],[a13],R] [9,8,7,6,5,4,3,2,1,0,10] rfl (by decide)
 exact(show (([a0]++([a1]++[a2]))++(([a4]++([a5]++[a6]))++([a10]++([a11]++([a12]++[a13]))))  ++ R).Perm (a13::a12::a11::a10::a6::a5::a4::a2::a1::a0::R) by simpa using h.symm).cons z)
theorem aa7 {x:Exit} {s b:Nat} (h:∀y:jm,imI zIm y->AQ w0 N Q x env ((s,b,.box (imC zIm y))::(imO zIm y++objs))):AQ w0 N Q x env ((s,b,.box ah.tz)::objs):=by
 unfold ah.tz
 refine gX 0 3 (by decide) rfl fun s0=>?_
 refine gX 1 4 (by decide) rfl fun s1=>?_
 refine gX 2 4 (by decide) rfl fun s2=>?_
 refine gX 4 3 (by decide) rfl fun s4=>?_
 refine gX 5 4 (by decide) rfl fun s5=>?_
 refine gX 6 1 (by decide) rfl fun s6=>?_
 refine gX 10 6 (by decide) rfl fun s10=>?_
 refine gX 11 14 (by decide) rfl fun s11=>?_
 refine gX 12 2 (by decide) rfl fun s12=>?_
 refine gX 13 1 (by decide) rfl fun s13=>?_
 dsimp only [List.set]
 exact wW (abz _ _ _ _ _ _ _ _ _ _ _ objs) (h ((((s0,0),[]),((s1,0),[]),(s2,0)),(((s4,0),[]),((s5,0),[]),(s6,0)),(s10,0),((s11,0),[]),(s12,0),(s13,0)) ⟨⟨rfl,rfl⟩,⟨rfl,rfl⟩,rfl⟩)
end
end Go.Proofs.YtofnnnpahglfdaaGreatDoor
