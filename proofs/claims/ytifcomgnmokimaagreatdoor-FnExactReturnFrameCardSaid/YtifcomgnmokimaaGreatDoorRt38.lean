/- Part 38 of the proof: the texts ImG0, ImP0, FrP, SwP, RcP. -/
import Derived.Test.YtifcomgnmokimaaGreatDoorRt24
import Derived.Test.YtifcomgnmokimaaGreatDoorRt8
import Derived.Test.YtifcomgnmokimaaGreatDoorRt35
import Derived.Test.YtifcomgnmokimaaGreatDoorRt34
set_option linter.all false
set_option maxHeartbeats 4000000
set_option maxRecDepth 20000
namespace Go.Proofs.YtifcomgnmokimaaGreatDoor
open Go Go.RowKit
open Classical in
noncomputable def zX (a b:List aa):Bool:=decide (a=b)
open Classical in
theorem q9 {a b:List aa} (h:¬ a=b):zX a b=false:=decide_eq_false h
open Classical in
theorem yC {a b:List aa} (h:a=b):zX a b=true:=decide_eq_true h
theorem aeB {x y:aa} (h1:x.name=y.name) (h2:x.parent=y.parent) (h3:x.fields=y.fields):x=y:=by
 cases x;cases y;simp_all
theorem iT {α:Type} {a b:List α} {i:Nat} (ha:i<a.length) (hb:i<b.length) (h:a.take i=b.take i) (e:a[i]=b[i]):a.take (i+1)=b.take (i+1):=by
 rw[ek ha,ek hb,h,e]
section
variable {G:World->Prop}
theorem aam (hst:ay G) (l1 l2:Nat) (a b:List aa) (ha:a.length<=1048576/\∀y∈a,aa.small 1048576 y) (hb:b.length<=1048576/\∀y∈b,aa.small 1048576 y):Ct Tryz.prog G 74 [.sl l1 3 (a.map (aa.tw l1)),.sl l2 3 (b.map (aa.tw l2))] (fun _=>.bool (zX a b)):=by
 refine av Tryz.func74 rfl Tryz.ntmps74 rfl rfl fun w0 _ hG=>?_
 have hla:=aa.len l1 a
 have hlb:=aa.len l2 b
 have ha1:=ha.1
 have hb1:=hb.1
 by_cases hl:a.length=b.length
 case neg =>
   rw[q9 fun e=>hl (by rw[e])]
   repeat' refine W_ ?_
   exact r1_
 repeat' refine W_ ?_
 apply ap (X:=Nat) [0,1] (fun i=>[(5,.int .i64 (i:Int))]) (fun _=>[]) (fun i=>i<=a.length/\a.take i=b.take i) (fun i=>a.length - i) 0 ⟨Ze _,by simp⟩
 exact kp_;exact nw_
 ·exact .refl _
 rintro i ⟨hi,hs⟩
 try dsimp only
 by_cases hlt:i<a.length
 ·have hr1:=jy (lo:=l1) hlt
  have hlt2:i<b.length:=by omega
  have hr2:=jy (lo:=l2) hlt2
  have hta:=iT hlt hlt2 hs
  have hne:a[i]≠b[i]->zX a b=false:=fun h=>q9 fun e=>h (by subst e;rfl)
  have hsa:=(ha.2 _ (Zb hlt)).2.1
  have hsb:=(hb.2 _ (Zb hlt2)).2.1
  have hce:=aeB (x:=a[i]) (y:=b[i])
  generalize a[i]=x at hr1 hta hne hsa hce
  generalize b[i]=y at hr2 hta hne hsb hce
  have c1:=j2 (G:=G) l1 l2 x.fields y.fields hsa hsb
  by_cases h1:x.name=y.name
  case neg =>
    have h1':x.name≠y.name:=h1
    rw[hne fun e=>h1 (by rw[e])]
    repeat' refine V_ ?_
    exact r1_
  have h1':¬ x.name≠y.name:=fun h=>h h1
  by_cases h2:x.parent=y.parent
  case neg =>
    have h2':x.parent≠y.parent:=h2
    rw[hne fun e=>h2 (by rw[e])]
    repeat' refine V_ ?_
    exact r1_
  have h2':¬ x.parent≠y.parent:=fun h=>h h2
  by_cases h3:x.fields=y.fields
  case neg =>
    rw[decide_eq_false h3] at c1
    rw[hne fun e=>h3 (by rw[e])]
    repeat' (first|refine V_ ?_|refine ai hG hst (c1) ?_)
    exact r1_
  rw[decide_eq_true h3] at c1
  repeat' (first|refine V_ ?_|refine ai hG hst (c1) ?_)
  exact ah (i+1) ⟨by omega,hta (hce h1 h2 h3)⟩ (by omega) (.of _ nw_ od_ pk_)
 ·rw[Zc (by omega),Zc (by omega)] at hs
  rw[yC hs]
  repeat' refine W_ ?_
  exact r1_
theorem qd (l1 l2:Nat) (a b:List aa) (ha:a.length<=1048576/\∀y∈a,aa.small 1048576 y) (hb:b.length<=1048576/\∀y∈b,aa.small 1048576 y):Ct Tryz.prog G 100 [.sl l1 3 (a.map (aa.tw l1)),.sl l2 3 (b.map (aa.tw l2))] (fun _=>.bool (zX a b)):=by
 refine av Tryz.func100 rfl Tryz.ntmps100 rfl rfl fun w0 _ hG=>?_
 have hla:=aa.len l1 a
 have hlb:=aa.len l2 b
 have ha1:=ha.1
 have hb1:=hb.1
 by_cases hl:a.length=b.length
 case neg =>
   rw[q9 fun e=>hl (by rw[e])]
   repeat' refine W_ ?_
   exact r1_
 repeat' refine W_ ?_
 apply ap (X:=Nat) [0,1,13] (fun i=>[(14,.int .i64 (i:Int))]) (fun _=>[]) (fun i=>i<=a.length/\a.take i=b.take i) (fun i=>a.length - i) 0 ⟨Ze _,by simp⟩
 exact kp_;exact nw_
 ·exact .refl _
 rintro i ⟨hi,hs⟩
 try dsimp only
 by_cases hlt:i<a.length
 ·have hr1:=jy (lo:=l1) hlt
  have hlt2:i<b.length:=by omega
  have hr2:=jy (lo:=l2) hlt2
  have hta:=iT hlt hlt2 hs
  have hne:a[i]≠b[i]->zX a b=false:=fun h=>q9 fun e=>h (by subst e;rfl)
  have hsa:=(ha.2 _ (Zb hlt)).2.1
  have hsb:=(hb.2 _ (Zb hlt2)).2.1
  have hce:=aeB (x:=a[i]) (y:=b[i])
  generalize a[i]=x at hr1 hta hne hsa hce
  generalize b[i]=y at hr2 hta hne hsb hce
  have hxl:=cg x.fields
  have hyl:=cg y.fields
  by_cases h1:x.name=y.name
  case neg =>
    have h1':x.name≠y.name:=h1
    rw[hne fun e=>h1 (by rw[e])]
    repeat' refine V_ ?_
    exact r1_
  have h1':¬ x.name≠y.name:=fun h=>h h1
  by_cases h2:x.parent=y.parent
  case neg =>
    have h2':x.parent≠y.parent:=h2
    rw[hne fun e=>h2 (by rw[e])]
    repeat' refine V_ ?_
    exact r1_
  have h2':¬ x.parent≠y.parent:=fun h=>h h2
  by_cases h3:x.fields.length=y.fields.length
  case neg =>
    have h3':(x.fields.length:Int)≠y.fields.length:=by omega
    rw[hne fun e=>h3 (by rw[e])]
    repeat' refine V_ ?_
    exact r1_
  have h3':¬ (x.fields.length:Int)≠y.fields.length:=by omega
  repeat' refine V_ ?_
  apply ap (X:=Nat) [0,1,13,14,5,61] (fun k=>[(62,.int .i64 (k:Int))]) (fun _=>[]) (fun k=>k<=x.fields.length/\x.fields.take k=y.fields.take k) (fun k=>x.fields.length - k) 0 ⟨Ze _,by simp⟩
  exact kp_;exact nw_
  ·exact .refl _
  rintro k ⟨hk,hks⟩
  try dsimp only
  by_cases hkt:k<x.fields.length
  ·have hkt2:k<y.fields.length:=by omega
   have hs1:=nM hkt
   have hs2:=nM hkt2
   have htk:=iT hkt hkt2 hks
   have hnf:x.fields[k]≠y.fields[k]->x≠y:=fun h e=>h (by subst e;rfl)
   generalize x.fields[k]=u at hs1 htk hnf
   generalize y.fields[k]=v at hs2 htk hnf
   by_cases h4:u=v
   case neg =>
     have h4':u≠v:=h4
     rw[hne (hnf h4)]
     repeat' refine V_ ?_
     exact r1_
   have h4':¬ u≠v:=fun h=>h h4
   repeat' refine V_ ?_
   exact ah (k+1) ⟨by omega,htk h4⟩ (by omega) (.of _ nw_ od_ pk_)
  ·rw[Zc (by omega),Zc (by omega)] at hks
   repeat' refine W_ ?_
   exact ah (i+1) ⟨by omega,hta (hce h1 h2 hks)⟩ (by omega) (.of _ nw_ od_ pk_)
 ·rw[Zc (by omega),Zc (by omega)] at hs
  rw[yC hs]
  repeat' refine W_ ?_
  exact r1_
end
structure acu (m:ad):Prop where
 ver:dM m.base=true
 same:m.base.classes=m.store.classes
 store:lA m.store m.blocks.length=true
 made:(m.store.objects.length:Int)+m.blocks.length<=m.store.made
 status:inR m.status 0 5=true
 procs:inR m.processes.length 1 20=true
 now:inR m.now 0 ((m.processes.length:Int) - 1)=true
 value:mL m m.value
 fault:gN m.fault=true
 outs:∀o,fJ m.base.codes=some o->aeH m o
 ats:∀p∈m.processes,inR p.at_ (-1) ((m.contexts.length:Int) - 1)=true
 live:vc m (pb m++m.ready++wB m)
 exc:∀o∈m.store.objects,xL m o
open Classical in
noncomputable def da (m:ad):Bool:=decide (acu m)
open Classical in
theorem aby {m:ad} (h:¬ acu m):da m=false:=decide_eq_false h
open Classical in
theorem ack {m:ad} (h:acu m):da m=true:=decide_eq_true h
theorem nq {st:aQ} {nb:Int} (h:lA st nb=true):cn st.classes=true/\st.objects.length<=800/\∀o∈st.objects,o.kind=3->1<=o.numbers.length:=by
 unfold lA at h
 simp only[Zq] at h
 obtain⟨h1,h2,_,_,_,_,h7⟩:=h
 have h2:=of_decide_eq_true h2
 refine⟨h1,by omega,fun o ho h3=>?_⟩
 have h8:=List.all_eq_true.1 h7 o ho
 unfold hY at h8
 simp only[Zq] at h8
 have h9:=h8.2
 rw[if_neg (by omega),if_neg (by omega),if_pos h3] at h9
 exact(of_decide_eq_true h9).2.2.1
open Classical in
theorem dU {x:aF} (h:dM x=true):1<=x.codes.length/\∃o,fJ x.codes=some o/\o.length=x.codes.length:=by
 have hp:d9 x:=of_decide_eq_true h
 obtain⟨o,ho,_⟩:=hp.2.2.2.2
 have h1:=of_decide_eq_true hp.2.2.1.1
 exact⟨by omega,o,ho,(kz ho).1.1⟩
def frF (m:ad):Nat->Int->List Int
 | 0,_=>[]
 | n+1,k=>match cxA m k with
   | some c=>(if c.mark=0 then [k] else [])++frF m n c.sender
   | none=>[]
def bR (m:ad) (k:Int):List Int:=frF m (k+1).toNat k
theorem agl {m:ad} (hs:eY m) (n:Nat):∀k:Int,(k+1).toNat<=n->frF m n k=frF m (k+1).toNat k:=by
 induction n using Nat.strongRecOn with
 | _ n ih =>
   intro k hk
   generalize hj:(k+1).toNat=j at hk |-
   cases j with
   | zero =>
     cases n with
     | zero=>rfl
     | succ n=>simp only[frF,rO (m:=m) (k:=k) (by omega)]
   | succ j =>
     obtain⟨q,rfl⟩:∃q,n=q+1:=⟨n - 1,by omega⟩
     simp only[frF]
     cases hc:cxA m k with
     | none=>rfl
     | some c =>
       obtain⟨h0,hl,he⟩:=lW hc
       have h1:=hs k.toNat hl
       rw[he] at h1
       dsimp only
       rw[ih q (by omega) c.sender (by omega),ih j (by omega) c.sender (by omega)]
theorem iQ {m:ad} {k:Int} (h:k<0):bR m k=[]:=by
 unfold bR
 rw[show (k+1).toNat=0 by omega];rfl
theorem jD {m:ad} (hs:eY m) {k:Nat} (h:k<m.contexts.length):bR m k=(if m.contexts[k].mark=0 then [(k:Int)] else [])++bR m m.contexts[k].sender:=by
 have h1:=hs k h
 unfold bR
 rw[show ((k:Int)+1).toNat=k+1 by omega]
 simp only[frF,dF h]
 rw[agl hs k _ (by omega)]
theorem jd (m:ad) (k:Int):(bR m k).length<=(k+1).toNat:=by
 have h:∀(n:Nat) (k:Int),(frF m n k).length<=n:=by
   intro n
   induction n with
   | zero=>intro k;simp[frF]
   | succ n ih =>
     intro k
     simp only[frF]
     cases cxA m k with
     | none=>simp
     | some c =>
       have:=ih c.sender
       dsimp only
       split <;> simp <;> omega
 exact h _ _
def atN (m:ad):Int:=match m.processes[m.now.toNat]? with|some p=>p.at_|none=>-1
noncomputable def cR (m:ad):List Int:=if da m=true/\m.status=0 then bR m (atN m) else []
open Classical in
theorem ld {m:ad} (h:da m=true):eY m/\∃(n:Nat) (p:ag),m.now=n/\n<m.processes.length/\m.processes[n]?=some p/\atN m=p.at_/\-1<=p.at_/\p.at_<m.contexts.length:=by
 have hi:acu m:=of_decide_eq_true h
 obtain⟨_,o,ho,_⟩:=dU hi.ver
 refine⟨pH (hi.outs o ho).1, ?_⟩
 have h1:0<=m.now/\m.now<=(m.processes.length:Int) - 1:=of_decide_eq_true hi.now
 obtain⟨n,hn⟩:∃n:Nat,m.now=n:=⟨m.now.toNat,by omega⟩
 have hl:n<m.processes.length:=by omega
 have h2:-1<=m.processes[n].at_/\m.processes[n].at_<=(m.contexts.length:Int) - 1:=of_decide_eq_true (hi.ats _ (Zb hl))
 refine⟨n,m.processes[n],hn,hl,Za hl, ?_,by omega,by omega⟩
 unfold atN
 rw[hn,ZB,Za hl]
theorem sQ {m:ad} (hx:m.small 1048576):(cR m).length<=1048576:=by
 unfold cR
 split
 ·rename_i h
  obtain⟨_,n,p,_,_,_,h1,_,h2⟩:=ld h.1
  have h3:=jd m (atN m)
  have h4:=hx.2.2.2.1.1
  rw[h1] at h3 |-
  omega
 ·simp
def ownL (l:List aa) (n:Nat):List ByteArray:=match l[n]? with|some c=>c.fields.drop (eW l c).length|none=>[]
inductive Nd
 | obj (n:Nat)
 | blk (n:Nat)
 | ctx (n:Nat)
 | prc (n:Nat)
def aeU (v:ab):List Nd:=if v.kind=6 then [.obj v.number.toNat] else if v.kind=7 then [.blk v.number.toNat] else []
def aeQ (k:Int):List Nd:=if 0<=k then [.ctx k.toNat] else []
def aiw (o:ar):List Nd:=o.fields.flatMap aeU++((if o.kind=1 then (o.numbers.take 2).flatMap aeQ else [])++(if o.kind=3 then (o.numbers.drop 1).map (fun p=>.prc p.toNat) else []))
def cxN (c:ao):List Nd:=aeQ c.sender++(aeQ c.outer++(aeQ c.home++((if c.mark=3\/c.mark=5 then aeQ c.other else [])++(aeU c.self++(c.slots.flatMap aeU++(c.stack.flatMap aeU++c.values.flatMap aeU))))))
def ahj (m:ad):Nd->List Nd
 | .obj n=>match m.store.objects[n]? with|some o=>aiw o|none=>[]
 | .blk n=>match m.blocks[n]? with|some b=>aeQ b.outer++aeU b.self|none=>[]
 | .ctx n=>match m.contexts[n]? with|some c=>cxN c|none=>[]
 | .prc n=>match m.processes[n]? with|some p=>aeQ p.at_|none=>[]
def ags (m:ad):List Nd:=(if m.status=0 then [.prc m.now.toNat] else [])++(m.ready.map (fun p=>.prc p.toNat)++aeU m.value)
inductive Rch (m:ad):Nd->Prop
 | root (x:Nd) (h:x∈ags m):Rch m x
 | step (x y:Nd) (h:Rch m x) (hs:y∈ahj m x):Rch m y
structure Mk4 where
 o:List Bool
 b:List Bool
 c:List Bool
 p:List Bool
def Mk4.has (s:Mk4):Nd->Prop
 | .obj n=>s.o[n]?=some true
 | .blk n=>s.b[n]?=some true
 | .ctx n=>s.c[n]?=some true
 | .prc n=>s.p[n]?=some true
def Mk4.set (s:Mk4):Nd->Mk4
 | .obj n=>⟨s.o.set n true,s.b,s.c,s.p⟩
 | .blk n=>⟨s.o,s.b.set n true,s.c,s.p⟩
 | .ctx n=>⟨s.o,s.b,s.c.set n true,s.p⟩
 | .prc n=>⟨s.o,s.b,s.c,s.p.set n true⟩
def Mk4.fits (s:Mk4) (m:ad):Prop:=s.o.length=m.store.objects.length/\s.b.length=m.blocks.length/\s.c.length=m.contexts.length/\s.p.length=m.processes.length
def inN (m:ad):Nd->Prop
 | .obj n=>n<m.store.objects.length
 | .blk n=>n<m.blocks.length
 | .ctx n=>n<m.contexts.length
 | .prc n=>n<m.processes.length
theorem aeE {l:List Bool} {n k:Nat}:(l.set n true)[k]?=some true↔l[k]?=some true\/(k=n/\n<l.length):=by
 rw[YW]
 by_cases h:n=k
 ·subst h
  rw[if_pos rfl]
  by_cases h2:n<l.length
  ·simp[h2]
  ·simp[h2]
 ·rw[if_neg h]
  constructor
  ·exact .inl
  ·rintro (h2|⟨h2,_⟩)
   ·exact h2
   ·exact absurd h2.symm h
theorem Mk4.has_set {s:Mk4} {m:ad} (h:s.fits m) {x:Nd} (hx:inN m x) {y:Nd}:(s.set x).has y↔s.has y\/y=x:=by
 obtain⟨h1,h2,h3,h4⟩:=h
 cases x <;> cases y <;> simp only[Mk4.set,Mk4.has,inN,aeE,Nd.obj.injEq,Nd.blk.injEq,Nd.ctx.injEq,Nd.prc.injEq,reduceCtorEq,or_false] at hx |-
 all_goals
   constructor
   ·rintro (h|⟨h,_⟩)
    ·exact .inl h
    ·exact .inr h
   ·rintro (h|h)
    ·exact .inl h
    ·exact .inr ⟨h,by omega⟩
structure yg (m:ad) (L:List Nd) (s t:Mk4):Prop where
 fits:t.fits m
 mono:∀x,s.has x->t.has x
 all:∀x∈L,t.has x
 new:∀x,t.has x->s.has x\/(Rch m x/\∀y∈ahj m x,t.has y)
theorem yg.refl {m:ad} {L:List Nd} {s:Mk4} (hf:s.fits m) (h:∀x∈L,s.has x):yg m L s s:=⟨hf,fun _ h=>h,h,fun _ h=>.inl h⟩
theorem yg.trans {m:ad} {L K:List Nd} {s t u:Mk4} (h:yg m L s t) (k:yg m K t u):yg m (L++K) s u :=
 ⟨k.fits,fun x hx=>k.mono x (h.mono x hx),fun x hx=>by
   rcases List.mem_append.1 hx with hx|hx
   ·exact k.mono x (h.all x hx)
   ·exact k.all x hx,fun x hx=>by
   rcases k.new x hx with hx|hx
   ·rcases h.new x hx with hx|hx
    ·exact .inl hx
    ·exact .inr ⟨hx.1,fun y hy=>k.mono y (hx.2 y hy)⟩
   ·exact .inr hx⟩
theorem yg.mark {m:ad} {s t:Mk4} {x:Nd} (hs:s.fits m) (hx:inN m x) (hr:Rch m x) (h:yg m (ahj m x) (s.set x) t):yg m [x] s t :=
 ⟨h.fits,fun y hy=>h.mono y ((Mk4.has_set hs hx).2 (.inl hy)),fun y hy=>by
   rw[ZM] at hy
   exact h.mono y ((Mk4.has_set hs hx).2 (.inr hy)),fun y hy=>by
   rcases h.new y hy with hy|hy
   ·rcases(Mk4.has_set hs hx).1 hy with hy|rfl
    ·exact .inl hy
    ·exact .inr ⟨hr,h.all⟩
   ·exact .inr hy⟩
theorem yg.sub {m:ad} {L K:List Nd} {s t:Mk4} (h:yg m L s t) (hk:∀x∈K,x∈L):yg m K s t:=⟨h.fits,h.mono,fun x hx=>h.all x (hk x hx),h.new⟩
structure ag8 (m:ad) (t:Mk4):Prop where
 fits:t.fits m
 iff:∀x,t.has x↔Rch m x
def aeT (m:ad):Mk4:=⟨List.replicate m.store.objects.length false,List.replicate m.blocks.length false,List.replicate m.contexts.length false,List.replicate m.processes.length false⟩
theorem uL {m:ad} {x:Nd}:¬ (aeT m).has x:=by
 cases x <;> simp[aeT,Mk4.has,List.getElem?_replicate]
theorem yg.full {m:ad} {t:Mk4} (h:yg m (ags m) (aeT m) t):ag8 m t :=
 ⟨h.fits,fun x=>⟨fun hx=>by
   rcases h.new x hx with hx|hx
   ·exact absurd hx uL
   ·exact hx.1,fun hx=>by
   induction hx with
   | root x hx=>exact h.all x hx
   | step x y _ hs ih =>
     rcases h.new x ih with hx|hx
     ·exact absurd hx uL
     ·exact hx.2 y hs⟩⟩
theorem lh {a b:List Bool} (hl:a.length=b.length) (h:∀n:Nat,a[n]?=some true↔b[n]?=some true):a=b:=by
 apply List.ext_getElem hl
 intro n h1 h2
 have:=h n
 rw[Za h1,Za h2] at this
 cases ha:a[n] <;> cases hb:b[n] <;> simp_all
theorem ag8.eq {m:ad} {s t:Mk4} (h:ag8 m s) (k:ag8 m t):s=t:=by
 obtain⟨f1,f2,f3,f4⟩:=h.fits
 obtain⟨g1,g2,g3,g4⟩:=k.fits
 have e:=fun x=>(h.iff x).trans (k.iff x).symm
 cases s;cases t
 simp only[Mk4.mk.injEq]
 exact⟨lh (f1.trans g1.symm) fun n=>e (.obj n),lh (f2.trans g2.symm) fun n=>e (.blk n),lh (f3.trans g3.symm) fun n=>e (.ctx n),lh (f4.trans g4.symm) fun n=>e (.prc n)⟩
end Go.Proofs.YtifcomgnmokimaaGreatDoor
