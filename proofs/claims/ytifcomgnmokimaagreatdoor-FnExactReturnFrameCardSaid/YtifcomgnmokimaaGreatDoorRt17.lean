/- Part 17 of the proof: the texts NiA, NiB, NiM, NiS, NiH. -/
import Derived.Test.YtifcomgnmokimaaGreatDoorRt3
import Derived.Test.YtifcomgnmokimaaGreatDoorRt14
import Derived.Test.YtifcomgnmokimaaGreatDoorRt13
set_option linter.all false
set_option maxHeartbeats 2000000
set_option maxRecDepth 20000
namespace Go.Proofs.YtifcomgnmokimaaGreatDoor
open Go Go.RowKit
def nRg {α β:Type} (mk:α->β->List TV) (l:List α) (ps:List β):List (List TV):=List.zipWith mk l ps
def nOg {α β:Type} (ob:α->β->aG) (l:List α) (ps:List β):aG:=(List.zipWith ob l ps).flatten
theorem eN {α β:Type} (mk:α->β->List TV) {l:List α} {ps:List β} (h:ps.length=l.length):(nRg mk l ps).length=l.length:=by simp[nRg,h]
theorem jX {α β:Type} (ob:α->β->aG) {l:List α} {ps:List β} {i:Nat} (h:i<l.length) (hp:ps.length=i) (p:β):nOg ob (l.take (i+1)) (ps++[p])=nOg ob (l.take i) ps++ob l[i] p:=by
 unfold nOg
 rw[ek h,Yv (by simp;omega)];simp
theorem acn {α β:Type} (mk:α->β->List TV) (z:List TV) {l:List α} {ps:List β} {i:Nat} (h:i<l.length) (hp:ps.length=i) (p:β) :
   (nRg mk (l.take i) ps++List.replicate (l.length - i) z)[i]?=some z/\(nRg mk (l.take i) ps++List.replicate (l.length - i) z).set i (mk l[i] p)=nRg mk (l.take (i+1)) (ps++[p])++List.replicate (l.length - (i+1)) z:=by
 have hl:(nRg mk (l.take i) ps).length=i:=by simp[nRg];omega
 have e:l.length - i=(l.length - (i+1))+1:=by omega
 refine⟨?_, ?_⟩
 ·rw[Zr (by omega),hl,Yt,e,Z8];rfl
 ·rw[Yw _ _ (by omega),hl,Yt,e,Z8,Xd]
  unfold nRg
  rw[ek h,Yv (by simp;omega),Zk];rfl
theorem qH (a:Nat×Nat×aV) (z T R:aG):bS (a::((T++z)++R)) (a::(z++(T++R))):=.perm (by
 have h:((T++z)++R).Perm (z++(T++R)):=by
   rw[<- Zk]
   exact List.perm_append_comm.append_right R
 exact h.cons a)
theorem vI (a:Nat×Nat×aV) (z R:aG):bS (a::(z++R)) (z++(a::R)):=.perm List.perm_middle.symm
def Pl:Type:=Nat×Nat
def cf (x:ar) (p:Pl×Pl):List TV:=[.int .i64 x.kind,.int .i64 x.class_,.ms p.1.1 p.1.2 0 x.fields.length,.ms p.2.1 p.2.2 0 x.numbers.length]
def cI (x:ar) (p:Pl×Pl):aG:=[(p.1.1,p.1.2,.row 3 (x.fields.map (ab.tw 0))),(p.2.1,p.2.2,.row 1 (aS x.numbers))]
def aM (x:ao) (p:Pl×Pl×Pl):List TV:=[.int .i64 x.mark,.int .i64 x.code,.int .i64 x.pc,.int .i64 x.sender,.int .i64 x.outer,.int .i64 x.home,.int .i64 x.self.kind,.int .i64 x.self.number,.str x.self.text,.ms p.1.1 p.1.2 0 x.slots.length,.ms p.2.1.1 p.2.1.2 0 x.stack.length,.ms p.2.2.1 p.2.2.2 0 x.values.length,.int .i64 x.other,.bool x.retry]
def bG (x:ao) (p:Pl×Pl×Pl):aG:=[(p.1.1,p.1.2,.row 3 (x.slots.map (ab.tw 0))),(p.2.1.1,p.2.1.2,.row 3 (x.stack.map (ab.tw 0))),(p.2.2.1,p.2.2.2,.row 3 (x.values.map (ab.tw 0)))]
def afZ (l:List ar) (y:Pl×List (Pl×Pl)):aG:=(y.1.1,y.1.2,.row 4 (nRg cf l y.2))::nOg cI l y.2
def ad7 (l:List ao) (y:Pl×List (Pl×Pl×Pl)):aG:=(y.1.1,y.1.2,.row 14 (nRg aM l y.2))::nOg bG l y.2
def StP:Type:=((Nat×Nat)×List (Nat×Nat))×(Pl×List (Pl×Pl))×Pl
def stO (x:aQ) (y:StP):aG:=rk x.classes y.1++(afZ x.objects y.2.1++[(y.2.2.1,y.2.2.2,.row 1 (ca x.output))])
def stC (x:aQ) (y:StP):List TV:=[.ms y.1.1.1 y.1.1.2 0 x.classes.length,.ms y.2.1.1.1 y.2.1.1.2 0 x.objects.length,.ms y.2.2.1 y.2.2.2 0 x.output.length,.int .i64 x.ticks,.int .i64 x.budget,.int .i64 x.made]
def stI (x:aQ) (y:StP):Prop:=y.1.2.length=x.classes.length/\y.2.1.2.length=x.objects.length
def bJ:Type:=CbP×StP×Pl×(Pl×List (Pl×Pl×Pl))×Pl×Pl
def imO (x:ad) (y:bJ):aG:=cbO x.base y.1++(stO x.store y.2.1++([(y.2.2.1.1,y.2.2.1.2,.row 6 (x.blocks.map (aq.tw 0)))]++(ad7 x.contexts y.2.2.2.1++([(y.2.2.2.2.1.1,y.2.2.2.2.1.2,.row 2 (x.processes.map (ag.tw 0)))]++[(y.2.2.2.2.2.1,y.2.2.2.2.2.2,.row 1 (aS x.ready))]))))
def imC (x:ad) (y:bJ):List TV:=[.ms y.1.1.1.1 y.1.1.1.2 0 x.base.classes.length,.ms y.1.2.1.1.1 y.1.2.1.1.2 0 x.base.codes.length,.ms y.1.2.2.1 y.1.2.2.2 0 x.base.entries.length,.int .i64 x.base.main,
 .ms y.2.1.1.1.1 y.2.1.1.1.2 0 x.store.classes.length,.ms y.2.1.2.1.1.1 y.2.1.2.1.1.2 0 x.store.objects.length,.ms y.2.1.2.2.1 y.2.1.2.2.2 0 x.store.output.length,.int .i64 x.store.ticks,.int .i64 x.store.budget,.int .i64 x.store.made,
 .ms y.2.2.1.1 y.2.2.1.2 0 x.blocks.length,.ms y.2.2.2.1.1.1 y.2.2.2.1.1.2 0 x.contexts.length,.ms y.2.2.2.2.1.1 y.2.2.2.2.1.2 0 x.processes.length,.ms y.2.2.2.2.2.1 y.2.2.2.2.2.2 0 x.ready.length,.int .i64 x.now,.int .i64 x.status,.int .i64 x.value.kind,.int .i64 x.value.number,.str x.value.text,.str x.fault]
def imI (x:ad) (y:bJ):Prop:=cbI x.base y.1/\stI x.store y.2.1/\y.2.2.2.1.2.length=x.contexts.length
section
variable {G:World->Prop}
theorem re (hst:ay G) (lo:Nat) (l:List Int) (hn:l.length<=1048576):CtM Tryz.prog G 29 [.sl lo 1 (aS l)] [] (fun _:Nat×Nat=>True) (fun y=>[(y.1,y.2,.row 1 (aS l))]) (fun y=>.ms y.1 y.2 0 l.length):=by
 refine au Tryz.func29 rfl Tryz.ntmps29 rfl rfl rfl fun w0 R gs objsR hG hR=>?_
 obtain rfl:=hR.inv0
 clear hR
 have hlen:=aj l
 have h0:=fC (fun n:Int=>[TV.int .i64 n]) [.int .i64 0] l
 repeat' (first|refine W_ ?_|(refine gK ?_;intro ss bb))
 generalize ss=so;generalize bb=bo
 apply ap (X:=Nat) [0,3,1000000] (fun i=>[(4,.int .i64 (i:Int))]) (fun i=>(so,bo,.row 1 (iy (fun n:Int=>[TV.int .i64 n]) [.int .i64 0] l i))::R) (fun i=>i<=l.length) (fun i=>l.length - i) 0 (Ze _)
 exact kp_;exact nw_
 ·rw[<- h0];exact .refl _
 intro i hi
 try dsimp only
 by_cases hlt:i<l.length
 ·obtain⟨hrow,hset⟩:=gJ (fun n:Int=>[TV.int .i64 n]) [.int .i64 0] hlt
  have hra:(aS l)[i]?=some [.int .i64 l[i]]:=aK hlt
  generalize l[i]=x at hset hra
  try dsimp only at hset
  repeat' (first|refine W_ ?_|refine bD ?_)
  refine ah (i+1) (by omega) (by omega) (.of _ nw_ od_ (by rw[<- hset];exact .refl _))
 ·obtain rfl:i=l.length:=by omega
  rw[fI]
  repeat' refine W_ ?_
  exact aw x_ rfl (so,bo) trivial rfl (.cons _ _ _ _ (.nil R)) pk_ (.tmp _ _ rfl) rfl
theorem gW (hst:ay G) (lo:Nat) (l:List ab) (hb:l.length<=1048576/\∀y∈l,ab.small 1048576 y):CtM Tryz.prog G 177 [.sl lo 3 (l.map (ab.tw lo))] [] (fun _:Nat×Nat=>True) (fun y=>[(y.1,y.2,.row 3 (l.map (ab.tw 0)))]) (fun y=>.ms y.1 y.2 0 l.length):=by
 refine au Tryz.func177 rfl Tryz.ntmps177 rfl rfl rfl fun w0 R gs objsR hG hR=>?_
 obtain rfl:=hR.inv0
 clear hR
 have hlen:=ab.len lo l
 have hl1:=hb.1
 have h0:=fC (ab.tw 0) ab.tz l
 repeat' (first|refine W_ ?_|(refine gK ?_;intro ss bb))
 generalize ss=so;generalize bb=bo
 apply ap (X:=Nat) [0,3,1000000] (fun i=>[(4,.int .i64 (i:Int))]) (fun i=>(so,bo,.row 3 (iy (ab.tw 0) ab.tz l i))::R) (fun i=>i<=l.length) (fun i=>l.length - i) 0 (Ze _)
 exact kp_;exact nw_
 ·rw[<- h0];exact .refl _
 intro i hi
 try dsimp only
 by_cases hlt:i<l.length
 ·obtain⟨hrow,hset⟩:=gJ (ab.tw 0) ab.tz hlt
  have hra:(l.map (ab.tw lo))[i]?=some (l[i].tw lo):=aK hlt
  have hbi:=hb.2 _ (Zb hlt)
  generalize l[i]=x at hset hra hbi
  have hct:=ix hst lo x hbi
  unfold ab.tw at hct
  rw[show x.tw lo=[.int .i64 x.kind,.int .i64 x.number,.str x.text] from rfl] at hra
  replace hrow:(iy (ab.tw 0) ab.tz l i)[i]?=some [.int .i64 0,.int .i64 0,.str ⟨#[]⟩]:=hrow
  repeat' (first|refine W_ ?_|refine ae hG hst (hct) ?_|refine bD ?_)
  refine ah (i+1) (by omega) (by omega) (.of _ nw_ od_ (by rw[<- hset];exact .refl _))
 ·obtain rfl:i=l.length:=by omega
  rw[fI]
  repeat' refine W_ ?_
  exact aw x_ rfl (so,bo) trivial rfl (.cons _ _ _ _ (.nil R)) pk_ (.tmp _ _ rfl) rfl
theorem qn (hst:ay G) (lo:Nat) (l:List aq) (hb:l.length<=1048576/\∀y∈l,aq.small 1048576 y):CtM Tryz.prog G 26 [.sl lo 6 (l.map (aq.tw lo))] [] (fun _:Nat×Nat=>True) (fun y=>[(y.1,y.2,.row 6 (l.map (aq.tw 0)))]) (fun y=>.ms y.1 y.2 0 l.length):=by
 refine au Tryz.func26 rfl Tryz.ntmps26 rfl rfl rfl fun w0 R gs objsR hG hR=>?_
 obtain rfl:=hR.inv0
 clear hR
 have hlen:=aq.len lo l
 have hl1:=hb.1
 have h0:=fC (aq.tw 0) aq.tz l
 repeat' (first|refine W_ ?_|(refine gK ?_;intro ss bb))
 generalize ss=so;generalize bb=bo
 apply ap (X:=Nat) [0,3,1000000] (fun i=>[(4,.int .i64 (i:Int))]) (fun i=>(so,bo,.row 6 (iy (aq.tw 0) aq.tz l i))::R) (fun i=>i<=l.length) (fun i=>l.length - i) 0 (Ze _)
 exact kp_;exact nw_
 ·rw[<- h0];exact .refl _
 intro i hi
 try dsimp only
 by_cases hlt:i<l.length
 ·obtain⟨hrow,hset⟩:=gJ (aq.tw 0) aq.tz hlt
  have hra:(l.map (aq.tw lo))[i]?=some (l[i].tw lo):=aK hlt
  have hbi:=hb.2 _ (Zb hlt)
  generalize l[i]=x at hset hra hbi
  have hct:=uD hst lo x hbi
  unfold aq.tw at hct
  rw[show x.tw lo=[.int .i64 x.code,.int .i64 x.outer,.int .i64 x.home,.int .i64 x.self.kind,.int .i64 x.self.number,.str x.self.text] from rfl] at hra
  replace hrow:(iy (aq.tw 0) aq.tz l i)[i]?=some [.int .i64 0,.int .i64 0,.int .i64 0,.int .i64 0,.int .i64 0,.str ⟨#[]⟩]:=hrow
  repeat' (first|refine W_ ?_|refine ae hG hst (hct) ?_|refine bD ?_)
  refine ah (i+1) (by omega) (by omega) (.of _ nw_ od_ (by rw[<- hset];exact .refl _))
 ·obtain rfl:i=l.length:=by omega
  rw[fI]
  repeat' refine W_ ?_
  exact aw x_ rfl (so,bo) trivial rfl (.cons _ _ _ _ (.nil R)) pk_ (.tmp _ _ rfl) rfl
theorem qc (hst:ay G) (lo:Nat) (l:List ag) (hb:l.length<=1048576/\∀y∈l,ag.small 1048576 y):CtM Tryz.prog G 28 [.sl lo 2 (l.map (ag.tw lo))] [] (fun _:Nat×Nat=>True) (fun y=>[(y.1,y.2,.row 2 (l.map (ag.tw 0)))]) (fun y=>.ms y.1 y.2 0 l.length):=by
 refine au Tryz.func28 rfl Tryz.ntmps28 rfl rfl rfl fun w0 R gs objsR hG hR=>?_
 obtain rfl:=hR.inv0
 clear hR
 have hlen:=ag.len lo l
 have hl1:=hb.1
 have h0:=fC (ag.tw 0) ag.tz l
 repeat' (first|refine W_ ?_|(refine gK ?_;intro ss bb))
 generalize ss=so;generalize bb=bo
 apply ap (X:=Nat) [0,3,1000000] (fun i=>[(4,.int .i64 (i:Int))]) (fun i=>(so,bo,.row 2 (iy (ag.tw 0) ag.tz l i))::R) (fun i=>i<=l.length) (fun i=>l.length - i) 0 (Ze _)
 exact kp_;exact nw_
 ·rw[<- h0];exact .refl _
 intro i hi
 try dsimp only
 by_cases hlt:i<l.length
 ·obtain⟨hrow,hset⟩:=gJ (ag.tw 0) ag.tz hlt
  have hra:(l.map (ag.tw lo))[i]?=some (l[i].tw lo):=aK hlt
  have hbi:=hb.2 _ (Zb hlt)
  generalize l[i]=x at hset hra hbi
  have hct:=tG hst lo x hbi
  unfold ag.tw at hct
  rw[show x.tw lo=[.int .i64 x.at_,.bool x.main] from rfl] at hra
  replace hrow:(iy (ag.tw 0) ag.tz l i)[i]?=some [.int .i64 0,.bool false]:=hrow
  repeat' (first|refine W_ ?_|refine ae hG hst (hct) ?_|refine bD ?_)
  refine ah (i+1) (by omega) (by omega) (.of _ nw_ od_ (by rw[<- hset];exact .refl _))
 ·obtain rfl:i=l.length:=by omega
  rw[fI]
  repeat' refine W_ ?_
  exact aw x_ rfl (so,bo) trivial rfl (.cons _ _ _ _ (.nil R)) pk_ (.tmp _ _ rfl) rfl
theorem uZ (hst:ay G) (lo:Nat) (x:ar) (hb:x.small 1048576):CtM Tryz.prog G 176 [.agg [.int .i64 x.kind,.int .i64 x.class_,.sl lo 3 (x.fields.map (ab.tw lo)),.sl lo 1 (aS x.numbers)]] [] (fun _:Pl×Pl=>True) (fun y=>cI x y) (fun y=>.agg (cf x y)):=by
 refine au Tryz.func176 rfl Tryz.ntmps176 rfl rfl rfl fun w0 R gs objsR hG hR=>?_
 obtain rfl:=hR.inv0
 clear hR
 have h1:=gW hst lo x.fields hb.1
 have h2:=re hst lo x.numbers hb.2
 unfold cI cf
 repeat' (first|refine W_ ?_|refine aJ ?_|(refine ak ?_;intro ss bb)|refine ac ?_|((with_reducible apply aA);rfl;kernel_rfl;(repeat (first|exact az.nil|((with_reducible apply az.cons);rfl)));exact hG;exact h1;exact .nil _;intro y1 hy1;refine bO ?_)|((with_reducible apply aA);rfl;kernel_rfl;(repeat (first|exact az.nil|((with_reducible apply az.cons);rfl)));exact hG;exact h2;exact .nil _;intro y2 hy2;refine bO ?_))
 refine aw x_ rfl (y1,y2) trivial rfl (.cons _ _ _ _ (.cons _ _ _ _ (.nil R))) pk_ (.cell _ _ _ _ _ rfl mm_ (by kernel_rfl) (by kernel_rfl) (by kernel_rfl)) rfl
theorem rW (hst:ay G) (lo:Nat) (l:List ar) (hb:l.length<=1048576/\∀y∈l,ar.small 1048576 y):CtM Tryz.prog G 94 [.sl lo 4 (l.map (ar.tw lo))] [] (fun y:Pl×List (Pl×Pl)=>y.2.length=l.length) (fun y=>afZ l y) (fun y=>.ms y.1.1 y.1.2 0 l.length):=by
 refine au Tryz.func94 rfl Tryz.ntmps94 rfl rfl rfl fun w0 R gs objsR hG hR=>?_
 obtain rfl:=hR.inv0
 clear hR
 have hlen:=ar.len lo l
 have hl1:=hb.1
 have h0:List.replicate l.length ar.tz=nRg cf (l.take 0) []++List.replicate (l.length - 0) ar.tz:=by simp[nRg]
 repeat' (first|refine W_ ?_|(refine gK ?_;intro ss bb))
 generalize ss=so;generalize bb=bo
 apply ap (X:=Nat×List (Pl×Pl)) [0,3,1000000] (fun x=>[(4,.int .i64 (x.1:Int))]) (fun x=>(so,bo,.row 4 (nRg cf (l.take x.1) x.2++List.replicate (l.length - x.1) ar.tz))::(nOg cI (l.take x.1) x.2++R)) (fun x=>x.1<=l.length/\x.2.length=x.1) (fun x=>l.length - x.1) (0,[]) ⟨Ze _,rfl⟩
 exact kp_;exact nw_
 ·rw[<- h0];exact .refl _
 rintro ⟨i,ps⟩ ⟨hi,hps⟩
 dsimp only at hi hps |-
 by_cases hlt:i<l.length
 ·have hrs:=fun p=>acn cf ar.tz hlt hps p
  have hos:=fun p=>jX cI hlt hps p
  have hra:(l.map (ar.tw lo))[i]?=some (l[i].tw lo):=aK hlt
  have hbi:=hb.2 _ (Zb hlt)
  generalize l[i]=x at hrs hos hra hbi
  have hct:=uZ hst lo x hbi
  rw[show x.tw lo=[.int .i64 x.kind,.int .i64 x.class_,.sl lo 3 (x.fields.map (ab.tw lo)),.sl lo 1 (aS x.numbers)] from rfl] at hra
  have hrow:(nRg cf (l.take i) ps++List.replicate (l.length - i) ar.tz)[i]?=some [.int .i64 0,.int .i64 0,.nils,.nils]:=(hrs ((0,0),(0,0))).1
  generalize nOg cI (l.take i) ps=T at hos |-
  unfold cf at hct
  repeat' (first|refine W_ ?_|((with_reducible apply aA);rfl;kernel_rfl;(repeat (first|exact az.nil|((with_reducible apply az.cons);rfl)));exact hG;exact hct;exact .nil _;intro y hy;refine cL (vI _ _ _) ?_)|refine bD ?_)
  refine ah (i+1,ps++[y]) ⟨by dsimp only;omega,by dsimp only;simp[hps]⟩ (by dsimp only;omega) (.of _ nw_ od_ ?_)
  dsimp only
  rw[hos y,<- (hrs y).2]
  exact qH _ _ T R
 ·obtain rfl:i=l.length:=by omega
  rw[Zc (Zg _),Yt,YZ,Zt]
  repeat' refine W_ ?_
  exact aw x_ rfl ((so,bo),ps) hps rfl (.cons _ _ _ _ (.app _ R)) (.refl _) (.tmp _ _ rfl) rfl
theorem sY (hst:ay G) (lo:Nat) (x:ao) (hb:x.small 1048576):CtM Tryz.prog G 97 [.agg [.int .i64 x.mark,.int .i64 x.code,.int .i64 x.pc,.int .i64 x.sender,.int .i64 x.outer,.int .i64 x.home,.int .i64 x.self.kind,.int .i64 x.self.number,.str x.self.text,.sl lo 3 (x.slots.map (ab.tw lo)),.sl lo 3 (x.stack.map (ab.tw lo)),.sl lo 3 (x.values.map (ab.tw lo)),.int .i64 x.other,.bool x.retry]] [] (fun _:Pl×Pl×Pl=>True) (fun y=>bG x y) (fun y=>.agg (aM x y)):=by
 refine au Tryz.func97 rfl Tryz.ntmps97 rfl rfl rfl fun w0 R gs objsR hG hR=>?_
 obtain rfl:=hR.inv0
 clear hR
 have h1:=gW hst lo x.slots hb.2.1
 have h2:=gW hst lo x.stack hb.2.2.1
 have h3:=gW hst lo x.values hb.2.2.2
 have hvc:=ix hst lo x.self hb.1
 unfold ab.tw at hvc
 unfold bG aM
 repeat' (first|refine W_ ?_|refine aJ ?_|(refine ak ?_;intro ss bb)|refine ac ?_|refine ae hG hst (hvc) ?_|((with_reducible apply aA);rfl;kernel_rfl;(repeat (first|exact az.nil|((with_reducible apply az.cons);rfl)));exact hG;exact h1;exact .nil _;intro y1 hy1;refine bO ?_)|((with_reducible apply aA);rfl;kernel_rfl;(repeat (first|exact az.nil|((with_reducible apply az.cons);rfl)));exact hG;exact h2;exact .nil _;intro y2 hy2;refine bO ?_)|((with_reducible apply aA);rfl;kernel_rfl;(repeat (first|exact az.nil|((with_reducible apply az.cons);rfl)));exact hG;exact h3;exact .nil _;intro y3 hy3;refine bO ?_))
 refine aw x_ rfl (y1,y2,y3) trivial rfl (.cons _ _ _ _ (.cons _ _ _ _ (.cons _ _ _ _ (.nil R)))) pk_ (.cell _ _ _ _ _ rfl mm_ (by kernel_rfl) (by kernel_rfl) (by kernel_rfl)) rfl
theorem qp (hst:ay G) (lo:Nat) (l:List ao) (hb:l.length<=1048576/\∀y∈l,ao.small 1048576 y):CtM Tryz.prog G 27 [.sl lo 14 (l.map (ao.tw lo))] [] (fun y:Pl×List (Pl×Pl×Pl)=>y.2.length=l.length) (fun y=>ad7 l y) (fun y=>.ms y.1.1 y.1.2 0 l.length):=by
 refine au Tryz.func27 rfl Tryz.ntmps27 rfl rfl rfl fun w0 R gs objsR hG hR=>?_
 obtain rfl:=hR.inv0
 clear hR
 have hlen:=ao.len lo l
 have hl1:=hb.1
 have h0:List.replicate l.length ao.tz=nRg aM (l.take 0) []++List.replicate (l.length - 0) ao.tz:=by simp[nRg]
 repeat' (first|refine W_ ?_|(refine gK ?_;intro ss bb))
 generalize ss=so;generalize bb=bo
 apply ap (X:=Nat×List (Pl×Pl×Pl)) [0,3,1000000] (fun x=>[(4,.int .i64 (x.1:Int))]) (fun x=>(so,bo,.row 14 (nRg aM (l.take x.1) x.2++List.replicate (l.length - x.1) ao.tz))::(nOg bG (l.take x.1) x.2++R)) (fun x=>x.1<=l.length/\x.2.length=x.1) (fun x=>l.length - x.1) (0,[]) ⟨Ze _,rfl⟩
 exact kp_;exact nw_
 ·rw[<- h0];exact .refl _
 rintro ⟨i,ps⟩ ⟨hi,hps⟩
 dsimp only at hi hps |-
 by_cases hlt:i<l.length
 ·have hrs:=fun p=>acn aM ao.tz hlt hps p
  have hos:=fun p=>jX bG hlt hps p
  have hra:(l.map (ao.tw lo))[i]?=some (l[i].tw lo):=aK hlt
  have hbi:=hb.2 _ (Zb hlt)
  generalize l[i]=x at hrs hos hra hbi
  have hct:=sY hst lo x hbi
  rw[show x.tw lo=[.int .i64 x.mark,.int .i64 x.code,.int .i64 x.pc,.int .i64 x.sender,.int .i64 x.outer,.int .i64 x.home,.int .i64 x.self.kind,.int .i64 x.self.number,.str x.self.text,.sl lo 3 (x.slots.map (ab.tw lo)),.sl lo 3 (x.stack.map (ab.tw lo)),.sl lo 3 (x.values.map (ab.tw lo)),.int .i64 x.other,.bool x.retry] from rfl] at hra
  have hrow:(nRg aM (l.take i) ps++List.replicate (l.length - i) ao.tz)[i]?=some [.int .i64 0,.int .i64 0,.int .i64 0,.int .i64 0,.int .i64 0,.int .i64 0,.int .i64 0,.int .i64 0,.str ⟨#[]⟩,.nils,.nils,.nils,.int .i64 0,.bool false]:=(hrs ((0,0),(0,0),(0,0))).1
  generalize nOg bG (l.take i) ps=T at hos |-
  unfold aM at hct
  repeat' (first|refine W_ ?_|((with_reducible apply aA);rfl;kernel_rfl;(repeat (first|exact az.nil|((with_reducible apply az.cons);rfl)));exact hG;exact hct;exact .nil _;intro y hy;refine cL (vI _ _ _) ?_)|refine bD ?_)
  refine ah (i+1,ps++[y]) ⟨by dsimp only;omega,by dsimp only;simp[hps]⟩ (by dsimp only;omega) (.of _ nw_ od_ ?_)
  dsimp only
  rw[hos y,<- (hrs y).2]
  exact qH _ _ T R
 ·obtain rfl:i=l.length:=by omega
  rw[Zc (Zg _),Yt,YZ,Zt]
  repeat' refine W_ ?_
  exact aw x_ rfl ((so,bo),ps) hps rfl (.cons _ _ _ _ (.app _ R)) (.refl _) (.tmp _ _ rfl) rfl
end
theorem oG (A L R:aG):((A++L)++R).Perm (L++(A++R)):=by
 rw[Zk]
 exact Yg A L R
theorem ad0 (A B C D E F R:aG):((A++(B++(C++(D++(E++F)))))++R).Perm (F++(E++(D++(C++(B++(A++R)))))) :=
 (oG A _ R).trans ((oG B _ _).trans ((oG C _ _).trans ((oG D _ _).trans (oG E _ _))))
section
variable {G:World->Prop}
theorem vQ (hst:ay G) (lo:Nat) (x:aQ) (hb:x.small 1048576):CtM Tryz.prog G 25 [.agg (x.tw lo)] [] (stI x) (stO x) (fun y=>.agg (stC x y)):=by
 refine au Tryz.func25 rfl Tryz.ntmps25 rfl rfl rfl fun w0 R gs objsR hG hR=>?_
 obtain rfl:=hR.inv0
 clear hR
 have c1:=jk hst lo x.classes hb.1
 have c2:=rW hst lo x.objects hb.2.1
 have c3:=lN hst lo x.output hb.2.2.1
 unfold aQ.tw
 repeat' (first|refine W_ ?_|refine aJ ?_|(refine ak ?_;intro ss bb)|refine ac ?_|((with_reducible apply aA);rfl;kernel_rfl;(repeat (first|exact az.nil|((with_reducible apply az.cons);rfl)));exact hG;(first|exact c1|exact c2|exact c3);exact .nil _;intro y hy;refine cL (jx _ _ _ _) ?_))
 rename_i yc hyc yd hyd
 refine aw (t1:=.agg [.ms yc.1.1 yc.1.2 0 x.classes.length,.ms yd.1.1 yd.1.2 0 x.objects.length,.ms y.1 y.2 0 x.output.length,.int .i64 x.ticks,.int .i64 x.budget,.int .i64 x.made]) x_ rfl (yc,yd,y) ⟨hyc,hyd⟩ rfl (.app _ R) (.drop (.drop (.perm (wD _ _ _ R)))) (.cell _ _ _ _ _ rfl mm_ (by kernel_rfl) (by kernel_rfl) (by kernel_rfl)) rfl
theorem pU (hst:ay G) (lo:Nat) (x:ad) (hb:x.small 1048576):CtM Tryz.prog G 7 [.agg (x.tw lo)] [] (imI x) (imO x) (fun y=>.agg (imC x y)):=by
 refine au Tryz.func7 rfl Tryz.ntmps7 rfl rfl rfl fun w0 R gs objsR hG hR=>?_
 obtain rfl:=hR.inv0
 clear hR
 have c1:=qa hst lo x.base hb.1
 have c2:=vQ hst lo x.store hb.2.1
 have c3:=qn hst lo x.blocks hb.2.2.1
 have c4:=qp hst lo x.contexts hb.2.2.2.1
 have c5:=qc hst lo x.processes hb.2.2.2.2.1
 have c6:=re hst lo x.ready hb.2.2.2.2.2.1
 have c7:=ix hst lo x.value hb.2.2.2.2.2.2.1
 unfold aF.tw cbC at c1
 unfold aQ.tw stC at c2
 unfold ab.tw at c7
 unfold ad.tw
 repeat' (first|refine W_ ?_|refine aJ ?_|(refine ak ?_;intro ss bb)|refine ac ?_|refine ae hG hst (c7) ?_|((with_reducible apply aA);rfl;kernel_rfl;(repeat (first|exact az.nil|((with_reducible apply az.cons);rfl)));exact hG;(first|exact c1|exact c2|exact c3|exact c4|exact c5|exact c6);exact .nil _;intro y hy;refine cL (jx _ _ _ _) ?_))
 rename_i y1 h1 y2 h2 y3 h3 y4 h4 y5 h5
 refine aw (t1:=.agg [.ms y1.1.1.1 y1.1.1.2 0 x.base.classes.length,.ms y1.2.1.1.1 y1.2.1.1.2 0 x.base.codes.length,.ms y1.2.2.1 y1.2.2.2 0 x.base.entries.length,.int .i64 x.base.main,.ms y2.1.1.1 y2.1.1.2 0 x.store.classes.length,.ms y2.2.1.1.1 y2.2.1.1.2 0 x.store.objects.length,.ms y2.2.2.1 y2.2.2.2 0 x.store.output.length,.int .i64 x.store.ticks,.int .i64 x.store.budget,.int .i64 x.store.made,.ms y3.1 y3.2 0 x.blocks.length,.ms y4.1.1 y4.1.2 0 x.contexts.length,.ms y5.1 y5.2 0 x.processes.length,.ms y.1 y.2 0 x.ready.length,.int .i64 x.now,.int .i64 x.status,.int .i64 x.value.kind,.int .i64 x.value.number,.str x.value.text,.str x.fault]) x_ rfl (y1,y2,y3,y4,y5,y) ⟨h1,h2,h4⟩ rfl (.app _ R) (.drop (.drop (.perm (ad0 _ _ _ _ _ _ R)))) (.cell _ _ _ _ _ rfl mm_ (by kernel_rfl) (by kernel_rfl) (by kernel_rfl)) rfl
end
theorem kA {α β:Type} (mk:α->β->List TV) {l:List α} {ps:List β} {i:Nat} {p:β} {x:α} (hx:l[i]?=some x) (hp:ps[i]?=some p):(nRg mk l ps)[i]?=some (mk x p):=by
 unfold nRg
 rw[Y6,hx,hp]
theorem abo {α β:Type} (mk:α->β->List TV) {l:List α} {ps:List β} {i:Nat} {p:β} {x:α} (hp:ps[i]?=some p):nRg mk (l.set i x) ps=(nRg mk l ps).set i (mk x p):=pR mk hp
theorem lu {a b:List aG} (h:a.Perm b):a.flatten.Perm b.flatten:=by
 induction h with
 | nil=>exact .refl _
 | cons x _ ih=>exact ih.append_left x
 | swap x y l=>exact Yg y x l.flatten
 | trans _ _ h1 h2=>exact h1.trans h2
def ngE {α β:Type} (ob:α->β->aG) (l:List α) (ps:List β) (i:Nat):aG:=((List.zipWith ob l ps).eraseIdx i).flatten
theorem pu {α β:Type} (ob:α->β->aG) {l:List α} {ps:List β} {i:Nat} {p:β} {x:α} (hx:l[i]?=some x) (hp:ps[i]?=some p):(nOg ob l ps).Perm (ob x p++ngE ob l ps i):=by
 have h:=lu (tc (l:=List.zipWith ob l ps) (i:=i) (x:=ob x p) (by rw[Y6,hx,hp]))
 simpa [nOg,ngE] using h
theorem aeh {α β:Type} (ob:α->β->aG) {l:List α} {ps:List β} {i:Nat} {p:β} {x:α} (hl:i<l.length) (hp:ps[i]?=some p):(nOg ob (l.set i x) ps).Perm (ob x p++ngE ob l ps i):=by
 have h:=pu ob (l:=l.set i x) (ps:=ps) (i:=i) (p:=p) (x:=x) (by rw[ZN hl]) hp
 have e:ngE ob (l.set i x) ps i=ngE ob l ps i:=by
   unfold ngE
   rw[pR _ hp,lH]
 rw[e] at h
 exact h
theorem ads (A B:List aG) (s:aG):bS (s::(A++B)).flatten (A++s::B).flatten:=.perm (lu Z4).symm
theorem aaM {a z1 z2:Nat×Nat×aV} {N E:aG} (h:N.Perm ([z1,z2]++E)) (R:aG):bS (z1::z2::a::(E++R)) (a::(N++R)):=.perm (by
 have h1:(a::(N++R)).Perm (a::(([z1,z2]++E)++R)):=(h.append_right R).cons a
 exact(Z4 (l₁:=[z1,z2]) (l₂:=E++R) (a:=a)).trans h1.symm)
theorem acK {a z1 z2:Nat×Nat×aV} {N E:aG} (h:N.Perm ([z1,z2]++E)) (R:aG):bS (a::(N++R)) (z2::z1::a::(E++R)):=.perm (by
 have h1:(a::(N++R)).Perm (a::(([z1,z2]++E)++R)):=(h.append_right R).cons a
 exact h1.trans ((Z4 (l₁:=[z1,z2]) (l₂:=E++R) (a:=a)).symm.trans (List.Perm.swap _ _ _)))
theorem abE {a z1 z2 z3:Nat×Nat×aV} {N E:aG} (h:N.Perm ([z1,z2,z3]++E)) (R:aG):bS (z1::z2::z3::a::(E++R)) (a::(N++R)):=.perm (by
 have h1:(a::(N++R)).Perm (a::(([z1,z2,z3]++E)++R)):=(h.append_right R).cons a
 exact(Z4 (l₁:=[z1,z2,z3]) (l₂:=E++R) (a:=a)).trans h1.symm)
theorem adY {a z1 z2 z3:Nat×Nat×aV} {N E:aG} (h:N.Perm ([z1,z2,z3]++E)) (R:aG):bS (a::(N++R)) (z3::z2::z1::a::(E++R)):=.perm (by
 have h1:(a::(N++R)).Perm (a::(([z1,z2,z3]++E)++R)):=(h.append_right R).cons a
 have h2:(z3::z2::z1::a::(E++R)).Perm (z1::z2::z3::a::(E++R)):=((List.Perm.swap z2 z3 _).trans ((List.Perm.swap z1 z3 _).cons z2)).trans ((List.Perm.swap z1 z2 _))
 exact h1.trans ((Z4 (l₁:=[z1,z2,z3]) (l₂:=E++R) (a:=a)).symm.trans h2.symm))
theorem adu (z1 z2 z3:Nat×Nat×aV) (R:aG):bS (z3::z2::z1::R) (z2::z1::z3::R):=.perm (Z4 (l₁:=[z2,z1]) (l₂:=R) (a:=z3)).symm
def jM (k:Int) (_:Int):Int:=k
def dZ (k:Int) (_:Int):Int:=k+1
theorem j0 (l:List Int):∀x∈l,∀q,q<=dZ q x/\dZ q x<=q+(1:Nat):=fun x _ q=>by unfold dZ;omega
def dk (k:Int) (_:ab):ab:=⟨k,k+1,eh (k+1+1)⟩
def aE (k:Int) (_:ab):Int:=k+1+1+1
theorem cF (l:List ab):∀x∈l,∀q,q<=aE q x/\aE q x<=q+(3:Nat):=fun x _ q=>by unfold aE;omega
def cS (k:Int) (_:aq):aq:=⟨k,k+1,k+1+1,⟨k+1+1+1,k+1+1+1+1,eh (k+1+1+1+1+1)⟩⟩
def aT (k:Int) (_:aq):Int:=k+1+1+1+1+1+1
theorem fW (l:List aq):∀x∈l,∀q,q<=aT q x/\aT q x<=q+(6:Nat):=fun x _ q=>by unfold aT;omega
def cU (k:Int) (_:ag):ag:=⟨k,decide ((k+1).tmod 3=0)⟩
def aX (k:Int) (_:ag):Int:=k+1+1
theorem fR (l:List ag):∀x∈l,∀q,q<=aX q x/\aX q x<=q+(2:Nat):=fun x _ q=>by unfold aX;omega
def cm (k:Int) (x:ar):ar:=⟨k,k+1,mkL dk aE (k+1+1) x.fields,mkL jM dZ (kL aE (k+1+1) x.fields) x.numbers⟩
def bj (k:Int) (x:ar):Int:=kL dZ (kL aE (k+1+1) x.fields) x.numbers
theorem gE {l:List ar} (h:∀y∈l,ar.small 1048576 y):∀x∈l,∀q,q<=bj q x/\bj q x<=q+(4194306:Nat):=fun x hx q=>by
 have h1:=h x hx
 have h2:=h1.1.1
 have h3:=h1.2
 have h4:=iL (nx:=aE) (l:=x.fields) (k:=q+1+1) (cF _)
 have h5:=iL (nx:=dZ) (l:=x.numbers) (k:=kL aE (q+1+1) x.fields) (j0 _)
 unfold bj
 omega
def k9 (k:Int):Int:=k+1+1+1+1+1+1+1+1+1
def bH (k:Int) (x:ao):ao:=⟨k,k+1,k+1+1,k+1+1+1,k+1+1+1+1,k+1+1+1+1+1,⟨k+1+1+1+1+1+1,k+1+1+1+1+1+1+1,eh (k+1+1+1+1+1+1+1+1)⟩,mkL dk aE (k9 k) x.slots,mkL dk aE (kL aE (k9 k) x.slots) x.stack,mkL dk aE (kL aE (kL aE (k9 k) x.slots) x.stack) x.values,kL aE (kL aE (kL aE (k9 k) x.slots) x.stack) x.values,decide ((kL aE (kL aE (kL aE (k9 k) x.slots) x.stack) x.values+1).tmod 3=0)⟩
def aU (k:Int) (x:ao):Int:=kL aE (kL aE (kL aE (k9 k) x.slots) x.stack) x.values+1+1
theorem fP {l:List ao} (h:∀y∈l,ao.small 1048576 y):∀x∈l,∀q,q<=aU q x/\aU q x<=q+(9437195:Nat):=fun x hx q=>by
 have h1:=h x hx
 have h2:=h1.2.1.1
 have h3:=h1.2.2.1.1
 have h4:=h1.2.2.2.1
 have h5:=iL (nx:=aE) (l:=x.slots) (k:=k9 q) (cF _)
 have h6:=iL (nx:=aE) (l:=x.stack) (k:=kL aE (k9 q) x.slots) (cF _)
 have h7:=iL (nx:=aE) (l:=x.values) (k:=kL aE (kL aE (k9 q) x.slots) x.stack) (cF _)
 have h8:k9 q=q+9:=by unfold k9;omega
 unfold aU
 omega
section
variable {G:World->Prop}
theorem nt (hst:ay G) (s b:Nat) (l:List Int) (k:Int) (hn:l.length<=1048576) (hk:0<=k/\k<=1000000000000000):CtM Tryz.prog G 59 [.ms s b 0 l.length,.int .i64 k] [(s,b,.row 1 (aS (l)))] (fun _:Unit=>True) (fun _=>[(s,b,.row 1 (aS (mkL jM dZ k l)))]) (fun _=>.int .i64 (kL dZ k l)):=by
 refine au Tryz.func59 rfl Tryz.ntmps59 rfl rfl rfl fun w0 R gs objsR hG hR=>?_
 obtain rfl:=hR.inv1
 clear hR
 repeat' refine W_ ?_
 apply ap (X:=Nat) [0,1000000] (fun x=>[(5,.int .i64 (x:Int)),(1,.int .i64 (kL dZ k (l.take x)))]) (fun x=>(s,b,.row 1 (aS (ptL jM dZ k l x)))::R) (fun x=>x<=l.length) (fun x=>l.length - x) 0 (Ze _)
 exact kp_;exact nw_
 ·exact .refl _
 intro i hi
 try dsimp only
 have hq:=bu (k:=k) (i:=i) hn (j0 l) hi
 by_cases hlt:i<l.length
 ·have hrow:(aS (ptL jM dZ k l i))[i]?=some ((fun n:Int=>[TV.int .i64 n]) l[i]):=by
    simp only[aS,Zj,eH hlt];rfl
  have hset:(aS (ptL jM dZ k l i)).set i ((fun n:Int=>[TV.int .i64 n]) (jM (kL dZ k (l.take i)) l[i]))=aS (ptL jM dZ k l (i+1)):=by
    rw[<- gI hlt];simp[aS,Yz]
  have hks:=db (nx:=dZ) (k:=k) hlt
  have hrl:(aS (ptL jM dZ k l i)).length=l.length:=by simp[aS,dH hi]
  generalize aS (ptL jM dZ k l i)=rows at hrow hset hrl |-
  generalize kL dZ k (l.take i)=q at hq hset hks |-
  generalize l[i]=x at hrow hset hks
  replace hrow:rows[i]?=some [.int .i64 x]:=hrow
  have hks2:kL dZ k (l.take (i+1))=q+1:=hks
  repeat' (first|refine W_ ?_|refine bD ?_)
  refine ah (i+1) (by omega) (by omega) (.of _ (cW.envCons rfl (cW.envCons (ea rfl (by rw[hks2])) cW.envNil)) od_ ?_)
  rw[<- hset]
  (try simp only[YC])
  exact .refl _
 ·obtain rfl:i=l.length:=by omega
  rw[fg,Zv]
  repeat' refine W_ ?_
  exact aw x_ rfl () trivial rfl (.cons _ _ _ _ (.nil R)) pk_ (.tmp _ _ rfl) rfl
theorem fN (hst:ay G) (s b:Nat) (l:List ab) (k:Int) (hn:l.length<=1048576) (hk:0<=k/\k<=1000000000000000):CtM Tryz.prog G 147 [.ms s b 0 l.length,.int .i64 k] [(s,b,.row 3 ((l).map (ab.tw 0)))] (fun _:Unit=>True) (fun _=>[(s,b,.row 3 ((mkL dk aE k l).map (ab.tw 0)))]) (fun _=>.int .i64 (kL aE k l)):=by
 refine au Tryz.func147 rfl Tryz.ntmps147 rfl rfl rfl fun w0 R gs objsR hG hR=>?_
 obtain rfl:=hR.inv1
 clear hR
 repeat' refine W_ ?_
 apply ap (X:=Nat) [0,1000000] (fun x=>[(5,.int .i64 (x:Int)),(1,.int .i64 (kL aE k (l.take x)))]) (fun x=>(s,b,.row 3 ((ptL dk aE k l x).map (ab.tw 0)))::R) (fun x=>x<=l.length) (fun x=>l.length - x) 0 (Ze _)
 exact kp_;exact nw_
 ·exact .refl _
 intro i hi
 try dsimp only
 have hq:=bu (k:=k) (i:=i) hn (cF l) hi
 by_cases hlt:i<l.length
 ·have hrow:((ptL dk aE k l i).map (ab.tw 0))[i]?=some ((ab.tw 0) l[i]):=by
    simp only[aS,Zj,eH hlt];rfl
  have hset:((ptL dk aE k l i).map (ab.tw 0)).set i ((ab.tw 0) (dk (kL aE k (l.take i)) l[i]))=(ptL dk aE k l (i+1)).map (ab.tw 0):=by
    rw[<- gI hlt];rw[Yz]
  have hks:=db (nx:=aE) (k:=k) hlt
  have hrl:((ptL dk aE k l i).map (ab.tw 0)).length=l.length:=by simp[aS,dH hi]
  generalize (ptL dk aE k l i).map (ab.tw 0)=rows at hrow hset hrl |-
  generalize kL aE k (l.take i)=q at hq hset hks |-
  generalize l[i]=x at hrow hset hks
  replace hrow:rows[i]?=some [.int .i64 x.kind,.int .i64 x.number,.str x.text]:=hrow
  have hr1:(rows.set i [.int .i64 q,.int .i64 x.number,.str x.text])[i]?=some [.int .i64 q,.int .i64 x.number,.str x.text]:=by rw[ZN (by omega)]
  have hks2:kL aE k (l.take (i+1))=q+1+1+1:=hks
  repeat' (first|refine W_ ?_|refine bD ?_|((with_reducible apply mZ);rfl;kernel_rfl;(repeat (first|exact bU.nil|((with_reducible apply bU.cons);rfl;exact .same _)));exact hG;exact hst;exact ci _ (by omega) (by omega)))
  refine ah (i+1) (by omega) (by omega) (.of _ (cW.envCons rfl (cW.envCons (ea rfl (by rw[hks2])) cW.envNil)) od_ ?_)
  rw[<- hset]
  (try simp only[YC])
  exact .refl _
 ·obtain rfl:i=l.length:=by omega
  rw[fg,Zv]
  repeat' refine W_ ?_
  exact aw x_ rfl () trivial rfl (.cons _ _ _ _ (.nil R)) pk_ (.tmp _ _ rfl) rfl
theorem nz (hst:ay G) (s b:Nat) (l:List aq) (k:Int) (hn:l.length<=1048576) (hk:0<=k/\k<=1000000000000000):CtM Tryz.prog G 56 [.ms s b 0 l.length,.int .i64 k] [(s,b,.row 6 ((l).map (aq.tw 0)))] (fun _:Unit=>True) (fun _=>[(s,b,.row 6 ((mkL cS aT k l).map (aq.tw 0)))]) (fun _=>.int .i64 (kL aT k l)):=by
 refine au Tryz.func56 rfl Tryz.ntmps56 rfl rfl rfl fun w0 R gs objsR hG hR=>?_
 obtain rfl:=hR.inv1
 clear hR
 repeat' refine W_ ?_
 apply ap (X:=Nat) [0,1000000] (fun x=>[(5,.int .i64 (x:Int)),(1,.int .i64 (kL aT k (l.take x)))]) (fun x=>(s,b,.row 6 ((ptL cS aT k l x).map (aq.tw 0)))::R) (fun x=>x<=l.length) (fun x=>l.length - x) 0 (Ze _)
 exact kp_;exact nw_
 ·exact .refl _
 intro i hi
 try dsimp only
 have hq:=bu (k:=k) (i:=i) hn (fW l) hi
 by_cases hlt:i<l.length
 ·have hrow:((ptL cS aT k l i).map (aq.tw 0))[i]?=some ((aq.tw 0) l[i]):=by
    simp only[aS,Zj,eH hlt];rfl
  have hset:((ptL cS aT k l i).map (aq.tw 0)).set i ((aq.tw 0) (cS (kL aT k (l.take i)) l[i]))=(ptL cS aT k l (i+1)).map (aq.tw 0):=by
    rw[<- gI hlt];rw[Yz]
  have hks:=db (nx:=aT) (k:=k) hlt
  have hrl:((ptL cS aT k l i).map (aq.tw 0)).length=l.length:=by simp[aS,dH hi]
  generalize (ptL cS aT k l i).map (aq.tw 0)=rows at hrow hset hrl |-
  generalize kL aT k (l.take i)=q at hq hset hks |-
  generalize l[i]=x at hrow hset hks
  replace hrow:rows[i]?=some [.int .i64 x.code,.int .i64 x.outer,.int .i64 x.home,.int .i64 x.self.kind,.int .i64 x.self.number,.str x.self.text]:=hrow
  have hr1:(rows.set i [.int .i64 q,.int .i64 x.outer,.int .i64 x.home,.int .i64 x.self.kind,.int .i64 x.self.number,.str x.self.text])[i]?=some [.int .i64 q,.int .i64 x.outer,.int .i64 x.home,.int .i64 x.self.kind,.int .i64 x.self.number,.str x.self.text]:=by rw[ZN (by omega)]
  have hks2:kL aT k (l.take (i+1))=q+1+1+1+1+1+1:=hks
  repeat' (first|refine W_ ?_|refine bD ?_|((with_reducible apply mZ);rfl;kernel_rfl;(repeat (first|exact bU.nil|((with_reducible apply bU.cons);rfl;exact .same _)));exact hG;exact hst;exact ci _ (by omega) (by omega)))
  refine ah (i+1) (by omega) (by omega) (.of _ (cW.envCons rfl (cW.envCons (ea rfl (by rw[hks2])) cW.envNil)) od_ ?_)
  rw[<- hset]
  (try simp only[YC])
  exact .refl _
 ·obtain rfl:i=l.length:=by omega
  rw[fg,Zv]
  repeat' refine W_ ?_
  exact aw x_ rfl () trivial rfl (.cons _ _ _ _ (.nil R)) pk_ (.tmp _ _ rfl) rfl
theorem nL (hst:ay G) (s b:Nat) (l:List ag) (k:Int) (hn:l.length<=1048576) (hk:0<=k/\k<=1000000000000000):CtM Tryz.prog G 58 [.ms s b 0 l.length,.int .i64 k] [(s,b,.row 2 ((l).map (ag.tw 0)))] (fun _:Unit=>True) (fun _=>[(s,b,.row 2 ((mkL cU aX k l).map (ag.tw 0)))]) (fun _=>.int .i64 (kL aX k l)):=by
 refine au Tryz.func58 rfl Tryz.ntmps58 rfl rfl rfl fun w0 R gs objsR hG hR=>?_
 obtain rfl:=hR.inv1
 clear hR
 repeat' refine W_ ?_
 apply ap (X:=Nat) [0,1000000] (fun x=>[(5,.int .i64 (x:Int)),(1,.int .i64 (kL aX k (l.take x)))]) (fun x=>(s,b,.row 2 ((ptL cU aX k l x).map (ag.tw 0)))::R) (fun x=>x<=l.length) (fun x=>l.length - x) 0 (Ze _)
 exact kp_;exact nw_
 ·exact .refl _
 intro i hi
 try dsimp only
 have hq:=bu (k:=k) (i:=i) hn (fR l) hi
 by_cases hlt:i<l.length
 ·have hrow:((ptL cU aX k l i).map (ag.tw 0))[i]?=some ((ag.tw 0) l[i]):=by
    simp only[aS,Zj,eH hlt];rfl
  have hset:((ptL cU aX k l i).map (ag.tw 0)).set i ((ag.tw 0) (cU (kL aX k (l.take i)) l[i]))=(ptL cU aX k l (i+1)).map (ag.tw 0):=by
    rw[<- gI hlt];rw[Yz]
  have hks:=db (nx:=aX) (k:=k) hlt
  have hrl:((ptL cU aX k l i).map (ag.tw 0)).length=l.length:=by simp[aS,dH hi]
  generalize (ptL cU aX k l i).map (ag.tw 0)=rows at hrow hset hrl |-
  generalize kL aX k (l.take i)=q at hq hset hks |-
  generalize l[i]=x at hrow hset hks
  replace hrow:rows[i]?=some [.int .i64 x.at_,.bool x.main]:=hrow
  have hr1:(rows.set i [.int .i64 q,.bool x.main])[i]?=some [.int .i64 q,.bool x.main]:=by rw[ZN (by omega)]
  have hks2:kL aX k (l.take (i+1))=q+1+1:=hks
  repeat' (first|refine W_ ?_|refine bD ?_)
  refine ah (i+1) (by omega) (by omega) (.of _ (cW.envCons rfl (cW.envCons (ea rfl (by rw[hks2])) cW.envNil)) od_ ?_)
  rw[<- hset]
  (try simp only[YC])
  exact .refl _
 ·obtain rfl:i=l.length:=by omega
  rw[fg,Zv]
  repeat' refine W_ ?_
  exact aw x_ rfl () trivial rfl (.cons _ _ _ _ (.nil R)) pk_ (.tmp _ _ rfl) rfl
theorem pj (hst:ay G) (s b:Nat) (l:List ar) (ps:List (Pl×Pl)) (hps:ps.length=l.length) (k:Int) (hn:l.length<=1048576/\∀y∈l,ar.small 1048576 y) (hk:0<=k/\k<=100000000000000) :
   CtM Tryz.prog G 144 [.ms s b 0 l.length,.int .i64 k] ((s,b,.row 4 (nRg cf l ps))::nOg cI l ps) (fun _:Unit=>True) (fun _=>(s,b,.row 4 (nRg cf (mkL cm bj k l) ps))::nOg cI (mkL cm bj k l) ps) (fun _=>.int .i64 (kL bj k l)):=by
 refine au Tryz.func144 rfl Tryz.ntmps144 rfl rfl rfl fun w0 R gs objsR hG hR=>?_
 obtain rfl:=hR.eq
 clear hR
 obtain⟨hn,hsm⟩:=hn
 repeat' refine W_ ?_
 apply ap (X:=Nat) [0,1000000] (fun x=>[(5,.int .i64 (x:Int)),(1,.int .i64 (kL bj k (l.take x)))]) (fun x=>(s,b,.row 4 (nRg cf (ptL cm bj k l x) ps))::(nOg cI (ptL cm bj k l x) ps++R)) (fun x=>x<=l.length) (fun x=>l.length - x) 0 (Ze _)
 exact kp_;exact nw_
 ·exact .refl _
 intro i hi
 try dsimp only
 have hq:=bu (k:=k) (i:=i) hn (gE hsm) hi
 by_cases hlt:i<l.length
 ·obtain⟨p,hp⟩:∃p,ps[i]?=some p:=⟨_,Za (by omega)⟩
  have hpl:i<(ptL cm bj k l i).length:=by rw[dH hi];exact hlt
  have hrow:=kA cf (eH (mk:=cm) (nx:=bj) (k:=k) hlt) hp
  have hset:=abo cf (l:=ptL cm bj k l i) (x:=cm (kL bj k (l.take i)) l[i]) hp
  have hout:=pu cI (eH (mk:=cm) (nx:=bj) (k:=k) hlt) hp
  have hin:=aeh cI (x:=cm (kL bj k (l.take i)) l[i]) hpl hp
  rw[gI hlt] at hset hin
  have hks:=db (nx:=bj) (k:=k) hlt
  have hrl:(nRg cf (ptL cm bj k l i) ps).length=l.length:=by rw[eN _ (by rw[dH hi];exact hps),dH hi]
  have hb:=hsm _ (Zb hlt)
  generalize ngE cI (ptL cm bj k l i) ps i=E at hout hin
  generalize nOg cI (ptL cm bj k l i) ps=N0 at hout |-
  generalize nRg cf (ptL cm bj k l i) ps=rows at hrow hset hrl |-
  generalize kL bj k (l.take i)=q at hq hset hks hin |-
  generalize l[i]=x at hrow hset hks hout hin hb
  replace hrow:rows[i]?=some [.int .i64 x.kind,.int .i64 x.class_,.ms p.1.1 p.1.2 0 x.fields.length,.ms p.2.1 p.2.2 0 x.numbers.length]:=hrow
  have hr1:(rows.set i [.int .i64 q,.int .i64 x.class_,.ms p.1.1 p.1.2 0 x.fields.length,.ms p.2.1 p.2.2 0 x.numbers.length])[i]?=some [.int .i64 q,.int .i64 x.class_,.ms p.1.1 p.1.2 0 x.fields.length,.ms p.2.1 p.2.2 0 x.numbers.length]:=by rw[ZN (by omega)]
  have hk1:=iL (nx:=aE) (l:=x.fields) (k:=q+1+1) (cF _)
  have hf1:=hb.1.1
  have hct1:=fN hst p.1.1 p.1.2 x.fields (q+1+1) hb.1.1 (by omega)
  have hct2:=nt hst p.2.1 p.2.2 x.numbers (kL aE (q+1+1) x.fields) hb.2 (by omega)
  repeat' (first|refine W_ ?_|refine bD ?_)
  refine ce (aaM hout R) ?_
  repeat' (first|refine W_ ?_|((with_reducible apply aA);rfl;kernel_rfl;(repeat (first|exact az.nil|((with_reducible apply az.cons);rfl)));exact hG;exact hct1;exact .cons _ _ _ _ (.nil _);intro y hy;refine bO ?_;refine cL (.perm (List.Perm.swap _ _ _)) ?_)|((with_reducible apply aA);rfl;kernel_rfl;(repeat (first|exact az.nil|((with_reducible apply az.cons);rfl)));exact hG;exact hct2;exact .cons _ _ _ _ (.nil _);intro y hy;refine bO ?_))
  refine ah (i+1) (by omega) (by omega) (.of _ (cW.envCons rfl (cW.envCons (ea rfl (by rw[hks];rfl)) cW.envNil)) od_ ?_)
  rw[hset]
  simp only[YC]
  have hcl:cf (cm q x) p=[.int .i64 q,.int .i64 (q+1),.ms p.1.1 p.1.2 0 x.fields.length,.ms p.2.1 p.2.2 0 x.numbers.length]:=by
    unfold cf cm
    dsimp only
    rw[co,co]
  rw[hcl]
  exact acK hin R
 ·obtain rfl:i=l.length:=by omega
  rw[fg,Zv]
  repeat' refine W_ ?_
  exact aw x_ rfl () trivial rfl (.cons _ _ _ _ (.app _ R)) (.refl _) (.tmp _ _ rfl) rfl
theorem nI (hst:ay G) (s b:Nat) (l:List ao) (ps:List (Pl×Pl×Pl)) (hps:ps.length=l.length) (k:Int) (hn:l.length<=1048576/\∀y∈l,ao.small 1048576 y) (hk:0<=k/\k<=100000000000000) :
   CtM Tryz.prog G 57 [.ms s b 0 l.length,.int .i64 k] ((s,b,.row 14 (nRg aM l ps))::nOg bG l ps) (fun _:Unit=>True) (fun _=>(s,b,.row 14 (nRg aM (mkL bH aU k l) ps))::nOg bG (mkL bH aU k l) ps) (fun _=>.int .i64 (kL aU k l)):=by
 refine au Tryz.func57 rfl Tryz.ntmps57 rfl rfl rfl fun w0 R gs objsR hG hR=>?_
 obtain rfl:=hR.eq
 clear hR
 obtain⟨hn,hsm⟩:=hn
 repeat' refine W_ ?_
 apply ap (X:=Nat) [0,1000000] (fun x=>[(5,.int .i64 (x:Int)),(1,.int .i64 (kL aU k (l.take x)))]) (fun x=>(s,b,.row 14 (nRg aM (ptL bH aU k l x) ps))::(nOg bG (ptL bH aU k l x) ps++R)) (fun x=>x<=l.length) (fun x=>l.length - x) 0 (Ze _)
 exact kp_;exact nw_
 ·exact .refl _
 intro i hi
 try dsimp only
 have hq:=bu (k:=k) (i:=i) hn (fP hsm) hi
 by_cases hlt:i<l.length
 ·obtain⟨p,hp⟩:∃p,ps[i]?=some p:=⟨_,Za (by omega)⟩
  have hpl:i<(ptL bH aU k l i).length:=by rw[dH hi];exact hlt
  have hrow:=kA aM (eH (mk:=bH) (nx:=aU) (k:=k) hlt) hp
  have hset:=abo aM (l:=ptL bH aU k l i) (x:=bH (kL aU k (l.take i)) l[i]) hp
  have hout:=pu bG (eH (mk:=bH) (nx:=aU) (k:=k) hlt) hp
  have hin:=aeh bG (x:=bH (kL aU k (l.take i)) l[i]) hpl hp
  rw[gI hlt] at hset hin
  have hks:=db (nx:=aU) (k:=k) hlt
  have hrl:(nRg aM (ptL bH aU k l i) ps).length=l.length:=by rw[eN _ (by rw[dH hi];exact hps),dH hi]
  have hb:=hsm _ (Zb hlt)
  generalize ngE bG (ptL bH aU k l i) ps i=E at hout hin
  generalize nOg bG (ptL bH aU k l i) ps=N0 at hout |-
  generalize nRg aM (ptL bH aU k l i) ps=rows at hrow hset hrl |-
  generalize kL aU k (l.take i)=q at hq hset hks hin |-
  generalize l[i]=x at hrow hset hks hout hin hb
  replace hrow:rows[i]?=some [.int .i64 x.mark,.int .i64 x.code,.int .i64 x.pc,.int .i64 x.sender,.int .i64 x.outer,.int .i64 x.home,.int .i64 x.self.kind,.int .i64 x.self.number,.str x.self.text,.ms p.1.1 p.1.2 0 x.slots.length,.ms p.2.1.1 p.2.1.2 0 x.stack.length,.ms p.2.2.1 p.2.2.2 0 x.values.length,.int .i64 x.other,.bool x.retry]:=hrow
  have hr1:(rows.set i [.int .i64 q,.int .i64 x.code,.int .i64 x.pc,.int .i64 x.sender,.int .i64 x.outer,.int .i64 x.home,.int .i64 x.self.kind,.int .i64 x.self.number,.str x.self.text,.ms p.1.1 p.1.2 0 x.slots.length,.ms p.2.1.1 p.2.1.2 0 x.stack.length,.ms p.2.2.1 p.2.2.2 0 x.values.length,.int .i64 x.other,.bool x.retry])[i]?=some [.int .i64 q,.int .i64 x.code,.int .i64 x.pc,.int .i64 x.sender,.int .i64 x.outer,.int .i64 x.home,.int .i64 x.self.kind,.int .i64 x.self.number,.str x.self.text,.ms p.1.1 p.1.2 0 x.slots.length,.ms p.2.1.1 p.2.1.2 0 x.stack.length,.ms p.2.2.1 p.2.2.2 0 x.values.length,.int .i64 x.other,.bool x.retry]:=by rw[ZN (by omega)]
  have hk0:k9 q=q+9:=by unfold k9;omega
  have hk1:=iL (nx:=aE) (l:=x.slots) (k:=k9 q) (cF _)
  have hk2:=iL (nx:=aE) (l:=x.stack) (k:=kL aE (k9 q) x.slots) (cF _)
  have hk3:=iL (nx:=aE) (l:=x.values) (k:=kL aE (kL aE (k9 q) x.slots) x.stack) (cF _)
  have hf1:=hb.2.1.1
  have hf2:=hb.2.2.1.1
  have hf3:=hb.2.2.2.1
  have hct1:=fN hst p.1.1 p.1.2 x.slots (k9 q) hf1 (by omega)
  have hct2:=fN hst p.2.1.1 p.2.1.2 x.stack (kL aE (k9 q) x.slots) hf2 (by omega)
  have hct3:=fN hst p.2.2.1 p.2.2.2 x.values (kL aE (kL aE (k9 q) x.slots) x.stack) hf3 (by omega)
  rw[show k9 q=q+1+1+1+1+1+1+1+1+1 from rfl] at hct1
  repeat' (first|refine W_ ?_|refine bD ?_|((with_reducible apply mZ);rfl;kernel_rfl;(repeat (first|exact bU.nil|((with_reducible apply bU.cons);rfl;exact .same _)));exact hG;exact hst;exact ci _ (by omega) (by omega)))
  refine ce (abE hout R) ?_
  repeat' (first|refine W_ ?_|refine bD ?_|((with_reducible apply aA);rfl;kernel_rfl;(repeat (first|exact az.nil|((with_reducible apply az.cons);rfl)));exact hG;exact hct1;exact .cons _ _ _ _ (.nil _);intro y hy;refine bO ?_;refine cL (.perm (List.Perm.swap _ _ _)) ?_)|((with_reducible apply aA);rfl;kernel_rfl;(repeat (first|exact az.nil|((with_reducible apply az.cons);rfl)));exact hG;exact hct2;exact .cons _ _ _ _ (.nil _);intro y hy;refine bO ?_;refine cL (adu _ _ _ _) ?_)|((with_reducible apply aA);rfl;kernel_rfl;(repeat (first|exact az.nil|((with_reducible apply az.cons);rfl)));exact hG;exact hct3;exact .cons _ _ _ _ (.nil _);intro y hy;refine bO ?_))
  refine ah (i+1) (by omega) (by omega) (.of _ (cW.envCons rfl (cW.envCons (ea rfl (by rw[hks];rfl)) cW.envNil)) od_ ?_)
  rw[hset]
  simp only[YC]
  have hcl:aM (bH q x) p=[.int .i64 q,.int .i64 (q+1),.int .i64 (q+1+1),.int .i64 (q+1+1+1),.int .i64 (q+1+1+1+1),.int .i64 (q+1+1+1+1+1),.int .i64 (q+1+1+1+1+1+1),.int .i64 (q+1+1+1+1+1+1+1),.str (eh (q+1+1+1+1+1+1+1+1)),.ms p.1.1 p.1.2 0 x.slots.length,.ms p.2.1.1 p.2.1.2 0 x.stack.length,.ms p.2.2.1 p.2.2.2 0 x.values.length,.int .i64 (kL aE (kL aE (kL aE (k9 q) x.slots) x.stack) x.values),.bool (decide ((kL aE (kL aE (kL aE (k9 q) x.slots) x.stack) x.values+1).tmod 3=0))]:=by
    unfold aM bH
    dsimp only
    rw[co,co,co]
  rw[hcl]
  exact adY hin R
 ·obtain rfl:i=l.length:=by omega
  rw[fg,Zv]
  repeat' refine W_ ?_
  exact aw x_ rfl () trivial rfl (.cons _ _ _ _ (.app _ R)) (.refl _) (.tmp _ _ rfl) rfl
end
theorem acG (X Y Z D R:aG):bS (D++(X++(Y++(Z++R)))) (X++(Y++(Z++(D++R)))):=by
 simpa using ads [X,Y,Z] [R] D
theorem ac8 (W X Y Z D R:aG):bS (D++(W++(X++(Y++(Z++R))))) (W++(X++(Y++(Z++(D++R))))):=by
 simpa using ads [W,X,Y,Z] [R] D
theorem acN (V W X Y Z D R:aG):bS (D++(V++(W++(X++(Y++(Z++R)))))) (V++(W++(X++(Y++(Z++(D++R)))))):=by
 simpa using ads [V,W,X,Y,Z] [R] D
theorem acZ (A B C D E F R:aG):bS (A++(B++(C++(D++(E++(F++R)))))) (F++(E++(D++(C++(A++(B++R)))))):=.perm (by
 have h1:[F,E,D,C,B,A].Perm [A,B,C,D,E,F]:=(List.reverse_perm [A,B,C,D,E,F])
 have h2:[F,E,D,C,A,B].Perm [F,E,D,C,B,A]:=((((List.Perm.swap B A []).cons C).cons D).cons E).cons F
 have h3:=(lu (h2.trans h1)).append_right R
 simpa [Zk] using h3.symm)
def fZ (k:Int) (x:aQ):aQ:=⟨mkL bs aC k x.classes,mkL cm bj (kL aC k x.classes) x.objects,mkL cY bm (kL bj (kL aC k x.classes) x.objects) x.output,x.ticks,x.budget,x.made⟩
def dW (k:Int) (x:aQ):Int:=kL bm (kL bj (kL aC k x.classes) x.objects) x.output
theorem mw {x:aQ} (hb:x.small 1048576) (k:Int):k<=dW k x/\dW k x<=k+6000000000000:=by
 have h1:=bu (k:=k) (i:=x.classes.length) hb.1.1 (cM hb.1.2) (Zg _)
 have h2:=bu (k:=kL aC k x.classes) (i:=x.objects.length) hb.2.1.1 (gE hb.2.1.2) (Zg _)
 have h3:=bu (k:=kL bj (kL aC k x.classes) x.objects) (i:=x.output.length) hb.2.2.1 (fD x.output) (Zg _)
 rw[Zv] at h1 h2 h3
 unfold dW
 omega
section
variable {G:World->Prop}
theorem rS (hst:ay G) (x:aQ) (y:StP) (hy:stI x y) (hb:x.small 1048576) (k:Int) (hk:0<=k/\k<=60000000000000) :
   CtM Tryz.prog G 55 [.agg (stC x y),.int .i64 k] (stO x y) (fun _:Unit=>True) (fun _=>stO (fZ k x) y) (fun _=>.int .i64 (dW k x)):=by
 refine au Tryz.func55 rfl Tryz.ntmps55 rfl rfl rfl fun w0 R gs objsR hG hR=>?_
 obtain rfl:=hR.eq
 clear hR
 have h1:=bu (k:=k) (i:=x.classes.length) hb.1.1 (cM hb.1.2) (Zg _)
 have h2:=bu (k:=kL aC k x.classes) (i:=x.objects.length) hb.2.1.1 (gE hb.2.1.2) (Zg _)
 rw[Zv] at h1 h2
 have c1:=hU hst y.1.1.1 y.1.1.2 x.classes y.1.2 hy.1 k hb.1 (by omega)
 have c2:=pj hst y.2.1.1.1 y.2.1.1.2 x.objects y.2.1.2 hy.2 (kL aC k x.classes) hb.2.1 (by omega)
 have c3:=jo hst y.2.2.1 y.2.2.2 x.output (kL bj (kL aC k x.classes) x.objects) hb.2.2.1 (by omega)
 have e0:stO x y++R=rk x.classes y.1++(afZ x.objects y.2.1++([(y.2.2.1,y.2.2.2,.row 1 (ca x.output))]++R)):=by unfold stO;simp[Zk]
 have e1:stO (fZ k x) y++R=rk (fZ k x).classes y.1++(afZ (fZ k x).objects y.2.1++([(y.2.2.1,y.2.2.2,.row 1 (ca (fZ k x).output))]++R)):=by unfold stO;simp[Zk]
 rw[e0]
 generalize hz1:[(y.2.2.1,y.2.2.2,aV.row 1 (ca x.output))]=z1 at c3 |-
 unfold stC
 repeat' (first|refine W_ ?_|refine aJ ?_|((with_reducible apply aA);rfl;kernel_rfl;(repeat (first|exact az.nil|((with_reducible apply az.cons);rfl)));exact hG;exact c1;exact .app _ _;intro z hz;refine cL (te _ _ _) ?_)|((with_reducible apply aA);rfl;kernel_rfl;(repeat (first|exact az.nil|((with_reducible apply az.cons);rfl)));exact hG;exact c2;exact .app _ _;intro z hz;refine cL (tn _ _ _ _) ?_)|((with_reducible apply aA);rfl;kernel_rfl;(repeat (first|exact az.nil|((with_reducible apply az.cons);rfl)));exact hG;exact c3;exact .app _ _;intro z hz))
 refine aw x_ rfl () trivial rfl (.app _ R) ?_ (.tmp _ _ rfl) rfl
 rw[e1]
 exact qG _ _ _ R
def fl (k:Int) (x:ad):ad:=⟨dc k x.base,fZ (bw k x.base) x.store,
 mkL cS aT (dW (bw k x.base) x.store) x.blocks,
 mkL bH aU (kL aT (dW (bw k x.base) x.store) x.blocks) x.contexts,
 mkL cU aX (kL aU (kL aT (dW (bw k x.base) x.store) x.blocks) x.contexts) x.processes,
 mkL jM dZ (kL aX (kL aU (kL aT (dW (bw k x.base) x.store) x.blocks) x.contexts) x.processes) x.ready,
 x.now,x.status,x.value,x.fault⟩
def jE (k:Int) (x:ad):Int:=kL dZ (kL aX (kL aU (kL aT (dW (bw k x.base) x.store) x.blocks) x.contexts) x.processes) x.ready
theorem rx {x:ad} (hb:x.small 1048576) (k:Int):k<=jE k x/\jE k x<=k+30000000000000:=by
 have h1:=i6 hb.1 k
 have h2:=mw hb.2.1 (bw k x.base)
 unfold jE
 generalize dW (bw k x.base) x.store=q2 at h2 |-
 have h3:=bu (k:=q2) (i:=x.blocks.length) hb.2.2.1.1 (fW x.blocks) (Zg _)
 rw[Zv] at h3
 generalize kL aT q2 x.blocks=q3 at h3 |-
 have h4:=bu (k:=q3) (i:=x.contexts.length) hb.2.2.2.1.1 (fP hb.2.2.2.1.2) (Zg _)
 rw[Zv] at h4
 generalize kL aU q3 x.contexts=q4 at h4 |-
 have h5:=bu (k:=q4) (i:=x.processes.length) hb.2.2.2.2.1.1 (fR x.processes) (Zg _)
 rw[Zv] at h5
 generalize kL aX q4 x.processes=q5 at h5 |-
 have h6:=bu (k:=q5) (i:=x.ready.length) hb.2.2.2.2.2.1 (j0 x.ready) (Zg _)
 rw[Zv] at h6
 omega
theorem lC (hst:ay G) (x:ad) (y:bJ) (hy:imI x y) (hb:x.small 1048576) (k:Int) (hk:0<=k/\k<=50000000000000) :
   CtM Tryz.prog G 14 [.agg (imC x y),.int .i64 k] (imO x y) (fun _:Unit=>True) (fun _=>imO (fl k x) y) (fun _=>.int .i64 (jE k x)):=by
 refine au Tryz.func14 rfl Tryz.ntmps14 rfl rfl rfl fun w0 R gs objsR hG hR=>?_
 obtain rfl:=hR.eq
 clear hR
 have h1:=i6 hb.1 k
 have h2:=mw hb.2.1 (bw k x.base)
 have hm:imO (fl k x) y=cbO (dc k x.base) y.1++(stO (fZ (bw k x.base) x.store) y.2.1++([(y.2.2.1.1,y.2.2.1.2,.row 6 ((mkL cS aT (dW (bw k x.base) x.store) x.blocks).map (aq.tw 0)))]++(ad7 (mkL bH aU (kL aT (dW (bw k x.base) x.store) x.blocks) x.contexts) y.2.2.2.1++([(y.2.2.2.2.1.1,y.2.2.2.2.1.2,.row 2 ((mkL cU aX (kL aU (kL aT (dW (bw k x.base) x.store) x.blocks) x.contexts) x.processes).map (ag.tw 0)))]++[(y.2.2.2.2.2.1,y.2.2.2.2.2.2,.row 1 (aS (mkL jM dZ (kL aX (kL aU (kL aT (dW (bw k x.base) x.store) x.blocks) x.contexts) x.processes) x.ready)))])))):=rfl
 rw[hm]
 unfold jE
 have c1:=nD hst x.base y.1 hy.1 hb.1 k (by omega)
 have c2:=rS hst x.store y.2.1 hy.2.1 hb.2.1 (bw k x.base) (by omega)
 generalize dW (bw k x.base) x.store=q2 at h2 c2 |-
 have h3:=bu (k:=q2) (i:=x.blocks.length) hb.2.2.1.1 (fW x.blocks) (Zg _)
 rw[Zv] at h3
 have c3:=nz hst y.2.2.1.1 y.2.2.1.2 x.blocks q2 hb.2.2.1.1 (by omega)
 generalize kL aT q2 x.blocks=q3 at h3 c3 |-
 have h4:=bu (k:=q3) (i:=x.contexts.length) hb.2.2.2.1.1 (fP hb.2.2.2.1.2) (Zg _)
 rw[Zv] at h4
 have c4:=nI hst y.2.2.2.1.1.1 y.2.2.2.1.1.2 x.contexts y.2.2.2.1.2 hy.2.2 q3 hb.2.2.2.1 (by omega)
 generalize kL aU q3 x.contexts=q4 at h4 c4 |-
 have h5:=bu (k:=q4) (i:=x.processes.length) hb.2.2.2.2.1.1 (fR x.processes) (Zg _)
 rw[Zv] at h5
 have c5:=nL hst y.2.2.2.2.1.1 y.2.2.2.2.1.2 x.processes q4 hb.2.2.2.2.1.1 (by omega)
 generalize kL aX q4 x.processes=q5 at h5 c5 |-
 have c6:=nt hst y.2.2.2.2.2.1 y.2.2.2.2.2.2 x.ready q5 hb.2.2.2.2.2.1 (by omega)
 have e0:imO x y++R=cbO x.base y.1++(stO x.store y.2.1++([(y.2.2.1.1,y.2.2.1.2,.row 6 (x.blocks.map (aq.tw 0)))]++(ad7 x.contexts y.2.2.2.1++([(y.2.2.2.2.1.1,y.2.2.2.2.1.2,.row 2 (x.processes.map (ag.tw 0)))]++([(y.2.2.2.2.2.1,y.2.2.2.2.2.2,.row 1 (aS x.ready))]++R))))):=by unfold imO;simp only[Zk]
 rw[e0]
 replace c4:CtM Tryz.prog G 57 _ (ad7 x.contexts y.2.2.2.1) _ (fun _=>ad7 (mkL bH aU q3 x.contexts) y.2.2.2.1) _:=c4
 clear hm e0
 generalize [(y.2.2.1.1,y.2.2.1.2,aV.row 6 (x.blocks.map (aq.tw 0)))]=z1 at c3 |-
 generalize [(y.2.2.2.2.1.1,y.2.2.2.2.1.2,aV.row 2 (x.processes.map (ag.tw 0)))]=z2 at c5 |-
 generalize [(y.2.2.2.2.2.1,y.2.2.2.2.2.2,aV.row 1 (aS x.ready))]=z3 at c6 |-
 unfold cbC at c1
 unfold stC at c2
 unfold imC
 repeat' (first|refine W_ ?_|refine aJ ?_|((with_reducible apply aA);rfl;kernel_rfl;(repeat (first|exact az.nil|((with_reducible apply az.cons);rfl)));exact hG;exact c1;exact .app _ _;intro z hz;refine cL (te _ _ _) ?_)|((with_reducible apply aA);rfl;kernel_rfl;(repeat (first|exact az.nil|((with_reducible apply az.cons);rfl)));exact hG;exact c2;exact .app _ _;intro z hz;refine cL (tn _ _ _ _) ?_)|((with_reducible apply aA);rfl;kernel_rfl;(repeat (first|exact az.nil|((with_reducible apply az.cons);rfl)));exact hG;exact c3;exact .app _ _;intro z hz;refine cL (acG _ _ _ _ _) ?_)|((with_reducible apply aA);rfl;kernel_rfl;(repeat (first|exact az.nil|((with_reducible apply az.cons);rfl)));exact hG;exact c4;exact .app _ _;intro z hz;refine cL (ac8 _ _ _ _ _ _) ?_)|((with_reducible apply aA);rfl;kernel_rfl;(repeat (first|exact az.nil|((with_reducible apply az.cons);rfl)));exact hG;exact c5;exact .app _ _;intro z hz;refine cL (acN _ _ _ _ _ _ _) ?_)|((with_reducible apply aA);rfl;kernel_rfl;(repeat (first|exact az.nil|((with_reducible apply az.cons);rfl)));exact hG;exact c6;exact .app _ _;intro z hz))
 refine aw x_ rfl () trivial rfl (.app _ R) ?_ (.tmp _ _ rfl) rfl
 simp only[Zk]
 exact acZ _ _ _ _ _ _ R
end
section
variable {G:World->Prop}
theorem qS (hst:ay G) (lo:Nat) (l:List Int) (k:Int) (hn:l.length<=1048576) (hk:0<=k/\k<=1000000000000000):Ct Tryz.prog G 65 [.sl lo 1 (aS (mkL jM dZ k l)),.int .i64 k] (fun _=>.int .i64 (kL dZ k l)):=by
 refine av Tryz.func65 rfl Tryz.ntmps65 rfl rfl fun w0 _ hG=>?_
 have hrl:(aS (mkL jM dZ k l)).length=l.length:=by simp[aS,co]
 have hget:=fun i (h:i<l.length)=>gn (mk:=jM) (nx:=dZ) (k:=k) h
 have hgr:∀i (h:i<l.length),(aS (mkL jM dZ k l))[i]?=some [.int .i64 (kL dZ k (l.take i))]:=fun i h=>by
   simp only[aS,Zj,hget i h];rfl
 generalize aS (mkL jM dZ k l)=rows at hrl hgr |-
 repeat' refine W_ ?_
 apply ap (X:=Nat) [0] (fun x=>[(5,.int .i64 (x:Int)),(1,.int .i64 (kL dZ k (l.take x)))]) (fun _=>[]) (fun x=>x<=l.length) (fun x=>l.length - x) 0 (Ze _)
 exact kp_;exact nw_
 ·exact .refl _
 intro i hi
 try dsimp only
 have hq:=bu (k:=k) (i:=i) hn (j0 l) hi
 by_cases hlt:i<l.length
 ·have hrow:=hgr i hlt
  have hks:kL dZ k (l.take (i+1))=kL dZ k (l.take i)+1:=db hlt
  generalize kL dZ k (l.take i)=q at hq hrow hks |-
  have hi0:¬ (q)≠(q):=fun h=>h rfl
  repeat' refine V_ ?_
  all_goals first
    | exact ah (i+1) (by omega) (by omega) (.of _ (cW.envCons rfl (cW.envCons (ea rfl (by rw[hks])) cW.envNil)) od_ pk_)
    | (exfalso;simp_all;done)
 ·obtain rfl:i=l.length:=by omega
  rw[Zv]
  repeat' refine W_ ?_
  exact r1_
theorem gY (hst:ay G) (lo:Nat) (l:List ab) (k:Int) (hn:l.length<=1048576) (hk:0<=k/\k<=1000000000000000):Ct Tryz.prog G 153 [.sl lo 3 ((mkL dk aE k l).map (ab.tw lo)),.int .i64 k] (fun _=>.int .i64 (kL aE k l)):=by
 refine av Tryz.func153 rfl Tryz.ntmps153 rfl rfl fun w0 _ hG=>?_
 have hrl:((mkL dk aE k l).map (ab.tw lo)).length=l.length:=by simp[aS,co]
 have hget:=fun i (h:i<l.length)=>gn (mk:=dk) (nx:=aE) (k:=k) h
 have hgr:∀i (h:i<l.length),((mkL dk aE k l).map (ab.tw lo))[i]?=some [.int .i64 (kL aE k (l.take i)),.int .i64 (kL aE k (l.take i)+1),.str (eh (kL aE k (l.take i)+1+1))]:=fun i h=>by
   simp only[aS,Zj,hget i h];rfl
 generalize (mkL dk aE k l).map (ab.tw lo)=rows at hrl hgr |-
 repeat' refine W_ ?_
 apply ap (X:=Nat) [0] (fun x=>[(5,.int .i64 (x:Int)),(1,.int .i64 (kL aE k (l.take x)))]) (fun _=>[]) (fun x=>x<=l.length) (fun x=>l.length - x) 0 (Ze _)
 exact kp_;exact nw_
 ·exact .refl _
 intro i hi
 try dsimp only
 have hq:=bu (k:=k) (i:=i) hn (cF l) hi
 by_cases hlt:i<l.length
 ·have hrow:=hgr i hlt
  have hks:kL aE k (l.take (i+1))=kL aE k (l.take i)+1+1+1:=db hlt
  generalize kL aE k (l.take i)=q at hq hrow hks |-
  have hi0:¬ (q)≠(q):=fun h=>h rfl
  have hi1:¬ (q+1)≠(q+1):=fun h=>h rfl
  have hs2:¬ eh (q+1+1)≠eh (q+1+1):=fun h=>h rfl
  have hm2:=ci (G:=G) (q+1+1) (by omega) (by omega)
  repeat' (first|refine V_ ?_|refine ai hG hst (hm2) ?_)
  all_goals first
    | exact ah (i+1) (by omega) (by omega) (.of _ (cW.envCons rfl (cW.envCons (ea rfl (by rw[hks])) cW.envNil)) od_ pk_)
    | (exfalso;simp_all;done)
 ·obtain rfl:i=l.length:=by omega
  rw[Zv]
  repeat' refine W_ ?_
  exact r1_
theorem qv (hst:ay G) (lo:Nat) (l:List aq) (k:Int) (hn:l.length<=1048576) (hk:0<=k/\k<=1000000000000000):Ct Tryz.prog G 62 [.sl lo 6 ((mkL cS aT k l).map (aq.tw lo)),.int .i64 k] (fun _=>.int .i64 (kL aT k l)):=by
 refine av Tryz.func62 rfl Tryz.ntmps62 rfl rfl fun w0 _ hG=>?_
 have hrl:((mkL cS aT k l).map (aq.tw lo)).length=l.length:=by simp[aS,co]
 have hget:=fun i (h:i<l.length)=>gn (mk:=cS) (nx:=aT) (k:=k) h
 have hgr:∀i (h:i<l.length),((mkL cS aT k l).map (aq.tw lo))[i]?=some [.int .i64 (kL aT k (l.take i)),.int .i64 (kL aT k (l.take i)+1),.int .i64 (kL aT k (l.take i)+1+1),.int .i64 (kL aT k (l.take i)+1+1+1),.int .i64 (kL aT k (l.take i)+1+1+1+1),.str (eh (kL aT k (l.take i)+1+1+1+1+1))]:=fun i h=>by
   simp only[aS,Zj,hget i h];rfl
 generalize (mkL cS aT k l).map (aq.tw lo)=rows at hrl hgr |-
 repeat' refine W_ ?_
 apply ap (X:=Nat) [0] (fun x=>[(5,.int .i64 (x:Int)),(1,.int .i64 (kL aT k (l.take x)))]) (fun _=>[]) (fun x=>x<=l.length) (fun x=>l.length - x) 0 (Ze _)
 exact kp_;exact nw_
 ·exact .refl _
 intro i hi
 try dsimp only
 have hq:=bu (k:=k) (i:=i) hn (fW l) hi
 by_cases hlt:i<l.length
 ·have hrow:=hgr i hlt
  have hks:kL aT k (l.take (i+1))=kL aT k (l.take i)+1+1+1+1+1+1:=db hlt
  generalize kL aT k (l.take i)=q at hq hrow hks |-
  have hi0:¬ (q)≠(q):=fun h=>h rfl
  have hi1:¬ (q+1)≠(q+1):=fun h=>h rfl
  have hi2:¬ (q+1+1)≠(q+1+1):=fun h=>h rfl
  have hi3:¬ (q+1+1+1)≠(q+1+1+1):=fun h=>h rfl
  have hi4:¬ (q+1+1+1+1)≠(q+1+1+1+1):=fun h=>h rfl
  have hs5:¬ eh (q+1+1+1+1+1)≠eh (q+1+1+1+1+1):=fun h=>h rfl
  have hm5:=ci (G:=G) (q+1+1+1+1+1) (by omega) (by omega)
  repeat' (first|refine V_ ?_|refine ai hG hst (hm5) ?_)
  all_goals first
    | exact ah (i+1) (by omega) (by omega) (.of _ (cW.envCons rfl (cW.envCons (ea rfl (by rw[hks])) cW.envNil)) od_ pk_)
    | (exfalso;simp_all;done)
 ·obtain rfl:i=l.length:=by omega
  rw[Zv]
  repeat' refine W_ ?_
  exact r1_
theorem qx (hst:ay G) (lo:Nat) (l:List ag) (k:Int) (hn:l.length<=1048576) (hk:0<=k/\k<=1000000000000000):Ct Tryz.prog G 64 [.sl lo 2 ((mkL cU aX k l).map (ag.tw lo)),.int .i64 k] (fun _=>.int .i64 (kL aX k l)):=by
 refine av Tryz.func64 rfl Tryz.ntmps64 rfl rfl fun w0 _ hG=>?_
 have hrl:((mkL cU aX k l).map (ag.tw lo)).length=l.length:=by simp[aS,co]
 have hget:=fun i (h:i<l.length)=>gn (mk:=cU) (nx:=aX) (k:=k) h
 have hgr:∀i (h:i<l.length),((mkL cU aX k l).map (ag.tw lo))[i]?=some [.int .i64 (kL aX k (l.take i)),.bool (decide ((kL aX k (l.take i)+1).tmod 3=0))]:=fun i h=>by
   simp only[aS,Zj,hget i h];rfl
 generalize (mkL cU aX k l).map (ag.tw lo)=rows at hrl hgr |-
 repeat' refine W_ ?_
 apply ap (X:=Nat) [0] (fun x=>[(5,.int .i64 (x:Int)),(1,.int .i64 (kL aX k (l.take x)))]) (fun _=>[]) (fun x=>x<=l.length) (fun x=>l.length - x) 0 (Ze _)
 exact kp_;exact nw_
 ·exact .refl _
 intro i hi
 try dsimp only
 have hq:=bu (k:=k) (i:=i) hn (fR l) hi
 by_cases hlt:i<l.length
 ·have hrow:=hgr i hlt
  have hks:kL aX k (l.take (i+1))=kL aX k (l.take i)+1+1:=db hlt
  generalize kL aX k (l.take i)=q at hq hrow hks |-
  have hi0:¬ (q)≠(q):=fun h=>h rfl
  have hb1:(decide ((q+1).tmod 3=0) != decide ((q+1).tmod 3=0))=false:=by simp
  repeat' (first|refine V_ ?_|refine c_ (fun hc=>?_) (fun hc=>?_))
  all_goals first
    | exact ah (i+1) (by omega) (by omega) (.of _ (cW.envCons rfl (cW.envCons (ea rfl (by rw[hks])) cW.envNil)) od_ pk_)
    | (exfalso;simp_all;done)
 ·obtain rfl:i=l.length:=by omega
  rw[Zv]
  repeat' refine W_ ?_
  exact r1_
theorem su (hst:ay G) (lo:Nat) (l:List ar) (k:Int) (hn:l.length<=1048576/\∀y∈l,ar.small 1048576 y) (hk:0<=k/\k<=100000000000000):Ct Tryz.prog G 151 [.sl lo 4 ((mkL cm bj k l).map (ar.tw lo)),.int .i64 k] (fun _=>.int .i64 (kL bj k l)):=by
 refine av Tryz.func151 rfl Tryz.ntmps151 rfl rfl fun w0 _ hG=>?_
 obtain⟨hn,hsm⟩:=hn
 have hrl:((mkL cm bj k l).map (ar.tw lo)).length=l.length:=by simp[co]
 have hgr:∀i (h:i<l.length),((mkL cm bj k l).map (ar.tw lo))[i]?=some ((cm (kL bj k (l.take i)) l[i]).tw lo):=fun i h=>by
   simp only[Zj,gn (mk:=cm) (nx:=bj) (k:=k) h];rfl
 generalize (mkL cm bj k l).map (ar.tw lo)=rows at hrl hgr |-
 repeat' refine W_ ?_
 apply ap (X:=Nat) [0] (fun x=>[(5,.int .i64 (x:Int)),(1,.int .i64 (kL bj k (l.take x)))]) (fun _=>[]) (fun x=>x<=l.length) (fun x=>l.length - x) 0 (Ze _)
 exact kp_;exact nw_
 ·exact .refl _
 intro i hi
 try dsimp only
 have hq:=bu (k:=k) (i:=i) hn (gE hsm) hi
 by_cases hlt:i<l.length
 ·have hrow:=hgr i hlt
  have hks:=db (nx:=bj) (k:=k) hlt
  have hb:=hsm _ (Zb hlt)
  generalize kL bj k (l.take i)=q at hq hrow hks |-
  generalize l[i]=x at hrow hks hb
  replace hrow:rows[i]?=some [.int .i64 (q),.int .i64 (q+1),.sl lo 3 ((mkL dk aE (q+1+1) x.fields).map (ab.tw lo)),.sl lo 1 (aS (mkL jM dZ (kL aE (q+1+1) x.fields) x.numbers))]:=hrow
  have hln0:x.fields.length<=1048576:=hb.1.1
  have hinr0:=iL (nx:=aE) (l:=x.fields) (k:=q+1+1) (cF _)
  have hin0:=gY hst lo x.fields (q+1+1) hb.1.1 (by omega)
  have hln1:x.numbers.length<=1048576:=hb.2
  have hinr1:=iL (nx:=dZ) (l:=x.numbers) (k:=kL aE (q+1+1) x.fields) (j0 _)
  have hin1:=qS hst lo x.numbers (kL aE (q+1+1) x.fields) hb.2 (by omega)
  have hks2:kL bj k (l.take (i+1))=kL dZ (kL aE (q+1+1) x.fields) x.numbers:=hks
  have hi0:¬ (q)≠(q):=fun h=>h rfl
  have hi1:¬ (q+1)≠(q+1):=fun h=>h rfl
  repeat' (first|refine V_ ?_|refine ae hG hst (hin0) ?_|refine ae hG hst (hin1) ?_)
  all_goals first
    | exact ah (i+1) (by omega) (by omega) (.of _ (cW.envCons rfl (cW.envCons (ea rfl (by rw[hks2])) cW.envNil)) od_ pk_)
    | (exfalso;simp_all;done)
    | (exfalso;omega)
 ·obtain rfl:i=l.length:=by omega
  rw[Zv]
  repeat' refine W_ ?_
  exact r1_
theorem p7 (hst:ay G) (lo:Nat) (l:List ao) (k:Int) (hn:l.length<=1048576/\∀y∈l,ao.small 1048576 y) (hk:0<=k/\k<=100000000000000):Ct Tryz.prog G 63 [.sl lo 14 ((mkL bH aU k l).map (ao.tw lo)),.int .i64 k] (fun _=>.int .i64 (kL aU k l)):=by
 refine av Tryz.func63 rfl Tryz.ntmps63 rfl rfl fun w0 _ hG=>?_
 obtain⟨hn,hsm⟩:=hn
 have hrl:((mkL bH aU k l).map (ao.tw lo)).length=l.length:=by simp[co]
 have hgr:∀i (h:i<l.length),((mkL bH aU k l).map (ao.tw lo))[i]?=some ((bH (kL aU k (l.take i)) l[i]).tw lo):=fun i h=>by
   simp only[Zj,gn (mk:=bH) (nx:=aU) (k:=k) h];rfl
 generalize (mkL bH aU k l).map (ao.tw lo)=rows at hrl hgr |-
 repeat' refine W_ ?_
 apply ap (X:=Nat) [0] (fun x=>[(5,.int .i64 (x:Int)),(1,.int .i64 (kL aU k (l.take x)))]) (fun _=>[]) (fun x=>x<=l.length) (fun x=>l.length - x) 0 (Ze _)
 exact kp_;exact nw_
 ·exact .refl _
 intro i hi
 try dsimp only
 have hq:=bu (k:=k) (i:=i) hn (fP hsm) hi
 by_cases hlt:i<l.length
 ·have hrow:=hgr i hlt
  have hks:=db (nx:=aU) (k:=k) hlt
  have hb:=hsm _ (Zb hlt)
  generalize kL aU k (l.take i)=q at hq hrow hks |-
  generalize l[i]=x at hrow hks hb
  replace hrow:rows[i]?=some [.int .i64 (q),.int .i64 (q+1),.int .i64 (q+1+1),.int .i64 (q+1+1+1),.int .i64 (q+1+1+1+1),.int .i64 (q+1+1+1+1+1),.int .i64 (q+1+1+1+1+1+1),.int .i64 (q+1+1+1+1+1+1+1),.str (eh (q+1+1+1+1+1+1+1+1)),.sl lo 3 ((mkL dk aE (q+1+1+1+1+1+1+1+1+1) x.slots).map (ab.tw lo)),.sl lo 3 ((mkL dk aE (kL aE (q+1+1+1+1+1+1+1+1+1) x.slots) x.stack).map (ab.tw lo)),.sl lo 3 ((mkL dk aE (kL aE (kL aE (q+1+1+1+1+1+1+1+1+1) x.slots) x.stack) x.values).map (ab.tw lo)),.int .i64 (kL aE (kL aE (kL aE (q+1+1+1+1+1+1+1+1+1) x.slots) x.stack) x.values),.bool (decide ((kL aE (kL aE (kL aE (q+1+1+1+1+1+1+1+1+1) x.slots) x.stack) x.values+1).tmod 3=0))]:=hrow
  have hln0:x.slots.length<=1048576:=hb.2.1.1
  have hinr0:=iL (nx:=aE) (l:=x.slots) (k:=q+1+1+1+1+1+1+1+1+1) (cF _)
  have hin0:=gY hst lo x.slots (q+1+1+1+1+1+1+1+1+1) hb.2.1.1 (by omega)
  have hln1:x.stack.length<=1048576:=hb.2.2.1.1
  have hinr1:=iL (nx:=aE) (l:=x.stack) (k:=kL aE (q+1+1+1+1+1+1+1+1+1) x.slots) (cF _)
  have hin1:=gY hst lo x.stack (kL aE (q+1+1+1+1+1+1+1+1+1) x.slots) hb.2.2.1.1 (by omega)
  have hln2:x.values.length<=1048576:=hb.2.2.2.1
  have hinr2:=iL (nx:=aE) (l:=x.values) (k:=kL aE (kL aE (q+1+1+1+1+1+1+1+1+1) x.slots) x.stack) (cF _)
  have hin2:=gY hst lo x.values (kL aE (kL aE (q+1+1+1+1+1+1+1+1+1) x.slots) x.stack) hb.2.2.2.1 (by omega)
  have hi20:¬ (kL aE (kL aE (kL aE (q+1+1+1+1+1+1+1+1+1) x.slots) x.stack) x.values)≠(kL aE (kL aE (kL aE (q+1+1+1+1+1+1+1+1+1) x.slots) x.stack) x.values):=fun h=>h rfl
  have hb21:(decide ((kL aE (kL aE (kL aE (q+1+1+1+1+1+1+1+1+1) x.slots) x.stack) x.values+1).tmod 3=0) != decide ((kL aE (kL aE (kL aE (q+1+1+1+1+1+1+1+1+1) x.slots) x.stack) x.values+1).tmod 3=0))=false:=by simp
  have hks2:kL aU k (l.take (i+1))=kL aE (kL aE (kL aE (q+1+1+1+1+1+1+1+1+1) x.slots) x.stack) x.values+1+1:=hks
  have hi0:¬ (q)≠(q):=fun h=>h rfl
  have hi1:¬ (q+1)≠(q+1):=fun h=>h rfl
  have hi2:¬ (q+1+1)≠(q+1+1):=fun h=>h rfl
  have hi3:¬ (q+1+1+1)≠(q+1+1+1):=fun h=>h rfl
  have hi4:¬ (q+1+1+1+1)≠(q+1+1+1+1):=fun h=>h rfl
  have hi5:¬ (q+1+1+1+1+1)≠(q+1+1+1+1+1):=fun h=>h rfl
  have hi6:¬ (q+1+1+1+1+1+1)≠(q+1+1+1+1+1+1):=fun h=>h rfl
  have hi7:¬ (q+1+1+1+1+1+1+1)≠(q+1+1+1+1+1+1+1):=fun h=>h rfl
  have hs8:¬ eh (q+1+1+1+1+1+1+1+1)≠eh (q+1+1+1+1+1+1+1+1):=fun h=>h rfl
  have hm8:=ci (G:=G) (q+1+1+1+1+1+1+1+1) (by omega) (by omega)
  repeat' (first|refine V_ ?_|refine ae hG hst (hin0) ?_|refine ae hG hst (hin1) ?_|refine ae hG hst (hin2) ?_|refine ai hG hst (hm8) ?_|refine c_ (fun hc=>?_) (fun hc=>?_))
  all_goals first
    | exact ah (i+1) (by omega) (by omega) (.of _ (cW.envCons rfl (cW.envCons (ea rfl (by rw[hks2])) cW.envNil)) od_ pk_)
    | (exfalso;simp_all;done)
    | (exfalso;omega)
 ·obtain rfl:i=l.length:=by omega
  rw[Zv]
  repeat' refine W_ ?_
  exact r1_
theorem wg (hst:ay G) (lo:Nat) (x:aQ) (hb:x.small 1048576) (k:Int) (hk:0<=k/\k<=60000000000000):Ct Tryz.prog G 61 [.agg ((fZ k x).tw lo),.int .i64 k] (fun _=>.int .i64 (dW k x)):=by
 refine av Tryz.func61 rfl Tryz.ntmps61 rfl rfl fun w0 _ hG=>?_
 have h1:=bu (k:=k) (i:=x.classes.length) hb.1.1 (cM hb.1.2) (Zg _)
 have h2:=bu (k:=kL aC k x.classes) (i:=x.objects.length) hb.2.1.1 (gE hb.2.1.2) (Zg _)
 have h3:=bu (k:=kL bj (kL aC k x.classes) x.objects) (i:=x.output.length) hb.2.2.1 (fD x.output) (Zg _)
 rw[Zv] at h1 h2 h3
 have c1:=jm hst lo x.classes k hb.1 (by omega)
 have c2:=su hst lo x.objects (kL aC k x.classes) hb.2.1 (by omega)
 have c3:=kZ hst lo x.output (kL bj (kL aC k x.classes) x.objects) hb.2.2.1 (by omega)
 unfold aQ.tw fZ dW
 dsimp only
 repeat' (first|refine W_ ?_|refine aJ ?_|refine ae hG hst (c1) ?_|refine ae hG hst (c2) ?_|refine ae hG hst (c3) ?_)
 exact r1_
theorem wv (hst:ay G) (lo:Nat) (x:ad) (hb:x.small 1048576) (k:Int) (hk:0<=k/\k<=50000000000000):Ct Tryz.prog G 15 [.agg ((fl k x).tw lo),.int .i64 k] (fun _=>.int .i64 (jE k x)):=by
 refine av Tryz.func15 rfl Tryz.ntmps15 rfl rfl fun w0 _ hG=>?_
 have h1:=i6 hb.1 k
 have h2:=mw hb.2.1 (bw k x.base)
 have c1:=qC hst lo x.base hb.1 k (by omega)
 have c2:=wg hst lo x.store hb.2.1 (bw k x.base) (by omega)
 unfold jE ad.tw fl
 dsimp only
 generalize dc k x.base=u1 at c1 |-
 generalize fZ (bw k x.base) x.store=u2 at c2 |-
 generalize dW (bw k x.base) x.store=q2 at h2 c2 |-
 generalize bw k x.base=q1 at h1 h2 c1 c2 |-
 have h3:=bu (k:=q2) (i:=x.blocks.length) hb.2.2.1.1 (fW x.blocks) (Zg _)
 rw[Zv] at h3
 have c3:=qv hst lo x.blocks q2 hb.2.2.1.1 (by omega)
 generalize kL aT q2 x.blocks=q3 at h3 c3 |-
 have h4:=bu (k:=q3) (i:=x.contexts.length) hb.2.2.2.1.1 (fP hb.2.2.2.1.2) (Zg _)
 rw[Zv] at h4
 have c4:=p7 hst lo x.contexts q3 hb.2.2.2.1 (by omega)
 generalize kL aU q3 x.contexts=q4 at h4 c4 |-
 have h5:=bu (k:=q4) (i:=x.processes.length) hb.2.2.2.2.1.1 (fR x.processes) (Zg _)
 rw[Zv] at h5
 have c5:=qx hst lo x.processes q4 hb.2.2.2.2.1.1 (by omega)
 generalize kL aX q4 x.processes=q5 at h5 c5 |-
 have h6:=bu (k:=q5) (i:=x.ready.length) hb.2.2.2.2.2.1 (j0 x.ready) (Zg _)
 rw[Zv] at h6
 have c6:=qS hst lo x.ready q5 hb.2.2.2.2.2.1 (by omega)
 unfold aF.tw at c1
 unfold aQ.tw at c2
 repeat' (first|refine W_ ?_|refine aJ ?_|refine ae hG hst (c1) ?_|refine ae hG hst (c2) ?_|refine ae hG hst (c3) ?_|refine ae hG hst (c4) ?_|refine ae hG hst (c5) ?_|refine ae hG hst (c6) ?_)
 exact r1_
end
end Go.Proofs.YtifcomgnmokimaaGreatDoor
