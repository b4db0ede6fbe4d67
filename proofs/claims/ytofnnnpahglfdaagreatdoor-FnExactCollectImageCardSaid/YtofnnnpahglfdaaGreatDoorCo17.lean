/- Part 17 of the proof: the texts NiA, NiB, NiM, NiS, NiH. -/
import Derived.Test.YtofnnnpahglfdaaGreatDoorCo3
import Derived.Test.YtofnnnpahglfdaaGreatDoorCo14
import Derived.Test.YtofnnnpahglfdaaGreatDoorCo13
set_option linter.all false
set_option maxHeartbeats 2000000
set_option maxRecDepth 20000
namespace Go.Proofs.YtofnnnpahglfdaaGreatDoor
open Go Go.RowKit
def nRg {α β:Type} (mk:α->β->List TV) (l:List α) (ps:List β):List (List TV):=List.zipWith mk l ps
def nOg {α β:Type} (ob:α->β->aJ) (l:List α) (ps:List β):aJ:=(List.zipWith ob l ps).flatten
theorem gr {α β:Type} (mk:α->β->List TV) {l:List α} {ps:List β} (h:ps.length=l.length):(nRg mk l ps).length=l.length:=by simp[nRg,h]
theorem jV {α β:Type} (ob:α->β->aJ) {l:List α} {ps:List β} {i:Nat} (h:i<l.length) (hp:ps.length=i) (p:β):nOg ob (l.take (i+1)) (ps++[p])=nOg ob (l.take i) ps++ob l[i] p:=by
 unfold nOg
 rw[dV h,Yz (by simp;omega)];simp
theorem abh {α β:Type} (mk:α->β->List TV) (z:List TV) {l:List α} {ps:List β} {i:Nat} (h:i<l.length) (hp:ps.length=i) (p:β) :
   (nRg mk (l.take i) ps++List.replicate (l.length - i) z)[i]?=some z/\(nRg mk (l.take i) ps++List.replicate (l.length - i) z).set i (mk l[i] p)=nRg mk (l.take (i+1)) (ps++[p])++List.replicate (l.length - (i+1)) z:=by
 have hl:(nRg mk (l.take i) ps).length=i:=by simp[nRg];omega
 have e:l.length - i=(l.length - (i+1))+1:=by omega
 refine⟨?_, ?_⟩
 ·rw[Zr (by omega),hl,Yy,e,ZY];rfl
 ·rw[YB _ _ (by omega),hl,Yy,e,ZY,YS]
  unfold nRg
  rw[dV h,Yz (by simp;omega),Zh];rfl
theorem qO (a:Nat×Nat×aW) (z T R:aJ):bW (a::((T++z)++R)) (a::(z++(T++R))):=.perm (by
 have h:((T++z)++R).Perm (z++(T++R)):=by
   rw[<- Zh]
   exact List.perm_append_comm.append_right R
 exact h.cons a)
theorem oW (a:Nat×Nat×aW) (z R:aJ):bW (a::(z++R)) (z++(a::R)):=.perm List.perm_middle.symm
def Pl:Type:=Nat×Nat
def cu (x:az) (p:Pl×Pl):List TV:=[.int .i64 x.kind,.int .i64 x.class_,.ms p.1.1 p.1.2 0 x.fields.length,.ms p.2.1 p.2.2 0 x.numbers.length]
def cS (x:az) (p:Pl×Pl):aJ:=[(p.1.1,p.1.2,.row 3 (x.fields.map (ab.tw 0))),(p.2.1,p.2.2,.row 1 (aL x.numbers))]
def cR (x:aq) (p:Pl×Pl×Pl):List TV:=[.int .i64 x.mark,.int .i64 x.code,.int .i64 x.pc,.int .i64 x.sender,.int .i64 x.outer,.int .i64 x.home,.int .i64 x.self.kind,.int .i64 x.self.number,.str x.self.text,.ms p.1.1 p.1.2 0 x.slots.length,.ms p.2.1.1 p.2.1.2 0 x.stack.length,.ms p.2.2.1 p.2.2.2 0 x.values.length,.int .i64 x.other,.bool x.retry]
def de (x:aq) (p:Pl×Pl×Pl):aJ:=[(p.1.1,p.1.2,.row 3 (x.slots.map (ab.tw 0))),(p.2.1.1,p.2.1.2,.row 3 (x.stack.map (ab.tw 0))),(p.2.2.1,p.2.2.2,.row 3 (x.values.map (ab.tw 0)))]
def ado (l:List az) (y:Pl×List (Pl×Pl)):aJ:=(y.1.1,y.1.2,.row 4 (nRg cu l y.2))::nOg cS l y.2
def acX (l:List aq) (y:Pl×List (Pl×Pl×Pl)):aJ:=(y.1.1,y.1.2,.row 14 (nRg cR l y.2))::nOg de l y.2
def StP:Type:=((Nat×Nat)×List (Nat×Nat))×(Pl×List (Pl×Pl))×Pl
def stO (x:aR) (y:StP):aJ:=pV x.classes y.1++(ado x.objects y.2.1++[(y.2.2.1,y.2.2.2,.row 1 (bQ x.output))])
def stC (x:aR) (y:StP):List TV:=[.ms y.1.1.1 y.1.1.2 0 x.classes.length,.ms y.2.1.1.1 y.2.1.1.2 0 x.objects.length,.ms y.2.2.1 y.2.2.2 0 x.output.length,.int .i64 x.ticks,.int .i64 x.budget,.int .i64 x.made]
def stI (x:aR) (y:StP):Prop:=y.1.2.length=x.classes.length/\y.2.1.2.length=x.objects.length
def jm:Type:=CbP×StP×Pl×(Pl×List (Pl×Pl×Pl))×Pl×Pl
def imO (x:ah) (y:jm):aJ:=cbO x.base y.1++(stO x.store y.2.1++([(y.2.2.1.1,y.2.2.1.2,.row 6 (x.blocks.map (ap.tw 0)))]++(acX x.contexts y.2.2.2.1++([(y.2.2.2.2.1.1,y.2.2.2.2.1.2,.row 2 (x.processes.map (ao.tw 0)))]++[(y.2.2.2.2.2.1,y.2.2.2.2.2.2,.row 1 (aL x.ready))]))))
def imC (x:ah) (y:jm):List TV:=[.ms y.1.1.1.1 y.1.1.1.2 0 x.base.classes.length,.ms y.1.2.1.1.1 y.1.2.1.1.2 0 x.base.codes.length,.ms y.1.2.2.1 y.1.2.2.2 0 x.base.entries.length,.int .i64 x.base.main,
 .ms y.2.1.1.1.1 y.2.1.1.1.2 0 x.store.classes.length,.ms y.2.1.2.1.1.1 y.2.1.2.1.1.2 0 x.store.objects.length,.ms y.2.1.2.2.1 y.2.1.2.2.2 0 x.store.output.length,.int .i64 x.store.ticks,.int .i64 x.store.budget,.int .i64 x.store.made,
 .ms y.2.2.1.1 y.2.2.1.2 0 x.blocks.length,.ms y.2.2.2.1.1.1 y.2.2.2.1.1.2 0 x.contexts.length,.ms y.2.2.2.2.1.1 y.2.2.2.2.1.2 0 x.processes.length,.ms y.2.2.2.2.2.1 y.2.2.2.2.2.2 0 x.ready.length,.int .i64 x.now,.int .i64 x.status,.int .i64 x.value.kind,.int .i64 x.value.number,.str x.value.text,.str x.fault]
def imI (x:ah) (y:jm):Prop:=cbI x.base y.1/\stI x.store y.2.1/\y.2.2.2.1.2.length=x.contexts.length
section
variable {G:World->Prop}
theorem qG (hst:aC G) (lo:Nat) (l:List Int) (hn:l.length<=1048576):CtM Tryz.prog G 41 [.sl lo 1 (aL l)] [] (fun _:Nat×Nat=>True) (fun y=>[(y.1,y.2,.row 1 (aL l))]) (fun y=>.ms y.1 y.2 0 l.length):=by
 refine aA Tryz.func41 rfl Tryz.ntmps41 rfl rfl rfl fun w0 R gs objsR hG hR=>?_
 obtain rfl:=hR.inv0
 clear hR
 have hlen:=ae l
 have h0:=fA (fun n:Int=>[TV.int .i64 n]) [.int .i64 0] l
 repeat' (first|refine W_ ?_|(refine gG ?_;intro ss bb))
 generalize ss=so;generalize bb=bo
 apply aj (X:=Nat) [0,3,1000000] (fun i=>[(4,.int .i64 (i:Int))]) (fun i=>(so,bo,.row 1 (iq (fun n:Int=>[TV.int .i64 n]) [.int .i64 0] l i))::R) (fun i=>i<=l.length) (fun i=>l.length - i) 0 (Zd _)
 exact kp_;exact nw_
 ·rw[<- h0];exact .refl _
 intro i hi
 try dsimp only
 by_cases hlt:i<l.length
 ·obtain⟨hrow,hset⟩:=gl (fun n:Int=>[TV.int .i64 n]) [.int .i64 0] hlt
  have hra:(aL l)[i]?=some [.int .i64 l[i]]:=aK hlt
  generalize l[i]=x at hset hra
  try dsimp only at hset
  repeat' (first|refine W_ ?_|refine bm ?_)
  refine ag (i+1) (by omega) (by omega) (.of _ nw_ od_ (by rw[<- hset];exact .refl _))
 ·obtain rfl:i=l.length:=by omega
  rw[fu]
  repeat' refine W_ ?_
  exact aD x_ rfl (so,bo) trivial rfl (.cons _ _ _ _ (.nil R)) pk_ (.tmp _ _ rfl) rfl
theorem gF (hst:aC G) (lo:Nat) (l:List ab) (hb:l.length<=1048576/\∀y∈l,ab.small 1048576 y):CtM Tryz.prog G 192 [.sl lo 3 (l.map (ab.tw lo))] [] (fun _:Nat×Nat=>True) (fun y=>[(y.1,y.2,.row 3 (l.map (ab.tw 0)))]) (fun y=>.ms y.1 y.2 0 l.length):=by
 refine aA Tryz.func192 rfl Tryz.ntmps192 rfl rfl rfl fun w0 R gs objsR hG hR=>?_
 obtain rfl:=hR.inv0
 clear hR
 have hlen:=ab.len lo l
 have hl1:=hb.1
 have h0:=fA (ab.tw 0) ab.tz l
 repeat' (first|refine W_ ?_|(refine gG ?_;intro ss bb))
 generalize ss=so;generalize bb=bo
 apply aj (X:=Nat) [0,3,1000000] (fun i=>[(4,.int .i64 (i:Int))]) (fun i=>(so,bo,.row 3 (iq (ab.tw 0) ab.tz l i))::R) (fun i=>i<=l.length) (fun i=>l.length - i) 0 (Zd _)
 exact kp_;exact nw_
 ·rw[<- h0];exact .refl _
 intro i hi
 try dsimp only
 by_cases hlt:i<l.length
 ·obtain⟨hrow,hset⟩:=gl (ab.tw 0) ab.tz hlt
  have hra:(l.map (ab.tw lo))[i]?=some (l[i].tw lo):=aK hlt
  have hbi:=hb.2 _ (Zb hlt)
  generalize l[i]=x at hset hra hbi
  have hct:=jP hst lo x hbi
  unfold ab.tw at hct
  rw[show x.tw lo=[.int .i64 x.kind,.int .i64 x.number,.str x.text] from rfl] at hra
  replace hrow:(iq (ab.tw 0) ab.tz l i)[i]?=some [.int .i64 0,.int .i64 0,.str ⟨#[]⟩]:=hrow
  repeat' (first|refine W_ ?_|refine ad hG hst (hct) ?_|refine bm ?_)
  refine ag (i+1) (by omega) (by omega) (.of _ nw_ od_ (by rw[<- hset];exact .refl _))
 ·obtain rfl:i=l.length:=by omega
  rw[fu]
  repeat' refine W_ ?_
  exact aD x_ rfl (so,bo) trivial rfl (.cons _ _ _ _ (.nil R)) pk_ (.tmp _ _ rfl) rfl
theorem qw (hst:aC G) (lo:Nat) (l:List ap) (hb:l.length<=1048576/\∀y∈l,ap.small 1048576 y):CtM Tryz.prog G 38 [.sl lo 6 (l.map (ap.tw lo))] [] (fun _:Nat×Nat=>True) (fun y=>[(y.1,y.2,.row 6 (l.map (ap.tw 0)))]) (fun y=>.ms y.1 y.2 0 l.length):=by
 refine aA Tryz.func38 rfl Tryz.ntmps38 rfl rfl rfl fun w0 R gs objsR hG hR=>?_
 obtain rfl:=hR.inv0
 clear hR
 have hlen:=ap.len lo l
 have hl1:=hb.1
 have h0:=fA (ap.tw 0) ap.tz l
 repeat' (first|refine W_ ?_|(refine gG ?_;intro ss bb))
 generalize ss=so;generalize bb=bo
 apply aj (X:=Nat) [0,3,1000000] (fun i=>[(4,.int .i64 (i:Int))]) (fun i=>(so,bo,.row 6 (iq (ap.tw 0) ap.tz l i))::R) (fun i=>i<=l.length) (fun i=>l.length - i) 0 (Zd _)
 exact kp_;exact nw_
 ·rw[<- h0];exact .refl _
 intro i hi
 try dsimp only
 by_cases hlt:i<l.length
 ·obtain⟨hrow,hset⟩:=gl (ap.tw 0) ap.tz hlt
  have hra:(l.map (ap.tw lo))[i]?=some (l[i].tw lo):=aK hlt
  have hbi:=hb.2 _ (Zb hlt)
  generalize l[i]=x at hset hra hbi
  have hct:=uZ hst lo x hbi
  unfold ap.tw at hct
  rw[show x.tw lo=[.int .i64 x.code,.int .i64 x.outer,.int .i64 x.home,.int .i64 x.self.kind,.int .i64 x.self.number,.str x.self.text] from rfl] at hra
  replace hrow:(iq (ap.tw 0) ap.tz l i)[i]?=some [.int .i64 0,.int .i64 0,.int .i64 0,.int .i64 0,.int .i64 0,.str ⟨#[]⟩]:=hrow
  repeat' (first|refine W_ ?_|refine ad hG hst (hct) ?_|refine bm ?_)
  refine ag (i+1) (by omega) (by omega) (.of _ nw_ od_ (by rw[<- hset];exact .refl _))
 ·obtain rfl:i=l.length:=by omega
  rw[fu]
  repeat' refine W_ ?_
  exact aD x_ rfl (so,bo) trivial rfl (.cons _ _ _ _ (.nil R)) pk_ (.tmp _ _ rfl) rfl
theorem pY (hst:aC G) (lo:Nat) (l:List ao) (hb:l.length<=1048576/\∀y∈l,ao.small 1048576 y):CtM Tryz.prog G 40 [.sl lo 2 (l.map (ao.tw lo))] [] (fun _:Nat×Nat=>True) (fun y=>[(y.1,y.2,.row 2 (l.map (ao.tw 0)))]) (fun y=>.ms y.1 y.2 0 l.length):=by
 refine aA Tryz.func40 rfl Tryz.ntmps40 rfl rfl rfl fun w0 R gs objsR hG hR=>?_
 obtain rfl:=hR.inv0
 clear hR
 have hlen:=ao.len lo l
 have hl1:=hb.1
 have h0:=fA (ao.tw 0) ao.tz l
 repeat' (first|refine W_ ?_|(refine gG ?_;intro ss bb))
 generalize ss=so;generalize bb=bo
 apply aj (X:=Nat) [0,3,1000000] (fun i=>[(4,.int .i64 (i:Int))]) (fun i=>(so,bo,.row 2 (iq (ao.tw 0) ao.tz l i))::R) (fun i=>i<=l.length) (fun i=>l.length - i) 0 (Zd _)
 exact kp_;exact nw_
 ·rw[<- h0];exact .refl _
 intro i hi
 try dsimp only
 by_cases hlt:i<l.length
 ·obtain⟨hrow,hset⟩:=gl (ao.tw 0) ao.tz hlt
  have hra:(l.map (ao.tw lo))[i]?=some (l[i].tw lo):=aK hlt
  have hbi:=hb.2 _ (Zb hlt)
  generalize l[i]=x at hset hra hbi
  have hct:=uw hst lo x hbi
  unfold ao.tw at hct
  rw[show x.tw lo=[.int .i64 x.at_,.bool x.main] from rfl] at hra
  replace hrow:(iq (ao.tw 0) ao.tz l i)[i]?=some [.int .i64 0,.bool false]:=hrow
  repeat' (first|refine W_ ?_|refine ad hG hst (hct) ?_|refine bm ?_)
  refine ag (i+1) (by omega) (by omega) (.of _ nw_ od_ (by rw[<- hset];exact .refl _))
 ·obtain rfl:i=l.length:=by omega
  rw[fu]
  repeat' refine W_ ?_
  exact aD x_ rfl (so,bo) trivial rfl (.cons _ _ _ _ (.nil R)) pk_ (.tmp _ _ rfl) rfl
theorem t7 (hst:aC G) (lo:Nat) (x:az) (hb:x.small 1048576):CtM Tryz.prog G 191 [.agg [.int .i64 x.kind,.int .i64 x.class_,.sl lo 3 (x.fields.map (ab.tw lo)),.sl lo 1 (aL x.numbers)]] [] (fun _:Pl×Pl=>True) (fun y=>cS x y) (fun y=>.agg (cu x y)):=by
 refine aA Tryz.func191 rfl Tryz.ntmps191 rfl rfl rfl fun w0 R gs objsR hG hR=>?_
 obtain rfl:=hR.inv0
 clear hR
 have h1:=gF hst lo x.fields hb.1
 have h2:=qG hst lo x.numbers hb.2
 unfold cS cu
 repeat' (first|refine W_ ?_|refine aN ?_|(refine am ?_;intro ss bb)|refine ac ?_|((with_reducible apply aB);rfl;kernel_rfl;(repeat (first|exact ay.nil|((with_reducible apply ay.cons);rfl)));exact hG;exact h1;exact .nil _;intro y1 hy1;refine bF ?_)|((with_reducible apply aB);rfl;kernel_rfl;(repeat (first|exact ay.nil|((with_reducible apply ay.cons);rfl)));exact hG;exact h2;exact .nil _;intro y2 hy2;refine bF ?_))
 refine aD x_ rfl (y1,y2) trivial rfl (.cons _ _ _ _ (.cons _ _ _ _ (.nil R))) pk_ (.cell _ _ _ _ _ rfl mm_ (by kernel_rfl) (by kernel_rfl) (by kernel_rfl)) rfl
theorem tf (hst:aC G) (lo:Nat) (l:List az) (hb:l.length<=1048576/\∀y∈l,az.small 1048576 y):CtM Tryz.prog G 111 [.sl lo 4 (l.map (az.tw lo))] [] (fun y:Pl×List (Pl×Pl)=>y.2.length=l.length) (fun y=>ado l y) (fun y=>.ms y.1.1 y.1.2 0 l.length):=by
 refine aA Tryz.func111 rfl Tryz.ntmps111 rfl rfl rfl fun w0 R gs objsR hG hR=>?_
 obtain rfl:=hR.inv0
 clear hR
 have hlen:=az.len lo l
 have hl1:=hb.1
 have h0:List.replicate l.length az.tz=nRg cu (l.take 0) []++List.replicate (l.length - 0) az.tz:=by simp[nRg]
 repeat' (first|refine W_ ?_|(refine gG ?_;intro ss bb))
 generalize ss=so;generalize bb=bo
 apply aj (X:=Nat×List (Pl×Pl)) [0,3,1000000] (fun x=>[(4,.int .i64 (x.1:Int))]) (fun x=>(so,bo,.row 4 (nRg cu (l.take x.1) x.2++List.replicate (l.length - x.1) az.tz))::(nOg cS (l.take x.1) x.2++R)) (fun x=>x.1<=l.length/\x.2.length=x.1) (fun x=>l.length - x.1) (0,[]) ⟨Zd _,rfl⟩
 exact kp_;exact nw_
 ·rw[<- h0];exact .refl _
 rintro ⟨i,ps⟩ ⟨hi,hps⟩
 dsimp only at hi hps |-
 by_cases hlt:i<l.length
 ·have hrs:=fun p=>abh cu az.tz hlt hps p
  have hos:=fun p=>jV cS hlt hps p
  have hra:(l.map (az.tw lo))[i]?=some (l[i].tw lo):=aK hlt
  have hbi:=hb.2 _ (Zb hlt)
  generalize l[i]=x at hrs hos hra hbi
  have hct:=t7 hst lo x hbi
  rw[show x.tw lo=[.int .i64 x.kind,.int .i64 x.class_,.sl lo 3 (x.fields.map (ab.tw lo)),.sl lo 1 (aL x.numbers)] from rfl] at hra
  have hrow:(nRg cu (l.take i) ps++List.replicate (l.length - i) az.tz)[i]?=some [.int .i64 0,.int .i64 0,.nils,.nils]:=(hrs ((0,0),(0,0))).1
  generalize nOg cS (l.take i) ps=T at hos |-
  unfold cu at hct
  repeat' (first|refine W_ ?_|((with_reducible apply aB);rfl;kernel_rfl;(repeat (first|exact ay.nil|((with_reducible apply ay.cons);rfl)));exact hG;exact hct;exact .nil _;intro y hy;refine cT (oW _ _ _) ?_)|refine bm ?_)
  refine ag (i+1,ps++[y]) ⟨by dsimp only;omega,by dsimp only;simp[hps]⟩ (by dsimp only;omega) (.of _ nw_ od_ ?_)
  dsimp only
  rw[hos y,<- (hrs y).2]
  exact qO _ _ T R
 ·obtain rfl:i=l.length:=by omega
  rw[Zc (Zf _),Yy,YY,Zo]
  repeat' refine W_ ?_
  exact aD x_ rfl ((so,bo),ps) hps rfl (.cons _ _ _ _ (.app _ R)) (.refl _) (.tmp _ _ rfl) rfl
theorem si (hst:aC G) (lo:Nat) (x:aq) (hb:x.small 1048576):CtM Tryz.prog G 114 [.agg [.int .i64 x.mark,.int .i64 x.code,.int .i64 x.pc,.int .i64 x.sender,.int .i64 x.outer,.int .i64 x.home,.int .i64 x.self.kind,.int .i64 x.self.number,.str x.self.text,.sl lo 3 (x.slots.map (ab.tw lo)),.sl lo 3 (x.stack.map (ab.tw lo)),.sl lo 3 (x.values.map (ab.tw lo)),.int .i64 x.other,.bool x.retry]] [] (fun _:Pl×Pl×Pl=>True) (fun y=>de x y) (fun y=>.agg (cR x y)):=by
 refine aA Tryz.func114 rfl Tryz.ntmps114 rfl rfl rfl fun w0 R gs objsR hG hR=>?_
 obtain rfl:=hR.inv0
 clear hR
 have h1:=gF hst lo x.slots hb.2.1
 have h2:=gF hst lo x.stack hb.2.2.1
 have h3:=gF hst lo x.values hb.2.2.2
 have hvc:=jP hst lo x.self hb.1
 unfold ab.tw at hvc
 unfold de cR
 repeat' (first|refine W_ ?_|refine aN ?_|(refine am ?_;intro ss bb)|refine ac ?_|refine ad hG hst (hvc) ?_|((with_reducible apply aB);rfl;kernel_rfl;(repeat (first|exact ay.nil|((with_reducible apply ay.cons);rfl)));exact hG;exact h1;exact .nil _;intro y1 hy1;refine bF ?_)|((with_reducible apply aB);rfl;kernel_rfl;(repeat (first|exact ay.nil|((with_reducible apply ay.cons);rfl)));exact hG;exact h2;exact .nil _;intro y2 hy2;refine bF ?_)|((with_reducible apply aB);rfl;kernel_rfl;(repeat (first|exact ay.nil|((with_reducible apply ay.cons);rfl)));exact hG;exact h3;exact .nil _;intro y3 hy3;refine bF ?_))
 refine aD x_ rfl (y1,y2,y3) trivial rfl (.cons _ _ _ _ (.cons _ _ _ _ (.cons _ _ _ _ (.nil R)))) pk_ (.cell _ _ _ _ _ rfl mm_ (by kernel_rfl) (by kernel_rfl) (by kernel_rfl)) rfl
theorem qn (hst:aC G) (lo:Nat) (l:List aq) (hb:l.length<=1048576/\∀y∈l,aq.small 1048576 y):CtM Tryz.prog G 39 [.sl lo 14 (l.map (aq.tw lo))] [] (fun y:Pl×List (Pl×Pl×Pl)=>y.2.length=l.length) (fun y=>acX l y) (fun y=>.ms y.1.1 y.1.2 0 l.length):=by
 refine aA Tryz.func39 rfl Tryz.ntmps39 rfl rfl rfl fun w0 R gs objsR hG hR=>?_
 obtain rfl:=hR.inv0
 clear hR
 have hlen:=aq.len lo l
 have hl1:=hb.1
 have h0:List.replicate l.length aq.tz=nRg cR (l.take 0) []++List.replicate (l.length - 0) aq.tz:=by simp[nRg]
 repeat' (first|refine W_ ?_|(refine gG ?_;intro ss bb))
 generalize ss=so;generalize bb=bo
 apply aj (X:=Nat×List (Pl×Pl×Pl)) [0,3,1000000] (fun x=>[(4,.int .i64 (x.1:Int))]) (fun x=>(so,bo,.row 14 (nRg cR (l.take x.1) x.2++List.replicate (l.length - x.1) aq.tz))::(nOg de (l.take x.1) x.2++R)) (fun x=>x.1<=l.length/\x.2.length=x.1) (fun x=>l.length - x.1) (0,[]) ⟨Zd _,rfl⟩
 exact kp_;exact nw_
 ·rw[<- h0];exact .refl _
 rintro ⟨i,ps⟩ ⟨hi,hps⟩
 dsimp only at hi hps |-
 by_cases hlt:i<l.length
 ·have hrs:=fun p=>abh cR aq.tz hlt hps p
  have hos:=fun p=>jV de hlt hps p
  have hra:(l.map (aq.tw lo))[i]?=some (l[i].tw lo):=aK hlt
  have hbi:=hb.2 _ (Zb hlt)
  generalize l[i]=x at hrs hos hra hbi
  have hct:=si hst lo x hbi
  rw[show x.tw lo=[.int .i64 x.mark,.int .i64 x.code,.int .i64 x.pc,.int .i64 x.sender,.int .i64 x.outer,.int .i64 x.home,.int .i64 x.self.kind,.int .i64 x.self.number,.str x.self.text,.sl lo 3 (x.slots.map (ab.tw lo)),.sl lo 3 (x.stack.map (ab.tw lo)),.sl lo 3 (x.values.map (ab.tw lo)),.int .i64 x.other,.bool x.retry] from rfl] at hra
  have hrow:(nRg cR (l.take i) ps++List.replicate (l.length - i) aq.tz)[i]?=some [.int .i64 0,.int .i64 0,.int .i64 0,.int .i64 0,.int .i64 0,.int .i64 0,.int .i64 0,.int .i64 0,.str ⟨#[]⟩,.nils,.nils,.nils,.int .i64 0,.bool false]:=(hrs ((0,0),(0,0),(0,0))).1
  generalize nOg de (l.take i) ps=T at hos |-
  unfold cR at hct
  repeat' (first|refine W_ ?_|((with_reducible apply aB);rfl;kernel_rfl;(repeat (first|exact ay.nil|((with_reducible apply ay.cons);rfl)));exact hG;exact hct;exact .nil _;intro y hy;refine cT (oW _ _ _) ?_)|refine bm ?_)
  refine ag (i+1,ps++[y]) ⟨by dsimp only;omega,by dsimp only;simp[hps]⟩ (by dsimp only;omega) (.of _ nw_ od_ ?_)
  dsimp only
  rw[hos y,<- (hrs y).2]
  exact qO _ _ T R
 ·obtain rfl:i=l.length:=by omega
  rw[Zc (Zf _),Yy,YY,Zo]
  repeat' refine W_ ?_
  exact aD x_ rfl ((so,bo),ps) hps rfl (.cons _ _ _ _ (.app _ R)) (.refl _) (.tmp _ _ rfl) rfl
end
theorem pD (A L R:aJ):((A++L)++R).Perm (L++(A++R)):=by
 rw[Zh]
 exact Yi A L R
theorem ac5 (A B C D E F R:aJ):((A++(B++(C++(D++(E++F)))))++R).Perm (F++(E++(D++(C++(B++(A++R)))))) :=
 (pD A _ R).trans ((pD B _ _).trans ((pD C _ _).trans ((pD D _ _).trans (pD E _ _))))
section
variable {G:World->Prop}
theorem wq (hst:aC G) (lo:Nat) (x:aR) (hb:x.small 1048576):CtM Tryz.prog G 37 [.agg (x.tw lo)] [] (stI x) (stO x) (fun y=>.agg (stC x y)):=by
 refine aA Tryz.func37 rfl Tryz.ntmps37 rfl rfl rfl fun w0 R gs objsR hG hR=>?_
 obtain rfl:=hR.inv0
 clear hR
 have c1:=iZ hst lo x.classes hb.1
 have c2:=tf hst lo x.objects hb.2.1
 have c3:=lG hst lo x.output hb.2.2.1
 unfold aR.tw
 repeat' (first|refine W_ ?_|refine aN ?_|(refine am ?_;intro ss bb)|refine ac ?_|((with_reducible apply aB);rfl;kernel_rfl;(repeat (first|exact ay.nil|((with_reducible apply ay.cons);rfl)));exact hG;(first|exact c1|exact c2|exact c3);exact .nil _;intro y hy;refine cT (jw _ _ _ _) ?_))
 rename_i yc hyc yd hyd
 refine aD (t1:=.agg [.ms yc.1.1 yc.1.2 0 x.classes.length,.ms yd.1.1 yd.1.2 0 x.objects.length,.ms y.1 y.2 0 x.output.length,.int .i64 x.ticks,.int .i64 x.budget,.int .i64 x.made]) x_ rfl (yc,yd,y) ⟨hyc,hyd⟩ rfl (.app _ R) (.drop (.drop (.perm (xI _ _ _ R)))) (.cell _ _ _ _ _ rfl mm_ (by kernel_rfl) (by kernel_rfl) (by kernel_rfl)) rfl
theorem pM (hst:aC G) (lo:Nat) (x:ah) (hb:x.small 1048576):CtM Tryz.prog G 9 [.agg (x.tw lo)] [] (imI x) (imO x) (fun y=>.agg (imC x y)):=by
 refine aA Tryz.func9 rfl Tryz.ntmps9 rfl rfl rfl fun w0 R gs objsR hG hR=>?_
 obtain rfl:=hR.inv0
 clear hR
 have c1:=qy hst lo x.base hb.1
 have c2:=wq hst lo x.store hb.2.1
 have c3:=qw hst lo x.blocks hb.2.2.1
 have c4:=qn hst lo x.contexts hb.2.2.2.1
 have c5:=pY hst lo x.processes hb.2.2.2.2.1
 have c6:=qG hst lo x.ready hb.2.2.2.2.2.1
 have c7:=jP hst lo x.value hb.2.2.2.2.2.2.1
 unfold aI.tw cbC at c1
 unfold aR.tw stC at c2
 unfold ab.tw at c7
 unfold ah.tw
 repeat' (first|refine W_ ?_|refine aN ?_|(refine am ?_;intro ss bb)|refine ac ?_|refine ad hG hst (c7) ?_|((with_reducible apply aB);rfl;kernel_rfl;(repeat (first|exact ay.nil|((with_reducible apply ay.cons);rfl)));exact hG;(first|exact c1|exact c2|exact c3|exact c4|exact c5|exact c6);exact .nil _;intro y hy;refine cT (jw _ _ _ _) ?_))
 rename_i y1 h1 y2 h2 y3 h3 y4 h4 y5 h5
 refine aD (t1:=.agg [.ms y1.1.1.1 y1.1.1.2 0 x.base.classes.length,.ms y1.2.1.1.1 y1.2.1.1.2 0 x.base.codes.length,.ms y1.2.2.1 y1.2.2.2 0 x.base.entries.length,.int .i64 x.base.main,.ms y2.1.1.1 y2.1.1.2 0 x.store.classes.length,.ms y2.2.1.1.1 y2.2.1.1.2 0 x.store.objects.length,.ms y2.2.2.1 y2.2.2.2 0 x.store.output.length,.int .i64 x.store.ticks,.int .i64 x.store.budget,.int .i64 x.store.made,.ms y3.1 y3.2 0 x.blocks.length,.ms y4.1.1 y4.1.2 0 x.contexts.length,.ms y5.1 y5.2 0 x.processes.length,.ms y.1 y.2 0 x.ready.length,.int .i64 x.now,.int .i64 x.status,.int .i64 x.value.kind,.int .i64 x.value.number,.str x.value.text,.str x.fault]) x_ rfl (y1,y2,y3,y4,y5,y) ⟨h1,h2,h4⟩ rfl (.app _ R) (.drop (.drop (.perm (ac5 _ _ _ _ _ _ R)))) (.cell _ _ _ _ _ rfl mm_ (by kernel_rfl) (by kernel_rfl) (by kernel_rfl)) rfl
end
theorem abA {α β:Type} (mk:α->β->List TV) {l:List α} {ps:List β} {i:Nat} {p:β} {x:α} (hx:l[i]?=some x) (hp:ps[i]?=some p):(nRg mk l ps)[i]?=some (mk x p):=by
 unfold nRg
 rw[Y8,hx,hp]
theorem abG {α β:Type} (mk:α->β->List TV) {l:List α} {ps:List β} {i:Nat} {p:β} {x:α} (hp:ps[i]?=some p):nRg mk (l.set i x) ps=(nRg mk l ps).set i (mk x p):=oO mk hp
theorem lx {a b:List aJ} (h:a.Perm b):a.flatten.Perm b.flatten:=by
 induction h with
 | nil=>exact .refl _
 | cons x _ ih=>exact ih.append_left x
 | swap x y l=>exact Yi y x l.flatten
 | trans _ _ h1 h2=>exact h1.trans h2
def ngE {α β:Type} (ob:α->β->aJ) (l:List α) (ps:List β) (i:Nat):aJ:=((List.zipWith ob l ps).eraseIdx i).flatten
theorem xW {α β:Type} (ob:α->β->aJ) {l:List α} {ps:List β} {i:Nat} {p:β} {x:α} (hx:l[i]?=some x) (hp:ps[i]?=some p):(nOg ob l ps).Perm (ob x p++ngE ob l ps i):=by
 have h:=lx (sE (l:=List.zipWith ob l ps) (i:=i) (x:=ob x p) (by rw[Y8,hx,hp]))
 simpa [nOg,ngE] using h
theorem aeJ {α β:Type} (ob:α->β->aJ) {l:List α} {ps:List β} {i:Nat} {p:β} {x:α} (hl:i<l.length) (hp:ps[i]?=some p):(nOg ob (l.set i x) ps).Perm (ob x p++ngE ob l ps i):=by
 have h:=xW ob (l:=l.set i x) (ps:=ps) (i:=i) (p:=p) (x:=x) (by rw[ZP hl]) hp
 have e:ngE ob (l.set i x) ps i=ngE ob l ps i:=by
   unfold ngE
   rw[oO _ hp,oG]
 rw[e] at h
 exact h
theorem afp (A B:List aJ) (s:aJ):bW (s::(A++B)).flatten (A++s::B).flatten:=.perm (lx Z2).symm
theorem abQ {a z1 z2:Nat×Nat×aW} {N E:aJ} (h:N.Perm ([z1,z2]++E)) (R:aJ):bW (z1::z2::a::(E++R)) (a::(N++R)):=.perm (by
 have h1:(a::(N++R)).Perm (a::(([z1,z2]++E)++R)):=(h.append_right R).cons a
 exact(Z2 (l₁:=[z1,z2]) (l₂:=E++R) (a:=a)).trans h1.symm)
theorem adY {a z1 z2:Nat×Nat×aW} {N E:aJ} (h:N.Perm ([z1,z2]++E)) (R:aJ):bW (a::(N++R)) (z2::z1::a::(E++R)):=.perm (by
 have h1:(a::(N++R)).Perm (a::(([z1,z2]++E)++R)):=(h.append_right R).cons a
 exact h1.trans ((Z2 (l₁:=[z1,z2]) (l₂:=E++R) (a:=a)).symm.trans (List.Perm.swap _ _ _)))
theorem abY {a z1 z2 z3:Nat×Nat×aW} {N E:aJ} (h:N.Perm ([z1,z2,z3]++E)) (R:aJ):bW (z1::z2::z3::a::(E++R)) (a::(N++R)):=.perm (by
 have h1:(a::(N++R)).Perm (a::(([z1,z2,z3]++E)++R)):=(h.append_right R).cons a
 exact(Z2 (l₁:=[z1,z2,z3]) (l₂:=E++R) (a:=a)).trans h1.symm)
theorem aen {a z1 z2 z3:Nat×Nat×aW} {N E:aJ} (h:N.Perm ([z1,z2,z3]++E)) (R:aJ):bW (a::(N++R)) (z3::z2::z1::a::(E++R)):=.perm (by
 have h1:(a::(N++R)).Perm (a::(([z1,z2,z3]++E)++R)):=(h.append_right R).cons a
 have h2:(z3::z2::z1::a::(E++R)).Perm (z1::z2::z3::a::(E++R)):=((List.Perm.swap z2 z3 _).trans ((List.Perm.swap z1 z3 _).cons z2)).trans ((List.Perm.swap z1 z2 _))
 exact h1.trans ((Z2 (l₁:=[z1,z2,z3]) (l₂:=E++R) (a:=a)).symm.trans h2.symm))
theorem adq (z1 z2 z3:Nat×Nat×aW) (R:aJ):bW (z3::z2::z1::R) (z2::z1::z3::R):=.perm (Z2 (l₁:=[z2,z1]) (l₂:=R) (a:=z3)).symm
def jt (k:Int) (_:Int):Int:=k
def dK (k:Int) (_:Int):Int:=k+1
theorem jL (l:List Int):∀x∈l,∀q,q<=dK q x/\dK q x<=q+(1:Nat):=fun x _ q=>by unfold dK;omega
def da (k:Int) (_:ab):ab:=⟨k,k+1,dU (k+1+1)⟩
def aG (k:Int) (_:ab):Int:=k+1+1+1
theorem cw (l:List ab):∀x∈l,∀q,q<=aG q x/\aG q x<=q+(3:Nat):=fun x _ q=>by unfold aG;omega
def cN (k:Int) (_:ap):ap:=⟨k,k+1,k+1+1,⟨k+1+1+1,k+1+1+1+1,dU (k+1+1+1+1+1)⟩⟩
def aQ (k:Int) (_:ap):Int:=k+1+1+1+1+1+1
theorem fF (l:List ap):∀x∈l,∀q,q<=aQ q x/\aQ q x<=q+(6:Nat):=fun x _ q=>by unfold aQ;omega
def cI (k:Int) (_:ao):ao:=⟨k,decide ((k+1).tmod 3=0)⟩
def aX (k:Int) (_:ao):Int:=k+1+1
theorem fO (l:List ao):∀x∈l,∀q,q<=aX q x/\aX q x<=q+(2:Nat):=fun x _ q=>by unfold aX;omega
def bY (k:Int) (x:az):az:=⟨k,k+1,mkL da aG (k+1+1) x.fields,mkL jt dK (kL aG (k+1+1) x.fields) x.numbers⟩
def bg (k:Int) (x:az):Int:=kL dK (kL aG (k+1+1) x.fields) x.numbers
theorem gx {l:List az} (h:∀y∈l,az.small 1048576 y):∀x∈l,∀q,q<=bg q x/\bg q x<=q+(4194306:Nat):=fun x hx q=>by
 have h1:=h x hx
 have h2:=h1.1.1
 have h3:=h1.2
 have h4:=io (nx:=aG) (l:=x.fields) (k:=q+1+1) (cw _)
 have h5:=io (nx:=dK) (l:=x.numbers) (k:=kL aG (q+1+1) x.fields) (jL _)
 unfold bg
 omega
def k9 (k:Int):Int:=k+1+1+1+1+1+1+1+1+1
def bE (k:Int) (x:aq):aq:=⟨k,k+1,k+1+1,k+1+1+1,k+1+1+1+1,k+1+1+1+1+1,⟨k+1+1+1+1+1+1,k+1+1+1+1+1+1+1,dU (k+1+1+1+1+1+1+1+1)⟩,mkL da aG (k9 k) x.slots,mkL da aG (kL aG (k9 k) x.slots) x.stack,mkL da aG (kL aG (kL aG (k9 k) x.slots) x.stack) x.values,kL aG (kL aG (kL aG (k9 k) x.slots) x.stack) x.values,decide ((kL aG (kL aG (kL aG (k9 k) x.slots) x.stack) x.values+1).tmod 3=0)⟩
def aS (k:Int) (x:aq):Int:=kL aG (kL aG (kL aG (k9 k) x.slots) x.stack) x.values+1+1
theorem fQ {l:List aq} (h:∀y∈l,aq.small 1048576 y):∀x∈l,∀q,q<=aS q x/\aS q x<=q+(9437195:Nat):=fun x hx q=>by
 have h1:=h x hx
 have h2:=h1.2.1.1
 have h3:=h1.2.2.1.1
 have h4:=h1.2.2.2.1
 have h5:=io (nx:=aG) (l:=x.slots) (k:=k9 q) (cw _)
 have h6:=io (nx:=aG) (l:=x.stack) (k:=kL aG (k9 q) x.slots) (cw _)
 have h7:=io (nx:=aG) (l:=x.values) (k:=kL aG (kL aG (k9 q) x.slots) x.stack) (cw _)
 have h8:k9 q=q+9:=by unfold k9;omega
 unfold aS
 omega
section
variable {G:World->Prop}
theorem mE (hst:aC G) (s b:Nat) (l:List Int) (k:Int) (hn:l.length<=1048576) (hk:0<=k/\k<=1000000000000000):CtM Tryz.prog G 56 [.ms s b 0 l.length,.int .i64 k] [(s,b,.row 1 (aL (l)))] (fun _:Unit=>True) (fun _=>[(s,b,.row 1 (aL (mkL jt dK k l)))]) (fun _=>.int .i64 (kL dK k l)):=by
 refine aA Tryz.func56 rfl Tryz.ntmps56 rfl rfl rfl fun w0 R gs objsR hG hR=>?_
 obtain rfl:=hR.inv1
 clear hR
 repeat' refine W_ ?_
 apply aj (X:=Nat) [0,1000000] (fun x=>[(5,.int .i64 (x:Int)),(1,.int .i64 (kL dK k (l.take x)))]) (fun x=>(s,b,.row 1 (aL (ptL jt dK k l x)))::R) (fun x=>x<=l.length) (fun x=>l.length - x) 0 (Zd _)
 exact kp_;exact nw_
 ·exact .refl _
 intro i hi
 try dsimp only
 have hq:=ba (k:=k) (i:=i) hn (jL l) hi
 by_cases hlt:i<l.length
 ·have hrow:(aL (ptL jt dK k l i))[i]?=some ((fun n:Int=>[TV.int .i64 n]) l[i]):=by
    simp only[aL,Zp,ex hlt];rfl
  have hset:(aL (ptL jt dK k l i)).set i ((fun n:Int=>[TV.int .i64 n]) (jt (kL dK k (l.take i)) l[i]))=aL (ptL jt dK k l (i+1)):=by
    rw[<- gn hlt];simp[aL,Ys]
  have hks:=cU (nx:=dK) (k:=k) hlt
  have hrl:(aL (ptL jt dK k l i)).length=l.length:=by simp[aL,du hi]
  generalize aL (ptL jt dK k l i)=rows at hrow hset hrl |-
  generalize kL dK k (l.take i)=q at hq hset hks |-
  generalize l[i]=x at hrow hset hks
  replace hrow:rows[i]?=some [.int .i64 x]:=hrow
  have hks2:kL dK k (l.take (i+1))=q+1:=hks
  repeat' (first|refine W_ ?_|refine bm ?_)
  refine ag (i+1) (by omega) (by omega) (.of _ (cq.envCons rfl (cq.envCons (dl rfl (by rw[hks2])) cq.envNil)) od_ ?_)
  rw[<- hset]
  (try simp only[YG])
  exact .refl _
 ·obtain rfl:i=l.length:=by omega
  rw[eI,Zw]
  repeat' refine W_ ?_
  exact aD x_ rfl () trivial rfl (.cons _ _ _ _ (.nil R)) pk_ (.tmp _ _ rfl) rfl
theorem fC (hst:aC G) (s b:Nat) (l:List ab) (k:Int) (hn:l.length<=1048576) (hk:0<=k/\k<=1000000000000000):CtM Tryz.prog G 135 [.ms s b 0 l.length,.int .i64 k] [(s,b,.row 3 ((l).map (ab.tw 0)))] (fun _:Unit=>True) (fun _=>[(s,b,.row 3 ((mkL da aG k l).map (ab.tw 0)))]) (fun _=>.int .i64 (kL aG k l)):=by
 refine aA Tryz.func135 rfl Tryz.ntmps135 rfl rfl rfl fun w0 R gs objsR hG hR=>?_
 obtain rfl:=hR.inv1
 clear hR
 repeat' refine W_ ?_
 apply aj (X:=Nat) [0,1000000] (fun x=>[(5,.int .i64 (x:Int)),(1,.int .i64 (kL aG k (l.take x)))]) (fun x=>(s,b,.row 3 ((ptL da aG k l x).map (ab.tw 0)))::R) (fun x=>x<=l.length) (fun x=>l.length - x) 0 (Zd _)
 exact kp_;exact nw_
 ·exact .refl _
 intro i hi
 try dsimp only
 have hq:=ba (k:=k) (i:=i) hn (cw l) hi
 by_cases hlt:i<l.length
 ·have hrow:((ptL da aG k l i).map (ab.tw 0))[i]?=some ((ab.tw 0) l[i]):=by
    simp only[aL,Zp,ex hlt];rfl
  have hset:((ptL da aG k l i).map (ab.tw 0)).set i ((ab.tw 0) (da (kL aG k (l.take i)) l[i]))=(ptL da aG k l (i+1)).map (ab.tw 0):=by
    rw[<- gn hlt];rw[Ys]
  have hks:=cU (nx:=aG) (k:=k) hlt
  have hrl:((ptL da aG k l i).map (ab.tw 0)).length=l.length:=by simp[aL,du hi]
  generalize (ptL da aG k l i).map (ab.tw 0)=rows at hrow hset hrl |-
  generalize kL aG k (l.take i)=q at hq hset hks |-
  generalize l[i]=x at hrow hset hks
  replace hrow:rows[i]?=some [.int .i64 x.kind,.int .i64 x.number,.str x.text]:=hrow
  have hr1:(rows.set i [.int .i64 q,.int .i64 x.number,.str x.text])[i]?=some [.int .i64 q,.int .i64 x.number,.str x.text]:=by rw[ZP (by omega)]
  have hks2:kL aG k (l.take (i+1))=q+1+1+1:=hks
  repeat' (first|refine W_ ?_|refine bm ?_|((with_reducible apply mC);rfl;kernel_rfl;(repeat (first|exact bD.nil|((with_reducible apply bD.cons);rfl;exact .same _)));exact hG;exact hst;exact bZ _ (by omega) (by omega)))
  refine ag (i+1) (by omega) (by omega) (.of _ (cq.envCons rfl (cq.envCons (dl rfl (by rw[hks2])) cq.envNil)) od_ ?_)
  rw[<- hset]
  (try simp only[YG])
  exact .refl _
 ·obtain rfl:i=l.length:=by omega
  rw[eI,Zw]
  repeat' refine W_ ?_
  exact aD x_ rfl () trivial rfl (.cons _ _ _ _ (.nil R)) pk_ (.tmp _ _ rfl) rfl
theorem nk (hst:aC G) (s b:Nat) (l:List ap) (k:Int) (hn:l.length<=1048576) (hk:0<=k/\k<=1000000000000000):CtM Tryz.prog G 53 [.ms s b 0 l.length,.int .i64 k] [(s,b,.row 6 ((l).map (ap.tw 0)))] (fun _:Unit=>True) (fun _=>[(s,b,.row 6 ((mkL cN aQ k l).map (ap.tw 0)))]) (fun _=>.int .i64 (kL aQ k l)):=by
 refine aA Tryz.func53 rfl Tryz.ntmps53 rfl rfl rfl fun w0 R gs objsR hG hR=>?_
 obtain rfl:=hR.inv1
 clear hR
 repeat' refine W_ ?_
 apply aj (X:=Nat) [0,1000000] (fun x=>[(5,.int .i64 (x:Int)),(1,.int .i64 (kL aQ k (l.take x)))]) (fun x=>(s,b,.row 6 ((ptL cN aQ k l x).map (ap.tw 0)))::R) (fun x=>x<=l.length) (fun x=>l.length - x) 0 (Zd _)
 exact kp_;exact nw_
 ·exact .refl _
 intro i hi
 try dsimp only
 have hq:=ba (k:=k) (i:=i) hn (fF l) hi
 by_cases hlt:i<l.length
 ·have hrow:((ptL cN aQ k l i).map (ap.tw 0))[i]?=some ((ap.tw 0) l[i]):=by
    simp only[aL,Zp,ex hlt];rfl
  have hset:((ptL cN aQ k l i).map (ap.tw 0)).set i ((ap.tw 0) (cN (kL aQ k (l.take i)) l[i]))=(ptL cN aQ k l (i+1)).map (ap.tw 0):=by
    rw[<- gn hlt];rw[Ys]
  have hks:=cU (nx:=aQ) (k:=k) hlt
  have hrl:((ptL cN aQ k l i).map (ap.tw 0)).length=l.length:=by simp[aL,du hi]
  generalize (ptL cN aQ k l i).map (ap.tw 0)=rows at hrow hset hrl |-
  generalize kL aQ k (l.take i)=q at hq hset hks |-
  generalize l[i]=x at hrow hset hks
  replace hrow:rows[i]?=some [.int .i64 x.code,.int .i64 x.outer,.int .i64 x.home,.int .i64 x.self.kind,.int .i64 x.self.number,.str x.self.text]:=hrow
  have hr1:(rows.set i [.int .i64 q,.int .i64 x.outer,.int .i64 x.home,.int .i64 x.self.kind,.int .i64 x.self.number,.str x.self.text])[i]?=some [.int .i64 q,.int .i64 x.outer,.int .i64 x.home,.int .i64 x.self.kind,.int .i64 x.self.number,.str x.self.text]:=by rw[ZP (by omega)]
  have hks2:kL aQ k (l.take (i+1))=q+1+1+1+1+1+1:=hks
  repeat' (first|refine W_ ?_|refine bm ?_|((with_reducible apply mC);rfl;kernel_rfl;(repeat (first|exact bD.nil|((with_reducible apply bD.cons);rfl;exact .same _)));exact hG;exact hst;exact bZ _ (by omega) (by omega)))
  refine ag (i+1) (by omega) (by omega) (.of _ (cq.envCons rfl (cq.envCons (dl rfl (by rw[hks2])) cq.envNil)) od_ ?_)
  rw[<- hset]
  (try simp only[YG])
  exact .refl _
 ·obtain rfl:i=l.length:=by omega
  rw[eI,Zw]
  repeat' refine W_ ?_
  exact aD x_ rfl () trivial rfl (.cons _ _ _ _ (.nil R)) pk_ (.tmp _ _ rfl) rfl
theorem ny (hst:aC G) (s b:Nat) (l:List ao) (k:Int) (hn:l.length<=1048576) (hk:0<=k/\k<=1000000000000000):CtM Tryz.prog G 55 [.ms s b 0 l.length,.int .i64 k] [(s,b,.row 2 ((l).map (ao.tw 0)))] (fun _:Unit=>True) (fun _=>[(s,b,.row 2 ((mkL cI aX k l).map (ao.tw 0)))]) (fun _=>.int .i64 (kL aX k l)):=by
 refine aA Tryz.func55 rfl Tryz.ntmps55 rfl rfl rfl fun w0 R gs objsR hG hR=>?_
 obtain rfl:=hR.inv1
 clear hR
 repeat' refine W_ ?_
 apply aj (X:=Nat) [0,1000000] (fun x=>[(5,.int .i64 (x:Int)),(1,.int .i64 (kL aX k (l.take x)))]) (fun x=>(s,b,.row 2 ((ptL cI aX k l x).map (ao.tw 0)))::R) (fun x=>x<=l.length) (fun x=>l.length - x) 0 (Zd _)
 exact kp_;exact nw_
 ·exact .refl _
 intro i hi
 try dsimp only
 have hq:=ba (k:=k) (i:=i) hn (fO l) hi
 by_cases hlt:i<l.length
 ·have hrow:((ptL cI aX k l i).map (ao.tw 0))[i]?=some ((ao.tw 0) l[i]):=by
    simp only[aL,Zp,ex hlt];rfl
  have hset:((ptL cI aX k l i).map (ao.tw 0)).set i ((ao.tw 0) (cI (kL aX k (l.take i)) l[i]))=(ptL cI aX k l (i+1)).map (ao.tw 0):=by
    rw[<- gn hlt];rw[Ys]
  have hks:=cU (nx:=aX) (k:=k) hlt
  have hrl:((ptL cI aX k l i).map (ao.tw 0)).length=l.length:=by simp[aL,du hi]
  generalize (ptL cI aX k l i).map (ao.tw 0)=rows at hrow hset hrl |-
  generalize kL aX k (l.take i)=q at hq hset hks |-
  generalize l[i]=x at hrow hset hks
  replace hrow:rows[i]?=some [.int .i64 x.at_,.bool x.main]:=hrow
  have hr1:(rows.set i [.int .i64 q,.bool x.main])[i]?=some [.int .i64 q,.bool x.main]:=by rw[ZP (by omega)]
  have hks2:kL aX k (l.take (i+1))=q+1+1:=hks
  repeat' (first|refine W_ ?_|refine bm ?_)
  refine ag (i+1) (by omega) (by omega) (.of _ (cq.envCons rfl (cq.envCons (dl rfl (by rw[hks2])) cq.envNil)) od_ ?_)
  rw[<- hset]
  (try simp only[YG])
  exact .refl _
 ·obtain rfl:i=l.length:=by omega
  rw[eI,Zw]
  repeat' refine W_ ?_
  exact aD x_ rfl () trivial rfl (.cons _ _ _ _ (.nil R)) pk_ (.tmp _ _ rfl) rfl
theorem oX (hst:aC G) (s b:Nat) (l:List az) (ps:List (Pl×Pl)) (hps:ps.length=l.length) (k:Int) (hn:l.length<=1048576/\∀y∈l,az.small 1048576 y) (hk:0<=k/\k<=100000000000000) :
   CtM Tryz.prog G 134 [.ms s b 0 l.length,.int .i64 k] ((s,b,.row 4 (nRg cu l ps))::nOg cS l ps) (fun _:Unit=>True) (fun _=>(s,b,.row 4 (nRg cu (mkL bY bg k l) ps))::nOg cS (mkL bY bg k l) ps) (fun _=>.int .i64 (kL bg k l)):=by
 refine aA Tryz.func134 rfl Tryz.ntmps134 rfl rfl rfl fun w0 R gs objsR hG hR=>?_
 obtain rfl:=hR.eq
 clear hR
 obtain⟨hn,hsm⟩:=hn
 repeat' refine W_ ?_
 apply aj (X:=Nat) [0,1000000] (fun x=>[(5,.int .i64 (x:Int)),(1,.int .i64 (kL bg k (l.take x)))]) (fun x=>(s,b,.row 4 (nRg cu (ptL bY bg k l x) ps))::(nOg cS (ptL bY bg k l x) ps++R)) (fun x=>x<=l.length) (fun x=>l.length - x) 0 (Zd _)
 exact kp_;exact nw_
 ·exact .refl _
 intro i hi
 try dsimp only
 have hq:=ba (k:=k) (i:=i) hn (gx hsm) hi
 by_cases hlt:i<l.length
 ·obtain⟨p,hp⟩:∃p,ps[i]?=some p:=⟨_,Za (by omega)⟩
  have hpl:i<(ptL bY bg k l i).length:=by rw[du hi];exact hlt
  have hrow:=abA cu (ex (mk:=bY) (nx:=bg) (k:=k) hlt) hp
  have hset:=abG cu (l:=ptL bY bg k l i) (x:=bY (kL bg k (l.take i)) l[i]) hp
  have hout:=xW cS (ex (mk:=bY) (nx:=bg) (k:=k) hlt) hp
  have hin:=aeJ cS (x:=bY (kL bg k (l.take i)) l[i]) hpl hp
  rw[gn hlt] at hset hin
  have hks:=cU (nx:=bg) (k:=k) hlt
  have hrl:(nRg cu (ptL bY bg k l i) ps).length=l.length:=by rw[gr _ (by rw[du hi];exact hps),du hi]
  have hb:=hsm _ (Zb hlt)
  generalize ngE cS (ptL bY bg k l i) ps i=E at hout hin
  generalize nOg cS (ptL bY bg k l i) ps=N0 at hout |-
  generalize nRg cu (ptL bY bg k l i) ps=rows at hrow hset hrl |-
  generalize kL bg k (l.take i)=q at hq hset hks hin |-
  generalize l[i]=x at hrow hset hks hout hin hb
  replace hrow:rows[i]?=some [.int .i64 x.kind,.int .i64 x.class_,.ms p.1.1 p.1.2 0 x.fields.length,.ms p.2.1 p.2.2 0 x.numbers.length]:=hrow
  have hr1:(rows.set i [.int .i64 q,.int .i64 x.class_,.ms p.1.1 p.1.2 0 x.fields.length,.ms p.2.1 p.2.2 0 x.numbers.length])[i]?=some [.int .i64 q,.int .i64 x.class_,.ms p.1.1 p.1.2 0 x.fields.length,.ms p.2.1 p.2.2 0 x.numbers.length]:=by rw[ZP (by omega)]
  have hk1:=io (nx:=aG) (l:=x.fields) (k:=q+1+1) (cw _)
  have hf1:=hb.1.1
  have hct1:=fC hst p.1.1 p.1.2 x.fields (q+1+1) hb.1.1 (by omega)
  have hct2:=mE hst p.2.1 p.2.2 x.numbers (kL aG (q+1+1) x.fields) hb.2 (by omega)
  repeat' (first|refine W_ ?_|refine bm ?_)
  refine iL (abQ hout R) ?_
  repeat' (first|refine W_ ?_|((with_reducible apply aB);rfl;kernel_rfl;(repeat (first|exact ay.nil|((with_reducible apply ay.cons);rfl)));exact hG;exact hct1;exact .cons _ _ _ _ (.nil _);intro y hy;refine bF ?_;refine cT (.perm (List.Perm.swap _ _ _)) ?_)|((with_reducible apply aB);rfl;kernel_rfl;(repeat (first|exact ay.nil|((with_reducible apply ay.cons);rfl)));exact hG;exact hct2;exact .cons _ _ _ _ (.nil _);intro y hy;refine bF ?_))
  refine ag (i+1) (by omega) (by omega) (.of _ (cq.envCons rfl (cq.envCons (dl rfl (by rw[hks];rfl)) cq.envNil)) od_ ?_)
  rw[hset]
  simp only[YG]
  have hcl:cu (bY q x) p=[.int .i64 q,.int .i64 (q+1),.ms p.1.1 p.1.2 0 x.fields.length,.ms p.2.1 p.2.2 0 x.numbers.length]:=by
    unfold cu bY
    dsimp only
    rw[cj,cj]
  rw[hcl]
  exact adY hin R
 ·obtain rfl:i=l.length:=by omega
  rw[eI,Zw]
  repeat' refine W_ ?_
  exact aD x_ rfl () trivial rfl (.cons _ _ _ _ (.app _ R)) (.refl _) (.tmp _ _ rfl) rfl
theorem nh (hst:aC G) (s b:Nat) (l:List aq) (ps:List (Pl×Pl×Pl)) (hps:ps.length=l.length) (k:Int) (hn:l.length<=1048576/\∀y∈l,aq.small 1048576 y) (hk:0<=k/\k<=100000000000000) :
   CtM Tryz.prog G 54 [.ms s b 0 l.length,.int .i64 k] ((s,b,.row 14 (nRg cR l ps))::nOg de l ps) (fun _:Unit=>True) (fun _=>(s,b,.row 14 (nRg cR (mkL bE aS k l) ps))::nOg de (mkL bE aS k l) ps) (fun _=>.int .i64 (kL aS k l)):=by
 refine aA Tryz.func54 rfl Tryz.ntmps54 rfl rfl rfl fun w0 R gs objsR hG hR=>?_
 obtain rfl:=hR.eq
 clear hR
 obtain⟨hn,hsm⟩:=hn
 repeat' refine W_ ?_
 apply aj (X:=Nat) [0,1000000] (fun x=>[(5,.int .i64 (x:Int)),(1,.int .i64 (kL aS k (l.take x)))]) (fun x=>(s,b,.row 14 (nRg cR (ptL bE aS k l x) ps))::(nOg de (ptL bE aS k l x) ps++R)) (fun x=>x<=l.length) (fun x=>l.length - x) 0 (Zd _)
 exact kp_;exact nw_
 ·exact .refl _
 intro i hi
 try dsimp only
 have hq:=ba (k:=k) (i:=i) hn (fQ hsm) hi
 by_cases hlt:i<l.length
 ·obtain⟨p,hp⟩:∃p,ps[i]?=some p:=⟨_,Za (by omega)⟩
  have hpl:i<(ptL bE aS k l i).length:=by rw[du hi];exact hlt
  have hrow:=abA cR (ex (mk:=bE) (nx:=aS) (k:=k) hlt) hp
  have hset:=abG cR (l:=ptL bE aS k l i) (x:=bE (kL aS k (l.take i)) l[i]) hp
  have hout:=xW de (ex (mk:=bE) (nx:=aS) (k:=k) hlt) hp
  have hin:=aeJ de (x:=bE (kL aS k (l.take i)) l[i]) hpl hp
  rw[gn hlt] at hset hin
  have hks:=cU (nx:=aS) (k:=k) hlt
  have hrl:(nRg cR (ptL bE aS k l i) ps).length=l.length:=by rw[gr _ (by rw[du hi];exact hps),du hi]
  have hb:=hsm _ (Zb hlt)
  generalize ngE de (ptL bE aS k l i) ps i=E at hout hin
  generalize nOg de (ptL bE aS k l i) ps=N0 at hout |-
  generalize nRg cR (ptL bE aS k l i) ps=rows at hrow hset hrl |-
  generalize kL aS k (l.take i)=q at hq hset hks hin |-
  generalize l[i]=x at hrow hset hks hout hin hb
  replace hrow:rows[i]?=some [.int .i64 x.mark,.int .i64 x.code,.int .i64 x.pc,.int .i64 x.sender,.int .i64 x.outer,.int .i64 x.home,.int .i64 x.self.kind,.int .i64 x.self.number,.str x.self.text,.ms p.1.1 p.1.2 0 x.slots.length,.ms p.2.1.1 p.2.1.2 0 x.stack.length,.ms p.2.2.1 p.2.2.2 0 x.values.length,.int .i64 x.other,.bool x.retry]:=hrow
  have hr1:(rows.set i [.int .i64 q,.int .i64 x.code,.int .i64 x.pc,.int .i64 x.sender,.int .i64 x.outer,.int .i64 x.home,.int .i64 x.self.kind,.int .i64 x.self.number,.str x.self.text,.ms p.1.1 p.1.2 0 x.slots.length,.ms p.2.1.1 p.2.1.2 0 x.stack.length,.ms p.2.2.1 p.2.2.2 0 x.values.length,.int .i64 x.other,.bool x.retry])[i]?=some [.int .i64 q,.int .i64 x.code,.int .i64 x.pc,.int .i64 x.sender,.int .i64 x.outer,.int .i64 x.home,.int .i64 x.self.kind,.int .i64 x.self.number,.str x.self.text,.ms p.1.1 p.1.2 0 x.slots.length,.ms p.2.1.1 p.2.1.2 0 x.stack.length,.ms p.2.2.1 p.2.2.2 0 x.values.length,.int .i64 x.other,.bool x.retry]:=by rw[ZP (by omega)]
  have hk0:k9 q=q+9:=by unfold k9;omega
  have hk1:=io (nx:=aG) (l:=x.slots) (k:=k9 q) (cw _)
  have hk2:=io (nx:=aG) (l:=x.stack) (k:=kL aG (k9 q) x.slots) (cw _)
  have hk3:=io (nx:=aG) (l:=x.values) (k:=kL aG (kL aG (k9 q) x.slots) x.stack) (cw _)
  have hf1:=hb.2.1.1
  have hf2:=hb.2.2.1.1
  have hf3:=hb.2.2.2.1
  have hct1:=fC hst p.1.1 p.1.2 x.slots (k9 q) hf1 (by omega)
  have hct2:=fC hst p.2.1.1 p.2.1.2 x.stack (kL aG (k9 q) x.slots) hf2 (by omega)
  have hct3:=fC hst p.2.2.1 p.2.2.2 x.values (kL aG (kL aG (k9 q) x.slots) x.stack) hf3 (by omega)
  rw[show k9 q=q+1+1+1+1+1+1+1+1+1 from rfl] at hct1
  repeat' (first|refine W_ ?_|refine bm ?_|((with_reducible apply mC);rfl;kernel_rfl;(repeat (first|exact bD.nil|((with_reducible apply bD.cons);rfl;exact .same _)));exact hG;exact hst;exact bZ _ (by omega) (by omega)))
  refine iL (abY hout R) ?_
  repeat' (first|refine W_ ?_|refine bm ?_|((with_reducible apply aB);rfl;kernel_rfl;(repeat (first|exact ay.nil|((with_reducible apply ay.cons);rfl)));exact hG;exact hct1;exact .cons _ _ _ _ (.nil _);intro y hy;refine bF ?_;refine cT (.perm (List.Perm.swap _ _ _)) ?_)|((with_reducible apply aB);rfl;kernel_rfl;(repeat (first|exact ay.nil|((with_reducible apply ay.cons);rfl)));exact hG;exact hct2;exact .cons _ _ _ _ (.nil _);intro y hy;refine bF ?_;refine cT (adq _ _ _ _) ?_)|((with_reducible apply aB);rfl;kernel_rfl;(repeat (first|exact ay.nil|((with_reducible apply ay.cons);rfl)));exact hG;exact hct3;exact .cons _ _ _ _ (.nil _);intro y hy;refine bF ?_))
  refine ag (i+1) (by omega) (by omega) (.of _ (cq.envCons rfl (cq.envCons (dl rfl (by rw[hks];rfl)) cq.envNil)) od_ ?_)
  rw[hset]
  simp only[YG]
  have hcl:cR (bE q x) p=[.int .i64 q,.int .i64 (q+1),.int .i64 (q+1+1),.int .i64 (q+1+1+1),.int .i64 (q+1+1+1+1),.int .i64 (q+1+1+1+1+1),.int .i64 (q+1+1+1+1+1+1),.int .i64 (q+1+1+1+1+1+1+1),.str (dU (q+1+1+1+1+1+1+1+1)),.ms p.1.1 p.1.2 0 x.slots.length,.ms p.2.1.1 p.2.1.2 0 x.stack.length,.ms p.2.2.1 p.2.2.2 0 x.values.length,.int .i64 (kL aG (kL aG (kL aG (k9 q) x.slots) x.stack) x.values),.bool (decide ((kL aG (kL aG (kL aG (k9 q) x.slots) x.stack) x.values+1).tmod 3=0))]:=by
    unfold cR bE
    dsimp only
    rw[cj,cj,cj]
  rw[hcl]
  exact aen hin R
 ·obtain rfl:i=l.length:=by omega
  rw[eI,Zw]
  repeat' refine W_ ?_
  exact aD x_ rfl () trivial rfl (.cons _ _ _ _ (.app _ R)) (.refl _) (.tmp _ _ rfl) rfl
end
theorem ad4 (X Y Z D R:aJ):bW (D++(X++(Y++(Z++R)))) (X++(Y++(Z++(D++R)))):=by
 simpa using afp [X,Y,Z] [R] D
theorem adB (W X Y Z D R:aJ):bW (D++(W++(X++(Y++(Z++R))))) (W++(X++(Y++(Z++(D++R))))):=by
 simpa using afp [W,X,Y,Z] [R] D
theorem adI (V W X Y Z D R:aJ):bW (D++(V++(W++(X++(Y++(Z++R)))))) (V++(W++(X++(Y++(Z++(D++R)))))):=by
 simpa using afp [V,W,X,Y,Z] [R] D
theorem ad8 (A B C D E F R:aJ):bW (A++(B++(C++(D++(E++(F++R)))))) (F++(E++(D++(C++(A++(B++R)))))):=.perm (by
 have h1:[F,E,D,C,B,A].Perm [A,B,C,D,E,F]:=(List.reverse_perm [A,B,C,D,E,F])
 have h2:[F,E,D,C,A,B].Perm [F,E,D,C,B,A]:=((((List.Perm.swap B A []).cons C).cons D).cons E).cons F
 have h3:=(lx (h2.trans h1)).append_right R
 simpa [Zh] using h3.symm)
def fT (k:Int) (x:aR):aR:=⟨mkL bj aE k x.classes,mkL bY bg (kL aE k x.classes) x.objects,mkL cP aZ (kL bg (kL aE k x.classes) x.objects) x.output,x.ticks,x.budget,x.made⟩
def dG (k:Int) (x:aR):Int:=kL aZ (kL bg (kL aE k x.classes) x.objects) x.output
theorem lU {x:aR} (hb:x.small 1048576) (k:Int):k<=dG k x/\dG k x<=k+6000000000000:=by
 have h1:=ba (k:=k) (i:=x.classes.length) hb.1.1 (cF hb.1.2) (Zf _)
 have h2:=ba (k:=kL aE k x.classes) (i:=x.objects.length) hb.2.1.1 (gx hb.2.1.2) (Zf _)
 have h3:=ba (k:=kL bg (kL aE k x.classes) x.objects) (i:=x.output.length) hb.2.2.1 (fq x.output) (Zf _)
 rw[Zw] at h1 h2 h3
 unfold dG
 omega
section
variable {G:World->Prop}
theorem rD (hst:aC G) (x:aR) (y:StP) (hy:stI x y) (hb:x.small 1048576) (k:Int) (hk:0<=k/\k<=60000000000000) :
   CtM Tryz.prog G 52 [.agg (stC x y),.int .i64 k] (stO x y) (fun _:Unit=>True) (fun _=>stO (fT k x) y) (fun _=>.int .i64 (dG k x)):=by
 refine aA Tryz.func52 rfl Tryz.ntmps52 rfl rfl rfl fun w0 R gs objsR hG hR=>?_
 obtain rfl:=hR.eq
 clear hR
 have h1:=ba (k:=k) (i:=x.classes.length) hb.1.1 (cF hb.1.2) (Zf _)
 have h2:=ba (k:=kL aE k x.classes) (i:=x.objects.length) hb.2.1.1 (gx hb.2.1.2) (Zf _)
 rw[Zw] at h1 h2
 have c1:=gL hst y.1.1.1 y.1.1.2 x.classes y.1.2 hy.1 k hb.1 (by omega)
 have c2:=oX hst y.2.1.1.1 y.2.1.1.2 x.objects y.2.1.2 hy.2 (kL aE k x.classes) hb.2.1 (by omega)
 have c3:=ja hst y.2.2.1 y.2.2.2 x.output (kL bg (kL aE k x.classes) x.objects) hb.2.2.1 (by omega)
 have e0:stO x y++R=pV x.classes y.1++(ado x.objects y.2.1++([(y.2.2.1,y.2.2.2,.row 1 (bQ x.output))]++R)):=by unfold stO;simp[Zh]
 have e1:stO (fT k x) y++R=pV (fT k x).classes y.1++(ado (fT k x).objects y.2.1++([(y.2.2.1,y.2.2.2,.row 1 (bQ (fT k x).output))]++R)):=by unfold stO;simp[Zh]
 rw[e0]
 generalize hz1:[(y.2.2.1,y.2.2.2,aW.row 1 (bQ x.output))]=z1 at c3 |-
 unfold stC
 repeat' (first|refine W_ ?_|refine aN ?_|((with_reducible apply aB);rfl;kernel_rfl;(repeat (first|exact ay.nil|((with_reducible apply ay.cons);rfl)));exact hG;exact c1;exact .app _ _;intro z hz;refine cT (sA _ _ _) ?_)|((with_reducible apply aB);rfl;kernel_rfl;(repeat (first|exact ay.nil|((with_reducible apply ay.cons);rfl)));exact hG;exact c2;exact .app _ _;intro z hz;refine cT (rX _ _ _ _) ?_)|((with_reducible apply aB);rfl;kernel_rfl;(repeat (first|exact ay.nil|((with_reducible apply ay.cons);rfl)));exact hG;exact c3;exact .app _ _;intro z hz))
 refine aD x_ rfl () trivial rfl (.app _ R) ?_ (.tmp _ _ rfl) rfl
 rw[e1]
 exact rc _ _ _ R
def fR (k:Int) (x:ah):ah:=⟨cV k x.base,fT (bs k x.base) x.store,
 mkL cN aQ (dG (bs k x.base) x.store) x.blocks,
 mkL bE aS (kL aQ (dG (bs k x.base) x.store) x.blocks) x.contexts,
 mkL cI aX (kL aS (kL aQ (dG (bs k x.base) x.store) x.blocks) x.contexts) x.processes,
 mkL jt dK (kL aX (kL aS (kL aQ (dG (bs k x.base) x.store) x.blocks) x.contexts) x.processes) x.ready,
 x.now,x.status,x.value,x.fault⟩
def jc (k:Int) (x:ah):Int:=kL dK (kL aX (kL aS (kL aQ (dG (bs k x.base) x.store) x.blocks) x.contexts) x.processes) x.ready
theorem qR {x:ah} (hb:x.small 1048576) (k:Int):k<=jc k x/\jc k x<=k+30000000000000:=by
 have h1:=iw hb.1 k
 have h2:=lU hb.2.1 (bs k x.base)
 unfold jc
 generalize dG (bs k x.base) x.store=q2 at h2 |-
 have h3:=ba (k:=q2) (i:=x.blocks.length) hb.2.2.1.1 (fF x.blocks) (Zf _)
 rw[Zw] at h3
 generalize kL aQ q2 x.blocks=q3 at h3 |-
 have h4:=ba (k:=q3) (i:=x.contexts.length) hb.2.2.2.1.1 (fQ hb.2.2.2.1.2) (Zf _)
 rw[Zw] at h4
 generalize kL aS q3 x.contexts=q4 at h4 |-
 have h5:=ba (k:=q4) (i:=x.processes.length) hb.2.2.2.2.1.1 (fO x.processes) (Zf _)
 rw[Zw] at h5
 generalize kL aX q4 x.processes=q5 at h5 |-
 have h6:=ba (k:=q5) (i:=x.ready.length) hb.2.2.2.2.2.1 (jL x.ready) (Zf _)
 rw[Zw] at h6
 omega
theorem lw (hst:aC G) (x:ah) (y:jm) (hy:imI x y) (hb:x.small 1048576) (k:Int) (hk:0<=k/\k<=50000000000000) :
   CtM Tryz.prog G 13 [.agg (imC x y),.int .i64 k] (imO x y) (fun _:Unit=>True) (fun _=>imO (fR k x) y) (fun _=>.int .i64 (jc k x)):=by
 refine aA Tryz.func13 rfl Tryz.ntmps13 rfl rfl rfl fun w0 R gs objsR hG hR=>?_
 obtain rfl:=hR.eq
 clear hR
 have h1:=iw hb.1 k
 have h2:=lU hb.2.1 (bs k x.base)
 have hm:imO (fR k x) y=cbO (cV k x.base) y.1++(stO (fT (bs k x.base) x.store) y.2.1++([(y.2.2.1.1,y.2.2.1.2,.row 6 ((mkL cN aQ (dG (bs k x.base) x.store) x.blocks).map (ap.tw 0)))]++(acX (mkL bE aS (kL aQ (dG (bs k x.base) x.store) x.blocks) x.contexts) y.2.2.2.1++([(y.2.2.2.2.1.1,y.2.2.2.2.1.2,.row 2 ((mkL cI aX (kL aS (kL aQ (dG (bs k x.base) x.store) x.blocks) x.contexts) x.processes).map (ao.tw 0)))]++[(y.2.2.2.2.2.1,y.2.2.2.2.2.2,.row 1 (aL (mkL jt dK (kL aX (kL aS (kL aQ (dG (bs k x.base) x.store) x.blocks) x.contexts) x.processes) x.ready)))])))):=rfl
 rw[hm]
 unfold jc
 have c1:=nl hst x.base y.1 hy.1 hb.1 k (by omega)
 have c2:=rD hst x.store y.2.1 hy.2.1 hb.2.1 (bs k x.base) (by omega)
 generalize dG (bs k x.base) x.store=q2 at h2 c2 |-
 have h3:=ba (k:=q2) (i:=x.blocks.length) hb.2.2.1.1 (fF x.blocks) (Zf _)
 rw[Zw] at h3
 have c3:=nk hst y.2.2.1.1 y.2.2.1.2 x.blocks q2 hb.2.2.1.1 (by omega)
 generalize kL aQ q2 x.blocks=q3 at h3 c3 |-
 have h4:=ba (k:=q3) (i:=x.contexts.length) hb.2.2.2.1.1 (fQ hb.2.2.2.1.2) (Zf _)
 rw[Zw] at h4
 have c4:=nh hst y.2.2.2.1.1.1 y.2.2.2.1.1.2 x.contexts y.2.2.2.1.2 hy.2.2 q3 hb.2.2.2.1 (by omega)
 generalize kL aS q3 x.contexts=q4 at h4 c4 |-
 have h5:=ba (k:=q4) (i:=x.processes.length) hb.2.2.2.2.1.1 (fO x.processes) (Zf _)
 rw[Zw] at h5
 have c5:=ny hst y.2.2.2.2.1.1 y.2.2.2.2.1.2 x.processes q4 hb.2.2.2.2.1.1 (by omega)
 generalize kL aX q4 x.processes=q5 at h5 c5 |-
 have c6:=mE hst y.2.2.2.2.2.1 y.2.2.2.2.2.2 x.ready q5 hb.2.2.2.2.2.1 (by omega)
 have e0:imO x y++R=cbO x.base y.1++(stO x.store y.2.1++([(y.2.2.1.1,y.2.2.1.2,.row 6 (x.blocks.map (ap.tw 0)))]++(acX x.contexts y.2.2.2.1++([(y.2.2.2.2.1.1,y.2.2.2.2.1.2,.row 2 (x.processes.map (ao.tw 0)))]++([(y.2.2.2.2.2.1,y.2.2.2.2.2.2,.row 1 (aL x.ready))]++R))))):=by unfold imO;simp only[Zh]
 rw[e0]
 replace c4:CtM Tryz.prog G 54 _ (acX x.contexts y.2.2.2.1) _ (fun _=>acX (mkL bE aS q3 x.contexts) y.2.2.2.1) _:=c4
 clear hm e0
 generalize [(y.2.2.1.1,y.2.2.1.2,aW.row 6 (x.blocks.map (ap.tw 0)))]=z1 at c3 |-
 generalize [(y.2.2.2.2.1.1,y.2.2.2.2.1.2,aW.row 2 (x.processes.map (ao.tw 0)))]=z2 at c5 |-
 generalize [(y.2.2.2.2.2.1,y.2.2.2.2.2.2,aW.row 1 (aL x.ready))]=z3 at c6 |-
 unfold cbC at c1
 unfold stC at c2
 unfold imC
 repeat' (first|refine W_ ?_|refine aN ?_|((with_reducible apply aB);rfl;kernel_rfl;(repeat (first|exact ay.nil|((with_reducible apply ay.cons);rfl)));exact hG;exact c1;exact .app _ _;intro z hz;refine cT (sA _ _ _) ?_)|((with_reducible apply aB);rfl;kernel_rfl;(repeat (first|exact ay.nil|((with_reducible apply ay.cons);rfl)));exact hG;exact c2;exact .app _ _;intro z hz;refine cT (rX _ _ _ _) ?_)|((with_reducible apply aB);rfl;kernel_rfl;(repeat (first|exact ay.nil|((with_reducible apply ay.cons);rfl)));exact hG;exact c3;exact .app _ _;intro z hz;refine cT (ad4 _ _ _ _ _) ?_)|((with_reducible apply aB);rfl;kernel_rfl;(repeat (first|exact ay.nil|((with_reducible apply ay.cons);rfl)));exact hG;exact c4;exact .app _ _;intro z hz;refine cT (adB _ _ _ _ _ _) ?_)|((with_reducible apply aB);rfl;kernel_rfl;(repeat (first|exact ay.nil|((with_reducible apply ay.cons);rfl)));exact hG;exact c5;exact .app _ _;intro z hz;refine cT (adI _ _ _ _ _ _ _) ?_)|((with_reducible apply aB);rfl;kernel_rfl;(repeat (first|exact ay.nil|((with_reducible apply ay.cons);rfl)));exact hG;exact c6;exact .app _ _;intro z hz))
 refine aD x_ rfl () trivial rfl (.app _ R) ?_ (.tmp _ _ rfl) rfl
 simp only[Zh]
 exact ad8 _ _ _ _ _ _ R
end
section
variable {G:World->Prop}
theorem q8 (hst:aC G) (lo:Nat) (l:List Int) (k:Int) (hn:l.length<=1048576) (hk:0<=k/\k<=1000000000000000):Ct Tryz.prog G 80 [.sl lo 1 (aL (mkL jt dK k l)),.int .i64 k] (fun _=>.int .i64 (kL dK k l)):=by
 refine au Tryz.func80 rfl Tryz.ntmps80 rfl rfl fun w0 _ hG=>?_
 have hrl:(aL (mkL jt dK k l)).length=l.length:=by simp[aL,cj]
 have hget:=fun i (h:i<l.length)=>gC (mk:=jt) (nx:=dK) (k:=k) h
 have hgr:∀i (h:i<l.length),(aL (mkL jt dK k l))[i]?=some [.int .i64 (kL dK k (l.take i))]:=fun i h=>by
   simp only[aL,Zp,hget i h];rfl
 generalize aL (mkL jt dK k l)=rows at hrl hgr |-
 repeat' refine W_ ?_
 apply aj (X:=Nat) [0] (fun x=>[(5,.int .i64 (x:Int)),(1,.int .i64 (kL dK k (l.take x)))]) (fun _=>[]) (fun x=>x<=l.length) (fun x=>l.length - x) 0 (Zd _)
 exact kp_;exact nw_
 ·exact .refl _
 intro i hi
 try dsimp only
 have hq:=ba (k:=k) (i:=i) hn (jL l) hi
 by_cases hlt:i<l.length
 ·have hrow:=hgr i hlt
  have hks:kL dK k (l.take (i+1))=kL dK k (l.take i)+1:=cU hlt
  generalize kL dK k (l.take i)=q at hq hrow hks |-
  have hi0:¬ (q)≠(q):=fun h=>h rfl
  repeat' refine V_ ?_
  all_goals first
    | exact ag (i+1) (by omega) (by omega) (.of _ (cq.envCons rfl (cq.envCons (dl rfl (by rw[hks])) cq.envNil)) od_ pk_)
    | (exfalso;simp_all;done)
 ·obtain rfl:i=l.length:=by omega
  rw[Zw]
  repeat' refine W_ ?_
  exact r1_
theorem gM (hst:aC G) (lo:Nat) (l:List ab) (k:Int) (hn:l.length<=1048576) (hk:0<=k/\k<=1000000000000000):Ct Tryz.prog G 164 [.sl lo 3 ((mkL da aG k l).map (ab.tw lo)),.int .i64 k] (fun _=>.int .i64 (kL aG k l)):=by
 refine au Tryz.func164 rfl Tryz.ntmps164 rfl rfl fun w0 _ hG=>?_
 have hrl:((mkL da aG k l).map (ab.tw lo)).length=l.length:=by simp[aL,cj]
 have hget:=fun i (h:i<l.length)=>gC (mk:=da) (nx:=aG) (k:=k) h
 have hgr:∀i (h:i<l.length),((mkL da aG k l).map (ab.tw lo))[i]?=some [.int .i64 (kL aG k (l.take i)),.int .i64 (kL aG k (l.take i)+1),.str (dU (kL aG k (l.take i)+1+1))]:=fun i h=>by
   simp only[aL,Zp,hget i h];rfl
 generalize (mkL da aG k l).map (ab.tw lo)=rows at hrl hgr |-
 repeat' refine W_ ?_
 apply aj (X:=Nat) [0] (fun x=>[(5,.int .i64 (x:Int)),(1,.int .i64 (kL aG k (l.take x)))]) (fun _=>[]) (fun x=>x<=l.length) (fun x=>l.length - x) 0 (Zd _)
 exact kp_;exact nw_
 ·exact .refl _
 intro i hi
 try dsimp only
 have hq:=ba (k:=k) (i:=i) hn (cw l) hi
 by_cases hlt:i<l.length
 ·have hrow:=hgr i hlt
  have hks:kL aG k (l.take (i+1))=kL aG k (l.take i)+1+1+1:=cU hlt
  generalize kL aG k (l.take i)=q at hq hrow hks |-
  have hi0:¬ (q)≠(q):=fun h=>h rfl
  have hi1:¬ (q+1)≠(q+1):=fun h=>h rfl
  have hs2:¬ dU (q+1+1)≠dU (q+1+1):=fun h=>h rfl
  have hm2:=bZ (G:=G) (q+1+1) (by omega) (by omega)
  repeat' (first|refine V_ ?_|refine ai hG hst (hm2) ?_)
  all_goals first
    | exact ag (i+1) (by omega) (by omega) (.of _ (cq.envCons rfl (cq.envCons (dl rfl (by rw[hks])) cq.envNil)) od_ pk_)
    | (exfalso;simp_all;done)
 ·obtain rfl:i=l.length:=by omega
  rw[Zw]
  repeat' refine W_ ?_
  exact r1_
theorem qk (hst:aC G) (lo:Nat) (l:List ap) (k:Int) (hn:l.length<=1048576) (hk:0<=k/\k<=1000000000000000):Ct Tryz.prog G 77 [.sl lo 6 ((mkL cN aQ k l).map (ap.tw lo)),.int .i64 k] (fun _=>.int .i64 (kL aQ k l)):=by
 refine au Tryz.func77 rfl Tryz.ntmps77 rfl rfl fun w0 _ hG=>?_
 have hrl:((mkL cN aQ k l).map (ap.tw lo)).length=l.length:=by simp[aL,cj]
 have hget:=fun i (h:i<l.length)=>gC (mk:=cN) (nx:=aQ) (k:=k) h
 have hgr:∀i (h:i<l.length),((mkL cN aQ k l).map (ap.tw lo))[i]?=some [.int .i64 (kL aQ k (l.take i)),.int .i64 (kL aQ k (l.take i)+1),.int .i64 (kL aQ k (l.take i)+1+1),.int .i64 (kL aQ k (l.take i)+1+1+1),.int .i64 (kL aQ k (l.take i)+1+1+1+1),.str (dU (kL aQ k (l.take i)+1+1+1+1+1))]:=fun i h=>by
   simp only[aL,Zp,hget i h];rfl
 generalize (mkL cN aQ k l).map (ap.tw lo)=rows at hrl hgr |-
 repeat' refine W_ ?_
 apply aj (X:=Nat) [0] (fun x=>[(5,.int .i64 (x:Int)),(1,.int .i64 (kL aQ k (l.take x)))]) (fun _=>[]) (fun x=>x<=l.length) (fun x=>l.length - x) 0 (Zd _)
 exact kp_;exact nw_
 ·exact .refl _
 intro i hi
 try dsimp only
 have hq:=ba (k:=k) (i:=i) hn (fF l) hi
 by_cases hlt:i<l.length
 ·have hrow:=hgr i hlt
  have hks:kL aQ k (l.take (i+1))=kL aQ k (l.take i)+1+1+1+1+1+1:=cU hlt
  generalize kL aQ k (l.take i)=q at hq hrow hks |-
  have hi0:¬ (q)≠(q):=fun h=>h rfl
  have hi1:¬ (q+1)≠(q+1):=fun h=>h rfl
  have hi2:¬ (q+1+1)≠(q+1+1):=fun h=>h rfl
  have hi3:¬ (q+1+1+1)≠(q+1+1+1):=fun h=>h rfl
  have hi4:¬ (q+1+1+1+1)≠(q+1+1+1+1):=fun h=>h rfl
  have hs5:¬ dU (q+1+1+1+1+1)≠dU (q+1+1+1+1+1):=fun h=>h rfl
  have hm5:=bZ (G:=G) (q+1+1+1+1+1) (by omega) (by omega)
  repeat' (first|refine V_ ?_|refine ai hG hst (hm5) ?_)
  all_goals first
    | exact ag (i+1) (by omega) (by omega) (.of _ (cq.envCons rfl (cq.envCons (dl rfl (by rw[hks])) cq.envNil)) od_ pk_)
    | (exfalso;simp_all;done)
 ·obtain rfl:i=l.length:=by omega
  rw[Zw]
  repeat' refine W_ ?_
  exact r1_
theorem qv (hst:aC G) (lo:Nat) (l:List ao) (k:Int) (hn:l.length<=1048576) (hk:0<=k/\k<=1000000000000000):Ct Tryz.prog G 79 [.sl lo 2 ((mkL cI aX k l).map (ao.tw lo)),.int .i64 k] (fun _=>.int .i64 (kL aX k l)):=by
 refine au Tryz.func79 rfl Tryz.ntmps79 rfl rfl fun w0 _ hG=>?_
 have hrl:((mkL cI aX k l).map (ao.tw lo)).length=l.length:=by simp[aL,cj]
 have hget:=fun i (h:i<l.length)=>gC (mk:=cI) (nx:=aX) (k:=k) h
 have hgr:∀i (h:i<l.length),((mkL cI aX k l).map (ao.tw lo))[i]?=some [.int .i64 (kL aX k (l.take i)),.bool (decide ((kL aX k (l.take i)+1).tmod 3=0))]:=fun i h=>by
   simp only[aL,Zp,hget i h];rfl
 generalize (mkL cI aX k l).map (ao.tw lo)=rows at hrl hgr |-
 repeat' refine W_ ?_
 apply aj (X:=Nat) [0] (fun x=>[(5,.int .i64 (x:Int)),(1,.int .i64 (kL aX k (l.take x)))]) (fun _=>[]) (fun x=>x<=l.length) (fun x=>l.length - x) 0 (Zd _)
 exact kp_;exact nw_
 ·exact .refl _
 intro i hi
 try dsimp only
 have hq:=ba (k:=k) (i:=i) hn (fO l) hi
 by_cases hlt:i<l.length
 ·have hrow:=hgr i hlt
  have hks:kL aX k (l.take (i+1))=kL aX k (l.take i)+1+1:=cU hlt
  generalize kL aX k (l.take i)=q at hq hrow hks |-
  have hi0:¬ (q)≠(q):=fun h=>h rfl
  have hb1:(decide ((q+1).tmod 3=0) != decide ((q+1).tmod 3=0))=false:=by simp
  repeat' (first|refine V_ ?_|refine c_ (fun hc=>?_) (fun hc=>?_))
  all_goals first
    | exact ag (i+1) (by omega) (by omega) (.of _ (cq.envCons rfl (cq.envCons (dl rfl (by rw[hks])) cq.envNil)) od_ pk_)
    | (exfalso;simp_all;done)
 ·obtain rfl:i=l.length:=by omega
  rw[Zw]
  repeat' refine W_ ?_
  exact r1_
theorem rF (hst:aC G) (lo:Nat) (l:List az) (k:Int) (hn:l.length<=1048576/\∀y∈l,az.small 1048576 y) (hk:0<=k/\k<=100000000000000):Ct Tryz.prog G 163 [.sl lo 4 ((mkL bY bg k l).map (az.tw lo)),.int .i64 k] (fun _=>.int .i64 (kL bg k l)):=by
 refine au Tryz.func163 rfl Tryz.ntmps163 rfl rfl fun w0 _ hG=>?_
 obtain⟨hn,hsm⟩:=hn
 have hrl:((mkL bY bg k l).map (az.tw lo)).length=l.length:=by simp[cj]
 have hgr:∀i (h:i<l.length),((mkL bY bg k l).map (az.tw lo))[i]?=some ((bY (kL bg k (l.take i)) l[i]).tw lo):=fun i h=>by
   simp only[Zp,gC (mk:=bY) (nx:=bg) (k:=k) h];rfl
 generalize (mkL bY bg k l).map (az.tw lo)=rows at hrl hgr |-
 repeat' refine W_ ?_
 apply aj (X:=Nat) [0] (fun x=>[(5,.int .i64 (x:Int)),(1,.int .i64 (kL bg k (l.take x)))]) (fun _=>[]) (fun x=>x<=l.length) (fun x=>l.length - x) 0 (Zd _)
 exact kp_;exact nw_
 ·exact .refl _
 intro i hi
 try dsimp only
 have hq:=ba (k:=k) (i:=i) hn (gx hsm) hi
 by_cases hlt:i<l.length
 ·have hrow:=hgr i hlt
  have hks:=cU (nx:=bg) (k:=k) hlt
  have hb:=hsm _ (Zb hlt)
  generalize kL bg k (l.take i)=q at hq hrow hks |-
  generalize l[i]=x at hrow hks hb
  replace hrow:rows[i]?=some [.int .i64 (q),.int .i64 (q+1),.sl lo 3 ((mkL da aG (q+1+1) x.fields).map (ab.tw lo)),.sl lo 1 (aL (mkL jt dK (kL aG (q+1+1) x.fields) x.numbers))]:=hrow
  have hln0:x.fields.length<=1048576:=hb.1.1
  have hinr0:=io (nx:=aG) (l:=x.fields) (k:=q+1+1) (cw _)
  have hin0:=gM hst lo x.fields (q+1+1) hb.1.1 (by omega)
  have hln1:x.numbers.length<=1048576:=hb.2
  have hinr1:=io (nx:=dK) (l:=x.numbers) (k:=kL aG (q+1+1) x.fields) (jL _)
  have hin1:=q8 hst lo x.numbers (kL aG (q+1+1) x.fields) hb.2 (by omega)
  have hks2:kL bg k (l.take (i+1))=kL dK (kL aG (q+1+1) x.fields) x.numbers:=hks
  have hi0:¬ (q)≠(q):=fun h=>h rfl
  have hi1:¬ (q+1)≠(q+1):=fun h=>h rfl
  repeat' (first|refine V_ ?_|refine ad hG hst (hin0) ?_|refine ad hG hst (hin1) ?_)
  all_goals first
    | exact ag (i+1) (by omega) (by omega) (.of _ (cq.envCons rfl (cq.envCons (dl rfl (by rw[hks2])) cq.envNil)) od_ pk_)
    | (exfalso;simp_all;done)
    | (exfalso;omega)
 ·obtain rfl:i=l.length:=by omega
  rw[Zw]
  repeat' refine W_ ?_
  exact r1_
theorem pX (hst:aC G) (lo:Nat) (l:List aq) (k:Int) (hn:l.length<=1048576/\∀y∈l,aq.small 1048576 y) (hk:0<=k/\k<=100000000000000):Ct Tryz.prog G 78 [.sl lo 14 ((mkL bE aS k l).map (aq.tw lo)),.int .i64 k] (fun _=>.int .i64 (kL aS k l)):=by
 refine au Tryz.func78 rfl Tryz.ntmps78 rfl rfl fun w0 _ hG=>?_
 obtain⟨hn,hsm⟩:=hn
 have hrl:((mkL bE aS k l).map (aq.tw lo)).length=l.length:=by simp[cj]
 have hgr:∀i (h:i<l.length),((mkL bE aS k l).map (aq.tw lo))[i]?=some ((bE (kL aS k (l.take i)) l[i]).tw lo):=fun i h=>by
   simp only[Zp,gC (mk:=bE) (nx:=aS) (k:=k) h];rfl
 generalize (mkL bE aS k l).map (aq.tw lo)=rows at hrl hgr |-
 repeat' refine W_ ?_
 apply aj (X:=Nat) [0] (fun x=>[(5,.int .i64 (x:Int)),(1,.int .i64 (kL aS k (l.take x)))]) (fun _=>[]) (fun x=>x<=l.length) (fun x=>l.length - x) 0 (Zd _)
 exact kp_;exact nw_
 ·exact .refl _
 intro i hi
 try dsimp only
 have hq:=ba (k:=k) (i:=i) hn (fQ hsm) hi
 by_cases hlt:i<l.length
 ·have hrow:=hgr i hlt
  have hks:=cU (nx:=aS) (k:=k) hlt
  have hb:=hsm _ (Zb hlt)
  generalize kL aS k (l.take i)=q at hq hrow hks |-
  generalize l[i]=x at hrow hks hb
  replace hrow:rows[i]?=some [.int .i64 (q),.int .i64 (q+1),.int .i64 (q+1+1),.int .i64 (q+1+1+1),.int .i64 (q+1+1+1+1),.int .i64 (q+1+1+1+1+1),.int .i64 (q+1+1+1+1+1+1),.int .i64 (q+1+1+1+1+1+1+1),.str (dU (q+1+1+1+1+1+1+1+1)),.sl lo 3 ((mkL da aG (q+1+1+1+1+1+1+1+1+1) x.slots).map (ab.tw lo)),.sl lo 3 ((mkL da aG (kL aG (q+1+1+1+1+1+1+1+1+1) x.slots) x.stack).map (ab.tw lo)),.sl lo 3 ((mkL da aG (kL aG (kL aG (q+1+1+1+1+1+1+1+1+1) x.slots) x.stack) x.values).map (ab.tw lo)),.int .i64 (kL aG (kL aG (kL aG (q+1+1+1+1+1+1+1+1+1) x.slots) x.stack) x.values),.bool (decide ((kL aG (kL aG (kL aG (q+1+1+1+1+1+1+1+1+1) x.slots) x.stack) x.values+1).tmod 3=0))]:=hrow
  have hln0:x.slots.length<=1048576:=hb.2.1.1
  have hinr0:=io (nx:=aG) (l:=x.slots) (k:=q+1+1+1+1+1+1+1+1+1) (cw _)
  have hin0:=gM hst lo x.slots (q+1+1+1+1+1+1+1+1+1) hb.2.1.1 (by omega)
  have hln1:x.stack.length<=1048576:=hb.2.2.1.1
  have hinr1:=io (nx:=aG) (l:=x.stack) (k:=kL aG (q+1+1+1+1+1+1+1+1+1) x.slots) (cw _)
  have hin1:=gM hst lo x.stack (kL aG (q+1+1+1+1+1+1+1+1+1) x.slots) hb.2.2.1.1 (by omega)
  have hln2:x.values.length<=1048576:=hb.2.2.2.1
  have hinr2:=io (nx:=aG) (l:=x.values) (k:=kL aG (kL aG (q+1+1+1+1+1+1+1+1+1) x.slots) x.stack) (cw _)
  have hin2:=gM hst lo x.values (kL aG (kL aG (q+1+1+1+1+1+1+1+1+1) x.slots) x.stack) hb.2.2.2.1 (by omega)
  have hi20:¬ (kL aG (kL aG (kL aG (q+1+1+1+1+1+1+1+1+1) x.slots) x.stack) x.values)≠(kL aG (kL aG (kL aG (q+1+1+1+1+1+1+1+1+1) x.slots) x.stack) x.values):=fun h=>h rfl
  have hb21:(decide ((kL aG (kL aG (kL aG (q+1+1+1+1+1+1+1+1+1) x.slots) x.stack) x.values+1).tmod 3=0) != decide ((kL aG (kL aG (kL aG (q+1+1+1+1+1+1+1+1+1) x.slots) x.stack) x.values+1).tmod 3=0))=false:=by simp
  have hks2:kL aS k (l.take (i+1))=kL aG (kL aG (kL aG (q+1+1+1+1+1+1+1+1+1) x.slots) x.stack) x.values+1+1:=hks
  have hi0:¬ (q)≠(q):=fun h=>h rfl
  have hi1:¬ (q+1)≠(q+1):=fun h=>h rfl
  have hi2:¬ (q+1+1)≠(q+1+1):=fun h=>h rfl
  have hi3:¬ (q+1+1+1)≠(q+1+1+1):=fun h=>h rfl
  have hi4:¬ (q+1+1+1+1)≠(q+1+1+1+1):=fun h=>h rfl
  have hi5:¬ (q+1+1+1+1+1)≠(q+1+1+1+1+1):=fun h=>h rfl
  have hi6:¬ (q+1+1+1+1+1+1)≠(q+1+1+1+1+1+1):=fun h=>h rfl
  have hi7:¬ (q+1+1+1+1+1+1+1)≠(q+1+1+1+1+1+1+1):=fun h=>h rfl
  have hs8:¬ dU (q+1+1+1+1+1+1+1+1)≠dU (q+1+1+1+1+1+1+1+1):=fun h=>h rfl
  have hm8:=bZ (G:=G) (q+1+1+1+1+1+1+1+1) (by omega) (by omega)
  repeat' (first|refine V_ ?_|refine ad hG hst (hin0) ?_|refine ad hG hst (hin1) ?_|refine ad hG hst (hin2) ?_|refine ai hG hst (hm8) ?_|refine c_ (fun hc=>?_) (fun hc=>?_))
  all_goals first
    | exact ag (i+1) (by omega) (by omega) (.of _ (cq.envCons rfl (cq.envCons (dl rfl (by rw[hks2])) cq.envNil)) od_ pk_)
    | (exfalso;simp_all;done)
    | (exfalso;omega)
 ·obtain rfl:i=l.length:=by omega
  rw[Zw]
  repeat' refine W_ ?_
  exact r1_
theorem xV (hst:aC G) (lo:Nat) (x:aR) (hb:x.small 1048576) (k:Int) (hk:0<=k/\k<=60000000000000):Ct Tryz.prog G 76 [.agg ((fT k x).tw lo),.int .i64 k] (fun _=>.int .i64 (dG k x)):=by
 refine au Tryz.func76 rfl Tryz.ntmps76 rfl rfl fun w0 _ hG=>?_
 have h1:=ba (k:=k) (i:=x.classes.length) hb.1.1 (cF hb.1.2) (Zf _)
 have h2:=ba (k:=kL aE k x.classes) (i:=x.objects.length) hb.2.1.1 (gx hb.2.1.2) (Zf _)
 have h3:=ba (k:=kL bg (kL aE k x.classes) x.objects) (i:=x.output.length) hb.2.2.1 (fq x.output) (Zf _)
 rw[Zw] at h1 h2 h3
 have c1:=i6 hst lo x.classes k hb.1 (by omega)
 have c2:=rF hst lo x.objects (kL aE k x.classes) hb.2.1 (by omega)
 have c3:=lC hst lo x.output (kL bg (kL aE k x.classes) x.objects) hb.2.2.1 (by omega)
 unfold aR.tw fT dG
 dsimp only
 repeat' (first|refine W_ ?_|refine aN ?_|refine ad hG hst (c1) ?_|refine ad hG hst (c2) ?_|refine ad hG hst (c3) ?_)
 exact r1_
theorem xP (hst:aC G) (lo:Nat) (x:ah) (hb:x.small 1048576) (k:Int) (hk:0<=k/\k<=50000000000000):Ct Tryz.prog G 25 [.agg ((fR k x).tw lo),.int .i64 k] (fun _=>.int .i64 (jc k x)):=by
 refine au Tryz.func25 rfl Tryz.ntmps25 rfl rfl fun w0 _ hG=>?_
 have h1:=iw hb.1 k
 have h2:=lU hb.2.1 (bs k x.base)
 have c1:=qs hst lo x.base hb.1 k (by omega)
 have c2:=xV hst lo x.store hb.2.1 (bs k x.base) (by omega)
 unfold jc ah.tw fR
 dsimp only
 generalize cV k x.base=u1 at c1 |-
 generalize fT (bs k x.base) x.store=u2 at c2 |-
 generalize dG (bs k x.base) x.store=q2 at h2 c2 |-
 generalize bs k x.base=q1 at h1 h2 c1 c2 |-
 have h3:=ba (k:=q2) (i:=x.blocks.length) hb.2.2.1.1 (fF x.blocks) (Zf _)
 rw[Zw] at h3
 have c3:=qk hst lo x.blocks q2 hb.2.2.1.1 (by omega)
 generalize kL aQ q2 x.blocks=q3 at h3 c3 |-
 have h4:=ba (k:=q3) (i:=x.contexts.length) hb.2.2.2.1.1 (fQ hb.2.2.2.1.2) (Zf _)
 rw[Zw] at h4
 have c4:=pX hst lo x.contexts q3 hb.2.2.2.1 (by omega)
 generalize kL aS q3 x.contexts=q4 at h4 c4 |-
 have h5:=ba (k:=q4) (i:=x.processes.length) hb.2.2.2.2.1.1 (fO x.processes) (Zf _)
 rw[Zw] at h5
 have c5:=qv hst lo x.processes q4 hb.2.2.2.2.1.1 (by omega)
 generalize kL aX q4 x.processes=q5 at h5 c5 |-
 have h6:=ba (k:=q5) (i:=x.ready.length) hb.2.2.2.2.2.1 (jL x.ready) (Zf _)
 rw[Zw] at h6
 have c6:=q8 hst lo x.ready q5 hb.2.2.2.2.2.1 (by omega)
 unfold aI.tw at c1
 unfold aR.tw at c2
 repeat' (first|refine W_ ?_|refine aN ?_|refine ad hG hst (c1) ?_|refine ad hG hst (c2) ?_|refine ad hG hst (c3) ?_|refine ad hG hst (c4) ?_|refine ad hG hst (c5) ?_|refine ad hG hst (c6) ?_)
 exact r1_
end
end Go.Proofs.YtofnnnpahglfdaaGreatDoor
