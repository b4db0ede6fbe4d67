/- Part 7 of the proof: the texts SdA, SdB, SdC. -/
import Derived.Test.YtofnnnpahglfdaaGreatDoorCo3
import Derived.Test.YtofnnnpahglfdaaGreatDoorCo4
set_option linter.all false
set_option maxHeartbeats 4000000
set_option maxRecDepth 20000
namespace Go.Proofs.YtofnnnpahglfdaaGreatDoor
open Go Go.RowKit
theorem q7 {P:Program} {G:World->Prop} {f:FuncId} {s:ByteArray} {n:Int} (h:∀w,G w->Calls P f #[.string s] w fun e w'=>e=.returned (.int .i64 n)/\Below w.heap.size w w'):Ct P G f [.str s] (fun _=>.int .i64 n):=fun w vs _ hG hs hr=>by
 obtain⟨v,rfl,h1⟩:=afs hs hr
 rw[h1.str_inv]
 refine(h w hG).mono ?_
 rintro e w' ⟨rfl,hb⟩
 exact⟨_,rfl,hb,fun _ _=>.int _ _⟩
def ak.tv (x:ak):List TV:=[.int .i64 x.op,.int .i64 x.a,.int .i64 x.b,.str x.text]
theorem um {G:World->Prop} (hst:aC G) (hca:∀s:ByteArray,s.size<=1048576->Ct Tryz.prog G 242 [.str s] (fun _=>.int .i64 (co s.data.toList))) (op a b:Int) (t:ByteArray) (hs:t.size<=1048576) (hop:inR op 1 26=true):Ct Tryz.prog G 294 [.agg [.int .i64 op,.int .i64 a,.int .i64 b,.str t]] (fun _=>.tup [.int .i64 (ak.eff ⟨op,a,b,t⟩).1,.int .i64 (ak.eff ⟨op,a,b,t⟩).2]):=by
 refine au Tryz.func294 rfl Tryz.ntmps294 rfl rfl fun w0 _ hG=>?_
 have h1:=sy t.data.toList
 have h2:=sh t.data.toList
 simp only[inR,decide_eq_true_eq] at hop
 repeat' (first|refine W_ ?_|refine aN ?_|refine ad hG hst (hca _ hs) ?_|refine c_ (fun hc=>?_) (fun hc=>?_))
 all_goals
   clear hst
   have he:ak.eff ⟨op,a,b,t⟩=ak.eff ⟨op,a,b,t⟩:=rfl
   conv at he=>rhs;unfold ak.eff
   dsimp only at he
   rw[he]
   refine eO x_ rfl (.tmp _ _ rfl) (.tmp _ _ rfl) (fun _=>?_) (fun _=>?_)
   all_goals
     refine aa8 ?_
     first
       | (subst hc;simp;done)
       | (have h3:op=20\/op=23:=by omega
          rcases h3 with rfl|rfl <;> simp;done)
def eH (is:List ak):List (List TV):=is.map ak.tv
theorem ll (is:List ak):(eH is).length=is.length:=by simp[eH]
def i9 (n i:Nat):List Int:=List.replicate i (-1)++List.replicate (n - i) 0
theorem rm {n i:Nat} (h:i<n):(aL (i9 n i))[i]?=some [.int .i64 0]/\(aL (i9 n i)).set i [.int .i64 (-1)]=aL (i9 n (i+1)):=by
 have e:n - i=(n - (i+1))+1:=by omega
 refine⟨?_, ?_⟩
 ·simp only[aL,i9,Zp]
  rw[Zr (by simp),e,ZY];simp
 ·simp only[aL,i9]
  rw[e,ZY,<- Ys]
  congr 1
  rw[YB _ _ (by simp)]
  simp[List.replicate_succ',Zh]
def dO (r:Option (List Int)) (y:Nat×Nat):aJ:=[(y.1,y.2,.row 1 (aL (r.getD [])))]
def dR (r:Option (List Int)) (y:Nat×Nat):TV:=.tup [.ms y.1 y.2 0 (r.getD []).length,.bool r.isSome]
theorem nf {G:World->Prop} (hst:aC G) (hca:∀s:ByteArray,s.size<=1048576->Ct Tryz.prog G 242 [.str s] (fun _=>.int .i64 (co s.data.toList))) (lo l2:Nat) (bl:Bool) (pr sl:Int) (is:List ak) (hn:is.length<=1048576) (ht:∀i∈is,i.text.size<=1048576) (hp:kx is=true) :
   CtM Tryz.prog G 244 [.cp lo [.bool bl,.int .i64 pr,.int .i64 sl,.sl l2 4 (eH is)]] [] (fun _:Nat×Nat=>True) (dO (dw is)) (dR (dw is)):=by
 refine aA Tryz.func244 rfl Tryz.ntmps244 rfl rfl rfl fun w0 R gs objsR hG hR=>?_
 obtain rfl:=hR.inv0
 have hlen:=ll is
 repeat' (first|refine W_ ?_|(refine gG ?_;intro ss bb))
 have h0:(List.replicate is.length [TV.int .i64 0])=aL (i9 is.length 0):=by simp[i9,aL]
 apply aj (X:=Nat) [0,4,1000000] (fun i=>[(5,.int .i64 (i:Int))]) (fun i=>(ss,bb,.row 1 (aL (i9 is.length i)))::R) (fun i=>i<=is.length) (fun i=>is.length - i) 0 (Zd _)
 exact kp_;exact nw_
 ·rw[<- h0];exact .refl _
 intro i hi
 try dsimp only at hi |-
 by_cases hlt:i<is.length
 ·obtain⟨hrow,hset⟩:=rm hlt
  repeat' (first|refine W_ ?_|refine bm ?_)
  rw[hset]
  refine ag (i+1) (by omega) (by omega) (.of _ nw_ od_ (.refl _))
 ·obtain rfl:i=is.length:=by omega
  by_cases hz:is.length=0
  ·have hd:dw is=none:=by unfold dw;rw[if_pos hz]
   rw[hd]
   repeat' (first|refine W_ ?_|(refine jZ ?_;intro ss bb))
   refine ft 2 1 (by omega) rfl fun ss=>cW x_ rfl (ss,0) trivial rfl (.cons _ _ _ _ (.nil R)) pk_ (.tmp _ _ rfl) (.tmp _ _ rfl) rfl
  ·have hrow0:(aL (i9 is.length is.length))[0]?=some [.int .i64 (-1)]:=by
     simp only[i9,aL,Zp]
     rw[Zv (by simp;omega),List.getElem?_replicate,if_pos (by omega)];rfl
   have hset0:(aL (i9 is.length is.length)).set 0 [.int .i64 0]=aL (0::List.replicate (is.length - 1) (-1)):=by
     have e:is.length=(is.length - 1)+1:=by omega
     simp only[i9,aL,Yy,YY,Zo]
     rw[e,ZY];rfl
   have hnz:0<is.length:=by omega
   have hdS:sQ is (vB is) is.length (0::List.replicate (is.length - 1) (-1)) [0]=dw is:=by unfold dw;rw[if_neg hz]
   generalize ss=sd;generalize bb=bd
   repeat' (first|refine W_ ?_|(refine jZ ?_;intro ss bb)|refine bm ?_)
   generalize ss=st;generalize bb=bt
   rw[hset0]
   apply aj (X:=Nat×List Int×List Nat×Nat×Nat) [0,4,1000000] (fun x=>[(6,.ms st x.2.2.2.1 0 x.2.2.1.length),(7,.int .i64 (x.1:Int))]) (fun x=>(st,x.2.2.2.1,.row 1 (aL (nts x.2.2.1)))::(sd,bd,.row 1 (aL x.2.1))::R)
     (fun x=>x.1<=x.2.2.1.length/\x.1+x.2.2.2.2<=is.length/\DSt is.length x.2.1 (x.2.2.1.drop x.1) x.2.2.2.2/\sQ is (vB is) x.2.2.2.2 x.2.1 (x.2.2.1.drop x.1)=dw is) (fun x=>x.2.2.2.2) (0,0::List.replicate (is.length - 1) (-1),[0],bt,is.length) ⟨Zd _,by simp,nX (by omega),hdS⟩
   exact kp_;exact nw_
   ·exact .refl _
   rintro ⟨k,ds,td,bt,f⟩ ⟨hk,hkf,hD,hfl⟩
   dsimp only at hk hkf hD hfl |-
   by_cases hlt:k<td.length
   ·have hg:(aL (nts td))[k]?=some [.int .i64 ((td[k]:Nat):Int)]:=by simp[aL,nts,hlt]
    rw[ZH hlt] at hD hfl
    obtain⟨j,rfl,hD',hpn,hg0⟩:=hD.pop
    rw[jg _ _ _ _ _ hpn] at hfl
    have hrange:=hD'.inv.gd (td[k]:Nat)
    have hdl:=hD'.len
    have hdi:(aL ds)[td[k]]?=some [.int .i64 (gd ds (td[k]:Nat))]:=by
      have h9:=ry (ds:=ds) (p:=td[k]) (by omega)
      simp only[aL,Zp]
      rw[Za (by omega),h9];rfl
    have hii:(eH is)[td[k]]?=some (is[td[k]]).tv:=by simp only[eH,Zp];rw[Za hpn];rfl
    have hpi:d7 is.length is[td[k]]=true:=List.all_eq_true.1 hp _ (Zb _)
    have hti:=ht _ (Zb hpn)
    generalize is[td[k]]=ii at hfl hii hpi hti
    obtain⟨op,a,b,t⟩:=ii
    have her:=jk ⟨op,a,b,t⟩
    have hop:inR op 1 26=true:=by simp only[d7,Zm] at hpi;exact hpi.1.1
    have hef:=um hst hca op a b t hti hop
    replace hii:(eH is)[td[k]]?=some [.int .i64 op,.int .i64 a,.int .i64 b,.str t]:=hii
    have htd:td.length<=is.length:=by have h9:=hD'.mu;simp at h9;omega
    generalize hp':td[k]=p at *
    have hstep:vB is ⟨op,a,b,t⟩ p ds=if gd ds p - (ak.eff ⟨op,a,b,t⟩).1<0\/250<gd ds p - (ak.eff ⟨op,a,b,t⟩).1+(ak.eff ⟨op,a,b,t⟩).2 then none else j0 is p op (ak.nexts ⟨op,a,b,t⟩ p (gd ds p)) (ds,[]):=rfl
    have hst1:=fun ds' new h=>adz (i:=⟨op,a,b,t⟩) (ds':=ds') (new:=new) hpi hD' (by omega) h
    have hnn:=ack (n:=is.length) ⟨op,a,b,t⟩ p (gd ds p) hpi
    have hnl:=vy ⟨op,a,b,t⟩ p (gd ds p)
    have hnx:ak.nexts ⟨op,a,b,t⟩ p (gd ds p)=ak.nexts ⟨op,a,b,t⟩ p (gd ds p):=rfl
    conv at hnx=>rhs;unfold ak.nexts
    dsimp only at hnx
    generalize ak.nexts ⟨op,a,b,t⟩ p (gd ds p)=L at *
    generalize gd ds (p:Int)=g at *
    generalize he1:(ak.eff ⟨op,a,b,t⟩).1=e1 at *
    generalize he2:(ak.eff ⟨op,a,b,t⟩).2=e2 at *
    simp only[inR,decide_eq_true_eq] at hop
    repeat' (first|((with_reducible apply o_y);exact y_;rfl)|(refine jZ ?_;intro ss bb)|(refine am ?_;intro ss bb)|refine ac ?_|refine ad hG hst (hef) ?_|with_reducible refine vF (id:=4) ?_  | with_reducible refine dt rfl ?_|(with_reducible first|apply dM|apply cG|apply fZ|apply ej|apply dg|apply em|apply ew|apply gp|apply bN|apply(aq_block_miss rfl)|apply bO|apply bU|apply bL|apply dA)|refine jp rfl rfl rfl rr_ ?_|refine f5 rfl rfl rfl rr_ rfl rfl rfl ?_|refine e9 rfl rfl rfl rr_ rfl rfl ?_|(refine pH rfl rfl rfl rr_ dd_ ?_)|(refine oH rfl rfl rfl rr_ dd_ ?_)|(refine ef rfl rfl rfl rr_ (fun hg=>?_) (fun hg=>?_))|(refine dT rfl rfl rfl rr_ (fun hg=>?_) (fun hg=>?_))|refine cH rfl rr_ ?_|refine cM rfl rr_ ?_|(refine cm rfl rr_ dd_ ?_)|(refine ck rfl rr_ dd_ ?_)|(refine eV rfl rr_ (fun hc=>?_) (fun hc=>?_))|(refine dC rfl rr_ (fun hc=>?_) (fun hc=>?_)))
    ·have hd:dw is=none:=by rw[hstep,if_pos (.inl hg)] at hfl;exact hfl.symm
     rw[hd]
     refine ft 2 1 (by omega) rfl fun ss=>cW x_ rfl (ss,0) trivial rfl (.cons _ _ _ _ (.nil R)) pk_ (.tmp _ _ rfl) (.tmp _ _ rfl) rfl
    ·have hd:dw is=none:=by rw[hstep,if_pos (.inr hc)] at hfl;exact hfl.symm
     rw[hd]
     refine ft 2 1 (by omega) rfl fun ss=>cW x_ rfl (ss,0) trivial rfl (.cons _ _ _ _ (.nil R)) pk_ (.tmp _ _ rfl) (.tmp _ _ rfl) rfl
    refine⟨?_⟩
    rw[hstep,if_neg (by omega)] at hfl
    rw[if_neg (by omega)] at hstep
    rename_i s9 b9 s13 b13
    generalize ss=s14;generalize bb=b14
    apply gq (X:=Nat×Nat×Nat×Nat×List Int) [0,4,6,7,8,9,1000000] (fun x=>[(13,.ms x.1 x.2.1 0 L.length),(14,.ms x.2.2.1 x.2.2.2.1 0 (L.length+x.2.2.2.2.length))])
      (fun x=>(x.1,x.2.1,.row 1 (aL (L.map Prod.fst)))::(x.2.2.1,x.2.2.2.1,.row 1 (aL (L.map Prod.snd++x.2.2.2.2)))::(s9,b9,.box [.int .i64 op,.int .i64 a,.int .i64 b,.str t])::(st,bt,.row 1 (aL (nts td)))::(sd,bd,.row 1 (aL ds))::R) (fun x=>True)
    case hk=>(repeat (first|exact jY.nil|(apply jY.cons;rfl)))
    ·clear hfl hst1 hD hD' hstep
     by_cases h19:op=19
     ·obtain rfl:L=[]:=by rw[hnx,if_pos h19]
      repeat' (first|refine W_ ?_|(refine jZ ?_;intro ss bb))
      refine eG (ss,bb,s14,b14,[g - e1+e2]) trivial (.of _ nw_ od_ pk_)
     by_cases h20:op=20
     ·obtain rfl:L=[(a,g - e1+e2)]:=by rw[hnx,if_neg h19,if_pos h20]
      repeat' (first|refine W_ ?_|(refine jZ ?_;intro ss bb))
      refine eG (ss,bb,s14,b14,[]) trivial (.of _ nw_ od_ pk_)
     by_cases h21:op=21\/op=22
     ·obtain rfl:L=[((p:Int)+1,g - e1+e2),(a,g - e1+e2),(b,g - e1+e2+1)]:=by rw[hnx,if_neg h19,if_neg h20,if_pos h21]
      have he0:e2=0:=by
        rw[<- he2];rcases h21 with rfl|rfl <;> rfl
      subst he0
      rcases h21 with rfl|rfl
      all_goals
        repeat' (first|refine W_ ?_|refine cK ?_|(refine uA ?_;intro bb))
        rename_i bb13
        refine eG (s13,bb13,s14,bb,[]) trivial (.of _ nw_ od_ pk_)
     by_cases h24:op=24\/op=25
     ·obtain rfl:L=[((p:Int)+1,g - e1+e2),(b,g - 1)]:=by rw[hnx,if_neg h19,if_neg h20,if_neg h21,if_pos h24]
      have he0:e1=2:=by
        rw[<- he1];rcases h24 with rfl|rfl <;> rfl
      subst he0
      rcases h24 with rfl|rfl
      all_goals
        repeat' (first|refine W_ ?_|refine cK ?_|(refine uA ?_;intro bb))
        rename_i bb13
        refine eG (s13,bb13,s14,bb,[]) trivial (.of _ nw_ od_ pk_)
     by_cases h26:op=26
     ·obtain rfl:L=[((p:Int)+1,g - e1+e2),(b,g)]:=by rw[hnx,if_neg h19,if_neg h20,if_neg h21,if_neg h24,if_pos h26]
      have he0:e1=2:=by
        rw[<- he1,h26];rfl
      subst he0
      repeat' (first|refine W_ ?_|refine cK ?_|(refine uA ?_;intro bb))
      rename_i bb13
      refine eG (s13,bb13,s14,bb,[]) trivial (.of _ nw_ od_ pk_)
     ·obtain rfl:L=[((p:Int)+1,g - e1+e2)]:=by rw[hnx,if_neg h19,if_neg h20,if_neg h21,if_neg h24,if_neg h26]
      repeat' refine W_ ?_
      refine eG (s13,b13,s14,b14,[]) trivial (.of _ nw_ od_ pk_)
    ·rintro ⟨s13',b13',s14',b14',r14⟩ _
     dsimp only
     rw[hstep] at hst1
     clear hnx he1 he2 her hef hpi hstep hD hD'
     repeat' refine W_ ?_
     apply aj (X:=Nat×List Int×List Nat×Nat) [0,4,7,8,9,13,14,1000000] (fun x=>[(15,.int .i64 (x.1:Int)),(6,.ms st x.2.2.2 0 (td.length+x.2.2.1.length))])
       (fun x=>(s13',b13',.row 1 (aL (L.map Prod.fst)))::(s14',b14',.row 1 (aL (L.map Prod.snd++r14)))::(s9,b9,.box [.int .i64 op,.int .i64 a,.int .i64 b,.str t])::(st,x.2.2.2,.row 1 (aL (nts (td++x.2.2.1))))::(sd,bd,.row 1 (aL x.2.1))::R)
       (fun x=>x.1<=L.length/\x.2.1.length=is.length/\x.2.2.1.length<=x.1/\j0 is p op (L.drop x.1) (x.2.1,x.2.2.1)=j0 is p op L (ds,[])) (fun x=>L.length - x.1) (0,ds,[],bt) ⟨Zd _,hdl,Zd _,rfl⟩
     exact kp_;exact nw_
     ·rw[Zo];exact .refl _
     rintro ⟨q,ds',new,bt'⟩ ⟨hq,hdl',hnw,hpu⟩
     dsimp only at hq hdl' hnw hpu |-
     by_cases hql:q<L.length
     ·have hu0:=hnn _ (Zb hql)
      rw[ZH hql] at hpu
      have hr13:(aL (L.map Prod.fst))[q]?=some [.int .i64 L[q].1]:=by simp[aL,hql]
      have hr14:(aL (L.map Prod.snd++r14))[q]?=some [.int .i64 L[q].2]:=by
        simp only[aL,Zp]
        rw[Zv (by simpa using hql)];simp[hql]
      generalize L[q]=uv at hu0 hpu hr13 hr14
      obtain⟨u,v⟩:=uv
      obtain⟨un,rfl⟩:∃un:Nat,u=(un:Int):=⟨u.toNat,by dsimp only at hu0;omega⟩
      dsimp only at hr13 hr14
      rw[zy] at hpu
      repeat' refine H_ 40 ?_
      refine⟨dM ?_⟩
      apply gq (X:=Unit) [0,4,6,7,8,9,13,14,15,1000000] (fun _=>[(170,.bool (aaD is p op (un:Int)))])
        (fun _=>(s13',b13',.row 1 (aL (L.map Prod.fst)))::(s14',b14',.row 1 (aL (L.map Prod.snd++r14)))::(s9,b9,.box [.int .i64 op,.int .i64 a,.int .i64 b,.str t])::(st,bt',.row 1 (aL (nts (td++new))))::(sd,bd,.row 1 (aL ds'))::R) (fun _=>True)
      case hk=>(repeat (first|exact jY.nil|(apply jY.cons;rfl)))
      ·clear hpu hfl hst1
       by_cases hlen1:(is.length:Int)<=(un:Int)
       ·have hb:aaD is p op (un:Int)=true:=by simp[aaD,hlen1]
        rw[hb]
        repeat' refine V_ ?_
        refine eG () trivial (.of _ nw_ od_ pk_)
       have hun:un<is.length:=by omega
       have hri:(eH is)[un]?=some (is[un]).tv:=by simp only[eH,Zp];rw[Za hun];rfl
       have hoa:agk is (un:Int)=is[un].op:=by simp[agk,hun]
       generalize is[un]=iu at hri hoa
       obtain⟨op',a',b',t'⟩:=iu
       replace hri:(eH is)[un]?=some [.int .i64 op',.int .i64 a',.int .i64 b',.str t']:=hri
       have hbs:aaD is p op (un:Int)=(!decide (op=26) && decide ((un:Int)<=p) && !decide (op'=23)):=by simp[aaD,im,hlen1,hoa]
       rw[hbs]
       have hw3:op=26\/(¬ op=26/\(un:Int)<=p)\/(¬ op=26/\¬ (un:Int)<=p):=by omega
       rcases hw3 with h26|⟨h26,hle⟩|⟨h26,hle⟩
       all_goals
         repeat' refine V_ ?_
         refine eG () trivial (.of _ nw_ od_ pk_)
      ·intro _ _
       by_cases hbad:aaD is p op (un:Int)=true
       ·have hd:dw is=none:=by rw[if_pos hbad] at hpu;rw[<- hpu] at hfl;exact hfl.symm
        rw[hd,hbad]
        repeat' (first|with_reducible refine dt rfl ?_|((with_reducible first|apply o_move|apply nJ);rfl;rfl)|with_reducible refine dM ?_|with_reducible refine cG ?_|with_reducible refine fZ ?_|with_reducible refine ej ?_|with_reducible refine dg ?_|with_reducible refine em ?_|with_reducible refine ew ?_|with_reducible refine gp ?_|with_reducible refine bN ?_|with_reducible refine aq_block_miss rfl ?_|with_reducible refine bO ?_|with_reducible refine bU ?_|with_reducible refine bL ?_|with_reducible refine dA ?_|refine cH rfl rr_ ?_|refine cM rfl rr_ ?_|(refine cm rfl rr_ dd_ ?_)|(refine ck rfl rr_ dd_ ?_)|(refine eV rfl rr_ (fun hc=>?_) (fun hc=>?_))|(refine dC rfl rr_ (fun hc=>?_) (fun hc=>?_)))
        refine ft 2 1 (by omega) rfl fun ss=>cW x_ rfl (ss,0) trivial rfl (.cons _ _ _ _ (.nil R)) pk_ (.tmp _ _ rfl) (.tmp _ _ rfl) rfl
       have hun:un<is.length:=Xs fun h=>hbad (by simp[aaD];left;omega)
       rw[if_neg hbad] at hpu
       rw[YL] at hbad
       rw[hbad]
       have hrd:(aL ds')[un]?=some [.int .i64 (gd ds' (un:Int))]:=by
         have h9:=ry (ds:=ds') (p:=un) (by omega)
         simp only[aL,Zp]
         rw[Za (by omega),h9];rfl
       have hll:(aL (nts (td++new))).length=td.length+new.length:=by simp[aL,nts]
       by_cases hgd:gd ds' (un:Int)=-1
       ·rw[if_pos hgd] at hpu
        rw[hgd] at hrd
        repeat' (first|refine W_ ?_|(with_reducible apply dI (id:=43) 10;kernel_rfl;kernel_rfl;kernel_rfl;(repeat (first|exact Cut.zero _|apply Cut.succ)))|with_reducible refine eu (by kernel_rfl) (by kernel_rfl) ?_|with_reducible refine gu ?_|with_reducible refine ei ?_|with_reducible refine ek rfl ?_|refine gw rfl rfl rfl rr_ ?_|refine et rfl rfl rfl rr_ rfl rfl rfl ?_|refine dr rfl rfl rfl rr_ rfl rfl ?_|(refine ks rfl rfl rfl rr_ dd_ ?_)|(refine ky rfl rfl rfl rr_ dd_ ?_)|(refine cA rfl rfl rfl rr_ (fun hg=>?_) (fun hg=>?_))|(refine bX rfl rfl rfl rr_ (fun hg=>?_) (fun hg=>?_))|((with_reducible apply d_y);exact y_;rfl)|refine bm ?_|refine cK ?_|(refine uA ?_;intro bb))
        refine ag (q+1,ds'.set un v,new++[un],bb) ⟨by dsimp only;omega,by simp[hdl'],by simp;omega,by dsimp only;rw[<- hpu];rfl⟩ (by dsimp only;omega) (.of _ nw_ od_ pk_)
       ·rw[if_neg hgd] at hpu
        by_cases hgv:gd ds' (un:Int)=v
        ·rw[if_pos hgv] at hpu
         repeat' refine V_ ?_
         refine ag (q+1,ds',new,bt') ⟨by dsimp only;omega,hdl',by dsimp only;omega,by dsimp only;exact hpu⟩ (by dsimp only;omega) (.of _ nw_ od_ pk_)
        ·rw[if_neg hgv] at hpu
         have hd:dw is=none:=by rw[<- hpu] at hfl;exact hfl.symm
         rw[hd]
         repeat' refine V_ ?_
         refine ft 2 1 (by omega) rfl fun ss=>cW x_ rfl (ss,0) trivial rfl (.cons _ _ _ _ (.nil R)) pk_ (.tmp _ _ rfl) (.tmp _ _ rfl) rfl
     ·rw[Yo (by omega)] at hpu
      rw[<- hpu] at hfl
      dsimp only [j0] at hfl
      repeat' refine W_ ?_
      refine ag (k+1,ds',td++new,bt',j) ⟨by simp;omega,by dsimp only;omega, ?_, ?_⟩ (by dsimp only;omega) (.of _ nw_ od_ pk_)
      ·dsimp only
       rw[Y1 (by omega)]
       exact hst1 ds' new hpu.symm
      ·dsimp only
       rw[Y1 (by omega)];exact hfl
   ·rw[Yg (by omega)] at hfl
    have hd:dw is=some ds:=by rw[<- hfl];simp[sQ]
    have hdl:=hD.len
    rw[hd]
    repeat' refine W_ ?_
    refine cW x_ rfl (sd,bd) trivial rfl (.cons _ _ _ _ (.nil R)) pk_ (.tmp _ _ rfl) (.tmp _ _ rfl) (by simp[dR,hdl])
theorem bA {G:World->Prop} (n a b:Int):Ct Tryz.prog G 99 [.int .i64 n,.int .i64 a,.int .i64 b] (fun _=>.bool (inR n a b)):=by
 refine au Tryz.func99 rfl Tryz.ntmps99 rfl rfl fun w0 _ hG=>?_
 repeat' (first|with_reducible refine dt rfl ?_|((with_reducible apply o_y);exact y_;rfl)|with_reducible refine dM ?_|with_reducible refine cG ?_|with_reducible refine fZ ?_|with_reducible refine ej ?_|with_reducible refine dg ?_|with_reducible refine em ?_|with_reducible refine ew ?_|with_reducible refine gp ?_|with_reducible refine bN ?_|with_reducible refine aq_block_miss rfl ?_|with_reducible refine bO ?_|with_reducible refine bU ?_|with_reducible refine bL ?_|with_reducible refine dA ?_|with_reducible refine dt rfl ?_|refine jp rfl rfl rfl rr_ ?_|refine f5 rfl rfl rfl rr_ rfl rfl rfl ?_|refine e9 rfl rfl rfl rr_ rfl rfl ?_|(refine pH rfl rfl rfl rr_ dd_ ?_)|(refine oH rfl rfl rfl rr_ dd_ ?_)|(refine ef rfl rfl rfl rr_ (fun hg=>?_) (fun hg=>?_))|(refine dT rfl rfl rfl rr_ (fun hg=>?_) (fun hg=>?_))|refine cH rfl rr_ ?_|refine cM rfl rr_ ?_|(refine cm rfl rr_ dd_ ?_)|(refine ck rfl rr_ dd_ ?_)|(refine eV rfl rr_ (fun hc=>?_) (fun hc=>?_))|(refine dC rfl rr_ (fun hc=>?_) (fun hc=>?_)))
 all_goals
   refine aM x_ rfl (.tmp _ _ rfl) (fun _=>?_)
   refine aO ?_
   simp only[inR]
   first|(rw[decide_eq_decide];omega)|(symm;rw[decide_eq_false_iff_not];omega)
theorem aP {G:World->Prop} (n a b:Int):Ct Tryz.prog G 70 [.int .i64 n,.int .i64 a,.int .i64 b] (fun _=>.bool (inR n a b)):=by
 refine au Tryz.func70 rfl Tryz.ntmps70 rfl rfl fun w0 _ hG=>?_
 repeat' (first|with_reducible refine dt rfl ?_|((with_reducible apply o_y);exact y_;rfl)|with_reducible refine dM ?_|with_reducible refine cG ?_|with_reducible refine fZ ?_|with_reducible refine ej ?_|with_reducible refine dg ?_|with_reducible refine em ?_|with_reducible refine ew ?_|with_reducible refine gp ?_|with_reducible refine bN ?_|with_reducible refine aq_block_miss rfl ?_|with_reducible refine bO ?_|with_reducible refine bU ?_|with_reducible refine bL ?_|with_reducible refine dA ?_|with_reducible refine dt rfl ?_|refine jp rfl rfl rfl rr_ ?_|refine f5 rfl rfl rfl rr_ rfl rfl rfl ?_|refine e9 rfl rfl rfl rr_ rfl rfl ?_|(refine pH rfl rfl rfl rr_ dd_ ?_)|(refine oH rfl rfl rfl rr_ dd_ ?_)|(refine ef rfl rfl rfl rr_ (fun hg=>?_) (fun hg=>?_))|(refine dT rfl rfl rfl rr_ (fun hg=>?_) (fun hg=>?_))|refine cH rfl rr_ ?_|refine cM rfl rr_ ?_|(refine cm rfl rr_ dd_ ?_)|(refine ck rfl rr_ dd_ ?_)|(refine eV rfl rr_ (fun hc=>?_) (fun hc=>?_))|(refine dC rfl rr_ (fun hc=>?_) (fun hc=>?_)))
 all_goals
   refine aM x_ rfl (.tmp _ _ rfl) (fun _=>?_)
   refine aO ?_
   simp only[inR]
   first|(rw[decide_eq_decide];omega)|(symm;rw[decide_eq_false_iff_not];omega)
def agj (op:Int):Bool:=decide (op=1\/op=12\/op=15\/op=20\/op=8\/op=9\/op=21\/op=22\/op=25\/op=26\/op=14)
def agv (op:Int):Bool:=decide (op=8\/op=9\/op=21\/op=22\/op=25\/op=26\/op=24)
def agV (op:Int):Bool:=decide (op=2\/op=3\/op=10\/op=11\/op=13\/op=14)
theorem aas {G:World->Prop} (op:Int):Ct Tryz.prog G 292 [.int .i64 op] (fun _=>.tup [.bool (agj op),.bool (agv op),.bool (agV op)]):=by
 refine au Tryz.func292 rfl Tryz.ntmps292 rfl rfl fun w0 _ hG=>?_
 repeat' (first|with_reducible refine dt rfl ?_|((with_reducible apply o_y);exact y_;rfl)|with_reducible refine dM ?_|with_reducible refine cG ?_|with_reducible refine fZ ?_|with_reducible refine ej ?_|with_reducible refine dg ?_|with_reducible refine em ?_|with_reducible refine ew ?_|with_reducible refine gp ?_|with_reducible refine bN ?_|with_reducible refine aq_block_miss rfl ?_|with_reducible refine bO ?_|with_reducible refine bU ?_|with_reducible refine bL ?_|with_reducible refine dA ?_|with_reducible refine dt rfl ?_|refine jp rfl rfl rfl rr_ ?_|refine f5 rfl rfl rfl rr_ rfl rfl rfl ?_|refine e9 rfl rfl rfl rr_ rfl rfl ?_|(refine pH rfl rfl rfl rr_ dd_ ?_)|(refine oH rfl rfl rfl rr_ dd_ ?_)|(refine ef rfl rfl rfl rr_ (fun hg=>?_) (fun hg=>?_))|(refine dT rfl rfl rfl rr_ (fun hg=>?_) (fun hg=>?_))|refine cH rfl rr_ ?_|refine cM rfl rr_ ?_|(refine cm rfl rr_ dd_ ?_)|(refine ck rfl rr_ dd_ ?_)|(refine eV rfl rr_ (fun hc=>?_) (fun hc=>?_))|(refine dC rfl rr_ (fun hc=>?_) (fun hc=>?_)))
 all_goals
   refine abf x_ rfl (.tmp _ _ rfl) (.tmp _ _ rfl) (.tmp _ _ rfl) (fun _=>?_) (fun _=>?_) (fun _=>?_)
   all_goals
     refine aO ?_
     simp only[agj,agv,agV]
     symm
     first|(rw[decide_eq_true_iff];omega)|(rw[decide_eq_false_iff_not];omega)
end Go.Proofs.YtofnnnpahglfdaaGreatDoor
