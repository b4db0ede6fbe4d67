/- Part 15 of the proof: the texts SdF, IvQ, IvR, IvT, IvJ. -/
import Derived.Test.YtifcomgnmokimaaGreatDoorRt3
import Derived.Test.YtifcomgnmokimaaGreatDoorRt11
import Derived.Test.YtifcomgnmokimaaGreatDoorRt12
import Derived.Test.YtifcomgnmokimaaGreatDoorRt4
set_option linter.all false
set_option maxHeartbeats 4000000
set_option maxRecDepth 20000
namespace Go.Proofs.YtifcomgnmokimaaGreatDoor
open Go Go.RowKit
theorem qY {op:Int} {o:Nat} (h:o∈dp op):o=1\/o=2:=by
 unfold dp at h
 repeat' split at h
 all_goals first
   | (simp at h;done)
   | (simp at h;omega)
   | skip
theorem tH (op:Int):(dp op).length<=2:=by
 unfold dp
 repeat' split
 all_goals simp
theorem oS (op:Int) (s b:Nat):(yZ op s b).length=(dp op).length:=by simp[yZ]
theorem xK {op:Int} {s b q:Nat} (h:q<(dp op).length):(yZ op s b)[q]?=some [.mp s b (dp op)[q]]:=by simp[yZ,h]
def ro (a b:Int) (o:Nat):Int:=if o=1 then a else b
theorem rY (op a b:Int) (t:ByteArray):am.labs ⟨op,a,b,t⟩=(dp op).map (ro a b):=aeK op a b t
theorem yT {α:Type} {p:α->Bool} {l:List α} {q:Nat} (h:q<l.length) (ha:(l.take q).all p=true):(l.take (q+1)).all p=p l[q]:=by
 rw[Ye,List.all_append,ha,Za h];simp
theorem aaK {α:Type} {p:α->Bool} {l:List α} {q:Nat} (h:q<l.length) (hb:p l[q]=false):l.all p=false:=by
 rw[List.all_eq_false];exact⟨_,Zb h,by rw[hb];simp⟩
theorem aae (n:Nat) (p d:Int) (r:List (Int×Int)) (ds:List Int) (q:List Nat):iJ n ((p,d)::r) (ds,q)=if vK n ds p d then none else if gd ds p<0 then iJ n r (ds.set p.toNat d,q++[p.toNat]) else iJ n r (ds,q):=rfl
def aao (op:Int) (t:ByteArray):Bool:=!inR op 1 26 || ((decide (op=13) || decide (op=14)) && decide (cz t.data.toList<0))
theorem uf (n:Nat) (op a b:Int) (t:ByteArray):ep n ⟨op,a,b,t⟩=(!aao op t && ((dp op).all fun o=>inR (ro a b o) 0 ((n:Int) - 1))):=by
 unfold ep aao
 rw[rY,List.all_map]
 have h1:decide (0<=cz t.data.toList)=!decide (cz t.data.toList<0):=by
   rw[<- decide_not];exact decide_eq_decide.2 (by omega)
 rw[h1]
 cases inR op 1 26 <;> cases decide (op=13) <;> cases decide (op=14) <;> cases decide (cz t.data.toList<0) <;> rfl
theorem kd {G:World->Prop} (hst:ay G) (hca:∀s:ByteArray,s.size<=1048576->Ct Tryz.prog G 180 [.str s] (fun _=>.int .i64 (cz s.data.toList)))
   (l2:Nat) (bl:Bool) (pr sl:Int) (is:List am) (hn:is.length<=1048576) (ht:∀i∈is,i.text.size<=1048576) :
   CtM Tryz.prog G 181 [.agg [.bool bl,.int .i64 pr,.int .i64 sl,.sl l2 4 (eT is)]] [] (fun _:Nat×Nat=>True) (dO (cx is)) (dR (cx is)):=by
 refine au Tryz.func181 rfl Tryz.ntmps181 rfl rfl rfl fun w0 R gs objsR hG hR=>?_
 obtain rfl:=hR.inv0
 clear hR
 have hlen:=lx is
 by_cases hz:is.length=0
 ·have hd:cx is=none:=by unfold cx;rw[if_pos hz]
  rw[hd]
  repeat' (first|refine W_ ?_|refine aJ ?_)
  refine eG 2 1 (by omega) rfl fun ss=>cr x_ rfl (ss,0) trivial rfl (.cons _ _ _ _ (.nil R)) pk_ (.tmp _ _ rfl) (.tmp _ _ rfl) rfl
 have hnz:0<is.length:=by omega
 have hc1:((is.length - 1:Nat):Int)=(is.length:Int) - 1:=by omega
 have hnone:kr is=false->cx is=none:=fun h=>by unfold cx;rw[h];simp
 repeat' (first|refine W_ ?_|refine aJ ?_)
 apply ap (X:=Nat) [1,4,26,1000000] (fun i=>[(27,.int .i64 (i:Int))]) (fun _=>R) (fun i=>i<=is.length/\(is.take i).all (ep is.length)=true) (fun i=>is.length - i) 0 ⟨Ze _,rfl⟩
 exact kp_;exact nw_
 ·exact .refl _
 rintro i ⟨hi,hall⟩
 try dsimp only
 by_cases hlt:i<is.length
 ·have hii:(eT is)[i]?=some (is[i]).tv:=by simp only[eT,Zj];rw[Za hlt];rfl
  have htk:=yT hlt hall
  have hbad:=fun h=>hnone (aaK (p:=ep is.length) hlt h)
  have hti:=ht _ (Zb hlt)
  generalize is[i]=ii at hii hti htk hbad
  obtain⟨op,a,b,t⟩:=ii
  rw[uf] at htk hbad
  replace hii:(eT is)[i]?=some [.int .i64 op,.int .i64 a,.int .i64 b,.str t]:=hii
  replace hti:t.size<=1048576:=hti
  repeat' (first|refine H_ 8 ?_|(refine ak ?_;intro ss bb)|refine ac ?_)
  refine⟨d8 ?_⟩
  generalize ss=s6;generalize bb=b6
  apply gq (X:=Unit) [1,4,6,26,27,1000000] (fun _=>[(54,.bool (aao op t))]) (fun _=>(s6,b6,.box [.int .i64 op,.int .i64 a,.int .i64 b,.str t])::R) (fun _=>True)
  case hk=>(repeat (first|exact j9.nil|(apply j9.cons;rfl)))
  ·clear hbad htk hall hii ht
   repeat' (first|refine W_ ?_|refine ae hG hst (aP _ _ _) ?_|refine ae hG hst (hca _ hti) ?_|refine g_ (fun hg=>?_) (fun hg=>?_))
   all_goals
     refine eR () trivial (.of _ (cW.envCons (km rfl ?_) cW.envNil) od_ pk_)
     first
       | (simp[aao, *];done)
       | (simp[aao, *];simp[inR];done)
  intro _ _
  by_cases hb1:aao op t=true
  ·have hd:=hbad (by rw[hb1];rfl)
   rw[hb1,hd]
   repeat' (first|with_reducible refine dJ rfl ?_|((with_reducible first|apply xM|apply nP);rfl;rfl)|with_reducible refine d8 ?_|with_reducible refine cP ?_|with_reducible refine gp ?_|with_reducible refine eK ?_|with_reducible refine du ?_|with_reducible refine eL ?_|with_reducible refine eI ?_|with_reducible refine gG ?_|with_reducible refine bP ?_|with_reducible refine bE rfl ?_|with_reducible refine bM ?_|with_reducible refine bZ ?_|with_reducible refine bN ?_|with_reducible refine dG ?_|refine cQ rfl rr_ ?_|refine cO rfl rr_ ?_|(refine cw rfl rr_ dd_ ?_)|(refine cu rfl rr_ dd_ ?_)|(refine eZ rfl rr_ (fun hc=>?_) (fun hc=>?_))|(refine dQ rfl rr_ (fun hc=>?_) (fun hc=>?_)))
   refine eG 2 1 (by omega) rfl fun ss=>cr x_ rfl (ss,0) trivial rfl (.cons _ _ _ _ (.nil R)) pk_ (.tmp _ _ rfl) (.tmp _ _ rfl) rfl
  rw[YI] at hb1
  rw[hb1] at htk hbad
  simp only[Yq,Zn] at htk hbad
  rw[hb1]
  have hlr:=oS op s6 b6
  have hol:=tH op
  repeat' (first|refine W_ ?_|((with_reducible apply aA);rfl;kernel_rfl;(repeat (first|exact az.nil|((with_reducible apply az.cons);rfl)));exact hG;exact pv s6 b6 op a b t;exact .cons _ _ _ _ (.nil _);intro y _;obtain⟨sl5,bl5⟩:=y;refine fM ?_))
  apply ap (X:=Nat) [1,4,26,27,55,56,1000000] (fun q=>[(57,.int .i64 (q:Int))]) (fun _=>(sl5,bl5,.row 1 (yZ op s6 b6))::(s6,b6,.box [.int .i64 op,.int .i64 a,.int .i64 b,.str t])::R) (fun q=>q<=(dp op).length/\((dp op).take q).all (fun o=>inR (ro a b o) 0 ((is.length:Int) - 1))=true) (fun q=>(dp op).length - q) 0 ⟨Ze _,rfl⟩
  exact kp_;exact nw_
  ·exact .refl _
  rintro q ⟨hq,hqa⟩
  try dsimp only
  by_cases hql:q<(dp op).length
  ·have hrow:=xK (s:=s6) (b:=b6) hql
   have hqk:=yT hql hqa
   have hqb:=fun h=>hbad (aaK (p:=fun o=>inR (ro a b o) 0 ((is.length:Int) - 1)) hql h)
   have hmem:=qY (Zb hql)
   generalize (dp op)[q]=o at hrow hqk hqb hmem
   by_cases hin:inR (ro a b o) 0 ((is.length:Int) - 1)=true
   ·have hw:∀G,Ct Tryz.prog G 49 [.int .i64 (ro a b o),.int .i64 0,.int .i64 ((is.length - 1:Nat):Int)] (fun _=>.bool true):=fun G=>by rw[hc1,<- hin];exact aP _ _ _
    rcases hmem with rfl|rfl
    all_goals
      first|rw[show ro a b 1=a from rfl] at hw|rw[show ro a b 2=b from rfl] at hw
      repeat' (first|refine W_ ?_|refine ae hG hst (hw _) ?_)
      exact ah (q+1) ⟨by omega,by rw[hqk,hin]⟩ (by omega) (.of _ nw_ od_ pk_)
   ·rw[YI] at hin
    have hd:=hqb hin
    rw[hd]
    have hw:∀G,Ct Tryz.prog G 49 [.int .i64 (ro a b o),.int .i64 0,.int .i64 ((is.length - 1:Nat):Int)] (fun _=>.bool false):=fun G=>by rw[hc1,<- hin];exact aP _ _ _
    rcases hmem with rfl|rfl
    all_goals
      first|rw[show ro a b 1=a from rfl] at hw|rw[show ro a b 2=b from rfl] at hw
      repeat' (first|refine W_ ?_|refine ae hG hst (hw _) ?_)
      refine eG 2 1 (by omega) rfl fun ss=>cr x_ rfl (ss,0) trivial rfl (.cons _ _ _ _ (.nil R)) pk_ (.tmp _ _ rfl) (.tmp _ _ rfl) rfl
  ·rw[Zc (by omega)] at hqa
   rw[hqa] at htk
   repeat' refine W_ ?_
   exact ah (i+1) ⟨by omega,htk⟩ (by omega) (.of _ nw_ od_ pk_)
 ·rw[Zc (by omega)] at hall
  have hd:cx is=tf is (mg is) is.length (0::List.replicate (is.length - 1) (-1)) [0]:=by
    unfold cx;rw[if_neg hz,if_pos (show kr is=true from hall)]
  have hn1:1<=is.length:=hnz
  have hset:(aS (List.replicate is.length (-1))).set 0 [.int .i64 0]=aS (0::List.replicate (is.length - 1) (-1)):=by
    have e:is.length=(is.length - 1)+1:=by omega
    rw[e,Z8];rfl
  have hrow0:(aS (List.replicate is.length (-1)))[0]?=some [.int .i64 (-1)]:=by
    have e:is.length=(is.length - 1)+1:=by omega
    rw[e,Z8];rfl
  have hrep:=fun lo=>vF (G:=G) lo is.length hn1 hn
  repeat' (first|refine H_ 19 ?_|refine ef ?_|refine bD ?_|((with_reducible apply aA);rfl;kernel_rfl;(repeat (first|exact az.nil|((with_reducible apply az.cons);rfl)));exact hG;exact hrep _;exact .nil _;intro y _;obtain⟨ss,bb⟩:=y;refine bO ?_))
  refine⟨?_⟩
  generalize ss=sd;generalize bb=bd
  repeat' (first|refine W_ ?_|(refine jz ?_;intro ss bb))
  generalize ss=st;generalize bb=bt
  rw[hset]
  have hpo:kr is=true:=hall
  clear hset hrow0 hrep hlt hnone hall hi
  apply ap (X:=List Int×List Nat×List (List TV)×Nat×Nat) [1,4,9,1000000] (fun x=>[(10,.ms st x.2.2.2.1 x.2.2.1.length x.2.1.length)]) (fun x=>(st,x.2.2.2.1,.row 1 (x.2.2.1++aS (nts x.2.1)))::(sd,bd,.row 1 (aS x.1))::R)
    (fun x=>x.2.2.2.2<=is.length/\DSt is.length x.1 x.2.1 x.2.2.2.2/\tf is (mg is) x.2.2.2.2 x.1 x.2.1=cx is) (fun x=>x.2.2.2.2) (0::List.replicate (is.length - 1) (-1),[0],[],bt,is.length) ⟨Zg _,od hn1,hd.symm⟩
  exact kp_;exact nw_
  ·exact .refl _
  rintro ⟨ds,q,pre,bt,f⟩ ⟨hf,hD,hfl⟩
  dsimp only at hf hD hfl |-
  cases q with
  | nil =>
    have hdl:=hD.len
    have hd':cx is=some ds:=by rw[<- hfl];simp[tf]
    have h00:([]:List Nat).length=0:=rfl
    rw[hd']
    repeat' refine W_ ?_
    refine cr x_ rfl (sd,bd) trivial rfl (.cons _ _ _ _ (.nil R)) pk_ (.tmp _ _ rfl) (.tmp _ _ rfl) (by simp[dR,hdl])
  | cons p q =>
  obtain⟨j,rfl,hD',hpn,hg0⟩:=hD.pop
  clear hD
  have hlc:(p::q).length=q.length+1:=rfl
  rw[jQ _ _ _ _ _ hpn] at hfl
  have hrange:=hD'.inv.gd (p:Nat)
  have hdl:=hD'.len
  have hmu:=hD'.mu
  have hgp:(pre++aS (nts (p::q)))[pre.length+0]?=some [.int .i64 (p:Int)]:=by
    rw[Yy,Zr (Zg _),Yt];rfl
  have hdi:(aS ds)[p]?=some [.int .i64 (gd ds (p:Nat))]:=by
    have h9:=qN (ds:=ds) (p:=p) (by omega)
    simp only[aS,Zj]
    rw[Za (by omega),h9];rfl
  have hii:(eT is)[p]?=some (is[p]).tv:=by simp only[eT,Zj];rw[Za hpn];rfl
  have hpi:ep is.length is[p]=true:=List.all_eq_true.1 hpo _ (Zb _)
  have hti:=ht _ (Zb hpn)
  generalize is[p]=ii at hfl hii hpi hti
  obtain⟨op,a,b,t⟩:=ii
  replace hti:t.size<=1048576:=hti
  have her:=jK ⟨op,a,b,t⟩
  have hop:inR op 1 26=true:=by simp only[ep,Zq] at hpi;exact hpi.1.1
  have hef:=uC hst hca op a b t hti hop
  have hnx:=aeS hst hca op a b t p (gd ds p) hti hop (by omega) ⟨hg0,hrange.2⟩
  replace hii:(eT is)[p]?=some [.int .i64 op,.int .i64 a,.int .i64 b,.str t]:=hii
  have hstep:mg is ⟨op,a,b,t⟩ p ds=if gd ds p<(am.eff ⟨op,a,b,t⟩).1 then none else if (am.labs ⟨op,a,b,t⟩).any (iM is p op) then none else iJ is.length (am.nexts ⟨op,a,b,t⟩ p (gd ds p)) (ds,[]):=rfl
  rw[hstep,rY,List.any_map] at hfl
  clear hstep
  have hpi0:=hpi
  rw[uf,Zq] at hpi
  have hlb:=hpi.2
  clear hpi
  have hn0:¬ gd ds p<(am.eff ⟨op,a,b,t⟩).1->∀x∈am.nexts ⟨op,a,b,t⟩ p (gd ds p),0<=x.2:=fun h=>gZ ⟨op,a,b,t⟩ p (gd ds p) hg0 h fun h14=>by
    have:=hpi0
    simp only[ep,Zq] at this
    have h3:=this.1.2
    simp[show op=14 from h14] at h3
    simp[am.eff,show op=14 from h14];exact h3
  clear hpi0
  have hnl:=tO ⟨op,a,b,t⟩ p (gd ds p)
  generalize am.nexts ⟨op,a,b,t⟩ p (gd ds p)=L at *
  generalize (am.eff ⟨op,a,b,t⟩).1=e1 at *
  generalize (am.eff ⟨op,a,b,t⟩).2=e2 at *
  generalize hgg:gd ds (p:Int)=g at *
  by_cases hlt:g<e1
  ·rw[if_pos hlt] at hfl
   rw[<- hfl]
   repeat' (first|refine W_ ?_|refine aem ?_|(refine ak ?_;intro ss bb)|refine ac ?_|refine ae hG hst (hef) ?_)
   refine eG 2 1 (by omega) rfl fun ss=>cr x_ rfl (ss,0) trivial rfl (.cons _ _ _ _ (.nil R)) pk_ (.tmp _ _ rfl) (.tmp _ _ rfl) rfl
  rw[if_neg hlt] at hfl
  replace hn0:=hn0 hlt
  have hlr:=fun s b=>oS op s b
  have hol:=tH op
  repeat' (first|refine W_ ?_|refine aem ?_|(refine ak ?_;intro ss bb)|refine ac ?_|refine ae hG hst (hef) ?_|((with_reducible apply aA);rfl;kernel_rfl;(repeat (first|exact az.nil|((with_reducible apply az.cons);rfl)));exact hG;exact pv ss bb op a b t;exact .cons _ _ _ _ (.nil _);intro y _;obtain⟨sl5,bl5⟩:=y;refine fM ?_))
  generalize ss=s6;generalize bb=b6
  have hlr6:=hlr s6 b6
  clear hlr
  apply ap (X:=Nat) [1,4,9,11,12,100,101,1000000] (fun k=>[(102,.int .i64 (k:Int)),(10,.ms st bt (pre++[[TV.int .i64 (p:Int)]]).length q.length)]) (fun _=>(sl5,bl5,.row 1 (yZ op s6 b6))::(s6,b6,.box [.int .i64 op,.int .i64 a,.int .i64 b,.str t])::(st,bt,.row 1 ((pre++[[TV.int .i64 (p:Int)]])++aS (nts q)))::(sd,bd,.row 1 (aS ds))::R)
    (fun k=>k<=(dp op).length/\((dp op).take k).any (iM is p op ∘ ro a b)=false) (fun k=>(dp op).length - k) 0 ⟨Ze _,rfl⟩
  (repeat (first|exact j9.nil|(apply j9.cons;rfl)))
  ·(repeat (first|exact cW.envNil|refine cW.envCons (by first|rfl|exact agH rfl (by simp) (by simp)) ?_))
  ·refine .cons (.head _) (.cons (.head _) ?_)
   rw[Zk]
   exact .refl _
  have hpr:(pre++[[TV.int .i64 (p:Int)]]).length=pre.length+1:=by simp
  generalize pre++[[TV.int .i64 (p:Int)]]=pre1 at *
  rintro k ⟨hk,hka⟩
  try dsimp only
  by_cases hkl:k<(dp op).length
  ·have hrow:=xK (s:=s6) (b:=b6) hkl
   have hkk:((dp op).take (k+1)).any (iM is p op ∘ ro a b)=(iM is p op ∘ ro a b) (dp op)[k]:=by
     rw[Ye,List.any_append,hka,Za hkl];simp
   have hkb:(iM is p op ∘ ro a b) (dp op)[k]=true->(dp op).any (iM is p op ∘ ro a b)=true:=fun h=>List.any_eq_true.2 ⟨_,Zb hkl,h⟩
   have hmem:=qY (Zb hkl)
   have hin:=List.all_eq_true.1 hlb _ (Zb hkl)
   generalize (dp op)[k]=o at hrow hkk hkb hmem hin
   dsimp only [Function.comp] at hkk hkb
   simp only[inR,decide_eq_true_eq] at hin
   obtain⟨vn,hvn⟩:∃vn:Nat,ro a b o=(vn:Int):=⟨(ro a b o).toNat,by omega⟩
   rw[hvn] at hkk hkb hin
   have hvl:vn<is.length:=by omega
   repeat' refine H_ 30 ?_
   refine⟨d8 ?_⟩
   apply gq (X:=Unit) [1,4,9,10,11,12,100,101,102,1000000] (fun _=>[(126,.bool (iM is p op (vn:Int)))]) (fun _=>(sl5,bl5,.row 1 (yZ op s6 b6))::(s6,b6,.box [.int .i64 op,.int .i64 a,.int .i64 b,.str t])::(st,bt,.row 1 (pre1++aS (nts q)))::(sd,bd,.row 1 (aS ds))::R) (fun _=>True)
   case hk=>(repeat (first|exact j9.nil|(apply j9.cons;rfl)))
   ·have hri:(eT is)[vn]?=some (is[vn]).tv:=by simp only[eT,Zj];rw[Za hvl];rfl
    have hoa:ago is (vn:Int)=is[vn].op:=by simp[ago,hvl]
    clear hkk hkb hka hlb hfl hnx hef hpo ht
    generalize is[vn]=iu at hri hoa
    obtain⟨op',a',b',t'⟩:=iu
    replace hri:(eT is)[vn]?=some [.int .i64 op',.int .i64 a',.int .i64 b',.str t']:=hri
    have hbs:iM is p op (vn:Int)=(!decide (op=26) && decide ((vn:Int)<=p) && !decide (op'=23)):=by simp[iM,hoa]
    rw[hbs]
    have hw3:op=26\/(¬ op=26/\(vn:Int)<=p)\/(¬ op=26/\¬ (vn:Int)<=p):=by omega
    rcases hmem with rfl|rfl
    all_goals
      first
        | obtain rfl:a=(vn:Int):=hvn
        | obtain rfl:b=(vn:Int):=hvn
      rcases hw3 with h26|⟨h26,hle⟩|⟨h26,hle⟩
      all_goals
        repeat' refine V_ ?_
        refine eR () trivial (.of _ nw_ od_ pk_)
   ·intro _ _
    by_cases hbk:iM is p op (vn:Int)=true
    ·rw[hkb hbk,if_pos rfl] at hfl
     rw[hbk,<- hfl]
     repeat' (first|with_reducible refine dJ rfl ?_|((with_reducible first|apply xM|apply nP);rfl;rfl)|with_reducible refine d8 ?_|with_reducible refine cP ?_|with_reducible refine gp ?_|with_reducible refine eK ?_|with_reducible refine du ?_|with_reducible refine eL ?_|with_reducible refine eI ?_|with_reducible refine gG ?_|with_reducible refine bP ?_|with_reducible refine bE rfl ?_|with_reducible refine bM ?_|with_reducible refine bZ ?_|with_reducible refine bN ?_|with_reducible refine dG ?_|refine cQ rfl rr_ ?_|refine cO rfl rr_ ?_|(refine cw rfl rr_ dd_ ?_)|(refine cu rfl rr_ dd_ ?_)|(refine eZ rfl rr_ (fun hc=>?_) (fun hc=>?_))|(refine dQ rfl rr_ (fun hc=>?_) (fun hc=>?_)))
     refine eG 2 1 (by omega) rfl fun ss=>cr x_ rfl (ss,0) trivial rfl (.cons _ _ _ _ (.nil R)) pk_ (.tmp _ _ rfl) (.tmp _ _ rfl) rfl
    ·rw[YI] at hbk
     rw[hbk]
     repeat' refine W_ ?_
     exact ah (k+1) ⟨by omega,by rw[hkk,hbk]⟩ (by omega) (.of _ nw_ od_ pk_)
  ·rw[Zc (by omega)] at hka
   rw[hka,if_neg (by simp)] at hfl
   repeat' (first|refine V_ ?_|refine ai hG hst (hnx) ?_)
   clear hka hlb hef hnx hmu
   apply ap (X:=Nat×List Int×List Nat×Nat×List (List TV)) [1,4,9,134,135,1000000] (fun x=>[(136,.int .i64 (x.1:Int)),(10,.ms st x.2.2.2.1 x.2.2.2.2.length (q.length+x.2.2.1.length))])
     (fun x=>(st,x.2.2.2.1,.row 1 (x.2.2.2.2++aS (nts (q++x.2.2.1))))::(sd,bd,.row 1 (aS x.2.1))::R)
     (fun x=>x.1<=L.length/\x.2.1.length=is.length/\x.2.2.1.length<=x.1/\iJ is.length (L.drop x.1) (x.2.1,x.2.2.1)=iJ is.length L (ds,[])) (fun x=>L.length - x.1) (0,ds,[],bt,pre1) ⟨Ze _,hdl,Ze _,rfl⟩
   exact kp_;exact nw_
   ·rw[Zt];exact pk_
   rintro ⟨k,ds',new,bt',pre'⟩ ⟨hk,hdl',hnw,hpu⟩
   dsimp only at hk hdl' hnw hpu |-
   have hqf:q.length<=is.length:=by have:=hD'.mu;omega
   by_cases hkl:k<L.length
   ·rw[ZI hkl] at hpu
    have hrow:(plR L)[k]?=some [.int .i64 L[k].1,.int .i64 L[k].2]:=by simp[plR,hkl]
    generalize L[k]=uv at hpu hrow
    obtain⟨u,v⟩:=uv
    dsimp only at hrow
    rw[aae] at hpu
    repeat' (first|((with_reducible apply o_y);exact y_;rfl)|(refine ak ?_;intro ss bb)|refine ac ?_|with_reducible refine tU (id:=10) ?_  | with_reducible refine dJ rfl ?_|(with_reducible first|apply d8|apply cP|apply gp|apply eK|apply du|apply eL|apply eI|apply gG|apply bP|apply(bE rfl)|apply bM|apply bZ|apply bN|apply dG)|refine jI rfl rfl rfl rr_ ?_|refine gM rfl rfl rfl rr_ rfl rfl rfl ?_|refine fc rfl rfl rfl rr_ rfl rfl ?_|(refine oC rfl rfl rfl rr_ dd_ ?_)|(refine pK rfl rfl rfl rr_ dd_ ?_)|(refine ew rfl rfl rfl rr_ (fun hg=>?_) (fun hg=>?_))|(refine ed rfl rfl rfl rr_ (fun hg=>?_) (fun hg=>?_))|refine cQ rfl rr_ ?_|refine cO rfl rr_ ?_|(refine cw rfl rr_ dd_ ?_)|(refine cu rfl rr_ dd_ ?_)|(refine eZ rfl rr_ (fun hc=>?_) (fun hc=>?_))|(refine dQ rfl rr_ (fun hc=>?_) (fun hc=>?_)))
    refine⟨du (d8 ?_)⟩
    generalize ss=s8;generalize bb=b8
    apply gq (X:=Unit) [1,4,9,10,18,134,135,136,1000000] (fun _=>[(140,.bool (vK is.length ds' u v))]) (fun _=>(s8,b8,.box [.int .i64 u,.int .i64 v])::(st,bt',.row 1 (pre'++aS (nts (q++new))))::(sd,bd,.row 1 (aS ds'))::R) (fun _=>True)
    case hk=>(repeat (first|exact j9.nil|(apply j9.cons;rfl)))
    ·clear hpu hfl hn0 hpo ht
     by_cases hin:inR u 0 ((is.length:Int) - 1)=true
     ·have hw:∀G,Ct Tryz.prog G 49 [.int .i64 u,.int .i64 0,.int .i64 ((is.length - 1:Nat):Int)] (fun _=>.bool true):=fun G=>by rw[hc1,<- hin];exact aP _ _ _
      have hin2:0<=u/\u<=(is.length:Int) - 1:=by simpa [inR] using hin
      obtain⟨un,rfl⟩:∃un:Nat,u=(un:Int):=⟨u.toNat,by omega⟩
      have hun:un<is.length:=by omega
      have hrd:(aS ds')[un]?=some [.int .i64 (gd ds' (un:Int))]:=by
        have h9:=qN (ds:=ds') (p:=un) (by omega)
        simp only[aS,Zj]
        rw[Za (by omega),h9];rfl
      have hbs:vK is.length ds' (un:Int) v=(decide (250<v) || (decide (0<=gd ds' (un:Int)) && !decide (gd ds' (un:Int)=v))):=by simp[vK,hin]
      rw[hbs]
      generalize gd ds' (un:Int)=gv at hrd |-
      have hw3:250<v\/(¬ 250<v/\0<=gv)\/(¬ 250<v/\¬ 0<=gv):=by omega
      rcases hw3 with h250|⟨h250,hg0'⟩|⟨h250,hg0'⟩
      all_goals
        repeat' (first|refine V_ ?_|refine ai hG hst (hw _) ?_)
        refine eR () trivial (.of _ (cW.envCons (km rfl (by simp[*])) cW.envNil) od_ pk_)
     ·rw[YI] at hin
      have hw:∀G,Ct Tryz.prog G 49 [.int .i64 u,.int .i64 0,.int .i64 ((is.length - 1:Nat):Int)] (fun _=>.bool false):=fun G=>by rw[hc1,<- hin];exact aP _ _ _
      have hbs:vK is.length ds' u v=true:=by simp[vK,hin]
      rw[hbs]
      repeat' (first|refine V_ ?_|refine ai hG hst (hw _) ?_)
      refine eR () trivial (.of _ nw_ od_ pk_)
    ·intro _ _
     by_cases hb:vK is.length ds' u v=true
     ·rw[if_pos hb] at hpu
      rw[<- hpu] at hfl
      dsimp only at hfl
      rw[hb,<- hfl]
      repeat' (first|with_reducible refine dJ rfl ?_|((with_reducible first|apply xM|apply nP);rfl;rfl)|with_reducible refine d8 ?_|with_reducible refine cP ?_|with_reducible refine gp ?_|with_reducible refine eK ?_|with_reducible refine du ?_|with_reducible refine eL ?_|with_reducible refine eI ?_|with_reducible refine gG ?_|with_reducible refine bP ?_|with_reducible refine bE rfl ?_|with_reducible refine bM ?_|with_reducible refine bZ ?_|with_reducible refine bN ?_|with_reducible refine dG ?_|refine cQ rfl rr_ ?_|refine cO rfl rr_ ?_|(refine cw rfl rr_ dd_ ?_)|(refine cu rfl rr_ dd_ ?_)|(refine eZ rfl rr_ (fun hc=>?_) (fun hc=>?_))|(refine dQ rfl rr_ (fun hc=>?_) (fun hc=>?_)))
      refine eG 2 1 (by omega) rfl fun ss=>cr x_ rfl (ss,0) trivial rfl (.cons _ _ _ _ (.nil R)) pk_ (.tmp _ _ rfl) (.tmp _ _ rfl) rfl
     ·rw[if_neg hb] at hpu
      have hin:inR u 0 ((is.length:Int) - 1)=true:=by
        cases h:inR u 0 ((is.length:Int) - 1)
        ·exact absurd (by simp[vK,h]) hb
        ·rfl
      rw[YI] at hb
      rw[hb]
      have hin2:0<=u/\u<=(is.length:Int) - 1:=by simpa [inR] using hin
      obtain⟨un,rfl⟩:∃un:Nat,u=(un:Int):=⟨u.toNat,by omega⟩
      have hun:un<is.length:=by omega
      have hrd:(aS ds')[un]?=some [.int .i64 (gd ds' (un:Int))]:=by
        have h9:=qN (ds:=ds') (p:=un) (by omega)
        simp only[aS,Zj]
        rw[Za (by omega),h9];rfl
      have hrl:pre'.length+(q.length+new.length)<=(pre'++aS (nts (q++new))).length:=by simp[aS,nts]
      have hlive:((pre'++aS (nts (q++new))).drop pre'.length).take (q.length+new.length)=aS (nts (q++new)):=by
        rw[List.drop_left,Zc (by simp[aS,nts])]
      by_cases hgn:gd ds' (un:Int)<0
      ·rw[if_pos hgn] at hpu
       have hset:(aS ds').set un [.int .i64 v]=aS (ds'.set un v):=sE ds' un v
       repeat' (first|refine W_ ?_|refine bD ?_|refine ef ?_|(refine agU ?_;intro bb pp))
       refine ah (k+1,ds'.set un v,new++[un],bb,pp) ⟨by dsimp only;omega,by simp[hdl'],by simp;omega,by dsimp only;rw[<- hpu];rfl⟩ (by dsimp only;omega) (.of _ nw_ od_ pk_)
      ·rw[if_neg hgn] at hpu
       repeat' refine W_ ?_
       refine ah (k+1,ds',new,bt',pre') ⟨by dsimp only;omega,hdl',by dsimp only;omega,by dsimp only;exact hpu⟩ (by dsimp only;omega) (.of _ nw_ od_ pk_)
   ·rw[Yl (by omega)] at hpu
    rw[<- hpu] at hfl
    dsimp only [iJ] at hfl
    repeat' refine W_ ?_
    refine ah (ds',q++new,pre',bt',j) ⟨by dsimp only;omega, ?_,by dsimp only;exact hfl⟩ (by dsimp only;omega) (.of _ nw_ od_ pk_)
    dsimp only
    exact jS L ds q [] (ds',new) hn0 (by rw[Zt];exact hD') hpu.symm
def rK (cs:List aB) (k n:Int):Prop:=∃x,cs[k.toNat]?=some x/\x.block=false/\x.params=n
theorem iW {cs:List aB} {k n:Int} {j:Nat} {x:aB} (hk:k=j) (hx:cs[j]?=some x):rK cs k n↔x.block=false/\x.params=n:=by
 unfold rK
 subst hk
 rw[ZB,hx]
 constructor
 ·rintro ⟨y,hy,h⟩;cases hy;exact h
 ·exact fun h=>⟨x,rfl,h⟩
def fF (nc:Nat) (cs:List aB) (e:aD):Prop :=
 (di e.selector.data.toList=true/\inR e.owner 16 ((nc:Int) - 1)=true/\inR e.code 0 ((cs.length:Int) - 1)=true)/\rK cs e.code (cz e.selector.data.toList)
def fi (e f:aD):Prop:=f.owner=e.owner/\f.class_=e.class_/\f.selector=e.selector
def ei (es:List aD) (i:Nat) (e:aD):Prop:=∀f∈es.take i,¬ fi e f
def pD (nc:Nat) (cs:List aB) (es:List aD):Prop:=∀(i:Nat) (h:i<es.length),fF nc cs es[i]/\ei es i es[i]
open Classical in
noncomputable def f8 (nc:Nat) (cs:List aB) (es:List aD):Bool:=decide (pD nc cs es/\es.length<=96)
theorem wz {nc:Nat} {cs:List aB} {es:List aD} {i:Nat} (h:i<es.length) (hb:¬ (fF nc cs es[i]/\ei es i es[i])):¬ pD nc cs es:=fun k=>hb (k i h)
theorem vi {nc:Nat} {cs:List aB} {es:List aD} (h:∀j,j<es.length->∀h:j<es.length,fF nc cs es[j]/\ei es j es[j]):pD nc cs es:=fun i hi=>h i hi hi
open Classical in
theorem nl {nc:Nat} {cs:List aB} {es:List aD} {i:Nat} (h:i<es.length) (hb:¬ (fF nc cs es[i]/\ei es i es[i])):f8 nc cs es=false:=decide_eq_false fun k=>wz h hb k.1
open Classical in
theorem lK {nc:Nat} {cs:List aB} {es:List aD} (h:∀j,j<es.length->∀h:j<es.length,fF nc cs es[j]/\ei es j es[j]):f8 nc cs es=decide ((es.length:Int)<=96):=by
 unfold f8
 rw[decide_eq_decide]
 exact⟨fun h=>by omega,fun k=>⟨vi h,by omega⟩⟩
open Classical in
theorem rE {nc:Nat} {cs:List aB} {es:List aD} (h:¬ es.length<=96):f8 nc cs es=false:=decide_eq_false fun k=>h k.2
def abJ (i:Nat) (x:am) (o:List Int):Option (List Int) :=
 if x.op=15 then (if (0<=x.a/\x.a<=(i:Int) - 1)/\¬ 0<=gd o x.a then some (o.set x.a.toNat i) else none) else some o
def mR (i:Nat):List am->List Int->Option (List Int)
 | [],o=>some o
 | x::r,o=>match abJ i x o with
   | none=>none
   | some o'=>mR i r o'
def tW:Nat->List aB->List Int->Option (List Int)
 | _,[],o=>some o
 | i,x::r,o=>match mR i x.instrs o with
   | none=>none
   | some o'=>tW (i+1) r o'
def sg (cs:List aB) (o:List Int):Prop:=∀(i:Nat) (h:i<cs.length),cs[i].block=decide (0<=gd o (i:Int))
open Classical in
noncomputable def iw (cs:List aB):Option (List Int)->Option (List Int)
 | none=>none
 | some o=>if sg cs o then some o else none
noncomputable def gu (cs:List aB) (i:Nat) (r:List am) (o:List Int):Option (List Int):=iw cs (match mR i r o with
   | none=>none
   | some o'=>tW (i+1) (cs.drop (i+1)) o')
noncomputable def gC (cs:List aB) (i:Nat) (o:List Int):Option (List Int):=iw cs (tW i (cs.drop i) o)
noncomputable def fJ (cs:List aB):Option (List Int):=gC cs 0 (List.replicate cs.length (-1))
theorem mW {cs:List aB} {i:Nat} (h:i<cs.length) (o:List Int):gC cs i o=gu cs i cs[i].instrs o:=by
 unfold gC gu
 rw[ZI h];rfl
theorem oq {cs:List aB} {i:Nat} (h:¬ i<cs.length) (o:List Int):gC cs i o=iw cs (some o):=by
 unfold gC
 rw[Yl (by omega)];rfl
theorem ny {cs:List aB} {i k:Nat} {is:List am} (h:k<is.length) (o:List Int):gu cs i (is.drop k) o=match abJ i is[k] o with
   | none=>none
   | some o'=>gu cs i (is.drop (k+1)) o':=by
 unfold gu
 rw[ZI h]
 show iw cs (match (match abJ i is[k] o with|none=>none|some o'=>mR i (is.drop (k+1)) o') with|none=>none|some o'=>tW (i+1) (cs.drop (i+1)) o')=_
 cases abJ i is[k] o <;> rfl
theorem oB {cs:List aB} {i k:Nat} {is:List am} (h:¬ k<is.length) (o:List Int):gu cs i (is.drop k) o=gC cs (i+1) o:=by
 unfold gu gC
 rw[Yl (by omega)];rfl
theorem ut {o:List Int} {a b:Nat} {v:Int} (h:a≠b):gd (o.set a v) (b:Int)=gd o (b:Int):=by
 simp[gd,YW,h]
theorem lB {o:List Int} {a:Nat} {v:Int} (h:a<o.length):gd (o.set a v) (a:Int)=v:=by
 simp[gd,YW,h]
def dA (n:Nat) (o:List Int):Prop:=o.length=n/\∀j:Nat,j<n->gd o j=-1\/((j:Int)<gd o j/\gd o j<n)
theorem iN (n:Nat):dA n (List.replicate n (-1)):=⟨by simp,fun j hj=>.inl (by simp[gd,hj])⟩
theorem nT {n i:Nat} {x:am} {o o':List Int} (hi:i<n) (h:abJ i x o=some o') (ho:dA n o):dA n o'/\∀j:Nat,0<=gd o j->0<=gd o' j:=by
 unfold abJ at h
 split at h
 ·split at h
  ·rename_i h1
   cases h
   obtain⟨a,ha⟩:∃a:Nat,x.a=a:=⟨x.a.toNat,by omega⟩
   rw[ha] at h1 |-
   rw[ZB]
   have hal:a<n:=by omega
   refine⟨⟨by simp[ho.1],fun j hj=>?_⟩,fun j hj=>?_⟩
   ·by_cases hja:a=j
    ·subst hja
     rw[lB (by rw[ho.1];exact hal)]
     exact .inr ⟨by omega,by omega⟩
    ·rw[ut hja];exact ho.2 j hj
   ·by_cases hja:a=j
    ·subst hja
     rw[lB (by rw[ho.1];exact hal)];omega
    ·rw[ut hja];exact hj
  ·cases h
 ·cases h;exact⟨ho,fun j hj=>hj⟩
theorem iG {n i:Nat} (hi:i<n):∀{r:List am} {o o':List Int},mR i r o=some o'->dA n o->dA n o'/\∀j:Nat,0<=gd o j->0<=gd o' j
 | [],o,o',h,ho=>by cases h;exact⟨ho,fun _ hj=>hj⟩
 | x::r,o,o',h,ho=>by
   unfold mR at h
   split at h
   ·cases h
   ·rename_i o1 h1
    obtain⟨h2,h3⟩:=nT hi h1 ho
    obtain⟨h4,h5⟩:=iG hi h h2
    exact⟨h4,fun j hj=>h5 j (h3 j hj)⟩
theorem lO {n:Nat}:∀{r:List aB} {i:Nat} {o o':List Int},i+r.length<=n->tW i r o=some o'->dA n o->dA n o'/\∀j:Nat,0<=gd o j->0<=gd o' j
 | [],i,o,o',_,h,ho=>by cases h;exact⟨ho,fun _ hj=>hj⟩
 | x::r,i,o,o',hn,h,ho=>by
   unfold tW at h
   split at h
   ·cases h
   ·rename_i o1 h1
    simp only[Zy] at hn
    obtain⟨h2,h3⟩:=iG (by omega) h1 ho
    obtain⟨h4,h5⟩:=lO (by omega) h h2
    exact⟨h4,fun j hj=>h5 j (h3 j hj)⟩
theorem kM {cs:List aB} {p:Option (List Int)} {o:List Int} (h:iw cs p=some o):p=some o/\sg cs o:=by
 cases p with
 | none=>cases h
 | some o' =>
   by_cases hf:sg cs o'
   ·have:iw cs (some o')=some o':=by unfold iw;exact if_pos hf
    rw[this] at h;cases h;exact⟨rfl,hf⟩
   ·have:iw cs (some o')=none:=by unfold iw;exact if_neg hf
    rw[this] at h;cases h
theorem kz {cs:List aB} {o:List Int} (h:fJ cs=some o):dA cs.length o/\sg cs o:=by
 obtain⟨h1,h2⟩:=kM h
 exact⟨(lO (by simp) h1 (iN _)).1,h2⟩
theorem pC {cs:List aB} {i k:Nat} {is:List am} {o:List Int} {a:Nat} (hi:i<cs.length) (ho:dA cs.length o) (ha:a<cs.length) (hb:cs[a].block=false) (hp:0<=gd o (a:Int)):gu cs i (is.drop k) o=none:=by
 cases h:gu cs i (is.drop k) o with
 | none=>rfl
 | some o' =>
   exfalso
   obtain⟨h1,h2⟩:=kM h
   split at h1
   ·cases h1
   ·rename_i o1 h3
    obtain⟨h4,h5⟩:=iG hi h3 ho
    obtain⟨h6,h7⟩:=lO (by simp;omega) h1 h4
    have h8:=h2 a ha
    rw[hb] at h8
    have h9:=h7 a (h5 a hp)
    rw[decide_eq_true h9] at h8
    cases h8
theorem rv {cs:List aB} {o:List Int} {i:Nat} (h:i<cs.length) (hb:cs[i].block≠decide (0<=gd o (i:Int))):iw cs (some o)=none:=by
 unfold iw
 exact if_neg fun k=>hb (k i h)
theorem oQ {cs:List aB} {o:List Int} (h:∀j,j<cs.length->∀h:j<cs.length,cs[j].block=decide (0<=gd o (j:Int))):iw cs (some o)=some o:=by
 unfold iw
 exact if_pos fun i hi=>h i hi hi
def iE (o:List Int):Nat->Int->List Int
 | 0,_=>[]
 | n+1,k=>if k<0 then [] else k::iE o n (gd o k)
def upN (o:List Int):Nat->Int->Int
 | 0,k=>k
 | n+1,k=>if k<0 then k else upN o n (gd o k)
theorem sh (o:List Int) (n:Nat) {k:Int} (h:k<0):upN o n k=k:=by
 cases n with
 | zero=>rfl
 | succ n=>unfold upN;rw[if_pos h]
theorem nN {o:List Int} (hinv:dA o.length o):∀(n:Nat) (k:Int) (b:Nat),k=-1\/(0<=k/\k<o.length/\o.length<=n+k.toNat)->(iE o n k)[b]?=if 0<=upN o b k then some (upN o b k) else none
 | 0,k,b,h=>by
   obtain rfl:k=-1:=by omega
   rw[sh o b (by omega)];rfl
 | n+1,k,b,h=>by
   rcases h with rfl|⟨h0,h1,h2⟩
   ·rw[sh o b (by omega)];rfl
   ·unfold iE
    rw[if_neg (by omega)]
    obtain⟨j,rfl⟩:∃j:Nat,k=j:=⟨k.toNat,by omega⟩
    cases b with
    | zero =>
      show some (j:Int)=_
      unfold upN
      rw[if_pos h0]
    | succ b =>
      show (iE o n (gd o j))[b]?=_
      have hj:=hinv.2 j (by omega)
      rw[nN hinv n (gd o j) b (by rw[ZB] at h2;omega)]
      have:upN o (b+1) j=upN o b (gd o j):=by
        conv=>lhs;unfold upN
        rw[if_neg (by omega)]
      rw[this]
theorem lV (o:List Int):∀(n:Nat) (k:Int),(iE o n k).length<=n
 | 0,_=>Zg _
 | n+1,k=>by
   unfold iE
   split
   ·simp
   ·have:=lV o n (gd o k);simp;omega
theorem cj {lo:Nat} {cs:List aB} {j:Nat} (h:j<cs.length):(cs.map (aB.tw lo))[j]?=some [.bool cs[j].block,.int .i64 cs[j].params,.int .i64 cs[j].slots,.sl lo 4 (cs[j].instrs.map (am.tw lo))]:=aK h
theorem jT {lo:Nat} {es:List aD} {j:Nat} (h:j<es.length):(es.map (aD.tw lo))[j]?=some [.int .i64 es[j].owner,.bool es[j].class_,.str es[j].selector,.int .i64 es[j].code]:=aK h
theorem jW {lo:Nat} {is:List am} {j:Nat} (h:j<is.length):(is.map (am.tw lo))[j]?=some [.int .i64 is[j].op,.int .i64 is[j].a,.int .i64 is[j].b,.str is[j].text]:=aK h
def am.none:am:=⟨0,0,0,⟨#[]⟩⟩
def fy (cs:List aB) (o:List Int) (k:Nat) (b:Int):Option aB:=if 0<=b/\0<=upN o b.toNat k then cs[(upN o b.toNat k).toNat]? else none
def xB (cs:List aB) (o:List Int) (k:Nat) (x:am):Bool:=match fy cs o k x.b with
 | none=>false
 | some y=>inR x.a (if x.op=9 then y.params else 0) (IntKind.i64.wrap (y.slots - 1))
def fd (x:am):Prop:=inR x.op 1 26=true/\(af5 x.op=true\/x.a=0)/\(agO x.op=true\/x.b=0)/\(agB x.op=true\/x.text=⟨#[]⟩)
instance (x:am):Decidable (fd x):=by unfold fd;infer_instance
def dw (cs:List aB) (nc:Nat) (o:List Int) (k:Nat) (own:aB) (x:am):Bool :=
 if x.op=1 then inR x.a 0 999999999
 else if x.op=2 then pO x.text
 else if x.op=3\/x.op=13 then di x.text.data.toList
 else if x.op=8\/x.op=9 then xB cs o k x
 else if x.op=10\/x.op=11 then cV x.text.data.toList
 else if x.op=12 then inR x.a 0 ((nc:Int) - 1)
 else if x.op=14 then di x.text.data.toList && inR x.a 0 ((nc:Int) - 1)
 else if x.op=20 then inR x.a 0 ((own.instrs.length:Int) - 1)
 else if x.op=21\/x.op=22 then inR x.a 0 ((own.instrs.length:Int) - 1) && inR x.b 0 ((own.instrs.length:Int) - 1)
 else if x.op=24 then inR x.b 0 ((own.instrs.length:Int) - 1)
 else if x.op=25\/x.op=26 then inR x.a own.params (own.slots - 1) && inR x.b 0 ((own.instrs.length:Int) - 1)
 else true
def fQ (cs:List aB) (nc:Nat) (o:List Int) (k:Nat) (own:aB) (x:am):Bool:=decide (fd x) && dw cs nc o k own x
theorem aaT {cs:List aB} {nc:Nat} {o:List Int} {k:Nat} {own:aB} {x:am} (h:fQ cs nc o k own x=true):ep own.instrs.length x=true:=by
 obtain⟨op,a,b,t⟩:=x
 unfold fQ at h
 rw[Zq,decide_eq_true_eq] at h
 obtain⟨h0,h2⟩:=h
 have h1:=h0.1
 clear h0
 unfold ep
 rw[rY,List.all_map]
 simp only[inR,decide_eq_true_eq] at h1
 unfold dw at h2
 dsimp only at h2 h1 |-
 have h3:inR op 1 26=true:=wP h1
 rw[h3,<- adM]
 simp only[dp]
 have hc:op=1\/op=2\/op=3\/op=4\/op=5\/op=6\/op=7\/op=8\/op=9\/op=10\/op=11\/op=12\/op=13\/op=14\/op=15\/op=16\/op=17\/op=18\/op=19\/op=20\/op=21\/op=22\/op=23\/op=24\/op=25\/op=26:=by omega
 clear h1 h3
 rcases hc with rfl|rfl|rfl|rfl|rfl|rfl|rfl|rfl|rfl|rfl|rfl|rfl|rfl|rfl|rfl|rfl|rfl|rfl|rfl|rfl|rfl|rfl|rfl|rfl|rfl|rfl
 all_goals first
   | rfl
   | (simp at h2;simp[h2,ro];done)
   | (simp at h2;simp[h2.1,h2.2,ro];done)
theorem qF {cs:List aB} {nc:Nat} {o:List Int} {k:Nat} {own:aB} (h:∀y∈own.instrs,fQ cs nc o k own y=true):kr own.instrs=true:=by
 unfold kr
 rw[List.all_eq_true]
 exact fun x hx=>aaT (h x hx)
def jL (cs:List aB) (i:Nat) (x:am):Prop:=x.op=15->(0<=x.a/\x.a<=(i:Int) - 1)/\∃y,cs[x.a.toNat]?=some y/\y.block=true
theorem ru {n i:Nat} (hi:i<n):∀{r:List am} {o o':List Int},mR i r o=some o'->dA n o->∀x∈r,x.op=15->(0<=x.a/\x.a<=(i:Int) - 1)/\0<=gd o' x.a
 | [],o,o',h,ho,x,hx,_=>by cases hx
 | y::r,o,o',h,ho,x,hx,h15=>by
   unfold mR at h
   split at h
   ·cases h
   ·rename_i o1 h1
    obtain⟨h2,h3⟩:=nT hi h1 ho
    rcases List.mem_cons.1 hx with rfl|hx
    ·unfold abJ at h1
     rw[if_pos h15] at h1
     split at h1
     ·rename_i h4
      cases h1
      refine⟨h4.1, ?_⟩
      obtain⟨a,ha⟩:∃a:Nat,x.a=a:=⟨x.a.toNat,by omega⟩
      have h5:=(iG hi h h2).2 a
      rw[ha] at h5 |-
      refine h5 ?_
      rw[ZB,lB (by rw[ho.1];omega)]
      omega
     ·cases h1
    ·exact ru hi h h2 x hx h15
theorem vj {n:Nat}:∀{r:List aB} {i:Nat} {o o':List Int},i+r.length<=n->tW i r o=some o'->dA n o->∀(j:Nat) (c:aB),r[j]?=some c->∀x∈c.instrs,x.op=15->(0<=x.a/\x.a<=((i+j:Nat):Int) - 1)/\0<=gd o' x.a
 | [],i,o,o',_,h,ho,j,c,hc,x,hx,_=>by simp at hc
 | y::r,i,o,o',hn,h,ho,j,c,hc,x,hx,h15=>by
   unfold tW at h
   split at h
   ·cases h
   ·rename_i o1 h1
    simp only[Zy] at hn
    obtain⟨h2,h3⟩:=iG (by omega) h1 ho
    cases j with
    | zero =>
      simp at hc;subst hc
      obtain⟨h4,h5⟩:=ru (by omega) h1 ho x hx h15
      refine⟨h4, ?_⟩
      have h6:=(lO (by omega) h h2).2 x.a.toNat
      rw[Int.toNat_of_nonneg h4.1] at h6
      exact h6 h5
    | succ j =>
      have:=vj (by omega) h h2 j c (by simpa using hc) x hx h15
      rw[show i+1+j=i+(j+1) by omega] at this
      exact this
theorem ta {cs:List aB} {o:List Int} (h:fJ cs=some o) {i:Nat} {c:aB} (hc:cs[i]?=some c):∀x∈c.instrs,jL cs i x:=fun x hx h15=>by
 obtain⟨h1,h2⟩:=kM h
 have hi:i<cs.length:=(List.getElem?_eq_some_iff.1 hc).1
 obtain⟨h3,h4⟩:=vj (by simp) h1 (iN _) i c (by simpa using hc) x hx h15
 rw[ZY] at h3
 refine⟨h3, ?_⟩
 obtain⟨a,ha⟩:∃a:Nat,x.a=a:=⟨x.a.toNat,by omega⟩
 rw[ha] at h3 h4 |-
 rw[ZB]
 have hal:a<cs.length:=by omega
 refine⟨cs[a],Za hal, ?_⟩
 rw[h2 a hal]
 exact decide_eq_true h4
def sJ (x:aB):Prop:=inR x.slots 0 30=true/\inR x.params 0 x.slots=true/\x.instrs.length<=900
def gU (cs:List aB) (nc:Nat) (o:List Int) (k:Nat) (x:aB):Prop:=sJ x/\(∀y∈x.instrs,fQ cs nc o k x y=true)/\(cx x.instrs).isSome=true
open Classical in
noncomputable def zy (cs:List aB) (nc:Nat) (o:List Int) (k:Nat) (x:aB):Bool:=decide (gU cs nc o k x)
def sX (cs:List aB) (nc:Nat) (o:List Int):Prop:=∀(k:Nat) (h:k<cs.length),gU cs nc o k cs[k]
def we (cs:List aB) (nc:Nat):Prop:=∃o,fJ cs=some o/\sX cs nc o
def aa0 (x:aF):Prop:=inR x.main 0 ((x.codes.length:Int) - 1)=true/\rK x.codes x.main 0
def d9 (x:aF):Prop:=cn x.classes=true/\x.codes.length<=200/\aa0 x/\f8 x.classes.length x.codes x.entries=true/\we x.codes x.classes.length
open Classical in
noncomputable def dM (x:aF):Bool:=decide (d9 x)
open Classical in
theorem qT {x:aF} (h:¬ d9 x):dM x=false:=decide_eq_false h
open Classical in
theorem qM {x:aF} (h:d9 x):dM x=true:=decide_eq_true h
open Classical in
theorem aaQ {cs:List aB} {nc:Nat} {o:List Int} {k:Nat} {x:aB} (h:¬ gU cs nc o k x):zy cs nc o k x=false:=decide_eq_false h
open Classical in
theorem aaZ {cs:List aB} {nc:Nat} {o:List Int} {k:Nat} {x:aB} (h:gU cs nc o k x):zy cs nc o k x=true:=decide_eq_true h
theorem fG {o:List Int} {j:Nat} (h:j<o.length):(aS o)[j]?=some [.int .i64 (gd o (j:Int))]:=by
 simp[aS,gd,h]
theorem j3 (o:List Int):∀(n:Nat) (k:Int),upN o (n+1) k=if upN o n k<0 then upN o n k else gd o (upN o n k)
 | 0,k=>rfl
 | n+1,k=>by
   by_cases h:k<0
   ·rw[sh o _ h,sh o _ h,if_pos h]
   ·have h1 : upN o (n + 1 + 1) k = upN o (n + 1) (gd o k) := by conv => lhs; unfold upN
                                                                 rw[if_neg h]
    have h2 : upN o (n + 1) k = upN o n (gd o k) := by conv => lhs; unfold upN
                                                       rw[if_neg h]
    rw[h1,h2]
    exact j3 o n (gd o k)
theorem vp {o:List Int} (hinv:dA o.length o):∀(n:Nat) (k:Int),k=-1\/(0<=k/\k<o.length)->upN o n k=-1\/(0<=upN o n k/\upN o n k<o.length)
 | 0,k,h=>h
 | n+1,k,h=>by
   rw[j3]
   have:=vp hinv n k h
   split
   ·exact this
   ·obtain⟨j,hj⟩:∃j:Nat,upN o n k=j:=⟨(upN o n k).toNat,by omega⟩
    rw[hj] at this |-
    have:=hinv.2 j (by omega)
    omega
theorem ad8 {o:List Int} (hinv:dA o.length o) {k:Int} (hk:0<=k/\k<o.length):∀n:Nat,0<=upN o n k->(n:Int)<=upN o n k
 | 0,h=>h
 | n+1,h=>by
   rw[j3] at h |-
   have hin:=vp hinv n k (.inr hk)
   split
   ·rename_i h1;rw[if_pos h1] at h;omega
   ·rename_i h1
    rw[if_neg h1] at h
    have ih:=ad8 hinv hk n (by omega)
    obtain⟨j,hj⟩:∃j:Nat,upN o n k=j:=⟨(upN o n k).toNat,by omega⟩
    rw[hj] at h hin ih |-
    have:=hinv.2 j (by omega)
    omega
theorem vg {o:List Int} {k:Int} {n:Nat} (h:upN o n k<0):∀m,n<=m->upN o m k=upN o n k
 | 0, hm => by obtain rfl : n = 0 := by omega
               rfl
 | m+1,hm=>by
   by_cases he:n=m+1
   ·rw[he]
   ·have:=vg h m (by omega)
    rw[j3,this,if_pos h]
theorem um {cs:List aB} {o:List Int} {k:Nat} {b:Int} (h:b<0):fy cs o k b=none:=by
 unfold fy
 exact if_neg (by omega)
theorem t8 {cs:List aB} {o:List Int} {k n:Nat} {b:Int} (h:upN o n k<0) (hn:(n:Int)<=b):fy cs o k b=none:=by
 unfold fy
 rw[vg h b.toNat (by omega)]
 exact if_neg (by omega)
theorem yL {cs:List aB} {o:List Int} {k j:Nat} {b:Int} {y:aB} (hb:0<=b) (h:upN o b.toNat k=j) (hj:cs[j]?=some y):fy cs o k b=some y:=by
 unfold fy
 rw[h,if_pos ⟨hb,by omega⟩,ZB,hj]
theorem zN {cs:List aB} {o:List Int} {k:Nat} (hinv:dA cs.length o) (hk:k<cs.length) {b:Int} {L:List Int} (hL:L=(iE o cs.length k).reverse) (h:0<=b/\b<=(L.length:Int) - 1) :
   ∃(q v:Nat) (y:aB),(L.length:Int) - 1 - b=q/\(aS L)[q]?=some [.int .i64 (v:Int)]/\cs[v]?=some y/\fy cs o k b=some y:=by
 obtain⟨c,rfl⟩:∃c:Nat,b=c:=⟨b.toNat,by omega⟩
 have hl:o.length=cs.length:=hinv.1
 have hinv':dA o.length o:=by rw[hl];exact hinv
 have hcl:L.length=(iE o cs.length k).length:=by rw[hL,YY]
 have hcu:=nN hinv' cs.length (k:Int) c (.inr ⟨by omega,by omega,by rw[hl];omega⟩)
 have hc:c<(iE o cs.length k).length:=by omega
 rw[Za hc] at hcu
 split at hcu
 ·rename_i h0
  have hin:=vp hinv' c k (.inr ⟨by omega,by omega⟩)
  obtain⟨v,hv⟩:∃v:Nat,upN o c k=v:=⟨(upN o c k).toNat,by omega⟩
  rw[hv] at hin hcu
  have hvl:v<cs.length:=by omega
  refine⟨L.length - 1 - c,v,cs[v],by omega, ?_,Za hvl,yL (by omega) (by rw[ZB];exact hv) (Za hvl)⟩
  have hg:L[L.length - 1 - c]?=some (v:Int):=by
    rw[hL,List.getElem?_reverse (by rw[YY];omega),YY]
    rw[show (iE o cs.length k).length - 1 - ((iE o cs.length k).length - 1 - c)=c by omega,Za hc]
    exact hcu
  simp only[aS,Zj,hg];rfl
 ·cases hcu
theorem p8 {cs:List aB} {o:List Int} {k:Nat} (hinv:dA cs.length o) (hk:k<cs.length) {b:Int} {L:List Int} (hL:L=(iE o cs.length k).reverse) (h:¬ (0<=b/\b<=(L.length:Int) - 1)):fy cs o k b=none:=by
 by_cases h0:b<0
 ·exact um h0
 obtain⟨c,rfl⟩:∃c:Nat,b=c:=⟨b.toNat,by omega⟩
 have hl:o.length=cs.length:=hinv.1
 have hinv':dA o.length o:=by rw[hl];exact hinv
 have hcl:L.length=(iE o cs.length k).length:=by rw[hL,YY]
 have hcu:=nN hinv' cs.length (k:Int) c (.inr ⟨by omega,by omega,by rw[hl];omega⟩)
 rw[YH (by omega)] at hcu
 split at hcu
 ·cases hcu
 ·rename_i h1
  unfold fy
  rw[ZB]
  exact if_neg fun h=>h1 h.2
def GL (w:World):Prop:=vq w
theorem en:ay GL:=⟨fun _ _ h hb=>vq.below h hb⟩
theorem ahX (s:ByteArray) (hs:s.size<=1048576):Ct Tryz.prog GL 223 [.str s] (fun _=>.int .i64 (cz s.data.toList)):=rh fun w _=>mG s w hs
theorem ahL (s:ByteArray) (hs:s.size<=1048576):Ct Tryz.prog GL 163 [.str s] (fun _=>.bool (di s.data.toList)):=iX fun w _=>fp s w hs
theorem ah5 (s:ByteArray) (hs:s.size<=1048576):Ct Tryz.prog GL 180 [.str s] (fun _=>.int .i64 (cz s.data.toList)):=rh fun w hG=>sL s w hs hG
theorem ahy (s:ByteArray) (hs:s.size<=1048576):Ct Tryz.prog GL 179 [.str s] (fun _=>.bool (di s.data.toList)):=iX fun w hG=>p5 s w hs hG
theorem aa4 (r:Option (List Int)):∀y:Nat×Nat,True->(∀s b o,(s,b,o)∈dO r y->cE (dO r y) o)/\dY (dO r y) (dR r y):=fun y _ =>
 ⟨fun s b o h=>by
   simp only[dO,ZM,Zp] at h
   obtain⟨_,_,rfl⟩:=h
   exact fO (lg _),.tup _ fun t ht=>by
   simp only[ZX,ZP,or_false] at ht
   rcases ht with rfl|rfl
   ·exact .ms _ _ _ _ _ _ Zi
   ·exact .flat _ rfl⟩
theorem lT (lo:Nat) (is:List am):eT is=is.map (am.tw lo):=rfl
noncomputable def aeC (cs:List aB) (K:Nat):TV:=.tup [.sl K 1 (aS ((fJ cs).getD [])),.bool (fJ cs).isSome]
theorem iV {B L:Nat} {objs:aG} {r:Option (List Int)} (h:r=none):Fin B objs L .nils (.sl L 1 (aS (r.getD []))):=by subst h;exact .nils 1
theorem fE {B L:Nat} {objs:aG} {r:Option (List Int)} (h:r=none):Fin B objs L (.bool false) (.bool r.isSome):=by subst h;exact .bool false
theorem yk {B L s b n:Nat} {objs:aG} {r:Option (List Int)} {o:List Int} (h:r=some o) (hn:o.length=n) (hm:(s,b,aV.row 1 (aS o))∈objs):Fin B objs L (.ms s b 0 n) (.sl L 1 (aS (r.getD []))):=by
 subst h;subst hn
 have hl:=aj o
 exact Fin.msFlat hm (by omega) (by rw[Y0,Zc (by omega)];rfl) (lg o)
theorem qR {B L:Nat} {objs:aG} {r:Option (List Int)} {o:List Int} (h:r=some o):Fin B objs L (.bool true) (.bool r.isSome):=by subst h;exact .bool true
section
variable {G:World->Prop}
theorem pX (hst:ay G) (f lo:Nat) (ccl cen:TV) (cs:List aB) (mn:Int) (hcs:cs.length<=1048576/\∀y∈cs,aB.small 1048576 y) :
   Ct Tryz.prog G 79 [.cp f [ccl,.sl lo 4 (cs.map (aB.tw lo)),cen,.int .i64 mn]] (aeC cs):=by
 refine av Tryz.func79 rfl Tryz.ntmps79 rfl rfl fun w0 _ hG=>?_
 have hl2:=aB.len lo cs
 have hcl:=hcs.1
 have h0:(List.replicate cs.length [TV.int .i64 0])=aS (js cs.length 0):=by simp[js,aS]
 repeat' (first|refine W_ ?_|(refine gK ?_;intro ss bb))
 generalize ss=sd;generalize bb=bd
 apply ap (X:=Nat) [0,4] (fun i=>[(5,.int .i64 (i:Int))]) (fun i=>[(sd,bd,.row 1 (aS (js cs.length i)))]) (fun i=>i<=cs.length) (fun i=>cs.length - i) 0 (Ze _)
 exact kp_;exact nw_
 ·rw[<- h0];exact .refl _
 intro i hi
 try dsimp only at hi |-
 by_cases hlt:i<cs.length
 ·obtain⟨hrow,hset⟩:=rj hlt
  repeat' (first|refine W_ ?_|refine bD ?_)
  rw[hset]
  refine ah (i+1) (by omega) (by omega) (.of _ nw_ od_ (.refl _))
 ·obtain rfl:i=cs.length:=by omega
  clear hlt hi
  have hfull:js cs.length cs.length=List.replicate cs.length (-1):=by simp[js]
  rw[hfull]
  have hst0:gC cs 0 (List.replicate cs.length (-1))=fJ cs:=rfl
  have hin0:=iN cs.length
  unfold aeC
  generalize fJ cs=R at hst0
  generalize List.replicate cs.length (-1:Int)=o0 at hst0 hin0
  repeat' refine W_ ?_
  apply ap (X:=Nat×List Int) [0,4] (fun x=>[(6,.int .i64 (x.1:Int))]) (fun x=>[(sd,bd,.row 1 (aS x.2))]) (fun x=>x.1<=cs.length/\dA cs.length x.2/\gC cs x.1 x.2=R) (fun x=>cs.length - x.1) (0,o0) ⟨Ze _,hin0,hst0⟩
  exact kp_;exact nw_
  ·exact .refl _
  clear hin0 hst0
  rintro ⟨i,o⟩ ⟨hi,hin,hR⟩
  dsimp only at hi hin hR |-
  have hol:(aS o).length=cs.length:=by rw[aj];exact hin.1
  by_cases hlt:i<cs.length
  ·have hra:=cj (lo:=lo) hlt
   have hsm:=hcs.2 _ (Zb hlt)
   rw[mW hlt] at hR
   generalize cs[i]=c at hra hsm hR
   obtain⟨cb,cp,csl,is⟩:=c
   dsimp only at hra hR
   have hil:=am.len lo is
   have hisl:is.length<=1048576:=hsm.1
   repeat' refine W_ ?_
   apply ap (X:=Nat×List Int) [0,4,6] (fun x=>[(7,.int .i64 (x.1:Int))]) (fun x=>[(sd,bd,.row 1 (aS x.2))]) (fun x=>x.1<=is.length/\dA cs.length x.2/\gu cs i (is.drop x.1) x.2=R) (fun x=>is.length - x.1) (0,o) ⟨Ze _,hin,hR⟩
   exact kp_;exact nw_
   ·exact .refl _
   clear hin hR hol
   rintro ⟨k,o⟩ ⟨hk,hin,hR⟩
   dsimp only at hk hin hR |-
   have hol:(aS o).length=cs.length:=by rw[aj];exact hin.1
   by_cases hlk:k<is.length
   ·have hrk:=jW (lo:=lo) hlk
    rw[ny hlk] at hR
    generalize is[k]=x at hrk hR
    obtain⟨op,a,b,t⟩:=x
    unfold abJ at hR
    dsimp only at hrk hR
    by_cases h15:op=15
    ·rw[if_pos h15] at hR
     have h15':¬ op≠15:=fun h=>h h15
     by_cases hin2:0<=a/\a<=(i:Int) - 1
     ·have cin:=bC (G:=G) a 0 ((i - 1:Nat):Int)
      rw[wP (by omega)] at cin
      obtain⟨q,rfl⟩:∃q:Nat,a=q:=⟨a.toNat,by omega⟩
      have hql:q<o.length:=by rw[hin.1];omega
      have hrq:=fG hql
      have hqc:q<cs.length:=by omega
      by_cases hg:0<=gd o (q:Int)
      ·rw[if_neg fun h=>h.2 hg] at hR
       repeat' (first|refine W_ ?_|(refine ak ?_;intro ss bb)|refine ac ?_|refine ae hG hst (cin) ?_)
       refine fj x_ rfl (.tmp _ _ rfl) (.tmp _ _ rfl) (fun _=>?_) (fun _=>?_)
       ·exact iV hR.symm
       ·exact fE hR.symm
      ·rw[if_pos ⟨hin2,hg⟩,ZB] at hR
       dsimp only at hR
       have hset:=sE o q (i:Int)
       have hin3:=(nT (n:=cs.length) (i:=i) (x:=⟨15,q,b,t⟩) (o:=o) (o':=o.set q (i:Int)) hlt (by unfold abJ;rw[if_pos rfl,if_pos ⟨hin2,hg⟩,ZB]) hin).1
       repeat' (first|refine W_ ?_|(refine ak ?_;intro ss bb)|refine ac ?_|refine ae hG hst (cin) ?_|refine bD ?_)
       rw[hset]
       refine ah (k+1,o.set q (i:Int)) ⟨by dsimp only;omega,hin3,hR⟩ (by dsimp only;omega) (.of _ nw_ od_ pk_)
     ·have cin:=bC (G:=G) a 0 ((i:Int) - 1)
      have cin':=bC (G:=G) a 0 ((i - 1:Nat):Int)
      rw[acX hin2] at cin
      rw[if_neg fun h=>hin2 h.1] at hR
      repeat' (first|refine W_ ?_|(refine ak ?_;intro ss bb)|refine ac ?_|refine ae hG hst (cin) ?_)
      refine fj x_ rfl (.tmp _ _ rfl) (.tmp _ _ rfl) (fun _=>?_) (fun _=>?_)
      ·exact iV hR.symm
      ·exact fE hR.symm
    ·rw[if_neg h15] at hR
     dsimp only at hR
     repeat' (first|refine W_ ?_|(refine ak ?_;intro ss bb)|refine ac ?_)
     refine ah (k+1,o) ⟨by dsimp only;omega,hin,hR⟩ (by dsimp only;omega) (.of _ nw_ od_ pk_)
   ·rw[oB hlk] at hR
    repeat' refine W_ ?_
    refine ah (i+1,o) ⟨by dsimp only;omega,hin,hR⟩ (by dsimp only;omega) (.of _ nw_ od_ pk_)
  ·rw[oq hlt] at hR
   repeat' refine W_ ?_
   apply ap (X:=Nat) [0,4] (fun j=>[(9,.int .i64 (j:Int))]) (fun _=>[(sd,bd,.row 1 (aS o))]) (fun j=>j<=cs.length/\∀q,q<j->∀h:q<cs.length,cs[q].block=decide (0<=gd o (q:Int))) (fun j=>cs.length - j) 0 ⟨Ze _,by omega⟩
   exact kp_;exact nw_
   ·exact .refl _
   rintro j ⟨hj,hja⟩
   try dsimp only
   by_cases hlj:j<cs.length
   ·have hra:=cj (lo:=lo) hlj
    have hrj:=fG (o:=o) (j:=j) (by rw[hin.1];exact hlj)
    have hbad:=rv (o:=o) hlj
    have hnx:cs[j].block=decide (0<=gd o (j:Int))->∀q,q<j+1->∀h:q<cs.length,cs[q].block=decide (0<=gd o (q:Int)):=fun ho=>cH hja fun _=>ho
    generalize cs[j]=c at hra hbad hnx
    obtain⟨cb,cp,csl,is⟩:=c
    dsimp only at hra hbad hnx
    generalize gd o (j:Int)=v at hrj hbad hnx
    by_cases hb:cb=decide (0<=v)
    ·repeat' (first|refine V_ ?_|refine c_ (fun hc=>?_) (fun hc=>?_))
     all_goals first
       | exact ah (j+1) ⟨by omega,hnx hb⟩ (by omega) (.of _ nw_ od_ pk_)
       | (exfalso;simp_all;done)
    ·rw[hbad hb] at hR
     repeat' (first|refine V_ ?_|refine c_ (fun hc=>?_) (fun hc=>?_))
     all_goals first
       | (exfalso;simp_all;done)
       | (refine fj x_ rfl (.tmp _ _ rfl) (.tmp _ _ rfl) (fun _=>?_) (fun _=>?_)
          ·exact iV hR.symm
          ·exact fE hR.symm)
   ·rw[oQ fun q hq=>hja q (by omega)] at hR
    repeat' refine W_ ?_
    refine fj x_ rfl (.tmp _ _ rfl) (.tmp _ _ rfl) (fun _=>?_) (fun _=>?_)
    ·exact yk hR.symm hin.1 Zi
    ·exact qR hR.symm
end
end Go.Proofs.YtifcomgnmokimaaGreatDoor
