/- Part 15 of the proof: the texts SdF, IvQ, IvR, IvT, IvJ. -/
import Derived.Test.YtofnnnpahglfdaaGreatDoorCo3
import Derived.Test.YtofnnnpahglfdaaGreatDoorCo11
import Derived.Test.YtofnnnpahglfdaaGreatDoorCo12
import Derived.Test.YtofnnnpahglfdaaGreatDoorCo6
set_option linter.all false
set_option maxHeartbeats 4000000
set_option maxRecDepth 20000
namespace Go.Proofs.YtofnnnpahglfdaaGreatDoor
open Go Go.RowKit
theorem rf {op:Int} {o:Nat} (h:o∈dc op):o=1\/o=2:=by
 unfold dc at h
 repeat' split at h
 all_goals first
   | (simp at h;done)
   | (simp at h;omega)
   | skip
theorem uk (op:Int):(dc op).length<=2:=by
 unfold dc
 repeat' split
 all_goals simp
theorem oL (op:Int) (s b:Nat):(yM op s b).length=(dc op).length:=by simp[yM]
theorem yH {op:Int} {s b q:Nat} (h:q<(dc op).length):(yM op s b)[q]?=some [.mp s b (dc op)[q]]:=by simp[yM,h]
def rB (a b:Int) (o:Nat):Int:=if o=1 then a else b
theorem sS (op a b:Int) (t:ByteArray):ak.labs ⟨op,a,b,t⟩=(dc op).map (rB a b):=age op a b t
theorem ym {α:Type} {p:α->Bool} {l:List α} {q:Nat} (h:q<l.length) (ha:(l.take q).all p=true):(l.take (q+1)).all p=p l[q]:=by
 rw[Z6,List.all_append,ha,Za h];simp
theorem acs {α:Type} {p:α->Bool} {l:List α} {q:Nat} (h:q<l.length) (hb:p l[q]=false):l.all p=false:=by
 rw[List.all_eq_false];exact⟨_,Zb h,by rw[hb];simp⟩
theorem aaA (n:Nat) (p d:Int) (r:List (Int×Int)) (ds:List Int) (q:List Nat):il n ((p,d)::r) (ds,q)=if vO n ds p d then none else if gd ds p<0 then il n r (ds.set p.toNat d,q++[p.toNat]) else il n r (ds,q):=rfl
def zJ (op:Int) (t:ByteArray):Bool:=!inR op 1 26 || ((decide (op=13) || decide (op=14)) && decide (co t.data.toList<0))
theorem uj (n:Nat) (op a b:Int) (t:ByteArray):d7 n ⟨op,a,b,t⟩=(!zJ op t && ((dc op).all fun o=>inR (rB a b o) 0 ((n:Int) - 1))):=by
 unfold d7 zJ
 rw[sS,List.all_map]
 have h1:decide (0<=co t.data.toList)=!decide (co t.data.toList<0):=by
   rw[<- decide_not];exact decide_eq_decide.2 (by omega)
 rw[h1]
 cases inR op 1 26 <;> cases decide (op=13) <;> cases decide (op=14) <;> cases decide (co t.data.toList<0) <;> rfl
theorem ka {G:World->Prop} (hst:aC G) (hca:∀s:ByteArray,s.size<=1048576->Ct Tryz.prog G 195 [.str s] (fun _=>.int .i64 (co s.data.toList)))
   (l2:Nat) (bl:Bool) (pr sl:Int) (is:List ak) (hn:is.length<=1048576) (ht:∀i∈is,i.text.size<=1048576) :
   CtM Tryz.prog G 196 [.agg [.bool bl,.int .i64 pr,.int .i64 sl,.sl l2 4 (eH is)]] [] (fun _:Nat×Nat=>True) (dO (cn is)) (dR (cn is)):=by
 refine aA Tryz.func196 rfl Tryz.ntmps196 rfl rfl rfl fun w0 R gs objsR hG hR=>?_
 obtain rfl:=hR.inv0
 clear hR
 have hlen:=ll is
 by_cases hz:is.length=0
 ·have hd:cn is=none:=by unfold cn;rw[if_pos hz]
  rw[hd]
  repeat' (first|refine W_ ?_|refine aN ?_)
  refine ft 2 1 (by omega) rfl fun ss=>cW x_ rfl (ss,0) trivial rfl (.cons _ _ _ _ (.nil R)) pk_ (.tmp _ _ rfl) (.tmp _ _ rfl) rfl
 have hnz:0<is.length:=by omega
 have hc1:((is.length - 1:Nat):Int)=(is.length:Int) - 1:=by omega
 have hnone:kx is=false->cn is=none:=fun h=>by unfold cn;rw[h];simp
 repeat' (first|refine W_ ?_|refine aN ?_)
 apply aj (X:=Nat) [1,4,26,1000000] (fun i=>[(27,.int .i64 (i:Int))]) (fun _=>R) (fun i=>i<=is.length/\(is.take i).all (d7 is.length)=true) (fun i=>is.length - i) 0 ⟨Zd _,rfl⟩
 exact kp_;exact nw_
 ·exact .refl _
 rintro i ⟨hi,hall⟩
 try dsimp only
 by_cases hlt:i<is.length
 ·have hii:(eH is)[i]?=some (is[i]).tv:=by simp only[eH,Zp];rw[Za hlt];rfl
  have htk:=ym hlt hall
  have hbad:=fun h=>hnone (acs (p:=d7 is.length) hlt h)
  have hti:=ht _ (Zb hlt)
  generalize is[i]=ii at hii hti htk hbad
  obtain⟨op,a,b,t⟩:=ii
  rw[uj] at htk hbad
  replace hii:(eH is)[i]?=some [.int .i64 op,.int .i64 a,.int .i64 b,.str t]:=hii
  replace hti:t.size<=1048576:=hti
  repeat' (first|refine H_ 8 ?_|(refine am ?_;intro ss bb)|refine ac ?_)
  refine⟨dM ?_⟩
  generalize ss=s6;generalize bb=b6
  apply gq (X:=Unit) [1,4,6,26,27,1000000] (fun _=>[(54,.bool (zJ op t))]) (fun _=>(s6,b6,.box [.int .i64 op,.int .i64 a,.int .i64 b,.str t])::R) (fun _=>True)
  case hk=>(repeat (first|exact jY.nil|(apply jY.cons;rfl)))
  ·clear hbad htk hall hii ht
   repeat' (first|refine W_ ?_|refine ad hG hst (aP _ _ _) ?_|refine ad hG hst (hca _ hti) ?_|refine g_ (fun hg=>?_) (fun hg=>?_))
   all_goals
     refine eG () trivial (.of _ (cq.envCons (kt rfl ?_) cq.envNil) od_ pk_)
     first
       | (simp[zJ, *];done)
       | (simp[zJ, *];simp[inR];done)
  intro _ _
  by_cases hb1:zJ op t=true
  ·have hd:=hbad (by rw[hb1];rfl)
   rw[hb1,hd]
   repeat' (first|with_reducible refine dt rfl ?_|((with_reducible first|apply o_move|apply nJ);rfl;rfl)|with_reducible refine dM ?_|with_reducible refine cG ?_|with_reducible refine fZ ?_|with_reducible refine ej ?_|with_reducible refine dg ?_|with_reducible refine em ?_|with_reducible refine ew ?_|with_reducible refine gp ?_|with_reducible refine bN ?_|with_reducible refine aq_block_miss rfl ?_|with_reducible refine bO ?_|with_reducible refine bU ?_|with_reducible refine bL ?_|with_reducible refine dA ?_|refine cH rfl rr_ ?_|refine cM rfl rr_ ?_|(refine cm rfl rr_ dd_ ?_)|(refine ck rfl rr_ dd_ ?_)|(refine eV rfl rr_ (fun hc=>?_) (fun hc=>?_))|(refine dC rfl rr_ (fun hc=>?_) (fun hc=>?_)))
   refine ft 2 1 (by omega) rfl fun ss=>cW x_ rfl (ss,0) trivial rfl (.cons _ _ _ _ (.nil R)) pk_ (.tmp _ _ rfl) (.tmp _ _ rfl) rfl
  rw[YL] at hb1
  rw[hb1] at htk hbad
  simp only[Yv,Zn] at htk hbad
  rw[hb1]
  have hlr:=oL op s6 b6
  have hol:=uk op
  repeat' (first|refine W_ ?_|((with_reducible apply aB);rfl;kernel_rfl;(repeat (first|exact ay.nil|((with_reducible apply ay.cons);rfl)));exact hG;exact pa s6 b6 op a b t;exact .cons _ _ _ _ (.nil _);intro y _;obtain⟨sl5,bl5⟩:=y;refine acf ?_))
  apply aj (X:=Nat) [1,4,26,27,55,56,1000000] (fun q=>[(57,.int .i64 (q:Int))]) (fun _=>(sl5,bl5,.row 1 (yM op s6 b6))::(s6,b6,.box [.int .i64 op,.int .i64 a,.int .i64 b,.str t])::R) (fun q=>q<=(dc op).length/\((dc op).take q).all (fun o=>inR (rB a b o) 0 ((is.length:Int) - 1))=true) (fun q=>(dc op).length - q) 0 ⟨Zd _,rfl⟩
  exact kp_;exact nw_
  ·exact .refl _
  rintro q ⟨hq,hqa⟩
  try dsimp only
  by_cases hql:q<(dc op).length
  ·have hrow:=yH (s:=s6) (b:=b6) hql
   have hqk:=ym hql hqa
   have hqb:=fun h=>hbad (acs (p:=fun o=>inR (rB a b o) 0 ((is.length:Int) - 1)) hql h)
   have hmem:=rf (Zb hql)
   generalize (dc op)[q]=o at hrow hqk hqb hmem
   by_cases hin:inR (rB a b o) 0 ((is.length:Int) - 1)=true
   ·have hw:∀G,Ct Tryz.prog G 70 [.int .i64 (rB a b o),.int .i64 0,.int .i64 ((is.length - 1:Nat):Int)] (fun _=>.bool true):=fun G=>by rw[hc1,<- hin];exact aP _ _ _
    rcases hmem with rfl|rfl
    all_goals
      first|rw[show rB a b 1=a from rfl] at hw|rw[show rB a b 2=b from rfl] at hw
      repeat' (first|refine W_ ?_|refine ad hG hst (hw _) ?_)
      exact ag (q+1) ⟨by omega,by rw[hqk,hin]⟩ (by omega) (.of _ nw_ od_ pk_)
   ·rw[YL] at hin
    have hd:=hqb hin
    rw[hd]
    have hw:∀G,Ct Tryz.prog G 70 [.int .i64 (rB a b o),.int .i64 0,.int .i64 ((is.length - 1:Nat):Int)] (fun _=>.bool false):=fun G=>by rw[hc1,<- hin];exact aP _ _ _
    rcases hmem with rfl|rfl
    all_goals
      first|rw[show rB a b 1=a from rfl] at hw|rw[show rB a b 2=b from rfl] at hw
      repeat' (first|refine W_ ?_|refine ad hG hst (hw _) ?_)
      refine ft 2 1 (by omega) rfl fun ss=>cW x_ rfl (ss,0) trivial rfl (.cons _ _ _ _ (.nil R)) pk_ (.tmp _ _ rfl) (.tmp _ _ rfl) rfl
  ·rw[Zc (by omega)] at hqa
   rw[hqa] at htk
   repeat' refine W_ ?_
   exact ag (i+1) ⟨by omega,htk⟩ (by omega) (.of _ nw_ od_ pk_)
 ·rw[Zc (by omega)] at hall
  have hd:cn is=sQ is (ml is) is.length (0::List.replicate (is.length - 1) (-1)) [0]:=by
    unfold cn;rw[if_neg hz,if_pos (show kx is=true from hall)]
  have hn1:1<=is.length:=hnz
  have hset:(aL (List.replicate is.length (-1))).set 0 [.int .i64 0]=aL (0::List.replicate (is.length - 1) (-1)):=by
    have e:is.length=(is.length - 1)+1:=by omega
    rw[e,ZY];rfl
  have hrow0:(aL (List.replicate is.length (-1)))[0]?=some [.int .i64 (-1)]:=by
    have e:is.length=(is.length - 1)+1:=by omega
    rw[e,ZY];rfl
  have hrep:=fun lo=>uo (G:=G) lo is.length hn1 hn
  repeat' (first|refine H_ 19 ?_|refine cK ?_|refine bm ?_|((with_reducible apply aB);rfl;kernel_rfl;(repeat (first|exact ay.nil|((with_reducible apply ay.cons);rfl)));exact hG;exact hrep _;exact .nil _;intro y _;obtain⟨ss,bb⟩:=y;refine bF ?_))
  refine⟨?_⟩
  generalize ss=sd;generalize bb=bd
  repeat' (first|refine W_ ?_|(refine jZ ?_;intro ss bb))
  generalize ss=st;generalize bb=bt
  rw[hset]
  have hpo:kx is=true:=hall
  clear hset hrow0 hrep hlt hnone hall hi
  apply aj (X:=List Int×List Nat×List (List TV)×Nat×Nat) [1,4,9,1000000] (fun x=>[(10,.ms st x.2.2.2.1 x.2.2.1.length x.2.1.length)]) (fun x=>(st,x.2.2.2.1,.row 1 (x.2.2.1++aL (nts x.2.1)))::(sd,bd,.row 1 (aL x.1))::R)
    (fun x=>x.2.2.2.2<=is.length/\DSt is.length x.1 x.2.1 x.2.2.2.2/\sQ is (ml is) x.2.2.2.2 x.1 x.2.1=cn is) (fun x=>x.2.2.2.2) (0::List.replicate (is.length - 1) (-1),[0],[],bt,is.length) ⟨Zf _,nX hn1,hd.symm⟩
  exact kp_;exact nw_
  ·exact .refl _
  rintro ⟨ds,q,pre,bt,f⟩ ⟨hf,hD,hfl⟩
  dsimp only at hf hD hfl |-
  cases q with
  | nil =>
    have hdl:=hD.len
    have hd':cn is=some ds:=by rw[<- hfl];simp[sQ]
    have h00:([]:List Nat).length=0:=rfl
    rw[hd']
    repeat' refine W_ ?_
    refine cW x_ rfl (sd,bd) trivial rfl (.cons _ _ _ _ (.nil R)) pk_ (.tmp _ _ rfl) (.tmp _ _ rfl) (by simp[dR,hdl])
  | cons p q =>
  obtain⟨j,rfl,hD',hpn,hg0⟩:=hD.pop
  clear hD
  have hlc:(p::q).length=q.length+1:=rfl
  rw[jg _ _ _ _ _ hpn] at hfl
  have hrange:=hD'.inv.gd (p:Nat)
  have hdl:=hD'.len
  have hmu:=hD'.mu
  have hgp:(pre++aL (nts (p::q)))[pre.length+0]?=some [.int .i64 (p:Int)]:=by
    rw[YC,Zr (Zf _),Yy];rfl
  have hdi:(aL ds)[p]?=some [.int .i64 (gd ds (p:Nat))]:=by
    have h9:=ry (ds:=ds) (p:=p) (by omega)
    simp only[aL,Zp]
    rw[Za (by omega),h9];rfl
  have hii:(eH is)[p]?=some (is[p]).tv:=by simp only[eH,Zp];rw[Za hpn];rfl
  have hpi:d7 is.length is[p]=true:=List.all_eq_true.1 hpo _ (Zb _)
  have hti:=ht _ (Zb hpn)
  generalize is[p]=ii at hfl hii hpi hti
  obtain⟨op,a,b,t⟩:=ii
  replace hti:t.size<=1048576:=hti
  have her:=jk ⟨op,a,b,t⟩
  have hop:inR op 1 26=true:=by simp only[d7,Zm] at hpi;exact hpi.1.1
  have hef:=ub hst hca op a b t hti hop
  have hnx:=aft hst hca op a b t p (gd ds p) hti hop (by omega) ⟨hg0,hrange.2⟩
  replace hii:(eH is)[p]?=some [.int .i64 op,.int .i64 a,.int .i64 b,.str t]:=hii
  have hstep:ml is ⟨op,a,b,t⟩ p ds=if gd ds p<(ak.eff ⟨op,a,b,t⟩).1 then none else if (ak.labs ⟨op,a,b,t⟩).any (im is p op) then none else il is.length (ak.nexts ⟨op,a,b,t⟩ p (gd ds p)) (ds,[]):=rfl
  rw[hstep,sS,List.any_map] at hfl
  clear hstep
  have hpi0:=hpi
  rw[uj,Zm] at hpi
  have hlb:=hpi.2
  clear hpi
  have hn0:¬ gd ds p<(ak.eff ⟨op,a,b,t⟩).1->∀x∈ak.nexts ⟨op,a,b,t⟩ p (gd ds p),0<=x.2:=fun h=>gN ⟨op,a,b,t⟩ p (gd ds p) hg0 h fun h14=>by
    have:=hpi0
    simp only[d7,Zm] at this
    have h3:=this.1.2
    simp[show op=14 from h14] at h3
    simp[ak.eff,show op=14 from h14];exact h3
  clear hpi0
  have hnl:=vy ⟨op,a,b,t⟩ p (gd ds p)
  generalize ak.nexts ⟨op,a,b,t⟩ p (gd ds p)=L at *
  generalize (ak.eff ⟨op,a,b,t⟩).1=e1 at *
  generalize (ak.eff ⟨op,a,b,t⟩).2=e2 at *
  generalize hgg:gd ds (p:Int)=g at *
  by_cases hlt:g<e1
  ·rw[if_pos hlt] at hfl
   rw[<- hfl]
   repeat' (first|refine W_ ?_|refine aeV ?_|(refine am ?_;intro ss bb)|refine ac ?_|refine ad hG hst (hef) ?_)
   refine ft 2 1 (by omega) rfl fun ss=>cW x_ rfl (ss,0) trivial rfl (.cons _ _ _ _ (.nil R)) pk_ (.tmp _ _ rfl) (.tmp _ _ rfl) rfl
  rw[if_neg hlt] at hfl
  replace hn0:=hn0 hlt
  have hlr:=fun s b=>oL op s b
  have hol:=uk op
  repeat' (first|refine W_ ?_|refine aeV ?_|(refine am ?_;intro ss bb)|refine ac ?_|refine ad hG hst (hef) ?_|((with_reducible apply aB);rfl;kernel_rfl;(repeat (first|exact ay.nil|((with_reducible apply ay.cons);rfl)));exact hG;exact pa ss bb op a b t;exact .cons _ _ _ _ (.nil _);intro y _;obtain⟨sl5,bl5⟩:=y;refine acf ?_))
  generalize ss=s6;generalize bb=b6
  have hlr6:=hlr s6 b6
  clear hlr
  apply aj (X:=Nat) [1,4,9,11,12,100,101,1000000] (fun k=>[(102,.int .i64 (k:Int)),(10,.ms st bt (pre++[[TV.int .i64 (p:Int)]]).length q.length)]) (fun _=>(sl5,bl5,.row 1 (yM op s6 b6))::(s6,b6,.box [.int .i64 op,.int .i64 a,.int .i64 b,.str t])::(st,bt,.row 1 ((pre++[[TV.int .i64 (p:Int)]])++aL (nts q)))::(sd,bd,.row 1 (aL ds))::R)
    (fun k=>k<=(dc op).length/\((dc op).take k).any (im is p op ∘ rB a b)=false) (fun k=>(dc op).length - k) 0 ⟨Zd _,rfl⟩
  (repeat (first|exact jY.nil|(apply jY.cons;rfl)))
  ·(repeat (first|exact cq.envNil|refine cq.envCons (by first|rfl|exact agD rfl (by simp) (by simp)) ?_))
  ·refine .cons (.head _) (.cons (.head _) ?_)
   rw[Zh]
   exact .refl _
  have hpr:(pre++[[TV.int .i64 (p:Int)]]).length=pre.length+1:=by simp
  generalize pre++[[TV.int .i64 (p:Int)]]=pre1 at *
  rintro k ⟨hk,hka⟩
  try dsimp only
  by_cases hkl:k<(dc op).length
  ·have hrow:=yH (s:=s6) (b:=b6) hkl
   have hkk:((dc op).take (k+1)).any (im is p op ∘ rB a b)=(im is p op ∘ rB a b) (dc op)[k]:=by
     rw[Z6,List.any_append,hka,Za hkl];simp
   have hkb:(im is p op ∘ rB a b) (dc op)[k]=true->(dc op).any (im is p op ∘ rB a b)=true:=fun h=>List.any_eq_true.2 ⟨_,Zb hkl,h⟩
   have hmem:=rf (Zb hkl)
   have hin:=List.all_eq_true.1 hlb _ (Zb hkl)
   generalize (dc op)[k]=o at hrow hkk hkb hmem hin
   dsimp only [Function.comp] at hkk hkb
   simp only[inR,decide_eq_true_eq] at hin
   obtain⟨vn,hvn⟩:∃vn:Nat,rB a b o=(vn:Int):=⟨(rB a b o).toNat,by omega⟩
   rw[hvn] at hkk hkb hin
   have hvl:vn<is.length:=by omega
   repeat' refine H_ 30 ?_
   refine⟨dM ?_⟩
   apply gq (X:=Unit) [1,4,9,10,11,12,100,101,102,1000000] (fun _=>[(126,.bool (im is p op (vn:Int)))]) (fun _=>(sl5,bl5,.row 1 (yM op s6 b6))::(s6,b6,.box [.int .i64 op,.int .i64 a,.int .i64 b,.str t])::(st,bt,.row 1 (pre1++aL (nts q)))::(sd,bd,.row 1 (aL ds))::R) (fun _=>True)
   case hk=>(repeat (first|exact jY.nil|(apply jY.cons;rfl)))
   ·have hri:(eH is)[vn]?=some (is[vn]).tv:=by simp only[eH,Zp];rw[Za hvl];rfl
    have hoa:agk is (vn:Int)=is[vn].op:=by simp[agk,hvl]
    clear hkk hkb hka hlb hfl hnx hef hpo ht
    generalize is[vn]=iu at hri hoa
    obtain⟨op',a',b',t'⟩:=iu
    replace hri:(eH is)[vn]?=some [.int .i64 op',.int .i64 a',.int .i64 b',.str t']:=hri
    have hbs:im is p op (vn:Int)=(!decide (op=26) && decide ((vn:Int)<=p) && !decide (op'=23)):=by simp[im,hoa]
    rw[hbs]
    have hw3:op=26\/(¬ op=26/\(vn:Int)<=p)\/(¬ op=26/\¬ (vn:Int)<=p):=by omega
    rcases hmem with rfl|rfl
    all_goals
      first
        | obtain rfl:a=(vn:Int):=hvn
        | obtain rfl:b=(vn:Int):=hvn
      rcases hw3 with h26|⟨h26,hle⟩|⟨h26,hle⟩
      all_goals
        repeat' refine V_ ?_
        refine eG () trivial (.of _ nw_ od_ pk_)
   ·intro _ _
    by_cases hbk:im is p op (vn:Int)=true
    ·rw[hkb hbk,if_pos rfl] at hfl
     rw[hbk,<- hfl]
     repeat' (first|with_reducible refine dt rfl ?_|((with_reducible first|apply o_move|apply nJ);rfl;rfl)|with_reducible refine dM ?_|with_reducible refine cG ?_|with_reducible refine fZ ?_|with_reducible refine ej ?_|with_reducible refine dg ?_|with_reducible refine em ?_|with_reducible refine ew ?_|with_reducible refine gp ?_|with_reducible refine bN ?_|with_reducible refine aq_block_miss rfl ?_|with_reducible refine bO ?_|with_reducible refine bU ?_|with_reducible refine bL ?_|with_reducible refine dA ?_|refine cH rfl rr_ ?_|refine cM rfl rr_ ?_|(refine cm rfl rr_ dd_ ?_)|(refine ck rfl rr_ dd_ ?_)|(refine eV rfl rr_ (fun hc=>?_) (fun hc=>?_))|(refine dC rfl rr_ (fun hc=>?_) (fun hc=>?_)))
     refine ft 2 1 (by omega) rfl fun ss=>cW x_ rfl (ss,0) trivial rfl (.cons _ _ _ _ (.nil R)) pk_ (.tmp _ _ rfl) (.tmp _ _ rfl) rfl
    ·rw[YL] at hbk
     rw[hbk]
     repeat' refine W_ ?_
     exact ag (k+1) ⟨by omega,by rw[hkk,hbk]⟩ (by omega) (.of _ nw_ od_ pk_)
  ·rw[Zc (by omega)] at hka
   rw[hka,if_neg (by simp)] at hfl
   repeat' (first|refine V_ ?_|refine ai hG hst (hnx) ?_)
   clear hka hlb hef hnx hmu
   apply aj (X:=Nat×List Int×List Nat×Nat×List (List TV)) [1,4,9,134,135,1000000] (fun x=>[(136,.int .i64 (x.1:Int)),(10,.ms st x.2.2.2.1 x.2.2.2.2.length (q.length+x.2.2.1.length))])
     (fun x=>(st,x.2.2.2.1,.row 1 (x.2.2.2.2++aL (nts (q++x.2.2.1))))::(sd,bd,.row 1 (aL x.2.1))::R)
     (fun x=>x.1<=L.length/\x.2.1.length=is.length/\x.2.2.1.length<=x.1/\il is.length (L.drop x.1) (x.2.1,x.2.2.1)=il is.length L (ds,[])) (fun x=>L.length - x.1) (0,ds,[],bt,pre1) ⟨Zd _,hdl,Zd _,rfl⟩
   exact kp_;exact nw_
   ·rw[Zo];exact pk_
   rintro ⟨k,ds',new,bt',pre'⟩ ⟨hk,hdl',hnw,hpu⟩
   dsimp only at hk hdl' hnw hpu |-
   have hqf:q.length<=is.length:=by have:=hD'.mu;omega
   by_cases hkl:k<L.length
   ·rw[ZH hkl] at hpu
    have hrow:(plR L)[k]?=some [.int .i64 L[k].1,.int .i64 L[k].2]:=by simp[plR,hkl]
    generalize L[k]=uv at hpu hrow
    obtain⟨u,v⟩:=uv
    dsimp only at hrow
    rw[aaA] at hpu
    repeat' (first|((with_reducible apply o_y);exact y_;rfl)|(refine am ?_;intro ss bb)|refine ac ?_|with_reducible refine vF (id:=10) ?_  | with_reducible refine dt rfl ?_|(with_reducible first|apply dM|apply cG|apply fZ|apply ej|apply dg|apply em|apply ew|apply gp|apply bN|apply(aq_block_miss rfl)|apply bO|apply bU|apply bL|apply dA)|refine jp rfl rfl rfl rr_ ?_|refine f5 rfl rfl rfl rr_ rfl rfl rfl ?_|refine e9 rfl rfl rfl rr_ rfl rfl ?_|(refine pH rfl rfl rfl rr_ dd_ ?_)|(refine oH rfl rfl rfl rr_ dd_ ?_)|(refine ef rfl rfl rfl rr_ (fun hg=>?_) (fun hg=>?_))|(refine dT rfl rfl rfl rr_ (fun hg=>?_) (fun hg=>?_))|refine cH rfl rr_ ?_|refine cM rfl rr_ ?_|(refine cm rfl rr_ dd_ ?_)|(refine ck rfl rr_ dd_ ?_)|(refine eV rfl rr_ (fun hc=>?_) (fun hc=>?_))|(refine dC rfl rr_ (fun hc=>?_) (fun hc=>?_)))
    refine⟨dg (dM ?_)⟩
    generalize ss=s8;generalize bb=b8
    apply gq (X:=Unit) [1,4,9,10,18,134,135,136,1000000] (fun _=>[(140,.bool (vO is.length ds' u v))]) (fun _=>(s8,b8,.box [.int .i64 u,.int .i64 v])::(st,bt',.row 1 (pre'++aL (nts (q++new))))::(sd,bd,.row 1 (aL ds'))::R) (fun _=>True)
    case hk=>(repeat (first|exact jY.nil|(apply jY.cons;rfl)))
    ·clear hpu hfl hn0 hpo ht
     by_cases hin:inR u 0 ((is.length:Int) - 1)=true
     ·have hw:∀G,Ct Tryz.prog G 70 [.int .i64 u,.int .i64 0,.int .i64 ((is.length - 1:Nat):Int)] (fun _=>.bool true):=fun G=>by rw[hc1,<- hin];exact aP _ _ _
      have hin2:0<=u/\u<=(is.length:Int) - 1:=by simpa [inR] using hin
      obtain⟨un,rfl⟩:∃un:Nat,u=(un:Int):=⟨u.toNat,by omega⟩
      have hun:un<is.length:=by omega
      have hrd:(aL ds')[un]?=some [.int .i64 (gd ds' (un:Int))]:=by
        have h9:=ry (ds:=ds') (p:=un) (by omega)
        simp only[aL,Zp]
        rw[Za (by omega),h9];rfl
      have hbs:vO is.length ds' (un:Int) v=(decide (250<v) || (decide (0<=gd ds' (un:Int)) && !decide (gd ds' (un:Int)=v))):=by simp[vO,hin]
      rw[hbs]
      generalize gd ds' (un:Int)=gv at hrd |-
      have hw3:250<v\/(¬ 250<v/\0<=gv)\/(¬ 250<v/\¬ 0<=gv):=by omega
      rcases hw3 with h250|⟨h250,hg0'⟩|⟨h250,hg0'⟩
      all_goals
        repeat' (first|refine V_ ?_|refine ai hG hst (hw _) ?_)
        refine eG () trivial (.of _ (cq.envCons (kt rfl (by simp[*])) cq.envNil) od_ pk_)
     ·rw[YL] at hin
      have hw:∀G,Ct Tryz.prog G 70 [.int .i64 u,.int .i64 0,.int .i64 ((is.length - 1:Nat):Int)] (fun _=>.bool false):=fun G=>by rw[hc1,<- hin];exact aP _ _ _
      have hbs:vO is.length ds' u v=true:=by simp[vO,hin]
      rw[hbs]
      repeat' (first|refine V_ ?_|refine ai hG hst (hw _) ?_)
      refine eG () trivial (.of _ nw_ od_ pk_)
    ·intro _ _
     by_cases hb:vO is.length ds' u v=true
     ·rw[if_pos hb] at hpu
      rw[<- hpu] at hfl
      dsimp only at hfl
      rw[hb,<- hfl]
      repeat' (first|with_reducible refine dt rfl ?_|((with_reducible first|apply o_move|apply nJ);rfl;rfl)|with_reducible refine dM ?_|with_reducible refine cG ?_|with_reducible refine fZ ?_|with_reducible refine ej ?_|with_reducible refine dg ?_|with_reducible refine em ?_|with_reducible refine ew ?_|with_reducible refine gp ?_|with_reducible refine bN ?_|with_reducible refine aq_block_miss rfl ?_|with_reducible refine bO ?_|with_reducible refine bU ?_|with_reducible refine bL ?_|with_reducible refine dA ?_|refine cH rfl rr_ ?_|refine cM rfl rr_ ?_|(refine cm rfl rr_ dd_ ?_)|(refine ck rfl rr_ dd_ ?_)|(refine eV rfl rr_ (fun hc=>?_) (fun hc=>?_))|(refine dC rfl rr_ (fun hc=>?_) (fun hc=>?_)))
      refine ft 2 1 (by omega) rfl fun ss=>cW x_ rfl (ss,0) trivial rfl (.cons _ _ _ _ (.nil R)) pk_ (.tmp _ _ rfl) (.tmp _ _ rfl) rfl
     ·rw[if_neg hb] at hpu
      have hin:inR u 0 ((is.length:Int) - 1)=true:=by
        cases h:inR u 0 ((is.length:Int) - 1)
        ·exact absurd (by simp[vO,h]) hb
        ·rfl
      rw[YL] at hb
      rw[hb]
      have hin2:0<=u/\u<=(is.length:Int) - 1:=by simpa [inR] using hin
      obtain⟨un,rfl⟩:∃un:Nat,u=(un:Int):=⟨u.toNat,by omega⟩
      have hun:un<is.length:=by omega
      have hrd:(aL ds')[un]?=some [.int .i64 (gd ds' (un:Int))]:=by
        have h9:=ry (ds:=ds') (p:=un) (by omega)
        simp only[aL,Zp]
        rw[Za (by omega),h9];rfl
      have hrl:pre'.length+(q.length+new.length)<=(pre'++aL (nts (q++new))).length:=by simp[aL,nts]
      have hlive:((pre'++aL (nts (q++new))).drop pre'.length).take (q.length+new.length)=aL (nts (q++new)):=by
        rw[List.drop_left,Zc (by simp[aL,nts])]
      by_cases hgn:gd ds' (un:Int)<0
      ·rw[if_pos hgn] at hpu
       have hset:(aL ds').set un [.int .i64 v]=aL (ds'.set un v):=lh ds' un v
       repeat' (first|refine W_ ?_|refine bm ?_|refine cK ?_|(refine agB ?_;intro bb pp))
       refine ag (k+1,ds'.set un v,new++[un],bb,pp) ⟨by dsimp only;omega,by simp[hdl'],by simp;omega,by dsimp only;rw[<- hpu];rfl⟩ (by dsimp only;omega) (.of _ nw_ od_ pk_)
      ·rw[if_neg hgn] at hpu
       repeat' refine W_ ?_
       refine ag (k+1,ds',new,bt',pre') ⟨by dsimp only;omega,hdl',by dsimp only;omega,by dsimp only;exact hpu⟩ (by dsimp only;omega) (.of _ nw_ od_ pk_)
   ·rw[Yo (by omega)] at hpu
    rw[<- hpu] at hfl
    dsimp only [il] at hfl
    repeat' refine W_ ?_
    refine ag (ds',q++new,pre',bt',j) ⟨by dsimp only;omega, ?_,by dsimp only;exact hfl⟩ (by dsimp only;omega) (.of _ nw_ od_ pk_)
    dsimp only
    exact jK L ds q [] (ds',new) hn0 (by rw[Zo];exact hD') hpu.symm
def sw (cs:List aH) (k n:Int):Prop:=∃x,cs[k.toNat]?=some x/\x.block=false/\x.params=n
theorem iM {cs:List aH} {k n:Int} {j:Nat} {x:aH} (hk:k=j) (hx:cs[j]?=some x):sw cs k n↔x.block=false/\x.params=n:=by
 unfold sw
 subst hk
 rw[ZF,hx]
 constructor
 ·rintro ⟨y,hy,h⟩;cases hy;exact h
 ·exact fun h=>⟨x,rfl,h⟩
def fw (nc:Nat) (cs:List aH) (e:aF):Prop :=
 (cY e.selector.data.toList=true/\inR e.owner 16 ((nc:Int) - 1)=true/\inR e.code 0 ((cs.length:Int) - 1)=true)/\sw cs e.code (co e.selector.data.toList)
def eL (e f:aF):Prop:=f.owner=e.owner/\f.class_=e.class_/\f.selector=e.selector
def dZ (es:List aF) (i:Nat) (e:aF):Prop:=∀f∈es.take i,¬ eL e f
def o8 (nc:Nat) (cs:List aH) (es:List aF):Prop:=∀(i:Nat) (h:i<es.length),fw nc cs es[i]/\dZ es i es[i]
open Classical in
noncomputable def fW (nc:Nat) (cs:List aH) (es:List aF):Bool:=decide (o8 nc cs es/\es.length<=96)
theorem wd {nc:Nat} {cs:List aH} {es:List aF} {i:Nat} (h:i<es.length) (hb:¬ (fw nc cs es[i]/\dZ es i es[i])):¬ o8 nc cs es:=fun k=>hb (k i h)
theorem vJ {nc:Nat} {cs:List aH} {es:List aF} (h:∀j,j<es.length->∀h:j<es.length,fw nc cs es[j]/\dZ es j es[j]):o8 nc cs es:=fun i hi=>h i hi hi
open Classical in
theorem mH {nc:Nat} {cs:List aH} {es:List aF} {i:Nat} (h:i<es.length) (hb:¬ (fw nc cs es[i]/\dZ es i es[i])):fW nc cs es=false:=decide_eq_false fun k=>wd h hb k.1
open Classical in
theorem kR {nc:Nat} {cs:List aH} {es:List aF} (h:∀j,j<es.length->∀h:j<es.length,fw nc cs es[j]/\dZ es j es[j]):fW nc cs es=decide ((es.length:Int)<=96):=by
 unfold fW
 rw[decide_eq_decide]
 exact⟨fun h=>by omega,fun k=>⟨vJ h,by omega⟩⟩
open Classical in
theorem sC {nc:Nat} {cs:List aH} {es:List aF} (h:¬ es.length<=96):fW nc cs es=false:=decide_eq_false fun k=>h k.2
def aci (i:Nat) (x:ak) (o:List Int):Option (List Int) :=
 if x.op=15 then (if (0<=x.a/\x.a<=(i:Int) - 1)/\¬ 0<=gd o x.a then some (o.set x.a.toNat i) else none) else some o
def mZ (i:Nat):List ak->List Int->Option (List Int)
 | [],o=>some o
 | x::r,o=>match aci i x o with
   | none=>none
   | some o'=>mZ i r o'
def uR:Nat->List aH->List Int->Option (List Int)
 | _,[],o=>some o
 | i,x::r,o=>match mZ i x.instrs o with
   | none=>none
   | some o'=>uR (i+1) r o'
def tk (cs:List aH) (o:List Int):Prop:=∀(i:Nat) (h:i<cs.length),cs[i].block=decide (0<=gd o (i:Int))
open Classical in
noncomputable def hU (cs:List aH):Option (List Int)->Option (List Int)
 | none=>none
 | some o=>if tk cs o then some o else none
noncomputable def gj (cs:List aH) (i:Nat) (r:List ak) (o:List Int):Option (List Int):=hU cs (match mZ i r o with
   | none=>none
   | some o'=>uR (i+1) (cs.drop (i+1)) o')
noncomputable def gm (cs:List aH) (i:Nat) (o:List Int):Option (List Int):=hU cs (uR i (cs.drop i) o)
noncomputable def fy (cs:List aH):Option (List Int):=gm cs 0 (List.replicate cs.length (-1))
theorem mY {cs:List aH} {i:Nat} (h:i<cs.length) (o:List Int):gm cs i o=gj cs i cs[i].instrs o:=by
 unfold gm gj
 rw[ZH h];rfl
theorem pd {cs:List aH} {i:Nat} (h:¬ i<cs.length) (o:List Int):gm cs i o=hU cs (some o):=by
 unfold gm
 rw[Yo (by omega)];rfl
theorem mW {cs:List aH} {i k:Nat} {is:List ak} (h:k<is.length) (o:List Int):gj cs i (is.drop k) o=match aci i is[k] o with
   | none=>none
   | some o'=>gj cs i (is.drop (k+1)) o':=by
 unfold gj
 rw[ZH h]
 show hU cs (match (match aci i is[k] o with|none=>none|some o'=>mZ i (is.drop (k+1)) o') with|none=>none|some o'=>uR (i+1) (cs.drop (i+1)) o')=_
 cases aci i is[k] o <;> rfl
theorem pu {cs:List aH} {i k:Nat} {is:List ak} (h:¬ k<is.length) (o:List Int):gj cs i (is.drop k) o=gm cs (i+1) o:=by
 unfold gj gm
 rw[Yo (by omega)];rfl
theorem tK {o:List Int} {a b:Nat} {v:Int} (h:a≠b):gd (o.set a v) (b:Int)=gd o (b:Int):=by
 simp[gd,Xa,h]
theorem lu {o:List Int} {a:Nat} {v:Int} (h:a<o.length):gd (o.set a v) (a:Int)=v:=by
 simp[gd,Xa,h]
def di (n:Nat) (o:List Int):Prop:=o.length=n/\∀j:Nat,j<n->gd o j=-1\/((j:Int)<gd o j/\gd o j<n)
theorem iO (n:Nat):di n (List.replicate n (-1)):=⟨by simp,fun j hj=>.inl (by simp[gd,hj])⟩
theorem nI {n i:Nat} {x:ak} {o o':List Int} (hi:i<n) (h:aci i x o=some o') (ho:di n o):di n o'/\∀j:Nat,0<=gd o j->0<=gd o' j:=by
 unfold aci at h
 split at h
 ·split at h
  ·rename_i h1
   cases h
   obtain⟨a,ha⟩:∃a:Nat,x.a=a:=⟨x.a.toNat,by omega⟩
   rw[ha] at h1 |-
   rw[ZF]
   have hal:a<n:=by omega
   refine⟨⟨by simp[ho.1],fun j hj=>?_⟩,fun j hj=>?_⟩
   ·by_cases hja:a=j
    ·subst hja
     rw[lu (by rw[ho.1];exact hal)]
     exact .inr ⟨by omega,by omega⟩
    ·rw[tK hja];exact ho.2 j hj
   ·by_cases hja:a=j
    ·subst hja
     rw[lu (by rw[ho.1];exact hal)];omega
    ·rw[tK hja];exact hj
  ·cases h
 ·cases h;exact⟨ho,fun j hj=>hj⟩
theorem hY {n i:Nat} (hi:i<n):∀{r:List ak} {o o':List Int},mZ i r o=some o'->di n o->di n o'/\∀j:Nat,0<=gd o j->0<=gd o' j
 | [],o,o',h,ho=>by cases h;exact⟨ho,fun _ hj=>hj⟩
 | x::r,o,o',h,ho=>by
   unfold mZ at h
   split at h
   ·cases h
   ·rename_i o1 h1
    obtain⟨h2,h3⟩:=nI hi h1 ho
    obtain⟨h4,h5⟩:=hY hi h h2
    exact⟨h4,fun j hj=>h5 j (h3 j hj)⟩
theorem lb {n:Nat}:∀{r:List aH} {i:Nat} {o o':List Int},i+r.length<=n->uR i r o=some o'->di n o->di n o'/\∀j:Nat,0<=gd o j->0<=gd o' j
 | [],i,o,o',_,h,ho=>by cases h;exact⟨ho,fun _ hj=>hj⟩
 | x::r,i,o,o',hn,h,ho=>by
   unfold uR at h
   split at h
   ·cases h
   ·rename_i o1 h1
    simp only[ZC] at hn
    obtain⟨h2,h3⟩:=hY (by omega) h1 ho
    obtain⟨h4,h5⟩:=lb (by omega) h h2
    exact⟨h4,fun j hj=>h5 j (h3 j hj)⟩
theorem km {cs:List aH} {p:Option (List Int)} {o:List Int} (h:hU cs p=some o):p=some o/\tk cs o:=by
 cases p with
 | none=>cases h
 | some o' =>
   by_cases hf:tk cs o'
   ·have:hU cs (some o')=some o':=by unfold hU;exact if_pos hf
    rw[this] at h;cases h;exact⟨rfl,hf⟩
   ·have:hU cs (some o')=none:=by unfold hU;exact if_neg hf
    rw[this] at h;cases h
theorem kg {cs:List aH} {o:List Int} (h:fy cs=some o):di cs.length o/\tk cs o:=by
 obtain⟨h1,h2⟩:=km h
 exact⟨(lb (by simp) h1 (iO _)).1,h2⟩
theorem oz {cs:List aH} {i k:Nat} {is:List ak} {o:List Int} {a:Nat} (hi:i<cs.length) (ho:di cs.length o) (ha:a<cs.length) (hb:cs[a].block=false) (hp:0<=gd o (a:Int)):gj cs i (is.drop k) o=none:=by
 cases h:gj cs i (is.drop k) o with
 | none=>rfl
 | some o' =>
   exfalso
   obtain⟨h1,h2⟩:=km h
   split at h1
   ·cases h1
   ·rename_i o1 h3
    obtain⟨h4,h5⟩:=hY hi h3 ho
    obtain⟨h6,h7⟩:=lb (by simp;omega) h1 h4
    have h8:=h2 a ha
    rw[hb] at h8
    have h9:=h7 a (h5 a hp)
    rw[decide_eq_true h9] at h8
    cases h8
theorem rA {cs:List aH} {o:List Int} {i:Nat} (h:i<cs.length) (hb:cs[i].block≠decide (0<=gd o (i:Int))):hU cs (some o)=none:=by
 unfold hU
 exact if_neg fun k=>hb (k i h)
theorem oK {cs:List aH} {o:List Int} (h:∀j,j<cs.length->∀h:j<cs.length,cs[j].block=decide (0<=gd o (j:Int))):hU cs (some o)=some o:=by
 unfold hU
 exact if_pos fun i hi=>h i hi hi
def ik (o:List Int):Nat->Int->List Int
 | 0,_=>[]
 | n+1,k=>if k<0 then [] else k::ik o n (gd o k)
def upN (o:List Int):Nat->Int->Int
 | 0,k=>k
 | n+1,k=>if k<0 then k else upN o n (gd o k)
theorem rS (o:List Int) (n:Nat) {k:Int} (h:k<0):upN o n k=k:=by
 cases n with
 | zero=>rfl
 | succ n=>unfold upN;rw[if_pos h]
theorem nN {o:List Int} (hinv:di o.length o):∀(n:Nat) (k:Int) (b:Nat),k=-1\/(0<=k/\k<o.length/\o.length<=n+k.toNat)->(ik o n k)[b]?=if 0<=upN o b k then some (upN o b k) else none
 | 0,k,b,h=>by
   obtain rfl:k=-1:=by omega
   rw[rS o b (by omega)];rfl
 | n+1,k,b,h=>by
   rcases h with rfl|⟨h0,h1,h2⟩
   ·rw[rS o b (by omega)];rfl
   ·unfold ik
    rw[if_neg (by omega)]
    obtain⟨j,rfl⟩:∃j:Nat,k=j:=⟨k.toNat,by omega⟩
    cases b with
    | zero =>
      show some (j:Int)=_
      unfold upN
      rw[if_pos h0]
    | succ b =>
      show (ik o n (gd o j))[b]?=_
      have hj:=hinv.2 j (by omega)
      rw[nN hinv n (gd o j) b (by rw[ZF] at h2;omega)]
      have:upN o (b+1) j=upN o b (gd o j):=by
        conv=>lhs;unfold upN
        rw[if_neg (by omega)]
      rw[this]
theorem lD (o:List Int):∀(n:Nat) (k:Int),(ik o n k).length<=n
 | 0,_=>Zf _
 | n+1,k=>by
   unfold ik
   split
   ·simp
   ·have:=lD o n (gd o k);simp;omega
theorem ca {lo:Nat} {cs:List aH} {j:Nat} (h:j<cs.length):(cs.map (aH.tw lo))[j]?=some [.bool cs[j].block,.int .i64 cs[j].params,.int .i64 cs[j].slots,.sl lo 4 (cs[j].instrs.map (ak.tw lo))]:=aK h
theorem jM {lo:Nat} {es:List aF} {j:Nat} (h:j<es.length):(es.map (aF.tw lo))[j]?=some [.int .i64 es[j].owner,.bool es[j].class_,.str es[j].selector,.int .i64 es[j].code]:=aK h
theorem jF {lo:Nat} {is:List ak} {j:Nat} (h:j<is.length):(is.map (ak.tw lo))[j]?=some [.int .i64 is[j].op,.int .i64 is[j].a,.int .i64 is[j].b,.str is[j].text]:=aK h
def ak.none:ak:=⟨0,0,0,⟨#[]⟩⟩
def fi (cs:List aH) (o:List Int) (k:Nat) (b:Int):Option aH:=if 0<=b/\0<=upN o b.toNat k then cs[(upN o b.toNat k).toNat]? else none
def xo (cs:List aH) (o:List Int) (k:Nat) (x:ak):Bool:=match fi cs o k x.b with
 | none=>false
 | some y=>inR x.a (if x.op=9 then y.params else 0) (IntKind.i64.wrap (y.slots - 1))
def eR (x:ak):Prop:=inR x.op 1 26=true/\(agj x.op=true\/x.a=0)/\(agv x.op=true\/x.b=0)/\(agV x.op=true\/x.text=⟨#[]⟩)
instance (x:ak):Decidable (eR x):=by unfold eR;infer_instance
def dk (cs:List aH) (nc:Nat) (o:List Int) (k:Nat) (own:aH) (x:ak):Bool :=
 if x.op=1 then inR x.a 0 999999999
 else if x.op=2 then pS x.text
 else if x.op=3\/x.op=13 then cY x.text.data.toList
 else if x.op=8\/x.op=9 then xo cs o k x
 else if x.op=10\/x.op=11 then cO x.text.data.toList
 else if x.op=12 then inR x.a 0 ((nc:Int) - 1)
 else if x.op=14 then cY x.text.data.toList && inR x.a 0 ((nc:Int) - 1)
 else if x.op=20 then inR x.a 0 ((own.instrs.length:Int) - 1)
 else if x.op=21\/x.op=22 then inR x.a 0 ((own.instrs.length:Int) - 1) && inR x.b 0 ((own.instrs.length:Int) - 1)
 else if x.op=24 then inR x.b 0 ((own.instrs.length:Int) - 1)
 else if x.op=25\/x.op=26 then inR x.a own.params (own.slots - 1) && inR x.b 0 ((own.instrs.length:Int) - 1)
 else true
def fG (cs:List aH) (nc:Nat) (o:List Int) (k:Nat) (own:aH) (x:ak):Bool:=decide (eR x) && dk cs nc o k own x
theorem abi {cs:List aH} {nc:Nat} {o:List Int} {k:Nat} {own:aH} {x:ak} (h:fG cs nc o k own x=true):d7 own.instrs.length x=true:=by
 obtain⟨op,a,b,t⟩:=x
 unfold fG at h
 rw[Zm,decide_eq_true_eq] at h
 obtain⟨h0,h2⟩:=h
 have h1:=h0.1
 clear h0
 unfold d7
 rw[sS,List.all_map]
 simp only[inR,decide_eq_true_eq] at h1
 unfold dk at h2
 dsimp only at h2 h1 |-
 have h3:inR op 1 26=true:=wb h1
 rw[h3,<- ac9]
 simp only[dc]
 have hc:op=1\/op=2\/op=3\/op=4\/op=5\/op=6\/op=7\/op=8\/op=9\/op=10\/op=11\/op=12\/op=13\/op=14\/op=15\/op=16\/op=17\/op=18\/op=19\/op=20\/op=21\/op=22\/op=23\/op=24\/op=25\/op=26:=by omega
 clear h1 h3
 rcases hc with rfl|rfl|rfl|rfl|rfl|rfl|rfl|rfl|rfl|rfl|rfl|rfl|rfl|rfl|rfl|rfl|rfl|rfl|rfl|rfl|rfl|rfl|rfl|rfl|rfl|rfl
 all_goals first
   | rfl
   | (simp at h2;simp[h2,rB];done)
   | (simp at h2;simp[h2.1,h2.2,rB];done)
theorem rh {cs:List aH} {nc:Nat} {o:List Int} {k:Nat} {own:aH} (h:∀y∈own.instrs,fG cs nc o k own y=true):kx own.instrs=true:=by
 unfold kx
 rw[List.all_eq_true]
 exact fun x hx=>abi (h x hx)
def jo (cs:List aH) (i:Nat) (x:ak):Prop:=x.op=15->(0<=x.a/\x.a<=(i:Int) - 1)/\∃y,cs[x.a.toNat]?=some y/\y.block=true
theorem q6 {n i:Nat} (hi:i<n):∀{r:List ak} {o o':List Int},mZ i r o=some o'->di n o->∀x∈r,x.op=15->(0<=x.a/\x.a<=(i:Int) - 1)/\0<=gd o' x.a
 | [],o,o',h,ho,x,hx,_=>by cases hx
 | y::r,o,o',h,ho,x,hx,h15=>by
   unfold mZ at h
   split at h
   ·cases h
   ·rename_i o1 h1
    obtain⟨h2,h3⟩:=nI hi h1 ho
    rcases List.mem_cons.1 hx with rfl|hx
    ·unfold aci at h1
     rw[if_pos h15] at h1
     split at h1
     ·rename_i h4
      cases h1
      refine⟨h4.1, ?_⟩
      obtain⟨a,ha⟩:∃a:Nat,x.a=a:=⟨x.a.toNat,by omega⟩
      have h5:=(hY hi h h2).2 a
      rw[ha] at h5 |-
      refine h5 ?_
      rw[ZF,lu (by rw[ho.1];omega)]
      omega
     ·cases h1
    ·exact q6 hi h h2 x hx h15
theorem tN {n:Nat}:∀{r:List aH} {i:Nat} {o o':List Int},i+r.length<=n->uR i r o=some o'->di n o->∀(j:Nat) (c:aH),r[j]?=some c->∀x∈c.instrs,x.op=15->(0<=x.a/\x.a<=((i+j:Nat):Int) - 1)/\0<=gd o' x.a
 | [],i,o,o',_,h,ho,j,c,hc,x,hx,_=>by simp at hc
 | y::r,i,o,o',hn,h,ho,j,c,hc,x,hx,h15=>by
   unfold uR at h
   split at h
   ·cases h
   ·rename_i o1 h1
    simp only[ZC] at hn
    obtain⟨h2,h3⟩:=hY (by omega) h1 ho
    cases j with
    | zero =>
      simp at hc;subst hc
      obtain⟨h4,h5⟩:=q6 (by omega) h1 ho x hx h15
      refine⟨h4, ?_⟩
      have h6:=(lb (by omega) h h2).2 x.a.toNat
      rw[Int.toNat_of_nonneg h4.1] at h6
      exact h6 h5
    | succ j =>
      have:=tN (by omega) h h2 j c (by simpa using hc) x hx h15
      rw[show i+1+j=i+(j+1) by omega] at this
      exact this
theorem sV {cs:List aH} {o:List Int} (h:fy cs=some o) {i:Nat} {c:aH} (hc:cs[i]?=some c):∀x∈c.instrs,jo cs i x:=fun x hx h15=>by
 obtain⟨h1,h2⟩:=km h
 have hi:i<cs.length:=(List.getElem?_eq_some_iff.1 hc).1
 obtain⟨h3,h4⟩:=tN (by simp) h1 (iO _) i c (by simpa using hc) x hx h15
 rw[ZX] at h3
 refine⟨h3, ?_⟩
 obtain⟨a,ha⟩:∃a:Nat,x.a=a:=⟨x.a.toNat,by omega⟩
 rw[ha] at h3 h4 |-
 rw[ZF]
 have hal:a<cs.length:=by omega
 refine⟨cs[a],Za hal, ?_⟩
 rw[h2 a hal]
 exact decide_eq_true h4
def sG (x:aH):Prop:=inR x.slots 0 30=true/\inR x.params 0 x.slots=true/\x.instrs.length<=900
def gH (cs:List aH) (nc:Nat) (o:List Int) (k:Nat) (x:aH):Prop:=sG x/\(∀y∈x.instrs,fG cs nc o k x y=true)/\(cn x.instrs).isSome=true
open Classical in
noncomputable def aad (cs:List aH) (nc:Nat) (o:List Int) (k:Nat) (x:aH):Bool:=decide (gH cs nc o k x)
def rH (cs:List aH) (nc:Nat) (o:List Int):Prop:=∀(k:Nat) (h:k<cs.length),gH cs nc o k cs[k]
def xl (cs:List aH) (nc:Nat):Prop:=∃o,fy cs=some o/\rH cs nc o
def acw (x:aI):Prop:=inR x.main 0 ((x.codes.length:Int) - 1)=true/\sw x.codes x.main 0
def gf (x:aI):Prop:=ci x.classes=true/\x.codes.length<=200/\acw x/\fW x.classes.length x.codes x.entries=true/\xl x.codes x.classes.length
open Classical in
noncomputable def dD (x:aI):Bool:=decide (gf x)
open Classical in
theorem re {x:aI} (h:¬ gf x):dD x=false:=decide_eq_false h
open Classical in
theorem rj {x:aI} (h:gf x):dD x=true:=decide_eq_true h
open Classical in
theorem acZ {cs:List aH} {nc:Nat} {o:List Int} {k:Nat} {x:aH} (h:¬ gH cs nc o k x):aad cs nc o k x=false:=decide_eq_false h
open Classical in
theorem aby {cs:List aH} {nc:Nat} {o:List Int} {k:Nat} {x:aH} (h:gH cs nc o k x):aad cs nc o k x=true:=decide_eq_true h
theorem dz {o:List Int} {j:Nat} (h:j<o.length):(aL o)[j]?=some [.int .i64 (gd o (j:Int))]:=by
 simp[aL,gd,h]
theorem jH (o:List Int):∀(n:Nat) (k:Int),upN o (n+1) k=if upN o n k<0 then upN o n k else gd o (upN o n k)
 | 0,k=>rfl
 | n+1,k=>by
   by_cases h:k<0
   ·rw[rS o _ h,rS o _ h,if_pos h]
   ·have h1 : upN o (n + 1 + 1) k = upN o (n + 1) (gd o k) := by conv => lhs; unfold upN
                                                                 rw[if_neg h]
    have h2 : upN o (n + 1) k = upN o n (gd o k) := by conv => lhs; unfold upN
                                                       rw[if_neg h]
    rw[h1,h2]
    exact jH o n (gd o k)
theorem vo {o:List Int} (hinv:di o.length o):∀(n:Nat) (k:Int),k=-1\/(0<=k/\k<o.length)->upN o n k=-1\/(0<=upN o n k/\upN o n k<o.length)
 | 0,k,h=>h
 | n+1,k,h=>by
   rw[jH]
   have:=vo hinv n k h
   split
   ·exact this
   ·obtain⟨j,hj⟩:∃j:Nat,upN o n k=j:=⟨(upN o n k).toNat,by omega⟩
    rw[hj] at this |-
    have:=hinv.2 j (by omega)
    omega
theorem aeY {o:List Int} (hinv:di o.length o) {k:Int} (hk:0<=k/\k<o.length):∀n:Nat,0<=upN o n k->(n:Int)<=upN o n k
 | 0,h=>h
 | n+1,h=>by
   rw[jH] at h |-
   have hin:=vo hinv n k (.inr hk)
   split
   ·rename_i h1;rw[if_pos h1] at h;omega
   ·rename_i h1
    rw[if_neg h1] at h
    have ih:=aeY hinv hk n (by omega)
    obtain⟨j,hj⟩:∃j:Nat,upN o n k=j:=⟨(upN o n k).toNat,by omega⟩
    rw[hj] at h hin ih |-
    have:=hinv.2 j (by omega)
    omega
theorem uK {o:List Int} {k:Int} {n:Nat} (h:upN o n k<0):∀m,n<=m->upN o m k=upN o n k
 | 0, hm => by obtain rfl : n = 0 := by omega
               rfl
 | m+1,hm=>by
   by_cases he:n=m+1
   ·rw[he]
   ·have:=uK h m (by omega)
    rw[jH,this,if_pos h]
theorem vp {cs:List aH} {o:List Int} {k:Nat} {b:Int} (h:b<0):fi cs o k b=none:=by
 unfold fi
 exact if_neg (by omega)
theorem ue {cs:List aH} {o:List Int} {k n:Nat} {b:Int} (h:upN o n k<0) (hn:(n:Int)<=b):fi cs o k b=none:=by
 unfold fi
 rw[uK h b.toNat (by omega)]
 exact if_neg (by omega)
theorem yv {cs:List aH} {o:List Int} {k j:Nat} {b:Int} {y:aH} (hb:0<=b) (h:upN o b.toNat k=j) (hj:cs[j]?=some y):fi cs o k b=some y:=by
 unfold fi
 rw[h,if_pos ⟨hb,by omega⟩,ZF,hj]
theorem zF {cs:List aH} {o:List Int} {k:Nat} (hinv:di cs.length o) (hk:k<cs.length) {b:Int} {L:List Int} (hL:L=(ik o cs.length k).reverse) (h:0<=b/\b<=(L.length:Int) - 1) :
   ∃(q v:Nat) (y:aH),(L.length:Int) - 1 - b=q/\(aL L)[q]?=some [.int .i64 (v:Int)]/\cs[v]?=some y/\fi cs o k b=some y:=by
 obtain⟨c,rfl⟩:∃c:Nat,b=c:=⟨b.toNat,by omega⟩
 have hl:o.length=cs.length:=hinv.1
 have hinv':di o.length o:=by rw[hl];exact hinv
 have hcl:L.length=(ik o cs.length k).length:=by rw[hL,YX]
 have hcu:=nN hinv' cs.length (k:Int) c (.inr ⟨by omega,by omega,by rw[hl];omega⟩)
 have hc:c<(ik o cs.length k).length:=by omega
 rw[Za hc] at hcu
 split at hcu
 ·rename_i h0
  have hin:=vo hinv' c k (.inr ⟨by omega,by omega⟩)
  obtain⟨v,hv⟩:∃v:Nat,upN o c k=v:=⟨(upN o c k).toNat,by omega⟩
  rw[hv] at hin hcu
  have hvl:v<cs.length:=by omega
  refine⟨L.length - 1 - c,v,cs[v],by omega, ?_,Za hvl,yv (by omega) (by rw[ZF];exact hv) (Za hvl)⟩
  have hg:L[L.length - 1 - c]?=some (v:Int):=by
    rw[hL,List.getElem?_reverse (by rw[YX];omega),YX]
    rw[show (ik o cs.length k).length - 1 - ((ik o cs.length k).length - 1 - c)=c by omega,Za hc]
    exact hcu
  simp only[aL,Zp,hg];rfl
 ·cases hcu
theorem pW {cs:List aH} {o:List Int} {k:Nat} (hinv:di cs.length o) (hk:k<cs.length) {b:Int} {L:List Int} (hL:L=(ik o cs.length k).reverse) (h:¬ (0<=b/\b<=(L.length:Int) - 1)):fi cs o k b=none:=by
 by_cases h0:b<0
 ·exact vp h0
 obtain⟨c,rfl⟩:∃c:Nat,b=c:=⟨b.toNat,by omega⟩
 have hl:o.length=cs.length:=hinv.1
 have hinv':di o.length o:=by rw[hl];exact hinv
 have hcl:L.length=(ik o cs.length k).length:=by rw[hL,YX]
 have hcu:=nN hinv' cs.length (k:Int) c (.inr ⟨by omega,by omega,by rw[hl];omega⟩)
 rw[YA (by omega)] at hcu
 split at hcu
 ·cases hcu
 ·rename_i h1
  unfold fi
  rw[ZF]
  exact if_neg fun h=>h1 h.2
def GL (w:World):Prop:=ui w
theorem d8:aC GL:=⟨fun _ _ h hb=>ui.below h hb⟩
theorem ahe (s:ByteArray) (hs:s.size<=1048576):Ct Tryz.prog GL 242 [.str s] (fun _=>.int .i64 (co s.data.toList)):=q7 fun w _=>lR s w hs
theorem ag7 (s:ByteArray) (hs:s.size<=1048576):Ct Tryz.prog GL 182 [.str s] (fun _=>.bool (cY s.data.toList)):=ix fun w _=>eU s w hs
theorem ag9 (s:ByteArray) (hs:s.size<=1048576):Ct Tryz.prog GL 195 [.str s] (fun _=>.int .i64 (co s.data.toList)):=q7 fun w hG=>rO s w hs hG
theorem ahB (s:ByteArray) (hs:s.size<=1048576):Ct Tryz.prog GL 194 [.str s] (fun _=>.bool (cY s.data.toList)):=ix fun w hG=>qa s w hs hG
theorem ab3 (r:Option (List Int)):∀y:Nat×Nat,True->(∀s b o,(s,b,o)∈dO r y->cz (dO r y) o)/\dL (dO r y) (dR r y):=fun y _ =>
 ⟨fun s b o h=>by
   simp only[dO,Zy,Zt] at h
   obtain⟨_,_,rfl⟩:=h
   exact fD (lv _),.tup _ fun t ht=>by
   simp only[ZW,ZO,or_false] at ht
   rcases ht with rfl|rfl
   ·exact .ms _ _ _ _ _ _ Zi
   ·exact .flat _ rfl⟩
theorem lE (lo:Nat) (is:List ak):eH is=is.map (ak.tw lo):=rfl
noncomputable def aeI (cs:List aH) (K:Nat):TV:=.tup [.sl K 1 (aL ((fy cs).getD [])),.bool (fy cs).isSome]
theorem iD {B L:Nat} {objs:aJ} {r:Option (List Int)} (h:r=none):Fin B objs L .nils (.sl L 1 (aL (r.getD []))):=by subst h;exact .nils 1
theorem fr {B L:Nat} {objs:aJ} {r:Option (List Int)} (h:r=none):Fin B objs L (.bool false) (.bool r.isSome):=by subst h;exact .bool false
theorem xZ {B L s b n:Nat} {objs:aJ} {r:Option (List Int)} {o:List Int} (h:r=some o) (hn:o.length=n) (hm:(s,b,aW.row 1 (aL o))∈objs):Fin B objs L (.ms s b 0 n) (.sl L 1 (aL (r.getD []))):=by
 subst h;subst hn
 have hl:=ae o
 exact Fin.msFlat hm (by omega) (by rw[YZ,Zc (by omega)];rfl) (lv o)
theorem qS {B L:Nat} {objs:aJ} {r:Option (List Int)} {o:List Int} (h:r=some o):Fin B objs L (.bool true) (.bool r.isSome):=by subst h;exact .bool true
section
variable {G:World->Prop}
theorem oy (hst:aC G) (f lo:Nat) (ccl cen:TV) (cs:List aH) (mn:Int) (hcs:cs.length<=1048576/\∀y∈cs,aH.small 1048576 y) :
   Ct Tryz.prog G 102 [.cp f [ccl,.sl lo 4 (cs.map (aH.tw lo)),cen,.int .i64 mn]] (aeI cs):=by
 refine au Tryz.func102 rfl Tryz.ntmps102 rfl rfl fun w0 _ hG=>?_
 have hl2:=aH.len lo cs
 have hcl:=hcs.1
 have h0:(List.replicate cs.length [TV.int .i64 0])=aL (i9 cs.length 0):=by simp[i9,aL]
 repeat' (first|refine W_ ?_|(refine gG ?_;intro ss bb))
 generalize ss=sd;generalize bb=bd
 apply aj (X:=Nat) [0,4] (fun i=>[(5,.int .i64 (i:Int))]) (fun i=>[(sd,bd,.row 1 (aL (i9 cs.length i)))]) (fun i=>i<=cs.length) (fun i=>cs.length - i) 0 (Zd _)
 exact kp_;exact nw_
 ·rw[<- h0];exact .refl _
 intro i hi
 try dsimp only at hi |-
 by_cases hlt:i<cs.length
 ·obtain⟨hrow,hset⟩:=rm hlt
  repeat' (first|refine W_ ?_|refine bm ?_)
  rw[hset]
  refine ag (i+1) (by omega) (by omega) (.of _ nw_ od_ (.refl _))
 ·obtain rfl:i=cs.length:=by omega
  clear hlt hi
  have hfull:i9 cs.length cs.length=List.replicate cs.length (-1):=by simp[i9]
  rw[hfull]
  have hst0:gm cs 0 (List.replicate cs.length (-1))=fy cs:=rfl
  have hin0:=iO cs.length
  unfold aeI
  generalize fy cs=R at hst0
  generalize List.replicate cs.length (-1:Int)=o0 at hst0 hin0
  repeat' refine W_ ?_
  apply aj (X:=Nat×List Int) [0,4] (fun x=>[(6,.int .i64 (x.1:Int))]) (fun x=>[(sd,bd,.row 1 (aL x.2))]) (fun x=>x.1<=cs.length/\di cs.length x.2/\gm cs x.1 x.2=R) (fun x=>cs.length - x.1) (0,o0) ⟨Zd _,hin0,hst0⟩
  exact kp_;exact nw_
  ·exact .refl _
  clear hin0 hst0
  rintro ⟨i,o⟩ ⟨hi,hin,hR⟩
  dsimp only at hi hin hR |-
  have hol:(aL o).length=cs.length:=by rw[ae];exact hin.1
  by_cases hlt:i<cs.length
  ·have hra:=ca (lo:=lo) hlt
   have hsm:=hcs.2 _ (Zb hlt)
   rw[mY hlt] at hR
   generalize cs[i]=c at hra hsm hR
   obtain⟨cb,cp,csl,is⟩:=c
   dsimp only at hra hR
   have hil:=ak.len lo is
   have hisl:is.length<=1048576:=hsm.1
   repeat' refine W_ ?_
   apply aj (X:=Nat×List Int) [0,4,6] (fun x=>[(7,.int .i64 (x.1:Int))]) (fun x=>[(sd,bd,.row 1 (aL x.2))]) (fun x=>x.1<=is.length/\di cs.length x.2/\gj cs i (is.drop x.1) x.2=R) (fun x=>is.length - x.1) (0,o) ⟨Zd _,hin,hR⟩
   exact kp_;exact nw_
   ·exact .refl _
   clear hin hR hol
   rintro ⟨k,o⟩ ⟨hk,hin,hR⟩
   dsimp only at hk hin hR |-
   have hol:(aL o).length=cs.length:=by rw[ae];exact hin.1
   by_cases hlk:k<is.length
   ·have hrk:=jF (lo:=lo) hlk
    rw[mW hlk] at hR
    generalize is[k]=x at hrk hR
    obtain⟨op,a,b,t⟩:=x
    unfold aci at hR
    dsimp only at hrk hR
    by_cases h15:op=15
    ·rw[if_pos h15] at hR
     have h15':¬ op≠15:=fun h=>h h15
     by_cases hin2:0<=a/\a<=(i:Int) - 1
     ·have cin:=bA (G:=G) a 0 ((i - 1:Nat):Int)
      rw[wb (by omega)] at cin
      obtain⟨q,rfl⟩:∃q:Nat,a=q:=⟨a.toNat,by omega⟩
      have hql:q<o.length:=by rw[hin.1];omega
      have hrq:=dz hql
      have hqc:q<cs.length:=by omega
      by_cases hg:0<=gd o (q:Int)
      ·rw[if_neg fun h=>h.2 hg] at hR
       repeat' (first|refine W_ ?_|(refine am ?_;intro ss bb)|refine ac ?_|refine ad hG hst (cin) ?_)
       refine eO x_ rfl (.tmp _ _ rfl) (.tmp _ _ rfl) (fun _=>?_) (fun _=>?_)
       ·exact iD hR.symm
       ·exact fr hR.symm
      ·rw[if_pos ⟨hin2,hg⟩,ZF] at hR
       dsimp only at hR
       have hset:=lh o q (i:Int)
       have hin3:=(nI (n:=cs.length) (i:=i) (x:=⟨15,q,b,t⟩) (o:=o) (o':=o.set q (i:Int)) hlt (by unfold aci;rw[if_pos rfl,if_pos ⟨hin2,hg⟩,ZF]) hin).1
       repeat' (first|refine W_ ?_|(refine am ?_;intro ss bb)|refine ac ?_|refine ad hG hst (cin) ?_|refine bm ?_)
       rw[hset]
       refine ag (k+1,o.set q (i:Int)) ⟨by dsimp only;omega,hin3,hR⟩ (by dsimp only;omega) (.of _ nw_ od_ pk_)
     ·have cin:=bA (G:=G) a 0 ((i:Int) - 1)
      have cin':=bA (G:=G) a 0 ((i - 1:Nat):Int)
      rw[aek hin2] at cin
      rw[if_neg fun h=>hin2 h.1] at hR
      repeat' (first|refine W_ ?_|(refine am ?_;intro ss bb)|refine ac ?_|refine ad hG hst (cin) ?_)
      refine eO x_ rfl (.tmp _ _ rfl) (.tmp _ _ rfl) (fun _=>?_) (fun _=>?_)
      ·exact iD hR.symm
      ·exact fr hR.symm
    ·rw[if_neg h15] at hR
     dsimp only at hR
     repeat' (first|refine W_ ?_|(refine am ?_;intro ss bb)|refine ac ?_)
     refine ag (k+1,o) ⟨by dsimp only;omega,hin,hR⟩ (by dsimp only;omega) (.of _ nw_ od_ pk_)
   ·rw[pu hlk] at hR
    repeat' refine W_ ?_
    refine ag (i+1,o) ⟨by dsimp only;omega,hin,hR⟩ (by dsimp only;omega) (.of _ nw_ od_ pk_)
  ·rw[pd hlt] at hR
   repeat' refine W_ ?_
   apply aj (X:=Nat) [0,4] (fun j=>[(9,.int .i64 (j:Int))]) (fun _=>[(sd,bd,.row 1 (aL o))]) (fun j=>j<=cs.length/\∀q,q<j->∀h:q<cs.length,cs[q].block=decide (0<=gd o (q:Int))) (fun j=>cs.length - j) 0 ⟨Zd _,by omega⟩
   exact kp_;exact nw_
   ·exact .refl _
   rintro j ⟨hj,hja⟩
   try dsimp only
   by_cases hlj:j<cs.length
   ·have hra:=ca (lo:=lo) hlj
    have hrj:=dz (o:=o) (j:=j) (by rw[hin.1];exact hlj)
    have hbad:=rA (o:=o) hlj
    have hnx:cs[j].block=decide (0<=gd o (j:Int))->∀q,q<j+1->∀h:q<cs.length,cs[q].block=decide (0<=gd o (q:Int)):=fun ho=>cy hja fun _=>ho
    generalize cs[j]=c at hra hbad hnx
    obtain⟨cb,cp,csl,is⟩:=c
    dsimp only at hra hbad hnx
    generalize gd o (j:Int)=v at hrj hbad hnx
    by_cases hb:cb=decide (0<=v)
    ·repeat' (first|refine V_ ?_|refine c_ (fun hc=>?_) (fun hc=>?_))
     all_goals first
       | exact ag (j+1) ⟨by omega,hnx hb⟩ (by omega) (.of _ nw_ od_ pk_)
       | (exfalso;simp_all;done)
    ·rw[hbad hb] at hR
     repeat' (first|refine V_ ?_|refine c_ (fun hc=>?_) (fun hc=>?_))
     all_goals first
       | (exfalso;simp_all;done)
       | (refine eO x_ rfl (.tmp _ _ rfl) (.tmp _ _ rfl) (fun _=>?_) (fun _=>?_)
          ·exact iD hR.symm
          ·exact fr hR.symm)
   ·rw[oK fun q hq=>hja q (by omega)] at hR
    repeat' refine W_ ?_
    refine eO x_ rfl (.tmp _ _ rfl) (.tmp _ _ rfl) (fun _=>?_) (fun _=>?_)
    ·exact xZ hR.symm hin.1 Zi
    ·exact qS hR.symm
end
end Go.Proofs.YtofnnnpahglfdaaGreatDoor
