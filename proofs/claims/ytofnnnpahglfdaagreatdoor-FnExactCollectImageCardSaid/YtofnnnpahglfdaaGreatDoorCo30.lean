/- Part 30 of the proof: the texts ImK, ImM. -/
import Derived.Test.YtofnnnpahglfdaaGreatDoorCo24
import Derived.Test.YtofnnnpahglfdaaGreatDoorCo22
import Derived.Test.YtofnnnpahglfdaaGreatDoorCo3
set_option linter.all false
set_option maxHeartbeats 4000000
set_option maxRecDepth 20000
namespace Go.Proofs.YtofnnnpahglfdaaGreatDoor
open Go Go.RowKit
theorem yD (is:List ak) (hp:kx is=true):∀(f:Nat) (ds:List Int) (q:List Nat) (r:List Int),DSt is.length ds q f->sQ is (ml is) f ds q=some r->r.length=is.length
 | _,ds,[],r,h,e=>by simp[sQ] at e;subst e;exact h.len
 | 0,_,_::_,r,_,e=>by simp[sQ] at e
 | f+1,ds,p::q,r,h,e=>by
   obtain⟨j,hj,hst,hpl,hg⟩:=h.pop
   obtain rfl:f=j:=by omega
   rw[jg _ _ _ _ _ hpl] at e
   have hpi:d7 is.length is[p]=true:=List.all_eq_true.1 hp _ (Zb _)
   cases hs:ml is is[p] p ds with
   | none=>rw[hs] at e;cases e
   | some s =>
     rw[hs] at e
     have hsel:is[p].op=14->0<=is[p].eff.1:=fun h14=>by
       simp only[d7,Zm] at hpi
       have:=hpi.1.2
       simp[h14] at this
       simp[ak.eff,h14];exact this
     unfold ml at hs
     by_cases ht:gd ds p<is[p].eff.1
     ·rw[if_pos ht] at hs;cases hs
     ·rw[if_neg ht] at hs
      by_cases hA:(is[p].labs.any (im is p is[p].op))=true
      ·rw[if_pos hA] at hs;cases hs
      ·rw[if_neg hA] at hs
       have hst':=jK _ ds q [] s (gN _ p _ hg ht hsel) (by rw[Zo];exact hst) hs
       exact yD is hp f s.1 (q++s.2) r hst' e
theorem wv (is r) (h:cn is=some r):r.length=is.length:=by
 unfold cn at h
 split at h
 ·cases h
 ·split at h
  ·rename_i h0 hp
   exact yD is hp _ _ _ _ (nX (by omega)) h
  ·cases h
open Classical in
theorem pO {x:aI} (hv:dD x=true):∀c∈x.codes,kx c.instrs=true/\∃ds,cn c.instrs=some ds/\ds.length=c.instrs.length:=fun c hc=>by
 have h:gf x:=of_decide_eq_true hv
 obtain⟨o,ho,hok⟩:=h.2.2.2.2
 obtain⟨k,hk,rfl⟩:=ZE hc
 obtain⟨_,h2,h3⟩:=hok k hk
 obtain⟨ds,hds⟩:=Option.isSome_iff_exists.1 h3
 exact⟨rh h2,ds,hds,wv _ _ hds⟩
theorem rU (f lo l2:Nat) (m:ah) (hsm:m.small 1048576) (hc1:1<=m.base.codes.length) (o:List Int) (ho:o.length=m.base.codes.length) (b:ap):Ct Tryz.prog GL 104 [.cp f (m.tw lo),.agg [.int .i64 b.code,.int .i64 b.outer,.int .i64 b.home,.int .i64 b.self.kind,.int .i64 b.self.number,.str b.self.text],.sl l2 1 (aL o)] (fun _=>.bool (jX m o b)):=by
 refine au Tryz.func104 rfl Tryz.ntmps104 rfl rfl fun w0 _ hG=>?_
 have hst:=d8
 have hlx:=aq.len lo m.contexts
 have hlc:=aH.len lo m.base.codes
 have hxl:=hsm.2.2.2.1.1
 have hcl2:=hsm.1.2.1.1
 have hol:=ae o
 have hgo:=fun(j:Nat) (h:j<o.length)=>dz (o:=o) h
 have hxi:=fun(i:Nat) (h:i<m.contexts.length)=>yr (m:=m) h rfl
 have hci:=fun(i:Nat) (h:i<m.base.codes.length)=>yG (m:=m) h rfl
 have hxr:=fun(i:Nat) (h:i<m.contexts.length)=>dB (lo:=lo) (l:=m.contexts) h
 have hcr:=fun(i:Nat) (h:i<m.base.codes.length)=>ca (lo:=lo) (cs:=m.base.codes) h
 obtain⟨bc,bo,bh,⟨bk,bn,bt⟩⟩:=b
 have k1:=bA (G:=GL) bc 0 ((m.base.codes.length:Int) - 1)
 have k2:=bA (G:=GL) bo 0 ((m.contexts.length:Int) - 1)
 unfold jX
 unfold ah.tw
 dsimp only
 cases h1:inR bc 0 ((m.base.codes.length:Int) - 1)
 case false =>
   rw[Zl]
   rw[h1] at k1
   rw[show (m.base.codes.length:Int) - 1=((m.base.codes.length - 1:Nat):Int) by omega] at k1
   repeat' (first|refine V_ ?_|refine aN ?_|refine ai hG hst (k1) ?_)
   exact r1_
 rw[Zn]
 rw[h1] at k1
 rw[show (m.base.codes.length:Int) - 1=((m.base.codes.length - 1:Nat):Int) by omega] at k1
 have h1':=of_decide_eq_true h1
 obtain⟨q,rfl⟩:∃q:Nat,bc=q:=⟨bc.toNat,by omega⟩
 have hq:q<m.base.codes.length:=by omega
 have hrq:=hcr q hq
 have hqo:=hgo q (by omega)
 rw[hci q hq]
 generalize m.base.codes[q]=x at hrq |-
 obtain⟨xb,xp,xs,xi⟩:=x
 dsimp only at hrq |-
 cases xb
 case false =>
   rw[Zl]
   repeat' (first|refine V_ ?_|refine aN ?_|refine ai hG hst (k1) ?_)
   exact r1_
 rw[Zn]
 cases h2:inR bo 0 ((m.contexts.length:Int) - 1)
 case false =>
   rw[Zl]
   rw[h2] at k2
   repeat' (first|refine V_ ?_|refine aN ?_|refine ai hG hst (k1) ?_|refine ai hG hst (k2) ?_)
   exact r1_
 rw[Zn]
 rw[h2] at k2
 have h2':=of_decide_eq_true h2
 obtain⟨u,rfl⟩:∃u:Nat,bo=u:=⟨bo.toNat,by omega⟩
 have hu:u<m.contexts.length:=by omega
 have hru:=hxr u hu
 rw[hxi u hu]
 rw[show (m.contexts.length:Int) - 1=((m.contexts.length - 1:Nat):Int) by omega] at k2
 generalize m.contexts[u]=p at hru |-
 obtain⟨pm,pcc,ppc,ps,po,ph,⟨pk,pn,pt⟩,psl,pst,pva,pot,prt⟩:=p
 unfold eqV
 dsimp only at hru |-
 repeat' (first|refine W_ ?_|refine aN ?_|((with_reducible apply nU (id:=3) 8);kernel_rfl;kernel_rfl;kernel_rfl;(repeat (first|exact Cut.zero _|apply Cut.succ));rfl;rfl;rfl;rfl;rfl;kernel_rfl;rfl)|((with_reducible apply u_y);exact yu_;rfl)|(with_reducible refine yh ?_;intro ss bb)|refine ac ?_|((with_reducible apply ta);rfl;rfl;kernel_rfl;kernel_rfl;kernel_rfl;rfl;(repeat (first|with_reducible exact mh|with_reducible refine mt ?_));(repeat (first|exact .zero _|apply ib.succ)))|((with_reducible apply tA);rfl;rfl;kernel_rfl;kernel_rfl;kernel_rfl;rfl;(repeat (first|exact .zero _|apply ib.succ)))|((with_reducible apply d_load_agg_me);rfl;rfl;kernel_rfl;kernel_rfl;kernel_rfl;rfl;(repeat (first|with_reducible exact mh|with_reducible refine mt ?_));(first|(with_reducible assumption)|(refine aK ?_;omega)|(refine gE ?_;simp only[Yl,Ze];omega)|exact rfl|assumption);(repeat (first|exact .zero _|apply ib.succ)))|with_reducible refine eu (by kernel_rfl) (by kernel_rfl) ?_|with_reducible refine gu ?_|with_reducible refine ei ?_|with_reducible refine ek rfl ?_|refine gw rfl rfl rfl rr_ ?_|refine et rfl rfl rfl rr_ rfl rfl rfl ?_|refine dr rfl rfl rfl rr_ rfl rfl ?_|(refine ks rfl rfl rfl rr_ dd_ ?_)|(refine ky rfl rfl rfl rr_ dd_ ?_)|(refine cA rfl rfl rfl rr_ (fun hg=>?_) (fun hg=>?_))|(refine bX rfl rfl rfl rr_ (fun hg=>?_) (fun hg=>?_))|((with_reducible apply d_y);exact y_;rfl)|refine ai hG hst (k1) ?_|refine ai hG hst (k2) ?_)
 all_goals
   refine aM x_ rfl (.tmp _ _ rfl) (fun _=>?_)
   refine aO ?_
   first
     | (simp[eqL,eqC, *];done)
     | (simp_all [eqL,eqC];done)
theorem acG {m:ah} {c:aq} {x:aH} {q p:Nat} {ds:List Int} {less:Int} (hq:c.code=q) (hx:m.base.codes[q]?=some x) (hp:c.pc=p) (hd:cn x.instrs=some ds):afI m c less=(decide (p<x.instrs.length) && (decide (0<=gd ds (p:Int)) && decide ((c.stack.length:Int)=IntKind.i64.wrap (gd ds (p:Int) - less)))):=by
 unfold afI cdA dps
 rw[hq,if_pos (by omega),ZF,hx]
 dsimp only
 rw[hd,hp,Yq]
 congr 1
 rw[decide_eq_decide];omega
theorem xx (f lo:Nat) (m:ah) (hsm:m.small 1048576) (hdep:∀c∈m.base.codes,kx c.instrs=true/\∃ds,cn c.instrs=some ds/\ds.length=c.instrs.length) (k:Nat) (hk:k<m.contexts.length)
   (hc:(0<=m.contexts[k].code/\m.contexts[k].code<m.base.codes.length)/\0<=m.contexts[k].pc) (less:Int):Ct Tryz.prog GL 186 [.cp f (m.tw lo),.int .i64 (k:Int),.int .i64 less] (fun _=>.bool (afI m m.contexts[k] less)):=by
 refine au Tryz.func186 rfl Tryz.ntmps186 rfl rfl fun w0 _ hG=>?_
 have hst:=d8
 have hrow:=dB (lo:=lo) hk
 have hlx:=aq.len lo m.contexts
 have hlc:=aH.len lo m.base.codes
 have hxl:=hsm.2.2.2.1.1
 have hcl2:=hsm.1.2.1.1
 have hst1:=(hsm.2.2.2.1.2 _ (Zb hk)).2.2.1.1
 obtain⟨⟨c0,c1⟩,c2⟩:=hc
 obtain⟨q,hq⟩:∃q:Nat,m.contexts[k].code=q:=⟨m.contexts[k].code.toNat,by omega⟩
 obtain⟨p,hp⟩:∃p:Nat,m.contexts[k].pc=p:=⟨m.contexts[k].pc.toNat,by omega⟩
 have hql:q<m.base.codes.length:=by omega
 have hrq:=ca (lo:=lo) hql
 obtain⟨hpre,ds,hds,hdl⟩:=hdep _ (Zb hql)
 have hB:=acG (less:=less) hq (Za hql) hp hds
 have hxs:=hsm.1.2.1.2 _ (Zb hql)
 rw[hB]
 clear hB hdep
 rw[hq,hp] at hrow
 generalize m.base.codes[q]=x at hrq hpre hds hdl hxs |-
 obtain⟨xb,xp,xs,is⟩:=x
 dsimp only at hrq hpre hds hdl |-
 have hil:=ak.len lo is
 have hin:is.length<=1048576:=hxs.1
 have hl16:=nf hst ahe 0 lo xb xp xs is hin hxs.2 hpre
 have hnew:=ab3 (dw is)
 rw[lE lo] at hl16
 unfold dR dO at hl16 hnew
 rw[<- rv is hpre,hds] at hl16 hnew
 rw[Yq,XD] at hl16 hnew
 generalize m.contexts[k]=c at hrow hst1 c0 c1 c2 hq hp |-
 obtain⟨mk,cc,pc,sd,ou,hm,⟨sk,sn,st⟩,slots,stack,values,oth,rt⟩:=c
 dsimp only at hrow hst1 |-
 have htl:=ab.len lo stack
 have hol:=ae ds
 unfold ah.tw
 repeat' (first|refine H_ 2 ?_|(refine am ?_;intro ss bb)|refine ac ?_)
 refine⟨?_⟩
 repeat' (first|refine W_ ?_|((with_reducible apply dv (id:=2) 10);kernel_rfl;kernel_rfl;kernel_rfl;rfl;(repeat (first|exact Cut.zero _|apply Cut.succ)))|((with_reducible apply m_q);exact ym_;rfl;exact eh)|((with_reducible apply cr);rfl;(intro p;try dsimp only);(repeat (first|exact TB.nil _|((with_reducible apply TB.cons);rfl;rfl;(first|exact .nil _|exact .put _ _ _ _ _ (.nil _)|exact .skip _ _ _ _ _ (.put _ _ _ _ _ (.nil _))|exact .skip _ _ _ _ _ (.skip _ _ _ _ _ (.put _ _ _ _ _ (.nil _)))|(repeat (first|exact .nil _|apply aY.put|apply aY.skip)));kernel_rfl)));rfl;kernel_rfl;kernel_rfl;exact eh)|((with_reducible apply gW);rfl;rfl;kernel_rfl)|(with_reducible refine DM.nil _ _ _ ?_))
 intro pp hpp
 refine aT (objs':=((pp 9).a,(pp 9).b,.box [.bool false,.int .i64 0,.int .i64 0,.nils])::[(ss,bb,.box [.int .i64 mk,.int .i64 (q:Int),.int .i64 (p:Int),.int .i64 sd,.int .i64 ou,.int .i64 hm,.int .i64 sk,.int .i64 sn,.str st,.sl lo 3 (slots.map (ab.tw lo)),.sl lo 3 (stack.map (ab.tw lo)),.sl lo 3 (values.map (ab.tw lo)),.int .i64 oth,.bool rt])]) (by rw[show ed _=[_] from rfl];simp only[ZB,ZM,Zo,ZD,Zz];(try rfl)) ?_
 dsimp only [Nat.reduceAdd]
 generalize Yu.a (pp 9)=s8;generalize Yu.b (pp 9)=b8
 generalize ss=s7;generalize bb=b7
 repeat' (first|refine H_ 3 ?_|refine ac ?_)
 refine⟨?_⟩
 by_cases hpl:p<is.length
 case neg =>
   rw[decide_eq_false hpl,Zl]
   repeat' refine W_ ?_
   all_goals
     exact r1_
 rw[decide_eq_true hpl,Zn]
 have hgp:=dz (o:=ds) (j:=p) (by omega)
 have hwr:IntKind.i64.wrap (gd ds (p:Int) - less)=IntKind.i64.wrap (gd ds (p:Int) - less):=rfl
 generalize hW:IntKind.i64.wrap (gd ds (p:Int) - less)=W at hwr |-
 generalize gd ds (p:Int)=g at hgp hW hwr |-
 clear hwr
 repeat' (first|refine V_ ?_|((with_reducible apply cB);rfl;kernel_rfl;exact hG;exact hst;exact hl16;((with_reducible apply bD.cons);rfl;exact bG.mpSame (cells:=[.bool xb,.int .i64 xp,.int .i64 xs,.sl lo 4 (is.map (ak.tw lo))]) mm_);exact bD.nil;exact hnew;rintro ⟨ss,bb⟩ -;refine bF ?_)|refine g_ (fun hg=>?_) (fun hg=>?_))
 all_goals
   refine aM x_ rfl (.tmp _ _ rfl) (fun _=>?_)
   refine aO ?_
   first
     | (simp[*];done)
     | (simp_all;done)
open Classical in
theorem kv {m:ah} {a:Int} (h:¬ dN m a):j7 m a=false:=decide_eq_false h
open Classical in
theorem sF {m:ah} {a:Int} (h:dN m a):j7 m a=true:=decide_eq_true h
theorem oo {lo:Nat} {l:List ao} {i:Nat} (h:i<l.length):(l.map (ao.tw lo))[i]?=some [.int .i64 l[i].at_,.bool l[i].main]:=aK h
theorem acE {m:ah} {u:Nat} (hu:u<m.contexts.length):dN m (u:Int)↔m.contexts[u].mark=0/\pg m m.contexts[u] 0=true/\aaL m 1 m.contexts[u].sender:=by
 unfold dN
 rw[jr hu]
 constructor
 ·rintro ⟨c,hc,h1,h2⟩
  cases hc
  exact⟨h1,(n9 hu).1 h2⟩
 ·rintro ⟨h1,h2⟩
  exact⟨_,rfl,h1,(n9 hu).2 h2⟩
theorem wF (f lo:Nat) (m:ah) (hsm:m.small 1048576) (hdep:∀c∈m.base.codes,kx c.instrs=true/\∃ds,cn c.instrs=some ds/\ds.length=c.instrs.length) (hsd:kM m)
   (hpl:∀(i:Nat) (h:i<m.contexts.length),m.contexts[i].mark=0->(0<=m.contexts[i].code/\m.contexts[i].code<m.base.codes.length)/\0<=m.contexts[i].pc) (p:Nat) (hp:p<m.processes.length):Ct Tryz.prog GL 106 [.cp f (m.tw lo),.int .i64 (p:Int)] (fun _=>.bool (j7 m m.processes[p].at_)):=by
 refine au Tryz.func106 rfl Tryz.ntmps106 rfl rfl fun w0 _ hG=>?_
 have hst:=d8
 have hlx:=aq.len lo m.contexts
 have hlp:=ao.len lo m.processes
 have hxl:=hsm.2.2.2.1.1
 have hpl1:=hsm.2.2.2.2.1.1
 have hrp:=oo (lo:=lo) hp
 have hxr:=fun(i:Nat) (h:i<m.contexts.length)=>dB (lo:=lo) (l:=m.contexts) h
 have hde:=fun(i:Nat) (h:i<m.contexts.length) hc less=>xx f lo m hsm hdep i h hc less
 have hon:=fun(k0 a:Int) h=>yW (G:=GL) f lo m hxl hsd k0 a h
 generalize m.processes[p]=pr at hrp |-
 obtain⟨at0,mn⟩:=pr
 dsimp only at hrp |-
 have k1:=bA (G:=GL) at0 0 ((m.contexts.length:Int) - 1)
 unfold ah.tw at hde hon |-
 by_cases hin:0<=at0/\at0<m.contexts.length
 case neg =>
   rw[kv fun h=>hin (by
     obtain⟨c,hc,_⟩:=h
     obtain⟨h0,h1,_⟩:=kQ hc
     omega)]
   rw[show inR at0 0 ((m.contexts.length:Int) - 1)=false from by simp only[inR,decide_eq_false_iff_not];omega] at k1
   by_cases hz:1<=m.contexts.length
   ·rw[show (m.contexts.length:Int) - 1=((m.contexts.length - 1:Nat):Int) by omega] at k1
    repeat' (first|refine W_ ?_|refine ad hG hst (k1) ?_)
    exact r1_
   ·repeat' (first|refine W_ ?_|refine ad hG hst (k1) ?_)
    exact r1_
 rw[show inR at0 0 ((m.contexts.length:Int) - 1)=true from by simp only[inR,decide_eq_true_eq];omega] at k1
 rw[show (m.contexts.length:Int) - 1=((m.contexts.length - 1:Nat):Int) by omega] at k1
 obtain⟨u,rfl⟩:∃u:Nat,at0=u:=⟨at0.toNat,by omega⟩
 have hu:u<m.contexts.length:=by omega
 have hch:=acE hu
 have hru:=hxr u hu
 have hpu:=hpl u hu
 have hdu:=hde u hu
 have hsu:=hsd u hu
 by_cases hm0:m.contexts[u].mark=0
 case neg =>
   rw[kv fun h=>hm0 (hch.1 h).1]
   have hm0':m.contexts[u].mark≠0:=hm0
   generalize m.contexts[u]=c at hru hm0'
   repeat' (first|refine W_ ?_|refine ad hG hst (k1) ?_)
   exact r1_
 have hm0':¬ m.contexts[u].mark≠0:=fun h=>h hm0
 replace hdu:=hdu (hpu hm0) 0
 have hs0:pg m m.contexts[u] 0=afI m m.contexts[u] 0:=by unfold pg;rw[if_pos hm0]
 rw[hs0] at hch
 clear hpu hs0
 generalize afI m m.contexts[u] 0=b at hdu hch
 cases b
 case false =>
   rw[kv fun h=>by have:=(hch.1 h).2.1;cases this]
   generalize m.contexts[u]=c at hru hm0'
   repeat' (first|refine W_ ?_|refine ad hG hst (k1) ?_|refine ad hG hst (hdu) ?_)
   exact r1_
 have hiff:dN m (u:Int)↔aaL m 1 m.contexts[u].sender:=⟨fun h=>(hch.1 h).2.2,fun h=>hch.2 ⟨hm0,rfl,h⟩⟩
 clear hch hm0
 generalize m.contexts[u]=c at hru hm0' hsu hiff
 repeat' (first|refine W_ ?_|refine ad hG hst (k1) ?_|refine ad hG hst (hdu) ?_)
 apply aj (X:=Int) [0] (fun k=>[(6,.int .i64 k)]) (fun _=>[]) (fun k=>(-1<=k/\k<m.contexts.length)/\(dN m (u:Int)↔aaL m 1 k)) (fun k=>(k+1).toNat) c.sender ⟨by omega,hiff⟩
 exact kp_;exact nw_
 ·exact .refl _
 clear hiff hdu k1 hru hm0' hsu
 rintro k ⟨hk,hiff⟩
 try dsimp only
 by_cases hneg:k<0
 ·rw[sF (hiff.2 (.out _ _ hneg))]
  repeat' refine W_ ?_
  exact r1_
 obtain⟨n,rfl⟩:∃n:Nat,k=n:=⟨k.toNat,by omega⟩
 have hn:n<m.contexts.length:=by omega
 have hrn:=hxr n hn
 have hst2:=hiff.trans (n9 hn)
 have hsn:=hsd n hn
 have hpn:=hpl n hn
 have hdn:=hde n hn
 have hot:=hon m.contexts[n].sender m.contexts[n].other (by omega)
 clear hxr hpl hde hon hdep hsd
 have hF:pg m m.contexts[n] 1=false->j7 m (u:Int)=false:=fun h=>kv fun hc=>by have:=(hst2.1 hc).1;rw[h] at this;cases this
 have hT:pg m m.contexts[n] 1=true->(dN m (u:Int)↔aaL m 1 m.contexts[n].sender):=fun h=>⟨fun hc=>(hst2.1 hc).2,fun hw=>hst2.2 ⟨h,hw⟩⟩
 clear hst2
 unfold pg at hF hT
 by_cases hm0:m.contexts[n].mark=0
 ·replace hdn:=hdn (hpn hm0) 1
  rw[if_pos hm0] at hF hT
  generalize afI m m.contexts[n] 1=b at hdn hF hT
  clear hpn hot
  have hm3:¬ m.contexts[n].mark=3:=by omega
  have hm5:¬ m.contexts[n].mark=5:=by omega
  generalize m.contexts[n]=c at hrn hm0 hm3 hm5 hsn hT
  cases b
  ·rw[hF rfl]
   repeat' (first|refine W_ ?_|(refine am ?_;intro ss bb)|refine ac ?_|refine ad hG hst (hdn) ?_)
   exact r1_
  ·repeat' (first|refine W_ ?_|(refine am ?_;intro ss bb)|refine ac ?_|refine ad hG hst (hdn) ?_)
   exact ag c.sender ⟨by omega,hT rfl⟩ (by omega) (.of _ nw_ od_ pk_)
 rw[if_neg hm0] at hF hT
 clear hdn hpn
 by_cases hm35:m.contexts[n].mark=3\/m.contexts[n].mark=5
 ·rw[if_pos hm35] at hF hT
  generalize onB m m.contexts[n].other m.contexts[n].sender=b at hot hF hT
  generalize m.contexts[n]=c at hrn hm0 hm35 hsn hT hot
  rcases hm35 with hm3|hm5
  ·have hm5:¬ c.mark=5:=by omega
   cases b
   ·rw[hF rfl]
    repeat' (first|refine W_ ?_|(refine am ?_;intro ss bb)|refine ac ?_|refine ad hG hst (hot) ?_)
    exact r1_
   ·repeat' (first|refine W_ ?_|(refine am ?_;intro ss bb)|refine ac ?_|refine ad hG hst (hot) ?_)
    exact ag c.sender ⟨by omega,hT rfl⟩ (by omega) (.of _ nw_ od_ pk_)
  ·have hm3:¬ c.mark=3:=by omega
   cases b
   ·rw[hF rfl]
    repeat' (first|refine W_ ?_|(refine am ?_;intro ss bb)|refine ac ?_|refine ad hG hst (hot) ?_)
    exact r1_
   ·repeat' (first|refine W_ ?_|(refine am ?_;intro ss bb)|refine ac ?_|refine ad hG hst (hot) ?_)
    exact ag c.sender ⟨by omega,hT rfl⟩ (by omega) (.of _ nw_ od_ pk_)
 ·rw[if_neg hm35] at hT
  have hm3:¬ m.contexts[n].mark=3:=fun h=>hm35 (.inl h)
  have hm5:¬ m.contexts[n].mark=5:=fun h=>hm35 (.inr h)
  generalize m.contexts[n]=c at hrn hm0 hm3 hm5 hsn hT
  repeat' (first|refine W_ ?_|(refine am ?_;intro ss bb)|refine ac ?_)
  exact ag c.sender ⟨by omega,hT rfl⟩ (by omega) (.of _ nw_ od_ pk_)
end Go.Proofs.YtofnnnpahglfdaaGreatDoor
