/- Part 30 of the proof: the texts ImK, ImM. -/
import Derived.Test.YtifcomgnmokimaaGreatDoorRt24
import Derived.Test.YtifcomgnmokimaaGreatDoorRt22
import Derived.Test.YtifcomgnmokimaaGreatDoorRt3
set_option linter.all false
set_option maxHeartbeats 4000000
set_option maxRecDepth 20000
namespace Go.Proofs.YtifcomgnmokimaaGreatDoor
open Go Go.RowKit
theorem yl (is:List am) (hp:kr is=true):∀(f:Nat) (ds:List Int) (q:List Nat) (r:List Int),DSt is.length ds q f->tf is (mg is) f ds q=some r->r.length=is.length
 | _,ds,[],r,h,e=>by simp[tf] at e;subst e;exact h.len
 | 0,_,_::_,r,_,e=>by simp[tf] at e
 | f+1,ds,p::q,r,h,e=>by
   obtain⟨j,hj,hst,hpl,hg⟩:=h.pop
   obtain rfl:f=j:=by omega
   rw[jQ _ _ _ _ _ hpl] at e
   have hpi:ep is.length is[p]=true:=List.all_eq_true.1 hp _ (Zb _)
   cases hs:mg is is[p] p ds with
   | none=>rw[hs] at e;cases e
   | some s =>
     rw[hs] at e
     have hsel:is[p].op=14->0<=is[p].eff.1:=fun h14=>by
       simp only[ep,Zq] at hpi
       have:=hpi.1.2
       simp[h14] at this
       simp[am.eff,h14];exact this
     unfold mg at hs
     by_cases ht:gd ds p<is[p].eff.1
     ·rw[if_pos ht] at hs;cases hs
     ·rw[if_neg ht] at hs
      by_cases hA:(is[p].labs.any (iM is p is[p].op))=true
      ·rw[if_pos hA] at hs;cases hs
      ·rw[if_neg hA] at hs
       have hst':=jS _ ds q [] s (gZ _ p _ hg ht hsel) (by rw[Zt];exact hst) hs
       exact yl is hp f s.1 (q++s.2) r hst' e
theorem xw (is r) (h:cx is=some r):r.length=is.length:=by
 unfold cx at h
 split at h
 ·cases h
 ·split at h
  ·rename_i h0 hp
   exact yl is hp _ _ _ _ (od (by omega)) h
  ·cases h
open Classical in
theorem pT {x:aF} (hv:dM x=true):∀c∈x.codes,kr c.instrs=true/\∃ds,cx c.instrs=some ds/\ds.length=c.instrs.length:=fun c hc=>by
 have h:d9 x:=of_decide_eq_true hv
 obtain⟨o,ho,hok⟩:=h.2.2.2.2
 obtain⟨k,hk,rfl⟩:=ZD hc
 obtain⟨_,h2,h3⟩:=hok k hk
 obtain⟨ds,hds⟩:=Option.isSome_iff_exists.1 h3
 exact⟨qF h2,ds,hds,xw _ _ hds⟩
theorem rF (f lo l2:Nat) (m:ad) (hsm:m.small 1048576) (hc1:1<=m.base.codes.length) (o:List Int) (ho:o.length=m.base.codes.length) (b:aq):Ct Tryz.prog GL 81 [.cp f (m.tw lo),.agg [.int .i64 b.code,.int .i64 b.outer,.int .i64 b.home,.int .i64 b.self.kind,.int .i64 b.self.number,.str b.self.text],.sl l2 1 (aS o)] (fun _=>.bool (ks m o b)):=by
 refine av Tryz.func81 rfl Tryz.ntmps81 rfl rfl fun w0 _ hG=>?_
 have hst:=en
 have hlx:=ao.len lo m.contexts
 have hlc:=aB.len lo m.base.codes
 have hxl:=hsm.2.2.2.1.1
 have hcl2:=hsm.1.2.1.1
 have hol:=aj o
 have hgo:=fun(j:Nat) (h:j<o.length)=>fG (o:=o) h
 have hxi:=fun(i:Nat) (h:i<m.contexts.length)=>yr (m:=m) h rfl
 have hci:=fun(i:Nat) (h:i<m.base.codes.length)=>yS (m:=m) h rfl
 have hxr:=fun(i:Nat) (h:i<m.contexts.length)=>dI (lo:=lo) (l:=m.contexts) h
 have hcr:=fun(i:Nat) (h:i<m.base.codes.length)=>cj (lo:=lo) (cs:=m.base.codes) h
 obtain⟨bc,bo,bh,⟨bk,bn,bt⟩⟩:=b
 have k1:=bC (G:=GL) bc 0 ((m.base.codes.length:Int) - 1)
 have k2:=bC (G:=GL) bo 0 ((m.contexts.length:Int) - 1)
 unfold ks
 unfold ad.tw
 dsimp only
 cases h1:inR bc 0 ((m.base.codes.length:Int) - 1)
 case false =>
   rw[Zl]
   rw[h1] at k1
   rw[show (m.base.codes.length:Int) - 1=((m.base.codes.length - 1:Nat):Int) by omega] at k1
   repeat' (first|refine V_ ?_|refine aJ ?_|refine ai hG hst (k1) ?_)
   exact r1_
 rw[Zn]
 rw[h1] at k1
 rw[show (m.base.codes.length:Int) - 1=((m.base.codes.length - 1:Nat):Int) by omega] at k1
 have h1':=of_decide_eq_true h1
 obtain⟨q,rfl⟩:∃q:Nat,bc=q:=⟨bc.toNat,by omega⟩
 have hq:q<m.base.codes.length:=by omega
 have hrq:=hcr q hq
 have hqo:=hgo q (by omega)
 rw[hci q hq]
 generalize m.base.codes[q]=x at hrq |-
 obtain⟨xb,xp,xs,xi⟩:=x
 dsimp only at hrq |-
 cases xb
 case false =>
   rw[Zl]
   repeat' (first|refine V_ ?_|refine aJ ?_|refine ai hG hst (k1) ?_)
   exact r1_
 rw[Zn]
 cases h2:inR bo 0 ((m.contexts.length:Int) - 1)
 case false =>
   rw[Zl]
   rw[h2] at k2
   repeat' (first|refine V_ ?_|refine aJ ?_|refine ai hG hst (k1) ?_|refine ai hG hst (k2) ?_)
   exact r1_
 rw[Zn]
 rw[h2] at k2
 have h2':=of_decide_eq_true h2
 obtain⟨u,rfl⟩:∃u:Nat,bo=u:=⟨bo.toNat,by omega⟩
 have hu:u<m.contexts.length:=by omega
 have hru:=hxr u hu
 rw[hxi u hu]
 rw[show (m.contexts.length:Int) - 1=((m.contexts.length - 1:Nat):Int) by omega] at k2
 generalize m.contexts[u]=p at hru |-
 obtain⟨pm,pcc,ppc,ps,po,ph,⟨pk,pn,pt⟩,psl,pst,pva,pot,prt⟩:=p
 unfold eqV
 dsimp only at hru |-
 repeat' (first|refine W_ ?_|refine aJ ?_|((with_reducible apply yF (id:=3) 8);kernel_rfl;kernel_rfl;kernel_rfl;(repeat (first|exact Cut.zero _|apply Cut.succ));rfl;rfl;rfl;rfl;rfl;kernel_rfl;rfl)|((with_reducible apply u_y);exact yu_;rfl)|(with_reducible refine aej ?_;intro ss bb)|refine ac ?_|((with_reducible apply sT);rfl;rfl;kernel_rfl;kernel_rfl;kernel_rfl;rfl;(repeat (first|with_reducible exact mh|with_reducible refine mt ?_));(repeat (first|exact .zero _|apply gO.succ)))|((with_reducible apply rz);rfl;rfl;kernel_rfl;kernel_rfl;kernel_rfl;rfl;(repeat (first|exact .zero _|apply gO.succ)))|((with_reducible apply rT);rfl;rfl;kernel_rfl;kernel_rfl;kernel_rfl;rfl;(repeat (first|with_reducible exact mh|with_reducible refine mt ?_));(first|(with_reducible assumption)|(refine aK ?_;omega)|(refine f5 ?_;simp only[ZA,Zf];omega)|exact rfl|assumption);(repeat (first|exact .zero _|apply gO.succ)))|with_reducible refine dB (by kernel_rfl) (by kernel_rfl) ?_|with_reducible refine eV ?_|with_reducible refine dz ?_|with_reducible refine dC rfl ?_|refine eS rfl rfl rfl rr_ ?_|refine dx rfl rfl rfl rr_ rfl rfl rfl ?_|refine cG rfl rfl rfl rr_ rfl rfl ?_|(refine iH rfl rfl rfl rr_ dd_ ?_)|(refine ir rfl rfl rfl rr_ dd_ ?_)|(refine bX rfl rfl rfl rr_ (fun hg=>?_) (fun hg=>?_))|(refine bF rfl rfl rfl rr_ (fun hg=>?_) (fun hg=>?_))|((with_reducible apply d_y);exact y_;rfl)|refine ai hG hst (k1) ?_|refine ai hG hst (k2) ?_)
 all_goals
   refine aN x_ rfl (.tmp _ _ rfl) (fun _=>?_)
   refine aL ?_
   first
     | (simp[eqL,eqC, *];done)
     | (simp_all [eqL,eqC];done)
theorem aa8 {m:ad} {c:ao} {x:aB} {q p:Nat} {ds:List Int} {less:Int} (hq:c.code=q) (hx:m.base.codes[q]?=some x) (hp:c.pc=p) (hd:cx x.instrs=some ds):aeJ m c less=(decide (p<x.instrs.length) && (decide (0<=gd ds (p:Int)) && decide ((c.stack.length:Int)=IntKind.i64.wrap (gd ds (p:Int) - less)))):=by
 unfold aeJ cdA dps
 rw[hq,if_pos (by omega),ZB,hx]
 dsimp only
 rw[hd,hp,Yn]
 congr 1
 rw[decide_eq_decide];omega
theorem ww (f lo:Nat) (m:ad) (hsm:m.small 1048576) (hdep:∀c∈m.base.codes,kr c.instrs=true/\∃ds,cx c.instrs=some ds/\ds.length=c.instrs.length) (k:Nat) (hk:k<m.contexts.length)
   (hc:(0<=m.contexts[k].code/\m.contexts[k].code<m.base.codes.length)/\0<=m.contexts[k].pc) (less:Int):Ct Tryz.prog GL 167 [.cp f (m.tw lo),.int .i64 (k:Int),.int .i64 less] (fun _=>.bool (aeJ m m.contexts[k] less)):=by
 refine av Tryz.func167 rfl Tryz.ntmps167 rfl rfl fun w0 _ hG=>?_
 have hst:=en
 have hrow:=dI (lo:=lo) hk
 have hlx:=ao.len lo m.contexts
 have hlc:=aB.len lo m.base.codes
 have hxl:=hsm.2.2.2.1.1
 have hcl2:=hsm.1.2.1.1
 have hst1:=(hsm.2.2.2.1.2 _ (Zb hk)).2.2.1.1
 obtain⟨⟨c0,c1⟩,c2⟩:=hc
 obtain⟨q,hq⟩:∃q:Nat,m.contexts[k].code=q:=⟨m.contexts[k].code.toNat,by omega⟩
 obtain⟨p,hp⟩:∃p:Nat,m.contexts[k].pc=p:=⟨m.contexts[k].pc.toNat,by omega⟩
 have hql:q<m.base.codes.length:=by omega
 have hrq:=cj (lo:=lo) hql
 obtain⟨hpre,ds,hds,hdl⟩:=hdep _ (Zb hql)
 have hB:=aa8 (less:=less) hq (Za hql) hp hds
 have hxs:=hsm.1.2.1.2 _ (Zb hql)
 rw[hB]
 clear hB hdep
 rw[hq,hp] at hrow
 generalize m.base.codes[q]=x at hrq hpre hds hdl hxs |-
 obtain⟨xb,xp,xs,is⟩:=x
 dsimp only at hrq hpre hds hdl |-
 have hil:=am.len lo is
 have hin:is.length<=1048576:=hxs.1
 have hl16:=nw hst ahX 0 lo xb xp xs is hin hxs.2 hpre
 have hnew:=aa4 (dK is)
 rw[lT lo] at hl16
 unfold dR dO at hl16 hnew
 rw[<- qE is hpre,hds] at hl16 hnew
 rw[Yn,Xx] at hl16 hnew
 generalize m.contexts[k]=c at hrow hst1 c0 c1 c2 hq hp |-
 obtain⟨mk,cc,pc,sd,ou,hm,⟨sk,sn,st⟩,slots,stack,values,oth,rt⟩:=c
 dsimp only at hrow hst1 |-
 have htl:=ab.len lo stack
 have hol:=aj ds
 unfold ad.tw
 repeat' (first|refine H_ 2 ?_|(refine ak ?_;intro ss bb)|refine ac ?_)
 refine⟨?_⟩
 repeat' (first|refine W_ ?_|((with_reducible apply dX (id:=2) 10);kernel_rfl;kernel_rfl;kernel_rfl;rfl;(repeat (first|exact Cut.zero _|apply Cut.succ)))|((with_reducible apply m_q);exact ym_;rfl;exact ez)|((with_reducible apply cA);rfl;(intro p;try dsimp only);(repeat (first|exact TB.nil _|((with_reducible apply TB.cons);rfl;rfl;(first|exact .nil _|exact .put _ _ _ _ _ (.nil _)|exact .skip _ _ _ _ _ (.put _ _ _ _ _ (.nil _))|exact .skip _ _ _ _ _ (.skip _ _ _ _ _ (.put _ _ _ _ _ (.nil _)))|(repeat (first|exact .nil _|apply aW.put|apply aW.skip)));kernel_rfl)));rfl;kernel_rfl;kernel_rfl;exact ez)|((with_reducible apply gm);rfl;rfl;kernel_rfl)|(with_reducible refine DM.nil _ _ _ ?_))
 intro pp hpp
 refine bV (objs':=((pp 9).a,(pp 9).b,.box [.bool false,.int .i64 0,.int .i64 0,.nils])::[(ss,bb,.box [.int .i64 mk,.int .i64 (q:Int),.int .i64 (p:Int),.int .i64 sd,.int .i64 ou,.int .i64 hm,.int .i64 sk,.int .i64 sn,.str st,.sl lo 3 (slots.map (ab.tw lo)),.sl lo 3 (stack.map (ab.tw lo)),.sl lo 3 (values.map (ab.tw lo)),.int .i64 oth,.bool rt])]) (by rw[show et _=[_] from rfl];simp only[ZC,ZK,Zt,ZF,Zx];(try rfl)) ?_
 dsimp only [Nat.reduceAdd]
 generalize Yu.a (pp 9)=s8;generalize Yu.b (pp 9)=b8
 generalize ss=s7;generalize bb=b7
 repeat' (first|refine H_ 3 ?_|refine ac ?_)
 refine⟨?_⟩
 by_cases hpl:p<is.length
 case neg =>
   rw[decide_eq_false hpl,Zl]
   repeat' refine W_ ?_
   all_goals
     exact r1_
 rw[decide_eq_true hpl,Zn]
 have hgp:=fG (o:=ds) (j:=p) (by omega)
 have hwr:IntKind.i64.wrap (gd ds (p:Int) - less)=IntKind.i64.wrap (gd ds (p:Int) - less):=rfl
 generalize hW:IntKind.i64.wrap (gd ds (p:Int) - less)=W at hwr |-
 generalize gd ds (p:Int)=g at hgp hW hwr |-
 clear hwr
 repeat' (first|refine V_ ?_|((with_reducible apply ij);rfl;kernel_rfl;exact hG;exact hst;exact hl16;((with_reducible apply bU.cons);rfl;exact cy.mpSame (cells:=[.bool xb,.int .i64 xp,.int .i64 xs,.sl lo 4 (is.map (am.tw lo))]) mm_);exact bU.nil;exact hnew;rintro ⟨ss,bb⟩ -;refine bO ?_)|refine g_ (fun hg=>?_) (fun hg=>?_))
 all_goals
   refine aN x_ rfl (.tmp _ _ rfl) (fun _=>?_)
   refine aL ?_
   first
     | (simp[*];done)
     | (simp_all;done)
open Classical in
theorem kE {m:ad} {a:Int} (h:¬ d7 m a):kg m a=false:=decide_eq_false h
open Classical in
theorem rP {m:ad} {a:Int} (h:d7 m a):kg m a=true:=decide_eq_true h
theorem rN {lo:Nat} {l:List ag} {i:Nat} (h:i<l.length):(l.map (ag.tw lo))[i]?=some [.int .i64 l[i].at_,.bool l[i].main]:=aK h
theorem aaU {m:ad} {u:Nat} (hu:u<m.contexts.length):d7 m (u:Int)↔m.contexts[u].mark=0/\oA m m.contexts[u] 0=true/\zG m 1 m.contexts[u].sender:=by
 unfold d7
 rw[dF hu]
 constructor
 ·rintro ⟨c,hc,h1,h2⟩
  cases hc
  exact⟨h1,(n8 hu).1 h2⟩
 ·rintro ⟨h1,h2⟩
  exact⟨_,rfl,h1,(n8 hu).2 h2⟩
theorem vR (f lo:Nat) (m:ad) (hsm:m.small 1048576) (hdep:∀c∈m.base.codes,kr c.instrs=true/\∃ds,cx c.instrs=some ds/\ds.length=c.instrs.length) (hsd:eY m)
   (hpl:∀(i:Nat) (h:i<m.contexts.length),m.contexts[i].mark=0->(0<=m.contexts[i].code/\m.contexts[i].code<m.base.codes.length)/\0<=m.contexts[i].pc) (p:Nat) (hp:p<m.processes.length):Ct Tryz.prog GL 83 [.cp f (m.tw lo),.int .i64 (p:Int)] (fun _=>.bool (kg m m.processes[p].at_)):=by
 refine av Tryz.func83 rfl Tryz.ntmps83 rfl rfl fun w0 _ hG=>?_
 have hst:=en
 have hlx:=ao.len lo m.contexts
 have hlp:=ag.len lo m.processes
 have hxl:=hsm.2.2.2.1.1
 have hpl1:=hsm.2.2.2.2.1.1
 have hrp:=rN (lo:=lo) hp
 have hxr:=fun(i:Nat) (h:i<m.contexts.length)=>dI (lo:=lo) (l:=m.contexts) h
 have hde:=fun(i:Nat) (h:i<m.contexts.length) hc less=>ww f lo m hsm hdep i h hc less
 have hon:=fun(k0 a:Int) h=>yw (G:=GL) f lo m hxl hsd k0 a h
 generalize m.processes[p]=pr at hrp |-
 obtain⟨at0,mn⟩:=pr
 dsimp only at hrp |-
 have k1:=bC (G:=GL) at0 0 ((m.contexts.length:Int) - 1)
 unfold ad.tw at hde hon |-
 by_cases hin:0<=at0/\at0<m.contexts.length
 case neg =>
   rw[kE fun h=>hin (by
     obtain⟨c,hc,_⟩:=h
     obtain⟨h0,h1,_⟩:=lW hc
     omega)]
   rw[show inR at0 0 ((m.contexts.length:Int) - 1)=false from by simp only[inR,decide_eq_false_iff_not];omega] at k1
   by_cases hz:1<=m.contexts.length
   ·rw[show (m.contexts.length:Int) - 1=((m.contexts.length - 1:Nat):Int) by omega] at k1
    repeat' (first|refine W_ ?_|refine ae hG hst (k1) ?_)
    exact r1_
   ·repeat' (first|refine W_ ?_|refine ae hG hst (k1) ?_)
    exact r1_
 rw[show inR at0 0 ((m.contexts.length:Int) - 1)=true from by simp only[inR,decide_eq_true_eq];omega] at k1
 rw[show (m.contexts.length:Int) - 1=((m.contexts.length - 1:Nat):Int) by omega] at k1
 obtain⟨u,rfl⟩:∃u:Nat,at0=u:=⟨at0.toNat,by omega⟩
 have hu:u<m.contexts.length:=by omega
 have hch:=aaU hu
 have hru:=hxr u hu
 have hpu:=hpl u hu
 have hdu:=hde u hu
 have hsu:=hsd u hu
 by_cases hm0:m.contexts[u].mark=0
 case neg =>
   rw[kE fun h=>hm0 (hch.1 h).1]
   have hm0':m.contexts[u].mark≠0:=hm0
   generalize m.contexts[u]=c at hru hm0'
   repeat' (first|refine W_ ?_|refine ae hG hst (k1) ?_)
   exact r1_
 have hm0':¬ m.contexts[u].mark≠0:=fun h=>h hm0
 replace hdu:=hdu (hpu hm0) 0
 have hs0:oA m m.contexts[u] 0=aeJ m m.contexts[u] 0:=by unfold oA;rw[if_pos hm0]
 rw[hs0] at hch
 clear hpu hs0
 generalize aeJ m m.contexts[u] 0=b at hdu hch
 cases b
 case false =>
   rw[kE fun h=>by have:=(hch.1 h).2.1;cases this]
   generalize m.contexts[u]=c at hru hm0'
   repeat' (first|refine W_ ?_|refine ae hG hst (k1) ?_|refine ae hG hst (hdu) ?_)
   exact r1_
 have hiff:d7 m (u:Int)↔zG m 1 m.contexts[u].sender:=⟨fun h=>(hch.1 h).2.2,fun h=>hch.2 ⟨hm0,rfl,h⟩⟩
 clear hch hm0
 generalize m.contexts[u]=c at hru hm0' hsu hiff
 repeat' (first|refine W_ ?_|refine ae hG hst (k1) ?_|refine ae hG hst (hdu) ?_)
 apply ap (X:=Int) [0] (fun k=>[(6,.int .i64 k)]) (fun _=>[]) (fun k=>(-1<=k/\k<m.contexts.length)/\(d7 m (u:Int)↔zG m 1 k)) (fun k=>(k+1).toNat) c.sender ⟨by omega,hiff⟩
 exact kp_;exact nw_
 ·exact .refl _
 clear hiff hdu k1 hru hm0' hsu
 rintro k ⟨hk,hiff⟩
 try dsimp only
 by_cases hneg:k<0
 ·rw[rP (hiff.2 (.out _ _ hneg))]
  repeat' refine W_ ?_
  exact r1_
 obtain⟨n,rfl⟩:∃n:Nat,k=n:=⟨k.toNat,by omega⟩
 have hn:n<m.contexts.length:=by omega
 have hrn:=hxr n hn
 have hst2:=hiff.trans (n8 hn)
 have hsn:=hsd n hn
 have hpn:=hpl n hn
 have hdn:=hde n hn
 have hot:=hon m.contexts[n].sender m.contexts[n].other (by omega)
 clear hxr hpl hde hon hdep hsd
 have hF:oA m m.contexts[n] 1=false->kg m (u:Int)=false:=fun h=>kE fun hc=>by have:=(hst2.1 hc).1;rw[h] at this;cases this
 have hT:oA m m.contexts[n] 1=true->(d7 m (u:Int)↔zG m 1 m.contexts[n].sender):=fun h=>⟨fun hc=>(hst2.1 hc).2,fun hw=>hst2.2 ⟨h,hw⟩⟩
 clear hst2
 unfold oA at hF hT
 by_cases hm0:m.contexts[n].mark=0
 ·replace hdn:=hdn (hpn hm0) 1
  rw[if_pos hm0] at hF hT
  generalize aeJ m m.contexts[n] 1=b at hdn hF hT
  clear hpn hot
  have hm3:¬ m.contexts[n].mark=3:=by omega
  have hm5:¬ m.contexts[n].mark=5:=by omega
  generalize m.contexts[n]=c at hrn hm0 hm3 hm5 hsn hT
  cases b
  ·rw[hF rfl]
   repeat' (first|refine W_ ?_|(refine ak ?_;intro ss bb)|refine ac ?_|refine ae hG hst (hdn) ?_)
   exact r1_
  ·repeat' (first|refine W_ ?_|(refine ak ?_;intro ss bb)|refine ac ?_|refine ae hG hst (hdn) ?_)
   exact ah c.sender ⟨by omega,hT rfl⟩ (by omega) (.of _ nw_ od_ pk_)
 rw[if_neg hm0] at hF hT
 clear hdn hpn
 by_cases hm35:m.contexts[n].mark=3\/m.contexts[n].mark=5
 ·rw[if_pos hm35] at hF hT
  generalize onB m m.contexts[n].other m.contexts[n].sender=b at hot hF hT
  generalize m.contexts[n]=c at hrn hm0 hm35 hsn hT hot
  rcases hm35 with hm3|hm5
  ·have hm5:¬ c.mark=5:=by omega
   cases b
   ·rw[hF rfl]
    repeat' (first|refine W_ ?_|(refine ak ?_;intro ss bb)|refine ac ?_|refine ae hG hst (hot) ?_)
    exact r1_
   ·repeat' (first|refine W_ ?_|(refine ak ?_;intro ss bb)|refine ac ?_|refine ae hG hst (hot) ?_)
    exact ah c.sender ⟨by omega,hT rfl⟩ (by omega) (.of _ nw_ od_ pk_)
  ·have hm3:¬ c.mark=3:=by omega
   cases b
   ·rw[hF rfl]
    repeat' (first|refine W_ ?_|(refine ak ?_;intro ss bb)|refine ac ?_|refine ae hG hst (hot) ?_)
    exact r1_
   ·repeat' (first|refine W_ ?_|(refine ak ?_;intro ss bb)|refine ac ?_|refine ae hG hst (hot) ?_)
    exact ah c.sender ⟨by omega,hT rfl⟩ (by omega) (.of _ nw_ od_ pk_)
 ·rw[if_neg hm35] at hT
  have hm3:¬ m.contexts[n].mark=3:=fun h=>hm35 (.inl h)
  have hm5:¬ m.contexts[n].mark=5:=fun h=>hm35 (.inr h)
  generalize m.contexts[n]=c at hrn hm0 hm3 hm5 hsn hT
  repeat' (first|refine W_ ?_|(refine ak ?_;intro ss bb)|refine ac ?_)
  exact ah c.sender ⟨by omega,hT rfl⟩ (by omega) (.of _ nw_ od_ pk_)
end Go.Proofs.YtifcomgnmokimaaGreatDoor
