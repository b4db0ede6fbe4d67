/- Part 29 of the proof: the texts ImH. -/
import Derived.Test.YtifcomgnmokimaaGreatDoorRt24
set_option linter.all false
set_option maxHeartbeats 2000000
set_option maxRecDepth 20000
namespace Go.Proofs.YtifcomgnmokimaaGreatDoor
open Go Go.RowKit
theorem acp (f lo:Nat) (m:ad) (hbl:m.blocks.length<=1048576) (l:List ab) (hl:l.length<=1048576/\∀y∈l,ab.small 1048576 y):Ct Tryz.prog GL 164 [.cp f (m.tw lo),.sl lo 3 (l.map (ab.tw lo))] (fun _=>.bool (pS m l)):=by
 refine av Tryz.func164 rfl Tryz.ntmps164 rfl rfl fun w0 _ hG=>?_
 have hst:=en
 have hlen:=aq.len lo m.blocks
 have hll:=ab.len lo l
 obtain⟨hl1,hl2⟩:=hl
 have hex:=fun(x:ab) (h:x.text.size<=1048576)=>fh 0 lo m.store m.blocks.length x h
 unfold aQ.tw at hex
 unfold ad.tw
 repeat' refine W_ ?_
 apply ap (X:=Nat) [0,1] (fun i=>[(5,.int .i64 (i:Int))]) (fun _=>[]) (fun i=>i<=l.length/\∀y∈l.take i,cD m.store m.blocks.length y=true) (fun i=>l.length - i) 0 ⟨Ze _,by simp⟩
 exact kp_;exact nw_
 ·exact .refl _
 rintro i ⟨hi,hall⟩
 try dsimp only
 by_cases hlt:i<l.length
 ·have hrow:=kO (lo:=lo) hlt
  have hxi:=hex _ (hl2 _ (Zb hlt))
  have hta:=aY (p:=fun y=>cD m.store m.blocks.length y=true) hlt hall
  cases hfi:cD m.store m.blocks.length l[i] with
  | false =>
    rw[show pS m l=false from fB hlt hfi]
    rw[hfi] at hxi
    generalize l[i]=x at hrow hxi
    repeat' (first|refine V_ ?_|refine dv hG hst (hxi) ?_)
    exact r1_
  | true =>
    rw[hfi] at hxi hta
    generalize l[i]=x at hrow hxi
    repeat' (first|refine V_ ?_|refine dv hG hst (hxi) ?_)
    exact ah (i+1) ⟨by omega,hta rfl⟩ (by omega) (.of _ nw_ od_ pk_)
 obtain rfl:i=l.length:=by omega
 rw[Zc (Zg _)] at hall
 rw[show pS m l=true from List.all_eq_true.2 hall]
 clear hex hall
 repeat' refine W_ ?_
 exact r1_
theorem aah (f lo:Nat) (m:ad) (hsm:m.small 1048576) (hcl:iA m.store.classes) (h16:16<=m.store.classes.length) (hc1:1<=m.base.codes.length) (k:Nat) (hk:k<m.contexts.length) (hva:∀v∈m.contexts[k].values,mL m v):Ct Tryz.prog GL 165 [.cp f (m.tw lo),.int .i64 (k:Int)] (fun _=>.bool (tK m k m.contexts[k])):=by
 refine av Tryz.func165 rfl Tryz.ntmps165 rfl rfl fun w0 _ hG=>?_
 have hst:=en
 have hrow:=dI (lo:=lo) hk
 have hlx:=ao.len lo m.contexts
 have hxl:=hsm.2.2.2.1.1
 have hmk:=fun(i:Nat) (h:i<m.contexts.length)=>acq (m:=m) h
 have hrw:=fun(i:Nat) (h:i<m.contexts.length)=>dI (lo:=lo) (l:=m.contexts) h
 have hbk:=fun v hv most=>xt hst f lo m hsm.2.2.1.1 hsm.1.2.1.1 hc1 v hv most
 have hci:=fun(k0:Int)=>yW (G:=GL) lo m.store.classes hcl k0 1 (by omega)
 have hcs:=(hsm.2.2.2.1.2 _ (Zb hk)).2.2.2.1
 unfold ad.tw at hbk |-
 generalize m.contexts[k]=c at hrow hva hcs |-
 obtain⟨mk,cc,pc,sd,ou,ho,⟨sk,sn,st⟩,slots,stack,values,oth,rt⟩:=c
 dsimp only at hrow hva hcs |-
 have hvl:=ab.len lo values
 unfold tK
 dsimp only
 rcases ui mk with rfl|rfl|rfl|rfl|rfl|⟨g1,g2,g3,g4,g5⟩
 ·rw[if_pos rfl]
  by_cases h3:values.length=3
  case neg =>
    rw[agF h3]
    have h3':¬ (values.length:Int)=3:=by omega
    repeat' (first|refine V_ ?_|(refine ak ?_;intro ss bb)|refine ac ?_)
    exact r1_
  obtain⟨v0,v1,v2,rfl⟩:=aij h3
  rw[afb]
  obtain⟨k0,n0,t0⟩:=v0
  have f1:=hbk v1 (hva v1 (by simp)) 1
  have f2:=hbk v2 (hva v2 (by simp)) 0
  have f0:=hci n0
  obtain⟨k1,n1,t1⟩:=v1
  obtain⟨k2,n2,t2⟩:=v2
  dsimp only at f1 f2 f0 |-
  generalize tN m ⟨k1,n1,t1⟩ 1=b1 at f1 |-
  generalize tN m ⟨k2,n2,t2⟩ 0=b2 at f2 |-
  generalize wJ m.store.classes 1 n0=b0 at f0 |-
  simp only[ZU,Yj,ab.tw] at hrow hvl
  repeat' (first|refine V_ ?_|(refine ak ?_;intro ss bb)|refine ac ?_|refine ai hG hst (f0) ?_|refine ai hG hst (f1) ?_|refine ai hG hst (f2) ?_|refine g_ (fun hg=>?_) (fun hg=>?_))
  all_goals
    refine aN x_ rfl (.tmp _ _ rfl) (fun _=>?_)
    exact aL (by simp[*])
 ·rw[if_neg (by decide),if_pos rfl]
  by_cases h3:values.length=1
  case neg =>
    rw[adj h3]
    have h3':¬ (values.length:Int)=1:=by omega
    repeat' (first|refine V_ ?_|(refine ak ?_;intro ss bb)|refine ac ?_)
    exact r1_
  obtain⟨v1,rfl⟩:=ahb h3
  rw[wc]
  have f1:=hbk v1 (hva v1 (by simp)) 0
  obtain⟨k1,n1,t1⟩:=v1
  dsimp only at f1 |-
  generalize tN m ⟨k1,n1,t1⟩ 0=b1 at f1 |-
  simp only[ZU,Yj,ab.tw] at hrow hvl
  repeat' (first|refine W_ ?_|(refine ak ?_;intro ss bb)|refine ac ?_|refine ae hG hst (f1) ?_)
  all_goals
    refine aN x_ rfl (.tmp _ _ rfl) (fun _=>?_)
    exact aL (by simp[*])
 ·rw[if_neg (by decide),if_neg (by decide),if_pos rfl]
  by_cases h3:values.length=1
  case neg =>
    rw[adj h3]
    have h3':¬ (values.length:Int)=1:=by omega
    repeat' (first|refine V_ ?_|(refine ak ?_;intro ss bb)|refine ac ?_)
    exact r1_
  obtain⟨v1,rfl⟩:=ahb h3
  rw[wc]
  obtain⟨k1,n1,t1⟩:=v1
  dsimp only at |-
  simp only[ZU,Yj,ab.tw] at hrow hvl
  have c1:=bC (G:=GL) oth 0 ((k:Int) - 1)
  cases hin:inR oth 0 ((k:Int) - 1)
  case false =>
    rw[xh hin,YD]
    rw[hin] at c1
    repeat' (first|refine V_ ?_|(refine ak ?_;intro ss bb)|refine ac ?_|refine ai hG hst (c1) ?_|refine g_ (fun hg=>?_) (fun hg=>?_))
    all_goals
      exact r1_
  rw[abm hin]
  rw[hin] at c1
  have hin':=of_decide_eq_true hin
  obtain⟨q,rfl⟩:∃q:Nat,oth=q:=⟨oth.toNat,by omega⟩
  have hq:q<m.contexts.length:=by omega
  have hr2:=hrw q hq
  rw[hmk q hq]
  rw[show (k:Int) - 1=((k - 1:Nat):Int) by omega] at c1
  generalize m.contexts[q]=d at hr2 |-
  repeat' (first|refine V_ ?_|(refine ak ?_;intro ss bb)|refine ac ?_|refine ai hG hst (c1) ?_|refine g_ (fun hg=>?_) (fun hg=>?_))
  all_goals
    refine aN x_ rfl (.tmp _ _ rfl) (fun _=>?_)
    exact aL (by simp[*])
 ·rw[if_neg (by decide),if_neg (by decide),if_neg (by decide),if_pos rfl]
  repeat' (first|refine W_ ?_|(refine ak ?_;intro ss bb)|refine ac ?_)
  refine aN x_ rfl (.tmp _ _ rfl) (fun _=>?_)
  exact aL (by rw[decide_eq_decide];omega)
 ·rw[if_neg (by decide),if_neg (by decide),if_neg (by decide),if_neg (by decide),if_pos rfl]
  have c1:=bC (G:=GL) oth (-1) ((k:Int) - 1)
  cases hin:inR oth (-1) ((k:Int) - 1)
  case false =>
    rw[Zl]
    rw[hin] at c1
    repeat' (first|refine W_ ?_|(refine ak ?_;intro ss bb)|refine ac ?_|refine ae hG hst (c1) ?_)
    exact r1_
  rw[Zn]
  rw[hin] at c1
  have hin':=of_decide_eq_true hin
  by_cases h3:values.length=1
  case neg =>
    have h3':(values.length:Int)≠1:=by omega
    rw[decide_eq_false h3,Zl]
    repeat' (first|refine W_ ?_|(refine ak ?_;intro ss bb)|refine ac ?_|refine ae hG hst (c1) ?_)
    exact r1_
  have h3':¬ (values.length:Int)≠1:=by omega
  rw[decide_eq_true h3,Zn]
  cases rt
  case false =>
    repeat' (first|refine V_ ?_|(refine ak ?_;intro ss bb)|refine ac ?_|refine ae hG hst (c1) ?_)
    exact r1_
  by_cases hneg:oth<0
  ·rw[xh (by simp only[inR,decide_eq_false_iff_not];omega)]
   repeat' (first|refine V_ ?_|(refine ak ?_;intro ss bb)|refine ac ?_|refine ae hG hst (c1) ?_)
   exact r1_
  rw[abm (by simp only[inR,decide_eq_true_eq];omega)]
  obtain⟨q,rfl⟩:∃q:Nat,oth=q:=⟨oth.toNat,by omega⟩
  have hq:q<m.contexts.length:=by omega
  have hr2:=hrw q hq
  rw[hmk q hq]
  rw[show (k:Int) - 1=((k - 1:Nat):Int) by omega] at c1
  generalize m.contexts[q]=d at hr2 |-
  repeat' (first|refine V_ ?_|(refine ak ?_;intro ss bb)|refine ac ?_|refine ae hG hst (c1) ?_)
  refine aN x_ rfl (.tmp _ _ rfl) (fun _=>?_)
  exact aL (by simp[*])
 ·rw[if_neg g1,if_neg g2,if_neg g3,if_neg g4,if_neg g5]
  repeat' (first|refine W_ ?_|(refine ak ?_;intro ss bb)|refine ac ?_)
  exact r1_
end Go.Proofs.YtifcomgnmokimaaGreatDoor
