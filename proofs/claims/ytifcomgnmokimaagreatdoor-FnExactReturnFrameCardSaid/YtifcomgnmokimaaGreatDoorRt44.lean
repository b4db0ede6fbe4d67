/- Part 44 of the proof: the texts FrA. -/
import Derived.Test.YtifcomgnmokimaaGreatDoorRt3
import Derived.Test.YtifcomgnmokimaaGreatDoorRt38
import Derived.Test.YtifcomgnmokimaaGreatDoorRt41
import Derived.Test.YtifcomgnmokimaaGreatDoorRt40
set_option linter.all false
set_option maxHeartbeats 2000000
set_option maxRecDepth 20000
namespace Go.Proofs.YtifcomgnmokimaaGreatDoor
open Go Go.RowKit
section
variable {G:World->Prop}
theorem tE (f lo:Nat) (m:ad) (hsm:m.small 1048576) (hs:eY m) (n:Nat) (hn:m.now=n) (p:ag) (hp:m.processes[n]?=some p) (hat:-1<=p.at_/\p.at_<m.contexts.length):Ct Tryz.prog G 125 [.cp f (m.tw lo)] (fun K=>.sl K 1 (aS (bR m p.at_))):=by
 refine av Tryz.func125 rfl Tryz.ntmps125 rfl rfl fun w0 _ hG=>?_
 have hlen:=ao.len lo m.contexts
 have hxl:=hsm.2.2.2.1.1
 have hrp:(m.processes.map (ag.tw lo))[n]?=some [.int .i64 p.at_,.bool p.main]:=by rw[Zj,hp];rfl
 have hfl:=jd m p.at_
 unfold ad.tw
 rw[hn]
 repeat' (first|refine V_ ?_|(refine jz ?_;intro ss bb)|refine c_ (fun hc=>?_) (fun hc=>?_)|refine g_ (fun hg=>?_) (fun hg=>?_))
 generalize ss=so;generalize bb=bo
 apply ap (X:=Int×Nat×List Int) [0] (fun x=>[(4,.int .i64 x.1),(3,.ms so x.2.1 0 x.2.2.length)]) (fun x=>[(so,x.2.1,.row 1 (aS x.2.2))]) (fun x=>(-1<=x.1/\x.1<m.contexts.length)/\x.2.2++bR m x.1=bR m p.at_) (fun x=>(x.1+1).toNat) (p.at_,bo,[]) ⟨hat,rfl⟩
 exact kp_;exact nw_
 ·exact .refl _
 rintro ⟨k,b2,L⟩ ⟨hk,hL⟩
 dsimp only at hk hL |-
 by_cases hneg:k<0
 ·rw[iQ hneg,Zt] at hL
  rw[<- hL]
  repeat' (first|refine W_ ?_|refine c_ (fun hc=>?_) (fun hc=>?_)|refine g_ (fun hg=>?_) (fun hg=>?_))
  refine aN x_ rfl (.tmp _ _ rfl) (fun _=>?_)
  exact abw (fun x=>.cons (.flat rfl) .nil) Zi
 obtain⟨q,rfl⟩:∃q:Nat,k=q:=⟨k.toNat,by omega⟩
 have hq:q<m.contexts.length:=by omega
 have hrow:=dI (lo:=lo) hq
 have hst:=jD hs hq
 have hpq:=hs q hq
 have hll:L.length<=(bR m p.at_).length:=by rw[<- hL,Zh];omega
 rw[hst] at hL
 clear hst
 generalize m.contexts[q]=c at hrow hL hpq
 by_cases h0:c.mark=0
 ·rw[if_pos h0,<- Zk] at hL
  repeat' (first|refine W_ ?_|refine ef ?_|((with_reducible apply eD);rfl;rfl;rfl;kernel_rfl;(repeat (first|with_reducible exact mh|with_reducible refine mt ?_));exact aj _;exact(rfl:_=1);omega;exact t6 _ _;(intro bq;(repeat (first|with_reducible exact Upd.head _|with_reducible apply Upd.tail)));intro bb)|refine c_ (fun hc=>?_) (fun hc=>?_)|refine g_ (fun hg=>?_) (fun hg=>?_))
  exact ah (c.sender,bb,L++[(q:Int)]) ⟨by dsimp only;omega,hL⟩ (by dsimp only;omega) (.of _ nw_ od_ pk_)
 ·rw[if_neg h0,Zx] at hL
  repeat' (first|refine W_ ?_|refine c_ (fun hc=>?_) (fun hc=>?_)|refine g_ (fun hg=>?_) (fun hg=>?_))
  exact ah (c.sender,b2,L) ⟨by dsimp only;omega,hL⟩ (by dsimp only;omega) (.of _ nw_ od_ pk_)
theorem uJ (lo:Nat) (m:ad) (hsm:m.small 1048576) (hs:eY m) (n:Nat) (hn:m.now=n) (p:ag) (hp:m.processes[n]?=some p) (hat:-1<=p.at_/\p.at_<m.contexts.length):CtM Tryz.prog G 132 [.agg (m.tw lo)] [] (fun _:Nat×Nat=>True) (fun y=>[(y.1,y.2,.row 1 (aS (bR m p.at_)))]) (fun y=>.ms y.1 y.2 0 (bR m p.at_).length):=by
 refine au Tryz.func132 rfl Tryz.ntmps132 rfl rfl rfl fun w0 R gs objsR hG hR=>?_
 obtain rfl:=hR.inv0
 clear hR
 have hlen:=ao.len lo m.contexts
 have hxl:=hsm.2.2.2.1.1
 have hrp:(m.processes.map (ag.tw lo))[n]?=some [.int .i64 p.at_,.bool p.main]:=by rw[Zj,hp];rfl
 have hfl:=jd m p.at_
 unfold ad.tw
 rw[hn]
 repeat' (first|refine V_ ?_|refine aJ ?_|(refine jz ?_;intro ss bb)|refine c_ (fun hc=>?_) (fun hc=>?_)|refine g_ (fun hg=>?_) (fun hg=>?_))
 generalize ss=so;generalize bb=bo
 apply ap (X:=Int×Nat×List Int) [1,1000000] (fun x=>[(4,.int .i64 x.1),(3,.ms so x.2.1 0 x.2.2.length)]) (fun x=>(so,x.2.1,.row 1 (aS x.2.2))::R) (fun x=>(-1<=x.1/\x.1<m.contexts.length)/\x.2.2++bR m x.1=bR m p.at_) (fun x=>(x.1+1).toNat) (p.at_,bo,[]) ⟨hat,rfl⟩
 exact kp_;exact nw_
 ·exact .refl _
 rintro ⟨k,b2,L⟩ ⟨hk,hL⟩
 dsimp only at hk hL |-
 by_cases hneg:k<0
 ·rw[iQ hneg,Zt] at hL
  rw[<- hL]
  repeat' (first|refine W_ ?_|refine c_ (fun hc=>?_) (fun hc=>?_)|refine g_ (fun hg=>?_) (fun hg=>?_))
  exact aw x_ rfl (so,b2) trivial rfl (.cons _ _ _ _ (.nil R)) pk_ (.tmp _ _ rfl) rfl
 obtain⟨q,rfl⟩:∃q:Nat,k=q:=⟨k.toNat,by omega⟩
 have hq:q<m.contexts.length:=by omega
 have hrow:=dI (lo:=lo) hq
 have hst:=jD hs hq
 have hpq:=hs q hq
 have hll:L.length<=(bR m p.at_).length:=by rw[<- hL,Zh];omega
 rw[hst] at hL
 clear hst
 generalize m.contexts[q]=c at hrow hL hpq
 by_cases h0:c.mark=0
 ·rw[if_pos h0,<- Zk] at hL
  repeat' (first|refine W_ ?_|refine ef ?_|((with_reducible apply eD);rfl;rfl;rfl;kernel_rfl;(repeat (first|with_reducible exact mh|with_reducible refine mt ?_));exact aj _;exact(rfl:_=1);omega;exact t6 _ _;(intro bq;(repeat (first|with_reducible exact Upd.head _|with_reducible apply Upd.tail)));intro bb)|refine c_ (fun hc=>?_) (fun hc=>?_)|refine g_ (fun hg=>?_) (fun hg=>?_))
  exact ah (c.sender,bb,L++[(q:Int)]) ⟨by dsimp only;omega,hL⟩ (by dsimp only;omega) (.of _ nw_ od_ pk_)
 ·rw[if_neg h0,Zx] at hL
  repeat' (first|refine W_ ?_|refine c_ (fun hc=>?_) (fun hc=>?_)|refine g_ (fun hg=>?_) (fun hg=>?_))
  exact ah (c.sender,b2,L) ⟨by dsimp only;omega,hL⟩ (by dsimp only;omega) (.of _ nw_ od_ pk_)
end
theorem nG (lo:Nat) (m:ad) (hsm:m.small 1048576):CtM Tryz.prog GL 48 [.agg (m.tw lo)] [] (fun _:Nat×Nat=>True) (fun y=>[(y.1,y.2,.row 1 (aS (cR m)))]) (fun y=>.ms y.1 y.2 0 (cR m).length):=by
 refine au Tryz.func48 rfl Tryz.ntmps48 rfl rfl rfl fun w0 R gs objsR hG hR=>?_
 obtain rfl:=hR.inv0
 clear hR
 have hst:=en
 have hct:=p6 lo m hsm
 by_cases h0:m.status=0
 ·have h0':¬ m.status≠0:=fun h=>h h0
  cases hV:da m with
  | false =>
    rw[show cR m=[] from if_neg (by rw[hV];simp)]
    rw[hV] at hct
    unfold ad.tw at hct |-
    repeat' (first|refine W_ ?_|refine aJ ?_|refine ae hG hst (hct) ?_|refine c_ (fun hc=>?_) (fun hc=>?_)|refine g_ (fun hg=>?_) (fun hg=>?_))
    refine eG 2 1 (by omega) rfl fun ss=>aw x_ rfl (ss,0) trivial rfl (.cons _ _ _ _ (.nil R)) pk_ (.tmp _ _ rfl) rfl
  | true =>
    obtain⟨hs,n,p,hn,_,hp,ha,h1,h2⟩:=ld hV
    rw[show cR m=bR m p.at_ from by unfold cR;rw[if_pos ⟨hV,h0⟩,ha]]
    have hfr:=uJ (G:=GL) lo m hsm hs n hn p hp ⟨h1,h2⟩
    rw[hV] at hct
    unfold ad.tw at hct hfr |-
    repeat' (first|refine W_ ?_|refine aJ ?_|refine ae hG hst (hct) ?_|((with_reducible apply aA);rfl;kernel_rfl;(repeat (first|exact az.nil|((with_reducible apply az.cons);rfl)));exact hG;exact hfr;exact .nil _;intro y hy;refine bO ?_)|refine c_ (fun hc=>?_) (fun hc=>?_)|refine g_ (fun hg=>?_) (fun hg=>?_))
    exact aw x_ rfl y trivial rfl (.cons _ _ _ _ (.nil R)) pk_ (.tmp _ _ rfl) rfl
 ·rw[show cR m=[] from if_neg fun h=>h0 h.2]
  unfold ad.tw
  repeat' (first|refine W_ ?_|refine aJ ?_|refine c_ (fun hc=>?_) (fun hc=>?_)|refine g_ (fun hg=>?_) (fun hg=>?_))
  refine eG 2 1 (by omega) rfl fun ss=>aw x_ rfl (ss,0) trivial rfl (.cons _ _ _ _ (.nil R)) pk_ (.tmp _ _ rfl) rfl
end Go.Proofs.YtifcomgnmokimaaGreatDoor
