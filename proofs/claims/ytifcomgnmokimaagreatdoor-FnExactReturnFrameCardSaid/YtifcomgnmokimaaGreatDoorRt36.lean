/- Part 36 of the proof: the texts ImP1. -/
import Derived.Test.YtifcomgnmokimaaGreatDoorRt34
set_option linter.all false
set_option maxHeartbeats 4000000
set_option maxRecDepth 20000
namespace Go.Proofs.YtifcomgnmokimaaGreatDoor
open Go Go.RowKit
theorem nJ (f lo:Nat) (m:ad) (hsm:m.small 1048576) (hsd:eY m):Ct Tryz.prog GL 84 [.cp f (m.tw lo)] (fun _=>.bool (vM m)):=by
 refine av Tryz.func84 rfl Tryz.ntmps84 rfl rfl fun w0 _ hG=>?_
 have hst:=en
 have hlx:=ao.len lo m.contexts
 have hlo:=ar.len lo m.store.objects
 have hxl:=hsm.2.2.2.1.1
 have hol:=hsm.2.1.2.1.1
 have hon:=fun(k0 a:Int) h=>yw (G:=GL) f lo m hxl hsd k0 a h
 have hxr:=fun(i:Nat) (h:i<m.contexts.length)=>dI (lo:=lo) (l:=m.contexts) h
 have hsn:=fun(i:Nat) (h:i<m.store.objects.length)=>(hsm.2.1.2.1.2 _ (Zb h)).2
 unfold ad.tw at hon |-
 repeat' refine W_ ?_
 apply ap (X:=Nat) [0] (fun i=>[(3,.int .i64 (i:Int))]) (fun _=>[]) (fun i=>i<=m.store.objects.length/\∀o∈m.store.objects.take i,xL m o) (fun i=>m.store.objects.length - i) 0 ⟨Ze _,by simp⟩
 exact kp_;exact nw_
 ·exact .refl _
 rintro i ⟨hi,hall⟩
 try dsimp only
 by_cases hlt:i<m.store.objects.length
 case neg =>
   obtain rfl:i=m.store.objects.length:=by omega
   rw[Zc (Zg _)] at hall
   rw[agC hall]
   repeat' refine W_ ?_
   exact r1_
 have hrow:=sy (lo:=lo) hlt
 have hta:=aY (p:=fun o=>xL m o) hlt hall
 have hbad:=agQ (m:=m) (Zb hlt)
 have hnl:=hsn i hlt
 clear hsn hall
 generalize m.store.objects[i]=o at hrow hta hbad hnl
 obtain⟨ok,oc,fs,ns⟩:=o
 dsimp only at hrow hnl
 have hnl2:=aj ns
 by_cases hk:ok=1
 case neg =>
   have hk':ok≠1:=hk
   replace hta:=hta fun h=>absurd h hk
   repeat' (first|refine W_ ?_|(refine ak ?_;intro ss bb)|refine ac ?_)
   exact ah (i+1) ⟨by omega,hta⟩ (by omega) (.of _ nw_ od_ pk_)
 subst hk
 have hk':¬ ((1:Int)≠1):=fun h=>h rfl
 by_cases h3:ns.length=3
 case neg =>
   have h3':(ns.length:Int)≠3:=by omega
   replace hta:=hta fun _ a b c e=>by
     dsimp only at e
     rw[e] at h3;exact absurd rfl h3
   repeat' (first|refine W_ ?_|(refine ak ?_;intro ss bb)|refine ac ?_)
   exact ah (i+1) ⟨by omega,hta⟩ (by omega) (.of _ nw_ od_ pk_)
 obtain⟨n0,n1,n2,rfl⟩:=ag0 h3
 clear hnl hnl2 h3
 rw[age] at hta hbad
 have hln:([[.int .i64 n0],[.int .i64 n1],[.int .i64 n2]]:List (List TV)).length=3:=rfl
 simp only[aS,ZU,Yj] at hrow
 by_cases h1:n1=-1
 ·subst h1
  by_cases h0:n0=-1/\n2=0
  ·obtain⟨rfl,rfl⟩:=h0
   replace hta:=hta (nV.2 ⟨rfl,rfl⟩)
   repeat' (first|refine W_ ?_|(refine ak ?_;intro ss bb)|refine ac ?_)
   exact ah (i+1) ⟨by omega,hta⟩ (by omega) (.of _ nw_ od_ pk_)
  rw[hbad fun h=>h0 (nV.1 h)]
  have k1:=bC (G:=GL) (-1) 0 ((m.contexts.length:Int) - 1)
  rw[show inR (-1) 0 ((m.contexts.length:Int) - 1)=false from by simp only[inR,decide_eq_false_iff_not];omega] at k1
  have k2:=bC (G:=GL) (-1) 0 ((m.contexts.length - 1:Nat):Int)
  rw[show inR (-1) 0 ((m.contexts.length - 1:Nat):Int)=false from by simp only[inR,decide_eq_false_iff_not];omega] at k2
  by_cases hn0:n0=-1
  ·have hn2:¬ n2=0:=fun h=>h0 ⟨hn0,h⟩
   by_cases hz:1<=m.contexts.length
   all_goals
     repeat' (first|refine V_ ?_|(refine ak ?_;intro ss bb)|refine ac ?_|refine ai hG hst (k1) ?_|refine ai hG hst (k2) ?_|refine g_ (fun hg=>?_) (fun hg=>?_))
     all_goals
       exact r1_
  ·by_cases hz:1<=m.contexts.length
   all_goals
     repeat' (first|refine V_ ?_|(refine ak ?_;intro ss bb)|refine ac ?_|refine ai hG hst (k1) ?_|refine ai hG hst (k2) ?_|refine g_ (fun hg=>?_) (fun hg=>?_))
     all_goals
       exact r1_
 by_cases h2:n2=1
 case neg =>
   have h2':n2≠1:=h2
   rw[hbad (ya h1 h2)]
   repeat' (first|refine V_ ?_|(refine ak ?_;intro ss bb)|refine ac ?_)
   exact r1_
 have h2':¬ n2≠1:=fun h=>h h2
 have k1:=bC (G:=GL) n1 0 ((m.contexts.length:Int) - 1)
 by_cases hin:0<=n1/\n1<m.contexts.length
 case neg =>
   rw[hbad (xR h1 hin)]
   rw[show inR n1 0 ((m.contexts.length:Int) - 1)=false from by simp only[inR,decide_eq_false_iff_not];omega] at k1
   by_cases hz:1<=m.contexts.length
   ·rw[show (m.contexts.length:Int) - 1=((m.contexts.length - 1:Nat):Int) by omega] at k1
    repeat' (first|refine V_ ?_|(refine ak ?_;intro ss bb)|refine ac ?_|refine ai hG hst (k1) ?_)
    exact r1_
   ·repeat' (first|refine V_ ?_|(refine ak ?_;intro ss bb)|refine ac ?_|refine ai hG hst (k1) ?_)
    exact r1_
 rw[show inR n1 0 ((m.contexts.length:Int) - 1)=true from by simp only[inR,decide_eq_true_eq];omega] at k1
 rw[show (m.contexts.length:Int) - 1=((m.contexts.length - 1:Nat):Int) by omega] at k1
 obtain⟨u,rfl⟩:∃u:Nat,n1=u:=⟨n1.toNat,by omega⟩
 have hu:u<m.contexts.length:=by omega
 have hd1:decide ((u:Int)=-1)=false:=decide_eq_false h1
 have hru:=hxr u hu
 have hiff:=xS (m:=m) (n0:=n0) (n2:=n2) hu
 have hsu:=hsd u hu
 have hot:=hon m.contexts[u].sender n0 (by omega)
 have hob:=acr (m:=m) (a:=n0) (k:=m.contexts[u].sender)
 have hlt2:OnW m n0 m.contexts[u].sender->n0<m.contexts.length:=fun h=>agz hsd h (by omega)
 generalize onB m n0 m.contexts[u].sender=b at hot hob
 rw[<- hob] at hiff hlt2
 clear hon hxr hob
 generalize m.contexts[u]=c at hru hiff hot hsu
 rw[hiff] at hta hbad
 by_cases h3:c.mark=3
 case neg =>
   have h3':c.mark≠3:=h3
   rw[hbad fun h=>h3 h.2.1]
   repeat' (first|refine V_ ?_|(refine ak ?_;intro ss bb)|refine ac ?_|refine ai hG hst (k1) ?_|rw[hd1])
   exact r1_
 have h3':¬ c.mark≠3:=fun h=>h h3
 have k2:=bC (G:=GL) n0 0 ((m.contexts.length - 1:Nat):Int)
 by_cases h0:0<=n0/\n0<m.contexts.length
 case neg =>
   rw[show inR n0 0 ((m.contexts.length - 1:Nat):Int)=false from by simp only[inR,decide_eq_false_iff_not];omega] at k2
   rw[hbad fun h=>h0 ⟨h.2.2.1,hlt2 h.2.2.2⟩]
   repeat' (first|refine V_ ?_|(refine ak ?_;intro ss bb)|refine ac ?_|refine ai hG hst (k1) ?_|refine ai hG hst (k2) ?_|rw[hd1])
   exact r1_
 rw[show inR n0 0 ((m.contexts.length - 1:Nat):Int)=true from by simp only[inR,decide_eq_true_eq];omega] at k2
 cases b
 ·rw[hbad fun h=>by have:=h.2.2.2;cases this]
  repeat' (first|refine V_ ?_|(refine ak ?_;intro ss bb)|refine ac ?_|refine ai hG hst (k1) ?_|refine ai hG hst (k2) ?_|refine ai hG hst (hot) ?_|rw[hd1])
  exact r1_
 ·replace hta:=hta ⟨h2,h3,h0.1,rfl⟩
  repeat' (first|refine V_ ?_|(refine ak ?_;intro ss bb)|refine ac ?_|refine ai hG hst (k1) ?_|refine ai hG hst (k2) ?_|refine ai hG hst (hot) ?_|rw[hd1])
  exact ah (i+1) ⟨by omega,hta⟩ (by omega) (.of _ nw_ od_ pk_)
end Go.Proofs.YtifcomgnmokimaaGreatDoor
