/- Part 32 of the proof: the texts ImJ, RfM. -/
import Derived.Test.YtifcomgnmokimaaGreatDoorRt24
import Derived.Test.YtifcomgnmokimaaGreatDoorRt21
import Derived.Test.YtifcomgnmokimaaGreatDoorRt3
import Derived.Test.YtifcomgnmokimaaGreatDoorRt31
import Derived.Test.YtifcomgnmokimaaGreatDoorRt14
set_option linter.all false
set_option maxHeartbeats 4000000
set_option maxRecDepth 20000
namespace Go.Proofs.YtifcomgnmokimaaGreatDoor
open Go Go.RowKit
theorem zq (f lo:Nat) (m:ad) (hxl:m.contexts.length<=1048576) (k:Nat) (hk:k<m.contexts.length) (i:Int):Ct Tryz.prog GL 252 [.int .i64 i,.cp f [.int .i64 (k:Int)],.cp f (m.tw lo)] (fun _=>.bool (doB m k i)):=by
 refine av Tryz.func252 rfl Tryz.ntmps252 rfl rfl fun w0 _ hG=>?_
 have hst:=en
 have hlx:=ao.len lo m.contexts
 have c1:=aP (G:=GL) i 0 ((k:Int) - 1)
 unfold ad.tw
 cases hin:inR i 0 ((k:Int) - 1)
 case false =>
   rw[xh hin]
   rw[hin] at c1
   repeat' (first|refine W_ ?_|refine ae hG hst (c1) ?_)
   exact r1_
 rw[abm hin]
 rw[hin] at c1
 have hin':=of_decide_eq_true hin
 obtain⟨q,rfl⟩:∃q:Nat,i=q:=⟨i.toNat,by omega⟩
 have hq:q<m.contexts.length:=by omega
 rw[show (k:Int) - 1=((k - 1:Nat):Int) by omega] at c1
 have hr2:=dI (lo:=lo) hq
 rw[acq hq]
 generalize m.contexts[q]=d at hr2 |-
 repeat' (first|refine W_ ?_|refine ae hG hst (c1) ?_)
 exact r1_
theorem aci (lo:Nat) (m:ad) (hsm:m.small 1048576) (hcl:iA m.store.classes) (hbc:∀b∈m.blocks,0<=b.code/\b.code<m.base.codes.length) (k:Nat) (hk:k<m.contexts.length) (hva:∀v∈m.contexts[k].values,mL m v):Ct Tryz.prog GL 185 [.agg (m.tw lo),.int .i64 (k:Int)] (fun _=>.bool (tK m k m.contexts[k] && afa m.contexts[k])):=by
 refine av Tryz.func185 rfl Tryz.ntmps185 rfl rfl fun w0 _ hG=>?_
 have hst:=en
 have hrow:=dI (lo:=lo) hk
 have hlx:=ao.len lo m.contexts
 have hxl:=hsm.2.2.2.1.1
 have hbk:=fun v hv most=>aab hst lo m hsm.2.2.1.1 hsm.1.2.1.1 hbc v hv most
 have hci:=fun(k0:Int)=>rq (G:=GL) lo m.store.classes hcl k0 1
 have hcs:=(hsm.2.2.2.1.2 _ (Zb hk)).2.2.2.1
 have hfn:=fun i=>zq w0.heap.size lo m hxl k hk i
 unfold ad.tw at hbk hfn |-
 generalize m.contexts[k]=c at hrow hva hcs |-
 obtain⟨mk,cc,pc,sd,ou,ho,⟨sk,sn,st⟩,slots,stack,values,oth,rt⟩:=c
 dsimp only at hrow hva hcs |-
 have hvl:=ab.len lo values
 unfold tK afa
 dsimp only
 rcases ui mk with rfl|rfl|rfl|rfl|rfl|⟨g1,g2,g3,g4,g5⟩
 ·rw[if_pos rfl]
  by_cases h3:values.length=3
  case neg =>
    rw[agF h3,Zl]
    have h3':¬ (values.length:Int)=3:=by omega
    repeat' (first|refine V_ ?_|refine aJ ?_|(refine ak ?_;intro ss bb)|refine ac ?_|refine nE ?_|refine g_ (fun hg=>?_) (fun hg=>?_))
    all_goals
      exact r1_
  obtain⟨v0,v1,v2,rfl⟩:=aij h3
  rw[afb]
  have hn0:=fun h5=>adO (hva v0 (by simp)) h5
  obtain⟨k0,n0,t0⟩:=v0
  have f1:=hbk v1 (hva v1 (by simp)) 1
  have f2:=hbk v2 (hva v2 (by simp)) 0
  obtain⟨k1,n1,t1⟩:=v1
  obtain⟨k2,n2,t2⟩:=v2
  dsimp only at f1 f2 hn0 |-
  generalize tN m ⟨k1,n1,t1⟩ 1=b1 at f1 |-
  generalize tN m ⟨k2,n2,t2⟩ 0=b2 at f2 |-
  simp only[ZU,Yj,ab.tw] at hrow hvl
  by_cases h5:k0=5
  case neg =>
    rw[decide_eq_false h5,Zl,Zl]
    repeat' (first|refine V_ ?_|refine aJ ?_|(refine ak ?_;intro ss bb)|refine ac ?_|refine nE ?_|refine g_ (fun hg=>?_) (fun hg=>?_))
    all_goals
      exact r1_
  have f0:=hci n0 (by have:=hn0 h5;omega)
  generalize wJ m.store.classes 1 n0=b0 at f0 |-
  repeat' (first|refine V_ ?_|refine aJ ?_|(refine ak ?_;intro ss bb)|refine ac ?_|refine nE ?_|refine ai hG hst (f0) ?_|refine ai hG hst (f1) ?_|refine ai hG hst (f2) ?_|refine g_ (fun hg=>?_) (fun hg=>?_))
  all_goals
    refine aN x_ rfl (.tmp _ _ rfl) (fun _=>?_)
    refine aL ?_
    first
      | (simp[*];done)
      | (simp_all;done)
 ·rw[if_neg (by decide),if_pos rfl]
  by_cases h3:values.length=1
  case neg =>
    rw[adj h3,Zl]
    have h3':¬ (values.length:Int)=1:=by omega
    repeat' (first|refine V_ ?_|refine aJ ?_|(refine ak ?_;intro ss bb)|refine ac ?_|refine nE ?_|refine g_ (fun hg=>?_) (fun hg=>?_))
    all_goals
      exact r1_
  obtain⟨v1,rfl⟩:=ahb h3
  rw[wc]
  have f1:=hbk v1 (hva v1 (by simp)) 0
  obtain⟨k1,n1,t1⟩:=v1
  dsimp only at f1 |-
  generalize tN m ⟨k1,n1,t1⟩ 0=b1 at f1 |-
  simp only[ZU,Yj,ab.tw] at hrow hvl
  repeat' (first|refine V_ ?_|refine aJ ?_|(refine ak ?_;intro ss bb)|refine ac ?_|refine nE ?_|refine ai hG hst (f1) ?_|refine g_ (fun hg=>?_) (fun hg=>?_))
  all_goals
    refine aN x_ rfl (.tmp _ _ rfl) (fun _=>?_)
    refine aL ?_
    first
      | (simp[*];done)
      | (simp_all;done)
 ·rw[if_neg (by decide),if_neg (by decide),if_pos rfl]
  by_cases h3:values.length=1
  case neg =>
    rw[adj h3,Zl]
    have h3':¬ (values.length:Int)=1:=by omega
    repeat' (first|refine W_ ?_|refine aJ ?_|(refine ak ?_;intro ss bb)|refine ac ?_|refine nE ?_)
    all_goals
      exact r1_
  obtain⟨v1,rfl⟩:=ahb h3
  rw[wc]
  obtain⟨k1,n1,t1⟩:=v1
  dsimp only at |-
  simp only[ZU,Yj,ab.tw] at hrow hvl
  have c1:=hfn oth
  generalize doB m k oth=b at c1 |-
  repeat' (first|refine W_ ?_|refine aJ ?_|(refine ak ?_;intro ss bb)|refine ac ?_|refine nE ?_|((with_reducible apply vS);rfl;rfl;kernel_rfl;exact hG;exact hst;(repeat (first|exact bU.nil|((with_reducible apply bU.cons);rfl;exact .same _)));(repeat (first|exact ku.nil|((with_reducible apply ku.cons);(first|((with_reducible apply cy.mpSame);(repeat (first|with_reducible exact mh|with_reducible refine mt ?_)))|exact cy.same _))));rfl;exact c1)|refine g_ (fun hg=>?_) (fun hg=>?_))
  all_goals
    refine aN x_ rfl (.tmp _ _ rfl) (fun _=>?_)
    refine aL ?_
    first
      | (simp[*];done)
      | (simp_all;done)
 ·rw[if_neg (by decide),if_neg (by decide),if_neg (by decide),if_pos rfl]
  repeat' (first|refine W_ ?_|refine aJ ?_|(refine ak ?_;intro ss bb)|refine ac ?_|refine nE ?_|refine g_ (fun hg=>?_) (fun hg=>?_))
  all_goals
    refine aN x_ rfl (.tmp _ _ rfl) (fun _=>?_)
    refine aL ?_
    first
      | (simp[*];done)
      | (simp[*];omega)
 ·rw[if_neg (by decide),if_neg (by decide),if_neg (by decide),if_neg (by decide),if_pos rfl]
  have c1:=aP (G:=GL) oth (-1) ((k:Int) - 1)
  have c2:=hfn oth
  generalize doB m k oth=b at c2 |-
  generalize inR oth (-1) ((k:Int) - 1)=b2 at c1 |-
  by_cases h3:values.length=1
  case neg =>
    have h3':¬ (values.length:Int)=1:=by omega
    rw[decide_eq_false h3,Zl,YD,Zl]
    repeat' (first|refine W_ ?_|refine aJ ?_|(refine ak ?_;intro ss bb)|refine ac ?_|refine nE ?_)
    all_goals
      exact r1_
  have h3':(values.length:Int)=1:=by omega
  cases rt
  all_goals
    repeat' (first|refine W_ ?_|refine aJ ?_|(refine ak ?_;intro ss bb)|refine ac ?_|refine nE ?_|refine ae hG hst (c1) ?_|((with_reducible apply vS);rfl;rfl;kernel_rfl;exact hG;exact hst;(repeat (first|exact bU.nil|((with_reducible apply bU.cons);rfl;exact .same _)));(repeat (first|exact ku.nil|((with_reducible apply ku.cons);(first|((with_reducible apply cy.mpSame);(repeat (first|with_reducible exact mh|with_reducible refine mt ?_)))|exact cy.same _))));rfl;exact c2)|refine g_ (fun hg=>?_) (fun hg=>?_))
    all_goals
      refine aN x_ rfl (.tmp _ _ rfl) (fun _=>?_)
      refine aL ?_
      first
        | (simp[*];done)
        | (simp_all;done)
 ·rw[if_neg g1,if_neg g2,if_neg g3,if_neg g4,if_neg g5,Zl]
  repeat' (first|refine W_ ?_|refine aJ ?_|(refine ak ?_;intro ss bb)|refine ac ?_|refine nE ?_)
  exact r1_
def mB (s b:Nat) (m:ad) (y:bJ):Nat×Nat×aV:=(s,b,.box (imC m y))
def mP (y:bJ) (l:List ag):Nat×Nat×aV:=(y.2.2.2.2.1.1,y.2.2.2.2.1.2,.row 2 (l.map (ag.tw 0)))
def mX (y:bJ) (rows:List (List TV)):Nat×Nat×aV:=(y.2.2.2.1.1.1,y.2.2.2.1.1.2,.row 14 rows)
def mO (y:bJ) (rows:List (List TV)):Nat×Nat×aV:=(y.2.1.2.1.1.1,y.2.1.2.1.1.2,.row 4 rows)
section
variable {G:World->Prop}
theorem vh {objs:aG} {c s b sp bp len:Nat} {a0 a1 a2 a3 a4 a5 a6 a7 a8 a9 a10 a11 a13 a14 a15 a16 a17 a18 a19:TV} {rows:List (List TV)} (hm:(s,b,aV.box [a0,a1,a2,a3,a4,a5,a6,a7,a8,a9,a10,a11,.ms sp bp 0 len,a13,a14,a15,a16,a17,a18,a19])∈objs) (hp:(sp,bp,aV.row 2 rows)∈objs) (hl:rows.length=len):cy objs (.cp c [.mp s b 0,.nilp]) (.cp 0 [.cp 0 [a0,a1,a2,a3,a4,a5,a6,a7,a8,a9,a10,a11,.sl 0 2 rows,a13,a14,a15,a16,a17,a18,a19],.nilp]):=by
 have h:lc objs [a0,a1,a2,a3,a4,a5,a6,a7,a8,a9,a10,a11,.ms sp bp 0 len,a13,a14,a15,a16,a17,a18,a19] [a0,a1,a2,a3,a4,a5,a6,a7,a8,a9,a10,a11,.sl 0 2 rows,a13,a14,a15,a16,a17,a18,a19]:=by
   repeat' (first|exact lc.nil|refine lc.cons (.same _) ?_|refine lc.cons (.msAll hp hl) ?_)
 have h2:lc objs [.mp s b 0,.nilp] [.cp 0 [a0,a1,a2,a3,a4,a5,a6,a7,a8,a9,a10,a11,.sl 0 2 rows,a13,a14,a15,a16,a17,a18,a19],.nilp]:=.cons (.mp s b 0 _ _ hm h.1 h.2) (.cons (.same _) .nil)
 exact .cp c _ _ h2.1 h2.2
theorem agc (_hst:ay G) (f c d:Nat) (a0 a1 a2 a3 a4 a5 a6 a7 a8 a9 a10 a11 a13 a15 a16 a17 a18 a19:TV) (l:List ag) (hl1:l.length<=1048576) {n:Nat} {p:ag} (hp:l[n]?=some p):Ct Tryz.prog G 53 [.cp c [.cp d [a0,a1,a2,a3,a4,a5,a6,a7,a8,a9,a10,a11,.sl f 2 (l.map (ag.tw 0)),a13,.int .i64 (n:Nat),a15,a16,a17,a18,a19],.nilp]] (fun _=>.int .i64 p.at_):=by
 refine av Tryz.func53 rfl Tryz.ntmps53 rfl rfl fun w0 _ hG=>?_
 have hrow:(l.map (ag.tw 0))[n]?=some [.int .i64 p.at_,.bool p.main]:=by rw[Zj,hp];rfl
 have hl:n<l.length:=(List.getElem?_eq_some_iff.1 hp).1
 have hrl:(l.map (ag.tw 0)).length=l.length:=Zf _
 repeat' refine V_ ?_
 exact r1_
theorem aa9 (hst:ay G) (c s b:Nat) (m:ad) (y:bJ) (l:List ag) (hl1:l.length<=1048576) (hll:l.length=m.processes.length) {n:Nat} (hn:m.now=n) {p:ag} (hp:l[n]?=some p) {k:Nat} (hk:p.at_=k) (rows:List (List TV)) (hrl:rows.length=m.contexts.length) (hkl:k<m.contexts.length):CtM Tryz.prog G 263 [.cp c [.mp s b 0,.nilp]] [mB s b m y,mP y l,mX y rows] (fun _:Unit=>True) (fun _=>[mB s b m y,mP y l,mX y rows]) (fun _=>.me y.2.2.2.1.1.1 y.2.2.2.1.1.2 14 k 0):=by
 refine au Tryz.func263 rfl Tryz.ntmps263 rfl rfl rfl fun w0 R gs objsR hG hR=>?_
 obtain rfl:=hR.eq
 clear hR
 have hcu:=fun a0 a1 a2 a3 a4 a5 a6 a7 a8 a9 a10 a11 a13 a15 a16 a17 a18 a19=>agc hst 0 0 0 a0 a1 a2 a3 a4 a5 a6 a7 a8 a9 a10 a11 a13 a15 a16 a17 a18 a19 l hl1 hp
 have hrl:(l.map (ag.tw 0)).length=m.processes.length:=by rw[Zf];exact hll
 unfold mB mP mX imC
 rw[hk] at hcu
 rw[hn]
 refine aR (objs':=(s,b,_)::(y.2.2.2.2.1.1,y.2.2.2.2.1.2,_)::(y.2.2.2.1.1.1,y.2.2.2.1.1.2,_)::R) (cJ rfl) ?_
 repeat' (first|refine V_ ?_|((with_reducible apply xg);rfl;kernel_rfl;exact hG;exact hst;(case hargs=>((with_reducible apply bU.cons);rfl;exact vh Zi (Zd _ Zi) hrl;exact bU.nil));exact hcu _ _ _ _ _ _ _ _ _ _ _ _ _ _ _ _ _ _))
 exact aw x_ rfl () trivial rfl (.app _ R) (.refl _) (.tmp _ _ rfl) rfl
theorem abG (_hst:ay G) (c s b:Nat) (m:ad) (y:bJ) (l:List ag) (hll:l.length=m.processes.length) {n:Nat} (hn:m.now=n) {p:ag} (hp:l[n]?=some p) (k:Int):CtM Tryz.prog G 213 [.cp c [.mp s b 0,.nilp],.int .i64 k] [mB s b m y,mP y l] (fun _:Unit=>True) (fun _=>[mB s b m y,mP y (l.set n ⟨k,p.main⟩)]) (fun _=>.tup []):=by
 refine au Tryz.func213 rfl Tryz.ntmps213 rfl rfl rfl fun w0 R gs objsR hG hR=>?_
 obtain rfl:=hR.eq
 clear hR
 have hrow:(l.map (ag.tw 0))[n]?=some [.int .i64 p.at_,.bool p.main]:=by rw[Zj,hp];rfl
 have hset:(l.map (ag.tw 0)).set n [.int .i64 k,.bool p.main]=(l.set n ⟨k,p.main⟩).map (ag.tw 0):=by rw[Yz];rfl
 unfold mB mP imC
 rw[hn,<- hset]
 refine aR (objs':=(s,b,_)::(y.2.2.2.2.1.1,y.2.2.2.2.1.2,_)::R) (cJ rfl) ?_
 have hl:n<m.processes.length:=by rw[<- hll];exact(List.getElem?_eq_some_iff.1 hp).1
 have hrl:(l.map (ag.tw 0)).length=m.processes.length:=by rw[Zf];exact hll
 repeat' (first|refine W_ ?_|((with_reducible apply dh (id:=0) 17);kernel_rfl;kernel_rfl;kernel_rfl;(repeat (first|exact Cut.zero _|apply Cut.succ)))|with_reducible refine dB (by kernel_rfl) (by kernel_rfl) ?_|with_reducible refine eV ?_|with_reducible refine dz ?_|with_reducible refine dC rfl ?_|refine eS rfl rfl rfl rr_ ?_|refine dx rfl rfl rfl rr_ rfl rfl rfl ?_|refine cG rfl rfl rfl rr_ rfl rfl ?_|(refine iH rfl rfl rfl rr_ dd_ ?_)|(refine ir rfl rfl rfl rr_ dd_ ?_)|(refine bX rfl rfl rfl rr_ (fun hg=>?_) (fun hg=>?_))|(refine bF rfl rfl rfl rr_ (fun hg=>?_) (fun hg=>?_))|((with_reducible apply d_y);exact y_;rfl)|refine bD ?_)
 exact aZ x_ rfl () trivial rfl (.app _ R) (.refl _) rfl
theorem afc (_hst:ay G) (s b:Nat) (m:ad) (y:bJ) (c:ao) (z:Pl×Pl×Pl) (v:ab) (hv:c.values=[v]) (h6:v.kind=6) {q:Nat} (hq:v.number=q) (rows:List (List TV)) (hrl:rows.length=m.store.objects.length) (o:ar) (pp:Pl×Pl) (hrow:rows[q]?=some (cf o pp)) (h1:o.kind=1/\o.numbers.length=3):CtM Tryz.prog G 137 [.mp s b 0,.agg (aM c z)] [mB s b m y,mO y rows,(z.2.2.1,z.2.2.2,.row 3 (c.values.map (ab.tw 0)))] (fun _:Nat×Nat=>True) (fun u=>[(u.1,u.2,.row 1 (aS [-1,-1,0])),mB s b m y,mO y (rows.set q [.int .i64 o.kind,.int .i64 o.class_,.ms pp.1.1 pp.1.2 0 o.fields.length,.ms u.1 u.2 0 3]),(z.2.2.1,z.2.2.2,.row 3 (c.values.map (ab.tw 0)))]) (fun _=>.tup []):=by
 refine au Tryz.func137 rfl Tryz.ntmps137 rfl rfl rfl fun w0 R gs objsR hG hR=>?_
 obtain rfl:=hR.eq
 clear hR
 have hql:q<m.store.objects.length:=by rw[<- hrl];exact(List.getElem?_eq_some_iff.1 hrow).1
 unfold cf at hrow
 obtain⟨vk,vn,vt⟩:=v
 subst h6 hq
 have hvl:c.values.length=1:=by rw[hv];rfl
 rw[h1.1,h1.2] at hrow
 rw[h1.1]
 unfold mB mO imC aM
 rw[hvl,hv]
 refine aR (objs':=(s,b,_)::(y.2.1.2.1.1.1,y.2.1.2.1.1.2,_)::(z.2.2.1,z.2.2.2,.row 3 [[.int .i64 6,.int .i64 (q:Int),.str vt]])::R) (cJ rfl) ?_
 repeat' (first|refine W_ ?_|refine aJ ?_|(refine jz ?_;intro ss bb)|refine bD ?_)
 exact aZ x_ rfl (ss,bb) trivial rfl (.app _ R) (.refl _) rfl
theorem adA (_hst:ay G) (s b:Nat) (m:ad) (y:bJ) (c:ao) (z:Pl×Pl×Pl) (v:ab) (hv:c.values=[v]) (h6:v.kind=6) {q:Nat} (hq:v.number=q) (rows:List (List TV)) (hrl:rows.length=m.store.objects.length) (o:ar) (pp:Pl×Pl) (hrow:rows[q]?=some (cf o pp)) (h1:¬ (o.kind=1/\o.numbers.length=3)):CtM Tryz.prog G 137 [.mp s b 0,.agg (aM c z)] [mB s b m y,mO y rows,(z.2.2.1,z.2.2.2,.row 3 (c.values.map (ab.tw 0)))] (fun _:Unit=>True) (fun _=>[mB s b m y,mO y rows,(z.2.2.1,z.2.2.2,.row 3 (c.values.map (ab.tw 0)))]) (fun _=>.tup []):=by
 refine au Tryz.func137 rfl Tryz.ntmps137 rfl rfl rfl fun w0 R gs objsR hG hR=>?_
 obtain rfl:=hR.eq
 clear hR
 have hql:q<m.store.objects.length:=by rw[<- hrl];exact(List.getElem?_eq_some_iff.1 hrow).1
 unfold cf at hrow
 obtain⟨vk,vn,vt⟩:=v
 subst h6 hq
 have hvl:c.values.length=1:=by rw[hv];rfl
 unfold mB mO imC aM
 rw[hvl,hv]
 refine aR (objs':=(s,b,_)::(y.2.1.2.1.1.1,y.2.1.2.1.1.2,_)::(z.2.2.1,z.2.2.2,.row 3 [[.int .i64 6,.int .i64 (q:Int),.str vt]])::R) (cJ rfl) ?_
 have h2:o.kind=1->¬ o.numbers.length=3:=fun a c=>h1 ⟨a,c⟩
 by_cases hk:o.kind=1
 ·have h3:=h2 hk
  repeat' (first|refine W_ ?_|refine aJ ?_)
  exact aZ x_ rfl () trivial rfl (.app _ R) (.refl _) rfl
 ·repeat' (first|refine W_ ?_|refine aJ ?_)
  exact aZ x_ rfl () trivial rfl (.app _ R) (.refl _) rfl
end
end Go.Proofs.YtifcomgnmokimaaGreatDoor
