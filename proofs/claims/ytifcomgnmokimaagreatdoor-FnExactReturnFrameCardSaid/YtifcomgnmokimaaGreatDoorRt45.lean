/- Part 45 of the proof: the texts RfA, RtR, RuR, RuZ. -/
import Derived.Test.YtifcomgnmokimaaGreatDoorRt3
import Derived.Test.YtifcomgnmokimaaGreatDoorRt43
import Derived.Test.YtifcomgnmokimaaGreatDoorRt32
import Derived.Test.YtifcomgnmokimaaGreatDoorRt44
import Derived.Test.YtifcomgnmokimaaGreatDoorRt39
import Derived.Test.YtifcomgnmokimaaGreatDoorRt34
import Derived.Test.YtifcomgnmokimaaGreatDoorRt17
import Derived.Test.YtifcomgnmokimaaGreatDoorRt31
set_option linter.all false
set_option maxHeartbeats 8000000
set_option maxRecDepth 20000
namespace Go.Proofs.YtifcomgnmokimaaGreatDoor
open Go Go.RowKit
theorem adQ {objs:aG} {s b:Nat} {l l':List TV} (h:cy objs (.agg l) (.agg l')) (hm:(s,b,aV.box l)∈objs):cy objs (.mp s b 0) (.cp 0 l'):=by
 cases h with
 | same=>exact cy.mpSame hm
 | agg l l' hl h=>exact .mp s b 0 l l' hm hl h
def frZ (L:List Int) (k:Int):Int:=if inR k 0 ((L.length:Int) - 1)=true then gd L k else -1
section
variable {G:World->Prop}
theorem iR (hst:ay G) (f lo:Nat) (m:ad) (hsm:m.small 1048576) (hs:eY m) (n:Nat) (hn:m.now=n) (p:ag) (hp:m.processes[n]?=some p) (hat:-1<=p.at_/\p.at_<m.contexts.length) (k:Int):Ct Tryz.prog G 44 [.cp f (m.tw lo),.int .i64 k] (fun _=>.int .i64 (frZ (bR m p.at_) k)):=by
 refine av Tryz.func44 rfl Tryz.ntmps44 rfl rfl fun w0 _ hG=>?_
 have hct:=tE (G:=G) f lo m hsm hs n hn p hp hat
 have hfl:=jd m p.at_
 have hc1:=hsm.2.2.2.1.1
 generalize bR m p.at_=L at hct hfl |-
 have hl1:=aj L
 have hw:=bC (G:=G) k 0 ((L.length:Int) - 1)
 unfold frZ
 by_cases hin:inR k 0 ((L.length:Int) - 1)=true
 ·have hk:0<=k/\k<=(L.length:Int) - 1:=of_decide_eq_true hin
  obtain⟨q,rfl⟩:∃q:Nat,k=q:=⟨k.toNat,by omega⟩
  have hq:q<L.length:=by omega
  have hrow:=fG hq
  rw[hin] at hw
  rw[if_pos hin]
  rw[show (L.length:Int) - 1=((L.length - 1:Nat):Int) by omega] at hw
  repeat' (first|refine W_ ?_|refine ae hG hst (hct) ?_|refine ae hG hst (hw) ?_)
  exact r1_
 ·rw[Bool.eq_false_iff.2 hin] at hw
  rw[if_neg hin]
  by_cases hz:1<=L.length
  ·rw[show (L.length:Int) - 1=((L.length - 1:Nat):Int) by omega] at hw
   repeat' (first|refine W_ ?_|refine ae hG hst (hct) ?_|refine ae hG hst (hw) ?_)
   exact r1_
  ·repeat' (first|refine W_ ?_|refine ae hG hst (hct) ?_|refine ae hG hst (hw) ?_)
   exact r1_
end
theorem aca {L:List Int} {k:Int} {kn a:Nat} (hk:k=kn) (h:L[kn]?=some (a:Int)):frZ L k=a:=by
 have hl:=(List.getElem?_eq_some_iff.1 h).1
 unfold frZ
 rw[if_pos (show inR k 0 ((L.length:Int) - 1)=true from decide_eq_true (by omega))]
 unfold gd
 rw[hk]
 simp[h]
theorem afE {L:List Int} {k:Int} (h:inR k 0 ((L.length:Int) - 1)=false):frZ L k=-1:=by
 unfold frZ
 rw[if_neg (by rw[h];simp)]
section
variable {S P X O n' v f n s k u w D Z:Nat×Nat×aV} {A B E F G C N T W R:aG}
variable {Q:Nat×Nat×aV} {TL:aG}
end
theorem ag1 (S Z:Nat×Nat×aV) (A R:aG):bS (S::Z::(A++R)) ((S::A)++(Z::R)):=.perm (by
 refine .cons _ ?_
 exact List.perm_middle.symm)
theorem kp (lo:Nat) (m:ad) (hsm:m.small 1048576) (k:Int) (v:ab) (hvs:v.text.size<=1048576):CtM Tryz.prog GL 11 [.agg (m.tw lo),.int .i64 k,.agg [.int .i64 v.kind,.int .i64 v.number,.str v.text]] [] (imI (bI m k v)) (imO (bI m k v)) (fun y=>.tup [.agg (imC (bI m k v) y),.bool (cB m k v)]):=by
 refine au Tryz.func11 rfl Tryz.ntmps11 rfl rfl rfl fun w0 R gs objsR hG hR=>?_
 obtain rfl:=hR.inv0
 clear hR
 have hst:=en
 have hct:=sw w0.heap.size lo m hsm
 cases hB:cB m k v with
 | false =>
   have hI:bI m k v=zIm:=by unfold bI;rw[if_neg (by rw[hB];simp)]
   rw[hI]
   cases hV:da m with
   | false =>
     rw[hV] at hct
     unfold ad.tw at hct |-
     repeat' (first|refine W_ ?_|refine aJ ?_|(refine ak ?_;intro ss bb)|refine er ?_|refine ac ?_|refine ae hG hst (hct) ?_)
     refine kt fun y hy=>?_
     exact cr (t1:=.agg (imC zIm y)) (t2:=.bool false) x_ rfl y hy rfl (.app _ R) (.drop (.refl _)) (.cell _ _ _ _ _ rfl mm_ (by kernel_rfl) (by kernel_rfl) (by kernel_rfl)) (.tmp _ _ rfl) rfl
   | true =>
     rw[hV] at hct
     by_cases h0:m.status=0
     ·have h0':¬ m.status≠0:=fun h=>h h0
      cases hin:inR k 0 (((bR m (atN m)).length:Int) - 1) with
      | false =>
        obtain⟨hs,n,p,hn,hnl,hp,ha,hl1,hl2⟩:=ld hV
        have hfr:=iR hst w0.heap.size lo m hsm hs n hn p hp ⟨hl1,hl2⟩ k
        rw[ha] at hin
        have hz:frZ (bR m p.at_) k<0:=by rw[afE hin];decide
        generalize frZ (bR m p.at_) k=z at hfr hz
        unfold ad.tw at hct hfr |-
        repeat' (first|refine W_ ?_|refine aJ ?_|(refine ak ?_;intro ss bb)|refine er ?_|refine ac ?_|refine ae hG hst (hct) ?_|refine ae hG hst (hfr) ?_)
        refine kt fun y hy=>?_
        exact cr (t1:=.agg (imC zIm y)) (t2:=.bool false) x_ rfl y hy rfl (.app _ R) (.drop (.refl _)) (.cell _ _ _ _ _ rfl mm_ (by kernel_rfl) (by kernel_rfl) (by kernel_rfl)) (.tmp _ _ rfl) rfl
      | true =>
        have hR2:dL m k=true:=by unfold dL;rw[hV,h0,hin];rfl
        have hfit:cD m.store m.blocks.length v=false:=by unfold cB at hB;rw[hV,h0,hin] at hB;simpa using hB
        obtain⟨kn,a,n,c,p,x,hi⟩:=rc hR2
        have hfr:=iR hst w0.heap.size lo m hsm hi.sen n hi.now p hi.prc hi.lt k
        rw[aca hi.kk (by rw[<- hi.at_];exact hi.fr)] at hfr
        have hft:=fh 0 lo m.store m.blocks.length v hvs
        rw[hfit] at hft
        unfold aQ.tw at hft
        unfold ad.tw at hct hfr |-
        repeat' (first|refine W_ ?_|refine aJ ?_|(refine ak ?_;intro ss bb)|refine er ?_|refine ac ?_|refine ae hG hst (hct) ?_|refine ae hG hst (hfr) ?_|refine wb hG hst (hft) ?_)
        refine kt fun y hy=>?_
        exact cr (t1:=.agg (imC zIm y)) (t2:=.bool false) x_ rfl y hy rfl (.app _ R) (.drop (.refl _)) (.cell _ _ _ _ _ rfl mm_ (by kernel_rfl) (by kernel_rfl) (by kernel_rfl)) (.tmp _ _ rfl) rfl
     ·unfold ad.tw at hct |-
      repeat' (first|refine W_ ?_|refine aJ ?_|(refine ak ?_;intro ss bb)|refine er ?_|refine ac ?_|refine ae hG hst (hct) ?_)
      refine kt fun y hy=>?_
      exact cr (t1:=.agg (imC zIm y)) (t2:=.bool false) x_ rfl y hy rfl (.app _ R) (.drop (.refl _)) (.cell _ _ _ _ _ rfl mm_ (by kernel_rfl) (by kernel_rfl) (by kernel_rfl)) (.tmp _ _ rfl) rfl
 | true =>
   obtain⟨kn,a,n,c,p,x,r,hr⟩:=o7 hB
   have hi:=hr.rf
   rw[hi.img] at hct
   have h0:=hi.st
   have hn:=hi.now
   have h0':¬ m.status≠0:=fun h=>h h0
   have hfr:=iR hst w0.heap.size lo m hsm hi.sen n hn p hi.prc hi.lt k
   have hfx:=iR hst 0 0 m hsm hi.sen n hn p hi.prc hi.lt k
   rw[aca hi.kk (by rw[<- hi.at_];exact hi.fr)] at hfr hfx
   have hft:=fh 0 lo m.store m.blocks.length v hvs
   rw[hr.fit] at hft
   unfold aQ.tw at hft
   have hcp:=wV hst w0.heap.size lo m hsm
   have hvw:∀{objs:aG} {y:bJ},imI m y->(∀o∈imO m y,o∈objs)->cy objs (.agg (imC m y)) (.agg (m.tw 0)):=fun h1 h2=>pI h1 h2
   have F:MFa m n p:=⟨hsm,hsm.2.2.2.1.1,hi.sen,abK hi.img,hn,hi.prc⟩
   obtain⟨g,hg⟩:=hr.go
   have hway:=fun s b=>(ahn hst F s b g).2
   rw[hr.eq]
   have hcl1:=hsm.2.2.2.1.1
   have hpl1:=hsm.2.2.2.2.1.1
   have hal:a<m.contexts.length:=(List.getElem?_eq_some_iff.1 hi.ctx).1
   have hnl:n<m.processes.length:=(List.getElem?_eq_some_iff.1 hi.prc).1
   unfold ad.tw at hct hcp hfr hfx hvw |-
   unfold imC at hcp hvw
   repeat' (first|refine H_ 4 ?_|refine aJ ?_|(refine ak ?_;intro ss bb)|refine ac ?_|refine ae hG hst (hct) ?_|refine ae hG hst (hfr) ?_|refine wb hG hst (hft) ?_|((with_reducible apply aA);rfl;kernel_rfl;(repeat (first|exact az.nil|((with_reducible apply az.cons);rfl)));exact hG;exact hcp;exact .nil _;intro y hy))
   refine⟨?_⟩
   rename_i s6 b6
   generalize ss=s8;generalize bb=b8
   repeat' (first|refine H_ 5 ?_|((with_reducible apply kI);rfl;kernel_rfl;exact hG;exact hst;exact hfx;((with_reducible apply bU.cons);rfl;exact adQ (hvw hy fun o h=>Zd _ (Zw _ h)) Zi);(repeat (first|exact bU.nil|((with_reducible apply bU.cons);rfl;(first|with_reducible exact cy.same _|((with_reducible apply cy.msAll);(repeat (first|with_reducible exact mh|with_reducible refine mt ?_));(first|with_reducible assumption|exact aI _|exact aj _|exact aH _|exact Zf _|assumption|rfl))|((with_reducible apply dS);(repeat (first|with_reducible exact mh|with_reducible refine mt ?_));(first|with_reducible assumption|exact aI _|exact aj _|exact aH _|exact Zf _|assumption|rfl))|((with_reducible apply cy.cut);exact cy.cp0 _ _;rfl)))))))
   refine⟨?_⟩
   have hpx:=hy.2.2
   have hprow:(m.processes.map (ag.tw 0))[n]?=some [.int .i64 p.at_,.bool p.main]:=by rw[Zj,hi.prc];rfl
   have hpql:(m.processes.map (ag.tw 0)).length=m.processes.length:=Zf _
   have hxrl:(nRg aM m.contexts y.2.2.2.1.2).length=m.contexts.length:=eN _ hpx
   obtain⟨pz,hz2⟩:∃p2,(nRg aM m.contexts y.2.2.2.1.2)[a]?=some (aM c p2):=⟨_,kA aM hi.ctx (Za (by rw[hpx];exact hal))⟩
   unfold aM at hz2
   have hwl:=hway s8 b8 m.store.objects y r p.at_ c.sender v false rfl hy hi.lt.2 hr.sl hg
   generalize acI m r.1 r.2=FI at hwl |-
   rw[bg m y,hn] at hwl
   unfold imC at hwl
   refine aR (pl m y (s8,b8,.box (imC m y)) ((s6,b6,.box ad.tz)::R)) ?_
   unfold mX mO mP blR cdR rdR
   rw[bg m y,hn]
   repeat' (first|refine W_ ?_|((with_reducible apply dh (id:=5) 14);kernel_rfl;kernel_rfl;kernel_rfl;(repeat (first|exact Cut.zero _|apply Cut.succ)))|with_reducible refine dB (by kernel_rfl) (by kernel_rfl) ?_|with_reducible refine eV ?_|with_reducible refine dz ?_|with_reducible refine dC rfl ?_|refine eS rfl rfl rfl rr_ ?_|refine dx rfl rfl rfl rr_ rfl rfl rfl ?_|refine cG rfl rfl rfl rr_ rfl rfl ?_|(refine iH rfl rfl rfl rr_ dd_ ?_)|(refine ir rfl rfl rfl rr_ dd_ ?_)|(refine bX rfl rfl rfl rr_ (fun hg=>?_) (fun hg=>?_))|(refine bF rfl rfl rfl rr_ (fun hg=>?_) (fun hg=>?_))|((with_reducible apply d_y);exact y_;rfl))
   refine ce (cX m y _ ((s6,b6,.box ad.tz)::R)) ?_
   repeat' (first|refine W_ ?_|((with_reducible apply aA);rfl;kernel_rfl;(repeat (first|exact az.nil|((with_reducible apply az.cons);rfl)));exact hG;exact hwl;exact .app _ _;intro y' hy';refine cL (ag1 _ _ _ _) ?_)|refine ac ?_)
   exact cr (t1:=.agg (imC FI y')) (t2:=.bool true) x_ rfl y' hy' rfl (.app _ R) (.drop (.drop (.refl _))) (.cell _ _ _ _ _ rfl (Zd _ Zi) (by kernel_rfl) (by kernel_rfl) (by kernel_rfl)) (.tmp _ _ rfl) rfl
theorem ac1 (m:ad) (y:bJ) (A B D:Nat×Nat×aV) (R:aG):bS (A::B::mX y (nRg aM m.contexts y.2.2.2.1.2)::mO y (nRg cf m.store.objects y.2.1.2.1.2)::mP y m.processes::blR m y::cdR m y::rdR m y::(nOg cI m.store.objects y.2.1.2.1.2++(nOg bG m.contexts y.2.2.2.1.2++(kJ m y++(D::R))))) (A::(imO m y++(B::D::R))):=.perm (by
 have h:=(((xy m y).append_right (D::R)).cons B).cons A
 refine List.Perm.trans (by simpa using h) (.cons _ List.perm_middle.symm))
theorem ahP (S Z:Nat×Nat×aV) (A B R:aG):bS (Z::(A++R)) (A++(S::Z::(B++R))):=.trans (.perm List.perm_middle.symm) (.sub (List.Sublist.append_left (.cons _ (.cons_cons _ (Z1 _ _))) A))
theorem gr (lo:Nat) (m:ad) (hsm:m.small 1048576) (hro:ac7 m) (k:Int) (v:ab) (hvs:v.small 1048576):CtM Tryz.prog GL 13 [.agg (m.tw lo),.int .i64 k,.agg [.int .i64 v.kind,.int .i64 v.number,.str v.text]] [] (imI (bI m k v)) (imO (bI m k v)) (fun y=>.tup [.agg (imC (bI m k v) y),.bool (cB m k v)]):=by
 refine au Tryz.func13 rfl Tryz.ntmps13 rfl rfl rfl fun w0 R gs objsR hG hR=>?_
 obtain rfl:=hR.inv0
 clear hR
 have hst:=en
 have hfr:=nG lo m hsm
 have hrs:=sQ hsm
 have hw:=aP (G:=GL) k 0 (((cR m).length:Int) - 1)
 have hex:=lD lo m.store m.blocks.length v hvs
 have hbl:=hsm.2.2.1.1
 have hbr:(m.blocks.map (aq.tw lo)).length=m.blocks.length:=Zf _
 unfold aQ.tw at hex
 cases hB:cB m k v with
 | false =>
   have hI:bI m k v=zIm:=by unfold bI;rw[if_neg (by rw[hB];simp)]
   rw[hI]
   have hor:inR k 0 (((cR m).length:Int) - 1)=false\/(inR k 0 (((cR m).length:Int) - 1)=true/\cD m.store m.blocks.length v=false):=by
     cases h3:inR k 0 (((cR m).length:Int) - 1) with
     | false=>exact .inl rfl
     | true =>
       refine .inr ⟨rfl, ?_⟩
       unfold cR at h3
       by_cases h1:da m=true/\m.status=0
       ·rw[if_pos h1] at h3
        unfold cB at hB
        rw[h1.1,h1.2,h3] at hB
        simpa using hB
       ·rw[if_neg h1] at h3
        have h4:(0:Int)<=k/\k<=((0:Nat):Int) - 1:=of_decide_eq_true h3
        omega
   generalize cR m=L at hfr hw hrs hor
   unfold ad.tw at hfr |-
   rcases hor with hin|⟨hin,hfit⟩
   ·rw[hin] at hw
    by_cases hz:1<=L.length
    ·rw[show (L.length:Int) - 1=((L.length - 1:Nat):Int) by omega] at hw
     repeat' (first|refine W_ ?_|refine aJ ?_|(refine ak ?_;intro ss bb)|refine er ?_|refine ac ?_|refine ae hG hst (hw) ?_|((with_reducible apply aA);rfl;kernel_rfl;(repeat (first|exact az.nil|((with_reducible apply az.cons);rfl)));exact hG;exact hfr;exact .nil _;intro yf hyf;refine bO ?_))
     refine lY (.drop (.refl _)) ?_
     refine kt fun y hy=>?_
     exact cr (t1:=.agg (imC zIm y)) (t2:=.bool false) x_ rfl y hy rfl (.app _ R) (.drop (.refl _)) (.cell _ _ _ _ _ rfl mm_ (by kernel_rfl) (by kernel_rfl) (by kernel_rfl)) (.tmp _ _ rfl) rfl
    ·repeat' (first|refine W_ ?_|refine aJ ?_|(refine ak ?_;intro ss bb)|refine er ?_|refine ac ?_|refine ae hG hst (hw) ?_|((with_reducible apply aA);rfl;kernel_rfl;(repeat (first|exact az.nil|((with_reducible apply az.cons);rfl)));exact hG;exact hfr;exact .nil _;intro yf hyf;refine bO ?_))
     refine lY (.drop (.refl _)) ?_
     refine kt fun y hy=>?_
     exact cr (t1:=.agg (imC zIm y)) (t2:=.bool false) x_ rfl y hy rfl (.app _ R) (.drop (.refl _)) (.cell _ _ _ _ _ rfl mm_ (by kernel_rfl) (by kernel_rfl) (by kernel_rfl)) (.tmp _ _ rfl) rfl
   ·have hz:0<=k/\k<=(L.length:Int) - 1:=of_decide_eq_true hin
    rw[hin,show (L.length:Int) - 1=((L.length - 1:Nat):Int) by omega] at hw
    rw[hfit] at hex
    repeat' (first|refine W_ ?_|refine aJ ?_|(refine ak ?_;intro ss bb)|refine er ?_|refine ac ?_|refine ae hG hst (hw) ?_|refine ae hG hst (hex) ?_|((with_reducible apply aA);rfl;kernel_rfl;(repeat (first|exact az.nil|((with_reducible apply az.cons);rfl)));exact hG;exact hfr;exact .nil _;intro yf hyf;refine bO ?_))
    refine lY (.drop (.refl _)) ?_
    refine kt fun y hy=>?_
    exact cr (t1:=.agg (imC zIm y)) (t2:=.bool false) x_ rfl y hy rfl (.app _ R) (.drop (.refl _)) (.cell _ _ _ _ _ rfl mm_ (by kernel_rfl) (by kernel_rfl) (by kernel_rfl)) (.tmp _ _ rfl) rfl
 | true =>
   obtain⟨kn,a,n,c,p,x,r,hr⟩:=o7 hB
   have hi:=hr.rf
   have hn:=hi.now
   obtain rfl:=hi.kk
   have hFR:cR m=bR m (atN m):=by unfold cR;rw[if_pos ⟨hi.img,hi.st⟩]
   have hfe:(cR m)[kn]?=some (a:Int):=by rw[hFR];exact hi.fr
   have hkl:=(List.getElem?_eq_some_iff.1 hfe).1
   have hfe2:(aS (cR m))[kn]?=some [.int .i64 (a:Int)]:=by simp[aS,hfe]
   have hirl:=aj (cR m)
   rw[show inR (kn:Int) 0 (((cR m).length:Int) - 1)=true from decide_eq_true (by omega),show ((cR m).length:Int) - 1=(((cR m).length - 1:Nat):Int) by omega] at hw
   rw[hr.fit] at hex
   have hcp:=iF hst lo m hsm
   have hFs:=gT hsm hro kn hvs
   obtain⟨g,hg⟩:=hr.go
   rw[hr.eq] at hFs |-
   have F:MFa m n p:=⟨hsm,hsm.2.2.2.1.1,hi.sen,abK hi.img,hn,hi.prc⟩
   have hway:=fun cc s b=>(ag2 hst F cc s b g).2
   have hcl1:=hsm.2.2.2.1.1
   have hpl1:=hsm.2.2.2.2.1.1
   have hal:a<m.contexts.length:=(List.getElem?_eq_some_iff.1 hi.ctx).1
   have hnl:n<m.processes.length:=(List.getElem?_eq_some_iff.1 hi.prc).1
   have hcu:=fun a0 a1 a2 a3 a4 a5 a6 a7 a8 a9 a10 a11 a13 a15 a16 a17 a18 a19=>agc hst 0 0 0 a0 a1 a2 a3 a4 a5 a6 a7 a8 a9 a10 a11 a13 a15 a16 a17 a18 a19 m.processes hpl1 hi.prc
   have hpql:(m.processes.map (ag.tw 0)).length=m.processes.length:=Zf _
   unfold ad.tw at hfr hcp |-
   unfold imC at hcp
   repeat' (first|refine H_ 5 ?_|refine aJ ?_|(refine ak ?_;intro ss bb)|refine ac ?_|refine ae hG hst (hw) ?_|refine ae hG hst (hex) ?_|((with_reducible apply aA);rfl;kernel_rfl;(repeat (first|exact az.nil|((with_reducible apply az.cons);rfl)));exact hG;exact hfr;exact .nil _;intro yf hyf;refine bO ?_)|((with_reducible apply aA);rfl;kernel_rfl;(repeat (first|exact az.nil|((with_reducible apply az.cons);rfl)));exact hG;exact hcp;exact .nil _;intro y hy))
   refine⟨?_⟩
   rename_i s6 b6
   generalize ss=s8;generalize bb=b8
   have hpx:=hy.2.2
   have hxrl:(nRg aM m.contexts y.2.2.2.1.2).length=m.contexts.length:=eN _ hpx
   obtain⟨pz,hz2⟩:∃p2,(nRg aM m.contexts y.2.2.2.1.2)[a]?=some (aM c p2):=⟨_,kA aM hi.ctx (Za (by rw[hpx];exact hal))⟩
   unfold aM at hz2
   have hwl:=hway w0.heap.size s8 b8 m.store.objects y r p.at_ c.sender v false rfl hy hi.lt.2 hr.sl hg
   generalize acI m r.1 r.2=FI at hwl hFs |-
   have hcp2:=iF hst 0 FI hFs
   have hvw:∀{objs:aG} {y:bJ},imI FI y->(∀o∈imO FI y,o∈objs)->cy objs (.agg (imC FI y)) (.agg (FI.tw 0)):=fun h1 h2=>pI h1 h2
   have hnew:∀y,imI FI y->(∀s b o,(s,b,o)∈imO FI y->cE (imO FI y) o)/\dY (imO FI y) (.agg (imC FI y)):=fun y _=>abD FI y
   rw[bg m y,hn] at hwl
   unfold ad.tw at hcp2 hvw
   unfold imC at hwl hcp2 hvw hnew
   refine aR (ac1 m y (s8,b8,.box (imC m y)) (yf.1,yf.2,.row 1 (aS (cR m))) (s6,b6,.box ad.tz) R) ?_
   unfold mX mO mP blR cdR rdR
   rw[bg m y,hn]
   repeat' (first|refine W_ ?_|refine er ?_|refine aJ ?_|((with_reducible apply dh (id:=6) 13);kernel_rfl;kernel_rfl;kernel_rfl;(repeat (first|exact Cut.zero _|apply Cut.succ)))|with_reducible refine dB (by kernel_rfl) (by kernel_rfl) ?_|with_reducible refine eV ?_|with_reducible refine dz ?_|with_reducible refine dC rfl ?_|refine eS rfl rfl rfl rr_ ?_|refine dx rfl rfl rfl rr_ rfl rfl rfl ?_|refine cG rfl rfl rfl rr_ rfl rfl ?_|(refine iH rfl rfl rfl rr_ dd_ ?_)|(refine ir rfl rfl rfl rr_ dd_ ?_)|(refine bX rfl rfl rfl rr_ (fun hg=>?_) (fun hg=>?_))|(refine bF rfl rfl rfl rr_ (fun hg=>?_) (fun hg=>?_))|((with_reducible apply d_y);exact y_;rfl)|((with_reducible apply xg);rfl;kernel_rfl;exact hG;exact hst;(case hargs=>((with_reducible apply bU.cons);rfl;exact vh Zi (Zd _ (Zd _ (Zd _ (Zd _ Zi)))) hpql;exact bU.nil));exact hcu _ _ _ _ _ _ _ _ _ _ _ _ _ _ _ _ _ _))
   refine ce (.trans (cX m y _ ((s6,b6,.box ad.tz)::R)) (.sub (.cons_cons _ (.cons _ (YX _))))) ?_
   repeat' (first|refine W_ ?_|((with_reducible apply aA);rfl;kernel_rfl;(repeat (first|exact az.nil|((with_reducible apply az.cons);rfl)));exact hG;exact hwl;exact .app _ _;intro y' hy';refine cL (ag1 _ _ _ _) ?_)|((with_reducible apply ij);rfl;kernel_rfl;exact hG;exact hst;exact hcp2;((with_reducible apply bU.cons);rfl;exact hvw hy' (fun o h=>Zd _ (Zd _ (Zw _ h))));exact bU.nil;exact hnew;intro yi hyi;refine cL (ahP _ _ _ _ _) ?_)|refine ac ?_)
   exact cr (t1:=.agg (imC FI yi)) (t2:=.bool true) x_ rfl yi hyi rfl (.app _ R) (.drop (.refl _)) (.cell _ _ _ _ _ rfl Zi (by kernel_rfl) (by kernel_rfl) (by kernel_rfl)) (.tmp _ _ rfl) rfl
theorem jq (x:ad) (hb:x.small 9223372036854775807) (q0:Int) (v:ab) (hbv:v.small 9223372036854775807):Ct Tryz.prog GL 4 [.agg (x.tw 0),.int .i64 q0,.agg [.int .i64 v.kind,.int .i64 v.number,.str v.text]] (fun _=>.bool true):=by
 have hst:=en
 have hto:=fun hx=>wt hst 0 x hx
 have htw:=fun hx=>pU hst 0 x hx
 refine av Tryz.func4 rfl Tryz.ntmps4 rfl rfl fun w0 _ hG=>?_
 have hsp:=fun hx hv=>kp w0.heap.size x hx q0 v hv
 have him:=fun(hx:x.small 1048576) hr hv=>gr 0 x hx hr q0 v hv
 have him2:=fun(hx:x.small 1048576) hr hv=>gr w0.heap.size x hx hr q0 v hv
 have htv:=fun hv=>ix hst 0 v hv
 have heq:=fun hx=>rn hst 0 w0.heap.size x hx
 have hmk:=fun(hx:x.small 1048576) y hy=>lC hst x y hy hx 1 (by omega)
 have hsm:x.small 1048576->ac7 x->v.small 1048576->(bI x q0 v).small 1048576:=fun h hr hv=>gT h hr q0 hv
 have hvw:∀{objs:aG} {y:bJ},imI x y->(∀o∈imO x y,o∈objs)->cy objs (.agg (imC x y)) (.agg (x.tw 0)):=fun h1 h2=>pI h1 h2
 have hnk:=fun hx=>rx (x:=x) hx 1
 have hsz:=zE hst 0 x 1048576 (by omega) hb
 have hszv:=fun lf h=>f9 hst 0 v lf h hbv
 generalize bI x q0 v=sx at hsp him him2 hsm
 generalize cB x q0 v=vb at hsp him him2
 have hnew:=afl sx vb
 have hvs:∀{objs:aG} {y:bJ},imI sx y->(∀o∈imO sx y,o∈objs)->cy objs (.agg (imC sx y)) (.agg (sx.tw 0)):=fun h1 h2=>pI h1 h2
 unfold ad.tw at hto htw hsp heq hvw him him2 hsz |-
 unfold ab.tw at htv hszv
 repeat' (first|refine H_ 3 ?_|refine aJ ?_|((with_reducible apply aA);rfl;kernel_rfl;(repeat (first|exact az.nil|((with_reducible apply az.cons);rfl)));exact hG;exact hsz;exact .nil _;intro y hy;refine bT ?_))
 refine⟨?_⟩
 by_cases hneg:y<0
 ·repeat' refine W_ ?_
  exact r1_
 obtain⟨hr,hx⟩:=hy.2.2 (by omega)
 replace hszv:=hszv y (by omega)
 repeat' (first|refine H_ 6 ?_|((with_reducible apply aA);rfl;kernel_rfl;(repeat (first|exact az.nil|((with_reducible apply az.cons);rfl)));exact hG;exact hszv;exact .nil _;intro yv hyv;refine bT ?_))
 refine⟨?_⟩
 by_cases hnegv:yv<0
 ·repeat' refine W_ ?_
  exact r1_
 have hv:=hyv.2.2 (by omega)
 replace hto:=hto hx
 replace htw:=htw hx
 replace hsp:=hsp hx hv
 replace him:=him hx hr hv
 replace him2:=him2 hx hr hv
 replace htv:=htv hv
 replace heq:=heq hx
 replace hnk:=hnk hx
 replace hmk:=hmk hx
 replace hsm:=hsm hx hr hv
 have hqs:=rn hst 0 0 sx hsm
 clear hb hy hsz hyv hszv hbv
 repeat' refine H_ 8 ?_
 refine⟨?_⟩
 repeat' (first|refine W_ ?_|((with_reducible apply dX (id:=8) 11);kernel_rfl;kernel_rfl;kernel_rfl;rfl;(repeat (first|exact Cut.zero _|apply Cut.succ)))|((with_reducible apply m_q);exact ym_;rfl;exact ez)|((with_reducible apply cA);rfl;(intro p;try dsimp only);(repeat (first|exact TB.nil _|((with_reducible apply TB.cons);rfl;rfl;(first|exact .nil _|exact .put _ _ _ _ _ (.nil _)|exact .skip _ _ _ _ _ (.put _ _ _ _ _ (.nil _))|exact .skip _ _ _ _ _ (.skip _ _ _ _ _ (.put _ _ _ _ _ (.nil _)))|(repeat (first|exact .nil _|apply aW.put|apply aW.skip)));kernel_rfl)));rfl;kernel_rfl;kernel_rfl;exact ez)|((with_reducible apply gm);rfl;rfl;kernel_rfl)|((with_reducible apply wU);(intro p;rfl);(intro p;rfl);(intro p;rfl);kernel_rfl;(intro p;rfl);(intro p;(first|exact .nil _|exact .put _ _ _ _ _ (.nil _)|exact .skip _ _ _ _ _ (.put _ _ _ _ _ (.nil _))|exact .skip _ _ _ _ _ (.skip _ _ _ _ _ (.put _ _ _ _ _ (.nil _)))|(repeat (first|exact .nil _|apply aW.put|apply aW.skip))));(intro p;kernel_rfl);exact⟨by decide,ah_⟩;exact im;rfl;(focus (simp;done)))|((with_reducible apply ol hG hst hto);rfl;kernel_rfl;(focus (intro p;(repeat (first|exact bU.nil|((with_reducible apply bU.cons);rfl;exact .same _)));done)))|((with_reducible apply ol hG hst htv);rfl;kernel_rfl;(focus (intro p;(repeat (first|exact bU.nil|((with_reducible apply bU.cons);rfl;exact .same _)));done)))|((with_reducible apply gy hG hst hsp);rfl;kernel_rfl;(focus (intro p;(repeat (first|exact bU.nil|((with_reducible apply bU.cons);rfl;exact .same _)));done));exact hnew)|(with_reducible refine DM.nil _ _ _ ?_))
 intro p hp
 simp only[Yr] at hp
 obtain⟨_,_,hys,_⟩:=hp
 refine bV (objs':=((p 9).a,(p 9).b,.box (imC sx (Enc.dec (p 5))))::(imO sx (Enc.dec (p 5))++[])) (by rw[show et _=[_,_] from rfl];(try simp only[ZC,ZK,Zt,ZF,Zx]);(try rfl)) ?_
 dsimp only [Nat.reduceAdd] at hys |-
 generalize (Enc.dec (p 5):bJ)=ys at hys |-
 generalize Yu.a (p 9)=s4
 generalize Yu.b (p 9)=b4
 unfold imC
 repeat' (first|refine H_ 10 ?_|((with_reducible apply aA);rfl;kernel_rfl;(repeat (first|exact az.nil|((with_reducible apply az.cons);rfl)));exact hG;exact htw;exact .nil _;intro y hy)|(refine ak ?_;intro ss bb)|refine ac ?_)
 refine⟨?_⟩
 generalize ss=s5;generalize bb=b5
 have hl1:=hmk y hy
 clear hmk
 unfold imC at hl1 hvw hvs
 repeat' (first|refine W_ ?_|((with_reducible apply dX (id:=10) 10);kernel_rfl;kernel_rfl;kernel_rfl;rfl;(repeat (first|exact Cut.zero _|apply Cut.succ)))|((with_reducible apply m_q);exact ym_;rfl;exact ez)|((with_reducible apply cA);rfl;(intro p;try dsimp only);(repeat (first|exact TB.nil _|((with_reducible apply TB.cons);rfl;rfl;(first|exact .nil _|exact .put _ _ _ _ _ (.nil _)|exact .skip _ _ _ _ _ (.put _ _ _ _ _ (.nil _))|exact .skip _ _ _ _ _ (.skip _ _ _ _ _ (.put _ _ _ _ _ (.nil _)))|(repeat (first|exact .nil _|apply aW.put|apply aW.skip)));kernel_rfl)));rfl;kernel_rfl;kernel_rfl;exact ez)|((with_reducible apply gm);rfl;rfl;kernel_rfl)|((with_reducible apply wU);(intro p;rfl);(intro p;rfl);(intro p;rfl);kernel_rfl;(intro p;rfl);(intro p;(first|exact .nil _|exact .put _ _ _ _ _ (.nil _)|exact .skip _ _ _ _ _ (.put _ _ _ _ _ (.nil _))|exact .skip _ _ _ _ _ (.skip _ _ _ _ _ (.put _ _ _ _ _ (.nil _)))|(repeat (first|exact .nil _|apply aW.put|apply aW.skip))));(intro p;kernel_rfl);exact⟨by decide,ah_⟩;exact im;rfl;(focus (simp;done)))|((with_reducible apply ol hG hst htv);rfl;kernel_rfl;(focus (intro p;(repeat (first|exact bU.nil|((with_reducible apply bU.cons);rfl;exact .same _)));done)))|((with_reducible apply gy hG hst him);rfl;kernel_rfl;(intro p;((with_reducible apply bU.cons);rfl;exact hvw hy (fun o h=>Zd _ (Zw _ h)));(repeat (first|exact bU.nil|((with_reducible apply bU.cons);rfl;exact cy.same _))));exact hnew)|(with_reducible refine DM.nil _ _ _ ?_))
 intro p hp
 simp only[Yr] at hp
 obtain⟨_,_,hyi,_⟩:=hp
 refine bV (objs':=((p 8).a,(p 8).b,.box (imC sx (Enc.dec (p 4))))::(imO sx (Enc.dec (p 4))++((s5,b5,.box (imC x y))::(imO x y++((s4,b4,.box (imC sx ys))::(imO sx ys++[])))))) (by rw[show et _=[_,_] from rfl];(try simp only[ZC,ZK,Zt,ZF,Zx]);(try rfl)) ?_
 dsimp only [Nat.reduceAdd] at hyi |-
 generalize (Enc.dec (p 4):bJ)=yi at hyi |-
 generalize Yu.a (p 8)=s7
 generalize Yu.b (p 8)=b7
 unfold imC
 repeat' refine H_ 11 ?_
 refine⟨?_⟩
 refine aR (abh _ _ _ _ _ _) ?_
 repeat' (first|refine HV_ 13 ?_|((with_reducible apply kI);rfl;kernel_rfl;exact hG;exact hst;exact hqs;((with_reducible apply bU.cons);rfl;exact hvs hyi fun o h=>Zd _ (Zd _ (Zd _ (Zw _ h))));((with_reducible apply bU.cons);rfl;exact hvs hys fun o h=>Zd _ (Zd _ (Zd _ (ZG _ (ZG _ (Zw _ h))))));exact .nil)|refine c_ (fun hc=>?_) (fun hc=>?_))
 all_goals first
   | (exfalso;simp at hc;done)
   | skip
 refine⟨?_⟩
 repeat' (first|refine HV_ 16 ?_|refine ai hG hst (hto) ?_|((with_reducible apply xg);rfl;kernel_rfl;exact hG;exact hst;exact heq;((with_reducible apply bU.cons);rfl;exact hvw hy fun o h=>Zd _ (Zd _ (Zd _ (ZG _ (Zw _ h)))));(repeat (first|exact bU.nil|((with_reducible apply bU.cons);rfl;exact cy.same _)))))
 all_goals first
   | (exfalso;simp at hc;done)
   | skip
 refine⟨?_⟩
 repeat' refine W_ ?_
 refine ce (.perm (ad4 _ _ _ _ (imO x y) _)) ?_
 repeat' (first|refine HV_ 19 ?_|((with_reducible apply aA);rfl;kernel_rfl;(repeat (first|exact az.nil|((with_reducible apply az.cons);rfl)));exact hG;exact hl1;exact .app _ _;rintro ⟨⟩ -;refine cL (.perm (ad4 _ _ _ _ _ _).symm) ?_)|((with_reducible apply kI);rfl;kernel_rfl;exact hG;exact hst;exact hqs;((with_reducible apply bU.cons);rfl;exact hvs hyi fun o h=>Zd _ (Zd _ (Zd _ (Zw _ h))));((with_reducible apply bU.cons);rfl;exact hvs hys fun o h=>Zd _ (Zd _ (Zd _ (ZG _ (ZG _ (Zw _ h))))));exact .nil)|refine c_ (fun hc=>?_) (fun hc=>?_))
 all_goals first
   | (exfalso;simp at hc;done)
   | skip
 refine⟨?_⟩
 have hl2:=lC hst sx yi hyi hsm 1 (by omega)
 unfold imC at hl2
 repeat' refine W_ ?_
 refine ce (.perm (aey _ _ _ (imO sx yi) _)) ?_
 repeat' (first|refine H_ 21 ?_|((with_reducible apply aA);rfl;kernel_rfl;(repeat (first|exact az.nil|((with_reducible apply az.cons);rfl)));exact hG;exact hl2;exact .app _ _;rintro ⟨⟩ -;refine cL (.perm (aey _ _ _ _ _).symm) ?_))
 refine⟨?_⟩
 have hhd:=wv hst 0 sx hsm 1 (by omega)
 have hkS:=rx (x:=sx) hsm 1
 have hvm:∀{objs:aG},(∀o∈imO (fl 1 sx) yi,o∈objs)->cy objs (.agg (imC sx yi)) (.agg ((fl 1 sx).tw 0)):=fun h=>ac3 hyi h
 unfold imC at hvm
 generalize jE 1 sx=kq at hhd hkS |-
 repeat' (first|refine H_ 27 ?_|((with_reducible apply kI);rfl;kernel_rfl;exact hG;exact hst;exact hhd;((with_reducible apply bU.cons);rfl;exact hvm fun o h=>Zd _ (Zd _ (Zd _ (Zw _ h))));((with_reducible apply bU.cons);rfl;exact cy.same _);exact bU.nil))
 all_goals first
   | (exfalso;simp at hc;done)
   | skip
 refine⟨?_⟩
 obtain⟨Z,hZ⟩:∃Z:aG,Z=imO (fl 1 sx) yi++(imO (fl 1 x) y++(imO sx ys++[])):=⟨_,rfl⟩
 rw[<- hZ]
 repeat' (first|refine W_ ?_|((with_reducible apply dX (id:=27) 11);kernel_rfl;kernel_rfl;kernel_rfl;rfl;(repeat (first|exact Cut.zero _|apply Cut.succ)))|((with_reducible apply m_q);exact ym_;rfl;exact ez)|((with_reducible apply cA);rfl;(intro p;try dsimp only);(repeat (first|exact TB.nil _|((with_reducible apply TB.cons);rfl;rfl;(first|exact .nil _|exact .put _ _ _ _ _ (.nil _)|exact .skip _ _ _ _ _ (.put _ _ _ _ _ (.nil _))|exact .skip _ _ _ _ _ (.skip _ _ _ _ _ (.put _ _ _ _ _ (.nil _)))|(repeat (first|exact .nil _|apply aW.put|apply aW.skip)));kernel_rfl)));rfl;kernel_rfl;kernel_rfl;exact ez)|((with_reducible apply gm);rfl;rfl;kernel_rfl)|((with_reducible apply wU);(intro p;rfl);(intro p;rfl);(intro p;rfl);kernel_rfl;(intro p;rfl);(intro p;(first|exact .nil _|exact .put _ _ _ _ _ (.nil _)|exact .skip _ _ _ _ _ (.put _ _ _ _ _ (.nil _))|exact .skip _ _ _ _ _ (.skip _ _ _ _ _ (.put _ _ _ _ _ (.nil _)))|(repeat (first|exact .nil _|apply aW.put|apply aW.skip))));(intro p;kernel_rfl);exact⟨by decide,ah_⟩;exact im;rfl;(focus (simp;done)))|((with_reducible apply ol hG hst hto);rfl;kernel_rfl;(focus (intro p;(repeat (first|exact bU.nil|((with_reducible apply bU.cons);rfl;exact .same _)));done)))|((with_reducible apply ol hG hst htv);rfl;kernel_rfl;(focus (intro p;(repeat (first|exact bU.nil|((with_reducible apply bU.cons);rfl;exact .same _)));done)))|((with_reducible apply gy hG hst him2);rfl;kernel_rfl;(focus (intro p;(repeat (first|exact bU.nil|((with_reducible apply bU.cons);rfl;exact .same _)));done));exact hnew)|(with_reducible refine DM.nil _ _ _ ?_))
 intro p hp
 simp only[Yr] at hp
 obtain⟨_,_,hyj,_⟩:=hp
 refine bV (objs':=((p 9).a,(p 9).b,.box (imC sx (Enc.dec (p 5))))::(imO sx (Enc.dec (p 5))++((s7,b7,.box (imC sx yi))::(s5,b5,.box (imC x y))::(s4,b4,.box (imC sx ys))::Z))) (by rw[show et _=[_,_] from rfl];(try simp only[ZC,ZK,Zt,ZF,Zx]);(try rfl)) ?_
 dsimp only [Nat.reduceAdd] at hyj |-
 generalize (Enc.dec (p 5):bJ)=yj at hyj |-
 generalize Yu.a (p 9)=s9
 generalize Yu.b (p 9)=b9
 unfold imC
 rw[hZ]
 repeat' refine H_ 28 ?_
 refine⟨?_⟩
 refine aR (abQ _ _ _ _ _ _) ?_
 repeat' (first|refine HV_ 31 ?_|((with_reducible apply kI);rfl;kernel_rfl;exact hG;exact hst;exact hqs;((with_reducible apply bU.cons);rfl;exact hvs hyj fun o h=>Zd _ (Zd _ (Zd _ (Zd _ (Zw _ h)))));((with_reducible apply bU.cons);rfl;exact hvs hys fun o h=>Zd _ (Zd _ (Zd _ (Zd _ (ZG _ (ZG _ (ZG _ (Zw _ h))))))));exact .nil)|refine c_ (fun hc=>?_) (fun hc=>?_))
 all_goals first
   | (exfalso;simp at hc;done)
   | skip
 refine⟨?_⟩
 repeat' (first|refine W_ ?_|((with_reducible apply kI);rfl;kernel_rfl;exact hG;exact hst;exact hhd;((with_reducible apply bU.cons);rfl;exact hvm fun o h=>Zd _ (Zd _ (Zd _ (Zd _ (ZG _ (Zw _ h))))));((with_reducible apply bU.cons);rfl;exact cy.same _);exact bU.nil))
 all_goals first
   | (exact r1_)
   | (exfalso;simp at hc;done)
theorem fx (w:World) (t:PT) (x:ad) (hat:ic t x) (hsee:eF w (·<w.heap.size) t) (hx:x.sane) (q0:Int) (_:i64 q0) (t2:PT) (v:ab) (hat2:xT t2 v) (_:eF w (·<w.heap.size) t2) (hx2:v.sane) (hm:vq w):Calls Tryz.prog 4 #[.agg t.cells.toArray,.int .i64 q0,.agg t2.cells.toArray] w fun e w'=>e=.returned (.bool true)/\Below w.heap.size w w':=by
 have h0:0<w.heap.size:=by
   obtain⟨m,hm⟩:=hm
   have:=World.block_lt_of_cell? w _ hm
   omega
 have hok:=aeX w _ _ hsee
 have hsm:=vW hat hsee hx
 rw[ab0 hat] at hok
 subst hat2
 refine(jq x hsm q0 v (show v.text.size<=_ from hx2.2.2) w _ h0 hm rfl ?_).mono ?_
 ·intro i t v h1 h2
  match i,h1,h2 with
  | 0,h1,h2 =>
    cases h1;cases h2
    exact .agg _ _ hok.2.1 (by simpa using hok.1) (fun i t v ht hv=>hok.2.2 i t v ht (by simpa using hv))
  | 1,h1,h2 =>
    cases h1;cases h2
    exact .int _ _
  | 2,h1,h2 =>
    cases h1;cases h2
    refine .agg _ _ (by simp[TV.isCell]) rfl fun i t v ht hv=>?_
    match i,ht,hv with
    | 0,ht,hv=>cases ht;cases hv;exact .int _ _
    | 1,ht,hv=>cases ht;cases hv;exact .int _ _
    | 2,ht,hv=>cases ht;cases hv;exact .str _
 ·rintro e w' ⟨v,rfl,hb,hr⟩
  have:=(hr 0 (Ze _)).bool_inv
  subst this
  exact⟨rfl,hb⟩
end Go.Proofs.YtifcomgnmokimaaGreatDoor
