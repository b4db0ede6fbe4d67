/- Part 31 of the proof: the texts ShD, ShL, ShN, NiV, NiW, NiX, NiY, ImN. -/
import Derived.Test.YtifcomgnmokimaaGreatDoorRt25
import Derived.Test.YtifcomgnmokimaaGreatDoorRt14
import Derived.Test.YtifcomgnmokimaaGreatDoorRt26
import Derived.Test.YtifcomgnmokimaaGreatDoorRt3
import Derived.Test.YtifcomgnmokimaaGreatDoorRt27
import Derived.Test.YtifcomgnmokimaaGreatDoorRt17
import Derived.Test.YtifcomgnmokimaaGreatDoorRt24
set_option linter.all false
set_option maxHeartbeats 4000000
set_option maxRecDepth 20000
namespace Go.Proofs.YtifcomgnmokimaaGreatDoor
open Go Go.RowKit
theorem eg {objs objs':aG} (h:∀o∈objs,o∈objs') {t:TV} (k:dY objs t):dY objs' t:=by
 induction k with
 | flat t h=>exact .flat t h
 | nils=>exact .nils
 | ms s b off len m rows hm=>exact .ms s b off len m rows (h _ hm)
 | agg l _ ih=>exact .agg l ih
 | tup l _ ih=>exact .tup l ih
theorem eJ {objs objs':aG} (h:∀o∈objs,o∈objs') {o:aV} (k:cE objs o):cE objs' o:=by
 cases o with
 | row m rows=>exact fun t ht=>eg h (k t ht)
 | box cells=>exact fun t ht=>eg h (k t ht)
 | _=>exact k
theorem zu (x:aB) (p:Nat×Nat) (objs:aG) (h:(p.1,p.2,fu x)∈objs):∀t∈cT x p,dY objs t:=fun t ht=>by
 simp only[cT,ZX,ZP,or_false] at ht
 rcases ht with rfl|rfl|rfl|rfl
 ·exact .flat _ rfl
 ·exact .flat _ rfl
 ·exact .flat _ rfl
 ·exact .ms _ _ _ _ _ _ h
theorem acl (x:aB) (objs:aG):cE objs (fu x):=fO fun t ht=>by
 obtain⟨r,hr,htr⟩:=List.mem_flatten.1 ht
 obtain⟨i,_,rfl⟩:=List.mem_map.1 hr
 simp only[am.tw,ZX,ZP,or_false] at htr
 rcases htr with rfl|rfl|rfl|rfl <;> rfl
theorem abO (l:List aD) (objs:aG):cE objs (.row 4 (l.map (aD.tw 0))):=fO fun t ht=>by
 obtain⟨r,hr,htr⟩:=List.mem_flatten.1 ht
 obtain⟨i,_,rfl⟩:=List.mem_map.1 hr
 simp only[aD.tw,ZX,ZP,or_false] at htr
 rcases htr with rfl|rfl|rfl|rfl <;> rfl
theorem aea (x:aF) (y:CbP):(∀s b o,(s,b,o)∈cbO x y->cE (cbO x y) o)/\dY (cbO x y) (.agg (cbC x y)):=by
 have h1:=iP (m:=3) (s:=y.1.1.1) (b:=y.1.1.2) (n:=x.classes.length) iK iB x.classes y.1.2
 have h2:=iP (m:=4) (s:=y.2.1.1.1) (b:=y.2.1.1.2) (n:=x.codes.length) zu acl x.codes y.2.1.2
 have m1:∀o∈rk x.classes y.1,o∈cbO x y:=fun o h=>Zw _ h
 have m2:∀o∈agy x.codes y.2.1,o∈cbO x y:=fun o h=>ZG _ (Zw _ h)
 have m3:∀o∈aeN x.entries y.2.2,o∈cbO x y:=fun o h=>ZG _ (ZG _ h)
 refine⟨fun s b o h=>?_,.agg _ fun t ht=>?_⟩
 ·rcases List.mem_append.1 h with h|h
  ·exact eJ m1 (h1.1 s b o h)
  ·rcases List.mem_append.1 h with h|h
   ·exact eJ m2 (h2.1 s b o h)
   ·simp only[aeN,ZM,Zp] at h
    obtain⟨_,_,rfl⟩:=h
    exact abO _ _
 ·simp only[cbC,ZX,ZP,or_false] at ht
  rcases ht with rfl|rfl|rfl|rfl
  ·exact eg m1 h1.2
  ·exact eg m2 h2.2
  ·exact .ms _ _ _ _ _ _ (m3 _ Zi)
  ·exact .flat _ rfl
instance:Enc CbP:=inferInstanceAs (Enc (((Nat×Nat)×List (Nat×Nat))×((Nat×Nat)×List (Nat×Nat))×(Nat×Nat)))
theorem abh (a b c:Nat×Nat×aV) (A B C:aG):bS (a::b::c::(A++(B++C))) (a::(A++(b::(B++(c::C))))):=.perm (by
 have h1:(A++(b::(B++(c::C)))).Perm (b::(A++(B++(c::C)))):=Z4
 have h2:(A++(B++(c::C))).Perm (c::(A++(B++C))):=by
   have:((A++B)++(c::C)).Perm (c::((A++B)++C)):=Z4
   simpa using this
 exact((h1.trans (h2.cons b)).cons a).symm)
theorem ad4 (a b c:Nat×Nat×aV) (A B C:aG):(B++(a::b::c::(A++C))).Perm (a::b::c::(A++(B++C))):=by
 have h:=Yg B ([a,b,c]++A) C
 simpa using h
theorem aey (a b c:Nat×Nat×aV) (A C:aG):(A++(a::b::c::C)).Perm (a::b::c::(A++C)):=by
 have h:=Yg A [a,b,c] C
 simpa using h
theorem abQ (a b c d:Nat×Nat×aV) (Y Z:aG):bS (a::b::c::d::(Y++Z)) (a::(Y++(b::c::d::Z))):=.perm (by
 have h:=Yg Y [b,c,d] Z
 exact(h.symm.cons a))
structure Rl (objs:aG) (K:Nat) (R:TV->TV->Prop):Prop where
 flat:∀t:TV,t.flat=true->R t t
 ms:∀(s b m:Nat) (rows rows':List (List TV)),(s,b,aV.row m rows)∈objs->rows'.map List.length=rows.map List.length->(∀(j:Nat) (t t':TV),rows.flatten[j]?=some t->rows'.flatten[j]?=some t'->R t t')->R (.ms s b 0 rows.length) (.sl K m rows')
def RL (R:TV->TV->Prop) (l l':List TV):Prop:=l'.length=l.length/\∀(j:Nat) (t t':TV),l[j]?=some t->l'[j]?=some t'->R t t'
theorem RL.nil {R:TV->TV->Prop}:RL R [] []:=⟨rfl,by simp⟩
theorem RL.append {R:TV->TV->Prop} {a a' b b':List TV} (h:RL R a a') (k:RL R b b'):RL R (a++b) (a'++b'):=⟨by simp[h.1,k.1],fun j u u' h1 h2=>by
 by_cases hj:j<a.length
 ·rw[Zs hj] at h1
  rw[Zs (by rw[h.1];exact hj)] at h2
  exact h.2 j u u' h1 h2
 ·rw[Zr (by omega)] at h1
  rw[Zr (by rw[h.1];omega)] at h2
  rw[h.1] at h2
  exact k.2 _ u u' h1 h2⟩
theorem RL.cons {R:TV->TV->Prop} {t t':TV} {l l':List TV} (h:R t t') (k:RL R l l'):RL R (t::l) (t'::l') :=
 RL.append (a:=[t]) (a':=[t']) ⟨rfl,fun j u u' h1 h2=>by
   cases j with
   | zero=>cases h1;cases h2;exact h
   | succ j=>simp at h1⟩ k
theorem acT {α:Type} {f:α->List TV} (h:∀x,(f x).all TV.flat=true) (l:List α):∀t∈(l.map f).flatten,t.flat=true:=fun t ht=>by
 obtain⟨r,hr,ht⟩:=List.mem_flatten.1 ht
 obtain⟨x,_,rfl⟩:=List.mem_map.1 hr
 exact List.all_eq_true.1 (h x) t ht
section
variable {objs:aG} {K:Nat} {R:TV->TV->Prop} (h:Rl objs K R)
include h
theorem Rl.msF {s b m:Nat} {α:Type} {f:α->List TV} (hf:∀x,(f x).all TV.flat=true) {l:List α} (hm:(s,b,aV.row m (l.map f))∈objs):R (.ms s b 0 l.length) (.sl K m (l.map f)):=by
 have h1:=h.ms s b m (l.map f) (l.map f) hm rfl (fun j t t' h1 h2=>by rw[h1] at h2;cases h2;exact h.flat t (acT hf l t (Zm h1)))
 rwa [Zf] at h1
omit h in
theorem RL.zip {α β:Type} {f:α->List TV} {mk:α->β->List TV} {ob:α->β->aG} (h:∀x p,(∀o∈ob x p,o∈objs)->RL R (mk x p) (f x)):∀(l:List α) (ps:List β),ps.length=l.length->(∀o∈nOg ob l ps,o∈objs)->RL R (nRg mk l ps).flatten (l.map f).flatten/\(l.map f).map List.length=(nRg mk l ps).map List.length
 | [],ps,hl,_=>by simp[nRg,RL]
 | x::l,[],hl,_=>by simp at hl
 | x::l,p::ps,hl,hm=>by
   have h1:=h x p (fun o ho=>hm o (by simp only[nOg,YO,Yk,ZO];exact .inl ho))
   obtain⟨h2,h3⟩:=RL.zip h l ps (by simpa using hl) (fun o ho=>hm o (by simp only[nOg,YO,Yk,ZO];exact .inr ho))
   exact⟨h1.append h2,by
     show (f x).length::(l.map f).map List.length=(mk x p).length::(nRg mk l ps).map List.length
     rw[h3,h1.1]⟩
theorem Rl.zip {α β:Type} {f:α->List TV} {mk:α->β->List TV} {ob:α->β->aG} {m s b:Nat} (hx:∀x p,(∀o∈ob x p,o∈objs)->RL R (mk x p) (f x)) {l:List α} {ps:List β} (hl:ps.length=l.length) (hm:(s,b,aV.row m (nRg mk l ps))∈objs) (hp:∀o∈nOg ob l ps,o∈objs):R (.ms s b 0 l.length) (.sl K m (l.map f)):=by
 obtain⟨h1,h2⟩:=RL.zip hx l ps hl hp
 have h3:=h.ms s b m _ _ hm h2 h1.2
 rwa [eN mk hl] at h3
theorem Rl.zip1 {α:Type} {f:α->List TV} {mk:α->Nat×Nat->List TV} {ob:α->aV} {m s b:Nat} (hx:∀x p,(p.1,p.2,ob x)∈objs->RL R (mk x p) (f x)) {l:List α} {ps:List (Nat×Nat)} (hl:ps.length=l.length) (hm:(s,b,aV.row m (nR mk l ps))∈objs) (hp:∀o∈nO ob l ps,o∈objs):R (.ms s b 0 l.length) (.sl K m (l.map f)):=by
 refine h.zip (ob:=fun x p=>[(p.1,p.2,ob x)]) (fun x p k=>hx x p (k _ Zi)) hl hm fun o ho=>hp o ?_
 have e:∀(l:List α) (ps:List (Nat×Nat)),nOg (fun x p=>[(p.1,p.2,ob x)]) l ps=nO ob l ps:=fun l=>by
   induction l with
   | nil=>intro ps;rfl
   | cons x l ih=>intro ps;cases ps with
     | nil=>rfl
     | cons p ps=>show (p.1,p.2,ob x)::nOg _ l ps=_::nO ob l ps;rw[ih]
 rwa [e] at ho
theorem ab9 (x:aa) (p:Nat×Nat) (k:(p.1,p.2,gw x)∈objs):RL R (fq x p) (x.tw K):=.cons (h.flat _ rfl) (.cons (h.flat _ rfl) (.cons (h.msF (fun _=>rfl) k) .nil))
theorem afy (x:aB) (p:Nat×Nat) (k:(p.1,p.2,fu x)∈objs):RL R (cT x p) (x.tw K):=.cons (h.flat _ rfl) (.cons (h.flat _ rfl) (.cons (h.flat _ rfl) (.cons (h.msF (fun _=>rfl) k) .nil)))
theorem aeZ (x:ar) (p:Pl×Pl) (k:∀o∈cI x p,o∈objs):RL R (cf x p) (x.tw K) :=
 .cons (h.flat _ rfl) (.cons (h.flat _ rfl) (.cons (h.msF (fun _=>rfl) (k _ Zi)) (.cons (h.msF (fun _=>rfl) (k _ (Zd _ Zi))) .nil)))
theorem aeM (x:ao) (p:Pl×Pl×Pl) (k:∀o∈bG x p,o∈objs):RL R (aM x p) (x.tw K):=by
 have h1:=h.msF (fun _=>rfl) (k _ Zi)
 have h2:=h.msF (fun _=>rfl) (k _ (Zd _ Zi))
 have h3:=h.msF (fun _=>rfl) (k _ (Zd _ (Zd _ Zi)))
 repeat' (first|exact RL.nil|refine RL.cons (h.flat _ rfl) ?_|refine RL.cons h1 ?_|refine RL.cons h2 ?_|refine RL.cons h3 ?_)
theorem ad5 {x:ad} {y:bJ} (hy:imI x y) (hm:∀o∈imO x y,o∈objs):RL R (imC x y) (x.tw K):=by
 unfold imO cbO stO at hm
 simp only[ZO,or_imp,forall_and] at hm
 obtain⟨⟨m1,m2,m3⟩,⟨m4,m5,m6⟩,m7,m8,m9,m10⟩:=hm
 have r1:=h.zip1 (ab9 h) hy.1.1 (m1 _ Zi) (fun o k=>m1 o (Zd _ k))
 have r2:=h.zip1 (afy h) hy.1.2 (m2 _ Zi) (fun o k=>m2 o (Zd _ k))
 have r3:=h.msF (fun _=>rfl) (m3 _ Zi)
 have r4:=h.zip1 (ab9 h) hy.2.1.1 (m4 _ Zi) (fun o k=>m4 o (Zd _ k))
 have r5:=h.zip (aeZ h) hy.2.1.2 (m5 _ Zi) (fun o k=>m5 o (Zd _ k))
 have r6:=h.msF (fun _=>rfl) (m6 _ Zi)
 have r7:=h.msF (fun _=>rfl) (m7 _ Zi)
 have r8:=h.zip (aeM h) hy.2.2 (m8 _ Zi) (fun o k=>m8 o (Zd _ k))
 have r9:=h.msF (fun _=>rfl) (m9 _ Zi)
 have r10:=h.msF (fun _=>rfl) (m10 _ Zi)
 exact .cons r1 (.cons r2 (.cons r3 (.cons (h.flat _ rfl) (.cons r4 (.cons r5 (.cons r6 (.cons (h.flat _ rfl) (.cons (h.flat _ rfl) (.cons (h.flat _ rfl) (.cons r7 (.cons r8 (.cons r9 (.cons r10 (.cons (h.flat _ rfl) (.cons (h.flat _ rfl) (.cons (h.flat _ rfl) (.cons (h.flat _ rfl) (.cons (h.flat _ rfl) (.cons (h.flat _ rfl) .nil)))))))))))))))))))
end
theorem pI {objs:aG} {x:ad} {y:bJ} (hy:imI x y) (hm:∀o∈imO x y,o∈objs):cy objs (.agg (imC x y)) (.agg (x.tw 0)):=by
 have h:=ad5 (R:=cy objs) ⟨fun t _=>.same t,fun s b m rows rows' hm hl h=>.ms s b 0 rows.length m rows rows rows' hm (by omega) (by rw[Y0,Zc (Zg _)]) hl h⟩ hy hm
 exact .agg _ _ h.1 h.2
theorem ag3 {x:ad} {y:bJ} (hy:imI x y) (B L:Nat):Fin B (imO x y) L (.agg (imC x y)) (.agg (x.tw L)):=by
 have h:=ad5 (R:=Fin B (imO x y) L) ⟨fun t ht=>.flat ht,fun s b m rows rows' hm hl h=>.ms s b 0 rows.length m rows rows rows' hm (by omega) (by rw[Y0,Zc (Zg _)]) hl h⟩ hy (fun _ h=>h)
 exact .agg _ _ h.1 h.2
theorem agx (x:ad) (k:Int) (y:bJ):imC (fl k x) y=imC x y:=by
 simp[imC,fl,dc,fZ,co]
theorem agZ {x:ad} (k:Int) {y:bJ} (hy:imI x y):imI (fl k x) y:=by
 simpa [imI,cbI,stI,fl,dc,fZ,co] using hy
theorem ac3 {objs:aG} {x:ad} {k:Int} {y:bJ} (hy:imI x y) (hm:∀o∈imO (fl k x) y,o∈objs):cy objs (.agg (imC x y)) (.agg ((fl k x).tw 0)):=by
 rw[<- agx x k y]
 exact pI (agZ k hy) hm
theorem va {α β:Type} {mk:α->β->List TV} {ob:α->β->aG} {m s b n:Nat} (hmk:∀x p objs,(∀o∈ob x p,o∈objs)->∀t∈mk x p,dY objs t) (hob:∀x p objs s b o,(s,b,o)∈ob x p->cE objs o) (l:List α) (ps:List β) :
   (∀s' b' o,(s',b',o)∈(s,b,aV.row m (nRg mk l ps))::nOg ob l ps->cE ((s,b,aV.row m (nRg mk l ps))::nOg ob l ps) o)/\dY ((s,b,aV.row m (nRg mk l ps))::nOg ob l ps) (.ms s b 0 n):=by
 refine⟨fun s' b' o h=>?_,.ms _ _ _ _ _ _ Zi⟩
 rcases List.mem_cons.1 h with h|h
 ·simp only[Zp] at h
  obtain⟨_,_,rfl⟩:=h
  intro t ht
  obtain⟨r,hr,htr⟩:=List.mem_flatten.1 ht
  obtain⟨x,p,rfl,hg⟩:=rM hr
  exact hmk x p _ (fun o ho=>Zd _ (List.mem_flatten.2 ⟨_,hg ob,ho⟩)) t htr
 ·obtain⟨z,hz,hoz⟩:=List.mem_flatten.1 h
  obtain⟨x,p,rfl,_⟩:=rM hz
  exact hob x p _ s' b' o hoz
theorem nS {α:Type} {f:α->List TV} (h:∀x,∀t∈f x,t.flat=true) (l:List α):∀t∈(l.map f).flatten,t.flat=true:=fun t ht=>by
 obtain⟨r,hr,htr⟩:=List.mem_flatten.1 ht
 obtain⟨i,_,rfl⟩:=List.mem_map.1 hr
 exact h i t htr
theorem oE (l:List ab) (objs:aG):cE objs (.row 3 (l.map (ab.tw 0))):=fO (nS (fun x t ht=>by
 simp only[ab.tw,ZX,ZP,or_false] at ht
 rcases ht with rfl|rfl|rfl <;> rfl) l)
theorem xC (l:List aq) (objs:aG):cE objs (.row 6 (l.map (aq.tw 0))):=fO (nS (fun x t ht=>by
 simp only[aq.tw,ZX,ZP,or_false] at ht
 rcases ht with rfl|rfl|rfl|rfl|rfl|rfl <;> rfl) l)
theorem wH (l:List ag) (objs:aG):cE objs (.row 2 (l.map (ag.tw 0))):=fO (nS (fun x t ht=>by
 simp only[ag.tw,ZX,ZP,or_false] at ht
 rcases ht with rfl|rfl <;> rfl) l)
theorem acv (l:List Int) (objs:aG):cE objs (.row 1 (aS l)):=fO (nS (fun x t ht=>by
 simp only[ZX,ZP,or_false] at ht
 rcases ht with rfl;rfl) l)
theorem uR (x:ar) (p:Pl×Pl) (objs:aG) (h:∀o∈cI x p,o∈objs):∀t∈cf x p,dY objs t:=fun t ht=>by
 simp only[cf,ZX,ZP,or_false] at ht
 rcases ht with rfl|rfl|rfl|rfl
 ·exact .flat _ rfl
 ·exact .flat _ rfl
 ·exact .ms _ _ _ _ _ _ (h _ Zi)
 ·exact .ms _ _ _ _ _ _ (h _ (Zd _ Zi))
theorem vm (x:ar) (p:Pl×Pl) (objs:aG) (s b:Nat) (o:aV) (h:(s,b,o)∈cI x p):cE objs o:=by
 simp only[cI,ZX,ZP,or_false,Zp] at h
 rcases h with ⟨_,_,rfl⟩|⟨_,_,rfl⟩
 ·exact oE _ _
 ·exact acv _ _
theorem ux (x:ao) (p:Pl×Pl×Pl) (objs:aG) (h:∀o∈bG x p,o∈objs):∀t∈aM x p,dY objs t:=fun t ht=>by
 simp only[aM,ZX,ZP,or_false] at ht
 rcases ht with rfl|rfl|rfl|rfl|rfl|rfl|rfl|rfl|rfl|rfl|rfl|rfl|rfl|rfl
 all_goals first
   | exact .flat _ rfl
   | exact .ms _ _ _ _ _ _ (h _ Zi)
   | exact .ms _ _ _ _ _ _ (h _ (Zd _ Zi))
   | exact .ms _ _ _ _ _ _ (h _ (Zd _ (Zd _ Zi)))
theorem vz (x:ao) (p:Pl×Pl×Pl) (objs:aG) (s b:Nat) (o:aV) (h:(s,b,o)∈bG x p):cE objs o:=by
 simp only[bG,ZX,ZP,or_false,Zp] at h
 rcases h with ⟨_,_,rfl⟩|⟨_,_,rfl⟩|⟨_,_,rfl⟩ <;> exact oE _ _
theorem abA (x:aQ) (y:StP):(∀s b o,(s,b,o)∈stO x y->cE (stO x y) o)/\∀t∈stC x y,dY (stO x y) t:=by
 have h1:=iP (m:=3) (s:=y.1.1.1) (b:=y.1.1.2) (n:=x.classes.length) iK iB x.classes y.1.2
 have h2:=va (m:=4) (s:=y.2.1.1.1) (b:=y.2.1.1.2) (n:=x.objects.length) uR vm x.objects y.2.1.2
 have m1:∀o∈rk x.classes y.1,o∈stO x y:=fun o h=>Zw _ h
 have m2:∀o∈afZ x.objects y.2.1,o∈stO x y:=fun o h=>ZG _ (Zw _ h)
 have m3:∀o∈[(y.2.2.1,y.2.2.2,aV.row 1 (ca x.output))],o∈stO x y:=fun o h=>ZG _ (ZG _ h)
 refine⟨fun s b o h=>?_,fun t ht=>?_⟩
 ·rcases List.mem_append.1 h with h|h
  ·exact eJ m1 (h1.1 s b o h)
  ·rcases List.mem_append.1 h with h|h
   ·exact eJ m2 (h2.1 s b o h)
   ·simp only[ZM,Zp] at h
    obtain⟨_,_,rfl⟩:=h
    exact fO (tR _)
 ·simp only[stC,ZX,ZP,or_false] at ht
  rcases ht with rfl|rfl|rfl|rfl|rfl|rfl
  ·exact eg m1 h1.2
  ·exact eg m2 h2.2
  ·exact .ms _ _ _ _ _ _ (m3 _ Zi)
  ·exact .flat _ rfl
  ·exact .flat _ rfl
  ·exact .flat _ rfl
theorem abD (x:ad) (y:bJ):(∀s b o,(s,b,o)∈imO x y->cE (imO x y) o)/\dY (imO x y) (.agg (imC x y)):=by
 have h1:=aea x.base y.1
 have h2:=abA x.store y.2.1
 have h4:=va (m:=14) (s:=y.2.2.2.1.1.1) (b:=y.2.2.2.1.1.2) (n:=x.contexts.length) ux vz x.contexts y.2.2.2.1.2
 have m0:∀o∈imO x y,o∈imO x y:=fun o h=>h
 have m1:∀o∈cbO x.base y.1,o∈imO x y:=fun o h=>m0 o (Zw _ h)
 replace m0:=fun o h=>m0 o (ZG _ h)
 have m2:∀o∈stO x.store y.2.1,o∈imO x y:=fun o h=>m0 o (Zw _ h)
 replace m0:=fun o h=>m0 o (ZG _ h)
 have m3:=m0 _ (Zw _ Zi)
 replace m0:=fun o h=>m0 o (ZG _ h)
 have m4:∀o∈ad7 x.contexts y.2.2.2.1,o∈imO x y:=fun o h=>m0 o (Zw _ h)
 replace m0:=fun o h=>m0 o (ZG _ h)
 have m5:=m0 _ (Zw _ Zi)
 have m6:=m0 _ (ZG _ Zi)
 refine⟨fun s b o h=>?_,.agg _ fun t ht=>?_⟩
 ·rcases List.mem_append.1 h with h|h
  ·exact eJ m1 (h1.1 s b o h)
  rcases List.mem_append.1 h with h|h
  ·exact eJ m2 (h2.1 s b o h)
  rcases List.mem_append.1 h with h|h
  ·simp only[ZM,Zp] at h
   obtain⟨_,_,rfl⟩:=h
   exact xC _ _
  rcases List.mem_append.1 h with h|h
  ·exact eJ m4 (h4.1 s b o h)
  rcases List.mem_append.1 h with h|h
  ·simp only[ZM,Zp] at h
   obtain⟨_,_,rfl⟩:=h
   exact wH _ _
  ·simp only[ZM,Zp] at h
   obtain⟨_,_,rfl⟩:=h
   exact acv _ _
 ·replace ht:t∈cbC x.base y.1++(stC x.store y.2.1++[.ms y.2.2.1.1 y.2.2.1.2 0 x.blocks.length,.ms y.2.2.2.1.1.1 y.2.2.2.1.1.2 0 x.contexts.length,.ms y.2.2.2.2.1.1 y.2.2.2.2.1.2 0 x.processes.length,.ms y.2.2.2.2.2.1 y.2.2.2.2.2.2 0 x.ready.length,.int .i64 x.now,.int .i64 x.status,.int .i64 x.value.kind,.int .i64 x.value.number,.str x.value.text,.str x.fault]):=ht
  rcases List.mem_append.1 ht with ht|ht
  ·cases h1.2 with
   | flat _ hf=>exact absurd hf (by simp[TV.flat])
   | agg _ hk=>exact eg m1 (hk t ht)
  rcases List.mem_append.1 ht with ht|ht
  ·exact eg m2 (h2.2 t ht)
  simp only[ZX,ZP,or_false] at ht
  rcases ht with rfl|rfl|rfl|rfl|rfl|rfl|rfl|rfl|rfl|rfl
  ·exact .ms _ _ _ _ _ _ m3
  ·exact eg m4 h4.2
  ·exact .ms _ _ _ _ _ _ m5
  ·exact .ms _ _ _ _ _ _ m6
  all_goals exact .flat _ rfl
instance {A B:Type} [Enc (List A)] [Enc (List B)]:Enc (List (A×B)):=⟨fun y=>Enc.enc (y.map Prod.fst,y.map Prod.snd),fun y=>match (Enc.dec y:List A×List B) with|(a,b)=>a.zip b,fun y=>by
 rw[Enc.eq]
 induction y with
 | nil=>rfl
 | cons z y ih=>simpa using ih⟩
instance:Enc StP:=inferInstanceAs (Enc (((Nat×Nat)×List (Nat×Nat))×((Nat×Nat)×List ((Nat×Nat)×(Nat×Nat)))×(Nat×Nat)))
instance:Enc bJ:=inferInstanceAs (Enc (CbP×StP×(Nat×Nat)×((Nat×Nat)×List ((Nat×Nat)×(Nat×Nat)×(Nat×Nat)))×(Nat×Nat)×(Nat×Nat)))
theorem afl (x:ad) (v:Bool) (y:bJ) (_:imI x y):(∀s b o,(s,b,o)∈imO x y->cE (imO x y) o)/\dY (imO x y) (.tup [.agg (imC x y),.bool v]) :=
 ⟨(abD x y).1,.tup _ fun t ht=>by
   simp only[ZX,ZP,or_false] at ht
   rcases ht with rfl|rfl
   ·exact(abD x y).2
   ·exact .flat _ rfl⟩
theorem wt {G:World->Prop} (hst:ay G) (lo:Nat) (x:ad) (hb:x.small 1048576):Ct Tryz.prog G 7 [.agg (x.tw lo)] (fun K=>.agg (x.tw K)) :=
 acg (pU hst lo x hb) fun _ hy B L=>ag3 hy B L
def aiE:ab:=⟨0,0,⟨#[]⟩⟩
theorem bA (L:List aG) (p:List Nat) {n:Nat} (hn:L.length=n) (h:p.isPerm (List.range n)=true):(p.map (fun i=>L.getD i [])).flatten.Perm L.flatten:=by
 subst hn
 have h1:=(List.isPerm_iff.1 h).map (fun i=>L.getD i [])
 have h2:(List.range L.length).map (fun i=>L.getD i [])=L:=by
   apply List.ext_getElem
   ·simp
   ·intro i h1 h2
    simp at h1
    simp[h2]
 rw[h2] at h1
 exact lu h1
theorem cJ {a b:aG} (h:a=b):bS a b:=h ▸ .refl _
section
variable {G:World->Prop}
end
section
variable {G:World->Prop}
end
open Classical in
noncomputable def zW (m:ad) (n0 n1 n2:Int):Bool:=decide (aaE m n0 n1 n2)
open Classical in
theorem rU {m:ad} {n0 n1 n2:Int} (h:¬ aaE m n0 n1 n2):zW m n0 n1 n2=false:=decide_eq_false h
open Classical in
theorem xm {m:ad} {n0 n1 n2:Int} (h:aaE m n0 n1 n2):zW m n0 n1 n2=true:=decide_eq_true h
theorem nV {m:ad} {n0 n2:Int}:aaE m n0 (-1) n2↔n0=-1/\n2=0:=by
 unfold aaE
 rw[rO (by omega)]
 constructor
 ·rintro (⟨h1,_,h2⟩|⟨_,c,hc,_⟩)
  ·exact⟨h1,h2⟩
  ·cases hc
 ·rintro ⟨h1,h2⟩;exact .inl ⟨h1,rfl,h2⟩
theorem xS {m:ad} {n0 n2:Int} {u:Nat} (hu:u<m.contexts.length):aaE m n0 (u:Int) n2↔n2=1/\m.contexts[u].mark=3/\0<=n0/\OnW m n0 m.contexts[u].sender:=by
 unfold aaE
 rw[dF hu]
 constructor
 ·rintro (⟨_,h,_⟩|⟨h2,c,hc,h3⟩)
  ·omega
  ·cases hc;exact⟨h2,h3⟩
 ·rintro ⟨h2,h3⟩;exact .inr ⟨h2,_,rfl,h3⟩
theorem xR {m:ad} {n0 n1 n2:Int} (h:n1≠-1) (hu:¬ (0<=n1/\n1<m.contexts.length)):¬ aaE m n0 n1 n2:=by
 rintro (⟨_,h1,_⟩|⟨_,c,hc,_⟩)
 ·exact h h1
 ·obtain⟨h0,h1,_⟩:=lW hc;omega
theorem ya {m:ad} {n0 n1 n2:Int} (h:n1≠-1) (h2:n2≠1):¬ aaE m n0 n1 n2:=by
 rintro (⟨_,h1,_⟩|⟨h1,_⟩)
 ·exact h h1
 ·exact h2 h1
open Classical in
theorem acr {m:ad} {a k:Int}:onB m a k=true↔OnW m a k:=decide_eq_true_iff
theorem kD {l:List Int} {i:Nat} (h:i<l.length):(aS l)[i]?=some [.int .i64 l[i]]:=aK h
theorem oh {G:World->Prop} (l1 l2:Nat) (a b:List Int) (hn:a.length<=1048576) (hm:b.length<=1048576):Ct Tryz.prog G 33 [.sl l1 1 (aS a),.sl l2 1 (aS b)] (fun _=>.bool (decide (a=b))):=by
 refine av Tryz.func33 rfl Tryz.ntmps33 rfl rfl fun w0 _ hG=>?_
 have hla:=aj a
 have hlb:=aj b
 by_cases hl:a.length=b.length
 ·repeat' refine W_ ?_
  apply ap (X:=Nat) [0,1,12] (fun i=>[(13,.int .i64 (i:Int))]) (fun _=>[]) (fun i=>i<=a.length/\a.take i=b.take i) (fun i=>a.length - i) 0 ⟨Ze _,by simp⟩
  exact kp_;exact nw_
  ·exact .refl _
  rintro i ⟨hi,hs⟩
  try dsimp only
  by_cases hlt:i<a.length
  ·have hr1:=kD hlt
   have hlt2:i<b.length:=by omega
   have hr2:=kD hlt2
   have hta:a[i]=b[i]->a.take (i+1)=b.take (i+1):=fun e=>by rw[Ye,Ye,hs,Za hlt,Za hlt2,e]
   have hne:a[i]≠b[i]->decide (a=b)=false:=fun h=>decide_eq_false fun e=>h (by subst e;rfl)
   generalize a[i]=x at hr1 hta hne
   generalize b[i]=y at hr2 hta hne
   by_cases hx:x=y
   ·have hx':¬ x≠y:=fun h=>h hx
    repeat' refine V_ ?_
    exact ah (i+1) ⟨by omega,hta hx⟩ (by omega) (.of _ nw_ od_ pk_)
   ·have hx':x≠y:=hx
    rw[hne hx]
    repeat' refine V_ ?_
    exact r1_
  ·rw[Zc (by omega),Zc (by omega)] at hs
   rw[decide_eq_true hs]
   repeat' refine W_ ?_
   exact r1_
 ·rw[decide_eq_false (p:=a=b) fun e=>hl (by rw[e])]
  repeat' refine W_ ?_
  exact r1_
theorem qr {G:World->Prop} (hst:ay G) (l1 l2:Nat) (a b:List Int) (hn:a.length<=1048576) (hm:b.length<=1048576):Ct Tryz.prog G 189 [.sl l1 1 (aS a),.sl l2 1 (aS b)] (fun _=>.bool (decide (a=b))):=by
 refine av Tryz.func189 rfl Tryz.ntmps189 rfl rfl fun w0 _ hG=>?_
 repeat' (first|refine W_ ?_|refine ae hG hst (oh l1 l2 a b hn hm) ?_)
 exact r1_
theorem qh (lo l2:Nat) (m:ad) (hsm:m.small 1048576) (hsd:eY m) (n0 n1 n2:Int):Ct Tryz.prog GL 106 [.agg (m.tw lo),.sl l2 1 [[.int .i64 n0],[.int .i64 n1],[.int .i64 n2]]] (fun _=>.bool (zW m n0 n1 n2)):=by
 refine av Tryz.func106 rfl Tryz.ntmps106 rfl rfl fun w0 _ hG=>?_
 have hst:=en
 have hlx:=ao.len lo m.contexts
 have hxl:=hsm.2.2.2.1.1
 have hon:=fun(k0 a:Int) h=>yU (G:=GL) w0.heap.size lo m hxl hsd k0 a h
 have hxr:=fun(i:Nat) (h:i<m.contexts.length)=>dI (lo:=lo) (l:=m.contexts) h
 have hsn:=qr hst l2 w0.heap.size [n0,n1,n2] [-1,-1,0] (by simp) (by simp)
 simp only[aS,ZU,Yj] at hsn
 unfold ad.tw at hon |-
 by_cases h1:n1=-1
 ·subst h1
  by_cases h0:n0=-1/\n2=0
  ·obtain⟨rfl,rfl⟩:=h0
   rw[xm (nV.2 ⟨rfl,rfl⟩)]
   rw[decide_eq_true rfl] at hsn
   repeat' (first|refine W_ ?_|refine aJ ?_|refine ef ?_|refine ae hG hst (hsn) ?_)
   exact r1_
  rw[rU fun h=>h0 (nV.1 h)]
  rw[decide_eq_false fun e=>h0 (by simp at e;exact e)] at hsn
  have k1:=aP (G:=GL) (-1) 0 ((m.contexts.length:Int) - 1)
  rw[show inR (-1) 0 ((m.contexts.length:Int) - 1)=false from by simp only[inR,decide_eq_false_iff_not];omega] at k1
  have k2:=aP (G:=GL) (-1) 0 ((m.contexts.length - 1:Nat):Int)
  rw[show inR (-1) 0 ((m.contexts.length - 1:Nat):Int)=false from by simp only[inR,decide_eq_false_iff_not];omega] at k2
  by_cases hz:1<=m.contexts.length
  all_goals
    repeat' (first|refine V_ ?_|refine aJ ?_|refine ef ?_|refine ae hG hst (hsn) ?_|refine ai hG hst (k1) ?_|refine ai hG hst (k2) ?_|refine g_ (fun hg=>?_) (fun hg=>?_))
    all_goals
      exact r1_
 rw[decide_eq_false fun e=>h1 (by simp at e;exact e.2.1)] at hsn
 by_cases h2:n2=1
 case neg =>
   rw[rU (ya h1 h2)]
   repeat' (first|refine V_ ?_|refine aJ ?_|refine ef ?_|refine ae hG hst (hsn) ?_)
   exact r1_
 have k1:=aP (G:=GL) n1 0 ((m.contexts.length:Int) - 1)
 by_cases hin:0<=n1/\n1<m.contexts.length
 case neg =>
   rw[rU (xR h1 hin)]
   rw[show inR n1 0 ((m.contexts.length:Int) - 1)=false from by simp only[inR,decide_eq_false_iff_not];omega] at k1
   by_cases hz:1<=m.contexts.length
   ·rw[show (m.contexts.length:Int) - 1=((m.contexts.length - 1:Nat):Int) by omega] at k1
    repeat' (first|refine V_ ?_|refine aJ ?_|refine ef ?_|refine ae hG hst (hsn) ?_|refine ai hG hst (k1) ?_)
    exact r1_
   ·repeat' (first|refine V_ ?_|refine aJ ?_|refine ef ?_|refine ae hG hst (hsn) ?_|refine ai hG hst (k1) ?_)
    exact r1_
 rw[show inR n1 0 ((m.contexts.length:Int) - 1)=true from by simp only[inR,decide_eq_true_eq];omega] at k1
 rw[show (m.contexts.length:Int) - 1=((m.contexts.length - 1:Nat):Int) by omega] at k1
 obtain⟨u,rfl⟩:∃u:Nat,n1=u:=⟨n1.toNat,by omega⟩
 have hu:u<m.contexts.length:=by omega
 have hru:=hxr u hu
 have hiff:=xS (m:=m) (n0:=n0) (n2:=n2) hu
 have hsu:=hsd u hu
 have hot:=hon m.contexts[u].sender n0 (by omega)
 have hob:onB m n0 m.contexts[u].sender=true↔OnW m n0 m.contexts[u].sender:=acr
 generalize onB m n0 m.contexts[u].sender=b at hot hob
 rw[<- hob] at hiff
 generalize m.contexts[u]=c at hru hiff hot
 have hF:=rU (m:=m) (n0:=n0) (n1:=(u:Int)) (n2:=n2)
 have hT:=xm (m:=m) (n0:=n0) (n1:=(u:Int)) (n2:=n2)
 rw[hiff] at hF hT
 generalize zW m n0 (u:Int) n2=V at hF hT |-
 by_cases h3:c.mark=3
 case neg =>
   rw[hF fun h=>h3 h.2.1]
   repeat' (first|refine V_ ?_|refine aJ ?_|refine ef ?_|refine ae hG hst (hsn) ?_|refine ai hG hst (k1) ?_)
   exact r1_
 by_cases h0:0<=n0
 case neg =>
   rw[hF fun h=>h0 h.2.2.1]
   repeat' (first|refine V_ ?_|refine aJ ?_|refine ef ?_|refine ae hG hst (hsn) ?_|refine ai hG hst (k1) ?_)
   exact r1_
 cases b
 ·rw[hF fun h=>by have:=h.2.2.2;cases this]
  repeat' (first|refine V_ ?_|refine aJ ?_|refine ef ?_|refine ae hG hst (hsn) ?_|refine ai hG hst (k1) ?_|refine ai hG hst (hot) ?_)
  exact r1_
 ·rw[hT ⟨h2,h3,h0,rfl⟩]
  repeat' (first|refine V_ ?_|refine aJ ?_|refine ef ?_|refine ae hG hst (hsn) ?_|refine ai hG hst (k1) ?_|refine ai hG hst (hot) ?_)
  exact r1_
end Go.Proofs.YtifcomgnmokimaaGreatDoor
