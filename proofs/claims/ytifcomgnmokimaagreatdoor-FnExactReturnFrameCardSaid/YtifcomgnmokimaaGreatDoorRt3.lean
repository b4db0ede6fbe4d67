/- Part 3 of the proof: the texts EngR2, EngU, EngV, EngW, EngX, EngY, EngZ, EngK, EngL, EngN, EngQ, EngP, EngM, EngAE, EngAA, EngAK, EngAP, EngAB, EngAC, EngAD, EngAF, EngAG, EngAH, EngAI, EngAJ, EngAM, EngAN, EngAL, EngAR, EngAS. -/
import Derived.Test.YtifcomgnmokimaaGreatDoorRt1
import Derived.Laws.MakeOwn
import Derived.Laws.RangeString
import Derived.Lib.AppendStr
import Derived.Laws.StructEq
import Derived.Lib.LazyBuf
set_option linter.all false
namespace Go.Proofs.YtifcomgnmokimaaGreatDoor
open Go Go.RowKit
def f6 (ops:Array Oper) (k:Nat):Bool :=
 let B:=Region.before ops
 (List.range ops.size).all fun j=>Nat.blt j k || (List.range j).all fun i=>(B.getD j 0).testBit i
section
variable {P:Program} {w0:World} {N:Nat} {Q:Exit->Act->World->Prop} {objs:aG} {ops:Array Oper} {env:Env}
theorem oI {k:Nat} (h:f6 ops k=true) {j i:Nat} (hj:j<ops.size) (hk:k<=j) (hi:i<j):((Region.before ops).getD j 0).testBit i=true:=by
 unfold f6 at h
 have h1:=List.all_eq_true.1 h j (List.mem_range.2 hj)
 simp only[Xb] at h1
 rcases h1 with h1|h1
 ·rw[Yo] at h1;omega
 ·exact List.all_eq_true.1 h1 i (List.mem_range.2 hi)
theorem za (hok:dP ops=true) {k:Nat} (htl:f6 ops k=true):∀(n m:Nat),m+n=ops.size->k<=m->∀(fuel:Nat) (listed:Array Bool) (a:Act) (w:World),listed.size=ops.size->n<=fuel->(∀i,i<ops.size->(listed.getD i false=true↔i<m)) ->
   wpList P ops Q (ops.toList.drop m) a w->wpAny P .any ops Q fuel listed a w:=by
 intro n
 induction n with
 | zero =>
   intro m hm hkm fuel listed a w hsz hf hl h
   rw[Yl (by simp;omega)] at h
   have hr:Region.ready .any ops listed=[]:=by
     cases hrd:Region.ready .any ops listed with
     | nil=>rfl
     | cons j r =>
       exfalso
       have hj:j∈Region.ready .any ops listed:=by rw[hrd];exact Zi
       obtain⟨h0,o,ho,_⟩:=mem_ready.1 hj
       have hjl:j<ops.size:=(Array.getElem?_eq_some_iff.1 ho).1
       have:=(hl j hjl).2 (by omega)
       rw[ZH,Z6 (by omega)] at this h0
       simp only[Yn] at this h0
       rw[this] at h0;cases h0
   have hq:Q .normal a w:=h
   cases fuel with
   | zero=>exact⟨hr,hq⟩
   | succ fuel=>exact⟨fun _=>hq,fun i hi=>by rw[hr] at hi;cases hi⟩
 | succ n ih =>
   intro m hm hkm fuel listed a w hsz hf hl h
   cases fuel with
   | zero=>omega
   | succ fuel =>
   have hmlt:m<ops.size:=by omega
   have hom:ops[m]?=some ops[m]:=by simp[hmlt]
   have hX:∀i,i<ops.size->i<m->listed.getD i false=true:=fun i hi him=>(hl i hi).2 him
   have hready:m∈Region.ready .any ops listed:=mem_ready.2 ⟨by
     have h1:listed.getD m false≠true:=fun h=>by have:=(hl m hmlt).1 h;omega
     rw[ZH,Z6 (by omega)] at h1 |-
     simpa using h1,_,hom,fun e he hb=>by
     have:=(eO hok hom).1 e he hb
     exact hX e.on (by omega) this⟩
   refine⟨fun hr=>(by rw[hr] at hready;cases hready),fun i hi=>?_⟩
   obtain⟨h0,o,ho,hed⟩:=mem_ready.1 hi
   have hil:i<ops.size:=(Array.getElem?_eq_some_iff.1 ho).1
   have hnl:¬ listed.getD i false=true:=by
     rw[ZH,Z6 (by omega)] at h0 |-
     simp only[Yn] at h0 |-
     rw[h0];simp
   have him:m<=i:=Nat.le_of_not_lt fun hlt=>hnl (hX i hil hlt)
   have hie:i=m:=by
     rcases Nat.eq_or_lt_of_le him with e|hlt
     ·exact e.symm
     ·exfalso
      have hb:=oI htl hil (by omega) hlt
      obtain⟨e,he,hb2,h3⟩:=((eO hok ho).2 m _ hlt hom).1 hb
      have hel:=hed e he hb2
      have hes:=(eO hok ho).1 e he hb2
      have:=(hl e.on (by omega)).1 hel
      omega
   subst hie
   rw[hom] at ho
   cases ho
   have hdrop:ops.toList.drop i=ops[i]::ops.toList.drop (i+1):=by
     rw[ZI (by simpa using hmlt)];simp
   rw[hdrop] at h
   have hnext:∀a w,wpList P ops Q (ops.toList.drop (i+1)) a w->wpAny P .any ops Q fuel (listed.setIfInBounds i true) a w:=fun a w hw=>by
     refine ih (i+1) (by omega) (by omega) fuel _ a w (by simpa using hsz) (by omega) (fun j hj=>?_) hw
     by_cases hji:j=i
     ·subst hji;simp[ZH,hsz,hj]
     ·rw[getD_set_ne false (Ne.symm hji),hl j hj];omega
   unfold wpOp
   rw[hom]
   dsimp only
   unfold wpList at h
   split at h
   ·rename_i hw
    rw[if_pos hw]
    exact h.imp (Oper.wp_mono hnext) id
   ·rename_i hw
    rw[if_neg hw]
    exact hnext _ _ h
structure JY (w0:World) (N:Nat) (ops:Array Oper) (objs:aG) (σ:Nat->Env) (k:Nat) (X:Nat->Prop) (a:Act) (w:World):Prop where
 defers:a.defers=[]
 size:a.tmps.size=N
 mem:eo w0 objs w
 cut:∀t c,c<=k->(∀i,i<c->gz ops i t->X i)->(∀i,c<=i->i<k->gz ops i t->¬ X i)->∀v,lk t (σ c)=some v->Rep w objs v (a.tmps.getD t undef)
theorem tk (hok:dP ops=true) {k:Nat} (_hk:k<=ops.size) {σ:Nat->Env} {X:Nat->Prop} {a:Act} {w:World} (hJ:JY w0 N ops objs σ k X a w) (hX:fe ops X) (_hXk:∀i,X i->i<k) {i:Nat} {o:Oper} (hi:ops[i]?=some o) (hik:i<k) (hni:¬ X i) (hX':fe ops fun k=>k=i\/X k) {t:Nat} (ht:t∈o.looksAt ops) {v:TV} (hv:lk t (σ i)=some v):Rep w objs v (a.tmps.getD t undef):=by
 refine hJ.cut t i (Nat.le_of_lt hik) (fun k hk hw=>?_) (fun k hk hkk hw hx=>?_) v hv
 ·obtain⟨ok,h1,h2⟩:=Option.bind_eq_some_iff.1 hw
  have:=rI hok h1 hi hk (pZ h2 ht) hX' (.inl rfl)
  rcases this with h|h
  ·omega
  ·exact h
 ·obtain⟨ok,h1,h2⟩:=Option.bind_eq_some_iff.1 hw
  rcases YB i k with h|h
  ·exact hni (rI hok hi h1 h (o9 ht h2) hX hx)
  ·exact hni ((Nat.le_antisymm h hk) ▸ hx)
def yE (o:Oper) (e e':Env):Prop:=(∃d tv,o.dst=some d/\∀t,lk t e'=lk t ((d,tv)::e))\/(o.dst=none/\∀t,lk t e'=lk t e)
theorem li {objs':aG} (hok:dP ops=true) {k:Nat} (hk:k<=ops.size) {σ:Nat->Env} {X:Nat->Prop} {a:Act} {w w':World} (hJ:JY w0 N ops objs σ k X a w) (hX:fe ops X) {i d:Nat} {o:Oper} {tv:TV} {v:Value} (hi:ops[i]?=some o) (hik:i<k) (hni:¬ X i) (hd:o.dst=some d) (hdN:d<N)
   (hC:∀i o,i<k->ops[i]?=some o->yE o (σ i) (σ (i+1))) (hσi:∀t,lk t (σ (i+1))=lk t ((d,tv)::σ i)) (hr:Rep w' objs' tv v) (hw:eo w0 objs' w') (hst:kQ w objs w' objs'):JY w0 N ops objs' σ k (fun k=>k=i\/X k) (a.put (some d) v) w':=by
 refine⟨hJ.defers,by simp[Act.put,hJ.size],hw,fun t c hc h1 h2 u hu=>?_⟩
 show Rep w' objs' u ((a.tmps.setIfInBounds d v).getD t undef)
 rw[k8 (by rw[hJ.size];exact hdN)]
 by_cases hdt:d=t
 ·subst hdt
  rw[if_pos rfl]
  have hwi:gz ops i d:=by unfold gz;rw[hi];exact hd
  have hic:i<c:=Xo fun h=>h2 i h hik hwi (.inl rfl)
  have hlast:∀m,i+1<=m->m<=c->lk d (σ m)=some tv:=fun m=>by
    induction m with
    | zero=>intro h;omega
    | succ m ih =>
      intro hm1 hm2
      rcases Nat.eq_or_lt_of_le hm1 with h|h
      ·have:m=i:=by omega
       subst this;rw[hσi,cK,if_pos rfl]
      ·have hm:m<ops.size:=by omega
       have hom:ops[m]?=some ops[m]:=by simp[hm]
       rcases hC m _ (by omega) hom with ⟨dm,tm,e1,e2⟩|⟨_,e2⟩
       ·rw[e2,cK,if_neg]
        ·exact ih (by omega) (by omega)
        ·intro e
         subst e
         have hwm:gz ops m dm:=by unfold gz;rw[hom];exact e1
         rcases h1 m (by omega) hwm with h3|h3
         ·omega
         ·exact hni (rI hok hi hom (by omega) (qA hd e1) hX h3)
       ·rw[e2]
        exact ih (by omega) (by omega)
  rw[hlast c hic (Zg _)] at hu
  simp only[Zo] at hu
  subst hu;exact hr
 ·rw[if_neg hdt]
  refine(hJ.cut t c hc (fun m hm hwm=>?_) (fun m hm hmk hwm hx=>h2 m hm hmk hwm (.inr hx)) u hu).step hst
  rcases h1 m hm hwm with h3|h3
  ·subst h3
   unfold gz at hwm
   rw[hi] at hwm
   simp only[Ym,hd,Zo] at hwm
   exact absurd hwm hdt
  ·exact h3
theorem x7 {objs':aG} {k:Nat} {σ:Nat->Env} {X:Nat->Prop} {a:Act} {w w':World} (hJ:JY w0 N ops objs σ k X a w) {i:Nat} {o:Oper} (hi:ops[i]?=some o) (hd:o.dst=none) (hw:eo w0 objs' w') (hst:kQ w objs w' objs'):JY w0 N ops objs' σ k (fun k=>k=i\/X k) a w':=by
 refine⟨hJ.defers,hJ.size,hw,fun t c hc h1 h2 u hu=>(hJ.cut t c hc (fun m hm hwm=>?_) (fun m hm hmk hwm hx=>h2 m hm hmk hwm (.inr hx)) u hu).step hst⟩
 rcases h1 m hm hwm with h3|h3
 ·subst h3
  unfold gz at hwm
  rw[hi] at hwm
  simp only[Ym,hd] at hwm
  cases hwm
 ·exact h3
theorem ace (hok:dP ops=true) {k:Nat} (hk:k<=ops.size) {σ:Nat->Env} {X:Nat->Prop} {a:Act} {w:World} (hJ:JY w0 N ops objs σ k X a w) (hX:fe ops X) (hXk:∀i,X i->i<k) {i:Nat} {o:Oper} (ho:ops[i]?=some o) (hik:i<k) (hni:¬ X i) (hX':fe ops fun k=>k=i\/X k)
   (hC:∀i o,i<k->ops[i]?=some o->yE o (σ i) (σ (i+1))) (hσ:mQ P w0 N ops objs o (σ i) (σ (i+1))) {K:Act->World->Prop} (hnext:∀d v w',o.dst=some d->d<N->kQ w objs w' objs->JY w0 N ops objs σ k (fun k=>k=i\/X k) (a.put (some d) v) w'->K (a.put (some d) v) w'):wpOp P ops Q i K a w:=by
 obtain⟨d,tv,hd,hdN,hσi,hcase⟩:=hσ
 have hguard:∀j b c dj,o.guard=some (j,b)->(ops[j]?).bind (·.dst)=some dj->lk dj (σ i)=some (.bool c)->yielded ops a.tmps j=some c:=fun j b c dj h1 h2 h3=>by
   have hl:dj∈o.looksAt ops:=by unfold Oper.looksAt;rw[h1];simp[h2]
   exact mj h2 (tk hok hk hJ hX hXk ho hik hni hX' hl h3).bool_inv
 unfold wpOp
 rw[ho]
 rcases hcase with ⟨hg,hy⟩|⟨hg,rfl⟩
 ·have hw:Region.wanted o (yielded ops a.tmps)=true:=by
    rcases hg with hg|⟨j,b,dj,h1,h2,h3⟩
    ·simp[Region.wanted,hg]
    ·simp[Region.wanted,h1,hguard j b b dj h1 h2 h3]
  simp only[hw,if_true]
  refine .inl (hy a w _ Q hJ.mem (fun x hx v hv=>?_) fun v w' hr hsw hst=>?_)
  ·cases x with
   | tmp t =>
     have hl:t∈o.looksAt ops:=by
       unfold Oper.looksAt
       exact Zw _ (List.mem_filterMap.2 ⟨.tmp t,hx,rfl⟩)
     exact tk hok hk hJ hX hXk ho hik hni hX' hl hv
   | const u=>exact tq hv
   | func f=>simp only[ev,Zo] at hv;subst hv;exact .fn f [] #[] rfl (by simp)
   | global g=>cases hv
  ·rw[hd]
   exact hnext d v w' hd hdN hst (li hok hk hJ hX ho hik hni hd hdN hC hσi hr hsw hst)
 ·have hw:Region.wanted o (yielded ops a.tmps)=false:=by
    rcases hg with ⟨j,b,dj,h1,h2,h3⟩|⟨j,c,dj,h1,h2,h3⟩
    ·cases b <;> simp[Region.wanted,h1,hguard j _ _ dj h1 h2 h3]
    ·have hl:dj∈o.looksAt ops:=by unfold Oper.looksAt;rw[h1];simp[h2]
     simp[Region.wanted,h1,ll h2 (tk hok hk hJ hX hXk ho hik hni hX' hl h3).undef_inv]
  simp only[hw,YJ,if_false]
  rw[hd]
  exact hnext d _ w hd hdN (jt _ _) (li hok hk hJ hX ho hik hni hd hdN hC hσi (.tup [] #[] rfl (by simp)) hJ.mem (jt _ _))
theorem y0 {k:Nat} {σ:Nat->Env} (hσ:∀i o,i<k->ops[i]?=some o->mQ P w0 N ops objs o (σ i) (σ (i+1))):∀i o,i<k->ops[i]?=some o->yE o (σ i) (σ (i+1)):=fun i o hi ho=>by
 obtain⟨d,tv,h1,_,h2,_⟩:=hσ i o hi ho
 exact .inl ⟨d,tv,h1,h2⟩
theorem pe (hok:dP ops=true) {k:Nat} (hk:k<=ops.size) (htl:f6 ops k=true) {σ:Nat->Env} (hQ:AL P w0 N ops Q (ops.toList.drop k) (σ k) objs) {fuel:Nat} {listed:Array Bool} {a:Act} {w:World} (hsz:listed.size=ops.size) (hun:dE listed<=fuel) (hXk:∀i,listed.getD i false=true->i<k)
   (hall:∀j,j<k->listed.getD j false=true) (hJ:JY w0 N ops objs σ k (fun i=>listed.getD i false=true) a w):wpAny P .any ops Q fuel listed a w:=by
 refine za hok htl (ops.size - k) k (by omega) (Zg _) fuel listed a w hsz ?_ (fun i hi=>⟨hXk i,hall i⟩) (hQ.run a w ⟨hJ.defers,hJ.size,hJ.mem,fun t v hv=>hJ.cut t k (Zg _) (fun i hi _=>hall i hi) (fun i hi hik=>by omega) v hv⟩)
 unfold dE at hun
 rw[<- Y5 k listed.toList,List.filter_append,Zh] at hun
 have hd:(listed.toList.drop k).filter (! ·)=listed.toList.drop k:=by
   rw[List.filter_eq_self]
   intro x hx
   obtain⟨j,hj,rfl⟩:=ZD hx
   rw[List.getElem_drop]
   simp only[YP,Z5] at hj
   have hnl:¬ listed.getD (k+j) false=true:=fun h=>by have:=hXk _ h;omega
   rw[ZH,Z6 (by omega)] at hnl
   simpa using hnl
 rw[hd] at hun
 simp only[YP,Z5] at hun
 omega
theorem wE (hok:dP ops=true) {k:Nat} (hk:k<=ops.size) (htl:f6 ops k=true) (J:(Nat->Prop)->Act->World->Prop)
   (hstart:∀(fuel:Nat) (listed:Array Bool) (a:Act) (w:World),listed.size=ops.size->dE listed<=fuel->(∀i,listed.getD i false=true->i<k)->(∀j,j<k->listed.getD j false=true)->J (fun i=>listed.getD i false=true) a w->wpAny P .any ops Q fuel listed a w)
   (hstep:∀(X:Nat->Prop) (a:Act) (w:World) (i:Nat) (o:Oper),fe ops X->(∀i,X i->i<k)->ops[i]?=some o->i<k->¬ X i->fe ops (fun k=>k=i\/X k)->J X a w->∀K:Act->World->Prop,(∀a' w',J (fun k=>k=i\/X k) a' w'->K a' w')->wpOp P ops Q i K a w) :
   ∀(fuel:Nat) (listed:Array Bool) (a:Act) (w:World),listed.size=ops.size->dE listed<=fuel->(∀i,listed.getD i false=true->i<k)->fe ops (fun i=>listed.getD i false=true)->J (fun i=>listed.getD i false=true) a w->wpAny P .any ops Q fuel listed a w:=by
 intro fuel
 induction fuel with
 | zero =>
   intro listed a w hsz hun hXk hX hJ
   by_cases hall:∀j,j<k->listed.getD j false=true
   ·exact hstart _ listed a w hsz hun hXk hall hJ
   ·exfalso
    apply hall
    intro j hj
    cases hb:listed.getD j false with
    | true=>rfl
    | false =>
      exfalso
      have hjl:j<listed.size:=by omega
      have:listed[j]∈listed.toList.filter (! ·):=List.mem_filter.2 ⟨by simp,by
        simp only[ZH,Z6 hjl,Yn] at hb;simp[hb]⟩
      have:=List.length_pos_of_mem this
      unfold dE at hun;omega
 | succ fuel ih =>
   intro listed a w hsz hun hXk hX hJ
   by_cases hall:∀j,j<k->listed.getD j false=true
   ·exact hstart _ listed a w hsz hun hXk hall hJ
   have hsome:∃j,j<k/\¬ listed.getD j false=true:=by
     refine Classical.byContradiction fun hn=>hall fun j hj=>Classical.byContradiction fun h=>hn ⟨j,hj,h⟩
   refine⟨fun hr=>?_,fun i hi=>?_⟩
   ·exfalso
    have hall2:∀j,j<ops.size->listed.getD j false=true:=by
      intro j
      induction j using Nat.strongRecOn with
      | _ j ih =>
        intro hj
        cases hb:listed.getD j false with
        | true=>rfl
        | false =>
          have hoj:ops[j]?=some ops[j]:=by simp[hj]
          have hmem:j∈Region.ready .any ops listed:=mem_ready.2 ⟨by
            have hjl:j<listed.size:=by omega
            simp only[ZH,Z6 hjl,Yn] at hb |-;exact hb,_,hoj,fun e he hbd=>ih e.on ((eO hok hoj).1 e he hbd) (Nat.lt_trans ((eO hok hoj).1 e he hbd) hj)⟩
          rw[hr] at hmem;cases hmem
    obtain⟨j,hj,hnj⟩:=hsome
    exact hnj (hall2 j (by omega))
   ·obtain⟨h0,o,ho,hed⟩:=mem_ready.1 hi
    have hisz:i<ops.size:=(Array.getElem?_eq_some_iff.1 ho).1
    have hil:i<listed.size:=by rw[hsz];exact hisz
    have h0':listed[i]=false:=by simpa [ZH,hil] using h0
    have hni:¬ listed.getD i false=true:=by simp[hil,h0']
    have hXeq:∀k,(listed.setIfInBounds i true).getD k false=true↔(k=i\/listed.getD k false=true):=fun k=>by
      by_cases hk:k=i
      ·subst hk;simp[hil]
      ·rw[getD_set_ne false (Ne.symm hk)];simp[hk]
    have hX':fe ops fun k=>k=i\/listed.getD k false=true:=fun j oj hj hx e he hb=>by
      rcases hx with rfl|hx
      ·rw[hj] at ho;cases ho;exact .inr (hed e he hb)
      ·exact .inr (hX j oj hj hx e he hb)
    have hik:i<k:=Xo fun hge=>by
      obtain⟨j,hj,hnj⟩:=hsome
      have:=fY hok hX' i hisz (.inl rfl) j (by omega) (oI htl hisz hge (by omega))
      rcases this with h|h
      ·omega
      ·exact hnj h
    have hXs:fe ops fun k=>(listed.setIfInBounds i true).getD k false=true:=fun j oj hj hx e he hb=>(hXeq _).2 (hX' j oj hj ((hXeq _).1 hx) e he hb)
    have hun':dE (listed.setIfInBounds i true)<=fuel:=by
      have key:∀(l:List Bool) (i:Nat),l[i]?=some false->((l.set i true).filter (! ·)).length+1=(l.filter (! ·)).length:=fun l=>by
        induction l with
        | nil=>intro i h;simp at h
        | cons x l ih =>
          intro i h
          cases i with
          | zero=>simp at h;subst h;simp
          | succ i =>
            have:=ih i (by simpa using h)
            cases x <;> simp[List.filter_cons] at this |- <;> omega
      have:=key listed.toList i (by simp[hil,h0'])
      unfold dE at hun |-
      simp only[Array.toList_setIfInBounds]
      omega
    refine hstep _ a w i o hX hXk ho hik hni hX' hJ _ fun a' w' hJ'=>?_
    have e:(fun k=>(listed.setIfInBounds i true).getD k false=true)=fun k=>k=i\/listed.getD k false=true:=funext fun k=>propext (hXeq k)
    exact ih _ a' w' (by simpa using hsz) hun' (fun j hj=>((hXeq j).1 hj).elim (fun e=>e ▸ hik) (hXk j)) hXs (e ▸ hJ')
theorem zw (hok:dP ops=true) {k:Nat} (hk:k<=ops.size) (htl:f6 ops k=true) {σ:Nat->Env} (hσ:∀i o,i<k->ops[i]?=some o->mQ P w0 N ops objs o (σ i) (σ (i+1))) (hQ:AL P w0 N ops Q (ops.toList.drop k) (σ k) objs) :
   ∀(fuel:Nat) (listed:Array Bool) (a:Act) (w:World),listed.size=ops.size->dE listed<=fuel->(∀i,listed.getD i false=true->i<k)->fe ops (fun i=>listed.getD i false=true)->JY w0 N ops objs σ k (fun i=>listed.getD i false=true) a w->wpAny P .any ops Q fuel listed a w :=
 wE hok hk htl (JY w0 N ops objs σ k) (fun _ _ _ _ hsz hun hXk hall hJ=>pe hok hk htl hQ hsz hun hXk hall hJ)
   fun _ _ _ i o hX hXk ho hik hni hX' hJ _ hK=>ace hok hk hJ hX hXk ho hik hni hX' (y0 hσ) (hσ i o hik ho) fun _ _ _ _ _ _ h=>hK _ _ h
inductive Cut:Nat->List Oper->List Oper->List Oper->Prop
 | zero (l:List Oper):Cut 0 l [] l
 | succ (n:Nat) (x:Oper) (l l1 l2:List Oper) (h:Cut n l l1 l2):Cut (n+1) (x::l) (x::l1) l2
theorem Cut.eq {n:Nat} {l l1 l2:List Oper} (h:Cut n l l1 l2):l1=l.take n/\l2=l.drop n/\n<=l.length:=by
 induction h with
 | zero l=>simp
 | succ n x l l1 l2 h ih=>obtain⟨h1,h2,h3⟩:=ih;subst h1;subst h2;simp;exact h3
theorem dh (k:Nat) {id:Nat} {l l1 l2:List Oper} {env:Env} (hm:P.follows .mixedOrders=true) (hok:dP l.toArray=true) (htl:f6 l.toArray k=true) (hc:Cut k l l1 l2) (h:DR P w0 N l.toArray objs (fun env'=>AL P w0 N l.toArray Q l2 env' objs) l1 env):AW P w0 N (.region id l.toArray true) Q env objs:=⟨fun a w hs=>by
 obtain⟨e1,e2,hkl⟩:=hc.eq
 subst e1;subst e2
 obtain⟨σ,h1,h2,h3⟩:=adi h
 rw[Zu,Nat.min_eq_left hkl] at h2
 have hrep:∀i,(Array.replicate l.toArray.size false).getD i false=false:=fun i=>by
   rcases YB i l.toArray.size with h|h
   ·simp at h;simp[h]
   ·simp at h;simp[ZH,Xj,h]
 have h3':∀i o,i<k->l[i]?=some o->mQ P w0 N l.toArray objs o (σ i) (σ (i+1)):=fun i o hi ho=>h3 i o (by rw[ZQ,if_pos hi];exact ho)
 refine wp_region_any hm (zw hok (k:=k) (by simpa using hkl) htl (σ:=σ) (fun i o hi hk=>h3' i o hi (by simpa using hk)) (by simpa using h2) _ _ _ _ (by simp) (by simp[dE]) (fun i hi=>by rw[hrep] at hi;cases hi) (fun j oj _ hx=>nomatch (hrep j).symm.trans hx) ⟨hs.defers,hs.size, ?_,fun t c hc h4 h5 v hv=>?_⟩)
 ·exact hs.mem.grow ⟨hs.mem.below.os,hs.mem.below.tape,hs.mem.below.output,hs.mem.below.size,hs.mem.below.block⟩ (Zg _) (fun _ _=>rfl)
 ·have hk0:∀m,m<=c->lk t (σ m)=lk t (σ 0):=fun m=>by
    induction m with
    | zero=>intro _;rfl
    | succ m ih =>
      intro hm2
      have hml:m<l.length:=by omega
      obtain⟨d,tv,e1,_,e2,_⟩:=h3' m l[m] (by omega) (Za hml)
      rw[e2,cK,if_neg]
      ·exact ih (by omega)
      ·intro e
       have:=h4 m (by omega) (by unfold gz;simp[hml,e1,e])
       rw[hrep] at this;cases this
  rw[hk0 c (Zg _),h1 t] at hv
  have hst:kQ w objs { w with drawn:=w.drawn+1 } objs:=⟨fun _ _ _=>rfl,fun _ _ h=>h,fun _ _ _ rows _ _ h=>⟨⟨rows,h⟩,rfl⟩,Zg _,fun h=>h⟩
  exact(hs.env t v hv).step hst⟩
theorem afV {K K':Env->Prop} (hK:∀env,K env->K' env) {l:List Oper} {env:Env} (h:DR P w0 N ops objs K l env):DR P w0 N ops objs K' l env:=by
 induction h with
 | nil env h=>exact .nil _ (hK _ h)
 | run o rest env d tv hd hN hg hy _ ih=>exact .run _ _ _ _ _ hd hN hg hy ih
 | skip o rest env d hd hN hg _ ih=>exact .skip _ _ _ _ hd hN hg ih
 | know rest env t v v' hv he _ ih=>exact .know _ _ _ _ _ hv he ih
theorem aa3:∀l:List Oper,Cut l.length l l []
 | []=>.zero _
 | x::l=>.succ _ _ _ _ _ (aa3 l)
theorem dB {id:Nat} {l:List Oper} {env:Env} (hm:P.follows .mixedOrders=true) (hok:dP l.toArray=true) (h:DR P w0 N l.toArray objs (fun env'=>AQ w0 N Q .normal env' objs) l env):AW P w0 N (.region id l.toArray true) Q env objs :=
 dh l.length hm hok (List.all_eq_true.2 fun j hj=>by
   rw[Xb]
   exact .inl (Yo ▸ (by simpa using hj))) (aa3 l) (afV (fun _ hq=>⟨fun a w hs=>hq.run a w hs⟩) h)
end
section
variable {P:Program} {w0:World} {N:Nat} {Q:Exit->Act->World->Prop} {env:Env} {objs:aG} {ops:Array Oper} {rest:List Oper} {d T0:Nat} {pos:String} {af:Array Edge} {g:Option (Nat×Bool)} {K:Env->Prop}
theorem eV (h:AQ w0 N Q .normal env objs):DR P w0 N ops objs (fun env2=>AQ w0 N Q .normal env2 objs) [] env:=.nil env h
theorem dz {l2:List Oper} {ops2:Array Oper} (h:AL P w0 N ops2 Q l2 env objs):DR P w0 N ops objs (fun env2=>AL P w0 N ops2 Q l2 env2 objs) [] env:=.nil env h
structure DO (P:Program) (w0:World) (N:Nat) (ops:Array Oper) (objs:aG) (K:Env->Prop) (o:Oper) (rest:List Oper) (env:Env):Prop where
 run:ahl ops env o->DR P w0 N ops objs K (o::rest) env
theorem dC {o:Oper} (hg:o.guard=none) (h:DO P w0 N ops objs K o rest env):DR P w0 N ops objs K (o::rest) env:=h.run (.inl hg)
theorem eS {o:Oper} {j dj:Nat} {b:Bool} {v:TV} (hg:o.guard=some (j,b)) (hj:(ops[j]?).bind (·.dst)=some dj) (hv:lk dj env=some v) (he:v=.bool b) (h:DO P w0 N ops objs K o rest env):DR P w0 N ops objs K (o::rest) env:=h.run (.inr ⟨j,b,dj,hg,hj,by rw[hv,he]⟩)
theorem dx {o:Oper} {d dj j:Nat} {b c:Bool} {v:TV} (hg:o.guard=some (j,c)) (hj:(ops[j]?).bind (·.dst)=some dj) (hb:lk dj env=some v) (hv:v=.bool b) (hc:c=!b) (hd:o.dst=some d) (hN:Nat.blt d N=true) (h:DR P w0 N ops objs K rest ((d,.tup [])::env)):DR P w0 N ops objs K (o::rest) env:=.skip _ _ _ _ hd hN (.inl ⟨j,b,dj,by rw[hg,hc],hj,by rw[hb,hv]⟩) h
theorem cG {o:Oper} {d dj j:Nat} {c:Bool} {v:TV} (hg:o.guard=some (j,c)) (hj:(ops[j]?).bind (·.dst)=some dj) (hb:lk dj env=some v) (hv:v=.tup []) (hd:o.dst=some d) (hN:Nat.blt d N=true) (h:DR P w0 N ops objs K rest ((d,.tup [])::env)):DR P w0 N ops objs K (o::rest) env:=.skip _ _ _ _ hd hN (.inr ⟨j,c,dj,hg,hj,by rw[hb,hv]⟩) h
theorem bX {o:Oper} {j dj:Nat} {b:Bool} {p:Prop} {i:Decidable p} {v:TV} (_hg:o.guard=some (j,b)) (_hj:(ops[j]?).bind (·.dst)=some dj) (hv:lk dj env=some v) (he:v=.bool (@decide p i)) (ht:p->DR P w0 N ops objs K (o::rest) ((dj,.bool true)::env)) (hf:¬ p->DR P w0 N ops objs K (o::rest) ((dj,.bool false)::env)):DR P w0 N ops objs K (o::rest) env:=by
 by_cases h:p
 ·exact .know _ _ dj v _ hv (by rw[he];simp[h]) (ht h)
 ·exact .know _ _ dj v _ hv (by rw[he];simp[h]) (hf h)
theorem iH {o:Oper} {j dj:Nat} {b:Bool} {p:Prop} {i:Decidable p} {v:TV} (hg:o.guard=some (j,b)) (hj:(ops[j]?).bind (·.dst)=some dj) (hv:lk dj env=some v) (he:v=.bool (@decide p i)) (hp:p) (ht:DR P w0 N ops objs K (o::rest) ((dj,.bool true)::env)):DR P w0 N ops objs K (o::rest) env:=bX hg hj hv he (fun _=>ht) (fun h=>absurd hp h)
theorem ir {o:Oper} {j dj:Nat} {b:Bool} {p:Prop} {i:Decidable p} {v:TV} (hg:o.guard=some (j,b)) (hj:(ops[j]?).bind (·.dst)=some dj) (hv:lk dj env=some v) (he:v=.bool (@decide p i)) (hp:¬ p) (hf:DR P w0 N ops objs K (o::rest) ((dj,.bool false)::env)):DR P w0 N ops objs K (o::rest) env:=bX hg hj hv he (fun h=>absurd h hp) (fun _=>hf)
theorem bF {o:Oper} {j dj:Nat} {b c:Bool} {v:TV} (_hg:o.guard=some (j,b)) (_hj:(ops[j]?).bind (·.dst)=some dj) (hv:lk dj env=some v) (he:v=.bool c) (ht:c=true->DR P w0 N ops objs K (o::rest) ((dj,.bool true)::env)) (hf:c=false->DR P w0 N ops objs K (o::rest) ((dj,.bool false)::env)):DR P w0 N ops objs K (o::rest) env:=by
 cases c
 ·exact .know _ _ dj v _ hv he (hf rfl)
 ·exact .know _ _ dj v _ hv he (ht rfl)
theorem rz {T:TypeId} {x:Operand} {out:List TV} {f:Nat} {l:List TV} (hN:Nat.blt d N=true) (hA:agT T=true) (hT:ki P T=true) (hi:(P.info? T).isSome=true) (hs:P.cellsOf T=szT T) (hx:ev env x=some (.cp f l)) (htk:gO (szT T) (l) out) (h:DR P w0 N ops objs K rest ((d,.agg out)::env)):DO P w0 N ops objs K ⟨some d,.load T x,T0,pos,af,g⟩ rest env:=⟨fun hgr=>.run _ _ _ _ _ rfl hN hgr (gc rfl hT hi hs hx (fun _=>.cp f l) htk) h⟩
theorem sT {T:TypeId} {x:Operand} {out:List TV} {s b off:Nat} {cells:List TV} (hN:Nat.blt d N=true) (hA:agT T=true) (hT:ki P T=true) (hi:(P.info? T).isSome=true) (hs:P.cellsOf T=szT T) (hx:ev env x=some (.mp s b off)) (hm:(s,b,aV.box cells)∈objs) (htk:gO (szT T) (cells.drop off) out) (h:DR P w0 N ops objs K rest ((d,.agg out)::env)):DO P w0 N ops objs K ⟨some d,.load T x,T0,pos,af,g⟩ rest env:=⟨fun hgr=>.run _ _ _ _ _ rfl hN hgr (gc rfl hT hi hs hx (fun _=>.mp s b off cells hm) htk) h⟩
theorem rT {T:TypeId} {x:Operand} {out:List TV} {s b m j off:Nat} {rows:List (List TV)} {r0:List TV} (hN:Nat.blt d N=true) (hA:agT T=true) (hT:ki P T=true) (hi:(P.info? T).isSome=true) (hs:P.cellsOf T=szT T) (hx:ev env x=some (.me s b m j off)) (hm:(s,b,aV.row m rows)∈objs) (hr:rows[j]?=some r0) (htk:gO (szT T) (r0.drop off) out) (h:DR P w0 N ops objs K rest ((d,.agg out)::env)):DO P w0 N ops objs K ⟨some d,.load T x,T0,pos,af,g⟩ rest env:=⟨fun hgr=>.run _ _ _ _ _ rfl hN hgr (gc rfl hT hi hs hx (fun _=>.me s b m j off rows r0 hm hr) htk) h⟩
theorem ahD {T:TypeId} {n m:Nat} {ps:List (Nat×Operand)} {rows:List (List TV)} (hN:Nat.blt d N=true) (hev:evL env ps 0=some rows) (hT:P.underlying T=some (.slice (P.elem T))) (hI:(dt P (P.elem T)).isSome=true) (hs:esT T=some m) (hm:P.cellsOf (P.elem T)=m) (hm0:Nat.blt 0 m=true) (hn:rows.length=n) (hbig:Nat.ble (n * m) 16777216=true) (hall:(rows.all fun r=>Nat.beq r.length m)=true) (h:DR P w0 N ops objs K rest ((d,.sl w0.heap.size m rows)::env)):DO P w0 N ops objs K ⟨some d,.buildSlice T n ps.toArray,T0,pos,af,g⟩ rest env:=⟨fun hgr=>.run _ _ _ _ _ rfl hN hgr (aeY rfl hT hI hm hm0 hev hn hbig hall) h⟩
theorem aed {G:World->Prop} {f:Nat} {xs:List Operand} {ts:Array TypeId} {args:List TV} {r:Nat->TV} (hN:Nat.blt d N=true) (hc:gL P f=true) (hargs:bU env objs xs args) (hG:G w0) (hst:ay G) (hct:Ct P G f args r) (h:DR P w0 N ops objs K rest ((d,r w0.heap.size)::env)):DO P w0 N ops objs K ⟨some d,.call { callee:=.value (.func f),args:=xs.toArray,argTypes:=ts },T0,pos,af,g⟩ rest env:=⟨fun hgr=>.run _ _ _ _ _ rfl hN hgr (ul rfl hc hargs hct hG hst) h⟩
theorem aeL {T:TypeId} {zs:List TV} (hN:Nat.blt d N=true) (he:zT T=zs) (hz:dt P T=some zs) (h:∀ss b,AL P w0 N ops Q rest ((d,.mp ss b 0)::env) ((ss,b,.box zs)::objs)):AO P w0 N ops Q ⟨some d,.alloc T,T0,pos,af,g⟩ rest env objs:=adq rfl rfl hN hz h
theorem jn {T:TypeId} {n m:Nat} {ps:List (Nat×Operand)} {rows:List (List TV)} (hN:Nat.blt d N=true) (hev:evL env ps 0=some rows) (hT:P.underlying T=some (.slice (P.elem T))) (hI:(dt P (P.elem T)).isSome=true) (hs:esT T=some m) (hm:P.cellsOf (P.elem T)=m) (hm0:Nat.blt 0 m=true) (hn:rows.length=n) (hbig:Nat.ble (n * m) 16777216=true) (hall:(rows.all fun r=>Nat.beq r.length m)=true) (h:∀ss b,AL P w0 N ops Q rest ((d,.ms ss b 0 n)::env) ((ss,b,.row m rows)::objs)):AO P w0 N ops Q ⟨some d,.buildSlice T n ps.toArray,T0,pos,af,g⟩ rest env objs:=ag6 rfl rfl hN hT hI hm hm0 hev hn hbig hall h
theorem zC {T:TypeId} {x v:Operand} {s b off:Nat} {tv:TV} {cells vs cells2:List TV} {objs2:aG} (hx:ev env x=some (.mp s b off)) (hv:ev env v=some tv) (hc:eM tv=some vs) (hi:(P.info? T).isSome=true) (hm:(s,b,aV.box cells)∈objs) (hsp:aW cells off vs cells2) (hu:Upd (s,b,.box cells) (s,b,.box cells2) objs objs2) (hsz:P.cellsOf T=vs.length) (h:AL P w0 N ops Q rest env objs2):AO P w0 N ops Q ⟨none,.store T x v,T0,pos,af,g⟩ rest env objs:=vV rfl rfl hx hv hc hi hsz hu hsp h
theorem aad {T:TypeId} {x v:Operand} {s b m j off:Nat} {tv:TV} {vs r r2:List TV} {rows rows2:List (List TV)} {objs2:aG} (hx:ev env x=some (.me s b m j off)) (hv:ev env v=some tv) (hc:eM tv=some vs) (hi:(P.info? T).isSome=true) (hm:(s,b,aV.row m rows)∈objs) (hr:rows[j]?=some r) (hsp:aW r off vs r2) (hsz:P.cellsOf T=vs.length) (hrows:rows.set j r2=rows2) (hu:Upd (s,b,.row m rows) (s,b,.row m rows2) objs objs2) (h:AL P w0 N ops Q rest env objs2):AO P w0 N ops Q ⟨none,.store T x v,T0,pos,af,g⟩ rest env objs:=wj rfl rfl hx hv hc hi hsz hu hr hsp hrows h
theorem eD {objsOf:Nat->aG} {T s b len n m:Nat} {x y:Operand} {f:Nat} {rows rows2 news:List (List TV)} (hN:Nat.blt d N=true) (hx:ev env x=some (.ms s b 0 len)) (hy:ev env y=some (.sl f m news)) (hT:mz P T m=true) (hm:(s,b,aV.row m rows)∈objs) (hl:rows.length=len) (hn:news.length=n) (hbig:len+n<=1000000000) (hrows:rows++news=rows2) (hu:∀b2,Upd (s,b,.row m rows) (s,b2,.row m rows2) objs (objsOf b2)) (h:∀b2,AL P w0 N ops Q rest ((d,.ms s b2 0 (len+n))::env) (objsOf b2)):AO P w0 N ops Q ⟨some d,.call { callee:=.builtin .append,args:=#[x,y],argTypes:=#[T,T] },T0,pos,af,g⟩ rest env objs:=ach rfl rfl hN hx hy hT (by omega) hn hbig (by rw[<- hl,Zv];exact hrows) hu h
end
section
variable {P:Program} {w0:World} {N:Nat} {Q:Exit->Act->World->Prop} {env:Env} {objs:aG} {o:Oper}
def iY (P:Program) (T:Nat):Option (List (Nat×Nat)):=match P.underlying T with
 | some (.struct fields)=>fields.toList.mapM fun f=>(P.info? f.type).map fun i=>(f.offset,i.size)
 | _=>none
inductive TB (P:Program) (env:Env) (T:Nat):List (Nat×Operand)->List TV->List TV->Prop
 | nil (l:List TV):TB P env T [] l l
 | cons (i:Nat) (x:Operand) (r:List (Nat×Operand)) (l l1 l2:List TV) (tv:TV) (vs:List TV) (hx:ev env x=some tv) (hc:eM tv=some vs) (hs:aW l (ofT T i) vs l1) (hF:(iY P T).bind (·[i]?)=some (ofT T i,vs.length)) (hr:TB P env T r l1 l2):TB P env T ((i,x)::r) l l2
theorem aeO {w:World} {T:Nat} (a:Act) {places:List (Nat×Nat)} (hp:iY P T=some places) {ps:List (Nat×Operand)} {l l2:List TV} (h:TB P env T ps l l2):∀(cs:Array Value),cs.size=l.length->(∀(i:Nat) (t:TV) (u:Value),l[i]?=some t->cs[i]?=some u->Rep w objs t u)->(∀t∈l,t.isCell=true) ->
   (∀p∈ps,∀v,ev env p.2=some v->Rep w objs v (a.eval p.2))->∃r,Instr.fill (places.toArray[·]?) cs (ps.map fun p=>(p.1,a.eval p.2))=some r/\r.size=l2.length/\(∀(i:Nat) (t:TV) (u:Value),l2[i]?=some t->r[i]?=some u->Rep w objs t u)/\∀t∈l2,t.isCell=true:=by
 induction h with
 | nil l=>exact fun cs h1 h2 h3 _=>⟨cs,rfl,h1,h2,h3⟩
 | cons i x r l l1 l2 tv vs hx hc hs hF hr ih =>
   intro cs h1 h2 h3 hop
   obtain⟨g1,g2,g3⟩:=gF (show Rep w objs tv (a.eval x) from hop (i,x) (by simp) tv hx) hc
   obtain⟨p1,p2,p3⟩:=hs.spec
   rw[hp] at hF
   simp only[Ym] at hF
   obtain⟨f1,f2⟩:=Great.foldl_set (ofT T i) (a.eval x).cells.toList 0 cs
   have hsame:(a.eval x).cells.zipIdx.foldl (fun cs (c,j)=>cs.setIfInBounds (ofT T i+j) c) cs=((a.eval x).cells.toList.zipIdx 0).foldl (fun cs (x:Value×Nat)=>cs.setIfInBounds (ofT T i+x.2) x.1) cs:=by
     rw[<- Array.foldl_toList,Array.toList_zipIdx]
   obtain⟨r',e1,e2,e3⟩:=ih (((a.eval x).cells.toList.zipIdx 0).foldl (fun cs (x:Value×Nat)=>cs.setIfInBounds (ofT T i+x.2) x.1) cs) (by rw[f1,h1,p2]) (fun k t u ht hu=>by
     rw[f2] at hu
     rw[p3] at ht
     by_cases hin:ofT T i<=k/\k<ofT T i+vs.length
     ·rw[if_pos hin] at ht
      rw[if_pos ⟨by omega,by simp;omega,by omega⟩] at hu
      exact g2 _ t u ht (by simpa using hu)
     ·rw[if_neg hin] at ht
      rw[if_neg (by simp;omega)] at hu
      exact h2 k t u ht hu) (fun t ht=>by
     obtain⟨k,hk,rfl⟩:=ZD ht
     have h5:=p3 k
     rw[Za hk] at h5
     split at h5
     ·exact g3 _ (Zm h5.symm)
     ·exact h3 _ (Zm h5.symm)) (fun p hp=>hop p (by simp[hp]))
   refine⟨r', ?_,e2,e3⟩
   simp only[ZU,Instr.fill]
   have hpl:places.toArray[i]?=some (ofT T i,vs.length):=by simpa using hF
   rw[hpl]
   simp only
   rw[if_neg (by simp;omega),hsame]
   exact e1
theorem xE {T:TypeId} {ps:List (Nat×Operand)} {l:List TV} (ho:o.op=.build T ps.toArray) (hz:dt P T=some (zT T)) (hp:(iY P T).isSome=true) (hb:TB P env T ps (zT T) l):ba P w0 env objs o (.agg l):=aO fun a w hw hop=>by
 obtain⟨places,hp⟩:=Option.isSome_iff_exists.1 hp
 have hz0:=hz
 unfold dt at hz
 cases hi:P.info? T with
 | none=>rw[hi] at hz;cases hz
 | some it =>
 rw[hi] at hz
 simp only[Ym] at hz
 cases hzz:it.zero with
 | none=>rw[hzz] at hz;cases hz
 | some z =>
 rw[hzz] at hz
 simp only[Ym] at hz
 have htv:=lZ (w:=w) (objs:=objs) hz
 obtain⟨r,e1,e2,e3,e4⟩:=aeO (w:=w) (objs:=objs) a hp hb z.cells (by simpa using htv.1.1.symm) (fun i t u ht hu=>htv.2 i t u ht (by simpa using hu)) htv.1.2 (fun p hpm v hv=>hop p.2 (by
   simp only[ho,Op.operands,List.toList_toArray];exact List.mem_map.2 ⟨p,hpm,rfl⟩) v hv)
 refine⟨.agg r, ?_,.agg l r e4 e2.symm e3⟩
 simp only[execOp,ho]
 refine dq (run_build w T _ r ?_)
 unfold iY at hp
 unfold Program.built
 cases hu:P.underlying T with
 | none=>rw[hu] at hp;cases hp
 | some d =>
   rw[hu] at hp
   cases d <;> first|(cases hp;done)|skip
   simp only[hi,hzz,hp]
   simp only[Ys]
   exact e1
variable {ops:Array Oper} {rest:List Oper} {d T0:Nat} {pos:String} {af:Array Edge} {g:Option (Nat×Bool)}
theorem ae9 {T:TypeId} {ps:List (Nat×Operand)} {zs l:List TV} (hN:Nat.blt d N=true) (he:zT T=zs) (hb:TB P env T ps zs l) (hz:dt P T=some (zT T)) (hp:(iY P T).isSome=true) (h:AL P w0 N ops Q rest ((d,.agg l)::env) objs):AO P w0 N ops Q ⟨some d,.build T ps.toArray,T0,pos,af,g⟩ rest env objs:=wu rfl hN (xE rfl hz hp (by rw[he];exact hb)) h
end
section
variable {P:Program} {w0:World} {N:Nat} {Q:Exit->Act->World->Prop} {env:Env} {objs:aG} {o:Oper}
theorem y8 {T:TypeId} {x lo:Operand} {s b off len m:Nat} {rows:List (List TV)} {k1:IntKind} {n:Int} {i:Nat} (ho:o.op=.slice T x (some lo) none none) (hx:ev env x=some (.ms s b off len)) (hlo:ev env lo=some (.int k1 n))
   (hobj:(s,b,aV.row m rows)∈objs) (hT:P.underlying T=some (.slice (P.elem T))) (hI:(P.info? (P.elem T)).isSome=true) (hm:P.cellsOf (P.elem T)=m) (hn:n=(i:Int)) (hi:i<=len) :
   ba P w0 env objs o (.ms s b (off+i) (len - i)):=aO fun a w hw hop=>by
 have h0:=hop x (gj ho) _ hx
 have h1:=(hop lo (by simp[ho,Op.operands]) _ hlo).int_inv
 have huniq:∀m' rows',(s,b,aV.row m' rows')∈objs->m'=m:=fun m' rows' h'=>by
   have key:∀(l:aG),List.Pairwise (fun(x y:Nat×Nat×aV)=>x.1≠y.1/\(x.2.1≠y.2.1\/x.2.1=0)) l->(s,b,aV.row m rows)∈l->(s,b,aV.row m' rows')∈l->m'=m:=fun l=>by
     induction l with
     | nil=>intro _ h;simp at h
     | cons z l ih =>
       intro hp h1 h2
       obtain⟨g1,g2⟩:=List.pairwise_cons.1 hp
       rcases List.mem_cons.1 h1 with e1|h1'
       ·rcases List.mem_cons.1 h2 with e2|h2'
        ·rw[<- e1] at e2
         simp only[Zp,aV.row.injEq] at e2
         exact e2.2.2.1
        ·exact absurd (by rw[<- e1]) (g1 _ h2').1
       ·rcases List.mem_cons.1 h2 with e2|h2'
        ·exact absurd (by rw[<- e2]) (g1 _ h1').1
        ·exact ih g2 h1' h2'
   exact key objs hw.sites hobj h'
 generalize hv:a.eval x=v at h0
 cases h0 with
 | ms s b off len v h =>
   have hor:=h.or
   obtain⟨⟨hb,hmk,_⟩,_⟩:=h
   cases hie:P.info? (P.elem T) with
   | none=>rw[hie] at hI;cases hI
   | some ie =>
   rcases hor m rows hobj with ⟨e0,e1,e2,e3⟩|⟨hb0,q,c,e,nn,h2,h3,h4,h5,h6⟩
   ·subst e0;subst e1;subst e2;subst e3
    obtain rfl:i=0:=by omega
    refine⟨.slice none 0 0, ?_,.ms s 0 0 0 _ (.mk ⟨hb,hmk,none,0,by simp⟩ (fun _ _ _=>.inl ⟨rfl,rfl,rfl,rfl⟩) (fun _=>⟨rfl,rfl,rfl⟩))⟩
    simp only[execOp,ho,h1,hv,Yb,YT]
    refine dq ?_
    rw[run_sliceAt_slice w T _ _ _ _ hT,run_slice_l w T none 0 0 hT k1 n (by omega) (by omega),run_sizeOf w hie]
    subst hn
    simp[Zz,sliced]
   ·subst h2
    refine⟨.slice (if c=i then some ⟨b,q,none⟩ else some ⟨b,q+i * m,none⟩) (len - i) (c - i), ?_,.ms s b (off+i) (len - i) _ (.mk ⟨hb,hmk,_,_,rfl⟩ (fun m' rows' hm'=>.inr ⟨hb0,if c=i then q else q+i * m,c - i,e,nn, ?_,by omega,h4, ?_,fun hor=>?_⟩) (fun h0=>absurd h0 hb0))⟩
    ·simp only[execOp,ho,h1,hv,Yb,YT]
     refine dq ?_
     rw[run_sliceAt_slice w T _ _ _ _ hT,run_slice_l w T _ len c hT k1 n (by omega) (by omega),run_sizeOf w hie,hm]
     subst hn
     simp[Zz,sliced,Addr.add_lit]
    ·split <;> rfl
    ·obtain rfl:=huniq m' rows' hm'
     rw[h5];congr 1;omega
    ·obtain rfl:=huniq m' rows' hm'
     by_cases hc:c=i
     ·rw[if_pos hc]
      have:off=0:=by omega
      have h7:=h6 (.inr this)
      rw[h7];congr 1;omega
     ·rw[if_neg hc]
      have h7:=h6 (.inl (by omega))
      rw[h7,Yh]
theorem zQ {ops:Array Oper} {rest:List Oper} {d T0:Nat} {pos:String} {af:Array Edge} {g:Option (Nat×Bool)} {T:TypeId} {x lo:Operand} {s b off len m:Nat} {rows:List (List TV)} {k1:IntKind} {n:Int} {i:Nat} (hN:Nat.blt d N=true) (hx:ev env x=some (.ms s b off len)) (hlo:ev env lo=some (.int k1 n))
   (hobj:(s,b,aV.row m rows)∈objs) (hT:P.underlying T=some (.slice (P.elem T))) (hI:(P.info? (P.elem T)).isSome=true) (hm:P.cellsOf (P.elem T)=m) (hn:n=(i:Int)) (hi:i<=len) (h:AL P w0 N ops Q rest ((d,.ms s b (off+i) (len - i))::env) objs) :
   AO P w0 N ops Q ⟨some d,.slice T x (some lo) none none,T0,pos,af,g⟩ rest env objs:=wu rfl hN (y8 rfl hx hlo hobj hT hI hm hn hi) h
theorem x9 {zs:List TV} {m:Nat} (hm:zs.length=m) (hm0:0<m):∀(n j:Nat) (t:TV),(List.replicate n zs).flatten[j]?=some t->j<n * m/\zs[j % m]?=some t
 | 0,j,t,h=>by simp at h
 | n+1,j,t,h=>by
   rw[Z8,Yk] at h
   by_cases hj:j<m
   ·rw[Zs (by omega)] at h
    rw[Nat.mod_eq_of_lt hj]
    refine⟨?_,h⟩
    rw[Xf];omega
   ·rw[Zr (by omega),hm] at h
    obtain⟨h1,h2⟩:=x9 hm hm0 n (j - m) t h
    refine⟨by rw[Xf];omega, ?_⟩
    rw[Nat.mod_eq_sub_mod (by omega)];exact h2
def aff (P:Program) (T m:Nat):Bool:=match P.info? (P.elem T) with
 | some i=>Nat.beq i.size m && Nat.ble i.bytes 1024
 | none=>false
theorem afO {ops:Array Oper} {rest:List Oper} {d:Nat} {T:TypeId} {x:Operand} {k:IntKind} {mi:Int} {n m:Nat} {zs:List TV} (ho:o.op=.makeSlice T x x) (hd:o.dst=some d) (hN:Nat.blt d N=true) (hx:ev env x=some (.int k mi)) (hn:mi=(n:Int))
   (hT:P.underlying T=some (.slice (P.elem T))) (hz:dt P (P.elem T)=some zs) (hm:zs.length=m) (hm0:Nat.blt 0 m=true) (hB:aff P T m=true) (hbig:n<=1000000000)
   (h:∀ss b,AL P w0 N ops Q rest ((d,.ms ss b 0 n)::env) ((ss,b,.row m (List.replicate n zs))::objs)):AO P w0 N ops Q o rest env objs:=⟨fun a w K hs hK=>by
   obtain⟨ss,hf⟩:=ff objs
   have hm0':0<m:=Yo ▸ hm0
   have hv:=(fU hs hx).int_inv
   unfold dt at hz
   cases hie:P.info? (P.elem T) with
   | none=>rw[hie] at hz;cases hz
   | some i =>
   rw[hie] at hz
   simp only[Ym] at hz
   cases hzz:i.zero with
   | none=>rw[hzz] at hz;cases hz
   | some z =>
   rw[hzz] at hz
   simp only[Ym] at hz
   have hB':i.size=m/\i.bytes<=1024:=by
     unfold aff at hB
     rw[hie] at hB
     simp only[Zq] at hB
     exact⟨Yi hB.1,Ya hB.2⟩
   have hrep:=fun(w:World) (objs:aG)=>lZ (w:=w) (objs:=objs) hz
   have hzl:z.cells.size=m:=by
     have:=(hrep w []).1.1
     rw[<- hm,this];simp
   have hbytes:(i.bytes:Int) * (n:Int)<=281474976710656:=by
     have h1:i.bytes * n<=1024 * 1000000000:=Xw hB'.2 hbig
     have h2:((i.bytes * n:Nat):Int)<=((1024 * 1000000000:Nat):Int):=Int.ofNat_le.2 h1
     rw[Int.natCast_mul] at h2
     omega
   have hst:=fun cs=>ib hs.mem cs (P.elem T) ss (.row m (List.replicate n zs))
   have hrun:(execOp a.eval o).run P w=.ok (.value (.slice (some ⟨w.heap.size,0,none⟩) n n)) (w.alloc (.cells (madeCells z.cells (n * m)) (P.elem T))):=by
     simp only[execOp,ho,hv,hn]
     refine dq ?_
     rw[run_make w T (P.elem T) i z hT hie hzz k k (n:Int) (n:Int) (by omega) (by omega) hbytes (by omega),hB'.1]
     simp
   unfold Oper.wp
   rw[hrun]
   refine hK _ _ ?_
   rw[hd]
   have hb0:w.heap.size≠0:=Xi (ZJ hs.mem.pos hs.mem.below.size)
   have hcs:(madeCells z.cells (n * m)).size=n * m:=size_madeCells _ _
   refine(h ss w.heap.size).run _ _ (hs.putNew hN (.ms _ _ _ _ _ (.mk ⟨by simp,ga hs.mem #[] 0 ss _,_,_,rfl⟩ (fun m' rows' hm'=>.inr ⟨hb0,0,n,P.elem T,n * m,rfl,Zg _,by unfold World.shape?;rw[heap_alloc_new];simp[hcs], ?_,fun _=>by simp⟩) (fun h0=>absurd h0 hb0))) (hs.mem.newObj hf ⟨⟨hm0',fun t ht=>?_⟩,fun r hr=>by rw[Yx hr];exact hm,.inr ⟨hs.mem.below.size,madeCells z.cells (n * m),P.elem T,n,heap_alloc_new w _,hcs,by simp,by simp only[maxLen];omega,fun j t hj=>?_⟩⟩) (hst _))
   ·rcases List.mem_cons.1 hm' with he|hm'
    ·simp only[Zp,aV.row.injEq] at he;rw[he.2.2.1];simp
    ·exact absurd (dV hs.mem hm') (YK _)
   ·obtain⟨r,hr,htr⟩:=List.mem_flatten.1 ht
    rw[Yx hr] at htr
    exact(hrep w []).1.2 t htr
   ·obtain⟨h1,h2⟩:=x9 hm hm0' n j t hj
    have hjm:j % m<z.cells.size:=by rw[hzl];exact Nat.mod_lt _ hm0'
    refine⟨z.cells[j % m], ?_,(hrep _ _).2 (j % m) t _ h2 (by simp[hjm])⟩
    unfold madeCells
    rw[Array.getElem?_map,Array.getElem?_range]
    simp[h1,hzl]
    exact getElem!_pos z.cells (j % m) hjm⟩
theorem af3 {ops:Array Oper} {rest:List Oper} {d T0:Nat} {pos:String} {af:Array Edge} {g:Option (Nat×Bool)} {T:TypeId} {x:Operand} {k:IntKind} {mi:Int} {n m:Nat} {zs:List TV} (hN:Nat.blt d N=true) (hx:ev env x=some (.int k mi)) (he:ezT T=zs) (hn:mi=(n:Int))
   (hT:P.underlying T=some (.slice (P.elem T))) (hz:dt P (P.elem T)=some zs) (hm:zs.length=m) (hm0:Nat.blt 0 m=true) (hB:aff P T m=true) (hbig:n<=1000000000)
   (h:∀ss b,AL P w0 N ops Q rest ((d,.ms ss b 0 n)::env) ((ss,b,.row m (List.replicate n zs))::objs)):AO P w0 N ops Q ⟨some d,.makeSlice T x x,T0,pos,af,g⟩ rest env objs:=afO rfl rfl hN hx hn hT hz hm hm0 hB hbig h
end
section
variable {P:Program} {w0:World} {N:Nat} {Q:Exit->Act->World->Prop} {env:Env} {objs objs':aG}
theorem Sim.pick {a:Act} {w:World} (h:Sim w0 N env objs a w) (k:bS objs' objs):Sim w0 N env objs' a w:=h.weak ⟨fun _ _ h=>h,k⟩
theorem lY {x:Exit} (k:bS objs' objs) (h:AQ w0 N Q x env objs'):AQ w0 N Q x env objs:=⟨fun a w hs=>h.run a w (hs.pick k)⟩
theorem aR {c:Code} (k:bS objs' objs) (h:AW P w0 N c Q env objs'):AW P w0 N c Q env objs:=⟨fun a w hs=>h.run a w (hs.pick k)⟩
theorem cL {ops:Array Oper} {rest:List Oper} (k:bS objs' objs) (h:AL P w0 N ops Q rest env objs'):AL P w0 N ops Q rest env objs:=⟨fun a w hs=>h.run a w (hs.pick k)⟩
theorem bV {ops:Array Oper} {rest:List Oper} (k:objs=objs') (h:AL P w0 N ops Q rest env objs'):AL P w0 N ops Q rest env objs:=k ▸ h
structure ahY (p:Prop):Prop where
 go:p
theorem uI {id:Nat} {ops:Array Oper} {b:Bool} {y:Code} (h:ahY (AW P w0 N (.seq (.region id ops b) y) Q env objs)):AW P w0 N (.seq (.region id ops b) y) Q env objs:=h.go
theorem bT {ops:Array Oper} {rest:List Oper} {l:aG} (h:AL P w0 N ops Q rest env l):AL P w0 N ops Q rest env ([]++l):=h
theorem bO {ops:Array Oper} {rest:List Oper} {x:Nat×Nat×aV} {l:aG} (h:AL P w0 N ops Q rest env (x::l)):AL P w0 N ops Q rest env ([x]++l):=h
theorem fM {ops:Array Oper} {rest:List Oper} {x y:Nat×Nat×aV} {l:aG} (h:AL P w0 N ops Q rest env (x::y::l)):AL P w0 N ops Q rest env ([x,y]++l):=h
theorem aai {objsOf:Nat->List (List TV)->aG} {ops:Array Oper} {rest:List Oper} {d T0:Nat} {pos:String} {af:Array Edge} {g:Option (Nat×Bool)} {T s b off len n m:Nat} {x y:Operand} {f:Nat} {rows live news:List (List TV)} (hN:Nat.blt d N=true) (hx:ev env x=some (.ms s b off len)) (hy:ev env y=some (.sl f m news)) (hT:mz P T m=true) (hm:(s,b,aV.row m rows)∈objs)
   (hlive:(rows.drop off).take len=live) (hl:off+len<=rows.length) (hn:news.length=n) (hbig:len+n<=1000000000) (hu:∀b2 pre,Upd (s,b,.row m rows) (s,b2,.row m (pre++(live++news))) objs (objsOf b2 pre)) (h:∀b2 pre,AL P w0 N ops Q rest ((d,.ms s b2 pre.length (len+n))::env) (objsOf b2 pre)) :
   AO P w0 N ops Q ⟨some d,.call { callee:=.builtin .append,args:=#[x,y],argTypes:=#[T,T] },T0,pos,af,g⟩ rest env objs:=xo rfl rfl hN hx hy hT hl hn hbig hlive hu fun b2 pre _=>h b2 pre
inductive j9 (env:Env):List Nat->Env->Prop
 | nil:j9 env [] []
 | cons (t:Nat) (v:TV) (l:List Nat) (e:Env) (h:lk t env=some v) (hr:j9 env l e):j9 env (t::l) ((t,v)::e)
theorem j9.weak {l:List Nat} {e:Env} (h:j9 env l e):∀t v,lk t e=some v->lk t env=some v:=by
 induction h with
 | nil=>exact cW.envNil
 | cons t v l e h hr ih=>exact cW.envCons h ih
theorem abX {t:Nat}:∀{e1 e2:Env} {v:TV},lk t (e1++e2)=some v->lk t e1=some v\/lk t e2=some v
 | [],_,_,h=>.inr h
 | (s,u)::r,e2,v,h=>by
   rw[ZF,cK] at h
   rw[cK]
   split at h
   ·rename_i e;rw[if_pos e];exact .inl h
   ·rename_i e;rw[if_neg e];exact abX h
theorem cW.of (new:Env) {e1:Env} (h1:∀t v,lk t new=some v->lk t env=some v) (h2:∀t v,lk t e1=some v->lk t env=some v) (hp:bS objs' objs):cW env objs (new++e1) objs' :=
 ⟨fun t v h=>(abX h).elim (h1 t v) (h2 t v),hp⟩
theorem ap {X:Type} {body:Code} (keep:List Nat) (new:X->Env) (O:X->aG) (I:X->Prop) (μ:X->Nat) (x0:X) (h0:I x0) {e1:Env} (hk:j9 env keep e1) (hw:∀t v,lk t (new x0)=some v->lk t env=some v) (hp:bS (O x0) objs)
   (round:∀x,I x->AW P w0 N body (Exit.then (ah7 w0 N (fun x=>new x++e1) O I μ (μ x)) Q) (new x++e1) (O x)):AW P w0 N (.loop body) Q env objs :=
 aeR (fun x=>new x++e1) O I μ x0 h0 (.of _ hw hk.weak hp) round
theorem tU {id:Nat} {c:Code} (h:ahY (AW P w0 N (.block id c) Q env objs)):AW P w0 N (.block id c) Q env objs:=h.go
theorem gq {X:Type} {x z:Code} (keep:List Nat) (new:X->Env) (O:X->aG) (I:X->Prop) {e1:Env} (hk:j9 env keep e1) (h1:AW P w0 N x (Exit.then (ais w0 N (fun x=>new x++e1) O I) Q) env objs) (h2:∀y,I y->AW P w0 N z Q (new y++e1) (O y)):AW P w0 N x (Exit.then (z.wp P Q) Q) env objs:=⟨fun a w hs=>by
 have _:=hk
 refine wp_mono (h1.run a w hs) fun e a' w' hq=>?_
 cases e with
 | normal =>
   obtain⟨y,hy,hs'⟩:=hq
   exact(h2 y hy).run a' w' hs'
 | exit id=>exact hq
 | goto l=>exact hq
 | ret=>exact hq
 | panic c=>exact hq
 | outgrown=>exact hq⟩
theorem aid {t:Nat} {env:Env} {s b off m n:Nat} (h:lk t env=some (.ms s b off m)) (e:m=n):lk t env=some (.ms s b off n):=e ▸ h
theorem agH {t:Nat} {env:Env} {s b off m off' n:Nat} (h:lk t env=some (.ms s b off m)) (e0:off=off') (e:m=n):lk t env=some (.ms s b off' n):=e0 ▸ e ▸ h
inductive yQ (s b:Nat) (o:aV):aG->aG->Prop
 | head (l:aG):yQ s b o ((s,b,o)::l) l
 | tail (s' b':Nat) (o':aV) (l l':aG) (h:yQ s b o l l'):yQ s b o ((s',b',o')::l) ((s',b',o')::l')
theorem yQ.del {s b:Nat} {o:aV} {l l':aG} (h:yQ s b o l l'):Del (s,b,o) l l':=by
 induction h with
 | head l=>exact .head l
 | tail s' b' o' l l' h ih=>exact .tail _ _ _ ih
theorem bS.consE {s b:Nat} {o o':aV} {l l1 objs:aG} (hd:yQ s b o' objs l1) (h:o=o') (k:bS l l1):bS ((s,b,o)::l) objs:=h ▸ .cons hd.del k
theorem xW (w:World) (ss m:Nat) (hm:0<m):kQ w objs w ((ss,0,.row m [])::objs) :=
 ⟨fun _ _ _=>rfl,fun b _ ha=>⟨ha.1,by
   obtain⟨h0,s,o,hm⟩:=ha
   rcases List.mem_cons.1 hm with he|hm
   ·simp only[Zp] at he;omega
   ·exact⟨s,o,hm⟩⟩,fun s b m' rows _ hb hm'=>by
   rcases List.mem_cons.1 hm' with he|hm'
   ·simp only[Zp] at he;omega
   ·exact⟨⟨rows,hm'⟩,rfl⟩,Zg _,fun hk=>by
   rcases List.mem_cons.1 hk with he|hk
   ·simp only[dr,Zp,aV.row.injEq] at he;omega
   ·exact hk⟩
theorem eo.nil {w:World} (hw:eo w0 objs w) {ss m:Nat} (hm:0<m) (hs:∀x∈objs,x.1≠ss):eo w0 ((ss,0,.row m [])::objs) w :=
 ⟨hw.below,hw.pos,fun s b o h=>by
   rcases List.mem_cons.1 h with he|h
   ·simp only[Zp] at he
    obtain⟨rfl,rfl,rfl⟩:=he
    exact⟨⟨hm,by simp⟩,by simp,.inl ⟨rfl,rfl⟩⟩
   ·exact(hw.obj s b o h).step (xW w ss m hm) rfl,List.pairwise_cons.2 ⟨fun y hy=>⟨(hs y hy).symm,.inr rfl⟩,hw.sites⟩⟩
theorem Sim.nil {a:Act} {w:World} (h:Sim w0 N env objs a w) {t:Nat} (m:Nat) (hm:0<m) (ht:lk t env=some .nils):∃ss,Sim w0 N ((t,.ms ss 0 0 0)::env) ((ss,0,.row m [])::objs) a w:=by
 obtain⟨ss,hss⟩:=ff objs
 have hpos:0<w.heap.size:=ZJ h.mem.pos h.mem.below.size
 have hw:=h.mem.nil hm hss
 refine⟨ss,h.defers,h.size,hw,fun t' v hv=>?_⟩
 rw[cK] at hv
 split at hv
 ·rename_i e
  subst e
  simp only[Zo] at hv
  subst hv
  have h1:=h.env _ _ ht
  generalize a.tmps.getD t undef=u at h1
  cases h1
  exact .ms ss 0 0 0 _ (.mk ⟨hpos,hw.noMark,none,0,rfl⟩ (fun _ _ _=>.inl ⟨rfl,rfl,rfl,rfl⟩) fun _=>⟨rfl,rfl,rfl⟩)
 ·exact(h.env t' v hv).step (xW w ss m hm)
theorem eG {x:Exit} (t m:Nat) (hm:0<m) (ht:lk t env=some .nils) (h:∀ss,AQ w0 N Q x ((t,.ms ss 0 0 0)::env) ((ss,0,.row m [])::objs)):AQ w0 N Q x env objs:=⟨fun a w hs=>by
 obtain⟨ss,h1⟩:=hs.nil m hm ht
 exact(h ss).run a w h1⟩
end
def CtM (P:Program) (G:World->Prop) (f:FuncId) (args:List TV) (objs:aG) {Y:Type} (I:Y->Prop) (O:Y->aG) (r:Y->TV):Prop :=
 ∀(w0 w:World) (R:aG) (gs:List (TV×Value)) (vs:Array Value),G w0->eo w0 (objs++R) w->Rep w (objs++R) (.gh gs) undef->vs.size=args.length->(∀(i:Nat) (t:TV) (v:Value),args[i]?=some t->vs[i]?=some v->Rep w (objs++R) t v) ->
   Calls P f vs w fun e w'=>∃v y,e=.returned v/\I y/\eo w0 (O y++R) w'/\Rep w' (O y++R) (.gh gs) undef/\Rep w' (O y++R) (r y) v
inductive vL:aG->aG->aG->Prop
 | nil (R:aG):vL [] R R
 | cons (x:Nat×Nat×aV) (l R l':aG) (h:vL l R l'):vL (x::l) R (x::l')
 | app (l R:aG):vL l R (l++R)
theorem vL.eq {l R l':aG} (h:vL l R l'):l++R=l':=by
 induction h with
 | nil R=>rfl
 | cons x l R l' h ih=>rw[ZF,ih]
 | app l R=>rfl
theorem vL.inv0 {R l:aG} (h:vL [] R l):R=l:=h.eq
theorem vL.inv1 {x:Nat×Nat×aV} {R l:aG} (h:vL [x] R l):l=x::R:=h.eq.symm
def af0 (w0:World) (R:aG) (gs:List (TV×Value)) {Y:Type} (I:Y->Prop) (O:Y->aG) (r:Y->TV):Ending->World->Prop:=fun e w' =>
 ∃v y,e=.returned v/\I y/\eo w0 (O y++R) w'/\Rep w' (O y++R) (.gh gs) undef/\Rep w' (O y++R) (r y) v
theorem au {P:Program} {G:World->Prop} {f:FuncId} {fn:Func} {c:Code} {args:List TV} {objs:aG} {Y:Type} {I:Y->Prop} {O:Y->aG} {r:Y->TV} {N:Nat} {env:Env} (hf:P.funcs[f]?=some fn) (hb:fn.body=some c) (hn:fn.ntmps=N) (hN:Nat.ble args.length N=true) (hN2:Nat.ble N 1000000=true) (he:qW 0 args=env)
   (h:∀w0 R gs objsR,G w0->vL objs R objsR->AW P w0 N c (bodyPost P fn (af0 w0 R gs I O r)) (env++[(1000000,.gh gs)]) objsR):CtM P G f args objs I O r:=fun w0 w R gs vs hG hw hgs hsz hrep=>by
 have hN:=Ya hN
 have hN2:=Ya hN2
 subst he
 refine calls_of_wp hf hb ((h w0 R gs (objs++R) hG (.app _ _)).run _ w ⟨rfl, ?_,hw,fun t v hv=>?_⟩)
 ·simp[hn,hsz];omega
 ·rcases abX hv with hv|hv
  ·obtain⟨_,h2⟩:=pJ hv
   rw[Nat.sub_zero] at h2
   have hlt:t<vs.size:=by rw[hsz];exact(List.getElem?_eq_some_iff.1 h2).1
   have:(vs++Array.replicate (fn.ntmps - vs.size) undef).getD t undef=vs[t]:=by simp[Yp hlt,hlt]
   rw[this]
   exact hrep t v _ h2 (by simp[hlt])
  ·rw[cK] at hv
   split at hv
   ·simp only[Zo] at hv
    subst hv
    cases hgs with
    | gh l v h=>exact .gh gs _ h
   ·simp[lk] at hv
section
variable {P:Program} {w0:World} {N:Nat} {Q:Exit->Act->World->Prop} {env:Env} {objs objs':aG} {o:Oper}
theorem sq {fn:Func} {R:aG} {gs:List (TV×Value)} {Y:Type} {I:Y->Prop} {O:Y->aG} {r:Y->TV} {x:Exit} (hx:x=.normal\/x=.ret) {a:Act} {w:World} (hs:Sim w0 N env objs a w) (y:Y) (hI:I y) (hg:lk 1000000 env=some (.gh gs)) (hp:bS (O y++R) objs) {v:Value} (hr:(results fn a.tmps).run P w=.ok v w) (hv:Rep w objs (r y) v):bodyPost P fn (af0 w0 R gs I O r) x a w:=by
 have h1:af0 w0 R gs I O r (.returned v) w:=by
   have h2:=hs.env _ _ hg
   refine⟨v,y,rfl,hI,hs.mem.sub hp, ?_,hv.step (jc hp w)⟩
   generalize a.tmps.getD 1000000 undef=u at h2
   cases h2 with
   | gh l v h=>exact .gh gs _ fun i t u hi=>(h i t u hi).step (jc hp w)
 rcases hx with rfl|rfl
 ·exact⟨hs.defers,v,hr,h1⟩
 ·exact⟨hs.defers,v,hr,h1⟩
section
variable {fn:Func} {R:aG} {gs:List (TV×Value)} {Y:Type} {I:Y->Prop} {O:Y->aG} {r:Y->TV} {x:Exit}
theorem aZ (hx:x=.normal\/x=.ret) (hres:fn.results=#[]) (y:Y) (hI:I y) (hg:lk 1000000 env=some (.gh gs)) {l:aG} (ho:vL (O y) R l) (hp:bS l objs) (hr:r y=.tup []):AQ w0 N (bodyPost P fn (af0 w0 R gs I O r)) x env objs:=⟨fun a w hs=>by
 refine sq hx hs y hI hg (ho.eq ▸ hp) (v:=.tuple #[]) ?_ (by rw[hr];exact .tup [] #[] rfl (by simp))
 have:results fn a.tmps=(#[].mapM (rL a.tmps)) >>= fun vs=>pure (if h:vs.size=1 then vs[0] else .tuple vs):=by rw[<- hres];rfl
 rw[this]
 simp[ZE,Sem.run_pure]⟩
theorem aw {r1:ResultVar} {t1:TV} (hx:x=.normal\/x=.ret) (hres:fn.results=#[r1]) (y:Y) (hI:I y) (hg:lk 1000000 env=some (.gh gs)) {l:aG} (ho:vL (O y) R l) (hp:bS l objs) (h1:RV P env objs r1 t1) (hr:r y=t1):AQ w0 N (bodyPost P fn (af0 w0 R gs I O r)) x env objs:=⟨fun a w hs=>by
 obtain⟨v1,e1,g1⟩:=kY hs h1
 refine sq hx hs y hI hg (ho.eq ▸ hp) (v:=v1) ?_ (by rw[hr];exact g1)
 have:results fn a.tmps=(#[r1].mapM (rL a.tmps)) >>= fun vs=>pure (if h:vs.size=1 then vs[0] else .tuple vs):=by rw[<- hres];rfl
 rw[this]
 simp[ZE,e1,Sem.run_pure]⟩
theorem cr {r1 r2:ResultVar} {t1 t2:TV} (hx:x=.normal\/x=.ret) (hres:fn.results=#[r1,r2]) (y:Y) (hI:I y) (hg:lk 1000000 env=some (.gh gs)) {l:aG} (ho:vL (O y) R l) (hp:bS l objs) (h1:RV P env objs r1 t1) (h2:RV P env objs r2 t2) (hr:r y=.tup [t1,t2]):AQ w0 N (bodyPost P fn (af0 w0 R gs I O r)) x env objs:=⟨fun a w hs=>by
 obtain⟨v1,e1,g1⟩:=kY hs h1
 obtain⟨v2,e2,g2⟩:=kY hs h2
 refine sq hx hs y hI hg (ho.eq ▸ hp) (v:=.tuple #[v1,v2]) ?_ (by rw[hr];exact yA g1 g2)
 have:results fn a.tmps=(#[r1,r2].mapM (rL a.tmps)) >>= fun vs=>pure (if h:vs.size=1 then vs[0] else .tuple vs):=by rw[<- hres];rfl
 rw[this]
 simp[ZE,e1,e2,Sem.run_pure]⟩
end
inductive az (env:Env):List Operand->List TV->Prop
 | nil:az env [] []
 | cons (x:Operand) (xs:List Operand) (t:TV) (ts:List TV) (h:ev env x=some t) (hr:az env xs ts):az env (x::xs) (t::ts)
theorem tP {w:World} {a:Act} {xs:List Operand} {ts:List TV} (h:az env xs ts) (hop:∀x∈xs,∀v,ev env x=some v->Rep w objs v (a.eval x)):(xs.map a.eval).length=ts.length/\∀(i:Nat) (t:TV) (v:Value),ts[i]?=some t->(xs.map a.eval)[i]?=some v->Rep w objs t v:=by
 induction h with
 | nil=>simp
 | cons x xs t ts h hr ih =>
   obtain⟨h1,h2⟩:=ih (fun y hy=>hop y (by simp[hy]))
   refine⟨by simpa using h1,fun i u v hu hv'=>?_⟩
   cases i with
   | zero=>simp at hu hv';subst hu;subst hv';exact hop x (by simp) t h
   | succ i=>exact h2 i u v (by simpa using hu) (by simpa using hv')
def tY (env:Env) (a:Act):List (TV×Value):=env.map fun p=>((lk p.1 env).getD .top,a.tmps.getD p.1 undef)
theorem aec {t:Nat}:∀{env:Env} {v:TV},lk t env=some v->∃u,(t,u)∈env
 | [],_,h=>by simp[lk] at h
 | (s,u)::r,v,h=>by
   rw[cK] at h
   split at h
   ·rename_i e;subst e;exact⟨u,Zi⟩
   ·obtain⟨u',h'⟩:=aec h;exact⟨u',Zd _ h'⟩
theorem aen {t:Nat}:∀{env:Env} {u:TV},(t,u)∈env->∃v,lk t env=some v
 | [],_,h=>by simp at h
 | (s,u)::r,u',h=>by
   rw[cK]
   by_cases e:s=t
   ·exact⟨u,by rw[if_pos e]⟩
   ·rw[if_neg e]
    rcases List.mem_cons.1 h with he|h
    ·simp only[Zp] at he;exact absurd he.1.symm e
    ·exact aen h
theorem z7 {a:Act} {w:World} (hs:Sim w0 N env objs a w):Rep w objs (.gh (tY env a)) undef:=.gh _ _ fun i t u hi=>by
 unfold tY at hi
 rw[Zj] at hi
 obtain⟨p,hp,he⟩:=Option.map_eq_some_iff.1 hi
 simp only[Zp] at he
 obtain⟨v,hv⟩:=aen (Zm hp)
 rw[hv,Yn] at he
 rw[<- he.1,<- he.2]
 exact hs.env _ _ hv
theorem zz {a:Act} {w':World} (h:Rep w' objs' (.gh (tY env a)) undef):∀t v,lk t env=some v->Rep w' objs' v (a.tmps.getD t undef):=fun t v hv=>by
 obtain⟨u,hu⟩:=aec hv
 obtain⟨i,hi,he⟩:=ZD hu
 cases h with
 | gh l v' h =>
   refine h i v _ ?_
   unfold tY
   rw[Zj,Za hi,Yb,he]
   simp[hv]
theorem adg {G:World->Prop} {ops:Array Oper} {rest:List Oper} {f:Nat} {xs:List Operand} {ts:Array TypeId} {args:List TV} {objsC R:aG} {Y:Type} {I:Y->Prop} {O:Y->aG} {r:Y->TV} (ho:o.op=.call { callee:=.value (.func f),args:=xs.toArray,argTypes:=ts }) (hc:gL P f=true) (hargs:az env xs args)
   (hct:CtM P G f args objsC I O r) (hG:G w0) (hap:vL objsC R objs) (hpk:∀y,I y->∀v w' a,Sim w0 N env (O y++R) a w'->Rep w' (O y++R) (r y) v->wpList P ops Q rest (a.put o.dst v) w'):AO P w0 N ops Q o rest env objs:=⟨fun a w K hs hK=>by
 have heq:=hap.eq
 subst heq
 obtain⟨h1,h2⟩:=tP (objs:=objsC++R) (w:=w) (a:=a) hargs (fun x _ v hv=>fU hs hv)
 unfold Oper.wp
 rw[jB ho hc]
 refine(hct w0 w R (tY env a) (xs.map a.eval).toArray hG hs.mem (z7 hs) (by simpa using h1) (fun i t v ht hv=>h2 i t v ht (by simpa using hv))).mono ?_
 rintro e w' ⟨v,y,rfl,hI,hw',hg,hr⟩
 exact hK _ _ (hpk y hI v w' a ⟨hs.defers,hs.size,hw',zz hg⟩ hr)⟩
theorem ab5 {a:Act} {w':World} (hs:Sim w0 N env objs a w') {d:Nat} (hd:Nat.blt d N=true) {tv:TV} {v:Value} (hr:Rep w' objs tv v):Sim w0 N ((d,tv)::env) objs (a.put (some d) v) w':=hs.putNew hd hr hs.mem (jt _ _)
theorem aA {G:World->Prop} {ops:Array Oper} {rest:List Oper} {d T0:Nat} {pos:String} {af:Array Edge} {g:Option (Nat×Bool)} {f:Nat} {xs:List Operand} {ts:Array TypeId} {args:List TV} {objsC R:aG} {Y:Type} {I:Y->Prop} {O:Y->aG} {r:Y->TV} (hN:Nat.blt d N=true) (hc:gL P f=true) (hargs:az env xs args)
   (hG:G w0) (hct:CtM P G f args objsC I O r) (hap:vL objsC R objs) (h:∀y,I y->AL P w0 N ops Q rest ((d,r y)::env) (O y++R)):AO P w0 N ops Q ⟨some d,.call { callee:=.value (.func f),args:=xs.toArray,argTypes:=ts },T0,pos,af,g⟩ rest env objs :=
 adg rfl hc hargs hct hG hap fun y hI v w' a hs hr=>(h y hI).run _ _ (ab5 hs hN hr)
end
inductive dY (objs:aG):TV->Prop
 | flat (t:TV) (h:t.flat=true):dY objs t
 | nils:dY objs .nils
 | ms (s b off len m:Nat) (rows:List (List TV)) (hm:(s,b,aV.row m rows)∈objs):dY objs (.ms s b off len)
 | agg (l:List TV) (h:∀t∈l,dY objs t):dY objs (.agg l)
 | tup (l:List TV) (h:∀t∈l,dY objs t):dY objs (.tup l)
def cE (objs:aG):aV->Prop
 | .row _ rows=>∀t∈rows.flatten,dY objs t
 | .box cells=>∀t∈cells,dY objs t
 | .void=>False
 | .iter _ _=>False
def nB (objs:aG):aG:=objs.map fun x=>(x.1,0,aV.void)
theorem k7 {objs:aG} {x:Nat×Nat×aV} (h:x∈nB objs):∃y∈objs,x=(y.1,0,aV.void):=by
 obtain⟨y,hy,rfl⟩:=List.mem_map.1 h
 exact⟨y,hy,rfl⟩
theorem xd {objs:aG} (h:List.Pairwise fL objs):List.Pairwise fL (nB objs):=by
 unfold nB
 rw[List.pairwise_map]
 exact h.imp fun h=>⟨h.1,.inr rfl⟩
section
variable {P:Program} {w0:World} {N:Nat} {Q:Exit->Act->World->Prop} {env:Env} {objs objs':aG} {o:Oper}
theorem q6 (w:World) (l:aG):kQ w [] w (nB l) :=
 ⟨fun _ _ _=>rfl,fun b _ ha=>by
   obtain⟨h0,s,o,hm⟩:=ha
   obtain⟨y,_,he⟩:=k7 hm
   simp only[Zp] at he
   exact absurd he.2.1 h0,fun s b m rows _ hb hm=>by
   obtain⟨y,_,he⟩:=k7 hm
   simp only[Zp] at he
   exact absurd he.2.1 hb,Zg _,fun hk=>by
   obtain⟨y,_,he⟩:=k7 hk
   simp[dr] at he⟩
theorem qZ {w:World} (hw:eo w0 objs w):eo w (nB objs) w :=
 ⟨Below.refl _ _,ZJ hw.pos hw.below.size,fun s b o hm=>by
   obtain⟨y,_,he⟩:=k7 hm
   simp only[Zp] at he
   obtain⟨rfl,rfl,rfl⟩:=he
   rfl,xd hw.sites⟩
theorem ac4 {w:World} {objs objs':aG} {t:TV} {v:Value} (hf:t.flat=true) (h:Rep w objs t v):Rep w objs' t v:=by
 cases h with
 | int k n=>exact .int k n
 | bool b=>exact .bool b
 | str s=>exact .str s
 | nilp=>exact .nilp
 | nilf=>exact .nilf
 | _=>cases hf
theorem lG {w w':World} {O:aG} (hD:eo w (O++nB objs) w') (hO:∀s b o,(s,b,o)∈O->cE O o) {s b:Nat} {o:aV} (hm:(s,b,o)∈O):b=0\/w.heap.size<=b:=by
 have h1:=hD.obj s b o (Zw _ hm)
 have h2:=hO s b o hm
 cases o with
 | row m rows=>exact h1.2.2.imp (fun h=>h.1) (fun h=>h.1)
 | box cells=>exact .inr h1.1.1
 | void=>exact absurd h2 id
 | iter _ _=>exact absurd h2 id
theorem sG {w w':World} {O:aG} (hw:eo w0 objs w) (hD:eo w (O++nB objs) w') (hO:∀s b o,(s,b,o)∈O->cE O o) {t:TV} {v:Value} (hn:dY O t) (h:Rep w' (O++nB objs) t v):Rep w' (O++objs) t v:=by
 induction hn generalizing v with
 | flat t hf=>exact ac4 hf h
 | nils=>cases h;exact .nils
 | ms s b off len m rows hm =>
   cases h with
   | ms _ _ _ _ _ h =>
     obtain⟨⟨h1,h2,h3⟩,h4,h5⟩:=h
     refine .ms _ _ _ _ _ ⟨⟨h1,fun hk=>?_,h3⟩,h4,fun m' rows' hb hm'=>?_⟩
     ·rcases List.mem_append.1 hk with hk|hk
      ·exact h2 (Zw _ hk)
      ·exact hw.noMark hk
     ·rcases List.mem_append.1 hm' with hm'|hm'
      ·exact h5 m' rows' hb (Zw _ hm')
      ·have:=dV hw hm'
       rcases lG hD hO hm with e|e
       ·exact absurd e hb
       ·omega
 | agg l hl ih =>
   cases h with
   | agg l vs hi h1 h2=>exact .agg l vs hi h1 fun i t v ht hv=>ih t (Zm ht) (h2 i t v ht hv)
 | tup l hl ih =>
   cases h with
   | tup l vs h1 h2=>exact .tup l vs h1 fun i t v ht hv=>ih t (Zm ht) (h2 i t v ht hv)
theorem rQ {w w':World} {O:aG} (hw:eo w0 objs w) (hD:eo w (O++nB objs) w') (hO:∀s b o,(s,b,o)∈O->cE O o):kQ w objs w' (O++objs) :=
 ⟨fun b hb _=>hD.below.block b hb,fun b hb ha=>by
   obtain⟨h0,s,o,hm⟩:=ha
   rcases List.mem_append.1 hm with hm|hm
   ·rcases lG hD hO hm with e|e
    ·exact absurd e h0
    ·omega
   ·exact⟨h0,s,o,hm⟩,fun s b m rows hb h0 hm=>by
   rcases List.mem_append.1 hm with hm|hm
   ·rcases lG hD hO hm with e|e
    ·exact absurd e h0
    ·omega
   ·exact⟨⟨rows,hm⟩,iz (hD.below.block b hb)⟩,hD.below.size,fun hk=>by
   rcases List.mem_append.1 hk with hk|hk
   ·exact absurd (Zw _ hk) hD.noMark
   ·exact hk⟩
theorem yD {w w':World} {O:aG} (hw:eo w0 objs w) (hD:eo w (O++nB objs) w') (hO:∀s b o,(s,b,o)∈O->cE O o):eo w0 (O++objs) w':=by
 have hst:=rQ hw hD hO
 have hle:=hw.below.size
 refine⟨hw.below.trans (hD.below.mono hle),hw.pos,fun s b o hm=>?_, ?_⟩
 ·rcases List.mem_append.1 hm with hm|hm
  ·have h1:=hD.obj s b o (Zw _ hm)
   have h2:=hO s b o hm
   cases o with
   | row m rows =>
     refine⟨h1.1,h1.2.1,h1.2.2.imp id fun⟨g1,cur,e,cap,g2,g3,g4,g5,g6⟩=>⟨Z0 hle g1,cur,e,cap,g2,g3,g4,g5,fun j t hj=>?_⟩⟩
     obtain⟨v,g7,g8⟩:=g6 j t hj
     exact⟨v,g7,sG hw hD hO (h2 t (Zm hj)) g8⟩
   | box cells =>
     obtain⟨⟨g1,g0⟩,cur,e,g2,g3,g6⟩:=h1
     refine⟨⟨Z0 hle g1,g0⟩,cur,e,g2,g3,fun j t hj=>?_⟩
     obtain⟨v,g7,g8⟩:=g6 j t hj
     exact⟨v,g7,sG hw hD hO (h2 t (Zm hj)) g8⟩
   | void=>exact absurd h2 id
   | iter _ _=>exact absurd h2 id
  ·exact(hw.obj s b o hm).step hst (hD.below.block b (dV hw hm))
 ·obtain⟨p1,_,p3⟩:=List.pairwise_append.1 hD.sites
  refine List.pairwise_append.2 ⟨p1,hw.sites,fun x hx y hy=>?_⟩
  refine⟨(p3 x hx (y.1,0,.void) (List.mem_map.2 ⟨y,hy,rfl⟩)).1, ?_⟩
  rcases lG hD hO (s:=x.1) (b:=x.2.1) (o:=x.2.2) hx with e|e
  ·exact .inr e
  ·have:=dV (s:=y.1) (b:=y.2.1) (ob:=y.2.2) hw hy
   exact .inl (by omega)
theorem adF {G:World->Prop} {ops:Array Oper} {rest:List Oper} {f:Nat} {xs:List Operand} {ts:Array TypeId} {args:List TV} {Y:Type} {I:Y->Prop} {O:Y->aG} {r:Y->TV} (ho:o.op=.call { callee:=.value (.func f),args:=xs.toArray,argTypes:=ts }) (hc:gL P f=true) (hargs:bU env objs xs args)
   (hct:CtM P G f args [] I O r) (hG:G w0) (hst:ay G) (hnew:∀y,I y->(∀s b o,(s,b,o)∈O y->cE (O y) o)/\dY (O y) (r y)) (h:∀y,I y->∀v w' a,Sim w0 N env (O y++objs) a w'->Rep w' (O y++objs) (r y) v->wpList P ops Q rest (a.put o.dst v) w'):AO P w0 N ops Q o rest env objs:=⟨fun a w K hs hK=>by
 obtain⟨h1,h2⟩:=nQ hs.mem (a:=a) hargs (fun x _ v hv=>fU hs hv)
 unfold Oper.wp
 rw[jB ho hc]
 have hw:=qZ hs.mem
 refine(hct w w (nB objs) [] (xs.map a.eval).toArray (hst.below _ _ hG hs.mem.below) (by simpa using hw) (.gh _ _ (by simp)) (by simpa using h1) (fun i t v ht hv=>?_)).mono ?_
 ·exact(h2 i t v ht (by simpa using hv)).step (by simpa using q6 w objs)
 ·rintro e w' ⟨v,y,rfl,hI,hw',_,hr⟩
  obtain⟨n1,n2⟩:=hnew y hI
  have hst':=rQ hs.mem hw' n1
  exact hK _ _ (h y hI v w' a ⟨hs.defers,hs.size,yD hs.mem hw' n1,fun t u hu=>(hs.env t u hu).step hst'⟩ (sG hs.mem hw' n1 n2 hr))⟩
theorem kI {G:World->Prop} {ops:Array Oper} {rest:List Oper} {d T0:Nat} {pos:String} {af:Array Edge} {g:Option (Nat×Bool)} {f:Nat} {xs:List Operand} {ts:Array TypeId} {args:List TV} {r:Nat->TV} (hN:Nat.blt d N=true) (hc:gL P f=true) (hG:G w0) (hst:ay G) (hct:Ct P G f args r) (hargs:bU env objs xs args)
   (h:AL P w0 N ops Q rest ((d,r w0.heap.size)::env) objs):AO P w0 N ops Q ⟨some d,.call { callee:=.value (.func f),args:=xs.toArray,argTypes:=ts },T0,pos,af,g⟩ rest env objs:=wu rfl hN (ul rfl hc hargs hct hG hst) h
theorem ij {G:World->Prop} {ops:Array Oper} {rest:List Oper} {d T0:Nat} {pos:String} {af:Array Edge} {g:Option (Nat×Bool)} {f:Nat} {xs:List Operand} {ts:Array TypeId} {args:List TV} {Y:Type} {I:Y->Prop} {O:Y->aG} {r:Y->TV} (hN:Nat.blt d N=true) (hc:gL P f=true)
   (hG:G w0) (hst:ay G) (hct:CtM P G f args [] I O r) (hargs:bU env objs xs args) (hnew:∀y,I y->(∀s b o,(s,b,o)∈O y->cE (O y) o)/\dY (O y) (r y)) (h:∀y,I y->AL P w0 N ops Q rest ((d,r y)::env) (O y++objs)):AO P w0 N ops Q ⟨some d,.call { callee:=.value (.func f),args:=xs.toArray,argTypes:=ts },T0,pos,af,g⟩ rest env objs :=
 adF rfl hc hargs hct hG hst hnew fun y hI v w' a hs hr=>(h y hI).run _ _ (ab5 hs hN hr)
theorem xg {G:World->Prop} {K:Env->Prop} {ops:Array Oper} {rest:List Oper} {d T0:Nat} {pos:String} {af:Array Edge} {g:Option (Nat×Bool)} {f:Nat} {xs:List Operand} {ts:Array TypeId} {args:List TV} {r:Nat->TV} (hN:Nat.blt d N=true) (hc:gL P f=true) (hG:G w0) (hst:ay G) (hct:Ct P G f args r) (hargs:bU env objs xs args)
   (h:DR P w0 N ops objs K rest ((d,r w0.heap.size)::env)):DO P w0 N ops objs K ⟨some d,.call { callee:=.value (.func f),args:=xs.toArray,argTypes:=ts },T0,pos,af,g⟩ rest env:=⟨fun hgr=>.run _ _ _ _ _ rfl hN hgr (ul rfl hc hargs hct hG hst) h⟩
theorem cy.msAll {s b len m:Nat} {rows:List (List TV)} (hm:(s,b,aV.row m rows)∈objs) (hl:rows.length=len):cy objs (.ms s b 0 len) (.sl 0 m rows):=by
 subst hl
 exact .msSame hm (by omega) (by simp)
theorem fO {objs:aG} {rows:List (List TV)} (h:∀t∈rows.flatten,t.flat=true):∀t∈rows.flatten,dY objs t:=fun t ht=>.flat t (h t ht)
theorem acg {G:World->Prop} {f:FuncId} {args:List TV} {Y:Type} {I:Y->Prop} {O:Y->aG} {r:Y->TV} {r':Nat->TV} (hct:CtM P G f args [] I O r) (hf:∀y,I y->∀B L,Fin B (O y) L (r y) (r' L)):Ct P G f args r':=fun w vs hpos hG hsz hrep=>by
 have hw:eo w [] w:=⟨Below.refl _ _,hpos,by simp,.nil⟩
 refine(hct w w [] [] vs hG (by simpa using hw) (.gh _ _ (by simp)) hsz (by simpa using hrep)).mono ?_
 rintro e w' ⟨v,y,rfl,hI,hw',_,hr⟩
 rw[Zt] at hw' hr
 exact⟨v,rfl,hw'.below,fun L hL=>kB hw' hL (hf y hI _ L) hr⟩
end
section
variable {P:Program} {w0:World} {N:Nat} {Q:Exit->Act->World->Prop} {env:Env} {objs objs':aG} {o:Oper}
theorem afU {K:Env->Prop} {ops:Array Oper} {rest:List Oper} {d T0:Nat} {pos:String} {af:Array Edge} {g:Option (Nat×Bool)} {T:TypeId} {ps:List (Nat×Operand)} {zs l:List TV} (hN:Nat.blt d N=true) (he:zT T=zs) (hb:TB P env T ps zs l) (hz:dt P T=some (zT T)) (hp:(iY P T).isSome=true)
   (h:DR P w0 N ops objs K rest ((d,.agg l)::env)):DO P w0 N ops objs K ⟨some d,.build T ps.toArray,T0,pos,af,g⟩ rest env:=⟨fun hgr=>.run _ _ _ _ _ rfl hN hgr (xE rfl hz hp (he ▸ hb)) h⟩
end
section
variable {P:Program} {w0:World} {N:Nat} {Q:Exit->Act->World->Prop} {env:Env} {objs objs':aG} {o:Oper}
inductive Evs (env:Env):List Operand->List TV->Prop
 | nil:Evs env [] []
 | cons (x:Operand) (xs:List Operand) (t:TV) (ts:List TV) (h:ev env x=some t) (hr:Evs env xs ts):Evs env (x::xs) (t::ts)
theorem afg {w:World} {a:Act} {xs:List Operand} {l:List TV} (h:Evs env xs l) (hop:∀x∈xs,∀v,ev env x=some v->Rep w objs v (a.eval x)):l.length=xs.length/\∀(i:Nat) (t:TV) (v:Value),l[i]?=some t->(xs.map a.eval)[i]?=some v->Rep w objs t v:=by
 induction h with
 | nil=>simp
 | cons x xs t ts h hr ih =>
   obtain⟨h1,h2⟩:=ih (fun y hy=>hop y (by simp[hy]))
   refine⟨by simpa using h1,fun i u v hu hv=>?_⟩
   cases i with
   | zero=>simp at hu hv;subst hu;subst hv;exact hop x (by simp) t h
   | succ i=>exact h2 i u v (by simpa using hu) (by simpa using hv)
theorem y9 {f:Nat} {xs:List Operand} {l:List TV} (ho:o.op=.makeFunc (.func f) #[] xs.toArray) (hx:Evs env xs l):ba P w0 env objs o (.fn f l):=aO fun a w hw hop=>by
 obtain⟨h1,h2⟩:=afg (objs:=objs) (w:=w) (a:=a) hx (fun x hx v hv=>hop x (by simp[ho,Op.operands,hx]) v hv)
 refine⟨.func (.func f) #[] (xs.map a.eval).toArray, ?_,.fn f l _ (by simpa using h1) (fun i t v ht hv=>h2 i t v ht (by simpa using hv))⟩
 simp only[execOp,ho]
 refine dq ?_
 simp[Instr.makeFunc,Sem.run_pure,Ys]
inductive ku (objs:aG):List TV->List TV->Prop
 | nil:ku objs [] []
 | cons (t t':TV) (l l':List TV) (h:cy objs t t') (hr:ku objs l l'):ku objs (t::l) (t'::l')
theorem abY {l l':List TV} (h:ku objs l l'):l'.length=l.length/\∀(i:Nat) (t t':TV),l[i]?=some t->l'[i]?=some t'->cy objs t t':=by
 induction h with
 | nil=>simp
 | cons t t' l l' h hr ih =>
   refine⟨by simpa using ih.1,fun i u u' hu hu'=>?_⟩
   cases i with
   | zero=>simp at hu hu';subst hu;subst hu';exact h
   | succ i=>exact ih.2 i u u' (by simpa using hu) (by simpa using hu')
theorem aat {f:Nat} {x:Operand} {xs:List Operand} {vs:Array Value} {ts:Array TypeId} (ho:o.op=.call { callee:=.value x,args:=xs.toArray,argTypes:=ts }) (hc:gL P f=true) (a:Act) (w:World) (hx:a.eval x=.func (.func f) #[] vs):(execOp a.eval o).run P w=.ok (.enter f ((xs.map a.eval).toArray++vs)) w:=by
 simp only[execOp,ho,resolve,hx,ZE,Sem.run_pure,Zz,Deferred.ofValue,invoke]
 simp[mN hc,Sem.run_pure,Zz,Ys]
theorem aaY {G:World->Prop} {f:Nat} {x:Operand} {xs:List Operand} {ts:Array TypeId} {l l' args:List TV} {r:Nat->TV} (ho:o.op=.call { callee:=.value x,args:=xs.toArray,argTypes:=ts }) (hx:ev env x=some (.fn f l)) (hc:gL P f=true) (hargs:bU env objs xs args) (hl:ku objs l l')
   (hct:Ct P G f (args++l') r) (hG:G w0) (hst:ay G):ba P w0 env objs o (r w0.heap.size):=fun a w K Q hw hop hK=>by
 obtain⟨h1,h2⟩:=nQ hw (a:=a) hargs (fun x hx v hv=>hop x (by simp[ho,Op.operands,Call.operands,hx]) v hv)
 have hfn:=hop x (by simp[ho,Op.operands,Call.operands]) _ hx
 generalize hv:a.eval x=v at hfn
 cases hfn with
 | fn f l vs g1 g2 =>
   obtain⟨g3,g4⟩:=abY hl
   unfold Oper.wp
   rw[aat ho hc a w hv]
   refine(hct w _ (ZJ hw.pos hw.below.size) (hst.below _ _ hG hw.below) (by simp at h1;simp;omega) (fun i t v ht hv'=>?_)).mono ?_
   ·rw[Zf] at h1
    by_cases hi:i<args.length
    ·rw[Zs hi] at ht
     rw[Yp (by simp;omega)] at hv'
     exact h2 i t v ht (by simpa using hv')
    ·rw[Zr (by omega)] at ht
     rw[Array.getElem?_append_right (by simp;omega)] at hv'
     simp only[YU,Zf] at hv'
     rw[h1] at hv'
     obtain⟨t0,h5⟩:=ej g3 ht
     exact yH hw (g4 _ _ _ h5 ht) (g2 _ _ _ h5 hv')
   ·rintro e w' ⟨v,rfl,hb,hr⟩
    have hk:∀b,b<w.heap.size->w'.heap[b]?=w.heap[b]?:=fun b hlt=>hb.block b hlt
    have hbel:Below w0.heap.size w0 w':=hw.below.trans (hb.mono hw.below.size)
    exact hK v w' (Rep.ofOld (fun b ha=>by obtain⟨_,s,ob,hm⟩:=ha;exact dV hw hm) (hr _ hw.below.size)) (hw.grow hbel hb.size hk) (lm objs hb.size hk)
theorem zZ {w:World} (hw:eo w0 objs w) {s b m:Nat} {rows:List (List TV)} (hm:(s,b,aV.row m rows)∈objs) {v:Value} (hr:Rep w objs (.ms s b 0 rows.length) v) (hp:bS objs' objs) (hna:¬ qm objs' b):Rep w objs' (.sl w0.heap.size m rows) v:=by
 obtain⟨⟨hm0,hci⟩,hmm,hor⟩:=hw.obj s b _ hm
 rcases(vD hr).or m rows hm with ⟨_,_,hlen,rfl⟩|⟨hb0,q,c,e,k,rfl,hlc,hsh,hk,ho⟩
 ·have:rows=[]:=ZV hlen
  subst this
  exact .sl _ m [] none 0 (Zg _) (by simp) (by simp) (by simp) (fun _=>undef) (by simp) (by simp)
 ·rcases hor with ⟨h0,_⟩|⟨hB,cur,e',cap,h3,h4,h5,h6,h7⟩
  ·exact absurd h0 hb0
  have hcm:c<=maxLen:=by
    have h8:w.shape? b=some (e',cur.size):=by unfold World.shape?;rw[h3]
    rw[h8] at hsh
    simp only[Zo,Zp] at hsh
    have h9:cap * m=(0+c) * m:=by omega
    have:=YQ hm0 h9
    omega
  have hq:q=0:=by simpa using ho (.inr rfl)
  subst hq
  have key:∀j,∃u,∀t',rows.flatten[j]?=some t'->w.cell? ⟨b,0+j,none⟩=some u/\Rep w objs' t' u:=fun j=>by
    cases hj:rows.flatten[j]? with
    | none=>exact⟨undef,fun t' ht=>by cases ht⟩
    | some t =>
      obtain⟨u,p1,p2⟩:=h7 _ t hj
      exact⟨u,fun t' ht=>by cases ht;exact⟨by rw[cell_of_row w b _ cur e' (0,0) h3,ZY];exact p1,p2.step (jc hp w)⟩⟩
  exact .sl _ m rows (some ⟨b,0,none⟩) c hlc hcm hmm hci (fun j=>Classical.choose (key j)) (fun j t hj=>⟨b,0,rfl,⟨hB,hna⟩,(ZL (key j) t hj).1⟩) (fun j t hj=>(ZL (key j) t hj).2)
theorem Sim.freeze {a:Act} {w:World} (hs:Sim w0 N env objs a w) {t s b m n:Nat} {rows:List (List TV)} (hx:lk t env=some (.ms s b 0 n)) (hn:rows.length=n) (hd:yQ s b (.row m rows) objs objs'):Sim w0 N ((t,.sl w0.heap.size m rows)::env) objs' a w:=by
 subst hn
 have hdel:bS ((s,b,.row m rows)::objs') objs:=.perm hd.del.perm
 have hp:bS objs' objs:=(bS.drop (.refl _)).trans hdel
 have hmem:(s,b,aV.row m rows)∈objs:=hdel.mem _ Zi
 have hpw:=hdel.sites hs.mem.sites
 have hna:¬ qm objs' b:=fun ha=>by
   obtain⟨h0,s',o',hm'⟩:=ha
   have:=(List.pairwise_cons.1 hpw).1 _ hm'
   rcases this.2 with h|h
   ·exact h rfl
   ·exact h0 h
 have hs':=hs.pick hp
 refine⟨hs'.defers,hs'.size,hs'.mem,fun t' v hv=>?_⟩
 rw[cK] at hv
 split at hv
 ·rename_i he
  subst he
  cases hv
  exact zZ hs.mem hmem (hs.env t _ hx) hp hna
 ·exact hs'.env t' v hv
theorem abr {x:Exit} {t s b m n:Nat} {rows:List (List TV)} (hx:lk t env=some (.ms s b 0 n)) (hn:rows.length=n) (hd:yQ s b (.row m rows) objs objs') (h:AQ w0 N Q x ((t,.sl w0.heap.size m rows)::env) objs'):AQ w0 N Q x env objs:=⟨fun a w hs=>h.run a w (hs.freeze hx hn hd)⟩
theorem oo {c:Code} {t s b m n:Nat} {rows:List (List TV)} (hx:lk t env=some (.ms s b 0 n)) (hn:rows.length=n) (hd:yQ s b (.row m rows) objs objs') (h:AW P w0 N c Q ((t,.sl w0.heap.size m rows)::env) objs'):AW P w0 N c Q env objs:=⟨fun a w hs=>h.run a w (hs.freeze hx hn hd)⟩
theorem dl {m n:Nat} (h:n<=m):((m:Int) - (n:Int))=((m - n:Nat):Int):=by omega
theorem nd {T:TypeId} {x hi:Operand} {f m:Nat} {rows:List (List TV)} {k1:IntKind} {n:Int} {j:Nat} (ho:o.op=.slice T x none (some hi) none) (hx:ev env x=some (.sl f m rows)) (hhi:ev env hi=some (.int k1 n))
   (hT:P.underlying T=some (.slice (P.elem T))) (hI:(P.info? (P.elem T)).isSome=true) (hn:n=(j:Int)) (hj:j<=rows.length):ba P w0 env objs o (.sl f m (rows.take j)):=aO fun a w hw hop=>by
 have h0:=hop x (gj ho) _ hx
 have h1:=(hop hi (by simp[ho,Op.operands]) _ hhi).int_inv
 generalize hv:a.eval x=v at h0
 obtain⟨A,c,rfl,g1,g2,g3,g4,g5⟩:=lS h0
 have hlen:(rows.take j).length=j:=by simp;omega
 cases hie:P.info? (P.elem T) with
 | none=>rw[hie] at hI;cases hI
 | some ie =>
 have hfl:∀(q:Nat) (t:TV),(rows.take j).flatten[q]?=some t->rows.flatten[q]?=some t:=fun q t hq=>by
   rw[eU g3,ZQ] at hq
   split at hq
   ·exact hq
   ·cases hq
 have key:∀q,∃u,∀t,(rows.take j).flatten[q]?=some t->(∃b o,A=some ⟨b,o,none⟩/\ZZ objs f b/\w.cell? ⟨b,o+q,none⟩=some u)/\Rep w objs t u:=fun q=>by
   cases hq:(rows.take j).flatten[q]? with
   | none=>exact⟨undef,fun t ht=>by cases ht⟩
   | some t =>
     obtain⟨b,o,u,p1,p2,p3,p4⟩:=g5 q t (hfl q t hq)
     exact⟨u,fun t' ht=>by cases ht;exact⟨⟨b,o,p1,p2,p3⟩,p4⟩⟩
 have hr := Rep.sl (w := w) (objs := objs) f m (rows.take j) A c (by omega) g2 (fun r hr => g3 r (ZS hr)) (fun t ht => by
     obtain⟨r,h2,h3⟩:=List.mem_flatten.1 ht
     exact g4 t (List.mem_flatten.2 ⟨r,ZS h2,h3⟩)) (fun q=>Classical.choose (key q)) (fun q t hq=>((ZL (key q)) t hq).1) (fun q t hq=>((ZL (key q)) t hq).2)
 rw[hlen] at hr
 refine⟨.slice A j c, ?_,hr⟩
 simp only[execOp,ho,h1,hv,Yb,YT]
 refine dq ?_
 rw[run_sliceAt_slice w T _ _ _ _ hT,run_slice_h w T _ rows.length c hT k1 n (by omega) (by omega),run_sizeOf w hie]
 subst hn
 cases A <;> simp[Zz,sliced,Addr.add]
theorem tS {T:TypeId} {x lo:Operand} {f m:Nat} {rows:List (List TV)} {k1:IntKind} {n:Int} {j:Nat} (ho:o.op=.slice T x (some lo) none none) (hx:ev env x=some (.sl f m rows)) (hlo:ev env lo=some (.int k1 n))
   (hT:P.underlying T=some (.slice (P.elem T))) (hI:(P.info? (P.elem T)).isSome=true) (hm:P.cellsOf (P.elem T)=m) (hn:n=(j:Int)) (hj:j<=rows.length):ba P w0 env objs o (.sl f m (rows.drop j)):=aO fun a w hw hop=>by
 have h0:=hop x (gj ho) _ hx
 have h1:=(hop lo (by simp[ho,Op.operands]) _ hlo).int_inv
 generalize hv:a.eval x=v at h0
 obtain⟨A,c,rfl,g1,g2,g3,g4,g5⟩:=lS h0
 have hlen:(rows.drop j).length=rows.length - j:=by simp
 cases hie:P.info? (P.elem T) with
 | none=>rw[hie] at hI;cases hI
 | some ie =>
 have hfl:∀(q:Nat) (t:TV),(rows.drop j).flatten[q]?=some t->rows.flatten[j * m+q]?=some t:=fun q t hq=>by
   rw[ig g3,Yf] at hq
   exact hq
 have key:∀q,∃u,∀t,(rows.drop j).flatten[q]?=some t->(∃b o,(if c=j then A else A.map (·.add (j * m)))=some ⟨b,o,none⟩/\ZZ objs f b/\w.cell? ⟨b,o+q,none⟩=some u)/\Rep w objs t u:=fun q=>by
   cases hq:(rows.drop j).flatten[q]? with
   | none=>exact⟨undef,fun t ht=>by cases ht⟩
   | some t =>
     obtain⟨b,o,u,p1,p2,p3,p4⟩:=g5 _ t (hfl q t hq)
     refine⟨u,fun t' ht=>by
       cases ht
       refine⟨⟨b,o+j * m, ?_,p2,by rw[Xq];exact p3⟩,p4⟩
       have hcj:c≠j:=fun hc=>by
         rw[Yl (by omega)] at hq
         simp at hq
       rw[if_neg hcj,p1]
       simp[Addr.add_lit]⟩
 have hr := Rep.sl (w := w) (objs := objs) f m (rows.drop j) (if c = j then A else A.map (·.add (j * m))) (c - j) (by omega) (by omega) (fun r hr => g3 r (Z3 hr)) (fun t ht => by
     obtain⟨r,h2,h3⟩:=List.mem_flatten.1 ht
     exact g4 t (List.mem_flatten.2 ⟨r,Z3 h2,h3⟩)) (fun q=>Classical.choose (key q)) (fun q t hq=>((ZL (key q)) t hq).1) (fun q t hq=>((ZL (key q)) t hq).2)
 rw[hlen] at hr
 refine⟨_, ?_,hr⟩
 simp only[execOp,ho,h1,hv,Yb,YT]
 refine dq ?_
 rw[run_sliceAt_slice w T _ _ _ _ hT,run_slice_l w T _ rows.length c hT k1 n (by omega) (by omega),run_sizeOf w hie,hm]
 subst hn
 simp[Zz,sliced]
variable {ops:Array Oper} {rest:List Oper} {d T0:Nat} {pos:String} {af:Array Edge} {g:Option (Nat×Bool)} {K:Env->Prop}
theorem zR {f:Nat} {xs:List Operand} {l:List TV} (hN:Nat.blt d N=true) (hx:Evs env xs l) (h:AL P w0 N ops Q rest ((d,.fn f l)::env) objs):AO P w0 N ops Q ⟨some d,.makeFunc (.func f) #[] xs.toArray,T0,pos,af,g⟩ rest env objs:=wu rfl hN (y9 rfl hx) h
theorem vS {G:World->Prop} {t f:Nat} {xs:List Operand} {ts:Array TypeId} {l l' args all:List TV} {r:Nat->TV} (hN:Nat.blt d N=true) (hx:lk t env=some (.fn f l)) (hc:gL P f=true) (hG:G w0) (hst:ay G) (hargs:bU env objs xs args) (hl:ku objs l l') (ha:args++l'=all) (hct:Ct P G f all r)
   (h:AL P w0 N ops Q rest ((d,r w0.heap.size)::env) objs):AO P w0 N ops Q ⟨some d,.call { callee:=.value (.tmp t),args:=xs.toArray,argTypes:=ts },T0,pos,af,g⟩ rest env objs:=wu rfl hN (aaY (x:=.tmp t) rfl hx hc hargs hl (ha ▸ hct) hG hst) h
theorem aeP {G:World->Prop} {t f:Nat} {xs:List Operand} {ts:Array TypeId} {l l' args all:List TV} {r:Nat->TV} (hN:Nat.blt d N=true) (hx:lk t env=some (.fn f l)) (hc:gL P f=true) (hG:G w0) (hst:ay G) (hargs:bU env objs xs args) (hl:ku objs l l') (ha:args++l'=all) (hct:Ct P G f all r)
   (h:DR P w0 N ops objs K rest ((d,r w0.heap.size)::env)):DO P w0 N ops objs K ⟨some d,.call { callee:=.value (.tmp t),args:=xs.toArray,argTypes:=ts },T0,pos,af,g⟩ rest env:=⟨fun hgr=>.run _ _ _ _ _ rfl hN hgr (aaY (x:=.tmp t) rfl hx hc hargs hl (ha ▸ hct) hG hst) h⟩
theorem ve {T:TypeId} {x hi:Operand} {f m:Nat} {rows rows2:List (List TV)} {k1:IntKind} {n:Int} {j:Nat} (hN:Nat.blt d N=true) (hx:ev env x=some (.sl f m rows)) (hhi:ev env hi=some (.int k1 n)) (hT:P.underlying T=some (.slice (P.elem T))) (hI:(P.info? (P.elem T)).isSome=true) (hn:n=(j:Int)) (hj:j<=rows.length) (he:rows.take j=rows2) (h:AL P w0 N ops Q rest ((d,.sl f m rows2)::env) objs):AO P w0 N ops Q ⟨some d,.slice T x none (some hi) none,T0,pos,af,g⟩ rest env objs:=wu rfl hN (he ▸ nd rfl hx hhi hT hI hn hj) h
theorem uk {T:TypeId} {x hi:Operand} {f m:Nat} {rows rows2:List (List TV)} {k1:IntKind} {n:Int} {j:Nat} (hN:Nat.blt d N=true) (hx:ev env x=some (.sl f m rows)) (hhi:ev env hi=some (.int k1 n)) (hT:P.underlying T=some (.slice (P.elem T))) (hI:(P.info? (P.elem T)).isSome=true) (hn:n=(j:Int)) (hj:j<=rows.length) (he:rows.take j=rows2) (h:DR P w0 N ops objs K rest ((d,.sl f m rows2)::env)):DO P w0 N ops objs K ⟨some d,.slice T x none (some hi) none,T0,pos,af,g⟩ rest env:=⟨fun hgr=>.run _ _ _ _ _ rfl hN hgr (he ▸ nd rfl hx hhi hT hI hn hj) h⟩
theorem vd {T:TypeId} {x lo:Operand} {f m:Nat} {rows rows2:List (List TV)} {k1:IntKind} {n:Int} {j:Nat} (hN:Nat.blt d N=true) (hx:ev env x=some (.sl f m rows)) (hlo:ev env lo=some (.int k1 n)) (hT:P.underlying T=some (.slice (P.elem T))) (hI:(P.info? (P.elem T)).isSome=true) (hm:P.cellsOf (P.elem T)=m) (hn:n=(j:Int)) (hj:j<=rows.length) (he:rows.drop j=rows2) (h:AL P w0 N ops Q rest ((d,.sl f m rows2)::env) objs):AO P w0 N ops Q ⟨some d,.slice T x (some lo) none none,T0,pos,af,g⟩ rest env objs:=wu rfl hN (he ▸ tS rfl hx hlo hT hI hm hn hj) h
end
inductive DU (P:Program) (w0:World) (N:Nat) (K:Env->Prop):List Oper->Env->Prop
 | nil (env:Env) (h:K env):DU P w0 N K [] env
 | run (o:Oper) (rest:List Oper) (env:Env) (d:Nat) (tv:TV) (hd:o.dst=some d) (hN:Nat.blt d N=true) (hg:o.guard=none) (hy:∀objs,ba P w0 env objs o tv) (h:DU P w0 N K rest ((d,tv)::env)):DU P w0 N K (o::rest) env
section
variable {P:Program} {w0:World} {N:Nat} {Q:Exit->Act->World->Prop} {objs:aG} {ops:Array Oper} {env:Env}
theorem acM {K:Env->Prop} {l:List Oper} {env:Env} (h:DU P w0 N K l env):∃σ:Nat->Env,(∀t,lk t (σ 0)=lk t env)/\K (σ l.length)/\∀k o,l[k]?=some o->∀objs,mQ P w0 N ops objs o (σ k) (σ (k+1)):=by
 induction h with
 | nil env h=>exact⟨fun _=>env,fun _=>rfl,h,by simp⟩
 | run o rest env d tv hd hN hg hy h ih =>
   obtain⟨σ,h1,h2,h3⟩:=ih
   refine⟨fun k=>match k with|0=>env|k+1=>σ k,fun _=>rfl,h2,fun k o' hk objs=>?_⟩
   cases k with
   | zero=>simp at hk;subst hk;exact⟨d,tv,hd,Yo ▸ hN,h1,.inl ⟨.inl hg,hy objs⟩⟩
   | succ k=>exact h3 k o' (by simpa using hk) objs
theorem wT {o:Oper} {T:TypeId} {zs:List TV} (ho:o.op=.alloc T) (hz:dt P T=some zs):ba P w0 env objs o .top:=fun a w K Q hw hop hK=>by
 obtain⟨ss,hf⟩:=ff objs
 obtain⟨z,h1,h2,h3⟩:=lM hz w
 have hrun:(execOp a.eval o).run P w=.ok (.value (.pointer (some ⟨w.heap.size,0,none⟩))) (w.alloc (.cells z.cells T)):=by
   simp only[execOp,ho]
   refine dq ?_
   simp[Instr.alloc,ZE,h1,newVar,newRow,run_newObj_alloc,Sem.run_pure]
 unfold Oper.wp
 rw[hrun]
 obtain⟨g1,g2⟩:=hw.alloc (.cells z.cells T)
 exact hK _ _ (.top _) g1 g2
theorem x8 {o:Oper} {T:TypeId} {zs:List TV} (ho:o.op=.alloc T) (hz:dt P T=some zs) {a:Act} {w:World} (hw:eo w0 objs w) {K:Act->World->Prop} (hK:∀ss b v w',Rep w' ((ss,b,.box zs)::objs) (.mp ss b 0) v->eo w0 ((ss,b,.box zs)::objs) w'->kQ w objs w' ((ss,b,.box zs)::objs)->K (a.put o.dst v) w'):o.wp P a w K Q:=by
 obtain⟨ss,hf⟩:=ff objs
 obtain⟨z,h1,h2,h3⟩:=lM hz w
 have hst:=ib hw z.cells T ss (.box zs)
 have hrun:(execOp a.eval o).run P w=.ok (.value (.pointer (some ⟨w.heap.size,0,none⟩))) (w.alloc (.cells z.cells T)):=by
   simp only[execOp,ho]
   refine dq ?_
   simp[Instr.alloc,ZE,h1,newVar,newRow,run_newObj_alloc,Sem.run_pure]
 unfold Oper.wp
 rw[hrun]
 refine hK ss w.heap.size _ _ (.mp ss _ 0 ⟨by simp,ga hw #[] 0 ss _⟩) (hw.newObj hf ⟨⟨hw.below.size,h2.2⟩,z.cells,T,heap_alloc_new w _,h2.1,fun j t hj=>?_⟩) hst
 have hlt:j<z.cells.size:=by rw[h2.1];exact(List.getElem?_eq_some_iff.1 hj).1
 exact⟨z.cells[j],by simp[hlt],h3 _ _ j t _ hj (by simp[hlt])⟩
def JZ (w0:World) (N:Nat) (ops:Array Oper) (objs:aG) (σ:Nat->Env) (k ia d:Nat) (zs:List TV) (X:Nat->Prop) (a:Act) (w:World):Prop :=
 (¬ X ia/\JY w0 N ops objs σ k X a w)\/(X ia/\∃ss b,JY w0 N ops ((ss,b,.box zs)::objs) σ k X a w/\Rep w ((ss,b,.box zs)::objs) (.mp ss b 0) (a.tmps.getD d undef))
theorem adn (hok:dP ops=true) {k:Nat} (hk:k<=ops.size) (htl:f6 ops k=true) {σ:Nat->Env} {ia d:Nat} {zs:List TV} (hia:ia<k) (hQ:∀ss b,AL P w0 N ops Q (ops.toList.drop k) ((d,.mp ss b 0)::σ k) ((ss,b,.box zs)::objs)) {fuel:Nat} {listed:Array Bool} {a:Act} {w:World} (hsz:listed.size=ops.size) (hun:dE listed<=fuel) (hXk:∀i,listed.getD i false=true->i<k)
   (hall:∀j,j<k->listed.getD j false=true) (hJ:JZ w0 N ops objs σ k ia d zs (fun i=>listed.getD i false=true) a w):wpAny P .any ops Q fuel listed a w:=by
 rcases hJ with ⟨hn,_⟩|⟨_,ss,b,hJ,hr⟩
 ·exact absurd (hall ia hia) hn
 ·refine pe (σ:=fun c=>if c=k then (d,.mp ss b 0)::σ k else σ c) hok hk htl (by rw[if_pos rfl];exact hQ ss b) hsz hun hXk hall ⟨hJ.defers,hJ.size,hJ.mem,fun t c hc h1 h2 v hv=>?_⟩
  split at hv
  ·rename_i hck
   subst hck
   rw[cK] at hv
   split at hv
   ·rename_i hdt
    subst hdt
    cases hv
    exact hr
   ·exact hJ.cut t c hc h1 h2 v hv
  ·exact hJ.cut t c hc h1 h2 v hv
theorem zA (hok:dP ops=true) {k:Nat} (hk:k<=ops.size) (htl:f6 ops k=true) {σ:Nat->Env} {ia d:Nat} {T:TypeId} {zs:List TV} {oa:Oper} (hia:ia<k) (hoa:ops[ia]?=some oa) (hop:oa.op=.alloc T) (hda:oa.dst=some d) (hdN:d<N) (hz:dt P T=some zs) (hga:oa.guard=none)
   (hother:∀j o,j<k->ops[j]?=some o->j≠ia->o.dst≠some d) (hσ:∀i o,i<k->ops[i]?=some o->∀objs,mQ P w0 N ops objs o (σ i) (σ (i+1))) (hσa:∀t,lk t (σ (ia+1))=lk t ((d,.top)::σ ia)) (hQ:∀ss b,AL P w0 N ops Q (ops.toList.drop k) ((d,.mp ss b 0)::σ k) ((ss,b,.box zs)::objs)) :
   ∀(fuel:Nat) (listed:Array Bool) (a:Act) (w:World),listed.size=ops.size->dE listed<=fuel->(∀i,listed.getD i false=true->i<k)->fe ops (fun i=>listed.getD i false=true)->JZ w0 N ops objs σ k ia d zs (fun i=>listed.getD i false=true) a w->wpAny P .any ops Q fuel listed a w :=
 wE hok hk htl (JZ w0 N ops objs σ k ia d zs) (fun _ _ _ _ hsz hun hXk hall hJ=>adn hok hk htl hia hQ hsz hun hXk hall hJ) fun X a w i o hX hXk ho hik hni hX' hJ K hnext=>by
   have hC:=y0 (fun i o h1 h2=>hσ i o h1 h2 objs)
   rcases hJ with ⟨hn,hJ⟩|⟨hy,ss,b,hJ,hrep⟩
   ·by_cases hii:i=ia
    ·subst hii
     rw[hoa] at ho
     cases ho
     unfold wpOp
     rw[hoa]
     have hw:Region.wanted oa (yielded ops a.tmps)=true:=by simp[Region.wanted,hga]
     simp only[hw,if_true]
     refine .inl (x8 hop hz hJ.mem fun ss b v w' hr hsw hst=>?_)
     rw[hda]
     refine hnext _ _ (.inr ⟨.inl rfl,ss,b,li hok hk hJ hX hoa hik hni hda hdN hC hσa (.top v) hsw hst, ?_⟩)
     show Rep w' _ _ ((a.tmps.setIfInBounds d v).getD d undef)
     rw[k8 (by rw[hJ.size];exact hdN),if_pos rfl]
     exact hr
    ·refine ace hok hk hJ hX hXk ho hik hni hX' hC (hσ i o hik ho objs) fun d' v w' _ _ hst hJ'=>hnext _ _ (.inl ⟨fun h=>?_,hJ'⟩)
     rcases h with h|h
     ·exact hii h.symm
     ·exact hn h
   ·have hii:i≠ia:=fun h=>hni (h ▸ hy)
    refine ace hok hk hJ hX hXk ho hik hni hX' hC (hσ i o hik ho _) fun d' v w' hd' hd'N hst hJ'=>hnext _ _ (.inr ⟨.inr hy,ss,b,hJ', ?_⟩)
    show Rep w' _ _ ((a.tmps.setIfInBounds d' v).getD d undef)
    rw[k8 (by rw[hJ.size];exact hd'N),if_neg (fun h=>hother i o hik ho hii (by rw[hd',h]))]
    exact hrep.step hst
theorem yF (k:Nat) {id d:Nat} {l l1 l2:List Oper} {oa:Oper} {T:TypeId} {zs:List TV} {env:Env} (hm:P.follows .mixedOrders=true) (hok:dP l.toArray=true) (htl:f6 l.toArray (k+1)=true) (hc:Cut k l l1 (oa::l2)) (hop:oa.op=.alloc T) (hda:oa.dst=some d) (hga:oa.guard=none) (hdN:Nat.blt d N=true) (he:zT T=zs) (hz:dt P T=some zs)
   (hno:(l1.all fun o=>!(o.dst == some d))=true) (h:DU P w0 N (fun env'=>∀ss b,AL P w0 N l.toArray Q l2 ((d,.mp ss b 0)::env') ((ss,b,.box zs)::objs)) l1 env):AW P w0 N (.region id l.toArray true) Q env objs:=⟨fun a w hs=>by
 obtain⟨e1,e2,hkl⟩:=hc.eq
 have hkl2:k<l.length:=Xo fun hge=>by rw[Yl hge] at e2;cases e2
 have hd2:l.drop (k+1)=l2:=by
   rw[ZI hkl2] at e2
   exact(List.cons.inj e2).2.symm
 have hoa:l[k]?=some oa:=by
   rw[ZI hkl2] at e2
   rw[Za hkl2,(List.cons.inj e2).1]
 obtain⟨σ0,h1,h2,h3⟩:=acM (ops:=l.toArray) h
 have hl1:l1.length=k:=by rw[e1,Zu];omega
 rw[hl1] at h2
 have hdN':d<N:=Yo ▸ hdN
 -- the chain, with the variable's slot unknown behind its making
 have hσ:∃σ:Nat->Env,(∀c,c<=k->σ c=σ0 c)/\σ (k+1)=(d,.top)::σ0 k:=⟨fun c=>if c<=k then σ0 c else (d,.top)::σ0 k,fun c hc=>by simp[hc],if_neg (by omega)⟩
 obtain⟨σ,hs1,hs2⟩:=hσ
 have hst:∀i o,i<k+1->l[i]?=some o->∀objs,mQ P w0 N l.toArray objs o (σ i) (σ (i+1)):=fun i o hi ho objs=>by
   by_cases hik:i<k
   ·rw[hs1 i (by omega),hs1 (i+1) (by omega)]
    exact h3 i o (by rw[e1,ZQ,if_pos hik];exact ho) objs
   ·obtain rfl:i=k:=by omega
    rw[hoa] at ho;cases ho
    rw[hs1 i (Zg _),hs2]
    exact⟨d,.top,hda,hdN',fun _=>rfl,.inl ⟨.inl hga,wT hop hz⟩⟩
 have hrep:∀i,(Array.replicate l.toArray.size false).getD i false=false:=fun i=>by
   rcases YB i l.toArray.size with h|h
   ·simp at h;simp[h]
   ·simp at h;simp[ZH,Xj,h]
 refine wp_region_any hm (zA (objs:=objs) hok (k:=k+1) (by simp;omega) htl (σ:=σ) (ia:=k) (d:=d) (T:=T) (zs:=zs) (oa:=oa) (Y1 k) (by simpa using hoa) hop hda hdN' hz hga (fun j o hj ho hne hd=>?_) (fun i o hi ho=>hst i o hi (by simpa using ho)) (fun t=>by rw[hs2,hs1 k (Zg _)]) (fun ss b=>?_) _ _ _ _ (by simp) (by simp[dE]) (fun i hi=>by rw[hrep] at hi;cases hi) (fun j oj _ hx=>nomatch (hrep j).symm.trans hx) (.inl ⟨(fun h=>nomatch (hrep k).symm.trans h),hs.defers,hs.size, ?_,fun t c hc h4 h5 v hv=>?_⟩))
 ·have hmem:o∈l1:=by
    have:l1[j]?=some o:=by rw[e1,ZQ,if_pos (by omega)];simpa using ho
    exact Zm this
  have:=List.all_eq_true.1 hno o hmem
  rw[hd] at this
  simp at this
 ·rw[hs2]
  have:(l.toArray.toList.drop (k+1))=l2:=by simpa using hd2
  rw[this]
  refine⟨fun a w hs=>(h2 ss b).run a w ⟨hs.defers,hs.size,hs.mem,fun t v hv=>hs.env t v ?_⟩⟩
  rw[cK] at hv |-
  split
  ·rename_i hdt;rw[if_pos hdt] at hv;exact hv
  ·rename_i hdt
   rw[if_neg hdt] at hv
   rw[cK,if_neg hdt];exact hv
 ·exact hs.mem.grow ⟨hs.mem.below.os,hs.mem.below.tape,hs.mem.below.output,hs.mem.below.size,hs.mem.below.block⟩ (Zg _) (fun _ _=>rfl)
 ·have hk0:∀m,m<=c->lk t (σ m)=lk t (σ 0):=fun m=>by
    induction m with
    | zero=>intro _;rfl
    | succ m ih =>
      intro hm2
      have hml:m<l.length:=by omega
      obtain⟨d,tv,e1,_,e2,_⟩:=hst m l[m] (by omega) (Za hml) objs
      rw[e2,cK,if_neg]
      ·exact ih (by omega)
      ·intro e
       have:=h4 m (by omega) (by unfold gz;simp[hml,e1,e])
       rw[hrep] at this;cases this
  rw[hk0 c (Zg _),hs1 0 (Ze _),h1 t] at hv
  have hst:kQ w objs { w with drawn:=w.drawn+1 } objs:=⟨fun _ _ _=>rfl,fun _ _ h=>h,fun _ _ _ rows _ _ h=>⟨⟨rows,h⟩,rfl⟩,Zg _,fun h=>h⟩
  exact(hs.env t v hv).step hst⟩
variable {K:Env->Prop} {rest:List Oper} {d T0:Nat} {pos:String} {af:Array Edge}
theorem aej (h:K env):DU P w0 N K [] env:=.nil _ h
end
section
variable {P:Program} {w0:World} {N:Nat} {Q:Exit->Act->World->Prop} {objs objs':aG} {ops:Array Oper} {env:Env} {o:Oper}
variable {rest:List Oper} {d T0:Nat} {pos:String} {af:Array Edge} {g:Option (Nat×Bool)}
end
section
variable {P:Program} {w0:World} {N:Nat} {Q:Exit->Act->World->Prop} {objs objs':aG} {ops:Array Oper} {env:Env} {o:Oper}
end
section
variable {P:Program} {w0:World} {N:Nat} {Q:Exit->Act->World->Prop} {env:Env} {objs objs':aG}
theorem ab3 (w:World) (s b ss m:Nat) (c c':List TV) (hm:0<m):kQ w ((s,b,.box c)::objs) w ((s,b,.box c')::(ss,0,.row m [])::objs) :=
 ⟨fun _ _ _=>rfl,fun b' _ ha=>⟨ha.1,by
   obtain⟨h0,s',o,hm⟩:=ha
   rcases List.mem_cons.1 hm with he|hm
   ·simp only[Zp] at he
    obtain⟨rfl,rfl,_⟩:=he
    exact⟨_,_,Zi⟩
   ·rcases List.mem_cons.1 hm with he|hm
    ·simp only[Zp] at he;omega
    ·exact⟨s',o,Zd _ hm⟩⟩,fun s' b' m' rows _ hb hm'=>by
   rcases List.mem_cons.1 hm' with he|hm'
   ·simp only[Zp] at he
    cases he.2.2
   ·rcases List.mem_cons.1 hm' with he|hm'
    ·simp only[Zp] at he;omega
    ·exact⟨⟨rows,Zd _ hm'⟩,rfl⟩,Zg _,fun hk=>by
   rcases List.mem_cons.1 hk with he|hk
   ·simp only[dr,Zp] at he
    cases he.2.2
   ·rcases List.mem_cons.1 hk with he|hk
    ·simp only[dr,Zp,aV.row.injEq] at he;omega
    ·exact Zd _ hk⟩
theorem Sim.nilC {a:Act} {w:World} {s b:Nat} {cells:List TV} (h:Sim w0 N env ((s,b,.box cells)::objs) a w) (i m:Nat) (hm:0<m) (hi:cells[i]?=some .nils):∃ss,Sim w0 N env ((s,b,.box (cells.set i (.ms ss 0 0 0)))::(ss,0,.row m [])::objs) a w:=by
 obtain⟨ss,hss⟩:=ff ((s,b,.box cells)::objs)
 have hpos:0<w.heap.size:=ZJ h.mem.pos h.mem.below.size
 have hst:kQ w ((s,b,.box cells)::objs) w ((s,b,.box (cells.set i (.ms ss 0 0 0)))::(ss,0,.row m [])::objs):=ab3 w s b ss m _ _ hm
 have hnm:dr∉(s,b,aV.box (cells.set i (.ms ss 0 0 0)))::(ss,0,.row m [])::objs:=fun hk=>h.mem.noMark (hst.mark hk)
 have hil:i<cells.length:=(List.getElem?_eq_some_iff.1 hi).1
 refine⟨ss,h.defers,h.size,⟨h.mem.below,h.mem.pos,fun s' b' o hm'=>?_, ?_⟩,fun t v hv=>(h.env t v hv).step hst⟩
 ·rcases List.mem_cons.1 hm' with he|hm'
  ·simp only[Zp] at he
   obtain⟨rfl,rfl,rfl⟩:=he
   obtain⟨⟨g1,g2⟩,cur,e,g3,g4,g5⟩:=h.mem.obj _ _ _ (Zi (l:=objs))
   refine⟨⟨g1,fun t ht=>?_⟩,cur,e,g3,by rw[ZA];exact g4,fun j t hj=>?_⟩
   ·rcases Z7 ht with ht|rfl
    ·exact g2 t ht
    ·rfl
   ·rw[YW] at hj
    split at hj
    ·rename_i e1
     subst e1
     try rw[if_pos hil] at hj
     cases hj
     obtain⟨v,g6,g7⟩:=g5 i _ hi
     refine⟨v,g6, ?_⟩
     cases g7
     exact .ms ss 0 0 0 _ (.mk ⟨hpos,hnm,none,0,rfl⟩ (fun _ _ _=>.inl ⟨rfl,rfl,rfl,rfl⟩) fun _=>⟨rfl,rfl,rfl⟩)
    ·obtain⟨v,g6,g7⟩:=g5 j t hj
     exact⟨v,g6,g7.step hst⟩
  ·rcases List.mem_cons.1 hm' with he|hm'
   ·simp only[Zp] at he
    obtain⟨rfl,rfl,rfl⟩:=he
    exact⟨⟨hm,by simp⟩,by simp,.inl ⟨rfl,rfl⟩⟩
   ·exact(h.mem.obj s' b' o (Zd _ hm')).step hst rfl
 ·obtain⟨p1,p2⟩:=List.pairwise_cons.1 h.mem.sites
  refine List.pairwise_cons.2 ⟨fun y hy=>?_,List.pairwise_cons.2 ⟨fun y hy=>⟨(hss y (Zd _ hy)).symm,.inr rfl⟩,p2⟩⟩
  rcases List.mem_cons.1 hy with rfl|hy
  ·refine⟨hss (s,b,.box cells) Zi,.inl ?_⟩
   have:=(h.mem.obj _ _ _ (Zi (l:=objs))).1.1
   have:=h.mem.pos
   show b≠0
   omega
  ·exact p1 y hy
theorem pW {c:Code} {s b:Nat} {cells:List TV} (i m:Nat) (hm:0<m) (hi:cells[i]?=some .nils) (h:∀ss,AW P w0 N c Q env ((s,b,.box (cells.set i (.ms ss 0 0 0)))::(ss,0,.row m [])::objs)):AW P w0 N c Q env ((s,b,.box cells)::objs):=⟨fun a w hs=>by
 obtain⟨ss,h1⟩:=hs.nilC i m hm hi
 exact(h ss).run a w h1⟩
theorem ce {ops:Array Oper} {o:Oper} {rest:List Oper} (k:bS objs' objs) (h:AO P w0 N ops Q o rest env objs'):AO P w0 N ops Q o rest env objs:=⟨fun a w K hs hK=>h.run a w K (hs.pick k) hK⟩
theorem pQ {ops:Array Oper} {rest:List Oper} {x y z:Nat×Nat×aV} {l:aG} (h:AL P w0 N ops Q rest env (x::y::z::l)):AL P w0 N ops Q rest env ([x,y,z]++l):=h
theorem pM {ops:Array Oper} {rest:List Oper} {x y z u:Nat×Nat×aV} {l:aG} (h:AL P w0 N ops Q rest env (x::y::z::u::l)):AL P w0 N ops Q rest env ([x,y,z,u]++l):=h
end
def eqC:TV->TV->Bool
 | .int _ m,.int _ n=>decide (m=n)
 | .str s,.str u=>decide (s=u)
 | .bool b,.bool c=>b == c
 | _,_=>false
def eqL:List TV->List TV->Bool
 | t::ts,u::us=>eqC t u && eqL ts us
 | _,_=>true
def aiq (P:Program) (f:Field) (i:Nat) (t u:TV):Bool :=
 Nat.beq f.offset i && (f.name != "_") && ju P f.type && (match t,u,P.underlying f.type with
   | .int k _,.int k' _,some (.int _)=>decide (k=k')
   | .str _,.str _,some .string=>true
   | .bool _,.bool _,some .bool=>true
   | _,_,_=>false)
def aei (P:Program):Nat->List Field->List TV->List TV->Bool
 | _,[],[],[]=>true
 | i,f::fs,t::ts,u::us=>aiq P f i t u && aei P (i+1) fs ts us
 | _,_,_,_=>false
theorem lR {P:Program} {w:World} {t:TypeId} {xs:Array Value} {i:Nat} {v:Value} (h:ju P t=true) (hv:xs[i]?=some v):(part t xs i).run P w=.ok v w:=by
 have hi:i<xs.size:=(Array.getElem?_eq_some_iff.1 hv).1
 have he:xs[i]=v:=(Array.getElem?_eq_some_iff.1 hv).2
 simp only[part,ZE,iZ h,Zz]
 simp[hi,he,Sem.run_pure]
theorem nr {P:Program} {w:World} {objs:aG} (d:Nat) (xs ys:Array Value):∀(fs:List Field) (i:Nat) (ts us:List TV),aei P i fs ts us=true ->
   (∀j t,ts[j]?=some t->∃v,xs[i+j]?=some v/\Rep w objs t v)->(∀j t,us[j]?=some t->∃v,ys[i+j]?=some v/\Rep w objs t v) ->
   (Op.eqFields (d+1) xs ys fs).run P w=.ok (eqL ts us) w
 | [],i,[],[],_,_,_=>rfl
 | f::fs,i,t::ts,u::us,h,hx,hy=>by
   simp only[aei,aiq,Zq] at h
   obtain⟨⟨⟨⟨h1,h2⟩,h3⟩,h4⟩,h5⟩:=h
   have h1:=Yi h1
   obtain⟨v,hv,hr⟩:=hx 0 t rfl
   obtain⟨v',hv',hr'⟩:=hy 0 u rfl
   have ih:=nr (P:=P) (w:=w) (objs:=objs) d xs ys fs (i+1) ts us h5 (fun j t' hj=>by
     have:=hx (j+1) t' (by simpa using hj)
     rwa [show i+(j+1)=i+1+j by omega] at this) (fun j t' hj=>by
     have:=hy (j+1) t' (by simpa using hj)
     rwa [show i+(j+1)=i+1+j by omega] at this)
   rw[Yy] at hv hv'
   have hn:f.name ≠ "_" := by simpa using h2
   have he:(Op.equalIn (d+1) f.type v v').run P w=.ok (eqC t u) w:=by
     split at h4
     ·rename_i k m k' n hk hu
      have hkk:k=k':=of_decide_eq_true h4
      subst hkk
      rw[hr.int_inv,hr'.int_inv,run_equalIn_int w d f.type k _ m n hu]
      rw[show eqC (.int k m) (.int k n)=decide (m=n) from rfl,aih]
     ·rename_i s s' hu
      rw[hr.str_inv,hr'.str_inv,run_equalIn_string w d f.type s s' hu,oT];rfl
     ·rename_i b c hu
      rw[hr.bool_inv,hr'.bool_inv,run_equalIn_bool' w d f.type b c hu];rfl
     ·cases h4
   simp only[Op.eqFields,if_pos hn,ZE,h1,lR h3 hv,lR h3 hv',Zz,he,eqL]
   cases hq:eqC t u
   ·simp[Sem.run_pure]
   ·simp[ih]
 | [],i,_::_,_,h,_,_=>by simp[aei] at h
 | [],i,[],_::_,h,_,_=>by simp[aei] at h
 | _::_,i,[],_,h,_,_=>by simp[aei] at h
 | _::_,i,_::_,[],h,_,_=>by simp[aei] at h
def aex (P:Program) (T:TypeId) (l l':List TV):Bool :=
 (match P.underlying T with|some (.struct _)=>true|_=>false) && !P.stoodInHeld T && !P.eqGuardType P.depth T && aei P 0 (P.fieldsOf T).toList l l'
section
variable {P:Program} {w0:World} {N:Nat} {env:Env} {objs:aG} {o:Oper}
theorem qK {w:World} {T:TypeId} {l l':List TV} {vs vs':Array Value} (hT:aex P T l l'=true) (h1:Rep w objs (.agg l) (.agg vs)) (h2:Rep w objs (.agg l') (.agg vs')):(Op.equalIn 10000 T (.agg vs) (.agg vs')).run P w=.ok (eqL l l') w:=by
 simp only[aex,Zq,Z9] at hT
 obtain⟨⟨⟨g1,g2⟩,_⟩,g4⟩:=hT
 have hu:P.underlying T=some (.struct (P.fieldsOf T)):=by
   unfold Program.fieldsOf
   split at g1
   ·rename_i fs hf;rw[hf]
   ·cases g1
 rw[show (10000:Nat)=9998+1+1 from rfl,run_equalIn_agg w (9998+1) T _ _ hu g2]
 have key:∀{l:List TV} {vs:Array Value},Rep w objs (.agg l) (.agg vs)->∀j t,l[j]?=some t->∃v,vs[0+j]?=some v/\Rep w objs t v:=fun h j t hj=>by
   cases h with
   | agg _ _ hi hl hr =>
     have hjl:=(List.getElem?_eq_some_iff.1 hj).1
     rw[hl] at hjl
     exact⟨_,by rw[ZY];exact Z6 hjl,hr j t _ hj (Z6 hjl)⟩
 exact nr 9998 _ _ _ 0 l l' g4 (key h1) (key h2)
theorem rV {w:World} {l:List TV} {v:Value} (h:Rep w objs (.agg l) v):∃vs,v=.agg vs:=by cases h;exact⟨_,rfl⟩
section
variable {T t2:TypeId} {x y:Operand} {l l':List TV}
theorem afe (ho:o.op=.binOp .eql T x y t2) (hx:ev env x=some (.agg l)) (hy:ev env y=some (.agg l')) (hT:aex P T l l'=true):ba P w0 env objs o (.bool (eqL l l')):=aO fun a w _ hop=>by
 have h1:=hop x (by simp[ho,Op.operands]) _ hx
 have h2:=hop y (by simp[ho,Op.operands]) _ hy
 obtain⟨vs,hv⟩:=rV h1
 obtain⟨vs',hv'⟩:=rV h2
 rw[hv] at h1
 rw[hv'] at h2
 have hg:P.eqGuardType P.depth T=false:=by
   simp only[aex,Zq,Z9] at hT
   exact hT.1.2
 refine⟨.bool (eqL l l'), ?_,.bool _⟩
 simp only[execOp,ho,hv,hv']
 refine dq ?_
 simp only[ZE,run_eqGuard_agg w _ T x y vs vs' hg,Zz,run_eql_struct,qK hT h1 h2]
theorem afk (ho:o.op=.binOp .neq T x y t2) (hx:ev env x=some (.agg l)) (hy:ev env y=some (.agg l')) (hT:aex P T l l'=true):ba P w0 env objs o (.bool (!(eqL l l'))):=aO fun a w _ hop=>by
 have h1:=hop x (by simp[ho,Op.operands]) _ hx
 have h2:=hop y (by simp[ho,Op.operands]) _ hy
 obtain⟨vs,hv⟩:=rV h1
 obtain⟨vs',hv'⟩:=rV h2
 rw[hv] at h1
 rw[hv'] at h2
 have hg:P.eqGuardType P.depth T=false:=by
   simp only[aex,Zq,Z9] at hT
   exact hT.1.2
 refine⟨.bool (!(eqL l l')), ?_,.bool _⟩
 simp only[execOp,ho,hv,hv']
 refine dq ?_
 simp only[ZE,run_eqGuard_agg w _ T x y vs vs' hg,Zz,run_neq_struct,qK hT h1 h2]
end
section
variable {Q:Exit->Act->World->Prop} {ops:Array Oper} {rest:List Oper} {d T0:Nat} {pos:String} {af:Array Edge} {g:Option (Nat×Bool)} {T t2:TypeId} {x y:Operand} {l l':List TV}
variable {K:Env->Prop}
end
end
theorem agu (a:Array UInt8):(ByteArray.mk a).size=a.size:=rfl
section
structure Yd (P:Program) (w0:World) (env:Env) (objs:aG) (o:Oper) (tv:TV):Prop where
 go:ba P w0 env objs o tv
variable {P:Program} {w0:World} {N:Nat} {Q:Exit->Act->World->Prop} {env:Env} {objs:aG} {ops:Array Oper} {rest:List Oper} {d T0:Nat} {dd:Option Nat} {pos:String} {af:Array Edge} {g:Option (Nat×Bool)}
theorem abb {x:Operand} {tv:TV} (hx:ev env x=some tv):Yd P w0 env objs ⟨dd,.move x,T0,pos,af,g⟩ (tv):=⟨aev rfl hx⟩
theorem rD {x:Operand} {tv:TV} (hx:ev env x=some tv):Yd P w0 env objs ⟨dd,.assign x,T0,pos,af,g⟩ (tv):=⟨yP rfl hx⟩
theorem yB {c x y:Operand} {tv cv:TV} (hc:ev env c=some cv) (he:cv=.bool true) (hx:ev env x=some tv):Yd P w0 env objs ⟨dd,.pick c x y,T0,pos,af,g⟩ (tv):=⟨adH rfl hc he hx⟩
theorem yy {c x y:Operand} {tv cv:TV} (hc:ev env c=some cv) (he:cv=.bool false) (hx:ev env y=some tv):Yd P w0 env objs ⟨dd,.pick c x y,T0,pos,af,g⟩ (tv):=⟨adm rfl hc he hx⟩
theorem ur {T:TypeId} {x:Operand} {c:TV} {rr:List TV} {s b m j off:Nat} {rows:List (List TV)} {r0:List TV} (hA:agT T=false) (hT:ju P T=true) (hx:ev env x=some (.me s b m j off)) (hm:(s,b,aV.row m rows)∈objs) (hr:rows[j]?=some r0) (hl:r0.drop off=c::rr):Yd P w0 env objs ⟨dd,.load T x,T0,pos,af,g⟩ (c):=⟨aaW rfl hT hx (fun _=>.me s b m j off rows r0 hm hr) hl⟩
theorem pP {T:TypeId} {x:Operand} {c:TV} {rr:List TV} {f:Nat} {l:List TV} (hA:agT T=false) (hT:ju P T=true) (hx:ev env x=some (.cp f l)) (hl:l=c::rr):Yd P w0 env objs ⟨dd,.load T x,T0,pos,af,g⟩ (c):=⟨aaW rfl hT hx (fun _=>.cp f l) hl⟩
theorem oX {T:TypeId} {x:Operand} {c:TV} {rr:List TV} {s b off:Nat} {cells:List TV} (hA:agT T=false) (hT:ju P T=true) (hx:ev env x=some (.mp s b off)) (hm:(s,b,aV.box cells)∈objs) (hl:cells.drop off=c::rr):Yd P w0 env objs ⟨dd,.load T x,T0,pos,af,g⟩ (c):=⟨aaW rfl hT hx (fun _=>.mp s b off cells hm) hl⟩
theorem kG {T:TypeId} {x:Operand} {tv tv2:TV} {i:Nat} (hx:ev env x=some tv) (hF:pV P T i=true) (ht:afN (ofT T i) tv=some tv2):Yd P w0 env objs ⟨dd,.fieldAddr T x i,T0,pos,af,g⟩ (tv2):=⟨vU rfl hx hF ht⟩
theorem ko {T:TypeId} {x i:Operand} {f m:Nat} {rows:List (List TV)} {kk:IntKind} {n:Int} {j:Nat} {r:List TV} (hx:ev env x=some (.sl f m rows)) (hi:ev env i=some (.int kk n)) (hT:P.underlying T=some (.slice (P.elem T))) (hI:(P.info? (P.elem T)).isSome=true) (hm:P.cellsOf (P.elem T)=m) (hm0:Nat.blt 0 m=true) (hn:n=(j:Int)) (hr:rows[j]?=some r):Yd P w0 env objs ⟨dd,.indexAddr T x i,T0,pos,af,g⟩ (.cp f r):=⟨wY rfl hx hi hT hI hm hm0 hn hr⟩
theorem kh {T:TypeId} {x i:Operand} {s b off len m:Nat} {rows:List (List TV)} {kk:IntKind} {n:Int} {j jj:Nat} (hx:ev env x=some (.ms s b off len)) (hi:ev env i=some (.int kk n)) (hobj:(s,b,aV.row m rows)∈objs) (hT:P.underlying T=some (.slice (P.elem T))) (hI:(P.info? (P.elem T)).isSome=true) (hm:P.cellsOf (P.elem T)=m) (hn:n=(j:Int)) (hk:j<len) (hkk:off+j=jj):Yd P w0 env objs ⟨dd,.indexAddr T x i,T0,pos,af,g⟩ (.me s b m jj 0):=⟨hkk ▸ ql rfl hx hi hobj hT hI hm hn hk⟩
theorem ws {x:Operand} {t:TypeId} {s:ByteArray} (hx:ev env x=some (.str s)) (hT:P.underlying t=some .string):Yd P w0 env objs ⟨dd,.call { callee:=.builtin .len,args:=#[x],argTypes:=#[t] },T0,pos,af,g⟩ (.int .i64 (s.size:Int)):=⟨afL rfl hx hT⟩
theorem sK {x:Operand} {t:TypeId} {f m n:Nat} {rows:List (List TV)} (hx:ev env x=some (.sl f m rows)) (hT:P.underlying t=some (.slice (P.elem t))) (hn:rows.length=n):Yd P w0 env objs ⟨dd,.call { callee:=.builtin .len,args:=#[x],argTypes:=#[t] },T0,pos,af,g⟩ (.int .i64 (n:Int)):=⟨adV rfl hx hT hn⟩
theorem xQ {x:Operand} {t:TypeId} {s b off len:Nat} (hx:ev env x=some (.ms s b off len)) (hT:P.underlying t=some (.slice (P.elem t))):Yd P w0 env objs ⟨dd,.call { callee:=.builtin .len,args:=#[x],argTypes:=#[t] },T0,pos,af,g⟩ (.int .i64 (len:Int)):=⟨adZ rfl hx hT⟩
theorem qO {x:Operand} {t:TypeId} (hx:ev env x=some .nils) (hT:P.underlying t=some (.slice (P.elem t))):Yd P w0 env objs ⟨dd,.call { callee:=.builtin .len,args:=#[x],argTypes:=#[t] },T0,pos,af,g⟩ (.int .i64 0):=⟨aac rfl hx hT⟩
theorem afx {t t2:TypeId} {x y:Operand} {k:IntKind} {m n:Int} (hx:ev env x=some (.int k m)) (hy:ev env y=some (.int k n)):Yd P w0 env objs ⟨dd,.binOp .eql t x y t2,T0,pos,af,g⟩ (.bool (decide (m=n))):=⟨ahm rfl hx hy⟩
theorem afF {t t2:TypeId} {x y:Operand} {k:IntKind} {m n:Int} (hx:ev env x=some (.int k m)) (hy:ev env y=some (.int k n)):Yd P w0 env objs ⟨dd,.binOp .neq t x y t2,T0,pos,af,g⟩ (.bool (decide (m≠n))):=⟨ah8 rfl hx hy⟩
theorem afB {t t2:TypeId} {x y:Operand} {k:IntKind} {m n:Int} (hx:ev env x=some (.int k m)) (hy:ev env y=some (.int k n)):Yd P w0 env objs ⟨dd,.binOp .lss t x y t2,T0,pos,af,g⟩ (.bool (decide (m<n))):=⟨ahM rfl hx hy⟩
theorem afi {t t2:TypeId} {x y:Operand} {k:IntKind} {m n:Int} (hx:ev env x=some (.int k m)) (hy:ev env y=some (.int k n)):Yd P w0 env objs ⟨dd,.binOp .leq t x y t2,T0,pos,af,g⟩ (.bool (decide (m<=n))):=⟨ah2 rfl hx hy⟩
theorem afp {t t2:TypeId} {x y:Operand} {k:IntKind} {m n:Int} (hx:ev env x=some (.int k m)) (hy:ev env y=some (.int k n)):Yd P w0 env objs ⟨dd,.binOp .gtr t x y t2,T0,pos,af,g⟩ (.bool (decide (n<m))):=⟨ahQ rfl hx hy⟩
theorem aeV {t t2:TypeId} {x y:Operand} {k:IntKind} {m n:Int} (hx:ev env x=some (.int k m)) (hy:ev env y=some (.int k n)):Yd P w0 env objs ⟨dd,.binOp .geq t x y t2,T0,pos,af,g⟩ (.bool (decide (n<=m))):=⟨aif rfl hx hy⟩
theorem aeI {t t2:TypeId} {x y:Operand} {k:IntKind} {m n c:Int} (hx:ev env x=some (.int k m)) (hy:ev env y=some (.int k n)) (hc:k.wrap (m+n)=c):Yd P w0 env objs ⟨dd,.binOp .add t x y t2,T0,pos,af,g⟩ (.int k c):=⟨ahx rfl hx hy hc⟩
theorem afz {t t2:TypeId} {x y:Operand} {k:IntKind} {m n c:Int} (hx:ev env x=some (.int k m)) (hy:ev env y=some (.int k n)) (hc:k.wrap (m - n)=c):Yd P w0 env objs ⟨dd,.binOp .sub t x y t2,T0,pos,af,g⟩ (.int k c):=⟨ahd rfl hx hy hc⟩
theorem afj {t t2:TypeId} {x y:Operand} {k:IntKind} {m n c:Int} (hx:ev env x=some (.int k m)) (hy:ev env y=some (.int k n)) (hc:k.wrap (m * n)=c):Yd P w0 env objs ⟨dd,.binOp .mul t x y t2,T0,pos,af,g⟩ (.int k c):=⟨aht rfl hx hy hc⟩
theorem pa {T:TypeId} {x i:Operand} {s:ByteArray} {kk:IntKind} {n:Int} {j:Nat} (hx:ev env x=some (.str s)) (hi:ev env i=some (.int kk n)) (hT:P.underlying T=some .string) (hn:n=(j:Int)) (hk:j<s.size):Yd P w0 env objs ⟨dd,.index T x i,T0,pos,af,g⟩ (.int .u8 (bat s j)):=⟨aco rfl hx hi hT hn hk⟩
theorem acz {t:TypeId} {x:Operand} {v:TV} (hx:ev env x=some v) (he:v=.bool true):Yd P w0 env objs ⟨dd,.unOp .not t x,T0,pos,af,g⟩ (.bool false):=⟨wX (b:=true) rfl (he ▸ hx)⟩
theorem aba {t:TypeId} {x:Operand} {v:TV} (hx:ev env x=some v) (he:v=.bool false):Yd P w0 env objs ⟨dd,.unOp .not t x,T0,pos,af,g⟩ (.bool true):=⟨wX (b:=false) rfl (he ▸ hx)⟩
theorem agf {t:TypeId} {x:Operand} {p:Prop} {i:Decidable p} {v:TV} (hx:ev env x=some v) (he:v=.bool (@decide p i)):Yd P w0 env objs ⟨dd,.unOp .not t x,T0,pos,af,g⟩ (.bool (decide (¬ p))):=⟨ah6 rfl (he ▸ hx)⟩
theorem acj {t:TypeId} {x:Operand} {b:Bool} {v:TV} (hx:ev env x=some v) (he:v=.bool b):Yd P w0 env objs ⟨dd,.unOp .not t x,T0,pos,af,g⟩ (.bool (!b)):=⟨wX rfl (he ▸ hx)⟩
theorem abg {t t2:TypeId} {x y:Operand} {s u:ByteArray} (hx:ev env x=some (.str s)) (hy:ev env y=some (.str u)):Yd P w0 env objs ⟨dd,.binOp .eql t x y t2,T0,pos,af,g⟩ (.bool (decide (s=u))):=⟨afr rfl hx hy⟩
theorem acb {t t2:TypeId} {x y:Operand} {s u:ByteArray} (hx:ev env x=some (.str s)) (hy:ev env y=some (.str u)):Yd P w0 env objs ⟨dd,.binOp .neq t x y t2,T0,pos,af,g⟩ (.bool (decide (s≠u))):=⟨afW rfl hx hy⟩
theorem mC {src dst:TypeId} {x:Operand} {k k2:IntKind} {m c:Int} (hx:ev env x=some (.int k m)) (hk:kdT dst=some k2) (hs:(P.underlying src).isSome=true) (hd:P.underlying dst=some (.int k2)) (hc:k2.wrap m=c):Yd P w0 env objs ⟨dd,.convert src dst x,T0,pos,af,g⟩ (.int k2 c):=⟨zm rfl hx hk hs hd hc⟩
theorem i9 {x:Operand} {f:Nat} {l:List TV} (hx:ev env x=some (.cp f l)):Yd P w0 env objs ⟨dd,.nilCheck x,T0,pos,af,g⟩ (.cp f l):=⟨mE rfl hx (fun _=>.cp f l)⟩
theorem i7 {x:Operand} {s b off:Nat} {cells:List TV} (hx:ev env x=some (.mp s b off)) (hm:(s,b,aV.box cells)∈objs):Yd P w0 env objs ⟨dd,.nilCheck x,T0,pos,af,g⟩ (.mp s b off):=⟨mE rfl hx (fun _=>.mp s b off cells hm)⟩
theorem lF {x:Operand} {s b m j off:Nat} {rows:List (List TV)} {r0:List TV} (hx:ev env x=some (.me s b m j off)) (hm:(s,b,aV.row m rows)∈objs) (hr:rows[j]?=some r0):Yd P w0 env objs ⟨dd,.nilCheck x,T0,pos,af,g⟩ (.me s b m j off):=⟨mE rfl hx (fun _=>.me s b m j off rows r0 hm hr)⟩
theorem lr {T:TypeId} {x:Operand} {out:List TV} {s b m j off:Nat} {rows:List (List TV)} {r0:List TV} (hA:agT T=true) (hT:ki P T=true) (hi:(P.info? T).isSome=true) (hs:P.cellsOf T=szT T) (hx:ev env x=some (.me s b m j off)) (hm:(s,b,aV.row m rows)∈objs) (hr:rows[j]?=some r0) (htk:gO (szT T) (r0.drop off) out):Yd P w0 env objs ⟨dd,.load T x,T0,pos,af,g⟩ (.agg out):=⟨gc rfl hT hi hs hx (fun _=>.me s b m j off rows r0 hm hr) htk⟩
theorem ja {T:TypeId} {x:Operand} {out:List TV} {f:Nat} {l:List TV} (hA:agT T=true) (hT:ki P T=true) (hi:(P.info? T).isSome=true) (hs:P.cellsOf T=szT T) (hx:ev env x=some (.cp f l)) (htk:gO (szT T) (l) out):Yd P w0 env objs ⟨dd,.load T x,T0,pos,af,g⟩ (.agg out):=⟨gc rfl hT hi hs hx (fun _=>.cp f l) htk⟩
theorem lz {T:TypeId} {x:Operand} {out:List TV} {s b off:Nat} {cells:List TV} (hA:agT T=true) (hT:ki P T=true) (hi:(P.info? T).isSome=true) (hs:P.cellsOf T=szT T) (hx:ev env x=some (.mp s b off)) (hm:(s,b,aV.box cells)∈objs) (htk:gO (szT T) (cells.drop off) out):Yd P w0 env objs ⟨dd,.load T x,T0,pos,af,g⟩ (.agg out):=⟨gc rfl hT hi hs hx (fun _=>.mp s b off cells hm) htk⟩
theorem oM {x:Operand} {i:Nat} {l:List TV} {u:TV} (hx:ev env x=some (.tup l)) (ht:l[i]?=some u):Yd P w0 env objs ⟨dd,.extract x i,T0,pos,af,g⟩ (u):=⟨aaR rfl hx ht⟩
theorem aik {t t2:TypeId} {x y:Operand} {k:IntKind} {m n:Int} (hx:ev env x=some (.int k m)) (hy:ev env y=some (.int k n)):Yd P w0 env objs ⟨dd,.binOp .or t x y t2,T0,pos,af,g⟩ (.int k (orI k m n)):=⟨aiy rfl hx hy⟩
theorem af2 {t t2:TypeId} {x y:Operand} {k:IntKind} {m n:Int} (hx:ev env x=some (.int k m)) (hy:ev env y=some (.int k n)):Yd P w0 env objs ⟨dd,.binOp .and t x y t2,T0,pos,af,g⟩ (.int k (ail k m n)):=⟨aib rfl hx hy⟩
theorem aaH {T:TypeId} {x:Operand} {i:Nat} {l:List TV} {u:TV} (hx:ev env x=some (.agg l)) (hF:pV P T i=true) (hS:ju P ((P.fieldsOf T).getD i default).type=true) (ht:l[ofT T i]?=some u):Yd P w0 env objs ⟨dd,.field T x i,T0,pos,af,g⟩ (u):=⟨afT rfl hx hF hS ht⟩
theorem qL {T:TypeId} {x:Operand} {s:ByteArray} {lo hi:Operand} {k1 k2:IntKind} {i j:Nat} {m n:Int} (hx:ev env x=some (.str s)) (hlo:ev env lo=some (.int k1 m)) (hhi:ev env hi=some (.int k2 n)) (hT:P.underlying T=some .string) (hm:m=(i:Int)) (hn:n=(j:Int)) (h1:i<=j) (h2:j<=s.size):Yd P w0 env objs ⟨dd,.slice T x (some lo) (some hi) none,T0,pos,af,g⟩ (.str (s.extract i j)):=⟨zi rfl hx hlo hhi hT hm hn h1 h2⟩
theorem tV {T:TypeId} {x:Operand} {s:ByteArray} {lo:Operand} {k1:IntKind} {i:Nat} {m:Int} (hx:ev env x=some (.str s)) (hlo:ev env lo=some (.int k1 m)) (hT:P.underlying T=some .string) (hm:m=(i:Int)) (h1:i<=s.size):Yd P w0 env objs ⟨dd,.slice T x (some lo) none none,T0,pos,af,g⟩ (.str (s.extract i s.size)):=⟨aa2 rfl hx hlo hT hm h1⟩
theorem ua {T:TypeId} {x:Operand} {s:ByteArray} {hi:Operand} {k2:IntKind} {j:Nat} {n:Int} (hx:ev env x=some (.str s)) (hhi:ev env hi=some (.int k2 n)) (hT:P.underlying T=some .string) (hn:n=(j:Int)) (h2:j<=s.size):Yd P w0 env objs ⟨dd,.slice T x none (some hi) none,T0,pos,af,g⟩ (.str (s.extract 0 j)):=⟨abp rfl hx hhi hT hn h2⟩
theorem agD {t t2:TypeId} {x y:Operand} {k:IntKind} {m n c:Int} (hx:ev env x=some (.int k m)) (hy:ev env y=some (.int k n)) (hn:n≠0) (hc:k.wrap (m.tdiv n)=c):Yd P w0 env objs ⟨dd,.binOp .quo t x y t2,T0,pos,af,g⟩ (.int k c):=⟨aig rfl hx hy hn hc⟩
theorem agd {t t2:TypeId} {x y:Operand} {k:IntKind} {m n c:Int} (hx:ev env x=some (.int k m)) (hy:ev env y=some (.int k n)) (hn:n≠0) (hc:m.tmod n=c):Yd P w0 env objs ⟨dd,.binOp .rem t x y t2,T0,pos,af,g⟩ (.int k c):=⟨ahK rfl hx hy hn hc⟩
theorem abs {t t2:TypeId} {x y:Operand} {s u:ByteArray} (hx:ev env x=some (.str s)) (hy:ev env y=some (.str u)) (hl:s.size+u.size<=9223372036854775807):Yd P w0 env objs ⟨dd,.binOp .add t x y t2,T0,pos,af,g⟩ (.str (s++u)):=⟨afC rfl hx hy hl⟩
theorem acB {t t2:TypeId} {x y:Operand} {b c:Bool} (hx:ev env x=some (.bool b)) (hy:ev env y=some (.bool c)) (hu:P.underlying t=some .bool):Yd P w0 env objs ⟨dd,.binOp .eql t x y t2,T0,pos,af,g⟩ (.bool (b == c)):=⟨ae0 rfl hx hy hu⟩
theorem abP {t t2:TypeId} {x y:Operand} {b c:Bool} (hx:ev env x=some (.bool b)) (hy:ev env y=some (.bool c)) (hu:P.underlying t=some .bool):Yd P w0 env objs ⟨dd,.binOp .neq t x y t2,T0,pos,af,g⟩ (.bool (b != c)):=⟨ae5 rfl hx hy hu⟩
theorem agP {t t2:TypeId} {x y:Operand} {k k2:IntKind} {m n:Int} (hx:ev env x=some (.int k m)) (hy:ev env y=some (.int k2 n)) (hn:0<=n):Yd P w0 env objs ⟨dd,.binOp .shl t x y t2,T0,pos,af,g⟩ (.int k (ag9 k m n)):=⟨ahe rfl hx hy hn⟩
theorem abl {T t2:TypeId} {x y:Operand} {l l':List TV} (hx:ev env x=some (.agg l)) (hy:ev env y=some (.agg l')) (hT:aex P T l l'=true):Yd P w0 env objs ⟨dd,.binOp .eql T x y t2,T0,pos,af,g⟩ (.bool (eqL l l')):=⟨afe rfl hx hy hT⟩
theorem aaI {T t2:TypeId} {x y:Operand} {l l':List TV} (hx:ev env x=some (.agg l)) (hy:ev env y=some (.agg l')) (hT:aex P T l l'=true):Yd P w0 env objs ⟨dd,.binOp .neq T x y t2,T0,pos,af,g⟩ (.bool (!(eqL l l'))):=⟨afk rfl hx hy hT⟩
theorem o_y {op:Op} {tv:TV} (hy:Yd P w0 env objs ⟨some d,op,T0,pos,af,g⟩ tv) (hN:Nat.blt d N=true) (h:AL P w0 N ops Q rest ((d,tv)::env) objs):AO P w0 N ops Q ⟨some d,op,T0,pos,af,g⟩ rest env objs:=wu rfl hN hy.go h
theorem d_y {K:Env->Prop} {op:Op} {tv:TV} (hy:Yd P w0 env objs ⟨some d,op,T0,pos,af,g⟩ tv) (hN:Nat.blt d N=true) (h:DR P w0 N ops objs K rest ((d,tv)::env)):DO P w0 N ops objs K ⟨some d,op,T0,pos,af,g⟩ rest env:=⟨fun hgr=>.run _ _ _ _ _ rfl hN hgr hy.go h⟩
theorem u_y {K:Env->Prop} {op:Op} {tv:TV} (hy:∀objs,Yd P w0 env objs ⟨some d,op,T0,pos,af,none⟩ tv) (hN:Nat.blt d N=true) (h:DU P w0 N K rest ((d,tv)::env)):DU P w0 N K (⟨some d,op,T0,pos,af,none⟩::rest) env:=.run _ _ _ _ _ rfl hN rfl (fun o=>(hy o).go) h
end
structure Bx (B:Prop):Prop where
 go:B
theorem y_ {A:Prop} (h:A:=by(first|(first|((with_reducible first|apply abb|apply rD|apply i9);rfl)|((with_reducible apply yB);rfl;(with_reducible rfl);rfl)|((with_reducible apply yy);rfl;(with_reducible rfl);rfl)|((with_reducible apply ur);rfl;kernel_rfl;rfl;(repeat (first|with_reducible exact mh|with_reducible refine mt ?_));(first|(with_reducible assumption)|(refine aK ?_;omega)|(refine f5 ?_;simp only[ZA,Zf];omega)|exact rfl|assumption);rfl)|((with_reducible apply pP);rfl;kernel_rfl;rfl;rfl)|((with_reducible apply oX);rfl;kernel_rfl;rfl;(repeat (first|with_reducible exact mh|with_reducible refine mt ?_));rfl)|((with_reducible apply kG);rfl;kernel_rfl;rfl)|((with_reducible apply ko);rfl;rfl;kernel_rfl;kernel_rfl;kernel_rfl;rfl;(first|(with_reducible first|exact rfl|exact qk|exact qj|exact qi|exact qD)|exact rfl|exact dl (by omega)|omega);(first|(with_reducible assumption)|(refine aK ?_;omega)|(refine f5 ?_;simp only[ZA,Zf];omega)|exact rfl|assumption))|((with_reducible apply kh);rfl;rfl;(repeat (first|with_reducible exact mh|with_reducible refine mt ?_));kernel_rfl;kernel_rfl;kernel_rfl;(first|(with_reducible first|exact rfl|exact qk|exact qj|exact qi|exact qD)|exact rfl|exact dl (by omega)|omega);(first|assumption|omega);(first|with_reducible exact ZY _|rfl))|((with_reducible apply ws);rfl;kernel_rfl)|((with_reducible apply sK);rfl;kernel_rfl;(first|exact Zf _|rfl))|((with_reducible apply xQ);rfl;kernel_rfl)|((with_reducible apply qO);rfl;kernel_rfl)|((with_reducible first|apply afx|apply afF|apply afB|apply afi|apply afp|apply aeV|apply oM|apply aik|apply af2);rfl;rfl)|((with_reducible first|apply aeI|apply afz|apply afj);rfl;rfl;(first|((with_reducible first|refine aeD ?_|refine ael ?_|refine aeA ?_|refine uA ?_|refine IntWalk.i64_in _ ?_|refine aez _ ?_);omega)|((with_reducible refine IntWalk.i64_in _ ?_);omega)|(with_reducible assumption)|exact rfl))|((with_reducible apply pa);rfl;rfl;kernel_rfl;(first|(with_reducible first|exact rfl|exact qk|exact qj|exact qi|exact qD)|exact rfl|exact dl (by omega)|omega);(first|assumption|omega))|((with_reducible apply acz);rfl;(with_reducible rfl))|((with_reducible apply aba);rfl;(with_reducible rfl))|((with_reducible apply agf);rfl;(with_reducible rfl))|((with_reducible apply acj);rfl;(with_reducible rfl))|((with_reducible first|apply abg|apply acb);rfl;rfl)|((with_reducible apply mC);rfl;rfl;kernel_rfl;kernel_rfl;(first|((with_reducible first|refine aeD ?_|refine ael ?_|refine aeA ?_|refine uA ?_|refine IntWalk.i64_in _ ?_|refine aez _ ?_);omega)|((with_reducible refine IntWalk.i64_in _ ?_);omega)|(with_reducible assumption)|exact rfl))|((with_reducible apply i7);rfl;(repeat (first|with_reducible exact mh|with_reducible refine mt ?_)))|((with_reducible apply lF);rfl;(repeat (first|with_reducible exact mh|with_reducible refine mt ?_));(first|(with_reducible assumption)|(refine aK ?_;omega)|(refine f5 ?_;simp only[ZA,Zf];omega)|exact rfl|assumption))|((with_reducible apply lr);rfl;kernel_rfl;kernel_rfl;kernel_rfl;rfl;(repeat (first|with_reducible exact mh|with_reducible refine mt ?_));(first|(with_reducible assumption)|(refine aK ?_;omega)|(refine f5 ?_;simp only[ZA,Zf];omega)|exact rfl|assumption);(first|exact .zero _|exact .succ _ _ _ _ (.zero _)|exact .succ _ _ _ _ (.succ _ _ _ _ (.zero _))|exact .succ _ _ _ _ (.succ _ _ _ _ (.succ _ _ _ _ (.zero _)))|exact .succ _ _ _ _ (.succ _ _ _ _ (.succ _ _ _ _ (.succ _ _ _ _ (.zero _))))|(repeat (first|exact .zero _|apply gO.succ))))|((with_reducible apply ja);rfl;kernel_rfl;kernel_rfl;kernel_rfl;rfl;(first|exact .zero _|exact .succ _ _ _ _ (.zero _)|exact .succ _ _ _ _ (.succ _ _ _ _ (.zero _))|exact .succ _ _ _ _ (.succ _ _ _ _ (.succ _ _ _ _ (.zero _)))|exact .succ _ _ _ _ (.succ _ _ _ _ (.succ _ _ _ _ (.succ _ _ _ _ (.zero _))))|(repeat (first|exact .zero _|apply gO.succ))))|((with_reducible apply lz);rfl;kernel_rfl;kernel_rfl;kernel_rfl;rfl;(repeat (first|with_reducible exact mh|with_reducible refine mt ?_));(first|exact .zero _|exact .succ _ _ _ _ (.zero _)|exact .succ _ _ _ _ (.succ _ _ _ _ (.zero _))|exact .succ _ _ _ _ (.succ _ _ _ _ (.succ _ _ _ _ (.zero _)))|exact .succ _ _ _ _ (.succ _ _ _ _ (.succ _ _ _ _ (.succ _ _ _ _ (.zero _))))|(repeat (first|exact .zero _|apply gO.succ))))|((with_reducible apply aaH);rfl;kernel_rfl;kernel_rfl;rfl)|((with_reducible apply qL);rfl;rfl;rfl;kernel_rfl;(first|(with_reducible first|exact rfl|exact qk|exact qj|exact qi|exact qD)|exact rfl|exact dl (by omega)|omega);(first|(with_reducible first|exact rfl|exact qk|exact qj|exact qi|exact qD)|exact rfl|exact dl (by omega)|omega);(first|assumption|omega);(first|assumption|omega))|((with_reducible apply tV);rfl;rfl;kernel_rfl;(first|(with_reducible first|exact rfl|exact qk|exact qj|exact qi|exact qD)|exact rfl|exact dl (by omega)|omega);(first|assumption|omega))|((with_reducible apply ua);rfl;rfl;kernel_rfl;(first|(with_reducible first|exact rfl|exact qk|exact qj|exact qi|exact qD)|exact rfl|exact dl (by omega)|omega);(first|assumption|omega))|((with_reducible apply agD);rfl;rfl;omega;(first|((with_reducible first|refine aeD ?_|refine ael ?_|refine aeA ?_|refine uA ?_|refine IntWalk.i64_in _ ?_|refine aez _ ?_);omega)|((with_reducible refine IntWalk.i64_in _ ?_);omega)|(with_reducible assumption)|exact rfl))|((with_reducible apply agd);rfl;rfl;omega;exact rfl)|((with_reducible apply abs);rfl;rfl;(first|assumption|omega|(simp only[ByteArray.size_append,agu,YU,Zy,YE];omega)))|((with_reducible first|apply acB|apply abP);rfl;rfl;kernel_rfl)|((with_reducible apply agP);rfl;rfl;omega)|((with_reducible first|apply abl|apply aaI);rfl;rfl;kernel_rfl))|fail)):A:=h
theorem yu_ {A:Prop} (h:A:=by(first|(intro objs;first|((with_reducible first|apply abb|apply rD|apply i9);rfl)|((with_reducible apply pP);rfl;kernel_rfl;rfl;rfl)|((with_reducible apply kG);rfl;kernel_rfl;rfl)|((with_reducible apply ko);rfl;rfl;kernel_rfl;kernel_rfl;kernel_rfl;rfl;(first|(with_reducible first|exact rfl|exact qk|exact qj|exact qi|exact qD)|exact rfl|exact dl (by omega)|omega);(first|(with_reducible assumption)|(refine aK ?_;omega)|(refine f5 ?_;simp only[ZA,Zf];omega)|exact rfl|assumption))|((with_reducible apply ws);rfl;kernel_rfl)|((with_reducible apply sK);rfl;kernel_rfl;(first|exact Zf _|rfl))|((with_reducible first|apply afx|apply afF|apply afB|apply afi|apply afp|apply aeV|apply oM);rfl;rfl)|((with_reducible first|apply aeI|apply afz|apply afj);rfl;rfl;(first|((with_reducible first|refine aeD ?_|refine ael ?_|refine aeA ?_|refine uA ?_|refine IntWalk.i64_in _ ?_|refine aez _ ?_);omega)|((with_reducible refine IntWalk.i64_in _ ?_);omega)|(with_reducible assumption)|exact rfl))|((with_reducible apply pa);rfl;rfl;kernel_rfl;(first|(with_reducible first|exact rfl|exact qk|exact qj|exact qi|exact qD)|exact rfl|exact dl (by omega)|omega);(first|assumption|omega))|((with_reducible apply mC);rfl;rfl;kernel_rfl;kernel_rfl;(first|((with_reducible first|refine aeD ?_|refine ael ?_|refine aeA ?_|refine uA ?_|refine IntWalk.i64_in _ ?_|refine aez _ ?_);omega)|((with_reducible refine IntWalk.i64_in _ ?_);omega)|(with_reducible assumption)|exact rfl))|((with_reducible apply ja);rfl;kernel_rfl;kernel_rfl;kernel_rfl;rfl;(first|exact .zero _|exact .succ _ _ _ _ (.zero _)|exact .succ _ _ _ _ (.succ _ _ _ _ (.zero _))|exact .succ _ _ _ _ (.succ _ _ _ _ (.succ _ _ _ _ (.zero _)))|exact .succ _ _ _ _ (.succ _ _ _ _ (.succ _ _ _ _ (.succ _ _ _ _ (.zero _))))|(repeat (first|exact .zero _|apply gO.succ)))))|fail)):A:=h
theorem rr_ {A:Prop} (h:A:=by(first|with_reducible rfl|fail)):A:=h
theorem dd_ {A:Prop} (h:A:=by(first|assumption|omega|fail)):A:=h
theorem ak {A B:Prop} (h:B) (hi:Bx B->A:=by(first|(intro hB;(with_reducible apply aeL);rfl;rfl;kernel_rfl;exact hB.go)|fail)):A:=hi ⟨h⟩
theorem jz {A B:Prop} (h:B) (hi:Bx B->A:=by(first|(intro hB;(with_reducible apply jn);rfl;rfl;kernel_rfl;kernel_rfl;rfl;kernel_rfl;rfl;rfl;rfl;rfl;exact hB.go)|fail)):A:=hi ⟨h⟩
theorem gK {A B:Prop} (h:B) (hi:Bx B->A:=by(first|(intro hB;(with_reducible apply af3);rfl;rfl;rfl;(first|(with_reducible first|exact rfl|exact qk|exact qj|exact qi|exact qD)|exact rfl|exact dl (by omega)|omega);kernel_rfl;kernel_rfl;rfl;rfl;kernel_rfl;omega;exact hB.go)|fail)):A:=hi ⟨h⟩
theorem aJ {A B:Prop} (h:B) (hi:Bx B->A:=by(first|(intro hB;(with_reducible apply ahz);rfl;rfl;rfl;exact hB.go)|fail)):A:=hi ⟨h⟩
theorem ef {A B:Prop} (h:B) (hi:Bx B->A:=by(first|(intro hB;(with_reducible apply ah9);rfl;rfl;kernel_rfl;kernel_rfl;rfl;kernel_rfl;rfl;rfl;rfl;rfl;exact hB.go)|fail)):A:=hi ⟨h⟩
theorem ag7 {A B:Prop} (h:B) (hi:Bx B->A:=by(first|(intro hB;(with_reducible apply ahD);rfl;rfl;kernel_rfl;kernel_rfl;rfl;kernel_rfl;rfl;rfl;rfl;rfl;exact hB.go)|fail)):A:=hi ⟨h⟩
theorem ac {A B:Prop} (h:B) (hi:Bx B->A:=by(first|(intro hB;(with_reducible apply zC);rfl;rfl;rfl;kernel_rfl;(repeat (first|with_reducible exact mh|with_reducible refine mt ?_));(first|exact .nil _|exact .put _ _ _ _ _ (.nil _)|exact .skip _ _ _ _ _ (.put _ _ _ _ _ (.nil _))|exact .skip _ _ _ _ _ (.skip _ _ _ _ _ (.put _ _ _ _ _ (.nil _)))|(repeat (first|exact .nil _|apply aW.put|apply aW.skip)));(repeat (first|with_reducible exact Upd.head _|with_reducible apply Upd.tail));kernel_rfl;exact hB.go)|fail)):A:=hi ⟨h⟩
theorem bD {A B:Prop} (h:B) (hi:Bx B->A:=by(first|(intro hB;(with_reducible apply aad);rfl;rfl;rfl;kernel_rfl;(repeat (first|with_reducible exact mh|with_reducible refine mt ?_));(first|(with_reducible assumption)|(refine aK ?_;omega)|(refine f5 ?_;simp only[ZA,Zf];omega)|exact rfl|assumption);(first|exact .nil _|exact .put _ _ _ _ _ (.nil _)|exact .skip _ _ _ _ _ (.put _ _ _ _ _ (.nil _))|exact .skip _ _ _ _ _ (.skip _ _ _ _ _ (.put _ _ _ _ _ (.nil _)))|(repeat (first|exact .nil _|apply aW.put|apply aW.skip)));kernel_rfl;rfl;(repeat (first|with_reducible exact Upd.head _|with_reducible apply Upd.tail));exact hB.go)|fail)):A:=hi ⟨h⟩
theorem vy {A B:Prop} (h:B) (hi:Bx B->A:=by(first|(intro hB;(with_reducible apply eD);rfl;rfl;rfl;kernel_rfl;(repeat (first|with_reducible exact mh|with_reducible refine mt ?_));(first|with_reducible assumption|exact aI _|exact aj _|exact aH _|exact Zf _|assumption|rfl);(first|(show List.length _=1;rfl)|(show List.length _=2;rfl)|(show List.length _=0;rfl)|(show List.length _=3;rfl)|(first|with_reducible assumption|exact aI _|exact aj _|exact aH _|exact Zf _|assumption|rfl));omega;rfl;(intro bq;(repeat (first|with_reducible exact Upd.head _|with_reducible apply Upd.tail)));exact hB.go)|fail)):A:=hi ⟨h⟩
theorem agU {A B:Prop} (h:B) (hi:Bx B->A:=by(first|(intro hB;(with_reducible apply aai);rfl;rfl;rfl;kernel_rfl;(repeat (first|with_reducible exact mh|with_reducible refine mt ?_));(with_reducible assumption);(first|assumption|omega);(first|(show List.length _=1;rfl)|(show List.length _=2;rfl)|(show List.length _=0;rfl)|(show List.length _=3;rfl)|(first|with_reducible assumption|exact aI _|exact aj _|exact aH _|exact Zf _|assumption|rfl));omega;(intro bq pq;(repeat (first|with_reducible exact Upd.head _|with_reducible apply Upd.tail)));exact hB.go)|fail)):A:=hi ⟨h⟩
theorem er {A B:Prop} (h:B) (hi:Bx B->A:=by(first|(intro hB;(with_reducible apply ae9);rfl;rfl;(repeat (first|exact TB.nil _|((with_reducible apply TB.cons);rfl;rfl;(first|exact .nil _|exact .put _ _ _ _ _ (.nil _)|exact .skip _ _ _ _ _ (.put _ _ _ _ _ (.nil _))|exact .skip _ _ _ _ _ (.skip _ _ _ _ _ (.put _ _ _ _ _ (.nil _)))|(repeat (first|exact .nil _|apply aW.put|apply aW.skip)));kernel_rfl)));kernel_rfl;kernel_rfl;exact hB.go)|fail)):A:=hi ⟨h⟩
theorem acO {A B:Prop} (h:B) (hi:Bx B->A:=by(first|(intro hB;(with_reducible apply afU);rfl;rfl;(repeat (first|exact TB.nil _|((with_reducible apply TB.cons);rfl;rfl;(first|exact .nil _|exact .put _ _ _ _ _ (.nil _)|exact .skip _ _ _ _ _ (.put _ _ _ _ _ (.nil _))|exact .skip _ _ _ _ _ (.skip _ _ _ _ _ (.put _ _ _ _ _ (.nil _)))|(repeat (first|exact .nil _|apply aW.put|apply aW.skip)));kernel_rfl)));kernel_rfl;kernel_rfl;exact hB.go)|fail)):A:=hi ⟨h⟩
theorem aem {A B:Prop} (h:B) (hi:Bx B->A:=by(first|(intro hB;(with_reducible apply zQ);rfl;rfl;rfl;(repeat (first|with_reducible exact mh|with_reducible refine mt ?_));kernel_rfl;kernel_rfl;kernel_rfl;(first|(with_reducible first|exact rfl|exact qk|exact qj|exact qi|exact qD)|exact rfl|exact dl (by omega)|omega);(first|assumption|omega);exact hB.go)|fail)):A:=hi ⟨h⟩
theorem zU {A B:Prop} (h:B) (hi:Bx B->A:=by(first|(intro hB;(with_reducible apply ve);rfl;rfl;rfl;kernel_rfl;kernel_rfl;(first|(with_reducible first|exact rfl|exact qk|exact qj|exact qi|exact qD)|exact rfl|exact dl (by omega)|omega);(first|assumption|omega);(first|(with_reducible assumption)|rfl);exact hB.go)|fail)):A:=hi ⟨h⟩
theorem lQ {A B:Prop} (h:B) (hi:Bx B->A:=by(first|(intro hB;(with_reducible apply uk);rfl;rfl;rfl;kernel_rfl;kernel_rfl;(first|(with_reducible first|exact rfl|exact qk|exact qj|exact qi|exact qD)|exact rfl|exact dl (by omega)|omega);(first|assumption|omega);(first|(with_reducible assumption)|rfl);exact hB.go)|fail)):A:=hi ⟨h⟩
theorem acJ {A B:Prop} (h:B) (hi:Bx B->A:=by(first|(intro hB;(with_reducible apply vd);rfl;rfl;rfl;kernel_rfl;kernel_rfl;kernel_rfl;(first|(with_reducible first|exact rfl|exact qk|exact qj|exact qi|exact qD)|exact rfl|exact dl (by omega)|omega);(first|assumption|omega);(first|(with_reducible assumption)|rfl);exact hB.go)|fail)):A:=hi ⟨h⟩
theorem nE {A B:Prop} (h:B) (hi:Bx B->A:=by(first|(intro hB;(with_reducible apply zR);rfl;(repeat (first|exact Evs.nil|((with_reducible apply Evs.cons);rfl)));exact hB.go)|fail)):A:=hi ⟨h⟩
theorem pk_ {A:Prop} (h:A:=by(first|((try dsimp only);(repeat (first|with_reducible exact bS.refl _|with_reducible exact bS.nil _|(apply bS.consE;(repeat (first|with_reducible exact yQ.head _|with_reducible apply yQ.tail));(first|with_reducible rfl|(focus (simp[aS,nts];done))|(focus (simp[aS,nts];omega))|rfl))|((fail_if_success (apply bS.consE));refine bS.drop ?_))))|fail)):A:=h
theorem nw_ {A:Prop} (h:A:=by(first|(repeat (first|exact cW.envNil|refine cW.envCons (by first|rfl|exact aid rfl (by first|omega|(simp;done)|(simp;omega))|exact ea rfl (by simp[*])|exact km rfl (by simp[*])|exact agW rfl (by simp[*])) ?_))|fail)):A:=h
theorem od_ {A:Prop} (h:A:=by(first|(repeat (first|exact cW.envNil|refine cW.envCons rfl ?_))|fail)):A:=h
theorem x_ {A:Prop} (h:A:=by(first|(first|exact .inl rfl|exact .inr rfl)|fail)):A:=h
theorem mm_ {A:Prop} (h:A:=by(first|((repeat (first|with_reducible exact mh|with_reducible refine mt ?_)))|fail)):A:=h
theorem kp_ {A:Prop} (h:A:=by(first|(repeat (first|exact j9.nil|(apply j9.cons;rfl)))|fail)):A:=h
structure Bk (_k:Nat) (B:Prop):Prop where
 go:B
theorem ab7 {P:Program} {w0:World} {N:Nat} {Q:Exit->Act->World->Prop} {env:Env} {objs:aG} {B:Prop} {k:Nat} {ops:Array Oper} {b:Bool} {y:Code} (_:Bk k B) (h:ahY (AW P w0 N (.seq (.region k ops b) y) Q env objs)):AW P w0 N (.seq (.region k ops b) y) Q env objs:=h.go
theorem W_ {A B:Prop} (h:B) (hi:Bx B->A:=by(first|(intro hB;(repeat1' (first|((with_reducible apply o_y);exact y_;rfl)|with_reducible refine dJ rfl ?_|(with_reducible first|apply d8|apply cP|apply gp|apply eK|apply du|apply eL|apply eI|apply gG|apply bP|apply(bE rfl)|apply bM|apply bZ|apply bN|apply dG)|refine jI rfl rfl rfl rr_ ?_|refine gM rfl rfl rfl rr_ rfl rfl rfl ?_|refine fc rfl rfl rfl rr_ rfl rfl ?_|refine oC rfl rfl rfl rr_ dd_ ?_|refine pK rfl rfl rfl rr_ dd_ ?_|refine cQ rfl rr_ ?_|refine cO rfl rr_ ?_|refine cw rfl rr_ dd_ ?_|refine cu rfl rr_ dd_ ?_));exact hB.go)|fail)):A:=hi ⟨h⟩
theorem V_ {A B:Prop} (h:B) (hi:Bx B->A:=by(first|(intro hB;(repeat1' (first|((with_reducible apply o_y);exact y_;rfl)|with_reducible refine dJ rfl ?_|(with_reducible first|apply d8|apply cP|apply gp|apply eK|apply du|apply eL|apply eI|apply gG|apply bP|apply(bE rfl)|apply bM|apply bZ|apply bN|apply dG)|refine jI rfl rfl rfl rr_ ?_|refine gM rfl rfl rfl rr_ rfl rfl rfl ?_|refine fc rfl rfl rfl rr_ rfl rfl ?_|refine oC rfl rfl rfl rr_ dd_ ?_|refine pK rfl rfl rfl rr_ dd_ ?_|refine cQ rfl rr_ ?_|refine cO rfl rr_ ?_|refine cw rfl rr_ dd_ ?_|refine cu rfl rr_ dd_ ?_|((with_reducible apply d_y);exact y_;rfl)|with_reducible refine dB (by kernel_rfl) (by kernel_rfl) ?_|with_reducible refine eV ?_|with_reducible refine dz ?_|with_reducible refine dC rfl ?_|refine eS rfl rfl rfl rr_ ?_|refine dx rfl rfl rfl rr_ rfl rfl rfl ?_|refine cG rfl rfl rfl rr_ rfl rfl ?_|refine iH rfl rfl rfl rr_ dd_ ?_|refine ir rfl rfl rfl rr_ dd_ ?_));exact hB.go)|fail)):A:=hi ⟨h⟩
theorem H_ {A B:Prop} (k:Nat) (h:B) (hi:Bk k B->A:=by(first|(intro hB;(repeat1' (first|(with_reducible refine ab7 hB ?_)|((with_reducible apply o_y);exact y_;rfl)|with_reducible refine dJ rfl ?_|(with_reducible first|apply d8|apply cP|apply gp|apply eK|apply du|apply eL|apply eI|apply gG|apply bP|apply(bE rfl)|apply bM|apply bZ|apply bN|apply dG)|refine jI rfl rfl rfl rr_ ?_|refine gM rfl rfl rfl rr_ rfl rfl rfl ?_|refine fc rfl rfl rfl rr_ rfl rfl ?_|refine oC rfl rfl rfl rr_ dd_ ?_|refine pK rfl rfl rfl rr_ dd_ ?_|refine cQ rfl rr_ ?_|refine cO rfl rr_ ?_|refine cw rfl rr_ dd_ ?_|refine cu rfl rr_ dd_ ?_));exact hB.go)|fail)):A:=hi ⟨h⟩
theorem HV_ {A B:Prop} (k:Nat) (h:B) (hi:Bk k B->A:=by(first|(intro hB;(repeat1' (first|(with_reducible refine ab7 hB ?_)|((with_reducible apply o_y);exact y_;rfl)|with_reducible refine dJ rfl ?_|(with_reducible first|apply d8|apply cP|apply gp|apply eK|apply du|apply eL|apply eI|apply gG|apply bP|apply(bE rfl)|apply bM|apply bZ|apply bN|apply dG)|refine jI rfl rfl rfl rr_ ?_|refine gM rfl rfl rfl rr_ rfl rfl rfl ?_|refine fc rfl rfl rfl rr_ rfl rfl ?_|refine oC rfl rfl rfl rr_ dd_ ?_|refine pK rfl rfl rfl rr_ dd_ ?_|refine cQ rfl rr_ ?_|refine cO rfl rr_ ?_|refine cw rfl rr_ dd_ ?_|refine cu rfl rr_ dd_ ?_|((with_reducible apply d_y);exact y_;rfl)|with_reducible refine dB (by kernel_rfl) (by kernel_rfl) ?_|with_reducible refine eV ?_|with_reducible refine dz ?_|with_reducible refine dC rfl ?_|refine eS rfl rfl rfl rr_ ?_|refine dx rfl rfl rfl rr_ rfl rfl rfl ?_|refine cG rfl rfl rfl rr_ rfl rfl ?_|refine iH rfl rfl rfl rr_ dd_ ?_|refine ir rfl rfl rfl rr_ dd_ ?_));exact hB.go)|fail)):A:=hi ⟨h⟩
structure Bc (p q B C:Prop):Prop where
 t:p->B
 f:q->C
theorem c_ {A B C p q:Prop} (h1:p->B) (h2:q->C) (hi:Bc p q B C->A:=by(first|(intro hB;first|refine eZ rfl rr_ hB.t hB.f|refine dQ rfl rr_ hB.t hB.f)|fail)):A:=hi ⟨h1,h2⟩
theorem g_ {A B C p q:Prop} (h1:p->B) (h2:q->C) (hi:Bc p q B C->A:=by(first|(intro hB;first|refine ew rfl rfl rfl rr_ hB.t hB.f|refine ed rfl rfl rfl rr_ hB.t hB.f|refine bX rfl rfl rfl rr_ hB.t hB.f|refine bF rfl rfl rfl rr_ hB.t hB.f)|fail)):A:=hi ⟨h1,h2⟩
theorem r1_ {A:Prop} (h:A:=by(first|(exact aN x_ rfl (.tmp _ _ rfl) fun _=>Fin.flat rfl)|fail)):A:=h
section
variable {P:Program} {w0:World} {G:World->Prop} {f:Nat} {args:List TV} {r:Nat->TV}
structure Cx (P:Program) (w0:World) (G:World->Prop) (f:Nat) (args:List TV) (r:Nat->TV) (B:Prop):Prop where
 hG:G w0
 hst:ay G
 ct:Ct P G f args r
 go:B
theorem abj {N:Nat} {Q:Exit->Act->World->Prop} {env:Env} {objs:aG} {ops:Array Oper} {rest:List Oper} {d T0:Nat} {pos:String} {af:Array Edge} {g:Option (Nat×Bool)} {xs:List Operand} {ts:Array TypeId} (hN:Nat.blt d N=true) (hc:gL P f=true) (hct:Ct P G f args r) (hargs:bU env objs xs args) (hG:G w0) (hst:ay G) (h:AL P w0 N ops Q rest ((d,r w0.heap.size)::env) objs):AO P w0 N ops Q ⟨some d,.call { callee:=.value (.func f),args:=xs.toArray,argTypes:=ts },T0,pos,af,g⟩ rest env objs:=mZ hN hc hargs hG hst hct h
theorem abV {N:Nat} {K:Env->Prop} {env:Env} {objs:aG} {ops:Array Oper} {rest:List Oper} {d T0:Nat} {pos:String} {af:Array Edge} {g:Option (Nat×Bool)} {xs:List Operand} {ts:Array TypeId} (hN:Nat.blt d N=true) (hc:gL P f=true) (hct:Ct P G f args r) (hargs:bU env objs xs args) (hG:G w0) (hst:ay G) (h:DR P w0 N ops objs K rest ((d,r w0.heap.size)::env)):DO P w0 N ops objs K ⟨some d,.call { callee:=.value (.func f),args:=xs.toArray,argTypes:=ts },T0,pos,af,g⟩ rest env:=aed hN hc hargs hG hst hct h
theorem ae {A B:Prop} (hG:G w0) (hst:ay G) (hct:Ct P G f args r) (h:B) (hi:Cx P w0 G f args r B->A:=by(first|(intro hB;(with_reducible apply abj);rfl;kernel_rfl;exact(Cx.ct hB);((repeat (first|exact bU.nil|((with_reducible apply bU.cons);rfl;exact .same _))));exact(Cx.hG hB);exact(Cx.hst hB);exact(Cx.go hB))|fail)):A:=hi ⟨hG,hst,hct,h⟩
theorem ai {A B:Prop} (hG:G w0) (hst:ay G) (hct:Ct P G f args r) (h:B) (hi:Cx P w0 G f args r B->A:=by(first|(intro hB;(with_reducible apply abV);rfl;kernel_rfl;exact(Cx.ct hB);((repeat (first|exact bU.nil|((with_reducible apply bU.cons);rfl;exact .same _))));exact(Cx.hG hB);exact(Cx.hst hB);exact(Cx.go hB))|fail)):A:=hi ⟨hG,hst,hct,h⟩
theorem wb {A B:Prop} (hG:G w0) (hst:ay G) (hct:Ct P G f args r) (h:B) (hi:Cx P w0 G f args r B->A:=by(first|(intro hB;(with_reducible apply abj);rfl;kernel_rfl;exact(Cx.ct hB);((repeat (first|exact bU.nil|((with_reducible apply bU.cons);rfl;(first|with_reducible exact cy.same _|((with_reducible apply cy.msAll);(repeat (first|with_reducible exact mh|with_reducible refine mt ?_));(first|with_reducible assumption|exact aI _|exact aj _|exact aH _|exact Zf _|assumption|rfl))|((with_reducible apply dS);(repeat (first|with_reducible exact mh|with_reducible refine mt ?_));(first|with_reducible assumption|exact aI _|exact aj _|exact aH _|exact Zf _|assumption|rfl))|((with_reducible apply cy.cut);exact cy.cp0 _ _;rfl))))));exact(Cx.hG hB);exact(Cx.hst hB);exact(Cx.go hB))|fail)):A:=hi ⟨hG,hst,hct,h⟩
theorem dv {A B:Prop} (hG:G w0) (hst:ay G) (hct:Ct P G f args r) (h:B) (hi:Cx P w0 G f args r B->A:=by(first|(intro hB;(with_reducible apply abV);rfl;kernel_rfl;exact(Cx.ct hB);((repeat (first|exact bU.nil|((with_reducible apply bU.cons);rfl;(first|with_reducible exact cy.same _|((with_reducible apply cy.msAll);(repeat (first|with_reducible exact mh|with_reducible refine mt ?_));(first|with_reducible assumption|exact aI _|exact aj _|exact aH _|exact Zf _|assumption|rfl))|((with_reducible apply dS);(repeat (first|with_reducible exact mh|with_reducible refine mt ?_));(first|with_reducible assumption|exact aI _|exact aj _|exact aH _|exact Zf _|assumption|rfl))|((with_reducible apply cy.cut);exact cy.cp0 _ _;rfl))))));exact(Cx.hG hB);exact(Cx.hst hB);exact(Cx.go hB))|fail)):A:=hi ⟨hG,hst,hct,h⟩
end
section
variable {P:Program} {w0:World} {N:Nat} {Q:Exit->Act->World->Prop} {env:Env} {objs:aG} {o:Oper}
theorem ahi {x y:Operand} {ts:Array TypeId} {k:IntKind} {m n:Int} (ho:o.op=.call { callee:=.builtin .min,args:=#[x,y],argTypes:=ts }) (hx:ev env x=some (.int k m)) (hy:ev env y=some (.int k n)):ba P w0 env objs o (.int k (if n<m then n else m)):=aO fun a w hw hop=>by
 have h0:=(hop x (by simp[ho,Op.operands,Call.operands]) _ hx).int_inv
 have h1:=(hop y (by simp[ho,Op.operands,Call.operands]) _ hy).int_inv
 refine⟨.int k (if n<m then n else m), ?_,.int _ _⟩
 simp only[execOp,ho,resolve,ZE,Sem.run_pure,Zz,invoke,builtin,Ys,ZU,Yj,h0,h1]
 simp[Builtin.min_,Builtin.min2,Sem.run_pure,Zz]
theorem ahp {ops:Array Oper} {rest:List Oper} {d T0:Nat} {pos:String} {af:Array Edge} {g:Option (Nat×Bool)} {x y:Operand} {ts:Array TypeId} {k:IntKind} {m n:Int} (hN:Nat.blt d N=true) (hx:ev env x=some (.int k m)) (hy:ev env y=some (.int k n)) (h:AL P w0 N ops Q rest ((d,.int k (if n<m then n else m))::env) objs) :
   AO P w0 N ops Q ⟨some d,.call { callee:=.builtin .min,args:=#[x,y],argTypes:=ts },T0,pos,af,g⟩ rest env objs:=wu rfl hN (ahi rfl hx hy) h
end
section
variable {P:Program} {w0:World} {N:Nat} {Q:Exit->Act->World->Prop} {objs:aG} {env:Env}
end
inductive Yu where
 | no
 | one (a b:Nat)
 | many (l:List (Nat×Nat))
 | pair (x y:Yu)
def Pt:Type:=Nat->Yu
def Pt.put (p:Pt) (i:Nat) (y:Yu):Pt:=fun j=>if j=i then y else p j
theorem Pt.put_ne {p:Pt} {i j:Nat} {y:Yu} (h:j≠i):p.put i y j=p j:=if_neg h
theorem Pt.put_eq {p:Pt} {i:Nat} {y:Yu}:p.put i y i=y:=if_pos rfl
def iI (ops:Array Oper) (c m:Nat):Prop:=m=c\/(m<c/\((Region.before ops).getD c 0).testBit m=true)
def aaD {α:Type} (ops:Array Oper) (c:Nat) (T:Pt->α):Prop:=∀p p':Pt,(∀m,iI ops c m->p m=p' m)->T p=T p'
def MkW (P:Program) (w0:World) (env:Env) (o:Oper) (C R:aG) (I:Yu->Prop) (O:Yu->aG) (T:Yu->TV):Prop :=
 ∀(a:Act) (w:World) (K:Act->World->Prop) (Q:Exit->Act->World->Prop) (gs:List (TV×Value)),eo w0 (C++R) w->(∀x∈o.op.operands.toList,∀v,ev env x=some v->Rep w (C++R) v (a.eval x))->Rep w (C++R) (.gh gs) undef ->
   (∀y v w',I y->eo w0 (O y++R) w'->Rep w' (O y++R) (.gh gs) undef->Rep w' (O y++R) (T y) v->K (a.put o.dst v) w')->o.wp P a w K Q
theorem mkS {P:Program} {w0:World} {env:Env} {o:Oper} {C R:aG} {I:Yu->Prop} {O:Yu->aG} {T:Yu->TV} (h:∀(a:Act) (w:World) (K:Act->World->Prop) (Q:Exit->Act->World->Prop),eo w0 (C++R) w->(∀x∈o.op.operands.toList,∀v,ev env x=some v->Rep w (C++R) v (a.eval x)) ->
   (∀y v w',I y->eo w0 (O y++R) w'->kQ w (C++R) w' (O y++R)->Rep w' (O y++R) (T y) v->K (a.put o.dst v) w')->o.wp P a w K Q):MkW P w0 env o C R I O T :=
 fun a w K Q _ h1 h2 h3 h4=>h a w K Q h1 h2 fun y v w' a1 a2 a3 a4=>h4 y v w' a1 a2 (h3.step a3) a4
structure Mks where
 on:Nat->Bool
 O:Nat->Pt->aG
 src:Nat->Option Nat
 I:Nat->Yu->Prop
def Mks.cons (M:Mks) (c:Nat) (p:Pt):aG:=match M.src c with
 | some i=>M.O i p
 | none=>[]
section
variable {P:Program} {w0:World} {N:Nat} {Q:Exit->Act->World->Prop} {objs:aG} {ops:Array Oper}
def OpM (P:Program) (w0:World) (N:Nat) (ops:Array Oper) (objs:aG) (M:Mks) (σ:Pt->Nat->Env) (c:Nat) (o:Oper):Prop :=
 ∃T,o.guard=none/\((∃d,o.dst=some d/\d<N/\∀p t,lk t (σ p (c+1))=lk t ((d,T p)::σ p c))\/(o.dst=none/\∀p t,lk t (σ p (c+1))=lk t (σ p c)))/\aaD ops c T /\
   ((M.on c=false/\M.src c=none/\∀p R,(∀x∈objs,x∈R)->ba P w0 (σ p c) R o (T p)) \/
    (M.on c=true/\aaD ops c (M.O c)/\(∀i,M.src c=some i->i≠c/\(i<ops.size->iI ops c i)/\M.on i=true) /\
      ∀p R,(∀x∈objs,x∈R)->MkW P w0 (σ p c) o (M.cons c p) R (M.I c) (fun y=>M.O c (p.put c y)) (fun y=>T (p.put c y))))
theorem JY.pick {objs':aG} {σ:Nat->Env} {k:Nat} {X:Nat->Prop} {a:Act} {w:World} (h:JY w0 N ops objs σ k X a w) (hp:bS objs' objs):JY w0 N ops objs' σ k X a w :=
 ⟨h.defers,h.size,h.mem.sub hp,fun t c hc h1 h2 v hv=>(h.cut t c hc h1 h2 v hv).step (jc hp w)⟩
theorem o6 (hok:dP ops=true) {k:Nat} (hk:k<=ops.size) {M:Mks} {σ:Pt->Nat->Env} (h0:∀p p' t,lk t (σ p 0)=lk t (σ p' 0)) (hop:∀c o,c<k->ops[c]?=some o->OpM P w0 N ops objs M σ c o) {X:Nat->Prop} (hX:fe ops X) {i:Nat} (hni:¬ X i) (p:Pt) (y:Yu) (t:Nat):∀c,c<=k->(∀m,m<c->gz ops m t->X m)->lk t (σ (p.put i y) c)=lk t (σ p c)
 | 0,_,_=>h0 _ _ _
 | c+1,hc,hw=>by
   have hcs:c<ops.size:=by omega
   have hoc:ops[c]?=some ops[c]:=by simp[hcs]
   obtain⟨T,_,hs,hT,_⟩:=hop c _ (by omega) hoc
   rcases hs with ⟨d,hd,_,hs⟩|⟨_,hs⟩
   ·rw[hs,hs,cK,cK]
    split
    ·rename_i hdt
     have hXc:X c:=hw c (Y1 c) (by unfold gz;rw[hoc];exact hdt ▸ hd)
     rw[hT (p.put i y) p fun m hm=>Pt.put_ne fun e=>?_]
     subst e
     rcases hm with h|⟨h1,h2⟩
     ·exact hni (h ▸ hXc)
     ·exact hni (fY hok hX c hcs hXc m h1 h2)
    ·exact o6 hok hk h0 hop hX hni p y t c (by omega) fun m hm=>hw m (by omega)
   ·rw[hs,hs]
    exact o6 hok hk h0 hop hX hni p y t c (by omega) fun m hm=>hw m (by omega)
theorem JY.put (hok:dP ops=true) {k:Nat} (hk:k<=ops.size) {M:Mks} {σ:Pt->Nat->Env} (h0:∀p p' t,lk t (σ p 0)=lk t (σ p' 0)) (hop:∀c o,c<k->ops[c]?=some o->OpM P w0 N ops objs M σ c o) {X:Nat->Prop} (hX:fe ops X) {i:Nat} (hni:¬ X i) {p:Pt} (y:Yu) {objs':aG} {a:Act} {w:World} (h:JY w0 N ops objs' (σ p) k X a w):JY w0 N ops objs' (σ (p.put i y)) k X a w :=
 ⟨h.defers,h.size,h.mem,fun t c hc h1 h2 v hv=>by
   rw[o6 hok hk h0 hop hX hni p y t c hc h1] at hv
   exact h.cut t c hc h1 h2 v hv⟩
def adp (M:Mks) (n k:Nat) (X:Nat->Prop) (i:Nat):Prop:=(i<n->X i)/\M.on i=true/\∀c,c<k->M.src c=some i->¬ X c
def MO (M:Mks) (objs:aG) (n k:Nat) (X:Nat->Prop) (p:Pt) (objs':aG):Prop:=∃l:List Nat,l.Nodup/\(∀i,i∈l↔adp M n k X i)/\objs'=l.flatMap (fun i=>M.O i p)++objs
theorem MO.sub {M:Mks} {n k:Nat} {X:Nat->Prop} {p:Pt} {objs':aG} (h:MO M objs n k X p objs'):∀x∈objs,x∈objs':=fun x hx=>by
 obtain⟨l,_,_,rfl⟩:=h
 exact ZG _ hx
def JM (w0:World) (N:Nat) (ops:Array Oper) (objs:aG) (M:Mks) (σ:Pt->Nat->Env) (k:Nat) (X:Nat->Prop) (a:Act) (w:World):Prop :=
 ∃p objs',MO M objs ops.size k X p objs'/\JY w0 N ops objs' (σ p) k X a w/\∀i,i<k->X i->M.on i=true->M.I i (p i)
theorem yG {M:Mks} {k:Nat} {σ:Pt->Nat->Env} (hop:∀c o,c<k->ops[c]?=some o->OpM P w0 N ops objs M σ c o) (p:Pt):∀i o,i<k->ops[i]?=some o->yE o (σ p i) (σ p (i+1)):=fun i o hi ho=>by
 obtain⟨T,_,h,_⟩:=hop i o hi ho
 rcases h with ⟨d,h1,_,h3⟩|⟨h1,h3⟩
 ·exact .inl ⟨d,T p,h1,h3 p⟩
 ·exact .inr ⟨h1,h3 p⟩
open Classical in
noncomputable def jgs (ops:Array Oper) (σ:Nat->Env) (k:Nat) (X:Nat->Prop) (a:Act):List (TV×Value):=(List.range (k+1)).flatMap fun c=>(σ c).filterMap fun e=>if (∀i,i<c->gz ops i e.1->X i)/\(∀i,c<=i->i<k->gz ops i e.1->¬ X i) then (lk e.1 (σ c)).map fun v=>(v,a.tmps.getD e.1 undef) else none
theorem acx {t:Nat} {v:TV}:∀{e:Env},lk t e=some v->∃u,(t,u)∈e
 | [],h=>by cases h
 | (s,u)::r,h=>by
   rw[cK] at h
   split at h
   ·rename_i hs;exact⟨u,hs ▸ Zi⟩
   ·obtain⟨u',h'⟩:=acx h;exact⟨u',Zd _ h'⟩
theorem JY.gh {σ:Nat->Env} {k:Nat} {X:Nat->Prop} {a:Act} {w:World} (h:JY w0 N ops objs σ k X a w):Rep w objs (.gh (jgs ops σ k X a)) undef:=.gh _ _ fun i t u hi=>by
 have hm:=Zm hi
 unfold jgs at hm
 obtain⟨c,hc,he⟩:=List.mem_flatMap.1 hm
 obtain⟨e,_,he⟩:=List.mem_filterMap.1 he
 split at he
 ·rename_i hcd
  obtain⟨v,hv,he⟩:=Option.map_eq_some_iff.1 he
  cases he
  exact h.cut e.1 c (by have:=List.mem_range.1 hc;omega) hcd.1 hcd.2 _ hv
 ·cases he
theorem JY.move {objs':aG} {σ:Nat->Env} {k:Nat} {X:Nat->Prop} {a:Act} {w w':World} (h:JY w0 N ops objs σ k X a w) (hw:eo w0 objs' w') (hg:Rep w' objs' (.gh (jgs ops σ k X a)) undef):JY w0 N ops objs' σ k X a w' :=
 ⟨h.defers,h.size,hw,fun t c hc h1 h2 v hv=>by
   obtain⟨u,hu⟩:=acx hv
   have hm:(v,a.tmps.getD t undef)∈jgs ops σ k X a:=List.mem_flatMap.2 ⟨c,List.mem_range.2 (by omega),List.mem_filterMap.2 ⟨(t,u),hu,by rw[if_pos ⟨h1,h2⟩,hv];rfl⟩⟩
   obtain⟨i,hi⟩:=List.getElem?_of_mem hm
   cases hg with
   | gh _ _ hh=>exact hh i _ _ hi⟩
theorem ahg (hok:dP ops=true) {k:Nat} (hk:k<=ops.size) {M:Mks} {σ:Pt->Nat->Env} (h0:∀p p' t,lk t (σ p 0)=lk t (σ p' 0)) (hop:∀c o,c<k->ops[c]?=some o->OpM P w0 N ops objs M σ c o) (hinj:∀c c' i,c<k->c'<k->M.src c=some i->M.src c'=some i->c=c') (hps:∀j,¬ j<ops.size->∀p p',M.O j p=M.O j p')
   {X:Nat->Prop} {a:Act} {w:World} (hJ:JM w0 N ops objs M σ k X a w) (hX:fe ops X) (hXk:∀i,X i->i<k) {i:Nat} {o:Oper} (ho:ops[i]?=some o) (hik:i<k) (hni:¬ X i) (hX':fe ops fun k=>k=i\/X k)
   {K:Act->World->Prop} (hnext:∀a' w',JM w0 N ops objs M σ k (fun k=>k=i\/X k) a' w'->K a' w'):wpOp P ops Q i K a w:=by
 obtain⟨p,objs',hMO,hJY,hI⟩:=hJ
 obtain⟨T,hg,hs,hT,hcase⟩:=hop i o hik ho
 have hput:∀{objs1 objs2:aG} {p':Pt} {v:Value} {w':World},JY w0 N ops objs1 (σ p') k X a w->Rep w' objs2 (T p') v->eo w0 objs2 w'->kQ w objs1 w' objs2->JY w0 N ops objs2 (σ p') k (fun k=>k=i\/X k) (a.put o.dst v) w':=fun {objs1 objs2 p' v w'} hJ hr hsw hst=>by
   rcases hs with ⟨d,hd,hdN,hs⟩|⟨hd,_⟩
   ·rw[hd];exact li hok hk hJ hX ho hik hni hd hdN (yG hop p') (hs p') hr hsw hst
   ·rw[hd];exact x7 hJ ho hd hsw hst
 have hput2:∀{objs2:aG} {p':Pt} {v:Value} {w':World},JY w0 N ops objs2 (σ p') k X a w'->Rep w' objs2 (T p') v->eo w0 objs2 w'->JY w0 N ops objs2 (σ p') k (fun k=>k=i\/X k) (a.put o.dst v) w':=fun {objs2 p' v w'} hJ hr hsw=>by
   rcases hs with ⟨d,hd,hdN,hs⟩|⟨hd,_⟩
   ·rw[hd];exact li hok hk hJ hX ho hik hni hd hdN (yG hop p') (hs p') hr hsw (jt _ _)
   ·rw[hd];exact x7 hJ ho hd hsw (jt _ _)
 have hiz:i<ops.size:=by omega
 have hread:∀{objs2:aG} (_:JY w0 N ops objs2 (σ p) k X a w) (x:Operand),x∈o.op.operands.toList->∀v,ev (σ p i) x=some v->Rep w objs2 v (a.eval x):=fun hJ2 x hx v hv=>by
   cases x with
   | tmp t =>
     have hl:t∈o.looksAt ops:=by
       unfold Oper.looksAt
       exact Zw _ (List.mem_filterMap.2 ⟨.tmp t,hx,rfl⟩)
     exact tk hok hk hJ2 hX hXk ho hik hni hX' hl hv
   | const u=>exact tq hv
   | func f=>simp only[ev,Zo] at hv;subst hv;exact .fn f [] #[] rfl (by simp)
   | global g=>cases hv
 have hw:Region.wanted o (yielded ops a.tmps)=true:=by simp[Region.wanted,hg]
 unfold wpOp
 rw[ho]
 simp only[hw,if_true]
 have hbef:∀m,iI ops i m->m≠i->X m:=fun m hm hne=>by
   rcases hm with h|⟨h1,h2⟩
   ·exact absurd h hne
   ·rcases fY hok hX' i hiz (.inl rfl) m h1 h2 with h|h
    ·exact absurd h hne
    ·exact h
 have hnb:∀c,X c->¬ iI ops c i:=fun c hc hm=>by
   rcases hm with h|⟨h1,h2⟩
   ·exact hni (h ▸ hc)
   ·exact hni (fY hok hX c (ZJ (hXk c hc) hk) hc i h1 h2)
 rcases hcase with ⟨hmk,hsrc,hy⟩|⟨hmk,hO,hsrc,hmake⟩
 ·refine .inl (hy p objs' hMO.sub a w _ Q hJY.mem (hread hJY) fun v w' hr hsw hst=>?_)
  refine hnext _ _ ⟨p,objs', ?_,hput hJY hr hsw hst,fun j hj hx hm=>?_⟩
  ·obtain⟨l,h1,h2,h3⟩:=hMO
   refine⟨l,h1,fun j=>(h2 j).trans ?_,h3⟩
   unfold adp
   constructor
   ·rintro ⟨e2,e3,e4⟩
    refine⟨fun h=>.inr (e2 h),e3,fun c hc hsc hx=>?_⟩
    rcases hx with rfl|hx
    ·rw[hsrc] at hsc;cases hsc
    ·exact e4 c hc hsc hx
   ·rintro ⟨e2,e3,e4⟩
    exact⟨fun h=>(e2 h).resolve_left fun e=>(by subst e;rw[hmk] at e3;cases e3),e3,fun c hc hsc hx=>e4 c hc hsc (.inr hx)⟩
  ·rcases hx with rfl|hx
   ·rw[hmk] at hm;cases hm
   ·exact hI j hj hx hm
 ·obtain⟨l,hnd,hl,rfl⟩:=hMO
  -- what stays
  have hstay:∃l2:List Nat,l2.Nodup/\(∀j,j∈l2↔adp M ops.size k X j/\M.src i≠some j)/\(l.flatMap (fun i=>M.O i p)).Perm (M.cons i p++l2.flatMap fun i=>M.O i p):=by
    unfold Mks.cons
    cases hsc:M.src i with
    | none=>exact⟨l,hnd,fun j=>by rw[hl];simp,.refl _⟩
    | some s =>
      obtain⟨hne,hah,hms⟩:=hsrc s hsc
      have hsl:s∈l:=(hl s).2 ⟨fun h=>hbef s (hah h) hne,hms,fun c hc hc2 hx=>hni (hinj c i s hc hik hc2 hsc ▸ hx)⟩
      refine⟨l.erase s,hnd.erase s,fun j=>?_, ?_⟩
      ·rw[hnd.mem_erase_iff,hl]
       constructor
       ·rintro ⟨e1,e2⟩;exact⟨e2,fun h=>e1 (Option.some.inj h).symm⟩
       ·rintro ⟨e1,e2⟩;exact⟨fun h=>e2 (by rw[h]),e1⟩
      ·have:=(List.perm_cons_erase hsl).flatMap_right fun i=>M.O i p
       rwa [ZC] at this
  obtain⟨l2,hnd2,hl2,hperm⟩:=hstay
  have hpk:bS (M.cons i p++(l2.flatMap (fun i=>M.O i p)++objs)) (l.flatMap (fun i=>M.O i p)++objs):=.perm (by
    rw[<- Zk]
    exact(hperm.append_right objs).symm)
  have hJ2:=hJY.pick hpk
  refine .inl (hmake p (l2.flatMap (fun i=>M.O i p)++objs) (fun x hx=>ZG _ hx) a w _ Q _ hJ2.mem (hread hJ2) hJ2.gh fun y v w' hIy hsw hgh hr=>?_)
  have heq:l2.flatMap (fun j=>M.O j (p.put i y))=l2.flatMap fun j=>M.O j p:=by
    have:∀l3:List Nat,(∀j∈l3,j∈l2)->l3.flatMap (fun j=>M.O j (p.put i y))=l3.flatMap fun j=>M.O j p:=fun l3=>by
      induction l3 with
      | nil=>intro _;rfl
      | cons j r ih =>
        intro h
        have hlj:=((hl2 j).1 (h j Zi)).1
        rw[ZC,ZC,ih fun x hx=>h x (Zd _ hx)]
        by_cases hjs:j<ops.size
        ·have hoj:ops[j]?=some ops[j]:=by simp[hjs]
         have hXj:=hlj.1 hjs
         obtain⟨_,_,_,_,hcj⟩:=hop j _ (hXk j hXj) hoj
         have hOj:aaD ops j (M.O j):=by
           rcases hcj with ⟨e,_⟩|⟨_,e,_⟩
           ·rw[hlj.2.1] at e;cases e
           ·exact e
         rw[hOj (p.put i y) p fun m hm=>Pt.put_ne fun e=>hnb j hXj (e ▸ hm)]
        ·rw[hps j hjs (p.put i y) p]
    exact this l2 fun _ h=>h
  refine hnext _ _ ⟨p.put i y,M.O i (p.put i y)++(l2.flatMap (fun i=>M.O i p)++objs), ?_,hput2 ((hJ2.move hsw hgh).put hok hk h0 hop hX hni y) hr hsw,fun j hj hx hm=>?_⟩
  ·refine⟨i::l2,List.nodup_cons.2 ⟨fun h=>hni (((hl2 i).1 h).1.1 hiz),hnd2⟩,fun j=>?_,by rw[ZC,heq,Zk]⟩
   rw[ZX,hl2]
   unfold adp
   constructor
   ·rintro (rfl|⟨⟨e2,e3,e4⟩,e5⟩)
    ·refine⟨fun _=>.inl rfl,hmk,fun c hc hsc hx=>?_⟩
     have hcs:c<ops.size:=by omega
     have hoc:ops[c]?=some ops[c]:=by simp[hcs]
     obtain⟨_,_,_,_,hcc⟩:=hop c _ hc hoc
     rcases hcc with ⟨_,e,_⟩|⟨_,_,e,_⟩
     ·rw[hsc] at e;cases e
     ·obtain⟨e1,e2,_⟩:=e j hsc
      rcases hx with rfl|hx
      ·exact e1 rfl
      ·exact hnb c hx (e2 hiz)
    ·refine⟨fun h=>.inr (e2 h),e3,fun c hc hsc hx=>?_⟩
     rcases hx with rfl|hx
     ·exact e5 hsc
     ·exact e4 c hc hsc hx
   ·rintro ⟨e2,e3,e4⟩
    by_cases hji:j=i
    ·exact .inl hji
    ·exact .inr ⟨⟨fun h=>(e2 h).resolve_left hji,e3,fun c hc hsc hx=>e4 c hc hsc (.inr hx)⟩,fun h=>e4 i hik h (.inl rfl)⟩
  ·rcases hx with rfl|hx
   ·rw[Pt.put_eq];exact hIy
   ·rw[Pt.put_ne (fun e:j=i=>hni (e ▸ hx))]
    exact hI j hj hx hm
theorem acQ (hok:dP ops=true) {k:Nat} (hk:k<=ops.size) (htl:f6 ops k=true) {M:Mks} {σ:Pt->Nat->Env} (hop:∀c o,c<k->ops[c]?=some o->OpM P w0 N ops objs M σ c o) {ms:List Nat} (hms:ms.Nodup) (hmem:∀i,i∈ms↔adp M ops.size k (·<k) i)
   (hQ:∀p:Pt,(∀i,i<k->M.on i=true->M.I i (p i))->AL P w0 N ops Q (ops.toList.drop k) (σ p k) (ms.flatMap (fun i=>M.O i p)++objs)) {fuel:Nat} {listed:Array Bool} {a:Act} {w:World} (hsz:listed.size=ops.size) (hun:dE listed<=fuel) (hXk:∀i,listed.getD i false=true->i<k)
   (hall:∀j,j<k->listed.getD j false=true) (hJ:JM w0 N ops objs M σ k (fun i=>listed.getD i false=true) a w):wpAny P .any ops Q fuel listed a w:=by
 obtain⟨p,objs',⟨l,hnd,hl,rfl⟩,hJY,hI⟩:=hJ
 have hp:ms.Perm l:=(List.perm_ext_iff_of_nodup hms hnd).2 fun i=>by
   rw[hmem,hl]
   unfold adp
   exact⟨fun⟨e2,e3,e4⟩=>⟨fun h=>hall i (e2 h),e3,fun c hc hs _=>e4 c hc hs hc⟩,fun⟨e2,e3,e4⟩=>⟨fun h=>hXk i (e2 h),e3,fun c hc hs _=>e4 c hc hs (hall c hc)⟩⟩
 exact pe hok hk htl (hQ p fun i hi hm=>hI i hi (hall i hi) hm) hsz hun hXk hall (hJY.pick (.perm ((hp.flatMap_right fun i=>M.O i p).append_right objs)))
theorem abF (hok:dP ops=true) {k:Nat} (hk:k<=ops.size) (htl:f6 ops k=true) {M:Mks} {σ:Pt->Nat->Env} (hz:∀p p' t,lk t (σ p 0)=lk t (σ p' 0)) (hop:∀c o,c<k->ops[c]?=some o->OpM P w0 N ops objs M σ c o) (hinj:∀c c' i,c<k->c'<k->M.src c=some i->M.src c'=some i->c=c') (hps:∀j,¬ j<ops.size->∀p p',M.O j p=M.O j p')
   {ms:List Nat} (hms:ms.Nodup) (hmem:∀i,i∈ms↔adp M ops.size k (·<k) i) (hQ:∀p:Pt,(∀i,i<k->M.on i=true->M.I i (p i))->AL P w0 N ops Q (ops.toList.drop k) (σ p k) (ms.flatMap (fun i=>M.O i p)++objs)) :
   ∀(fuel:Nat) (listed:Array Bool) (a:Act) (w:World),listed.size=ops.size->dE listed<=fuel->(∀i,listed.getD i false=true->i<k)->fe ops (fun i=>listed.getD i false=true)->JM w0 N ops objs M σ k (fun i=>listed.getD i false=true) a w->wpAny P .any ops Q fuel listed a w :=
 wE hok hk htl (JM w0 N ops objs M σ k) (fun _ _ _ _ hsz hun hXk hall hJ=>acQ hok hk htl hop hms hmem hQ hsz hun hXk hall hJ) fun _ _ _ _ _ hX hXk ho hik hni hX' hJ _ hnext=>ahg hok hk hz hop hinj hps hJ hX hXk ho hik hni hX' hnext
end
def pt0:Pt:=fun _=>.no
structure Mki where
 idx:Nat
 O:Pt->aG
 src:Option Nat
 I:Yu->Prop
def fnd (L:List Mki) (i:Nat):Option Mki:=L.find? fun m=>Nat.beq m.idx i
def Mks.of (L:List Mki):Mks where
 on i:=(fnd L i).isSome
 O i p:=match fnd L i with|some m=>m.O p|none=>[]
 src i:=(fnd L i).bind (·.src)
 I i y:=match fnd L i with|some m=>m.I y|none=>True
def yK (L:List Mki) (src:Option Nat) (p:Pt):aG:=match src with
 | some i=>(Mks.of L).O i p
 | none=>[]
def et (L:List Mki):List Mki:=L.filter fun m=>L.all fun m'=>!(match m'.src with|some i=>Nat.beq i m.idx|none=>false)
structure MWf (L:List Mki) (c:Nat):Prop where
 lt:∀m∈L,m.idx<c\/1000000<=m.idx
 pw:L.Pairwise fun a b=>a.idx≠b.idx/\∀i,a.src=some i->b.src≠some i
theorem yu {L:List Mki} {i:Nat} (h:∀m∈L,m.idx≠i):fnd L i=none:=List.find?_eq_none.2 fun m hm=>by
 rw[aaf (h m hm)];decide
theorem sO {new L:List Mki} {c i:Nat} (hn:∀m∈new,c<=m.idx/\m.idx<1000000) (hi:i<c\/1000000<=i):fnd (new++L) i=fnd L i:=by
 unfold fnd
 rw[List.find?_append]
 have:new.find? (fun m=>Nat.beq m.idx i)=none:=yu fun m hm=>by have:=hn m hm;omega
 rw[this];rfl
theorem jN {L:List Mki} {i:Nat} {m:Mki} (h:fnd L i=some m):m∈L/\m.idx=i:=⟨List.mem_of_find?_eq_some h,by
 have:=List.find?_some h
 exact Yi this⟩
theorem ye {L:List Mki} {c:Nat} (h:MWf L c) {m:Mki} (hm:m∈L):fnd L m.idx=some m:=by
 have hp:=h.pw
 clear h
 induction L with
 | nil=>cases hm
 | cons x r ih =>
   obtain⟨h1,h2⟩:=List.pairwise_cons.1 hp
   unfold fnd
   rw[Y4]
   rcases List.mem_cons.1 hm with rfl|hm
   ·have:Nat.beq m.idx m.idx=true:=Nat.beq_refl _
    simp only[this]
   ·have hne:x.idx≠m.idx:=(h1 m hm).1
    simp only[aaf hne]
    exact ih hm h2
section
variable {P:Program} {w0:World} {N:Nat} {Q:Exit->Act->World->Prop} {objs:aG} {ops:Array Oper}
inductive DM (P:Program) (w0:World) (N:Nat) (ops:Array Oper) (objs:aG) (K:List Mki->(Pt->Env)->Prop):Nat->List Mki->List Oper->(Pt->Env)->Prop
 | nil (c:Nat) (L:List Mki) (E:Pt->Env) (h:K L E):DM P w0 N ops objs K c L [] E
 | run (c : Nat) (L : List Mki) (o : Oper) (rest : List Oper) (E : Pt -> Env) (d : Nat) (T : Pt -> TV) (hd : o.dst = some d) (hN : Nat.blt d N = true) (hg : o.guard = none) (hi : aaD ops c T) (hy : ∀ p R, (∀ x ∈ objs, x ∈ R) -> ba P w0 (E p) R o (T p))
     (h:DM P w0 N ops objs K (c+1) L rest (fun p=>(d,T p)::E p)):DM P w0 N ops objs K c L (o::rest) E
 | make (c : Nat) (L : List Mki) (o : Oper) (rest : List Oper) (E : Pt -> Env) (d : Nat) (O : Pt -> aG) (src : Option Nat) (I : Yu -> Prop) (T : Pt -> TV) (hd : o.dst = some d) (hN : Nat.blt d N = true) (hg : o.guard = none) (hi : aaD ops c T) (hO : aaD ops c O)
     (hs:∀i,src=some i->(i<ops.size->iI ops c i)/\(fnd L i).isSome=true/\∀m∈L,m.src≠some i) (hm:∀p R,(∀x∈objs,x∈R)->MkW P w0 (E p) o (yK L src p) R I (fun y=>O (p.put c y)) (fun y=>T (p.put c y)))
     (h:DM P w0 N ops objs K (c+1) (⟨c,O,src,I⟩::L) rest (fun p=>(d,T p)::E p)):DM P w0 N ops objs K c L (o::rest) E
 | makeN (c : Nat) (L : List Mki) (o : Oper) (rest : List Oper) (E : Pt -> Env) (O : Pt -> aG) (src : Option Nat) (I : Yu -> Prop) (T : Pt -> TV) (hd : o.dst = none) (hg : o.guard = none) (hi : aaD ops c T) (hO : aaD ops c O)
     (hs:∀i,src=some i->(i<ops.size->iI ops c i)/\(fnd L i).isSome=true/\∀m∈L,m.src≠some i) (hm:∀p R,(∀x∈objs,x∈R)->MkW P w0 (E p) o (yK L src p) R I (fun y=>O (p.put c y)) (fun y=>T (p.put c y)))
     (h:DM P w0 N ops objs K (c+1) (⟨c,O,src,I⟩::L) rest E):DM P w0 N ops objs K c L (o::rest) E
theorem OpM.congr {M:Mks} {σ σ':Pt->Nat->Env} {c:Nat} {o:Oper} (h:OpM P w0 N ops objs M σ c o) (h1:∀p,σ' p c=σ p c) (h2:∀p,σ' p (c+1)=σ p (c+1)):OpM P w0 N ops objs M σ' c o:=by
 unfold OpM at h |-
 simpa only [h1,h2] using h
theorem acE {K:List Mki->(Pt->Env)->Prop} {c:Nat} {L:List Mki} {l:List Oper} {E:Pt->Env} (h:DM P w0 N ops objs K c L l E) (hL:MWf L c) (hbig:c+l.length<1000000):∃(σ:Pt->Nat->Env) (new:List Mki) (Ef:Pt->Env),K (new++L) Ef/\(∀m∈new,c<=m.idx/\m.idx<1000000)/\MWf (new++L) (c+l.length)/\(∀p,σ p c=E p)/\(∀p,σ p (c+l.length)=Ef p)/\∀j o,l[j]?=some o->OpM P w0 N ops objs (Mks.of (new++L)) σ (c+j) o:=by
 induction h with
 | nil c L E h=>exact⟨fun p _=>E p,[],E,h,by simp,hL,fun _=>rfl,fun _=>rfl,by simp⟩
 | run c L o rest E d T hd hN hg hi hy h ih =>
   obtain⟨σ,new,Ef,h1,h2,h3,h4,h5,h6⟩:=ih ⟨fun m hm=>(hL.lt m hm).imp Nat.lt_succ_of_lt id,hL.pw⟩ (by rw[Zy] at hbig;omega)
   rw[Zy] at hbig
   have hfn:fnd (new++L) c=none:=yu fun m hm=>by
     rcases List.mem_append.1 hm with hm|hm
     ·have:=h2 m hm;omega
     ·have:=hL.lt m hm;omega
   refine⟨fun p i=>if i=c then E p else σ p i,new,Ef,h1,fun m hm=>by have:=h2 m hm;omega,by rw[Zy,show c+(rest.length+1)=c+1+rest.length by omega];exact h3,fun p=>if_pos rfl,fun p=>?_,fun j o' hj=>?_⟩
   ·dsimp only
    rw[if_neg (by simp),Zy,show c+(rest.length+1)=c+1+rest.length by omega];exact h5 p
   ·cases j with
    | zero =>
      simp only[Xe,Zo] at hj
      subst hj
      refine⟨T,hg,.inl ⟨d,hd,Yo ▸ hN,fun p t=>?_⟩,hi,.inl ⟨by show (fnd (new++L) (c+0)).isSome=false;rw[Yy,hfn];rfl,by show (fnd (new++L) (c+0)).bind _=none;rw[Yy,hfn];rfl,fun p R hR=>?_⟩⟩
      ·dsimp only
       rw[if_neg (by omega),if_pos (by omega),Yy,h4 p]
      ·dsimp only
       rw[if_pos (by omega)]
       exact hy p R hR
    | succ j =>
      have:=h6 j o' (by simpa using hj)
      rw[show c+1+j=c+(j+1) by omega] at this
      exact this.congr (fun p=>if_neg (by omega)) fun p=>if_neg (by omega)
 | make c L o rest E d O src I T hd hN hg hi hO hs hm h ih =>
   obtain⟨σ,new,Ef,h1,h2,h3,h4,h5,h6⟩:=ih ⟨fun m hm=>by
     rcases List.mem_cons.1 hm with rfl|hm
     ·exact .inl (Y1 _)
     ·exact(hL.lt m hm).imp Nat.lt_succ_of_lt id,List.pairwise_cons.2 ⟨fun m hm=>⟨by rw[Zy] at hbig;have:=hL.lt m hm;dsimp only;omega,fun i hi2=>(hs i hi2).2.2 m hm⟩,hL.pw⟩⟩ (by rw[Zy] at hbig;omega)
   rw[Zy] at hbig
   have happ:new++(⟨c,O,src,I⟩::L)=(new++[⟨c,O,src,I⟩])++L:=by simp
   have hfn:fnd (new++(⟨c,O,src,I⟩::L)) c=some ⟨c,O,src,I⟩:=by
     rw[sO (c:=c+1) h2 (.inl (Y1 c))]
     unfold fnd
     rw[Y4]
     have:Nat.beq c c=true:=Nat.beq_refl _
     simp only[this]
   have hfl:∀i,(i<c\/1000000<=i)->fnd (new++(⟨c,O,src,I⟩::L)) i=fnd L i:=fun i hic=>by
     rw[sO (c:=c+1) h2 (by omega)]
     unfold fnd
     rw[Y4]
     have:Nat.beq c i=false:=aaf (by omega)
     simp only[this]
   refine⟨fun p i=>if i=c then E p else σ p i,new++[⟨c,O,src,I⟩],Ef,happ ▸ h1,fun m hm=>?_,by rw[Zy,show c+(rest.length+1)=c+1+rest.length by omega];exact happ ▸ h3,fun p=>if_pos rfl,fun p=>?_,fun j o' hj=>?_⟩
   ·rcases List.mem_append.1 hm with hm|hm
    ·have:=h2 m hm;omega
    ·simp only[ZM] at hm
     subst hm;exact⟨Zg _,by dsimp only;omega⟩
   ·dsimp only
    rw[if_neg (by simp),Zy,show c+(rest.length+1)=c+1+rest.length by omega];exact h5 p
   ·rw[<- happ]
    cases j with
    | zero =>
      simp only[Xe,Zo] at hj
      subst hj
      have hOc:(Mks.of (new++(⟨c,O,src,I⟩::L))).O c=O:=by
        funext p
        show (match fnd (new++(⟨c,O,src,I⟩::L)) c with|some m=>m.O p|none=>[])=_
        rw[hfn]
      have hsc:(Mks.of (new++(⟨c,O,src,I⟩::L))).src c=src:=by
        show (fnd (new++(⟨c,O,src,I⟩::L)) c).bind _=_
        rw[hfn];rfl
      have hIc:(Mks.of (new++(⟨c,O,src,I⟩::L))).I c=I:=by
        funext y
        show (match fnd (new++(⟨c,O,src,I⟩::L)) c with|some m=>m.I y|none=>True)=_
        rw[hfn]
      rw[Yy]
      refine⟨T,hg,.inl ⟨d,hd,Yo ▸ hN,fun p t=>?_⟩,hi,.inr ⟨by show (fnd (new++(⟨c,O,src,I⟩::L)) c).isSome=true;rw[hfn];rfl,by rw[hOc];exact hO,fun i hi2=>?_,fun p R hR=>?_⟩⟩
      ·dsimp only
       rw[if_neg (by omega),if_pos rfl,h4 p]
      ·rw[hsc] at hi2
       obtain⟨e1,e2,_⟩:=hs i hi2
       have hic:i<c\/1000000<=i:=by
         obtain⟨m,hm⟩:=Option.isSome_iff_exists.1 e2
         obtain⟨g1,g2⟩:=jN hm
         have:=hL.lt m g1
         omega
       exact⟨by omega,e1,by show (fnd (new++(⟨c,O,src,I⟩::L)) i).isSome=true;rw[hfl i hic];exact e2⟩
      ·dsimp only
       rw[if_pos rfl,hOc,hIc]
       have hcons:(Mks.of (new++(⟨c,O,src,I⟩::L))).cons c p=yK L src p:=by
         unfold Mks.cons yK
         rw[hsc]
         cases hsr:src with
         | none=>rfl
         | some i =>
           have hic:i<c\/1000000<=i:=by
             obtain⟨_,e2,_⟩:=hs i hsr
             obtain⟨m,hm⟩:=Option.isSome_iff_exists.1 e2
             obtain⟨g1,g2⟩:=jN hm
             have:=hL.lt m g1
             omega
           rw[hsr] at hfl
           show (match fnd (new++(⟨c,O,some i,I⟩::L)) i with|some m=>m.O p|none=>[])=(match fnd L i with|some m=>m.O p|none=>[])
           rw[hfl i hic]
       rw[hcons]
       exact hm p R hR
    | succ j =>
      have:=h6 j o' (by simpa using hj)
      rw[show c+1+j=c+(j+1) by omega] at this
      exact this.congr (fun p=>if_neg (by omega)) fun p=>if_neg (by omega)
 | makeN c L o rest E O src I T hd hg hi hO hs hm h ih =>
   obtain⟨σ,new,Ef,h1,h2,h3,h4,h5,h6⟩:=ih ⟨fun m hm=>by
     rcases List.mem_cons.1 hm with rfl|hm
     ·exact .inl (Y1 _)
     ·exact(hL.lt m hm).imp Nat.lt_succ_of_lt id,List.pairwise_cons.2 ⟨fun m hm=>⟨by rw[Zy] at hbig;have:=hL.lt m hm;dsimp only;omega,fun i hi2=>(hs i hi2).2.2 m hm⟩,hL.pw⟩⟩ (by rw[Zy] at hbig;omega)
   rw[Zy] at hbig
   have happ:new++(⟨c,O,src,I⟩::L)=(new++[⟨c,O,src,I⟩])++L:=by simp
   have hfn:fnd (new++(⟨c,O,src,I⟩::L)) c=some ⟨c,O,src,I⟩:=by
     rw[sO (c:=c+1) h2 (.inl (Y1 c))]
     unfold fnd
     rw[Y4]
     have:Nat.beq c c=true:=Nat.beq_refl _
     simp only[this]
   have hfl:∀i,(i<c\/1000000<=i)->fnd (new++(⟨c,O,src,I⟩::L)) i=fnd L i:=fun i hic=>by
     rw[sO (c:=c+1) h2 (by omega)]
     unfold fnd
     rw[Y4]
     have:Nat.beq c i=false:=aaf (by omega)
     simp only[this]
   refine⟨fun p i=>if i=c then E p else σ p i,new++[⟨c,O,src,I⟩],Ef,happ ▸ h1,fun m hm=>?_,by rw[Zy,show c+(rest.length+1)=c+1+rest.length by omega];exact happ ▸ h3,fun p=>if_pos rfl,fun p=>?_,fun j o' hj=>?_⟩
   ·rcases List.mem_append.1 hm with hm|hm
    ·have:=h2 m hm;omega
    ·simp only[ZM] at hm
     subst hm;exact⟨Zg _,by dsimp only;omega⟩
   ·dsimp only
    rw[if_neg (by simp),Zy,show c+(rest.length+1)=c+1+rest.length by omega];exact h5 p
   ·rw[<- happ]
    cases j with
    | zero =>
      simp only[Xe,Zo] at hj
      subst hj
      have hOc:(Mks.of (new++(⟨c,O,src,I⟩::L))).O c=O:=by
        funext p
        show (match fnd (new++(⟨c,O,src,I⟩::L)) c with|some m=>m.O p|none=>[])=_
        rw[hfn]
      have hsc:(Mks.of (new++(⟨c,O,src,I⟩::L))).src c=src:=by
        show (fnd (new++(⟨c,O,src,I⟩::L)) c).bind _=_
        rw[hfn];rfl
      have hIc:(Mks.of (new++(⟨c,O,src,I⟩::L))).I c=I:=by
        funext y
        show (match fnd (new++(⟨c,O,src,I⟩::L)) c with|some m=>m.I y|none=>True)=_
        rw[hfn]
      rw[Yy]
      refine⟨T,hg,.inr ⟨hd,fun p t=>?_⟩,hi,.inr ⟨by show (fnd (new++(⟨c,O,src,I⟩::L)) c).isSome=true;rw[hfn];rfl,by rw[hOc];exact hO,fun i hi2=>?_,fun p R hR=>?_⟩⟩
      ·dsimp only
       rw[if_neg (by omega),if_pos rfl,h4 p]
      ·rw[hsc] at hi2
       obtain⟨e1,e2,_⟩:=hs i hi2
       have hic:i<c\/1000000<=i:=by
         obtain⟨m,hm⟩:=Option.isSome_iff_exists.1 e2
         obtain⟨g1,g2⟩:=jN hm
         have:=hL.lt m g1
         omega
       exact⟨by omega,e1,by show (fnd (new++(⟨c,O,src,I⟩::L)) i).isSome=true;rw[hfl i hic];exact e2⟩
      ·dsimp only
       rw[if_pos rfl,hOc,hIc]
       have hcons:(Mks.of (new++(⟨c,O,src,I⟩::L))).cons c p=yK L src p:=by
         unfold Mks.cons yK
         rw[hsc]
         cases hsr:src with
         | none=>rfl
         | some i =>
           have hic:i<c\/1000000<=i:=by
             obtain⟨_,e2,_⟩:=hs i hsr
             obtain⟨m,hm⟩:=Option.isSome_iff_exists.1 e2
             obtain⟨g1,g2⟩:=jN hm
             have:=hL.lt m g1
             omega
           rw[hsr] at hfl
           show (match fnd (new++(⟨c,O,some i,I⟩::L)) i with|some m=>m.O p|none=>[])=(match fnd L i with|some m=>m.O p|none=>[])
           rw[hfl i hic]
       rw[hcons]
       exact hm p R hR
    | succ j =>
      have:=h6 j o' (by simpa using hj)
      rw[show c+1+j=c+(j+1) by omega] at this
      exact this.congr (fun p=>if_neg (by omega)) fun p=>if_neg (by omega)
theorem tg (L0:List Mki) (k:Nat) {id:Nat} {l l1 l2:List Oper} {env:Env} (hm:P.follows .mixedOrders=true) (hok:dP l.toArray=true) (htl:f6 l.toArray k=true) (hbl:Nat.blt l.length 1000000=true) (hc:Cut k l l1 l2) (hL0:MWf L0 0) (hcon:∀m∈L0,m.src=none/\(∀p p',m.O p=m.O p')/\∀y,m.I y)
   (h:DM P w0 N l.toArray objs (fun L E=>∀p:Pt,(∀m∈L,m.I (p m.idx))->AL P w0 N l.toArray Q l2 (E p) ((et L).flatMap (fun m=>m.O p)++objs)) 0 L0 l1 (fun _=>env)):AW P w0 N (.region id l.toArray true) Q env (L0.flatMap (fun m=>m.O pt0)++objs):=⟨fun a w hs=>by
 obtain⟨e1,e2,hkl⟩:=hc.eq
 have hbl:l.length<1000000:=Yo ▸ hbl
 have hl1:l1.length=k:=by rw[e1,Zu];omega
 obtain⟨σ,new0,Ef,h1,hnew,h3,h4,h5,h6⟩:=acE h hL0 (by omega)
 rw[hl1,ZY] at h5 h3
 have hnk:∀m∈new0,m.idx<k:=fun m hm=>by
   have:=h3.lt m (Zw _ hm)
   have:=hnew m hm
   omega
 have hL0i:∀m∈L0,1000000<=m.idx:=fun m hm=>by have:=hL0.lt m hm;omega
 have hmemL:∀m,m∈new0++L0->¬ m.idx<k->m∈L0:=fun m hm hk=>by
   rcases List.mem_append.1 hm with h|h
   ·exact absurd (hnk m h) hk
   ·exact h
 have hL0m:∀m∈L0,m∈new0++L0:=fun m hm=>ZG _ hm
 generalize new0++L0=new at h1 h3 h6 hmemL hL0m
 have hop:∀c o,c<k->l.toArray[c]?=some o->OpM P w0 N l.toArray objs (Mks.of new) σ c o:=fun c o hck ho=>by
   have:=h6 c o (by rw[e1,ZQ,if_pos hck];simpa using ho)
   rwa [ZY] at this
 have hrep:∀i,(Array.replicate l.toArray.size false).getD i false=false:=fun i=>by
   rcases YB i l.toArray.size with h|h
   ·simp at h;simp[h]
   ·simp at h;simp[ZH,Xj,h]
 have hsrc:∀{c i:Nat},(Mks.of new).src c=some i->∃m∈new,m.idx=c/\m.src=some i:=fun {c i} hci=>by
   obtain⟨m,hm,hmi⟩:=Option.bind_eq_some_iff.1 hci
   obtain⟨g1,g2⟩:=jN hm
   exact⟨m,g1,g2,hmi⟩
 have hOof:∀{m:Mki} (_:m∈new) (p:Pt),(Mks.of new).O m.idx p=m.O p:=fun {m} hm p=>by
   show (match fnd new m.idx with|some m=>m.O p|none=>[])=_
   rw[ye h3 hm]
 have hon:∀{m:Mki} (_:m∈new),(Mks.of new).on m.idx=true:=fun {m} hm=>by
   show (fnd new m.idx).isSome=true
   rw[ye h3 hm];rfl
 have hfla:∀(p:Pt) (l3:List Mki),(∀m∈l3,m∈new)->(l3.map (·.idx)).flatMap (fun i=>(Mks.of new).O i p)=l3.flatMap fun m=>m.O p:=fun p l3=>by
   induction l3 with
   | nil=>intro _;rfl
   | cons x r ih =>
     intro hx
     rw[ZU,ZC,ZC,ih fun y hy=>hx y (Zd _ hy),hOof (hx x Zi)]
 have hnd:(et new).Pairwise fun a b=>a.idx≠b.idx:=(h3.pw.imp fun h=>h.1).filter _
 refine wp_region_any hm (abF (objs:=objs) hok (k:=k) (by simp;omega) htl (M:=Mks.of new) (σ:=σ) (fun p p' t=>by rw[h4,h4]) hop (fun c c' i hck hck' hsc hsc'=>?_) (fun j hj p p'=>?_) (ms:=(et new).map (·.idx)) (List.Pairwise.map _ (fun a b h=>h) hnd) (fun i=>?_) (fun p hI=>?_) _ _ _ _ (by simp) (by simp[dE]) (fun i hi=>by rw[hrep] at hi;cases hi) (fun j oj _ hx=>nomatch (hrep j).symm.trans hx) ⟨pt0,L0.flatMap (fun m=>m.O pt0)++objs,⟨L0.map (·.idx),List.Pairwise.map _ (fun a b h=>h) (hL0.pw.imp fun h=>h.1),fun i=>?_,by rw[hfla pt0 L0 hL0m]⟩,⟨hs.defers,hs.size, ?_,fun t c hc' h7 h8 v hv=>?_⟩,fun i _ hx=>nomatch (hrep i).symm.trans hx⟩)
 ·obtain⟨m,g1,g2,g3⟩:=hsrc hsc
  obtain⟨m',g1',g2',g3'⟩:=hsrc hsc'
  refine Classical.byContradiction fun hne=>?_
  obtain⟨x,hx,rfl⟩:=ZD g1
  obtain⟨y,hy,rfl⟩:=ZD g1'
  have hne:x≠y:=fun e=>by subst e;omega
  rcases Nat.lt_or_gt_of_ne hne with hxy|hxy
  ·exact(List.pairwise_iff_getElem.1 h3.pw x y hx hy hxy).2 i g3 g3'
  ·exact(List.pairwise_iff_getElem.1 h3.pw y x hy hx hxy).2 i g3' g3
 ·show (match fnd new j with|some m=>m.O p|none=>[])=(match fnd new j with|some m=>m.O p'|none=>[])
  cases hf:fnd new j with
  | none=>rfl
  | some m =>
    obtain⟨g1,g2⟩:=jN hf
    exact(hcon m (hmemL m g1 (by simp at hj;omega))).2.1 p p'
 ·unfold adp
  rw[List.mem_map]
  constructor
  ·rintro ⟨m,hm,rfl⟩
   obtain⟨g1,g2⟩:=List.mem_filter.1 hm
   refine⟨fun hlt=>?_,hon g1,fun c hck hsc _=>?_⟩
   ·have:=h3.lt m g1
    simp at hlt
    omega
   ·obtain⟨m',g1',_,g3'⟩:=hsrc hsc
    have:=List.all_eq_true.1 g2 m' g1'
    simp only[g3',Nat.beq_refl,YA] at this
    cases this
  ·rintro ⟨hik,hon2,hno⟩
   obtain⟨m,hm⟩:=Option.isSome_iff_exists.1 (show (fnd new i).isSome=true from hon2)
   obtain⟨g1,rfl⟩:=jN hm
   refine⟨m,List.mem_filter.2 ⟨g1,List.all_eq_true.2 fun m' hm'=>?_⟩,rfl⟩
   cases hsr:m'.src with
   | none=>rfl
   | some j =>
     have hne:j≠m.idx:=fun e=>by
       subst e
       have hlt:m'.idx<k:=Classical.byContradiction fun hk=>by
         have:=(hcon m' (hmemL m' hm' hk)).1
         rw[hsr] at this;cases this
       exact hno m'.idx hlt (by show (fnd new m'.idx).bind _=_;rw[ye h3 hm'];exact hsr) hlt
     simp only[aaf hne,Yq]
 ·have hd2:l.toArray.toList.drop k=l2:=by simpa using e2.symm
  rw[hd2,h5,hfla p (et new) fun m hm=>(List.mem_filter.1 hm).1]
  refine h1 p fun m hm=>?_
  by_cases hlt:m.idx<k
  ·have:=hI m.idx hlt (hon hm)
   have e:(Mks.of new).I m.idx=m.I:=by
     funext y
     show (match fnd new m.idx with|some m=>m.I y|none=>True)=_
     rw[ye h3 hm]
   rwa [e] at this
  ·exact(hcon m (hmemL m hm hlt)).2.2 _
 ·unfold adp
  rw[List.mem_map]
  constructor
  ·rintro ⟨m,hm,rfl⟩
   have:=hL0i m hm
   exact⟨fun h=>by simp at h;omega,hon (hL0m m hm),fun c _ _ hx=>nomatch (hrep c).symm.trans hx⟩
  ·rintro ⟨hx,hon2,_⟩
   obtain⟨m,hm⟩:=Option.isSome_iff_exists.1 (show (fnd new i).isSome=true from hon2)
   obtain⟨g1,rfl⟩:=jN hm
   exact⟨m,hmemL m g1 (fun hlt=>nomatch (hrep _).symm.trans (hx (by simp;omega))),rfl⟩
 ·exact hs.mem.grow ⟨hs.mem.below.os,hs.mem.below.tape,hs.mem.below.output,hs.mem.below.size,hs.mem.below.block⟩ (Zg _) (fun _ _=>rfl)
 ·have hk0:∀m,m<=c->lk t (σ pt0 m)=lk t (σ pt0 0):=fun m=>by
    induction m with
    | zero=>intro _;rfl
    | succ m ih =>
      intro hm2
      have hml:m<l.length:=by omega
      obtain⟨T,_,g,_⟩:=hop m l[m] (by omega) (by simp[hml])
      rcases g with ⟨d,g1,_,g2⟩|⟨_,g2⟩
      ·rw[g2,cK,if_neg]
       ·exact ih (by omega)
       ·intro e
        have:=h7 m (by omega) (by unfold gz;simp[hml,g1,e])
        rw[hrep] at this;cases this
      ·rw[g2];exact ih (by omega)
  rw[hk0 c (Zg _),h4] at hv
  have hst:kQ w (L0.flatMap (fun m=>m.O pt0)++objs) { w with drawn:=w.drawn+1 } (L0.flatMap (fun m=>m.O pt0)++objs):=⟨fun _ _ _=>rfl,fun _ _ h=>h,fun _ _ _ rows _ _ h=>⟨⟨rows,h⟩,rfl⟩,Zg _,fun h=>h⟩
  exact(hs.env t v hv).step hst⟩
theorem dX (k:Nat) {id:Nat} {l l1 l2:List Oper} {env:Env} (hm:P.follows .mixedOrders=true) (hok:dP l.toArray=true) (htl:f6 l.toArray k=true) (hbl:Nat.blt l.length 1000000=true) (hc:Cut k l l1 l2)
   (h:DM P w0 N l.toArray objs (fun L E=>∀p:Pt,(∀m∈L,m.I (p m.idx))->AL P w0 N l.toArray Q l2 (E p) ((et L).flatMap (fun m=>m.O p)++objs)) 0 [] l1 (fun _=>env)):AW P w0 N (.region id l.toArray true) Q env objs :=
 tg [] k hm hok htl hbl hc ⟨by simp,.nil⟩ (by simp) h
theorem fm (k:Nat) {id:Nat} {l l1 l2:List Oper} {env:Env} {x:Nat×Nat×aV} (hm:P.follows .mixedOrders=true) (hok:dP l.toArray=true) (htl:f6 l.toArray k=true) (hbl:Nat.blt l.length 1000000=true) (hc:Cut k l l1 l2)
   (h:DM P w0 N l.toArray objs (fun L E=>∀p:Pt,(∀m∈L,m.I (p m.idx))->AL P w0 N l.toArray Q l2 (E p) ((et L).flatMap (fun m=>m.O p)++objs)) 0 [⟨1000000,fun _=>[x],none,fun _=>True⟩] l1 (fun _=>env)):AW P w0 N (.region id l.toArray true) Q env (x::objs) :=
 tg [⟨1000000,fun _=>[x],none,fun _=>True⟩] k hm hok htl hbl hc ⟨fun m hm=>by simp only[ZM] at hm;subst hm;exact .inr (Zg _),List.pairwise_singleton _ _⟩ (fun m hm=>by simp only[ZM] at hm;subst hm;exact⟨rfl,fun _ _=>rfl,fun _=>trivial⟩) h
end
def Yu.a:Yu->Nat
 | .one a _=>a
 | _=>0
def Yu.b:Yu->Nat
 | .one _ b=>b
 | _=>0
class Enc (Y:Type) where
 enc:Y->Yu
 dec:Yu->Y
 eq:∀y,dec (enc y)=y
instance:Enc (Nat×Nat):=⟨fun y=>.one y.1 y.2,fun y=>(y.a,y.b),fun _=>rfl⟩
instance:Enc (List (Nat×Nat)):=⟨.many,fun y=>match y with | .many l=>l|_=>[],fun _=>rfl⟩
instance {A B:Type} [Enc A] [Enc B]:Enc (A×B):=⟨fun y=>.pair (Enc.enc y.1) (Enc.enc y.2),fun y=>match y with | .pair a b=>(Enc.dec a,Enc.dec b)|_=>(Enc.dec .no,Enc.dec .no),fun y=>by simp[Enc.eq]⟩
section
variable {P:Program} {w0:World} {N:Nat} {Q:Exit->Act->World->Prop} {objs R:aG} {ops:Array Oper} {env:Env} {dd:Option Nat} {T0:Nat} {pos:String} {af:Array Edge} {g:Option (Nat×Bool)}
theorem pF {a:Act} {w:World} {l:List Operand} (h:∀x∈l,∀v,ev env x=some v->Rep w objs v (a.eval x)) {x:Operand} (hx:x∈l) {v:TV} (hv:ev env x=some v):Rep w objs v (a.eval x):=h x hx v hv
theorem adX {T:TypeId} {zs:List TV} (hz:dt P T=some zs):MkW P w0 env ⟨dd,.alloc T,T0,pos,af,g⟩ [] R (fun _=>True) (fun y=>[(y.a,y.b,.box zs)]) (fun y=>.mp y.a y.b 0):=mkS fun a w K Q hw _ hK =>
 x8 rfl hz (by simpa using hw) fun ss b v w' h1 h2 h3=>hK (.one ss b) v w' trivial h2 h3 h1
theorem agX {T:TypeId} {n m:Nat} {ps:List (Nat×Operand)} {rows:List (List TV)} (hT:P.underlying T=some (.slice (P.elem T))) (hI:(dt P (P.elem T)).isSome=true) (hm:P.cellsOf (P.elem T)=m) (hm0:Nat.blt 0 m=true) (hev:evL env ps 0=some rows) (hn:rows.length=n) (hbig:Nat.ble (n * m) 16777216=true) (hall:(rows.all fun r=>Nat.beq r.length m)=true) :
   MkW P w0 env ⟨dd,.buildSlice T n ps.toArray,T0,pos,af,g⟩ [] R (fun _=>True) (fun y=>[(y.a,y.b,.row m rows)]) (fun y=>.ms y.a y.b 0 n):=mkS fun a w K Q hw hop hK=>by
 obtain⟨ss,hf⟩:=ff ([]++R)
 have hm0':0<m:=Yo ▸ hm0
 have hall':∀r∈rows,r.length=m:=fun r hr=>Yi (List.all_eq_true.1 hall r hr)
 have hst:=fun cs=>ib hw cs (P.elem T) ss (.row m rows)
 obtain⟨cs,h1,h2,h3⟩:=wd (o:=⟨dd,.buildSlice T n ps.toArray,T0,pos,af,g⟩) rfl hT hI hm hm0 hn hbig a hev hall' (fun p hp v hv=>pF hop (by simpa [Op.operands] using ⟨p.1,hp⟩) hv)
 unfold Oper.wp
 rw[h1]
 have hnm:n<=maxLen:=by
   have:=Ya hbig
   have h4:n * 1<=n * m:=Y9 _ hm0'
   simp only[maxLen];omega
 have hb0:w.heap.size≠0:=Xi (ZJ hw.pos hw.below.size)
 refine hK (.one ss w.heap.size) _ _ trivial (hw.newObj hf ⟨⟨hm0',h2.2⟩,hall',.inr ⟨hw.below.size,cs,P.elem T,n,heap_alloc_new w _,h2.1,by omega,hnm,fun j t hj=>?_⟩⟩) (hst cs) (.ms _ _ _ _ _ (.mk ⟨by simp[Yu.b],ga hw #[] 0 ss _,_,_,rfl⟩ (fun m' rows' hm'=>.inr ⟨hb0,0,n,P.elem T,n * m,rfl,Zg _,by unfold World.shape?;simp only[Yu.b];rw[heap_alloc_new];simp[h2.1], ?_,fun _=>by simp⟩) (fun h0=>absurd h0 hb0)))
 ·obtain⟨v,h4,h5⟩:=h3 j t hj
  exact⟨v,h4,h5.step (hst cs)⟩
 ·rcases List.mem_cons.1 hm' with he|hm'
  ·simp only[Zp,aV.row.injEq] at he;rw[he.2.2.1];simp
  ·exact absurd (dV hw hm') (YK _)
theorem ox {T s b len n m:Nat} {x y:Operand} {f:Nat} {rows rows2 news:List (List TV)} (hx:ev env x=some (.ms s b 0 len)) (hy:ev env y=some (.sl f m news)) (hT:mz P T m=true) (hl:rows.length=len) (hn:news.length=n) (hbig:len+n<=1000000000) (hrows:rows++news=rows2) :
   MkW P w0 env ⟨dd,.call { callee:=.builtin .append,args:=#[x,y],argTypes:=#[T,T] },T0,pos,af,g⟩ [(s,b,.row m rows)] R (fun _=>True) (fun y=>[(s,y.b,.row m rows2)]) (fun y=>.ms s y.b 0 (len+n)):=mkS fun a w K Q hw hop hK=>by
 subst hrows
 subst hn
 have hu:∀b',Upd (s,b,.row m rows) (s,b',.row m (rows++news)) ([(s,b,.row m rows)]++R) ([(s,b',.row m (rows++news))]++R):=fun b'=>.head R
 have hmem:=(hu 0).mem
 have hex:=pF hop (x:=x) (by simp[Op.operands,Call.operands]) hx
 have hey:=pF hop (x:=y) (by simp[Op.operands,Call.operands]) hy
 obtain⟨b',off',pre,v',w',hr,hE⟩:=sP (P:=P) (ty:=T0) hw hmem hex hey hT (by omega) rfl hbig
 have hpre:pre=[]:=ZV (by rw[hE.prelen];exact hE.zero rfl)
 have hoff:off'=0:=hE.zero rfl
 subst hpre;subst hoff
 obtain⟨⟨hm0,hci⟩,hm,_⟩:=hw.obj s b _ hmem
 obtain⟨_,_,_,_,_,g3,g4,_⟩:=lS hey
 unfold Oper.wp
 rw[kC (o:=⟨dd,.call { callee:=.builtin .append,args:=#[x,y],argTypes:=#[T,T] },T0,pos,af,g⟩) rfl hr]
 have hst:=j4 (m:=m) hw (hu b') hE.size hE.keep hE.blk (fun rows' _=>⟨rows,rfl⟩) (fun m' rows' he=>by simp only[aV.row.injEq] at he;exact he.1.symm) hE.shape (by simp only[dr,ne_eq,Zp,aV.row.injEq];omega)
 have hobj:=hE.obj
 simp only[Zx,Y0] at hobj
 rw[<- hl,Zv] at hobj
 refine hK (.one s b') v' w' trivial (hw.upd (hu b') hE.below hE.keep hE.blk hst ⟨⟨hm0,fun t ht=>?_⟩,fun r hr=>?_,hobj.imp id fun⟨h1,cur,e,cap,h2,h3,h4,h5,h6⟩=>⟨h1,cur,e,cap,h2,h3,h4,h5,fun j t hj=>?_⟩⟩) hst (.ms s b' _ _ _ (.mk ⟨hE.lt,fun hm'=>hw.noMark (hst.mark hm'), ?_⟩ (fun m' rows' hm'=>?_) (fun h0=>?_)))
 ·simp only[YN,ZO] at ht
  rcases ht with ht|ht
  ·exact hci t ht
  ·exact g4 t ht
 ·simp only[ZO] at hr
  rcases hr with hr|hr
  ·exact hm r hr
  ·exact g3 r hr
 ·rcases hE.val with ⟨_,_,h0,h1⟩|⟨_,q,c,e,k,h1,_⟩
  ·exact⟨none,0,by rw[h0];exact h1⟩
  ·exact⟨_,_,h1⟩
 ·rcases(hu b').other hw.sites _ hm' with he|⟨_,hne,_⟩
  ·simp only[Zp,aV.row.injEq] at he
   obtain⟨_,_,rfl,_⟩:=he
   exact hE.val
  ·exact absurd rfl hne
 ·rcases hE.val with ⟨_,h1,h2,h3⟩|⟨h1,_⟩
  ·exact⟨h1,h2,h3⟩
  ·exact absurd h0 h1
 ·obtain⟨u,p1,p2⟩:=h6 j t hj
  exact⟨u,p1,p2.step hst⟩
theorem cy.mono {objs':aG} (hs:∀x∈objs,x∈objs') {t t':TV} (h:cy objs t t'):cy objs' t t':=by
 induction h with
 | same t=>exact .same t
 | nils m=>exact .nils m
 | ms s b off len m rows live rows' hm hle hlive hl h ih=>exact .ms s b off len m rows live rows' (hs _ hm) hle hlive hl ih
 | mp s b off cells l' hm hl h ih=>exact .mp s b off cells l' (hs _ hm) hl ih
 | me s b m k j rows r l' hm hr hl h ih=>exact .me s b m k j rows r l' (hs _ hm) hr hl ih
 | agg l l' hl h ih=>exact .agg l l' hl ih
 | sl f m rows rows' hl h ih=>exact .sl f m rows rows' hl ih
 | cp f l l' hl h ih=>exact .cp f l l' hl ih
 | cut t l l' h hp ih=>exact .cut t l l' ih hp
theorem bU.mono {objs':aG} (hs:∀x∈objs,x∈objs') {xs:List Operand} {ts:List TV} (h:bU env objs xs ts):bU env objs' xs ts:=by
 induction h with
 | nil=>exact .nil
 | cons x xs t t' ts h hv hr ih=>exact .cons x xs t t' ts h (hv.mono hs) ih
theorem afh {G:World->Prop} {f:Nat} {xs:List Operand} {ts:Array TypeId} {args:List TV} {Y:Type} [Enc Y] {I:Y->Prop} {O:Y->aG} {r:Y->TV} (hc:gL P f=true) (hct:CtM P G f args [] I O r) (hargs:bU env objs xs args) (hR:∀x∈objs,x∈R)
   (hG:G w0) (hst:ay G) (hnew:∀y,I y->(∀s b o,(s,b,o)∈O y->cE (O y) o)/\dY (O y) (r y)) :
   MkW P w0 env ⟨dd,.call { callee:=.value (.func f),args:=xs.toArray,argTypes:=ts },T0,pos,af,g⟩ [] R (fun y=>I (Enc.dec y)) (fun y=>O (Enc.dec y)) (fun y=>r (Enc.dec y)):=mkS fun a w K Q hw0 hop hK=>by
 have hw:eo w0 R w:=by simpa using hw0
 obtain⟨h1,h2⟩:=nQ hw (a:=a) (hargs.mono hR) (fun x hx v hv=>pF hop (by simp only[Op.operands,Call.operands];simp[hx]) hv)
 unfold Oper.wp
 rw[jB (o:=⟨dd,.call { callee:=.value (.func f),args:=xs.toArray,argTypes:=ts },T0,pos,af,g⟩) rfl hc]
 have hwv:=qZ hw
 refine(hct w w (nB R) [] (xs.map a.eval).toArray (hst.below _ _ hG hw.below) (by simpa using hwv) (.gh _ _ (by simp)) (by simpa using h1) (fun i t v ht hv=>?_)).mono ?_
 ·exact(h2 i t v ht (by simpa using hv)).step (by simpa using q6 w R)
 ·rintro e w' ⟨v,y,rfl,hI,hw',_,hr⟩
  obtain⟨n1,n2⟩:=hnew y hI
  have hst':=rQ hw hw' n1
  exact hK (Enc.enc y) v w' (by(try dsimp only);rw[Enc.eq];exact hI) (by(try dsimp only);rw[Enc.eq];exact yD hw hw' n1) (by(try dsimp only);rw[Enc.eq];exact hst') (by(try dsimp only);rw[Enc.eq];exact sG hw hw' n1 n2 hr)
end
theorem af1 {α:Type} {ops:Array Oper} {c:Nat} (f:Yu->α):aaD ops c (fun p=>f (p c)):=fun p p' h=>by
 show f (p c)=f (p' c)
 rw[h c (.inl rfl)]
theorem oF (L:List Mki) (p:Pt):yK L none p=[]:=rfl
theorem ah_ {A:Prop} (h:A:=by(first|exact .inl rfl|exact .inr ⟨by decide,by kernel_rfl⟩|fail)):A:=h
theorem ez {A:Prop} (h:A:=by(first|(intro p p' h;rfl)|(intro p p' h;(try dsimp only);(repeat rw[h _ ah_]))|fail)):A:=h
theorem im {A:Prop} (h:A:=by(first|(intro p p' h;rfl)|(intro p p' h;(try dsimp only);(repeat rw[h _ (by decide) ah_]))|fail)):A:=h
section
variable {P:Program} {w0:World} {N:Nat} {Q:Exit->Act->World->Prop} {objs:aG} {ops:Array Oper} {K:List Mki->(Pt->Env)->Prop} {c:Nat} {L:List Mki} {rest:List Oper} {E:Pt->Env} {d T0:Nat} {pos:String} {af:Array Edge}
theorem m_q {op:Op} {T:Pt->TV} (hy:∀p R,(∀x∈objs,x∈R)->Yd P w0 (E p) R ⟨some d,op,T0,pos,af,none⟩ (T p)) (hN:Nat.blt d N=true) (hi:aaD ops c T) (h:DM P w0 N ops objs K (c+1) L rest (fun p=>(d,T p)::E p)):DM P w0 N ops objs K c L (⟨some d,op,T0,pos,af,none⟩::rest) E :=
 .run c L _ rest E d T rfl hN rfl hi (fun p R hR=>(hy p R hR).go) h
theorem jh {T n m:Nat} {ps:List (Nat×Operand)} {rows:Pt->List (List TV)} (hev:∀p,evL (E p) ps 0=some (rows p)) (hN:Nat.blt d N=true) (hT:P.underlying T=some (.slice (P.elem T))) (hI:(dt P (P.elem T)).isSome=true) (hs:esT T=some m) (hm:P.cellsOf (P.elem T)=m) (hm0:Nat.blt 0 m=true) (hn:∀p,(rows p).length=n) (hbig:Nat.ble (n * m) 16777216=true) (hall:∀p,((rows p).all fun r=>Nat.beq r.length m)=true) (hi:aaD ops c rows)
   (h:DM P w0 N ops objs K (c+1) L rest (fun p=>(d,.sl w0.heap.size m (rows p))::E p)):DM P w0 N ops objs K c L (⟨some d,.buildSlice T n ps.toArray,T0,pos,af,none⟩::rest) E :=
 .run c L _ rest E d (fun p=>.sl w0.heap.size m (rows p)) rfl hN rfl (fun p p' h=>by show TV.sl _ _ (rows p)=_;rw[hi p p' h]) (fun p R hR=>aeY rfl hT hI hm hm0 (hev p) (hn p) hbig (hall p)) h
theorem cA {T:TypeId} {ps:List (Nat×Operand)} {zs:List TV} {l:Pt->List TV} (he:zT T=zs) (hb:∀p,TB P (E p) T ps zs (l p)) (hN:Nat.blt d N=true) (hz:dt P T=some (zT T)) (hp:(iY P T).isSome=true) (hi:aaD ops c l)
   (h:DM P w0 N ops objs K (c+1) L rest (fun p=>(d,.agg (l p))::E p)):DM P w0 N ops objs K c L (⟨some d,.build T ps.toArray,T0,pos,af,none⟩::rest) E :=
 .run c L _ rest E d (fun p=>.agg (l p)) rfl hN rfl (fun p p' h=>by show TV.agg (l p)=_;rw[hi p p' h]) (fun p R hR=>xE rfl hz hp (by rw[he];exact hb p)) h
theorem ol {G:World->Prop} {f:Nat} {xs:List Operand} {ts:Array TypeId} {args:List TV} {r:Nat->TV} (hG:G w0) (hst:ay G) (hct:Ct P G f args r) (hN:Nat.blt d N=true) (hc:gL P f=true) (hargs:∀p,bU (E p) objs xs args)
   (h:DM P w0 N ops objs K (c+1) L rest (fun p=>(d,r w0.heap.size)::E p)):DM P w0 N ops objs K c L (⟨some d,.call { callee:=.value (.func f),args:=xs.toArray,argTypes:=ts },T0,pos,af,none⟩::rest) E :=
 .run c L _ rest E d (fun _=>r w0.heap.size) rfl hN rfl (fun _ _ _=>rfl) (fun p R hR=>ul rfl hc ((hargs p).mono hR) hct hG hst) h
theorem gm {T:TypeId} {zs:List TV} (hN:Nat.blt d N=true) (he:zT T=zs) (hz:dt P T=some zs)
   (h:DM P w0 N ops objs K (c+1) (⟨c,fun p=>[((p c).a,(p c).b,.box zs)],none,fun _=>True⟩::L) rest (fun p=>(d,.mp (p c).a (p c).b 0)::E p)):DM P w0 N ops objs K c L (⟨some d,.alloc T,T0,pos,af,none⟩::rest) E :=
 .make c L _ rest E d (fun p=>[((p c).a,(p c).b,.box zs)]) none (fun _=>True) (fun p=>.mp (p c).a (p c).b 0) rfl hN rfl (af1 fun y=>TV.mp y.a y.b 0) (af1 fun y=>[(y.a,y.b,aV.box zs)]) (fun _ h=>by cases h) (fun p R hR=>by
   have:=adX (P:=P) (w0:=w0) (env:=E p) (R:=R) (dd:=some d) (T0:=T0) (pos:=pos) (af:=af) (g:=none) hz
   simpa only [Pt.put_eq,oF] using this) h
theorem uw {T n m:Nat} {ps:List (Nat×Operand)} {rows:List (List TV)} (hev:∀p,evL (E p) ps 0=some rows) (hN:Nat.blt d N=true) (hT:P.underlying T=some (.slice (P.elem T))) (hI:(dt P (P.elem T)).isSome=true) (hs:esT T=some m) (hm:P.cellsOf (P.elem T)=m) (hm0:Nat.blt 0 m=true) (hn:rows.length=n) (hbig:Nat.ble (n * m) 16777216=true) (hall:(rows.all fun r=>Nat.beq r.length m)=true)
   (h:DM P w0 N ops objs K (c+1) (⟨c,fun p=>[((p c).a,(p c).b,.row m rows)],none,fun _=>True⟩::L) rest (fun p=>(d,.ms (p c).a (p c).b 0 n)::E p)):DM P w0 N ops objs K c L (⟨some d,.buildSlice T n ps.toArray,T0,pos,af,none⟩::rest) E :=
 .make c L _ rest E d (fun p=>[((p c).a,(p c).b,.row m rows)]) none (fun _=>True) (fun p=>.ms (p c).a (p c).b 0 n) rfl hN rfl (af1 fun y=>TV.ms y.a y.b 0 n) (af1 fun y=>[(y.a,y.b,aV.row m rows)]) (fun _ h=>by cases h) (fun p R hR=>by
   have:=agX (P:=P) (w0:=w0) (env:=E p) (R:=R) (dd:=some d) (T0:=T0) (pos:=pos) (af:=af) (g:=none) hT hI hm hm0 (hev p) hn hbig hall
   simpa only [Pt.put_eq,oF] using this) h
theorem ahC {T i len n m f:Nat} {x y:Operand} {rows rows2 news:List (List TV)} (hx:∀p,ev (E p) x=some (.ms (p i).a (p i).b 0 len)) (hy:∀p,ev (E p) y=some (.sl f m news)) (hN:Nat.blt d N=true) (hT:mz P T m=true) (hsr:∀p,yK L (some i) p=[((p i).a,(p i).b,.row m rows)]) (hl:rows.length=len) (hn:news.length=n) (hbig:len+n<=1000000000) (hrows:rows++news=rows2)
   (hah:i≠c/\iI ops c i) (hfn:(fnd L i).isSome=true) (huse:∀m∈L,m.src≠some i)
   (h:DM P w0 N ops objs K (c+1) (⟨c,fun p=>[((p i).a,(p c).b,.row m rows2)],some i,fun _=>True⟩::L) rest (fun p=>(d,.ms (p i).a (p c).b 0 (len+n))::E p)):DM P w0 N ops objs K c L (⟨some d,.call { callee:=.builtin .append,args:=#[x,y],argTypes:=#[T,T] },T0,pos,af,none⟩::rest) E :=
 .make c L _ rest E d (fun p=>[((p i).a,(p c).b,.row m rows2)]) (some i) (fun _=>True) (fun p=>.ms (p i).a (p c).b 0 (len+n)) rfl hN rfl (fun p p' h=>by show TV.ms (p i).a (p c).b 0 _=TV.ms (p' i).a (p' c).b 0 _;rw[h c (.inl rfl),h i hah.2]) (fun p p' h=>by show [((p i).a,(p c).b,aV.row m rows2)]=[((p' i).a,(p' c).b,aV.row m rows2)];rw[h c (.inl rfl),h i hah.2])
   (fun j hj=>by cases hj;exact⟨fun _=>hah.2,hfn,huse⟩) (fun p R hR=>by
   have:=ox (P:=P) (w0:=w0) (env:=E p) (R:=R) (dd:=some d) (T0:=T0) (pos:=pos) (af:=af) (g:=none) (hx p) (hy p) hT hl hn hbig hrows
   rw[hsr p]
   simpa only [Pt.put_eq,Pt.put_ne hah.1] using this) h
theorem nk {T i n m f:Nat} {x y:Operand} {news:List (List TV)} (hx:∀p,ev (E p) x=some (.ms (p i).a (p i).b 0 0)) (hy:∀p,ev (E p) y=some (.sl f m news)) (hN:Nat.blt d N=true) (hT:mz P T m=true) (hsr:∀p,yK L (some i) p=[((p i).a,(p i).b,.row m [])]) (hn:news.length=n) (hbig:n<=1000000000)
   (hah:i≠c/\iI ops c i) (hfn:(fnd L i).isSome=true) (huse:∀m∈L,m.src≠some i)
   (h:DM P w0 N ops objs K (c+1) (⟨c,fun p=>[((p i).a,(p c).b,.row m news)],some i,fun _=>True⟩::L) rest (fun p=>(d,.ms (p i).a (p c).b 0 n)::E p)):DM P w0 N ops objs K c L (⟨some d,.call { callee:=.builtin .append,args:=#[x,y],argTypes:=#[T,T] },T0,pos,af,none⟩::rest) E :=
 ahC hx hy hN hT hsr rfl hn (by omega) (Zx _) hah hfn huse (by simpa only [ZY] using h)
theorem kj {T s b len n m f:Nat} {x y:Operand} {rows:List (List TV)} {news rows2:Pt->List (List TV)} (hx:∀p,ev (E p) x=some (.ms s b 0 len)) (hy:∀p,ev (E p) y=some (.sl f m (news p))) (hN:Nat.blt d N=true) (hT:mz P T m=true) (hsr:∀p,yK L (some 1000000) p=[(s,b,.row m rows)]) (hl:rows.length=len) (hn:∀p,(news p).length=n) (hbig:len+n<=1000000000) (hrows:∀p,rows++news p=rows2 p)
   (hcs:ops.size<1000000/\c<1000000) (hi:∀p p':Pt,(∀m,m≠c->iI ops c m->p m=p' m)->rows2 p=rows2 p') (hfn:(fnd L 1000000).isSome=true) (huse:∀m∈L,m.src≠some 1000000)
   (h:DM P w0 N ops objs K (c+1) (⟨c,fun p=>[(s,(p c).b,.row m (rows2 p))],some 1000000,fun _=>True⟩::L) rest (fun p=>(d,.ms s (p c).b 0 (len+n))::E p)):DM P w0 N ops objs K c L (⟨some d,.call { callee:=.builtin .append,args:=#[x,y],argTypes:=#[T,T] },T0,pos,af,none⟩::rest) E :=
 .make c L _ rest E d (fun p=>[(s,(p c).b,.row m (rows2 p))]) (some 1000000) (fun _=>True) (fun p=>.ms s (p c).b 0 (len+n)) rfl hN rfl (fun p p' h=>by show TV.ms s (p c).b 0 _=TV.ms s (p' c).b 0 _;rw[h c (.inl rfl)]) (fun p p' h=>by show [(s,(p c).b,aV.row m (rows2 p))]=[(s,(p' c).b,aV.row m (rows2 p'))];rw[h c (.inl rfl),hi p p' fun m _ ha=>h m ha])
   (fun j hj=>by cases hj;exact⟨fun h=>by omega,hfn,huse⟩) (fun p R hR=>by
   have:=ox (P:=P) (w0:=w0) (env:=E p) (R:=R) (dd:=some d) (T0:=T0) (pos:=pos) (af:=af) (g:=none) (hx p) (hy p) hT hl (hn p) hbig (hrows p)
   rw[hsr p]
   have hr2:∀y,rows2 (p.put c y)=rows2 p:=fun y=>hi _ _ fun m hne _=>Pt.put_ne hne
   simpa only [Pt.put_eq,hr2] using this) h
theorem gy {G:World->Prop} {f:Nat} {xs:List Operand} {ts:Array TypeId} {args:List TV} {Y:Type} [Enc Y] {I:Y->Prop} {O:Y->aG} {r:Y->TV} (hG:G w0) (hst:ay G) (hct:CtM P G f args [] I O r) (hN:Nat.blt d N=true) (hc:gL P f=true) (hargs:∀p,bU (E p) objs xs args) (hnew:∀y,I y->(∀s b o,(s,b,o)∈O y->cE (O y) o)/\dY (O y) (r y))
   (h:DM P w0 N ops objs K (c+1) (⟨c,fun p=>O (Enc.dec (p c)),none,fun y=>I (Enc.dec y)⟩::L) rest (fun p=>(d,r (Enc.dec (p c)))::E p)):DM P w0 N ops objs K c L (⟨some d,.call { callee:=.value (.func f),args:=xs.toArray,argTypes:=ts },T0,pos,af,none⟩::rest) E :=
 .make c L _ rest E d (fun p=>O (Enc.dec (p c))) none (fun y=>I (Enc.dec y)) (fun p=>r (Enc.dec (p c))) rfl hN rfl (af1 fun y=>r (Enc.dec y)) (af1 fun y=>O (Enc.dec y)) (fun _ h=>by cases h) (fun p R hR=>by
   have:=afh (P:=P) (w0:=w0) (env:=E p) (R:=R) (dd:=some d) (T0:=T0) (pos:=pos) (af:=af) (g:=none) (ts:=ts) hc hct (hargs p) hR hG hst hnew
   simpa only [Pt.put_eq,oF] using this) h
end
theorem dN {P:Program} {w0:World} {N:Nat} {Q:Exit->Act->World->Prop} {env:Env} {objs:aG} {ops:Array Oper} {rest:List Oper} {d T0:Nat} {pos:String} {af:Array Edge} {g:Option (Nat×Bool)} {objsOf:Nat->aG} {T s b n m:Nat} {x y:Operand} {f:Nat} {news:List (List TV)} (hN:Nat.blt d N=true) (hx:ev env x=some (.ms s b 0 0)) (hy:ev env y=some (.sl f m news)) (hT:mz P T m=true) (hm:(s,b,aV.row m [])∈objs) (hn:news.length=n) (hbig:n<=1000000000) (hu:∀b2,Upd (s,b,.row m []) (s,b2,.row m news) objs (objsOf b2)) (h:∀b2,AL P w0 N ops Q rest ((d,.ms s b2 0 n)::env) (objsOf b2)):AO P w0 N ops Q ⟨some d,.call { callee:=.builtin .append,args:=#[x,y],argTypes:=#[T,T] },T0,pos,af,g⟩ rest env objs :=
 eD hN hx hy hT hm rfl hn (by omega) (Zx _) hu (fun b2=>by simpa only [ZY] using h b2)
theorem ym_ {A:Prop} (h:A:=by(first|(intro p R hR;(try dsimp only);(first|((with_reducible first|apply abb|apply rD|apply i9);rfl)|((with_reducible apply yB);rfl;(with_reducible rfl);rfl)|((with_reducible apply yy);rfl;(with_reducible rfl);rfl)|((with_reducible apply ur);rfl;kernel_rfl;rfl;(exact hR _ mm_);(first|(with_reducible assumption)|(refine aK ?_;omega)|(refine f5 ?_;simp only[ZA,Zf];omega)|exact rfl|assumption);rfl)|((with_reducible apply pP);rfl;kernel_rfl;rfl;rfl)|((with_reducible apply oX);rfl;kernel_rfl;rfl;(exact hR _ mm_);rfl)|((with_reducible apply kG);rfl;kernel_rfl;rfl)|((with_reducible apply ko);rfl;rfl;kernel_rfl;kernel_rfl;kernel_rfl;rfl;(first|(with_reducible first|exact rfl|exact qk|exact qj|exact qi|exact qD)|exact rfl|exact dl (by omega)|omega);(first|(with_reducible assumption)|(refine aK ?_;omega)|(refine f5 ?_;simp only[ZA,Zf];omega)|exact rfl|assumption))|((with_reducible apply kh);rfl;rfl;(exact hR _ mm_);kernel_rfl;kernel_rfl;kernel_rfl;(first|(with_reducible first|exact rfl|exact qk|exact qj|exact qi|exact qD)|exact rfl|exact dl (by omega)|omega);(first|assumption|omega);(first|with_reducible exact ZY _|rfl))|((with_reducible apply ws);rfl;kernel_rfl)|((with_reducible apply sK);rfl;kernel_rfl;(first|exact Zf _|rfl))|((with_reducible apply xQ);rfl;kernel_rfl)|((with_reducible apply qO);rfl;kernel_rfl)|((with_reducible first|apply afx|apply afF|apply afB|apply afi|apply afp|apply aeV|apply oM|apply aik|apply af2);rfl;rfl)|((with_reducible first|apply aeI|apply afz|apply afj);rfl;rfl;(first|((with_reducible first|refine aeD ?_|refine ael ?_|refine aeA ?_|refine uA ?_|refine IntWalk.i64_in _ ?_|refine aez _ ?_);omega)|((with_reducible refine IntWalk.i64_in _ ?_);omega)|(with_reducible assumption)|exact rfl))|((with_reducible apply pa);rfl;rfl;kernel_rfl;(first|(with_reducible first|exact rfl|exact qk|exact qj|exact qi|exact qD)|exact rfl|exact dl (by omega)|omega);(first|assumption|omega))|((with_reducible apply acz);rfl;(with_reducible rfl))|((with_reducible apply aba);rfl;(with_reducible rfl))|((with_reducible apply agf);rfl;(with_reducible rfl))|((with_reducible apply acj);rfl;(with_reducible rfl))|((with_reducible first|apply abg|apply acb);rfl;rfl)|((with_reducible apply mC);rfl;rfl;kernel_rfl;kernel_rfl;(first|((with_reducible first|refine aeD ?_|refine ael ?_|refine aeA ?_|refine uA ?_|refine IntWalk.i64_in _ ?_|refine aez _ ?_);omega)|((with_reducible refine IntWalk.i64_in _ ?_);omega)|(with_reducible assumption)|exact rfl))|((with_reducible apply i7);rfl;(exact hR _ mm_))|((with_reducible apply lF);rfl;(exact hR _ mm_);(first|(with_reducible assumption)|(refine aK ?_;omega)|(refine f5 ?_;simp only[ZA,Zf];omega)|exact rfl|assumption))|((with_reducible apply lr);rfl;kernel_rfl;kernel_rfl;kernel_rfl;rfl;(exact hR _ mm_);(first|(with_reducible assumption)|(refine aK ?_;omega)|(refine f5 ?_;simp only[ZA,Zf];omega)|exact rfl|assumption);(first|exact .zero _|exact .succ _ _ _ _ (.zero _)|exact .succ _ _ _ _ (.succ _ _ _ _ (.zero _))|exact .succ _ _ _ _ (.succ _ _ _ _ (.succ _ _ _ _ (.zero _)))|exact .succ _ _ _ _ (.succ _ _ _ _ (.succ _ _ _ _ (.succ _ _ _ _ (.zero _))))|(repeat (first|exact .zero _|apply gO.succ))))|((with_reducible apply ja);rfl;kernel_rfl;kernel_rfl;kernel_rfl;rfl;(first|exact .zero _|exact .succ _ _ _ _ (.zero _)|exact .succ _ _ _ _ (.succ _ _ _ _ (.zero _))|exact .succ _ _ _ _ (.succ _ _ _ _ (.succ _ _ _ _ (.zero _)))|exact .succ _ _ _ _ (.succ _ _ _ _ (.succ _ _ _ _ (.succ _ _ _ _ (.zero _))))|(repeat (first|exact .zero _|apply gO.succ))))|((with_reducible apply lz);rfl;kernel_rfl;kernel_rfl;kernel_rfl;rfl;(exact hR _ mm_);(first|exact .zero _|exact .succ _ _ _ _ (.zero _)|exact .succ _ _ _ _ (.succ _ _ _ _ (.zero _))|exact .succ _ _ _ _ (.succ _ _ _ _ (.succ _ _ _ _ (.zero _)))|exact .succ _ _ _ _ (.succ _ _ _ _ (.succ _ _ _ _ (.succ _ _ _ _ (.zero _))))|(repeat (first|exact .zero _|apply gO.succ))))|((with_reducible apply aaH);rfl;kernel_rfl;kernel_rfl;rfl)|((with_reducible apply qL);rfl;rfl;rfl;kernel_rfl;(first|(with_reducible first|exact rfl|exact qk|exact qj|exact qi|exact qD)|exact rfl|exact dl (by omega)|omega);(first|(with_reducible first|exact rfl|exact qk|exact qj|exact qi|exact qD)|exact rfl|exact dl (by omega)|omega);(first|assumption|omega);(first|assumption|omega))|((with_reducible apply tV);rfl;rfl;kernel_rfl;(first|(with_reducible first|exact rfl|exact qk|exact qj|exact qi|exact qD)|exact rfl|exact dl (by omega)|omega);(first|assumption|omega))|((with_reducible apply ua);rfl;rfl;kernel_rfl;(first|(with_reducible first|exact rfl|exact qk|exact qj|exact qi|exact qD)|exact rfl|exact dl (by omega)|omega);(first|assumption|omega))|((with_reducible apply agD);rfl;rfl;omega;(first|((with_reducible first|refine aeD ?_|refine ael ?_|refine aeA ?_|refine uA ?_|refine IntWalk.i64_in _ ?_|refine aez _ ?_);omega)|((with_reducible refine IntWalk.i64_in _ ?_);omega)|(with_reducible assumption)|exact rfl))|((with_reducible apply agd);rfl;rfl;omega;exact rfl)|((with_reducible apply abs);rfl;rfl;(first|assumption|omega|(simp only[ByteArray.size_append,agu,YU,Zy,YE];omega)))|((with_reducible first|apply acB|apply abP);rfl;rfl;kernel_rfl)|((with_reducible apply agP);rfl;rfl;omega)|((with_reducible first|apply abl|apply aaI);rfl;rfl;kernel_rfl)))|fail)):A:=h
section
variable {P:Program} {w0:World} {N:Nat} {Q:Exit->Act->World->Prop} {env:Env} {objs:aG}
end
section
variable {P:Program} {w0:World} {N:Nat} {Q:Exit->Act->World->Prop} {env:Env} {objs objs':aG} {o:Oper}
end
inductive Rc (B:Nat) (L L':aG):TV->TV->Prop
 | same (t:TV):Rc B L L' t t
 | fz (s b n m:Nat) (rows:List (List TV)) (hm:(s,b,aV.row m rows)∈L) (hn:rows.length=n) (hna:∀x∈L',x.2.1=b->b=0):Rc B L L' (.ms s b 0 n) (.sl B m rows)
section
variable {P:Program} {w0:World} {N:Nat} {Q:Exit->Act->World->Prop} {env:Env} {objs objs':aG} {o:Oper}
theorem Sim.blocks {a:Act} {w:World} {x y:Nat×Nat×aV} {L:aG} (h:Sim w0 N env (x::y::L) a w):∀z∈x::L,z.2.1=y.2.1->y.2.1=0:=fun z hz he=>by
 obtain⟨h1,h2⟩:=List.pairwise_cons.1 h.mem.sites
 obtain⟨h3,_⟩:=List.pairwise_cons.1 h2
 rcases List.mem_cons.1 hz with rfl|hz
 ·rcases(h1 y Zi).2 with h4|h4
  ·exact absurd he h4
  ·rw[<- he];exact h4
 ·rcases(h3 z hz).2 with h4|h4
  ·exact absurd he.symm h4
  ·exact h4
theorem o5 {ops:Array Oper} {rest:List Oper} {d T0:Nat} {pos:String} {af:Array Edge} {g:Option (Nat×Bool)} {T:TypeId} {x:Operand} {tv:TV} {l:List TV} (hN:Nat.blt d N=true) (hx:ev env x=some tv) (hl:eM tv=some l)
   (h:∀ss b,AL P w0 N ops Q rest ((d,.mp ss b 0)::env) ((ss,b,.box l)::objs)):AO P w0 N ops Q ⟨some d,.box T x,T0,pos,af,g⟩ rest env objs:=ag5 rfl rfl hN hx hl h
theorem dS {bl:Bool} {pr sl:Int} {s b n:Nat} {rows:List (List TV)} (hm:(s,b,aV.row 4 rows)∈objs) (hl:rows.length=n):cy objs (.agg [.bool bl,.int .i64 pr,.int .i64 sl,.ms s b 0 n]) (.agg [.bool bl,.int .i64 pr,.int .i64 sl,.sl 0 4 rows]) :=
 .agg _ _ rfl fun j t t' h1 h2=>by
   match j,h1,h2 with
   | 0,h1,h2=>cases h1;cases h2;exact .same _
   | 1,h1,h2=>cases h1;cases h2;exact .same _
   | 2,h1,h2=>cases h1;cases h2;exact .same _
   | 3,h1,h2=>cases h1;cases h2;exact .msAll hm hl
   | j+4,h1,h2=>simp at h1
end
section
variable {P:Program} {w0:World} {N:Nat} {Q:Exit->Act->World->Prop} {objs R:aG} {ops:Array Oper} {env:Env} {T0:Nat} {pos:String} {af:Array Edge} {g:Option (Nat×Bool)}
theorem adE {T:TypeId} {x v:Operand} {s b off:Nat} {tv:TV} {cells vs cells':List TV} (hx:ev env x=some (.mp s b off)) (hv:ev env v=some tv) (hc:eM tv=some vs) (hi:(P.info? T).isSome=true) (hsz:P.cellsOf T=vs.length) (hsp:aW cells off vs cells') :
   MkW P w0 env ⟨none,.store T x v,T0,pos,af,g⟩ [(s,b,.box cells)] R (fun _=>True) (fun _=>[(s,b,.box cells')]) (fun _=>.tup []):=mkS fun a w K Q hw hop hK=>by
   have hu:Upd (s,b,.box cells) (s,b,.box cells') ([(s,b,.box cells)]++R) ([(s,b,.box cells')]++R):=.head R
   obtain⟨⟨hB,hci⟩,cur,e,h2,h3,h4⟩:=hw.obj s b _ hu.mem
   obtain⟨g1,g2,g3⟩:=gF (pF hop (x:=v) (by simp[Op.operands]) hv) hc
   obtain⟨p1,p2,p3⟩:=hsp.spec
   have hxa:=pF hop (x:=x) (by simp[Op.operands]) hx
   generalize hax:a.eval x=ax at hxa
   cases hxa with
   | mp s b off hb =>
   have hone:∀u∈(a.eval v).cells.toList,u.oneCell'=true:=fun u hu=>by
     obtain⟨k,hk,rfl⟩:=ZD hu
     have hk':k<vs.length:=by rw[<- g1];simpa using hk
     exact((g2 k vs[k] _ (Za hk') (by rw[<- Xm];exact Za hk)).one (g3 _ (Zb hk'))).1
   have hrun:=mK (P:=P) (o:=⟨none,.store T x v,T0,pos,af,g⟩) (cur:=cur) (e:=e) (w:=w) rfl hax hi (by rw[hsz,g1]) h2 (by rw[g1,h3];exact p1) hone
   unfold Oper.wp
   rw[hrun]
   have hb0:b≠0:=by have:=hw.pos;omega
   have hkk:∀k,k<w.heap.size->k≠b\/b=0->(w.setRow b (cur.toList.take off++(a.eval v).cells.toList++cur.toList.drop (off+(a.eval v).cells.size)).toArray).heap[k]?=w.heap[k]?:=fun k _ hk=>setRow_other w b k _ (hk.resolve_right hb0)
   have hst:=j4 (m:=0) hw hu (w':=w.setRow b (cur.toList.take off++(a.eval v).cells.toList++cur.toList.drop (off+(a.eval v).cells.size)).toArray) (by simp) hkk (.inl rfl) (by simp) (by simp) (fun _ _=>by
     unfold World.shape?;rw[setRow_heap w b cur _ e _ h2,h2];simp;omega) (by simp[dr])
   refine hK .no (.tuple #[]) _ trivial (hw.upd hu (gR hw.below hB _) hkk (.inl rfl) hst ⟨⟨hB,fun t ht=>?_⟩,_,e,setRow_heap w b cur _ e _ h2, ?_,fun j t hj=>?_⟩) hst (.tup [] #[] rfl (by simp))
   ·obtain⟨k,hk,rfl⟩:=ZD ht
    have h5:=p3 k
    rw[Za hk] at h5
    split at h5
    ·exact g3 _ (Zm h5.symm)
    ·exact hci _ (Zm h5.symm)
   ·simp;omega
   ·rw[p3] at hj
    have hcur:∀i:Nat,cur.toList[i]?=cur[i]?:=fun i=>by simp
    simp only[YS]
    split at hj
    ·rename_i hin
     have hlt:j - off<(a.eval v).cells.size:=by omega
     refine⟨(a.eval v).cells[j - off], ?_,(g2 _ t _ hj (by simp[hlt])).step hst⟩
     rw[Zs (by simp;omega),Zr (by simp;omega)]
     simp only[Zu,Z5]
     rw[show j - min off cur.size=j - off by omega]
     simp[hlt]
    ·rename_i hin
     obtain⟨u,h5,h6⟩:=h4 j t hj
     refine⟨u, ?_,h6.step hst⟩
     have hjl:j<cur.size:=(Array.getElem?_eq_some_iff.1 h5).1
     by_cases hjo:j<off
     ·rw[Zs (by simp;omega),Zs (by simp;omega),ZQ,if_pos hjo,hcur];exact h5
     ·rw[Zr (by simp;omega)]
      simp only[Zh,Zu,Z5,Yf]
      rw[show off+(a.eval v).cells.size+(j - (min off cur.size+(a.eval v).cells.size))=j by omega,hcur];exact h5
end
section
variable {P:Program} {w0:World} {N:Nat} {Q:Exit->Act->World->Prop} {objs:aG} {ops:Array Oper} {K:List Mki->(Pt->Env)->Prop} {c:Nat} {L:List Mki} {rest:List Oper} {E:Pt->Env} {T0:Nat} {pos:String} {af:Array Edge}
theorem wU {T:TypeId} {i off:Nat} {x v:Operand} {tv:Pt->TV} {cells:List TV} {vs cells2:Pt->List TV} (hx:∀p,ev (E p) x=some (.mp (p i).a (p i).b off)) (hv:∀p,ev (E p) v=some (tv p)) (hc:∀p,eM (tv p)=some (vs p)) (hi:(P.info? T).isSome=true) (hsr:∀p,yK L (some i) p=[((p i).a,(p i).b,.box cells)]) (hsp:∀p,aW cells off (vs p) (cells2 p)) (hsz:∀p,P.cellsOf T=(vs p).length)
   (hah:i≠c/\iI ops c i) (hind:∀p p':Pt,(∀m,m≠c->iI ops c m->p m=p' m)->cells2 p=cells2 p') (hfn:(fnd L i).isSome=true) (huse:∀m∈L,m.src≠some i)
   (h:DM P w0 N ops objs K (c+1) (⟨c,fun p=>[((p i).a,(p i).b,.box (cells2 p))],some i,fun _=>True⟩::L) rest E):DM P w0 N ops objs K c L (⟨none,.store T x v,T0,pos,af,none⟩::rest) E :=
 .makeN c L _ rest E (fun p=>[((p i).a,(p i).b,.box (cells2 p))]) (some i) (fun _=>True) (fun _=>.tup []) rfl rfl (fun _ _ _=>rfl) (fun p p' h=>by
   show [((p i).a,(p i).b,aV.box (cells2 p))]=[((p' i).a,(p' i).b,aV.box (cells2 p'))]
   rw[h i hah.2,hind p p' fun m _ ha=>h m ha])
   (fun j hj=>by cases hj;exact⟨fun _=>hah.2,hfn,huse⟩) (fun p R hR=>by
   have:=adE (P:=P) (w0:=w0) (env:=E p) (R:=R) (T0:=T0) (pos:=pos) (af:=af) (g:=none) (hx p) (hv p) (hc p) hi (hsz p) (hsp p)
   rw[hsr p]
   have hr2:∀y,cells2 (p.put c y)=cells2 p:=fun y=>hind _ _ fun m hne _=>Pt.put_ne hne
   simpa only [Pt.put_ne hah.1,hr2] using this) h
end
section
variable {P:Program} {w0:World} {N:Nat} {Q:Exit->Act->World->Prop} {objs R:aG} {ops:Array Oper} {env:Env} {dd:Option Nat} {T0:Nat} {pos:String} {af:Array Edge} {g:Option (Nat×Bool)}
end
section
variable {P:Program} {w0:World} {N:Nat} {objs:aG} {ops:Array Oper} {K:List Mki->(Pt->Env)->Prop} {c:Nat} {L:List Mki} {rest:List Oper} {E:Pt->Env} {d T0:Nat} {pos:String} {af:Array Edge}
end
section
variable {P:Program} {w0:World} {N:Nat} {Q:Exit->Act->World->Prop} {env:Env} {objs objs':aG}
theorem acd (w:World) (s b ss m0 m:Nat) (c c':List (List TV)) (hm:0<m) (h0:0<m0):kQ w ((s,b,.row m0 c)::objs) w ((s,b,.row m0 c')::(ss,0,.row m [])::objs) :=
 ⟨fun _ _ _=>rfl,fun b' _ ha=>⟨ha.1,by
   obtain⟨h0,s',o,hm⟩:=ha
   rcases List.mem_cons.1 hm with he|hm
   ·simp only[Zp] at he
    obtain⟨rfl,rfl,_⟩:=he
    exact⟨_,_,Zi⟩
   ·rcases List.mem_cons.1 hm with he|hm
    ·simp only[Zp] at he;omega
    ·exact⟨s',o,Zd _ hm⟩⟩,fun s' b' m' rows _ hb hm'=>by
   rcases List.mem_cons.1 hm' with he|hm'
   ·simp only[Zp,aV.row.injEq] at he
    obtain⟨rfl,rfl,rfl,_⟩:=he
    exact⟨⟨c,Zi⟩,rfl⟩
   ·rcases List.mem_cons.1 hm' with he|hm'
    ·simp only[Zp] at he;omega
    ·exact⟨⟨rows,Zd _ hm'⟩,rfl⟩,Zg _,fun hk=>by
   rcases List.mem_cons.1 hk with he|hk
   ·simp only[dr,Zp,aV.row.injEq] at he;omega
   ·rcases List.mem_cons.1 hk with he|hk
    ·simp only[dr,Zp,aV.row.injEq] at he;omega
    ·exact Zd _ hk⟩
theorem Sim.nilRk {a:Act} {w:World} {s b m0:Nat} {rows:List (List TV)} {cells:List TV} (h:Sim w0 N env ((s,b,.row m0 rows)::objs) a w) (k i m:Nat) (hm:0<m) (hk:rows[k]?=some cells) (hi:cells[i]?=some .nils):∃ss,Sim w0 N env ((s,b,.row m0 (rows.set k (cells.set i (.ms ss 0 0 0))))::(ss,0,.row m [])::objs) a w:=by
 obtain⟨ss,hss⟩:=ff ((s,b,.row m0 rows)::objs)
 have hpos:0<w.heap.size:=ZJ h.mem.pos h.mem.below.size
 have hob:=h.mem.obj _ _ _ (Zi (l:=objs))
 have hst:kQ w ((s,b,.row m0 rows)::objs) w ((s,b,.row m0 (rows.set k (cells.set i (.ms ss 0 0 0))))::(ss,0,.row m [])::objs):=acd w s b ss m0 m _ _ hm hob.1.1
 have hnm:dr∉(s,b,aV.row m0 (rows.set k (cells.set i (.ms ss 0 0 0))))::(ss,0,.row m [])::objs:=fun hk=>h.mem.noMark (hst.mark hk)
 have hkl:k<rows.length:=(List.getElem?_eq_some_iff.1 hk).1
 have hil:i<cells.length:=(List.getElem?_eq_some_iff.1 hi).1
 have hb0:b≠0:=by
   obtain⟨_,_,g3⟩:=hob
   rcases g3 with ⟨_,rfl⟩|⟨g3,_⟩
   ·simp at hkl
   ·have:=h.mem.pos
    omega
 refine⟨ss,h.defers,h.size,⟨h.mem.below,h.mem.pos,fun s' b' o hm'=>?_, ?_⟩,fun t v hv=>(h.env t v hv).step hst⟩
 ·rcases List.mem_cons.1 hm' with he|hm'
  ·simp only[Zp] at he
   obtain⟨rfl,rfl,rfl⟩:=he
   obtain⟨⟨g1,g2⟩,g0,g3⟩:=hob
   rcases g3 with ⟨_,rfl⟩|⟨g3,cur,e,cap,g4,g5,g6,g7,g8⟩
   ·simp at hkl
   have hcl:=g0 _ (Zm hk)
   have hfs:=oO g0 g1 hkl (r':=cells.set i (.ms ss 0 0 0)) (by rw[ZA];exact hcl)
   refine⟨⟨g1,lP g2 fun t ht=>?_⟩,fun r hr=>?_,.inr ⟨g3,cur,e,cap,g4,g5,by rw[ZA];exact g6,g7,fun j t hj=>?_⟩⟩
   ·rcases Z7 ht with ht|rfl
    ·exact g2 t (List.mem_flatten.2 ⟨_,Zm hk,ht⟩)
    ·rfl
   ·rcases Z7 hr with hr|rfl
    ·exact g0 r hr
    ·rw[ZA];exact hcl
   ·have hold:∀q t,q<m0->cells[q]?=some t->∃v,cur[k * m0+q]?=some v/\Rep w ((s',b',.row m0 rows)::objs) t v:=fun q t hq ht=>g8 _ t ((em g0 hk hq).trans ht)
    rw[hfs] at hj
    split at hj
    ·rename_i hrange
     rw[YW] at hj
     split at hj
     ·rename_i e1
      try rw[if_pos hil] at hj
      cases hj
      obtain⟨v,g9,g10⟩:=hold i _ (by omega) hi
      refine⟨v,by rw[show j=k * m0+i by omega];exact g9, ?_⟩
      cases g10
      exact .ms ss 0 0 0 _ (.mk ⟨hpos,hnm,none,0,rfl⟩ (fun _ _ _=>.inl ⟨rfl,rfl,rfl,rfl⟩) fun _=>⟨rfl,rfl,rfl⟩)
     ·obtain⟨v,g9,g10⟩:=hold (j - k * m0) t (by rw[Xf] at hrange;omega) hj
      exact⟨v,by rw[show j=k * m0+(j - k * m0) by omega];exact g9,g10.step hst⟩
    ·obtain⟨v,g9,g10⟩:=g8 j t hj
     exact⟨v,g9,g10.step hst⟩
  ·rcases List.mem_cons.1 hm' with he|hm'
   ·simp only[Zp] at he
    obtain⟨rfl,rfl,rfl⟩:=he
    exact⟨⟨hm,by simp⟩,by simp,.inl ⟨rfl,rfl⟩⟩
   ·exact(h.mem.obj s' b' o (Zd _ hm')).step hst rfl
 ·obtain⟨p1,p2⟩:=List.pairwise_cons.1 h.mem.sites
  refine List.pairwise_cons.2 ⟨fun y hy=>?_,List.pairwise_cons.2 ⟨fun y hy=>⟨(hss y (Zd _ hy)).symm,.inr rfl⟩,p2⟩⟩
  rcases List.mem_cons.1 hy with rfl|hy
  ·exact⟨hss (s,b,.row m0 rows) Zi,.inl hb0⟩
  ·exact p1 y hy
end
section
variable {P:Program} {w0:World} {N:Nat} {Q:Exit->Act->World->Prop} {env:Env} {objs:aG} {ops:Array Oper} {rest:List Oper}
def agm (P:Program) (T:TypeId):Bool:=match P.underlying T with
 | some (.slice _)=>true
 | _=>false
theorem afo {d:Nat} {T T0 t2:TypeId} {pos:String} {af:Array Edge} {g:Option (Nat×Bool)} {x:Operand} {f m:Nat} {rows:List (List TV)} (hN:Nat.blt d N=true) (hx:ev env x=some (.sl f m rows)) (hm:Nat.blt 0 m=true) (hT:agm P T=true)
   (h:∀b:Bool,(b=true->rows=[])->AL P w0 N ops Q rest ((d,.bool b)::env) objs):AO P w0 N ops Q ⟨some d,.binOp .eql T x (.const (.slice none 0 0)) t2,T0,pos,af,g⟩ rest env objs :=
 ⟨fun a w K hs hK=>by
   have hr:=fU hs hx
   obtain⟨A,c,hA,hn⟩:∃A c,a.eval x=.slice A rows.length c/\(A=none->rows=[]):=by
     generalize a.eval x=v at hr
     cases hr with
     | sl _ _ _ A c h1 h2 hm2 hi gg hc hrr =>
       refine⟨A,c,rfl,fun hA=>?_⟩
       cases rows with
       | nil=>rfl
       | cons r rs =>
         exfalso
         have hl:=hm2 r Zi
         have hm0:0<m:=Ya hm
         cases r with
         | nil=>simp at hl;omega
         | cons t ts =>
           obtain⟨b,o,hA2,_⟩:=hc 0 t (by simp)
           rw[hA] at hA2;cases hA2
   unfold agm at hT
   split at hT
   ·rename_i e hu
    have h1:(execOp a.eval ⟨some d,.binOp .eql T x (.const (.slice none 0 0)) t2,T0,pos,af,g⟩).run P w=.ok (.value (.bool A.isNone)) w:=by
      simp only[execOp,hA,show a.eval (.const (.slice none 0 0))=.slice none 0 0 from rfl]
      refine dq ?_
      simp[ZE,eqGuard,Sem.run_pure,Zz,run_eql_slice_nil w T e A rows.length c hu]
    unfold Oper.wp
    rw[h1]
    exact hK _ _ ((h A.isNone fun hb=>hn (by simpa using hb)).run _ _ (hs.put hN (.bool _) hs.mem ⟨fun _ _ _=>rfl,fun _ _ h=>h,fun _ _ _ rows _ _ h=>⟨⟨rows,h⟩,rfl⟩,Zg _,id⟩))
   ·cases hT⟩
theorem oY {objs':aG} {o:Oper} {t s b m n:Nat} {rows:List (List TV)} (hx:lk t env=some (.ms s b 0 n)) (hn:rows.length=n) (hd:yQ s b (.row m rows) objs objs') (h:AO P w0 N ops Q o rest ((t,.sl w0.heap.size m rows)::env) objs'):AO P w0 N ops Q o rest env objs:=⟨fun a w K hs hK=>h.run a w K (hs.freeze hx hn hd) hK⟩
end
instance:Enc Nat:=⟨fun y=>.one y 0,fun y=>y.a,fun _=>rfl⟩
instance:Enc Unit:=⟨fun _=>.no,fun _=>(),fun _=>rfl⟩
section
variable {P:Program} {w0:World} {N:Nat} {Q:Exit->Act->World->Prop} {objs:aG} {ops:Array Oper} {K:List Mki->(Pt->Env)->Prop} {c:Nat} {L:List Mki} {rest:List Oper} {E:Pt->Env} {d T0:Nat} {pos:String} {af:Array Edge}
theorem adR {G:World->Prop} {env:Env} {R C:aG} {dd:Option Nat} {g:Option (Nat×Bool)} {f:Nat} {xs:List Operand} {ts:Array TypeId} {args:List TV} {Y:Type} [Enc Y] {I:Y->Prop} {O:Y->aG} {r:Y->TV} (hc:gL P f=true) (hct:CtM P G f args C I O r) (hargs:az env xs args) (hG:G w0) :
   MkW P w0 env ⟨dd,.call { callee:=.value (.func f),args:=xs.toArray,argTypes:=ts },T0,pos,af,g⟩ C R (fun y=>I (Enc.dec y)) (fun y=>O (Enc.dec y)) (fun y=>r (Enc.dec y)):=fun a w K Q gs hw hop hg hK=>by
 obtain⟨h1,h2⟩:=tP (objs:=C++R) (w:=w) (a:=a) hargs (fun x hx v hv=>pF hop (by simp only[Op.operands,Call.operands];simp[hx]) hv)
 unfold Oper.wp
 rw[jB (o:=⟨dd,.call { callee:=.value (.func f),args:=xs.toArray,argTypes:=ts },T0,pos,af,g⟩) rfl hc]
 refine(hct w0 w R gs (xs.map a.eval).toArray hG hw hg (by simpa using h1) (fun i t v ht hv=>h2 i t v ht (by simpa using hv))).mono ?_
 rintro e w' ⟨v,y,rfl,hI,hw',hg',hr⟩
 exact hK (Enc.enc y) v w' (by(try dsimp only);rw[Enc.eq];exact hI) (by(try dsimp only);rw[Enc.eq];exact hw') (by(try dsimp only);rw[Enc.eq];exact hg') (by(try dsimp only);rw[Enc.eq];exact hr)
theorem rB {G:World->Prop} {f i:Nat} {xs:List Operand} {ts:Array TypeId} {args:Pt->List TV} {C:Pt->aG} {Y:Type} [Enc Y] {I:Y->Prop} {O:Pt->Y->aG} {r:Pt->Y->TV} (hG:G w0) (hct:∀p,CtM P G f (args p) (C p) I (O p) (r p)) (hN:Nat.blt d N=true) (hc:gL P f=true) (hargs:∀p,az (E p) xs (args p)) (hsr:∀p,yK L (some i) p=C p)
   (hah:i<ops.size->iI ops c i) (hi:∀p p':Pt,(∀m,m≠c->iI ops c m->p m=p' m)->O p=O p') (hi2:∀p p':Pt,(∀m,m≠c->iI ops c m->p m=p' m)->r p=r p') (hfn:(fnd L i).isSome=true) (huse:∀m∈L,m.src≠some i)
   (h:DM P w0 N ops objs K (c+1) (⟨c,fun p=>O p (Enc.dec (p c)),some i,fun y=>I (Enc.dec y)⟩::L) rest (fun p=>(d,r p (Enc.dec (p c)))::E p)):DM P w0 N ops objs K c L (⟨some d,.call { callee:=.value (.func f),args:=xs.toArray,argTypes:=ts },T0,pos,af,none⟩::rest) E :=
 .make c L _ rest E d (fun p=>O p (Enc.dec (p c))) (some i) (fun y=>I (Enc.dec y)) (fun p=>r p (Enc.dec (p c))) rfl hN rfl (fun p p' h=>by
   have e1:=hi2 p p' fun m _ ha=>h m ha
   have e2:p c=p' c:=h c (.inl rfl)
   show r p (Enc.dec (p c))=r p' (Enc.dec (p' c))
   rw[e1,e2]) (fun p p' h=>by
   have e1:=hi p p' fun m _ ha=>h m ha
   have e2:p c=p' c:=h c (.inl rfl)
   show O p (Enc.dec (p c))=O p' (Enc.dec (p' c))
   rw[e1,e2])
   (fun j hj=>by cases hj;exact⟨hah,hfn,huse⟩) (fun p R hR=>by
   have:=adR (P:=P) (w0:=w0) (env:=E p) (R:=R) (dd:=some d) (T0:=T0) (pos:=pos) (af:=af) (g:=none) (ts:=ts) hc (hct p) (hargs p) hG
   have hr1:∀y,O (p.put c y)=O p:=fun y=>hi _ _ fun m hne _=>Pt.put_ne hne
   have hr2:∀y,r (p.put c y)=r p:=fun y=>hi2 _ _ fun m hne _=>Pt.put_ne hne
   rw[hsr p]
   simpa only [Pt.put_eq,hr1,hr2] using this) h
end
section
variable {P:Program} {w0:World} {N:Nat} {Q:Exit->Act->World->Prop} {objs:aG} {ops:Array Oper} {K:List Mki->(Pt->Env)->Prop} {c:Nat} {L:List Mki} {rest:List Oper} {E:Pt->Env} {d T0:Nat} {pos:String} {af:Array Edge}
theorem ait {env:Env} {C R:aG} {o:Oper} {T:TV} (hy:ba P w0 env (C++R) o T):MkW P w0 env o C R (fun _=>True) (fun _=>C) (fun _=>T) :=
 mkS fun a w K Q hw hop hK=>hy a w K Q hw hop fun v w' h1 h2 h3=>hK .no v w' trivial h2 h3 h1
theorem aip {op:Op} (i:Nat) {T:Pt->TV} {C:Pt->aG} (hsr:∀p,yK L (some i) p=C p) (hy:∀p R,(∀x∈objs,x∈R)->Yd P w0 (E p) (C p++R) ⟨some d,op,T0,pos,af,none⟩ (T p)) (hN:Nat.blt d N=true) (hah:i<ops.size->iI ops c i)
   (hiT:∀p p':Pt,(∀m,m≠c->iI ops c m->p m=p' m)->T p=T p') (hiC:∀p p':Pt,(∀m,m≠c->iI ops c m->p m=p' m)->C p=C p') (hfn:(fnd L i).isSome=true) (huse:∀m∈L,m.src≠some i)
   (h:DM P w0 N ops objs K (c+1) (⟨c,C,some i,fun _=>True⟩::L) rest (fun p=>(d,T p)::E p)):DM P w0 N ops objs K c L (⟨some d,op,T0,pos,af,none⟩::rest) E :=
 .make c L _ rest E d C (some i) (fun _=>True) T rfl hN rfl (fun p p' h=>hiT p p' fun m _ ha=>h m ha) (fun p p' h=>hiC p p' fun m _ ha=>h m ha) (fun j hj=>by cases hj;exact⟨hah,hfn,huse⟩) (fun p R hR=>by
   have:=ait (hy p R hR).go
   rw[hsr p]
   have h1:∀y,C (p.put c y)=C p:=fun y=>hiC _ _ fun m hne _=>Pt.put_ne hne
   have h2:∀y,T (p.put c y)=T p:=fun y=>hiT _ _ fun m hne _=>Pt.put_ne hne
   simpa only [h1,h2] using this) h
theorem agE {T len n m f:Nat} (i:Nat) {x y:Operand} {sx bx:Pt->Nat} {rows:List (List TV)} {news rows2:Pt->List (List TV)} (hsr:∀p,yK L (some i) p=[(sx p,bx p,.row m rows)]) (hx:∀p,ev (E p) x=some (.ms (sx p) (bx p) 0 len)) (hy:∀p,ev (E p) y=some (.sl f m (news p))) (hN:Nat.blt d N=true) (hT:mz P T m=true) (hl:rows.length=len) (hn:∀p,(news p).length=n) (hbig:len+n<=1000000000) (hrows:∀p,rows++news p=rows2 p)
   (hah:i<ops.size->iI ops c i) (hiS:∀p p':Pt,(∀m,m≠c->iI ops c m->p m=p' m)->sx p=sx p') (hiR:∀p p':Pt,(∀m,m≠c->iI ops c m->p m=p' m)->rows2 p=rows2 p') (hfn:(fnd L i).isSome=true) (huse:∀m∈L,m.src≠some i)
   (h:DM P w0 N ops objs K (c+1) (⟨c,fun p=>[(sx p,(p c).b,.row m (rows2 p))],some i,fun _=>True⟩::L) rest (fun p=>(d,.ms (sx p) (p c).b 0 (len+n))::E p)):DM P w0 N ops objs K c L (⟨some d,.call { callee:=.builtin .append,args:=#[x,y],argTypes:=#[T,T] },T0,pos,af,none⟩::rest) E :=
 .make c L _ rest E d (fun p=>[(sx p,(p c).b,.row m (rows2 p))]) (some i) (fun _=>True) (fun p=>.ms (sx p) (p c).b 0 (len+n)) rfl hN rfl (fun p p' h=>by
   show TV.ms (sx p) (p c).b 0 _=TV.ms (sx p') (p' c).b 0 _
   rw[h c (.inl rfl),hiS p p' fun m _ ha=>h m ha]) (fun p p' h=>by
   show [(sx p,(p c).b,aV.row m (rows2 p))]=[(sx p',(p' c).b,aV.row m (rows2 p'))]
   rw[h c (.inl rfl),hiS p p' fun m _ ha=>h m ha,hiR p p' fun m _ ha=>h m ha])
   (fun j hj=>by cases hj;exact⟨hah,hfn,huse⟩) (fun p R hR=>by
   have:=ox (P:=P) (w0:=w0) (env:=E p) (R:=R) (dd:=some d) (T0:=T0) (pos:=pos) (af:=af) (g:=none) (hx p) (hy p) hT hl (hn p) hbig (hrows p)
   rw[hsr p]
   have h1:∀y,sx (p.put c y)=sx p:=fun y=>hiS _ _ fun m hne _=>Pt.put_ne hne
   have h2:∀y,rows2 (p.put c y)=rows2 p:=fun y=>hiR _ _ fun m hne _=>Pt.put_ne hne
   simpa only [Pt.put_eq,h1,h2] using this) h
theorem vG (k:Nat) {id:Nat} {l l1 l2:List Oper} {env:Env} {x y z:Nat×Nat×aV} (hm:P.follows .mixedOrders=true) (hok:dP l.toArray=true) (htl:f6 l.toArray k=true) (hbl:Nat.blt l.length 1000000=true) (hc:Cut k l l1 l2)
   (h:DM P w0 N l.toArray objs (fun L E=>∀p:Pt,(∀m∈L,m.I (p m.idx))->AL P w0 N l.toArray Q l2 (E p) ((et L).flatMap (fun m=>m.O p)++objs)) 0 [⟨1000000,fun _=>[x,y,z],none,fun _=>True⟩] l1 (fun _=>env)):AW P w0 N (.region id l.toArray true) Q env (x::y::z::objs) :=
 tg [⟨1000000,fun _=>[x,y,z],none,fun _=>True⟩] k hm hok htl hbl hc ⟨fun m hm=>by simp only[ZM] at hm;subst hm;exact .inr (Zg _),List.pairwise_singleton _ _⟩ (fun m hm=>by simp only[ZM] at hm;subst hm;exact⟨rfl,fun _ _=>rfl,fun _=>trivial⟩) h
end
end Go.Proofs.YtifcomgnmokimaaGreatDoor
