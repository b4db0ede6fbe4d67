/- Part 21 of the proof: the texts IvN, RsP, RsA, RsB, RsC. -/
import Derived.Test.YtofnnnpahglfdaaGreatDoorCo3
import Derived.Test.YtofnnnpahglfdaaGreatDoorCo15
import Derived.Test.YtofnnnpahglfdaaGreatDoorCo12
set_option linter.all false
set_option maxHeartbeats 8000000
set_option maxRecDepth 20000
namespace Go.Proofs.YtofnnnpahglfdaaGreatDoor
open Go Go.RowKit
section
variable {G:World->Prop}
theorem vT (hst:aC G) (lo:Nat) (n:Int) (bl:Bool) (pr sl:Int) (is:List ak) (hn:is.length<=1048576):Ct Tryz.prog G 262 [.int .i64 n,.cp 0 [.bool bl,.int .i64 pr,.int .i64 sl,.sl lo 4 (is.map (ak.tw lo))]] (fun _=>.bool (inR n 0 ((is.length:Int) - 1))):=by
 refine au Tryz.func262 rfl Tryz.ntmps262 rfl rfl fun w0 _ hG=>?_
 have hil:=ak.len lo is
 repeat' (first|refine W_ ?_|refine ad hG hst (aP _ _ _) ?_)
 exact r1_
theorem oC (hst:aC G) (n least:Int) (bl:Bool) (pr sl:Int) (t:TV):Ct Tryz.prog G 263 [.int .i64 n,.agg [.bool bl,.int .i64 pr,.int .i64 sl,t],.int .i64 least] (fun _=>.bool (inR n least (IntKind.i64.wrap (sl - 1)))):=by
 refine au Tryz.func263 rfl Tryz.ntmps263 rfl rfl fun w0 _ hG=>?_
 repeat' (first|refine W_ ?_|refine aN ?_|refine ad hG hst (aP _ _ _) ?_)
 exact r1_
theorem zN (hst:aC G) (hse:∀s:ByteArray,s.size<=1048576->Ct Tryz.prog G 194 [.str s] (fun _=>.bool (cY s.data.toList)))
   (lo lo2:Nat) (cl:List aa) (cen:TV) (cs:List aH) (mn:Int) (hcl:cl.length<=1048576) (hcs:cs.length<=1048576/\∀y∈cs,aH.small 1048576 y) (o:List Int) (hinv:di cs.length o) (k:Nat) (own:aH) (hk:cs[k]?=some own) (hsl:0<=own.slots/\own.slots<=30)
   (x:ak) (hx:x.text.size<=1048576) :
   Ct Tryz.prog G 197 [.agg [.sl lo 3 (cl.map (aa.tw lo)),.sl lo 4 (cs.map (aH.tw lo)),cen,.int .i64 mn],.sl lo2 1 (aL o),.int .i64 (k:Int),.agg [.int .i64 x.op,.int .i64 x.a,.int .i64 x.b,.str x.text]] (fun _=>.bool (fG cs cl.length o k own x)):=by
 obtain⟨op,a,b,t⟩:=x
 dsimp only at hx |-
 refine au Tryz.func197 rfl Tryz.ntmps197 rfl rfl fun w0 _ hG=>?_
 have hl1:=aa.len lo cl
 have hl2:=aH.len lo cs
 have hll:=ae o
 have hkl:k<cs.length:=(List.getElem?_eq_some_iff.1 hk).1
 have hrk:(cs.map (aH.tw lo))[k]?=some [.bool own.block,.int .i64 own.params,.int .i64 own.slots,.sl lo 4 (own.instrs.map (ak.tw lo))]:=by rw[Zp,hk];rfl
 have hil:=ak.len lo own.instrs
 have hin:own.instrs.length<=1048576:=(hcs.2 own (Zq hk)).1
 have hw:IntKind.i64.wrap (own.slots - 1)=own.slots - 1:=IntWalk.i64_in _ (by omega)
 repeat' (first|refine H_ 2 ?_|refine aN ?_|refine ad hG hst (abn _) ?_)
 refine⟨dM ?_⟩
 apply gq (X:=Unit) [1,2,4,7] (fun _=>[(54,.bool (!decide (eR ⟨op,a,b,t⟩)))]) (fun _=>[]) (fun _=>True)
 case hk=>(repeat (first|exact jY.nil|(apply jY.cons;rfl)))
 ·clear hrk hk hinv hse hl1 hl2 hll hin hil
  repeat' (first|refine W_ ?_|refine ad hG hst (aP _ _ _) ?_|refine g_ (fun hg=>?_) (fun hg=>?_))
  all_goals
    refine eG () trivial (.of _ (cq.envCons (kt rfl ?_) cq.envNil) od_ pk_)
    simp only[Ya,Y3,ne_eq,Decidable.not_not] at *
    first
      | (simp[eR, *];done)
 intro _ _
 by_cases hh:eR ⟨op,a,b,t⟩
 case neg =>
   have hB:fG cs cl.length o k own ⟨op,a,b,t⟩=false:=by unfold fG;rw[decide_eq_false hh];rfl
   rw[hB,decide_eq_false hh,Yv]
   repeat' refine W_ ?_
   exact r1_
 have hB:fG cs cl.length o k own ⟨op,a,b,t⟩=dk cs cl.length o k own ⟨op,a,b,t⟩:=by unfold fG;rw[decide_eq_true hh];rfl
 rw[hB,decide_eq_true hh,YF]
 have hinv':di o.length o:=by rw[hinv.1];exact hinv
 have hvf:fi cs o k b=none->xo cs o k ⟨op,a,b,t⟩=false:=fun h=>by
   unfold xo
   dsimp only
   rw[h]
 clear hB hk
 repeat' (first|refine H_ 24 ?_|(refine am ?_;intro ss bb)|refine ac ?_|refine nC ?_|refine ad hG hst (aP _ _ _) ?_|refine ad hG hst (uQ hst _ hx) ?_|refine ad hG hst (hse _ hx) ?_|refine ad hG hst (iV _ hx) ?_|((with_reducible apply xy);rfl;rfl;kernel_rfl;exact hG;exact hst;(repeat (first|exact bD.nil|((with_reducible apply bD.cons);rfl;exact .same _)));(repeat (first|exact kw.nil|((with_reducible apply kw.cons);(first|((with_reducible apply bG.mpSame);(repeat (first|with_reducible exact mh|with_reducible refine mt ?_)))|exact bG.same _))));rfl;first|exact vT hst lo _ _ _ _ _ hin|exact oC hst _ _ _ _ _ _)|refine c_ (fun hc=>?_) (fun hc=>?_)|refine g_ (fun hg=>?_) (fun hg=>?_))
 all_goals first
   | (refine aM x_ rfl (.tmp _ _ rfl) (fun _=>?_)
      clear hrk hl1 hl2 hll hil hcs hse hh hinv
      refine aO ?_
      first
        | (simp[dk, *];done))
   | (refine⟨?_⟩
      generalize ss=s12;generalize bb=b12
      repeat' refine W_ ?_
      apply aj (X:=Nat) [1,4,7,12,14,62] (fun n=>[(15,.int .i64 (upN o n (k:Int))),(16,.int .i64 (n:Int))]) (fun _=>[(s12,b12,.box [.bool own.block,.int .i64 own.params,.int .i64 own.slots,.sl lo 4 (own.instrs.map (ak.tw lo))])]) (fun n=>n<=b.toNat) (fun n=>b.toNat - n) 0 (Zd _)
      exact kp_;exact nw_
      ·exact .refl _
      intro n hn
      try dsimp only at hn |-
      have hol:o.length=cs.length:=hinv.1
      have hup:=vo hinv' n (k:Int) (.inr ⟨by omega,by omega⟩)
      by_cases hnb:(n:Int)<b
      ·by_cases hat:0<=upN o n (k:Int)
       ·obtain⟨j,hj⟩:∃j:Nat,upN o n (k:Int)=j:=⟨(upN o n (k:Int)).toNat,by omega⟩
        have hs:=jH o n (k:Int)
        rw[if_neg (by omega),hj] at hs
        have hge:=aeY hinv' (k:=(k:Int)) ⟨by omega,by omega⟩ n hat
        rw[hj] at hup hge
        have hcl2:=hcs.1
        have hrow:=dz (o:=o) (j:=j) (by omega)
        rw[hj]
        repeat' refine W_ ?_
        exact ag (n+1) (by omega) (by omega) (.of _ nw_ od_ pk_)
       ·have hv:=hvf (ue (n:=n) (by omega) (by omega))
        repeat' refine W_ ?_
        refine aM x_ rfl (.tmp _ _ rfl) (fun _=>?_)
        refine aO ?_
        clear hrk hl1 hl2 hll hil hcs hse hh hinv hvf
        subst_vars
        simp[dk,hv]
      ·by_cases hb0:b<0
       ·have hv:=hvf (vp hb0)
        repeat' (first|refine W_ ?_|refine g_ (fun hg=>?_) (fun hg=>?_))
        all_goals
          refine aM x_ rfl (.tmp _ _ rfl) (fun _=>?_)
          refine aO ?_
          clear hrk hl1 hl2 hll hil hcs hse hh hinv hvf
          subst_vars
          simp[dk,hv]
       ·obtain rfl:b=(n:Int):=by omega
        by_cases hat:0<=upN o n (k:Int)
        ·obtain⟨j,hj⟩:∃j:Nat,upN o n (k:Int)=j:=⟨(upN o n (k:Int)).toNat,by omega⟩
         rw[hj] at hup
         have hjl:j<cs.length:=by omega
         have hry:=ca (lo:=lo) hjl
         have hlev:fi cs o k (n:Int)=some cs[j]:=yv (by omega) (by rw[ZF];exact hj) (Za hjl)
         generalize cs[j]=y at hry hlev
         rw[hj]
         repeat' (first|refine V_ ?_|((with_reducible apply afR);rfl;rfl;kernel_rfl;exact hG;exact hst;(repeat (first|exact bD.nil|((with_reducible apply bD.cons);rfl;exact .same _)));(repeat (first|exact kw.nil|((with_reducible apply kw.cons);(first|((with_reducible apply bG.mpSame);(repeat (first|with_reducible exact mh|with_reducible refine mt ?_)))|exact bG.same _))));rfl;exact oC hst _ _ _ _ _ _))
         all_goals first
           | (refine aM x_ rfl (.tmp _ _ rfl) (fun _=>?_)
              refine aO ?_
              clear hrk hl1 hl2 hll hil hcs hse hh hinv hvf
              subst_vars
              simp[dk,xo,hlev];done)
        ·have hv:=hvf (ue (n:=n) (by omega) (by omega))
         repeat' refine W_ ?_
         refine aM x_ rfl (.tmp _ _ rfl) (fun _=>?_)
         refine aO ?_
         clear hrk hl1 hl2 hll hil hcs hse hh hinv hvf
         subst_vars
         simp[dk,hv])
end
structure RS where
 met:List Bool
 out:List ByteArray
 todo:List Int
def ahM:ByteArray:=⟨#[97,115,83,121,109,98,111,108]⟩
def gb (l:List Bool) (k:Int):Bool:=l.getD k.toNat true
def ahG (s:RS) (k:Int):RS:=if gb s.met k then s else ⟨s.met.set k.toNat true,s.out,s.todo++[k]⟩
def ahN (l:List ByteArray) (t:ByteArray):List ByteArray:=if kD l t then l else l++[t]
def rsI (s:RS) (x:ak):RS :=
 if x.op=3\/x.op=13\/x.op=14 then ⟨s.met,ahN s.out x.text,s.todo⟩ else if x.op=15 then ahG s x.a else s
def ahc (l:List ak) (s:RS):RS:=l.foldl rsI s
def rsE (any:Bool) (s:RS) (e:aF):RS:=if !gb s.met e.code && (any || kD s.out e.selector) then ahG s e.code else s
def ago (any:Bool) (l:List aF) (s:RS):RS:=l.foldl (rsE any) s
def aha (cs:List aH) (k:Int):List ak:=match cs[k.toNat]? with
 | some c=>c.instrs
 | none=>[]
def qJ (b:aI) (s:RS):RS:=match s.todo with
 | []=>ago (kD s.out ahM) b.entries s
 | k::r=>ahc (aha b.codes k) ⟨s.met,s.out,r⟩
def rs0 (b:aI):RS:=⟨(List.replicate b.codes.length false).set b.main.toNat true,[],[b.main]⟩
def afr (b:aI):Nat->RS
 | 0=>rs0 b
 | n+1=>qJ b (afr b n)
def Rs (b:aI) (s:RS):Prop:=∃n,s=afr b n
theorem Rs.step {b:aI} {s:RS} (h:Rs b s):Rs b (qJ b s):=by
 obtain⟨n,rfl⟩:=h
 exact⟨n+1,rfl⟩
theorem rM {b:aI} {n:Nat} (h:qJ b (afr b n)=afr b n):∀m,n<=m->afr b m=afr b n
 | 0, hm => by obtain rfl : n = 0 := by omega
               rfl
 | m+1,hm=>by
   by_cases he:n=m+1
   ·rw[he]
   ·show qJ b (afr b m)=_
    rw[rM h m (by omega),h]
theorem Rs.same {b:aI} {s t:RS} (h:Rs b s) (k:Rs b t) (hs:qJ b s=s) (ht:qJ b t=t):s=t:=by
 obtain⟨n,rfl⟩:=h
 obtain⟨m,rfl⟩:=k
 rcases Nat.le_total n m with h|h
 ·exact(rM hs m h).symm
 ·exact rM ht n h
structure ahS (b:aI):Prop where
 codes:b.codes.length<=200
 main:0<=b.main/\b.main<b.codes.length
 entries:∀e∈b.entries,0<=e.code/\e.code<b.codes.length
 row:∀c∈b.codes,c.instrs.length<=900/\∀x∈c.instrs,x.op=15->0<=x.a/\x.a<b.codes.length
def agJ:List Bool->Nat
 | []=>0
 | b::r=>(if b then 0 else 1)+agJ r
def RS.mu (s:RS):Nat:=s.todo.length+agJ s.met
structure ahR (b:aI) (n:Nat) (s:RS):Prop where
 len:s.met.length=b.codes.length
 todo:∀k∈s.todo,0<=k/\k<b.codes.length
 room:s.out.length+900 * s.mu+n<=180000
section
variable {G:World->Prop}
end
section
variable {G:World->Prop}
end
section
variable {G:World->Prop}
end
end Go.Proofs.YtofnnnpahglfdaaGreatDoor
