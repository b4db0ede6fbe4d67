/- Part 21 of the proof: the texts RsP, RsA, RsB, RsC, IvN. -/
import Derived.Test.YtifcomgnmokimaaGreatDoorRt15
import Derived.Test.YtifcomgnmokimaaGreatDoorRt12
import Derived.Test.YtifcomgnmokimaaGreatDoorRt3
set_option linter.all false
set_option maxHeartbeats 8000000
set_option maxRecDepth 20000
namespace Go.Proofs.YtifcomgnmokimaaGreatDoor
open Go Go.RowKit
structure RS where
 met:List Bool
 out:List ByteArray
 todo:List Int
def aiB:ByteArray:=⟨#[97,115,83,121,109,98,111,108]⟩
def gb (l:List Bool) (k:Int):Bool:=l.getD k.toNat true
def air (s:RS) (k:Int):RS:=if gb s.met k then s else ⟨s.met.set k.toNat true,s.out,s.todo++[k]⟩
def aix (l:List ByteArray) (t:ByteArray):List ByteArray:=if kK l t then l else l++[t]
def rsI (s:RS) (x:am):RS :=
 if x.op=3\/x.op=13\/x.op=14 then ⟨s.met,aix s.out x.text,s.todo⟩ else if x.op=15 then air s x.a else s
def ahI (l:List am) (s:RS):RS:=l.foldl rsI s
def rsE (any:Bool) (s:RS) (e:aD):RS:=if !gb s.met e.code && (any || kK s.out e.selector) then air s e.code else s
def agS (any:Bool) (l:List aD) (s:RS):RS:=l.foldl (rsE any) s
def ahw (cs:List aB) (k:Int):List am:=match cs[k.toNat]? with
 | some c=>c.instrs
 | none=>[]
def qU (b:aF) (s:RS):RS:=match s.todo with
 | []=>agS (kK s.out aiB) b.entries s
 | k::r=>ahI (ahw b.codes k) ⟨s.met,s.out,r⟩
def rs0 (b:aF):RS:=⟨(List.replicate b.codes.length false).set b.main.toNat true,[],[b.main]⟩
def afn (b:aF):Nat->RS
 | 0=>rs0 b
 | n+1=>qU b (afn b n)
def Rs (b:aF) (s:RS):Prop:=∃n,s=afn b n
theorem Rs.step {b:aF} {s:RS} (h:Rs b s):Rs b (qU b s):=by
 obtain⟨n,rfl⟩:=h
 exact⟨n+1,rfl⟩
theorem sZ {b:aF} {n:Nat} (h:qU b (afn b n)=afn b n):∀m,n<=m->afn b m=afn b n
 | 0, hm => by obtain rfl : n = 0 := by omega
               rfl
 | m+1,hm=>by
   by_cases he:n=m+1
   ·rw[he]
   ·show qU b (afn b m)=_
    rw[sZ h m (by omega),h]
theorem Rs.same {b:aF} {s t:RS} (h:Rs b s) (k:Rs b t) (hs:qU b s=s) (ht:qU b t=t):s=t:=by
 obtain⟨n,rfl⟩:=h
 obtain⟨m,rfl⟩:=k
 rcases Nat.le_total n m with h|h
 ·exact(sZ hs m h).symm
 ·exact sZ ht n h
structure aiF (b:aF):Prop where
 codes:b.codes.length<=200
 main:0<=b.main/\b.main<b.codes.length
 entries:∀e∈b.entries,0<=e.code/\e.code<b.codes.length
 row:∀c∈b.codes,c.instrs.length<=900/\∀x∈c.instrs,x.op=15->0<=x.a/\x.a<b.codes.length
def agK:List Bool->Nat
 | []=>0
 | b::r=>(if b then 0 else 1)+agK r
def RS.mu (s:RS):Nat:=s.todo.length+agK s.met
structure aiG (b:aF) (n:Nat) (s:RS):Prop where
 len:s.met.length=b.codes.length
 todo:∀k∈s.todo,0<=k/\k<b.codes.length
 room:s.out.length+900 * s.mu+n<=180000
section
variable {G:World->Prop}
end
section
variable {G:World->Prop}
end
section
variable {G:World->Prop}
end
section
variable {G:World->Prop}
theorem vZ (hst:ay G) (lo:Nat) (n:Int) (bl:Bool) (pr sl:Int) (is:List am) (hn:is.length<=1048576):Ct Tryz.prog G 246 [.int .i64 n,.cp 0 [.bool bl,.int .i64 pr,.int .i64 sl,.sl lo 4 (is.map (am.tw lo))]] (fun _=>.bool (inR n 0 ((is.length:Int) - 1))):=by
 refine av Tryz.func246 rfl Tryz.ntmps246 rfl rfl fun w0 _ hG=>?_
 have hil:=am.len lo is
 repeat' (first|refine W_ ?_|refine ae hG hst (aP _ _ _) ?_)
 exact r1_
theorem oN (hst:ay G) (n least:Int) (bl:Bool) (pr sl:Int) (t:TV):Ct Tryz.prog G 247 [.int .i64 n,.agg [.bool bl,.int .i64 pr,.int .i64 sl,t],.int .i64 least] (fun _=>.bool (inR n least (IntKind.i64.wrap (sl - 1)))):=by
 refine av Tryz.func247 rfl Tryz.ntmps247 rfl rfl fun w0 _ hG=>?_
 repeat' (first|refine W_ ?_|refine aJ ?_|refine ae hG hst (aP _ _ _) ?_)
 exact r1_
theorem zL (hst:ay G) (hse:∀s:ByteArray,s.size<=1048576->Ct Tryz.prog G 179 [.str s] (fun _=>.bool (di s.data.toList)))
   (lo lo2:Nat) (cl:List aa) (cen:TV) (cs:List aB) (mn:Int) (hcl:cl.length<=1048576) (hcs:cs.length<=1048576/\∀y∈cs,aB.small 1048576 y) (o:List Int) (hinv:dA cs.length o) (k:Nat) (own:aB) (hk:cs[k]?=some own) (hsl:0<=own.slots/\own.slots<=30)
   (x:am) (hx:x.text.size<=1048576) :
   Ct Tryz.prog G 182 [.agg [.sl lo 3 (cl.map (aa.tw lo)),.sl lo 4 (cs.map (aB.tw lo)),cen,.int .i64 mn],.sl lo2 1 (aS o),.int .i64 (k:Int),.agg [.int .i64 x.op,.int .i64 x.a,.int .i64 x.b,.str x.text]] (fun _=>.bool (fQ cs cl.length o k own x)):=by
 obtain⟨op,a,b,t⟩:=x
 dsimp only at hx |-
 refine av Tryz.func182 rfl Tryz.ntmps182 rfl rfl fun w0 _ hG=>?_
 have hl1:=aa.len lo cl
 have hl2:=aB.len lo cs
 have hll:=aj o
 have hkl:k<cs.length:=(List.getElem?_eq_some_iff.1 hk).1
 have hrk:(cs.map (aB.tw lo))[k]?=some [.bool own.block,.int .i64 own.params,.int .i64 own.slots,.sl lo 4 (own.instrs.map (am.tw lo))]:=by rw[Zj,hk];rfl
 have hil:=am.len lo own.instrs
 have hin:own.instrs.length<=1048576:=(hcs.2 own (Zm hk)).1
 have hw:IntKind.i64.wrap (own.slots - 1)=own.slots - 1:=IntWalk.i64_in _ (by omega)
 repeat' (first|refine H_ 2 ?_|refine aJ ?_|refine ae hG hst (acf _) ?_)
 refine⟨d8 ?_⟩
 apply gq (X:=Unit) [1,2,4,7] (fun _=>[(54,.bool (!decide (fd ⟨op,a,b,t⟩)))]) (fun _=>[]) (fun _=>True)
 case hk=>(repeat (first|exact j9.nil|(apply j9.cons;rfl)))
 ·clear hrk hk hinv hse hl1 hl2 hll hin hil
  repeat' (first|refine W_ ?_|refine ae hG hst (aP _ _ _) ?_|refine g_ (fun hg=>?_) (fun hg=>?_))
  all_goals
    refine eR () trivial (.of _ (cW.envCons (km rfl ?_) cW.envNil) od_ pk_)
    simp only[Z9,Y3,ne_eq,Decidable.not_not] at *
    first
      | (simp[fd, *];done)
 intro _ _
 by_cases hh:fd ⟨op,a,b,t⟩
 case neg =>
   have hB:fQ cs cl.length o k own ⟨op,a,b,t⟩=false:=by unfold fQ;rw[decide_eq_false hh];rfl
   rw[hB,decide_eq_false hh,Yq]
   repeat' refine W_ ?_
   exact r1_
 have hB:fQ cs cl.length o k own ⟨op,a,b,t⟩=dw cs cl.length o k own ⟨op,a,b,t⟩:=by unfold fQ;rw[decide_eq_true hh];rfl
 rw[hB,decide_eq_true hh,YA]
 have hinv':dA o.length o:=by rw[hinv.1];exact hinv
 have hvf:fy cs o k b=none->xB cs o k ⟨op,a,b,t⟩=false:=fun h=>by
   unfold xB
   dsimp only
   rw[h]
 clear hB hk
 repeat' (first|refine H_ 24 ?_|(refine ak ?_;intro ss bb)|refine ac ?_|refine nE ?_|refine ae hG hst (aP _ _ _) ?_|refine ae hG hst (vA hst _ hx) ?_|refine ae hG hst (hse _ hx) ?_|refine ae hG hst (je _ hx) ?_|((with_reducible apply vS);rfl;rfl;kernel_rfl;exact hG;exact hst;(repeat (first|exact bU.nil|((with_reducible apply bU.cons);rfl;exact .same _)));(repeat (first|exact ku.nil|((with_reducible apply ku.cons);(first|((with_reducible apply cy.mpSame);(repeat (first|with_reducible exact mh|with_reducible refine mt ?_)))|exact cy.same _))));rfl;first|exact vZ hst lo _ _ _ _ _ hin|exact oN hst _ _ _ _ _ _)|refine c_ (fun hc=>?_) (fun hc=>?_)|refine g_ (fun hg=>?_) (fun hg=>?_))
 all_goals first
   | (refine aN x_ rfl (.tmp _ _ rfl) (fun _=>?_)
      clear hrk hl1 hl2 hll hil hcs hse hh hinv
      refine aL ?_
      first
        | (simp[dw, *];done))
   | (refine⟨?_⟩
      generalize ss=s12;generalize bb=b12
      repeat' refine W_ ?_
      apply ap (X:=Nat) [1,4,7,12,14,62] (fun n=>[(15,.int .i64 (upN o n (k:Int))),(16,.int .i64 (n:Int))]) (fun _=>[(s12,b12,.box [.bool own.block,.int .i64 own.params,.int .i64 own.slots,.sl lo 4 (own.instrs.map (am.tw lo))])]) (fun n=>n<=b.toNat) (fun n=>b.toNat - n) 0 (Ze _)
      exact kp_;exact nw_
      ·exact .refl _
      intro n hn
      try dsimp only at hn |-
      have hol:o.length=cs.length:=hinv.1
      have hup:=vp hinv' n (k:Int) (.inr ⟨by omega,by omega⟩)
      by_cases hnb:(n:Int)<b
      ·by_cases hat:0<=upN o n (k:Int)
       ·obtain⟨j,hj⟩:∃j:Nat,upN o n (k:Int)=j:=⟨(upN o n (k:Int)).toNat,by omega⟩
        have hs:=j3 o n (k:Int)
        rw[if_neg (by omega),hj] at hs
        have hge:=ad8 hinv' (k:=(k:Int)) ⟨by omega,by omega⟩ n hat
        rw[hj] at hup hge
        have hcl2:=hcs.1
        have hrow:=fG (o:=o) (j:=j) (by omega)
        rw[hj]
        repeat' refine W_ ?_
        exact ah (n+1) (by omega) (by omega) (.of _ nw_ od_ pk_)
       ·have hv:=hvf (t8 (n:=n) (by omega) (by omega))
        repeat' refine W_ ?_
        refine aN x_ rfl (.tmp _ _ rfl) (fun _=>?_)
        refine aL ?_
        clear hrk hl1 hl2 hll hil hcs hse hh hinv hvf
        subst_vars
        simp[dw,hv]
      ·by_cases hb0:b<0
       ·have hv:=hvf (um hb0)
        repeat' (first|refine W_ ?_|refine g_ (fun hg=>?_) (fun hg=>?_))
        all_goals
          refine aN x_ rfl (.tmp _ _ rfl) (fun _=>?_)
          refine aL ?_
          clear hrk hl1 hl2 hll hil hcs hse hh hinv hvf
          subst_vars
          simp[dw,hv]
       ·obtain rfl:b=(n:Int):=by omega
        by_cases hat:0<=upN o n (k:Int)
        ·obtain⟨j,hj⟩:∃j:Nat,upN o n (k:Int)=j:=⟨(upN o n (k:Int)).toNat,by omega⟩
         rw[hj] at hup
         have hjl:j<cs.length:=by omega
         have hry:=cj (lo:=lo) hjl
         have hlev:fy cs o k (n:Int)=some cs[j]:=yL (by omega) (by rw[ZB];exact hj) (Za hjl)
         generalize cs[j]=y at hry hlev
         rw[hj]
         repeat' (first|refine V_ ?_|((with_reducible apply aeP);rfl;rfl;kernel_rfl;exact hG;exact hst;(repeat (first|exact bU.nil|((with_reducible apply bU.cons);rfl;exact .same _)));(repeat (first|exact ku.nil|((with_reducible apply ku.cons);(first|((with_reducible apply cy.mpSame);(repeat (first|with_reducible exact mh|with_reducible refine mt ?_)))|exact cy.same _))));rfl;exact oN hst _ _ _ _ _ _))
         all_goals first
           | (refine aN x_ rfl (.tmp _ _ rfl) (fun _=>?_)
              refine aL ?_
              clear hrk hl1 hl2 hll hil hcs hse hh hinv hvf
              subst_vars
              simp[dw,xB,hlev];done)
        ·have hv:=hvf (t8 (n:=n) (by omega) (by omega))
         repeat' refine W_ ?_
         refine aN x_ rfl (.tmp _ _ rfl) (fun _=>?_)
         refine aL ?_
         clear hrk hl1 hl2 hll hil hcs hse hh hinv hvf
         subst_vars
         simp[dw,hv])
end
end Go.Proofs.YtifcomgnmokimaaGreatDoor
