/- Part 18 of the proof: the texts IvM. -/
import Derived.Test.YtofnnnpahglfdaaGreatDoorCo3
import Derived.Test.YtofnnnpahglfdaaGreatDoorCo15
set_option linter.all false
set_option maxHeartbeats 8000000
set_option maxRecDepth 20000
namespace Go.Proofs.YtofnnnpahglfdaaGreatDoor
open Go Go.RowKit
section
variable {G:World->Prop}
theorem w7 (hst:aC G) (hse:∀s:ByteArray,s.size<=1048576->Ct Tryz.prog G 182 [.str s] (fun _=>.bool (cY s.data.toList)))
   (f lo lo2:Nat) (cl:List aa) (cen:TV) (cs:List aH) (mn:Int) (hcl:cl.length<=1048576) (hcs:cs.length<=1048576/\∀y∈cs,aH.small 1048576 y) (o:List Int) (hinv:di cs.length o) (k:Nat) (own:aH) (hk:cs[k]?=some own) (hsl:0<=own.slots/\own.slots<=30)
   (L:List Int) (hL:L=(ik o cs.length k).reverse) (x:ak) (hx:x.text.size<=1048576) (hbf:jo cs k x) :
   Ct Tryz.prog G 243 [.cp f [.sl lo 3 (cl.map (aa.tw lo)),.sl lo 4 (cs.map (aH.tw lo)),cen,.int .i64 mn],.int .i64 (k:Int),.agg [.int .i64 x.op,.int .i64 x.a,.int .i64 x.b,.str x.text],.sl lo2 1 (aL L)] (fun _=>.bool (fG cs cl.length o k own x)):=by
 obtain⟨op,a,b,t⟩:=x
 dsimp only at hx |-
 refine au Tryz.func243 rfl Tryz.ntmps243 rfl rfl fun w0 _ hG=>?_
 have hl1:=aa.len lo cl
 have hl2:=aH.len lo cs
 have hll:=ae L
 have hLn:L.length<=1048576:=by rw[hL,YX];exact ZN (lD _ _ _) hcs.1
 have hkl:k<cs.length:=(List.getElem?_eq_some_iff.1 hk).1
 have hrk:(cs.map (aH.tw lo))[k]?=some [.bool own.block,.int .i64 own.params,.int .i64 own.slots,.sl lo 4 (own.instrs.map (ak.tw lo))]:=by rw[Zp,hk];rfl
 have hil:=ak.len lo own.instrs
 have hin:own.instrs.length<=1048576:=(hcs.2 own (Zq hk)).1
 repeat' (first|refine H_ 3 ?_|refine aN ?_|(refine am ?_;intro ss bb)|refine ac ?_|refine ad hG hst (aas _) ?_)
 refine⟨dM ?_⟩
 generalize ss=s9;generalize bb=b9
 apply gq (X:=Unit) [0,1,3,6,9] (fun _=>[(60,.bool (!decide (eR ⟨op,a,b,t⟩)))]) (fun _=>[(s9,b9,.box [.bool own.block,.int .i64 own.params,.int .i64 own.slots,.sl lo 4 (own.instrs.map (ak.tw lo))])]) (fun _=>True)
 case hk=>(repeat (first|exact jY.nil|(apply jY.cons;rfl)))
 ·clear hrk hk hL hbf hinv hse hl1 hl2 hll hLn hin hil
  repeat' (first|refine W_ ?_|refine ad hG hst (bA _ _ _) ?_|refine g_ (fun hg=>?_) (fun hg=>?_))
  all_goals
    refine eG () trivial (.of _ (cq.envCons (kt rfl ?_) cq.envNil) od_ pk_)
    simp only[Ya,Y3,ne_eq,Decidable.not_not] at *
    first
      | (simp[eR, *];done)
 intro _ _
 by_cases hh:eR ⟨op,a,b,t⟩
 case neg =>
   have hB:fG cs cl.length o k own ⟨op,a,b,t⟩=false:=by unfold fG;rw[decide_eq_false hh];rfl
   rw[hB,decide_eq_false hh,Yv]
   repeat' refine W_ ?_
   exact r1_
 have hB:fG cs cl.length o k own ⟨op,a,b,t⟩=dk cs cl.length o k own ⟨op,a,b,t⟩:=by unfold fG;rw[decide_eq_true hh];rfl
 rw[hB,decide_eq_true hh,YF]
 have hlabt:(!inR b 0 ((L.length:Int) - 1))=false->(0<=b/\b<=(L.length:Int) - 1)/\∃(q v:Nat) (y:aH),(L.length:Int) - 1 - b=q/\(aL L)[q]?=some [.int .i64 (v:Int)]/\cs[v]?=some y/\fi cs o k b=some y:=fun h=>by
   have h2:0<=b/\b<=(L.length:Int) - 1:=by simpa [inR] using h
   exact⟨h2,zF hinv hkl hL h2⟩
 have hlabf:(!inR b 0 ((L.length:Int) - 1))=true->xo cs o k ⟨op,a,b,t⟩=false:=fun h=>by
   have h2:¬ (0<=b/\b<=(L.length:Int) - 1):=by
     intro h3
     rw[wb h3] at h;cases h
   unfold xo
   dsimp only
   rw[pW hinv hkl hL h2]
 unfold jo at hbf
 dsimp only at hbf
 clear hB hinv hL hk
 repeat' (first|((with_reducible apply o_y);exact y_;rfl)|with_reducible refine eu (by kernel_rfl) (by kernel_rfl) ?_|with_reducible refine gu ?_|with_reducible refine ei ?_|with_reducible refine ek rfl ?_|refine gw rfl rfl rfl rr_ ?_|refine et rfl rfl rfl rr_ rfl rfl rfl ?_|refine dr rfl rfl rfl rr_ rfl rfl ?_|(refine ks rfl rfl rfl rr_ dd_ ?_)|(refine ky rfl rfl rfl rr_ dd_ ?_)|(refine cA rfl rfl rfl rr_ (fun hg=>?_) (fun hg=>?_))|(refine bX rfl rfl rfl rr_ (fun hg=>?_) (fun hg=>?_))|((with_reducible apply d_y);exact y_;rfl)|refine ad hG hst (bA _ _ _) ?_|refine ad hG hst (wg _ hx) ?_|refine ad hG hst (hse _ hx) ?_|refine ad hG hst (iQ hst _ hx) ?_|refine ai hG hst (bA _ _ _) ?_|refine ai hG hst (hse _ hx) ?_|with_reducible refine uE (id:=18) ?_|with_reducible refine uE (id:=31) ?_  | with_reducible refine dt rfl ?_|(with_reducible first|apply dM|apply cG|apply fZ|apply ej|apply dg|apply em|apply ew|apply gp|apply bN|apply(aq_block_miss rfl)|apply bO|apply bU|apply bL|apply dA)|refine jp rfl rfl rfl rr_ ?_|refine f5 rfl rfl rfl rr_ rfl rfl rfl ?_|refine e9 rfl rfl rfl rr_ rfl rfl ?_|(refine pH rfl rfl rfl rr_ dd_ ?_)|(refine oH rfl rfl rfl rr_ dd_ ?_)|(refine ef rfl rfl rfl rr_ (fun hg=>?_) (fun hg=>?_))|(refine dT rfl rfl rfl rr_ (fun hg=>?_) (fun hg=>?_))|refine cH rfl rr_ ?_|refine cM rfl rr_ ?_|(refine cm rfl rr_ dd_ ?_)|(refine ck rfl rr_ dd_ ?_)|(refine eV rfl rr_ (fun hc=>?_) (fun hc=>?_))|(refine dC rfl rr_ (fun hc=>?_) (fun hc=>?_)))
 all_goals first
   | (refine aM x_ rfl (.tmp _ _ rfl) (fun _=>?_)
      clear hlabt hrk hbf hl1 hl2 hll hil hcs hse hh
      refine aO ?_
      first
        | (simp[dk, *];done)
        | (have hv:=hlabf (by assumption)
           clear hlabf
           subst_vars
           simp[dk,hv];done))
   | (refine⟨?_⟩
      have h15:op=15:=by assumption
      obtain⟨ha,y,hy,hyb⟩:=hbf h15
      obtain⟨c,rfl⟩:∃c:Nat,a=c:=⟨a.toNat,by omega⟩
      rw[ZF] at hy
      have hry:(cs.map (aH.tw lo))[c]?=some [.bool true,.int .i64 y.params,.int .i64 y.slots,.sl lo 4 (y.instrs.map (ak.tw lo))]:=by rw[Zp,hy,<- hyb];rfl
      have cin:=bA (G:=G) (c:Int) 0 ((k - 1:Nat):Int)
      rw[wb (by omega)] at cin
      repeat' (first|refine V_ ?_|refine ai hG hst (cin) ?_)
      refine aM x_ rfl (.tmp _ _ rfl) (fun _=>?_)
      refine aO ?_
      simp[dk,h15];done)
   | (refine⟨?_⟩
      obtain⟨hb,q,v,y,hq,hrow,hy,hlev⟩:=hlabt (by assumption)
      obtain⟨c,rfl⟩:∃c:Nat,b=c:=⟨b.toNat,by omega⟩
      obtain rfl:q=L.length - 1 - c:=by omega
      have hry:(cs.map (aH.tw lo))[v]?=some [.bool y.block,.int .i64 y.params,.int .i64 y.slots,.sl lo 4 (y.instrs.map (ak.tw lo))]:=by rw[Zp,hy];rfl
      clear hlabt hlabf hbf hq
      repeat' (first|refine W_ ?_|((with_reducible apply nU (id:=18) 15);kernel_rfl;kernel_rfl;kernel_rfl;(repeat (first|exact Cut.zero _|apply Cut.succ));rfl;rfl;rfl;rfl;rfl;kernel_rfl;rfl)|((with_reducible apply u_y);exact yu_;rfl)|(with_reducible refine yh ?_;intro ss bb)|refine ac ?_|refine ad hG hst (bA _ _ _) ?_)
      all_goals first
        | (refine aM x_ rfl (.tmp _ _ rfl) (fun _=>?_)
           refine aO ?_
           clear hrk hl1 hl2 hll hil hcs hse hh
           subst_vars
           simp[dk,xo,hlev];done))
end
end Go.Proofs.YtofnnnpahglfdaaGreatDoor
