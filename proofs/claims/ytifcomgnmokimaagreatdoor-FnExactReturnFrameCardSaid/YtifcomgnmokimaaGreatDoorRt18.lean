/- Part 18 of the proof: the texts IvM. -/
import Derived.Test.YtifcomgnmokimaaGreatDoorRt3
import Derived.Test.YtifcomgnmokimaaGreatDoorRt15
set_option linter.all false
set_option maxHeartbeats 8000000
set_option maxRecDepth 20000
namespace Go.Proofs.YtifcomgnmokimaaGreatDoor
open Go Go.RowKit
section
variable {G:World->Prop}
theorem wS (hst:ay G) (hse:∀s:ByteArray,s.size<=1048576->Ct Tryz.prog G 163 [.str s] (fun _=>.bool (di s.data.toList)))
   (f lo lo2:Nat) (cl:List aa) (cen:TV) (cs:List aB) (mn:Int) (hcl:cl.length<=1048576) (hcs:cs.length<=1048576/\∀y∈cs,aB.small 1048576 y) (o:List Int) (hinv:dA cs.length o) (k:Nat) (own:aB) (hk:cs[k]?=some own) (hsl:0<=own.slots/\own.slots<=30)
   (L:List Int) (hL:L=(iE o cs.length k).reverse) (x:am) (hx:x.text.size<=1048576) (hbf:jL cs k x) :
   Ct Tryz.prog G 224 [.cp f [.sl lo 3 (cl.map (aa.tw lo)),.sl lo 4 (cs.map (aB.tw lo)),cen,.int .i64 mn],.int .i64 (k:Int),.agg [.int .i64 x.op,.int .i64 x.a,.int .i64 x.b,.str x.text],.sl lo2 1 (aS L)] (fun _=>.bool (fQ cs cl.length o k own x)):=by
 obtain⟨op,a,b,t⟩:=x
 dsimp only at hx |-
 refine av Tryz.func224 rfl Tryz.ntmps224 rfl rfl fun w0 _ hG=>?_
 have hl1:=aa.len lo cl
 have hl2:=aB.len lo cs
 have hll:=aj L
 have hLn:L.length<=1048576:=by rw[hL,YY];exact Z0 (lV _ _ _) hcs.1
 have hkl:k<cs.length:=(List.getElem?_eq_some_iff.1 hk).1
 have hrk:(cs.map (aB.tw lo))[k]?=some [.bool own.block,.int .i64 own.params,.int .i64 own.slots,.sl lo 4 (own.instrs.map (am.tw lo))]:=by rw[Zj,hk];rfl
 have hil:=am.len lo own.instrs
 have hin:own.instrs.length<=1048576:=(hcs.2 own (Zm hk)).1
 repeat' (first|refine H_ 3 ?_|refine aJ ?_|(refine ak ?_;intro ss bb)|refine ac ?_|refine ae hG hst (aax _) ?_)
 refine⟨d8 ?_⟩
 generalize ss=s9;generalize bb=b9
 apply gq (X:=Unit) [0,1,3,6,9] (fun _=>[(60,.bool (!decide (fd ⟨op,a,b,t⟩)))]) (fun _=>[(s9,b9,.box [.bool own.block,.int .i64 own.params,.int .i64 own.slots,.sl lo 4 (own.instrs.map (am.tw lo))])]) (fun _=>True)
 case hk=>(repeat (first|exact j9.nil|(apply j9.cons;rfl)))
 ·clear hrk hk hL hbf hinv hse hl1 hl2 hll hLn hin hil
  repeat' (first|refine W_ ?_|refine ae hG hst (bC _ _ _) ?_|refine g_ (fun hg=>?_) (fun hg=>?_))
  all_goals
    refine eR () trivial (.of _ (cW.envCons (km rfl ?_) cW.envNil) od_ pk_)
    simp only[Z9,Y3,ne_eq,Decidable.not_not] at *
    first
      | (simp[fd, *];done)
 intro _ _
 by_cases hh:fd ⟨op,a,b,t⟩
 case neg =>
   have hB:fQ cs cl.length o k own ⟨op,a,b,t⟩=false:=by unfold fQ;rw[decide_eq_false hh];rfl
   rw[hB,decide_eq_false hh,Yq]
   repeat' refine W_ ?_
   exact r1_
 have hB:fQ cs cl.length o k own ⟨op,a,b,t⟩=dw cs cl.length o k own ⟨op,a,b,t⟩:=by unfold fQ;rw[decide_eq_true hh];rfl
 rw[hB,decide_eq_true hh,YA]
 have hlabt:(!inR b 0 ((L.length:Int) - 1))=false->(0<=b/\b<=(L.length:Int) - 1)/\∃(q v:Nat) (y:aB),(L.length:Int) - 1 - b=q/\(aS L)[q]?=some [.int .i64 (v:Int)]/\cs[v]?=some y/\fy cs o k b=some y:=fun h=>by
   have h2:0<=b/\b<=(L.length:Int) - 1:=by simpa [inR] using h
   exact⟨h2,zN hinv hkl hL h2⟩
 have hlabf:(!inR b 0 ((L.length:Int) - 1))=true->xB cs o k ⟨op,a,b,t⟩=false:=fun h=>by
   have h2:¬ (0<=b/\b<=(L.length:Int) - 1):=by
     intro h3
     rw[wP h3] at h;cases h
   unfold xB
   dsimp only
   rw[p8 hinv hkl hL h2]
 unfold jL at hbf
 dsimp only at hbf
 clear hB hinv hL hk
 repeat' (first|((with_reducible apply o_y);exact y_;rfl)|with_reducible refine dB (by kernel_rfl) (by kernel_rfl) ?_|with_reducible refine eV ?_|with_reducible refine dz ?_|with_reducible refine dC rfl ?_|refine eS rfl rfl rfl rr_ ?_|refine dx rfl rfl rfl rr_ rfl rfl rfl ?_|refine cG rfl rfl rfl rr_ rfl rfl ?_|(refine iH rfl rfl rfl rr_ dd_ ?_)|(refine ir rfl rfl rfl rr_ dd_ ?_)|(refine bX rfl rfl rfl rr_ (fun hg=>?_) (fun hg=>?_))|(refine bF rfl rfl rfl rr_ (fun hg=>?_) (fun hg=>?_))|((with_reducible apply d_y);exact y_;rfl)|refine ae hG hst (bC _ _ _) ?_|refine ae hG hst (wM _ hx) ?_|refine ae hG hst (hse _ hx) ?_|refine ae hG hst (i5 hst _ hx) ?_|refine ai hG hst (bC _ _ _) ?_|refine ai hG hst (hse _ hx) ?_|with_reducible refine uI (id:=18) ?_|with_reducible refine uI (id:=31) ?_  | with_reducible refine dJ rfl ?_|(with_reducible first|apply d8|apply cP|apply gp|apply eK|apply du|apply eL|apply eI|apply gG|apply bP|apply(bE rfl)|apply bM|apply bZ|apply bN|apply dG)|refine jI rfl rfl rfl rr_ ?_|refine gM rfl rfl rfl rr_ rfl rfl rfl ?_|refine fc rfl rfl rfl rr_ rfl rfl ?_|(refine oC rfl rfl rfl rr_ dd_ ?_)|(refine pK rfl rfl rfl rr_ dd_ ?_)|(refine ew rfl rfl rfl rr_ (fun hg=>?_) (fun hg=>?_))|(refine ed rfl rfl rfl rr_ (fun hg=>?_) (fun hg=>?_))|refine cQ rfl rr_ ?_|refine cO rfl rr_ ?_|(refine cw rfl rr_ dd_ ?_)|(refine cu rfl rr_ dd_ ?_)|(refine eZ rfl rr_ (fun hc=>?_) (fun hc=>?_))|(refine dQ rfl rr_ (fun hc=>?_) (fun hc=>?_)))
 all_goals first
   | (refine aN x_ rfl (.tmp _ _ rfl) (fun _=>?_)
      clear hlabt hrk hbf hl1 hl2 hll hil hcs hse hh
      refine aL ?_
      first
        | (simp[dw, *];done)
        | (have hv:=hlabf (by assumption)
           clear hlabf
           subst_vars
           simp[dw,hv];done))
   | (refine⟨?_⟩
      have h15:op=15:=by assumption
      obtain⟨ha,y,hy,hyb⟩:=hbf h15
      obtain⟨c,rfl⟩:∃c:Nat,a=c:=⟨a.toNat,by omega⟩
      rw[ZB] at hy
      have hry:(cs.map (aB.tw lo))[c]?=some [.bool true,.int .i64 y.params,.int .i64 y.slots,.sl lo 4 (y.instrs.map (am.tw lo))]:=by rw[Zj,hy,<- hyb];rfl
      have cin:=bC (G:=G) (c:Int) 0 ((k - 1:Nat):Int)
      rw[wP (by omega)] at cin
      repeat' (first|refine V_ ?_|refine ai hG hst (cin) ?_)
      refine aN x_ rfl (.tmp _ _ rfl) (fun _=>?_)
      refine aL ?_
      simp[dw,h15];done)
   | (refine⟨?_⟩
      obtain⟨hb,q,v,y,hq,hrow,hy,hlev⟩:=hlabt (by assumption)
      obtain⟨c,rfl⟩:∃c:Nat,b=c:=⟨b.toNat,by omega⟩
      obtain rfl:q=L.length - 1 - c:=by omega
      have hry:(cs.map (aB.tw lo))[v]?=some [.bool y.block,.int .i64 y.params,.int .i64 y.slots,.sl lo 4 (y.instrs.map (am.tw lo))]:=by rw[Zj,hy];rfl
      clear hlabt hlabf hbf hq
      repeat' (first|refine W_ ?_|((with_reducible apply yF (id:=18) 15);kernel_rfl;kernel_rfl;kernel_rfl;(repeat (first|exact Cut.zero _|apply Cut.succ));rfl;rfl;rfl;rfl;rfl;kernel_rfl;rfl)|((with_reducible apply u_y);exact yu_;rfl)|(with_reducible refine aej ?_;intro ss bb)|refine ac ?_|refine ae hG hst (bC _ _ _) ?_)
      all_goals first
        | (refine aN x_ rfl (.tmp _ _ rfl) (fun _=>?_)
           refine aL ?_
           clear hrk hl1 hl2 hll hil hcs hse hh
           subst_vars
           simp[dw,xB,hlev];done))
end
end Go.Proofs.YtifcomgnmokimaaGreatDoor
