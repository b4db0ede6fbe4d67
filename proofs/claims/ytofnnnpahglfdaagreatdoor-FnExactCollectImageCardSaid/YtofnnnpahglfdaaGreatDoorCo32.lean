/- Part 32 of the proof: the texts ImJ. -/
import Derived.Test.YtofnnnpahglfdaaGreatDoorCo24
import Derived.Test.YtofnnnpahglfdaaGreatDoorCo21
set_option linter.all false
set_option maxHeartbeats 4000000
set_option maxRecDepth 20000
namespace Go.Proofs.YtofnnnpahglfdaaGreatDoor
open Go Go.RowKit
theorem aaN (f lo:Nat) (m:ah) (hxl:m.contexts.length<=1048576) (k:Nat) (hk:k<m.contexts.length) (i:Int):Ct Tryz.prog GL 268 [.int .i64 i,.cp f [.int .i64 (k:Int)],.cp f (m.tw lo)] (fun _=>.bool (doB m k i)):=by
 refine au Tryz.func268 rfl Tryz.ntmps268 rfl rfl fun w0 _ hG=>?_
 have hst:=d8
 have hlx:=aq.len lo m.contexts
 have c1:=aP (G:=GL) i 0 ((k:Int) - 1)
 unfold ah.tw
 cases hin:inR i 0 ((k:Int) - 1)
 case false =>
   rw[xB hin]
   rw[hin] at c1
   repeat' (first|refine W_ ?_|refine ad hG hst (c1) ?_)
   exact r1_
 rw[acb hin]
 rw[hin] at c1
 have hin':=of_decide_eq_true hin
 obtain⟨q,rfl⟩:∃q:Nat,i=q:=⟨i.toNat,by omega⟩
 have hq:q<m.contexts.length:=by omega
 rw[show (k:Int) - 1=((k - 1:Nat):Int) by omega] at c1
 have hr2:=dB (lo:=lo) hq
 rw[ace hq]
 generalize m.contexts[q]=d at hr2 |-
 repeat' (first|refine W_ ?_|refine ad hG hst (c1) ?_)
 exact r1_
theorem ab0 (lo:Nat) (m:ah) (hsm:m.small 1048576) (hcl:ic m.store.classes) (hbc:∀b∈m.blocks,0<=b.code/\b.code<m.base.codes.length) (k:Nat) (hk:k<m.contexts.length) (hva:∀v∈m.contexts[k].values,iP m v):Ct Tryz.prog GL 200 [.agg (m.tw lo),.int .i64 (k:Int)] (fun _=>.bool (ac2 m k m.contexts[k] && afJ m.contexts[k])):=by
 refine au Tryz.func200 rfl Tryz.ntmps200 rfl rfl fun w0 _ hG=>?_
 have hst:=d8
 have hrow:=dB (lo:=lo) hk
 have hlx:=aq.len lo m.contexts
 have hxl:=hsm.2.2.2.1.1
 have hbk:=fun v hv most=>zE hst lo m hsm.2.2.1.1 hsm.1.2.1.1 hbc v hv most
 have hci:=fun(k0:Int)=>rp (G:=GL) lo m.store.classes hcl k0 1
 have hcs:=(hsm.2.2.2.1.2 _ (Zb hk)).2.2.2.1
 have hfn:=fun i=>aaN w0.heap.size lo m hxl k hk i
 unfold ah.tw at hbk hfn |-
 generalize m.contexts[k]=c at hrow hva hcs |-
 obtain⟨mk,cc,pc,sd,ou,ho,⟨sk,sn,st⟩,slots,stack,values,oth,rt⟩:=c
 dsimp only at hrow hva hcs |-
 have hvl:=ab.len lo values
 unfold ac2 afJ
 dsimp only
 rcases tW mk with rfl|rfl|rfl|rfl|rfl|⟨g1,g2,g3,g4,g5⟩
 ·rw[if_pos rfl]
  by_cases h3:values.length=3
  case neg =>
    rw[agE h3,Zl]
    have h3':¬ (values.length:Int)=3:=by omega
    repeat' (first|refine V_ ?_|refine aN ?_|(refine am ?_;intro ss bb)|refine ac ?_|refine nC ?_|refine g_ (fun hg=>?_) (fun hg=>?_))
    all_goals
      exact r1_
  obtain⟨v0,v1,v2,rfl⟩:=ahn h3
  rw[ags]
  have hn0:=fun h5=>adp (hva v0 (by simp)) h5
  obtain⟨k0,n0,t0⟩:=v0
  have f1:=hbk v1 (hva v1 (by simp)) 1
  have f2:=hbk v2 (hva v2 (by simp)) 0
  obtain⟨k1,n1,t1⟩:=v1
  obtain⟨k2,n2,t2⟩:=v2
  dsimp only at f1 f2 hn0 |-
  generalize vQ m ⟨k1,n1,t1⟩ 1=b1 at f1 |-
  generalize vQ m ⟨k2,n2,t2⟩ 0=b2 at f2 |-
  simp only[ZT,Yk,ab.tw] at hrow hvl
  by_cases h5:k0=5
  case neg =>
    rw[decide_eq_false h5,Zl,Zl]
    repeat' (first|refine V_ ?_|refine aN ?_|(refine am ?_;intro ss bb)|refine ac ?_|refine nC ?_|refine g_ (fun hg=>?_) (fun hg=>?_))
    all_goals
      exact r1_
  have f0:=hci n0 (by have:=hn0 h5;omega)
  generalize vS m.store.classes 1 n0=b0 at f0 |-
  repeat' (first|refine V_ ?_|refine aN ?_|(refine am ?_;intro ss bb)|refine ac ?_|refine nC ?_|refine ai hG hst (f0) ?_|refine ai hG hst (f1) ?_|refine ai hG hst (f2) ?_|refine g_ (fun hg=>?_) (fun hg=>?_))
  all_goals
    refine aM x_ rfl (.tmp _ _ rfl) (fun _=>?_)
    refine aO ?_
    first
      | (simp[*];done)
      | (simp_all;done)
 ·rw[if_neg (by decide),if_pos rfl]
  by_cases h3:values.length=1
  case neg =>
    rw[ad0 h3,Zl]
    have h3':¬ (values.length:Int)=1:=by omega
    repeat' (first|refine V_ ?_|refine aN ?_|(refine am ?_;intro ss bb)|refine ac ?_|refine nC ?_|refine g_ (fun hg=>?_) (fun hg=>?_))
    all_goals
      exact r1_
  obtain⟨v1,rfl⟩:=agY h3
  rw[abT]
  have f1:=hbk v1 (hva v1 (by simp)) 0
  obtain⟨k1,n1,t1⟩:=v1
  dsimp only at f1 |-
  generalize vQ m ⟨k1,n1,t1⟩ 0=b1 at f1 |-
  simp only[ZT,Yk,ab.tw] at hrow hvl
  repeat' (first|refine V_ ?_|refine aN ?_|(refine am ?_;intro ss bb)|refine ac ?_|refine nC ?_|refine ai hG hst (f1) ?_|refine g_ (fun hg=>?_) (fun hg=>?_))
  all_goals
    refine aM x_ rfl (.tmp _ _ rfl) (fun _=>?_)
    refine aO ?_
    first
      | (simp[*];done)
      | (simp_all;done)
 ·rw[if_neg (by decide),if_neg (by decide),if_pos rfl]
  by_cases h3:values.length=1
  case neg =>
    rw[ad0 h3,Zl]
    have h3':¬ (values.length:Int)=1:=by omega
    repeat' (first|refine W_ ?_|refine aN ?_|(refine am ?_;intro ss bb)|refine ac ?_|refine nC ?_)
    all_goals
      exact r1_
  obtain⟨v1,rfl⟩:=agY h3
  rw[abT]
  obtain⟨k1,n1,t1⟩:=v1
  dsimp only at |-
  simp only[ZT,Yk,ab.tw] at hrow hvl
  have c1:=hfn oth
  generalize doB m k oth=b at c1 |-
  repeat' (first|refine W_ ?_|refine aN ?_|(refine am ?_;intro ss bb)|refine ac ?_|refine nC ?_|((with_reducible apply xy);rfl;rfl;kernel_rfl;exact hG;exact hst;(repeat (first|exact bD.nil|((with_reducible apply bD.cons);rfl;exact .same _)));(repeat (first|exact kw.nil|((with_reducible apply kw.cons);(first|((with_reducible apply bG.mpSame);(repeat (first|with_reducible exact mh|with_reducible refine mt ?_)))|exact bG.same _))));rfl;exact c1)|refine g_ (fun hg=>?_) (fun hg=>?_))
  all_goals
    refine aM x_ rfl (.tmp _ _ rfl) (fun _=>?_)
    refine aO ?_
    first
      | (simp[*];done)
      | (simp_all;done)
 ·rw[if_neg (by decide),if_neg (by decide),if_neg (by decide),if_pos rfl]
  repeat' (first|refine W_ ?_|refine aN ?_|(refine am ?_;intro ss bb)|refine ac ?_|refine nC ?_|refine g_ (fun hg=>?_) (fun hg=>?_))
  all_goals
    refine aM x_ rfl (.tmp _ _ rfl) (fun _=>?_)
    refine aO ?_
    first
      | (simp[*];done)
      | (simp[*];omega)
 ·rw[if_neg (by decide),if_neg (by decide),if_neg (by decide),if_neg (by decide),if_pos rfl]
  have c1:=aP (G:=GL) oth (-1) ((k:Int) - 1)
  have c2:=hfn oth
  generalize doB m k oth=b at c2 |-
  generalize inR oth (-1) ((k:Int) - 1)=b2 at c1 |-
  by_cases h3:values.length=1
  case neg =>
    have h3':¬ (values.length:Int)=1:=by omega
    rw[decide_eq_false h3,Zl,YH,Zl]
    repeat' (first|refine W_ ?_|refine aN ?_|(refine am ?_;intro ss bb)|refine ac ?_|refine nC ?_)
    all_goals
      exact r1_
  have h3':(values.length:Int)=1:=by omega
  cases rt
  all_goals
    repeat' (first|refine W_ ?_|refine aN ?_|(refine am ?_;intro ss bb)|refine ac ?_|refine nC ?_|refine ad hG hst (c1) ?_|((with_reducible apply xy);rfl;rfl;kernel_rfl;exact hG;exact hst;(repeat (first|exact bD.nil|((with_reducible apply bD.cons);rfl;exact .same _)));(repeat (first|exact kw.nil|((with_reducible apply kw.cons);(first|((with_reducible apply bG.mpSame);(repeat (first|with_reducible exact mh|with_reducible refine mt ?_)))|exact bG.same _))));rfl;exact c2)|refine g_ (fun hg=>?_) (fun hg=>?_))
    all_goals
      refine aM x_ rfl (.tmp _ _ rfl) (fun _=>?_)
      refine aO ?_
      first
        | (simp[*];done)
        | (simp_all;done)
 ·rw[if_neg g1,if_neg g2,if_neg g3,if_neg g4,if_neg g5,Zl]
  repeat' (first|refine W_ ?_|refine aN ?_|(refine am ?_;intro ss bb)|refine ac ?_|refine nC ?_)
  exact r1_
end Go.Proofs.YtofnnnpahglfdaaGreatDoor
