/- Part 20 of the proof: the texts ImA, IvK. -/
import Derived.Test.YtifcomgnmokimaaGreatDoorRt3
import Derived.Test.YtifcomgnmokimaaGreatDoorRt15
import Derived.Test.YtifcomgnmokimaaGreatDoorRt13
set_option linter.all false
set_option maxHeartbeats 4000000
set_option maxRecDepth 20000
namespace Go.Proofs.YtifcomgnmokimaaGreatDoor
open Go Go.RowKit
def gN (s:ByteArray):Bool:=(List.range s.size).all (fun j=>inR (bat s j) 32 126) && decide (s.size<=200)
def kf (k n:Int) (t:ByteArray):Bool :=
 if k=0 then decide (n=0) && decide (t=⟨#[]⟩)
 else if k=1 then inR n 0 1 && decide (t=⟨#[]⟩)
 else if k=2 then inR n (-999999999) 999999999 && decide (t=⟨#[]⟩)
 else if k=3 then decide (n=0) && gN t
 else if k=4 then decide (n=0) && di t.data.toList
 else if k=5\/k=6\/k=7 then decide (0<=n) && decide (t=⟨#[]⟩)
 else false
theorem ym (k:Int):k=0\/k=1\/k=2\/k=3\/k=4\/k=5\/k=6\/k=7\/(¬ k=0/\¬ k=1/\¬ k=2/\¬ k=3/\¬ k=4/\¬ k=5/\¬ k=6/\¬ k=7):=by omega
theorem aew {s:ByteArray} (h:∀j,j<s.size->inR (bat s j) 32 126=true):gN s=decide (s.size<=200):=by
 unfold gN
 rw[List.all_eq_true.2 fun j hj=>h j (List.mem_range.1 hj),Zn]
theorem aa1 {s:ByteArray} {j:Nat} (hj:j<s.size) (h:inR (bat s j) 32 126=false):gN s=false:=by
 unfold gN
 have:(List.range s.size).all (fun j=>inR (bat s j) 32 126)=false:=by
   rw[Bool.eq_false_iff]
   intro h2
   have:=List.all_eq_true.1 h2 j (List.mem_range.2 hj)
   rw[h] at this;cases this
 rw[this,Zl]
theorem abH {s:ByteArray} (h:200<s.size):gN s=false:=by
 unfold gN
 rw[decide_eq_false (by omega),YD]
section
variable {G:World->Prop}
theorem pG (hst:ay G) (s:ByteArray) (hs:s.size<=1048576):Ct Tryz.prog G 102 [.str s] (fun _=>.bool (gN s)):=by
 refine av Tryz.func102 rfl Tryz.ntmps102 rfl rfl fun w0 _ hG=>?_
 repeat' refine W_ ?_
 apply ap (X:=Nat) [0] (fun i=>[(3,.int .i64 (i:Int))]) (fun _=>[]) (fun i=>i<=s.size/\∀j,j<i->inR (bat s j) 32 126=true) (fun i=>s.size - i) 0 ⟨Ze _,fun j h=>absurd h (Xc _)⟩
 exact kp_;exact nw_
 ·exact .refl _
 rintro i ⟨hi,hall⟩
 try dsimp only
 by_cases hlt:i<s.size
 ·have hwi:=aP (G:=G) (bat s i) 32 126
  have hbd:=yJ s i
  cases hb:inR (bat s i) 32 126 with
  | false =>
    rw[hb] at hwi
    rw[aa1 hlt hb]
    repeat' (first|refine W_ ?_|refine ae hG hst (hwi) ?_)
    exact r1_
  | true =>
    rw[hb] at hwi
    repeat' (first|refine W_ ?_|refine ae hG hst (hwi) ?_)
    exact ah (i+1) ⟨by omega,fun j hj=>by
      rcases YB j i with h|h
      ·exact hall j h
      ·obtain rfl:j=i:=by omega
       exact hb⟩ (by omega) (.of _ nw_ od_ pk_)
 ·obtain rfl:i=s.size:=by omega
  rw[aew hall]
  repeat' refine W_ ?_
  refine aN x_ rfl (.tmp _ _ rfl) (fun _=>?_)
  exact aL (by rw[decide_eq_decide];omega)
end
theorem qB (k n:Int) (t:ByteArray) (ht:t.size<=1048576):Ct Tryz.prog GL 133 [.agg [.int .i64 k,.int .i64 n,.str t]] (fun _=>.bool (kf k n t)):=by
 refine av Tryz.func133 rfl Tryz.ntmps133 rfl rfl fun w0 _ hG=>?_
 have hst:=en
 have h1:=aP (G:=GL) n 0 1
 have h2:=aP (G:=GL) n (-999999999) 999999999
 have h3:=pG (G:=GL) hst t ht
 have h4:=ahy t ht
 rcases ym k with rfl|rfl|rfl|rfl|rfl|rfl|rfl|rfl|⟨g0,g1,g2,g3,g4,g5,g6,g7⟩
 ·have e:kf 0 n t=(decide (n=0) && decide (t=⟨#[]⟩)):=rfl
  rw[e]
  repeat' (first|refine W_ ?_|refine aJ ?_|refine g_ (fun hg=>?_) (fun hg=>?_))
  all_goals
    refine aN x_ rfl (.tmp _ _ rfl) (fun _=>?_)
    exact aL (by simp[*])
 ·have e:kf 1 n t=(inR n 0 1 && decide (t=⟨#[]⟩)):=rfl
  rw[e]
  generalize inR n 0 1=b at h1 |-
  cases b
  all_goals
    repeat' (first|refine W_ ?_|refine aJ ?_|refine ae hG hst (h1) ?_)
    refine aN x_ rfl (.tmp _ _ rfl) (fun _=>?_)
    exact aL (by simp[*])
 ·have e:kf 2 n t=(inR n (-999999999) 999999999 && decide (t=⟨#[]⟩)):=rfl
  rw[e]
  generalize inR n (-999999999) 999999999=b at h2 |-
  cases b
  all_goals
    repeat' (first|refine W_ ?_|refine aJ ?_|refine ae hG hst (h2) ?_)
    refine aN x_ rfl (.tmp _ _ rfl) (fun _=>?_)
    exact aL (by simp[*])
 ·have e:kf 3 n t=(decide (n=0) && gN t):=rfl
  rw[e]
  repeat' (first|refine W_ ?_|refine aJ ?_|refine ae hG hst (h3) ?_|refine g_ (fun hg=>?_) (fun hg=>?_))
  all_goals
    refine aN x_ rfl (.tmp _ _ rfl) (fun _=>?_)
    exact aL (by simp[*])
 ·have e:kf 4 n t=(decide (n=0) && di t.data.toList):=rfl
  rw[e]
  repeat' (first|refine W_ ?_|refine aJ ?_|refine ae hG hst (h4) ?_|refine g_ (fun hg=>?_) (fun hg=>?_))
  all_goals
    refine aN x_ rfl (.tmp _ _ rfl) (fun _=>?_)
    exact aL (by simp[*])
 ·have e:kf 5 n t=(decide (0<=n) && decide (t=⟨#[]⟩)):=rfl
  rw[e]
  repeat' (first|refine W_ ?_|refine aJ ?_|refine g_ (fun hg=>?_) (fun hg=>?_))
  all_goals
    refine aN x_ rfl (.tmp _ _ rfl) (fun _=>?_)
    exact aL (by simp[*])
 ·have e:kf 6 n t=(decide (0<=n) && decide (t=⟨#[]⟩)):=rfl
  rw[e]
  repeat' (first|refine W_ ?_|refine aJ ?_|refine g_ (fun hg=>?_) (fun hg=>?_))
  all_goals
    refine aN x_ rfl (.tmp _ _ rfl) (fun _=>?_)
    exact aL (by simp[*])
 ·have e:kf 7 n t=(decide (0<=n) && decide (t=⟨#[]⟩)):=rfl
  rw[e]
  repeat' (first|refine W_ ?_|refine aJ ?_|refine g_ (fun hg=>?_) (fun hg=>?_))
  all_goals
    refine aN x_ rfl (.tmp _ _ rfl) (fun _=>?_)
    exact aL (by simp[*])
 ·have e:kf k n t=false:=by
    unfold kf
    rw[if_neg g0,if_neg g1,if_neg g2,if_neg g3,if_neg g4,if_neg (by omega)]
  rw[e]
  repeat' (first|refine W_ ?_|refine aJ ?_)
  exact r1_
theorem ik (k n:Int) (t:ByteArray) (ht:t.size<=1048576):Ct Tryz.prog GL 77 [.agg [.int .i64 k,.int .i64 n,.str t]] (fun _=>.bool (kf k n t)):=by
 refine av Tryz.func77 rfl Tryz.ntmps77 rfl rfl fun w0 _ hG=>?_
 have hst:=en
 have h1:=bC (G:=GL) n 0 1
 have h2:=bC (G:=GL) n (-999999999) 999999999
 have h4:=ahL t ht
 rcases ym k with rfl|rfl|rfl|rfl|rfl|rfl|rfl|rfl|⟨g0,g1,g2,g3,g4,g5,g6,g7⟩
 ·have e:kf 0 n t=(decide (n=0) && decide (t=⟨#[]⟩)):=rfl
  rw[e]
  repeat' (first|refine W_ ?_|refine aJ ?_|refine g_ (fun hg=>?_) (fun hg=>?_))
  all_goals
    refine aN x_ rfl (.tmp _ _ rfl) (fun _=>?_)
    exact aL (by simp[*])
 ·have e:kf 1 n t=(inR n 0 1 && decide (t=⟨#[]⟩)):=rfl
  rw[e]
  generalize inR n 0 1=b at h1 |-
  cases b
  all_goals
    repeat' (first|refine W_ ?_|refine aJ ?_|refine ae hG hst (h1) ?_)
    refine aN x_ rfl (.tmp _ _ rfl) (fun _=>?_)
    exact aL (by simp[*])
 ·have e:kf 2 n t=(inR n (-999999999) 999999999 && decide (t=⟨#[]⟩)):=rfl
  rw[e]
  generalize inR n (-999999999) 999999999=b at h2 |-
  cases b
  all_goals
    repeat' (first|refine W_ ?_|refine aJ ?_|refine ae hG hst (h2) ?_)
    refine aN x_ rfl (.tmp _ _ rfl) (fun _=>?_)
    exact aL (by simp[*])
 ·have e:kf 3 n t=(decide (n=0) && gN t):=rfl
  rw[e]
  by_cases hn:n=0
  case neg =>
    have hn2:n≠0:=hn
    rw[decide_eq_false hn,Zl]
    repeat' (first|refine W_ ?_|refine aJ ?_)
    exact r1_
  subst hn
  have hn2:¬ ((0:Int)≠0):=fun h=>h rfl
  rw[decide_eq_true rfl,Zn]
  by_cases hl:200<t.size
  ·rw[abH hl]
   repeat' (first|refine W_ ?_|refine aJ ?_)
   exact r1_
  repeat' (first|refine W_ ?_|refine aJ ?_)
  apply ap (X:=Nat) [1] (fun i=>[(3,.int .i64 (i:Int))]) (fun _=>[]) (fun i=>i<=t.size/\∀j,j<i->inR (bat t j) 32 126=true) (fun i=>t.size - i) 0 ⟨Ze _,fun j h=>absurd h (Xc _)⟩
  exact kp_;exact nw_
  ·exact .refl _
  rintro i ⟨hi,hall⟩
  try dsimp only
  by_cases hlt:i<t.size
  ·have hbd:=yJ t i
   by_cases hlo:bat t i<32
   ·rw[aa1 hlt (show inR (bat t i) 32 126=false by simp only[inR,decide_eq_false_iff_not];omega)]
    repeat' refine W_ ?_
    exact r1_
   by_cases hhi:bat t i > 126
   ·rw[aa1 hlt (show inR (bat t i) 32 126=false by simp only[inR,decide_eq_false_iff_not];omega)]
    repeat' refine W_ ?_
    exact r1_
   ·repeat' refine W_ ?_
    exact ah (i+1) ⟨by omega,fun j hj=>by
      rcases YB j i with h|h
      ·exact hall j h
      ·obtain rfl:j=i:=by omega
       simp only[inR,decide_eq_true_eq];omega⟩ (by omega) (.of _ nw_ od_ pk_)
  ·obtain rfl:i=t.size:=by omega
   rw[aew hall,decide_eq_true (by omega)]
   repeat' refine W_ ?_
   exact r1_
 ·have e:kf 4 n t=(decide (n=0) && di t.data.toList):=rfl
  rw[e]
  repeat' (first|refine W_ ?_|refine aJ ?_|refine ae hG hst (h4) ?_|refine g_ (fun hg=>?_) (fun hg=>?_))
  all_goals
    refine aN x_ rfl (.tmp _ _ rfl) (fun _=>?_)
    exact aL (by simp[*])
 ·have e:kf 5 n t=(decide (0<=n) && decide (t=⟨#[]⟩)):=rfl
  rw[e]
  repeat' (first|refine W_ ?_|refine aJ ?_|refine g_ (fun hg=>?_) (fun hg=>?_))
  all_goals
    refine aN x_ rfl (.tmp _ _ rfl) (fun _=>?_)
    exact aL (by simp[*])
 ·have e:kf 6 n t=(decide (0<=n) && decide (t=⟨#[]⟩)):=rfl
  rw[e]
  repeat' (first|refine W_ ?_|refine aJ ?_|refine g_ (fun hg=>?_) (fun hg=>?_))
  all_goals
    refine aN x_ rfl (.tmp _ _ rfl) (fun _=>?_)
    exact aL (by simp[*])
 ·have e:kf 7 n t=(decide (0<=n) && decide (t=⟨#[]⟩)):=rfl
  rw[e]
  repeat' (first|refine W_ ?_|refine aJ ?_|refine g_ (fun hg=>?_) (fun hg=>?_))
  all_goals
    refine aN x_ rfl (.tmp _ _ rfl) (fun _=>?_)
    exact aL (by simp[*])
 ·have e:kf k n t=false:=by
    unfold kf
    rw[if_neg g0,if_neg g1,if_neg g2,if_neg g3,if_neg g4,if_neg (by omega)]
  rw[e]
  repeat' (first|refine W_ ?_|refine aJ ?_)
  exact r1_
section
variable {G:World->Prop}
theorem uM (hst:ay G) (lo:Nat) (ccl cen:TV) (cs:List aB) (mn:Int) (hne:1<=cs.length) (hcs:cs.length<=1048576/\∀y∈cs,aB.small 1048576 y) :
   Ct Tryz.prog G 103 [.agg [ccl,.sl lo 4 (cs.map (aB.tw lo)),cen,.int .i64 mn]] (aeC cs):=by
 refine av Tryz.func103 rfl Tryz.ntmps103 rfl rfl fun w0 _ hG=>?_
 have hl2:=aB.len lo cs
 have hcl:=hcs.1
 have hrep:=fun lo=>vF (G:=G) lo cs.length hne hcl
 repeat' (first|refine H_ 2 ?_|refine aJ ?_|refine ef ?_|((with_reducible apply aA);rfl;kernel_rfl;(repeat (first|exact az.nil|((with_reducible apply az.cons);rfl)));exact hG;exact hrep _;exact .nil _;intro y _;obtain⟨ss,bb⟩:=y;refine bO ?_))
 refine⟨?_⟩
 generalize ss=sd;generalize bb=bd
 have hst0:gC cs 0 (List.replicate cs.length (-1))=fJ cs:=rfl
 have hin0:=iN cs.length
 unfold aeC
 generalize fJ cs=R at hst0
 generalize List.replicate cs.length (-1:Int)=o0 at hst0 hin0
 repeat' refine W_ ?_
 apply ap (X:=Nat×List Int) [1,4,17,18] (fun x=>[(19,.int .i64 (x.1:Int))]) (fun x=>[(sd,bd,.row 1 (aS x.2))]) (fun x=>x.1<=cs.length/\dA cs.length x.2/\gC cs x.1 x.2=R) (fun x=>cs.length - x.1) (0,o0) ⟨Ze _,hin0,hst0⟩
 exact kp_;exact nw_
 ·exact .refl _
 clear hin0 hst0
 rintro ⟨i,o⟩ ⟨hi,hin,hR⟩
 dsimp only at hi hin hR |-
 have hol:(aS o).length=cs.length:=by rw[aj];exact hin.1
 by_cases hlt:i<cs.length
 ·have hra:=cj (lo:=lo) hlt
  have hsm:=hcs.2 _ (Zb hlt)
  rw[mW hlt] at hR
  generalize cs[i]=c at hra hsm hR
  obtain⟨cb,cp,csl,is⟩:=c
  dsimp only at hra hR
  have hil:=am.len lo is
  have hisl:is.length<=1048576:=hsm.1
  repeat' (first|refine W_ ?_|(refine ak ?_;intro ss bb)|refine ac ?_)
  apply ap (X:=Nat×List Int) [1,4,5,17,18,19,25,26] (fun x=>[(27,.int .i64 (x.1:Int))]) (fun x=>[(sd,bd,.row 1 (aS x.2))]) (fun x=>x.1<=is.length/\dA cs.length x.2/\gu cs i (is.drop x.1) x.2=R) (fun x=>is.length - x.1) (0,o) ⟨Ze _,hin,hR⟩
  exact kp_;exact nw_
  ·exact pk_
  clear hin hR hol
  rintro ⟨k,o⟩ ⟨hk,hin,hR⟩
  dsimp only at hk hin hR |-
  have hol:(aS o).length=cs.length:=by rw[aj];exact hin.1
  by_cases hlk:k<is.length
  ·have hrk:=jW (lo:=lo) hlk
   rw[ny hlk] at hR
   generalize is[k]=x at hrk hR
   obtain⟨op,a,b,t⟩:=x
   unfold abJ at hR
   dsimp only at hrk hR
   by_cases h15:op=15
   ·rw[if_pos h15] at hR
    have h15':¬ op≠15:=fun h=>h h15
    by_cases hin2:0<=a/\a<=(i:Int) - 1
    ·have cin:=aP (G:=G) a 0 ((i - 1:Nat):Int)
     rw[wP (by omega)] at cin
     obtain⟨q,rfl⟩:∃q:Nat,a=q:=⟨a.toNat,by omega⟩
     have hql:q<o.length:=by rw[hin.1];omega
     have hrq:=fG hql
     have hqc:q<cs.length:=by omega
     have hrc:=cj (lo:=lo) hqc
     have hblk:=fun o' k' hp hinv=>pC (cs:=cs) (i:=i) (k:=k') (is:=is) (o:=o') (a:=q) hlt hinv hqc hp
     generalize cs[q]=y at hrc hblk
     obtain⟨yb,yp,ysl,yi⟩:=y
     dsimp only at hrc hblk
     by_cases hg:0<=gd o (q:Int)
     ·rw[if_neg fun h=>h.2 hg] at hR
      cases yb
      all_goals
        repeat' (first|refine W_ ?_|(refine ak ?_;intro ss bb)|refine ac ?_|refine ae hG hst (cin) ?_)
        refine fj x_ rfl (.tmp _ _ rfl) (.tmp _ _ rfl) (fun _=>?_) (fun _=>?_)
        ·exact iV hR.symm
        ·exact fE hR.symm
     ·rw[if_pos ⟨hin2,hg⟩,ZB] at hR
      dsimp only at hR
      have hset:=sE o q (i:Int)
      have hin3:=(nT (n:=cs.length) (i:=i) (x:=⟨15,q,b,t⟩) (o:=o) (o':=o.set q (i:Int)) hlt (by unfold abJ;rw[if_pos rfl,if_pos ⟨hin2,hg⟩,ZB]) hin).1
      cases yb
      case false =>
        have hno:=hblk (o.set q (i:Int)) (k+1) rfl hin3 (by rw[lB hql];omega)
        rw[hR] at hno
        repeat' (first|refine W_ ?_|(refine ak ?_;intro ss bb)|refine ac ?_|refine ae hG hst (cin) ?_)
        refine fj x_ rfl (.tmp _ _ rfl) (.tmp _ _ rfl) (fun _=>?_) (fun _=>?_)
        ·exact iV hno
        ·exact fE hno
      repeat' (first|refine W_ ?_|(refine ak ?_;intro ss bb)|refine ac ?_|refine ae hG hst (cin) ?_|refine bD ?_)
      rw[hset]
      refine ah (k+1,o.set q (i:Int)) ⟨by dsimp only;omega,hin3,hR⟩ (by dsimp only;omega) (.of _ nw_ od_ pk_)
    ·have cin:=aP (G:=G) a 0 ((i:Int) - 1)
     have cin':=aP (G:=G) a 0 ((i - 1:Nat):Int)
     rw[acX hin2] at cin
     rw[if_neg fun h=>hin2 h.1] at hR
     repeat' (first|refine W_ ?_|(refine ak ?_;intro ss bb)|refine ac ?_|refine ae hG hst (cin) ?_)
     refine fj x_ rfl (.tmp _ _ rfl) (.tmp _ _ rfl) (fun _=>?_) (fun _=>?_)
     ·exact iV hR.symm
     ·exact fE hR.symm
   ·rw[if_neg h15] at hR
    dsimp only at hR
    repeat' (first|refine W_ ?_|(refine ak ?_;intro ss bb)|refine ac ?_)
    refine ah (k+1,o) ⟨by dsimp only;omega,hin,hR⟩ (by dsimp only;omega) (.of _ nw_ od_ pk_)
  ·rw[oB hlk] at hR
   repeat' refine W_ ?_
   refine ah (i+1,o) ⟨by dsimp only;omega,hin,hR⟩ (by dsimp only;omega) (.of _ nw_ od_ pk_)
 ·rw[oq hlt] at hR
  repeat' refine W_ ?_
  apply ap (X:=Nat) [1,4,66,67] (fun j=>[(68,.int .i64 (j:Int))]) (fun _=>[(sd,bd,.row 1 (aS o))]) (fun j=>j<=cs.length/\∀q,q<j->∀h:q<cs.length,cs[q].block=decide (0<=gd o (q:Int))) (fun j=>cs.length - j) 0 ⟨Ze _,by omega⟩
  exact kp_;exact nw_
  ·exact .refl _
  rintro j ⟨hj,hja⟩
  try dsimp only
  by_cases hlj:j<cs.length
  ·have hra:=cj (lo:=lo) hlj
   have hrj:=fG (o:=o) (j:=j) (by rw[hin.1];exact hlj)
   have hbad:=rv (o:=o) hlj
   have hnx:cs[j].block=decide (0<=gd o (j:Int))->∀q,q<j+1->∀h:q<cs.length,cs[q].block=decide (0<=gd o (q:Int)):=fun ho=>cH hja fun _=>ho
   generalize cs[j]=c at hra hbad hnx
   obtain⟨cb,cp,csl,is⟩:=c
   dsimp only at hra hbad hnx
   generalize gd o (j:Int)=v at hrj hbad hnx
   by_cases hb:cb=decide (0<=v)
   ·repeat' (first|refine V_ ?_|(refine ak ?_;intro ss bb)|refine ac ?_|refine c_ (fun hc=>?_) (fun hc=>?_))
    all_goals first
      | exact ah (j+1) ⟨by omega,hnx hb⟩ (by omega) (.of _ nw_ od_ pk_)
      | (exfalso;simp_all;done)
   ·rw[hbad hb] at hR
    repeat' (first|refine V_ ?_|(refine ak ?_;intro ss bb)|refine ac ?_|refine c_ (fun hc=>?_) (fun hc=>?_))
    all_goals first
      | (exfalso;simp_all;done)
      | (refine fj x_ rfl (.tmp _ _ rfl) (.tmp _ _ rfl) (fun _=>?_) (fun _=>?_)
         ·exact iV hR.symm
         ·exact fE hR.symm)
  ·rw[oQ fun q hq=>hja q (by omega)] at hR
   repeat' refine W_ ?_
   refine fj x_ rfl (.tmp _ _ rfl) (.tmp _ _ rfl) (fun _=>?_) (fun _=>?_)
   ·exact yk hR.symm hin.1 Zi
   ·exact qR hR.symm
end
end Go.Proofs.YtifcomgnmokimaaGreatDoor
