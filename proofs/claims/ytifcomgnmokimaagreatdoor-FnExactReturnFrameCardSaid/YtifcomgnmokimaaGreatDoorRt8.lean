/- Part 8 of the proof: the texts TvA, LwT, IvA, NeA. -/
import Derived.Test.YtifcomgnmokimaaGreatDoorRt3
import Derived.Test.YtifcomgnmokimaaGreatDoorRt5
import Derived.Test.YtifcomgnmokimaaGreatDoorRt2
set_option linter.all false
set_option maxHeartbeats 2000000
set_option maxRecDepth 20000
namespace Go.Proofs.YtifcomgnmokimaaGreatDoor
open Go Go.RowKit
mutual
def PT.tvs:PT->List TV
 | .int k n=>[.int k n]
 | .bool b=>[.bool b]
 | .str s=>[.str s]
 | .agg l=>PT.tvsL l
 | .sl _ _ m l=>[.sl 0 m (PT.rowsL l)]
def PT.tvsL:List PT->List TV
 | []=>[]
 | t::r=>PT.tvs t++PT.tvsL r
def PT.rowsL:List PT->List (List TV)
 | []=>[]
 | t::r=>PT.tvs t::PT.rowsL r
end
theorem PT.rowsL_map (l:List PT):PT.rowsL l=l.map PT.tvs:=by
 induction l with
 | nil=>rfl
 | cons t r ih=>simp[PT.rowsL,ih]
theorem PT.rows_flat (l:List PT):(PT.rowsL l).flatten=PT.tvsL l:=by
 induction l with
 | nil=>rfl
 | cons t r ih=>simp[PT.rowsL,PT.tvsL,ih]
def ado (w:World) (ts:List TV) (vs:List Value):Prop:=ts.length=vs.length/\(∀t∈ts,t.isCell=true)/\∀(i:Nat) (t:TV) (v:Value),ts[i]?=some t->vs[i]?=some v->Rep w [] t v
theorem ado.append {w:World} {a b:List TV} {x y:List Value} (h:ado w a x) (k:ado w b y):ado w (a++b) (x++y):=by
 refine⟨by simp[h.1,k.1],fun t ht=>?_,fun i t v ht hv=>?_⟩
 ·rcases List.mem_append.1 ht with ht|ht
  ·exact h.2.1 t ht
  ·exact k.2.1 t ht
 ·by_cases hi:i<a.length
  ·rw[Zs hi] at ht
   rw[Zs (by rw[<- h.1];exact hi)] at hv
   exact h.2.2 i t v ht hv
  ·rw[Zr (by omega)] at ht
   rw[Zr (by rw[<- h.1];omega)] at hv
   rw[<- h.1] at hv
   exact k.2.2 _ t v ht hv
theorem ado.one {w:World} {t:TV} {v:Value} (h:Rep w [] t v) (hc:t.isCell=true):ado w [t] [v]:=⟨rfl,by simpa using hc,fun i u x hu hx=>by
 cases i with
 | zero=>simp at hu hx;subst hu;subst hx;exact h
 | succ i=>simp at hu⟩
mutual
theorem aeX (w:World) (S:Nat->Prop):∀t:PT,eF w S t->ado w t.tvs t.cells
 | .int k n,_=>.one (.int k n) rfl
 | .bool b,_=>.one (.bool b) rfl
 | .str s,_=>.one (.str s) rfl
 | .agg l,h=>by
   simp only[PT.tvs,PT.cells]
   simp only[eF] at h
   exact acc w S l h
 | .sl A c m l,h=>by
   simp only[PT.tvs,PT.cells]
   simp only[eF] at h
   obtain⟨h1,h2,h3,h4,h5⟩:=h
   have h6:=acc w S l h5
   have hlen:(PT.rowsL l).length=l.length:=by rw[PT.rowsL_map];simp
   refine .one ?_ rfl
   have key:∀j,∃u,∀t,(PT.tvsL l)[j]?=some t->∃b o,A=some ⟨b,o,none⟩/\w.cell? ⟨b,o+j,none⟩=some u/\Rep w [] t u:=fun j=>by
     cases hj:(PT.cellsL l)[j]? with
     | none =>
       refine⟨undef,fun t ht=>?_⟩
       have:j<(PT.tvsL l).length:=(List.getElem?_eq_some_iff.1 ht).1
       rw[h6.1] at this
       rw[Za this] at hj;cases hj
     | some u =>
       refine⟨u,fun t ht=>?_⟩
       obtain⟨b,o,e1,_,e2⟩:=h3 j u hj
       exact⟨b,o,e1,e2,h6.2.2 j t u ht hj⟩
   have hr := Rep.sl (w := w) (objs := []) 0 m (PT.rowsL l) A c (by omega) h2 (fun r hr => by
       rw[PT.rowsL_map] at hr
       obtain⟨t,ht,rfl⟩:=List.mem_map.1 hr
       rw[<- h4 t ht]
       exact(vo w S l h5 t ht).1) (fun t ht=>by rw[PT.rows_flat] at ht;exact h6.2.1 t ht) (fun j=>Classical.choose (key j))
     (fun j t hj=>by
       rw[PT.rows_flat] at hj
       obtain⟨b,o,e1,e2,_⟩:=ZL (key j) t hj
       exact⟨b,o,e1,yn b,e2⟩)
     (fun j t hj=>by
       rw[PT.rows_flat] at hj
       obtain⟨b,o,_,_,e3⟩:=ZL (key j) t hj
       exact e3)
   rw[hlen] at hr
   exact hr
theorem acc (w:World) (S:Nat->Prop):∀l:List PT,cZ w S l->ado w (PT.tvsL l) (PT.cellsL l)
 | [],_=>⟨rfl,by simp[PT.tvsL],by simp[PT.tvsL]⟩
 | t::r,h=>by
   simp only[PT.tvsL,PT.cellsL]
   simp only[cZ] at h
   exact(aeX w S t h.1).append (acc w S r h.2)
theorem vo (w:World) (S:Nat->Prop):∀l:List PT,cZ w S l->∀t∈l,ado w t.tvs t.cells
 | [],_,t,ht=>by simp at ht
 | x::r,h,t,ht=>by
   simp only[cZ] at h
   rcases List.mem_cons.1 ht with e|ht
   ·rw[e];exact aeX w S x h.1
   ·exact vo w S r h.2 t ht
end
theorem aY {α:Type} {p:α->Prop} {l:List α} {i:Nat} (h:i<l.length) (ha:∀y∈l.take i,p y) (hx:p l[i]):∀y∈l.take (i+1),p y:=fun y hy=>by
 rw[Ye,Za h] at hy
 rcases List.mem_append.1 hy with hy|hy
 ·exact ha y hy
 ·simp at hy;subst hy;exact hx
def iy {α:Type} (tw:α->List TV) (z:List TV) (l:List α) (i:Nat):List (List TV):=(l.take i).map tw++List.replicate (l.length - i) z
theorem fC {α:Type} (tw:α->List TV) (z:List TV) (l:List α):List.replicate l.length z=iy tw z l 0:=by simp[iy]
theorem fI {α:Type} (tw:α->List TV) (z:List TV) (l:List α):iy tw z l l.length=l.map tw:=by simp[iy]
theorem gJ {α:Type} (tw:α->List TV) (z:List TV) {l:List α} {i:Nat} (h:i<l.length):(iy tw z l i)[i]?=some z/\(iy tw z l i).set i (tw l[i])=iy tw z l (i+1):=by
 have e:l.length - i=(l.length - (i+1))+1:=by omega
 have hl:((l.take i).map tw).length=i:=by simp;omega
 unfold iy
 refine⟨?_, ?_⟩
 ·rw[Zr (by omega),hl,Yt,e,Z8];rfl
 ·rw[Yw _ _ (by omega),hl,Yt,e,Z8,Xd,show l.take (i+1)=l.take i++[l[i]] from by rw[Ye,Za h];rfl,YG,Zk]
  rfl
def jr (B:Nat) (objs:aG) (K:Nat) (l l':List TV):Prop:=l'.length=l.length/\∀(j:Nat) (t t':TV),l[j]?=some t->l'[j]?=some t'->Fin B objs K t t'
theorem jr.nil {B:Nat} {objs:aG} {K:Nat}:jr B objs K [] []:=⟨rfl,by simp⟩
theorem jr.cons {B:Nat} {objs:aG} {K:Nat} {t t':TV} {l l':List TV} (h:Fin B objs K t t') (hr:jr B objs K l l'):jr B objs K (t::l) (t'::l'):=⟨by simp[hr.1],fun j u u' h1 h2=>by
 cases j with
 | zero=>simp at h1 h2;subst h1;subst h2;exact h
 | succ j=>exact hr.2 j u u' (by simpa using h1) (by simpa using h2)⟩
theorem jr.append {B:Nat} {objs:aG} {K:Nat} {a a' b b':List TV} (h:jr B objs K a a') (k:jr B objs K b b'):jr B objs K (a++b) (a'++b'):=⟨by simp[h.1,k.1],fun j u u' h1 h2=>by
 by_cases hj:j<a.length
 ·rw[Zs hj] at h1
  rw[Zs (by rw[h.1];exact hj)] at h2
  exact h.2 j u u' h1 h2
 ·rw[Zr (by omega)] at h1
  rw[Zr (by rw[h.1];omega)] at h2
  rw[h.1] at h2
  exact k.2 _ u u' h1 h2⟩
theorem jr.rows {α:Type} {B:Nat} {objs:aG} {K:Nat} {f f':α->List TV} (h:∀x,jr B objs K (f x) (f' x)):∀l:List α,jr B objs K (l.map f).flatten (l.map f').flatten
 | []=>.nil
 | x::r=>by simpa using (h x).append (jr.rows h r)
theorem jr.lens {α:Type} {f f':α->List TV} (h:∀x,(f' x).length=(f x).length) (l:List α):(l.map f').map List.length=(l.map f).map List.length:=by
 induction l with
 | nil=>rfl
 | cons x r ih=>simpa [h x] using ih
theorem df {α:Type} {B:Nat} {objs:aG} {K m:Nat} {f f':α->List TV} (h:∀x,jr B objs K (f x) (f' x)) (l:List α):Fin B objs K (.sl B m (l.map f)) (.sl K m (l.map f')) :=
 .sl B m _ _ (Zg _) (jr.lens (fun x=>(h x).1) l) (jr.rows h l).2
theorem abw {α:Type} {B:Nat} {objs:aG} {K s b m:Nat} {f f':α->List TV} (h:∀x,jr B objs K (f x) (f' x)) {l:List α} (hm:(s,b,aV.row m (l.map f))∈objs):Fin B objs K (.ms s b 0 l.length) (.sl K m (l.map f')) :=
 .ms s b 0 l.length m _ (l.map f) _ hm (by simp) (by rw[Y0,Zc (by simp)]) (jr.lens (fun x=>(h x).1) l) (jr.rows h l).2
theorem mH {B:Nat} {objs:aG} {K:Nat} {l l':List TV} (h:jr B objs K l l'):Fin B objs K (.agg l) (.agg l'):=.agg l l' h.1 h.2
theorem e9 {l:List ByteArray} {i:Nat} (h:i<l.length):(ca l)[i]?=some [.str l[i]]:=aK h
theorem cg (l:List ByteArray):(ca l).length=l.length:=by simp[ca]
section
variable {G:World->Prop}
theorem mV (lo:Nat) (l:List ByteArray) (left:Int) (h:0<=left/\left<=1048576) (hb:l.length<=9223372036854775807/\∀y∈l,ByteArray.size y<=9223372036854775807):CtM Tryz.prog G 70 [.sl lo 1 (ca l),.int .i64 left] [] (fun y:Int=>-1<=y/\y<=left/\(0<=y->l.length<=1048576/\∀y∈l,ByteArray.size y<=1048576)) (fun _=>[]) (fun y=>.int .i64 y):=by
 refine au Tryz.func70 rfl Tryz.ntmps70 rfl rfl rfl fun w0 R gs objsR hG hR=>?_
 obtain rfl:=hR.inv0
 clear hR
 have hlen:=cg l
 have hl1:=hb.1
 by_cases hn:left - l.length<0
 ·repeat' refine W_ ?_
  exact aw x_ rfl (-1) ⟨by omega,by omega,fun h=>by omega⟩ rfl (.nil R) (.refl _) (.tmp _ _ rfl) rfl
 ·repeat' refine W_ ?_
  apply ap (X:=Nat×Int) [0,1000000] (fun x=>[(5,.int .i64 (x.1:Int)),(1,.int .i64 x.2)]) (fun _=>R) (fun x=>x.1<=l.length/\0<=x.2/\x.2<=left/\∀y∈l.take x.1,ByteArray.size y<=1048576) (fun x=>l.length - x.1) (0,left - l.length) ⟨Ze _,by dsimp only;omega,by dsimp only;omega,by simp⟩
  exact kp_;exact nw_
  ·exact .refl _
  rintro ⟨i,lf⟩ ⟨hi,h0,h1,hs⟩
  dsimp only at hi h0 h1 hs |-
  by_cases hlt:i<l.length
  ·have hrow:=e9 hlt
   have hbi:=hb.2 _ (Zb hlt)
   have hta:=aY (p:=fun y=>ByteArray.size y<=1048576) hlt hs
   generalize l[i]=x at hrow hbi hta
   repeat' (first|refine W_ ?_|refine c_ (fun hc=>?_) (fun hc=>?_))
   all_goals first
     | exact aw x_ rfl (-1) ⟨by omega,by omega,fun h=>by omega⟩ rfl (.nil R) (.refl _) (.tmp _ _ rfl) rfl
     | exact ah (i+1,lf - x.size) ⟨by dsimp only;omega,by dsimp only;omega,by dsimp only;omega,hta (by omega)⟩ (by dsimp only;omega) (.of _ nw_ od_ pk_)
  ·rw[Zc (by omega)] at hs
   repeat' refine W_ ?_
   exact aw x_ rfl lf ⟨by omega,by omega,fun _=>⟨by omega,hs⟩⟩ rfl (.nil R) (.refl _) (.tmp _ _ rfl) rfl
theorem sU (l1 l2:Nat) (l:List ByteArray) (hn:l.length<=1099600000000):Ct Tryz.prog G 121 [.sl l1 1 (ca l),.sl l2 1 (ca l)] (fun _=>.bool true):=by
 refine av Tryz.func121 rfl Tryz.ntmps121 rfl rfl fun w0 _ hG=>?_
 have hlen:=cg l
 repeat' refine W_ ?_
 apply ap (X:=Nat) [0,1] (fun i=>[(5,.int .i64 (i:Int))]) (fun _=>[]) (fun i=>i<=l.length) (fun i=>l.length - i) 0 (Ze _)
 exact kp_;exact nw_
 ·exact .refl _
 intro i hi
 try dsimp only
 by_cases hlt:i<l.length
 ·have hrow:=e9 hlt
  generalize l[i]=x at hrow
  have hx:¬ x≠x:=fun h=>h rfl
  repeat' refine V_ ?_
  exact ah (i+1) (by omega) (by omega) (.of _ nw_ od_ pk_)
 ·repeat' refine W_ ?_
  exact r1_
theorem mU (l1 l2:Nat) (l:List ByteArray) (hn:l.length<=1048576):Ct Tryz.prog G 121 [.sl l1 1 (ca l),.sl l2 1 (ca l)] (fun _=>.bool true):=sU l1 l2 l (by omega)
end
def am.tw (lo:Nat) (x:am):List TV:=[.int .i64 x.op,.int .i64 x.a,.int .i64 x.b,.str x.text]
def am.small (n:Nat) (x:am):Prop:=(x.text.size<=n)
def am.tz:List TV:=[.int .i64 0,.int .i64 0,.int .i64 0,.str ⟨#[]⟩]
theorem am.fin (B K:Nat) (objs:aG) (x:am):jr B objs K (x.tw B) (x.tw K):=.cons (.flat rfl) (.cons (.flat rfl) (.cons (.flat rfl) (.cons (.flat rfl) (.nil))))
theorem am.len (lo:Nat) (l:List am):(l.map (am.tw lo)).length=l.length:=by simp
section
variable {G:World->Prop}
theorem aaq (hst:ay G) (lo:Nat) (x:am) (left:Int) (h:0<=left/\left<=1048576) (hb:x.small 9223372036854775807):CtM Tryz.prog G 265 [.agg (x.tw lo),.int .i64 left] [] (fun y:Int=>-1<=y/\y<=left/\(0<=y->x.small 1048576)) (fun _=>[]) (fun y=>.int .i64 y):=by
 refine au Tryz.func265 rfl Tryz.ntmps265 rfl rfl rfl fun w0 R gs objsR hG hR=>?_
 obtain rfl:=hR.inv0
 clear hR
 unfold am.small at hb
 have hb1:x.text.size<=9223372036854775807:=hb
 unfold am.tw
 repeat' (first|refine W_ ?_|refine aJ ?_|refine c_ (fun hc=>?_) (fun hc=>?_))
 all_goals first
   | exact aw x_ rfl (-1) ⟨by omega,by omega,fun h=>by omega⟩ rfl (.nil R) (.refl _) (.tmp _ _ rfl) rfl
   | (refine aw x_ rfl _ ⟨?_, ?_,fun _=>?_⟩ rfl (.nil R) (.refl _) (.tmp _ _ rfl) rfl
      ·omega
      ·omega
      ·show _<=_;omega)
theorem xl (hst:ay G) (lo:Nat) (l:List am) (left:Int) (h:0<=left/\left<=1048576) (hb:l.length<=9223372036854775807/\∀y∈l,am.small 9223372036854775807 y):CtM Tryz.prog G 219 [.sl lo 4 (l.map (am.tw lo)),.int .i64 left] [] (fun y:Int=>-1<=y/\y<=left/\(0<=y->l.length<=1048576/\∀y∈l,am.small 1048576 y)) (fun _=>[]) (fun y=>.int .i64 y):=by
 refine au Tryz.func219 rfl Tryz.ntmps219 rfl rfl rfl fun w0 R gs objsR hG hR=>?_
 obtain rfl:=hR.inv0
 clear hR
 have hlen:=am.len lo l
 have hl1:=hb.1
 by_cases hn:left - l.length<0
 ·repeat' refine W_ ?_
  exact aw x_ rfl (-1) ⟨by omega,by omega,fun h=>by omega⟩ rfl (.nil R) (.refl _) (.tmp _ _ rfl) rfl
 ·repeat' refine W_ ?_
  apply ap (X:=Nat×Int) [0,1000000] (fun x=>[(5,.int .i64 (x.1:Int)),(1,.int .i64 x.2)]) (fun _=>R) (fun x=>x.1<=l.length/\0<=x.2/\x.2<=left/\∀y∈l.take x.1,am.small 1048576 y) (fun x=>l.length - x.1) (0,left - l.length) ⟨Ze _,by dsimp only;omega,by dsimp only;omega,by simp⟩
  exact kp_;exact nw_
  ·exact .refl _
  rintro ⟨i,lf⟩ ⟨hi,h0,h1,hs⟩
  dsimp only at hi h0 h1 hs |-
  by_cases hlt:i<l.length
  ·have hrow:(l.map (am.tw lo))[i]?=some (l[i].tw lo):=aK hlt
   have hbi:=hb.2 _ (Zb hlt)
   have hta:=aY (p:=am.small 1048576) hlt hs
   generalize l[i]=x at hrow hbi hta
   have hct:=aaq hst lo x lf (by omega) hbi
   unfold am.tw at hct
   rw[show x.tw lo=[.int .i64 x.op,.int .i64 x.a,.int .i64 x.b,.str x.text] from rfl] at hrow
   repeat' (first|refine W_ ?_|((with_reducible apply aA);rfl;kernel_rfl;(repeat (first|exact az.nil|((with_reducible apply az.cons);rfl)));exact hG;exact hct;exact .nil _;intro y hy;refine bT ?_)|refine c_ (fun hc=>?_) (fun hc=>?_))
   all_goals first
     | exact aw x_ rfl (-1) ⟨by omega,by omega,fun h=>by omega⟩ rfl (.nil R) (.refl _) (.tmp _ _ rfl) rfl
     | exact ah (i+1,y) ⟨by dsimp only;omega,by dsimp only;omega,by dsimp only;omega,hta (hy.2.2 (by omega))⟩ (by dsimp only;omega) (.of _ nw_ od_ pk_)
  ·rw[Zc (by omega)] at hs
   repeat' refine W_ ?_
   exact aw x_ rfl lf ⟨by omega,by omega,fun _=>⟨by omega,hs⟩⟩ rfl (.nil R) (.refl _) (.tmp _ _ rfl) rfl
theorem aag (hst:ay G) (lo:Nat) (x:am) (hb:x.small 1048576):Ct Tryz.prog G 275 [.agg (x.tw lo)] (fun K=>.agg (x.tw K)):=by
 refine av Tryz.func275 rfl Tryz.ntmps275 rfl rfl fun w0 _ hG=>?_
 unfold am.small at hb
 skip
 repeat' (first|refine W_ ?_|refine aJ ?_|(refine ak ?_;intro ss bb)|refine ac ?_)
 refine aN x_ rfl (.cell _ _ _ _ _ rfl mm_ (by kernel_rfl) (by kernel_rfl) (by kernel_rfl)) (fun _=>?_)
 exact mH (am.fin _ _ _ x)
theorem zj (hst:ay G) (l1 l2:Nat) (x:am) (hb:x.small 1048576):Ct Tryz.prog G 290 [.agg (x.tw l1),.agg (x.tw l2)] (fun _=>.bool true):=by
 refine av Tryz.func290 rfl Tryz.ntmps290 rfl rfl fun w0 _ hG=>?_
 unfold am.small at hb
 have hnetext:¬ x.text≠x.text:=fun h=>h rfl
 unfold am.tw
 repeat' (first|refine W_ ?_|refine aJ ?_)
 all_goals first
   | (exfalso;simp at hc;done)
   | (exact r1_)
theorem xG (hst:ay G) (l1 l2:Nat) (l:List am) (hb:l.length<=1048576/\∀y∈l,am.small 1048576 y):Ct Tryz.prog G 260 [.sl l1 4 (l.map (am.tw l1)),.sl l2 4 (l.map (am.tw l2))] (fun _=>.bool true):=by
 refine av Tryz.func260 rfl Tryz.ntmps260 rfl rfl fun w0 _ hG=>?_
 have hlen:=am.len l1 l
 have hlen2:=am.len l2 l
 have hl1:=hb.1
 repeat' refine W_ ?_
 apply ap (X:=Nat) [0,1] (fun i=>[(5,.int .i64 (i:Int))]) (fun _=>[]) (fun i=>i<=l.length) (fun i=>l.length - i) 0 (Ze _)
 exact kp_;exact nw_
 ·exact .refl _
 intro i hi
 try dsimp only
 by_cases hlt:i<l.length
 ·have hr1:(l.map (am.tw l1))[i]?=some (l[i].tw l1):=aK hlt
  have hr2:(l.map (am.tw l2))[i]?=some (l[i].tw l2):=aK hlt
  have hbi:=hb.2 _ (Zb hlt)
  generalize l[i]=x at hr1 hr2 hbi
  have hct:=zj hst l1 l2 x hbi
  unfold am.tw at hct
  rw[show x.tw l1=[.int .i64 x.op,.int .i64 x.a,.int .i64 x.b,.str x.text] from rfl] at hr1
  rw[show x.tw l2=[.int .i64 x.op,.int .i64 x.a,.int .i64 x.b,.str x.text] from rfl] at hr2
  repeat' (first|refine V_ ?_|refine ai hG hst (hct) ?_)
  exact ah (i+1) (by omega) (by omega) (.of _ nw_ od_ pk_)
 ·repeat' refine W_ ?_
  exact r1_
end
def aB.tw (lo:Nat) (x:aB):List TV:=[.bool x.block,.int .i64 x.params,.int .i64 x.slots,.sl lo 4 (x.instrs.map (am.tw lo))]
def aB.small (n:Nat) (x:aB):Prop:=(x.instrs.length<=n/\∀y∈x.instrs,am.small n y)
def aB.tz:List TV:=[.bool false,.int .i64 0,.int .i64 0,.nils]
theorem aB.fin (B K:Nat) (objs:aG) (x:aB):jr B objs K (x.tw B) (x.tw K):=.cons (.flat rfl) (.cons (.flat rfl) (.cons (.flat rfl) (.cons (df (fun x=>am.fin B K objs x) _) (.nil))))
theorem aB.len (lo:Nat) (l:List aB):(l.map (aB.tw lo)).length=l.length:=by simp
section
variable {G:World->Prop}
theorem abI (hst:ay G) (lo:Nat) (x:aB) (left:Int) (h:0<=left/\left<=1048576) (hb:x.small 9223372036854775807):CtM Tryz.prog G 155 [.agg (x.tw lo),.int .i64 left] [] (fun y:Int=>-1<=y/\y<=left/\(0<=y->x.small 1048576)) (fun _=>[]) (fun y=>.int .i64 y):=by
 refine au Tryz.func155 rfl Tryz.ntmps155 rfl rfl rfl fun w0 R gs objsR hG hR=>?_
 obtain rfl:=hR.inv0
 clear hR
 unfold aB.small at hb
 skip
 unfold aB.tw
 repeat' (first|refine W_ ?_|refine aJ ?_|((with_reducible apply aA);rfl;kernel_rfl;(repeat (first|exact az.nil|((with_reducible apply az.cons);rfl)));exact hG;exact xl hst lo x.instrs _ (by omega) hb;exact .nil _;intro y1 hy1;refine bT ?_)|refine c_ (fun hc=>?_) (fun hc=>?_))
 all_goals first
   | exact aw x_ rfl (-1) ⟨by omega,by omega,fun h=>by omega⟩ rfl (.nil R) (.refl _) (.tmp _ _ rfl) rfl
   | (refine aw x_ rfl _ ⟨?_, ?_,fun _=>?_⟩ rfl (.nil R) (.refl _) (.tmp _ _ rfl) rfl
      ·omega
      ·omega
      ·exact hy1.2.2 (by omega))
theorem zr (hst:ay G) (lo:Nat) (l:List aB) (left:Int) (h:0<=left/\left<=1048576) (hb:l.length<=9223372036854775807/\∀y∈l,aB.small 9223372036854775807 y):CtM Tryz.prog G 67 [.sl lo 4 (l.map (aB.tw lo)),.int .i64 left] [] (fun y:Int=>-1<=y/\y<=left/\(0<=y->l.length<=1048576/\∀y∈l,aB.small 1048576 y)) (fun _=>[]) (fun y=>.int .i64 y):=by
 refine au Tryz.func67 rfl Tryz.ntmps67 rfl rfl rfl fun w0 R gs objsR hG hR=>?_
 obtain rfl:=hR.inv0
 clear hR
 have hlen:=aB.len lo l
 have hl1:=hb.1
 by_cases hn:left - l.length<0
 ·repeat' refine W_ ?_
  exact aw x_ rfl (-1) ⟨by omega,by omega,fun h=>by omega⟩ rfl (.nil R) (.refl _) (.tmp _ _ rfl) rfl
 ·repeat' refine W_ ?_
  apply ap (X:=Nat×Int) [0,1000000] (fun x=>[(5,.int .i64 (x.1:Int)),(1,.int .i64 x.2)]) (fun _=>R) (fun x=>x.1<=l.length/\0<=x.2/\x.2<=left/\∀y∈l.take x.1,aB.small 1048576 y) (fun x=>l.length - x.1) (0,left - l.length) ⟨Ze _,by dsimp only;omega,by dsimp only;omega,by simp⟩
  exact kp_;exact nw_
  ·exact .refl _
  rintro ⟨i,lf⟩ ⟨hi,h0,h1,hs⟩
  dsimp only at hi h0 h1 hs |-
  by_cases hlt:i<l.length
  ·have hrow:(l.map (aB.tw lo))[i]?=some (l[i].tw lo):=aK hlt
   have hbi:=hb.2 _ (Zb hlt)
   have hta:=aY (p:=aB.small 1048576) hlt hs
   generalize l[i]=x at hrow hbi hta
   have hct:=abI hst lo x lf (by omega) hbi
   unfold aB.tw at hct
   rw[show x.tw lo=[.bool x.block,.int .i64 x.params,.int .i64 x.slots,.sl lo 4 (x.instrs.map (am.tw lo))] from rfl] at hrow
   repeat' (first|refine W_ ?_|((with_reducible apply aA);rfl;kernel_rfl;(repeat (first|exact az.nil|((with_reducible apply az.cons);rfl)));exact hG;exact hct;exact .nil _;intro y hy;refine bT ?_)|refine c_ (fun hc=>?_) (fun hc=>?_))
   all_goals first
     | exact aw x_ rfl (-1) ⟨by omega,by omega,fun h=>by omega⟩ rfl (.nil R) (.refl _) (.tmp _ _ rfl) rfl
     | exact ah (i+1,y) ⟨by dsimp only;omega,by dsimp only;omega,by dsimp only;omega,hta (hy.2.2 (by omega))⟩ (by dsimp only;omega) (.of _ nw_ od_ pk_)
  ·rw[Zc (by omega)] at hs
   repeat' refine W_ ?_
   exact aw x_ rfl lf ⟨by omega,by omega,fun _=>⟨by omega,hs⟩⟩ rfl (.nil R) (.refl _) (.tmp _ _ rfl) rfl
theorem aaN (hst:ay G) (l1 l2:Nat) (x:aB) (hb:x.small 1048576):Ct Tryz.prog G 198 [.agg (x.tw l1),.agg (x.tw l2)] (fun _=>.bool true):=by
 refine av Tryz.func198 rfl Tryz.ntmps198 rfl rfl fun w0 _ hG=>?_
 unfold aB.small at hb
 have hsinstrs:=hb
 unfold aB.tw
 repeat' (first|refine W_ ?_|refine aJ ?_|refine ae hG hst (xG hst l1 l2 x.instrs hsinstrs) ?_|refine c_ (fun hc=>?_) (fun hc=>?_))
 all_goals first
   | (exfalso;simp at hc;done)
   | (exact r1_)
theorem zI (hst:ay G) (l1 l2:Nat) (l:List aB) (hb:l.length<=1048576/\∀y∈l,aB.small 1048576 y):Ct Tryz.prog G 118 [.sl l1 4 (l.map (aB.tw l1)),.sl l2 4 (l.map (aB.tw l2))] (fun _=>.bool true):=by
 refine av Tryz.func118 rfl Tryz.ntmps118 rfl rfl fun w0 _ hG=>?_
 have hlen:=aB.len l1 l
 have hlen2:=aB.len l2 l
 have hl1:=hb.1
 repeat' refine W_ ?_
 apply ap (X:=Nat) [0,1] (fun i=>[(5,.int .i64 (i:Int))]) (fun _=>[]) (fun i=>i<=l.length) (fun i=>l.length - i) 0 (Ze _)
 exact kp_;exact nw_
 ·exact .refl _
 intro i hi
 try dsimp only
 by_cases hlt:i<l.length
 ·have hr1:(l.map (aB.tw l1))[i]?=some (l[i].tw l1):=aK hlt
  have hr2:(l.map (aB.tw l2))[i]?=some (l[i].tw l2):=aK hlt
  have hbi:=hb.2 _ (Zb hlt)
  generalize l[i]=x at hr1 hr2 hbi
  have hct:=aaN hst l1 l2 x hbi
  unfold aB.tw at hct
  rw[show x.tw l1=[.bool x.block,.int .i64 x.params,.int .i64 x.slots,.sl l1 4 (x.instrs.map (am.tw l1))] from rfl] at hr1
  rw[show x.tw l2=[.bool x.block,.int .i64 x.params,.int .i64 x.slots,.sl l2 4 (x.instrs.map (am.tw l2))] from rfl] at hr2
  repeat' (first|refine V_ ?_|refine ai hG hst (hct) ?_)
  exact ah (i+1) (by omega) (by omega) (.of _ nw_ od_ pk_)
 ·repeat' refine W_ ?_
  exact r1_
end
def aD.tw (lo:Nat) (x:aD):List TV:=[.int .i64 x.owner,.bool x.class_,.str x.selector,.int .i64 x.code]
def aD.small (n:Nat) (x:aD):Prop:=(x.selector.size<=n)
def aD.tz:List TV:=[.int .i64 0,.bool false,.str ⟨#[]⟩,.int .i64 0]
theorem aD.fin (B K:Nat) (objs:aG) (x:aD):jr B objs K (x.tw B) (x.tw K):=.cons (.flat rfl) (.cons (.flat rfl) (.cons (.flat rfl) (.cons (.flat rfl) (.nil))))
theorem aD.len (lo:Nat) (l:List aD):(l.map (aD.tw lo)).length=l.length:=by simp
section
variable {G:World->Prop}
theorem aaC (hst:ay G) (lo:Nat) (x:aD) (left:Int) (h:0<=left/\left<=1048576) (hb:x.small 9223372036854775807):CtM Tryz.prog G 156 [.agg (x.tw lo),.int .i64 left] [] (fun y:Int=>-1<=y/\y<=left/\(0<=y->x.small 1048576)) (fun _=>[]) (fun y=>.int .i64 y):=by
 refine au Tryz.func156 rfl Tryz.ntmps156 rfl rfl rfl fun w0 R gs objsR hG hR=>?_
 obtain rfl:=hR.inv0
 clear hR
 unfold aD.small at hb
 have hb1:x.selector.size<=9223372036854775807:=hb
 unfold aD.tw
 repeat' (first|refine W_ ?_|refine aJ ?_|refine c_ (fun hc=>?_) (fun hc=>?_))
 all_goals first
   | exact aw x_ rfl (-1) ⟨by omega,by omega,fun h=>by omega⟩ rfl (.nil R) (.refl _) (.tmp _ _ rfl) rfl
   | (refine aw x_ rfl _ ⟨?_, ?_,fun _=>?_⟩ rfl (.nil R) (.refl _) (.tmp _ _ rfl) rfl
      ·omega
      ·omega
      ·show _<=_;omega)
theorem wZ (hst:ay G) (lo:Nat) (l:List aD) (left:Int) (h:0<=left/\left<=1048576) (hb:l.length<=9223372036854775807/\∀y∈l,aD.small 9223372036854775807 y):CtM Tryz.prog G 68 [.sl lo 4 (l.map (aD.tw lo)),.int .i64 left] [] (fun y:Int=>-1<=y/\y<=left/\(0<=y->l.length<=1048576/\∀y∈l,aD.small 1048576 y)) (fun _=>[]) (fun y=>.int .i64 y):=by
 refine au Tryz.func68 rfl Tryz.ntmps68 rfl rfl rfl fun w0 R gs objsR hG hR=>?_
 obtain rfl:=hR.inv0
 clear hR
 have hlen:=aD.len lo l
 have hl1:=hb.1
 by_cases hn:left - l.length<0
 ·repeat' refine W_ ?_
  exact aw x_ rfl (-1) ⟨by omega,by omega,fun h=>by omega⟩ rfl (.nil R) (.refl _) (.tmp _ _ rfl) rfl
 ·repeat' refine W_ ?_
  apply ap (X:=Nat×Int) [0,1000000] (fun x=>[(5,.int .i64 (x.1:Int)),(1,.int .i64 x.2)]) (fun _=>R) (fun x=>x.1<=l.length/\0<=x.2/\x.2<=left/\∀y∈l.take x.1,aD.small 1048576 y) (fun x=>l.length - x.1) (0,left - l.length) ⟨Ze _,by dsimp only;omega,by dsimp only;omega,by simp⟩
  exact kp_;exact nw_
  ·exact .refl _
  rintro ⟨i,lf⟩ ⟨hi,h0,h1,hs⟩
  dsimp only at hi h0 h1 hs |-
  by_cases hlt:i<l.length
  ·have hrow:(l.map (aD.tw lo))[i]?=some (l[i].tw lo):=aK hlt
   have hbi:=hb.2 _ (Zb hlt)
   have hta:=aY (p:=aD.small 1048576) hlt hs
   generalize l[i]=x at hrow hbi hta
   have hct:=aaC hst lo x lf (by omega) hbi
   unfold aD.tw at hct
   rw[show x.tw lo=[.int .i64 x.owner,.bool x.class_,.str x.selector,.int .i64 x.code] from rfl] at hrow
   repeat' (first|refine W_ ?_|((with_reducible apply aA);rfl;kernel_rfl;(repeat (first|exact az.nil|((with_reducible apply az.cons);rfl)));exact hG;exact hct;exact .nil _;intro y hy;refine bT ?_)|refine c_ (fun hc=>?_) (fun hc=>?_))
   all_goals first
     | exact aw x_ rfl (-1) ⟨by omega,by omega,fun h=>by omega⟩ rfl (.nil R) (.refl _) (.tmp _ _ rfl) rfl
     | exact ah (i+1,y) ⟨by dsimp only;omega,by dsimp only;omega,by dsimp only;omega,hta (hy.2.2 (by omega))⟩ (by dsimp only;omega) (.of _ nw_ od_ pk_)
  ·rw[Zc (by omega)] at hs
   repeat' refine W_ ?_
   exact aw x_ rfl lf ⟨by omega,by omega,fun _=>⟨by omega,hs⟩⟩ rfl (.nil R) (.refl _) (.tmp _ _ rfl) rfl
theorem zY (hst:ay G) (lo:Nat) (x:aD) (hb:x.small 1048576):Ct Tryz.prog G 175 [.agg (x.tw lo)] (fun K=>.agg (x.tw K)):=by
 refine av Tryz.func175 rfl Tryz.ntmps175 rfl rfl fun w0 _ hG=>?_
 unfold aD.small at hb
 skip
 repeat' (first|refine W_ ?_|refine aJ ?_|(refine ak ?_;intro ss bb)|refine ac ?_)
 refine aN x_ rfl (.cell _ _ _ _ _ rfl mm_ (by kernel_rfl) (by kernel_rfl) (by kernel_rfl)) (fun _=>?_)
 exact mH (aD.fin _ _ _ x)
theorem aaj (hst:ay G) (l1 l2:Nat) (x:aD) (hb:x.small 1048576):Ct Tryz.prog G 199 [.agg (x.tw l1),.agg (x.tw l2)] (fun _=>.bool true):=by
 refine av Tryz.func199 rfl Tryz.ntmps199 rfl rfl fun w0 _ hG=>?_
 unfold aD.small at hb
 have hneselector:¬ x.selector≠x.selector:=fun h=>h rfl
 unfold aD.tw
 repeat' (first|refine W_ ?_|refine aJ ?_|refine c_ (fun hc=>?_) (fun hc=>?_))
 all_goals first
   | (exfalso;simp at hc;done)
   | (exact r1_)
theorem xH (hst:ay G) (l1 l2:Nat) (l:List aD) (hb:l.length<=1048576/\∀y∈l,aD.small 1048576 y):Ct Tryz.prog G 119 [.sl l1 4 (l.map (aD.tw l1)),.sl l2 4 (l.map (aD.tw l2))] (fun _=>.bool true):=by
 refine av Tryz.func119 rfl Tryz.ntmps119 rfl rfl fun w0 _ hG=>?_
 have hlen:=aD.len l1 l
 have hlen2:=aD.len l2 l
 have hl1:=hb.1
 repeat' refine W_ ?_
 apply ap (X:=Nat) [0,1] (fun i=>[(5,.int .i64 (i:Int))]) (fun _=>[]) (fun i=>i<=l.length) (fun i=>l.length - i) 0 (Ze _)
 exact kp_;exact nw_
 ·exact .refl _
 intro i hi
 try dsimp only
 by_cases hlt:i<l.length
 ·have hr1:(l.map (aD.tw l1))[i]?=some (l[i].tw l1):=aK hlt
  have hr2:(l.map (aD.tw l2))[i]?=some (l[i].tw l2):=aK hlt
  have hbi:=hb.2 _ (Zb hlt)
  generalize l[i]=x at hr1 hr2 hbi
  have hct:=aaj hst l1 l2 x hbi
  unfold aD.tw at hct
  rw[show x.tw l1=[.int .i64 x.owner,.bool x.class_,.str x.selector,.int .i64 x.code] from rfl] at hr1
  rw[show x.tw l2=[.int .i64 x.owner,.bool x.class_,.str x.selector,.int .i64 x.code] from rfl] at hr2
  repeat' (first|refine V_ ?_|refine ai hG hst (hct) ?_)
  exact ah (i+1) (by omega) (by omega) (.of _ nw_ od_ pk_)
 ·repeat' refine W_ ?_
  exact r1_
end
def aa.tw (lo:Nat) (x:aa):List TV:=[.str x.name,.int .i64 x.parent,.sl lo 1 (ca x.fields)]
def aa.small (n:Nat) (x:aa):Prop:=(x.name.size<=n)/\(x.fields.length<=n/\∀y∈x.fields,ByteArray.size y<=n)
def aa.tz:List TV:=[.str ⟨#[]⟩,.int .i64 0,.nils]
theorem aa.fin (B K:Nat) (objs:aG) (x:aa):jr B objs K (x.tw B) (x.tw K):=.cons (.flat rfl) (.cons (.flat rfl) (.cons (df (fun x=>.cons (.flat rfl) .nil) _) (.nil)))
theorem aa.len (lo:Nat) (l:List aa):(l.map (aa.tw lo)).length=l.length:=by simp
section
variable {G:World->Prop}
theorem ka (hst:ay G) (lo:Nat) (x:aa) (left:Int) (h:0<=left/\left<=1048576) (hb:x.small 9223372036854775807):CtM Tryz.prog G 154 [.agg (x.tw lo),.int .i64 left] [] (fun y:Int=>-1<=y/\y<=left/\(0<=y->x.small 1048576)) (fun _=>[]) (fun y=>.int .i64 y):=by
 refine au Tryz.func154 rfl Tryz.ntmps154 rfl rfl rfl fun w0 R gs objsR hG hR=>?_
 obtain rfl:=hR.inv0
 clear hR
 unfold aa.small at hb
 have hb1:x.name.size<=9223372036854775807:=hb.1
 unfold aa.tw
 repeat' (first|refine W_ ?_|refine aJ ?_|((with_reducible apply aA);rfl;kernel_rfl;(repeat (first|exact az.nil|((with_reducible apply az.cons);rfl)));exact hG;exact mV lo x.fields _ (by omega) hb.2;exact .nil _;intro y2 hy2;refine bT ?_)|refine c_ (fun hc=>?_) (fun hc=>?_))
 all_goals first
   | exact aw x_ rfl (-1) ⟨by omega,by omega,fun h=>by omega⟩ rfl (.nil R) (.refl _) (.tmp _ _ rfl) rfl
   | (refine aw x_ rfl _ ⟨?_, ?_,fun _=>?_⟩ rfl (.nil R) (.refl _) (.tmp _ _ rfl) rfl
      ·omega
      ·omega
      ·exact⟨by omega,hy2.2.2 (by omega)⟩)
theorem pB (hst:ay G) (lo:Nat) (l:List aa) (left:Int) (h:0<=left/\left<=1048576) (hb:l.length<=9223372036854775807/\∀y∈l,aa.small 9223372036854775807 y):CtM Tryz.prog G 66 [.sl lo 3 (l.map (aa.tw lo)),.int .i64 left] [] (fun y:Int=>-1<=y/\y<=left/\(0<=y->l.length<=1048576/\∀y∈l,aa.small 1048576 y)) (fun _=>[]) (fun y=>.int .i64 y):=by
 refine au Tryz.func66 rfl Tryz.ntmps66 rfl rfl rfl fun w0 R gs objsR hG hR=>?_
 obtain rfl:=hR.inv0
 clear hR
 have hlen:=aa.len lo l
 have hl1:=hb.1
 by_cases hn:left - l.length<0
 ·repeat' refine W_ ?_
  exact aw x_ rfl (-1) ⟨by omega,by omega,fun h=>by omega⟩ rfl (.nil R) (.refl _) (.tmp _ _ rfl) rfl
 ·repeat' refine W_ ?_
  apply ap (X:=Nat×Int) [0,1000000] (fun x=>[(5,.int .i64 (x.1:Int)),(1,.int .i64 x.2)]) (fun _=>R) (fun x=>x.1<=l.length/\0<=x.2/\x.2<=left/\∀y∈l.take x.1,aa.small 1048576 y) (fun x=>l.length - x.1) (0,left - l.length) ⟨Ze _,by dsimp only;omega,by dsimp only;omega,by simp⟩
  exact kp_;exact nw_
  ·exact .refl _
  rintro ⟨i,lf⟩ ⟨hi,h0,h1,hs⟩
  dsimp only at hi h0 h1 hs |-
  by_cases hlt:i<l.length
  ·have hrow:(l.map (aa.tw lo))[i]?=some (l[i].tw lo):=aK hlt
   have hbi:=hb.2 _ (Zb hlt)
   have hta:=aY (p:=aa.small 1048576) hlt hs
   generalize l[i]=x at hrow hbi hta
   have hct:=ka hst lo x lf (by omega) hbi
   unfold aa.tw at hct
   rw[show x.tw lo=[.str x.name,.int .i64 x.parent,.sl lo 1 (ca x.fields)] from rfl] at hrow
   repeat' (first|refine W_ ?_|((with_reducible apply aA);rfl;kernel_rfl;(repeat (first|exact az.nil|((with_reducible apply az.cons);rfl)));exact hG;exact hct;exact .nil _;intro y hy;refine bT ?_)|refine c_ (fun hc=>?_) (fun hc=>?_))
   all_goals first
     | exact aw x_ rfl (-1) ⟨by omega,by omega,fun h=>by omega⟩ rfl (.nil R) (.refl _) (.tmp _ _ rfl) rfl
     | exact ah (i+1,y) ⟨by dsimp only;omega,by dsimp only;omega,by dsimp only;omega,hta (hy.2.2 (by omega))⟩ (by dsimp only;omega) (.of _ nw_ od_ pk_)
  ·rw[Zc (by omega)] at hs
   repeat' refine W_ ?_
   exact aw x_ rfl lf ⟨by omega,by omega,fun _=>⟨by omega,hs⟩⟩ rfl (.nil R) (.refl _) (.tmp _ _ rfl) rfl
theorem qq (hst:ay G) (l1 l2:Nat) (x:aa) (hb:x.small 1048576):Ct Tryz.prog G 197 [.agg (x.tw l1),.agg (x.tw l2)] (fun _=>.bool true):=by
 refine av Tryz.func197 rfl Tryz.ntmps197 rfl rfl fun w0 _ hG=>?_
 unfold aa.small at hb
 have hsfields:=(hb.2).1
 have hnename:¬ x.name≠x.name:=fun h=>h rfl
 unfold aa.tw
 repeat' (first|refine W_ ?_|refine aJ ?_|refine ae hG hst (mU l1 l2 x.fields hsfields) ?_)
 all_goals first
   | (exfalso;simp at hc;done)
   | (exact r1_)
theorem jF (hst:ay G) (l1 l2:Nat) (l:List aa) (hb:l.length<=1048576/\∀y∈l,aa.small 1048576 y):Ct Tryz.prog G 117 [.sl l1 3 (l.map (aa.tw l1)),.sl l2 3 (l.map (aa.tw l2))] (fun _=>.bool true):=by
 refine av Tryz.func117 rfl Tryz.ntmps117 rfl rfl fun w0 _ hG=>?_
 have hlen:=aa.len l1 l
 have hlen2:=aa.len l2 l
 have hl1:=hb.1
 repeat' refine W_ ?_
 apply ap (X:=Nat) [0,1] (fun i=>[(5,.int .i64 (i:Int))]) (fun _=>[]) (fun i=>i<=l.length) (fun i=>l.length - i) 0 (Ze _)
 exact kp_;exact nw_
 ·exact .refl _
 intro i hi
 try dsimp only
 by_cases hlt:i<l.length
 ·have hr1:(l.map (aa.tw l1))[i]?=some (l[i].tw l1):=aK hlt
  have hr2:(l.map (aa.tw l2))[i]?=some (l[i].tw l2):=aK hlt
  have hbi:=hb.2 _ (Zb hlt)
  generalize l[i]=x at hr1 hr2 hbi
  have hct:=qq hst l1 l2 x hbi
  unfold aa.tw at hct
  rw[show x.tw l1=[.str x.name,.int .i64 x.parent,.sl l1 1 (ca x.fields)] from rfl] at hr1
  rw[show x.tw l2=[.str x.name,.int .i64 x.parent,.sl l2 1 (ca x.fields)] from rfl] at hr2
  repeat' (first|refine V_ ?_|refine ai hG hst (hct) ?_)
  exact ah (i+1) (by omega) (by omega) (.of _ nw_ od_ pk_)
 ·repeat' refine W_ ?_
  exact r1_
end
def aF.tw (lo:Nat) (x:aF):List TV:=[.sl lo 3 (x.classes.map (aa.tw lo)),.sl lo 4 (x.codes.map (aB.tw lo)),.sl lo 4 (x.entries.map (aD.tw lo)),.int .i64 x.main]
def aF.small (n:Nat) (x:aF):Prop:=(x.classes.length<=n/\∀y∈x.classes,aa.small n y)/\(x.codes.length<=n/\∀y∈x.codes,aB.small n y)/\(x.entries.length<=n/\∀y∈x.entries,aD.small n y)
def aF.tz:List TV:=[.nils,.nils,.nils,.int .i64 0]
theorem aF.fin (B K:Nat) (objs:aG) (x:aF):jr B objs K (x.tw B) (x.tw K):=.cons (df (fun x=>aa.fin B K objs x) _) (.cons (df (fun x=>aB.fin B K objs x) _) (.cons (df (fun x=>aD.fin B K objs x) _) (.cons (.flat rfl) (.nil))))
theorem aF.len (lo:Nat) (l:List aF):(l.map (aF.tw lo)).length=l.length:=by simp
section
variable {G:World->Prop}
theorem sj (hst:ay G) (l1 l2:Nat) (x:aF) (hb:x.small 1048576):Ct Tryz.prog G 37 [.agg (x.tw l1),.agg (x.tw l2)] (fun _=>.bool true):=by
 refine av Tryz.func37 rfl Tryz.ntmps37 rfl rfl fun w0 _ hG=>?_
 unfold aF.small at hb
 have hsclasses:=hb.1
 have hscodes:=hb.2.1
 have hsentries:=hb.2.2
 unfold aF.tw
 repeat' (first|refine W_ ?_|refine aJ ?_|refine ae hG hst (jF hst l1 l2 x.classes hsclasses) ?_|refine ae hG hst (zI hst l1 l2 x.codes hscodes) ?_|refine ae hG hst (xH hst l1 l2 x.entries hsentries) ?_)
 all_goals first
   | (exfalso;simp at hc;done)
   | (exact r1_)
end
def fV.tw (lo:Nat) (x:fV):List TV:=[.int .i64 x.code,.int .i64 x.at_,.int .i64 x.kind]
def fV.small (n:Nat) (x:fV):Prop:=True
def fV.tz:List TV:=[.int .i64 0,.int .i64 0,.int .i64 0]
theorem fV.fin (B K:Nat) (objs:aG) (x:fV):jr B objs K (x.tw B) (x.tw K):=.cons (.flat rfl) (.cons (.flat rfl) (.cons (.flat rfl) (.nil)))
theorem fV.len (lo:Nat) (l:List fV):(l.map (fV.tw lo)).length=l.length:=by simp
section
variable {G:World->Prop}
end
def bY:List aa:=[⟨⟨#[79,98,106,101,99,116]⟩,-1,[]⟩,⟨⟨#[69,120,99,101,112,116,105,111,110]⟩,0,[⟨#[116,101,120,116]⟩]⟩,⟨⟨#[69,114,114,111,114]⟩,1,[⟨#[116,101,120,116]⟩]⟩,⟨⟨#[77,101,115,115,97,103,101,78,111,116,85,110,100,101,114,115,116,111,111,100]⟩,2,[⟨#[116,101,120,116]⟩]⟩,⟨⟨#[90,101,114,111,68,105,118,105,100,101]⟩,2,[⟨#[116,101,120,116]⟩]⟩,⟨⟨#[73,110,116,101,103,101,114]⟩,0,[]⟩,⟨⟨#[66,111,111,108,101,97,110]⟩,0,[]⟩,⟨⟨#[78,105,108]⟩,0,[]⟩,⟨⟨#[83,116,114,105,110,103]⟩,0,[]⟩,⟨⟨#[83,121,109,98,111,108]⟩,0,[]⟩,⟨⟨#[65,114,114,97,121]⟩,0,[]⟩,⟨⟨#[66,108,111,99,107]⟩,0,[]⟩,⟨⟨#[83,101,109,97,112,104,111,114,101]⟩,0,[]⟩,⟨⟨#[80,114,111,99,101,115,115]⟩,0,[]⟩,⟨⟨#[84,114,97,110,115,99,114,105,112,116]⟩,0,[]⟩,⟨⟨#[67,108,97,115,115]⟩,0,[]⟩]
def de:List ByteArray:=[⟨#[79,98,106,101,99,116]⟩,⟨#[69,120,99,101,112,116,105,111,110]⟩,⟨#[69,114,114,111,114]⟩,⟨#[77,101,115,115,97,103,101,78,111,116,85,110,100,101,114,115,116,111,111,100]⟩,⟨#[90,101,114,111,68,105,118,105,100,101]⟩,⟨#[73,110,116,101,103,101,114]⟩,⟨#[66,111,111,108,101,97,110]⟩,⟨#[78,105,108]⟩,⟨#[83,116,114,105,110,103]⟩,⟨#[83,121,109,98,111,108]⟩,⟨#[65,114,114,97,121]⟩,⟨#[66,108,111,99,107]⟩,⟨#[83,101,109,97,112,104,111,114,101]⟩,⟨#[80,114,111,99,101,115,115]⟩,⟨#[84,114,97,110,115,99,114,105,112,116]⟩,⟨#[67,108,97,115,115]⟩]
def jg (k:Int):List ByteArray:=if k=1\/k=2\/k=3\/k=4 then [⟨#[116,101,120,116]⟩] else []
def xO:List (List TV):=[[TV.int .i64 (-1)],[TV.int .i64 0],[TV.int .i64 1],[TV.int .i64 2],[TV.int .i64 2],[TV.int .i64 0],[TV.int .i64 0],[TV.int .i64 0],[TV.int .i64 0],[TV.int .i64 0],[TV.int .i64 0],[TV.int .i64 0],[TV.int .i64 0],[TV.int .i64 0],[TV.int .i64 0],[TV.int .i64 0]]
theorem gB:bY.length=16:=rfl
theorem j1 {i:Nat} (h:i<16):∃x,bY[i]?=some x/\(ca de)[i]?=some [.str x.name]/\xO[i]?=some [.int .i64 x.parent]/\jg (i:Int)=x.fields/\bY.take (i+1)=bY.take i++[x]:=by
 match i,h with
 | 0,_=>exact⟨_,rfl,rfl,rfl,rfl,rfl⟩
 | 1,_=>exact⟨_,rfl,rfl,rfl,rfl,rfl⟩
 | 2,_=>exact⟨_,rfl,rfl,rfl,rfl,rfl⟩
 | 3,_=>exact⟨_,rfl,rfl,rfl,rfl,rfl⟩
 | 4,_=>exact⟨_,rfl,rfl,rfl,rfl,rfl⟩
 | 5,_=>exact⟨_,rfl,rfl,rfl,rfl,rfl⟩
 | 6,_=>exact⟨_,rfl,rfl,rfl,rfl,rfl⟩
 | 7,_=>exact⟨_,rfl,rfl,rfl,rfl,rfl⟩
 | 8,_=>exact⟨_,rfl,rfl,rfl,rfl,rfl⟩
 | 9,_=>exact⟨_,rfl,rfl,rfl,rfl,rfl⟩
 | 10,_=>exact⟨_,rfl,rfl,rfl,rfl,rfl⟩
 | 11,_=>exact⟨_,rfl,rfl,rfl,rfl,rfl⟩
 | 12,_=>exact⟨_,rfl,rfl,rfl,rfl,rfl⟩
 | 13,_=>exact⟨_,rfl,rfl,rfl,rfl,rfl⟩
 | 14,_=>exact⟨_,rfl,rfl,rfl,rfl,rfl⟩
 | 15,_=>exact⟨_,rfl,rfl,rfl,rfl,rfl⟩
 | n+16,h=>omega
section
variable {G:World->Prop}
theorem qz:Ct Tryz.prog G 266 [] (fun K=>.sl K 1 (ca de)):=by
 refine av Tryz.func266 rfl Tryz.ntmps266 rfl rfl fun w0 _ hG=>?_
 repeat' (first|refine W_ ?_|refine ef ?_)
 refine aN (r1:=.tmp 0) (t1:=.sl w0.heap.size 1 (ca de)) (.inr rfl) rfl (.tmp _ _ rfl) (fun _=>?_)
 exact df (f:=fun s:ByteArray=>[TV.str s]) (f':=fun s:ByteArray=>[TV.str s]) (fun x=>.cons (.flat rfl) .nil) de
theorem qy:Ct Tryz.prog G 276 [] (fun K=>.sl K 1 (ca de)):=by
 refine av Tryz.func276 rfl Tryz.ntmps276 rfl rfl fun w0 _ hG=>?_
 repeat' (first|refine W_ ?_|refine ef ?_)
 refine aN (r1:=.tmp 0) (t1:=.sl w0.heap.size 1 (ca de)) (.inr rfl) rfl (.tmp _ _ rfl) (fun _=>?_)
 exact df (f:=fun s:ByteArray=>[TV.str s]) (f':=fun s:ByteArray=>[TV.str s]) (fun x=>.cons (.flat rfl) .nil) de
theorem vT (tu:TV) (k:Int) (h:k<16):Ct Tryz.prog G 267 [tu,.int .i64 k] (fun K=>.sl K 1 (ca (jg k))):=by
 refine av Tryz.func267 rfl Tryz.ntmps267 rfl rfl fun w0 _ hG=>?_
 by_cases hk:k=1\/k=2\/k=3\/k=4
 ·rw[show jg k=[⟨#[116,101,120,116]⟩] from if_pos hk]
  repeat' (first|refine W_ ?_|refine ef ?_|refine g_ (fun hg=>?_) (fun hg=>?_))
  all_goals first
    | (exfalso;omega)
    | (refine aN x_ rfl (.tmp _ _ rfl) (fun _=>?_)
       exact df (f:=fun s:ByteArray=>[TV.str s]) (f':=fun s:ByteArray=>[TV.str s]) (fun x=>.cons (.flat rfl) .nil) [⟨#[116,101,120,116]⟩])
 ·rw[show jg k=[] from if_neg hk]
  repeat' (first|refine W_ ?_|refine ef ?_)
  all_goals first
    | (exfalso;omega)
    | (refine aN x_ rfl (.tmp _ _ rfl) (fun _=>?_)
       exact df (f:=fun s:ByteArray=>[TV.str s]) (f':=fun s:ByteArray=>[TV.str s]) (fun x=>.cons (.flat rfl) .nil) [])
theorem aar (hst:ay G) (rest:List TV):Ct Tryz.prog G 220 [.cp 0 (.nils::rest)] (fun K=>.sl K 3 (bY.map (aa.tw K))):=by
 refine av Tryz.func220 rfl Tryz.ntmps220 rfl rfl fun w0 _ hG=>?_
 repeat' (first|refine H_ 3 ?_|refine ae hG hst (qz) ?_|(refine jz ?_;intro ss bb))
 refine⟨?_⟩
 repeat' (first|refine W_ ?_|refine ef ?_)
 apply ap (X:=Nat×Nat) [0,4,5] (fun x=>[(6,.int .i64 (x.1:Int)),(3,.ms ss x.2 0 x.1)]) (fun x=>[(ss,x.2,.row 3 ((bY.take x.1).map (aa.tw w0.heap.size)))]) (fun x=>x.1<=16) (fun x=>16 - x.1) (0,bb) (Ze _)
 exact kp_;exact nw_
 ·exact .refl _
 rintro ⟨i,b⟩ hi
 dsimp only at hi |-
 by_cases hlt:i<16
 ·obtain⟨x,hx,h1,h2,h3,h4⟩:=j1 hlt
  unfold xO at h2
  have hle:((bY.take i).map (aa.tw w0.heap.size)).length=i:=by rw[Zf,Zu,gB];omega
  repeat' (first|refine W_ ?_|(with_reducible apply dh (id:=7) 14;kernel_rfl;kernel_rfl;kernel_rfl;(repeat (first|exact Cut.zero _|apply Cut.succ)))|with_reducible refine dB (by kernel_rfl) (by kernel_rfl) ?_|with_reducible refine eV ?_|with_reducible refine dz ?_|with_reducible refine dC rfl ?_|refine eS rfl rfl rfl rr_ ?_|refine dx rfl rfl rfl rr_ rfl rfl rfl ?_|refine cG rfl rfl rfl rr_ rfl rfl ?_|(refine iH rfl rfl rfl rr_ dd_ ?_)|(refine ir rfl rfl rfl rr_ dd_ ?_)|(refine bX rfl rfl rfl rr_ (fun hg=>?_) (fun hg=>?_))|(refine bF rfl rfl rfl rr_ (fun hg=>?_) (fun hg=>?_))|((with_reducible apply d_y);exact y_;rfl)|((with_reducible apply aed);rfl;kernel_rfl;(repeat (first|exact bU.nil|((with_reducible apply bU.cons);rfl;exact .same _)));exact hG;exact hst;exact vT _ _ (by omega))|refine acO ?_|refine ag7 ?_|(refine vy ?_;intro bb))
  have hrow:(bY.take i).map (aa.tw w0.heap.size)++[[TV.str x.name,.int .i64 x.parent,.sl w0.heap.size 1 (ca (jg i))]]=(bY.take (i+1)).map (aa.tw w0.heap.size):=by
    rw[h4,h3,YG];rfl
  rw[hrow]
  exact ah (i+1,bb) (by dsimp only;omega) (by dsimp only;omega) (.of _ nw_ od_ pk_)
 ·obtain rfl:i=16:=by omega
  repeat' refine W_ ?_
  apply ap (X:=Unit) [0,3] (fun _=>[(7,.int .i64 0)]) (fun _=>[(ss,b,.row 3 (bY.map (aa.tw w0.heap.size)))]) (fun _=>True) (fun _=>0) () trivial
  exact kp_;exact nw_
  ·exact .refl _
  rintro _ -
  repeat' refine W_ ?_
  refine aN x_ rfl (.tmp _ _ rfl) (fun _=>?_)
  exact abw (fun x=>aa.fin _ _ _ x) Zi
end
def nR {α:Type} (mk:α->Nat×Nat->List TV) (l:List α) (ps:List (Nat×Nat)):List (List TV):=List.zipWith mk l ps
def nO {α:Type} (ob:α->aV) (l:List α) (ps:List (Nat×Nat)):aG:=List.zipWith (fun x p=>(p.1,p.2,ob x)) l ps
theorem ni {α:Type} (mk:α->Nat×Nat->List TV) {l:List α} {ps:List (Nat×Nat)} (h:ps.length=l.length):(nR mk l ps).length=l.length:=by simp[nR,h]
theorem ek {α:Type} {l:List α} {i:Nat} (h:i<l.length):l.take (i+1)=l.take i++[l[i]]:=by rw[Ye,Za h];rfl
theorem lX {α:Type} (ob:α->aV) {l:List α} {ps:List (Nat×Nat)} {i:Nat} (h:i<l.length) (hp:ps.length=i) (p:Nat×Nat):nO ob (l.take (i+1)) (ps++[p])=nO ob (l.take i) ps++[(p.1,p.2,ob l[i])]:=by
 unfold nO
 rw[ek h,Yv (by simp;omega)];rfl
theorem aes {α:Type} (mk:α->Nat×Nat->List TV) (z:List TV) {l:List α} {ps:List (Nat×Nat)} {i:Nat} (h:i<l.length) (hp:ps.length=i) (p:Nat×Nat) :
   (nR mk (l.take i) ps++List.replicate (l.length - i) z)[i]?=some z/\(nR mk (l.take i) ps++List.replicate (l.length - i) z).set i (mk l[i] p)=nR mk (l.take (i+1)) (ps++[p])++List.replicate (l.length - (i+1)) z:=by
 have hl:(nR mk (l.take i) ps).length=i:=by simp[nR];omega
 have e:l.length - i=(l.length - (i+1))+1:=by omega
 refine⟨?_, ?_⟩
 ·rw[Zr (by omega),hl,Yt,e,Z8];rfl
 ·rw[Yw _ _ (by omega),hl,Yt,e,Z8,Xd]
  unfold nR
  rw[ek h,Yv (by simp;omega),Zk];rfl
theorem lJ (a z:Nat×Nat×aV) (T R:aG):bS (a::((T++[z])++R)) (z::a::(T++R)):=.perm (by
 have h:((T++[z])++R).Perm (z::(T++R)):=by rw[Zk];exact Z4
 exact(h.cons a).trans (List.Perm.swap z a _))
def fq (x:aa) (p:Nat×Nat):List TV:=[.str x.name,.int .i64 x.parent,.ms p.1 p.2 0 x.fields.length]
def gw (x:aa):aV:=.row 1 (ca x.fields)
def cT (x:aB) (p:Nat×Nat):List TV:=[.bool x.block,.int .i64 x.params,.int .i64 x.slots,.ms p.1 p.2 0 x.instrs.length]
def fu (x:aB):aV:=.row 4 (x.instrs.map (am.tw 0))
section
variable {G:World->Prop}
theorem lN (hst:ay G) (lo:Nat) (l:List ByteArray) (hn:l.length<=1048576):CtM Tryz.prog G 95 [.sl lo 1 (ca l)] [] (fun _:Nat×Nat=>True) (fun y=>[(y.1,y.2,.row 1 (ca l))]) (fun y=>.ms y.1 y.2 0 l.length):=by
 refine au Tryz.func95 rfl Tryz.ntmps95 rfl rfl rfl fun w0 R gs objsR hG hR=>?_
 obtain rfl:=hR.inv0
 clear hR
 have hlen:=cg l
 have h0:=fC (fun s:ByteArray=>[TV.str s]) [.str ⟨#[]⟩] l
 repeat' (first|refine W_ ?_|(refine gK ?_;intro ss bb))
 generalize ss=so;generalize bb=bo
 apply ap (X:=Nat) [0,3,1000000] (fun i=>[(4,.int .i64 (i:Int))]) (fun i=>(so,bo,.row 1 (iy (fun s:ByteArray=>[TV.str s]) [.str ⟨#[]⟩] l i))::R) (fun i=>i<=l.length) (fun i=>l.length - i) 0 (Ze _)
 exact kp_;exact nw_
 ·rw[<- h0];exact .refl _
 intro i hi
 try dsimp only
 by_cases hlt:i<l.length
 ·obtain⟨hrow,hset⟩:=gJ (fun s:ByteArray=>[TV.str s]) [.str ⟨#[]⟩] hlt
  have hra:=e9 hlt
  generalize l[i]=x at hset hra
  try dsimp only at hset
  repeat' (first|refine W_ ?_|refine bD ?_)
  refine ah (i+1) (by omega) (by omega) (.of _ nw_ od_ (by rw[<- hset];exact .refl _))
 ·obtain rfl:i=l.length:=by omega
  rw[fI]
  repeat' refine W_ ?_
  exact aw x_ rfl (so,bo) trivial rfl (.cons _ _ _ _ (.nil R)) pk_ (.tmp _ _ rfl) rfl
theorem tJ (hst:ay G) (lo:Nat) (l:List am) (hb:l.length<=1048576/\∀y∈l,am.small 1048576 y):CtM Tryz.prog G 236 [.sl lo 4 (l.map (am.tw lo))] [] (fun _:Nat×Nat=>True) (fun y=>[(y.1,y.2,.row 4 (l.map (am.tw 0)))]) (fun y=>.ms y.1 y.2 0 l.length):=by
 refine au Tryz.func236 rfl Tryz.ntmps236 rfl rfl rfl fun w0 R gs objsR hG hR=>?_
 obtain rfl:=hR.inv0
 clear hR
 have hlen:=am.len lo l
 have hl1:=hb.1
 have h0:=fC (am.tw 0) am.tz l
 repeat' (first|refine W_ ?_|(refine gK ?_;intro ss bb))
 generalize ss=so;generalize bb=bo
 apply ap (X:=Nat) [0,3,1000000] (fun i=>[(4,.int .i64 (i:Int))]) (fun i=>(so,bo,.row 4 (iy (am.tw 0) am.tz l i))::R) (fun i=>i<=l.length) (fun i=>l.length - i) 0 (Ze _)
 exact kp_;exact nw_
 ·rw[<- h0];exact .refl _
 intro i hi
 try dsimp only
 by_cases hlt:i<l.length
 ·obtain⟨hrow,hset⟩:=gJ (am.tw 0) am.tz hlt
  have hra:(l.map (am.tw lo))[i]?=some (l[i].tw lo):=aK hlt
  have hbi:=hb.2 _ (Zb hlt)
  generalize l[i]=x at hset hra hbi
  have hct:=aag hst lo x hbi
  unfold am.tw at hct
  rw[show x.tw lo=[.int .i64 x.op,.int .i64 x.a,.int .i64 x.b,.str x.text] from rfl] at hra
  replace hrow:(iy (am.tw 0) am.tz l i)[i]?=some [.int .i64 0,.int .i64 0,.int .i64 0,.str ⟨#[]⟩]:=hrow
  repeat' (first|refine W_ ?_|refine ae hG hst (hct) ?_|refine bD ?_)
  refine ah (i+1) (by omega) (by omega) (.of _ nw_ od_ (by rw[<- hset];exact .refl _))
 ·obtain rfl:i=l.length:=by omega
  rw[fI]
  repeat' refine W_ ?_
  exact aw x_ rfl (so,bo) trivial rfl (.cons _ _ _ _ (.nil R)) pk_ (.tmp _ _ rfl) rfl
theorem vu (hst:ay G) (lo:Nat) (l:List aD) (hb:l.length<=1048576/\∀y∈l,aD.small 1048576 y):CtM Tryz.prog G 93 [.sl lo 4 (l.map (aD.tw lo))] [] (fun _:Nat×Nat=>True) (fun y=>[(y.1,y.2,.row 4 (l.map (aD.tw 0)))]) (fun y=>.ms y.1 y.2 0 l.length):=by
 refine au Tryz.func93 rfl Tryz.ntmps93 rfl rfl rfl fun w0 R gs objsR hG hR=>?_
 obtain rfl:=hR.inv0
 clear hR
 have hlen:=aD.len lo l
 have hl1:=hb.1
 have h0:=fC (aD.tw 0) aD.tz l
 repeat' (first|refine W_ ?_|(refine gK ?_;intro ss bb))
 generalize ss=so;generalize bb=bo
 apply ap (X:=Nat) [0,3,1000000] (fun i=>[(4,.int .i64 (i:Int))]) (fun i=>(so,bo,.row 4 (iy (aD.tw 0) aD.tz l i))::R) (fun i=>i<=l.length) (fun i=>l.length - i) 0 (Ze _)
 exact kp_;exact nw_
 ·rw[<- h0];exact .refl _
 intro i hi
 try dsimp only
 by_cases hlt:i<l.length
 ·obtain⟨hrow,hset⟩:=gJ (aD.tw 0) aD.tz hlt
  have hra:(l.map (aD.tw lo))[i]?=some (l[i].tw lo):=aK hlt
  have hbi:=hb.2 _ (Zb hlt)
  generalize l[i]=x at hset hra hbi
  have hct:=zY hst lo x hbi
  unfold aD.tw at hct
  rw[show x.tw lo=[.int .i64 x.owner,.bool x.class_,.str x.selector,.int .i64 x.code] from rfl] at hra
  replace hrow:(iy (aD.tw 0) aD.tz l i)[i]?=some [.int .i64 0,.bool false,.str ⟨#[]⟩,.int .i64 0]:=hrow
  repeat' (first|refine W_ ?_|refine ae hG hst (hct) ?_|refine bD ?_)
  refine ah (i+1) (by omega) (by omega) (.of _ nw_ od_ (by rw[<- hset];exact .refl _))
 ·obtain rfl:i=l.length:=by omega
  rw[fI]
  repeat' refine W_ ?_
  exact aw x_ rfl (so,bo) trivial rfl (.cons _ _ _ _ (.nil R)) pk_ (.tmp _ _ rfl) rfl
theorem o8 (hst:ay G) (lo:Nat) (x:aa) (hb:x.small 1048576):CtM Tryz.prog G 173 [.agg [.str x.name,.int .i64 x.parent,.sl lo 1 (ca x.fields)]] [] (fun _:Nat×Nat=>True) (fun y=>[(y.1,y.2,.row 1 (ca x.fields))]) (fun y=>.agg [.str x.name,.int .i64 x.parent,.ms y.1 y.2 0 x.fields.length]):=by
 refine au Tryz.func173 rfl Tryz.ntmps173 rfl rfl rfl fun w0 R gs objsR hG hR=>?_
 obtain rfl:=hR.inv0
 clear hR
 have hin:=lN hst lo x.fields hb.2.1
 repeat' (first|refine W_ ?_|refine aJ ?_|(refine ak ?_;intro ss bb)|refine ac ?_|((with_reducible apply aA);rfl;kernel_rfl;(repeat (first|exact az.nil|((with_reducible apply az.cons);rfl)));exact hG;exact hin;exact .nil _;intro y hy;refine bO ?_))
 refine aw x_ rfl y trivial rfl (.cons _ _ _ _ (.nil R)) pk_ (.cell _ _ _ _ _ rfl mm_ (by kernel_rfl) (by kernel_rfl) (by kernel_rfl)) rfl
theorem jk (hst:ay G) (lo:Nat) (l:List aa) (hb:l.length<=1048576/\∀y∈l,aa.small 1048576 y):CtM Tryz.prog G 91 [.sl lo 3 (l.map (aa.tw lo))] [] (fun y:(Nat×Nat)×List (Nat×Nat)=>y.2.length=l.length) (fun y=>(y.1.1,y.1.2,.row 3 (nR fq l y.2))::nO gw l y.2) (fun y=>.ms y.1.1 y.1.2 0 l.length):=by
 refine au Tryz.func91 rfl Tryz.ntmps91 rfl rfl rfl fun w0 R gs objsR hG hR=>?_
 obtain rfl:=hR.inv0
 clear hR
 have hlen:=aa.len lo l
 have hl1:=hb.1
 have h0:List.replicate l.length aa.tz=nR fq (l.take 0) []++List.replicate (l.length - 0) aa.tz:=by simp[nR]
 repeat' (first|refine W_ ?_|(refine gK ?_;intro ss bb))
 generalize ss=so;generalize bb=bo
 apply ap (X:=Nat×List (Nat×Nat)) [0,3,1000000] (fun x=>[(4,.int .i64 (x.1:Int))]) (fun x=>(so,bo,.row 3 (nR fq (l.take x.1) x.2++List.replicate (l.length - x.1) aa.tz))::(nO gw (l.take x.1) x.2++R)) (fun x=>x.1<=l.length/\x.2.length=x.1) (fun x=>l.length - x.1) (0,[]) ⟨Ze _,rfl⟩
 exact kp_;exact nw_
 ·rw[<- h0];exact .refl _
 rintro ⟨i,ps⟩ ⟨hi,hps⟩
 dsimp only at hi hps |-
 by_cases hlt:i<l.length
 ·have hrs:=fun p=>aes fq aa.tz hlt hps p
  have hos:=fun p=>lX gw hlt hps p
  have hra:(l.map (aa.tw lo))[i]?=some (l[i].tw lo):=aK hlt
  have hbi:=hb.2 _ (Zb hlt)
  generalize l[i]=x at hrs hos hra hbi
  have hct:=o8 hst lo x hbi
  rw[show x.tw lo=[.str x.name,.int .i64 x.parent,.sl lo 1 (ca x.fields)] from rfl] at hra
  have hrow:(nR fq (l.take i) ps++List.replicate (l.length - i) aa.tz)[i]?=some [.str ⟨#[]⟩,.int .i64 0,.nils]:=(hrs (0,0)).1
  generalize nO gw (l.take i) ps=T at hos |-
  repeat' (first|refine W_ ?_|((with_reducible apply aA);rfl;kernel_rfl;(repeat (first|exact az.nil|((with_reducible apply az.cons);rfl)));exact hG;exact hct;exact .nil _;intro y hy;refine bO ?_)|refine bD ?_)
  refine ah (i+1,ps++[y]) ⟨by dsimp only;omega,by dsimp only;simp[hps]⟩ (by dsimp only;omega) (.of _ nw_ od_ ?_)
  dsimp only
  rw[hos y,<- (hrs y).2]
  exact lJ _ _ T R
 ·obtain rfl:i=l.length:=by omega
  rw[Zc (Zg _),Yt,YZ,Zt]
  repeat' refine W_ ?_
  exact aw x_ rfl ((so,bo),ps) hps rfl (.cons _ _ _ _ (.app _ R)) (.refl _) (.tmp _ _ rfl) rfl
theorem zF (hst:ay G) (lo:Nat) (x:aB) (hb:x.small 1048576):CtM Tryz.prog G 174 [.agg [.bool x.block,.int .i64 x.params,.int .i64 x.slots,.sl lo 4 (x.instrs.map (am.tw lo))]] [] (fun _:Nat×Nat=>True) (fun y=>[(y.1,y.2,.row 4 (x.instrs.map (am.tw 0)))]) (fun y=>.agg [.bool x.block,.int .i64 x.params,.int .i64 x.slots,.ms y.1 y.2 0 x.instrs.length]):=by
 refine au Tryz.func174 rfl Tryz.ntmps174 rfl rfl rfl fun w0 R gs objsR hG hR=>?_
 obtain rfl:=hR.inv0
 clear hR
 have hin:=tJ hst lo x.instrs hb
 repeat' (first|refine W_ ?_|refine aJ ?_|(refine ak ?_;intro ss bb)|refine ac ?_|((with_reducible apply aA);rfl;kernel_rfl;(repeat (first|exact az.nil|((with_reducible apply az.cons);rfl)));exact hG;exact hin;exact .nil _;intro y hy;refine bO ?_))
 refine aw x_ rfl y trivial rfl (.cons _ _ _ _ (.nil R)) pk_ (.cell _ _ _ _ _ rfl mm_ (by kernel_rfl) (by kernel_rfl) (by kernel_rfl)) rfl
theorem wm (hst:ay G) (lo:Nat) (l:List aB) (hb:l.length<=1048576/\∀y∈l,aB.small 1048576 y):CtM Tryz.prog G 92 [.sl lo 4 (l.map (aB.tw lo))] [] (fun y:(Nat×Nat)×List (Nat×Nat)=>y.2.length=l.length) (fun y=>(y.1.1,y.1.2,.row 4 (nR cT l y.2))::nO fu l y.2) (fun y=>.ms y.1.1 y.1.2 0 l.length):=by
 refine au Tryz.func92 rfl Tryz.ntmps92 rfl rfl rfl fun w0 R gs objsR hG hR=>?_
 obtain rfl:=hR.inv0
 clear hR
 have hlen:=aB.len lo l
 have hl1:=hb.1
 have h0:List.replicate l.length aB.tz=nR cT (l.take 0) []++List.replicate (l.length - 0) aB.tz:=by simp[nR]
 repeat' (first|refine W_ ?_|(refine gK ?_;intro ss bb))
 generalize ss=so;generalize bb=bo
 apply ap (X:=Nat×List (Nat×Nat)) [0,3,1000000] (fun x=>[(4,.int .i64 (x.1:Int))]) (fun x=>(so,bo,.row 4 (nR cT (l.take x.1) x.2++List.replicate (l.length - x.1) aB.tz))::(nO fu (l.take x.1) x.2++R)) (fun x=>x.1<=l.length/\x.2.length=x.1) (fun x=>l.length - x.1) (0,[]) ⟨Ze _,rfl⟩
 exact kp_;exact nw_
 ·rw[<- h0];exact .refl _
 rintro ⟨i,ps⟩ ⟨hi,hps⟩
 dsimp only at hi hps |-
 by_cases hlt:i<l.length
 ·have hrs:=fun p=>aes cT aB.tz hlt hps p
  have hos:=fun p=>lX fu hlt hps p
  have hra:(l.map (aB.tw lo))[i]?=some (l[i].tw lo):=aK hlt
  have hbi:=hb.2 _ (Zb hlt)
  generalize l[i]=x at hrs hos hra hbi
  have hct:=zF hst lo x hbi
  rw[show x.tw lo=[.bool x.block,.int .i64 x.params,.int .i64 x.slots,.sl lo 4 (x.instrs.map (am.tw lo))] from rfl] at hra
  have hrow:(nR cT (l.take i) ps++List.replicate (l.length - i) aB.tz)[i]?=some [.bool false,.int .i64 0,.int .i64 0,.nils]:=(hrs (0,0)).1
  generalize nO fu (l.take i) ps=T at hos |-
  repeat' (first|refine W_ ?_|((with_reducible apply aA);rfl;kernel_rfl;(repeat (first|exact az.nil|((with_reducible apply az.cons);rfl)));exact hG;exact hct;exact .nil _;intro y hy;refine bO ?_)|refine bD ?_)
  refine ah (i+1,ps++[y]) ⟨by dsimp only;omega,by dsimp only;simp[hps]⟩ (by dsimp only;omega) (.of _ nw_ od_ ?_)
  dsimp only
  rw[hos y,<- (hrs y).2]
  exact lJ _ _ T R
 ·obtain rfl:i=l.length:=by omega
  rw[Zc (Zg _),Yt,YZ,Zt]
  repeat' refine W_ ?_
  exact aw x_ rfl ((so,bo),ps) hps rfl (.cons _ _ _ _ (.app _ R)) (.refl _) (.tmp _ _ rfl) rfl
end
end Go.Proofs.YtifcomgnmokimaaGreatDoor
