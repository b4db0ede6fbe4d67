/- Part 8 of the proof: the texts TvA, LwT, IvA, NeA. -/
import Derived.Test.YtofnnnpahglfdaaGreatDoorCo3
import Derived.Test.YtofnnnpahglfdaaGreatDoorCo4
import Derived.Test.YtofnnnpahglfdaaGreatDoorCo2
set_option linter.all false
set_option maxHeartbeats 2000000
set_option maxRecDepth 20000
namespace Go.Proofs.YtofnnnpahglfdaaGreatDoor
open Go Go.RowKit
mutual
def PT.tvs:PT->List TV
 | .int k n=>[.int k n]
 | .bool b=>[.bool b]
 | .str s=>[.str s]
 | .agg l=>PT.tvsL l
 | .sl _ _ m l=>[.sl 0 m (PT.rowsL l)]
def PT.tvsL:List PT->List TV
 | []=>[]
 | t::r=>PT.tvs t++PT.tvsL r
def PT.rowsL:List PT->List (List TV)
 | []=>[]
 | t::r=>PT.tvs t::PT.rowsL r
end
theorem PT.rowsL_map (l:List PT):PT.rowsL l=l.map PT.tvs:=by
 induction l with
 | nil=>rfl
 | cons t r ih=>simp[PT.rowsL,ih]
theorem PT.rows_flat (l:List PT):(PT.rowsL l).flatten=PT.tvsL l:=by
 induction l with
 | nil=>rfl
 | cons t r ih=>simp[PT.rowsL,PT.tvsL,ih]
def aee (w:World) (ts:List TV) (vs:List Value):Prop:=ts.length=vs.length/\(∀t∈ts,t.isCell=true)/\∀(i:Nat) (t:TV) (v:Value),ts[i]?=some t->vs[i]?=some v->Rep w [] t v
theorem aee.append {w:World} {a b:List TV} {x y:List Value} (h:aee w a x) (k:aee w b y):aee w (a++b) (x++y):=by
 refine⟨by simp[h.1,k.1],fun t ht=>?_,fun i t v ht hv=>?_⟩
 ·rcases List.mem_append.1 ht with ht|ht
  ·exact h.2.1 t ht
  ·exact k.2.1 t ht
 ·by_cases hi:i<a.length
  ·rw[Zv hi] at ht
   rw[Zv (by rw[<- h.1];exact hi)] at hv
   exact h.2.2 i t v ht hv
  ·rw[Zr (by omega)] at ht
   rw[Zr (by rw[<- h.1];omega)] at hv
   rw[<- h.1] at hv
   exact k.2.2 _ t v ht hv
theorem aee.one {w:World} {t:TV} {v:Value} (h:Rep w [] t v) (hc:t.isCell=true):aee w [t] [v]:=⟨rfl,by simpa using hc,fun i u x hu hx=>by
 cases i with
 | zero=>simp at hu hx;subst hu;subst hx;exact h
 | succ i=>simp at hu⟩
mutual
theorem afu (w:World) (S:Nat->Prop):∀t:PT,er w S t->aee w t.tvs t.cells
 | .int k n,_=>.one (.int k n) rfl
 | .bool b,_=>.one (.bool b) rfl
 | .str s,_=>.one (.str s) rfl
 | .agg l,h=>by
   simp only[PT.tvs,PT.cells]
   simp only[er] at h
   exact aa9 w S l h
 | .sl A c m l,h=>by
   simp only[PT.tvs,PT.cells]
   simp only[er] at h
   obtain⟨h1,h2,h3,h4,h5⟩:=h
   have h6:=aa9 w S l h5
   have hlen:(PT.rowsL l).length=l.length:=by rw[PT.rowsL_map];simp
   refine .one ?_ rfl
   have key:∀j,∃u,∀t,(PT.tvsL l)[j]?=some t->∃b o,A=some ⟨b,o,none⟩/\w.cell? ⟨b,o+j,none⟩=some u/\Rep w [] t u:=fun j=>by
     cases hj:(PT.cellsL l)[j]? with
     | none =>
       refine⟨undef,fun t ht=>?_⟩
       have:j<(PT.tvsL l).length:=(List.getElem?_eq_some_iff.1 ht).1
       rw[h6.1] at this
       rw[Za this] at hj;cases hj
     | some u =>
       refine⟨u,fun t ht=>?_⟩
       obtain⟨b,o,e1,_,e2⟩:=h3 j u hj
       exact⟨b,o,e1,e2,h6.2.2 j t u ht hj⟩
   have hr := Rep.sl (w := w) (objs := []) 0 m (PT.rowsL l) A c (by omega) h2 (fun r hr => by
       rw[PT.rowsL_map] at hr
       obtain⟨t,ht,rfl⟩:=List.mem_map.1 hr
       rw[<- h4 t ht]
       exact(uF w S l h5 t ht).1) (fun t ht=>by rw[PT.rows_flat] at ht;exact h6.2.1 t ht) (fun j=>Classical.choose (key j))
     (fun j t hj=>by
       rw[PT.rows_flat] at hj
       obtain⟨b,o,e1,e2,_⟩:=ZK (key j) t hj
       exact⟨b,o,e1,yB b,e2⟩)
     (fun j t hj=>by
       rw[PT.rows_flat] at hj
       obtain⟨b,o,_,_,e3⟩:=ZK (key j) t hj
       exact e3)
   rw[hlen] at hr
   exact hr
theorem aa9 (w:World) (S:Nat->Prop):∀l:List PT,cQ w S l->aee w (PT.tvsL l) (PT.cellsL l)
 | [],_=>⟨rfl,by simp[PT.tvsL],by simp[PT.tvsL]⟩
 | t::r,h=>by
   simp only[PT.tvsL,PT.cellsL]
   simp only[cQ] at h
   exact(afu w S t h.1).append (aa9 w S r h.2)
theorem uF (w:World) (S:Nat->Prop):∀l:List PT,cQ w S l->∀t∈l,aee w t.tvs t.cells
 | [],_,t,ht=>by simp at ht
 | x::r,h,t,ht=>by
   simp only[cQ] at h
   rcases List.mem_cons.1 ht with e|ht
   ·rw[e];exact afu w S x h.1
   ·exact uF w S r h.2 t ht
end
theorem bu {α:Type} {p:α->Prop} {l:List α} {i:Nat} (h:i<l.length) (ha:∀y∈l.take i,p y) (hx:p l[i]):∀y∈l.take (i+1),p y:=fun y hy=>by
 rw[Z6,Za h] at hy
 rcases List.mem_append.1 hy with hy|hy
 ·exact ha y hy
 ·simp at hy;subst hy;exact hx
def iq {α:Type} (tw:α->List TV) (z:List TV) (l:List α) (i:Nat):List (List TV):=(l.take i).map tw++List.replicate (l.length - i) z
theorem fA {α:Type} (tw:α->List TV) (z:List TV) (l:List α):List.replicate l.length z=iq tw z l 0:=by simp[iq]
theorem fu {α:Type} (tw:α->List TV) (z:List TV) (l:List α):iq tw z l l.length=l.map tw:=by simp[iq]
theorem gl {α:Type} (tw:α->List TV) (z:List TV) {l:List α} {i:Nat} (h:i<l.length):(iq tw z l i)[i]?=some z/\(iq tw z l i).set i (tw l[i])=iq tw z l (i+1):=by
 have e:l.length - i=(l.length - (i+1))+1:=by omega
 have hl:((l.take i).map tw).length=i:=by simp;omega
 unfold iq
 refine⟨?_, ?_⟩
 ·rw[Zr (by omega),hl,Yy,e,ZY];rfl
 ·rw[YB _ _ (by omega),hl,Yy,e,ZY,YS,show l.take (i+1)=l.take i++[l[i]] from by rw[Z6,Za h];rfl,Z1,Zh]
  rfl
def jB (B:Nat) (objs:aJ) (K:Nat) (l l':List TV):Prop:=l'.length=l.length/\∀(j:Nat) (t t':TV),l[j]?=some t->l'[j]?=some t'->Fin B objs K t t'
theorem jB.nil {B:Nat} {objs:aJ} {K:Nat}:jB B objs K [] []:=⟨rfl,by simp⟩
theorem jB.cons {B:Nat} {objs:aJ} {K:Nat} {t t':TV} {l l':List TV} (h:Fin B objs K t t') (hr:jB B objs K l l'):jB B objs K (t::l) (t'::l'):=⟨by simp[hr.1],fun j u u' h1 h2=>by
 cases j with
 | zero=>simp at h1 h2;subst h1;subst h2;exact h
 | succ j=>exact hr.2 j u u' (by simpa using h1) (by simpa using h2)⟩
theorem jB.append {B:Nat} {objs:aJ} {K:Nat} {a a' b b':List TV} (h:jB B objs K a a') (k:jB B objs K b b'):jB B objs K (a++b) (a'++b'):=⟨by simp[h.1,k.1],fun j u u' h1 h2=>by
 by_cases hj:j<a.length
 ·rw[Zv hj] at h1
  rw[Zv (by rw[h.1];exact hj)] at h2
  exact h.2 j u u' h1 h2
 ·rw[Zr (by omega)] at h1
  rw[Zr (by rw[h.1];omega)] at h2
  rw[h.1] at h2
  exact k.2 _ u u' h1 h2⟩
theorem jB.rows {α:Type} {B:Nat} {objs:aJ} {K:Nat} {f f':α->List TV} (h:∀x,jB B objs K (f x) (f' x)):∀l:List α,jB B objs K (l.map f).flatten (l.map f').flatten
 | []=>.nil
 | x::r=>by simpa using (h x).append (jB.rows h r)
theorem jB.lens {α:Type} {f f':α->List TV} (h:∀x,(f' x).length=(f x).length) (l:List α):(l.map f').map List.length=(l.map f).map List.length:=by
 induction l with
 | nil=>rfl
 | cons x r ih=>simpa [h x] using ih
theorem cZ {α:Type} {B:Nat} {objs:aJ} {K m:Nat} {f f':α->List TV} (h:∀x,jB B objs K (f x) (f' x)) (l:List α):Fin B objs K (.sl B m (l.map f)) (.sl K m (l.map f')) :=
 .sl B m _ _ (Zf _) (jB.lens (fun x=>(h x).1) l) (jB.rows h l).2
theorem yT {α:Type} {B:Nat} {objs:aJ} {K s b m:Nat} {f f':α->List TV} (h:∀x,jB B objs K (f x) (f' x)) {l:List α} (hm:(s,b,aW.row m (l.map f))∈objs):Fin B objs K (.ms s b 0 l.length) (.sl K m (l.map f')) :=
 .ms s b 0 l.length m _ (l.map f) _ hm (by simp) (by rw[YZ,Zc (by simp)]) (jB.lens (fun x=>(h x).1) l) (jB.rows h l).2
theorem my {B:Nat} {objs:aJ} {K:Nat} {l l':List TV} (h:jB B objs K l l'):Fin B objs K (.agg l) (.agg l'):=.agg l l' h.1 h.2
theorem eM {l:List ByteArray} {i:Nat} (h:i<l.length):(bQ l)[i]?=some [.str l[i]]:=aK h
theorem ch (l:List ByteArray):(bQ l).length=l.length:=by simp[bQ]
section
variable {G:World->Prop}
theorem mM (lo:Nat) (l:List ByteArray) (left:Int) (h:0<=left/\left<=1048576) (hb:l.length<=9223372036854775807/\∀y∈l,ByteArray.size y<=9223372036854775807):CtM Tryz.prog G 93 [.sl lo 1 (bQ l),.int .i64 left] [] (fun y:Int=>-1<=y/\y<=left/\(0<=y->l.length<=1048576/\∀y∈l,ByteArray.size y<=1048576)) (fun _=>[]) (fun y=>.int .i64 y):=by
 refine aA Tryz.func93 rfl Tryz.ntmps93 rfl rfl rfl fun w0 R gs objsR hG hR=>?_
 obtain rfl:=hR.inv0
 clear hR
 have hlen:=ch l
 have hl1:=hb.1
 by_cases hn:left - l.length<0
 ·repeat' refine W_ ?_
  exact aD x_ rfl (-1) ⟨by omega,by omega,fun h=>by omega⟩ rfl (.nil R) (.refl _) (.tmp _ _ rfl) rfl
 ·repeat' refine W_ ?_
  apply aj (X:=Nat×Int) [0,1000000] (fun x=>[(5,.int .i64 (x.1:Int)),(1,.int .i64 x.2)]) (fun _=>R) (fun x=>x.1<=l.length/\0<=x.2/\x.2<=left/\∀y∈l.take x.1,ByteArray.size y<=1048576) (fun x=>l.length - x.1) (0,left - l.length) ⟨Zd _,by dsimp only;omega,by dsimp only;omega,by simp⟩
  exact kp_;exact nw_
  ·exact .refl _
  rintro ⟨i,lf⟩ ⟨hi,h0,h1,hs⟩
  dsimp only at hi h0 h1 hs |-
  by_cases hlt:i<l.length
  ·have hrow:=eM hlt
   have hbi:=hb.2 _ (Zb hlt)
   have hta:=bu (p:=fun y=>ByteArray.size y<=1048576) hlt hs
   generalize l[i]=x at hrow hbi hta
   repeat' (first|refine W_ ?_|refine c_ (fun hc=>?_) (fun hc=>?_))
   all_goals first
     | exact aD x_ rfl (-1) ⟨by omega,by omega,fun h=>by omega⟩ rfl (.nil R) (.refl _) (.tmp _ _ rfl) rfl
     | exact ag (i+1,lf - x.size) ⟨by dsimp only;omega,by dsimp only;omega,by dsimp only;omega,hta (by omega)⟩ (by dsimp only;omega) (.of _ nw_ od_ pk_)
  ·rw[Zc (by omega)] at hs
   repeat' refine W_ ?_
   exact aD x_ rfl lf ⟨by omega,by omega,fun _=>⟨by omega,hs⟩⟩ rfl (.nil R) (.refl _) (.tmp _ _ rfl) rfl
theorem tq (l1 l2:Nat) (l:List ByteArray) (hn:l.length<=1099600000000):Ct Tryz.prog G 18 [.sl l1 1 (bQ l),.sl l2 1 (bQ l)] (fun _=>.bool true):=by
 refine au Tryz.func18 rfl Tryz.ntmps18 rfl rfl fun w0 _ hG=>?_
 have hlen:=ch l
 repeat' refine W_ ?_
 apply aj (X:=Nat) [0,1] (fun i=>[(5,.int .i64 (i:Int))]) (fun _=>[]) (fun i=>i<=l.length) (fun i=>l.length - i) 0 (Zd _)
 exact kp_;exact nw_
 ·exact .refl _
 intro i hi
 try dsimp only
 by_cases hlt:i<l.length
 ·have hrow:=eM hlt
  generalize l[i]=x at hrow
  have hx:¬ x≠x:=fun h=>h rfl
  repeat' refine V_ ?_
  exact ag (i+1) (by omega) (by omega) (.of _ nw_ od_ pk_)
 ·repeat' refine W_ ?_
  exact r1_
theorem mN (l1 l2:Nat) (l:List ByteArray) (hn:l.length<=1048576):Ct Tryz.prog G 18 [.sl l1 1 (bQ l),.sl l2 1 (bQ l)] (fun _=>.bool true):=tq l1 l2 l (by omega)
end
def ak.tw (lo:Nat) (x:ak):List TV:=[.int .i64 x.op,.int .i64 x.a,.int .i64 x.b,.str x.text]
def ak.small (n:Nat) (x:ak):Prop:=(x.text.size<=n)
def ak.tz:List TV:=[.int .i64 0,.int .i64 0,.int .i64 0,.str ⟨#[]⟩]
theorem ak.fin (B K:Nat) (objs:aJ) (x:ak):jB B objs K (x.tw B) (x.tw K):=.cons (.flat rfl) (.cons (.flat rfl) (.cons (.flat rfl) (.cons (.flat rfl) (.nil))))
theorem ak.len (lo:Nat) (l:List ak):(l.map (ak.tw lo)).length=l.length:=by simp
section
variable {G:World->Prop}
theorem zK (hst:aC G) (lo:Nat) (x:ak) (left:Int) (h:0<=left/\left<=1048576) (hb:x.small 9223372036854775807):CtM Tryz.prog G 288 [.agg (x.tw lo),.int .i64 left] [] (fun y:Int=>-1<=y/\y<=left/\(0<=y->x.small 1048576)) (fun _=>[]) (fun y=>.int .i64 y):=by
 refine aA Tryz.func288 rfl Tryz.ntmps288 rfl rfl rfl fun w0 R gs objsR hG hR=>?_
 obtain rfl:=hR.inv0
 clear hR
 unfold ak.small at hb
 have hb1:x.text.size<=9223372036854775807:=hb
 unfold ak.tw
 repeat' (first|refine W_ ?_|refine aN ?_|refine c_ (fun hc=>?_) (fun hc=>?_))
 all_goals first
   | exact aD x_ rfl (-1) ⟨by omega,by omega,fun h=>by omega⟩ rfl (.nil R) (.refl _) (.tmp _ _ rfl) rfl
   | (refine aD x_ rfl _ ⟨?_, ?_,fun _=>?_⟩ rfl (.nil R) (.refl _) (.tmp _ _ rfl) rfl
      ·omega
      ·omega
      ·show _<=_;omega)
theorem wQ (hst:aC G) (lo:Nat) (l:List ak) (left:Int) (h:0<=left/\left<=1048576) (hb:l.length<=9223372036854775807/\∀y∈l,ak.small 9223372036854775807 y):CtM Tryz.prog G 239 [.sl lo 4 (l.map (ak.tw lo)),.int .i64 left] [] (fun y:Int=>-1<=y/\y<=left/\(0<=y->l.length<=1048576/\∀y∈l,ak.small 1048576 y)) (fun _=>[]) (fun y=>.int .i64 y):=by
 refine aA Tryz.func239 rfl Tryz.ntmps239 rfl rfl rfl fun w0 R gs objsR hG hR=>?_
 obtain rfl:=hR.inv0
 clear hR
 have hlen:=ak.len lo l
 have hl1:=hb.1
 by_cases hn:left - l.length<0
 ·repeat' refine W_ ?_
  exact aD x_ rfl (-1) ⟨by omega,by omega,fun h=>by omega⟩ rfl (.nil R) (.refl _) (.tmp _ _ rfl) rfl
 ·repeat' refine W_ ?_
  apply aj (X:=Nat×Int) [0,1000000] (fun x=>[(5,.int .i64 (x.1:Int)),(1,.int .i64 x.2)]) (fun _=>R) (fun x=>x.1<=l.length/\0<=x.2/\x.2<=left/\∀y∈l.take x.1,ak.small 1048576 y) (fun x=>l.length - x.1) (0,left - l.length) ⟨Zd _,by dsimp only;omega,by dsimp only;omega,by simp⟩
  exact kp_;exact nw_
  ·exact .refl _
  rintro ⟨i,lf⟩ ⟨hi,h0,h1,hs⟩
  dsimp only at hi h0 h1 hs |-
  by_cases hlt:i<l.length
  ·have hrow:(l.map (ak.tw lo))[i]?=some (l[i].tw lo):=aK hlt
   have hbi:=hb.2 _ (Zb hlt)
   have hta:=bu (p:=ak.small 1048576) hlt hs
   generalize l[i]=x at hrow hbi hta
   have hct:=zK hst lo x lf (by omega) hbi
   unfold ak.tw at hct
   rw[show x.tw lo=[.int .i64 x.op,.int .i64 x.a,.int .i64 x.b,.str x.text] from rfl] at hrow
   repeat' (first|refine W_ ?_|((with_reducible apply aB);rfl;kernel_rfl;(repeat (first|exact ay.nil|((with_reducible apply ay.cons);rfl)));exact hG;exact hct;exact .nil _;intro y hy;refine bV ?_)|refine c_ (fun hc=>?_) (fun hc=>?_))
   all_goals first
     | exact aD x_ rfl (-1) ⟨by omega,by omega,fun h=>by omega⟩ rfl (.nil R) (.refl _) (.tmp _ _ rfl) rfl
     | exact ag (i+1,y) ⟨by dsimp only;omega,by dsimp only;omega,by dsimp only;omega,hta (hy.2.2 (by omega))⟩ (by dsimp only;omega) (.of _ nw_ od_ pk_)
  ·rw[Zc (by omega)] at hs
   repeat' refine W_ ?_
   exact aD x_ rfl lf ⟨by omega,by omega,fun _=>⟨by omega,hs⟩⟩ rfl (.nil R) (.refl _) (.tmp _ _ rfl) rfl
theorem zY (hst:aC G) (lo:Nat) (x:ak) (hb:x.small 1048576):Ct Tryz.prog G 297 [.agg (x.tw lo)] (fun K=>.agg (x.tw K)):=by
 refine au Tryz.func297 rfl Tryz.ntmps297 rfl rfl fun w0 _ hG=>?_
 unfold ak.small at hb
 skip
 repeat' (first|refine W_ ?_|refine aN ?_|(refine am ?_;intro ss bb)|refine ac ?_)
 refine aM x_ rfl (.cell _ _ _ _ _ rfl mm_ (by kernel_rfl) (by kernel_rfl) (by kernel_rfl)) (fun _=>?_)
 exact my (ak.fin _ _ _ x)
theorem aav (hst:aC G) (l1 l2:Nat) (x:ak) (hb:x.small 1048576):Ct Tryz.prog G 309 [.agg (x.tw l1),.agg (x.tw l2)] (fun _=>.bool true):=by
 refine au Tryz.func309 rfl Tryz.ntmps309 rfl rfl fun w0 _ hG=>?_
 unfold ak.small at hb
 have hnetext:¬ x.text≠x.text:=fun h=>h rfl
 unfold ak.tw
 repeat' (first|refine W_ ?_|refine aN ?_)
 all_goals first
   | (exfalso;simp at hc;done)
   | (exact r1_)
theorem wE (hst:aC G) (l1 l2:Nat) (l:List ak) (hb:l.length<=1048576/\∀y∈l,ak.small 1048576 y):Ct Tryz.prog G 272 [.sl l1 4 (l.map (ak.tw l1)),.sl l2 4 (l.map (ak.tw l2))] (fun _=>.bool true):=by
 refine au Tryz.func272 rfl Tryz.ntmps272 rfl rfl fun w0 _ hG=>?_
 have hlen:=ak.len l1 l
 have hlen2:=ak.len l2 l
 have hl1:=hb.1
 repeat' refine W_ ?_
 apply aj (X:=Nat) [0,1] (fun i=>[(5,.int .i64 (i:Int))]) (fun _=>[]) (fun i=>i<=l.length) (fun i=>l.length - i) 0 (Zd _)
 exact kp_;exact nw_
 ·exact .refl _
 intro i hi
 try dsimp only
 by_cases hlt:i<l.length
 ·have hr1:(l.map (ak.tw l1))[i]?=some (l[i].tw l1):=aK hlt
  have hr2:(l.map (ak.tw l2))[i]?=some (l[i].tw l2):=aK hlt
  have hbi:=hb.2 _ (Zb hlt)
  generalize l[i]=x at hr1 hr2 hbi
  have hct:=aav hst l1 l2 x hbi
  unfold ak.tw at hct
  rw[show x.tw l1=[.int .i64 x.op,.int .i64 x.a,.int .i64 x.b,.str x.text] from rfl] at hr1
  rw[show x.tw l2=[.int .i64 x.op,.int .i64 x.a,.int .i64 x.b,.str x.text] from rfl] at hr2
  repeat' (first|refine V_ ?_|refine ai hG hst (hct) ?_)
  exact ag (i+1) (by omega) (by omega) (.of _ nw_ od_ pk_)
 ·repeat' refine W_ ?_
  exact r1_
end
def aH.tw (lo:Nat) (x:aH):List TV:=[.bool x.block,.int .i64 x.params,.int .i64 x.slots,.sl lo 4 (x.instrs.map (ak.tw lo))]
def aH.small (n:Nat) (x:aH):Prop:=(x.instrs.length<=n/\∀y∈x.instrs,ak.small n y)
def aH.tz:List TV:=[.bool false,.int .i64 0,.int .i64 0,.nils]
theorem aH.fin (B K:Nat) (objs:aJ) (x:aH):jB B objs K (x.tw B) (x.tw K):=.cons (.flat rfl) (.cons (.flat rfl) (.cons (.flat rfl) (.cons (cZ (fun x=>ak.fin B K objs x) _) (.nil))))
theorem aH.len (lo:Nat) (l:List aH):(l.map (aH.tw lo)).length=l.length:=by simp
section
variable {G:World->Prop}
theorem acN (hst:aC G) (lo:Nat) (x:aH) (left:Int) (h:0<=left/\left<=1048576) (hb:x.small 9223372036854775807):CtM Tryz.prog G 173 [.agg (x.tw lo),.int .i64 left] [] (fun y:Int=>-1<=y/\y<=left/\(0<=y->x.small 1048576)) (fun _=>[]) (fun y=>.int .i64 y):=by
 refine aA Tryz.func173 rfl Tryz.ntmps173 rfl rfl rfl fun w0 R gs objsR hG hR=>?_
 obtain rfl:=hR.inv0
 clear hR
 unfold aH.small at hb
 skip
 unfold aH.tw
 repeat' (first|refine W_ ?_|refine aN ?_|((with_reducible apply aB);rfl;kernel_rfl;(repeat (first|exact ay.nil|((with_reducible apply ay.cons);rfl)));exact hG;exact wQ hst lo x.instrs _ (by omega) hb;exact .nil _;intro y1 hy1;refine bV ?_)|refine c_ (fun hc=>?_) (fun hc=>?_))
 all_goals first
   | exact aD x_ rfl (-1) ⟨by omega,by omega,fun h=>by omega⟩ rfl (.nil R) (.refl _) (.tmp _ _ rfl) rfl
   | (refine aD x_ rfl _ ⟨?_, ?_,fun _=>?_⟩ rfl (.nil R) (.refl _) (.tmp _ _ rfl) rfl
      ·omega
      ·omega
      ·exact hy1.2.2 (by omega))
theorem aaO (hst:aC G) (lo:Nat) (l:List aH) (left:Int) (h:0<=left/\left<=1048576) (hb:l.length<=9223372036854775807/\∀y∈l,aH.small 9223372036854775807 y):CtM Tryz.prog G 90 [.sl lo 4 (l.map (aH.tw lo)),.int .i64 left] [] (fun y:Int=>-1<=y/\y<=left/\(0<=y->l.length<=1048576/\∀y∈l,aH.small 1048576 y)) (fun _=>[]) (fun y=>.int .i64 y):=by
 refine aA Tryz.func90 rfl Tryz.ntmps90 rfl rfl rfl fun w0 R gs objsR hG hR=>?_
 obtain rfl:=hR.inv0
 clear hR
 have hlen:=aH.len lo l
 have hl1:=hb.1
 by_cases hn:left - l.length<0
 ·repeat' refine W_ ?_
  exact aD x_ rfl (-1) ⟨by omega,by omega,fun h=>by omega⟩ rfl (.nil R) (.refl _) (.tmp _ _ rfl) rfl
 ·repeat' refine W_ ?_
  apply aj (X:=Nat×Int) [0,1000000] (fun x=>[(5,.int .i64 (x.1:Int)),(1,.int .i64 x.2)]) (fun _=>R) (fun x=>x.1<=l.length/\0<=x.2/\x.2<=left/\∀y∈l.take x.1,aH.small 1048576 y) (fun x=>l.length - x.1) (0,left - l.length) ⟨Zd _,by dsimp only;omega,by dsimp only;omega,by simp⟩
  exact kp_;exact nw_
  ·exact .refl _
  rintro ⟨i,lf⟩ ⟨hi,h0,h1,hs⟩
  dsimp only at hi h0 h1 hs |-
  by_cases hlt:i<l.length
  ·have hrow:(l.map (aH.tw lo))[i]?=some (l[i].tw lo):=aK hlt
   have hbi:=hb.2 _ (Zb hlt)
   have hta:=bu (p:=aH.small 1048576) hlt hs
   generalize l[i]=x at hrow hbi hta
   have hct:=acN hst lo x lf (by omega) hbi
   unfold aH.tw at hct
   rw[show x.tw lo=[.bool x.block,.int .i64 x.params,.int .i64 x.slots,.sl lo 4 (x.instrs.map (ak.tw lo))] from rfl] at hrow
   repeat' (first|refine W_ ?_|((with_reducible apply aB);rfl;kernel_rfl;(repeat (first|exact ay.nil|((with_reducible apply ay.cons);rfl)));exact hG;exact hct;exact .nil _;intro y hy;refine bV ?_)|refine c_ (fun hc=>?_) (fun hc=>?_))
   all_goals first
     | exact aD x_ rfl (-1) ⟨by omega,by omega,fun h=>by omega⟩ rfl (.nil R) (.refl _) (.tmp _ _ rfl) rfl
     | exact ag (i+1,y) ⟨by dsimp only;omega,by dsimp only;omega,by dsimp only;omega,hta (hy.2.2 (by omega))⟩ (by dsimp only;omega) (.of _ nw_ od_ pk_)
  ·rw[Zc (by omega)] at hs
   repeat' refine W_ ?_
   exact aD x_ rfl lf ⟨by omega,by omega,fun _=>⟨by omega,hs⟩⟩ rfl (.nil R) (.refl _) (.tmp _ _ rfl) rfl
theorem abK (hst:aC G) (l1 l2:Nat) (x:aH) (hb:x.small 1048576):Ct Tryz.prog G 207 [.agg (x.tw l1),.agg (x.tw l2)] (fun _=>.bool true):=by
 refine au Tryz.func207 rfl Tryz.ntmps207 rfl rfl fun w0 _ hG=>?_
 unfold aH.small at hb
 have hsinstrs:=hb
 unfold aH.tw
 repeat' (first|refine W_ ?_|refine aN ?_|refine ad hG hst (wE hst l1 l2 x.instrs hsinstrs) ?_|refine c_ (fun hc=>?_) (fun hc=>?_))
 all_goals first
   | (exfalso;simp at hc;done)
   | (exact r1_)
theorem aau (hst:aC G) (l1 l2:Nat) (l:List aH) (hb:l.length<=1048576/\∀y∈l,aH.small 1048576 y):Ct Tryz.prog G 125 [.sl l1 4 (l.map (aH.tw l1)),.sl l2 4 (l.map (aH.tw l2))] (fun _=>.bool true):=by
 refine au Tryz.func125 rfl Tryz.ntmps125 rfl rfl fun w0 _ hG=>?_
 have hlen:=aH.len l1 l
 have hlen2:=aH.len l2 l
 have hl1:=hb.1
 repeat' refine W_ ?_
 apply aj (X:=Nat) [0,1] (fun i=>[(5,.int .i64 (i:Int))]) (fun _=>[]) (fun i=>i<=l.length) (fun i=>l.length - i) 0 (Zd _)
 exact kp_;exact nw_
 ·exact .refl _
 intro i hi
 try dsimp only
 by_cases hlt:i<l.length
 ·have hr1:(l.map (aH.tw l1))[i]?=some (l[i].tw l1):=aK hlt
  have hr2:(l.map (aH.tw l2))[i]?=some (l[i].tw l2):=aK hlt
  have hbi:=hb.2 _ (Zb hlt)
  generalize l[i]=x at hr1 hr2 hbi
  have hct:=abK hst l1 l2 x hbi
  unfold aH.tw at hct
  rw[show x.tw l1=[.bool x.block,.int .i64 x.params,.int .i64 x.slots,.sl l1 4 (x.instrs.map (ak.tw l1))] from rfl] at hr1
  rw[show x.tw l2=[.bool x.block,.int .i64 x.params,.int .i64 x.slots,.sl l2 4 (x.instrs.map (ak.tw l2))] from rfl] at hr2
  repeat' (first|refine V_ ?_|refine ai hG hst (hct) ?_)
  exact ag (i+1) (by omega) (by omega) (.of _ nw_ od_ pk_)
 ·repeat' refine W_ ?_
  exact r1_
end
def aF.tw (lo:Nat) (x:aF):List TV:=[.int .i64 x.owner,.bool x.class_,.str x.selector,.int .i64 x.code]
def aF.small (n:Nat) (x:aF):Prop:=(x.selector.size<=n)
def aF.tz:List TV:=[.int .i64 0,.bool false,.str ⟨#[]⟩,.int .i64 0]
theorem aF.fin (B K:Nat) (objs:aJ) (x:aF):jB B objs K (x.tw B) (x.tw K):=.cons (.flat rfl) (.cons (.flat rfl) (.cons (.flat rfl) (.cons (.flat rfl) (.nil))))
theorem aF.len (lo:Nat) (l:List aF):(l.map (aF.tw lo)).length=l.length:=by simp
section
variable {G:World->Prop}
theorem aak (hst:aC G) (lo:Nat) (x:aF) (left:Int) (h:0<=left/\left<=1048576) (hb:x.small 9223372036854775807):CtM Tryz.prog G 174 [.agg (x.tw lo),.int .i64 left] [] (fun y:Int=>-1<=y/\y<=left/\(0<=y->x.small 1048576)) (fun _=>[]) (fun y=>.int .i64 y):=by
 refine aA Tryz.func174 rfl Tryz.ntmps174 rfl rfl rfl fun w0 R gs objsR hG hR=>?_
 obtain rfl:=hR.inv0
 clear hR
 unfold aF.small at hb
 have hb1:x.selector.size<=9223372036854775807:=hb
 unfold aF.tw
 repeat' (first|refine W_ ?_|refine aN ?_|refine c_ (fun hc=>?_) (fun hc=>?_))
 all_goals first
   | exact aD x_ rfl (-1) ⟨by omega,by omega,fun h=>by omega⟩ rfl (.nil R) (.refl _) (.tmp _ _ rfl) rfl
   | (refine aD x_ rfl _ ⟨?_, ?_,fun _=>?_⟩ rfl (.nil R) (.refl _) (.tmp _ _ rfl) rfl
      ·omega
      ·omega
      ·show _<=_;omega)
theorem wB (hst:aC G) (lo:Nat) (l:List aF) (left:Int) (h:0<=left/\left<=1048576) (hb:l.length<=9223372036854775807/\∀y∈l,aF.small 9223372036854775807 y):CtM Tryz.prog G 91 [.sl lo 4 (l.map (aF.tw lo)),.int .i64 left] [] (fun y:Int=>-1<=y/\y<=left/\(0<=y->l.length<=1048576/\∀y∈l,aF.small 1048576 y)) (fun _=>[]) (fun y=>.int .i64 y):=by
 refine aA Tryz.func91 rfl Tryz.ntmps91 rfl rfl rfl fun w0 R gs objsR hG hR=>?_
 obtain rfl:=hR.inv0
 clear hR
 have hlen:=aF.len lo l
 have hl1:=hb.1
 by_cases hn:left - l.length<0
 ·repeat' refine W_ ?_
  exact aD x_ rfl (-1) ⟨by omega,by omega,fun h=>by omega⟩ rfl (.nil R) (.refl _) (.tmp _ _ rfl) rfl
 ·repeat' refine W_ ?_
  apply aj (X:=Nat×Int) [0,1000000] (fun x=>[(5,.int .i64 (x.1:Int)),(1,.int .i64 x.2)]) (fun _=>R) (fun x=>x.1<=l.length/\0<=x.2/\x.2<=left/\∀y∈l.take x.1,aF.small 1048576 y) (fun x=>l.length - x.1) (0,left - l.length) ⟨Zd _,by dsimp only;omega,by dsimp only;omega,by simp⟩
  exact kp_;exact nw_
  ·exact .refl _
  rintro ⟨i,lf⟩ ⟨hi,h0,h1,hs⟩
  dsimp only at hi h0 h1 hs |-
  by_cases hlt:i<l.length
  ·have hrow:(l.map (aF.tw lo))[i]?=some (l[i].tw lo):=aK hlt
   have hbi:=hb.2 _ (Zb hlt)
   have hta:=bu (p:=aF.small 1048576) hlt hs
   generalize l[i]=x at hrow hbi hta
   have hct:=aak hst lo x lf (by omega) hbi
   unfold aF.tw at hct
   rw[show x.tw lo=[.int .i64 x.owner,.bool x.class_,.str x.selector,.int .i64 x.code] from rfl] at hrow
   repeat' (first|refine W_ ?_|((with_reducible apply aB);rfl;kernel_rfl;(repeat (first|exact ay.nil|((with_reducible apply ay.cons);rfl)));exact hG;exact hct;exact .nil _;intro y hy;refine bV ?_)|refine c_ (fun hc=>?_) (fun hc=>?_))
   all_goals first
     | exact aD x_ rfl (-1) ⟨by omega,by omega,fun h=>by omega⟩ rfl (.nil R) (.refl _) (.tmp _ _ rfl) rfl
     | exact ag (i+1,y) ⟨by dsimp only;omega,by dsimp only;omega,by dsimp only;omega,hta (hy.2.2 (by omega))⟩ (by dsimp only;omega) (.of _ nw_ od_ pk_)
  ·rw[Zc (by omega)] at hs
   repeat' refine W_ ?_
   exact aD x_ rfl lf ⟨by omega,by omega,fun _=>⟨by omega,hs⟩⟩ rfl (.nil R) (.refl _) (.tmp _ _ rfl) rfl
theorem aaz (hst:aC G) (lo:Nat) (x:aF) (hb:x.small 1048576):Ct Tryz.prog G 190 [.agg (x.tw lo)] (fun K=>.agg (x.tw K)):=by
 refine au Tryz.func190 rfl Tryz.ntmps190 rfl rfl fun w0 _ hG=>?_
 unfold aF.small at hb
 skip
 repeat' (first|refine W_ ?_|refine aN ?_|(refine am ?_;intro ss bb)|refine ac ?_)
 refine aM x_ rfl (.cell _ _ _ _ _ rfl mm_ (by kernel_rfl) (by kernel_rfl) (by kernel_rfl)) (fun _=>?_)
 exact my (aF.fin _ _ _ x)
theorem aaC (hst:aC G) (l1 l2:Nat) (x:aF) (hb:x.small 1048576):Ct Tryz.prog G 208 [.agg (x.tw l1),.agg (x.tw l2)] (fun _=>.bool true):=by
 refine au Tryz.func208 rfl Tryz.ntmps208 rfl rfl fun w0 _ hG=>?_
 unfold aF.small at hb
 have hneselector:¬ x.selector≠x.selector:=fun h=>h rfl
 unfold aF.tw
 repeat' (first|refine W_ ?_|refine aN ?_|refine c_ (fun hc=>?_) (fun hc=>?_))
 all_goals first
   | (exfalso;simp at hc;done)
   | (exact r1_)
theorem wM (hst:aC G) (l1 l2:Nat) (l:List aF) (hb:l.length<=1048576/\∀y∈l,aF.small 1048576 y):Ct Tryz.prog G 126 [.sl l1 4 (l.map (aF.tw l1)),.sl l2 4 (l.map (aF.tw l2))] (fun _=>.bool true):=by
 refine au Tryz.func126 rfl Tryz.ntmps126 rfl rfl fun w0 _ hG=>?_
 have hlen:=aF.len l1 l
 have hlen2:=aF.len l2 l
 have hl1:=hb.1
 repeat' refine W_ ?_
 apply aj (X:=Nat) [0,1] (fun i=>[(5,.int .i64 (i:Int))]) (fun _=>[]) (fun i=>i<=l.length) (fun i=>l.length - i) 0 (Zd _)
 exact kp_;exact nw_
 ·exact .refl _
 intro i hi
 try dsimp only
 by_cases hlt:i<l.length
 ·have hr1:(l.map (aF.tw l1))[i]?=some (l[i].tw l1):=aK hlt
  have hr2:(l.map (aF.tw l2))[i]?=some (l[i].tw l2):=aK hlt
  have hbi:=hb.2 _ (Zb hlt)
  generalize l[i]=x at hr1 hr2 hbi
  have hct:=aaC hst l1 l2 x hbi
  unfold aF.tw at hct
  rw[show x.tw l1=[.int .i64 x.owner,.bool x.class_,.str x.selector,.int .i64 x.code] from rfl] at hr1
  rw[show x.tw l2=[.int .i64 x.owner,.bool x.class_,.str x.selector,.int .i64 x.code] from rfl] at hr2
  repeat' (first|refine V_ ?_|refine ai hG hst (hct) ?_)
  exact ag (i+1) (by omega) (by omega) (.of _ nw_ od_ pk_)
 ·repeat' refine W_ ?_
  exact r1_
end
def aa.tw (lo:Nat) (x:aa):List TV:=[.str x.name,.int .i64 x.parent,.sl lo 1 (bQ x.fields)]
def aa.small (n:Nat) (x:aa):Prop:=(x.name.size<=n)/\(x.fields.length<=n/\∀y∈x.fields,ByteArray.size y<=n)
def aa.tz:List TV:=[.str ⟨#[]⟩,.int .i64 0,.nils]
theorem aa.fin (B K:Nat) (objs:aJ) (x:aa):jB B objs K (x.tw B) (x.tw K):=.cons (.flat rfl) (.cons (.flat rfl) (.cons (cZ (fun x=>.cons (.flat rfl) .nil) _) (.nil)))
theorem aa.len (lo:Nat) (l:List aa):(l.map (aa.tw lo)).length=l.length:=by simp
section
variable {G:World->Prop}
theorem qr (hst:aC G) (lo:Nat) (x:aa) (left:Int) (h:0<=left/\left<=1048576) (hb:x.small 9223372036854775807):CtM Tryz.prog G 172 [.agg (x.tw lo),.int .i64 left] [] (fun y:Int=>-1<=y/\y<=left/\(0<=y->x.small 1048576)) (fun _=>[]) (fun y=>.int .i64 y):=by
 refine aA Tryz.func172 rfl Tryz.ntmps172 rfl rfl rfl fun w0 R gs objsR hG hR=>?_
 obtain rfl:=hR.inv0
 clear hR
 unfold aa.small at hb
 have hb1:x.name.size<=9223372036854775807:=hb.1
 unfold aa.tw
 repeat' (first|refine W_ ?_|refine aN ?_|((with_reducible apply aB);rfl;kernel_rfl;(repeat (first|exact ay.nil|((with_reducible apply ay.cons);rfl)));exact hG;exact mM lo x.fields _ (by omega) hb.2;exact .nil _;intro y2 hy2;refine bV ?_)|refine c_ (fun hc=>?_) (fun hc=>?_))
 all_goals first
   | exact aD x_ rfl (-1) ⟨by omega,by omega,fun h=>by omega⟩ rfl (.nil R) (.refl _) (.tmp _ _ rfl) rfl
   | (refine aD x_ rfl _ ⟨?_, ?_,fun _=>?_⟩ rfl (.nil R) (.refl _) (.tmp _ _ rfl) rfl
      ·omega
      ·omega
      ·exact⟨by omega,hy2.2.2 (by omega)⟩)
theorem jD (hst:aC G) (lo:Nat) (l:List aa) (left:Int) (h:0<=left/\left<=1048576) (hb:l.length<=9223372036854775807/\∀y∈l,aa.small 9223372036854775807 y):CtM Tryz.prog G 89 [.sl lo 3 (l.map (aa.tw lo)),.int .i64 left] [] (fun y:Int=>-1<=y/\y<=left/\(0<=y->l.length<=1048576/\∀y∈l,aa.small 1048576 y)) (fun _=>[]) (fun y=>.int .i64 y):=by
 refine aA Tryz.func89 rfl Tryz.ntmps89 rfl rfl rfl fun w0 R gs objsR hG hR=>?_
 obtain rfl:=hR.inv0
 clear hR
 have hlen:=aa.len lo l
 have hl1:=hb.1
 by_cases hn:left - l.length<0
 ·repeat' refine W_ ?_
  exact aD x_ rfl (-1) ⟨by omega,by omega,fun h=>by omega⟩ rfl (.nil R) (.refl _) (.tmp _ _ rfl) rfl
 ·repeat' refine W_ ?_
  apply aj (X:=Nat×Int) [0,1000000] (fun x=>[(5,.int .i64 (x.1:Int)),(1,.int .i64 x.2)]) (fun _=>R) (fun x=>x.1<=l.length/\0<=x.2/\x.2<=left/\∀y∈l.take x.1,aa.small 1048576 y) (fun x=>l.length - x.1) (0,left - l.length) ⟨Zd _,by dsimp only;omega,by dsimp only;omega,by simp⟩
  exact kp_;exact nw_
  ·exact .refl _
  rintro ⟨i,lf⟩ ⟨hi,h0,h1,hs⟩
  dsimp only at hi h0 h1 hs |-
  by_cases hlt:i<l.length
  ·have hrow:(l.map (aa.tw lo))[i]?=some (l[i].tw lo):=aK hlt
   have hbi:=hb.2 _ (Zb hlt)
   have hta:=bu (p:=aa.small 1048576) hlt hs
   generalize l[i]=x at hrow hbi hta
   have hct:=qr hst lo x lf (by omega) hbi
   unfold aa.tw at hct
   rw[show x.tw lo=[.str x.name,.int .i64 x.parent,.sl lo 1 (bQ x.fields)] from rfl] at hrow
   repeat' (first|refine W_ ?_|((with_reducible apply aB);rfl;kernel_rfl;(repeat (first|exact ay.nil|((with_reducible apply ay.cons);rfl)));exact hG;exact hct;exact .nil _;intro y hy;refine bV ?_)|refine c_ (fun hc=>?_) (fun hc=>?_))
   all_goals first
     | exact aD x_ rfl (-1) ⟨by omega,by omega,fun h=>by omega⟩ rfl (.nil R) (.refl _) (.tmp _ _ rfl) rfl
     | exact ag (i+1,y) ⟨by dsimp only;omega,by dsimp only;omega,by dsimp only;omega,hta (hy.2.2 (by omega))⟩ (by dsimp only;omega) (.of _ nw_ od_ pk_)
  ·rw[Zc (by omega)] at hs
   repeat' refine W_ ?_
   exact aD x_ rfl lf ⟨by omega,by omega,fun _=>⟨by omega,hs⟩⟩ rfl (.nil R) (.refl _) (.tmp _ _ rfl) rfl
theorem qj (hst:aC G) (l1 l2:Nat) (x:aa) (hb:x.small 1048576):Ct Tryz.prog G 206 [.agg (x.tw l1),.agg (x.tw l2)] (fun _=>.bool true):=by
 refine au Tryz.func206 rfl Tryz.ntmps206 rfl rfl fun w0 _ hG=>?_
 unfold aa.small at hb
 have hsfields:=(hb.2).1
 have hnename:¬ x.name≠x.name:=fun h=>h rfl
 unfold aa.tw
 repeat' (first|refine W_ ?_|refine aN ?_|refine ad hG hst (mN l1 l2 x.fields hsfields) ?_)
 all_goals first
   | (exfalso;simp at hc;done)
   | (exact r1_)
theorem jl (hst:aC G) (l1 l2:Nat) (l:List aa) (hb:l.length<=1048576/\∀y∈l,aa.small 1048576 y):Ct Tryz.prog G 124 [.sl l1 3 (l.map (aa.tw l1)),.sl l2 3 (l.map (aa.tw l2))] (fun _=>.bool true):=by
 refine au Tryz.func124 rfl Tryz.ntmps124 rfl rfl fun w0 _ hG=>?_
 have hlen:=aa.len l1 l
 have hlen2:=aa.len l2 l
 have hl1:=hb.1
 repeat' refine W_ ?_
 apply aj (X:=Nat) [0,1] (fun i=>[(5,.int .i64 (i:Int))]) (fun _=>[]) (fun i=>i<=l.length) (fun i=>l.length - i) 0 (Zd _)
 exact kp_;exact nw_
 ·exact .refl _
 intro i hi
 try dsimp only
 by_cases hlt:i<l.length
 ·have hr1:(l.map (aa.tw l1))[i]?=some (l[i].tw l1):=aK hlt
  have hr2:(l.map (aa.tw l2))[i]?=some (l[i].tw l2):=aK hlt
  have hbi:=hb.2 _ (Zb hlt)
  generalize l[i]=x at hr1 hr2 hbi
  have hct:=qj hst l1 l2 x hbi
  unfold aa.tw at hct
  rw[show x.tw l1=[.str x.name,.int .i64 x.parent,.sl l1 1 (bQ x.fields)] from rfl] at hr1
  rw[show x.tw l2=[.str x.name,.int .i64 x.parent,.sl l2 1 (bQ x.fields)] from rfl] at hr2
  repeat' (first|refine V_ ?_|refine ai hG hst (hct) ?_)
  exact ag (i+1) (by omega) (by omega) (.of _ nw_ od_ pk_)
 ·repeat' refine W_ ?_
  exact r1_
end
def aI.tw (lo:Nat) (x:aI):List TV:=[.sl lo 3 (x.classes.map (aa.tw lo)),.sl lo 4 (x.codes.map (aH.tw lo)),.sl lo 4 (x.entries.map (aF.tw lo)),.int .i64 x.main]
def aI.small (n:Nat) (x:aI):Prop:=(x.classes.length<=n/\∀y∈x.classes,aa.small n y)/\(x.codes.length<=n/\∀y∈x.codes,aH.small n y)/\(x.entries.length<=n/\∀y∈x.entries,aF.small n y)
def aI.tz:List TV:=[.nils,.nils,.nils,.int .i64 0]
theorem aI.fin (B K:Nat) (objs:aJ) (x:aI):jB B objs K (x.tw B) (x.tw K):=.cons (cZ (fun x=>aa.fin B K objs x) _) (.cons (cZ (fun x=>aH.fin B K objs x) _) (.cons (cZ (fun x=>aF.fin B K objs x) _) (.cons (.flat rfl) (.nil))))
theorem aI.len (lo:Nat) (l:List aI):(l.map (aI.tw lo)).length=l.length:=by simp
section
variable {G:World->Prop}
theorem rG (hst:aC G) (lo:Nat) (x:aI) (left:Int) (h:0<=left/\left<=1048576) (hb:x.small 9223372036854775807):CtM Tryz.prog G 28 [.agg (x.tw lo),.int .i64 left] [] (fun y:Int=>-1<=y/\y<=left/\(0<=y->x.small 1048576)) (fun _=>[]) (fun y=>.int .i64 y):=by
 refine aA Tryz.func28 rfl Tryz.ntmps28 rfl rfl rfl fun w0 R gs objsR hG hR=>?_
 obtain rfl:=hR.inv0
 clear hR
 unfold aI.small at hb
 skip
 unfold aI.tw
 repeat' (first|refine W_ ?_|refine aN ?_|((with_reducible apply aB);rfl;kernel_rfl;(repeat (first|exact ay.nil|((with_reducible apply ay.cons);rfl)));exact hG;exact jD hst lo x.classes _ (by omega) hb.1;exact .nil _;intro y1 hy1;refine bV ?_)|((with_reducible apply aB);rfl;kernel_rfl;(repeat (first|exact ay.nil|((with_reducible apply ay.cons);rfl)));exact hG;exact aaO hst lo x.codes _ (by omega) hb.2.1;exact .nil _;intro y2 hy2;refine bV ?_)|((with_reducible apply aB);rfl;kernel_rfl;(repeat (first|exact ay.nil|((with_reducible apply ay.cons);rfl)));exact hG;exact wB hst lo x.entries _ (by omega) hb.2.2;exact .nil _;intro y3 hy3;refine bV ?_)|refine c_ (fun hc=>?_) (fun hc=>?_))
 all_goals first
   | exact aD x_ rfl (-1) ⟨by omega,by omega,fun h=>by omega⟩ rfl (.nil R) (.refl _) (.tmp _ _ rfl) rfl
   | (refine aD x_ rfl _ ⟨?_, ?_,fun _=>?_⟩ rfl (.nil R) (.refl _) (.tmp _ _ rfl) rfl
      ·omega
      ·omega
      ·exact⟨hy1.2.2 (by omega),hy2.2.2 (by omega),hy3.2.2 (by omega)⟩)
theorem rR (hst:aC G) (l1 l2:Nat) (x:aI) (hb:x.small 1048576):Ct Tryz.prog G 44 [.agg (x.tw l1),.agg (x.tw l2)] (fun _=>.bool true):=by
 refine au Tryz.func44 rfl Tryz.ntmps44 rfl rfl fun w0 _ hG=>?_
 unfold aI.small at hb
 have hsclasses:=hb.1
 have hscodes:=hb.2.1
 have hsentries:=hb.2.2
 unfold aI.tw
 repeat' (first|refine W_ ?_|refine aN ?_|refine ad hG hst (jl hst l1 l2 x.classes hsclasses) ?_|refine ad hG hst (aau hst l1 l2 x.codes hscodes) ?_|refine ad hG hst (wM hst l1 l2 x.entries hsentries) ?_)
 all_goals first
   | (exfalso;simp at hc;done)
   | (exact r1_)
end
def fK.tw (lo:Nat) (x:fK):List TV:=[.int .i64 x.code,.int .i64 x.at_,.int .i64 x.kind]
def fK.small (n:Nat) (x:fK):Prop:=True
def fK.tz:List TV:=[.int .i64 0,.int .i64 0,.int .i64 0]
theorem fK.fin (B K:Nat) (objs:aJ) (x:fK):jB B objs K (x.tw B) (x.tw K):=.cons (.flat rfl) (.cons (.flat rfl) (.cons (.flat rfl) (.nil)))
theorem fK.len (lo:Nat) (l:List fK):(l.map (fK.tw lo)).length=l.length:=by simp
section
variable {G:World->Prop}
end
def bS:List aa:=[⟨⟨#[79,98,106,101,99,116]⟩,-1,[]⟩,⟨⟨#[69,120,99,101,112,116,105,111,110]⟩,0,[⟨#[116,101,120,116]⟩]⟩,⟨⟨#[69,114,114,111,114]⟩,1,[⟨#[116,101,120,116]⟩]⟩,⟨⟨#[77,101,115,115,97,103,101,78,111,116,85,110,100,101,114,115,116,111,111,100]⟩,2,[⟨#[116,101,120,116]⟩]⟩,⟨⟨#[90,101,114,111,68,105,118,105,100,101]⟩,2,[⟨#[116,101,120,116]⟩]⟩,⟨⟨#[73,110,116,101,103,101,114]⟩,0,[]⟩,⟨⟨#[66,111,111,108,101,97,110]⟩,0,[]⟩,⟨⟨#[78,105,108]⟩,0,[]⟩,⟨⟨#[83,116,114,105,110,103]⟩,0,[]⟩,⟨⟨#[83,121,109,98,111,108]⟩,0,[]⟩,⟨⟨#[65,114,114,97,121]⟩,0,[]⟩,⟨⟨#[66,108,111,99,107]⟩,0,[]⟩,⟨⟨#[83,101,109,97,112,104,111,114,101]⟩,0,[]⟩,⟨⟨#[80,114,111,99,101,115,115]⟩,0,[]⟩,⟨⟨#[84,114,97,110,115,99,114,105,112,116]⟩,0,[]⟩,⟨⟨#[67,108,97,115,115]⟩,0,[]⟩]
def cX:List ByteArray:=[⟨#[79,98,106,101,99,116]⟩,⟨#[69,120,99,101,112,116,105,111,110]⟩,⟨#[69,114,114,111,114]⟩,⟨#[77,101,115,115,97,103,101,78,111,116,85,110,100,101,114,115,116,111,111,100]⟩,⟨#[90,101,114,111,68,105,118,105,100,101]⟩,⟨#[73,110,116,101,103,101,114]⟩,⟨#[66,111,111,108,101,97,110]⟩,⟨#[78,105,108]⟩,⟨#[83,116,114,105,110,103]⟩,⟨#[83,121,109,98,111,108]⟩,⟨#[65,114,114,97,121]⟩,⟨#[66,108,111,99,107]⟩,⟨#[83,101,109,97,112,104,111,114,101]⟩,⟨#[80,114,111,99,101,115,115]⟩,⟨#[84,114,97,110,115,99,114,105,112,116]⟩,⟨#[67,108,97,115,115]⟩]
def ir (k:Int):List ByteArray:=if k=1\/k=2\/k=3\/k=4 then [⟨#[116,101,120,116]⟩] else []
def ye:List (List TV):=[[TV.int .i64 (-1)],[TV.int .i64 0],[TV.int .i64 1],[TV.int .i64 2],[TV.int .i64 2],[TV.int .i64 0],[TV.int .i64 0],[TV.int .i64 0],[TV.int .i64 0],[TV.int .i64 0],[TV.int .i64 0],[TV.int .i64 0],[TV.int .i64 0],[TV.int .i64 0],[TV.int .i64 0],[TV.int .i64 0]]
theorem f8:bS.length=16:=rfl
theorem jI {i:Nat} (h:i<16):∃x,bS[i]?=some x/\(bQ cX)[i]?=some [.str x.name]/\ye[i]?=some [.int .i64 x.parent]/\ir (i:Int)=x.fields/\bS.take (i+1)=bS.take i++[x]:=by
 match i,h with
 | 0,_=>exact⟨_,rfl,rfl,rfl,rfl,rfl⟩
 | 1,_=>exact⟨_,rfl,rfl,rfl,rfl,rfl⟩
 | 2,_=>exact⟨_,rfl,rfl,rfl,rfl,rfl⟩
 | 3,_=>exact⟨_,rfl,rfl,rfl,rfl,rfl⟩
 | 4,_=>exact⟨_,rfl,rfl,rfl,rfl,rfl⟩
 | 5,_=>exact⟨_,rfl,rfl,rfl,rfl,rfl⟩
 | 6,_=>exact⟨_,rfl,rfl,rfl,rfl,rfl⟩
 | 7,_=>exact⟨_,rfl,rfl,rfl,rfl,rfl⟩
 | 8,_=>exact⟨_,rfl,rfl,rfl,rfl,rfl⟩
 | 9,_=>exact⟨_,rfl,rfl,rfl,rfl,rfl⟩
 | 10,_=>exact⟨_,rfl,rfl,rfl,rfl,rfl⟩
 | 11,_=>exact⟨_,rfl,rfl,rfl,rfl,rfl⟩
 | 12,_=>exact⟨_,rfl,rfl,rfl,rfl,rfl⟩
 | 13,_=>exact⟨_,rfl,rfl,rfl,rfl,rfl⟩
 | 14,_=>exact⟨_,rfl,rfl,rfl,rfl,rfl⟩
 | 15,_=>exact⟨_,rfl,rfl,rfl,rfl,rfl⟩
 | n+16,h=>omega
section
variable {G:World->Prop}
theorem qf:Ct Tryz.prog G 289 [] (fun K=>.sl K 1 (bQ cX)):=by
 refine au Tryz.func289 rfl Tryz.ntmps289 rfl rfl fun w0 _ hG=>?_
 repeat' (first|refine W_ ?_|refine cK ?_)
 refine aM (r1:=.tmp 0) (t1:=.sl w0.heap.size 1 (bQ cX)) (.inr rfl) rfl (.tmp _ _ rfl) (fun _=>?_)
 exact cZ (f:=fun s:ByteArray=>[TV.str s]) (f':=fun s:ByteArray=>[TV.str s]) (fun x=>.cons (.flat rfl) .nil) cX
theorem ql:Ct Tryz.prog G 298 [] (fun K=>.sl K 1 (bQ cX)):=by
 refine au Tryz.func298 rfl Tryz.ntmps298 rfl rfl fun w0 _ hG=>?_
 repeat' (first|refine W_ ?_|refine cK ?_)
 refine aM (r1:=.tmp 0) (t1:=.sl w0.heap.size 1 (bQ cX)) (.inr rfl) rfl (.tmp _ _ rfl) (fun _=>?_)
 exact cZ (f:=fun s:ByteArray=>[TV.str s]) (f':=fun s:ByteArray=>[TV.str s]) (fun x=>.cons (.flat rfl) .nil) cX
theorem xq (tu:TV) (k:Int) (h:k<16):Ct Tryz.prog G 290 [tu,.int .i64 k] (fun K=>.sl K 1 (bQ (ir k))):=by
 refine au Tryz.func290 rfl Tryz.ntmps290 rfl rfl fun w0 _ hG=>?_
 by_cases hk:k=1\/k=2\/k=3\/k=4
 ·rw[show ir k=[⟨#[116,101,120,116]⟩] from if_pos hk]
  repeat' (first|refine W_ ?_|refine cK ?_|refine g_ (fun hg=>?_) (fun hg=>?_))
  all_goals first
    | (exfalso;omega)
    | (refine aM x_ rfl (.tmp _ _ rfl) (fun _=>?_)
       exact cZ (f:=fun s:ByteArray=>[TV.str s]) (f':=fun s:ByteArray=>[TV.str s]) (fun x=>.cons (.flat rfl) .nil) [⟨#[116,101,120,116]⟩])
 ·rw[show ir k=[] from if_neg hk]
  repeat' (first|refine W_ ?_|refine cK ?_)
  all_goals first
    | (exfalso;omega)
    | (refine aM x_ rfl (.tmp _ _ rfl) (fun _=>?_)
       exact cZ (f:=fun s:ByteArray=>[TV.str s]) (f':=fun s:ByteArray=>[TV.str s]) (fun x=>.cons (.flat rfl) .nil) [])
theorem zA (hst:aC G) (rest:List TV):Ct Tryz.prog G 240 [.cp 0 (.nils::rest)] (fun K=>.sl K 3 (bS.map (aa.tw K))):=by
 refine au Tryz.func240 rfl Tryz.ntmps240 rfl rfl fun w0 _ hG=>?_
 repeat' (first|refine H_ 3 ?_|refine ad hG hst (qf) ?_|(refine jZ ?_;intro ss bb))
 refine⟨?_⟩
 repeat' (first|refine W_ ?_|refine cK ?_)
 apply aj (X:=Nat×Nat) [0,4,5] (fun x=>[(6,.int .i64 (x.1:Int)),(3,.ms ss x.2 0 x.1)]) (fun x=>[(ss,x.2,.row 3 ((bS.take x.1).map (aa.tw w0.heap.size)))]) (fun x=>x.1<=16) (fun x=>16 - x.1) (0,bb) (Zd _)
 exact kp_;exact nw_
 ·exact .refl _
 rintro ⟨i,b⟩ hi
 dsimp only at hi |-
 by_cases hlt:i<16
 ·obtain⟨x,hx,h1,h2,h3,h4⟩:=jI hlt
  unfold ye at h2
  have hle:((bS.take i).map (aa.tw w0.heap.size)).length=i:=by rw[Ze,Zu,f8];omega
  repeat' (first|refine W_ ?_|(with_reducible apply dI (id:=7) 14;kernel_rfl;kernel_rfl;kernel_rfl;(repeat (first|exact Cut.zero _|apply Cut.succ)))|with_reducible refine eu (by kernel_rfl) (by kernel_rfl) ?_|with_reducible refine gu ?_|with_reducible refine ei ?_|with_reducible refine ek rfl ?_|refine gw rfl rfl rfl rr_ ?_|refine et rfl rfl rfl rr_ rfl rfl rfl ?_|refine dr rfl rfl rfl rr_ rfl rfl ?_|(refine ks rfl rfl rfl rr_ dd_ ?_)|(refine ky rfl rfl rfl rr_ dd_ ?_)|(refine cA rfl rfl rfl rr_ (fun hg=>?_) (fun hg=>?_))|(refine bX rfl rfl rfl rr_ (fun hg=>?_) (fun hg=>?_))|((with_reducible apply d_y);exact y_;rfl)|((with_reducible apply aeE);rfl;kernel_rfl;(repeat (first|exact bD.nil|((with_reducible apply bD.cons);rfl;exact .same _)));exact hG;exact hst;exact xq _ _ (by omega))|refine adv ?_|refine agl ?_|(refine uA ?_;intro bb))
  have hrow:(bS.take i).map (aa.tw w0.heap.size)++[[TV.str x.name,.int .i64 x.parent,.sl w0.heap.size 1 (bQ (ir i))]]=(bS.take (i+1)).map (aa.tw w0.heap.size):=by
    rw[h4,h3,Z1];rfl
  rw[hrow]
  exact ag (i+1,bb) (by dsimp only;omega) (by dsimp only;omega) (.of _ nw_ od_ pk_)
 ·obtain rfl:i=16:=by omega
  repeat' refine W_ ?_
  apply aj (X:=Unit) [0,3] (fun _=>[(7,.int .i64 0)]) (fun _=>[(ss,b,.row 3 (bS.map (aa.tw w0.heap.size)))]) (fun _=>True) (fun _=>0) () trivial
  exact kp_;exact nw_
  ·exact .refl _
  rintro _ -
  repeat' refine W_ ?_
  refine aM x_ rfl (.tmp _ _ rfl) (fun _=>?_)
  exact yT (fun x=>aa.fin _ _ _ x) Zi
end
def nR {α:Type} (mk:α->Nat×Nat->List TV) (l:List α) (ps:List (Nat×Nat)):List (List TV):=List.zipWith mk l ps
def nO {α:Type} (ob:α->aW) (l:List α) (ps:List (Nat×Nat)):aJ:=List.zipWith (fun x p=>(p.1,p.2,ob x)) l ps
theorem rz {α:Type} (mk:α->Nat×Nat->List TV) {l:List α} {ps:List (Nat×Nat)} (h:ps.length=l.length):(nR mk l ps).length=l.length:=by simp[nR,h]
theorem dV {α:Type} {l:List α} {i:Nat} (h:i<l.length):l.take (i+1)=l.take i++[l[i]]:=by rw[Z6,Za h];rfl
theorem lX {α:Type} (ob:α->aW) {l:List α} {ps:List (Nat×Nat)} {i:Nat} (h:i<l.length) (hp:ps.length=i) (p:Nat×Nat):nO ob (l.take (i+1)) (ps++[p])=nO ob (l.take i) ps++[(p.1,p.2,ob l[i])]:=by
 unfold nO
 rw[dV h,Yz (by simp;omega)];rfl
theorem aex {α:Type} (mk:α->Nat×Nat->List TV) (z:List TV) {l:List α} {ps:List (Nat×Nat)} {i:Nat} (h:i<l.length) (hp:ps.length=i) (p:Nat×Nat) :
   (nR mk (l.take i) ps++List.replicate (l.length - i) z)[i]?=some z/\(nR mk (l.take i) ps++List.replicate (l.length - i) z).set i (mk l[i] p)=nR mk (l.take (i+1)) (ps++[p])++List.replicate (l.length - (i+1)) z:=by
 have hl:(nR mk (l.take i) ps).length=i:=by simp[nR];omega
 have e:l.length - i=(l.length - (i+1))+1:=by omega
 refine⟨?_, ?_⟩
 ·rw[Zr (by omega),hl,Yy,e,ZY];rfl
 ·rw[YB _ _ (by omega),hl,Yy,e,ZY,YS]
  unfold nR
  rw[dV h,Yz (by simp;omega),Zh];rfl
theorem kO (a z:Nat×Nat×aW) (T R:aJ):bW (a::((T++[z])++R)) (z::a::(T++R)):=.perm (by
 have h:((T++[z])++R).Perm (z::(T++R)):=by rw[Zh];exact Z2
 exact(h.cons a).trans (List.Perm.swap z a _))
def fc (x:aa) (p:Nat×Nat):List TV:=[.str x.name,.int .i64 x.parent,.ms p.1 p.2 0 x.fields.length]
def ga (x:aa):aW:=.row 1 (bQ x.fields)
def eN (x:aH) (p:Nat×Nat):List TV:=[.bool x.block,.int .i64 x.params,.int .i64 x.slots,.ms p.1 p.2 0 x.instrs.length]
def fN (x:aH):aW:=.row 4 (x.instrs.map (ak.tw 0))
section
variable {G:World->Prop}
theorem lG (hst:aC G) (lo:Nat) (l:List ByteArray) (hn:l.length<=1048576):CtM Tryz.prog G 112 [.sl lo 1 (bQ l)] [] (fun _:Nat×Nat=>True) (fun y=>[(y.1,y.2,.row 1 (bQ l))]) (fun y=>.ms y.1 y.2 0 l.length):=by
 refine aA Tryz.func112 rfl Tryz.ntmps112 rfl rfl rfl fun w0 R gs objsR hG hR=>?_
 obtain rfl:=hR.inv0
 clear hR
 have hlen:=ch l
 have h0:=fA (fun s:ByteArray=>[TV.str s]) [.str ⟨#[]⟩] l
 repeat' (first|refine W_ ?_|(refine gG ?_;intro ss bb))
 generalize ss=so;generalize bb=bo
 apply aj (X:=Nat) [0,3,1000000] (fun i=>[(4,.int .i64 (i:Int))]) (fun i=>(so,bo,.row 1 (iq (fun s:ByteArray=>[TV.str s]) [.str ⟨#[]⟩] l i))::R) (fun i=>i<=l.length) (fun i=>l.length - i) 0 (Zd _)
 exact kp_;exact nw_
 ·rw[<- h0];exact .refl _
 intro i hi
 try dsimp only
 by_cases hlt:i<l.length
 ·obtain⟨hrow,hset⟩:=gl (fun s:ByteArray=>[TV.str s]) [.str ⟨#[]⟩] hlt
  have hra:=eM hlt
  generalize l[i]=x at hset hra
  try dsimp only at hset
  repeat' (first|refine W_ ?_|refine bm ?_)
  refine ag (i+1) (by omega) (by omega) (.of _ nw_ od_ (by rw[<- hset];exact .refl _))
 ·obtain rfl:i=l.length:=by omega
  rw[fu]
  repeat' refine W_ ?_
  exact aD x_ rfl (so,bo) trivial rfl (.cons _ _ _ _ (.nil R)) pk_ (.tmp _ _ rfl) rfl
theorem uL (hst:aC G) (lo:Nat) (l:List ak) (hb:l.length<=1048576/\∀y∈l,ak.small 1048576 y):CtM Tryz.prog G 251 [.sl lo 4 (l.map (ak.tw lo))] [] (fun _:Nat×Nat=>True) (fun y=>[(y.1,y.2,.row 4 (l.map (ak.tw 0)))]) (fun y=>.ms y.1 y.2 0 l.length):=by
 refine aA Tryz.func251 rfl Tryz.ntmps251 rfl rfl rfl fun w0 R gs objsR hG hR=>?_
 obtain rfl:=hR.inv0
 clear hR
 have hlen:=ak.len lo l
 have hl1:=hb.1
 have h0:=fA (ak.tw 0) ak.tz l
 repeat' (first|refine W_ ?_|(refine gG ?_;intro ss bb))
 generalize ss=so;generalize bb=bo
 apply aj (X:=Nat) [0,3,1000000] (fun i=>[(4,.int .i64 (i:Int))]) (fun i=>(so,bo,.row 4 (iq (ak.tw 0) ak.tz l i))::R) (fun i=>i<=l.length) (fun i=>l.length - i) 0 (Zd _)
 exact kp_;exact nw_
 ·rw[<- h0];exact .refl _
 intro i hi
 try dsimp only
 by_cases hlt:i<l.length
 ·obtain⟨hrow,hset⟩:=gl (ak.tw 0) ak.tz hlt
  have hra:(l.map (ak.tw lo))[i]?=some (l[i].tw lo):=aK hlt
  have hbi:=hb.2 _ (Zb hlt)
  generalize l[i]=x at hset hra hbi
  have hct:=zY hst lo x hbi
  unfold ak.tw at hct
  rw[show x.tw lo=[.int .i64 x.op,.int .i64 x.a,.int .i64 x.b,.str x.text] from rfl] at hra
  replace hrow:(iq (ak.tw 0) ak.tz l i)[i]?=some [.int .i64 0,.int .i64 0,.int .i64 0,.str ⟨#[]⟩]:=hrow
  repeat' (first|refine W_ ?_|refine ad hG hst (hct) ?_|refine bm ?_)
  refine ag (i+1) (by omega) (by omega) (.of _ nw_ od_ (by rw[<- hset];exact .refl _))
 ·obtain rfl:i=l.length:=by omega
  rw[fu]
  repeat' refine W_ ?_
  exact aD x_ rfl (so,bo) trivial rfl (.cons _ _ _ _ (.nil R)) pk_ (.tmp _ _ rfl) rfl
theorem tU (hst:aC G) (lo:Nat) (l:List aF) (hb:l.length<=1048576/\∀y∈l,aF.small 1048576 y):CtM Tryz.prog G 110 [.sl lo 4 (l.map (aF.tw lo))] [] (fun _:Nat×Nat=>True) (fun y=>[(y.1,y.2,.row 4 (l.map (aF.tw 0)))]) (fun y=>.ms y.1 y.2 0 l.length):=by
 refine aA Tryz.func110 rfl Tryz.ntmps110 rfl rfl rfl fun w0 R gs objsR hG hR=>?_
 obtain rfl:=hR.inv0
 clear hR
 have hlen:=aF.len lo l
 have hl1:=hb.1
 have h0:=fA (aF.tw 0) aF.tz l
 repeat' (first|refine W_ ?_|(refine gG ?_;intro ss bb))
 generalize ss=so;generalize bb=bo
 apply aj (X:=Nat) [0,3,1000000] (fun i=>[(4,.int .i64 (i:Int))]) (fun i=>(so,bo,.row 4 (iq (aF.tw 0) aF.tz l i))::R) (fun i=>i<=l.length) (fun i=>l.length - i) 0 (Zd _)
 exact kp_;exact nw_
 ·rw[<- h0];exact .refl _
 intro i hi
 try dsimp only
 by_cases hlt:i<l.length
 ·obtain⟨hrow,hset⟩:=gl (aF.tw 0) aF.tz hlt
  have hra:(l.map (aF.tw lo))[i]?=some (l[i].tw lo):=aK hlt
  have hbi:=hb.2 _ (Zb hlt)
  generalize l[i]=x at hset hra hbi
  have hct:=aaz hst lo x hbi
  unfold aF.tw at hct
  rw[show x.tw lo=[.int .i64 x.owner,.bool x.class_,.str x.selector,.int .i64 x.code] from rfl] at hra
  replace hrow:(iq (aF.tw 0) aF.tz l i)[i]?=some [.int .i64 0,.bool false,.str ⟨#[]⟩,.int .i64 0]:=hrow
  repeat' (first|refine W_ ?_|refine ad hG hst (hct) ?_|refine bm ?_)
  refine ag (i+1) (by omega) (by omega) (.of _ nw_ od_ (by rw[<- hset];exact .refl _))
 ·obtain rfl:i=l.length:=by omega
  rw[fu]
  repeat' refine W_ ?_
  exact aD x_ rfl (so,bo) trivial rfl (.cons _ _ _ _ (.nil R)) pk_ (.tmp _ _ rfl) rfl
theorem pl (hst:aC G) (lo:Nat) (x:aa) (hb:x.small 1048576):CtM Tryz.prog G 188 [.agg [.str x.name,.int .i64 x.parent,.sl lo 1 (bQ x.fields)]] [] (fun _:Nat×Nat=>True) (fun y=>[(y.1,y.2,.row 1 (bQ x.fields))]) (fun y=>.agg [.str x.name,.int .i64 x.parent,.ms y.1 y.2 0 x.fields.length]):=by
 refine aA Tryz.func188 rfl Tryz.ntmps188 rfl rfl rfl fun w0 R gs objsR hG hR=>?_
 obtain rfl:=hR.inv0
 clear hR
 have hin:=lG hst lo x.fields hb.2.1
 repeat' (first|refine W_ ?_|refine aN ?_|(refine am ?_;intro ss bb)|refine ac ?_|((with_reducible apply aB);rfl;kernel_rfl;(repeat (first|exact ay.nil|((with_reducible apply ay.cons);rfl)));exact hG;exact hin;exact .nil _;intro y hy;refine bF ?_))
 refine aD x_ rfl y trivial rfl (.cons _ _ _ _ (.nil R)) pk_ (.cell _ _ _ _ _ rfl mm_ (by kernel_rfl) (by kernel_rfl) (by kernel_rfl)) rfl
theorem iZ (hst:aC G) (lo:Nat) (l:List aa) (hb:l.length<=1048576/\∀y∈l,aa.small 1048576 y):CtM Tryz.prog G 108 [.sl lo 3 (l.map (aa.tw lo))] [] (fun y:(Nat×Nat)×List (Nat×Nat)=>y.2.length=l.length) (fun y=>(y.1.1,y.1.2,.row 3 (nR fc l y.2))::nO ga l y.2) (fun y=>.ms y.1.1 y.1.2 0 l.length):=by
 refine aA Tryz.func108 rfl Tryz.ntmps108 rfl rfl rfl fun w0 R gs objsR hG hR=>?_
 obtain rfl:=hR.inv0
 clear hR
 have hlen:=aa.len lo l
 have hl1:=hb.1
 have h0:List.replicate l.length aa.tz=nR fc (l.take 0) []++List.replicate (l.length - 0) aa.tz:=by simp[nR]
 repeat' (first|refine W_ ?_|(refine gG ?_;intro ss bb))
 generalize ss=so;generalize bb=bo
 apply aj (X:=Nat×List (Nat×Nat)) [0,3,1000000] (fun x=>[(4,.int .i64 (x.1:Int))]) (fun x=>(so,bo,.row 3 (nR fc (l.take x.1) x.2++List.replicate (l.length - x.1) aa.tz))::(nO ga (l.take x.1) x.2++R)) (fun x=>x.1<=l.length/\x.2.length=x.1) (fun x=>l.length - x.1) (0,[]) ⟨Zd _,rfl⟩
 exact kp_;exact nw_
 ·rw[<- h0];exact .refl _
 rintro ⟨i,ps⟩ ⟨hi,hps⟩
 dsimp only at hi hps |-
 by_cases hlt:i<l.length
 ·have hrs:=fun p=>aex fc aa.tz hlt hps p
  have hos:=fun p=>lX ga hlt hps p
  have hra:(l.map (aa.tw lo))[i]?=some (l[i].tw lo):=aK hlt
  have hbi:=hb.2 _ (Zb hlt)
  generalize l[i]=x at hrs hos hra hbi
  have hct:=pl hst lo x hbi
  rw[show x.tw lo=[.str x.name,.int .i64 x.parent,.sl lo 1 (bQ x.fields)] from rfl] at hra
  have hrow:(nR fc (l.take i) ps++List.replicate (l.length - i) aa.tz)[i]?=some [.str ⟨#[]⟩,.int .i64 0,.nils]:=(hrs (0,0)).1
  generalize nO ga (l.take i) ps=T at hos |-
  repeat' (first|refine W_ ?_|((with_reducible apply aB);rfl;kernel_rfl;(repeat (first|exact ay.nil|((with_reducible apply ay.cons);rfl)));exact hG;exact hct;exact .nil _;intro y hy;refine bF ?_)|refine bm ?_)
  refine ag (i+1,ps++[y]) ⟨by dsimp only;omega,by dsimp only;simp[hps]⟩ (by dsimp only;omega) (.of _ nw_ od_ ?_)
  dsimp only
  rw[hos y,<- (hrs y).2]
  exact kO _ _ T R
 ·obtain rfl:i=l.length:=by omega
  rw[Zc (Zf _),Yy,YY,Zo]
  repeat' refine W_ ?_
  exact aD x_ rfl ((so,bo),ps) hps rfl (.cons _ _ _ _ (.app _ R)) (.refl _) (.tmp _ _ rfl) rfl
theorem aac (hst:aC G) (lo:Nat) (x:aH) (hb:x.small 1048576):CtM Tryz.prog G 189 [.agg [.bool x.block,.int .i64 x.params,.int .i64 x.slots,.sl lo 4 (x.instrs.map (ak.tw lo))]] [] (fun _:Nat×Nat=>True) (fun y=>[(y.1,y.2,.row 4 (x.instrs.map (ak.tw 0)))]) (fun y=>.agg [.bool x.block,.int .i64 x.params,.int .i64 x.slots,.ms y.1 y.2 0 x.instrs.length]):=by
 refine aA Tryz.func189 rfl Tryz.ntmps189 rfl rfl rfl fun w0 R gs objsR hG hR=>?_
 obtain rfl:=hR.inv0
 clear hR
 have hin:=uL hst lo x.instrs hb
 repeat' (first|refine W_ ?_|refine aN ?_|(refine am ?_;intro ss bb)|refine ac ?_|((with_reducible apply aB);rfl;kernel_rfl;(repeat (first|exact ay.nil|((with_reducible apply ay.cons);rfl)));exact hG;exact hin;exact .nil _;intro y hy;refine bF ?_))
 refine aD x_ rfl y trivial rfl (.cons _ _ _ _ (.nil R)) pk_ (.cell _ _ _ _ _ rfl mm_ (by kernel_rfl) (by kernel_rfl) (by kernel_rfl)) rfl
theorem wG (hst:aC G) (lo:Nat) (l:List aH) (hb:l.length<=1048576/\∀y∈l,aH.small 1048576 y):CtM Tryz.prog G 109 [.sl lo 4 (l.map (aH.tw lo))] [] (fun y:(Nat×Nat)×List (Nat×Nat)=>y.2.length=l.length) (fun y=>(y.1.1,y.1.2,.row 4 (nR eN l y.2))::nO fN l y.2) (fun y=>.ms y.1.1 y.1.2 0 l.length):=by
 refine aA Tryz.func109 rfl Tryz.ntmps109 rfl rfl rfl fun w0 R gs objsR hG hR=>?_
 obtain rfl:=hR.inv0
 clear hR
 have hlen:=aH.len lo l
 have hl1:=hb.1
 have h0:List.replicate l.length aH.tz=nR eN (l.take 0) []++List.replicate (l.length - 0) aH.tz:=by simp[nR]
 repeat' (first|refine W_ ?_|(refine gG ?_;intro ss bb))
 generalize ss=so;generalize bb=bo
 apply aj (X:=Nat×List (Nat×Nat)) [0,3,1000000] (fun x=>[(4,.int .i64 (x.1:Int))]) (fun x=>(so,bo,.row 4 (nR eN (l.take x.1) x.2++List.replicate (l.length - x.1) aH.tz))::(nO fN (l.take x.1) x.2++R)) (fun x=>x.1<=l.length/\x.2.length=x.1) (fun x=>l.length - x.1) (0,[]) ⟨Zd _,rfl⟩
 exact kp_;exact nw_
 ·rw[<- h0];exact .refl _
 rintro ⟨i,ps⟩ ⟨hi,hps⟩
 dsimp only at hi hps |-
 by_cases hlt:i<l.length
 ·have hrs:=fun p=>aex eN aH.tz hlt hps p
  have hos:=fun p=>lX fN hlt hps p
  have hra:(l.map (aH.tw lo))[i]?=some (l[i].tw lo):=aK hlt
  have hbi:=hb.2 _ (Zb hlt)
  generalize l[i]=x at hrs hos hra hbi
  have hct:=aac hst lo x hbi
  rw[show x.tw lo=[.bool x.block,.int .i64 x.params,.int .i64 x.slots,.sl lo 4 (x.instrs.map (ak.tw lo))] from rfl] at hra
  have hrow:(nR eN (l.take i) ps++List.replicate (l.length - i) aH.tz)[i]?=some [.bool false,.int .i64 0,.int .i64 0,.nils]:=(hrs (0,0)).1
  generalize nO fN (l.take i) ps=T at hos |-
  repeat' (first|refine W_ ?_|((with_reducible apply aB);rfl;kernel_rfl;(repeat (first|exact ay.nil|((with_reducible apply ay.cons);rfl)));exact hG;exact hct;exact .nil _;intro y hy;refine bF ?_)|refine bm ?_)
  refine ag (i+1,ps++[y]) ⟨by dsimp only;omega,by dsimp only;simp[hps]⟩ (by dsimp only;omega) (.of _ nw_ od_ ?_)
  dsimp only
  rw[hos y,<- (hrs y).2]
  exact kO _ _ T R
 ·obtain rfl:i=l.length:=by omega
  rw[Zc (Zf _),Yy,YY,Zo]
  repeat' refine W_ ?_
  exact aD x_ rfl ((so,bo),ps) hps rfl (.cons _ _ _ _ (.app _ R)) (.refl _) (.tmp _ _ rfl) rfl
end
end Go.Proofs.YtofnnnpahglfdaaGreatDoor
