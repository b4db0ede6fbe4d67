/- Part 13 of the proof: the texts LwU. -/
import Derived.Test.YtifcomgnmokimaaGreatDoorRt8
set_option linter.all false
set_option maxHeartbeats 2000000
set_option maxRecDepth 20000
namespace Go.Proofs.YtifcomgnmokimaaGreatDoor
open Go Go.RowKit
section
variable {G:World->Prop}
theorem uW (_:ay G) (lo:Nat) (l:List Int) (left:Int) (h:0<=left/\left<=1048576) (hb:l.length<=9223372036854775807):CtM Tryz.prog G 21 [.sl lo 1 (aS l),.int .i64 left] [] (fun y:Int=>-1<=y/\y<=left/\(0<=y->l.length<=1048576)) (fun _=>[]) (fun y=>.int .i64 y):=by
 refine au Tryz.func21 rfl Tryz.ntmps21 rfl rfl rfl fun w0 R gs objsR hG hR=>?_
 obtain rfl:=hR.inv0
 clear hR
 have hlen:=aj l
 by_cases hn:left - l.length<0
 ·repeat' refine W_ ?_
  exact aw x_ rfl (-1) ⟨by omega,by omega,fun h=>by omega⟩ rfl (.nil R) (.refl _) (.tmp _ _ rfl) rfl
 ·repeat' refine W_ ?_
  exact aw x_ rfl (left - l.length) ⟨by omega,by omega,fun _=>by omega⟩ rfl (.nil R) (.refl _) (.tmp _ _ rfl) rfl
theorem uN (_:ay G) (l1 l2:Nat) (l:List Int) (hn:l.length<=1048576):Ct Tryz.prog G 42 [.sl l1 1 (aS l),.sl l2 1 (aS l)] (fun _=>.bool true):=by
 refine av Tryz.func42 rfl Tryz.ntmps42 rfl rfl fun w0 _ hG=>?_
 have hlen:=aj l
 repeat' refine W_ ?_
 apply ap (X:=Nat) [0,1] (fun i=>[(5,.int .i64 (i:Int))]) (fun _=>[]) (fun i=>i<=l.length) (fun i=>l.length - i) 0 (Ze _)
 exact kp_;exact nw_
 ·exact .refl _
 intro i hi
 try dsimp only
 by_cases hlt:i<l.length
 ·have hrow:=lE hlt
  generalize l[i]=x at hrow
  repeat' refine V_ ?_
  all_goals first
    | exact ah (i+1) (by omega) (by omega) (.of _ nw_ od_ pk_)
    | (exfalso;simp at hc;done)
 ·repeat' refine W_ ?_
  exact r1_
end
def ab.tw (lo:Nat) (x:ab):List TV:=[.int .i64 x.kind,.int .i64 x.number,.str x.text]
def ab.small (n:Nat) (x:ab):Prop:=(x.text.size<=n)
def ab.tz:List TV:=[.int .i64 0,.int .i64 0,.str ⟨#[]⟩]
theorem ab.fin (B K:Nat) (objs:aG) (x:ab):jr B objs K (x.tw B) (x.tw K):=.cons (.flat rfl) (.cons (.flat rfl) (.cons (.flat rfl) (.nil)))
theorem ab.len (lo:Nat) (l:List ab):(l.map (ab.tw lo)).length=l.length:=by simp
section
variable {G:World->Prop}
theorem f9 (hst:ay G) (lo:Nat) (x:ab) (left:Int) (h:0<=left/\left<=1048576) (hb:x.small 9223372036854775807):CtM Tryz.prog G 10 [.agg (x.tw lo),.int .i64 left] [] (fun y:Int=>-1<=y/\y<=left/\(0<=y->x.small 1048576)) (fun _=>[]) (fun y=>.int .i64 y):=by
 refine au Tryz.func10 rfl Tryz.ntmps10 rfl rfl rfl fun w0 R gs objsR hG hR=>?_
 obtain rfl:=hR.inv0
 clear hR
 unfold ab.small at hb
 have hb1:x.text.size<=9223372036854775807:=hb
 unfold ab.tw
 repeat' (first|refine W_ ?_|refine aJ ?_|refine c_ (fun hc=>?_) (fun hc=>?_))
 all_goals first
   | exact aw x_ rfl (-1) ⟨by omega,by omega,fun h=>by omega⟩ rfl (.nil R) (.refl _) (.tmp _ _ rfl) rfl
   | (refine aw x_ rfl _ ⟨?_, ?_,fun _=>?_⟩ rfl (.nil R) (.refl _) (.tmp _ _ rfl) rfl
      ·omega
      ·omega
      ·show _<=_;omega)
theorem kw (hst:ay G) (lo:Nat) (l:List ab) (left:Int) (h:0<=left/\left<=1048576) (hb:l.length<=9223372036854775807/\∀y∈l,ab.small 9223372036854775807 y):CtM Tryz.prog G 158 [.sl lo 3 (l.map (ab.tw lo)),.int .i64 left] [] (fun y:Int=>-1<=y/\y<=left/\(0<=y->l.length<=1048576/\∀y∈l,ab.small 1048576 y)) (fun _=>[]) (fun y=>.int .i64 y):=by
 refine au Tryz.func158 rfl Tryz.ntmps158 rfl rfl rfl fun w0 R gs objsR hG hR=>?_
 obtain rfl:=hR.inv0
 clear hR
 have hlen:=ab.len lo l
 have hl1:=hb.1
 by_cases hn:left - l.length<0
 ·repeat' refine W_ ?_
  exact aw x_ rfl (-1) ⟨by omega,by omega,fun h=>by omega⟩ rfl (.nil R) (.refl _) (.tmp _ _ rfl) rfl
 ·repeat' refine W_ ?_
  apply ap (X:=Nat×Int) [0,1000000] (fun x=>[(5,.int .i64 (x.1:Int)),(1,.int .i64 x.2)]) (fun _=>R) (fun x=>x.1<=l.length/\0<=x.2/\x.2<=left/\∀y∈l.take x.1,ab.small 1048576 y) (fun x=>l.length - x.1) (0,left - l.length) ⟨Ze _,by dsimp only;omega,by dsimp only;omega,by simp⟩
  exact kp_;exact nw_
  ·exact .refl _
  rintro ⟨i,lf⟩ ⟨hi,h0,h1,hs⟩
  dsimp only at hi h0 h1 hs |-
  by_cases hlt:i<l.length
  ·have hrow:(l.map (ab.tw lo))[i]?=some (l[i].tw lo):=aK hlt
   have hbi:=hb.2 _ (Zb hlt)
   have hta:=aY (p:=ab.small 1048576) hlt hs
   generalize l[i]=x at hrow hbi hta
   have hct:=f9 hst lo x lf (by omega) hbi
   unfold ab.tw at hct
   rw[show x.tw lo=[.int .i64 x.kind,.int .i64 x.number,.str x.text] from rfl] at hrow
   repeat' (first|refine W_ ?_|((with_reducible apply aA);rfl;kernel_rfl;(repeat (first|exact az.nil|((with_reducible apply az.cons);rfl)));exact hG;exact hct;exact .nil _;intro y hy;refine bT ?_)|refine c_ (fun hc=>?_) (fun hc=>?_))
   all_goals first
     | exact aw x_ rfl (-1) ⟨by omega,by omega,fun h=>by omega⟩ rfl (.nil R) (.refl _) (.tmp _ _ rfl) rfl
     | exact ah (i+1,y) ⟨by dsimp only;omega,by dsimp only;omega,by dsimp only;omega,hta (hy.2.2 (by omega))⟩ (by dsimp only;omega) (.of _ nw_ od_ pk_)
  ·rw[Zc (by omega)] at hs
   repeat' refine W_ ?_
   exact aw x_ rfl lf ⟨by omega,by omega,fun _=>⟨by omega,hs⟩⟩ rfl (.nil R) (.refl _) (.tmp _ _ rfl) rfl
theorem ix (hst:ay G) (lo:Nat) (x:ab) (hb:x.small 1048576):Ct Tryz.prog G 12 [.agg (x.tw lo)] (fun K=>.agg (x.tw K)):=by
 refine av Tryz.func12 rfl Tryz.ntmps12 rfl rfl fun w0 _ hG=>?_
 unfold ab.small at hb
 skip
 repeat' (first|refine W_ ?_|refine aJ ?_|(refine ak ?_;intro ss bb)|refine ac ?_)
 refine aN x_ rfl (.cell _ _ _ _ _ rfl mm_ (by kernel_rfl) (by kernel_rfl) (by kernel_rfl)) (fun _=>?_)
 exact mH (ab.fin _ _ _ x)
theorem jY (hst:ay G) (l1 l2:Nat) (x:ab) (hb:x.small 1048576):Ct Tryz.prog G 43 [.agg (x.tw l1),.agg (x.tw l2)] (fun _=>.bool true):=by
 refine av Tryz.func43 rfl Tryz.ntmps43 rfl rfl fun w0 _ hG=>?_
 unfold ab.small at hb
 have hnetext:¬ x.text≠x.text:=fun h=>h rfl
 unfold ab.tw
 repeat' (first|refine W_ ?_|refine aJ ?_)
 all_goals first
   | (exfalso;simp at hc;done)
   | (exact r1_)
theorem jb (hst:ay G) (l1 l2:Nat) (l:List ab) (hb:l.length<=1048576/\∀y∈l,ab.small 1048576 y):Ct Tryz.prog G 201 [.sl l1 3 (l.map (ab.tw l1)),.sl l2 3 (l.map (ab.tw l2))] (fun _=>.bool true):=by
 refine av Tryz.func201 rfl Tryz.ntmps201 rfl rfl fun w0 _ hG=>?_
 have hlen:=ab.len l1 l
 have hlen2:=ab.len l2 l
 have hl1:=hb.1
 repeat' refine W_ ?_
 apply ap (X:=Nat) [0,1] (fun i=>[(5,.int .i64 (i:Int))]) (fun _=>[]) (fun i=>i<=l.length) (fun i=>l.length - i) 0 (Ze _)
 exact kp_;exact nw_
 ·exact .refl _
 intro i hi
 try dsimp only
 by_cases hlt:i<l.length
 ·have hr1:(l.map (ab.tw l1))[i]?=some (l[i].tw l1):=aK hlt
  have hr2:(l.map (ab.tw l2))[i]?=some (l[i].tw l2):=aK hlt
  have hbi:=hb.2 _ (Zb hlt)
  generalize l[i]=x at hr1 hr2 hbi
  have hct:=jY hst l1 l2 x hbi
  unfold ab.tw at hct
  rw[show x.tw l1=[.int .i64 x.kind,.int .i64 x.number,.str x.text] from rfl] at hr1
  rw[show x.tw l2=[.int .i64 x.kind,.int .i64 x.number,.str x.text] from rfl] at hr2
  repeat' (first|refine V_ ?_|refine ai hG hst (hct) ?_)
  exact ah (i+1) (by omega) (by omega) (.of _ nw_ od_ pk_)
 ·repeat' refine W_ ?_
  exact r1_
end
def ar.tw (lo:Nat) (x:ar):List TV:=[.int .i64 x.kind,.int .i64 x.class_,.sl lo 3 (x.fields.map (ab.tw lo)),.sl lo 1 (aS x.numbers)]
def ar.small (n:Nat) (x:ar):Prop:=(x.fields.length<=n/\∀y∈x.fields,ab.small n y)/\(x.numbers.length<=n)
def ar.tz:List TV:=[.int .i64 0,.int .i64 0,.nils,.nils]
theorem ar.fin (B K:Nat) (objs:aG) (x:ar):jr B objs K (x.tw B) (x.tw K):=.cons (.flat rfl) (.cons (.flat rfl) (.cons (df (fun x=>ab.fin B K objs x) _) (.cons (df (fun x=>.cons (.flat rfl) .nil) _) (.nil))))
theorem ar.len (lo:Nat) (l:List ar):(l.map (ar.tw lo)).length=l.length:=by simp
section
variable {G:World->Prop}
theorem wk (hst:ay G) (lo:Nat) (x:ar) (left:Int) (h:0<=left/\left<=1048576) (hb:x.small 9223372036854775807):CtM Tryz.prog G 157 [.agg (x.tw lo),.int .i64 left] [] (fun y:Int=>-1<=y/\y<=left/\(0<=y->x.small 1048576)) (fun _=>[]) (fun y=>.int .i64 y):=by
 refine au Tryz.func157 rfl Tryz.ntmps157 rfl rfl rfl fun w0 R gs objsR hG hR=>?_
 obtain rfl:=hR.inv0
 clear hR
 unfold ar.small at hb
 skip
 unfold ar.tw
 repeat' (first|refine W_ ?_|refine aJ ?_|((with_reducible apply aA);rfl;kernel_rfl;(repeat (first|exact az.nil|((with_reducible apply az.cons);rfl)));exact hG;exact kw hst lo x.fields _ (by omega) hb.1;exact .nil _;intro y1 hy1;refine bT ?_)|((with_reducible apply aA);rfl;kernel_rfl;(repeat (first|exact az.nil|((with_reducible apply az.cons);rfl)));exact hG;exact uW hst lo x.numbers _ (by omega) hb.2;exact .nil _;intro y2 hy2;refine bT ?_)|refine c_ (fun hc=>?_) (fun hc=>?_))
 all_goals first
   | exact aw x_ rfl (-1) ⟨by omega,by omega,fun h=>by omega⟩ rfl (.nil R) (.refl _) (.tmp _ _ rfl) rfl
   | (refine aw x_ rfl _ ⟨?_, ?_,fun _=>?_⟩ rfl (.nil R) (.refl _) (.tmp _ _ rfl) rfl
      ·omega
      ·omega
      ·exact⟨hy1.2.2 (by omega),hy2.2.2 (by omega)⟩)
theorem t7 (hst:ay G) (lo:Nat) (l:List ar) (left:Int) (h:0<=left/\left<=1048576) (hb:l.length<=9223372036854775807/\∀y∈l,ar.small 9223372036854775807 y):CtM Tryz.prog G 69 [.sl lo 4 (l.map (ar.tw lo)),.int .i64 left] [] (fun y:Int=>-1<=y/\y<=left/\(0<=y->l.length<=1048576/\∀y∈l,ar.small 1048576 y)) (fun _=>[]) (fun y=>.int .i64 y):=by
 refine au Tryz.func69 rfl Tryz.ntmps69 rfl rfl rfl fun w0 R gs objsR hG hR=>?_
 obtain rfl:=hR.inv0
 clear hR
 have hlen:=ar.len lo l
 have hl1:=hb.1
 by_cases hn:left - l.length<0
 ·repeat' refine W_ ?_
  exact aw x_ rfl (-1) ⟨by omega,by omega,fun h=>by omega⟩ rfl (.nil R) (.refl _) (.tmp _ _ rfl) rfl
 ·repeat' refine W_ ?_
  apply ap (X:=Nat×Int) [0,1000000] (fun x=>[(5,.int .i64 (x.1:Int)),(1,.int .i64 x.2)]) (fun _=>R) (fun x=>x.1<=l.length/\0<=x.2/\x.2<=left/\∀y∈l.take x.1,ar.small 1048576 y) (fun x=>l.length - x.1) (0,left - l.length) ⟨Ze _,by dsimp only;omega,by dsimp only;omega,by simp⟩
  exact kp_;exact nw_
  ·exact .refl _
  rintro ⟨i,lf⟩ ⟨hi,h0,h1,hs⟩
  dsimp only at hi h0 h1 hs |-
  by_cases hlt:i<l.length
  ·have hrow:(l.map (ar.tw lo))[i]?=some (l[i].tw lo):=aK hlt
   have hbi:=hb.2 _ (Zb hlt)
   have hta:=aY (p:=ar.small 1048576) hlt hs
   generalize l[i]=x at hrow hbi hta
   have hct:=wk hst lo x lf (by omega) hbi
   unfold ar.tw at hct
   rw[show x.tw lo=[.int .i64 x.kind,.int .i64 x.class_,.sl lo 3 (x.fields.map (ab.tw lo)),.sl lo 1 (aS x.numbers)] from rfl] at hrow
   repeat' (first|refine W_ ?_|((with_reducible apply aA);rfl;kernel_rfl;(repeat (first|exact az.nil|((with_reducible apply az.cons);rfl)));exact hG;exact hct;exact .nil _;intro y hy;refine bT ?_)|refine c_ (fun hc=>?_) (fun hc=>?_))
   all_goals first
     | exact aw x_ rfl (-1) ⟨by omega,by omega,fun h=>by omega⟩ rfl (.nil R) (.refl _) (.tmp _ _ rfl) rfl
     | exact ah (i+1,y) ⟨by dsimp only;omega,by dsimp only;omega,by dsimp only;omega,hta (hy.2.2 (by omega))⟩ (by dsimp only;omega) (.of _ nw_ od_ pk_)
  ·rw[Zc (by omega)] at hs
   repeat' refine W_ ?_
   exact aw x_ rfl lf ⟨by omega,by omega,fun _=>⟨by omega,hs⟩⟩ rfl (.nil R) (.refl _) (.tmp _ _ rfl) rfl
theorem wA (hst:ay G) (l1 l2:Nat) (x:ar) (hb:x.small 1048576):Ct Tryz.prog G 200 [.agg (x.tw l1),.agg (x.tw l2)] (fun _=>.bool true):=by
 refine av Tryz.func200 rfl Tryz.ntmps200 rfl rfl fun w0 _ hG=>?_
 unfold ar.small at hb
 have hsfields:=hb.1
 have hsnumbers:=hb.2
 unfold ar.tw
 repeat' (first|refine W_ ?_|refine aJ ?_|refine ae hG hst (jb hst l1 l2 x.fields hsfields) ?_|refine ae hG hst (uN hst l1 l2 x.numbers hsnumbers) ?_)
 all_goals first
   | (exfalso;simp at hc;done)
   | (exact r1_)
theorem uG (hst:ay G) (l1 l2:Nat) (l:List ar) (hb:l.length<=1048576/\∀y∈l,ar.small 1048576 y):Ct Tryz.prog G 120 [.sl l1 4 (l.map (ar.tw l1)),.sl l2 4 (l.map (ar.tw l2))] (fun _=>.bool true):=by
 refine av Tryz.func120 rfl Tryz.ntmps120 rfl rfl fun w0 _ hG=>?_
 have hlen:=ar.len l1 l
 have hlen2:=ar.len l2 l
 have hl1:=hb.1
 repeat' refine W_ ?_
 apply ap (X:=Nat) [0,1] (fun i=>[(5,.int .i64 (i:Int))]) (fun _=>[]) (fun i=>i<=l.length) (fun i=>l.length - i) 0 (Ze _)
 exact kp_;exact nw_
 ·exact .refl _
 intro i hi
 try dsimp only
 by_cases hlt:i<l.length
 ·have hr1:(l.map (ar.tw l1))[i]?=some (l[i].tw l1):=aK hlt
  have hr2:(l.map (ar.tw l2))[i]?=some (l[i].tw l2):=aK hlt
  have hbi:=hb.2 _ (Zb hlt)
  generalize l[i]=x at hr1 hr2 hbi
  have hct:=wA hst l1 l2 x hbi
  unfold ar.tw at hct
  rw[show x.tw l1=[.int .i64 x.kind,.int .i64 x.class_,.sl l1 3 (x.fields.map (ab.tw l1)),.sl l1 1 (aS x.numbers)] from rfl] at hr1
  rw[show x.tw l2=[.int .i64 x.kind,.int .i64 x.class_,.sl l2 3 (x.fields.map (ab.tw l2)),.sl l2 1 (aS x.numbers)] from rfl] at hr2
  repeat' (first|refine V_ ?_|refine ai hG hst (hct) ?_)
  exact ah (i+1) (by omega) (by omega) (.of _ nw_ od_ pk_)
 ·repeat' refine W_ ?_
  exact r1_
end
def aQ.tw (lo:Nat) (x:aQ):List TV:=[.sl lo 3 (x.classes.map (aa.tw lo)),.sl lo 4 (x.objects.map (ar.tw lo)),.sl lo 1 (ca x.output),.int .i64 x.ticks,.int .i64 x.budget,.int .i64 x.made]
def aQ.small (n:Nat) (x:aQ):Prop:=(x.classes.length<=n/\∀y∈x.classes,aa.small n y)/\(x.objects.length<=n/\∀y∈x.objects,ar.small n y)/\(x.output.length<=n/\∀y∈x.output,ByteArray.size y<=n)
def aQ.tz:List TV:=[.nils,.nils,.nils,.int .i64 0,.int .i64 0,.int .i64 0]
theorem aQ.fin (B K:Nat) (objs:aG) (x:aQ):jr B objs K (x.tw B) (x.tw K):=.cons (df (fun x=>aa.fin B K objs x) _) (.cons (df (fun x=>ar.fin B K objs x) _) (.cons (df (fun x=>.cons (.flat rfl) .nil) _) (.cons (.flat rfl) (.cons (.flat rfl) (.cons (.flat rfl) (.nil))))))
theorem aQ.len (lo:Nat) (l:List aQ):(l.map (aQ.tw lo)).length=l.length:=by simp
section
variable {G:World->Prop}
theorem zb (hst:ay G) (lo:Nat) (x:aQ) (left:Int) (h:0<=left/\left<=1048576) (hb:x.small 9223372036854775807):CtM Tryz.prog G 17 [.agg (x.tw lo),.int .i64 left] [] (fun y:Int=>-1<=y/\y<=left/\(0<=y->x.small 1048576)) (fun _=>[]) (fun y=>.int .i64 y):=by
 refine au Tryz.func17 rfl Tryz.ntmps17 rfl rfl rfl fun w0 R gs objsR hG hR=>?_
 obtain rfl:=hR.inv0
 clear hR
 unfold aQ.small at hb
 skip
 unfold aQ.tw
 repeat' (first|refine W_ ?_|refine aJ ?_|((with_reducible apply aA);rfl;kernel_rfl;(repeat (first|exact az.nil|((with_reducible apply az.cons);rfl)));exact hG;exact pB hst lo x.classes _ (by omega) hb.1;exact .nil _;intro y1 hy1;refine bT ?_)|((with_reducible apply aA);rfl;kernel_rfl;(repeat (first|exact az.nil|((with_reducible apply az.cons);rfl)));exact hG;exact t7 hst lo x.objects _ (by omega) hb.2.1;exact .nil _;intro y2 hy2;refine bT ?_)|((with_reducible apply aA);rfl;kernel_rfl;(repeat (first|exact az.nil|((with_reducible apply az.cons);rfl)));exact hG;exact mV lo x.output _ (by omega) hb.2.2;exact .nil _;intro y3 hy3;refine bT ?_)|refine c_ (fun hc=>?_) (fun hc=>?_))
 all_goals first
   | exact aw x_ rfl (-1) ⟨by omega,by omega,fun h=>by omega⟩ rfl (.nil R) (.refl _) (.tmp _ _ rfl) rfl
   | (refine aw x_ rfl _ ⟨?_, ?_,fun _=>?_⟩ rfl (.nil R) (.refl _) (.tmp _ _ rfl) rfl
      ·omega
      ·omega
      ·exact⟨hy1.2.2 (by omega),hy2.2.2 (by omega),hy3.2.2 (by omega)⟩)
theorem zH (hst:ay G) (l1 l2:Nat) (x:aQ) (hb:x.small 1048576):Ct Tryz.prog G 38 [.agg (x.tw l1),.agg (x.tw l2)] (fun _=>.bool true):=by
 refine av Tryz.func38 rfl Tryz.ntmps38 rfl rfl fun w0 _ hG=>?_
 unfold aQ.small at hb
 have hsclasses:=hb.1
 have hsobjects:=hb.2.1
 have hsoutput:=(hb.2.2).1
 unfold aQ.tw
 repeat' (first|refine W_ ?_|refine aJ ?_|refine ae hG hst (jF hst l1 l2 x.classes hsclasses) ?_|refine ae hG hst (uG hst l1 l2 x.objects hsobjects) ?_|refine ae hG hst (mU l1 l2 x.output hsoutput) ?_)
 all_goals first
   | (exfalso;simp at hc;done)
   | (exact r1_)
end
def aq.tw (lo:Nat) (x:aq):List TV:=[.int .i64 x.code,.int .i64 x.outer,.int .i64 x.home,.int .i64 x.self.kind,.int .i64 x.self.number,.str x.self.text]
def aq.small (n:Nat) (x:aq):Prop:=(ab.small n x.self)
def aq.tz:List TV:=[.int .i64 0,.int .i64 0,.int .i64 0,.int .i64 0,.int .i64 0,.str ⟨#[]⟩]
theorem aq.fin (B K:Nat) (objs:aG) (x:aq):jr B objs K (x.tw B) (x.tw K):=.cons (.flat rfl) (.cons (.flat rfl) (.cons (.flat rfl) (.cons (.flat rfl) (.cons (.flat rfl) (.cons (.flat rfl) (.nil))))))
theorem aq.len (lo:Nat) (l:List aq):(l.map (aq.tw lo)).length=l.length:=by simp
section
variable {G:World->Prop}
theorem tM (hst:ay G) (lo:Nat) (x:aq) (left:Int) (h:0<=left/\left<=1048576) (hb:x.small 9223372036854775807):CtM Tryz.prog G 71 [.agg (x.tw lo),.int .i64 left] [] (fun y:Int=>-1<=y/\y<=left/\(0<=y->x.small 1048576)) (fun _=>[]) (fun y=>.int .i64 y):=by
 refine au Tryz.func71 rfl Tryz.ntmps71 rfl rfl rfl fun w0 R gs objsR hG hR=>?_
 obtain rfl:=hR.inv0
 clear hR
 unfold aq.small at hb
 skip
 unfold aq.tw
 repeat' (first|refine W_ ?_|refine aJ ?_|((with_reducible apply aA);rfl;kernel_rfl;(repeat (first|exact az.nil|((with_reducible apply az.cons);rfl)));exact hG;exact f9 hst lo x.self _ (by omega) hb;exact .nil _;intro y1 hy1;refine bT ?_)|refine c_ (fun hc=>?_) (fun hc=>?_))
 all_goals first
   | exact aw x_ rfl (-1) ⟨by omega,by omega,fun h=>by omega⟩ rfl (.nil R) (.refl _) (.tmp _ _ rfl) rfl
   | (refine aw x_ rfl _ ⟨?_, ?_,fun _=>?_⟩ rfl (.nil R) (.refl _) (.tmp _ _ rfl) rfl
      ·omega
      ·omega
      ·exact hy1.2.2 (by omega))
theorem rA (hst:ay G) (lo:Nat) (l:List aq) (left:Int) (h:0<=left/\left<=1048576) (hb:l.length<=9223372036854775807/\∀y∈l,aq.small 9223372036854775807 y):CtM Tryz.prog G 18 [.sl lo 6 (l.map (aq.tw lo)),.int .i64 left] [] (fun y:Int=>-1<=y/\y<=left/\(0<=y->l.length<=1048576/\∀y∈l,aq.small 1048576 y)) (fun _=>[]) (fun y=>.int .i64 y):=by
 refine au Tryz.func18 rfl Tryz.ntmps18 rfl rfl rfl fun w0 R gs objsR hG hR=>?_
 obtain rfl:=hR.inv0
 clear hR
 have hlen:=aq.len lo l
 have hl1:=hb.1
 by_cases hn:left - l.length<0
 ·repeat' refine W_ ?_
  exact aw x_ rfl (-1) ⟨by omega,by omega,fun h=>by omega⟩ rfl (.nil R) (.refl _) (.tmp _ _ rfl) rfl
 ·repeat' refine W_ ?_
  apply ap (X:=Nat×Int) [0,1000000] (fun x=>[(5,.int .i64 (x.1:Int)),(1,.int .i64 x.2)]) (fun _=>R) (fun x=>x.1<=l.length/\0<=x.2/\x.2<=left/\∀y∈l.take x.1,aq.small 1048576 y) (fun x=>l.length - x.1) (0,left - l.length) ⟨Ze _,by dsimp only;omega,by dsimp only;omega,by simp⟩
  exact kp_;exact nw_
  ·exact .refl _
  rintro ⟨i,lf⟩ ⟨hi,h0,h1,hs⟩
  dsimp only at hi h0 h1 hs |-
  by_cases hlt:i<l.length
  ·have hrow:(l.map (aq.tw lo))[i]?=some (l[i].tw lo):=aK hlt
   have hbi:=hb.2 _ (Zb hlt)
   have hta:=aY (p:=aq.small 1048576) hlt hs
   generalize l[i]=x at hrow hbi hta
   have hct:=tM hst lo x lf (by omega) hbi
   unfold aq.tw at hct
   rw[show x.tw lo=[.int .i64 x.code,.int .i64 x.outer,.int .i64 x.home,.int .i64 x.self.kind,.int .i64 x.self.number,.str x.self.text] from rfl] at hrow
   repeat' (first|refine W_ ?_|((with_reducible apply aA);rfl;kernel_rfl;(repeat (first|exact az.nil|((with_reducible apply az.cons);rfl)));exact hG;exact hct;exact .nil _;intro y hy;refine bT ?_)|refine c_ (fun hc=>?_) (fun hc=>?_))
   all_goals first
     | exact aw x_ rfl (-1) ⟨by omega,by omega,fun h=>by omega⟩ rfl (.nil R) (.refl _) (.tmp _ _ rfl) rfl
     | exact ah (i+1,y) ⟨by dsimp only;omega,by dsimp only;omega,by dsimp only;omega,hta (hy.2.2 (by omega))⟩ (by dsimp only;omega) (.of _ nw_ od_ pk_)
  ·rw[Zc (by omega)] at hs
   repeat' refine W_ ?_
   exact aw x_ rfl lf ⟨by omega,by omega,fun _=>⟨by omega,hs⟩⟩ rfl (.nil R) (.refl _) (.tmp _ _ rfl) rfl
theorem uD (hst:ay G) (lo:Nat) (x:aq) (hb:x.small 1048576):Ct Tryz.prog G 96 [.agg (x.tw lo)] (fun K=>.agg (x.tw K)):=by
 refine av Tryz.func96 rfl Tryz.ntmps96 rfl rfl fun w0 _ hG=>?_
 unfold aq.small at hb
 have hsself:=hb
 repeat' (first|refine W_ ?_|refine aJ ?_|(refine ak ?_;intro ss bb)|refine ac ?_|refine ae hG hst (ix hst lo x.self (hsself)) ?_)
 refine aN x_ rfl (.cell _ _ _ _ _ rfl mm_ (by kernel_rfl) (by kernel_rfl) (by kernel_rfl)) (fun _=>?_)
 exact mH (aq.fin _ _ _ x)
theorem uF (hst:ay G) (l1 l2:Nat) (x:aq) (hb:x.small 1048576):Ct Tryz.prog G 122 [.agg (x.tw l1),.agg (x.tw l2)] (fun _=>.bool true):=by
 refine av Tryz.func122 rfl Tryz.ntmps122 rfl rfl fun w0 _ hG=>?_
 unfold aq.small at hb
 have hsself:=hb
 unfold aq.tw
 repeat' (first|refine W_ ?_|refine aJ ?_|refine ae hG hst (jY hst l1 l2 x.self hsself) ?_)
 all_goals first
   | (exfalso;simp at hc;done)
   | (exact r1_)
theorem tr (hst:ay G) (l1 l2:Nat) (l:List aq) (hb:l.length<=1048576/\∀y∈l,aq.small 1048576 y):Ct Tryz.prog G 39 [.sl l1 6 (l.map (aq.tw l1)),.sl l2 6 (l.map (aq.tw l2))] (fun _=>.bool true):=by
 refine av Tryz.func39 rfl Tryz.ntmps39 rfl rfl fun w0 _ hG=>?_
 have hlen:=aq.len l1 l
 have hlen2:=aq.len l2 l
 have hl1:=hb.1
 repeat' refine W_ ?_
 apply ap (X:=Nat) [0,1] (fun i=>[(5,.int .i64 (i:Int))]) (fun _=>[]) (fun i=>i<=l.length) (fun i=>l.length - i) 0 (Ze _)
 exact kp_;exact nw_
 ·exact .refl _
 intro i hi
 try dsimp only
 by_cases hlt:i<l.length
 ·have hr1:(l.map (aq.tw l1))[i]?=some (l[i].tw l1):=aK hlt
  have hr2:(l.map (aq.tw l2))[i]?=some (l[i].tw l2):=aK hlt
  have hbi:=hb.2 _ (Zb hlt)
  generalize l[i]=x at hr1 hr2 hbi
  have hct:=uF hst l1 l2 x hbi
  unfold aq.tw at hct
  rw[show x.tw l1=[.int .i64 x.code,.int .i64 x.outer,.int .i64 x.home,.int .i64 x.self.kind,.int .i64 x.self.number,.str x.self.text] from rfl] at hr1
  rw[show x.tw l2=[.int .i64 x.code,.int .i64 x.outer,.int .i64 x.home,.int .i64 x.self.kind,.int .i64 x.self.number,.str x.self.text] from rfl] at hr2
  repeat' (first|refine V_ ?_|refine ai hG hst (hct) ?_)
  exact ah (i+1) (by omega) (by omega) (.of _ nw_ od_ pk_)
 ·repeat' refine W_ ?_
  exact r1_
end
def ao.tw (lo:Nat) (x:ao):List TV:=[.int .i64 x.mark,.int .i64 x.code,.int .i64 x.pc,.int .i64 x.sender,.int .i64 x.outer,.int .i64 x.home,.int .i64 x.self.kind,.int .i64 x.self.number,.str x.self.text,.sl lo 3 (x.slots.map (ab.tw lo)),.sl lo 3 (x.stack.map (ab.tw lo)),.sl lo 3 (x.values.map (ab.tw lo)),.int .i64 x.other,.bool x.retry]
def ao.small (n:Nat) (x:ao):Prop:=(ab.small n x.self)/\(x.slots.length<=n/\∀y∈x.slots,ab.small n y)/\(x.stack.length<=n/\∀y∈x.stack,ab.small n y)/\(x.values.length<=n/\∀y∈x.values,ab.small n y)
def ao.tz:List TV:=[.int .i64 0,.int .i64 0,.int .i64 0,.int .i64 0,.int .i64 0,.int .i64 0,.int .i64 0,.int .i64 0,.str ⟨#[]⟩,.nils,.nils,.nils,.int .i64 0,.bool false]
theorem ao.fin (B K:Nat) (objs:aG) (x:ao):jr B objs K (x.tw B) (x.tw K):=.cons (.flat rfl) (.cons (.flat rfl) (.cons (.flat rfl) (.cons (.flat rfl) (.cons (.flat rfl) (.cons (.flat rfl) (.cons (.flat rfl) (.cons (.flat rfl) (.cons (.flat rfl) (.cons (df (fun x=>ab.fin B K objs x) _) (.cons (df (fun x=>ab.fin B K objs x) _) (.cons (df (fun x=>ab.fin B K objs x) _) (.cons (.flat rfl) (.cons (.flat rfl) (.nil))))))))))))))
theorem ao.len (lo:Nat) (l:List ao):(l.map (ao.tw lo)).length=l.length:=by simp
section
variable {G:World->Prop}
theorem ug (hst:ay G) (l1 l2:Nat) (x:ao) (hb:x.small 1048576):Ct Tryz.prog G 123 [.agg (x.tw l1),.agg (x.tw l2)] (fun _=>.bool true):=by
 refine av Tryz.func123 rfl Tryz.ntmps123 rfl rfl fun w0 _ hG=>?_
 unfold ao.small at hb
 have hsself:=hb.1
 have hsslots:=hb.2.1
 have hsstack:=hb.2.2.1
 have hsvalues:=hb.2.2.2
 unfold ao.tw
 repeat' (first|refine W_ ?_|refine aJ ?_|refine ae hG hst (jY hst l1 l2 x.self hsself) ?_|refine ae hG hst (jb hst l1 l2 x.slots hsslots) ?_|refine ae hG hst (jb hst l1 l2 x.stack hsstack) ?_|refine ae hG hst (jb hst l1 l2 x.values hsvalues) ?_|refine c_ (fun hc=>?_) (fun hc=>?_))
 all_goals first
   | (exfalso;simp at hc;done)
   | (exact r1_)
theorem sM (hst:ay G) (l1 l2:Nat) (l:List ao) (hb:l.length<=1048576/\∀y∈l,ao.small 1048576 y):Ct Tryz.prog G 40 [.sl l1 14 (l.map (ao.tw l1)),.sl l2 14 (l.map (ao.tw l2))] (fun _=>.bool true):=by
 refine av Tryz.func40 rfl Tryz.ntmps40 rfl rfl fun w0 _ hG=>?_
 have hlen:=ao.len l1 l
 have hlen2:=ao.len l2 l
 have hl1:=hb.1
 repeat' refine W_ ?_
 apply ap (X:=Nat) [0,1] (fun i=>[(5,.int .i64 (i:Int))]) (fun _=>[]) (fun i=>i<=l.length) (fun i=>l.length - i) 0 (Ze _)
 exact kp_;exact nw_
 ·exact .refl _
 intro i hi
 try dsimp only
 by_cases hlt:i<l.length
 ·have hr1:(l.map (ao.tw l1))[i]?=some (l[i].tw l1):=aK hlt
  have hr2:(l.map (ao.tw l2))[i]?=some (l[i].tw l2):=aK hlt
  have hbi:=hb.2 _ (Zb hlt)
  generalize l[i]=x at hr1 hr2 hbi
  have hct:=ug hst l1 l2 x hbi
  unfold ao.tw at hct
  rw[show x.tw l1=[.int .i64 x.mark,.int .i64 x.code,.int .i64 x.pc,.int .i64 x.sender,.int .i64 x.outer,.int .i64 x.home,.int .i64 x.self.kind,.int .i64 x.self.number,.str x.self.text,.sl l1 3 (x.slots.map (ab.tw l1)),.sl l1 3 (x.stack.map (ab.tw l1)),.sl l1 3 (x.values.map (ab.tw l1)),.int .i64 x.other,.bool x.retry] from rfl] at hr1
  rw[show x.tw l2=[.int .i64 x.mark,.int .i64 x.code,.int .i64 x.pc,.int .i64 x.sender,.int .i64 x.outer,.int .i64 x.home,.int .i64 x.self.kind,.int .i64 x.self.number,.str x.self.text,.sl l2 3 (x.slots.map (ab.tw l2)),.sl l2 3 (x.stack.map (ab.tw l2)),.sl l2 3 (x.values.map (ab.tw l2)),.int .i64 x.other,.bool x.retry] from rfl] at hr2
  repeat' (first|refine V_ ?_|refine ai hG hst (hct) ?_)
  exact ah (i+1) (by omega) (by omega) (.of _ nw_ od_ pk_)
 ·repeat' refine W_ ?_
  exact r1_
end
def ag.tw (lo:Nat) (x:ag):List TV:=[.int .i64 x.at_,.bool x.main]
def ag.small (n:Nat) (x:ag):Prop:=True
def ag.tz:List TV:=[.int .i64 0,.bool false]
theorem ag.fin (B K:Nat) (objs:aG) (x:ag):jr B objs K (x.tw B) (x.tw K):=.cons (.flat rfl) (.cons (.flat rfl) (.nil))
theorem ag.len (lo:Nat) (l:List ag):(l.map (ag.tw lo)).length=l.length:=by simp
section
variable {G:World->Prop}
theorem rH (_:ay G) (lo:Nat) (l:List ag) (left:Int) (h:0<=left/\left<=1048576) (hb:l.length<=9223372036854775807/\∀y∈l,ag.small 9223372036854775807 y):CtM Tryz.prog G 20 [.sl lo 2 (l.map (ag.tw lo)),.int .i64 left] [] (fun y:Int=>-1<=y/\y<=left/\(0<=y->l.length<=1048576/\∀y∈l,ag.small 1048576 y)) (fun _=>[]) (fun y=>.int .i64 y):=by
 refine au Tryz.func20 rfl Tryz.ntmps20 rfl rfl rfl fun w0 R gs objsR hG hR=>?_
 obtain rfl:=hR.inv0
 clear hR
 have hlen:=ag.len lo l
 have hl1:=hb.1
 by_cases hn:left - l.length<0
 ·repeat' refine W_ ?_
  exact aw x_ rfl (-1) ⟨by omega,by omega,fun h=>by omega⟩ rfl (.nil R) (.refl _) (.tmp _ _ rfl) rfl
 ·repeat' refine W_ ?_
  exact aw x_ rfl (left - l.length) ⟨by omega,by omega,fun _=>⟨by omega,fun _ _=>trivial⟩⟩ rfl (.nil R) (.refl _) (.tmp _ _ rfl) rfl
theorem tG (hst:ay G) (lo:Nat) (x:ag) (hb:x.small 1048576):Ct Tryz.prog G 98 [.agg (x.tw lo)] (fun K=>.agg (x.tw K)):=by
 refine av Tryz.func98 rfl Tryz.ntmps98 rfl rfl fun w0 _ hG=>?_
 unfold ag.small at hb
 skip
 repeat' (first|refine W_ ?_|refine aJ ?_|(refine ak ?_;intro ss bb)|refine ac ?_)
 refine aN x_ rfl (.cell _ _ _ _ _ rfl mm_ (by kernel_rfl) (by kernel_rfl) (by kernel_rfl)) (fun _=>?_)
 exact mH (ag.fin _ _ _ x)
theorem ud (hst:ay G) (l1 l2:Nat) (x:ag) (hb:x.small 1048576):Ct Tryz.prog G 124 [.agg (x.tw l1),.agg (x.tw l2)] (fun _=>.bool true):=by
 refine av Tryz.func124 rfl Tryz.ntmps124 rfl rfl fun w0 _ hG=>?_
 unfold ag.small at hb
 skip
 unfold ag.tw
 repeat' (first|refine W_ ?_|refine aJ ?_|refine c_ (fun hc=>?_) (fun hc=>?_))
 all_goals first
   | (exfalso;simp at hc;done)
   | (exact r1_)
theorem rX (hst:ay G) (l1 l2:Nat) (l:List ag) (hb:l.length<=1048576/\∀y∈l,ag.small 1048576 y):Ct Tryz.prog G 41 [.sl l1 2 (l.map (ag.tw l1)),.sl l2 2 (l.map (ag.tw l2))] (fun _=>.bool true):=by
 refine av Tryz.func41 rfl Tryz.ntmps41 rfl rfl fun w0 _ hG=>?_
 have hlen:=ag.len l1 l
 have hlen2:=ag.len l2 l
 have hl1:=hb.1
 repeat' refine W_ ?_
 apply ap (X:=Nat) [0,1] (fun i=>[(5,.int .i64 (i:Int))]) (fun _=>[]) (fun i=>i<=l.length) (fun i=>l.length - i) 0 (Ze _)
 exact kp_;exact nw_
 ·exact .refl _
 intro i hi
 try dsimp only
 by_cases hlt:i<l.length
 ·have hr1:(l.map (ag.tw l1))[i]?=some (l[i].tw l1):=aK hlt
  have hr2:(l.map (ag.tw l2))[i]?=some (l[i].tw l2):=aK hlt
  have hbi:=hb.2 _ (Zb hlt)
  generalize l[i]=x at hr1 hr2 hbi
  have hct:=ud hst l1 l2 x hbi
  unfold ag.tw at hct
  rw[show x.tw l1=[.int .i64 x.at_,.bool x.main] from rfl] at hr1
  rw[show x.tw l2=[.int .i64 x.at_,.bool x.main] from rfl] at hr2
  repeat' (first|refine V_ ?_|refine ai hG hst (hct) ?_)
  exact ah (i+1) (by omega) (by omega) (.of _ nw_ od_ pk_)
 ·repeat' refine W_ ?_
  exact r1_
end
def ad.tw (lo:Nat) (x:ad):List TV:=[.sl lo 3 (x.base.classes.map (aa.tw lo)),.sl lo 4 (x.base.codes.map (aB.tw lo)),.sl lo 4 (x.base.entries.map (aD.tw lo)),.int .i64 x.base.main,.sl lo 3 (x.store.classes.map (aa.tw lo)),.sl lo 4 (x.store.objects.map (ar.tw lo)),.sl lo 1 (ca x.store.output),.int .i64 x.store.ticks,.int .i64 x.store.budget,.int .i64 x.store.made,.sl lo 6 (x.blocks.map (aq.tw lo)),.sl lo 14 (x.contexts.map (ao.tw lo)),.sl lo 2 (x.processes.map (ag.tw lo)),.sl lo 1 (aS x.ready),.int .i64 x.now,.int .i64 x.status,.int .i64 x.value.kind,.int .i64 x.value.number,.str x.value.text,.str x.fault]
def ad.small (n:Nat) (x:ad):Prop:=(aF.small n x.base)/\(aQ.small n x.store)/\(x.blocks.length<=n/\∀y∈x.blocks,aq.small n y)/\(x.contexts.length<=n/\∀y∈x.contexts,ao.small n y)/\(x.processes.length<=n/\∀y∈x.processes,ag.small n y)/\(x.ready.length<=n)/\(ab.small n x.value)/\(x.fault.size<=n)
def ad.tz:List TV:=[.nils,.nils,.nils,.int .i64 0,.nils,.nils,.nils,.int .i64 0,.int .i64 0,.int .i64 0,.nils,.nils,.nils,.nils,.int .i64 0,.int .i64 0,.int .i64 0,.int .i64 0,.str ⟨#[]⟩,.str ⟨#[]⟩]
theorem ad.fin (B K:Nat) (objs:aG) (x:ad):jr B objs K (x.tw B) (x.tw K):=.cons (df (fun x=>aa.fin B K objs x) _) (.cons (df (fun x=>aB.fin B K objs x) _) (.cons (df (fun x=>aD.fin B K objs x) _) (.cons (.flat rfl) (.cons (df (fun x=>aa.fin B K objs x) _) (.cons (df (fun x=>ar.fin B K objs x) _) (.cons (df (fun x=>.cons (.flat rfl) .nil) _) (.cons (.flat rfl) (.cons (.flat rfl) (.cons (.flat rfl) (.cons (df (fun x=>aq.fin B K objs x) _) (.cons (df (fun x=>ao.fin B K objs x) _) (.cons (df (fun x=>ag.fin B K objs x) _) (.cons (df (fun x=>.cons (.flat rfl) .nil) _) (.cons (.flat rfl) (.cons (.flat rfl) (.cons (.flat rfl) (.cons (.flat rfl) (.cons (.flat rfl) (.cons (.flat rfl) (.nil))))))))))))))))))))
theorem ad.len (lo:Nat) (l:List ad):(l.map (ad.tw lo)).length=l.length:=by simp
section
variable {G:World->Prop}
theorem rn (hst:ay G) (l1 l2:Nat) (x:ad) (hb:x.small 1048576):Ct Tryz.prog G 9 [.agg (x.tw l1),.agg (x.tw l2)] (fun _=>.bool true):=by
 refine av Tryz.func9 rfl Tryz.ntmps9 rfl rfl fun w0 _ hG=>?_
 unfold ad.small at hb
 have hsbase:=hb.1
 have hsstore:=hb.2.1
 have hsblocks:=hb.2.2.1
 have hscontexts:=hb.2.2.2.1
 have hsprocesses:=hb.2.2.2.2.1
 have hsready:=hb.2.2.2.2.2.1
 have hsvalue:=hb.2.2.2.2.2.2.1
 have hnefault:¬ x.fault≠x.fault:=fun h=>h rfl
 unfold ad.tw
 repeat' (first|refine W_ ?_|refine aJ ?_|refine ae hG hst (sj hst l1 l2 x.base hsbase) ?_|refine ae hG hst (zH hst l1 l2 x.store hsstore) ?_|refine ae hG hst (tr hst l1 l2 x.blocks hsblocks) ?_|refine ae hG hst (sM hst l1 l2 x.contexts hscontexts) ?_|refine ae hG hst (rX hst l1 l2 x.processes hsprocesses) ?_|refine ae hG hst (uN hst l1 l2 x.ready hsready) ?_|refine ae hG hst (jY hst l1 l2 x.value hsvalue) ?_)
 all_goals first
   | (exfalso;simp at hc;done)
   | (exact r1_)
end
end Go.Proofs.YtifcomgnmokimaaGreatDoor
