/- Part 13 of the proof: the texts LwU. -/
import Derived.Test.YtofnnnpahglfdaaGreatDoorCo8
set_option linter.all false
set_option maxHeartbeats 2000000
set_option maxRecDepth 20000
namespace Go.Proofs.YtofnnnpahglfdaaGreatDoor
open Go Go.RowKit
section
variable {G:World->Prop}
theorem vf (_:aC G) (lo:Nat) (l:List Int) (left:Int) (h:0<=left/\left<=1048576) (hb:l.length<=9223372036854775807):CtM Tryz.prog G 33 [.sl lo 1 (aL l),.int .i64 left] [] (fun y:Int=>-1<=y/\y<=left/\(0<=y->l.length<=1048576)) (fun _=>[]) (fun y=>.int .i64 y):=by
 refine aA Tryz.func33 rfl Tryz.ntmps33 rfl rfl rfl fun w0 R gs objsR hG hR=>?_
 obtain rfl:=hR.inv0
 clear hR
 have hlen:=ae l
 by_cases hn:left - l.length<0
 ·repeat' refine W_ ?_
  exact aD x_ rfl (-1) ⟨by omega,by omega,fun h=>by omega⟩ rfl (.nil R) (.refl _) (.tmp _ _ rfl) rfl
 ·repeat' refine W_ ?_
  exact aD x_ rfl (left - l.length) ⟨by omega,by omega,fun _=>by omega⟩ rfl (.nil R) (.refl _) (.tmp _ _ rfl) rfl
theorem t6 (_:aC G) (l1 l2:Nat) (l:List Int) (hn:l.length<=1048576):Ct Tryz.prog G 49 [.sl l1 1 (aL l),.sl l2 1 (aL l)] (fun _=>.bool true):=by
 refine au Tryz.func49 rfl Tryz.ntmps49 rfl rfl fun w0 _ hG=>?_
 have hlen:=ae l
 repeat' refine W_ ?_
 apply aj (X:=Nat) [0,1] (fun i=>[(5,.int .i64 (i:Int))]) (fun _=>[]) (fun i=>i<=l.length) (fun i=>l.length - i) 0 (Zd _)
 exact kp_;exact nw_
 ·exact .refl _
 intro i hi
 try dsimp only
 by_cases hlt:i<l.length
 ·have hrow:=jW hlt
  generalize l[i]=x at hrow
  repeat' refine V_ ?_
  all_goals first
    | exact ag (i+1) (by omega) (by omega) (.of _ nw_ od_ pk_)
    | (exfalso;simp at hc;done)
 ·repeat' refine W_ ?_
  exact r1_
end
def ab.tw (lo:Nat) (x:ab):List TV:=[.int .i64 x.kind,.int .i64 x.number,.str x.text]
def ab.small (n:Nat) (x:ab):Prop:=(x.text.size<=n)
def ab.tz:List TV:=[.int .i64 0,.int .i64 0,.str ⟨#[]⟩]
theorem ab.fin (B K:Nat) (objs:aJ) (x:ab):jB B objs K (x.tw B) (x.tw K):=.cons (.flat rfl) (.cons (.flat rfl) (.cons (.flat rfl) (.nil)))
theorem ab.len (lo:Nat) (l:List ab):(l.map (ab.tw lo)).length=l.length:=by simp
section
variable {G:World->Prop}
theorem jR (hst:aC G) (lo:Nat) (x:ab) (left:Int) (h:0<=left/\left<=1048576) (hb:x.small 9223372036854775807):CtM Tryz.prog G 21 [.agg (x.tw lo),.int .i64 left] [] (fun y:Int=>-1<=y/\y<=left/\(0<=y->x.small 1048576)) (fun _=>[]) (fun y=>.int .i64 y):=by
 refine aA Tryz.func21 rfl Tryz.ntmps21 rfl rfl rfl fun w0 R gs objsR hG hR=>?_
 obtain rfl:=hR.inv0
 clear hR
 unfold ab.small at hb
 have hb1:x.text.size<=9223372036854775807:=hb
 unfold ab.tw
 repeat' (first|refine W_ ?_|refine aN ?_|refine c_ (fun hc=>?_) (fun hc=>?_))
 all_goals first
   | exact aD x_ rfl (-1) ⟨by omega,by omega,fun h=>by omega⟩ rfl (.nil R) (.refl _) (.tmp _ _ rfl) rfl
   | (refine aD x_ rfl _ ⟨?_, ?_,fun _=>?_⟩ rfl (.nil R) (.refl _) (.tmp _ _ rfl) rfl
      ·omega
      ·omega
      ·show _<=_;omega)
theorem iH (hst:aC G) (lo:Nat) (l:List ab) (left:Int) (h:0<=left/\left<=1048576) (hb:l.length<=9223372036854775807/\∀y∈l,ab.small 9223372036854775807 y):CtM Tryz.prog G 176 [.sl lo 3 (l.map (ab.tw lo)),.int .i64 left] [] (fun y:Int=>-1<=y/\y<=left/\(0<=y->l.length<=1048576/\∀y∈l,ab.small 1048576 y)) (fun _=>[]) (fun y=>.int .i64 y):=by
 refine aA Tryz.func176 rfl Tryz.ntmps176 rfl rfl rfl fun w0 R gs objsR hG hR=>?_
 obtain rfl:=hR.inv0
 clear hR
 have hlen:=ab.len lo l
 have hl1:=hb.1
 by_cases hn:left - l.length<0
 ·repeat' refine W_ ?_
  exact aD x_ rfl (-1) ⟨by omega,by omega,fun h=>by omega⟩ rfl (.nil R) (.refl _) (.tmp _ _ rfl) rfl
 ·repeat' refine W_ ?_
  apply aj (X:=Nat×Int) [0,1000000] (fun x=>[(5,.int .i64 (x.1:Int)),(1,.int .i64 x.2)]) (fun _=>R) (fun x=>x.1<=l.length/\0<=x.2/\x.2<=left/\∀y∈l.take x.1,ab.small 1048576 y) (fun x=>l.length - x.1) (0,left - l.length) ⟨Zd _,by dsimp only;omega,by dsimp only;omega,by simp⟩
  exact kp_;exact nw_
  ·exact .refl _
  rintro ⟨i,lf⟩ ⟨hi,h0,h1,hs⟩
  dsimp only at hi h0 h1 hs |-
  by_cases hlt:i<l.length
  ·have hrow:(l.map (ab.tw lo))[i]?=some (l[i].tw lo):=aK hlt
   have hbi:=hb.2 _ (Zb hlt)
   have hta:=bu (p:=ab.small 1048576) hlt hs
   generalize l[i]=x at hrow hbi hta
   have hct:=jR hst lo x lf (by omega) hbi
   unfold ab.tw at hct
   rw[show x.tw lo=[.int .i64 x.kind,.int .i64 x.number,.str x.text] from rfl] at hrow
   repeat' (first|refine W_ ?_|((with_reducible apply aB);rfl;kernel_rfl;(repeat (first|exact ay.nil|((with_reducible apply ay.cons);rfl)));exact hG;exact hct;exact .nil _;intro y hy;refine bV ?_)|refine c_ (fun hc=>?_) (fun hc=>?_))
   all_goals first
     | exact aD x_ rfl (-1) ⟨by omega,by omega,fun h=>by omega⟩ rfl (.nil R) (.refl _) (.tmp _ _ rfl) rfl
     | exact ag (i+1,y) ⟨by dsimp only;omega,by dsimp only;omega,by dsimp only;omega,hta (hy.2.2 (by omega))⟩ (by dsimp only;omega) (.of _ nw_ od_ pk_)
  ·rw[Zc (by omega)] at hs
   repeat' refine W_ ?_
   exact aD x_ rfl lf ⟨by omega,by omega,fun _=>⟨by omega,hs⟩⟩ rfl (.nil R) (.refl _) (.tmp _ _ rfl) rfl
theorem jP (hst:aC G) (lo:Nat) (x:ab) (hb:x.small 1048576):Ct Tryz.prog G 23 [.agg (x.tw lo)] (fun K=>.agg (x.tw K)):=by
 refine au Tryz.func23 rfl Tryz.ntmps23 rfl rfl fun w0 _ hG=>?_
 unfold ab.small at hb
 skip
 repeat' (first|refine W_ ?_|refine aN ?_|(refine am ?_;intro ss bb)|refine ac ?_)
 refine aM x_ rfl (.cell _ _ _ _ _ rfl mm_ (by kernel_rfl) (by kernel_rfl) (by kernel_rfl)) (fun _=>?_)
 exact my (ab.fin _ _ _ x)
theorem jJ (hst:aC G) (l1 l2:Nat) (x:ab) (hb:x.small 1048576):Ct Tryz.prog G 50 [.agg (x.tw l1),.agg (x.tw l2)] (fun _=>.bool true):=by
 refine au Tryz.func50 rfl Tryz.ntmps50 rfl rfl fun w0 _ hG=>?_
 unfold ab.small at hb
 have hnetext:¬ x.text≠x.text:=fun h=>h rfl
 unfold ab.tw
 repeat' (first|refine W_ ?_|refine aN ?_)
 all_goals first
   | (exfalso;simp at hc;done)
   | (exact r1_)
theorem iT (hst:aC G) (l1 l2:Nat) (l:List ab) (hb:l.length<=1048576/\∀y∈l,ab.small 1048576 y):Ct Tryz.prog G 210 [.sl l1 3 (l.map (ab.tw l1)),.sl l2 3 (l.map (ab.tw l2))] (fun _=>.bool true):=by
 refine au Tryz.func210 rfl Tryz.ntmps210 rfl rfl fun w0 _ hG=>?_
 have hlen:=ab.len l1 l
 have hlen2:=ab.len l2 l
 have hl1:=hb.1
 repeat' refine W_ ?_
 apply aj (X:=Nat) [0,1] (fun i=>[(5,.int .i64 (i:Int))]) (fun _=>[]) (fun i=>i<=l.length) (fun i=>l.length - i) 0 (Zd _)
 exact kp_;exact nw_
 ·exact .refl _
 intro i hi
 try dsimp only
 by_cases hlt:i<l.length
 ·have hr1:(l.map (ab.tw l1))[i]?=some (l[i].tw l1):=aK hlt
  have hr2:(l.map (ab.tw l2))[i]?=some (l[i].tw l2):=aK hlt
  have hbi:=hb.2 _ (Zb hlt)
  generalize l[i]=x at hr1 hr2 hbi
  have hct:=jJ hst l1 l2 x hbi
  unfold ab.tw at hct
  rw[show x.tw l1=[.int .i64 x.kind,.int .i64 x.number,.str x.text] from rfl] at hr1
  rw[show x.tw l2=[.int .i64 x.kind,.int .i64 x.number,.str x.text] from rfl] at hr2
  repeat' (first|refine V_ ?_|refine ai hG hst (hct) ?_)
  exact ag (i+1) (by omega) (by omega) (.of _ nw_ od_ pk_)
 ·repeat' refine W_ ?_
  exact r1_
end
def az.tw (lo:Nat) (x:az):List TV:=[.int .i64 x.kind,.int .i64 x.class_,.sl lo 3 (x.fields.map (ab.tw lo)),.sl lo 1 (aL x.numbers)]
def az.small (n:Nat) (x:az):Prop:=(x.fields.length<=n/\∀y∈x.fields,ab.small n y)/\(x.numbers.length<=n)
def az.tz:List TV:=[.int .i64 0,.int .i64 0,.nils,.nils]
theorem az.fin (B K:Nat) (objs:aJ) (x:az):jB B objs K (x.tw B) (x.tw K):=.cons (.flat rfl) (.cons (.flat rfl) (.cons (cZ (fun x=>ab.fin B K objs x) _) (.cons (cZ (fun x=>.cons (.flat rfl) .nil) _) (.nil))))
theorem az.len (lo:Nat) (l:List az):(l.map (az.tw lo)).length=l.length:=by simp
section
variable {G:World->Prop}
theorem wX (hst:aC G) (lo:Nat) (x:az) (left:Int) (h:0<=left/\left<=1048576) (hb:x.small 9223372036854775807):CtM Tryz.prog G 175 [.agg (x.tw lo),.int .i64 left] [] (fun y:Int=>-1<=y/\y<=left/\(0<=y->x.small 1048576)) (fun _=>[]) (fun y=>.int .i64 y):=by
 refine aA Tryz.func175 rfl Tryz.ntmps175 rfl rfl rfl fun w0 R gs objsR hG hR=>?_
 obtain rfl:=hR.inv0
 clear hR
 unfold az.small at hb
 skip
 unfold az.tw
 repeat' (first|refine W_ ?_|refine aN ?_|((with_reducible apply aB);rfl;kernel_rfl;(repeat (first|exact ay.nil|((with_reducible apply ay.cons);rfl)));exact hG;exact iH hst lo x.fields _ (by omega) hb.1;exact .nil _;intro y1 hy1;refine bV ?_)|((with_reducible apply aB);rfl;kernel_rfl;(repeat (first|exact ay.nil|((with_reducible apply ay.cons);rfl)));exact hG;exact vf hst lo x.numbers _ (by omega) hb.2;exact .nil _;intro y2 hy2;refine bV ?_)|refine c_ (fun hc=>?_) (fun hc=>?_))
 all_goals first
   | exact aD x_ rfl (-1) ⟨by omega,by omega,fun h=>by omega⟩ rfl (.nil R) (.refl _) (.tmp _ _ rfl) rfl
   | (refine aD x_ rfl _ ⟨?_, ?_,fun _=>?_⟩ rfl (.nil R) (.refl _) (.tmp _ _ rfl) rfl
      ·omega
      ·omega
      ·exact⟨hy1.2.2 (by omega),hy2.2.2 (by omega)⟩)
theorem uc (hst:aC G) (lo:Nat) (l:List az) (left:Int) (h:0<=left/\left<=1048576) (hb:l.length<=9223372036854775807/\∀y∈l,az.small 9223372036854775807 y):CtM Tryz.prog G 92 [.sl lo 4 (l.map (az.tw lo)),.int .i64 left] [] (fun y:Int=>-1<=y/\y<=left/\(0<=y->l.length<=1048576/\∀y∈l,az.small 1048576 y)) (fun _=>[]) (fun y=>.int .i64 y):=by
 refine aA Tryz.func92 rfl Tryz.ntmps92 rfl rfl rfl fun w0 R gs objsR hG hR=>?_
 obtain rfl:=hR.inv0
 clear hR
 have hlen:=az.len lo l
 have hl1:=hb.1
 by_cases hn:left - l.length<0
 ·repeat' refine W_ ?_
  exact aD x_ rfl (-1) ⟨by omega,by omega,fun h=>by omega⟩ rfl (.nil R) (.refl _) (.tmp _ _ rfl) rfl
 ·repeat' refine W_ ?_
  apply aj (X:=Nat×Int) [0,1000000] (fun x=>[(5,.int .i64 (x.1:Int)),(1,.int .i64 x.2)]) (fun _=>R) (fun x=>x.1<=l.length/\0<=x.2/\x.2<=left/\∀y∈l.take x.1,az.small 1048576 y) (fun x=>l.length - x.1) (0,left - l.length) ⟨Zd _,by dsimp only;omega,by dsimp only;omega,by simp⟩
  exact kp_;exact nw_
  ·exact .refl _
  rintro ⟨i,lf⟩ ⟨hi,h0,h1,hs⟩
  dsimp only at hi h0 h1 hs |-
  by_cases hlt:i<l.length
  ·have hrow:(l.map (az.tw lo))[i]?=some (l[i].tw lo):=aK hlt
   have hbi:=hb.2 _ (Zb hlt)
   have hta:=bu (p:=az.small 1048576) hlt hs
   generalize l[i]=x at hrow hbi hta
   have hct:=wX hst lo x lf (by omega) hbi
   unfold az.tw at hct
   rw[show x.tw lo=[.int .i64 x.kind,.int .i64 x.class_,.sl lo 3 (x.fields.map (ab.tw lo)),.sl lo 1 (aL x.numbers)] from rfl] at hrow
   repeat' (first|refine W_ ?_|((with_reducible apply aB);rfl;kernel_rfl;(repeat (first|exact ay.nil|((with_reducible apply ay.cons);rfl)));exact hG;exact hct;exact .nil _;intro y hy;refine bV ?_)|refine c_ (fun hc=>?_) (fun hc=>?_))
   all_goals first
     | exact aD x_ rfl (-1) ⟨by omega,by omega,fun h=>by omega⟩ rfl (.nil R) (.refl _) (.tmp _ _ rfl) rfl
     | exact ag (i+1,y) ⟨by dsimp only;omega,by dsimp only;omega,by dsimp only;omega,hta (hy.2.2 (by omega))⟩ (by dsimp only;omega) (.of _ nw_ od_ pk_)
  ·rw[Zc (by omega)] at hs
   repeat' refine W_ ?_
   exact aD x_ rfl lf ⟨by omega,by omega,fun _=>⟨by omega,hs⟩⟩ rfl (.nil R) (.refl _) (.tmp _ _ rfl) rfl
theorem wt (hst:aC G) (l1 l2:Nat) (x:az) (hb:x.small 1048576):Ct Tryz.prog G 209 [.agg (x.tw l1),.agg (x.tw l2)] (fun _=>.bool true):=by
 refine au Tryz.func209 rfl Tryz.ntmps209 rfl rfl fun w0 _ hG=>?_
 unfold az.small at hb
 have hsfields:=hb.1
 have hsnumbers:=hb.2
 unfold az.tw
 repeat' (first|refine W_ ?_|refine aN ?_|refine ad hG hst (iT hst l1 l2 x.fields hsfields) ?_|refine ad hG hst (t6 hst l1 l2 x.numbers hsnumbers) ?_)
 all_goals first
   | (exfalso;simp at hc;done)
   | (exact r1_)
theorem uW (hst:aC G) (l1 l2:Nat) (l:List az) (hb:l.length<=1048576/\∀y∈l,az.small 1048576 y):Ct Tryz.prog G 127 [.sl l1 4 (l.map (az.tw l1)),.sl l2 4 (l.map (az.tw l2))] (fun _=>.bool true):=by
 refine au Tryz.func127 rfl Tryz.ntmps127 rfl rfl fun w0 _ hG=>?_
 have hlen:=az.len l1 l
 have hlen2:=az.len l2 l
 have hl1:=hb.1
 repeat' refine W_ ?_
 apply aj (X:=Nat) [0,1] (fun i=>[(5,.int .i64 (i:Int))]) (fun _=>[]) (fun i=>i<=l.length) (fun i=>l.length - i) 0 (Zd _)
 exact kp_;exact nw_
 ·exact .refl _
 intro i hi
 try dsimp only
 by_cases hlt:i<l.length
 ·have hr1:(l.map (az.tw l1))[i]?=some (l[i].tw l1):=aK hlt
  have hr2:(l.map (az.tw l2))[i]?=some (l[i].tw l2):=aK hlt
  have hbi:=hb.2 _ (Zb hlt)
  generalize l[i]=x at hr1 hr2 hbi
  have hct:=wt hst l1 l2 x hbi
  unfold az.tw at hct
  rw[show x.tw l1=[.int .i64 x.kind,.int .i64 x.class_,.sl l1 3 (x.fields.map (ab.tw l1)),.sl l1 1 (aL x.numbers)] from rfl] at hr1
  rw[show x.tw l2=[.int .i64 x.kind,.int .i64 x.class_,.sl l2 3 (x.fields.map (ab.tw l2)),.sl l2 1 (aL x.numbers)] from rfl] at hr2
  repeat' (first|refine V_ ?_|refine ai hG hst (hct) ?_)
  exact ag (i+1) (by omega) (by omega) (.of _ nw_ od_ pk_)
 ·repeat' refine W_ ?_
  exact r1_
end
def aR.tw (lo:Nat) (x:aR):List TV:=[.sl lo 3 (x.classes.map (aa.tw lo)),.sl lo 4 (x.objects.map (az.tw lo)),.sl lo 1 (bQ x.output),.int .i64 x.ticks,.int .i64 x.budget,.int .i64 x.made]
def aR.small (n:Nat) (x:aR):Prop:=(x.classes.length<=n/\∀y∈x.classes,aa.small n y)/\(x.objects.length<=n/\∀y∈x.objects,az.small n y)/\(x.output.length<=n/\∀y∈x.output,ByteArray.size y<=n)
def aR.tz:List TV:=[.nils,.nils,.nils,.int .i64 0,.int .i64 0,.int .i64 0]
theorem aR.fin (B K:Nat) (objs:aJ) (x:aR):jB B objs K (x.tw B) (x.tw K):=.cons (cZ (fun x=>aa.fin B K objs x) _) (.cons (cZ (fun x=>az.fin B K objs x) _) (.cons (cZ (fun x=>.cons (.flat rfl) .nil) _) (.cons (.flat rfl) (.cons (.flat rfl) (.cons (.flat rfl) (.nil))))))
theorem aR.len (lo:Nat) (l:List aR):(l.map (aR.tw lo)).length=l.length:=by simp
section
variable {G:World->Prop}
theorem aaf (hst:aC G) (lo:Nat) (x:aR) (left:Int) (h:0<=left/\left<=1048576) (hb:x.small 9223372036854775807):CtM Tryz.prog G 29 [.agg (x.tw lo),.int .i64 left] [] (fun y:Int=>-1<=y/\y<=left/\(0<=y->x.small 1048576)) (fun _=>[]) (fun y=>.int .i64 y):=by
 refine aA Tryz.func29 rfl Tryz.ntmps29 rfl rfl rfl fun w0 R gs objsR hG hR=>?_
 obtain rfl:=hR.inv0
 clear hR
 unfold aR.small at hb
 skip
 unfold aR.tw
 repeat' (first|refine W_ ?_|refine aN ?_|((with_reducible apply aB);rfl;kernel_rfl;(repeat (first|exact ay.nil|((with_reducible apply ay.cons);rfl)));exact hG;exact jD hst lo x.classes _ (by omega) hb.1;exact .nil _;intro y1 hy1;refine bV ?_)|((with_reducible apply aB);rfl;kernel_rfl;(repeat (first|exact ay.nil|((with_reducible apply ay.cons);rfl)));exact hG;exact uc hst lo x.objects _ (by omega) hb.2.1;exact .nil _;intro y2 hy2;refine bV ?_)|((with_reducible apply aB);rfl;kernel_rfl;(repeat (first|exact ay.nil|((with_reducible apply ay.cons);rfl)));exact hG;exact mM lo x.output _ (by omega) hb.2.2;exact .nil _;intro y3 hy3;refine bV ?_)|refine c_ (fun hc=>?_) (fun hc=>?_))
 all_goals first
   | exact aD x_ rfl (-1) ⟨by omega,by omega,fun h=>by omega⟩ rfl (.nil R) (.refl _) (.tmp _ _ rfl) rfl
   | (refine aD x_ rfl _ ⟨?_, ?_,fun _=>?_⟩ rfl (.nil R) (.refl _) (.tmp _ _ rfl) rfl
      ·omega
      ·omega
      ·exact⟨hy1.2.2 (by omega),hy2.2.2 (by omega),hy3.2.2 (by omega)⟩)
theorem zt (hst:aC G) (l1 l2:Nat) (x:aR) (hb:x.small 1048576):Ct Tryz.prog G 45 [.agg (x.tw l1),.agg (x.tw l2)] (fun _=>.bool true):=by
 refine au Tryz.func45 rfl Tryz.ntmps45 rfl rfl fun w0 _ hG=>?_
 unfold aR.small at hb
 have hsclasses:=hb.1
 have hsobjects:=hb.2.1
 have hsoutput:=(hb.2.2).1
 unfold aR.tw
 repeat' (first|refine W_ ?_|refine aN ?_|refine ad hG hst (jl hst l1 l2 x.classes hsclasses) ?_|refine ad hG hst (uW hst l1 l2 x.objects hsobjects) ?_|refine ad hG hst (mN l1 l2 x.output hsoutput) ?_)
 all_goals first
   | (exfalso;simp at hc;done)
   | (exact r1_)
end
def ap.tw (lo:Nat) (x:ap):List TV:=[.int .i64 x.code,.int .i64 x.outer,.int .i64 x.home,.int .i64 x.self.kind,.int .i64 x.self.number,.str x.self.text]
def ap.small (n:Nat) (x:ap):Prop:=(ab.small n x.self)
def ap.tz:List TV:=[.int .i64 0,.int .i64 0,.int .i64 0,.int .i64 0,.int .i64 0,.str ⟨#[]⟩]
theorem ap.fin (B K:Nat) (objs:aJ) (x:ap):jB B objs K (x.tw B) (x.tw K):=.cons (.flat rfl) (.cons (.flat rfl) (.cons (.flat rfl) (.cons (.flat rfl) (.cons (.flat rfl) (.cons (.flat rfl) (.nil))))))
theorem ap.len (lo:Nat) (l:List ap):(l.map (ap.tw lo)).length=l.length:=by simp
section
variable {G:World->Prop}
theorem vh (hst:aC G) (lo:Nat) (x:ap) (left:Int) (h:0<=left/\left<=1048576) (hb:x.small 9223372036854775807):CtM Tryz.prog G 94 [.agg (x.tw lo),.int .i64 left] [] (fun y:Int=>-1<=y/\y<=left/\(0<=y->x.small 1048576)) (fun _=>[]) (fun y=>.int .i64 y):=by
 refine aA Tryz.func94 rfl Tryz.ntmps94 rfl rfl rfl fun w0 R gs objsR hG hR=>?_
 obtain rfl:=hR.inv0
 clear hR
 unfold ap.small at hb
 skip
 unfold ap.tw
 repeat' (first|refine W_ ?_|refine aN ?_|((with_reducible apply aB);rfl;kernel_rfl;(repeat (first|exact ay.nil|((with_reducible apply ay.cons);rfl)));exact hG;exact jR hst lo x.self _ (by omega) hb;exact .nil _;intro y1 hy1;refine bV ?_)|refine c_ (fun hc=>?_) (fun hc=>?_))
 all_goals first
   | exact aD x_ rfl (-1) ⟨by omega,by omega,fun h=>by omega⟩ rfl (.nil R) (.refl _) (.tmp _ _ rfl) rfl
   | (refine aD x_ rfl _ ⟨?_, ?_,fun _=>?_⟩ rfl (.nil R) (.refl _) (.tmp _ _ rfl) rfl
      ·omega
      ·omega
      ·exact hy1.2.2 (by omega))
theorem sK (hst:aC G) (lo:Nat) (l:List ap) (left:Int) (h:0<=left/\left<=1048576) (hb:l.length<=9223372036854775807/\∀y∈l,ap.small 9223372036854775807 y):CtM Tryz.prog G 30 [.sl lo 6 (l.map (ap.tw lo)),.int .i64 left] [] (fun y:Int=>-1<=y/\y<=left/\(0<=y->l.length<=1048576/\∀y∈l,ap.small 1048576 y)) (fun _=>[]) (fun y=>.int .i64 y):=by
 refine aA Tryz.func30 rfl Tryz.ntmps30 rfl rfl rfl fun w0 R gs objsR hG hR=>?_
 obtain rfl:=hR.inv0
 clear hR
 have hlen:=ap.len lo l
 have hl1:=hb.1
 by_cases hn:left - l.length<0
 ·repeat' refine W_ ?_
  exact aD x_ rfl (-1) ⟨by omega,by omega,fun h=>by omega⟩ rfl (.nil R) (.refl _) (.tmp _ _ rfl) rfl
 ·repeat' refine W_ ?_
  apply aj (X:=Nat×Int) [0,1000000] (fun x=>[(5,.int .i64 (x.1:Int)),(1,.int .i64 x.2)]) (fun _=>R) (fun x=>x.1<=l.length/\0<=x.2/\x.2<=left/\∀y∈l.take x.1,ap.small 1048576 y) (fun x=>l.length - x.1) (0,left - l.length) ⟨Zd _,by dsimp only;omega,by dsimp only;omega,by simp⟩
  exact kp_;exact nw_
  ·exact .refl _
  rintro ⟨i,lf⟩ ⟨hi,h0,h1,hs⟩
  dsimp only at hi h0 h1 hs |-
  by_cases hlt:i<l.length
  ·have hrow:(l.map (ap.tw lo))[i]?=some (l[i].tw lo):=aK hlt
   have hbi:=hb.2 _ (Zb hlt)
   have hta:=bu (p:=ap.small 1048576) hlt hs
   generalize l[i]=x at hrow hbi hta
   have hct:=vh hst lo x lf (by omega) hbi
   unfold ap.tw at hct
   rw[show x.tw lo=[.int .i64 x.code,.int .i64 x.outer,.int .i64 x.home,.int .i64 x.self.kind,.int .i64 x.self.number,.str x.self.text] from rfl] at hrow
   repeat' (first|refine W_ ?_|((with_reducible apply aB);rfl;kernel_rfl;(repeat (first|exact ay.nil|((with_reducible apply ay.cons);rfl)));exact hG;exact hct;exact .nil _;intro y hy;refine bV ?_)|refine c_ (fun hc=>?_) (fun hc=>?_))
   all_goals first
     | exact aD x_ rfl (-1) ⟨by omega,by omega,fun h=>by omega⟩ rfl (.nil R) (.refl _) (.tmp _ _ rfl) rfl
     | exact ag (i+1,y) ⟨by dsimp only;omega,by dsimp only;omega,by dsimp only;omega,hta (hy.2.2 (by omega))⟩ (by dsimp only;omega) (.of _ nw_ od_ pk_)
  ·rw[Zc (by omega)] at hs
   repeat' refine W_ ?_
   exact aD x_ rfl lf ⟨by omega,by omega,fun _=>⟨by omega,hs⟩⟩ rfl (.nil R) (.refl _) (.tmp _ _ rfl) rfl
theorem uZ (hst:aC G) (lo:Nat) (x:ap) (hb:x.small 1048576):Ct Tryz.prog G 113 [.agg (x.tw lo)] (fun K=>.agg (x.tw K)):=by
 refine au Tryz.func113 rfl Tryz.ntmps113 rfl rfl fun w0 _ hG=>?_
 unfold ap.small at hb
 have hsself:=hb
 repeat' (first|refine W_ ?_|refine aN ?_|(refine am ?_;intro ss bb)|refine ac ?_|refine ad hG hst (jP hst lo x.self (hsself)) ?_)
 refine aM x_ rfl (.cell _ _ _ _ _ rfl mm_ (by kernel_rfl) (by kernel_rfl) (by kernel_rfl)) (fun _=>?_)
 exact my (ap.fin _ _ _ x)
theorem uP (hst:aC G) (l1 l2:Nat) (x:ap) (hb:x.small 1048576):Ct Tryz.prog G 128 [.agg (x.tw l1),.agg (x.tw l2)] (fun _=>.bool true):=by
 refine au Tryz.func128 rfl Tryz.ntmps128 rfl rfl fun w0 _ hG=>?_
 unfold ap.small at hb
 have hsself:=hb
 unfold ap.tw
 repeat' (first|refine W_ ?_|refine aN ?_|refine ad hG hst (jJ hst l1 l2 x.self hsself) ?_)
 all_goals first
   | (exfalso;simp at hc;done)
   | (exact r1_)
theorem su (hst:aC G) (l1 l2:Nat) (l:List ap) (hb:l.length<=1048576/\∀y∈l,ap.small 1048576 y):Ct Tryz.prog G 46 [.sl l1 6 (l.map (ap.tw l1)),.sl l2 6 (l.map (ap.tw l2))] (fun _=>.bool true):=by
 refine au Tryz.func46 rfl Tryz.ntmps46 rfl rfl fun w0 _ hG=>?_
 have hlen:=ap.len l1 l
 have hlen2:=ap.len l2 l
 have hl1:=hb.1
 repeat' refine W_ ?_
 apply aj (X:=Nat) [0,1] (fun i=>[(5,.int .i64 (i:Int))]) (fun _=>[]) (fun i=>i<=l.length) (fun i=>l.length - i) 0 (Zd _)
 exact kp_;exact nw_
 ·exact .refl _
 intro i hi
 try dsimp only
 by_cases hlt:i<l.length
 ·have hr1:(l.map (ap.tw l1))[i]?=some (l[i].tw l1):=aK hlt
  have hr2:(l.map (ap.tw l2))[i]?=some (l[i].tw l2):=aK hlt
  have hbi:=hb.2 _ (Zb hlt)
  generalize l[i]=x at hr1 hr2 hbi
  have hct:=uP hst l1 l2 x hbi
  unfold ap.tw at hct
  rw[show x.tw l1=[.int .i64 x.code,.int .i64 x.outer,.int .i64 x.home,.int .i64 x.self.kind,.int .i64 x.self.number,.str x.self.text] from rfl] at hr1
  rw[show x.tw l2=[.int .i64 x.code,.int .i64 x.outer,.int .i64 x.home,.int .i64 x.self.kind,.int .i64 x.self.number,.str x.self.text] from rfl] at hr2
  repeat' (first|refine V_ ?_|refine ai hG hst (hct) ?_)
  exact ag (i+1) (by omega) (by omega) (.of _ nw_ od_ pk_)
 ·repeat' refine W_ ?_
  exact r1_
end
def aq.tw (lo:Nat) (x:aq):List TV:=[.int .i64 x.mark,.int .i64 x.code,.int .i64 x.pc,.int .i64 x.sender,.int .i64 x.outer,.int .i64 x.home,.int .i64 x.self.kind,.int .i64 x.self.number,.str x.self.text,.sl lo 3 (x.slots.map (ab.tw lo)),.sl lo 3 (x.stack.map (ab.tw lo)),.sl lo 3 (x.values.map (ab.tw lo)),.int .i64 x.other,.bool x.retry]
def aq.small (n:Nat) (x:aq):Prop:=(ab.small n x.self)/\(x.slots.length<=n/\∀y∈x.slots,ab.small n y)/\(x.stack.length<=n/\∀y∈x.stack,ab.small n y)/\(x.values.length<=n/\∀y∈x.values,ab.small n y)
def aq.tz:List TV:=[.int .i64 0,.int .i64 0,.int .i64 0,.int .i64 0,.int .i64 0,.int .i64 0,.int .i64 0,.int .i64 0,.str ⟨#[]⟩,.nils,.nils,.nils,.int .i64 0,.bool false]
theorem aq.fin (B K:Nat) (objs:aJ) (x:aq):jB B objs K (x.tw B) (x.tw K):=.cons (.flat rfl) (.cons (.flat rfl) (.cons (.flat rfl) (.cons (.flat rfl) (.cons (.flat rfl) (.cons (.flat rfl) (.cons (.flat rfl) (.cons (.flat rfl) (.cons (.flat rfl) (.cons (cZ (fun x=>ab.fin B K objs x) _) (.cons (cZ (fun x=>ab.fin B K objs x) _) (.cons (cZ (fun x=>ab.fin B K objs x) _) (.cons (.flat rfl) (.cons (.flat rfl) (.nil))))))))))))))
theorem aq.len (lo:Nat) (l:List aq):(l.map (aq.tw lo)).length=l.length:=by simp
section
variable {G:World->Prop}
theorem uy (hst:aC G) (lo:Nat) (x:aq) (left:Int) (h:0<=left/\left<=1048576) (hb:x.small 9223372036854775807):CtM Tryz.prog G 95 [.agg (x.tw lo),.int .i64 left] [] (fun y:Int=>-1<=y/\y<=left/\(0<=y->x.small 1048576)) (fun _=>[]) (fun y=>.int .i64 y):=by
 refine aA Tryz.func95 rfl Tryz.ntmps95 rfl rfl rfl fun w0 R gs objsR hG hR=>?_
 obtain rfl:=hR.inv0
 clear hR
 unfold aq.small at hb
 skip
 unfold aq.tw
 repeat' (first|refine W_ ?_|refine aN ?_|((with_reducible apply aB);rfl;kernel_rfl;(repeat (first|exact ay.nil|((with_reducible apply ay.cons);rfl)));exact hG;exact jR hst lo x.self _ (by omega) hb.1;exact .nil _;intro y1 hy1;refine bV ?_)|((with_reducible apply aB);rfl;kernel_rfl;(repeat (first|exact ay.nil|((with_reducible apply ay.cons);rfl)));exact hG;exact iH hst lo x.slots _ (by omega) hb.2.1;exact .nil _;intro y2 hy2;refine bV ?_)|((with_reducible apply aB);rfl;kernel_rfl;(repeat (first|exact ay.nil|((with_reducible apply ay.cons);rfl)));exact hG;exact iH hst lo x.stack _ (by omega) hb.2.2.1;exact .nil _;intro y3 hy3;refine bV ?_)|((with_reducible apply aB);rfl;kernel_rfl;(repeat (first|exact ay.nil|((with_reducible apply ay.cons);rfl)));exact hG;exact iH hst lo x.values _ (by omega) hb.2.2.2;exact .nil _;intro y4 hy4;refine bV ?_)|refine c_ (fun hc=>?_) (fun hc=>?_))
 all_goals first
   | exact aD x_ rfl (-1) ⟨by omega,by omega,fun h=>by omega⟩ rfl (.nil R) (.refl _) (.tmp _ _ rfl) rfl
   | (refine aD x_ rfl _ ⟨?_, ?_,fun _=>?_⟩ rfl (.nil R) (.refl _) (.tmp _ _ rfl) rfl
      ·omega
      ·omega
      ·exact⟨hy1.2.2 (by omega),hy2.2.2 (by omega),hy3.2.2 (by omega),hy4.2.2 (by omega)⟩)
theorem rJ (hst:aC G) (lo:Nat) (l:List aq) (left:Int) (h:0<=left/\left<=1048576) (hb:l.length<=9223372036854775807/\∀y∈l,aq.small 9223372036854775807 y):CtM Tryz.prog G 31 [.sl lo 14 (l.map (aq.tw lo)),.int .i64 left] [] (fun y:Int=>-1<=y/\y<=left/\(0<=y->l.length<=1048576/\∀y∈l,aq.small 1048576 y)) (fun _=>[]) (fun y=>.int .i64 y):=by
 refine aA Tryz.func31 rfl Tryz.ntmps31 rfl rfl rfl fun w0 R gs objsR hG hR=>?_
 obtain rfl:=hR.inv0
 clear hR
 have hlen:=aq.len lo l
 have hl1:=hb.1
 by_cases hn:left - l.length<0
 ·repeat' refine W_ ?_
  exact aD x_ rfl (-1) ⟨by omega,by omega,fun h=>by omega⟩ rfl (.nil R) (.refl _) (.tmp _ _ rfl) rfl
 ·repeat' refine W_ ?_
  apply aj (X:=Nat×Int) [0,1000000] (fun x=>[(5,.int .i64 (x.1:Int)),(1,.int .i64 x.2)]) (fun _=>R) (fun x=>x.1<=l.length/\0<=x.2/\x.2<=left/\∀y∈l.take x.1,aq.small 1048576 y) (fun x=>l.length - x.1) (0,left - l.length) ⟨Zd _,by dsimp only;omega,by dsimp only;omega,by simp⟩
  exact kp_;exact nw_
  ·exact .refl _
  rintro ⟨i,lf⟩ ⟨hi,h0,h1,hs⟩
  dsimp only at hi h0 h1 hs |-
  by_cases hlt:i<l.length
  ·have hrow:(l.map (aq.tw lo))[i]?=some (l[i].tw lo):=aK hlt
   have hbi:=hb.2 _ (Zb hlt)
   have hta:=bu (p:=aq.small 1048576) hlt hs
   generalize l[i]=x at hrow hbi hta
   have hct:=uy hst lo x lf (by omega) hbi
   unfold aq.tw at hct
   rw[show x.tw lo=[.int .i64 x.mark,.int .i64 x.code,.int .i64 x.pc,.int .i64 x.sender,.int .i64 x.outer,.int .i64 x.home,.int .i64 x.self.kind,.int .i64 x.self.number,.str x.self.text,.sl lo 3 (x.slots.map (ab.tw lo)),.sl lo 3 (x.stack.map (ab.tw lo)),.sl lo 3 (x.values.map (ab.tw lo)),.int .i64 x.other,.bool x.retry] from rfl] at hrow
   repeat' (first|refine W_ ?_|((with_reducible apply aB);rfl;kernel_rfl;(repeat (first|exact ay.nil|((with_reducible apply ay.cons);rfl)));exact hG;exact hct;exact .nil _;intro y hy;refine bV ?_)|refine c_ (fun hc=>?_) (fun hc=>?_))
   all_goals first
     | exact aD x_ rfl (-1) ⟨by omega,by omega,fun h=>by omega⟩ rfl (.nil R) (.refl _) (.tmp _ _ rfl) rfl
     | exact ag (i+1,y) ⟨by dsimp only;omega,by dsimp only;omega,by dsimp only;omega,hta (hy.2.2 (by omega))⟩ (by dsimp only;omega) (.of _ nw_ od_ pk_)
  ·rw[Zc (by omega)] at hs
   repeat' refine W_ ?_
   exact aD x_ rfl lf ⟨by omega,by omega,fun _=>⟨by omega,hs⟩⟩ rfl (.nil R) (.refl _) (.tmp _ _ rfl) rfl
theorem tR (hst:aC G) (l1 l2:Nat) (x:aq) (hb:x.small 1048576):Ct Tryz.prog G 129 [.agg (x.tw l1),.agg (x.tw l2)] (fun _=>.bool true):=by
 refine au Tryz.func129 rfl Tryz.ntmps129 rfl rfl fun w0 _ hG=>?_
 unfold aq.small at hb
 have hsself:=hb.1
 have hsslots:=hb.2.1
 have hsstack:=hb.2.2.1
 have hsvalues:=hb.2.2.2
 unfold aq.tw
 repeat' (first|refine W_ ?_|refine aN ?_|refine ad hG hst (jJ hst l1 l2 x.self hsself) ?_|refine ad hG hst (iT hst l1 l2 x.slots hsslots) ?_|refine ad hG hst (iT hst l1 l2 x.stack hsstack) ?_|refine ad hG hst (iT hst l1 l2 x.values hsvalues) ?_|refine c_ (fun hc=>?_) (fun hc=>?_))
 all_goals first
   | (exfalso;simp at hc;done)
   | (exact r1_)
theorem sR (hst:aC G) (l1 l2:Nat) (l:List aq) (hb:l.length<=1048576/\∀y∈l,aq.small 1048576 y):Ct Tryz.prog G 47 [.sl l1 14 (l.map (aq.tw l1)),.sl l2 14 (l.map (aq.tw l2))] (fun _=>.bool true):=by
 refine au Tryz.func47 rfl Tryz.ntmps47 rfl rfl fun w0 _ hG=>?_
 have hlen:=aq.len l1 l
 have hlen2:=aq.len l2 l
 have hl1:=hb.1
 repeat' refine W_ ?_
 apply aj (X:=Nat) [0,1] (fun i=>[(5,.int .i64 (i:Int))]) (fun _=>[]) (fun i=>i<=l.length) (fun i=>l.length - i) 0 (Zd _)
 exact kp_;exact nw_
 ·exact .refl _
 intro i hi
 try dsimp only
 by_cases hlt:i<l.length
 ·have hr1:(l.map (aq.tw l1))[i]?=some (l[i].tw l1):=aK hlt
  have hr2:(l.map (aq.tw l2))[i]?=some (l[i].tw l2):=aK hlt
  have hbi:=hb.2 _ (Zb hlt)
  generalize l[i]=x at hr1 hr2 hbi
  have hct:=tR hst l1 l2 x hbi
  unfold aq.tw at hct
  rw[show x.tw l1=[.int .i64 x.mark,.int .i64 x.code,.int .i64 x.pc,.int .i64 x.sender,.int .i64 x.outer,.int .i64 x.home,.int .i64 x.self.kind,.int .i64 x.self.number,.str x.self.text,.sl l1 3 (x.slots.map (ab.tw l1)),.sl l1 3 (x.stack.map (ab.tw l1)),.sl l1 3 (x.values.map (ab.tw l1)),.int .i64 x.other,.bool x.retry] from rfl] at hr1
  rw[show x.tw l2=[.int .i64 x.mark,.int .i64 x.code,.int .i64 x.pc,.int .i64 x.sender,.int .i64 x.outer,.int .i64 x.home,.int .i64 x.self.kind,.int .i64 x.self.number,.str x.self.text,.sl l2 3 (x.slots.map (ab.tw l2)),.sl l2 3 (x.stack.map (ab.tw l2)),.sl l2 3 (x.values.map (ab.tw l2)),.int .i64 x.other,.bool x.retry] from rfl] at hr2
  repeat' (first|refine V_ ?_|refine ai hG hst (hct) ?_)
  exact ag (i+1) (by omega) (by omega) (.of _ nw_ od_ pk_)
 ·repeat' refine W_ ?_
  exact r1_
end
def ao.tw (lo:Nat) (x:ao):List TV:=[.int .i64 x.at_,.bool x.main]
def ao.small (n:Nat) (x:ao):Prop:=True
def ao.tz:List TV:=[.int .i64 0,.bool false]
theorem ao.fin (B K:Nat) (objs:aJ) (x:ao):jB B objs K (x.tw B) (x.tw K):=.cons (.flat rfl) (.cons (.flat rfl) (.nil))
theorem ao.len (lo:Nat) (l:List ao):(l.map (ao.tw lo)).length=l.length:=by simp
section
variable {G:World->Prop}
theorem tC (_:aC G) (lo:Nat) (l:List ao) (left:Int) (h:0<=left/\left<=1048576) (hb:l.length<=9223372036854775807/\∀y∈l,ao.small 9223372036854775807 y):CtM Tryz.prog G 32 [.sl lo 2 (l.map (ao.tw lo)),.int .i64 left] [] (fun y:Int=>-1<=y/\y<=left/\(0<=y->l.length<=1048576/\∀y∈l,ao.small 1048576 y)) (fun _=>[]) (fun y=>.int .i64 y):=by
 refine aA Tryz.func32 rfl Tryz.ntmps32 rfl rfl rfl fun w0 R gs objsR hG hR=>?_
 obtain rfl:=hR.inv0
 clear hR
 have hlen:=ao.len lo l
 have hl1:=hb.1
 by_cases hn:left - l.length<0
 ·repeat' refine W_ ?_
  exact aD x_ rfl (-1) ⟨by omega,by omega,fun h=>by omega⟩ rfl (.nil R) (.refl _) (.tmp _ _ rfl) rfl
 ·repeat' refine W_ ?_
  exact aD x_ rfl (left - l.length) ⟨by omega,by omega,fun _=>⟨by omega,fun _ _=>trivial⟩⟩ rfl (.nil R) (.refl _) (.tmp _ _ rfl) rfl
theorem uw (hst:aC G) (lo:Nat) (x:ao) (hb:x.small 1048576):Ct Tryz.prog G 115 [.agg (x.tw lo)] (fun K=>.agg (x.tw K)):=by
 refine au Tryz.func115 rfl Tryz.ntmps115 rfl rfl fun w0 _ hG=>?_
 unfold ao.small at hb
 skip
 repeat' (first|refine W_ ?_|refine aN ?_|(refine am ?_;intro ss bb)|refine ac ?_)
 refine aM x_ rfl (.cell _ _ _ _ _ rfl mm_ (by kernel_rfl) (by kernel_rfl) (by kernel_rfl)) (fun _=>?_)
 exact my (ao.fin _ _ _ x)
theorem vI (hst:aC G) (l1 l2:Nat) (x:ao) (hb:x.small 1048576):Ct Tryz.prog G 130 [.agg (x.tw l1),.agg (x.tw l2)] (fun _=>.bool true):=by
 refine au Tryz.func130 rfl Tryz.ntmps130 rfl rfl fun w0 _ hG=>?_
 unfold ao.small at hb
 skip
 unfold ao.tw
 repeat' (first|refine W_ ?_|refine aN ?_|refine c_ (fun hc=>?_) (fun hc=>?_))
 all_goals first
   | (exfalso;simp at hc;done)
   | (exact r1_)
theorem tE (hst:aC G) (l1 l2:Nat) (l:List ao) (hb:l.length<=1048576/\∀y∈l,ao.small 1048576 y):Ct Tryz.prog G 48 [.sl l1 2 (l.map (ao.tw l1)),.sl l2 2 (l.map (ao.tw l2))] (fun _=>.bool true):=by
 refine au Tryz.func48 rfl Tryz.ntmps48 rfl rfl fun w0 _ hG=>?_
 have hlen:=ao.len l1 l
 have hlen2:=ao.len l2 l
 have hl1:=hb.1
 repeat' refine W_ ?_
 apply aj (X:=Nat) [0,1] (fun i=>[(5,.int .i64 (i:Int))]) (fun _=>[]) (fun i=>i<=l.length) (fun i=>l.length - i) 0 (Zd _)
 exact kp_;exact nw_
 ·exact .refl _
 intro i hi
 try dsimp only
 by_cases hlt:i<l.length
 ·have hr1:(l.map (ao.tw l1))[i]?=some (l[i].tw l1):=aK hlt
  have hr2:(l.map (ao.tw l2))[i]?=some (l[i].tw l2):=aK hlt
  have hbi:=hb.2 _ (Zb hlt)
  generalize l[i]=x at hr1 hr2 hbi
  have hct:=vI hst l1 l2 x hbi
  unfold ao.tw at hct
  rw[show x.tw l1=[.int .i64 x.at_,.bool x.main] from rfl] at hr1
  rw[show x.tw l2=[.int .i64 x.at_,.bool x.main] from rfl] at hr2
  repeat' (first|refine V_ ?_|refine ai hG hst (hct) ?_)
  exact ag (i+1) (by omega) (by omega) (.of _ nw_ od_ pk_)
 ·repeat' refine W_ ?_
  exact r1_
end
def ah.tw (lo:Nat) (x:ah):List TV:=[.sl lo 3 (x.base.classes.map (aa.tw lo)),.sl lo 4 (x.base.codes.map (aH.tw lo)),.sl lo 4 (x.base.entries.map (aF.tw lo)),.int .i64 x.base.main,.sl lo 3 (x.store.classes.map (aa.tw lo)),.sl lo 4 (x.store.objects.map (az.tw lo)),.sl lo 1 (bQ x.store.output),.int .i64 x.store.ticks,.int .i64 x.store.budget,.int .i64 x.store.made,.sl lo 6 (x.blocks.map (ap.tw lo)),.sl lo 14 (x.contexts.map (aq.tw lo)),.sl lo 2 (x.processes.map (ao.tw lo)),.sl lo 1 (aL x.ready),.int .i64 x.now,.int .i64 x.status,.int .i64 x.value.kind,.int .i64 x.value.number,.str x.value.text,.str x.fault]
def ah.small (n:Nat) (x:ah):Prop:=(aI.small n x.base)/\(aR.small n x.store)/\(x.blocks.length<=n/\∀y∈x.blocks,ap.small n y)/\(x.contexts.length<=n/\∀y∈x.contexts,aq.small n y)/\(x.processes.length<=n/\∀y∈x.processes,ao.small n y)/\(x.ready.length<=n)/\(ab.small n x.value)/\(x.fault.size<=n)
def ah.tz:List TV:=[.nils,.nils,.nils,.int .i64 0,.nils,.nils,.nils,.int .i64 0,.int .i64 0,.int .i64 0,.nils,.nils,.nils,.nils,.int .i64 0,.int .i64 0,.int .i64 0,.int .i64 0,.str ⟨#[]⟩,.str ⟨#[]⟩]
theorem ah.fin (B K:Nat) (objs:aJ) (x:ah):jB B objs K (x.tw B) (x.tw K):=.cons (cZ (fun x=>aa.fin B K objs x) _) (.cons (cZ (fun x=>aH.fin B K objs x) _) (.cons (cZ (fun x=>aF.fin B K objs x) _) (.cons (.flat rfl) (.cons (cZ (fun x=>aa.fin B K objs x) _) (.cons (cZ (fun x=>az.fin B K objs x) _) (.cons (cZ (fun x=>.cons (.flat rfl) .nil) _) (.cons (.flat rfl) (.cons (.flat rfl) (.cons (.flat rfl) (.cons (cZ (fun x=>ap.fin B K objs x) _) (.cons (cZ (fun x=>aq.fin B K objs x) _) (.cons (cZ (fun x=>ao.fin B K objs x) _) (.cons (cZ (fun x=>.cons (.flat rfl) .nil) _) (.cons (.flat rfl) (.cons (.flat rfl) (.cons (.flat rfl) (.cons (.flat rfl) (.cons (.flat rfl) (.cons (.flat rfl) (.nil))))))))))))))))))))
theorem ah.len (lo:Nat) (l:List ah):(l.map (ah.tw lo)).length=l.length:=by simp
section
variable {G:World->Prop}
theorem aaq (hst:aC G) (lo:Nat) (x:ah) (left:Int) (h:0<=left/\left<=1048576) (hb:x.small 9223372036854775807):CtM Tryz.prog G 7 [.agg (x.tw lo),.int .i64 left] [] (fun y:Int=>-1<=y/\y<=left/\(0<=y->x.small 1048576)) (fun _=>[]) (fun y=>.int .i64 y):=by
 refine aA Tryz.func7 rfl Tryz.ntmps7 rfl rfl rfl fun w0 R gs objsR hG hR=>?_
 obtain rfl:=hR.inv0
 clear hR
 unfold ah.small at hb
 have hb8:x.fault.size<=9223372036854775807:=hb.2.2.2.2.2.2.2
 unfold ah.tw
 repeat' (first|refine W_ ?_|refine aN ?_|((with_reducible apply aB);rfl;kernel_rfl;(repeat (first|exact ay.nil|((with_reducible apply ay.cons);rfl)));exact hG;exact rG hst lo x.base _ (by omega) hb.1;exact .nil _;intro y1 hy1;refine bV ?_)|((with_reducible apply aB);rfl;kernel_rfl;(repeat (first|exact ay.nil|((with_reducible apply ay.cons);rfl)));exact hG;exact aaf hst lo x.store _ (by omega) hb.2.1;exact .nil _;intro y2 hy2;refine bV ?_)|((with_reducible apply aB);rfl;kernel_rfl;(repeat (first|exact ay.nil|((with_reducible apply ay.cons);rfl)));exact hG;exact sK hst lo x.blocks _ (by omega) hb.2.2.1;exact .nil _;intro y3 hy3;refine bV ?_)|((with_reducible apply aB);rfl;kernel_rfl;(repeat (first|exact ay.nil|((with_reducible apply ay.cons);rfl)));exact hG;exact rJ hst lo x.contexts _ (by omega) hb.2.2.2.1;exact .nil _;intro y4 hy4;refine bV ?_)|((with_reducible apply aB);rfl;kernel_rfl;(repeat (first|exact ay.nil|((with_reducible apply ay.cons);rfl)));exact hG;exact tC hst lo x.processes _ (by omega) hb.2.2.2.2.1;exact .nil _;intro y5 hy5;refine bV ?_)|((with_reducible apply aB);rfl;kernel_rfl;(repeat (first|exact ay.nil|((with_reducible apply ay.cons);rfl)));exact hG;exact vf hst lo x.ready _ (by omega) hb.2.2.2.2.2.1;exact .nil _;intro y6 hy6;refine bV ?_)|((with_reducible apply aB);rfl;kernel_rfl;(repeat (first|exact ay.nil|((with_reducible apply ay.cons);rfl)));exact hG;exact jR hst lo x.value _ (by omega) hb.2.2.2.2.2.2.1;exact .nil _;intro y7 hy7;refine bV ?_)|refine c_ (fun hc=>?_) (fun hc=>?_))
 all_goals first
   | exact aD x_ rfl (-1) ⟨by omega,by omega,fun h=>by omega⟩ rfl (.nil R) (.refl _) (.tmp _ _ rfl) rfl
   | (refine aD x_ rfl _ ⟨?_, ?_,fun _=>?_⟩ rfl (.nil R) (.refl _) (.tmp _ _ rfl) rfl
      ·omega
      ·omega
      ·exact⟨hy1.2.2 (by omega),hy2.2.2 (by omega),hy3.2.2 (by omega),hy4.2.2 (by omega),hy5.2.2 (by omega),hy6.2.2 (by omega),hy7.2.2 (by omega),by omega⟩)
theorem qN (hst:aC G) (l1 l2:Nat) (x:ah) (hb:x.small 1048576):Ct Tryz.prog G 12 [.agg (x.tw l1),.agg (x.tw l2)] (fun _=>.bool true):=by
 refine au Tryz.func12 rfl Tryz.ntmps12 rfl rfl fun w0 _ hG=>?_
 unfold ah.small at hb
 have hsbase:=hb.1
 have hsstore:=hb.2.1
 have hsblocks:=hb.2.2.1
 have hscontexts:=hb.2.2.2.1
 have hsprocesses:=hb.2.2.2.2.1
 have hsready:=hb.2.2.2.2.2.1
 have hsvalue:=hb.2.2.2.2.2.2.1
 have hnefault:¬ x.fault≠x.fault:=fun h=>h rfl
 unfold ah.tw
 repeat' (first|refine W_ ?_|refine aN ?_|refine ad hG hst (rR hst l1 l2 x.base hsbase) ?_|refine ad hG hst (zt hst l1 l2 x.store hsstore) ?_|refine ad hG hst (su hst l1 l2 x.blocks hsblocks) ?_|refine ad hG hst (sR hst l1 l2 x.contexts hscontexts) ?_|refine ad hG hst (tE hst l1 l2 x.processes hsprocesses) ?_|refine ad hG hst (t6 hst l1 l2 x.ready hsready) ?_|refine ad hG hst (jJ hst l1 l2 x.value hsvalue) ?_)
 all_goals first
   | (exfalso;simp at hc;done)
   | (exact r1_)
end
end Go.Proofs.YtofnnnpahglfdaaGreatDoor
