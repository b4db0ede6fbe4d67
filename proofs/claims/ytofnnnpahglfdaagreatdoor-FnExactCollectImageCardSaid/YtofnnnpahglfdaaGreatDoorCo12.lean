/- Part 12 of the proof: the texts IvB, IvC, IvD, IvE, IvP, IvF, IvH. -/
import Derived.Test.YtofnnnpahglfdaaGreatDoorCo3
import Derived.Test.YtofnnnpahglfdaaGreatDoorCo8
import Derived.Test.YtofnnnpahglfdaaGreatDoorCo7
import Derived.Test.YtofnnnpahglfdaaGreatDoorCo6
set_option linter.all false
set_option maxHeartbeats 4000000
set_option maxRecDepth 20000
namespace Go.Proofs.YtofnnnpahglfdaaGreatDoor
open Go Go.RowKit
theorem rW {i:Nat} {x:aa} (hx:bS[i]?=some x):((i=0->x.parent=-1)/\(i=2->x.parent=1)/\(i=3->x.parent=2)/\(i=4->x.parent=2)/\(i≠0->i≠2->i≠3->i≠4->x.parent=0))/\(i<16):=by
 have hi:i<16:=by
   have:=(List.getElem?_eq_some_iff.1 hx).1
   rwa [f8] at this
 refine⟨?_,hi⟩
 match i,hi,hx with
 | 0,_,hx=>cases hx;simp
 | 1,_,hx=>cases hx;simp
 | 2,_,hx=>cases hx;simp
 | 3,_,hx=>cases hx;simp
 | 4,_,hx=>cases hx;simp
 | 5,_,hx=>cases hx;simp
 | 6,_,hx=>cases hx;simp
 | 7,_,hx=>cases hx;simp
 | 8,_,hx=>cases hx;simp
 | 9,_,hx=>cases hx;simp
 | 10,_,hx=>cases hx;simp
 | 11,_,hx=>cases hx;simp
 | 12,_,hx=>cases hx;simp
 | 13,_,hx=>cases hx;simp
 | 14,_,hx=>cases hx;simp
 | 15,_,hx=>cases hx;simp
 | n+16,h,_=>omega
def sP (lo:Nat):List ByteArray->TV
 | []=>.nils
 | a::l=>.sl lo 1 (bQ (a::l))
def aa.twN (lo:Nat) (x:aa):List TV:=[.str x.name,.int .i64 x.parent,sP lo x.fields]
theorem w9 (B K:Nat) (objs:aJ):∀l:List ByteArray,Fin B objs K (sP B l) (.sl K 1 (bQ l))
 | []=>.nils 1
 | a::l=>cZ (f:=fun s:ByteArray=>[TV.str s]) (f':=fun s:ByteArray=>[TV.str s]) (fun x=>.cons (.flat rfl) .nil) (a::l)
theorem aa.finN (B K:Nat) (objs:aJ) (x:aa):jB B objs K (x.twN B) (x.tw K):=.cons (.flat rfl) (.cons (.flat rfl) (.cons (w9 B K objs x.fields) .nil))
section
variable {G:World->Prop}
theorem gz (hst:aC G):Ct Tryz.prog G 252 [] (fun K=>.sl K 3 (bS.map (aa.tw K))):=by
 refine au Tryz.func252 rfl Tryz.ntmps252 rfl rfl fun w0 _ hG=>?_
 have hlen:(bQ cX).length=16:=rfl
 have hbl:cX.length=16:=rfl
 repeat' (first|refine W_ ?_|refine ad hG hst (ql) ?_|(refine jZ ?_;intro ss bb))
 apply aj (X:=Nat×Nat) [6,7] (fun x=>[(8,.int .i64 (x.1:Int)),(1,.ms ss x.2 0 x.1)]) (fun x=>[(ss,x.2,.row 3 ((bS.take x.1).map (aa.twN w0.heap.size)))]) (fun x=>x.1<=16) (fun x=>16 - x.1) (0,bb) (Zd _)
 exact kp_;exact nw_
 ·exact .refl _
 rintro ⟨i,b⟩ hi
 dsimp only at hi |-
 by_cases hlt:i<16
 ·obtain⟨x,hx,h1,_,h3,h4⟩:=jI hlt
  obtain⟨hp,_⟩:=rW hx
  have hle:((bS.take i).map (aa.twN w0.heap.size)).length=i:=by rw[Ze,Zu,f8];omega
  by_cases hf:1<=i/\i<=4
  ·have hin:inR (i:Int) 1 4=true:=by unfold inR;simp;omega
   have hw:Ct Tryz.prog G 70 [.int .i64 i,.int .i64 1,.int .i64 4] (fun _=>.bool true):=by rw[<- hin];exact aP _ _ _
   have hbf:ir (i:Int)=[⟨#[116,101,120,116]⟩]:=if_pos (by omega)
   rw[hbf] at h3
   have hrow:∀p:Int,p=x.parent->(bS.take i).map (aa.twN w0.heap.size)++[[TV.str x.name,.int .i64 p,.sl w0.heap.size 1 [[TV.str ⟨#[116,101,120,116]⟩]]]]=(bS.take (i+1)).map (aa.twN w0.heap.size):=fun p h=>by
     rw[h4,Z1,h];show _++_=_++[[_,_,sP w0.heap.size x.fields]];rw[<- h3];rfl
   clear h4
   repeat' (first|refine W_ ?_|(refine am ?_;intro ss bb)|refine fg ?_|refine ac ?_|refine ad hG hst (hw) ?_|refine cK ?_|(refine uA ?_;intro bb)|refine c_ (fun hc=>?_) (fun hc=>?_)|refine g_ (fun hg=>?_) (fun hg=>?_))
   all_goals
     rw[hrow]
     ·exact ag (i+1,bb) (by dsimp only;omega) (by dsimp only;omega) (.of _ nw_ od_ pk_)
     ·omega
  ·have hin:inR (i:Int) 1 4=false:=by unfold inR;simp;omega
   have hw:Ct Tryz.prog G 70 [.int .i64 i,.int .i64 1,.int .i64 4] (fun _=>.bool false):=by rw[<- hin];exact aP _ _ _
   have hbf:ir (i:Int)=[]:=if_neg (by omega)
   rw[hbf] at h3
   have hrow:∀p:Int,p=x.parent->(bS.take i).map (aa.twN w0.heap.size)++[[TV.str x.name,.int .i64 p,.nils]]=(bS.take (i+1)).map (aa.twN w0.heap.size):=fun p h=>by
     rw[h4,Z1,h];show _++_=_++[[_,_,sP w0.heap.size x.fields]];rw[<- h3];rfl
   clear h4
   repeat' (first|refine W_ ?_|(refine am ?_;intro ss bb)|refine fg ?_|refine ac ?_|refine ad hG hst (hw) ?_|refine cK ?_|(refine uA ?_;intro bb)|refine c_ (fun hc=>?_) (fun hc=>?_))
   all_goals
     rw[hrow]
     ·exact ag (i+1,bb) (by dsimp only;omega) (by dsimp only;omega) (.of _ nw_ od_ pk_)
     ·omega
 ·obtain rfl:i=16:=by omega
  repeat' refine W_ ?_
  refine aM x_ rfl (.tmp _ _ rfl) (fun _=>?_)
  exact yT (f':=aa.tw _) (fun x=>aa.finN _ _ _ x) Zi
end
theorem vz {l:List ByteArray} {s:ByteArray} {i:Nat} (h:i<l.length) (e:l[i]=s):kD l s=true:=by
 unfold kD
 exact List.any_eq_true.2 ⟨_,Zb h,by simp[e]⟩
theorem qD {l:List ByteArray} {s:ByteArray} (h:∀y∈l,y≠s):kD l s=false:=by
 unfold kD
 exact List.any_eq_false.2 fun y hy hb=>h y hy (ByteArray.ext (Array.toList_inj.1 (by simpa [Lib.toList_data] using hb)))
theorem mV {a b:List ByteArray} {i:Nat} (ha:i<a.length) (hb:i<b.length) (h:a.take i=b.take i) (e:a[i]=b[i]):a.take (i+1)=b.take (i+1):=by
 rw[Z6,Z6,h,Za ha,Za hb,e]
section
variable {G:World->Prop}
theorem yn (lo:Nat) (l:List ByteArray) (s:ByteArray) (hn:l.length<=1048576):Ct Tryz.prog G 212 [.sl lo 1 (bQ l),.str s] (fun _=>.bool (kD l s)):=by
 refine au Tryz.func212 rfl Tryz.ntmps212 rfl rfl fun w0 _ hG=>?_
 have hlen:=ch l
 repeat' refine W_ ?_
 apply aj (X:=Nat) [0,1] (fun i=>[(5,.int .i64 (i:Int))]) (fun _=>[]) (fun i=>i<=l.length/\∀y∈l.take i,y≠s) (fun i=>l.length - i) 0 ⟨Zd _,by simp⟩
 exact kp_;exact nw_
 ·exact .refl _
 rintro i ⟨hi,hs⟩
 try dsimp only
 by_cases hlt:i<l.length
 ·have hrow:=eM hlt
  have hta:=bu (p:=fun y=>y≠s) hlt hs
  have htr:=vz (s:=s) hlt
  generalize l[i]=x at hrow hta htr
  by_cases hx:x=s
  ·rw[htr hx]
   repeat' refine W_ ?_
   exact r1_
  ·repeat' refine W_ ?_
   exact ag (i+1) ⟨by omega,hta hx⟩ (by omega) (.of _ nw_ od_ pk_)
 ·rw[Zc (by omega)] at hs
  rw[qD hs]
  repeat' refine W_ ?_
  exact r1_
theorem jQ (l1 l2:Nat) (a b:List ByteArray) (hn:a.length<=1048576) (hm:b.length<=1048576):Ct Tryz.prog G 180 [.sl l1 1 (bQ a),.sl l2 1 (bQ b)] (fun _=>.bool (decide (a=b))):=by
 refine au Tryz.func180 rfl Tryz.ntmps180 rfl rfl fun w0 _ hG=>?_
 have hla:=ch a
 have hlb:=ch b
 by_cases hl:a.length=b.length
 ·repeat' refine W_ ?_
  apply aj (X:=Nat) [0,1] (fun i=>[(5,.int .i64 (i:Int))]) (fun _=>[]) (fun i=>i<=a.length/\a.take i=b.take i) (fun i=>a.length - i) 0 ⟨Zd _,by simp⟩
  exact kp_;exact nw_
  ·exact .refl _
  rintro i ⟨hi,hs⟩
  try dsimp only
  by_cases hlt:i<a.length
  ·have hr1:=eM hlt
   have hlt2:i<b.length:=by omega
   have hr2:=eM hlt2
   have hta:=mV hlt hlt2 hs
   have hne:a[i]≠b[i]->decide (a=b)=false:=fun h=>decide_eq_false fun e=>h (by subst e;rfl)
   generalize a[i]=x at hr1 hta hne
   generalize b[i]=y at hr2 hta hne
   by_cases hx:x=y
   ·have hx':¬ x≠y:=fun h=>h hx
    repeat' refine V_ ?_
    exact ag (i+1) ⟨by omega,hta hx⟩ (by omega) (.of _ nw_ od_ pk_)
   ·have hx':x≠y:=hx
    rw[hne hx]
    repeat' refine V_ ?_
    exact r1_
  ·rw[Zc (by omega),Zc (by omega)] at hs
   rw[decide_eq_true hs]
   repeat' refine W_ ?_
   exact r1_
 ·rw[decide_eq_false (p:=a=b) fun e=>hl (by rw[e])]
  repeat' refine W_ ?_
  exact r1_
theorem gT (l1 l2:Nat) (a b:List ByteArray) (hn:a.length<=1048576) (hm:b.length<=1048576):Ct Tryz.prog G 253 [.sl l1 1 (bQ a),.sl l2 1 (bQ b)] (fun _=>.bool (decide (a=b))):=by
 refine au Tryz.func253 rfl Tryz.ntmps253 rfl rfl fun w0 _ hG=>?_
 have hla:=ch a
 have hlb:=ch b
 by_cases hl:a.length=b.length
 ·repeat' refine W_ ?_
  apply aj (X:=Nat) [0,1,12] (fun i=>[(13,.int .i64 (i:Int))]) (fun _=>[]) (fun i=>i<=a.length/\a.take i=b.take i) (fun i=>a.length - i) 0 ⟨Zd _,by simp⟩
  exact kp_;exact nw_
  ·exact .refl _
  rintro i ⟨hi,hs⟩
  try dsimp only
  by_cases hlt:i<a.length
  ·have hr1:=eM hlt
   have hlt2:i<b.length:=by omega
   have hr2:=eM hlt2
   have hta:=mV hlt hlt2 hs
   have hne:a[i]≠b[i]->decide (a=b)=false:=fun h=>decide_eq_false fun e=>h (by subst e;rfl)
   generalize a[i]=x at hr1 hta hne
   generalize b[i]=y at hr2 hta hne
   by_cases hx:x=y
   ·have hx':¬ x≠y:=fun h=>h hx
    repeat' refine V_ ?_
    exact ag (i+1) ⟨by omega,hta hx⟩ (by omega) (.of _ nw_ od_ pk_)
   ·have hx':x≠y:=hx
    rw[hne hx]
    repeat' refine V_ ?_
    exact r1_
  ·rw[Zc (by omega),Zc (by omega)] at hs
   rw[decide_eq_true hs]
   repeat' refine W_ ?_
   exact r1_
 ·rw[decide_eq_false (p:=a=b) fun e=>hl (by rw[e])]
  repeat' refine W_ ?_
  exact r1_
end
def ac6 (l:List ByteArray) (s:ByteArray):Int:=if kD l s then (l.findIdx (fun y=>decide (y=s)):Nat) else -1
theorem afU {l:List ByteArray} {s:ByteArray} {i:Nat} (h:i<l.length) (e:l[i]=s) (hb:∀y∈l.take i,y≠s):ac6 l s=i:=by
 unfold ac6
 rw[if_pos (vz h e),(List.findIdx_eq (p:=fun y=>decide (y=s)) h).2 ⟨by simp[e],fun j hj=>?_⟩]
 refine decide_eq_false (hb _ ?_)
 exact List.mem_take_iff_getElem.2 ⟨j,by omega,rfl⟩
theorem acn {l:List ByteArray} {s:ByteArray} (h:∀y∈l,y≠s):ac6 l s=-1:=by
 unfold ac6
 rw[qD h];rfl
section
variable {G:World->Prop}
theorem iV (s:ByteArray) (hs:s.size<=1048576):Ct Tryz.prog G 254 [.str s] (fun _=>.bool (cO s.data.toList)):=ix fun w _=>(fp s w hs).mono fun _ _ h=>⟨h.1,ww h.2⟩
theorem xA (s:ByteArray) (hs:s.size<=1048576):Ct Tryz.prog G 248 [.str s] (fun _=>.bool (cf s.data.toList)):=ix fun w _=>(fP s w hs).mono fun _ _ h=>⟨h.1,ww h.2⟩
theorem z8:Ct Tryz.prog G 249 [] (fun K=>.sl K 1 (bQ fM)):=by
 refine au Tryz.func249 rfl Tryz.ntmps249 rfl rfl fun w0 _ hG=>?_
 repeat' (first|refine W_ ?_|refine cK ?_)
 refine aM (r1:=.tmp 0) (t1:=.sl w0.heap.size 1 (bQ fM)) (.inr rfl) rfl (.tmp _ _ rfl) (fun _=>?_)
 exact cZ (f:=fun s:ByteArray=>[TV.str s]) (f':=fun s:ByteArray=>[TV.str s]) (fun x=>.cons (.flat rfl) .nil) fM
theorem iQ (hst:aC G) (s:ByteArray) (hs:s.size<=1048576):Ct Tryz.prog G 241 [.str s] (fun _=>.bool (cO s.data.toList)):=by
 refine au Tryz.func241 rfl Tryz.ntmps241 rfl rfl fun w0 _ hG=>?_
 have hw:fM.length<=1048576:=by decide
 have hp:=xA (G:=G) s hs
 rw[show cO s.data.toList=(cf s.data.toList && !kD fM s) from by rw[l6];rfl]
 cases h:cf s.data.toList
 all_goals
   rw[h] at hp
   cases h2:kD fM s
   all_goals
     have hh:=yn (G:=G) w0.heap.size fM s hw
     rw[h2] at hh
     repeat' (first|refine W_ ?_|refine ad hG hst (hp) ?_|refine ad hG hst (z8) ?_|refine ad hG hst (hh) ?_)
     exact r1_
theorem qq (lo:Nat) (l:List ByteArray) (s:ByteArray) (hn:l.length<=1048576):Ct Tryz.prog G 301 [.sl lo 1 (bQ l),.str s] (fun _=>.int .i64 (ac6 l s)):=by
 refine au Tryz.func301 rfl Tryz.ntmps301 rfl rfl fun w0 _ hG=>?_
 have hlen:=ch l
 repeat' refine W_ ?_
 apply aj (X:=Nat) [0,1,7] (fun i=>[(8,.int .i64 (i:Int))]) (fun _=>[]) (fun i=>i<=l.length/\∀y∈l.take i,y≠s) (fun i=>l.length - i) 0 ⟨Zd _,by simp⟩
 exact kp_;exact nw_
 ·exact .refl _
 rintro i ⟨hi,hs⟩
 try dsimp only
 by_cases hlt:i<l.length
 ·have hrow:=eM hlt
  have hta:=bu (p:=fun y=>y≠s) hlt hs
  have htr:l[i]=s->ac6 l s=i:=fun e=>afU hlt e hs
  generalize l[i]=x at hrow hta htr
  by_cases hx:x=s
  ·rw[htr hx]
   have hx2:s=x:=hx.symm
   repeat' refine W_ ?_
   exact r1_
  ·have hx2:¬ s=x:=fun e=>hx e.symm
   repeat' refine W_ ?_
   exact ag (i+1) ⟨by omega,hta hx⟩ (by omega) (.of _ nw_ od_ pk_)
 ·rw[Zc (by omega)] at hs
  rw[acn hs]
  repeat' refine W_ ?_
  exact r1_
theorem lY (hst:aC G) (lo:Nat) (l:List ByteArray) (s:ByteArray) (hn:l.length<=1048576):Ct Tryz.prog G 255 [.sl lo 1 (bQ l),.str s] (fun _=>.bool (decide (ac6 l s ≥ 0))):=by
 refine au Tryz.func255 rfl Tryz.ntmps255 rfl rfl fun w0 _ hG=>?_
 repeat' (first|refine W_ ?_|refine ad hG hst (qq lo l s hn) ?_)
 exact r1_
theorem aeb (l:List ByteArray) (s:ByteArray):decide (ac6 l s ≥ 0)=kD l s:=by
 unfold ac6
 cases kD l s
 ·rfl
 ·rw[if_pos rfl];exact decide_eq_true (Y2 _)
end
def pS (s:ByteArray):Bool:=decide (∀j,j<s.size->32<=bat s j/\bat s j<=126) && decide ((s.size:Int)<=40)
theorem rq {s:ByteArray} {i:Nat} (h:i<s.size) (hb:¬ (32<=bat s i/\bat s i<=126)):pS s=false:=by
 unfold pS
 rw[decide_eq_false fun hk=>hb (hk i h)];rfl
theorem pL {s:ByteArray} (h:∀j,j<s.size->32<=bat s j/\bat s j<=126):pS s=decide ((s.size:Int)<=40):=by
 unfold pS
 rw[decide_eq_true h];rfl
theorem cy {p:Nat->Prop} {i:Nat} (h:∀j,j<i->p j) (hi:p i):∀j,j<i+1->p j:=fun j hj=>by
 rcases Yx j i with hk|hk
 ·exact h j hk
 ·obtain rfl:j=i:=by omega
  exact hi
section
variable {G:World->Prop}
theorem wg (s:ByteArray) (hs:s.size<=1048576):Ct Tryz.prog G 293 [.str s] (fun _=>.bool (pS s)):=by
 refine au Tryz.func293 rfl Tryz.ntmps293 rfl rfl fun w0 _ hG=>?_
 repeat' refine W_ ?_
 apply aj (X:=Nat) [0] (fun i=>[(3,.int .i64 (i:Int))]) (fun _=>[]) (fun i=>i<=s.size/\∀j,j<i->32<=bat s j/\bat s j<=126) (fun i=>s.size - i) 0 ⟨Zd _,by simp⟩
 exact kp_;exact nw_
 ·exact .refl _
 rintro i ⟨hi,hk⟩
 try dsimp only
 by_cases hlt:i<s.size
 ·have hb:=yP s i
  by_cases hx:32<=bat s i/\bat s i<=126
  ·repeat' refine W_ ?_
   exact ag (i+1) ⟨by omega,cy hk hx⟩ (by omega) (.of _ nw_ od_ pk_)
  ·rw[rq hlt hx]
   repeat' (first|refine W_ ?_|refine g_ (fun hg=>?_) (fun hg=>?_))
   all_goals first
     | (exfalso;omega)
     | (exact r1_)
 ·rw[pL fun j hj=>hk j (by omega)]
  repeat' refine W_ ?_
  exact r1_
theorem uQ (hst:aC G) (s:ByteArray) (hs:s.size<=1048576):Ct Tryz.prog G 264 [.str s] (fun _=>.bool (pS s)):=by
 refine au Tryz.func264 rfl Tryz.ntmps264 rfl rfl fun w0 _ hG=>?_
 repeat' refine W_ ?_
 apply aj (X:=Nat) [0] (fun i=>[(3,.int .i64 (i:Int))]) (fun _=>[]) (fun i=>i<=s.size/\∀j,j<i->32<=bat s j/\bat s j<=126) (fun i=>s.size - i) 0 ⟨Zd _,by simp⟩
 exact kp_;exact nw_
 ·exact .refl _
 rintro i ⟨hi,hk⟩
 try dsimp only
 by_cases hlt:i<s.size
 ·have hb:=yP s i
  by_cases hx:32<=bat s i/\bat s i<=126
  ·have hw:Ct Tryz.prog G 70 [.int .i64 (bat s i),.int .i64 32,.int .i64 126] (fun _=>.bool true):=by rw[<- show inR (bat s i) 32 126=true from by unfold inR;simp;omega];exact aP _ _ _
   repeat' (first|refine W_ ?_|refine ad hG hst (hw) ?_)
   exact ag (i+1) ⟨by omega,cy hk hx⟩ (by omega) (.of _ nw_ od_ pk_)
  ·have hw:Ct Tryz.prog G 70 [.int .i64 (bat s i),.int .i64 32,.int .i64 126] (fun _=>.bool false):=by rw[<- show inR (bat s i) 32 126=false from by unfold inR;simp;omega];exact aP _ _ _
   rw[rq hlt hx]
   repeat' (first|refine W_ ?_|refine ad hG hst (hw) ?_)
   exact r1_
 ·rw[pL fun j hj=>hk j (by omega)]
  repeat' refine W_ ?_
  exact r1_
end
def fieldAt (f:List ByteArray) (k:Nat) (s:ByteArray):Bool:=cO s.data.toList && !kD (f.take k) s
def sH (f:List ByteArray):Prop:=∀(k:Nat) (h:k<f.length),fieldAt f k f[k]=true
def dE (l:List aa) (i:Nat) (x:aa):Prop :=
 cO x.name.data.toList=true/\(0<=x.parent/\x.parent<i)/\¬ (5<=x.parent/\x.parent<=15)/\x.fields.length<=8
instance (l:List aa) (i:Nat) (x:aa):Decidable (dE l i x):=by unfold dE;infer_instance
def tQ (l:List aa) (i:Nat) (x:aa):Prop:=∀y∈l.take i,y.name≠x.name
def eF (l:List aa) (x:aa):List ByteArray:=match l[x.parent.toNat]? with
 | some p=>p.fields
 | none=>[]
def adQ (l:List aa) (x:aa):Prop:=(eF l x).length<=x.fields.length/\x.fields.take (eF l x).length=eF l x
def eY (l:List aa) (i:Nat) (x:aa):Prop :=
 if i<16 then ∃b,bS[i]?=some b/\x.name=b.name/\x.parent=b.parent/\x.fields=b.fields
 else dE l i x/\tQ l i x/\adQ l x/\sH x.fields
def qL (l:List aa):Prop:=(16<=l.length/\l.length<=24)/\∀(i:Nat) (h:i<l.length),eY l i l[i]
open Classical in
noncomputable def ci (l:List aa):Bool:=decide (qL l)
open Classical in
theorem kK {l:List aa} (h:¬ (16<=l.length/\l.length<=24)):ci l=false:=decide_eq_false fun k=>h k.1
open Classical in
theorem kW {l:List aa} {i:Nat} (h:i<l.length) (hb:¬ eY l i l[i]):ci l=false:=decide_eq_false fun k=>hb (k.2 i h)
open Classical in
theorem j9 {l:List aa} (hl:16<=l.length/\l.length<=24) (h:∀j,j<l.length->∀h:j<l.length,eY l j l[j]):ci l=true:=decide_eq_true ⟨hl,fun i hi=>h i hi hi⟩
theorem oq {l:List aa} {i:Nat} {x b:aa} (h:i<16) (hb:bS[i]?=some b):eY l i x↔x.name=b.name/\x.parent=b.parent/\x.fields=b.fields:=by
 unfold eY
 rw[if_pos h]
 constructor
 ·rintro ⟨c,hc,k⟩
  rw[hb] at hc;cases hc;exact k
 ·exact fun k=>⟨b,hb,k⟩
theorem mS {l:List aa} {i:Nat} {x:aa} (h:¬ i<16):eY l i x↔dE l i x/\tQ l i x/\adQ l x/\sH x.fields:=by
 unfold eY
 rw[if_neg h]
theorem jf {l:List aa} {x p:aa} {k:Nat} (h:x.parent=k) (hp:l[k]?=some p):eF l x=p.fields:=by
 unfold eF
 rw[h,ZF,hp]
theorem ng {f:List ByteArray} {k:Nat} (h:k<f.length) (hb:fieldAt f k f[k]=false):¬ sH f:=fun a=>by
 have:=a k h
 rw[hb] at this;cases this
theorem abn {G:World->Prop} (op:Int):Ct Tryz.prog G 261 [.int .i64 op] (fun _=>.tup [.bool (agj op),.bool (agv op),.bool (agV op)]):=by
 refine au Tryz.func261 rfl Tryz.ntmps261 rfl rfl fun w0 _ hG=>?_
 repeat' (first|with_reducible refine dt rfl ?_|((with_reducible apply o_y);exact y_;rfl)|with_reducible refine dM ?_|with_reducible refine cG ?_|with_reducible refine fZ ?_|with_reducible refine ej ?_|with_reducible refine dg ?_|with_reducible refine em ?_|with_reducible refine ew ?_|with_reducible refine gp ?_|with_reducible refine bN ?_|with_reducible refine aq_block_miss rfl ?_|with_reducible refine bO ?_|with_reducible refine bU ?_|with_reducible refine bL ?_|with_reducible refine dA ?_|with_reducible refine dt rfl ?_|refine jp rfl rfl rfl rr_ ?_|refine f5 rfl rfl rfl rr_ rfl rfl rfl ?_|refine e9 rfl rfl rfl rr_ rfl rfl ?_|(refine pH rfl rfl rfl rr_ dd_ ?_)|(refine oH rfl rfl rfl rr_ dd_ ?_)|(refine ef rfl rfl rfl rr_ (fun hg=>?_) (fun hg=>?_))|(refine dT rfl rfl rfl rr_ (fun hg=>?_) (fun hg=>?_))|refine cH rfl rr_ ?_|refine cM rfl rr_ ?_|(refine cm rfl rr_ dd_ ?_)|(refine ck rfl rr_ dd_ ?_)|(refine eV rfl rr_ (fun hc=>?_) (fun hc=>?_))|(refine dC rfl rr_ (fun hc=>?_) (fun hc=>?_)))
 all_goals
   refine abf x_ rfl (.tmp _ _ rfl) (.tmp _ _ rfl) (.tmp _ _ rfl) (fun _=>?_) (fun _=>?_) (fun _=>?_)
   all_goals
     refine aO ?_
     simp only[agj,agv,agV]
     symm
     first|(rw[decide_eq_true_iff];omega)|(rw[decide_eq_false_iff_not];omega)
section
variable {G:World->Prop}
theorem mP (hst:aC G) (lo:Nat) (l:List aa) (hsm:l.length<=1048576/\∀y∈l,aa.small 1048576 y):Ct Tryz.prog G 193 [.sl lo 3 (l.map (aa.tw lo))] (fun _=>.bool (ci l)):=by
 refine au Tryz.func193 rfl Tryz.ntmps193 rfl rfl fun w0 _ hG=>?_
 have hlen:=aa.len lo l
 have hbl:=aa.len w0.heap.size bS
 rw[f8] at hbl
 have hl1:=hsm.1
 have hwi:=aP (G:=G) (l.length:Int) 16 24
 by_cases hl:16<=l.length/\l.length<=24
 ·rw[wb (by omega)] at hwi
  repeat' (first|refine W_ ?_|refine ad hG hst (hwi) ?_)
  apply aj (X:=Nat) [0,15,16] (fun i=>[(17,.int .i64 (i:Int))]) (fun _=>[]) (fun i=>i<=l.length/\∀j,j<i->∀h:j<l.length,eY l j l[j]) (fun i=>l.length - i) 0 ⟨Zd _,by simp⟩
  exact kp_;exact nw_
  ·exact .nil _
  rintro i ⟨hi,hk⟩
  try dsimp only
  by_cases hlt:i<l.length
  ·have hra:(l.map (aa.tw lo))[i]?=some (l[i].tw lo):=aK hlt
   have hbi:=hsm.2 _ (Zb hlt)
   have hbad:=kW hlt
   have hks:eY l i l[i]->∀j,j<i+1->∀h:j<l.length,eY l j l[j]:=fun ho=>cy hk fun _=>ho
   generalize l[i]=x at hra hbi hbad hks
   rw[show x.tw lo=[.str x.name,.int .i64 x.parent,.sl lo 1 (bQ x.fields)] from rfl] at hra
   by_cases hlow:i<16
   ·obtain⟨bi,hb,_,_,h3,_⟩:=jI hlow
    have hrb:(bS.map (aa.tw w0.heap.size))[i]?=some [.str bi.name,.int .i64 bi.parent,.sl w0.heap.size 1 (bQ bi.fields)]:=by rw[Zp,hb];rfl
    rw[oq hlow hb] at hbad hks
    have hbf:bi.fields.length<=1048576:=by rw[<- h3];unfold ir;split <;> simp
    have heq:=gT (G:=G) lo w0.heap.size x.fields bi.fields hbi.2.1 hbf
    clear h3
    by_cases ho:x.name=bi.name/\x.parent=bi.parent/\x.fields=bi.fields
    ·have n1:¬ x.name≠bi.name:=fun h=>h ho.1
     have n2:¬ x.parent≠bi.parent:=fun h=>h ho.2.1
     rw[decide_eq_true ho.2.2] at heq
     repeat' (first|refine W_ ?_|(refine am ?_;intro ss bb)|refine ac ?_|refine ad hG hst (gz hst) ?_|refine ad hG hst (heq) ?_)
     exact ag (i+1) ⟨by omega,hks ho⟩ (by omega) (.of _ nw_ od_ (bW.nil _))
    ·rw[hbad ho]
     clear hks hbad
     by_cases hfe:x.fields=bi.fields
     ·rw[decide_eq_true hfe] at heq
      repeat' (first|refine W_ ?_|(refine am ?_;intro ss bb)|refine ac ?_|refine ad hG hst (gz hst) ?_|refine ad hG hst (heq) ?_|refine g_ (fun hg=>?_) (fun hg=>?_))
      all_goals first
        | (exfalso;exact ho ⟨Decidable.of_not_not (by assumption),Decidable.of_not_not (by assumption),hfe⟩)
        | (exact r1_)
     ·rw[decide_eq_false hfe] at heq
      repeat' (first|refine W_ ?_|(refine am ?_;intro ss bb)|refine ac ?_|refine ad hG hst (gz hst) ?_|refine ad hG hst (heq) ?_|refine g_ (fun hg=>?_) (fun hg=>?_))
      all_goals
        exact r1_
   ·rw[mS hlow] at hbad hks
    obtain⟨nm,par,fs⟩:=x
    dsimp only at hra hbi hbad hks
    have hx1:nm.size<=1048576:=hbi.1
    have hx2:fs.length<=1048576:=hbi.2.1
    have hx3:∀y∈fs,ByteArray.size y<=1048576:=hbi.2.2
    have hfl:=ch fs
    clear hbl
    repeat' (first|refine H_ 10 ?_|(refine am ?_;intro ss bb)|refine ac ?_)
    refine⟨dM ?_⟩
    generalize ss=s3;generalize bb=b3
    apply gq (X:=Unit) [0,3,4,15,16,17] (fun _=>[(70,.bool (!decide (dE l i ⟨nm,par,fs⟩)))]) (fun _=>[(s3,b3,.box [.str nm,.int .i64 par,.sl lo 1 (bQ fs)])]) (fun _=>True)
    case hk=>(repeat (first|exact jY.nil|(apply jY.cons;rfl)))
    ·repeat' (first|refine W_ ?_|refine ad hG hst (iV _ hx1) ?_|refine ad hG hst (aP _ _ _) ?_|refine g_ (fun hg=>?_) (fun hg=>?_))
     all_goals
       refine eG () trivial (.of _ (cq.envCons (kt rfl ?_) cq.envNil) od_ pk_)
       clear hbad hks hk hra hbi
       simp only[Ya,Y3,inR,decide_eq_true_eq,decide_eq_false_iff_not] at *
       by_cases h8:(8:Int)<(fs.length:Int)
       all_goals (try simp only[h8,decide_true,decide_false])
       all_goals first
         | (have:dE l i ⟨nm,par,fs⟩:=⟨by assumption,by dsimp only;omega,by dsimp only;omega,by dsimp only;omega⟩
            simp only[decide_eq_true this,YF]
            done)
         | (have : ¬ dE l i ⟨nm, par, fs⟩ := fun h => by
              obtain⟨h1,h2,h3,h4⟩:=h
              dsimp only at h1 h2 h3 h4
              first
                | omega
                | (simp only[h1] at *;done)
                | (simp_all;done)
            simp only[decide_eq_false this,Yv]
            done)
    intro _ _
    by_cases hh:dE l i ⟨nm,par,fs⟩
    ·rw[decide_eq_true hh,YF]
     have hh2:=hh.2
     obtain⟨⟨hp0,hp1⟩,_,hf8⟩:=hh2
     dsimp only at hp0 hp1 hf8
     obtain⟨p,rfl⟩:∃p:Nat,par=p:=⟨par.toNat,by omega⟩
     have hpl:p<l.length:=by omega
     have hrp:(l.map (aa.tw lo))[p]?=some (l[p].tw lo):=aK hpl
     have hbp:=hsm.2 _ (Zb hpl)
     have hpf:=jf (x:=⟨nm,(p:Int),fs⟩) rfl (Za hpl)
     generalize l[p]=y at hrp hbp hpf
     obtain⟨pn,pp,pf⟩:=y
     replace hrp:(l.map (aa.tw lo))[p]?=some [.str pn,.int .i64 pp,.sl lo 1 (bQ pf)]:=hrp
     have hx4:pf.length<=1048576:=hbp.2.1
     have hpl2:=ch pf
     have htl:((l.map (aa.tw lo)).take i).length=i:=by simp;omega
     repeat' (first|refine W_ ?_|refine zM ?_)
     apply aj (X:=Nat) [0,3,4,15,16,17,73,74] (fun k=>[(75,.int .i64 (k:Int))]) (fun _=>[(s3,b3,.box [.str nm,.int .i64 (p:Int),.sl lo 1 (bQ fs)])]) (fun k=>k<=i/\∀y∈l.take k,y.name≠nm) (fun k=>i - k) 0 ⟨Zd _,by simp⟩
     exact kp_;exact nw_
     ·exact .refl _
     rintro k ⟨hki,hkn⟩
     try dsimp only
     by_cases hlk:k<i
     ·have hlk2:k<l.length:=by omega
      have hrk:((l.map (aa.tw lo)).take i)[k]?=some (l[k].tw lo):=by rw[List.getElem?_take_of_lt hlk];exact aK hlk2
      have hta:=bu (p:=fun y:aa=>y.name≠nm) hlk2 hkn
      have hmem:l[k]∈l.take i:=List.mem_take_iff_getElem.2 ⟨k,by omega,rfl⟩
      generalize l[k]=z at hrk hta hmem
      obtain⟨zn,zp,zf⟩:=z
      replace hrk:((l.map (aa.tw lo)).take i)[k]?=some [.str zn,.int .i64 zp,.sl lo 1 (bQ zf)]:=hrk
      by_cases hzn:zn=nm
      ·rw[hbad fun h=>h.2.1 _ hmem hzn]
       repeat' (first|refine W_ ?_|(refine am ?_;intro ss bb)|refine ac ?_)
       exact r1_
      ·repeat' (first|refine W_ ?_|(refine am ?_;intro ss bb)|refine ac ?_)
       exact ag (k+1) ⟨by omega,hta hzn⟩ (by omega) (.of _ nw_ od_ pk_)
     ·obtain rfl:k=i:=by omega
      clear hlk
      by_cases hhe:pf.length<=fs.length/\fs.take pf.length=pf
      ·have heq:=gT (G:=G) lo lo (fs.take pf.length) pf (by simp;omega) hx4
       rw[decide_eq_true hhe.2] at heq
       have hsl:(bQ fs).take pf.length=bQ (fs.take pf.length):=by simp[bQ,Xf]
       have hle:=hhe.1
       repeat' (first|refine W_ ?_|refine zM ?_|refine ad hG hst (heq) ?_)
       apply aj (X:=Nat) [0,3,4,8,15,16,17,108,109] (fun k=>[(110,.int .i64 (k:Int))]) (fun _=>[(s3,b3,.box [.str nm,.int .i64 (p:Int),.sl lo 1 (bQ fs)])]) (fun k=>k<=fs.length/\∀j,j<k->∀h:j<fs.length,fieldAt fs j fs[j]=true) (fun k=>fs.length - k) 0 ⟨Zd _,by omega⟩
       exact kp_;exact nw_
       ·exact .refl _
       rintro q ⟨hq,hqa⟩
       try dsimp only
       by_cases hqf:q<fs.length
       ·have hfr:=eM hqf
        have hqs:=hx3 _ (Zb hqf)
        have hqb:=ng hqf
        have hqn:fieldAt fs q fs[q]=true->∀j,j<q+1->∀h:j<fs.length,fieldAt fs j fs[j]=true:=fun h=>cy hqa fun _=>h
        generalize fs[q]=f at hfr hqs hqb hqn
        have hname:=iV (G:=G) f hqs
        have hhas:=lY (G:=G) hst lo (fs.take q) f (by simp;omega)
        rw[aeb] at hhas
        have hsq:(bQ fs).take q=bQ (fs.take q):=by simp[bQ,Xf]
        have hqle:q<=fs.length:=hq
        by_cases hqo:fieldAt fs q f=true
        ·have hqo2:=hqo
         unfold fieldAt at hqo2
         rw[Zm,Ya] at hqo2
         rw[hqo2.1] at hname
         rw[hqo2.2] at hhas
         repeat' (first|refine W_ ?_|refine zM ?_|refine ad hG hst (hname) ?_|refine ad hG hst (hhas) ?_)
         exact ag (q+1) ⟨by omega,hqn hqo⟩ (by omega) (.of _ nw_ od_ pk_)
        ·rw[hbad fun h=>hqb (Bool.eq_false_iff.2 hqo) h.2.2.2]
         by_cases hqs1:cO f.data.toList=true
         ·have hqs2:kD (fs.take q) f=true:=by
            unfold fieldAt at hqo
            rw[hqs1,Zn] at hqo
            simpa using hqo
          rw[hqs1] at hname
          rw[hqs2] at hhas
          repeat' (first|refine W_ ?_|refine zM ?_|refine ad hG hst (hname) ?_|refine ad hG hst (hhas) ?_)
          exact r1_
         ·rw[Bool.eq_false_iff.2 hqs1] at hname
          repeat' (first|refine W_ ?_|refine ad hG hst (hname) ?_)
          exact r1_
       ·obtain rfl:q=fs.length:=by omega
        repeat' refine W_ ?_
        exact ag (k+1) ⟨by omega,hks ⟨hh,hkn,⟨by rw[hpf];exact hhe.1,by rw[hpf];exact hhe.2⟩,fun j hj=>hqa j hj hj⟩⟩ (by omega) (.of _ nw_ od_ (bW.nil _))
      ·rw[hbad fun h=>hhe (by have:=h.2.2.1;unfold adQ at this;rw[hpf] at this;exact this)]
       by_cases hle:pf.length<=fs.length
       ·have heq:=gT (G:=G) lo lo (fs.take pf.length) pf (by simp;omega) hx4
        rw[decide_eq_false fun h=>hhe ⟨hle,h⟩] at heq
        have hsl:(bQ fs).take pf.length=bQ (fs.take pf.length):=by simp[bQ,Xf]
        repeat' (first|refine W_ ?_|refine zM ?_|refine ad hG hst (heq) ?_)
        exact r1_
       ·repeat' refine W_ ?_
        exact r1_
    ·rw[decide_eq_false hh,Yv,hbad fun h=>hh h.1]
     repeat' refine W_ ?_
     exact r1_
  ·rw[j9 hl fun j hj=>hk j (by omega)]
   repeat' refine W_ ?_
   exact r1_
 ·rw[aek (by omega)] at hwi
  rw[kK hl]
  repeat' (first|refine W_ ?_|refine ad hG hst (hwi) ?_)
  exact r1_
end
end Go.Proofs.YtofnnnpahglfdaaGreatDoor
