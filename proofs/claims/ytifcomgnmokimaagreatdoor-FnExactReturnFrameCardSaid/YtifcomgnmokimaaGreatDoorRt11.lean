/- Part 11 of the proof: the texts SdD, SdE. -/
import Derived.Test.YtifcomgnmokimaaGreatDoorRt3
import Derived.Test.YtifcomgnmokimaaGreatDoorRt7
import Derived.Test.YtifcomgnmokimaaGreatDoorRt6
set_option linter.all false
set_option maxHeartbeats 2000000
set_option maxRecDepth 20000
namespace Go.Proofs.YtifcomgnmokimaaGreatDoor
open Go Go.RowKit
theorem uC {G:World->Prop} (hst:ay G) (hca:∀s:ByteArray,s.size<=1048576->Ct Tryz.prog G 180 [.str s] (fun _=>.int .i64 (cz s.data.toList))) (op a b:Int) (t:ByteArray) (hs:t.size<=1048576) (hop:inR op 1 26=true):Ct Tryz.prog G 243 [.agg [.int .i64 op,.int .i64 a,.int .i64 b,.str t]] (fun _=>.tup [.int .i64 (am.eff ⟨op,a,b,t⟩).1,.int .i64 (am.eff ⟨op,a,b,t⟩).2]):=by
 refine av Tryz.func243 rfl Tryz.ntmps243 rfl rfl fun w0 _ hG=>?_
 have h1:=sF t.data.toList
 have h2:=sN t.data.toList
 simp only[inR,decide_eq_true_eq] at hop
 repeat' (first|refine W_ ?_|refine aJ ?_|refine ae hG hst (hca _ hs) ?_|refine c_ (fun hc=>?_) (fun hc=>?_))
 all_goals
   clear hst
   have he:am.eff ⟨op,a,b,t⟩=am.eff ⟨op,a,b,t⟩:=rfl
   conv at he=>rhs;unfold am.eff
   dsimp only at he
   rw[he]
   refine fj x_ rfl (.tmp _ _ rfl) (.tmp _ _ rfl) (fun _=>?_) (fun _=>?_)
   all_goals
     refine abB ?_
     first
       | (subst hc;simp;done)
       | (have h3:op=20\/op=23:=by omega
          rcases h3 with rfl|rfl <;> simp;done)
       | (have h3:¬ (op=20\/op=23):=by omega
          simp[*];done)
       | (simp[*];done)
def plR (l:List (Int×Int)):List (List TV):=l.map fun x=>[.int .i64 x.1,.int .i64 x.2]
theorem afK {B L:Nat} {objs:aG} {l:List (Int×Int)} (h:l=[]):Fin B objs L .nils (.sl L 2 (plR l)):=by subst h;exact .nils _
theorem abZ {B L:Nat} {objs:aG} {l:List (Int×Int)} {rows:List (List TV)} (h:rows=plR l):Fin B objs L (.sl B 2 rows) (.sl L 2 (plR l)):=by
 subst h
 refine Fin.slFlat (Zg _) fun t ht=>?_
 obtain⟨r,hr,htr⟩:=List.mem_flatten.1 ht
 obtain⟨x,_,rfl⟩:=List.mem_map.1 hr
 simp at htr
 rcases htr with rfl|rfl <;> rfl
theorem aeS {G:World->Prop} (hst:ay G) (hca:∀s:ByteArray,s.size<=1048576->Ct Tryz.prog G 180 [.str s] (fun _=>.int .i64 (cz s.data.toList))) (op a b:Int) (t:ByteArray) (p:Nat) (d:Int) (hs:t.size<=1048576) (hop:inR op 1 26=true) (hp:p<=1048576) (hd:0<=d/\d<=250) :
   Ct Tryz.prog G 244 [.agg [.int .i64 op,.int .i64 a,.int .i64 b,.str t],.int .i64 (p:Int),.int .i64 d] (fun L=>.sl L 2 (plR (am.nexts ⟨op,a,b,t⟩ p d))):=by
 refine av Tryz.func244 rfl Tryz.ntmps244 rfl rfl fun w0 _ hG=>?_
 have hef:=uC hst hca op a b t hs hop
 have her:=jK ⟨op,a,b,t⟩
 have hnx:am.nexts ⟨op,a,b,t⟩ p d=am.nexts ⟨op,a,b,t⟩ p d:=rfl
 conv at hnx=>rhs;unfold am.nexts
 dsimp only at hnx
 rw[hnx]
 generalize (am.eff ⟨op,a,b,t⟩).1=e1 at *
 generalize (am.eff ⟨op,a,b,t⟩).2=e2 at *
 simp only[inR,decide_eq_true_eq] at hop
 repeat' (first|refine W_ ?_|refine aJ ?_|refine ef ?_|refine er ?_|refine ae hG hst (hef) ?_|refine c_ (fun hc=>?_) (fun hc=>?_))
 all_goals
   clear hst hca hef her hnx
   refine aN x_ rfl (.tmp _ _ rfl) (fun _=>?_)
   first
     | (refine afK ?_;simp[*];done)
     | (refine abZ ?_;simp[plR, *];done)
     | (refine abZ ?_;have h3:¬ (op=21\/op=22):=by omega
        simp[plR, *];done)
     | (refine abZ ?_;have h3:¬ (op=21\/op=22):=by omega
        have h4:¬ (op=24\/op=25):=by omega
        simp[plR, *];done)
def dp (op:Int):List Nat:=if op=20 then [1] else if op=21\/op=22 then [1,2] else if op=24\/op=25\/op=26 then [2] else []
def yZ (op:Int) (s b:Nat):List (List TV):=(dp op).map fun o=>[.mp s b o]
theorem aeK (op a b:Int) (t:ByteArray):am.labs ⟨op,a,b,t⟩=(dp op).map fun o=>if o=1 then a else b:=by
 unfold am.labs dp
 dsimp only
 repeat' split
 all_goals simp
theorem pv {G:World->Prop} (s9 b9:Nat) (op a b:Int) (t:ByteArray):CtM Tryz.prog G 242 [.mp s9 b9 0] [(s9,b9,.box [.int .i64 op,.int .i64 a,.int .i64 b,.str t])] (fun _:Nat×Nat=>True)
   (fun y=>[(y.1,y.2,.row 1 (yZ op s9 b9)),(s9,b9,.box [.int .i64 op,.int .i64 a,.int .i64 b,.str t])]) (fun y=>.ms y.1 y.2 0 (yZ op s9 b9).length):=by
 have hcase:(op=20/\yZ op s9 b9=[[.mp s9 b9 1]])\/((op=21\/op=22)/\yZ op s9 b9=[[.mp s9 b9 1],[.mp s9 b9 2]])\/((op=24\/op=25\/op=26)/\yZ op s9 b9=[[.mp s9 b9 2]])\/(¬ op=20/\¬ op=21/\¬ op=22/\¬ op=24/\¬ op=25/\¬ op=26/\yZ op s9 b9=[]):=by
   unfold yZ dp
   by_cases h20:op=20
   ·exact .inl ⟨h20,by simp[h20]⟩
   by_cases h21:op=21\/op=22
   ·exact .inr (.inl ⟨h21,by simp[h20,h21]⟩)
   by_cases h24:op=24\/op=25\/op=26
   ·exact .inr (.inr (.inl ⟨h24,by simp[h20,h21,h24]⟩))
   ·exact .inr (.inr (.inr ⟨h20,by omega,by omega,by omega,by omega,by omega,by simp[h20,h21,h24]⟩))
 rcases hcase with ⟨h1,hr⟩|⟨h1,hr⟩|⟨h1,hr⟩|⟨h1,h2,h3,h4,h5,h6,hr⟩
 all_goals
   rw[hr]
   refine au Tryz.func242 rfl Tryz.ntmps242 rfl rfl rfl fun w0 R gs objsR hG hR=>?_
   obtain rfl:=hR.inv1
   repeat' (first|refine W_ ?_|(refine jz ?_;intro ss bb)|(with_reducible apply dh (id:=6) 6;kernel_rfl;kernel_rfl;kernel_rfl;(repeat (first|exact Cut.zero _|apply Cut.succ)))|with_reducible refine dB (by kernel_rfl) (by kernel_rfl) ?_|with_reducible refine eV ?_|with_reducible refine dz ?_|with_reducible refine dC rfl ?_|refine eS rfl rfl rfl rr_ ?_|refine dx rfl rfl rfl rr_ rfl rfl rfl ?_|refine cG rfl rfl rfl rr_ rfl rfl ?_|(refine iH rfl rfl rfl rr_ dd_ ?_)|(refine ir rfl rfl rfl rr_ dd_ ?_)|(refine bX rfl rfl rfl rr_ (fun hg=>?_) (fun hg=>?_))|(refine bF rfl rfl rfl rr_ (fun hg=>?_) (fun hg=>?_))|((with_reducible apply d_y);exact y_;rfl)|refine c_ (fun hc=>?_) (fun hc=>?_))
 all_goals first
   | (refine aw x_ rfl (ss,bb) trivial rfl (.cons _ _ _ _ (.cons _ _ _ _ (.nil R))) pk_ (.tmp _ _ rfl) rfl;done)
   | (refine eG 2 1 (by omega) rfl fun ss=>aw x_ rfl (ss,0) trivial rfl (.cons _ _ _ _ (.cons _ _ _ _ (.nil R))) pk_ (.tmp _ _ rfl) rfl;done)
section
variable {w0 w w':World} {objs:aG} {ss b:Nat} {ob:aV}
theorem uQ (hw:eo w0 objs w) (hbel:Below w.heap.size w w') (hb:w.heap.size<=b):kQ w objs w' ((ss,b,ob)::objs):=by
 have hk:∀k,k<w.heap.size->w'.heap[k]?=w.heap[k]?:=fun k hk=>hbel.block k hk
 have hpos:0<w.heap.size:=ZJ hw.pos hw.below.size
 refine⟨fun k h _=>hk k h,fun k h ha=>⟨ha.1, ?_⟩,fun s k m rows h _ hm=>?_,hbel.size,fun hm=>?_⟩
 ·obtain⟨s,o,hm⟩:=ha.2
  rcases List.mem_cons.1 hm with he|hm
  ·simp only[Zp] at he;omega
  ·exact⟨s,o,hm⟩
 ·rcases List.mem_cons.1 hm with he|hm
  ·simp only[Zp] at he;omega
  ·exact⟨⟨rows,hm⟩,iz (hk k h)⟩
 ·rcases List.mem_cons.1 hm with he|hm
  ·simp only[dr,Zp] at he;omega
  ·exact hm
theorem eo.newB (hw:eo w0 objs w) (hbel:Below w.heap.size w w') (hb:w.heap.size<=b) (hs:∀x∈objs,x.1≠ss) (ho:uz w' w0.heap.size ((ss,b,ob)::objs) b ob):eo w0 ((ss,b,ob)::objs) w' :=
 ⟨hw.below.trans (hbel.mono hw.below.size),hw.pos,fun s k o hm=>by
   rcases List.mem_cons.1 hm with he|hm
   ·simp only[Zp] at he;obtain⟨rfl,rfl,rfl⟩:=he;exact ho
   ·exact(hw.obj s k o hm).step (uQ hw hbel hb) (hbel.block k (dV hw hm)),
 List.pairwise_cons.2 ⟨fun y hy=>⟨fun e=>hs y hy e.symm,.inl (by have:=dV (s:=y.1) (b:=y.2.1) (ob:=y.2.2) hw hy;simp only;omega)⟩,hw.sites⟩⟩
end
theorem zS {w:World} {B b n:Nat} {objs:aG} (hB:B<=b) (hn:n<=1048576) (x:Int) (hb:Blk w b 3 (List.replicate n (Value.int .i64 x)).toArray):uz w B objs b (.row 1 (aS (List.replicate n x))):=by
 refine⟨⟨by omega,fun t ht=>by have:=lg _ t ht;cases t <;> first|rfl|cases this⟩,fun r hr=>?_,.inr ⟨hB,_,_,n,hb,by simp,by simp[aS],by simp[maxLen];omega,fun j t hj=>?_⟩⟩
 ·obtain⟨y,_,rfl⟩:=List.mem_map.1 hr;rfl
 ·rw[nh,Zj,Option.map_eq_some_iff] at hj
  obtain⟨y,hy,rfl⟩:=hj
  obtain rfl:=Yx (Zm hy)
  have hlt:j<n:=by simpa using (List.getElem?_eq_some_iff.1 hy).1
  exact⟨_,by simp[hlt],.int _ _⟩
theorem vF {G:World->Prop} (lo n:Nat) (hn0:1<=n) (hn:n<=1048576):CtM Tryz.prog G 184 [.sl lo 1 [[.int .i64 (-1)]],.int .i64 n] [] (fun _:Nat×Nat=>True) (fun y=>[(y.1,y.2,.row 1 (aS (List.replicate n (-1))))]) (fun y=>.ms y.1 y.2 0 n):=fun w0 w R gs vs hG hw hgs hsz hrep=>by
 simp only[Zx] at hw hgs hrep
 obtain⟨v1,v2,rfl⟩:∃v1 v2,vs=#[v1,v2]:=by
   match vs,hsz with
   | ⟨[v1,v2]⟩,_=>exact⟨v1,v2,rfl⟩
 have h1:=hrep 0 _ v1 rfl rfl
 have h2:=(hrep 1 _ v2 rfl rfl).int_inv
 subst h2
 obtain⟨A,c,rfl,_,_,_,_,h3⟩:=lS h1
 obtain⟨b,q,u,rfl,_,h5,h6⟩:=h3 0 (.int .i64 (-1)) rfl
 rw[h6.int_inv] at h5
 refine(aaA b q c n w (by simpa using h5) hn0 hn).mono ?_
 rintro e w' ⟨rfl,hbel,hblk⟩
 obtain⟨ss,hss⟩:=ff R
 have hwB:w0.heap.size<=w.heap.size:=hw.below.size
 have hst:=uQ (ss:=ss) (ob:=.row 1 (aS (List.replicate n (-1)))) hw hbel (Zg _)
 have hlt:w.heap.size<w'.heap.size:=hblk.lt
 have hb0:w.heap.size≠0:=Xi (ZJ hw.pos hwB)
 have hw':=hw.newB (ss:=ss) hbel (Zg _) hss (zS (w:=w') hwB hn (-1) hblk)
 refine⟨_,(ss,w.heap.size),rfl,trivial,hw',hgs.step hst,.ms _ _ _ _ _ (.mk ⟨hlt,hw'.noMark,_,_,rfl⟩ (fun m rows hm=>.inr ⟨hb0,0,n,3,n * 1,rfl,Zg _, ?_, ?_,fun _=>by simp⟩) (fun h0=>absurd h0 hb0))⟩
 ·unfold World.shape?;rw[hblk];simp
 ·rcases List.mem_cons.1 hm with he|hm
  ·simp only[Zp,aV.row.injEq] at he;rw[he.2.2.1];simp
  ·exact absurd (dV hw hm) (YK _)
end Go.Proofs.YtifcomgnmokimaaGreatDoor
