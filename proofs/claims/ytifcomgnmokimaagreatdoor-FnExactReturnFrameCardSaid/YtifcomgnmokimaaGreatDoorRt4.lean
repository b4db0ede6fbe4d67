/- Part 4 of the proof: the texts SelPure, Sel, Sel2, Sel3. -/
import Derived.Test.YtifcomgnmokimaaGreatDoorRt1
import Derived.Lib.SplitLaws
import Derived.Test.YtifcomgnmokimaaGreatDoorRt2
import Derived.Deep.RegionLaw
set_option linter.all false
set_option maxHeartbeats 800000
namespace Go.Proofs.YtifcomgnmokimaaGreatDoor
open Go Go.RowKit
def afq:List (List UInt8):=[[99,108,97,115,115],[101,120,116,101,110,100,115],[102,105,101,108,100,115],[109,101,116,104,111,100],[99,108,97,115,115,109,101,116,104,111,100],[101,110,100],[109,97,105,110]]
def ops:List (List UInt8):=[[47,47],[92,92],[60,61],[62,61],[61,61],[126,61],[126,126],[43],[45],[42],[60],[62],[61],[44],[38]]
def iS (l:List UInt8):Bool:=afq.contains l
def l6 (l:List UInt8):Bool:=ops.contains l
def cV (l:List UInt8):Bool:=ch l && !iS l
def spl (c:UInt8):List UInt8->List (List UInt8)
 | []=>[[]]
 | b::r=>if b=c then []::spl c r else (b::(spl c r).headD [])::(spl c r).tail
def kwL (l:List UInt8):Option (List (List UInt8)) :=
 if l.getLast?=some 58 then (if (spl 58 l.dropLast).all ch && decide ((spl 58 l.dropLast).length<=4) then some (spl 58 l.dropLast) else none) else none
def di (l:List UInt8):Bool:=l6 l || cV l || (kwL l).isSome
def cz (l:List UInt8):Int:=if l6 l then 1 else if cV l then 0 else match kwL l with|some ps=>ps.length|none=>-1
theorem rg (c:UInt8) (l:List UInt8):spl c l≠[]:=by
 cases l with
 | nil=>simp[spl]
 | cons b r=>simp only[spl];split <;> simp
theorem oD (c:UInt8) (l:List UInt8):0<(spl c l).length:=List.length_pos_iff.2 (rg c l)
theorem nX (c:UInt8):∀l:List UInt8,spl c (l++[c])=spl c l++[[]]
 | []=>by simp[spl]
 | b::r=>by
   have h:=nX c r
   simp only[ZF,spl]
   split
   ·rw[h];rfl
   ·rw[h]
    obtain⟨x,xs,hx⟩:=YR (rg c r)
    rw[hx];rfl
theorem ti (c:UInt8):∀l:List UInt8,(spl c l).getLast?=some []->l=[]\/l.getLast?=some c
 | [],_=>.inl rfl
 | b::r,h=>by
   simp only[spl] at h
   refine .inr ?_
   obtain⟨x,xs,hx⟩:=YR (rg c r)
   split at h
   ·rename_i hb
    subst hb
    rw[hx,YM,<- hx] at h
    rcases ti b r h with h1|h1
    ·subst h1;rfl
    ·cases r with
     | nil=>simp at h1
     | cons a t=>rw[YM];exact h1
   ·rw[hx] at h
    cases xs with
    | nil=>simp at h
    | cons y ys =>
      simp only[List.headD_cons,List.tail_cons,YM] at h
      have h2:(spl c r).getLast?=some []:=by rw[hx,YM];exact h
      rcases ti c r h2 with h1|h1
      ·subst h1;simp[spl] at hx
      ·cases r with
       | nil=>simp at h1
       | cons a t=>rw[YM];exact h1
theorem aaJ (c:UInt8):∀l:List UInt8,c∉l->spl c l=[l]
 | [],_=>rfl
 | b::r,h=>by
   simp only[ZX,not_or] at h
   rw[spl,if_neg (fun e=>h.1 e.symm),aaJ c r h.2];rfl
theorem xr (c:UInt8):∀l:List UInt8,(spl c l).length=1->spl c l=[l]
 | [],_=>rfl
 | b::r,h=>by
   have hp:=oD c r
   simp only[spl] at h |-
   split
   ·rename_i hb;rw[if_pos hb] at h;simp only[Zy] at h;omega
   ·rename_i hb
    rw[if_neg hb] at h
    simp only[Zy,List.length_tail] at h
    rw[xr c r (by omega)];rfl
theorem ly (c:UInt8):∀(l p:List UInt8),p∈spl c l->p.length<=l.length
 | [],p,h=>by simp[spl] at h;subst h;simp
 | b::r,p,h=>by
   simp only[spl] at h
   obtain⟨x,xs,hx⟩:=YR (rg c r)
   split at h
   ·rcases List.mem_cons.1 h with rfl|h
    ·simp
    ·have:=ly c r p h;simp only[Zy];omega
   ·rw[hx] at h
    simp only[List.headD_cons,List.tail_cons] at h
    rcases List.mem_cons.1 h with rfl|h
    ·have:=ly c r x (by rw[hx];simp);simp only[Zy];omega
    ·have:=ly c r p (by rw[hx];simp[h]);simp only[Zy];omega
theorem mD (c:UInt8):∀l:List UInt8,(spl c l).length<=l.length+1
 | []=>by simp[spl]
 | b::r=>by
   have:=mD c r
   have hp:=oD c r
   simp only[spl]
   split
   ·simp only[Zy];omega
   ·simp only[Zy,List.length_tail];omega
def aep (pre:List UInt8) (ps:List (List UInt8)):List (List UInt8):=(pre++ps.headD [])::ps.tail
theorem xP (c:UInt8) (l:List UInt8):aep [] (spl c l)=spl c l:=by
 obtain⟨x,xs,hx⟩:=YR (rg c l)
 rw[hx];rfl
theorem ac0 (c:UInt8) (pre r:List UInt8):aep pre (spl c (c::r))=pre::spl c r:=by simp[spl,aep]
theorem aaO (b c:UInt8) (pre r:List UInt8) (h:b≠c):aep pre (spl c (b::r))=aep (pre++[b]) (spl c r):=by simp[spl,aep,h]
theorem tb (c:UInt8) (r:List UInt8):Lib.index (c::r) [c]=0:=by
 simp[Lib.index]
theorem sC (b c:UInt8) (r:List UInt8) (h:b≠c):Lib.index (b::r) [c]=if Lib.index r [c]=-1 then -1 else Lib.index r [c]+1:=by
 simp[Lib.index,Ne.symm h]
theorem vx (c:UInt8):∀(l:List UInt8),Lib.splitK [c] 0 (l.count c) l=spl c l
 | []=>rfl
 | b::r=>by
   have ih:=vx c r
   by_cases hb:b=c
   ·subst hb
    rw[List.count_cons_self,Lib.splitK,tb,if_neg (by decide)]
    simp only[spl,if_true]
    simpa using ih
   ·rw[List.count_cons_of_ne hb,spl,if_neg hb,<- ih]
    generalize hk:r.count c=k
    cases k with
    | zero=>rfl
    | succ k =>
      have hge:=Lib.index_ge r [c]
      have hin:Lib.index r [c]≠-1:=by
        intro h0
        have:=Lib.count_one c r
        rw[Lib.count_miss h0,hk] at this
        omega
      rw[Lib.splitK,Lib.splitK,sC b c r hb,if_neg hin]
      have e1:(Lib.index r [c]+1 == -1)=false:=by rw[beq_eq_false_iff_ne];omega
      have e2:(Lib.index r [c] == -1)=false:=by rw[beq_eq_false_iff_ne];exact hin
      rw[e1,e2]
      obtain⟨i,hi⟩:=Int.eq_ofNat_of_zero_le (show 0<=Lib.index r [c] by omega)
      rw[hi]
      have e3:((i:Int)+1).toNat=i+1:=by omega
      simp[e3]
def kN (l:List UInt8):Bool :=
 if l6 l then true else
 if 1<(spl 58 l).length then (if (spl 58 l).getLast?=some [] then (spl 58 l).dropLast.all ch && decide ((spl 58 l).length - 1<=4) else false)
 else ch l && !iS l
theorem aaP:lod 58=false:=by decide
theorem lq (l:List UInt8) (h:ch l=true):(58:UInt8)∉l:=by
 intro hm
 cases l with
 | nil=>simp at hm
 | cons b r =>
   simp only[ch,Zq,List.all_eq_true] at h
   rcases List.mem_cons.1 hm with e|e
   ·subst e
    have:gD 58=true:=h.1.2
    exact absurd this (by decide)
   ·have:=h.2 58 e
    rw[aaP] at this
    cases this
theorem ma (l:List UInt8):kN l=di l:=by
 unfold kN di
 by_cases ho:l6 l=true
 ·rw[if_pos ho,ho];rfl
 ·rw[if_neg ho,Bool.eq_false_iff.2 ho,Bool.false_or]
  by_cases hn:1<(spl 58 l).length
  ·rw[if_pos hn]
   have hno:cV l=false:=by
     rw[Bool.eq_false_iff]
     intro h
     simp only[cV,Zq] at h
     have:=aaJ 58 l (lq l h.1)
     rw[this] at hn
     simp at hn
   rw[hno,Bool.false_or]
   by_cases hl:l.getLast?=some 58
   ·obtain⟨m,rfl⟩:=List.getLast?_eq_some_iff.1 hl
    simp only[nX,List.getLast?_append,List.getLast?_singleton,Option.some_or,if_true,Xs,Zh,Xl,Nat.add_sub_cancel]
    simp only[kwL,List.getLast?_append,List.getLast?_singleton,Option.some_or,if_true,Xs]
    split
    ·rename_i h;rw[h];rfl
    ·rename_i h;rw[Bool.eq_false_iff.2 h];rfl
   ·have h2:¬ (spl 58 l).getLast?=some []:=by
      intro h
      rcases ti 58 l h with h1|h1
      ·subst h1;simp[spl] at hn
      ·exact hl h1
    rw[if_neg h2]
    simp[kwL,hl]
  ·rw[if_neg hn]
   have hone:=xr 58 l (by have:=oD 58 l;omega)
   have hk:kwL l=none:=by
     unfold kwL
     by_cases hl:l.getLast?=some 58
     ·obtain⟨m,rfl⟩:=List.getLast?_eq_some_iff.1 hl
      rw[nX] at hn
      have:=oD 58 m
      simp at hn
      exact absurd hn (rg 58 m)
     ·rw[if_neg hl]
   rw[hk]
   simp[cV]
def la (l:List UInt8):Int:=if kN l then (if l6 l then 1 else ((spl 58 l).length:Int) - 1) else -1
theorem xA (l:List UInt8):la l=cz l:=by
 unfold la cz
 rw[ma]
 by_cases ho:l6 l=true
 ·simp[di,ho]
 ·rw[Bool.eq_false_iff.2 ho]
  by_cases hn:cV l=true
  ·have:=aaJ 58 l (lq l (by simp only[cV,Zq] at hn;exact hn.1))
   simp[di,hn,this]
  ·rw[Bool.eq_false_iff.2 hn]
   cases hk:kwL l with
   | none=>simp[di,Bool.eq_false_iff.2 ho,Bool.eq_false_iff.2 hn,hk]
   | some ps =>
     simp only[di,Bool.eq_false_iff.2 ho,Bool.eq_false_iff.2 hn,hk,Xx,Bool.or_true,if_true,YJ,if_false]
     unfold kwL at hk
     by_cases hl:l.getLast?=some 58
     ·obtain⟨m,rfl⟩:=List.getLast?_eq_some_iff.1 hl
      rw[if_pos hl,Xs] at hk
      split at hk
      ·simp only[Zo] at hk
       subst hk
       rw[nX];simp
      ·cases hk
     ·rw[if_neg hl] at hk;cases hk
def vq (w:World):Prop:=∃m:Int,w.cell? ⟨0,0,none⟩=some (.int .i64 m)
theorem vq.below {w w':World} (h:vq w) (hb:Below w.heap.size w w'):vq w':=by
 obtain⟨m,hm⟩:=h
 exact⟨m,(hb.cell (World.block_lt_of_cell? w _ hm)).trans hm⟩
theorem Tryz.infoStr:(Tryz.prog.info? 9).map (fun i=>(i.zero,i.size,i.bytes))=some (some (.string ByteArray.empty),1,16):=by kernel_rfl
def mr (l:List ByteArray):List PT:=l.map PT.str
theorem wN (l:List ByteArray):(mr l).length=l.length:=by simp[mr]
theorem w8 (a b:List ByteArray):mr (a++b)=mr a++mr b:=by simp[mr]
theorem ky (l:List ByteArray):PT.cellsL (mr l)=l.map Value.string:=by
 induction l with
 | nil=>rfl
 | cons z r ih=>simp only[mr,ZU,PT.cellsL,PT.cells] at *;rw[ih];rfl
theorem na (l:List ByteArray):PT.blocksL (mr l)=[]:=by
 induction l with
 | nil=>rfl
 | cons z r ih=>simp only[mr,ZU,PT.blocksL,PT.blocks] at *;rw[ih];rfl
theorem zx (l:List ByteArray):∀t∈mr l,t.cells.length=1:=fun t ht=>by
 simp only[mr,List.mem_map] at ht;obtain⟨z,_,rfl⟩:=ht;rfl
theorem abS (w:World) (l:List ByteArray):j7 w (mr l):=j7.of_get fun t ht=>by
 simp only[mr,List.mem_map] at ht;obtain⟨z,_,rfl⟩:=ht;trivial
theorem eF.str_at {w:World} {S:Nat->Prop} {A:Option Addr} {c:Nat} {l:List ByteArray} (h:eF w S (.sl A c 1 (mr l))) {k:Nat} (hk:k<l.length) :
   ∃b o,A=some ⟨b,o,none⟩/\S b/\w.cell? ⟨b,o+k,none⟩=some (.string (l[k]'hk)):=by
 have h1:=h.2.2.1
 rw[ky] at h1
 exact h1 k _ (by simp[hk])
theorem gl {w:World} {S:Nat->Prop} (l:List ByteArray) (e:TypeId) (hl:l.length<=maxLen) (hS:S w.heap.size):dg (w.alloc (.cells (l.map Value.string).toArray e)) S (.sl (some ⟨w.heap.size,0,none⟩) l.length 1 (mr l)) :=
 ⟨fX (zx l) (by rw[ky];simp[mr]) (heap_alloc_new w _) (by simp[mr]) hl (by simp) (by rw[ky];simp[mr,Zc]) (abS _ _),by simp[PT.blocks,na,PT.rowOf],
   by simpa [PT.blocks,na,PT.rowOf] using hS⟩
def fT:List ByteArray:=afq.map fun l=>⟨l.toArray⟩
def qQ:List ByteArray:=ops.map fun l=>⟨l.toArray⟩
def kK (l:List ByteArray) (s:ByteArray):Bool:=l.any fun x=>x.toList == s.toList
theorem md (s:ByteArray):kK fT s=iS s.data.toList:=by
 rw[YF]
 simp only[kK,fT,iS,List.any_map,Xp,Function.comp,List.contains_iff_mem,beq_iff_eq,Lib.toList_data]
 exact⟨fun⟨x,h1,h2⟩=>by rw[<- h2];exact h1,fun h=>⟨_,h,rfl⟩⟩
theorem sV (s:ByteArray):kK qQ s=l6 s.data.toList:=by
 rw[YF]
 simp only[kK,qQ,l6,List.any_map,Xp,Function.comp,List.contains_iff_mem,beq_iff_eq,Lib.toList_data]
 exact⟨fun⟨x,h1,h2⟩=>by rw[<- h2];exact h1,fun h=>⟨_,h,rfl⟩⟩
theorem zK (s:ByteArray) (w:World):Calls Tryz.prog 278 #[.string s] w fun e w'=>e=.returned (.bool (iS s.data.toList))/\w=w':=by
 have hL:=Lib.toList_data s
 have hd:iS s.data.toList=kK fT s:=(md s).symm
 have Hd:=Lib.hid hd
 have HL:=Lib.hid hL
 clear hd hL
 go_enter Tryz.func278,Tryz.ntmps278
 go_wp2
 all_goals (go_ret;exact⟨bK (by have:=HL.out;simp_all [iS,afq]),rfl⟩)
theorem lI (A:Option Addr) (c:Nat) (l:List ByteArray) (s:ByteArray) (w:World) (S:Nat->Prop) (hs:eF w S (.sl A c 1 (mr l))) (hn:l.length<=1048576) :
   Calls Tryz.prog 222 #[.slice A l.length c,.string s] w fun e w'=>e=.returned (.bool (kK l s))/\∃n,w'=w.drewN n:=by
 go_enter Tryz.func222,Tryz.ntmps222
 go_wp2
 go_loopw [5] (fun i wr=>∃k n:Nat,k<=l.length/\i=.int .i64 k/\wr=w.drewN n/\kK l s=kK (l.drop k) s) (fun i _=>l.length - (intOf i).toNat)
 case atStart=>exact⟨0,0,Ze _,rfl,rfl,rfl⟩
 case round =>
   obtain⟨k,n,hk,rfl,rfl,hr⟩:=hrel
   have Hr:=Lib.hid hr
   clear hr
   by_cases hlt:k<l.length
   ·obtain⟨b,o,rfl,_,hcell⟩:=hs.str_at hlt
    have hd:kK (l.drop k) s=(l[k].toList == s.toList || kK (l.drop (k+1)) s):=by rw[ZI hlt];rfl
    have Hd:=Lib.hid hd
    clear hd hs
    cases hq:l[k].toList == s.toList
    all_goals
      go_wp2
      first
        | (
            go_roundw
            case rel=>exact⟨k+1,n,by omega,by go_num,rfl,by rw[Hr.out,Hd.out,hq];rfl⟩
            case measure=>simp[intOf];omega)
        | (
            go_ret
            exact⟨bK (by rw[Hr.out,Hd.out,hq];rfl),n,rfl⟩)
   ·go_wp2
    go_ret
    exact⟨bK (by rw[Hr.out,Yc (by omega)];rfl),n,rfl⟩
theorem xJ (w:World):Calls Tryz.prog 230 #[] w fun e w'=>e=.returned (.slice (some ⟨w.heap.size,0,none⟩) 7 7)/\w.alloc (.cells (fT.map Value.string).toArray 9)=w':=by
 go_enter Tryz.func230,Tryz.ntmps230
 go_wp2
 go_ret
 exact⟨rfl,rfl⟩
theorem ip (w:World):Calls Tryz.prog 227 #[] w fun e w'=>e=.returned (.slice (some ⟨w.heap.size,0,none⟩) 15 15)/\w.alloc (.cells (qQ.map Value.string).toArray 9)=w':=by
 go_enter Tryz.func227,Tryz.ntmps227
 go_wp2
 go_ret
 exact⟨rfl,rfl⟩
theorem si (w:World):Calls Tryz.prog 281 #[] w fun e w'=>e=.returned (.slice (some ⟨w.heap.size,0,none⟩) 15 15)/\w.alloc (.cells (qQ.map Value.string).toArray 9)=w':=by
 go_enter Tryz.func281,Tryz.ntmps281
 go_wp2
 go_ret
 exact⟨rfl,rfl⟩
def fa (s:ByteArray) (l:List ByteArray):ByteArray:=(l.find? fun x=>Lib.hasPrefix s.data.toList x.data.toList).getD ByteArray.empty
theorem vO (A:Option Addr) (c:Nat) (l:List ByteArray) (s:ByteArray) (w:World) (S:Nat->Prop) (hs:eF w S (.sl A c 1 (mr l))) (hn:l.length<=1048576) :
   Calls Tryz.prog 280 #[.string s,.slice A l.length c] w fun e w'=>e=.returned (.string (fa s l))/\∃n,w'=w.drewN n:=by
 go_enter Tryz.func280,Tryz.ntmps280
 go_wp2
 go_loopw [9] (fun i wr=>∃k n:Nat,k<=l.length/\i=.int .i64 k/\wr=w.drewN n/\fa s l=fa s (l.drop k)) (fun i _=>l.length - (intOf i).toNat)
 case atStart=>exact⟨0,0,Ze _,rfl,rfl,rfl⟩
 case round =>
   obtain⟨k,n,hk,rfl,rfl,hr⟩:=hrel
   have Hr:=Lib.hid hr
   clear hr
   by_cases hlt:k<l.length
   ·obtain⟨b,o,rfl,_,hcell⟩:=hs.str_at hlt
    have hd:fa s (l.drop k)=if Lib.hasPrefix s.data.toList l[k].data.toList then l[k] else fa s (l.drop (k+1)):=by
      rw[ZI hlt]
      simp only[fa,Y4]
      split <;> simp_all
    have Hd:=Lib.hid hd
    clear hd hs
    cases hq:Lib.hasPrefix s.data.toList l[k].data.toList
    all_goals
      go_wp2_with (go_at_call 296;refine(Tryz.strings_HasPrefix _ _ _).mono ?_;rintro e w' ⟨rfl,rfl⟩)
      first
        | (
            go_roundw
            case rel=>exact⟨k+1,n,by omega,by go_num,rfl,by rw[Hr.out,Hd.out,hq];rfl⟩
            case measure=>simp[intOf];omega)
        | (
            go_ret
            exact⟨my (by rw[Hr.out,Hd.out,hq];rfl),n,rfl⟩)
   ·go_wp2
    go_ret
    exact⟨my (by rw[Hr.out,Yc (by omega)];rfl),n,rfl⟩
theorem uK (s:ByteArray) (l:List ByteArray) (h:fa s l=s) (hs:s.data.toList≠[]):s∈l:=by
 unfold fa at h
 cases hf:l.find? (fun x=>Lib.hasPrefix s.data.toList x.data.toList) with
 | none=>rw[hf] at h;simp only[Option.getD_none] at h;rw[<- h] at hs;exact absurd rfl hs
 | some x=>rw[hf] at h;simp only[Yn] at h;subst h;exact List.mem_of_find?_eq_some hf
theorem tZ:∀l∈qQ,((fa l qQ).toList == l.toList)=true/\l.toList≠[]:=by decide +kernel
theorem afP (s:ByteArray):(!s.toList.isEmpty && (fa s qQ).toList == s.toList)=l6 s.data.toList:=by
 rw[<- sV,YF]
 constructor
 ·intro h
  simp only[Zq,Z9,beq_iff_eq] at h
  have h1:fa s qQ=s:=n6 (by rw[<- Lib.toList_data,<- Lib.toList_data];exact h.2)
  have h2:s∈qQ:=uK s qQ h1 (by intro e;rw[<- Lib.toList_data] at e;rw[e] at h;simp at h)
  simp only[kK,Xp]
  exact⟨s,h2,by simp⟩
 ·intro h
  simp only[kK,Xp] at h
  obtain⟨x,hx,he⟩:=h
  have e:x=s:=n6 (by rw[<- Lib.toList_data,<- Lib.toList_data];exact beq_iff_eq.1 he)
  subst e
  obtain⟨h1,h2⟩:=tZ x hx
  rw[h1]
  cases hx:x.toList with
  | nil=>exact absurd hx h2
  | cons=>rfl
theorem cN (s:ByteArray) (w:World):Calls Tryz.prog 240 #[.string s] w fun e w'=>e=.returned (.bool (l6 s.data.toList))/\Below w.heap.size w w':=by
 have Hq:=Lib.hid (afP s)
 cases hn:s.toList.isEmpty
 all_goals
   go_enter Tryz.func240,Tryz.ntmps240
   go_wp2_with (first
     | (go_at_call 281;refine(si _).mono ?_;rintro e w' ⟨rfl,rfl⟩)
     | (go_at_call 280;refine(vO _ 15 qQ s _ (fun _=>True) (gl qQ _ (by decide) trivial).seen (by decide)).mono ?_;rintro e w' ⟨rfl,n,rfl⟩))
   go_ret
   first
     | exact⟨bK (by rw[<- Hq.out,hn];rfl),Below.refl _ _⟩
     | exact⟨bK (by rw[<- Hq.out,hn];rfl),bB ((Below.refl _ _).alloc (Zg _) _) _⟩
theorem fH (s:ByteArray) (w:World) (hs:s.size<=1048576):Calls Tryz.prog 238 #[.string s] w fun e w'=>e=.returned (.bool (cV s.data.toList))/\∃n,w'=w.drewN n:=by
 cases hp:ch s.data.toList
 all_goals
   go_enter Tryz.func238,Tryz.ntmps238
   go_wp2_with (first
     | (go_at_call 277;refine(mA s _ hs).mono ?_;rintro e w' ⟨rfl,n,rfl⟩)
     | (go_at_call 278;refine(zK s _).mono ?_;rintro e w' ⟨rfl,rfl⟩))
   go_ret
   exact⟨bK (by rw[cV,hp];simp),n,rfl⟩
theorem fS (s:ByteArray) (w:World) (hs:s.size<=1048576):Calls Tryz.prog 229 #[.string s] w fun e w'=>e=.returned (.bool (ch s.data.toList))/\∃n,w'=w.drewN n:=by
 by_cases h1:1<=(s.size:Int)
 ·have h0:0<s.size:=by omega
  have Hf:=Lib.hid (jw s h0)
  have Hr:=Lib.hid (mc s.data.toList)
  have hr:fw s.data.toList<=s.size:=by have:=pd s.data.toList;rw[bQ] at this;exact this
  by_cases h2:(s.size:Int)<=20
  all_goals cases hl:gD s[0]
  all_goals
    go_enter Tryz.func229,Tryz.ntmps229
    go_wp2_with (first
      | (go_at_call 272;refine(mM s[0] _).mono ?_;rintro e w' ⟨rfl,rfl⟩)
      | (go_at_call 273;refine(ab6 s 0 _ hs (by omega)).mono ?_;rintro e w' ⟨rfl,n,rfl⟩))
    go_ret
    first
      | exact⟨bK (by rw[Hf.out,hl,decide_eq_false (by omega)];rfl),0,rfl⟩
      | exact⟨bK (by rw[Hf.out,hl];simp),0,rfl⟩
      | (
          refine⟨bK ?_,n,rfl⟩
          rw[Hf.out,hl,decide_eq_true (show s.size<=20 by omega)]
          have hx:=Hr.out
          rw[bQ] at hx
          rw[YF]
          simp only[Zn,<- hx]
          simp
          try omega)
 ·go_enter Tryz.func229,Tryz.ntmps229
  go_wp2
  go_ret
  exact⟨bK (oy s (by omega)).symm,0,rfl⟩
theorem iD {ops:Array Oper} {rest:List Oper} {o:Oper} {a:Act} {Q:Exit->Act->World->Prop} {w:World} (hgd:o.guard=none) (s x:Operand)
   (ho:o.op=.call { callee:=.builtin .append,args:=#[s,x],argTypes:=#[28,28] }) {S:Nat->Prop} (A:Option Addr) (c n:Nat) (l:List ByteArray) (v:ByteArray)
   (hs:a.eval s=.slice A n c) (hx:a.eval x=.slice (some ⟨w.heap.size,0,none⟩) 1 1) (hown:dg w S (.sl A c 1 (mr l))) (hn:n=l.length) (hS:S (w.heap.size+1)) (hl:n<=1000000000)
   (h:∀A' c' w',dg w' S (.sl A' c' 1 (mr (l++[v])))->eu (·∈PT.rowOf A) w w'->(∀g,A=some ⟨g,0,none⟩->∃g',A'=some ⟨g',0,none⟩)->wpList Tryz.prog ops Q rest (a.put o.dst (.slice A' (n+1) c')) w') :
   wpList Tryz.prog ops Q (o::rest) a (w.alloc (.cells #[.string v] 9)) :=
 mJ hgd s x 28 9 (.string ByteArray.empty) 1 16 ho Tryz.underlying28 Tryz.infoStr rfl (by omega) A c n (mr l) (.str v) hs hx hown (by rw[wN];exact hn) rfl trivial rfl hS hl (by omega)
   fun A' c' w' h1 h2 h3=>h A' c' w' (by rw[w8];exact h1) h2 h3
theorem lv (s:ByteArray) (b:UInt8) (w:World) (hs:s.size<=1048576):Calls Tryz.prog 228 #[.string s,.int .u8 (b.toNat:Int)] w fun e w'=>∃(ps:List ByteArray) (g c:Nat),ps.map (·.data.toList)=spl b s.data.toList/\e=.returned (.slice (some ⟨g,0,none⟩) ps.length c)/\Below w.heap.size w w'/\dg w' (w.heap.size<=·) (.sl (some ⟨g,0,none⟩) c 1 (mr ps)):=by
 go_enter Tryz.func228,Tryz.ntmps228
 go_wp2
 go_loopw [5,6,7] (fun ov fv iv wr=>∃(k f m g c:Nat) (ps:List ByteArray),k<=s.size+1/\iv=.int .i64 k/\fv=.int .i64 f/\f<=k/\m<=k/\ps.length=m/\ov=.slice (some ⟨g,0,none⟩) m c/\Below w.heap.size w wr/\dg wr (w.heap.size<=·) (.sl (some ⟨g,0,none⟩) c 1 (mr ps)) /\
   (if k<=s.size then ps.map (·.data.toList)++aep ((s.data.toList.take k).drop f) (spl b (s.data.toList.drop k)) else ps.map (·.data.toList))=spl b s.data.toList) (fun _ _ iv _=>s.size+1 - (intOf iv).toNat)
 case atStart=>exact⟨0,0,0,_,_,[],Ze _,rfl,rfl,Zg _,Zg _,rfl,rfl,(Below.refl _ _).alloc (Zg _) _,zh _ _ (Zg _),by simp[xP]⟩
 case round =>
   obtain⟨k,f,m,g,c,ps,hk,rfl,rfl,hf,hm,hl,rfl,hb,ho,hr⟩:=hrel
   have Hr:=Lib.hid hr
   have Hl:=Lib.hid hl
   clear hr hl
   have hg:w.heap.size<=g:=ho.2.2 g (by simp[PT.blocks,PT.rowOf])
   have hsz:=hb.size
   by_cases hlt:k<=s.size
   ·by_cases hend:k=s.size
    ·have he:((k:Int) == (s.size:Int))=true:=by simp[hend]
     have Hend:=Lib.hid hend
     clear hend
     go_wp2_with (at_builtin;refine iD rfl (.tmp 26) (.tmp 31) rfl (S:=(w.heap.size<=·)) (some ⟨g,0,none⟩) c m ps (s.extract f k) rfl rfl ho Hl.out.symm (by omega) (by omega) ?_;intro A5 c5 w5 ho5 ht5 hA5)
     obtain⟨g5,rfl⟩:=hA5 g rfl
     have hb5:=hb.trans (ht5.below (B:=w.heap.size) hb.size (fun b h=>by simp[PT.rowOf] at h;omega))
     clear ho hb ht5
     go_roundw
     case rel =>
       refine⟨k+1,k+1,m+1,g5,c5,ps++[s.extract f k],by omega,by go_num,by go_num,Zg _,by omega,by simp[Hl.out],rfl,hb5,ho5, ?_⟩
       have h1:=Hr.out
       have h2:=Hend.out
       rw[if_pos hlt] at h1
       have h5:s.data.toList.drop s.size=[]:=Yc (by rw[bQ];omega)
       rw[if_neg (by omega),<- h1,h2,h5]
       simp only[spl,aep,List.headD_cons,Zt,List.tail_cons,YG,ZU,Yj]
       rw[Lib.extract_data,<- List.drop_take]
     case measure=>simp[intOf];omega
    ·have he:((k:Int) == (s.size:Int))=false:=by simp;omega
     have hks:k<s.size:=by omega
     have hdr:=pg s hks
     have Hdr:=Lib.hid hdr
     clear hdr
     cases hq:((s[k].toNat:Int) == (b.toNat:Int))
     ·go_wp2
      go_roundw
      case rel =>
        refine⟨k+1,f,m,g,c,ps,by omega,by go_num,rfl,by omega,by omega,Hl.out,rfl,hb,ho, ?_⟩
        have h1:=Hr.out
        rw[if_pos hlt,Hdr.out,aaO _ _ _ _ (fun e=>by simp[e] at hq)] at h1
        rw[if_pos (by omega),<- h1]
        have h3:(s.data.toList.take (k+1)).drop f=(s.data.toList.take k).drop f++[s[k]]:=by
          rw[Ye,Za (by rw[bQ];exact hks),Y2 (by rw[Zu,bQ];omega)]
          rfl
        rw[h3]
      case measure=>simp[intOf];omega
     ·go_wp2_with (at_builtin;refine iD rfl (.tmp 26) (.tmp 31) rfl (S:=(w.heap.size<=·)) (some ⟨g,0,none⟩) c m ps (s.extract f k) rfl rfl ho Hl.out.symm (by omega) (by omega) ?_;intro A5 c5 w5 ho5 ht5 hA5)
      obtain⟨g5,rfl⟩:=hA5 g rfl
      have hb5:=hb.trans (ht5.below (B:=w.heap.size) hb.size (fun b h=>by simp[PT.rowOf] at h;omega))
      clear ho hb ht5
      go_roundw
      case rel =>
        refine⟨k+1,k+1,m+1,g5,c5,ps++[s.extract f k],by omega,by go_num,by go_num,Zg _,by omega,by simp[Hl.out],rfl,hb5,ho5, ?_⟩
        have h1:=Hr.out
        have hbb:s[k]=b:=by
          have:(s[k].toNat:Int)=(b.toNat:Int):=beq_iff_eq.1 hq
          exact UInt8.toNat_inj.1 (by omega)
        rw[if_pos hlt,Hdr.out,hbb,ac0] at h1
        have h4:((s.data.toList.take (k+1)).drop (k+1))=[]:=Yc (by rw[Zu];omega)
        rw[if_pos (by omega),h4,xP,<- h1]
        simp only[YG,ZU,Yj,Zk,Xk]
        rw[Lib.extract_data,<- List.drop_take]
      case measure=>simp[intOf];omega
   ·go_wp2
    go_ret
    refine⟨ps,g,c, ?_,by rw[Hl.out];rfl,hb,ho⟩
    have:=Hr.out
    rw[if_neg hlt] at this
    exact this
def afv (l:List UInt8) (w w':World) (e:Ending):Prop :=
 Below w.heap.size w w'/\match kwL l with
   | some ps=>∃b o c,e=.returned (.slice (some ⟨b,o,none⟩) ps.length c)
   | none=>e=.returned (.slice none 0 0)
theorem vH (s:ByteArray):Lib.hasSuffix s.data.toList [58]=decide (s.data.toList.getLast?=some 58):=by
 rw[YF,decide_eq_true_iff]
 simp only[Lib.hasSuffix,List.isSuffixOf_iff_suffix,List.getLast?_eq_some_iff]
 exact⟨fun⟨t,h⟩=>⟨t,h.symm⟩,fun⟨t,h⟩=>⟨t,h.symm⟩⟩
theorem om (s:ByteArray) (w:World) (hs:s.size<=1048576) (hm:vq w):Calls Tryz.prog 241 #[.string s] w fun e w'=>afv s.data.toList w w' e:=by
 have hsuf:=vH s
 cases hc:Lib.hasSuffix s.data.toList [58]
 ·have hk:kwL s.data.toList=none:=by
    rw[hsuf,decide_eq_false_iff_not] at hc
    unfold kwL;rw[if_neg hc]
  clear hsuf
  have Hk:=Lib.hid hk
  clear hk
  go_enter Tryz.func241,Tryz.ntmps241
  go_wp2_with (go_at_call 282;refine(Tryz.strings_HasSuffix _ _ _ (by omega)).mono ?_;rintro e w' ⟨rfl,hw⟩;obtain rfl:=hw.symm)
  go_ret
  exact⟨Below.refl _ _,by rw[Hk.out];rfl⟩
 ·have hl:s.data.toList.getLast?=some 58:=by rw[hsuf,decide_eq_true_iff] at hc;exact hc
  have hpos:0<s.size:=by
    rw[<- bQ]
    cases hx:s.data.toList with
    | nil=>rw[hx] at hl;cases hl
    | cons=>simp
  have Hl:=Lib.hid hl
  clear hsuf hl
  have hsz1:(1:Int)<=s.size:=by omega
  have hst:(s.extract 0 (s.size - 1)).data.toList=s.data.toList.dropLast:=by
    rw[mS,List.dropLast_eq_take,bQ]
  have hs1:(s.extract 0 (s.size - 1)).size<=1048576:=by rw[ByteArray.size_extract];omega
  obtain⟨mm,hmm⟩:=hm
  have hspl:(Lib.splitB ⟨#[58]⟩ 0 (Lib.countB (s.extract 0 (s.size - 1)) ⟨#[58]⟩) (s.extract 0 (s.size - 1))).map (·.data.toList)=spl 58 s.data.toList.dropLast:=by
    rw[Lib.splitB_data,hst]
    have h1:Lib.countB (s.extract 0 (s.size - 1)) ⟨#[58]⟩=s.data.toList.dropLast.count 58:=by
      rw[<- hst];exact Lib.count_one 58 _
    rw[h1]
    exact vx 58 _
  have Hst:=Lib.hid hst
  have Hspl:=Lib.hid hspl
  clear hst hspl
  have hlen:Lib.countB (s.extract 0 (s.size - 1)) ⟨#[58]⟩+1=(Lib.splitB ⟨#[58]⟩ 0 (Lib.countB (s.extract 0 (s.size - 1)) ⟨#[58]⟩) (s.extract 0 (s.size - 1))).length:=(Lib.splitB_all ⟨#[58]⟩ (by decide) 0 _ _ rfl).symm
  have hcle:=Lib.countB_le ⟨#[58]⟩ (by decide) (s.extract 0 (s.size - 1)).size _ (Zg _)
  have hpl:(Lib.splitB ⟨#[58]⟩ 0 (Lib.countB (s.extract 0 (s.size - 1)) ⟨#[58]⟩) (s.extract 0 (s.size - 1))).length<=1048576:=by
    rw[<- hlen];rw[ByteArray.size_extract] at hcle;omega
  have hpsz:∀p∈(Lib.splitB ⟨#[58]⟩ 0 (Lib.countB (s.extract 0 (s.size - 1)) ⟨#[58]⟩) (s.extract 0 (s.size - 1))),p.size<=1048576:=by
    intro p hp
    have h1:p.data.toList∈spl 58 s.data.toList.dropLast:=by rw[<- Hspl.out];exact Z2 (f:=(·.data.toList)) hp
    have h2:=ly 58 _ _ h1
    rw[bQ,List.length_dropLast,bQ] at h2
    omega
  generalize hps:Lib.splitB ⟨#[58]⟩ 0 (Lib.countB (s.extract 0 (s.size - 1)) ⟨#[58]⟩) (s.extract 0 (s.size - 1))=ps at Hspl
  go_enter Tryz.func241,Tryz.ntmps241
  go_wp2_with (go_at_call 282;refine(Tryz.strings_HasSuffix _ _ _ (by omega)).mono ?_;rintro e w' ⟨rfl,hw⟩;obtain rfl:=hw.symm)
  refine(Tryz.strings_Split (s.extract 0 (s.size - 1)) ⟨#[58]⟩ mm _ (by omega) hmm (by decide)).mono ?_
  rintro e w' ⟨rfl,rfl⟩
  rw[hps]
  rw[hps] at hlen hpl hpsz
  rw[hlen]
  have hP:=Lib.hid hpsz
  clear hps hlen hpsz hcle
  have hown:=gl (w:=w) (S:=(w.heap.size<=·)) ps 9 (by simp only[maxLen];omega) (Zg _)
  have hb1:Below w.heap.size w (w.alloc (.cells (ps.map Value.string).toArray 9)):=(Below.refl _ _).alloc (Zg _) _
  generalize w.alloc (.cells (ps.map Value.string).toArray 9)=w1 at hown hb1
  have hsee:=hown.seen
  clear hmm hown
  go_wp2_with fail
  have hkw:kwL s.data.toList=if (ps.all fun p=>ch p.data.toList) && decide (ps.length<=4) then some (spl 58 s.data.toList.dropLast) else none:=by
    unfold kwL
    rw[if_pos Hl.out,<- Hspl.out,Zf,List.all_map];rfl
  have hpl2:(spl 58 s.data.toList.dropLast).length=ps.length:=by rw[<- Hspl.out,Zf]
  have Hkw:=Lib.hid hkw
  have Hpl2:=Lib.hid hpl2
  clear hkw hpl2 hc hpos hsz1 hs1
  go_loopw [17] (fun i wr=>∃k n:Nat,k<=ps.length/\i=.int .i64 k/\wr=w1.drewN n/\(ps.all fun p=>ch p.data.toList)=(ps.drop k).all fun p=>ch p.data.toList) (fun i _=>ps.length - (intOf i).toNat)
  case atStart=>exact⟨0,0,Ze _,rfl,rfl,rfl⟩
  case round =>
    obtain⟨k,n,hk,rfl,rfl,hr⟩:=hrel
    have Hr:=Lib.hid hr
    clear hr
    by_cases hlt:k<ps.length
    ·obtain⟨b,o,hA,_,hcell⟩:=hsee.str_at hlt
     simp only[Zo,Addr.mk.injEq,and_true] at hA
     obtain⟨rfl,rfl⟩:=hA
     rw[ZY] at hcell
     have hsp:=hP.out ps[k] (Zb hlt)
     have hdr:=ZI hlt
     have Hdr:=Lib.hid hdr
     clear hdr
     cases hq:ch ps[k].data.toList
     ·go_wp2_with (go_at_call 277;refine(mA ps[k] _ hsp).mono ?_;rintro e w' ⟨rfl,m,rfl⟩)
      go_ret
      refine⟨bB hb1 _, ?_⟩
      rw[Hkw.out,Hr.out,Hdr.out,YL,hq]
      rfl
     ·go_wp2_with (go_at_call 277;refine(mA ps[k] _ hsp).mono ?_;rintro e w' ⟨rfl,m,rfl⟩)
      go_roundw
      case rel=>exact⟨k+1,_,by omega,by go_num,rfl,by rw[Hr.out,Hdr.out,YL,hq];rfl⟩
      case measure=>simp[intOf];omega
    ·have hall:(ps.all fun p=>ch p.data.toList)=true:=by rw[Hr.out,Yc (by omega)];rfl
     have Hall:=Lib.hid hall
     clear hall
     by_cases h4:(ps.length:Int)<=4
     ·go_wp2
      go_ret
      refine⟨bB hb1 _, ?_⟩
      rw[Hkw.out,Hall.out,decide_eq_true (by omega)]
      exact⟨_,_,_,by rw[Hpl2.out];rfl⟩
     ·go_wp2
      go_ret
      refine⟨bB hb1 _, ?_⟩
      rw[Hkw.out,Hall.out,decide_eq_false (by omega)]
      rfl
theorem nj (s:ByteArray) (w:World) (hs:s.size<=1048576) (hm:vq w) (hk:kwL s.data.toList=none):Calls Tryz.prog 241 #[.string s] w fun e w'=>e=.returned (.slice none 0 0)/\Below w.heap.size w w' :=
 (om s w hs hm).mono fun e w' ⟨hb,h⟩=>by rw[hk] at h;exact⟨h,hb⟩
theorem jA (s:ByteArray) (w:World) (hs:s.size<=1048576) (hm:vq w) (ps:List (List UInt8)) (hk:kwL s.data.toList=some ps):Calls Tryz.prog 241 #[.string s] w fun e w'=>∃b o c,e=.returned (.slice (some ⟨b,o,none⟩) ps.length c)/\Below w.heap.size w w' :=
 (om s w hs hm).mono fun e w' ⟨hb,h⟩=>by rw[hk] at h;obtain⟨b,o,c,h⟩:=h;exact⟨b,o,c,h,hb⟩
theorem p5 (s:ByteArray) (w:World) (hs:s.size<=1048576) (hm:vq w):Calls Tryz.prog 179 #[.string s] w fun e w'=>e=.returned (.bool (di s.data.toList))/\Below w.heap.size w w':=by
 cases ho:l6 s.data.toList
 ·cases hn:cV s.data.toList
  ·cases hk:kwL s.data.toList with
   | none =>
     have Hk:=Lib.hid hk
     clear hk
     go_enter Tryz.func179,Tryz.ntmps179
     go_wp2_with (first
       | (go_at_call 240;refine(cN s _).mono ?_;rintro e w1 ⟨rfl,hb1⟩)
       | (go_at_call 238;refine(fH s _ hs).mono ?_;rintro e w2 ⟨rfl,n2,rfl⟩)
       | (go_at_call 241;refine(nj s _ hs (vq.below (w:=w1) (hm.below hb1) (bB (Below.refl _ _) _)) Hk.out).mono ?_;rintro e w3 ⟨rfl,hb3⟩))
     go_ret
     exact⟨bK (by rw[di,ho,hn,Hk.out];rfl),(bB hb1 _).trans (hb3.mono hb1.size)⟩
   | some ps =>
     have Hk:=Lib.hid hk
     clear hk
     go_enter Tryz.func179,Tryz.ntmps179
     go_wp2_with (first
       | (go_at_call 240;refine(cN s _).mono ?_;rintro e w1 ⟨rfl,hb1⟩)
       | (go_at_call 238;refine(fH s _ hs).mono ?_;rintro e w2 ⟨rfl,n2,rfl⟩)
       | (go_at_call 241;refine(jA s _ hs (vq.below (w:=w1) (hm.below hb1) (bB (Below.refl _ _) _)) ps Hk.out).mono ?_;rintro e w3 ⟨b,o,c,rfl,hb3⟩))
     go_ret
     exact⟨bK (by rw[di,ho,hn,Hk.out];rfl),(bB hb1 _).trans (hb3.mono hb1.size)⟩
  ·go_enter Tryz.func179,Tryz.ntmps179
   go_wp2_with (first
     | (go_at_call 240;refine(cN s _).mono ?_;rintro e w1 ⟨rfl,hb1⟩)
     | (go_at_call 238;refine(fH s _ hs).mono ?_;rintro e w2 ⟨rfl,n2,rfl⟩))
   go_ret
   exact⟨bK (by rw[di,ho,hn];rfl),bB hb1 _⟩
 ·go_enter Tryz.func179,Tryz.ntmps179
  go_wp2_with (go_at_call 240;refine(cN s _).mono ?_;rintro e w1 ⟨rfl,hb1⟩)
  go_ret
  exact⟨bK (by rw[di,ho];rfl),hb1⟩
theorem sL (s:ByteArray) (w:World) (hs:s.size<=1048576) (hm:vq w):Calls Tryz.prog 180 #[.string s] w fun e w'=>e=.returned (.int .i64 (cz s.data.toList))/\Below w.heap.size w w':=by
 cases ho:l6 s.data.toList
 ·cases hn:cV s.data.toList
  ·cases hk:kwL s.data.toList with
   | none =>
     have Hk:=Lib.hid hk
     clear hk
     go_enter Tryz.func180,Tryz.ntmps180
     go_wp2_with (first
       | (go_at_call 240;refine(cN s _).mono ?_;rintro e w1 ⟨rfl,hb1⟩)
       | (go_at_call 238;refine(fH s _ hs).mono ?_;rintro e w2 ⟨rfl,n2,rfl⟩)
       | (go_at_call 241;refine(nj s _ hs (vq.below (w:=w1) (hm.below hb1) (bB (Below.refl _ _) _)) Hk.out).mono ?_;rintro e w3 ⟨rfl,hb3⟩))
     go_ret
     exact⟨i8 (by rw[cz,ho,hn,Hk.out];rfl),(bB hb1 _).trans (hb3.mono hb1.size)⟩
   | some ps =>
     have Hk:=Lib.hid hk
     clear hk
     go_enter Tryz.func180,Tryz.ntmps180
     go_wp2_with fail
     refine(cN s _).mono ?_
     rintro e w1 ⟨rfl,hb1⟩
     go_wp2_with fail
     refine(fH s _ hs).mono ?_
     rintro e w2 ⟨rfl,n2,rfl⟩
     have hm2:vq (w1.drewN n2):=vq.below (w:=w1) (hm.below hb1) (bB (Below.refl _ _) _)
     go_wp2_with fail
     refine(jA s _ hs hm2 ps Hk.out).mono ?_
     rintro e w3 ⟨b,o,c,rfl,hb3⟩
     have hm3:=hm2.below hb3
     go_wp2_with fail
     refine(jA s _ hs hm3 ps Hk.out).mono ?_
     rintro e w4 ⟨b4,o4,c4,rfl,hb4⟩
     go_wp2_with fail
     go_ret
     exact⟨i8 (by rw[cz,ho,hn,Hk.out];rfl),((bB hb1 _).trans (hb3.mono hb1.size)).trans (hb4.mono (Z0 hb1.size hb3.size))⟩
  ·go_enter Tryz.func180,Tryz.ntmps180
   go_wp2_with (first
     | (go_at_call 240;refine(cN s _).mono ?_;rintro e w1 ⟨rfl,hb1⟩)
     | (go_at_call 238;refine(fH s _ hs).mono ?_;rintro e w2 ⟨rfl,n2,rfl⟩))
   go_ret
   exact⟨i8 (by rw[cz,ho,hn];rfl),bB hb1 _⟩
 ·go_enter Tryz.func180,Tryz.ntmps180
  go_wp2_with (go_at_call 240;refine(cN s _).mono ?_;rintro e w1 ⟨rfl,hb1⟩)
  go_ret
  exact⟨i8 (by rw[cz,ho];rfl),hb1⟩
theorem fp (s:ByteArray) (w:World) (hs:s.size<=1048576):Calls Tryz.prog 163 #[.string s] w fun e w'=>e=.returned (.bool (di s.data.toList))/\Below w.heap.size w w':=by
 have Hsel:=Lib.hid (ma s.data.toList)
 have Hops:=Lib.hid (sV s)
 have Hwords:=Lib.hid (md s)
 go_enter Tryz.func163,Tryz.ntmps163
 cases ho:kK qQ s
 ·go_wp2_with fail
  refine(ip _).mono ?_
  rintro e w1 ⟨rfl,rfl⟩
  go_wp2_with fail
  refine(lI _ 15 qQ s _ (fun _=>True) (gl qQ _ (by decide) trivial).seen (by decide)).mono ?_
  rintro e w1 ⟨rfl,hq⟩
  have hb1:Below w.heap.size w w1:=by
    obtain⟨n,rfl⟩:=hq
    exact bB ((Below.refl _ _).alloc (Zg _) _) _
  clear hq
  go_wp2_with fail
  refine(lv s 58 w1 hs).mono ?_
  rintro e w2 ⟨ps,g,c,hps,rfl,hb2,how⟩
  have hB:=hb1.trans (hb2.mono hb1.size)
  have hsee:=how.seen
  have hlen:ps.length=(spl 58 s.data.toList).length:=by rw[<- hps,Zf]
  have hpos:=oD 58 s.data.toList
  rw[<- hlen] at hpos
  have Hps:=Lib.hid hps
  have Hlen:=Lib.hid hlen
  clear hps hlen how hb1 hb2
  have hle:ps.length<=1048577:=by
    have:=mD 58 s.data.toList
    rw[bQ] at this
    have:=Hlen.out
    omega
  have hcap:ps.length<=c:=by simpa [mr] using hsee.1
  have hP:Hid (∀p∈ps,p.size<=1048576):=fun p hp=>by
    have h1:p.data.toList∈spl 58 s.data.toList:=by rw[<- Hps.out];exact Z2 (f:=(·.data.toList)) hp
    have h2:=ly 58 _ _ h1
    rw[bQ,bQ] at h2
    omega
  have hspec:kN s.data.toList=if 1<ps.length then (if (ps.getLast?.map (·.data.toList))=some [] then ps.dropLast.all (fun p=>ch p.data.toList) && decide (ps.length - 1<=4) else false) else ch s.data.toList && !iS s.data.toList:=by
    unfold kN
    rw[<- Hops.out,ho,<- Hlen.out,<- Hps.out,List.getLast?_map,<- List.map_dropLast,List.all_map]
    rfl
  have Hspec:=Lib.hid hspec
  clear hspec
  by_cases h1:(1:Int)<ps.length
  ·obtain⟨b,o,hA,_,hcell⟩:=hsee.str_at (k:=ps.length - 1) (by omega)
   simp only[Zo,Addr.mk.injEq,and_true] at hA
   obtain⟨rfl,rfl⟩:=hA
   rw[ZY] at hcell
   cases he:(ps[ps.length - 1]).toList.isEmpty
   ·have hlast:¬ (ps.getLast?.map (·.data.toList))=some []:=by
      rw[List.getLast?_eq_getElem?,Za (by omega),Yb,<- Lib.toList_data]
      intro h
      simp only[Zo] at h
      rw[h] at he
      cases he
    have Hlast:=Lib.hid hlast
    clear hlast
    go_wp2
    go_ret
    exact⟨bK (by rw[<- Hsel.out,Hspec.out,if_pos (by omega),if_neg Hlast.out]),hB⟩
   ·have hlast:(ps.getLast?.map (·.data.toList))=some []:=by
      rw[List.getLast?_eq_getElem?,Za (by omega),Yb,<- Lib.toList_data]
      rw[List.isEmpty_iff.1 he]
    have Hlast:=Lib.hid hlast
    have hfin:kN s.data.toList=(ps.dropLast.all (fun p=>ch p.data.toList) && decide (ps.length - 1<=4)):=by
      rw[Hspec.out,if_pos (by omega),if_pos hlast]
    have Hfin:=Lib.hid hfin
    clear hlast hfin
    have h2:(1:Int)<=ps.length:=by omega
    have h3:(ps.length:Int) - 1<=c:=by omega
    have hn1:((ps.length:Int) == 1)=false:=by simp;omega
    go_wp2_with fail
    go_loopw [5] (fun i wr=>∃k n:Nat,k<=ps.length - 1/\i=.int .i64 k/\wr=w2.drewN n/\(ps.dropLast.all fun p=>ch p.data.toList)=(ps.dropLast.drop k).all fun p=>ch p.data.toList) (fun i _=>ps.length - (intOf i).toNat)
    case atStart=>exact⟨0,0,Ze _,rfl,rfl,rfl⟩
    case round =>
      obtain⟨k,n,hk,rfl,rfl,hr⟩:=hrel
      have Hr:=Lib.hid hr
      clear hr
      by_cases hlt:k<ps.length - 1
      ·obtain⟨b,o,hA,_,hcellk⟩:=hsee.str_at (k:=k) (by omega)
       simp only[Zo,Addr.mk.injEq,and_true] at hA
       obtain⟨rfl,rfl⟩:=hA
       rw[ZY] at hcellk
       have hsp:=hP.out ps[k] (Zb (by omega))
       have hdr:ps.dropLast.drop k=ps[k]::ps.dropLast.drop (k+1):=by
         rw[ZI (by simp;omega),List.getElem_dropLast]
       have Hdr:=Lib.hid hdr
       clear hdr
       cases hq:ch ps[k].data.toList
       ·go_wp2_with (go_at_call 229;refine(fS ps[k] _ hsp).mono ?_;rintro e w' ⟨rfl,m,rfl⟩)
        go_ret
        exact⟨bK (by rw[<- Hsel.out,Hfin.out,Hr.out,Hdr.out,YL,hq];rfl),bB hB _⟩
       ·go_wp2_with (go_at_call 229;refine(fS ps[k] _ hsp).mono ?_;rintro e w' ⟨rfl,m,rfl⟩)
        go_roundw
        case rel=>exact⟨k+1,_,by omega,by go_num,rfl,by rw[Hr.out,Hdr.out,YL,hq];rfl⟩
        case measure=>simp[intOf];omega
      ·have hall:(ps.dropLast.all fun p=>ch p.data.toList)=true:=by rw[Hr.out,Yc (by simp;omega)];rfl
       have Hall:=Lib.hid hall
       clear hall
       go_wp2
       go_ret
       exact⟨bK (by rw[<- Hsel.out,Hfin.out,Hall.out,Zn,decide_eq_decide];omega),bB hB _⟩
  ·have hone:ps.length=1:=by omega
   obtain⟨p,rfl⟩:=List.length_eq_one_iff.1 hone
   have hp:p=s:=by
     have h2:=Hps.out
     have h3:=xr 58 s.data.toList (by rw[<- Hlen.out];rfl)
     rw[h3] at h2
     simp only[ZU,Yj,List.cons.injEq,and_true] at h2
     exact n6 h2
   subst hp
   have hfin:kN p.data.toList=(ch p.data.toList && !iS p.data.toList):=by rw[Hspec.out,if_neg (by simp)]
   have Hfin:=Lib.hid hfin
   obtain⟨b,o,hA,_,hcell⟩:=hsee.str_at (k:=0) (by simp)
   simp only[Zo,Addr.mk.injEq,and_true,List.getElem_cons_zero] at hA hcell
   obtain⟨rfl,rfl⟩:=hA
   rw[ZY] at hcell
   clear hfin hone h1 hpos hle
   go_wp2_with fail
   go_loopw [5] (fun i wr=>∃k:Nat,k<=1/\i=.int .i64 k/\Below w.heap.size w wr/\wr.cell? ⟨g,0,none⟩=some (.string p)/\(k=0\/cV p.data.toList=true)) (fun i _=>1 - (intOf i).toNat)
   case atStart=>exact⟨0,by omega,rfl,hB,hcell,.inl rfl⟩
   case round =>
     obtain⟨k,hk,rfl,hbr,hc,hr⟩:=hrel
     by_cases hlt:k<1
     ·obtain rfl:k=0:=by omega
      have hgr:g<wr.heap.size:=World.block_lt_of_cell? wr _ hc
      clear hr
      cases hq:ch p.data.toList
      ·go_wp2_with (go_at_call 229;refine(fS p _ hs).mono ?_;rintro e w' ⟨rfl,m,rfl⟩)
       go_ret
       exact⟨bK (by rw[<- Hsel.out,Hfin.out,hq];rfl),bB hbr _⟩
      ·go_wp2_with fail
       refine(fS p _ hs).mono ?_
       rintro e w3 ⟨rfl,hq3⟩
       have hb3:=wQ hq3
       have hbr3:=hbr.trans (hb3.mono hbr.size)
       have hc3:=(hb3.cell (p:=⟨g,0,none⟩) hgr).trans hc
       clear hq3 hb3 hc
       go_wp2_with fail
       refine(xJ _).mono ?_
       rintro e w4 ⟨rfl,rfl⟩
       go_wp2_with fail
       refine(lI _ 7 fT p _ (fun _=>True) (gl fT _ (by decide) trivial).seen (by decide)).mono ?_
       rintro e w5 ⟨rfl,n5,rfl⟩
       have hb5:Below w.heap.size w ((w3.alloc (.cells (fT.map Value.string).toArray 9)).drewN n5):=bB (hbr3.alloc hbr3.size _) _
       have hc5:((w3.alloc (.cells (fT.map Value.string).toArray 9)).drewN n5).cell? ⟨g,0,none⟩=some (.string p):=by
         show (w3.alloc _).cell? _=_
         rw[World.cell?_alloc_lt w3 _ _ (World.block_lt_of_cell? w3 _ hc3)];exact hc3
       generalize (w3.alloc (.cells (fT.map Value.string).toArray 9)).drewN n5=w6 at hb5 hc5
       cases hw:kK fT p
       ·go_wp2_with fail
        go_roundw
        case rel=>exact⟨1,by omega,rfl,hb5,hc5,.inr (by rw[cV,hq,<- Hwords.out,hw];rfl)⟩
        case measure=>simp[intOf]
       ·go_wp2_with fail
        go_ret
        exact⟨bK (by rw[<- Hsel.out,Hfin.out,hq,<- Hwords.out,hw];rfl),hb5⟩
     ·obtain rfl:k=1:=by omega
      have hn:cV p.data.toList=true:=by
        rcases hr with h|h
        ·cases h
        ·exact h
      have Hn:=Lib.hid hn
      clear hr hn
      go_wp2_with fail
      go_ret
      exact⟨bK (by rw[<- Hsel.out,Hfin.out];exact Hn.out.symm),hbr⟩
 ·go_wp2_with fail
  refine(ip _).mono ?_
  rintro e w1 ⟨rfl,rfl⟩
  go_wp2_with fail
  refine(lI _ 15 qQ s _ (fun _=>True) (gl qQ _ (by decide) trivial).seen (by decide)).mono ?_
  rintro e w1 ⟨rfl,hq⟩
  have hb1:Below w.heap.size w w1:=by
    obtain⟨n,rfl⟩:=hq
    exact bB ((Below.refl _ _).alloc (Zg _) _) _
  go_wp2
  go_ret
  exact⟨bK (by rw[di,<- Hops.out,ho];rfl),hb1⟩
theorem mG (s:ByteArray) (w:World) (hs:s.size<=1048576):Calls Tryz.prog 223 #[.string s] w fun e w'=>e=.returned (.int .i64 (cz s.data.toList))/\Below w.heap.size w w':=by
 have Hargs:=Lib.hid (xA s.data.toList)
 have Hsel:=Lib.hid (ma s.data.toList)
 have Hops:=Lib.hid (sV s)
 cases hq:di s.data.toList
 ·go_enter Tryz.func223,Tryz.ntmps223
  go_wp2_with fail
  refine(fp s w hs).mono ?_
  rintro e w1 ⟨rfl,hb1⟩
  go_wp2_with fail
  go_ret
  exact⟨i8 (by rw[<- Hargs.out,la,Hsel.out,hq];rfl),hb1⟩
 ·cases ho:kK qQ s
  all_goals
    go_enter Tryz.func223,Tryz.ntmps223
    go_wp2_with fail
    refine(fp s w hs).mono ?_
    rintro e w1 ⟨rfl,hb1⟩
    go_wp2_with fail
    refine(ip _).mono ?_
    rintro e w2 ⟨rfl,rfl⟩
    go_wp2_with fail
    refine(lI _ 15 qQ s _ (fun _=>True) (gl qQ _ (by decide) trivial).seen (by decide)).mono ?_
    rintro e w3 ⟨rfl,hq3⟩
    have hb3:Below w.heap.size w w3:=by
      obtain⟨n,rfl⟩:=hq3
      exact bB (hb1.alloc hb1.size _) _
    go_wp2_with fail
  ·refine(lv s 58 w3 hs).mono ?_
   rintro e w4 ⟨ps,g,c,hps,rfl,hb4,how⟩
   have hlen:ps.length=(spl 58 s.data.toList).length:=by rw[<- hps,Zf]
   have hl2:=mD 58 s.data.toList
   rw[bQ,<- hlen] at hl2
   have Hlen:=Lib.hid hlen
   have hps':=Lib.hid hps
   clear hlen hps
   go_wp2_with fail
   go_ret
   exact⟨i8 (by rw[<- Hargs.out,la,Hsel.out,hq,<- Hops.out,ho,<- Hlen.out];rfl),hb3.trans (hb4.mono hb3.size)⟩
  ·go_ret
   exact⟨i8 (by rw[<- Hargs.out,la,Hsel.out,hq,<- Hops.out,ho];rfl),hb3⟩
end Go.Proofs.YtifcomgnmokimaaGreatDoor
