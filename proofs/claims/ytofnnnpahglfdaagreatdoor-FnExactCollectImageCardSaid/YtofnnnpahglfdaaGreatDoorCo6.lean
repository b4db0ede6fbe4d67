/- Part 6 of the proof: the texts Sel, Sel2, Sel3. -/
import Derived.Test.YtofnnnpahglfdaaGreatDoorCo1
import Derived.Test.YtofnnnpahglfdaaGreatDoorCo2
import Derived.Deep.RegionLaw
set_option linter.all false
set_option maxHeartbeats 800000
namespace Go.Proofs.YtofnnnpahglfdaaGreatDoor
open Go Go.RowKit
def ui (w:World):Prop:=∃m:Int,w.cell? ⟨0,0,none⟩=some (.int .i64 m)
theorem ui.below {w w':World} (h:ui w) (hb:Below w.heap.size w w'):ui w':=by
 obtain⟨m,hm⟩:=h
 exact⟨m,(hb.cell (World.block_lt_of_cell? w _ hm)).trans hm⟩
theorem Tryz.infoStr:(Tryz.prog.info? 9).map (fun i=>(i.zero,i.size,i.bytes))=some (some (.string ByteArray.empty),1,16):=by kernel_rfl
def mq (l:List ByteArray):List PT:=l.map PT.str
theorem xe (l:List ByteArray):(mq l).length=l.length:=by simp[mq]
theorem xY (a b:List ByteArray):mq (a++b)=mq a++mq b:=by simp[mq]
theorem kB (l:List ByteArray):PT.cellsL (mq l)=l.map Value.string:=by
 induction l with
 | nil=>rfl
 | cons z r ih=>simp only[mq,ZT,PT.cellsL,PT.cells] at *;rw[ih];rfl
theorem mI (l:List ByteArray):PT.blocksL (mq l)=[]:=by
 induction l with
 | nil=>rfl
 | cons z r ih=>simp only[mq,ZT,PT.blocksL,PT.blocks] at *;rw[ih];rfl
theorem z6 (l:List ByteArray):∀t∈mq l,t.cells.length=1:=fun t ht=>by
 simp only[mq,Xn] at ht;obtain⟨z,_,rfl⟩:=ht;rfl
theorem acu (w:World) (l:List ByteArray):jb w (mq l):=jb.of_get fun t ht=>by
 simp only[mq,Xn] at ht;obtain⟨z,_,rfl⟩:=ht;trivial
theorem er.str_at {w:World} {S:Nat->Prop} {A:Option Addr} {c:Nat} {l:List ByteArray} (h:er w S (.sl A c 1 (mq l))) {k:Nat} (hk:k<l.length) :
   ∃b o,A=some ⟨b,o,none⟩/\S b/\w.cell? ⟨b,o+k,none⟩=some (.string (l[k]'hk)):=by
 have h1:=h.2.2.1
 rw[kB] at h1
 exact h1 k _ (by simp[hk])
theorem fX {w:World} {S:Nat->Prop} (l:List ByteArray) (e:TypeId) (hl:l.length<=maxLen) (hS:S w.heap.size):cJ (w.alloc (.cells (l.map Value.string).toArray e)) S (.sl (some ⟨w.heap.size,0,none⟩) l.length 1 (mq l)) :=
 ⟨fL (z6 l) (by rw[kB];simp[mq]) (heap_alloc_new w _) (by simp[mq]) hl (by simp) (by rw[kB];simp[mq,Zc]) (acu _ _),by simp[PT.blocks,mI,PT.rowOf],
   by simpa [PT.blocks,mI,PT.rowOf] using hS⟩
def fM:List ByteArray:=ae8.map fun l=>⟨l.toArray⟩
def qX:List ByteArray:=ops.map fun l=>⟨l.toArray⟩
def kD (l:List ByteArray) (s:ByteArray):Bool:=l.any fun x=>x.toList == s.toList
theorem l6 (s:ByteArray):kD fM s=iF s.data.toList:=by
 rw[YI]
 simp only[kD,fM,iF,List.any_map,Xt,Function.comp,List.contains_iff_mem,beq_iff_eq,Lib.toList_data]
 exact⟨fun⟨x,h1,h2⟩=>by rw[<- h2];exact h1,fun h=>⟨_,h,rfl⟩⟩
theorem tj (s:ByteArray):kD qX s=mB s.data.toList:=by
 rw[YI]
 simp only[kD,qX,mB,List.any_map,Xt,Function.comp,List.contains_iff_mem,beq_iff_eq,Lib.toList_data]
 exact⟨fun⟨x,h1,h2⟩=>by rw[<- h2];exact h1,fun h=>⟨_,h,rfl⟩⟩
theorem aax (s:ByteArray) (w:World):Calls Tryz.prog 300 #[.string s] w fun e w'=>e=.returned (.bool (iF s.data.toList))/\w=w':=by
 have hL:=Lib.toList_data s
 have hd:iF s.data.toList=kD fM s:=(l6 s).symm
 have Hd:=Lib.hid hd
 have HL:=Lib.hid hL
 clear hd hL
 go_enter Tryz.func300,Tryz.ntmps300
 go_wp2
 all_goals (go_ret;exact⟨bI (by have:=HL.out;simp_all [iF,ae8]),rfl⟩)
theorem lJ (A:Option Addr) (c:Nat) (l:List ByteArray) (s:ByteArray) (w:World) (S:Nat->Prop) (hs:er w S (.sl A c 1 (mq l))) (hn:l.length<=1048576) :
   Calls Tryz.prog 212 #[.slice A l.length c,.string s] w fun e w'=>e=.returned (.bool (kD l s))/\∃n,w'=w.drewN n:=by
 go_enter Tryz.func212,Tryz.ntmps212
 go_wp2
 go_loopw [5] (fun i wr=>∃k n:Nat,k<=l.length/\i=.int .i64 k/\wr=w.drewN n/\kD l s=kD (l.drop k) s) (fun i _=>l.length - (intOf i).toNat)
 case atStart=>exact⟨0,0,Zd _,rfl,rfl,rfl⟩
 case round =>
   obtain⟨k,n,hk,rfl,rfl,hr⟩:=hrel
   have Hr:=Lib.hid hr
   clear hr
   by_cases hlt:k<l.length
   ·obtain⟨b,o,rfl,_,hcell⟩:=hs.str_at hlt
    have hd:kD (l.drop k) s=(l[k].toList == s.toList || kD (l.drop (k+1)) s):=by rw[ZH hlt];rfl
    have Hd:=Lib.hid hd
    clear hd hs
    cases hq:l[k].toList == s.toList
    all_goals
      go_wp2
      first
        | (
            go_roundw
            case rel=>exact⟨k+1,n,by omega,by go_num,rfl,by rw[Hr.out,Hd.out,hq];rfl⟩
            case measure=>simp[intOf];omega)
        | (
            go_ret
            exact⟨bI (by rw[Hr.out,Hd.out,hq];rfl),n,rfl⟩)
   ·go_wp2
    go_ret
    exact⟨bI (by rw[Hr.out,Yg (by omega)];rfl),n,rfl⟩
theorem xr (w:World):Calls Tryz.prog 249 #[] w fun e w'=>e=.returned (.slice (some ⟨w.heap.size,0,none⟩) 7 7)/\w.alloc (.cells (fM.map Value.string).toArray 9)=w':=by
 go_enter Tryz.func249,Tryz.ntmps249
 go_wp2
 go_ret
 exact⟨rfl,rfl⟩
theorem gV (w:World):Calls Tryz.prog 246 #[] w fun e w'=>e=.returned (.slice (some ⟨w.heap.size,0,none⟩) 15 15)/\w.alloc (.cells (qX.map Value.string).toArray 9)=w':=by
 go_enter Tryz.func246,Tryz.ntmps246
 go_wp2
 go_ret
 exact⟨rfl,rfl⟩
theorem sj (w:World):Calls Tryz.prog 303 #[] w fun e w'=>e=.returned (.slice (some ⟨w.heap.size,0,none⟩) 15 15)/\w.alloc (.cells (qX.map Value.string).toArray 9)=w':=by
 go_enter Tryz.func303,Tryz.ntmps303
 go_wp2
 go_ret
 exact⟨rfl,rfl⟩
def eK (s:ByteArray) (l:List ByteArray):ByteArray:=(l.find? fun x=>Lib.hasPrefix s.data.toList x.data.toList).getD ByteArray.empty
theorem wO (A:Option Addr) (c:Nat) (l:List ByteArray) (s:ByteArray) (w:World) (S:Nat->Prop) (hs:er w S (.sl A c 1 (mq l))) (hn:l.length<=1048576) :
   Calls Tryz.prog 302 #[.string s,.slice A l.length c] w fun e w'=>e=.returned (.string (eK s l))/\∃n,w'=w.drewN n:=by
 go_enter Tryz.func302,Tryz.ntmps302
 go_wp2
 go_loopw [9] (fun i wr=>∃k n:Nat,k<=l.length/\i=.int .i64 k/\wr=w.drewN n/\eK s l=eK s (l.drop k)) (fun i _=>l.length - (intOf i).toNat)
 case atStart=>exact⟨0,0,Zd _,rfl,rfl,rfl⟩
 case round =>
   obtain⟨k,n,hk,rfl,rfl,hr⟩:=hrel
   have Hr:=Lib.hid hr
   clear hr
   by_cases hlt:k<l.length
   ·obtain⟨b,o,rfl,_,hcell⟩:=hs.str_at hlt
    have hd:eK s (l.drop k)=if Lib.hasPrefix s.data.toList l[k].data.toList then l[k] else eK s (l.drop (k+1)):=by
      rw[ZH hlt]
      simp only[eK,Y5]
      split <;> simp_all
    have Hd:=Lib.hid hd
    clear hd hs
    cases hq:Lib.hasPrefix s.data.toList l[k].data.toList
    all_goals
      go_wp2_with (go_at_call 324;refine(Tryz.strings_HasPrefix _ _ _).mono ?_;rintro e w' ⟨rfl,rfl⟩)
      first
        | (
            go_roundw
            case rel=>exact⟨k+1,n,by omega,by go_num,rfl,by rw[Hr.out,Hd.out,hq];rfl⟩
            case measure=>simp[intOf];omega)
        | (
            go_ret
            exact⟨lW (by rw[Hr.out,Hd.out,hq];rfl),n,rfl⟩)
   ·go_wp2
    go_ret
    exact⟨lW (by rw[Hr.out,Yg (by omega)];rfl),n,rfl⟩
theorem vE (s:ByteArray) (l:List ByteArray) (h:eK s l=s) (hs:s.data.toList≠[]):s∈l:=by
 unfold eK at h
 cases hf:l.find? (fun x=>Lib.hasPrefix s.data.toList x.data.toList) with
 | none=>rw[hf] at h;simp only[Option.getD_none] at h;rw[<- h] at hs;exact absurd rfl hs
 | some x=>rw[hf] at h;simp only[Yq] at h;subst h;exact List.mem_of_find?_eq_some hf
theorem vv:∀l∈qX,((eK l qX).toList == l.toList)=true/\l.toList≠[]:=by decide +kernel
theorem afi (s:ByteArray):(!s.toList.isEmpty && (eK s qX).toList == s.toList)=mB s.data.toList:=by
 rw[<- tj,YI]
 constructor
 ·intro h
  simp only[Zm,Ya,beq_iff_eq] at h
  have h1:eK s qX=s:=nL (by rw[<- Lib.toList_data,<- Lib.toList_data];exact h.2)
  have h2:s∈qX:=vE s qX h1 (by intro e;rw[<- Lib.toList_data] at e;rw[e] at h;simp at h)
  simp only[kD,Xt]
  exact⟨s,h2,by simp⟩
 ·intro h
  simp only[kD,Xt] at h
  obtain⟨x,hx,he⟩:=h
  have e:x=s:=nL (by rw[<- Lib.toList_data,<- Lib.toList_data];exact beq_iff_eq.1 he)
  subst e
  obtain⟨h1,h2⟩:=vv x hx
  rw[h1]
  cases hx:x.toList with
  | nil=>exact absurd hx h2
  | cons=>rfl
theorem cE (s:ByteArray) (w:World):Calls Tryz.prog 256 #[.string s] w fun e w'=>e=.returned (.bool (mB s.data.toList))/\Below w.heap.size w w':=by
 have Hq:=Lib.hid (afi s)
 cases hn:s.toList.isEmpty
 all_goals
   go_enter Tryz.func256,Tryz.ntmps256
   go_wp2_with (first
     | (go_at_call 303;refine(sj _).mono ?_;rintro e w' ⟨rfl,rfl⟩)
     | (go_at_call 302;refine(wO _ 15 qX s _ (fun _=>True) (fX qX _ (by decide) trivial).seen (by decide)).mono ?_;rintro e w' ⟨rfl,n,rfl⟩))
   go_ret
   first
     | exact⟨bI (by rw[<- Hq.out,hn];rfl),Below.refl _ _⟩
     | exact⟨bI (by rw[<- Hq.out,hn];rfl),bv ((Below.refl _ _).alloc (Zf _) _) _⟩
theorem fp (s:ByteArray) (w:World) (hs:s.size<=1048576):Calls Tryz.prog 254 #[.string s] w fun e w'=>e=.returned (.bool (cO s.data.toList))/\∃n,w'=w.drewN n:=by
 cases hp:cf s.data.toList
 all_goals
   go_enter Tryz.func254,Tryz.ntmps254
   go_wp2_with (first
     | (go_at_call 299;refine(mz s _ hs).mono ?_;rintro e w' ⟨rfl,n,rfl⟩)
     | (go_at_call 300;refine(aax s _).mono ?_;rintro e w' ⟨rfl,rfl⟩))
   go_ret
   exact⟨bI (by rw[cO,hp];simp),n,rfl⟩
theorem fP (s:ByteArray) (w:World) (hs:s.size<=1048576):Calls Tryz.prog 248 #[.string s] w fun e w'=>e=.returned (.bool (cf s.data.toList))/\∃n,w'=w.drewN n:=by
 by_cases h1:1<=(s.size:Int)
 ·have h0:0<s.size:=by omega
  have Hf:=Lib.hid (jx s h0)
  have Hr:=Lib.hid (mo s.data.toList)
  have hr:fd s.data.toList<=s.size:=by have:=ox s.data.toList;rw[bM] at this;exact this
  by_cases h2:(s.size:Int)<=20
  all_goals cases hl:f9 s[0]
  all_goals
    go_enter Tryz.func248,Tryz.ntmps248
    go_wp2_with (first
      | (go_at_call 295;refine(na s[0] _).mono ?_;rintro e w' ⟨rfl,rfl⟩)
      | (go_at_call 296;refine(abI s 0 _ hs (by omega)).mono ?_;rintro e w' ⟨rfl,n,rfl⟩))
    go_ret
    first
      | exact⟨bI (by rw[Hf.out,hl,decide_eq_false (by omega)];rfl),0,rfl⟩
      | exact⟨bI (by rw[Hf.out,hl];simp),0,rfl⟩
      | (
          refine⟨bI ?_,n,rfl⟩
          rw[Hf.out,hl,decide_eq_true (show s.size<=20 by omega)]
          have hx:=Hr.out
          rw[bM] at hx
          rw[YI]
          simp only[Zn,<- hx]
          simp
          try omega)
 ·go_enter Tryz.func248,Tryz.ntmps248
  go_wp2
  go_ret
  exact⟨bI (oV s (by omega)).symm,0,rfl⟩
theorem ij {ops:Array Oper} {rest:List Oper} {o:Oper} {a:Act} {Q:Exit->Act->World->Prop} {w:World} (hgd:o.guard=none) (s x:Operand)
   (ho:o.op=.call { callee:=.builtin .append,args:=#[s,x],argTypes:=#[28,28] }) {S:Nat->Prop} (A:Option Addr) (c n:Nat) (l:List ByteArray) (v:ByteArray)
   (hs:a.eval s=.slice A n c) (hx:a.eval x=.slice (some ⟨w.heap.size,0,none⟩) 1 1) (hown:cJ w S (.sl A c 1 (mq l))) (hn:n=l.length) (hS:S (w.heap.size+1)) (hl:n<=1000000000)
   (h:∀A' c' w',cJ w' S (.sl A' c' 1 (mq (l++[v])))->eb (·∈PT.rowOf A) w w'->(∀g,A=some ⟨g,0,none⟩->∃g',A'=some ⟨g',0,none⟩)->wpList Tryz.prog ops Q rest (a.put o.dst (.slice A' (n+1) c')) w') :
   wpList Tryz.prog ops Q (o::rest) a (w.alloc (.cells #[.string v] 9)) :=
 mw hgd s x 28 9 (.string ByteArray.empty) 1 16 ho Tryz.underlying28 Tryz.infoStr rfl (by omega) A c n (mq l) (.str v) hs hx hown (by rw[xe];exact hn) rfl trivial rfl hS hl (by omega)
   fun A' c' w' h1 h2 h3=>h A' c' w' (by rw[xY];exact h1) h2 h3
theorem kI (s:ByteArray) (b:UInt8) (w:World) (hs:s.size<=1048576):Calls Tryz.prog 247 #[.string s,.int .u8 (b.toNat:Int)] w fun e w'=>∃(ps:List ByteArray) (g c:Nat),ps.map (·.data.toList)=spl b s.data.toList/\e=.returned (.slice (some ⟨g,0,none⟩) ps.length c)/\Below w.heap.size w w'/\cJ w' (w.heap.size<=·) (.sl (some ⟨g,0,none⟩) c 1 (mq ps)):=by
 go_enter Tryz.func247,Tryz.ntmps247
 go_wp2
 go_loopw [5,6,7] (fun ov fv iv wr=>∃(k f m g c:Nat) (ps:List ByteArray),k<=s.size+1/\iv=.int .i64 k/\fv=.int .i64 f/\f<=k/\m<=k/\ps.length=m/\ov=.slice (some ⟨g,0,none⟩) m c/\Below w.heap.size w wr/\cJ wr (w.heap.size<=·) (.sl (some ⟨g,0,none⟩) c 1 (mq ps)) /\
   (if k<=s.size then ps.map (·.data.toList)++ae3 ((s.data.toList.take k).drop f) (spl b (s.data.toList.drop k)) else ps.map (·.data.toList))=spl b s.data.toList) (fun _ _ iv _=>s.size+1 - (intOf iv).toNat)
 case atStart=>exact⟨0,0,0,_,_,[],Zd _,rfl,rfl,Zf _,Zf _,rfl,rfl,(Below.refl _ _).alloc (Zf _) _,zQ _ _ (Zf _),by simp[zi]⟩
 case round =>
   obtain⟨k,f,m,g,c,ps,hk,rfl,rfl,hf,hm,hl,rfl,hb,ho,hr⟩:=hrel
   have Hr:=Lib.hid hr
   have Hl:=Lib.hid hl
   clear hr hl
   have hg:w.heap.size<=g:=ho.2.2 g (by simp[PT.blocks,PT.rowOf])
   have hsz:=hb.size
   by_cases hlt:k<=s.size
   ·by_cases hend:k=s.size
    ·have he:((k:Int) == (s.size:Int))=true:=by simp[hend]
     have Hend:=Lib.hid hend
     clear hend
     go_wp2_with (at_builtin;refine ij rfl (.tmp 26) (.tmp 31) rfl (S:=(w.heap.size<=·)) (some ⟨g,0,none⟩) c m ps (s.extract f k) rfl rfl ho Hl.out.symm (by omega) (by omega) ?_;intro A5 c5 w5 ho5 ht5 hA5)
     obtain⟨g5,rfl⟩:=hA5 g rfl
     have hb5:=hb.trans (ht5.below (B:=w.heap.size) hb.size (fun b h=>by simp[PT.rowOf] at h;omega))
     clear ho hb ht5
     go_roundw
     case rel =>
       refine⟨k+1,k+1,m+1,g5,c5,ps++[s.extract f k],by omega,by go_num,by go_num,Zf _,by omega,by simp[Hl.out],rfl,hb5,ho5, ?_⟩
       have h1:=Hr.out
       have h2:=Hend.out
       rw[if_pos hlt] at h1
       have h5:s.data.toList.drop s.size=[]:=Yg (by rw[bM];omega)
       rw[if_neg (by omega),<- h1,h2,h5]
       simp only[spl,ae3,List.headD_cons,Zo,List.tail_cons,Z1,ZT,Yk]
       rw[Lib.extract_data,<- List.drop_take]
     case measure=>simp[intOf];omega
    ·have he:((k:Int) == (s.size:Int))=false:=by simp;omega
     have hks:k<s.size:=by omega
     have hdr:=oh s hks
     have Hdr:=Lib.hid hdr
     clear hdr
     cases hq:((s[k].toNat:Int) == (b.toNat:Int))
     ·go_wp2
      go_roundw
      case rel =>
        refine⟨k+1,f,m,g,c,ps,by omega,by go_num,rfl,by omega,by omega,Hl.out,rfl,hb,ho, ?_⟩
        have h1:=Hr.out
        rw[if_pos hlt,Hdr.out,acI _ _ _ _ (fun e=>by simp[e] at hq)] at h1
        rw[if_pos (by omega),<- h1]
        have h3:(s.data.toList.take (k+1)).drop f=(s.data.toList.take k).drop f++[s[k]]:=by
          rw[Z6,Za (by rw[bM];exact hks),Y1 (by rw[Zu,bM];omega)]
          rfl
        rw[h3]
      case measure=>simp[intOf];omega
     ·go_wp2_with (at_builtin;refine ij rfl (.tmp 26) (.tmp 31) rfl (S:=(w.heap.size<=·)) (some ⟨g,0,none⟩) c m ps (s.extract f k) rfl rfl ho Hl.out.symm (by omega) (by omega) ?_;intro A5 c5 w5 ho5 ht5 hA5)
      obtain⟨g5,rfl⟩:=hA5 g rfl
      have hb5:=hb.trans (ht5.below (B:=w.heap.size) hb.size (fun b h=>by simp[PT.rowOf] at h;omega))
      clear ho hb ht5
      go_roundw
      case rel =>
        refine⟨k+1,k+1,m+1,g5,c5,ps++[s.extract f k],by omega,by go_num,by go_num,Zf _,by omega,by simp[Hl.out],rfl,hb5,ho5, ?_⟩
        have h1:=Hr.out
        have hbb:s[k]=b:=by
          have:(s[k].toNat:Int)=(b.toNat:Int):=beq_iff_eq.1 hq
          exact UInt8.toNat_inj.1 (by omega)
        rw[if_pos hlt,Hdr.out,hbb,adM] at h1
        have h4:((s.data.toList.take (k+1)).drop (k+1))=[]:=Yg (by rw[Zu];omega)
        rw[if_pos (by omega),h4,zi,<- h1]
        simp only[Z1,ZT,Yk,Zh,Xq]
        rw[Lib.extract_data,<- List.drop_take]
      case measure=>simp[intOf];omega
   ·go_wp2
    go_ret
    refine⟨ps,g,c, ?_,by rw[Hl.out];rfl,hb,ho⟩
    have:=Hr.out
    rw[if_neg hlt] at this
    exact this
def afH (l:List UInt8) (w w':World) (e:Ending):Prop :=
 Below w.heap.size w w'/\match kwL l with
   | some ps=>∃b o c,e=.returned (.slice (some ⟨b,o,none⟩) ps.length c)
   | none=>e=.returned (.slice none 0 0)
theorem vD (s:ByteArray):Lib.hasSuffix s.data.toList [58]=decide (s.data.toList.getLast?=some 58):=by
 rw[YI,decide_eq_true_iff]
 simp only[Lib.hasSuffix,List.isSuffixOf_iff_suffix,List.getLast?_eq_some_iff]
 exact⟨fun⟨t,h⟩=>⟨t,h.symm⟩,fun⟨t,h⟩=>⟨t,h.symm⟩⟩
theorem oD (s:ByteArray) (w:World) (hs:s.size<=1048576) (hm:ui w):Calls Tryz.prog 257 #[.string s] w fun e w'=>afH s.data.toList w w' e:=by
 have hsuf:=vD s
 cases hc:Lib.hasSuffix s.data.toList [58]
 ·have hk:kwL s.data.toList=none:=by
    rw[hsuf,decide_eq_false_iff_not] at hc
    unfold kwL;rw[if_neg hc]
  clear hsuf
  have Hk:=Lib.hid hk
  clear hk
  go_enter Tryz.func257,Tryz.ntmps257
  go_wp2_with (go_at_call 304;refine(Tryz.strings_HasSuffix _ _ _ (by omega)).mono ?_;rintro e w' ⟨rfl,hw⟩;obtain rfl:=hw.symm)
  go_ret
  exact⟨Below.refl _ _,by rw[Hk.out];rfl⟩
 ·have hl:s.data.toList.getLast?=some 58:=by rw[hsuf,decide_eq_true_iff] at hc;exact hc
  have hpos:0<s.size:=by
    rw[<- bM]
    cases hx:s.data.toList with
    | nil=>rw[hx] at hl;cases hl
    | cons=>simp
  have Hl:=Lib.hid hl
  clear hsuf hl
  have hsz1:(1:Int)<=s.size:=by omega
  have hst:(s.extract 0 (s.size - 1)).data.toList=s.data.toList.dropLast:=by
    rw[mF,List.dropLast_eq_take,bM]
  have hs1:(s.extract 0 (s.size - 1)).size<=1048576:=by rw[ByteArray.size_extract];omega
  obtain⟨mm,hmm⟩:=hm
  have hspl:(Lib.splitB ⟨#[58]⟩ 0 (Lib.countB (s.extract 0 (s.size - 1)) ⟨#[58]⟩) (s.extract 0 (s.size - 1))).map (·.data.toList)=spl 58 s.data.toList.dropLast:=by
    rw[Lib.splitB_data,hst]
    have h1:Lib.countB (s.extract 0 (s.size - 1)) ⟨#[58]⟩=s.data.toList.dropLast.count 58:=by
      rw[<- hst];exact Lib.count_one 58 _
    rw[h1]
    exact vj 58 _
  have Hst:=Lib.hid hst
  have Hspl:=Lib.hid hspl
  clear hst hspl
  have hlen:Lib.countB (s.extract 0 (s.size - 1)) ⟨#[58]⟩+1=(Lib.splitB ⟨#[58]⟩ 0 (Lib.countB (s.extract 0 (s.size - 1)) ⟨#[58]⟩) (s.extract 0 (s.size - 1))).length:=(Lib.splitB_all ⟨#[58]⟩ (by decide) 0 _ _ rfl).symm
  have hcle:=Lib.countB_le ⟨#[58]⟩ (by decide) (s.extract 0 (s.size - 1)).size _ (Zf _)
  have hpl:(Lib.splitB ⟨#[58]⟩ 0 (Lib.countB (s.extract 0 (s.size - 1)) ⟨#[58]⟩) (s.extract 0 (s.size - 1))).length<=1048576:=by
    rw[<- hlen];rw[ByteArray.size_extract] at hcle;omega
  have hpsz:∀p∈(Lib.splitB ⟨#[58]⟩ 0 (Lib.countB (s.extract 0 (s.size - 1)) ⟨#[58]⟩) (s.extract 0 (s.size - 1))),p.size<=1048576:=by
    intro p hp
    have h1:p.data.toList∈spl 58 s.data.toList.dropLast:=by rw[<- Hspl.out];exact Z3 (f:=(·.data.toList)) hp
    have h2:=lz 58 _ _ h1
    rw[bM,List.length_dropLast,bM] at h2
    omega
  generalize hps:Lib.splitB ⟨#[58]⟩ 0 (Lib.countB (s.extract 0 (s.size - 1)) ⟨#[58]⟩) (s.extract 0 (s.size - 1))=ps at Hspl
  go_enter Tryz.func257,Tryz.ntmps257
  go_wp2_with (go_at_call 304;refine(Tryz.strings_HasSuffix _ _ _ (by omega)).mono ?_;rintro e w' ⟨rfl,hw⟩;obtain rfl:=hw.symm)
  refine(Tryz.strings_Split (s.extract 0 (s.size - 1)) ⟨#[58]⟩ mm _ (by omega) hmm (by decide)).mono ?_
  rintro e w' ⟨rfl,rfl⟩
  rw[hps]
  rw[hps] at hlen hpl hpsz
  rw[hlen]
  have hP:=Lib.hid hpsz
  clear hps hlen hpsz hcle
  have hown:=fX (w:=w) (S:=(w.heap.size<=·)) ps 9 (by simp only[maxLen];omega) (Zf _)
  have hb1:Below w.heap.size w (w.alloc (.cells (ps.map Value.string).toArray 9)):=(Below.refl _ _).alloc (Zf _) _
  generalize w.alloc (.cells (ps.map Value.string).toArray 9)=w1 at hown hb1
  have hsee:=hown.seen
  clear hmm hown
  go_wp2_with fail
  have hkw:kwL s.data.toList=if (ps.all fun p=>cf p.data.toList) && decide (ps.length<=4) then some (spl 58 s.data.toList.dropLast) else none:=by
    unfold kwL
    rw[if_pos Hl.out,<- Hspl.out,Ze,List.all_map];rfl
  have hpl2:(spl 58 s.data.toList.dropLast).length=ps.length:=by rw[<- Hspl.out,Ze]
  have Hkw:=Lib.hid hkw
  have Hpl2:=Lib.hid hpl2
  clear hkw hpl2 hc hpos hsz1 hs1
  go_loopw [17] (fun i wr=>∃k n:Nat,k<=ps.length/\i=.int .i64 k/\wr=w1.drewN n/\(ps.all fun p=>cf p.data.toList)=(ps.drop k).all fun p=>cf p.data.toList) (fun i _=>ps.length - (intOf i).toNat)
  case atStart=>exact⟨0,0,Zd _,rfl,rfl,rfl⟩
  case round =>
    obtain⟨k,n,hk,rfl,rfl,hr⟩:=hrel
    have Hr:=Lib.hid hr
    clear hr
    by_cases hlt:k<ps.length
    ·obtain⟨b,o,hA,_,hcell⟩:=hsee.str_at hlt
     simp only[Zx,Addr.mk.injEq,and_true] at hA
     obtain⟨rfl,rfl⟩:=hA
     rw[ZX] at hcell
     have hsp:=hP.out ps[k] (Zb hlt)
     have hdr:=ZH hlt
     have Hdr:=Lib.hid hdr
     clear hdr
     cases hq:cf ps[k].data.toList
     ·go_wp2_with (go_at_call 299;refine(mz ps[k] _ hsp).mono ?_;rintro e w' ⟨rfl,m,rfl⟩)
      go_ret
      refine⟨bv hb1 _, ?_⟩
      rw[Hkw.out,Hr.out,Hdr.out,YM,hq]
      rfl
     ·go_wp2_with (go_at_call 299;refine(mz ps[k] _ hsp).mono ?_;rintro e w' ⟨rfl,m,rfl⟩)
      go_roundw
      case rel=>exact⟨k+1,_,by omega,by go_num,rfl,by rw[Hr.out,Hdr.out,YM,hq];rfl⟩
      case measure=>simp[intOf];omega
    ·have hall:(ps.all fun p=>cf p.data.toList)=true:=by rw[Hr.out,Yg (by omega)];rfl
     have Hall:=Lib.hid hall
     clear hall
     by_cases h4:(ps.length:Int)<=4
     ·go_wp2
      go_ret
      refine⟨bv hb1 _, ?_⟩
      rw[Hkw.out,Hall.out,decide_eq_true (by omega)]
      exact⟨_,_,_,by rw[Hpl2.out];rfl⟩
     ·go_wp2
      go_ret
      refine⟨bv hb1 _, ?_⟩
      rw[Hkw.out,Hall.out,decide_eq_false (by omega)]
      rfl
theorem mU (s:ByteArray) (w:World) (hs:s.size<=1048576) (hm:ui w) (hk:kwL s.data.toList=none):Calls Tryz.prog 257 #[.string s] w fun e w'=>e=.returned (.slice none 0 0)/\Below w.heap.size w w' :=
 (oD s w hs hm).mono fun e w' ⟨hb,h⟩=>by rw[hk] at h;exact⟨h,hb⟩
theorem ju (s:ByteArray) (w:World) (hs:s.size<=1048576) (hm:ui w) (ps:List (List UInt8)) (hk:kwL s.data.toList=some ps):Calls Tryz.prog 257 #[.string s] w fun e w'=>∃b o c,e=.returned (.slice (some ⟨b,o,none⟩) ps.length c)/\Below w.heap.size w w' :=
 (oD s w hs hm).mono fun e w' ⟨hb,h⟩=>by rw[hk] at h;obtain⟨b,o,c,h⟩:=h;exact⟨b,o,c,h,hb⟩
theorem qa (s:ByteArray) (w:World) (hs:s.size<=1048576) (hm:ui w):Calls Tryz.prog 194 #[.string s] w fun e w'=>e=.returned (.bool (cY s.data.toList))/\Below w.heap.size w w':=by
 cases ho:mB s.data.toList
 ·cases hn:cO s.data.toList
  ·cases hk:kwL s.data.toList with
   | none =>
     have Hk:=Lib.hid hk
     clear hk
     go_enter Tryz.func194,Tryz.ntmps194
     go_wp2_with (first
       | (go_at_call 256;refine(cE s _).mono ?_;rintro e w1 ⟨rfl,hb1⟩)
       | (go_at_call 254;refine(fp s _ hs).mono ?_;rintro e w2 ⟨rfl,n2,rfl⟩)
       | (go_at_call 257;refine(mU s _ hs (ui.below (w:=w1) (hm.below hb1) (bv (Below.refl _ _) _)) Hk.out).mono ?_;rintro e w3 ⟨rfl,hb3⟩))
     go_ret
     exact⟨bI (by rw[cY,ho,hn,Hk.out];rfl),(bv hb1 _).trans (hb3.mono hb1.size)⟩
   | some ps =>
     have Hk:=Lib.hid hk
     clear hk
     go_enter Tryz.func194,Tryz.ntmps194
     go_wp2_with (first
       | (go_at_call 256;refine(cE s _).mono ?_;rintro e w1 ⟨rfl,hb1⟩)
       | (go_at_call 254;refine(fp s _ hs).mono ?_;rintro e w2 ⟨rfl,n2,rfl⟩)
       | (go_at_call 257;refine(ju s _ hs (ui.below (w:=w1) (hm.below hb1) (bv (Below.refl _ _) _)) ps Hk.out).mono ?_;rintro e w3 ⟨b,o,c,rfl,hb3⟩))
     go_ret
     exact⟨bI (by rw[cY,ho,hn,Hk.out];rfl),(bv hb1 _).trans (hb3.mono hb1.size)⟩
  ·go_enter Tryz.func194,Tryz.ntmps194
   go_wp2_with (first
     | (go_at_call 256;refine(cE s _).mono ?_;rintro e w1 ⟨rfl,hb1⟩)
     | (go_at_call 254;refine(fp s _ hs).mono ?_;rintro e w2 ⟨rfl,n2,rfl⟩))
   go_ret
   exact⟨bI (by rw[cY,ho,hn];rfl),bv hb1 _⟩
 ·go_enter Tryz.func194,Tryz.ntmps194
  go_wp2_with (go_at_call 256;refine(cE s _).mono ?_;rintro e w1 ⟨rfl,hb1⟩)
  go_ret
  exact⟨bI (by rw[cY,ho];rfl),hb1⟩
theorem rO (s:ByteArray) (w:World) (hs:s.size<=1048576) (hm:ui w):Calls Tryz.prog 195 #[.string s] w fun e w'=>e=.returned (.int .i64 (co s.data.toList))/\Below w.heap.size w w':=by
 cases ho:mB s.data.toList
 ·cases hn:cO s.data.toList
  ·cases hk:kwL s.data.toList with
   | none =>
     have Hk:=Lib.hid hk
     clear hk
     go_enter Tryz.func195,Tryz.ntmps195
     go_wp2_with (first
       | (go_at_call 256;refine(cE s _).mono ?_;rintro e w1 ⟨rfl,hb1⟩)
       | (go_at_call 254;refine(fp s _ hs).mono ?_;rintro e w2 ⟨rfl,n2,rfl⟩)
       | (go_at_call 257;refine(mU s _ hs (ui.below (w:=w1) (hm.below hb1) (bv (Below.refl _ _) _)) Hk.out).mono ?_;rintro e w3 ⟨rfl,hb3⟩))
     go_ret
     exact⟨iS (by rw[co,ho,hn,Hk.out];rfl),(bv hb1 _).trans (hb3.mono hb1.size)⟩
   | some ps =>
     have Hk:=Lib.hid hk
     clear hk
     go_enter Tryz.func195,Tryz.ntmps195
     go_wp2_with fail
     refine(cE s _).mono ?_
     rintro e w1 ⟨rfl,hb1⟩
     go_wp2_with fail
     refine(fp s _ hs).mono ?_
     rintro e w2 ⟨rfl,n2,rfl⟩
     have hm2:ui (w1.drewN n2):=ui.below (w:=w1) (hm.below hb1) (bv (Below.refl _ _) _)
     go_wp2_with fail
     refine(ju s _ hs hm2 ps Hk.out).mono ?_
     rintro e w3 ⟨b,o,c,rfl,hb3⟩
     have hm3:=hm2.below hb3
     go_wp2_with fail
     refine(ju s _ hs hm3 ps Hk.out).mono ?_
     rintro e w4 ⟨b4,o4,c4,rfl,hb4⟩
     go_wp2_with fail
     go_ret
     exact⟨iS (by rw[co,ho,hn,Hk.out];rfl),((bv hb1 _).trans (hb3.mono hb1.size)).trans (hb4.mono (ZN hb1.size hb3.size))⟩
  ·go_enter Tryz.func195,Tryz.ntmps195
   go_wp2_with (first
     | (go_at_call 256;refine(cE s _).mono ?_;rintro e w1 ⟨rfl,hb1⟩)
     | (go_at_call 254;refine(fp s _ hs).mono ?_;rintro e w2 ⟨rfl,n2,rfl⟩))
   go_ret
   exact⟨iS (by rw[co,ho,hn];rfl),bv hb1 _⟩
 ·go_enter Tryz.func195,Tryz.ntmps195
  go_wp2_with (go_at_call 256;refine(cE s _).mono ?_;rintro e w1 ⟨rfl,hb1⟩)
  go_ret
  exact⟨iS (by rw[co,ho];rfl),hb1⟩
theorem eU (s:ByteArray) (w:World) (hs:s.size<=1048576):Calls Tryz.prog 182 #[.string s] w fun e w'=>e=.returned (.bool (cY s.data.toList))/\Below w.heap.size w w':=by
 have Hsel:=Lib.hid (lZ s.data.toList)
 have Hops:=Lib.hid (tj s)
 have Hwords:=Lib.hid (l6 s)
 go_enter Tryz.func182,Tryz.ntmps182
 cases ho:kD qX s
 ·go_wp2_with fail
  refine(gV _).mono ?_
  rintro e w1 ⟨rfl,rfl⟩
  go_wp2_with fail
  refine(lJ _ 15 qX s _ (fun _=>True) (fX qX _ (by decide) trivial).seen (by decide)).mono ?_
  rintro e w1 ⟨rfl,hq⟩
  have hb1:Below w.heap.size w w1:=by
    obtain⟨n,rfl⟩:=hq
    exact bv ((Below.refl _ _).alloc (Zf _) _) _
  clear hq
  go_wp2_with fail
  refine(kI s 58 w1 hs).mono ?_
  rintro e w2 ⟨ps,g,c,hps,rfl,hb2,how⟩
  have hB:=hb1.trans (hb2.mono hb1.size)
  have hsee:=how.seen
  have hlen:ps.length=(spl 58 s.data.toList).length:=by rw[<- hps,Ze]
  have hpos:=pb 58 s.data.toList
  rw[<- hlen] at hpos
  have Hps:=Lib.hid hps
  have Hlen:=Lib.hid hlen
  clear hps hlen how hb1 hb2
  have hle:ps.length<=1048577:=by
    have:=ma 58 s.data.toList
    rw[bM] at this
    have:=Hlen.out
    omega
  have hcap:ps.length<=c:=by simpa [mq] using hsee.1
  have hP:Hid (∀p∈ps,p.size<=1048576):=fun p hp=>by
    have h1:p.data.toList∈spl 58 s.data.toList:=by rw[<- Hps.out];exact Z3 (f:=(·.data.toList)) hp
    have h2:=lz 58 _ _ h1
    rw[bM,bM] at h2
    omega
  have hspec:ke s.data.toList=if 1<ps.length then (if (ps.getLast?.map (·.data.toList))=some [] then ps.dropLast.all (fun p=>cf p.data.toList) && decide (ps.length - 1<=4) else false) else cf s.data.toList && !iF s.data.toList:=by
    unfold ke
    rw[<- Hops.out,ho,<- Hlen.out,<- Hps.out,List.getLast?_map,<- List.map_dropLast,List.all_map]
    rfl
  have Hspec:=Lib.hid hspec
  clear hspec
  by_cases h1:(1:Int)<ps.length
  ·obtain⟨b,o,hA,_,hcell⟩:=hsee.str_at (k:=ps.length - 1) (by omega)
   simp only[Zx,Addr.mk.injEq,and_true] at hA
   obtain⟨rfl,rfl⟩:=hA
   rw[ZX] at hcell
   cases he:(ps[ps.length - 1]).toList.isEmpty
   ·have hlast:¬ (ps.getLast?.map (·.data.toList))=some []:=by
      rw[List.getLast?_eq_getElem?,Za (by omega),Yp,<- Lib.toList_data]
      intro h
      simp only[Zx] at h
      rw[h] at he
      cases he
    have Hlast:=Lib.hid hlast
    clear hlast
    go_wp2
    go_ret
    exact⟨bI (by rw[<- Hsel.out,Hspec.out,if_pos (by omega),if_neg Hlast.out]),hB⟩
   ·have hlast:(ps.getLast?.map (·.data.toList))=some []:=by
      rw[List.getLast?_eq_getElem?,Za (by omega),Yp,<- Lib.toList_data]
      rw[List.isEmpty_iff.1 he]
    have Hlast:=Lib.hid hlast
    have hfin:ke s.data.toList=(ps.dropLast.all (fun p=>cf p.data.toList) && decide (ps.length - 1<=4)):=by
      rw[Hspec.out,if_pos (by omega),if_pos hlast]
    have Hfin:=Lib.hid hfin
    clear hlast hfin
    have h2:(1:Int)<=ps.length:=by omega
    have h3:(ps.length:Int) - 1<=c:=by omega
    have hn1:((ps.length:Int) == 1)=false:=by simp;omega
    go_wp2_with fail
    go_loopw [5] (fun i wr=>∃k n:Nat,k<=ps.length - 1/\i=.int .i64 k/\wr=w2.drewN n/\(ps.dropLast.all fun p=>cf p.data.toList)=(ps.dropLast.drop k).all fun p=>cf p.data.toList) (fun i _=>ps.length - (intOf i).toNat)
    case atStart=>exact⟨0,0,Zd _,rfl,rfl,rfl⟩
    case round =>
      obtain⟨k,n,hk,rfl,rfl,hr⟩:=hrel
      have Hr:=Lib.hid hr
      clear hr
      by_cases hlt:k<ps.length - 1
      ·obtain⟨b,o,hA,_,hcellk⟩:=hsee.str_at (k:=k) (by omega)
       simp only[Zx,Addr.mk.injEq,and_true] at hA
       obtain⟨rfl,rfl⟩:=hA
       rw[ZX] at hcellk
       have hsp:=hP.out ps[k] (Zb (by omega))
       have hdr:ps.dropLast.drop k=ps[k]::ps.dropLast.drop (k+1):=by
         rw[ZH (by simp;omega),List.getElem_dropLast]
       have Hdr:=Lib.hid hdr
       clear hdr
       cases hq:cf ps[k].data.toList
       ·go_wp2_with (go_at_call 248;refine(fP ps[k] _ hsp).mono ?_;rintro e w' ⟨rfl,m,rfl⟩)
        go_ret
        exact⟨bI (by rw[<- Hsel.out,Hfin.out,Hr.out,Hdr.out,YM,hq];rfl),bv hB _⟩
       ·go_wp2_with (go_at_call 248;refine(fP ps[k] _ hsp).mono ?_;rintro e w' ⟨rfl,m,rfl⟩)
        go_roundw
        case rel=>exact⟨k+1,_,by omega,by go_num,rfl,by rw[Hr.out,Hdr.out,YM,hq];rfl⟩
        case measure=>simp[intOf];omega
      ·have hall:(ps.dropLast.all fun p=>cf p.data.toList)=true:=by rw[Hr.out,Yg (by simp;omega)];rfl
       have Hall:=Lib.hid hall
       clear hall
       go_wp2
       go_ret
       exact⟨bI (by rw[<- Hsel.out,Hfin.out,Hall.out,Zn,decide_eq_decide];omega),bv hB _⟩
  ·have hone:ps.length=1:=by omega
   obtain⟨p,rfl⟩:=List.length_eq_one_iff.1 hone
   have hp:p=s:=by
     have h2:=Hps.out
     have h3:=xt 58 s.data.toList (by rw[<- Hlen.out];rfl)
     rw[h3] at h2
     simp only[ZT,Yk,List.cons.injEq,and_true] at h2
     exact nL h2
   subst hp
   have hfin:ke p.data.toList=(cf p.data.toList && !iF p.data.toList):=by rw[Hspec.out,if_neg (by simp)]
   have Hfin:=Lib.hid hfin
   obtain⟨b,o,hA,_,hcell⟩:=hsee.str_at (k:=0) (by simp)
   simp only[Zx,Addr.mk.injEq,and_true,List.getElem_cons_zero] at hA hcell
   obtain⟨rfl,rfl⟩:=hA
   rw[ZX] at hcell
   clear hfin hone h1 hpos hle
   go_wp2_with fail
   go_loopw [5] (fun i wr=>∃k:Nat,k<=1/\i=.int .i64 k/\Below w.heap.size w wr/\wr.cell? ⟨g,0,none⟩=some (.string p)/\(k=0\/cO p.data.toList=true)) (fun i _=>1 - (intOf i).toNat)
   case atStart=>exact⟨0,by omega,rfl,hB,hcell,.inl rfl⟩
   case round =>
     obtain⟨k,hk,rfl,hbr,hc,hr⟩:=hrel
     by_cases hlt:k<1
     ·obtain rfl:k=0:=by omega
      have hgr:g<wr.heap.size:=World.block_lt_of_cell? wr _ hc
      clear hr
      cases hq:cf p.data.toList
      ·go_wp2_with (go_at_call 248;refine(fP p _ hs).mono ?_;rintro e w' ⟨rfl,m,rfl⟩)
       go_ret
       exact⟨bI (by rw[<- Hsel.out,Hfin.out,hq];rfl),bv hbr _⟩
      ·go_wp2_with fail
       refine(fP p _ hs).mono ?_
       rintro e w3 ⟨rfl,hq3⟩
       have hb3:=ww hq3
       have hbr3:=hbr.trans (hb3.mono hbr.size)
       have hc3:=(hb3.cell (p:=⟨g,0,none⟩) hgr).trans hc
       clear hq3 hb3 hc
       go_wp2_with fail
       refine(xr _).mono ?_
       rintro e w4 ⟨rfl,rfl⟩
       go_wp2_with fail
       refine(lJ _ 7 fM p _ (fun _=>True) (fX fM _ (by decide) trivial).seen (by decide)).mono ?_
       rintro e w5 ⟨rfl,n5,rfl⟩
       have hb5:Below w.heap.size w ((w3.alloc (.cells (fM.map Value.string).toArray 9)).drewN n5):=bv (hbr3.alloc hbr3.size _) _
       have hc5:((w3.alloc (.cells (fM.map Value.string).toArray 9)).drewN n5).cell? ⟨g,0,none⟩=some (.string p):=by
         show (w3.alloc _).cell? _=_
         rw[World.cell?_alloc_lt w3 _ _ (World.block_lt_of_cell? w3 _ hc3)];exact hc3
       generalize (w3.alloc (.cells (fM.map Value.string).toArray 9)).drewN n5=w6 at hb5 hc5
       cases hw:kD fM p
       ·go_wp2_with fail
        go_roundw
        case rel=>exact⟨1,by omega,rfl,hb5,hc5,.inr (by rw[cO,hq,<- Hwords.out,hw];rfl)⟩
        case measure=>simp[intOf]
       ·go_wp2_with fail
        go_ret
        exact⟨bI (by rw[<- Hsel.out,Hfin.out,hq,<- Hwords.out,hw];rfl),hb5⟩
     ·obtain rfl:k=1:=by omega
      have hn:cO p.data.toList=true:=by
        rcases hr with h|h
        ·cases h
        ·exact h
      have Hn:=Lib.hid hn
      clear hr hn
      go_wp2_with fail
      go_ret
      exact⟨bI (by rw[<- Hsel.out,Hfin.out];exact Hn.out.symm),hbr⟩
 ·go_wp2_with fail
  refine(gV _).mono ?_
  rintro e w1 ⟨rfl,rfl⟩
  go_wp2_with fail
  refine(lJ _ 15 qX s _ (fun _=>True) (fX qX _ (by decide) trivial).seen (by decide)).mono ?_
  rintro e w1 ⟨rfl,hq⟩
  have hb1:Below w.heap.size w w1:=by
    obtain⟨n,rfl⟩:=hq
    exact bv ((Below.refl _ _).alloc (Zf _) _) _
  go_wp2
  go_ret
  exact⟨bI (by rw[cY,<- Hops.out,ho];rfl),hb1⟩
theorem lR (s:ByteArray) (w:World) (hs:s.size<=1048576):Calls Tryz.prog 242 #[.string s] w fun e w'=>e=.returned (.int .i64 (co s.data.toList))/\Below w.heap.size w w':=by
 have Hargs:=Lib.hid (xL s.data.toList)
 have Hsel:=Lib.hid (lZ s.data.toList)
 have Hops:=Lib.hid (tj s)
 cases hq:cY s.data.toList
 ·go_enter Tryz.func242,Tryz.ntmps242
  go_wp2_with fail
  refine(eU s w hs).mono ?_
  rintro e w1 ⟨rfl,hb1⟩
  go_wp2_with fail
  go_ret
  exact⟨iS (by rw[<- Hargs.out,kJ,Hsel.out,hq];rfl),hb1⟩
 ·cases ho:kD qX s
  all_goals
    go_enter Tryz.func242,Tryz.ntmps242
    go_wp2_with fail
    refine(eU s w hs).mono ?_
    rintro e w1 ⟨rfl,hb1⟩
    go_wp2_with fail
    refine(gV _).mono ?_
    rintro e w2 ⟨rfl,rfl⟩
    go_wp2_with fail
    refine(lJ _ 15 qX s _ (fun _=>True) (fX qX _ (by decide) trivial).seen (by decide)).mono ?_
    rintro e w3 ⟨rfl,hq3⟩
    have hb3:Below w.heap.size w w3:=by
      obtain⟨n,rfl⟩:=hq3
      exact bv (hb1.alloc hb1.size _) _
    go_wp2_with fail
  ·refine(kI s 58 w3 hs).mono ?_
   rintro e w4 ⟨ps,g,c,hps,rfl,hb4,how⟩
   have hlen:ps.length=(spl 58 s.data.toList).length:=by rw[<- hps,Ze]
   have hl2:=ma 58 s.data.toList
   rw[bM,<- hlen] at hl2
   have Hlen:=Lib.hid hlen
   have hps':=Lib.hid hps
   clear hlen hps
   go_wp2_with fail
   go_ret
   exact⟨iS (by rw[<- Hargs.out,kJ,Hsel.out,hq,<- Hops.out,ho,<- Hlen.out];rfl),hb3.trans (hb4.mono hb3.size)⟩
  ·go_ret
   exact⟨iS (by rw[<- Hargs.out,kJ,Hsel.out,hq,<- Hops.out,ho];rfl),hb3⟩
end Go.Proofs.YtofnnnpahglfdaaGreatDoor
