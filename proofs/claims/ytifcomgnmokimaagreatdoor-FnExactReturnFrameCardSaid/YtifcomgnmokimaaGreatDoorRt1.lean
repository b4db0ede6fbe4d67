/- Part 1 of the proof: the texts Base, Str, Ty, Mem, EngA, Tab, EngB, EngC, EngD, EngE, EngF, EngG, EngH, EngO, EngR, EngS, Ints. -/
import Derived.WalkKit
import Derived.WalkSpells
import Derived.WalkLawsBesides
import Derived.Deep.LoopGhost
import Derived.Deep.OwnRows
import Derived.Lib.Hide
import Derived.Handy
import Derived.Maps.AppendAt
import Derived.Deep.AppendLies
import Derived.RegionTactic
import Derived.OwnWalk
import Derived.Test.YtifcomgnmokimaaGreatDoorChecked
import Derived.Deep.QuietTactic
import Derived.BigQuiet
import Derived.Lib.Strings
import Derived.WideShapes
import Derived.ProofKit
import Derived.Deep.Slices
import Derived.Orders
import Derived.IntWalk
import Derived.Great.BuildSlice
set_option linter.all false
set_option maxHeartbeats 400000
namespace Go.Proofs.YtifcomgnmokimaaGreatDoor
open Go Go.RowKit
def Za:=@List.getElem?_eq_getElem
def Zb:=@List.getElem_mem
def Zc:=@List.take_of_length_le
def Zd:=@List.mem_cons_of_mem
def Ze:=@Nat.zero_le
def Zf:=@List.length_map
def Zg:=@Nat.le_refl
def Zh:=@List.length_append
def Zi:=@List.mem_cons_self
def Zj:=@List.getElem?_map
def Zk:=@List.append_assoc
def Zl:=@Bool.false_and
def Zm:=@List.mem_of_getElem?
def Zn:=@Bool.true_and
def Zo:=@Option.some.injEq
def Zp:=@Prod.mk.injEq
def Zq:=@Bool.and_eq_true
def Zr:=@List.getElem?_append_right
def Zs:=@List.getElem?_append_left
def Zt:=@List.append_nil
def Zu:=@List.length_take
def Zv:=@List.take_length
def Zw:=@List.mem_append_left
def Zx:=@List.nil_append
def Zy:=@List.length_cons
def Zz:=@Result.andThen_ok
def ZA:=@List.length_set
def ZB:=@Int.toNat_natCast
def ZC:=@List.flatMap_cons
def ZD:=@List.getElem_of_mem
def ZE:=@Sem.run_bind
def ZF:=@List.cons_append
def ZG:=@List.mem_append_right
def ZH:=@Array.getD_eq_getD_getElem?
def ZI:=@List.drop_eq_getElem_cons
def ZJ:=@Nat.lt_of_lt_of_le
def ZK:=@List.flatMap_nil
def ZL:=@Classical.choose_spec
def ZM:=@List.mem_singleton
def ZN:=@List.getElem?_set_self
def ZO:=@List.mem_append
def ZP:=@List.not_mem_nil
def ZQ:=@List.getElem?_take
def ZS:=@List.mem_of_mem_take
def ZT:=@List.getD_eq_getElem?_getD
def ZU:=@List.map_cons
def ZV:=@List.eq_nil_of_length_eq_zero
def ZW:=@List.Perm.append_left
def ZX:=@List.mem_cons
def ZY:=@Nat.zero_add
def Z0:=@Nat.le_trans
def Z1:=@List.sublist_append_right
def Z2:=@List.mem_map_of_mem
def Z3:=@List.mem_of_mem_drop
def Z4:=@List.perm_middle
def Z5:=@Array.length_toList
def Z6:=@Array.getElem?_eq_getElem
def Z7:=@List.mem_or_eq_of_mem_set
def Z8:=@List.replicate_succ
def Z9:=@Bool.not_eq_true'
def Ya:=@Nat.le_of_ble_eq_true
def Yb:=@Option.map_some
def Yc:=@List.drop_eq_nil_of_le
def Ye:=@List.take_add_one
def Yf:=@List.getElem?_drop
def Yg:=@List.perm_append_comm_assoc
def Yh:=@Nat.add_mul
def Yi:=@Nat.eq_of_beq_eq_true
def Yj:=@List.map_nil
def Yk:=@List.flatten_cons
def Yl:=@List.drop_of_length_le
def Ym:=@Option.bind_some
def Yn:=@Option.getD_some
def Yo:=@Nat.blt_eq
def Yp:=@Array.getElem?_append_left
def Yq:=@Bool.not_false
def Yr:=@List.forall_mem_cons
def Ys:=@List.map_toArray
def Yt:=@Nat.sub_self
def Yv:=@List.zipWith_append
def Yw:=@List.set_append_right
def Yx:=@List.eq_of_mem_replicate
def Yy:=@Nat.add_zero
def Yz:=@List.map_set
def YA:=@Bool.not_true
def YB:=@Nat.lt_or_ge
def YC:=@List.set_set
def YD:=@Bool.and_false
def YE:=@List.length_nil
def YF:=@Bool.eq_iff_iff
def YG:=@List.map_append
def YH:=@List.getElem?_eq_none
def YI:=@Bool.not_eq_true
def YJ:=@Bool.false_eq_true
def YK:=@Nat.lt_irrefl
def YL:=@List.all_cons
def YM:=@List.getLast?_cons_cons
def YN:=@List.flatten_append
def YO:=@List.zipWith_cons_cons
def YP:=@List.length_drop
def YQ:=@Nat.eq_of_mul_eq_mul_right
def YR:=@List.exists_cons_of_ne_nil
def YS:=@List.getElem?_toArray
def YT:=@Option.map_none
def YU:=@List.size_toArray
def YV:=@Nat.mul_le_mul_right
def YW:=@List.getElem?_set
def YX:=@List.Sublist.refl
def YY:=@List.length_reverse
def YZ:=@List.replicate_zero
def Y0:=@List.drop_zero
def Y1:=@Nat.lt_succ_self
def Y2:=@List.drop_append_of_le_length
def Y3:=@Bool.not_eq_false'
def Y4:=@List.find?_cons
def Y5:=@List.take_append_drop
def Y6:=@List.getElem?_zipWith
def Y7:=@List.length_replicate
def Y8:=@Nat.one_mul
def Y9:=@Nat.mul_le_mul_left
def Xa:=@List.map_take
def Xb:=@Bool.or_eq_true
def Xc:=@Nat.not_lt_zero
def Xd:=@List.set_cons_zero
def Xe:=@List.getElem?_cons_zero
def Xf:=@Nat.succ_mul
def Xg:=@List.nodup_append
def Xh:=@List.sublist_cons_self
def Xi:=@Nat.ne_of_gt
def Xj:=@Array.getElem?_eq_none
def Xk:=@List.singleton_append
def Xl:=@List.length_singleton
def Xm:=@Array.getElem?_toList
def Xn:=@List.perm_append_comm
def Xo:=@Nat.lt_of_not_le
def Xp:=@List.any_eq_true
def Xq:=@Nat.add_assoc
def Xr:=@Nat.div_lt_of_lt_mul
def Xs:=@List.dropLast_concat
def Xt:=@Array.toList_append
def Xu:=@List.getElem?_range
def Xv:=@Nat.mul_comm
def Xw:=@Nat.mul_le_mul
def Xx:=@Option.isSome_some
inductive D where
 | int (k:IntKind) (n:Int)
 | bool (b:Bool)
 | str (s:ByteArray)
 | agg (l:List D)
 | sl (l:List D)
inductive PT where
 | int (k:IntKind) (n:Int)
 | bool (b:Bool)
 | str (s:ByteArray)
 | agg (l:List PT)
 | sl (A:Option Addr) (c m:Nat) (l:List PT)
namespace PT
mutual
def cells:PT->List Value
 | .int k n=>[.int k n]
 | .bool b=>[.bool b]
 | .str s=>[.string s]
 | .agg l=>cellsL l
 | .sl A c _ l=>[.slice A l.length c]
def cellsL:List PT->List Value
 | []=>[]
 | t::r=>cells t++cellsL r
end
mutual
def data:PT->D
 | .int k n=>.int k n
 | .bool b=>.bool b
 | .str s=>.str s
 | .agg l=>.agg (afR l)
 | .sl _ _ _ l=>.sl (afR l)
def afR:List PT->List D
 | []=>[]
 | t::r=>data t::afR r
end
def value:PT->Value
 | .int k n=>.int k n
 | .bool b=>.bool b
 | .str s=>.string s
 | .agg l=>.agg (cellsL l).toArray
 | .sl A c _ l=>.slice A l.length c
def rowOf:Option Addr->List Nat
 | some a=>[a.block]
 | none=>[]
mutual
def blocks:PT->List Nat
 | .agg l=>blocksL l
 | .sl A _ _ l=>rowOf A++blocksL l
 | _=>[]
def blocksL:List PT->List Nat
 | []=>[]
 | t::r=>blocks t++blocksL r
end
end PT
def kP (w:World) (S:Nat->Prop) (A:Option Addr) (xs:List Value):Prop :=
 ∀j u,xs[j]?=some u->∃b o,A=some ⟨b,o,none⟩/\S b/\w.cell? ⟨b,o+j,none⟩=some u
mutual
def eF (w:World) (S:Nat->Prop):PT->Prop
 | .agg l=>cZ w S l
 | .sl A c m l=>l.length<=c/\c<=maxLen/\kP w S A (PT.cellsL l)/\(∀t∈l,t.cells.length=m)/\cZ w S l
 | _=>True
def cZ (w:World) (S:Nat->Prop):List PT->Prop
 | []=>True
 | t::r=>eF w S t/\cZ w S r
end
mutual
def Own (w:World):PT->Prop
 | .agg l=>j7 w l
 | .sl A c m l=>(∀t∈l,t.cells.length=m)/\(∃e,w.ownsRow 0 e m (.slice A l.length c) l.length (PT.cellsL l))/\j7 w l
 | _=>True
def j7 (w:World):List PT->Prop
 | []=>True
 | t::r=>Own w t/\j7 w r
end
def dg (w:World) (S:Nat->Prop) (t:PT):Prop:=Own w t/\t.blocks.Nodup/\∀b∈t.blocks,S b
theorem PT.blocksL_append (l m:List PT):PT.blocksL (l++m)=PT.blocksL l++PT.blocksL m:=by
 induction l with
 | nil=>rfl
 | cons t r ih=>simp[PT.blocksL,ih]
theorem PT.cellsL_append (l m:List PT):PT.cellsL (l++m)=PT.cellsL l++PT.cellsL m:=by
 induction l with
 | nil=>rfl
 | cons t r ih=>simp[PT.cellsL,ih]
theorem PT.ind {p:PT->Prop} {q:List PT->Prop} (hi:∀k n,p (.int k n)) (hb:∀b,p (.bool b)) (hs:∀s,p (.str s)) (ha:∀l,q l->p (.agg l)) (hl:∀A c m l,q l->p (.sl A c m l))
   (hn:q []) (hc:∀t r,p t->q r->q (t::r)):(∀t,p t)/\(∀l,q l) :=
 ⟨fun t=>PT.rec (motive_1:=p) (motive_2:=q) hi hb hs ha hl hn hc t,fun l=>PT.rec_1 (motive_1:=p) (motive_2:=q) hi hb hs ha hl hn hc l⟩
section
variable {w w':World} {S S':Nat->Prop}
theorem kP.nil (w:World) (S:Nat->Prop) (A:Option Addr):kP w S A []:=fun j u h=>by simp at h
theorem kP.keep {A:Option Addr} {xs:List Value} (h:kP w S A xs) (hk:∀b,S b->w'.heap[b]?=w.heap[b]?) (hm:∀b,S b->b<w.heap.size->S' b):kP w' S' A xs:=by
 intro j u hj
 obtain⟨b,o,hA,hS,hc⟩:=h j u hj
 exact⟨b,o,hA,hm b hS (World.block_lt_of_cell? w _ hc),(World.cell?_of_block (w:=w) (w':=w') (a:=⟨b,o+j,none⟩) (hk b hS)).trans hc⟩
theorem ue (hk:∀b,S b->w'.heap[b]?=w.heap[b]?) (hm:∀b,S b->b<w.heap.size->S' b):(∀t,eF w S t->eF w' S' t)/\(∀l,cZ w S l->cZ w' S' l) :=
 PT.ind (fun _ _ _=>trivial) (fun _ _=>trivial) (fun _ _=>trivial) (fun _ h k=>h k)
   (fun _ _ _ _ h k=>⟨k.1,k.2.1,k.2.2.1.keep hk hm,k.2.2.2.1,h k.2.2.2.2⟩) (fun _=>trivial) (fun _ _ h k m=>⟨h m.1,k m.2⟩)
theorem eF.keep {t:PT} (h:eF w S t) (hk:∀b,S b->w'.heap[b]?=w.heap[b]?) (hm:∀b,S b->b<w.heap.size->S' b):eF w' S' t:=(ue hk hm).1 t h
theorem cZ.keep {t:List PT} (h:cZ w S t) (hk:∀b,S b->w'.heap[b]?=w.heap[b]?) (hm:∀b,S b->b<w.heap.size->S' b):cZ w' S' t:=(ue hk hm).2 t h
theorem eF.below {B:Nat} {t:PT} (h:eF w (·<B) t) (hb:Below B w w'):eF w' (·<B) t:=h.keep (fun b hB=>hb.block b hB) (fun _ h _=>h)
theorem cZ.below {B:Nat} {t:List PT} (h:cZ w (·<B) t) (hb:Below B w w'):cZ w' (·<B) t:=h.keep (fun b hB=>hb.block b hB) (fun _ h _=>h)
theorem kP.below {B:Nat} {A:Option Addr} {xs:List Value} (h:kP w (·<B) A xs) (hb:Below B w w'):kP w' (·<B) A xs:=h.keep (fun b hB=>hb.block b hB) (fun _ h _=>h)
theorem eF.mono {t:PT} (h:eF w S t) (hm:∀b,S b->b<w.heap.size->S' b):eF w S' t:=h.keep (fun _ _=>rfl) hm
theorem cZ.mono {t:List PT} (h:cZ w S t) (hm:∀b,S b->b<w.heap.size->S' b):cZ w S' t:=h.keep (fun _ _=>rfl) hm
theorem kP.mono {A:Option Addr} {xs:List Value} (h:kP w S A xs) (hm:∀b,S b->b<w.heap.size->S' b):kP w S' A xs:=h.keep (fun _ _=>rfl) hm
theorem eF.here {t:PT} (h:eF w S t):eF w (·<w.heap.size) t:=h.mono fun _ _ h=>h
theorem cZ.here {t:List PT} (h:cZ w S t):cZ w (·<w.heap.size) t:=h.mono fun _ _ h=>h
theorem kP.here {A:Option Addr} {xs:List Value} (h:kP w S A xs):kP w (·<w.heap.size) A xs:=h.mono fun _ _ h=>h
theorem cZ.get {l:List PT} (h:cZ w S l) {i:Nat} {t:PT} (hi:l[i]?=some t):eF w S t:=by
 induction l generalizing i with
 | nil=>simp at hi
 | cons x r ih =>
   cases i with
   | zero=>simp at hi;subst hi;exact h.1
   | succ i=>exact ih h.2 (by simpa using hi)
theorem cZ.of_get {l:List PT} (h:∀t∈l,eF w S t):cZ w S l:=by
 induction l with
 | nil=>trivial
 | cons x r ih=>exact⟨h x (by simp),ih fun t ht=>h t (by simp[ht])⟩
theorem j7.get {l:List PT} (h:j7 w l) {t:PT} (hi:t∈l):Own w t:=by
 induction l with
 | nil=>simp at hi
 | cons x r ih =>
   rcases List.mem_cons.1 hi with rfl|hi
   ·exact h.1
   ·exact ih h.2 hi
theorem j7.of_get {l:List PT} (h:∀t∈l,Own w t):j7 w l:=by
 induction l with
 | nil=>trivial
 | cons x r ih=>exact⟨h x (by simp),ih fun t ht=>h t (by simp[ht])⟩
theorem PT.mem_blocksL {l:List PT} {b:Nat}:b∈PT.blocksL l↔∃t∈l,b∈t.blocks:=by
 induction l with
 | nil=>simp[PT.blocksL]
 | cons x r ih=>simp[PT.blocksL,ih]
theorem sA {A:Option Addr} {c m:Nat} {l:List PT} (h:Own w (.sl A c m l)) :
   (A=none/\c=0/\l=[])\/∃g cur e,A=some ⟨g,0,none⟩/\w.heap[g]?=some (.cells cur e (0,0))/\l.length<=c/\c<=maxLen/\cur.size=c * m/\cur.toList.take (l.length * m)=PT.cellsL l:=by
 obtain⟨_,⟨e,_,h1|⟨g,cap,cur,hv,_,hg,hn,hc,hs,ht⟩⟩,_⟩:=h
 ·obtain⟨h1,h2⟩:=h1
  simp only[Value.slice.injEq] at h1
  exact .inl ⟨h1.1,h1.2.2,ZV h2⟩
 ·simp only[Value.slice.injEq,true_and] at hv
  obtain⟨rfl,rfl⟩:=hv
  exact .inr ⟨g,cur,e,rfl,hg,hn,hc,hs,ht⟩
theorem fX {g c m:Nat} {cur:Array Value} {e:TypeId} {l:List PT} (hm:∀t∈l,t.cells.length=m) (hL:(PT.cellsL l).length=l.length * m) (hg:w.heap[g]?=some (.cells cur e (0,0))) (hn:l.length<=c) (hc:c<=maxLen) (hs:cur.size=c * m)
   (ht:cur.toList.take (l.length * m)=PT.cellsL l) (ho:j7 w l):Own w (.sl (some ⟨g,0,none⟩) c m l) :=
 ⟨hm,⟨e,hL,.inr ⟨g,c,cur,rfl,Ze _,hg,hn,hc,hs,ht⟩⟩,ho⟩
theorem acW:(∀t,Own w t->(∀b∈t.blocks,S b)->eF w S t)/\(∀l,j7 w l->(∀b∈PT.blocksL l,S b)->cZ w S l) :=
 PT.ind (fun _ _ _ _=>trivial) (fun _ _ _=>trivial) (fun _ _ _=>trivial) (fun _ h k m=>h k m)
   (fun A c m l h k hS=>by
     rcases sA k with ⟨rfl,rfl,rfl⟩|⟨g,cur,e,rfl,hg,hl,hc,_,ht⟩
     ·exact⟨by simp,by simp,kP.nil _ _ _,by simp,trivial⟩
     ·refine⟨hl,hc,fun j u hj=>⟨g,0,rfl,hS g (by simp[PT.blocks,PT.rowOf]), ?_⟩,k.1,h k.2.2 fun b hb=>hS b (by simp[PT.blocks,hb])⟩
      rw[ZY,cell_of_row w g j cur e (0,0) hg]
      rw[<- ht,ZQ] at hj
      split at hj
      ·simpa using hj
      ·cases hj)
   (fun _ _=>trivial) (fun t r h k m n=>⟨h m.1 fun b hb=>n b (by simp[PT.blocksL,hb]),k m.2 fun b hb=>n b (by simp[PT.blocksL,hb])⟩)
theorem dg.seen {t:PT} (h:dg w S t):eF w S t:=acW.1 t h.1 h.2.2
theorem jf:(∀t,Own w t->(∀b∈t.blocks,w'.heap[b]?=w.heap[b]?)->Own w' t)/\(∀l,j7 w l->(∀b∈PT.blocksL l,w'.heap[b]?=w.heap[b]?)->j7 w' l) :=
 PT.ind (fun _ _ _ _=>trivial) (fun _ _ _=>trivial) (fun _ _ _=>trivial) (fun _ h k m=>h k m)
   (fun A c m l h k hb=>by
     refine⟨k.1, ?_,h k.2.2 fun b hb'=>hb b (by simp[PT.blocks,hb'])⟩
     obtain⟨_,⟨e,h0,h1⟩,_⟩:=k
     rcases h1 with h1|⟨g,cap,cur,hv,h2,hg,h3⟩
     ·exact⟨e,h0,.inl h1⟩
     ·refine⟨e,h0,.inr ⟨g,cap,cur,hv,h2, ?_,h3⟩⟩
      simp only[Value.slice.injEq] at hv
      obtain⟨rfl,_⟩:=hv
      exact(hb g (by simp[PT.blocks,PT.rowOf])).trans hg)
   (fun _ _=>trivial) (fun t r h k m n=>⟨h m.1 fun b hb=>n b (by simp[PT.blocksL,hb]),k m.2 fun b hb=>n b (by simp[PT.blocksL,hb])⟩)
theorem vE:(∀t,Own w t->∀b∈t.blocks,b<w.heap.size)/\(∀l,j7 w l->∀b∈PT.blocksL l,b<w.heap.size) :=
 PT.ind (fun _ _ _ b hb=>by simp[PT.blocks] at hb) (fun _ _ b hb=>by simp[PT.blocks] at hb) (fun _ _ b hb=>by simp[PT.blocks] at hb) (fun _ h k b hb=>h k b hb)
   (fun A c m l h k b hb=>by
     have h2:=k.2.2
     rcases sA k with ⟨rfl,rfl,rfl⟩|⟨g,cur,e,rfl,hg,_⟩
     ·simp[PT.blocks,PT.blocksL,PT.rowOf] at hb
     ·simp only[PT.blocks,PT.rowOf,ZO,ZM] at hb
      rcases hb with rfl|hb
      ·exact(Array.getElem?_eq_some_iff.1 hg).1
      ·exact h h2 b hb)
   (fun _ b hb=>by simp[PT.blocksL] at hb) (fun t r h k m b hb=>by
     simp only[PT.blocksL,ZO] at hb
     rcases hb with hb|hb
     ·exact h m.1 b hb
     ·exact k m.2 b hb)
theorem dg.keep {t:PT} (h:dg w S t) (hk:∀b,S b->b<w.heap.size->w'.heap[b]?=w.heap[b]?):dg w' S t :=
 ⟨jf.1 t h.1 fun b hb=>hk b (h.2.2 b hb) (vE.1 t h.1 b hb),h.2.1,h.2.2⟩
theorem dg.mono {t:PT} (h:dg w S t) (hm:∀b,S b->b<w.heap.size->S' b):dg w S' t :=
 ⟨h.1,h.2.1,fun b hb=>hm b (h.2.2 b hb) (vE.1 t h.1 b hb)⟩
theorem dg.below {t:PT} (h:dg w S t) (hb:Below w.heap.size w w'):dg w' S t:=h.keep fun b _ hlt=>hb.block b hlt
end
structure eu (T:Nat->Prop) (w w':World):Prop where
 os:w'.os=w.os
 tape:w'.tape=w.tape
 output:w'.output=w.output
 size:w.heap.size<=w'.heap.size
 block:∀b,b<w.heap.size->¬ T b->w'.heap[b]?=w.heap[b]?
theorem eu.refl (T:Nat->Prop) (w:World):eu T w w:=⟨rfl,rfl,rfl,Zg _,fun _ _ _=>rfl⟩
theorem eu.trans {T:Nat->Prop} {a b c:World} (h:eu T a b) (k:eu T b c):eu T a c :=
 ⟨k.os.trans h.os,k.tape.trans h.tape,k.output.trans h.output,Z0 h.size k.size,fun i hi hn=>(k.block i (ZJ hi h.size) hn).trans (h.block i hi hn)⟩
theorem eu.mono {T T':Nat->Prop} {w w':World} (h:eu T w w') (hm:∀b,b<w.heap.size->T b->T' b):eu T' w w' :=
 ⟨h.os,h.tape,h.output,h.size,fun b hb hn=>h.block b hb fun ht=>hn (hm b hb ht)⟩
theorem eu.setCell {T:Nat->Prop} {w w':World} (h:eu T w w') {p:Addr} (hp:T p.block) (u:Value):eu T w (w'.setCell p u) :=
 h.trans ⟨rfl,rfl,rfl,by simp[World.setCell],fun b _ hn=>Below.heap_setCell _ _ _ _ (fun e=>hn (e ▸ hp))⟩
theorem eu.drewN {T:Nat->Prop} {w w':World} (h:eu T w w') (n:Nat):eu T w (w'.drewN n):=⟨h.os,h.tape,h.output,h.size,h.block⟩
theorem eu.below {T:Nat->Prop} {B:Nat} {w w':World} (h:eu T w w') (hB:B<=w.heap.size) (hT:∀b,T b->B<=b):Below B w w' :=
 ⟨h.os,h.tape,h.output,h.size,fun b hb=>h.block b (by omega) fun ht=>by have:=hT b ht;omega⟩
theorem eu.of_below {w w':World} (h:Below w.heap.size w w') (T:Nat->Prop):eu T w w':=⟨h.os,h.tape,h.output,h.size,fun b hb _=>h.block b hb⟩
theorem bB {B:Nat} {a w:World} (h:Below B a w) (n:Nat):Below B a (w.drewN n):=⟨h.os,h.tape,h.output,h.size,h.block⟩
theorem eF.touch {w w':World} {S T:Nat->Prop} {t:PT} (h:eF w S t) (ht:eu T w w') (hd:∀b,S b->b<w.heap.size->¬ T b):eF w' S t :=
 (h.mono (S':=fun b=>S b/\b<w.heap.size) fun _ h1 h2=>⟨h1,h2⟩).keep (fun b hb=>ht.block b hb.2 (hd b hb.1 hb.2)) fun _ hb _=>hb.1
theorem dg.touch {w w':World} {S T:Nat->Prop} {t:PT} (h:dg w S t) (ht:eu T w w') (hd:∀b,S b->b<w.heap.size->¬ T b):dg w' S t :=
 h.keep fun b hS hb=>ht.block b hb (hd b hS hb)
theorem kP.touch {w w':World} {S T:Nat->Prop} {A:Option Addr} {xs:List Value} (h:kP w S A xs) (ht:eu T w w') (hd:∀b,S b->b<w.heap.size->¬ T b):kP w' S A xs :=
 (h.mono (S':=fun b=>S b/\b<w.heap.size) fun _ h1 h2=>⟨h1,h2⟩).keep (fun b hb=>ht.block b hb.2 (hd b hb.1 hb.2)) fun _ hb _=>hb.1
def Ext (w w':World):Prop:=∀b,b<w.heap.size->w'.heap[b]?=w.heap[b]?
theorem Ext.refl (w:World):Ext w w:=fun _ _=>rfl
theorem Ext.alloc {w w':World} (h:Ext w w') (o:Obj) (hs:w.heap.size<=w'.heap.size):Ext w (w'.alloc o):=fun b hb=>(Below.heap_alloc w' o b (by omega)).trans (h b hb)
theorem Ext.alloc1 (w:World) (o:Obj):Ext w (w.alloc o):=fun b hb=>Below.heap_alloc w o b hb
theorem Ext.of_below {w w':World} (h:Below w.heap.size w w'):Ext w w':=fun b hb=>h.block b hb
theorem kP.ext {w w':World} {S:Nat->Prop} {A:Option Addr} {xs:List Value} (h:kP w S A xs) (he:Ext w w'):kP w' S A xs :=
 (h.mono (S':=fun b=>S b/\b<w.heap.size) fun _ h1 h2=>⟨h1,h2⟩).keep (fun b hb=>he b hb.2) fun _ hb _=>hb.1
theorem eF.ext {w w':World} {S:Nat->Prop} {t:PT} (h:eF w S t) (he:Ext w w'):eF w' S t :=
 (h.mono (S':=fun b=>S b/\b<w.heap.size) fun _ h1 h2=>⟨h1,h2⟩).keep (fun b hb=>he b hb.2) fun _ hb _=>hb.1
theorem dg.ext {w w':World} {S:Nat->Prop} {t:PT} (h:dg w S t) (he:Ext w w'):dg w' S t:=h.keep fun b _ hb=>he b hb
theorem wQ {w w':World} (h:∃n,w'=w.drewN n):Below w.heap.size w w':=by
 obtain⟨n,rfl⟩:=h
 exact bB (Below.refl _ _) n
def Rng (lo hi:Nat) (b:Nat):Prop:=lo<=b/\b<hi
def Blk (w:World) (g:Nat) (t:TypeId) (cs:Array Value):Prop:=w.heap[g]?=some (.cells cs t (0,0))
section
variable {w w':World} {g:Nat} {t:TypeId} {cs:Array Value}
theorem Blk.lt (h:Blk w g t cs):g<w.heap.size:=(Array.getElem?_eq_some_iff.1 h).1
theorem Blk.cell (h:Blk w g t cs) (i:Nat):w.cell? ⟨g,i,none⟩=cs[i]?:=cell_of_row w g i cs t (0,0) h
theorem Blk.frozen (h:Blk w g t cs) (i:Nat):w.frozen? ⟨g,i,none⟩=false:=by
 unfold Blk at h
 simp[World.frozen?,h]
theorem Blk.new (w:World) (t:TypeId) (cs:Array Value):Blk (w.alloc (.cells cs t)) w.heap.size t cs:=heap_alloc_new w _
theorem Blk.alloc (h:Blk w g t cs) (o:Obj):Blk (w.alloc o) g t cs:=(Below.heap_alloc w o g h.lt).trans h
theorem Blk.set_ (h:Blk w g t cs) (i:Nat) (u:Value):Blk (w.setCell ⟨g,i,none⟩ u) g t (cs.setIfInBounds i u):=by
 unfold Blk at h |-
 simp[World.setCell,Array.getElem?_modify,h]
theorem Blk.far (h:Blk w g t cs) {p:Addr} (hp:g≠p.block) (u:Value):Blk (w.setCell p u) g t cs:=(Below.heap_setCell w p u g hp).trans h
theorem Blk.below {B:Nat} (h:Blk w g t cs) (hb:Below B w w') (hg:g<B):Blk w' g t cs:=(hb.block g hg).trans h
theorem Blk.touch {T:Nat->Prop} (h:Blk w g t cs) (ht:eu T w w') (hg:¬ T g):Blk w' g t cs:=(ht.block g h.lt hg).trans h
theorem Blk.ext (h:Blk w g t cs) (he:Ext w w'):Blk w' g t cs:=(he g h.lt).trans h
end
theorem PT.cellsL_at {m:Nat}:∀{l:List PT},(∀t∈l,t.cells.length=m)->∀{k j:Nat} {t:PT},l[k]?=some t->j<m->(PT.cellsL l)[k * m+j]?=t.cells[j]?
 | [],_,k,j,t,hk,_=>by simp at hk
 | x::r,h,0,j,t,hk,hj=>by
   simp at hk;subst hk
   rw[PT.cellsL,Zs (by rw[h x (by simp)];omega)]
   congr 1;omega
 | x::r,h,k+1,j,t,hk,hj=>by
   rw[PT.cellsL,Zr (by rw[h x (by simp),Xf];omega),h x (by simp)]
   rw[show (k+1) * m+j - m=k * m+j by rw[Xf];omega]
   exact PT.cellsL_at (fun t ht=>h t (by simp[ht])) (by simpa using hk) hj
theorem PT.length_cellsL {m:Nat}:∀{l:List PT},(∀t∈l,t.cells.length=m)->(PT.cellsL l).length=l.length * m
 | [],_=>by simp[PT.cellsL]
 | x::r,h=>by
   rw[PT.cellsL,Zh,h x (by simp),PT.length_cellsL fun t ht=>h t (by simp[ht]),Zy,Xf];omega
theorem kP.elem {w:World} {S:Nat->Prop} {A:Option Addr} {l:List PT} (h:kP w S A (PT.cellsL l)) {m:Nat} (hm:∀t∈l,t.cells.length=m) (hm0:0<m) {k:Nat} {t:PT} (hk:l[k]?=some t) :
   ∃b o,A=some ⟨b,o,none⟩/\S b/\∀j u,t.cells[j]?=some u->w.cell? ⟨b,o+(k * m+j),none⟩=some u:=by
 have ht:t.cells.length=m:=hm t (Zm hk)
 have h0:∃u,t.cells[0]?=some u:=⟨_,Za (by omega)⟩
 obtain⟨u0,hu0⟩:=h0
 obtain⟨b,o,hA,hS,_⟩:=h (k * m+0) u0 (by rw[PT.cellsL_at hm hk hm0,hu0])
 refine⟨b,o,hA,hS,fun j u hj=>?_⟩
 have hjm:j<m:=by
   have:=(List.getElem?_eq_some_iff.1 hj).1;omega
 obtain⟨b',o',hA',_,hc⟩:=h (k * m+j) u (by rw[PT.cellsL_at hm hk hjm,hj])
 rw[hA] at hA'
 obtain⟨rfl,rfl⟩:b=b'/\o=o':=by simpa using hA'
 exact hc
theorem PT.oneCell:(∀t:PT,∀u∈t.cells,u.oneCell'=true)/\(∀l:List PT,∀u∈PT.cellsL l,u.oneCell'=true) :=
 PT.ind (fun _ _ u hu=>by simp[PT.cells] at hu;subst hu;rfl) (fun _ u hu=>by simp[PT.cells] at hu;subst hu;rfl) (fun _ u hu=>by simp[PT.cells] at hu;subst hu;rfl) (fun _ h=>h)
   (fun _ _ _ _ _ u hu=>by simp[PT.cells] at hu;subst hu;rfl) (fun u hu=>by simp[PT.cellsL] at hu) (fun t r h k u hu=>by
     simp only[PT.cellsL,ZO] at hu
     rcases hu with hu|hu
     ·exact h u hu
     ·exact k u hu)
section
variable {P:Program} (w:World)
theorem kH (t ty e e':TypeId) (i:TypeInfo) (ht:P.underlying t=some (.slice e)) (hi:P.info? e=some i)
   (g sLen sCap:Nat) (cur:Array Value) (hg:w.heap[g]?=some (.cells cur e' (0,0)))
   (a:Addr) (m c:Nat) (news:List Value) (hl:news.length=m * i.size) (hnews:∀j u,news[j]?=some u->w.cell? (a.add j)=some u) (h1:∀u∈news,u.oneCell'=true)
   (hroom:sLen+m<=sCap) (hfit:sLen * i.size+news.length<=cur.size) :
   (Builtin.append_ #[t,t] ty #[.slice (some ⟨g,0,none⟩) sLen sCap,.slice (some a) m c]).run P w =
     .ok (.slice (some ⟨g,0,none⟩) (sLen+m) sCap) (w.setRow g (cur.toList.take (sLen * i.size)++news++cur.toList.drop (sLen * i.size+news.length)).toArray):=by
 have hf:=run_firstCells_some (P:=P) w i.size m a m c news hl hnews
 have hst:=run_storeCells_at P g (sLen * i.size) e' news 0 cur w hg (by simpa using hfit) h1
 simp only[Yy] at hst
 simp[Builtin.append_,run_underlying ht,sizeOf,typeInfo,hi,Builtin.lenOf,hroom,hf,Addr.add_lit,hst]
theorem rG (t ty e:TypeId) (i:TypeInfo) (z:Value) (m bytes:Nat) (ht:P.underlying t=some (.slice e)) (hi:P.info? e=some i) (hz:i.zero=some z)
   (hsize:i.size=m) (hby:i.bytes=bytes) (hzs:z.cells.size=m) (hm0:0<m)
   {S S2:Nat->Prop} (A A2:Option Addr) (c c2 n n2:Nat) (l news:List PT) (hown:dg w S (.sl A c m l)) (hsee:kP w S2 A2 (PT.cellsL news)) (hn:n=l.length) (hn2:n2=news.length)
   (hmm:∀t∈news,t.cells.length=m) (hown2:j7 w news) (hnd:((PT.sl A c m l).blocks++PT.blocksL news).Nodup) (hS2:∀b∈PT.blocksL news,S b) (hSn:S w.heap.size)
   (h63:n+n2<=maxLen) (hbytes:(n+n2) * bytes<=140737488355328) :
   ∃A' c' w',(Builtin.append_ #[t,t] ty #[.slice A n c,.slice A2 n2 c2]).run P w=.ok (.slice A' (n+n2) c') w'/\dg w' S (.sl A' c' m (l++news))/\eu (·∈PT.rowOf A) w w'/\(A'=A\/A'=some ⟨w.heap.size,0,none⟩):=by
 subst hsize;subst hby;subst hn;subst hn2
 have hsmall:l.length+news.length<=9223372036854775807:=by simp only[maxLen] at h63;omega
 have hL1:=PT.length_cellsL hown.1.1
 have hL2:=PT.length_cellsL hmm
 have hmm':∀t∈l++news,t.cells.length=i.size:=fun t ht=>by
   rcases List.mem_append.1 ht with h|h
   ·exact hown.1.1 t h
   ·exact hmm t h
 have hLL:=PT.length_cellsL hmm'
 have h1:∀u∈PT.cellsL news,u.oneCell'=true:=PT.oneCell.2 news
 have hnd':=List.nodup_append.1 hnd
 have hlt:=vE.1 _ hown.1
 have hlt2:=vE.2 _ hown2
 -- the new block, where the row must grow
 have grown : ∀ old, dg (w.drew.alloc (.cells ((PT.cellsL l).toArray ++ (PT.cellsL news).toArray ++ Builtin.zeroCells z.cells (grownCap w (l.length + news.length) old e - (l.length + news.length))) e)) S
     (.sl (some ⟨w.heap.size,0,none⟩) (grownCap w (l.length+news.length) old e) i.size (l++news)) /\
     eu (·∈PT.rowOf A) w (w.drew.alloc (.cells ((PT.cellsL l).toArray++(PT.cellsL news).toArray++Builtin.zeroCells z.cells (grownCap w (l.length+news.length) old e - (l.length+news.length))) e)):=by
   intro old
   have hge:=grownCap_ge w (l.length+news.length) old e
   have hcm:grownCap w (l.length+news.length) old e<=maxLen:=grownCap_le_maxLen w (l.length+news.length) old e h63
   have hkeep:∀b,b<w.heap.size->∀o,(w.drew.alloc o).heap[b]?=w.heap[b]?:=fun b hb o=>Below.heap_alloc w.drew o b hb
   refine⟨⟨fX hmm' hLL (heap_alloc_new w.drew _) (by simpa using hge) hcm ?_ ?_ (j7.of_get fun t ht=>?_), ?_, ?_⟩,⟨rfl,rfl,rfl,by simp,fun b hb _=>hkeep b hb _⟩⟩
   ·simp only[Array.size_append,YU,size_zeroCells,hzs,hL1,hL2,<- Yh]
    congr 1
    omega
   ·simp only[Xt,PT.cellsL_append,Zk]
    rw[<- Zk,show (l++news).length * i.size=(PT.cellsL l++PT.cellsL news).length by simp only[Zh,hL1,hL2,Yh]]
    exact List.take_left
   ·rcases List.mem_append.1 ht with h|h
    ·exact jf.1 t (j7.get hown.1.2.2 h) fun b hb=>hkeep b (hlt b (by simp only[PT.blocks,ZO];exact .inr (PT.mem_blocksL.2 ⟨t,h,hb⟩))) _
    ·exact jf.1 t (j7.get hown2 h) fun b hb=>hkeep b (hlt2 b (PT.mem_blocksL.2 ⟨t,h,hb⟩)) _
   ·have h2:(PT.blocksL l).Nodup:=(List.nodup_append.1 hnd'.1).2.1
    simp only[PT.blocks,PT.rowOf,PT.blocksL_append,Xk,List.nodup_cons,Xg,ZO,not_or]
    refine⟨⟨fun h=>?_,fun h=>?_⟩,h2,hnd'.2.1,fun a ha b hb=>hnd'.2.2 a (by simp only[PT.blocks,ZO];exact .inr ha) b hb⟩
    ·exact YK _ (hlt _ (by simp only[PT.blocks,ZO];exact .inr h))
    ·exact YK _ (hlt2 _ h)
   ·intro b hb
    simp only[PT.blocks,PT.rowOf,PT.blocksL_append,ZO,ZM] at hb
    rcases hb with rfl|hb|hb
    ·exact hSn
    ·exact hown.2.2 b (by simp only[PT.blocks,ZO];exact .inr hb)
    ·exact hS2 b hb
 by_cases hz2:news=[]
 ·subst hz2
  refine⟨A,c,w, ?_,by simpa using hown,eu.refl _ _,.inl rfl⟩
  rcases sA hown.1 with ⟨rfl,rfl,rfl⟩|⟨g,cur,e',rfl,hg,hnc,hcm,hcs,htake⟩
  ·cases A2 <;> simp[Builtin.append_,run_underlying ht,sizeOf,typeInfo,hi,Builtin.lenOf,Builtin.firstCells,loadCells,loadCellsFrom]
  ·cases A2 <;> simp[Builtin.append_,run_underlying ht,sizeOf,typeInfo,hi,Builtin.lenOf,Builtin.firstCells,hnc,storeCells,loadCells,loadCellsFrom]
 ·obtain⟨b2,o2,hA2,_⟩:∃b o,A2=some ⟨b,o,none⟩/\S2 b:=by
    have hp:0<(PT.cellsL news).length:=by
      rw[hL2];exact Nat.mul_pos (List.length_pos_iff.2 hz2) hm0
    obtain⟨b,o,h2,h3,_⟩:=hsee 0 _ (Za hp)
    exact⟨b,o,h2,h3⟩
  subst hA2
  have hpos:0<news.length:=List.length_pos_iff.2 hz2
  have hnews:∀j u,(PT.cellsL news)[j]?=some u->w.cell? ((⟨b2,o2,none⟩:Addr).add j)=some u:=fun j u hj=>by
    obtain⟨b,o,hA,_,hc⟩:=hsee j u hj
    simp only[Zo,Addr.mk.injEq,and_true] at hA
    obtain⟨rfl,rfl⟩:=hA
    rw[Addr.add_lit];exact hc
  rcases sA hown.1 with ⟨rfl,rfl,rfl⟩|⟨g,cur,e',rfl,hg,hnc,hcm,hcs,htake⟩
  ·have hr:=run_append_nil (P:=P) w t ty e i z ht hi hz ⟨b2,o2,none⟩ news.length c2 (PT.cellsL news) hL2 hnews (by omega) (by simp at hsmall;omega) (by have hb:=hbytes;simp only[YE,ZY] at hb;omega)
   have hgr:=grown 0
   simp only[YE,ZY,Zx,PT.cellsL,Array.empty_append] at hgr hr |-
   exact⟨_,_,_,hr,hgr.1,hgr.2,.inr rfl⟩
  ·by_cases hroom:l.length+news.length<=c
   ·have hfit:l.length * i.size+(PT.cellsL news).length<=cur.size:=by rw[hL2,hcs,<- Yh];exact YV _ hroom
    have hr:=kH (P:=P) w t ty e e' i ht hi g l.length c cur hg ⟨b2,o2,none⟩ news.length c2 (PT.cellsL news) hL2 hnews h1 hroom hfit
    have hother:∀b,b≠g->∀d,(w.setRow g d).heap[b]?=w.heap[b]?:=fun b hb d=>setRow_other w g b _ hb
    refine⟨_,_,_,hr,⟨fX hmm' hLL (setRow_heap w g cur _ e' _ hg) (by simpa using hroom) hcm ?_ ?_ (j7.of_get fun t ht=>?_), ?_, ?_⟩,⟨rfl,rfl,rfl,by simp,fun b _ hb=>hother b (fun h=>hb (by simp[PT.rowOf,h])) _⟩,.inl rfl⟩
    ·simp only[YU,Zh,Zu,YP,Z5]
     omega
    ·rw[htake,PT.cellsL_append,show (l++news).length * i.size=(PT.cellsL l++PT.cellsL news).length by simp only[Zh,hL1,hL2,Yh]]
     exact List.take_left
    ·have hgn:∀b∈PT.blocksL l,b≠g:=fun b hb h=>by
       have:=(List.nodup_append.1 hnd'.1).2.2 g (by simp[PT.rowOf]) b hb
       exact this h.symm
     have hgn2:∀b∈PT.blocksL news,b≠g:=fun b hb h=>hnd'.2.2 g (by simp[PT.blocks,PT.rowOf]) b hb h.symm
     rcases List.mem_append.1 ht with h|h
     ·exact jf.1 t (j7.get hown.1.2.2 h) fun b hb=>hother b (hgn b (PT.mem_blocksL.2 ⟨t,h,hb⟩)) _
     ·exact jf.1 t (j7.get hown2 h) fun b hb=>hother b (hgn2 b (PT.mem_blocksL.2 ⟨t,h,hb⟩)) _
    ·simpa [PT.blocks,PT.blocksL_append] using hnd
    ·intro b hb
     simp only[PT.blocks,PT.blocksL_append,ZO] at hb
     rcases hb with hb|hb|hb
     ·exact hown.2.2 b (by simp only[PT.blocks,ZO];exact .inl hb)
     ·exact hown.2.2 b (by simp only[PT.blocks,ZO];exact .inr hb)
     ·exact hS2 b hb
   ·have holds:∀j u,(PT.cellsL l)[j]?=some u->w.cell? ((⟨g,0,none⟩:Addr).add j)=some u:=fun j u hj=>by
      rw[Addr.add_lit,ZY,cell_of_row w g j cur e' (0,0) hg]
      rw[<- htake,ZQ] at hj
      split at hj
      ·simpa using hj
      ·cases hj
    have hr:=run_append_grow (P:=P) w t ty e i z ht hi hz ⟨g,0,none⟩ l.length c (PT.cellsL l) hL1 holds ⟨b2,o2,none⟩ news.length c2 (PT.cellsL news) hL2 hnews (by omega) (by omega) (growslice_fits (by omega) hbytes)
    exact⟨_,_,_,hr,(grown c).1,(grown c).2,.inr rfl⟩
end
section
variable {P:Program} (w:World)
theorem uV {o:Oper} {a:Act} {K:Act->World->Prop} {Q:Exit->Act->World->Prop} (s x:Operand) (t:TypeId)
   (ho:o.op=.call { callee:=.builtin .append,args:=#[s,x],argTypes:=#[t,t] }) (e:TypeId) (i:TypeInfo) (z:Value) (m bytes:Nat) (ht:P.underlying t=some (.slice e)) (hi:P.info? e=some i) (hz:i.zero=some z)
   (hsize:i.size=m) (hby:i.bytes=bytes) (hzs:z.cells.size=m) (hm0:0<m)
   {S S2:Nat->Prop} (A A2:Option Addr) (c c2 n n2:Nat) (l news:List PT) (hs:a.eval s=.slice A n c) (hx:a.eval x=.slice A2 n2 c2) (hown:dg w S (.sl A c m l)) (hsee:kP w S2 A2 (PT.cellsL news)) (hn:n=l.length) (hn2:n2=news.length)
   (hmm:∀t∈news,t.cells.length=m) (hown2:j7 w news) (hnd:((PT.sl A c m l).blocks++PT.blocksL news).Nodup) (hS2:∀b∈PT.blocksL news,S b) (hSn:S w.heap.size)
   (h63:n+n2<=maxLen) (hbytes:(n+n2) * bytes<=140737488355328)
   (h:∀A' c' w',dg w' S (.sl A' c' m (l++news))->eu (·∈PT.rowOf A) w w'->(A'=A\/A'=some ⟨w.heap.size,0,none⟩)->K (a.put o.dst (.slice A' (n+n2) c')) w'):o.wp P a w K Q:=by
 obtain⟨A',c',w',hr,h1,h2,h3⟩:=rG (P:=P) w t o.type e i z m bytes ht hi hz hsize hby hzs hm0 A A2 c c2 n n2 l news hown hsee hn hn2 hmm hown2 hnd hS2 hSn h63 hbytes
 unfold Oper.wp execOp
 simp only[ho,resolve,invoke,builtin,ZE,Sem.run_pure,Zz,Ys,ZU,Yj,hs,hx,hr]
 exact h A' c' w' h1 h2 h3
theorem nA {ops:Array Oper} {rest:List Oper} {o:Oper} {a:Act} {Q:Exit->Act->World->Prop} (hgd:o.guard=none) (s x:Operand) (t:TypeId)
   (ho:o.op=.call { callee:=.builtin .append,args:=#[s,x],argTypes:=#[t,t] }) (e:TypeId) (i:TypeInfo) (z:Value) (m bytes:Nat) (ht:P.underlying t=some (.slice e)) (hi:P.info? e=some i) (hz:i.zero=some z)
   (hsize:i.size=m) (hby:i.bytes=bytes) (hzs:z.cells.size=m) (hm0:0<m)
   {S S2:Nat->Prop} (A A2:Option Addr) (c c2 n n2:Nat) (l news:List PT) (hs:a.eval s=.slice A n c) (hx:a.eval x=.slice A2 n2 c2) (hown:dg w S (.sl A c m l)) (hsee:kP w S2 A2 (PT.cellsL news)) (hn:n=l.length) (hn2:n2=news.length)
   (hmm:∀t∈news,t.cells.length=m) (hown2:j7 w news) (hnd:((PT.sl A c m l).blocks++PT.blocksL news).Nodup) (hS2:∀b∈PT.blocksL news,S b) (hSn:S w.heap.size)
   (h63:n+n2<=maxLen) (hbytes:(n+n2) * bytes<=140737488355328)
   (h:∀A' c' w',dg w' S (.sl A' c' m (l++news))->eu (·∈PT.rowOf A) w w'->(A'=A\/A'=some ⟨w.heap.size,0,none⟩)->wpList P ops Q rest (a.put o.dst (.slice A' (n+n2) c')) w'):wpList P ops Q (o::rest) a w :=
 wpList_plain hgd fun _ hK=>uV w s x t ho e i z m bytes ht hi hz hsize hby hzs hm0 A A2 c c2 n n2 l news hs hx hown hsee hn hn2 hmm hown2 hnd hS2 hSn h63 hbytes fun A' c' w' h1 h2 h3=>hK _ _ (h A' c' w' h1 h2 h3)
end
theorem adP (w:World) (cs:Array Value) (e:TypeId):kP (w.alloc (.cells cs e)) (fun _=>True) (some ⟨w.heap.size,0,none⟩) cs.toList:=fun j u hj =>
 ⟨_,_,rfl,trivial,by rw[ZY,World.cell?_alloc_new];simpa using hj⟩
theorem mJ {P:Program} {ops:Array Oper} {rest:List Oper} {o:Oper} {a:Act} {Q:Exit->Act->World->Prop} {w:World} (hgd:o.guard=none) (s x:Operand) (t e:TypeId) (z:Value) (m bytes:Nat)
   (ho:o.op=.call { callee:=.builtin .append,args:=#[s,x],argTypes:=#[t,t] }) (ht:P.underlying t=some (.slice e)) (hinfo:(P.info? e).map (fun i=>(i.zero,i.size,i.bytes))=some (some z,m,bytes)) (hzs:z.cells.size=m) (hm0:0<m)
   {S:Nat->Prop} (A:Option Addr) (c n:Nat) (l:List PT) (el:PT)
   (hs:a.eval s=.slice A n c) (hx:a.eval x=.slice (some ⟨w.heap.size,0,none⟩) 1 1) (hown:dg w S (.sl A c m l)) (hn:n=l.length) (hel:el.cells.length=m) (hob:Own w el) (hbl:el.blocks=[]) (hS:S (w.heap.size+1)) (hl:n<=1000000000) (hb:bytes<=1000)
   (h:∀A' c' w',dg w' S (.sl A' c' m (l++[el]))->eu (·∈PT.rowOf A) w w'->(∀g,A=some ⟨g,0,none⟩->∃g',A'=some ⟨g',0,none⟩)->wpList P ops Q rest (a.put o.dst (.slice A' (n+1) c')) w') :
   wpList P ops Q (o::rest) a (w.alloc (.cells el.cells.toArray e)):=by
 obtain⟨i0,hi0,hz0,hz1,hz2⟩:=info_parts hinfo
 refine nA (w.alloc (.cells el.cells.toArray e)) hgd s x _ ho e i0 _ m bytes ht hi0 hz0 hz1 hz2 hzs hm0 (S:=S) A _ c 1 n 1 l [el] hs hx (hown.ext (Ext.alloc1 w _)) (by simpa [PT.cellsL] using adP w el.cells.toArray e) hn rfl (by simpa using hel) ⟨jf.1 el hob (by simp[hbl]),trivial⟩
   (by simpa [PT.blocksL,hbl] using hown.2.1) (by simp[PT.blocksL,hbl]) (by simpa using hS) (by simp only[maxLen];omega) ?_ fun A' c' w' h1 h2 h3=>?_
 ·have:(n+1) * bytes<=1000000001 * 1000:=Xw (by omega) hb
  omega
 ·refine h A' c' w' h1 ((eu.of_below ((Below.refl _ _).alloc (Zg _) _) _).trans h2) fun g hg=>?_
  rcases h3 with rfl|rfl
  ·exact⟨g,hg⟩
  ·exact⟨_,rfl⟩
theorem zh {w:World} {S:Nat->Prop} (e:TypeId) (m:Nat) (hS:S w.heap.size):dg (w.alloc (.cells #[] e)) S (.sl (some ⟨w.heap.size,0,none⟩) 0 m []) :=
 ⟨fX (by simp) (by simp[PT.cellsL]) (heap_alloc_new w _) (by simp) (by simp) (by simp) (by simp[PT.cellsL]) trivial,by simp[PT.blocks,PT.blocksL,PT.rowOf],by simpa [PT.blocks,PT.blocksL,PT.rowOf] using hS⟩
def inR (n a b:Int):Bool:=decide (a<=n/\n<=b)
theorem wP {n a b:Int} (h:a<=n/\n<=b):inR n a b=true:=by simp[inR,h]
theorem acX {n a b:Int} (h:¬ (a<=n/\n<=b)):inR n a b=false:=by simp only[inR,decide_eq_false_iff_not];exact h
theorem my {a b:ByteArray} (h:a=b):Ending.returned (.string a)=.returned (.string b):=by rw[h]
theorem i8 {k:IntKind} {a b:Int} (h:a=b):Ending.returned (.int k a)=.returned (.int k b):=by rw[h]
theorem bK {a b:Bool} (h:a=b):Ending.returned (.bool a)=.returned (.bool b):=by rw[h]
theorem qV (n a b:Int) (w:World):Calls Tryz.prog 49 #[.int .i64 n,.int .i64 a,.int .i64 b] w fun e w'=>e=.returned (.bool (inR n a b))/\w=w':=by
 by_cases h1:a<=n
 all_goals by_cases h2:n<=b
 all_goals
   go_enter Tryz.func49,Tryz.ntmps49
   go_wp2
   go_ret
   exact⟨bK (by simp[inR];omega),rfl⟩
def gD (b:UInt8):Bool:=decide ((97<=(b.toNat:Int)/\(b.toNat:Int)<=122)\/(65<=(b.toNat:Int)/\(b.toNat:Int)<=90))
def tD (b:UInt8):Bool:=decide (48<=(b.toNat:Int)/\(b.toNat:Int)<=57)
def lod (b:UInt8):Bool:=gD b || tD b
theorem xF (b:UInt8) (w:World):Calls Tryz.prog 302 #[.int .u8 (b.toNat:Int)] w fun e w'=>e=.returned (.bool (tD b))/\w=w':=by
 go_enter Tryz.func302,Tryz.ntmps302
 go_wp2
 all_goals (go_ret;exact⟨bK (by simp[tD];omega),rfl⟩)
theorem w7 (b:UInt8) (w:World):Calls Tryz.prog 292 #[.int .u8 (b.toNat:Int)] w fun e w'=>e=.returned (.bool (tD b))/\w=w':=by
 go_enter Tryz.func292,Tryz.ntmps292
 go_wp2
 all_goals (go_ret;exact⟨bK (by simp[tD];omega),rfl⟩)
theorem nf (b:UInt8) (w:World):Calls Tryz.prog 294 #[.int .u8 (b.toNat:Int)] w fun e w'=>e=.returned (.bool (gD b))/\w=w':=by
 go_enter Tryz.func294,Tryz.ntmps294
 go_wp2
 all_goals (go_ret;exact⟨bK (by rw[YF];simp[gD];omega),rfl⟩)
theorem mM (b:UInt8) (w:World):Calls Tryz.prog 272 #[.int .u8 (b.toNat:Int)] w fun e w'=>e=.returned (.bool (gD b))/\w=w':=by
 go_enter Tryz.func272,Tryz.ntmps272
 go_wp2
 all_goals (go_ret;exact⟨bK (by rw[YF];simp[gD];omega),rfl⟩)
def fw:List UInt8->Nat
 | []=>0
 | b::r=>if lod b then fw r+1 else 0
theorem pd (l:List UInt8):fw l<=l.length:=by
 induction l with
 | nil=>simp[fw]
 | cons b r ih=>simp only[fw,Zy];split <;> omega
theorem pg (s:ByteArray) {k:Nat} (h:k<s.size):s.data.toList.drop k=s[k]::s.data.toList.drop (k+1):=by
 rw[ZI (by simpa using h)];rfl
theorem bQ (s:ByteArray):s.data.toList.length=s.size:=by rw[Z5];rfl
theorem iU (s:ByteArray) {k:Nat} (h:k<s.size):fw (s.data.toList.drop k)=if lod s[k] then fw (s.data.toList.drop (k+1))+1 else 0:=by
 rw[pg s h];rfl
theorem qP (s:ByteArray) {k:Nat} (h:¬ k<s.size):fw (s.data.toList.drop k)=0:=by
 rw[Yc (by rw[bQ];omega)];rfl
theorem aa6 (s:ByteArray) (w:World) (hs:s.size<=1048576):Calls Tryz.prog 295 #[.string s] w fun e w'=>e=.returned (.string (s.extract 0 (fw s.data.toList)))/\∃n,w'=w.drewN n:=by
 go_enter Tryz.func295,Tryz.ntmps295
 go_wp2
 go_loopw [3] (fun i wr=>∃k n:Nat,k<=s.size/\i=.int .i64 k/\wr=w.drewN n/\fw s.data.toList=k+fw (s.data.toList.drop k)) (fun i _=>s.size - (intOf i).toNat)
 case atStart=>exact⟨0,0,Ze _,rfl,rfl,by simp⟩
 case round =>
   obtain⟨k,n,hk,rfl,rfl,hr⟩:=hrel
   have Hr:=Lib.hid hr
   clear hr
   by_cases hlt:k<s.size
   ·cases hl:gD s[k] <;> cases hd:tD s[k]
    all_goals
      go_wp2_with (first|(go_at_call 294;refine(nf s[k] _).mono ?_;rintro e w' ⟨rfl,rfl⟩)|(go_at_call 302;refine(xF s[k] _).mono ?_;rintro e w' ⟨rfl,rfl⟩))
      first
        | (
            have hq:=iU s hlt
            rw[if_pos (by simp[lod,hl,hd])] at hq
            go_roundw
            case rel=>exact⟨k+1,n,by omega,by go_num,rfl,by have:=Hr.out;omega⟩
            case measure=>simp[intOf];omega)
        | (
            have hq:=iU s hlt
            rw[if_neg (by simp[lod,hl,hd])] at hq
            go_ret
            exact⟨my (by rw[Hr.out,hq,Yy]),n,rfl⟩)
   ·go_wp2
    go_ret
    exact⟨my (by rw[Hr.out,qP s hlt,Yy]),n,rfl⟩
theorem ab6 (s:ByteArray) (at_:Nat) (w:World) (hs:s.size<=1048576) (ha:at_<=s.size):Calls Tryz.prog 273 #[.string s,.int .i64 at_] w fun e w'=>e=.returned (.int .i64 ((at_+fw (s.data.toList.drop at_):Nat):Int))/\∃n,w'=w.drewN n:=by
 go_enter Tryz.func273,Tryz.ntmps273
 go_wp2
 go_loopw [1] (fun i wr=>∃k n:Nat,k<=s.size/\i=.int .i64 k/\wr=w.drewN n/\at_+fw (s.data.toList.drop at_)=k+fw (s.data.toList.drop k)) (fun i _=>s.size - (intOf i).toNat)
 case atStart=>exact⟨at_,0,ha,rfl,rfl,rfl⟩
 case round =>
   obtain⟨k,n,hk,rfl,rfl,hr⟩:=hrel
   have Hr:=Lib.hid hr
   clear hr
   by_cases hlt:k<s.size
   ·cases hl:gD s[k] <;> cases hd:tD s[k]
    all_goals
      go_wp2_with (first|(go_at_call 272;refine(mM s[k] _).mono ?_;rintro e w' ⟨rfl,rfl⟩)|(go_at_call 292;refine(w7 s[k] _).mono ?_;rintro e w' ⟨rfl,rfl⟩))
      first
        | (
            have hq:=iU s hlt
            rw[if_pos (by simp[lod,hl,hd])] at hq
            go_roundw
            case rel=>exact⟨k+1,n,by omega,by go_num,rfl,by have:=Hr.out;omega⟩
            case measure=>simp[intOf];omega)
        | (
            have hq:=iU s hlt
            rw[if_neg (by simp[lod,hl,hd])] at hq
            go_ret
            exact⟨i8 (by rw[Hr.out,hq,Yy]),n,rfl⟩)
   ·go_wp2
    go_ret
    exact⟨i8 (by rw[Hr.out,qP s hlt,Yy]),n,rfl⟩
def ch:List UInt8->Bool
 | []=>false
 | b::r=>decide (r.length<20) && gD b && r.all lod
theorem mc (l:List UInt8):fw l=l.length↔l.all lod=true:=by
 induction l with
 | nil=>simp[fw]
 | cons b r ih =>
   have:=pd r
   simp only[fw,Zy,YL,Zq]
   split
   ·rename_i h;rw[h];simp only[true_and];rw[<- ih];omega
   ·rename_i h;constructor
    ·intro h2;omega
    ·intro h2;exact absurd h2.1 h
theorem n6 {a b:ByteArray} (h:a.data.toList=b.data.toList):a=b:=WideShapes.bytes_inj h
theorem mS (s:ByteArray) (k:Nat):(s.extract 0 k).data.toList=s.data.toList.take k:=by
 rw[Lib.extract_data];simp
theorem acU (s:ByteArray):((s.extract 0 (fw s.data.toList)).toList == s.toList)=s.data.toList.all lod:=by
 have h1:=pd s.data.toList
 rw[Lib.toList_data,Lib.toList_data,mS]
 by_cases h:s.data.toList.all lod=true
 ·rw[h,(mc _).2 h,Zv];simp
 ·rw[Bool.eq_false_iff.2 h,beq_eq_false_iff_ne]
  intro e
  have h2:=congrArg List.length e
  rw[Zu] at h2
  exact h ((mc _).1 (by omega))
theorem oy (s:ByteArray) (h:s.size=0):ch s.data.toList=false:=by
 have:s.data.toList=[]:=ZV (by rw[bQ];exact h)
 rw[this];rfl
theorem jw (s:ByteArray) (h:0<s.size):ch s.data.toList=(decide (s.size<=20) && gD s[0] && s.data.toList.all lod):=by
 have h0:=pg s h
 rw[Y0] at h0
 have hl:=bQ s
 rw[h0] at hl |-
 have hd:decide ((List.drop (0+1) s.data.toList).length<20)=decide (s.size<=20):=by
   rw[Zy] at hl
   simp only[decide_eq_decide];omega
 simp only[ch,hd,YL]
 by_cases hlt:gD s[0]=true
 ·have hx:lod s[0]=true:=by simp[lod,hlt]
  rw[hlt,hx];simp
 ·rw[Bool.eq_false_iff.2 hlt];simp
theorem mA (s:ByteArray) (w:World) (hs:s.size<=1048576):Calls Tryz.prog 277 #[.string s] w fun e w'=>e=.returned (.bool (ch s.data.toList))/\∃n,w'=w.drewN n:=by
 go_enter Tryz.func277,Tryz.ntmps277
 by_cases h1:1<=(s.size:Int)/\(s.size:Int)<=20
 ·have hin:=wP h1
  have h0:0<s.size:=by omega
  have hf:=jw s h0
  rw[decide_eq_true (by omega:s.size<=20)] at hf
  have Hf:=Lib.hid hf
  clear hf
  cases hl:gD s[0]
  all_goals
    go_wp2_with (first|(go_at_call 49;refine(qV _ _ _ _).mono ?_;rintro e w' ⟨rfl,rfl⟩)|(go_at_call 294;refine(nf s[0] _).mono ?_;rintro e w' ⟨rfl,rfl⟩)|(go_at_call 295;refine(aa6 s _ hs).mono ?_;rintro e w' ⟨rfl,n,rfl⟩))
    go_ret
    first
      | exact⟨bK (by rw[Hf.out,hl];rfl),0,rfl⟩
      | exact⟨bK (by rw[Hf.out,hl,acU];rfl),_,rfl⟩
 ·have hin:=acX h1
  go_wp2_with (first|(go_at_call 49;refine(qV _ _ _ _).mono ?_;rintro e w' ⟨rfl,rfl⟩))
  go_ret
  refine⟨bK ?_,0,rfl⟩
  by_cases h0:s.size=0
  ·rw[oy s h0]
  ·rw[jw s (by omega),decide_eq_false (by omega)];rfl
inductive Ty where
 | int (k:IntKind)
 | bool
 | str
 | agg (l:List Ty)
 | sl (m:Nat) (e:Ty)
mutual
def Ty.size:Ty->Nat
 | .agg l=>Ty.sizeL l
 | _=>1
def Ty.sizeL:List Ty->Nat
 | []=>0
 | t::r=>Ty.size t+Ty.sizeL r
end
mutual
def dn:Ty->PT->Prop
 | .int k,t=>∃n,t=.int k n
 | .bool,t=>∃b,t=.bool b
 | .str,t=>∃s,t=.str s
 | .agg l,t=>∃ts,t=.agg ts/\ex l ts
 | .sl m e,t=>∃A c l,t=.sl A c m l/\∀u∈l,dn e u
def ex:List Ty->List PT->Prop
 | [],ts=>ts=[]
 | t::r,ts=>∃u us,ts=u::us/\dn t u/\ex r us
end
mutual
def PT.sane:PT->Prop
 | .int k n=>(Lit.int k n).wf=true
 | .str s=>s.size<=maxLen
 | .bool _=>True
 | .agg l=>saneL l
 | .sl _ _ _ l=>saneL l
def PT.saneL:List PT->Prop
 | []=>True
 | t::r=>PT.sane t/\PT.saneL r
end
theorem PT.saneL_of {l:List PT} (h:∀t∈l,t.sane):PT.saneL l:=by
 induction l with
 | nil=>trivial
 | cons x r ih=>exact⟨h x (by simp),ih fun t ht=>h t (by simp[ht])⟩
theorem PT.saneL_mem {l:List PT} (h:PT.saneL l) {t:PT} (ht:t∈l):t.sane:=by
 induction l with
 | nil=>cases ht
 | cons x r ih =>
   rcases List.mem_cons.1 ht with rfl|ht
   ·exact h.1
   ·exact ih h.2 ht
mutual
def tyB (P:Program):Ty->TypeId->Bool
 | .int k,T=>match P.underlying T with|some (.int k')=>k == k'|_=>false
 | .bool,T=>match P.underlying T with|some .bool=>true|_=>false
 | .str,T=>match P.underlying T with|some .string=>true|_=>false
 | .agg l,T=>match P.underlying T with|some (.struct fs)=>agI P l fs.toList 0 && (P.cellsOf T == Ty.sizeL l)|_=>false
 | .sl m e,T=>match P.underlying T with|some (.slice E)=>tyB P e E && (P.cellsOf E == m) && (Ty.size e == m) && decide (0<m)|_=>false
def agI (P:Program):List Ty->List Field->Nat->Bool
 | [],[],_=>true
 | t::r,f::fs,off=>(f.offset == off) && tyB P t f.type && (P.cellsOf f.type == Ty.size t) && agI P r fs (off+Ty.size t)
 | _,_,_=>false
end
mutual
theorem mq:∀(τ:Ty) (t:PT),dn τ t->t.cells.length=τ.size
 | .int k,t,h=>by simp only[dn] at h;obtain⟨n,rfl⟩:=h;rfl
 | .bool,t,h=>by simp only[dn] at h;obtain⟨n,rfl⟩:=h;rfl
 | .str,t,h=>by simp only[dn] at h;obtain⟨n,rfl⟩:=h;rfl
 | .agg l,t,h=>by
   simp only[dn] at h
   obtain⟨ts,rfl,h⟩:=h
   simp only[PT.cells,Ty.size]
   exact oH l ts h
 | .sl m e,t,h=>by simp only[dn] at h;obtain⟨A,c,l,rfl,_⟩:=h;rfl
theorem oH:∀(l:List Ty) (ts:List PT),ex l ts->(PT.cellsL ts).length=Ty.sizeL l
 | [],ts,h=>by simp only[ex] at h;subst h;rfl
 | τ::r,ts,h=>by
   simp only[ex] at h
   obtain⟨u,us,rfl,h1,h2⟩:=h
   simp only[PT.cellsL,Zh,Ty.sizeL]
   rw[mq τ u h1,oH r us h2]
end
section
variable {H:Type} {enc:TypeId×Value->H} {P:Program} {w:World} {base:Nat} {spare:Nat->Bool} {held:Bool}
theorem aaw {a:Addr} {v:Value} (h:w.cell? a=some v):∃b o,a=⟨b,o,none⟩:=by
 obtain⟨b,o,s⟩:=a
 cases s with
 | none=>exact⟨b,o,rfl⟩
 | some s=>simp[World.cell?] at h;split at h <;> simp at h
mutual
theorem oJ:∀(τ:Ty) (T:TypeId) (fuel:Nat) (cs:List Value) (x:DataW H×List MemPlace),tyB P τ T=true->DataW.trod enc P w base spare held fuel T cs=some x ->
   ∃t:PT,dn τ t/\t.cells=cs/\eF w (·<w.heap.size) t/\t.sane
 | .int k,T,fuel,cs,x,ht,h=>by
   simp only[tyB] at ht
   split at ht
   ·rename_i k' hu
    obtain⟨n,rfl,_,hwf⟩:=DataW.trod_int hu h
    have:k=k':=by simpa using ht
    subst this
    exact⟨.int k n,by simp[dn],rfl,trivial,hwf⟩
   ·cases ht
 | .bool,T,fuel,cs,x,ht,h=>by
   simp only[tyB] at ht
   split at ht
   ·rename_i hu
    obtain⟨b,rfl,_⟩:=DataW.trod_bool hu h
    exact⟨.bool b,by simp[dn],rfl,trivial,trivial⟩
   ·cases ht
 | .str,T,fuel,cs,x,ht,h=>by
   simp only[tyB] at ht
   split at ht
   ·rename_i hu
    obtain⟨s,rfl,_,hs⟩:=DataW.trod_string hu h
    exact⟨.str s,by simp[dn],rfl,trivial,hs⟩
   ·cases ht
 | .agg l,T,fuel,cs,x,ht,h=>by
   simp only[tyB] at ht
   split at ht
   ·rename_i fs hu
    simp only[Zq,beq_iff_eq] at ht
    obtain⟨xs,n,_,_,hcl,hxl,hf⟩:=DataW.trod_struct hu h
    obtain⟨ts,h1,h2,h3,h4⟩:=yt l fs.toList 0 n cs ht.1 (by rw[hcl,ht.2];simp) (fun i f hfi=>by
      have h5:=hf i f (by simpa using hfi)
      have hi:i<xs.length:=by rw[hxl];have:=(List.getElem?_eq_some_iff.1 hfi).1;simpa using this
      rw[Za hi] at h5
      exact⟨_,h5⟩)
    exact⟨.agg ts,by simp only[dn];exact⟨ts,rfl,h1⟩,by simpa [PT.cells] using h2,h3,h4⟩
   ·cases ht
 | .sl m e,T,fuel,cs,x,ht,h=>by
   simp only[tyB] at ht
   split at ht
   ·rename_i E hu
    simp only[Zq,beq_iff_eq,decide_eq_true_eq] at ht
    obtain⟨⟨⟨hE,hm⟩,hsz⟩,hm0⟩:=ht
    rcases Go.Deep.open_slice hu h with ⟨rfl,_⟩|⟨a,len,cap,mm,n,D,Pl,rfl,_,hl,hc,hmm,_,hel⟩
    ·exact⟨.sl none 0 m [],by simp only[dn];exact⟨_,_,_,rfl,by simp⟩,rfl,⟨by simp,by simp,kP.nil _ _ _,by simp,trivial⟩,trivial⟩
    ·rw[hm] at hel
     have hge:len<=mm:=by rw[hmm];split <;> omega
     -- the elements, one behind the other
     have build:∀k,k<=len->∃l:List PT,l.length=k/\(∀u∈l,dn e u)/\cZ w (·<w.heap.size) l/\PT.saneL l/\∀j v,(PT.cellsL l)[j]?=some v->w.cell? (a.add j)=some v:=by
       intro k
       induction k with
       | zero=>intro _;exact⟨[],rfl,by simp,trivial,trivial,by simp[PT.cellsL]⟩
       | succ k ih =>
         intro hk
         obtain⟨l,hll,h1,h2,h3,h4⟩:=ih (by omega)
         obtain⟨cs',hc',ht'⟩:=hel k (by omega)
         obtain⟨t,ht1,ht2,ht3,ht4⟩:=oJ e E n cs' _ hE ht'
         obtain⟨_,hcl',hat⟩:=World.cells?_some hc'
         have hll2:(PT.cellsL l).length=k * m:=by
           rw[PT.length_cellsL (m:=m) (fun u hu=>by rw[mq e u (h1 u hu),hsz]),hll]
         refine⟨l++[t],by simp[hll],fun u hu=>?_,cZ.of_get fun u hu=>?_,PT.saneL_of fun u hu=>?_,fun j v hj=>?_⟩
         ·rcases List.mem_append.1 hu with hu|hu
          ·exact h1 u hu
          ·rw[List.mem_singleton.1 hu];exact ht1
         ·rcases List.mem_append.1 hu with hu|hu
          ·obtain⟨i,hi,rfl⟩:=ZD hu
           exact cZ.get h2 (Za hi)
          ·rw[List.mem_singleton.1 hu];exact ht3
         ·rcases List.mem_append.1 hu with hu|hu
          ·exact PT.saneL_mem h3 hu
          ·rw[List.mem_singleton.1 hu];exact ht4
         ·rw[PT.cellsL_append] at hj
          simp only[PT.cellsL,Zt] at hj
          rw[ht2] at hj
          by_cases hjl:j<(PT.cellsL l).length
          ·rw[Zs hjl] at hj
           exact h4 j v hj
          ·rw[Zr (by omega)] at hj
           have hj2:=(List.getElem?_eq_some_iff.1 hj).1
           have h5:=hat (j - (PT.cellsL l).length) (by rw[<- hcl'];exact hj2)
           rw[hj] at h5
           rw[<- h5,Addr.add_add,show k * m+(j - (PT.cellsL l).length)=j by omega]
     obtain⟨l,hll,h1,h2,h3,h4⟩:=build len (Zg _)
     subst hll
     refine⟨.sl (some a) cap m l,by simp only[dn];exact⟨_,_,_,rfl,h1⟩,rfl,⟨hl,hc,fun j v hj=>?_,fun u hu=>by rw[mq e u (h1 u hu),hsz],h2⟩,h3⟩
     have h0:0<(PT.cellsL l).length:=by have:=(List.getElem?_eq_some_iff.1 hj).1;omega
     have hz:=h4 0 _ (Za h0)
     rw[Addr.add_zero'] at hz
     obtain⟨b,o,rfl⟩:=aaw hz
     have hv:=h4 j v hj
     rw[Addr.add_lit] at hv
     exact⟨b,o,rfl,World.block_lt_of_cell? w _ hz,hv⟩
   ·cases ht
theorem yt:∀(l:List Ty) (fs:List Field) (off fuel:Nat) (cs:List Value),agI P l fs off=true->cs.length=off+Ty.sizeL l ->
   (∀(i:Nat) (f:Field),fs[i]?=some f->∃y,DataW.trod enc P w base spare held fuel f.type ((cs.drop f.offset).take (P.cellsOf f.type))=some y) ->
   ∃ts:List PT,ex l ts/\PT.cellsL ts=cs.drop off/\cZ w (·<w.heap.size) ts/\PT.saneL ts
 | [],fs,off,fuel,cs,h,hl,_=>by
   refine⟨[],by simp[ex], ?_,trivial,trivial⟩
   rw[Yc (by rw[hl];simp[Ty.sizeL])];rfl
 | τ::r,[],off,fuel,cs,h,hl,_=>by simp[agI] at h
 | τ::r,f::fs,off,fuel,cs,h,hl,hf=>by
   simp only[agI,Zq,beq_iff_eq] at h
   obtain⟨⟨⟨h1,h2⟩,h3⟩,h4⟩:=h
   obtain⟨y,hy⟩:=hf 0 f rfl
   rw[h1,h3] at hy
   obtain⟨t,ht1,ht2,ht3,ht4⟩:=oJ τ f.type fuel _ y h2 hy
   obtain⟨ts,hs1,hs2,hs3,hs4⟩:=yt r fs (off+τ.size) fuel cs h4 (by rw[hl];simp only[Ty.sizeL];omega) (fun i g hg=>hf (i+1) g (by simpa using hg))
   refine⟨t::ts,by simp only[ex];exact⟨t,ts,rfl,ht1,hs1⟩, ?_,⟨ht3,hs3⟩,⟨ht4,hs4⟩⟩
   simp only[PT.cellsL]
   rw[ht2,hs2,<- List.drop_drop]
   exact Y5 _ _
end
end
def jU (w:World) (g:Nat) (e:TypeId) (N:Nat) (xs:List Value):Prop :=
 ∃cur,w.heap[g]?=some (.cells cur e (0,0))/\cur.size=N/\xs.length<=N/\cur.toList.take xs.length=xs
section
variable {w w':World} {g:Nat} {e:TypeId} {N:Nat} {xs:List Value}
theorem jU.lt (h:jU w g e N xs):g<w.heap.size:=by
 obtain⟨cur,h1,_⟩:=h
 exact(Array.getElem?_eq_some_iff.1 h1).1
theorem jU.cell (h:jU w g e N xs) {i:Nat} (hi:i<N):∃u,w.cell? ⟨g,i,none⟩=some u:=by
 obtain⟨cur,h1,h2,_⟩:=h
 exact⟨_,by rw[cell_of_row w g i cur e (0,0) h1];exact Z6 (by omega)⟩
theorem jU.frozen (h:jU w g e N xs) (i:Nat):w.frozen? ⟨g,i,none⟩=false:=by
 obtain⟨cur,h1,_⟩:=h
 simp[World.frozen?,h1]
theorem jU.made (w:World) (z:Value) (n:Nat) (e:TypeId):jU (w.alloc (.cells (madeCells #[z] n) e)) w.heap.size e n [] :=
 ⟨_,heap_alloc_new w _,by simp[madeCells],by simp,by simp⟩
theorem jU.same (h:jU w g e N xs) (hb:w'.heap[g]?=w.heap[g]?):jU w' g e N xs:=by
 obtain⟨cur,h1,h2⟩:=h
 exact⟨cur,hb.trans h1,h2⟩
theorem jU.below {B:Nat} (h:jU w g e N xs) (hb:Below B w w') (hg:g<B):jU w' g e N xs:=h.same (hb.block g hg)
theorem jU.alloc (h:jU w g e N xs) (o:Obj):jU (w.alloc o) g e N xs:=h.same (Below.heap_alloc w o g h.lt)
theorem jU.far (h:jU w g e N xs) {p:Addr} (hp:g≠p.block) (u:Value):jU (w.setCell p u) g e N xs:=h.same (Below.heap_setCell w p u g hp)
theorem jU.drew (h:jU w g e N xs):jU w.drew g e N xs:=h
theorem jU.push (h:jU w g e N xs) {i:Nat} (hi:i=xs.length) (hN:i<N) (u:Value):jU (w.setCell ⟨g,i,none⟩ u) g e N (xs++[u]):=by
 obtain⟨cur,h1,h2,h3,h4⟩:=h
 subst hi
 refine⟨cur.setIfInBounds xs.length u,by simp[World.setCell,Array.getElem?_modify,h1],by simpa using h2,by simp;omega, ?_⟩
 rw[Array.toList_setIfInBounds,Zh,Xl,Ye,List.take_set]
 rw[List.set_eq_of_length_le (by simp;omega),h4]
 simp[h2,hN]
theorem jU.own {l:List PT} {c m:Nat} (h:jU w g e (c * m) (PT.cellsL l)) (hm:∀t∈l,t.cells.length=m) (hl:l.length<=c) (hc:c<=maxLen) (ho:j7 w l):Own w (.sl (some ⟨g,0,none⟩) c m l):=by
 obtain⟨cur,h1,h2,h3,h4⟩:=h
 have hL:=PT.length_cellsL hm
 exact fX hm hL h1 hl hc h2 (by rw[<- hL];exact h4) ho
end
theorem ry {P:Program} (t e:TypeId) (z:Value) (m bytes:Nat) (ht:P.underlying t=some (.slice e)) (hinfo:(P.info? e).map (fun i=>(i.zero,i.size,i.bytes))=some (some z,m,bytes))
   (kl kc:IntKind) (n:Nat) (hbytes:bytes * n<=281474976710656) (h63:n<=9223372036854775807) (w:World) :
   (Instr.makeSlice t (.int kl (n:Int)) (.int kc (n:Int))).run P w=.ok (.slice (some ⟨w.heap.size,0,none⟩) n n) (w.alloc (.cells (madeCells z.cells (n * m)) e)):=by
 obtain⟨i,hi,hzz⟩:=Option.map_eq_some_iff.1 hinfo
 simp only[Zp] at hzz
 obtain⟨hz,hs,hb⟩:=hzz
 have hb':(i.bytes:Int) * (n:Int)<=281474976710656:=by
   have h:((i.bytes * n:Nat):Int)<=281474976710656:=by rw[hb];omega
   rwa [Int.natCast_mul] at h
 have hr:=run_make (P:=P) w t e i z ht hi hz kl kc n n (by omega) (Int.le_refl _) hb' (by omega)
 simp only[ZB,hs] at hr
 exact hr
structure tC {α:Type} (f:α->PT) (m:Nat):Prop where
 cells:∀x,(f x).cells.length=m
 blocks:∀x,(f x).blocks=[]
 own:∀x w,Own w (f x)
 seen:∀x w S,eF w S (f x)
section
variable {α:Type} {f:α->PT} {m:Nat} {w:World} {S:Nat->Prop}
theorem tC.cellsL (h:tC f m) (l:List α):∀t∈l.map f,t.cells.length=m:=fun t ht=>by
 obtain⟨x,_,rfl⟩:=List.mem_map.1 ht;exact h.cells x
theorem tC.blocksL (h:tC f m) (l:List α):PT.blocksL (l.map f)=[]:=by
 induction l with
 | nil=>rfl
 | cons z r ih=>simp only[ZU,PT.blocksL,h.blocks,ih,Zt]
theorem tC.ownL (h:tC f m) (l:List α):j7 w (l.map f):=j7.of_get fun t ht=>by
 obtain⟨x,_,rfl⟩:=List.mem_map.1 ht;exact h.own x w
theorem tC.length (h:tC f m) (l:List α):(PT.cellsL (l.map f)).length=l.length * m:=by
 rw[PT.length_cellsL (h.cellsL l),Zf]
theorem tC.owned (h:tC f m) {g c:Nat} {e:TypeId} {l:List α} (hf:jU w g e (c * m) (PT.cellsL (l.map f))) (hl:l.length<=c) (hc:c<=maxLen) (hS:S g):dg w S (.sl (some ⟨g,0,none⟩) c m (l.map f)) :=
 ⟨jU.own hf (h.cellsL l) (by simpa using hl) hc (h.ownL l),by simp[PT.blocks,h.blocksL,PT.rowOf],by simpa [PT.blocks,h.blocksL,PT.rowOf] using hS⟩
theorem tC.none (h:tC f m):eF w S (.sl none 0 m (([]:List α).map f)):=⟨by simp,by simp,kP.nil _ _ _,by simp,trivial⟩
end
def AtL {α:Type} (R:PT->α->Prop) (l:List PT) (xs:List α):Prop:=l.length=xs.length/\∀(i:Nat) (t:PT) (x:α),l[i]?=some t->xs[i]?=some x->R t x
section
variable {α:Type} {R:PT->α->Prop} {l:List PT} {xs:List α}
theorem AtL.get (h:AtL R l xs) {k:Nat} (hk:k<l.length):R l[k] (xs[k]'(by have:=h.1;omega)):=h.2 k _ _ (Za hk) (Za _)
theorem AtL.nil:AtL R [] ([]:List α):=⟨rfl,by simp⟩
theorem AtL.cells {m:Nat} (h:AtL R l xs) (hm:∀t x,R t x->t.cells.length=m):∀t∈l,t.cells.length=m:=fun t ht=>by
 obtain⟨i,hi,rfl⟩:=ZD ht
 exact hm _ _ (h.get hi)
end
theorem uO {α:Type} {R:PT->α->Prop} {l:List PT} (h:∀t∈l,∃x,R t x):∃xs,AtL R l xs:=by
 induction l with
 | nil=>exact⟨[],AtL.nil⟩
 | cons t r ih =>
   obtain⟨x,hx⟩:=h t (by simp)
   obtain⟨xs,hxs⟩:=ih fun u hu=>h u (by simp[hu])
   refine⟨x::xs,by simp[hxs.1],fun i u y hu hy=>?_⟩
   cases i with
   | zero=>simp at hu hy;subst hu;subst hy;exact hx
   | succ i=>exact hxs.2 i u y (by simpa using hu) (by simpa using hy)
theorem jl {α:Type} {f:α->PT} {l:List PT} (h:∀t∈l,∃x,t=f x):∃xs:List α,l=xs.map f:=by
 induction l with
 | nil=>exact⟨[],rfl⟩
 | cons t r ih =>
   obtain⟨x,hx⟩:=h t (by simp)
   obtain⟨xs,hxs⟩:=ih fun u hu=>h u (by simp[hu])
   exact⟨x::xs,by simp[hx,hxs]⟩
def ey (w:World) (lo hi:Nat) (ts:List PT):Prop:=j7 w ts/\(PT.blocksL ts).Nodup/\∀b∈PT.blocksL ts,Rng lo hi b
section
variable {w w':World} {lo mid hi:Nat}
theorem ey.nil:ey w lo hi []:=⟨trivial,by simp[PT.blocksL],by simp[PT.blocksL]⟩
theorem ey.cons {ts:List PT} {t:PT} (ht:dg w (Rng lo mid) t) (h:ey w mid hi ts) (hl:lo<=mid) (hm:mid<=hi):ey w lo hi (t::ts):=by
 refine⟨⟨ht.1,h.1⟩, ?_,fun b hb=>?_⟩
 ·simp only[PT.blocksL,Xg]
  refine⟨ht.2.1,h.2.1,fun a ha b hb=>?_⟩
  have h1:=(ht.2.2 a ha).2
  have h2:=(h.2.2 b hb).1
  omega
 ·simp only[PT.blocksL,ZO] at hb
  rcases hb with hb|hb
  ·have:=ht.2.2 b hb;exact⟨this.1,ZJ this.2 hm⟩
  ·have:=h.2.2 b hb;exact⟨Z0 hl this.1,this.2⟩
theorem ey.flat {ts:List PT} {t:PT} (hb:t.blocks=[]) (ho:Own w t) (h:ey w lo hi ts):ey w lo hi (t::ts) :=
 ⟨⟨ho,h.1⟩,by simpa [PT.blocksL,hb] using h.2.1,by simpa [PT.blocksL,hb] using h.2.2⟩
theorem ey.agg {ts:List PT} {S:Nat->Prop} (h:ey w lo hi ts) (hS:∀b,Rng lo hi b->S b):dg w S (.agg ts):=⟨h.1,h.2.1,fun b hb=>hS b (h.2.2 b hb)⟩
theorem ey.keep {ts:List PT} (h:ey w lo hi ts) (hk:∀b,Rng lo hi b->b<w.heap.size->w'.heap[b]?=w.heap[b]?):ey w' lo hi ts :=
 ⟨jf.2 ts h.1 fun b hb=>hk b (h.2.2 b hb) (vE.2 ts h.1 b hb),h.2.1,h.2.2⟩
theorem ey.below {ts:List PT} (h:ey w lo hi ts) (hb:Below w.heap.size w w'):ey w' lo hi ts:=h.keep fun b _ hlt=>hb.block b hlt
theorem ey.far {ts:List PT} (h:ey w lo hi ts) {p:Addr} (hp:p.block<lo) (u:Value):ey (w.setCell p u) lo hi ts :=
 h.keep fun b hb _=>Below.heap_setCell _ _ _ _ (by have:=hb.1;omega)
theorem dg.far {S:Nat->Prop} {t:PT} (h:dg w S t) {p:Addr} (hp:¬ S p.block) (u:Value):dg (w.setCell p u) S t :=
 h.keep fun b hb _=>Below.heap_setCell _ _ _ _ (fun e=>hp (e ▸ hb))
theorem ey.slice {ts:List PT} {g c m:Nat} {e:TypeId} {S:Nat->Prop} (h:ey w lo hi ts) (hf:jU w g e (c * m) (PT.cellsL ts)) (hm:∀t∈ts,t.cells.length=m) (hl:ts.length<=c) (hc:c<=maxLen) (hg:g<lo) (hS:∀b,g<=b->S b) :
   dg w S (.sl (some ⟨g,0,none⟩) c m ts):=by
 refine⟨jU.own hf hm hl hc h.1, ?_,fun b hb=>?_⟩
 ·simp only[PT.blocks,PT.rowOf,Xk,List.nodup_cons]
  exact⟨fun hb=>by have:=(h.2.2 g hb).1;omega,h.2.1⟩
 ·simp only[PT.blocks,PT.rowOf,ZO,ZM] at hb
  rcases hb with rfl|hb
  ·exact hS b (Zg _)
  ·exact hS b (by have:=(h.2.2 b hb).1;omega)
end
def i64 (n:Int):Prop:=-9223372036854775808<=n/\n<=9223372036854775807
theorem cC {n:Int} (h:(Lit.int .i64 n).wf=true):i64 n:=bounds_i64 h
inductive TV where
 | int (k:IntKind) (n:Int)
 | bool (b:Bool)
 | str (s:ByteArray)
 | agg (l:List TV)
 | sl (f:Nat) (m:Nat) (rows:List (List TV))
 | cp (f:Nat) (l:List TV)
 | nilp
 | nils
 | ms (s b off len:Nat)
 | mp (s b off:Nat)
 | me (s b m k j:Nat)
 | tup (l:List TV)
 | fn (f:FuncId) (l:List TV)
 | top
 | gh (l:List (TV×Value))
def TV.isCell:TV->Bool
 | .agg _=>false
 | .tup _=>false
 | .top=>false
 | .gh _=>false
 | _=>true
inductive aV where
 | row (m:Nat) (rows:List (List TV))
 | box (cells:List TV)
 | void
 | iter (s:ByteArray) (pos:Nat)
abbrev aG:=List (Nat×Nat×aV)
abbrev Env:=List (Nat×TV)
def lk (t:Nat):Env->Option TV
 | []=>none
 | (s,v)::r=>bif Nat.beq s t then some v else lk t r
theorem aaf {s t:Nat} (h:s≠t):Nat.beq s t=false:=by
 cases hb:Nat.beq s t
 ·rfl
 ·exact absurd (Yi hb) h
theorem wq {s t:Nat} (h:Nat.beq s t=false):s≠t:=Nat.ne_of_beq_eq_false h
theorem cK (t s:Nat) (v:TV) (r:Env):lk t ((s,v)::r)=if s=t then some v else lk t r:=by
 show (bif Nat.beq s t then some v else lk t r)=_
 by_cases h:s=t
 ·subst h;simp
 ·rw[aaf h,if_neg h];rfl
def qm (objs:aG) (b:Nat):Prop:=b≠0/\∃s o,(s,b,o)∈objs
def ZZ (objs:aG) (lo:Nat) (b:Nat):Prop:=lo<=b/\¬ qm objs b
def dr:Nat×Nat×aV:=(0,0,.row 0 [])
def afY (w:World) (objs:aG) (s b off len:Nat) (v:Value):Prop :=
 (b<w.heap.size/\dr∉objs/\∃A c,v=Value.slice A len c)/\(b=0->off=0/\len=0/\v=.slice none 0 0)/\∀m rows,b≠0->(s,b,aV.row m rows)∈objs ->
   ∃o c e n,v=.slice (some ⟨b,o,none⟩) len c/\len<=c/\w.shape? b=some (e,n)/\n=(off+c) * m/\(0<c\/off=0->o=off * m)
theorem afY.or {w:World} {objs:aG} {s b off len:Nat} {v:Value} (h:afY w objs s b off len v) (m:Nat) (rows:List (List TV)) (hm:(s,b,aV.row m rows)∈objs) :
   (b=0/\off=0/\len=0/\v=.slice none 0 0) \/
   (b≠0/\∃o c e n,v=.slice (some ⟨b,o,none⟩) len c/\len<=c/\w.shape? b=some (e,n)/\n=(off+c) * m/\(0<c\/off=0->o=off * m)):=by
 by_cases hb:b=0
 ·exact .inl ⟨hb,h.2.1 hb⟩
 ·exact .inr ⟨hb,h.2.2 m rows hb hm⟩
theorem afY.mk {w:World} {objs:aG} {s b off len:Nat} {v:Value} (h1:b<w.heap.size/\dr∉objs/\∃A c,v=Value.slice A len c) (h2:∀(m:Nat) (rows:List (List TV)),(s,b,aV.row m rows)∈objs ->
   (b=0/\off=0/\len=0/\v=.slice none 0 0) \/
   (b≠0/\∃o c e n,v=.slice (some ⟨b,o,none⟩) len c/\len<=c/\w.shape? b=some (e,n)/\n=(off+c) * m/\(0<c\/off=0->o=off * m))) (h3:b=0->off=0/\len=0/\v=.slice none 0 0):afY w objs s b off len v :=
 ⟨h1,h3,fun m rows hb hm=>(h2 m rows hm).elim (fun h=>absurd h.1 hb) (fun h=>h.2)⟩
inductive Rep (w:World) (objs:aG):TV->Value->Prop
 | int (k:IntKind) (n:Int):Rep w objs (.int k n) (.int k n)
 | bool (b:Bool):Rep w objs (.bool b) (.bool b)
 | str (s:ByteArray):Rep w objs (.str s) (.string s)
 | agg (l:List TV) (vs:Array Value) (hi:∀t∈l,t.isCell=true) (h:l.length=vs.size) (h2:∀(i:Nat) (t:TV) (v:Value),l[i]?=some t->vs[i]?=some v->Rep w objs t v):Rep w objs (.agg l) (.agg vs)
 | sl (f : Nat) (m : Nat) (rows : List (List TV)) (A : Option Addr) (c : Nat) (h1 : rows.length <= c) (h2 : c <= maxLen) (hm : ∀ r ∈ rows, r.length = m) (hi : ∀ t ∈ rows.flatten, t.isCell = true) (g : Nat -> Value)
     (hc:∀(j:Nat) (t:TV),rows.flatten[j]?=some t->∃b o,A=some ⟨b,o,none⟩/\ZZ objs f b/\w.cell? ⟨b,o+j,none⟩=some (g j))
     (hr:∀(j:Nat) (t:TV),rows.flatten[j]?=some t->Rep w objs t (g j)):Rep w objs (.sl f m rows) (.slice A rows.length c)
 | cp (f : Nat) (l : List TV) (hi : ∀ t ∈ l, t.isCell = true) (b o : Nat) (g : Nat -> Value) (hZ : ZZ objs f b) (hb : b < w.heap.size) (hc : ∀ (j : Nat) (t : TV), l[j]? = some t -> w.cell? ⟨b, o + j, none⟩ = some (g j))
     (hr:∀(j:Nat) (t:TV),l[j]?=some t->Rep w objs t (g j)):Rep w objs (.cp f l) (.pointer (some ⟨b,o,none⟩))
 | nilp:Rep w objs .nilp (.pointer none)
 | nilf:Rep w objs .nilp .nilFunc
 | nils:Rep w objs .nils (.slice none 0 0)
 | ms (s b off len:Nat) (v:Value) (h:afY w objs s b off len v):Rep w objs (.ms s b off len) v
 | mp (s b off:Nat) (h:b<w.heap.size/\dr∉objs):Rep w objs (.mp s b off) (.pointer (some ⟨b,off,none⟩))
 | me (s b m k j:Nat) (h:b<w.heap.size/\dr∉objs):Rep w objs (.me s b m k j) (.pointer (some ⟨b,k * m+j,none⟩))
 | tup (l:List TV) (vs:Array Value) (h:l.length=vs.size) (h2:∀(i:Nat) (t:TV) (v:Value),l[i]?=some t->vs[i]?=some v->Rep w objs t v):Rep w objs (.tup l) (.tuple vs)
 | fn (f:FuncId) (l:List TV) (vs:Array Value) (h:l.length=vs.size) (h2:∀(i:Nat) (t:TV) (v:Value),l[i]?=some t->vs[i]?=some v->Rep w objs t v):Rep w objs (.fn f l) (.func (.func f) #[] vs)
 | top (v:Value):Rep w objs .top v
 | gh (l:List (TV×Value)) (v:Value) (h:∀(i:Nat) (t:TV) (u:Value),l[i]?=some (t,u)->Rep w objs t u):Rep w objs (.gh l) v
def uz (w:World) (B:Nat) (objs:aG) (b:Nat):aV->Prop
 | .void=>b=0
 | .iter s pos=>B<=b/\w.heap[b]?=some (.stringIter s pos)
 | .row m rows => (0 < m /\ ∀ t ∈ rows.flatten, t.isCell = true) /\ (∀ r ∈ rows, r.length = m) /\ ((b = 0 /\ rows = []) \/ (B <= b /\ ∃ cur e cap, w.heap[b]? = some (.cells cur e (0, 0)) /\ cur.size = cap * m /\ rows.length <= cap /\ cap <= maxLen /\
     ∀(j:Nat) (t:TV),rows.flatten[j]?=some t->∃v,cur[j]?=some v/\Rep w objs t v))
 | .box cells=>(B<=b/\∀t∈cells,t.isCell=true)/\∃cur e,w.heap[b]?=some (.cells cur e (0,0))/\cur.size=cells.length/\∀(j:Nat) (t:TV),cells[j]?=some t->∃v,cur[j]?=some v/\Rep w objs t v
structure kQ (w:World) (objs:aG) (w':World) (objs':aG):Prop where
 blk:∀b,b<w.heap.size->¬ qm objs b->w'.heap[b]?=w.heap[b]?
 al:∀b,b<w.heap.size->qm objs' b->qm objs b
 ms:∀s b m rows,b<w.heap.size->b≠0->(s,b,aV.row m rows)∈objs'->(∃rows0,(s,b,aV.row m rows0)∈objs)/\w'.shape? b=w.shape? b
 size:w.heap.size<=w'.heap.size
 mark:dr∈objs'->dr∈objs
theorem rm {w:World} {a:Addr} {v:Value} (h:w.cell? a=some v):a.block<w.heap.size:=World.block_lt_of_cell? w a h
theorem Rep.step {w w':World} {objs objs':aG} (hs:kQ w objs w' objs') {t:TV} {v:Value} (h:Rep w objs t v):Rep w' objs' t v:=by
 have hcell:∀(f:Nat) b o v,ZZ objs f b->w.cell? ⟨b,o,none⟩=some v->ZZ objs' f b/\w'.cell? ⟨b,o,none⟩=some v:=fun f b o v hz hc=>by
   have hb:=rm hc
   exact⟨⟨hz.1,fun ha=>hz.2 (hs.al b hb ha)⟩,(World.cell?_of_block (w:=w) (w':=w') (a:=⟨b,o,none⟩) (hs.blk b hb hz.2)).trans hc⟩
 induction h with
 | int k n=>exact .int k n
 | bool b=>exact .bool b
 | str s=>exact .str s
 | agg l vs hi h h2 ih=>exact .agg l vs hi h ih
 | sl f m rows A c h1 h2 hm hi g hc hr ih =>
   refine .sl f m rows A c h1 h2 hm hi g (fun j t hj=>?_) ih
   obtain⟨b,o,hA,hz,hcc⟩:=hc j t hj
   obtain⟨h3,h4⟩:=hcell f b (o+j) _ hz hcc
   exact⟨b,o,hA,h3,h4⟩
 | cp f l hi b o g hZ hb hc hr ih =>
   exact .cp f l hi b o g ⟨hZ.1,fun ha=>hZ.2 (hs.al b hb ha)⟩ (ZJ hb hs.size) (fun j t hj=>(hcell f b (o+j) _ hZ (hc j t hj)).2) ih
 | nilp=>exact .nilp
 | nilf=>exact .nilf
 | nils=>exact .nils
 | ms s b off len v h =>
   refine .ms s b off len v ⟨⟨ZJ h.1.1 hs.size,fun hk=>h.1.2.1 (hs.mark hk),h.1.2.2⟩,h.2.1,fun m rows hb hm=>?_⟩
   obtain⟨⟨rows0,h0⟩,hsh⟩:=hs.ms s b m rows h.1.1 hb hm
   obtain⟨o,c,e,n,h3,h4,h5,h6⟩:=h.2.2 m rows0 hb h0
   exact⟨o,c,e,n,h3,h4,hsh.trans h5,h6⟩
 | mp s b off h=>exact .mp s b off ⟨ZJ h.1 hs.size,fun hk=>h.2 (hs.mark hk)⟩
 | me s b m k j h=>exact .me s b m k j ⟨ZJ h.1 hs.size,fun hk=>h.2 (hs.mark hk)⟩
 | tup l vs h h2 ih=>exact .tup l vs h ih
 | fn f l vs h h2 ih=>exact .fn f l vs h ih
 | top v=>exact .top v
 | gh l v h ih=>exact .gh l v ih
abbrev fL:Nat×Nat×aV->Nat×Nat×aV->Prop:=fun x y=>x.1≠y.1/\(x.2.1≠y.2.1\/x.2.1=0)
structure eo (w0:World) (objs:aG) (w:World):Prop where
 below:Below w0.heap.size w0 w
 pos:0<w0.heap.size
 obj:∀s b o,(s,b,o)∈objs->uz w w0.heap.size objs b o
 sites:List.Pairwise fL objs
theorem eo.noMark {w0 w:World} {objs:aG} (h:eo w0 objs w):dr∉objs:=fun hm=>absurd (h.obj 0 0 _ hm).1.1 (YK _)
structure Sim (w0:World) (N:Nat) (env:Env) (objs:aG) (a:Act) (w:World):Prop where
 defers:a.defers=[]
 size:a.tmps.size=N
 mem:eo w0 objs w
 env:∀t v,lk t env=some v->Rep w objs v (a.tmps.getD t undef)
structure AW (P:Program) (w0:World) (N:Nat) (c:Code) (Q:Exit->Act->World->Prop) (env:Env) (objs:aG):Prop where
 run:∀a w,Sim w0 N env objs a w->c.wp P Q a w
structure AL (P:Program) (w0:World) (N:Nat) (ops:Array Oper) (Q:Exit->Act->World->Prop) (rest:List Oper) (env:Env) (objs:aG):Prop where
 run:∀a w,Sim w0 N env objs a w->wpList P ops Q rest a w
structure AO (P:Program) (w0:World) (N:Nat) (ops:Array Oper) (Q:Exit->Act->World->Prop) (o:Oper) (rest:List Oper) (env:Env) (objs:aG):Prop where
 run:∀a w (K:Act->World->Prop),Sim w0 N env objs a w->(∀a w,wpList P ops Q rest a w->K a w)->o.wp P a w K Q
structure AQ (w0:World) (N:Nat) (Q:Exit->Act->World->Prop) (x:Exit) (env:Env) (objs:aG):Prop where
 run:∀a w,Sim w0 N env objs a w->Q x a w
section
variable {P:Program} {w0:World} {N:Nat} {Q:Exit->Act->World->Prop} {env:Env} {objs:aG}
theorem d8 {x y:Code} (h:AW P w0 N x (Exit.then (y.wp P Q) Q) env objs):AW P w0 N (.seq x y) Q env objs:=⟨fun a w hs=>wp_seq (h.run a w hs)⟩
theorem eI (h:AQ w0 N Q .normal env objs):AW P w0 N .skip Q env objs:=⟨fun a w hs=>wp_skip (h.run a w hs)⟩
theorem eL {id:Nat} (h:AQ w0 N Q (.exit id) env objs):AW P w0 N (.exit id) Q env objs:=⟨fun a w hs=>wp_exit (h.run a w hs)⟩
theorem gG (h:AQ w0 N Q .ret env objs):AW P w0 N .ret Q env objs:=⟨fun a w hs=>wp_ret (h.run a w hs)⟩
theorem du {id:Nat} {c:Code} (h:AW P w0 N c (Exit.inBlock id Q) env objs):AW P w0 N (.block id c) Q env objs:=⟨fun a w hs=>wp_block (h.run a w hs)⟩
theorem cP {id:Nat} {l:List Oper} (h:AL P w0 N l.toArray Q l env objs):AW P w0 N (.region id l.toArray false) Q env objs:=⟨fun a w hs=>wp_region_lit (h.run a w hs)⟩
theorem gp {ops:Array Oper} (h:AQ w0 N Q .normal env objs):AL P w0 N ops Q [] env objs:=⟨fun a w hs=>wpList_nil (h.run a w hs)⟩
theorem eK {y:Code} (h:AW P w0 N y Q env objs):AQ w0 N (Exit.then (y.wp P Q) Q) .normal env objs:=⟨h.run⟩
theorem bM {K:Act->World->Prop} {id:Nat} (h:AQ w0 N Q (.exit id) env objs):AQ w0 N (Exit.then K Q) (.exit id) env objs:=⟨h.run⟩
theorem bZ {K:Act->World->Prop} (h:AQ w0 N Q .ret env objs):AQ w0 N (Exit.then K Q) .ret env objs:=⟨h.run⟩
theorem dG {id:Nat} (h:AQ w0 N Q .normal env objs):AQ w0 N (Exit.inBlock id Q) .normal env objs:=⟨h.run⟩
theorem bN {id:Nat} (h:AQ w0 N Q .ret env objs):AQ w0 N (Exit.inBlock id Q) .ret env objs:=⟨h.run⟩
theorem bP {id:Nat} (h:AQ w0 N Q .normal env objs):AQ w0 N (Exit.inBlock id Q) (.exit id) env objs:=⟨fun a w hs=>by
 show (if id=id then _ else _)
 rw[if_pos rfl];exact h.run a w hs⟩
theorem bE {id id':Nat} (hn:Nat.beq id' id=false) (h:AQ w0 N Q (.exit id') env objs):AQ w0 N (Exit.inBlock id Q) (.exit id') env objs:=⟨fun a w hs=>by
 show (if id'=id then _ else _)
 rw[if_neg (wq hn)];exact h.run a w hs⟩
theorem Rep.bool_inv {w:World} {b:Bool} {v:Value} (h:Rep w objs (.bool b) v):v=.bool b:=by cases h;rfl
theorem Rep.int_inv {w:World} {k:IntKind} {n:Int} {v:Value} (h:Rep w objs (.int k n) v):v=.int k n:=by cases h;rfl
theorem Rep.str_inv {w:World} {s:ByteArray} {v:Value} (h:Rep w objs (.str s) v):v=.string s:=by cases h;rfl
theorem eZ {t:Nat} {v:TV} {p:Prop} {i:Decidable p} {x y:Code} (hl:lk t env=some v) (he:v=.bool (@decide p i)) (ht:p->AW P w0 N x Q env objs) (hf:¬ p->AW P w0 N y Q env objs):AW P w0 N (.cond (.tmp t) x y) Q env objs:=⟨fun a w hs=>by
 have hv:a.eval (.tmp t)=.bool (decide p):=(hs.env t _ (he ▸ hl)).bool_inv
 by_cases h:p
 ·exact wp_cond_true (by rw[hv];simp[h]) ((ht h).run a w hs)
 ·exact wp_cond_false (by rw[hv];simp[h]) ((hf h).run a w hs)⟩
theorem dQ {t:Nat} {v:TV} {b:Bool} {x y:Code} (hl:lk t env=some v) (he:v=.bool b) (ht:b=true->AW P w0 N x Q env objs) (hf:b=false->AW P w0 N y Q env objs):AW P w0 N (.cond (.tmp t) x y) Q env objs:=⟨fun a w hs=>by
 have hv:a.eval (.tmp t)=.bool b:=(hs.env t _ (he ▸ hl)).bool_inv
 exact wp_cond_split hv (fun h=>(ht h).run a w hs) (fun h=>(hf h).run a w hs)⟩
theorem cQ {t:Nat} {v:TV} {x y:Code} (hl:lk t env=some v) (he:v=.bool true) (ht:AW P w0 N x Q env objs):AW P w0 N (.cond (.tmp t) x y) Q env objs:=⟨fun a w hs=>wp_cond_true (hs.env t _ (he ▸ hl)).bool_inv (ht.run a w hs)⟩
theorem cO {t:Nat} {v:TV} {x y:Code} (hl:lk t env=some v) (he:v=.bool false) (hf:AW P w0 N y Q env objs):AW P w0 N (.cond (.tmp t) x y) Q env objs:=⟨fun a w hs=>wp_cond_false (hs.env t _ (he ▸ hl)).bool_inv (hf.run a w hs)⟩
theorem cw {t:Nat} {v:TV} {p:Prop} {i:Decidable p} {x y:Code} (hl:lk t env=some v) (he:v=.bool (@decide p i)) (hp:p) (ht:AW P w0 N x Q env objs):AW P w0 N (.cond (.tmp t) x y) Q env objs:=eZ hl he (fun _=>ht) (fun h=>absurd hp h)
theorem cu {t:Nat} {v:TV} {p:Prop} {i:Decidable p} {x y:Code} (hl:lk t env=some v) (he:v=.bool (@decide p i)) (hp:¬ p) (hf:AW P w0 N y Q env objs):AW P w0 N (.cond (.tmp t) x y) Q env objs:=eZ hl he (fun h=>absurd h hp) (fun _=>hf)
structure bS (objs' objs:aG):Prop where
 mem:∀x∈objs',x∈objs
 sites:List.Pairwise fL objs->List.Pairwise fL objs'
theorem bS.refl (l:aG):bS l l:=⟨fun _ h=>h,id⟩
theorem bS.trans {a b c:aG} (h:bS a b) (k:bS b c):bS a c:=⟨fun x hx=>k.mem x (h.mem x hx),fun hp=>h.sites (k.sites hp)⟩
theorem bS.sub {a b:aG} (h:List.Sublist a b):bS a b:=⟨fun _ hx=>h.subset hx,fun hp=>hp.sublist h⟩
theorem fL.symm {x y:Nat×Nat×aV} (h:fL x y):fL y x:=⟨h.1.symm,by
 by_cases e:x.2.1=y.2.1
 ·rcases h.2 with h2|h2
  ·exact absurd e h2
  ·exact .inr (e ▸ h2)
 ·exact .inl (Ne.symm e)⟩
theorem bS.perm {a b:aG} (h:a.Perm b):bS a b:=⟨fun _ hx=>h.subset hx,fun hp=>h.symm.pairwise hp (fun h=>fL.symm h)⟩
theorem bS.nil (l:aG):bS [] l:=.sub (List.nil_sublist l)
inductive Del (x:Nat×Nat×aV):aG->aG->Prop
 | head (l:aG):Del x (x::l) l
 | tail (y:Nat×Nat×aV) (l l':aG) (h:Del x l l'):Del x (y::l) (y::l')
theorem Del.perm {x:Nat×Nat×aV} {l l':aG} (h:Del x l l'):(x::l').Perm l:=by
 induction h with
 | head l=>exact .refl _
 | tail y l l' h ih=>exact(List.Perm.swap y x l').trans (ih.cons y)
theorem bS.cons {x:Nat×Nat×aV} {l' l l1:aG} (hd:Del x l l1) (h:bS l' l1):bS (x::l') l:=by
 refine bS.trans ?_ (.perm hd.perm)
 refine⟨fun y hy=>?_,fun hp=>?_⟩
 ·rcases List.mem_cons.1 hy with rfl|hy
  ·exact Zi
  ·exact Zd _ (h.mem y hy)
 ·obtain⟨h1,h2⟩:=List.pairwise_cons.1 hp
  exact List.pairwise_cons.2 ⟨fun y hy=>h1 y (h.mem y hy),h.sites h2⟩
theorem bS.drop {x:Nat×Nat×aV} {l' l:aG} (h:bS l' l):bS l' (x::l):=h.trans (.sub (Xh x l))
structure cW (env:Env) (objs:aG) (env':Env) (objs':aG):Prop where
 env:∀t v,lk t env'=some v->lk t env=some v
 objs:bS objs' objs
theorem cW.envNil:∀t v,lk t []=some v->lk t env=some v:=fun t v h=>by simp[lk] at h
theorem cW.envCons {t:Nat} {v:TV} {env':Env} (h:lk t env=some v) (hr:∀t v,lk t env'=some v->lk t env=some v):∀t' v',lk t' ((t,v)::env')=some v'->lk t' env=some v':=fun t' v' h'=>by
 rw[cK] at h'
 split at h'
 ·rename_i e;subst e;rw[h,h']
 ·exact hr _ _ h'
theorem acs {objs':aG} (h:bS objs' objs) {b:Nat} (ha:qm objs' b):qm objs b:=⟨ha.1,let ⟨s,o,hm⟩:=ha.2;⟨s,o,h.mem _ hm⟩⟩
theorem jc {objs':aG} (h:bS objs' objs) (w:World):kQ w objs w objs' :=
 ⟨fun _ _ _=>rfl,fun _ _ ha=>acs h ha,fun _ _ _ rows _ _ hm=>⟨⟨rows,h.mem _ hm⟩,rfl⟩,Zg _,fun hk=>h.mem _ hk⟩
theorem uz.step {w w':World} {B b:Nat} {objs':aG} {o:aV} (hs:kQ w objs w' objs') (hb:w'.heap[b]?=w.heap[b]?) (h:uz w B objs b o):uz w' B objs' b o:=by
 cases o with
 | void=>exact h
 | iter s pos=>exact⟨h.1,hb.trans h.2⟩
 | row m rows =>
   refine⟨h.1,h.2.1,h.2.2.imp id fun⟨h1,cur,e,cap,h2,h3,h4,h5,h6⟩=>⟨h1,cur,e,cap,hb.trans h2,h3,h4,h5,fun j t hj=>?_⟩⟩
   obtain⟨v,h7,h8⟩:=h6 j t hj
   exact⟨v,h7,h8.step hs⟩
 | box cells =>
   obtain⟨h1,cur,e,h2,h3,h6⟩:=h
   refine⟨h1,cur,e,hb.trans h2,h3,fun j t hj=>?_⟩
   obtain⟨v,h7,h8⟩:=h6 j t hj
   exact⟨v,h7,h8.step hs⟩
theorem eo.sub {w:World} {objs':aG} (h:eo w0 objs w) (hsub:bS objs' objs):eo w0 objs' w :=
 ⟨h.below,h.pos,fun s b o hm=>(h.obj s b o (hsub.mem _ hm)).step (jc hsub w) rfl,hsub.sites h.sites⟩
theorem Sim.weak {a:Act} {w:World} {env':Env} {objs':aG} (h:Sim w0 N env objs a w) (k:cW env objs env' objs'):Sim w0 N env' objs' a w :=
 ⟨h.defers,h.size,h.mem.sub k.objs,fun t v ht=>(h.env t v (k.env t v ht)).step (jc k.objs w)⟩
def ah7 {X:Type} (w0:World) (N:Nat) (E:X->Env) (O:X->aG) (I:X->Prop) (μ:X->Nat) (n:Nat) (a:Act) (w:World):Prop:=∃x,I x/\μ x<n/\Sim w0 N (E x) (O x) a w
theorem aeR {X:Type} {body:Code} (E:X->Env) (O:X->aG) (I:X->Prop) (μ:X->Nat) (x0:X) (h0:I x0) (hw:cW env objs (E x0) (O x0))
   (round:∀x,I x->AW P w0 N body (Exit.then (ah7 w0 N E O I μ (μ x)) Q) (E x) (O x)):AW P w0 N (.loop body) Q env objs:=⟨fun a w hs=>by
 refine wp_loop_ghost (fun n a w=>∃x,I x/\μ x=n/\Sim w0 N (E x) (O x) a w) (μ x0) ⟨x0,h0,rfl,hs.weak hw⟩ ?_
 rintro n a w ⟨x,hI,rfl,hs⟩
 refine wp_mono ((round x hI).run a w hs) fun e a' w' hq=>?_
 cases e with
 | normal =>
   obtain⟨y,hy,hlt,hs'⟩:=hq
   exact⟨μ y,hlt,y,hy,rfl,hs'⟩
 | exit id=>exact hq
 | goto l=>exact hq
 | ret=>exact hq
 | panic c=>exact hq
 | outgrown=>exact hq⟩
theorem ah {X:Type} {E:X->Env} {O:X->aG} {I:X->Prop} {μ:X->Nat} {n:Nat} (y:X) (hI:I y) (hlt:μ y<n) (k:cW env objs (E y) (O y)):AQ w0 N (Exit.then (ah7 w0 N E O I μ n) Q) .normal env objs :=
 ⟨fun _ _ hs=>⟨y,hI,hlt,hs.weak k⟩⟩
def ais {X:Type} (w0:World) (N:Nat) (E:X->Env) (O:X->aG) (I:X->Prop) (a:Act) (w:World):Prop:=∃y,I y/\Sim w0 N (E y) (O y) a w
theorem eR {X:Type} {E:X->Env} {O:X->aG} {I:X->Prop} (y:X) (hI:I y) (k:cW env objs (E y) (O y)):AQ w0 N (Exit.then (ais w0 N E O I) Q) .normal env objs:=⟨fun _ _ hs=>⟨y,hI,hs.weak k⟩⟩
end
open Go
def ahq:List Nat:=[1,1,1,1,1,1,1,4,4,1,1,1,1,2,2,1,1,1,1,1,1,1,1,1,1,4,4,1,1,6,6,1,1,1,1,3,3,20,20,1,1,1,1,1,4,4,1,6,6,1,1,1,3,20,20,1,1,1,1,1,1,1,1,1,1,1,1,1,1,1,1,1,1,1,1,1,1,1,1,1,1,1,1,1,3,1,11,11,1,1,1,1,1,1,1,1,1,1,1,1,1,1,2,2,1,14,14,1,1,1,1,1,1,2,2,1,1,1,1,1,1,1,1,1,1,1,1,1,6,6,1,1,14,14,1,1,1,1,1,1,1,1,1,1,6,6,1,1,1,1,1,5,5,1,1,1,1,1,1,1,1,1,1,1,1,2,1,1,1,1,1,4,4,1,4,4,1,3,3,1,1,1,1,1,4,4,1,1,1,3,1,1,1,1,1,1,1,1,1,1,1,1,1,1,1,1,1,1,1,1,1,1,1,1,1,1,1,1,1,3,1,1,4,4,1,4,1,4,4,1,1,1,1,4,4,1,1,1,1,1,1,1,1,1,1,1,1,1,1,1,1,1,1,1,1,1,1,1,1,1,1,1,1,1,1,1,1,1,1,1,1,1,1,1,1,1,1,1,1,1,1,1,1,1,1,1,5,5,6,6,1,1,1,1,1,1,1,1,1,1,1,1,1,1,1,1,1,1,1,1,1,1,1,2,2,1,1,1,1,1,1,1,1,1,1,2,2,1,1,1,1,1,1,1,1,4,1,1,4,4,1,1,1,1,1,1,1,1,1,1,1,1,1,1,1,1,1,1,1,1,1,1,1,1,24,1,1,1,1,1,1,1,1,1,20,65,1,1,256,2,2,32,1,32,64,4,4,0,0,0,1,1,1,1,1,11,11,5,5]
def ahV:List (List Nat):=[[],[],[],[],[],[],[],[0,1,2,3],[0,1,2,3],[],[],[],[],[0,1],[0,1],[],[],[],[0],[0],[],[],[],[],[],[0,1,2,3],[0,1,2,3],[],[],[0,1,2,3,4,5],[0,1,2,3,4,5],[],[],[],[],[0,1,2],[0,1,2],[0,4,10,11,12,13,14,15,16,19],[0,4,10,11,12,13,14,15,16,19],[],[],[],[],[],[0,1,2,3],[0,1,2,3],[],[0,1,2,3,4,5],[0,1,2,3,4,5],[],[],[],[0,1,2],[0,4,10,11,12,13,14,15,16,19],[0,4,10,11,12,13,14,15,16,19],[],[],[],[],[],[],[],[],[],[],[],[],[],[],[],[],[],[],[],[],[],[],[],[],[],[],[],[],[],[],[],[0,1,2,5,8,9,10],[0,1,2,5,8,9,10],[],[],[],[],[],[],[],[],[],[],[],[],[],[],[0,1],[0,1],[],[0,1,2,3,4,5,6,9,10,11,12,13],[0,1,2,3,4,5,6,9,10,11,12,13],[],[],[],[],[],[],[0,1],[0,1],[],[],[],[],[],[],[],[],[],[],[],[],[],[0,1,2,3],[0,1,2,3],[],[],[0,1,2,3,4,5,6,9,10,11,12,13],[0,1,2,3,4,5,6,9,10,11,12,13],[],[],[],[],[],[],[],[],[],[],[0,1,2,3],[0,1,2,3],[],[],[],[],[],[0,1,2,3,4],[0,1,2,3,4],[],[],[],[],[],[],[],[],[],[],[],[],[0,1],[],[],[],[],[],[0,1,2,3],[0,1,2,3],[],[0,1,2,3],[0,1,2,3],[],[0,1,2],[0,1,2],[],[],[],[],[],[0,1,2,3],[0,1,2,3],[],[],[],[],[],[],[],[],[],[],[],[],[],[],[],[],[],[],[],[],[],[],[],[],[],[],[],[],[],[],[],[],[],[0,1,2],[],[],[0,1,2,3],[0,1,2,3],[],[0,1,2,3],[],[0,1,2,3],[0,1,2,3],[],[],[],[],[0,1,2,3],[0,1,2,3],[],[],[],[],[],[],[],[],[],[],[],[],[],[],[],[],[],[],[],[],[0],[0],[],[],[],[],[],[],[],[],[],[],[],[],[],[],[],[],[],[],[],[],[],[],[],[],[],[],[],[],[],[0,1,2,3,4],[0,1,2,3,4],[0,1],[0,1],[],[],[],[],[],[],[],[],[],[],[],[],[],[],[],[],[],[],[],[],[],[],[],[0,1],[0,1],[],[],[],[],[],[],[],[],[],[],[0,1],[0,1],[],[],[],[],[],[],[],[],[0,1,2,3],[],[],[0,1,2,3],[0,1,2,3],[],[],[],[],[],[],[],[],[],[],[],[],[],[],[],[],[],[],[],[],[],[],[],[],[],[],[],[],[],[],[],[],[],[],[],[],[],[],[],[0,1],[0,1],[],[],[],[],[0,1,2,3],[0,1,2,3],[],[0],[0],[],[],[],[],[],[0,1,2,3,4,5,6,7,8,9,10],[0,1,2,3,4,5,6,7,8,9,10],[0,1,2,3,4],[0,1,2,3,4]]
def szT (t:Nat):Nat:=ahq.getD t 0
def ofT (t k:Nat):Nat:=(ahV.getD t []).getD k 0
def aiC:List (List TV):=[[],[.nilp],[.int .i64 0],[.int .i64 0],[.bool false],[.int .u8 0],[.int .u8 0],[.int .i64 0,.int .i64 0,.bool false,.int .u8 0],[.int .i64 0,.int .i64 0,.bool false,.int .u8 0],[.str ⟨#[]⟩],[.str ⟨#[]⟩],[.str ⟨#[]⟩],[.int .u64 0],[.str ⟨#[]⟩,.int .u64 0],[.str ⟨#[]⟩,.int .u64 0],[.nilp],[.nilp],[.nilp],[.nilp],[.nilp],[],[.int .i32 0],[.nils],[.nils],[.nils],[.nils,.nils,.nils,.int .i64 0],[.nils,.nils,.nils,.int .i64 0],[.nils],[.nils],[.nils,.nils,.nils,.int .i64 0,.int .i64 0,.int .i64 0],[.nils,.nils,.nils,.int .i64 0,.int .i64 0,.int .i64 0],[.nils],[.nils],[.nils],[.nils],[.int .i64 0,.int .i64 0,.str ⟨#[]⟩],[.int .i64 0,.int .i64 0,.str ⟨#[]⟩],[.nils,.nils,.nils,.int .i64 0,.nils,.nils,.nils,.int .i64 0,.int .i64 0,.int .i64 0,.nils,.nils,.nils,.nils,.int .i64 0,.int .i64 0,.int .i64 0,.int .i64 0,.str ⟨#[]⟩,.str ⟨#[]⟩],[.nils,.nils,.nils,.int .i64 0,.nils,.nils,.nils,.int .i64 0,.int .i64 0,.int .i64 0,.nils,.nils,.nils,.nils,.int .i64 0,.int .i64 0,.int .i64 0,.int .i64 0,.str ⟨#[]⟩,.str ⟨#[]⟩],[.nilp],[.nilp],[.nils],[.nils],[.nils],[.nils,.nils,.nils,.int .i64 0],[.nils,.nils,.nils,.int .i64 0],[.nils],[.nils,.nils,.nils,.int .i64 0,.int .i64 0,.int .i64 0],[.nils,.nils,.nils,.int .i64 0,.int .i64 0,.int .i64 0],[.nils],[.nils],[.nils],[.int .i64 0,.int .i64 0,.str ⟨#[]⟩],[.nils,.nils,.nils,.int .i64 0,.nils,.nils,.nils,.int .i64 0,.int .i64 0,.int .i64 0,.nils,.nils,.nils,.nils,.int .i64 0,.int .i64 0,.int .i64 0,.int .i64 0,.str ⟨#[]⟩,.str ⟨#[]⟩],[.nils,.nils,.nils,.int .i64 0,.nils,.nils,.nils,.int .i64 0,.int .i64 0,.int .i64 0,.nils,.nils,.nils,.nils,.int .i64 0,.int .i64 0,.int .i64 0,.int .i64 0,.str ⟨#[]⟩,.str ⟨#[]⟩],[.nilp],[.nilp],[.nilp],[],[.nilp],[.nilp],[.nilp],[.nilp],[.nilp],[.nilp],[.nilp],[.nilp],[.nilp],[.nilp],[.nilp],[.nilp],[.nilp],[.nilp],[.nilp],[.nilp],[.nilp],[.nilp],[.nilp],[.nilp],[.nilp],[.nilp],[.nilp],[.nilp],[],[],[.nils],[],[],[.nilp],[.nilp],[.nilp],[.nilp],[.nilp],[.nilp],[.nilp],[.nilp],[.nilp],[.nilp],[.nilp],[.nilp],[.nilp],[.nilp],[.int .i64 0,.bool false],[.int .i64 0,.bool false],[.nils],[.int .i64 0,.int .i64 0,.int .i64 0,.int .i64 0,.int .i64 0,.int .i64 0,.int .i64 0,.int .i64 0,.str ⟨#[]⟩,.nils,.nils,.nils,.int .i64 0,.bool false],[.int .i64 0,.int .i64 0,.int .i64 0,.int .i64 0,.int .i64 0,.int .i64 0,.int .i64 0,.int .i64 0,.str ⟨#[]⟩,.nils,.nils,.nils,.int .i64 0,.bool false],[.nilp],[.nilp],[.nilp],[.nilp],[.nilp],[.nilp],[.nilp,.nilp],[.nilp,.nilp],[.nilp],[.nilp],[.nilp],[.nilp],[.nilp],[.nilp],[.nilp],[.nilp],[.nilp],[.nilp],[.nilp],[.nilp],[.nilp],[.int .i64 0,.int .i64 0,.int .i64 0,.int .i64 0,.int .i64 0,.str ⟨#[]⟩],[.int .i64 0,.int .i64 0,.int .i64 0,.int .i64 0,.int .i64 0,.str ⟨#[]⟩],[.nilp],[.nils],[.int .i64 0,.int .i64 0,.int .i64 0,.int .i64 0,.int .i64 0,.int .i64 0,.int .i64 0,.int .i64 0,.str ⟨#[]⟩,.nils,.nils,.nils,.int .i64 0,.bool false],[.int .i64 0,.int .i64 0,.int .i64 0,.int .i64 0,.int .i64 0,.int .i64 0,.int .i64 0,.int .i64 0,.str ⟨#[]⟩,.nils,.nils,.nils,.int .i64 0,.bool false],[.nilp],[.nilp],[.nilp],[.nilp],[.nilp],[.nilp],[],[.nilp],[.nilp],[.nilp],[.int .i64 0,.int .i64 0,.int .i64 0,.int .i64 0,.int .i64 0,.str ⟨#[]⟩],[.int .i64 0,.int .i64 0,.int .i64 0,.int .i64 0,.int .i64 0,.str ⟨#[]⟩],[.nilp],[.nilp],[.nilp],[.nils],[.nilp],[.nilp,.nilp,.nils,.nils,.nils],[.nilp,.nilp,.nils,.nils,.nils],[.nilp],[.nilp],[.nilp],[.nilp],[.nilp],[.nilp],[.nilp],[.nilp],[.nilp],[.nilp],[.nilp],[.nilp],[.int .i64 0,.bool false],[.nilp],[.nilp],[.nilp],[.nilp],[.nils],[.bool false,.int .i64 0,.int .i64 0,.nils],[.bool false,.int .i64 0,.int .i64 0,.nils],[.nilp],[.int .i64 0,.int .i64 0,.nils,.nils],[.int .i64 0,.int .i64 0,.nils,.nils],[.nilp],[.str ⟨#[]⟩,.int .i64 0,.nils],[.str ⟨#[]⟩,.int .i64 0,.nils],[.nilp],[.nilp],[.nilp],[.nilp],[.nilp],[.int .i64 0,.bool false,.str ⟨#[]⟩,.int .i64 0],[.int .i64 0,.bool false,.str ⟨#[]⟩,.int .i64 0],[.nilp],[.nilp],[.nilp],[.int .i64 0,.int .i64 0,.int .i64 0],[.nilp],[.nilp],[.nilp],[.nilp],[.nilp],[.nilp],[.nilp],[.nilp],[.nilp],[.nilp],[.nilp],[.nilp],[.nilp],[.nilp],[.nilp],[.nilp],[.nilp],[.nilp],[.nilp],[.nilp],[.nilp],[.nilp],[.nilp],[.nilp],[.nilp],[.nilp],[.nilp],[.nilp],[.nilp],[.str ⟨#[]⟩,.int .i64 0,.nils],[.nilp],[.nils],[.bool false,.int .i64 0,.int .i64 0,.nils],[.bool false,.int .i64 0,.int .i64 0,.nils],[.nilp],[.int .i64 0,.bool false,.str ⟨#[]⟩,.int .i64 0],[.nilp],[.int .i64 0,.int .i64 0,.nils,.nils],[.int .i64 0,.int .i64 0,.nils,.nils],[.nilp],[.nilp],[.nilp],[.nilp],[.int .i64 0,.int .i64 0,.int .i64 0,.str ⟨#[]⟩],[.int .i64 0,.int .i64 0,.int .i64 0,.str ⟨#[]⟩],[.nilp],[.nilp],[.nilp],[.nilp],[.nilp],[.nilp],[.nilp],[.nilp],[.nilp],[.nilp],[.nilp],[.nilp],[.nilp],[.nilp],[.nilp],[.nilp],[.nils],[.nilp],[.nilp],[.nilp],[.nils],[.nils],[.nilp],[.nilp],[.nilp],[],[.nilp],[.nilp],[.nilp],[.nilp],[.nilp],[.nilp],[.nilp],[.nilp],[.nilp],[.nilp],[.nilp],[.nilp],[.nilp],[.nilp],[.nilp],[.nilp],[.nilp],[.nilp],[.nilp],[.nilp],[.nilp],[.nils],[.nilp],[.nils],[.nils],[.str ⟨#[]⟩,.bool false,.nils,.nils,.nils],[.str ⟨#[]⟩,.bool false,.nils,.nils,.nils],[.nils,.str ⟨#[]⟩,.bool false,.nils,.nils,.nils],[.nils,.str ⟨#[]⟩,.bool false,.nils,.nils,.nils],[.nilp],[.nilp],[.nilp],[.nilp],[.nilp],[.nilp],[.nilp],[.nilp],[.nilp],[.nilp],[.nilp],[.nilp],[.nilp],[.nilp],[.nilp],[.nils],[.nilp],[.nilp],[.nilp],[],[.nilp],[.nils],[.nilp],[.int .i64 0,.int .i64 0],[.int .i64 0,.int .i64 0],[],[.nilp],[.nilp],[.nilp],[.nilp],[.int .u64 0],[],[.nilp],[.nilp],[.nilp],[.nilp,.nils],[.nilp,.nils],[],[],[],[.nilp],[.nilp],[.nilp],[.nilp],[.nilp],[.int .i64 0,.int .i64 0,.int .i64 0,.str ⟨#[]⟩],[.nilp],[.nils],[.str ⟨#[]⟩,.str ⟨#[]⟩,.nils,.nils],[.str ⟨#[]⟩,.str ⟨#[]⟩,.nils,.nils],[.nilp],[.nilp],[.nilp],[.nilp],[.nilp],[.nilp],[.nilp],[.nilp],[.int .u32 0],[],[.nilp],[.int .u64 0],[],[.nilp],[.nilp],[.nilp],[.nilp],[.nilp],[.nilp],[.nilp],[.nilp],[.nilp],[.nilp],[.nilp],[.int .u8 0,.int .u8 0,.int .u8 0,.int .u8 0,.int .u8 0,.int .u8 0,.int .u8 0,.int .u8 0,.int .u8 0,.int .u8 0,.int .u8 0,.int .u8 0,.int .u8 0,.int .u8 0,.int .u8 0,.int .u8 0,.int .u8 0,.int .u8 0,.int .u8 0,.int .u8 0,.int .u8 0,.int .u8 0,.int .u8 0,.int .u8 0],[.nilp],[.nilp],[],[.nilp],[],[.nilp],[.nilp],[.nilp],[.nilp],[.int .u64 0,.int .u64 0,.int .u64 0,.int .u64 0,.int .u64 0,.int .u64 0,.int .u64 0,.int .u64 0,.int .u64 0,.int .u64 0,.int .u64 0,.int .u64 0,.int .u64 0,.int .u64 0,.int .u64 0,.int .u64 0,.int .u64 0,.int .u64 0,.int .u64 0,.int .u64 0],[],[.nilp],[.nilp],[],[.int .u8 0,.int .u8 0],[.int .u8 0,.int .u8 0],[.int .u8 0,.int .u8 0,.int .u8 0,.int .u8 0,.int .u8 0,.int .u8 0,.int .u8 0,.int .u8 0,.int .u8 0,.int .u8 0,.int .u8 0,.int .u8 0,.int .u8 0,.int .u8 0,.int .u8 0,.int .u8 0,.int .u8 0,.int .u8 0,.int .u8 0,.int .u8 0,.int .u8 0,.int .u8 0,.int .u8 0,.int .u8 0,.int .u8 0,.int .u8 0,.int .u8 0,.int .u8 0,.int .u8 0,.int .u8 0,.int .u8 0,.int .u8 0],[.nilp],[.int .u8 0,.int .u8 0,.int .u8 0,.int .u8 0,.int .u8 0,.int .u8 0,.int .u8 0,.int .u8 0,.int .u8 0,.int .u8 0,.int .u8 0,.int .u8 0,.int .u8 0,.int .u8 0,.int .u8 0,.int .u8 0,.int .u8 0,.int .u8 0,.int .u8 0,.int .u8 0,.int .u8 0,.int .u8 0,.int .u8 0,.int .u8 0,.int .u8 0,.int .u8 0,.int .u8 0,.int .u8 0,.int .u8 0,.int .u8 0,.int .u8 0,.int .u8 0],[],[.nilp,.nilp,.nilp,.str ⟨#[]⟩],[.nilp,.nilp,.nilp,.str ⟨#[]⟩],[],[],[],[.int .u8 0],[.int .u8 0],[.nilp],[.int .i32 0],[.int .i32 0],[.int .u64 0,.int .u64 0,.int .u32 0,.int .u8 0,.int .u8 0,.int .u8 0,.int .u8 0,.nilp,.nilp,.int .i32 0,.int .i32 0],[.int .u64 0,.int .u64 0,.int .u32 0,.int .u8 0,.int .u8 0,.int .u8 0,.int .u8 0,.nilp,.nilp,.int .i32 0,.int .i32 0],[.int .i64 0,.str ⟨#[]⟩,.int .i64 0,.nils,.nils],[.int .i64 0,.str ⟨#[]⟩,.int .i64 0,.nils,.nils]]
def zT (t:Nat):List TV:=aiC.getD t []
def aiz:List (Option IntKind):=[none,none,some .i64,some .i64,none,some .u8,some .u8,none,none,none,none,none,some .u64,none,none,none,none,none,none,none,none,some .i32,none,none,none,none,none,none,none,none,none,none,none,none,none,none,none,none,none,none,none,none,none,none,none,none,none,none,none,none,none,none,none,none,none,none,none,none,none,none,none,none,none,none,none,none,none,none,none,none,none,none,none,none,none,none,none,none,none,none,none,none,none,none,none,none,none,none,none,none,none,none,none,none,none,none,none,none,none,none,none,none,none,none,none,none,none,none,none,none,none,none,none,none,none,none,none,none,none,none,none,none,none,none,none,none,none,none,none,none,none,none,none,none,none,none,none,none,none,none,none,none,none,none,none,none,none,none,none,none,none,none,none,none,none,none,none,none,none,none,none,none,none,none,none,none,none,none,none,none,none,none,none,none,none,none,none,none,none,none,none,none,none,none,none,none,none,none,none,none,none,none,none,none,none,none,none,none,none,none,none,none,none,none,none,none,none,none,none,none,none,none,none,none,none,none,none,none,none,none,none,none,none,none,none,none,none,none,none,none,none,none,none,none,none,none,none,none,none,none,none,none,none,none,none,none,none,none,none,none,none,none,none,none,none,none,none,none,none,none,none,none,none,none,none,none,none,none,none,none,none,none,none,none,none,none,none,none,none,none,none,none,none,none,none,none,none,none,none,none,none,none,none,none,none,none,none,none,none,none,none,none,none,none,none,none,none,none,none,none,none,none,none,none,none,none,none,none,none,none,some .u64,none,none,none,none,none,none,none,none,none,none,none,none,none,none,none,none,none,none,none,none,none,none,none,none,none,none,none,some .u32,none,none,some .u64,none,none,none,none,none,none,none,none,none,none,none,none,none,none,none,none,none,none,none,none,none,none,none,none,none,none,none,none,none,none,none,none,none,none,none,none,none,none,some .u8,some .u8,none,some .i32,some .i32,none,none,none,none]
def kdT (t:Nat):Option IntKind:=aiz.getD t none
def ahN:List (Option Nat):=[none,none,none,none,none,none,none,none,none,none,none,none,none,none,none,none,none,none,none,none,none,none,some 3,some 4,some 4,none,none,some 4,some 1,none,none,some 6,some 14,some 2,some 1,none,none,none,none,none,none,some 3,some 4,some 4,none,none,some 4,none,none,some 6,some 14,some 2,none,none,none,none,none,none,none,none,none,none,none,none,none,none,none,none,none,none,none,none,none,none,none,none,none,none,none,none,none,none,none,none,none,some 3,none,none,none,none,none,none,none,none,none,none,none,none,none,none,none,none,none,none,some 3,none,none,none,none,none,none,none,none,none,none,none,none,none,none,none,none,none,none,none,none,none,none,none,none,none,none,some 3,none,none,none,none,none,none,none,none,none,none,none,none,none,none,none,none,none,some 1,none,none,none,none,none,none,none,none,none,none,none,none,none,none,none,none,none,none,none,none,some 4,none,none,none,none,none,none,none,none,none,none,none,none,none,none,none,none,none,none,none,none,none,none,none,none,none,none,none,none,none,none,none,none,none,none,none,none,none,none,none,none,none,none,none,none,none,none,none,none,none,none,some 4,none,none,none,none,none,none,none,none,none,none,none,none,none,none,none,none,none,none,none,none,none,none,none,none,none,none,none,none,none,some 1,none,none,none,none,none,none,none,none,none,none,none,none,none,none,none,none,none,none,none,none,none,none,none,none,none,none,none,none,none,none,some 1,none,some 4,some 5,none,none,none,none,none,none,none,none,none,none,none,none,none,none,none,none,none,none,none,some 1,none,none,none,none,none,some 2,none,none,none,none,none,none,none,none,none,none,none,none,none,none,none,none,none,none,none,none,none,none,none,none,none,some 5,none,none,none,none,none,none,none,none,none,none,none,none,none,none,none,none,none,none,none,none,none,none,none,none,none,none,none,none,none,none,none,none,none,none,none,none,none,none,none,none,none,none,none,none,none,none,none,none,none,none,none,none,none,none,none,none,none,none,none,none,none]
def esT (t:Nat):Option Nat:=ahN.getD t none
def aiA:List Bool:=[false,false,false,false,false,false,false,true,true,false,false,false,false,true,true,false,false,false,true,true,false,false,false,false,false,true,true,false,false,true,true,false,false,false,false,true,true,true,true,false,false,false,false,false,true,true,false,true,true,false,false,false,true,true,true,false,false,false,false,false,false,false,false,false,false,false,false,false,false,false,false,false,false,false,false,false,false,false,false,false,false,false,false,false,true,false,true,true,false,false,false,false,false,false,false,false,false,false,false,false,false,false,true,true,false,true,true,false,false,false,false,false,false,true,true,false,false,false,false,false,false,false,false,false,false,false,false,false,true,true,false,false,true,true,false,false,false,false,false,false,false,false,false,false,true,true,false,false,false,false,false,true,true,false,false,false,false,false,false,false,false,false,false,false,false,true,false,false,false,false,false,true,true,false,true,true,false,true,true,false,false,false,false,false,true,true,false,false,false,true,false,false,false,false,false,false,false,false,false,false,false,false,false,false,false,false,false,false,false,false,false,false,false,false,false,false,false,false,false,true,false,false,true,true,false,true,false,true,true,false,false,false,false,true,true,false,false,false,false,false,false,false,false,false,false,false,false,false,false,false,false,false,false,false,false,true,true,false,false,false,false,false,false,false,false,false,false,false,false,false,false,false,false,false,false,false,false,false,false,false,false,false,false,false,false,false,true,true,true,true,false,false,false,false,false,false,false,false,false,false,false,false,false,false,false,false,false,false,false,false,false,false,false,true,true,false,false,false,false,false,false,false,false,false,false,true,true,false,false,false,false,false,false,false,false,true,false,false,true,true,false,false,false,false,false,false,false,false,false,false,false,false,false,false,false,false,false,false,false,false,false,false,false,false,true,false,false,false,false,false,false,false,false,false,true,true,false,false,true,true,true,true,false,true,true,true,true,true,true,true,false,false,false,false,false,true,true,true,true]
def agT (t:Nat):Bool:=aiA.getD t false
def ahB:List (List TV):=[[],[],[],[],[],[],[],[],[],[],[],[],[],[],[],[],[],[],[],[],[],[],[.str ⟨#[]⟩,.int .i64 0,.nils],[.bool false,.int .i64 0,.int .i64 0,.nils],[.int .i64 0,.bool false,.str ⟨#[]⟩,.int .i64 0],[],[],[.int .i64 0,.int .i64 0,.nils,.nils],[.str ⟨#[]⟩],[],[],[.int .i64 0,.int .i64 0,.int .i64 0,.int .i64 0,.int .i64 0,.str ⟨#[]⟩],[.int .i64 0,.int .i64 0,.int .i64 0,.int .i64 0,.int .i64 0,.int .i64 0,.int .i64 0,.int .i64 0,.str ⟨#[]⟩,.nils,.nils,.nils,.int .i64 0,.bool false],[.int .i64 0,.bool false],[.int .i64 0],[],[],[],[],[],[],[.str ⟨#[]⟩,.int .i64 0,.nils],[.bool false,.int .i64 0,.int .i64 0,.nils],[.int .i64 0,.bool false,.str ⟨#[]⟩,.int .i64 0],[],[],[.int .i64 0,.int .i64 0,.nils,.nils],[],[],[.int .i64 0,.int .i64 0,.int .i64 0,.int .i64 0,.int .i64 0,.str ⟨#[]⟩],[.int .i64 0,.int .i64 0,.int .i64 0,.int .i64 0,.int .i64 0,.int .i64 0,.int .i64 0,.int .i64 0,.str ⟨#[]⟩,.nils,.nils,.nils,.int .i64 0,.bool false],[.int .i64 0,.bool false],[],[],[],[],[],[],[],[],[],[],[],[],[],[],[],[],[],[],[],[],[],[],[],[],[],[],[],[],[],[],[],[],[],[.int .i64 0,.int .i64 0,.int .i64 0],[],[],[],[],[],[],[],[],[],[],[],[],[],[],[],[],[],[],[.int .i64 0,.int .i64 0,.str ⟨#[]⟩],[],[],[],[],[],[],[],[],[],[],[],[],[],[],[],[],[],[],[],[],[],[],[],[],[],[],[.int .i64 0,.int .i64 0,.str ⟨#[]⟩],[],[],[],[],[],[],[],[],[],[],[],[],[],[],[],[],[],[.nils],[],[],[],[],[],[],[],[],[],[],[],[],[],[],[],[],[],[],[],[],[.int .i64 0,.int .i64 0,.int .i64 0,.str ⟨#[]⟩],[],[],[],[],[],[],[],[],[],[],[],[],[],[],[],[],[],[],[],[],[],[],[],[],[],[],[],[],[],[],[],[],[],[],[],[],[],[],[],[],[],[],[],[],[],[],[],[],[],[],[.int .i64 0,.int .i64 0,.int .i64 0,.str ⟨#[]⟩],[],[],[],[],[],[],[],[],[],[],[],[],[],[],[],[],[],[],[],[],[],[],[],[],[],[],[],[],[],[.nils],[],[],[],[],[],[],[],[],[],[],[],[],[],[],[],[],[],[],[],[],[],[],[],[],[],[],[],[],[],[],[.int .u8 0],[],[.str ⟨#[]⟩,.str ⟨#[]⟩,.nils,.nils],[.int .i64 0,.str ⟨#[]⟩,.int .i64 0,.nils,.nils],[],[],[],[],[],[],[],[],[],[],[],[],[],[],[],[],[],[],[],[.nilp],[],[],[],[],[],[.int .i64 0,.int .i64 0],[],[],[],[],[],[],[],[],[],[],[],[],[],[],[],[],[],[],[],[],[],[],[],[],[],[.str ⟨#[]⟩,.bool false,.nils,.nils,.nils],[],[],[],[],[],[],[],[],[],[],[],[],[],[],[],[],[],[],[],[],[],[],[],[],[],[],[],[],[],[],[],[],[],[],[],[],[],[],[],[],[],[],[],[],[],[],[],[],[],[],[],[],[],[],[],[],[],[],[],[],[]]
def ezT (t:Nat):List TV:=ahB.getD t []
def tv1:Value->Option TV
 | .int k n=>some (.int k n)
 | .bool b=>some (.bool b)
 | .string s=>some (.str s)
 | .slice none 0 0=>some .nils
 | .pointer none=>some .nilp
 | .nilFunc=>some .nilp
 | _=>none
def tvL:List Value->Option (List TV)
 | []=>some []
 | v::r=>match tv1 v,tvL r with
   | some t,some l=>some (t::l)
   | _,_=>none
def ahR:Value->Option TV
 | .agg vs=>(tvL vs.toList).map .agg
 | v=>tv1 v
def ev (env:Env):Operand->Option TV
 | .tmp t=>lk t env
 | .const v=>ahR v
 | .func f=>some (.fn f [])
 | .global _=>none
theorem abU {w:World} {objs:aG} {v:Value} {t:TV} (h:tv1 v=some t):Rep w objs t v:=by
 unfold tv1 at h
 split at h <;> first|(cases h;done)|skip
 all_goals simp only[Zo] at h
 all_goals subst h
 ·exact .int _ _
 ·exact .bool _
 ·exact .str _
 ·exact .nils
 ·exact .nilp
 ·exact .nilf
theorem adc {v:Value} {t:TV} (h:tv1 v=some t):t.isCell=true:=by
 unfold tv1 at h
 split at h <;> first|(cases h;done)|(simp only[Zo] at h;subst h;rfl)
theorem lZ {w:World} {objs:aG}:∀{vs:List Value} {l:List TV},tvL vs=some l->(l.length=vs.length/\∀t∈l,t.isCell=true)/\∀(i:Nat) (t:TV) (v:Value),l[i]?=some t->vs[i]?=some v->Rep w objs t v
 | [],l,h=>by simp only[tvL,Zo] at h;subst h;simp
 | v::r,l,h=>by
   unfold tvL at h
   split at h
   ·rename_i t l' h1 h2
    simp only[Zo] at h
    subst h
    obtain⟨h3,h4⟩:=lZ (w:=w) (objs:=objs) (vs:=r) h2
    refine⟨⟨by simp[h3.1],fun x hx=>by
      rcases List.mem_cons.1 hx with rfl|hx
      ·exact adc h1
      ·exact h3.2 x hx⟩,fun i t' v' ht hv=>?_⟩
    cases i with
    | zero=>simp at ht hv;subst ht;subst hv;exact abU h1
    | succ i=>exact h4 i t' v' (by simpa using ht) (by simpa using hv)
   ·cases h
theorem tq {w:World} {objs:aG} {v:Value} {t:TV} (h:ahR v=some t):Rep w objs t v:=by
 unfold ahR at h
 split at h
 ·rename_i vs
  rw[Option.map_eq_some_iff] at h
  obtain⟨l,h1,rfl⟩:=h
  obtain⟨h2,h3⟩:=lZ (w:=w) (objs:=objs) h1
  exact .agg l vs h2.2 (by simpa using h2.1) (fun i t v ht hv=>h3 i t v ht (by simpa using hv))
 ·exact abU h
def ba (P:Program) (w0:World) (env:Env) (objs:aG) (o:Oper) (tv:TV):Prop :=
 ∀(a:Act) (w:World) (K:Act->World->Prop) (Q:Exit->Act->World->Prop),eo w0 objs w ->
   (∀x∈o.op.operands.toList,∀v,ev env x=some v->Rep w objs v (a.eval x)) ->
   (∀v w',Rep w' objs tv v->eo w0 objs w'->kQ w objs w' objs->K (a.put o.dst v) w')->o.wp P a w K Q
theorem dq {P:Program} {s:Sem Value} {v:Value} {w w':World} (h:s.run P w=.ok v w'):(do pure (Next.value (<- s)):Sem Next).run P w=.ok (.value v) w':=by
 show (Sem.bind s fun v=>Sem.pure (Next.value v)).run P w=_
 have:=ZE P w s (fun v=>(Pure.pure (Next.value v):Sem Next))
 rw[h] at this
 exact this
section
variable {P:Program} {w0:World} {N:Nat} {Q:Exit->Act->World->Prop} {env:Env} {objs:aG} {o:Oper}
theorem aO {tv:TV} (h:∀(a:Act) (w:World),eo w0 objs w->(∀x∈o.op.operands.toList,∀v,ev env x=some v->Rep w objs v (a.eval x)) ->
   ∃v,(execOp a.eval o).run P w=.ok (.value v) w/\Rep w objs tv v):ba P w0 env objs o tv:=fun a w K Q hw hop hK=>by
 obtain⟨v,h1,h2⟩:=h a w hw hop
 unfold Oper.wp
 rw[h1]
 exact hK v w h2 hw ⟨fun _ _ _=>rfl,fun _ _ h=>h,fun _ _ _ rows _ _ h=>⟨⟨rows,h⟩,rfl⟩,Zg _,id⟩
theorem fU {a:Act} {w:World} (hs:Sim w0 N env objs a w) {x:Operand} {v:TV} (h:ev env x=some v):Rep w objs v (a.eval x):=by
 cases x with
 | tmp t=>exact hs.env t v h
 | const u=>exact tq h
 | func f=>simp only[ev,Zo] at h;subst h;exact .fn f [] #[] rfl (by simp)
 | global g=>cases h
theorem k8 {l:Array Value} {d t:Nat} {v:Value} (hd:d<l.size):(l.setIfInBounds d v).getD t undef=if d=t then v else l.getD t undef:=by
 by_cases h:d=t
 ·subst h;simp[hd]
 ·simp[Array.getElem?_setIfInBounds,h]
theorem Sim.put {a:Act} {w w':World} (hs:Sim w0 N env objs a w) {d:Nat} (hd:Nat.blt d N=true) {tv:TV} {v:Value} (hr:Rep w' objs tv v) (hw:eo w0 objs w') (hst:kQ w objs w' objs):Sim w0 N ((d,tv)::env) objs (a.put (some d) v) w':=by
 have hlt:d<a.tmps.size:=by rw[hs.size];exact Yo ▸ hd
 refine⟨hs.defers,by simp[Act.put,hs.size],hw,fun t u hu=>?_⟩
 rw[cK] at hu
 show Rep w' objs u ((a.tmps.setIfInBounds d v).getD t undef)
 rw[k8 hlt]
 split at hu
 ·rename_i e;subst e;simp only[Zo] at hu;subst hu;simp only[if_true];exact hr
 ·rename_i e;rw[if_neg e];exact(hs.env t u hu).step hst
theorem Sim.putUndef {a:Act} {w:World} (hs:Sim w0 N env objs a w) {d:Nat} (hd:Nat.blt d N=true):Sim w0 N ((d,.tup [])::env) objs (a.put (some d) undef) w :=
 hs.put hd (.tup [] #[] rfl (by simp)) hs.mem ⟨fun _ _ _=>rfl,fun _ _ h=>h,fun _ _ _ rows _ _ h=>⟨⟨rows,h⟩,rfl⟩,Zg _,id⟩
theorem dJ {ops:Array Oper} {rest:List Oper} (hg:o.guard=none) (h:AO P w0 N ops Q o rest env objs):AL P w0 N ops Q (o::rest) env objs:=⟨fun a w hs=>wpList_plain hg fun K hK=>h.run a w K hs hK⟩
theorem wu {ops:Array Oper} {rest:List Oper} {d:Nat} {tv:TV} (hd:o.dst=some d) (hN:Nat.blt d N=true) (hy:ba P w0 env objs o tv) (h:AL P w0 N ops Q rest ((d,tv)::env) objs):AO P w0 N ops Q o rest env objs :=
 ⟨fun a w K hs hK=>hy a w K Q hs.mem (fun x _ v hv=>fU hs hv) fun v w' hr hw hst=>hK _ _ (by rw[hd];exact h.run _ _ (hs.put hN hr hw hst))⟩
theorem mj {ops:Array Oper} {a:Act} {j d:Nat} {b:Bool} (hj:(ops[j]?).bind (·.dst)=some d) (hv:a.tmps.getD d undef=.bool b):yielded ops a.tmps j=some b:=by
 simp only[yielded,hj]
 simp[ZH] at hv
 cases h:a.tmps[d]? with
 | none=>rw[h] at hv;simp[undef] at hv
 | some x=>rw[h] at hv;simp at hv;subst hv;simp[h]
theorem jI {ops:Array Oper} {rest:List Oper} {dj j:Nat} {b:Bool} {v:TV} (hg:o.guard=some (j,b)) (hj:(ops[j]?).bind (·.dst)=some dj) (hb:lk dj env=some v) (hv:v=.bool b) (h:AO P w0 N ops Q o rest env objs):AL P w0 N ops Q (o::rest) env objs:=⟨fun a w hs =>
 wpList_step fun K hK=>by
   subst hv
   have hw:Region.wanted o (yielded ops a.tmps)=true:=by simp[Region.wanted,hg,mj hj (hs.env _ _ hb).bool_inv]
   rw[if_pos hw]
   exact h.run a w K hs hK⟩
theorem gM {ops:Array Oper} {rest:List Oper} {d dj j:Nat} {b c:Bool} {v:TV} (hg:o.guard=some (j,c)) (hj:(ops[j]?).bind (·.dst)=some dj) (hb:lk dj env=some v) (hv:v=.bool b) (hc:c=!b) (hd:o.dst=some d) (hN:Nat.blt d N=true)
   (h:AL P w0 N ops Q rest ((d,.tup [])::env) objs):AL P w0 N ops Q (o::rest) env objs:=⟨fun a w hs =>
 wpList_step fun K hK=>by
   subst hv;subst hc
   have hw:Region.wanted o (yielded ops a.tmps)=false:=by cases b <;> simp[Region.wanted,hg,mj hj (hs.env _ _ hb).bool_inv]
   rw[hw]
   exact hK _ _ (by rw[hd];exact h.run _ _ (hs.putUndef hN))⟩
theorem Rep.undef_inv {w:World} {v:Value} (h:Rep w objs (.tup []) v):v=undef:=by
 cases h with
 | tup l vs h h2 =>
   have:vs=#[]:=Array.eq_empty_of_size_eq_zero (by simpa using h.symm)
   subst this;rfl
theorem ll {ops:Array Oper} {a:Act} {j d:Nat} (hj:(ops[j]?).bind (·.dst)=some d) (hv:a.tmps.getD d undef=undef):yielded ops a.tmps j=none:=by
 simp only[yielded,hj]
 simp[ZH] at hv
 cases h:a.tmps[d]? with
 | none=>simp[h]
 | some x=>rw[h] at hv;simp[undef] at hv;subst hv;simp[h]
theorem fc {ops:Array Oper} {rest:List Oper} {d dj j:Nat} {c:Bool} {v:TV} (hg:o.guard=some (j,c)) (hj:(ops[j]?).bind (·.dst)=some dj) (hb:lk dj env=some v) (hv:v=.tup []) (hd:o.dst=some d) (hN:Nat.blt d N=true)
   (h:AL P w0 N ops Q rest ((d,.tup [])::env) objs):AL P w0 N ops Q (o::rest) env objs:=⟨fun a w hs =>
 wpList_step fun K hK=>by
   subst hv
   have hw:Region.wanted o (yielded ops a.tmps)=false:=by simp[Region.wanted,hg,ll hj (hs.env _ _ hb).undef_inv]
   rw[hw]
   exact hK _ _ (by rw[hd];exact h.run _ _ (hs.putUndef hN))⟩
theorem Sim.know {a:Act} {w:World} (hs:Sim w0 N env objs a w) {t:Nat} {v:TV} (hv:lk t env=some v) {v':TV} (h:v=v'):Sim w0 N ((t,v')::env) objs a w :=
 ⟨hs.defers,hs.size,hs.mem,fun t' u hu=>by
   rw[cK] at hu
   split at hu
   ·rename_i e;subst e;simp only[Zo] at hu;subst hu;subst h;exact hs.env _ _ hv
   ·exact hs.env _ _ hu⟩
theorem adB {ops:Array Oper} {rest:List Oper} {t:Nat} {p:Prop} {i:Decidable p} (hv:lk t env=some (.bool (@decide p i))) (ht:p->AL P w0 N ops Q rest ((t,.bool true)::env) objs) (hf:¬ p->AL P w0 N ops Q rest ((t,.bool false)::env) objs) :
   AL P w0 N ops Q rest env objs:=⟨fun a w hs=>by
 by_cases h:p
 ·exact(ht h).run a w (hs.know hv (by simp[h]))
 ·exact(hf h).run a w (hs.know hv (by simp[h]))⟩
theorem ew {ops:Array Oper} {rest:List Oper} {j d:Nat} {b:Bool} {p:Prop} {i:Decidable p} {v:TV} (hg:o.guard=some (j,b)) (hj:(ops[j]?).bind (·.dst)=some d) (hv:lk d env=some v) (he:v=.bool (@decide p i))
   (ht:p->AL P w0 N ops Q (o::rest) ((d,.bool true)::env) objs) (hf:¬ p->AL P w0 N ops Q (o::rest) ((d,.bool false)::env) objs):AL P w0 N ops Q (o::rest) env objs:=adB (he ▸ hv) ht hf
theorem aan {ops:Array Oper} {rest:List Oper} {t:Nat} {b:Bool} (hv:lk t env=some (.bool b)) (ht:b=true->AL P w0 N ops Q rest ((t,.bool true)::env) objs) (hf:b=false->AL P w0 N ops Q rest ((t,.bool false)::env) objs) :
   AL P w0 N ops Q rest env objs:=⟨fun a w hs=>by
 cases b
 ·exact(hf rfl).run a w (hs.know hv rfl)
 ·exact(ht rfl).run a w (hs.know hv rfl)⟩
theorem oC {ops:Array Oper} {rest:List Oper} {j d:Nat} {b:Bool} {p:Prop} {i:Decidable p} {v:TV} (hg:o.guard=some (j,b)) (hj:(ops[j]?).bind (·.dst)=some d) (hv:lk d env=some v) (he:v=.bool (@decide p i)) (hp:p)
   (ht:AL P w0 N ops Q (o::rest) ((d,.bool true)::env) objs):AL P w0 N ops Q (o::rest) env objs:=ew hg hj hv he (fun _=>ht) (fun h=>absurd hp h)
theorem pK {ops:Array Oper} {rest:List Oper} {j d:Nat} {b:Bool} {p:Prop} {i:Decidable p} {v:TV} (hg:o.guard=some (j,b)) (hj:(ops[j]?).bind (·.dst)=some d) (hv:lk d env=some v) (he:v=.bool (@decide p i)) (hp:¬ p)
   (hf:AL P w0 N ops Q (o::rest) ((d,.bool false)::env) objs):AL P w0 N ops Q (o::rest) env objs:=ew hg hj hv he (fun h=>absurd h hp) (fun _=>hf)
theorem ed {ops:Array Oper} {rest:List Oper} {j d:Nat} {b c:Bool} {v:TV} (hg:o.guard=some (j,b)) (hj:(ops[j]?).bind (·.dst)=some d) (hv:lk d env=some v) (he:v=.bool c)
   (ht:c=true->AL P w0 N ops Q (o::rest) ((d,.bool true)::env) objs) (hf:c=false->AL P w0 N ops Q (o::rest) ((d,.bool false)::env) objs):AL P w0 N ops Q (o::rest) env objs:=aan (he ▸ hv) ht hf
theorem aih {α:Type} [BEq α] [LawfulBEq α] [DecidableEq α] (a b:α):(a == b)=decide (a=b):=by rw[YF];simp
theorem aev {x:Operand} {tv:TV} (ho:o.op=.move x) (hx:ev env x=some tv):ba P w0 env objs o tv:=aO fun a w _ hop =>
 ⟨a.eval x,by simp[execOp,ho,Sem.run_pure],hop x (by simp[ho,Op.operands]) _ hx⟩
theorem yP {x:Operand} {tv:TV} (ho:o.op=.assign x) (hx:ev env x=some tv):ba P w0 env objs o tv:=aO fun a w _ hop =>
 ⟨a.eval x,by simp[execOp,ho,Sem.run_pure],hop x (by simp[ho,Op.operands]) _ hx⟩
theorem adH {c x y:Operand} {tv cv:TV} (ho:o.op=.pick c x y) (hc:ev env c=some cv) (he:cv=.bool true) (hx:ev env x=some tv):ba P w0 env objs o tv:=aO fun a w _ hop=>by
 subst he
 have h1:=(hop c (by simp[ho,Op.operands]) _ hc).bool_inv
 exact⟨a.eval x,by simp[execOp,ho,h1,asBool,ZE,Sem.run_pure],hop x (by simp[ho,Op.operands]) _ hx⟩
theorem adm {c x y:Operand} {tv cv:TV} (ho:o.op=.pick c x y) (hc:ev env c=some cv) (he:cv=.bool false) (hx:ev env y=some tv):ba P w0 env objs o tv:=aO fun a w _ hop=>by
 subst he
 have h1:=(hop c (by simp[ho,Op.operands]) _ hc).bool_inv
 exact⟨a.eval y,by simp[execOp,ho,h1,asBool,ZE,Sem.run_pure],hop y (by simp[ho,Op.operands]) _ hx⟩
theorem jJ {op:BinOp} {t:TypeId} {x y:Operand} {k:IntKind} {m:Int} {v:Value} {w:World}:(eqGuard op t x y (.int k m) v).run P w=.ok () w:=by
 unfold eqGuard
 split <;> simp_all [Sem.run_pure]
theorem ji {op:BinOp} {t:TypeId} {x y:Operand} {b:Bool} {v:Value} {w:World}:(eqGuard op t x y (.bool b) v).run P w=.ok () w:=by
 unfold eqGuard
 split <;> simp_all [Sem.run_pure]
theorem pE {op:BinOp} {t:TypeId} {x y:Operand} {b:ByteArray} {v:Value} {w:World}:(eqGuard op t x y (.string b) v).run P w=.ok () w:=by
 unfold eqGuard
 split <;> simp_all [Sem.run_pure]
theorem dy {op:BinOp} {t t2:TypeId} {x y:Operand} {k:IntKind} {m n:Int} {tv:TV} (ho:o.op=.binOp op t x y t2) (hx:ev env x=some (.int k m)) (hy:ev env y=some (.int k n))
   (hr:∀w:World,∃v,(binOp op t (.int k m) (.int k n)).run P w=.ok v w/\Rep w objs tv v):ba P w0 env objs o tv:=aO fun a w _ hop=>by
 have h1:=(hop x (by simp[ho,Op.operands]) _ hx).int_inv
 have h2:=(hop y (by simp[ho,Op.operands]) _ hy).int_inv
 obtain⟨v,h3,h4⟩:=hr w
 exact⟨v,by simp[execOp,ho,h1,h2,ZE,jJ,h3,Sem.run_pure],h4⟩
section
variable {t t2:TypeId} {x y:Operand} {k:IntKind} {m n:Int}
theorem ahx {c:Int} (ho:o.op=.binOp .add t x y t2) (hx:ev env x=some (.int k m)) (hy:ev env y=some (.int k n)) (hc:k.wrap (m+n)=c):ba P w0 env objs o (.int k c) :=
 dy ho hx hy fun w=>⟨_,by simp[binOp,Op.intArith,Sem.run_pure];rfl,by rw[hc];exact .int k c⟩
theorem ahd {c:Int} (ho:o.op=.binOp .sub t x y t2) (hx:ev env x=some (.int k m)) (hy:ev env y=some (.int k n)) (hc:k.wrap (m - n)=c):ba P w0 env objs o (.int k c) :=
 dy ho hx hy fun w=>⟨_,by simp[binOp,Op.intArith,Sem.run_pure];rfl,by rw[hc];exact .int k c⟩
theorem aht {c:Int} (ho:o.op=.binOp .mul t x y t2) (hx:ev env x=some (.int k m)) (hy:ev env y=some (.int k n)) (hc:k.wrap (m * n)=c):ba P w0 env objs o (.int k c) :=
 dy ho hx hy fun w=>⟨_,by simp[binOp,Op.intArith,Sem.run_pure];rfl,by rw[hc];exact .int k c⟩
theorem aig {c:Int} (ho:o.op=.binOp .quo t x y t2) (hx:ev env x=some (.int k m)) (hy:ev env y=some (.int k n)) (hn:n≠0) (hc:k.wrap (m.tdiv n)=c):ba P w0 env objs o (.int k c) :=
 dy ho hx hy fun w=>⟨_,by simp[binOp,Op.intDiv,Sem.run_pure,hn];rfl,by rw[hc];exact .int k c⟩
theorem ahK {c:Int} (ho:o.op=.binOp .rem t x y t2) (hx:ev env x=some (.int k m)) (hy:ev env y=some (.int k n)) (hn:n≠0) (hc:m.tmod n=c):ba P w0 env objs o (.int k c) :=
 dy ho hx hy fun w=>⟨_,by simp[binOp,Op.intDiv,Sem.run_pure,hn];rfl,by rw[hc];exact .int k c⟩
def orI (k:IntKind) (m n:Int):Int:=k.wrap ((BitVec.ofInt k.bits m ||| BitVec.ofInt k.bits n).toNat:Int)
def ail (k:IntKind) (m n:Int):Int:=k.wrap ((BitVec.ofInt k.bits m &&& BitVec.ofInt k.bits n).toNat:Int)
def ag9 (k:IntKind) (m n:Int):Int:=k.wrap (m * 2 ^ (min n.toNat k.bits))
theorem aiy (ho:o.op=.binOp .or t x y t2) (hx:ev env x=some (.int k m)) (hy:ev env y=some (.int k n)):ba P w0 env objs o (.int k (orI k m n)) :=
 dy ho hx hy fun w=>⟨_,by simp[binOp,Op.intBits,Sem.run_pure];rfl,.int k _⟩
theorem aib (ho:o.op=.binOp .and t x y t2) (hx:ev env x=some (.int k m)) (hy:ev env y=some (.int k n)):ba P w0 env objs o (.int k (ail k m n)) :=
 dy ho hx hy fun w=>⟨_,by simp[binOp,Op.intBits,Sem.run_pure];rfl,.int k _⟩
theorem ahe {k2:IntKind} (ho:o.op=.binOp .shl t x y t2) (hx:ev env x=some (.int k m)) (hy:ev env y=some (.int k2 n)) (hn:0<=n):ba P w0 env objs o (.int k (ag9 k m n)):=aO fun a w _ hop=>by
 have h1:=(hop x (by simp[ho,Op.operands]) _ hx).int_inv
 have h2:=(hop y (by simp[ho,Op.operands]) _ hy).int_inv
 refine⟨.int k (ag9 k m n), ?_,.int k _⟩
 have h3:¬ n<0:=by omega
 simp[execOp,ho,h1,h2,ZE,jJ,binOp,Op.shift,h3,Sem.run_pure,ag9]
theorem ahm (ho:o.op=.binOp .eql t x y t2) (hx:ev env x=some (.int k m)) (hy:ev env y=some (.int k n)):ba P w0 env objs o (.bool (decide (m=n))) :=
 dy ho hx hy fun w=>⟨.bool (m == n),by simp[binOp,Op.intCmp,Sem.run_pure],by rw[aih];exact .bool _⟩
theorem ah8 (ho:o.op=.binOp .neq t x y t2) (hx:ev env x=some (.int k m)) (hy:ev env y=some (.int k n)):ba P w0 env objs o (.bool (decide (m≠n))) :=
 dy ho hx hy fun w=>⟨.bool (m != n),by simp[binOp,Op.intCmp,Sem.run_pure],by
   have:(m != n)=decide (m≠n):=by rw[bne,aih];simp
   rw[this];exact .bool _⟩
theorem ahM (ho:o.op=.binOp .lss t x y t2) (hx:ev env x=some (.int k m)) (hy:ev env y=some (.int k n)):ba P w0 env objs o (.bool (decide (m<n))) :=
 dy ho hx hy fun w=>⟨_,by simp only[binOp,Op.intCmp,ne_eq,not_true_eq_false,if_false];rfl,.bool _⟩
theorem ah2 (ho:o.op=.binOp .leq t x y t2) (hx:ev env x=some (.int k m)) (hy:ev env y=some (.int k n)):ba P w0 env objs o (.bool (decide (m<=n))) :=
 dy ho hx hy fun w=>⟨_,by simp only[binOp,Op.intCmp,ne_eq,not_true_eq_false,if_false];rfl,.bool _⟩
theorem ahQ (ho:o.op=.binOp .gtr t x y t2) (hx:ev env x=some (.int k m)) (hy:ev env y=some (.int k n)):ba P w0 env objs o (.bool (decide (n<m))) :=
 dy ho hx hy fun w=>⟨_,by simp only[binOp,Op.intCmp,ne_eq,not_true_eq_false,if_false];rfl,.bool _⟩
theorem aif (ho:o.op=.binOp .geq t x y t2) (hx:ev env x=some (.int k m)) (hy:ev env y=some (.int k n)):ba P w0 env objs o (.bool (decide (n<=m))) :=
 dy ho hx hy fun w=>⟨_,by simp only[binOp,Op.intCmp,ne_eq,not_true_eq_false,if_false];rfl,.bool _⟩
theorem zm {src dst:TypeId} {k2:IntKind} {c:Int} (ho:o.op=.convert src dst x) (hx:ev env x=some (.int k m)) (_hk:kdT dst=some k2) (hs:(P.underlying src).isSome=true) (hd:P.underlying dst=some (.int k2)) (hc:k2.wrap m=c):ba P w0 env objs o (.int k2 c) :=
 aO fun a w _ hop=>by
   have h1:=(hop x (by simp[ho,Op.operands]) _ hx).int_inv
   refine⟨.int k2 c, ?_,.int k2 c⟩
   obtain⟨d,hs⟩:=Option.isSome_iff_exists.1 hs
   subst hc
   simp only[execOp,ho,h1]
   refine dq ?_
   simp only[convert,ZE,run_underlying hs,run_underlying hd,Zz]
   simp[Conv.intToInt,Sem.run_pure]
end
section
variable {t t2:TypeId} {x y:Operand}
theorem ae0 {b c:Bool} (ho:o.op=.binOp .eql t x y t2) (hx:ev env x=some (.bool b)) (hy:ev env y=some (.bool c)) (hu:P.underlying t=some .bool):ba P w0 env objs o (.bool (b == c)):=aO fun a w _ hop=>by
 have h1:=(hop x (by simp[ho,Op.operands]) _ hx).bool_inv
 have h2:=(hop y (by simp[ho,Op.operands]) _ hy).bool_inv
 exact⟨.bool (b == c),by simp[execOp,ho,h1,h2,ZE,ji,binOp,run_equal_bool _ t b c hu,Sem.run_pure],.bool _⟩
theorem ae5 {b c:Bool} (ho:o.op=.binOp .neq t x y t2) (hx:ev env x=some (.bool b)) (hy:ev env y=some (.bool c)) (hu:P.underlying t=some .bool):ba P w0 env objs o (.bool (b != c)):=aO fun a w _ hop=>by
 have h1:=(hop x (by simp[ho,Op.operands]) _ hx).bool_inv
 have h2:=(hop y (by simp[ho,Op.operands]) _ hy).bool_inv
 exact⟨.bool (b != c),by simp[execOp,ho,h1,h2,ZE,ji,binOp,run_equal_bool _ t b c hu,Sem.run_pure,bne],.bool _⟩
theorem oT (s u:ByteArray):(s.toList == u.toList)=decide (s=u):=by
 by_cases h:s=u
 ·subst h;simp
 ·have:¬ s.toList=u.toList:=fun e=>h (WideShapes.bytes_inj (by rw[<- Lib.toList_data,<- Lib.toList_data];exact e))
  simp[h,this]
theorem ot {op:BinOp} {s u:ByteArray} {tv:TV} (ho:o.op=.binOp op t x y t2) (hx:ev env x=some (.str s)) (hy:ev env y=some (.str u))
   (hr:∀w:World,∃v,(Op.stringOp op s u).run P w=.ok v w/\Rep w objs tv v) (hs:op≠.shl:=by decide) (hs2:op≠.shr:=by decide):ba P w0 env objs o tv:=aO fun a w _ hop=>by
 have h1:=(hop x (by simp[ho,Op.operands]) _ hx).str_inv
 have h2:=(hop y (by simp[ho,Op.operands]) _ hy).str_inv
 obtain⟨v,h3,h4⟩:=hr w
 refine⟨v, ?_,h4⟩
 have h5:binOp op t (.string s) (.string u)=Op.stringOp op s u:=by cases op <;> rfl
 simp[execOp,ho,h1,h2,ZE,pE,h5,h3,Sem.run_pure]
theorem afr {s u:ByteArray} (ho:o.op=.binOp .eql t x y t2) (hx:ev env x=some (.str s)) (hy:ev env y=some (.str u)):ba P w0 env objs o (.bool (decide (s=u))) :=
 ot ho hx hy fun w=>⟨.bool (s.toList == u.toList),by simp[Op.stringOp,Sem.run_pure],by rw[oT];exact .bool _⟩
theorem afW {s u:ByteArray} (ho:o.op=.binOp .neq t x y t2) (hx:ev env x=some (.str s)) (hy:ev env y=some (.str u)):ba P w0 env objs o (.bool (decide (s≠u))) :=
 ot ho hx hy fun w=>⟨.bool (!(s.toList == u.toList)),by simp[Op.stringOp,Sem.run_pure],by
   have:(!(s.toList == u.toList))=decide (s≠u):=by rw[oT];simp
   rw[this];exact .bool _⟩
theorem xj (w:World) (s u:ByteArray) (hl:s.size+u.size<=9223372036854775807):(Op.stringOp .add s u).run P w=.ok (.string (s++u)) w:=by
 have h9:IntKind.max .i64=9223372036854775807:=by decide
 have h10:¬ (((s.size+u.size:Nat):Int) > IntKind.max .i64):=by rw[h9];omega
 unfold Op.stringOp
 simp only[h10,if_false];rfl
theorem afC {s u:ByteArray} (ho:o.op=.binOp .add t x y t2) (hx:ev env x=some (.str s)) (hy:ev env y=some (.str u)) (hl:s.size+u.size<=9223372036854775807):ba P w0 env objs o (.str (s++u)) :=
 ot ho hx hy fun w=>⟨.string (s++u),xj w s u hl,.str _⟩
theorem ah6 {p:Prop} {i:Decidable p} (ho:o.op=.unOp .not t x) (hx:ev env x=some (.bool (@decide p i))):ba P w0 env objs o (.bool (decide (¬ p))):=aO fun a w _ hop=>by
 have h1:=(hop x (by simp[ho,Op.operands]) _ hx).bool_inv
 refine⟨.bool (!(decide p)),by simp[execOp,ho,h1,Op.unary,Sem.run_pure,ZE], ?_⟩
 have:(!(decide p))=decide (¬ p):=by simp
 rw[this];exact .bool _
theorem wX {b:Bool} (ho:o.op=.unOp .not t x) (hx:ev env x=some (.bool b)):ba P w0 env objs o (.bool (!b)):=aO fun a w _ hop=>by
 have h1:=(hop x (by simp[ho,Op.operands]) _ hx).bool_inv
 exact⟨.bool (!b),by simp[execOp,ho,h1,Op.unary,Sem.run_pure,ZE],.bool _⟩
end
end
section
variable {P:Program} {w0:World} {N:Nat} {Q:Exit->Act->World->Prop} {env:Env} {objs:aG} {o:Oper}
def ju (P:Program) (t:TypeId):Bool:=match P.underlying t with
 | some (.struct _)|some (.array _ _)|none=>false
 | _=>true
def ki (P:Program) (t:TypeId):Bool:=match P.underlying t with
 | some (.struct _)=>true
 | _=>false
theorem iZ {t:TypeId} {w:World} (h:ju P t=true):(isAgg t).run P w=.ok false w:=by
 unfold ju at h
 unfold isAgg
 cases hu:P.underlying t with
 | none=>rw[hu] at h;cases h
 | some d =>
   simp only[ZE,run_underlying hu,Zz]
   rw[hu] at h
   cases d <;> first|rfl|cases h
theorem oW {t:TypeId} {w:World} (h:ki P t=true):(isAgg t).run P w=.ok true w:=by
 unfold ki at h
 unfold isAgg
 cases hu:P.underlying t with
 | none=>rw[hu] at h;cases h
 | some d =>
   simp only[ZE,run_underlying hu,Zz]
   rw[hu] at h
   cases d <;> first|rfl|cases h
theorem adv {t:TypeId} {w:World} (h:(P.info? t).isSome=true) (hs:P.cellsOf t=szT t):(sizeOf t).run P w=.ok (szT t) w:=by
 cases hi:P.info? t with
 | none=>rw[hi] at h;cases h
 | some i=>rw[run_sizeOf w hi,hs]
inductive vB (w:World) (objs:aG):TV->List TV->Prop
 | cp (f:Nat) (l:List TV):vB w objs (.cp f l) l
 | mp (s b off:Nat) (cells:List TV) (hm:(s,b,aV.box cells)∈objs):vB w objs (.mp s b off) (cells.drop off)
 | me (s b m k j:Nat) (rows:List (List TV)) (r:List TV) (hm:(s,b,aV.row m rows)∈objs) (hr:rows[k]?=some r):vB w objs (.me s b m k j) (r.drop j)
theorem em {m:Nat}:∀{rows:List (List TV)},(∀r∈rows,r.length=m)->∀{k j:Nat} {r:List TV},rows[k]?=some r->j<m->rows.flatten[k * m+j]?=r[j]?
 | [],_,k,j,r,hk,_=>by simp at hk
 | x::rest,hm,k,j,r,hk,hj=>by
   have hx:=hm x (by simp)
   rw[Yk]
   cases k with
   | zero =>
     simp at hk;subst hk
     rw[Nat.zero_mul,ZY,Zs (by omega)]
   | succ k =>
     have e:(k+1) * m+j=x.length+(k * m+j):=by rw[hx,Yh,Y8];omega
     rw[e,Zr (by omega),Nat.add_sub_cancel_left]
     exact em (fun r hr=>hm r (by simp[hr])) (by simpa using hk) hj
theorem length_flatten {m:Nat}:∀{rows:List (List TV)},(∀r∈rows,r.length=m)->rows.flatten.length=rows.length * m
 | [],_=>by simp
 | x::rest,hm=>by
   rw[Yk,Zh,hm x (by simp),length_flatten (rows:=rest) (fun r hr=>hm r (by simp[hr])),Zy,Yh,Y8];omega
theorem iO {w:World} (hw:eo w0 objs w) {tv:TV} {l:List TV} {v:Value} (hp:vB w objs tv l) (hr:Rep w objs tv v) :
   ∃b o,v=.pointer (some ⟨b,o,none⟩)/\(∀t∈l,t.isCell=true)/\∀(j:Nat) (t:TV),l[j]?=some t->∃u,w.cell? ⟨b,o+j,none⟩=some u/\Rep w objs t u:=by
 cases hp with
 | cp f l =>
   cases hr with
   | cp f l hi b o g hZ hb hc hr=>exact⟨b,o,rfl,hi,fun j t hj=>⟨g j,hc j t hj,hr j t hj⟩⟩
 | mp s b off cells hm =>
   cases hr with
   | mp s b off h =>
     obtain⟨hc0,cur,e,h2,h3,h4⟩:=hw.obj s b _ hm
     refine⟨b,off,rfl,fun t ht=>hc0.2 t (Z3 ht),fun j t hj=>?_⟩
     rw[Yf] at hj
     obtain⟨u,h5,h6⟩:=h4 _ t hj
     exact⟨u,by rw[cell_of_row w b _ cur e (0,0) h2];exact h5,h6⟩
 | me s b m k j rows r hm hk =>
   cases hr with
   | me s b m k j h =>
     obtain⟨h1,h2,h3⟩:=hw.obj s b _ hm
     rcases h3 with ⟨_,h3⟩|⟨_,cur,e,cap,h4,h5,h6,h7,h8⟩
     ·subst h3;simp at hk
     ·refine⟨b,k * m+j,rfl,fun t ht=>h1.2 t (List.mem_flatten.2 ⟨r,Zm hk,Z3 ht⟩),fun i t hi=>?_⟩
      rw[Yf] at hi
      have hlt:j+i<r.length:=(List.getElem?_eq_some_iff.1 hi).1
      have hrm:r.length=m:=h2 r (Zm hk)
      have hfl:=em h2 hk (j:=j+i) (by omega)
      obtain⟨u,h9,h10⟩:=h8 _ t (hfl.trans hi)
      exact⟨u,by rw[cell_of_row w b _ cur e (0,0) h4,Xq];exact h9,h10⟩
theorem mE {x:Operand} {tv:TV} {l:List TV} (ho:o.op=.nilCheck x) (hx:ev env x=some tv) (hp:∀w,vB w objs tv l):ba P w0 env objs o tv:=aO fun a w hw hop=>by
 have h0:=hop x (by simp[ho,Op.operands]) _ hx
 obtain⟨b,q,h1,_,_⟩:=iO hw (hp w) h0
 exact⟨a.eval x,by simp[execOp,ho,h1,Sem.run_pure],h0⟩
theorem aaW {T:TypeId} {x:Operand} {tv c:TV} {l r:List TV} (ho:o.op=.load T x) (hT:ju P T=true) (hx:ev env x=some tv) (hp:∀w,vB w objs tv l) (hl:l=c::r):ba P w0 env objs o c:=aO fun a w hw hop=>by
 have h0:=hop x (by simp[ho,Op.operands]) _ hx
 obtain⟨b,q,h1,hci,h2⟩:=iO hw (hp w) h0
 subst hl
 obtain⟨u,h3,h4⟩:=h2 0 c rfl
 refine⟨u, ?_,h4⟩
 simp only[execOp,ho,h1]
 refine dq ?_
 simp only[Instr.loadAt,Instr.sureAddr,loadVar,ZE,Sem.run_pure,Zz,iZ hT]
 show Sem.run P (load ⟨b,q,none⟩) w=_
 rw[run_load,show w.cell? ⟨b,q,none⟩=some u from h3]
inductive gO:Nat->List TV->List TV->Prop
 | zero (l:List TV):gO 0 l []
 | succ (n:Nat) (x:TV) (l o:List TV) (h:gO n l o):gO (n+1) (x::l) (x::o)
theorem gO.eq {n:Nat} {l o:List TV} (h:gO n l o):n<=l.length/\o=l.take n:=by
 induction h with
 | zero l=>simp
 | succ n x l o h ih=>simp[ih.1,ih.2]
theorem gc {T:TypeId} {x:Operand} {tv:TV} {l out:List TV} (ho:o.op=.load T x) (hT:ki P T=true) (hi:(P.info? T).isSome=true) (hs:P.cellsOf T=szT T) (hx:ev env x=some tv) (hp:∀w,vB w objs tv l) (htk:gO (szT T) l out) :
   ba P w0 env objs o (.agg out):=aO fun a w hw hop=>by
 obtain⟨hl,rfl⟩:=htk.eq
 have h0:=hop x (by simp[ho,Op.operands]) _ hx
 obtain⟨b,q,h1,hci,h2⟩:=iO hw (hp w) h0
 have h3:∀j,j<szT T->∃u,w.cell? ⟨b,q+j,none⟩=some u/\∀t,l[j]?=some t->Rep w objs t u:=fun j hj=>by
   obtain⟨u,h4,h5⟩:=h2 j l[j] (Za (by omega))
   exact⟨u,h4,fun t ht=>by rw[Za (by omega)] at ht;simp only[Zo] at ht;subst ht;exact h5⟩
 have h4:∀j,∃u,j<szT T->w.cell? ⟨b,q+j,none⟩=some u/\∀t,l[j]?=some t->Rep w objs t u:=fun j=>by
   by_cases hj:j<szT T
   ·obtain⟨u,hu⟩:=h3 j hj;exact⟨u,fun _=>hu⟩
   ·exact⟨undef,fun h=>absurd h hj⟩
 let g:Nat->Value:=fun j=>Classical.choose (h4 j)
 have hg:∀j,j<szT T->w.cell? ⟨b,q+j,none⟩=some (g j)/\∀t,l[j]?=some t->Rep w objs t (g j):=fun j=>ZL (h4 j)
 refine⟨.agg ((List.range (szT T)).map g).toArray, ?_,.agg _ _ (fun t ht=>hci t (ZS ht)) (by simp;omega) fun i t v ht hv=>?_⟩
 ·simp only[execOp,ho,h1]
  refine dq ?_
  simp only[Instr.loadAt,Instr.sureAddr,loadVar,ZE,Sem.run_pure,Zz,oW hT,if_true,adv hi hs]
  rw[run_loadCells w ⟨b,q,none⟩ (szT T) g (fun j hj=>by rw[Addr.add_lit];exact(hg j hj).1)]
  rfl
 ·rw[ZQ] at ht
  split at ht
  ·rename_i hlt
   simp only[YS,Zj,Xu hlt,Yb,Zo] at hv
   subst hv
   exact(hg i hlt).2 t ht
  ·cases ht
def pV (P:Program) (T k:Nat):Bool:=match P.underlying T with
 | some (.struct fs)=>(match fs[k]? with
   | some f=>f.offset == ofT T k && (match P.info? f.type with|some i=>i.size != 0|none=>false)
   | none=>false)
 | _=>false
theorem og {T k:Nat} (h:pV P T k=true):∃fs f i,P.underlying T=some (.struct fs)/\fs[k]?=some f/\f.offset=ofT T k/\P.info? f.type=some i/\i.size≠0:=by
 unfold pV at h
 split at h
 ·rename_i fs hu
  split at h
  ·rename_i f hf
   simp only[Zq,beq_iff_eq] at h
   obtain⟨h1,h2⟩:=h
   split at h2
   ·rename_i i hi;exact⟨fs,f,i,hu,hf,h1,hi,by simpa using h2⟩
   ·cases h2
  ·cases h
 ·cases h
def afN (off:Nat):TV->Option TV
 | .cp f l=>some (.cp f (l.drop off))
 | .mp s b o=>some (.mp s b (o+off))
 | .me s b m k j=>some (.me s b m k (j+off))
 | _=>none
theorem vN {T k:Nat} {w:World} {b q:Nat} (h:pV P T k=true):(Instr.fieldAt T (.pointer (some ⟨b,q,none⟩)) k).run P w=.ok (.pointer (some ⟨b,q+ofT T k,none⟩)) w:=by
 obtain⟨fs,f,i,h1,h2,h3,h4,h5⟩:=og h
 have hc:P.cellsOf f.type=i.size:=by simp[Program.cellsOf,h4]
 simp only[Instr.fieldAt,ZE,run_underlying h1,Zz,h2,Instr.sureAddr,Sem.run_pure,fieldPlace,run_sizeOf w h4,hc,if_neg h5,Addr.add_lit,h3]
theorem vU {T:TypeId} {x:Operand} {tv tv':TV} {k:Nat} (ho:o.op=.fieldAddr T x k) (hx:ev env x=some tv)
   (hF:pV P T k=true) (ht:afN (ofT T k) tv=some tv'):ba P w0 env objs o tv':=aO fun a w hw hop=>by
 have h0:=hop x (by simp[ho,Op.operands]) _ hx
 have key:∀b q,a.eval x=.pointer (some ⟨b,q,none⟩)->(execOp a.eval o).run P w=.ok (.value (.pointer (some ⟨b,q+ofT T k,none⟩))) w:=fun b q h=>by
   simp only[execOp,ho,h]
   exact dq (vN hF)
 generalize a.eval x=v at h0 key
 cases h0 <;> simp only[afN,Zo,reduceCtorEq] at ht
 all_goals subst ht
 ·rename_i f l hi b q g hZ hb hc hr
  refine⟨_,key _ _ rfl,.cp f _ (fun t ht=>hi t (Z3 ht)) b _ (fun j=>g (ofT T k+j)) hZ hb (fun j t hj=>?_) (fun j t hj=>?_)⟩
  ·rw[Yf] at hj;rw[Xq];exact hc _ t hj
  ·rw[Yf] at hj;exact hr _ t hj
 ·rename_i s b q h
  exact⟨_,key _ _ rfl,.mp s b _ h⟩
 ·rename_i s b m i j h
  exact⟨_,key _ _ rfl,by rw[Xq];exact .me s b m i _ h⟩
theorem wY {T:TypeId} {x i:Operand} {f:Nat} {m:Nat} {rows:List (List TV)} {kk:IntKind} {n:Int} {k:Nat} {r:List TV} (ho:o.op=.indexAddr T x i) (hx:ev env x=some (.sl f m rows)) (hi:ev env i=some (.int kk n))
   (hT:P.underlying T=some (.slice (P.elem T))) (hI:(P.info? (P.elem T)).isSome=true) (hm:P.cellsOf (P.elem T)=m) (hm0:Nat.blt 0 m=true) (hn:n=(k:Int)) (hr:rows[k]?=some r):ba P w0 env objs o (.cp f r):=aO fun a w hw hop=>by
 have h0:=hop x (by simp[ho,Op.operands]) _ hx
 have h1:=(hop i (by simp[ho,Op.operands]) _ hi).int_inv
 have hm0:0<m:=Yo ▸ hm0
 generalize hv:a.eval x=v at h0
 cases h0 with
 | sl f m rows A c g1 g2 g3 gi g g4 g5 =>
   have hk:k<rows.length:=(List.getElem?_eq_some_iff.1 hr).1
   have hrm:r.length=m:=g3 r (Zm hr)
   have hfl:∀j,j<m->rows.flatten[k * m+j]?=r[j]?:=fun j hj=>em g3 hr hj
   obtain⟨b,q,hA,hZ,hc0⟩:=g4 (k * m+0) r[0] ((hfl 0 hm0).trans (Za (by omega)))
   subst hA
   cases hie:P.info? (P.elem T) with
   | none=>rw[hie] at hI;cases hI
   | some ie =>
   have hb:=rm hc0
   have hcells:∀(j:Nat) (t:TV),r[j]?=some t->w.cell? ⟨b,q+k * m+j,none⟩=some (g (k * m+j))/\Rep w objs t (g (k * m+j)):=fun j t hj=>by
     have hjm:j<m:=by rw[<- hrm];exact(List.getElem?_eq_some_iff.1 hj).1
     have h6:=(hfl j hjm).trans hj
     obtain⟨b',q',h7,_,h8⟩:=g4 _ t h6
     simp only[Zo,Addr.mk.injEq,and_true] at h7
     obtain⟨rfl,rfl⟩:=h7
     exact⟨by rw[Xq];exact h8,g5 _ t h6⟩
   refine⟨.pointer (some ⟨b,q+k * m,none⟩), ?_,.cp f r (fun t ht=>gi t (List.mem_flatten.2 ⟨r,Zm hr,ht⟩)) b (q+k * m) (fun j=>g (k * m+j)) hZ hb (fun j t hj=>(hcells j t hj).1) (fun j t hj=>(hcells j t hj).2)⟩
   simp only[execOp,ho,h1,hv]
   refine dq ?_
   rw[run_indexAt_slice w T _ _ _ _ _ hT,if_pos ⟨by omega,by omega⟩,run_sizeOf w hie,hm]
   simp[Zz,hn,Addr.add_lit]
theorem ql {T:TypeId} {x i:Operand} {s b off len m:Nat} {rows:List (List TV)} {kk:IntKind} {n:Int} {k:Nat} (ho:o.op=.indexAddr T x i) (hx:ev env x=some (.ms s b off len)) (hi:ev env i=some (.int kk n))
   (hobj:(s,b,aV.row m rows)∈objs) (hT:P.underlying T=some (.slice (P.elem T))) (hI:(P.info? (P.elem T)).isSome=true) (hm:P.cellsOf (P.elem T)=m) (hn:n=(k:Int)) (hk:k<len) :
   ba P w0 env objs o (.me s b m (off+k) 0):=aO fun a w hw hop=>by
 have h0:=hop x (by simp[ho,Op.operands]) _ hx
 have h1:=(hop i (by simp[ho,Op.operands]) _ hi).int_inv
 generalize hv:a.eval x=v at h0
 cases h0 with
 | ms s b off len v h =>
   have hor:=h.or
   obtain⟨⟨hb,hmk,_⟩,_⟩:=h
   rcases hor m rows hobj with ⟨_,_,h2,_⟩|⟨_,q,c,e,nn,h2,h3,h4,h5,h6⟩
   ·omega
   ·have hq:=h6 (.inl (by omega))
    subst hq
    subst h2
    cases hie:P.info? (P.elem T) with
    | none=>rw[hie] at hI;cases hI
    | some ie =>
    refine⟨.pointer (some ⟨b,(off+k) * m+0,none⟩), ?_,.me s b m (off+k) 0 ⟨hb,hmk⟩⟩
    simp only[execOp,ho,h1,hv]
    refine dq ?_
    rw[run_indexAt_slice w T _ _ _ _ _ hT,if_pos ⟨by omega,by omega⟩,run_sizeOf w hie,hm]
    simp[Zz,hn,Addr.add_lit,Yh]
def bat (s:ByteArray) (j:Nat):Int:=((s.data.toList.getD j 0).toNat:Int)
theorem yJ (s:ByteArray) (j:Nat):0<=bat s j/\bat s j<=255:=⟨by unfold bat;omega,by unfold bat;have:=(s.data.toList.getD j 0).toNat_lt;omega⟩
theorem af9 (s:ByteArray) {j:Nat} (h:j<s.size):bat s j=(s[j].toNat:Int):=by
 unfold bat
 have h1:j<s.data.toList.length:=by rw[Z5];exact h
 rw[ZT,Za h1];rfl
theorem aco {T:TypeId} {x i:Operand} {s:ByteArray} {kk:IntKind} {n:Int} {k:Nat} (ho:o.op=.index T x i) (hx:ev env x=some (.str s)) (hi:ev env i=some (.int kk n)) (hT:P.underlying T=some .string) (hn:n=(k:Int)) (hk:k<s.size) :
   ba P w0 env objs o (.int .u8 (bat s k)):=aO fun a w hw hop=>by
 rw[af9 s hk]
 have h0:=(hop x (by simp[ho,Op.operands]) _ hx).str_inv
 have h1:=(hop i (by simp[ho,Op.operands]) _ hi).int_inv
 refine⟨.int .u8 ((s[k]'hk).toNat:Int), ?_,.int _ _⟩
 simp only[execOp,ho,h0,h1]
 refine dq ?_
 subst hn
 rw[run_index_string w T s kk _ hT,dif_pos ⟨by omega,by omega⟩]
 simp
theorem nY {x:Operand} {t:TypeId} (ho:o.op=.call { callee:=.builtin .len,args:=#[x],argTypes:=#[t] }) {a:Act} {w:World} {v:Value} (h:(Builtin.len_ #[t] o.type #[a.eval x]).run P w=.ok v w) :
   (execOp a.eval o).run P w=.ok (.value v) w:=by
 simp only[execOp,ho,resolve,ZE,Sem.run_pure,Zz,invoke,builtin,Ys,ZU,Yj]
 rw[h];rfl
theorem nU {x:Operand} {t:TypeId} (ho:o.op=.call { callee:=.builtin .len,args:=#[x],argTypes:=#[t] }):x∈o.op.operands.toList:=by simp[ho,Op.operands,Call.operands]
theorem afL {x:Operand} {t:TypeId} {s:ByteArray} (ho:o.op=.call { callee:=.builtin .len,args:=#[x],argTypes:=#[t] }) (hx:ev env x=some (.str s)) (hT:P.underlying t=some .string):ba P w0 env objs o (.int .i64 (s.size:Int)):=aO fun a w hw hop=>by
 have h0:=(hop x (nU ho) _ hx).str_inv
 refine⟨.int .i64 (s.size:Int),nY ho ?_,.int _ _⟩
 rw[h0]
 simp only[Builtin.len_,ZE]
 simp[run_underlying hT,Sem.run_pure,goInt]
theorem adV {x:Operand} {t:TypeId} {f:Nat} {m n:Nat} {rows:List (List TV)} (ho:o.op=.call { callee:=.builtin .len,args:=#[x],argTypes:=#[t] }) (hx:ev env x=some (.sl f m rows)) (hT:P.underlying t=some (.slice (P.elem t))) (hn:rows.length=n):ba P w0 env objs o (.int .i64 (n:Int)):=aO fun a w hw hop=>by
 have h0:=hop x (nU ho) _ hx
 generalize hv:a.eval x=v at h0
 cases h0 with
 | sl f m rows A c g1 g2 g3 gi g g4 g5 =>
   refine⟨.int .i64 (n:Int),nY ho ?_,.int _ _⟩
   rw[hv,run_len_slice w t _ _ _ _ hT,hn];rfl
theorem adZ {x:Operand} {t:TypeId} {s b off len:Nat} (ho:o.op=.call { callee:=.builtin .len,args:=#[x],argTypes:=#[t] }) (hx:ev env x=some (.ms s b off len)) (hT:P.underlying t=some (.slice (P.elem t))) :
   ba P w0 env objs o (.int .i64 (len:Int)):=aO fun a w hw hop=>by
 have h0:=hop x (nU ho) _ hx
 generalize hv:a.eval x=v at h0
 cases h0 with
 | ms s b off len v h =>
   refine⟨.int .i64 (len:Int),nY ho ?_,.int _ _⟩
   obtain⟨A,c,h2⟩:=h.1.2.2
   rw[hv,h2,run_len_slice w t _ _ _ _ hT];rfl
theorem aac {x:Operand} {t:TypeId} (ho:o.op=.call { callee:=.builtin .len,args:=#[x],argTypes:=#[t] }) (hx:ev env x=some .nils) (hT:P.underlying t=some (.slice (P.elem t))):ba P w0 env objs o (.int .i64 0):=aO fun a w hw hop=>by
 have h0:=hop x (nU ho) _ hx
 generalize hv:a.eval x=v at h0
 cases h0
 exact⟨.int .i64 0,nY ho (by rw[hv,run_len_slice w t _ _ _ _ hT];rfl),.int _ _⟩
theorem aaR {x:Operand} {k:Nat} {l:List TV} {t:TV} (ho:o.op=.extract x k) (hx:ev env x=some (.tup l)) (ht:l[k]?=some t):ba P w0 env objs o t:=aO fun a w hw hop=>by
 have h0:=hop x (by simp[ho,Op.operands]) _ hx
 generalize hv:a.eval x=v at h0
 cases h0 with
 | tup l vs h1 h2 =>
   have hk:k<vs.size:=by rw[<- h1];exact(List.getElem?_eq_some_iff.1 ht).1
   refine⟨vs[k], ?_,h2 k t _ ht (by simp[hk])⟩
   simp only[execOp,ho,hv]
   refine dq ?_
   simp[Instr.extract,hk,Sem.run_pure]
theorem afT {T:TypeId} {x:Operand} {k:Nat} {l:List TV} {t:TV} (ho:o.op=.field T x k) (hx:ev env x=some (.agg l)) (hF:pV P T k=true) (hS:ju P ((P.fieldsOf T).getD k default).type=true) (ht:l[ofT T k]?=some t):ba P w0 env objs o t:=aO fun a w hw hop=>by
 have h0:=hop x (by simp[ho,Op.operands]) _ hx
 generalize hv:a.eval x=v at h0
 cases h0 with
 | agg l vs hi h1 h2 =>
   obtain⟨fs,f,i,g1,g2,g3,g4,g5⟩:=og hF
   have hk:ofT T k<vs.size:=by rw[<- h1];exact(List.getElem?_eq_some_iff.1 ht).1
   refine⟨vs[ofT T k], ?_,h2 _ t _ ht (by simp[hk])⟩
   have g6:P.fieldsOf T=fs:=by simp[Program.fieldsOf,g1]
   have g7:((P.fieldsOf T).getD k default).type=f.type:=by rw[g6];simp[ZH,g2]
   rw[g7] at hS
   simp only[execOp,ho,hv]
   refine dq ?_
   simp only[Instr.field,ZE,run_underlying g1,Zz,g2,asAgg,Sem.run_pure,part,iZ hS]
   simp[g3,hk,Sem.run_pure]
section
variable {T:TypeId} {x:Operand} {s:ByteArray}
theorem gj {lo hi mx:Option Operand} (ho:o.op=.slice T x lo hi mx):x∈o.op.operands.toList:=by simp[ho,Op.operands]
theorem gH {w:World} (hT:P.underlying T=some .string) (lo hi mx:Option Value):(Instr.sliceAt T (.string s) lo hi mx).run P w=(Instr.slice T (.string s) lo hi mx).run P w:=by
 simp only[Instr.sliceAt,ZE,run_underlying hT,Zz]
theorem zi {lo hi:Operand} {k1 k2:IntKind} {i j:Nat} {m n:Int} (ho:o.op=.slice T x (some lo) (some hi) none) (hx:ev env x=some (.str s)) (hlo:ev env lo=some (.int k1 m)) (hhi:ev env hi=some (.int k2 n)) (hT:P.underlying T=some .string)
   (hm:m=(i:Int)) (hn:n=(j:Int)) (h1:i<=j) (h2:j<=s.size):ba P w0 env objs o (.str (s.extract i j)):=aO fun a w hw hop=>by
 have h0:=(hop x (gj ho) _ hx).str_inv
 have g1:=(hop lo (by simp[ho,Op.operands]) _ hlo).int_inv
 have g2:=(hop hi (by simp[ho,Op.operands]) _ hhi).int_inv
 refine⟨.string (s.extract i j), ?_,.str _⟩
 simp only[execOp,ho,h0,g1,g2,Yb,YT]
 refine dq ?_
 rw[gH hT,run_slice_string w T s k1 k2 _ _ hT (by omega) (by omega) (by omega)]
 subst hm;subst hn;simp
theorem aa2 {lo:Operand} {k1:IntKind} {i:Nat} {m:Int} (ho:o.op=.slice T x (some lo) none none) (hx:ev env x=some (.str s)) (hlo:ev env lo=some (.int k1 m)) (hT:P.underlying T=some .string)
   (hm:m=(i:Int)) (h1:i<=s.size):ba P w0 env objs o (.str (s.extract i s.size)):=aO fun a w hw hop=>by
 have h0:=(hop x (gj ho) _ hx).str_inv
 have g1:=(hop lo (by simp[ho,Op.operands]) _ hlo).int_inv
 refine⟨.string (s.extract i s.size), ?_,.str _⟩
 simp only[execOp,ho,h0,g1,Yb,YT]
 refine dq ?_
 rw[gH hT,run_slice_string_l w T s hT k1 _ (by omega) (by omega)]
 subst hm;simp
theorem abp {hi:Operand} {k2:IntKind} {j:Nat} {n:Int} (ho:o.op=.slice T x none (some hi) none) (hx:ev env x=some (.str s)) (hhi:ev env hi=some (.int k2 n)) (hT:P.underlying T=some .string)
   (hn:n=(j:Int)) (h2:j<=s.size):ba P w0 env objs o (.str (s.extract 0 j)):=aO fun a w hw hop=>by
 have h0:=(hop x (gj ho) _ hx).str_inv
 have g2:=(hop hi (by simp[ho,Op.operands]) _ hhi).int_inv
 refine⟨.string (s.extract 0 j), ?_,.str _⟩
 simp only[execOp,ho,h0,g2,Yb,YT]
 refine dq ?_
 rw[gH hT,run_slice_string_h w T s hT k2 _ (by omega) (by omega)]
 subst hn;simp
end
end
theorem ff (objs:aG):∃d,∀x∈objs,x.1≠d:=by
 have:∃d,∀x∈objs,x.1<d:=by
   induction objs with
   | nil=>exact⟨0,by simp⟩
   | cons y l ih =>
     obtain⟨d,hd⟩:=ih
     refine⟨d+y.1+1,fun x hx=>?_⟩
     rcases List.mem_cons.1 hx with rfl|hx
     ·omega
     ·have:=hd x hx;omega
 obtain⟨d,hd⟩:=this
 exact⟨d,fun x hx=>by have:=hd x hx;omega⟩
section
variable {P:Program} {w0:World} {N:Nat} {Q:Exit->Act->World->Prop} {env:Env} {objs:aG} {o:Oper}
theorem jt (w:World) (objs:aG):kQ w objs w objs:=⟨fun _ _ _=>rfl,fun _ _ h=>h,fun _ _ _ rows _ _ h=>⟨⟨rows,h⟩,rfl⟩,Zg _,id⟩
theorem iz {w w':World} {b:Nat} (h:w'.heap[b]?=w.heap[b]?):w'.shape? b=w.shape? b:=by unfold World.shape?;rw[h]
theorem lm {w w':World} (objs:aG) (hsz:w.heap.size<=w'.heap.size) (hb:∀b,b<w.heap.size->w'.heap[b]?=w.heap[b]?):kQ w objs w' objs :=
 ⟨fun b h _=>hb b h,fun _ _ h=>h,fun _ _ _ rows h _ hm=>⟨⟨rows,hm⟩,iz (hb _ h)⟩,hsz,id⟩
theorem dV {w:World} (hw:eo w0 objs w) {s b:Nat} {ob:aV} (hm:(s,b,ob)∈objs):b<w.heap.size:=by
 have hpos:0<w.heap.size:=ZJ hw.pos hw.below.size
 cases ob with
 | void=>rw[show b=0 from hw.obj s b _ hm];exact hpos
 | iter x pos=>exact(Array.getElem?_eq_some_iff.1 (hw.obj s b _ hm).2).1
 | row m rows =>
   rcases(hw.obj s b _ hm).2.2 with ⟨h,_⟩|⟨_,cur,e,cap,h,_⟩
   ·omega
   ·exact(Array.getElem?_eq_some_iff.1 h).1
 | box cells =>
   obtain⟨_,cur,e,h,_⟩:=hw.obj s b _ hm
   exact(Array.getElem?_eq_some_iff.1 h).1
theorem eo.grow {w w':World} (hw:eo w0 objs w) (hb:Below w0.heap.size w0 w') (hsz:w.heap.size<=w'.heap.size) (hk:∀b,b<w.heap.size->w'.heap[b]?=w.heap[b]?):eo w0 objs w' :=
 ⟨hb,hw.pos,fun s b ob hm=>(hw.obj s b ob hm).step (lm objs hsz hk) (hk b (dV hw hm)),hw.sites⟩
theorem eo.alloc {w:World} (hw:eo w0 objs w) (ob:Obj):eo w0 objs (w.alloc ob)/\kQ w objs (w.alloc ob) objs :=
 have hk:∀b,b<w.heap.size->(w.alloc ob).heap[b]?=w.heap[b]?:=fun b hb=>Below.heap_alloc w ob b hb
 ⟨hw.grow (hw.below.alloc hw.below.size ob) (by simp) hk,lm objs (by simp) hk⟩
theorem ib {w:World} (hw:eo w0 objs w) (cs:Array Value) (e:TypeId) (d:Nat) (ob:aV):kQ w objs (w.alloc (.cells cs e)) ((d,w.heap.size,ob)::objs):=by
 have hk:∀b,b<w.heap.size->(w.alloc (.cells cs e)).heap[b]?=w.heap[b]?:=fun b hb=>Below.heap_alloc w _ b hb
 have hpos:0<w.heap.size:=ZJ hw.pos hw.below.size
 refine⟨fun b h _=>hk b h,fun b h ha=>⟨ha.1, ?_⟩,fun s b m rows h _ hm=>?_,by simp,fun hm=>?_⟩
 ·obtain⟨s,o,hm⟩:=ha.2
  rcases List.mem_cons.1 hm with he|hm
  ·simp only[Zp] at he;omega
  ·exact⟨s,o,hm⟩
 ·rcases List.mem_cons.1 hm with he|hm
  ·simp only[Zp] at he;omega
  ·exact⟨⟨rows,hm⟩,iz (hk b h)⟩
 ·rcases List.mem_cons.1 hm with he|hm
  ·simp only[dr,Zp] at he;omega
  ·exact hm
theorem ga {w:World} (hw:eo w0 objs w) (cs:Array Value) (e:TypeId) (d:Nat) (ob:aV):dr∉(d,w.heap.size,ob)::objs:=fun hm=>hw.noMark ((ib hw cs e d ob).mark hm)
theorem eo.newObj {w:World} (hw:eo w0 objs w) {cs:Array Value} {e:TypeId} {d:Nat} {ob:aV} (hd:∀x∈objs,x.1≠d)
   (ho:uz (w.alloc (.cells cs e)) w0.heap.size ((d,w.heap.size,ob)::objs) w.heap.size ob):eo w0 ((d,w.heap.size,ob)::objs) (w.alloc (.cells cs e)) :=
 ⟨hw.below.alloc hw.below.size _,hw.pos,fun s b o hm=>by
   rcases List.mem_cons.1 hm with he|hm
   ·simp only[Zp] at he;obtain⟨rfl,rfl,rfl⟩:=he;exact ho
   ·exact(hw.obj s b o hm).step (ib hw cs e d ob) (Below.heap_alloc w _ b (dV hw hm)),
 List.pairwise_cons.2 ⟨fun y hy=>⟨fun e=>hd y hy e.symm,.inl (Xi (dV (s:=y.1) (ob:=y.2.2) hw hy))⟩,hw.sites⟩⟩
theorem Sim.putNew {a:Act} {w w':World} {objs':aG} (hs:Sim w0 N env objs a w) {d:Nat} (hd:Nat.blt d N=true) {tv:TV} {v:Value} (hr:Rep w' objs' tv v) (hw:eo w0 objs' w') (hst:kQ w objs w' objs'):Sim w0 N ((d,tv)::env) objs' (a.put (some d) v) w':=by
 have hlt:d<a.tmps.size:=by rw[hs.size];exact Yo ▸ hd
 refine⟨hs.defers,by simp[Act.put,hs.size],hw,fun t u hu=>?_⟩
 rw[cK] at hu
 show Rep w' objs' u ((a.tmps.setIfInBounds d v).getD t undef)
 rw[k8 hlt]
 split at hu
 ·rename_i e;subst e;simp only[Zo] at hu;subst hu;simp only[if_true];exact hr
 ·rename_i e;rw[if_neg e];exact(hs.env t u hu).step hst
theorem Sim.same {a:Act} {w w':World} {objs':aG} (hs:Sim w0 N env objs a w) (hw:eo w0 objs' w') (hst:kQ w objs w' objs'):Sim w0 N env objs' a w' :=
 ⟨hs.defers,hs.size,hw,fun t u hu=>(hs.env t u hu).step hst⟩
def eM:TV->Option (List TV)
 | .agg l=>some l
 | .tup _=>none
 | .top=>none
 | .gh _=>none
 | t=>some [t]
theorem Rep.one {w:World} {tv:TV} {v:Value} (h:Rep w objs tv v) (hi:tv.isCell=true):v.oneCell'=true/\v.cells=#[v]:=by
 cases h with
 | agg=>cases hi
 | tup=>cases hi
 | top=>cases hi
 | gh=>cases hi
 | ms s b off len v h=>obtain⟨⟨_,_,A,c,rfl⟩,_⟩:=h;exact⟨rfl,rfl⟩
 | _=>exact⟨rfl,rfl⟩
theorem gF {w:World} {tv:TV} {v:Value} {l:List TV} (h:Rep w objs tv v) (hl:eM tv=some l):v.cells.size=l.length/\(∀(i:Nat) (t:TV) (u:Value),l[i]?=some t->v.cells[i]?=some u->Rep w objs t u)/\∀t∈l,t.isCell=true:=by
 by_cases hc:tv.isCell=true
 ·have hl':l=[tv]:=by cases tv <;> first|(cases hc;done)|(simp only[eM,Zo] at hl;exact hl.symm)
  subst hl'
  obtain⟨_,h2⟩:=h.one hc
  rw[h2]
  refine⟨rfl,fun i t' u hi hu=>?_,by simpa using hc⟩
  cases i with
  | zero=>simp at hi hu;subst hi;subst hu;exact h
  | succ i=>simp at hi
 ·cases h with
  | agg l' vs hi h1 h2=>simp only[eM,Zo] at hl;subst hl;exact⟨h1.symm,h2,hi⟩
  | tup=>cases hl
  | top=>cases hl
  | gh=>cases hl
  | _=>exact absurd rfl hc
def dt (P:Program) (T:Nat):Option (List TV):=(P.info? T).bind fun i=>i.zero.bind fun z=>tvL z.cells.toList
theorem lM {T:Nat} {l:List TV} (h:dt P T=some l) (w:World):∃z,(zeroValue T).run P w=.ok z w/\(z.cells.size=l.length/\∀t∈l,t.isCell=true)/\∀(w:World) (objs:aG) (i:Nat) (t:TV) (u:Value),l[i]?=some t->z.cells[i]?=some u->Rep w objs t u:=by
 unfold dt at h
 cases hi:P.info? T with
 | none=>rw[hi] at h;cases h
 | some i =>
   rw[hi] at h
   simp only[Ym] at h
   cases hz:i.zero with
   | none=>rw[hz] at h;cases h
   | some z =>
     rw[hz] at h
     simp only[Ym] at h
     refine⟨z,by simp[zeroValue,ZE,run_typeInfo w hi,hz,Sem.run_pure],by have:=(lZ (w:=w) (objs:=[]) h).1;exact⟨by simpa using this.1.symm,this.2⟩,fun w objs i t u ht hu=>(lZ (w:=w) (objs:=objs) h).2 i t u ht (by simpa using hu)⟩
theorem adq {ops:Array Oper} {rest:List Oper} {d:Nat} {T:TypeId} {zs:List TV} (ho:o.op=.alloc T) (hd:o.dst=some d) (hN:Nat.blt d N=true) (hz:dt P T=some zs)
   (h:∀ss b,AL P w0 N ops Q rest ((d,.mp ss b 0)::env) ((ss,b,.box zs)::objs)):AO P w0 N ops Q o rest env objs:=⟨fun a w K hs hK=>by
   obtain⟨ss,hf⟩:=ff objs
   obtain⟨z,h1,h2,h3⟩:=lM hz w
   have hst:=ib hs.mem z.cells T ss (.box zs)
   have hrun:(execOp a.eval o).run P w=.ok (.value (.pointer (some ⟨w.heap.size,0,none⟩))) (w.alloc (.cells z.cells T)):=by
     simp only[execOp,ho]
     refine dq ?_
     simp[Instr.alloc,ZE,h1,newVar,newRow,run_newObj_alloc,Sem.run_pure]
   unfold Oper.wp
   rw[hrun]
   refine hK _ _ ?_
   rw[hd]
   refine(h ss w.heap.size).run _ _ (hs.putNew hN (.mp ss _ 0 ⟨by simp,ga hs.mem #[] 0 ss _⟩) (hs.mem.newObj hf ⟨⟨hs.mem.below.size,h2.2⟩,z.cells,T,heap_alloc_new w _,h2.1,fun j t hj=>?_⟩) hst)
   have hlt:j<z.cells.size:=by rw[h2.1];exact(List.getElem?_eq_some_iff.1 hj).1
   exact⟨z.cells[j],by simp[hlt],h3 _ _ j t _ hj (by simp[hlt])⟩⟩
theorem aaX {T:TypeId} {x:Operand} (ho:o.op=.box T x) (a:Act) (w:World):(execOp a.eval o).run P w=.ok (.value (.pointer (some ⟨w.heap.size,0,none⟩))) (w.alloc (.cells (a.eval x).cells T)):=by
 simp only[execOp,ho]
 refine dq ?_
 simp[Instr.box,ZE,newVar,newRow,run_newObj_alloc,Sem.run_pure]
theorem ahF {T:TypeId} {x:Operand} {tv:TV} {l:List TV} (ho:o.op=.box T x) (hx:ev env x=some tv) (hl:eM tv=some l):ba P w0 env objs o (.cp w0.heap.size l):=fun a w K Q hw hop hK=>by
 have h0:=hop x (by simp[ho,Op.operands]) _ hx
 obtain⟨h1,h2⟩:=hw.alloc (.cells (a.eval x).cells T)
 obtain⟨g1,g2,g3⟩:=gF (h0.step h2) hl
 unfold Oper.wp
 rw[aaX ho]
 refine hK _ _ (.cp w0.heap.size l g3 w.heap.size 0 (fun j=>(a.eval x).cells.getD j undef) ⟨hw.below.size,fun ha=>?_⟩ (by simp) (fun j t hj=>?_) (fun j t hj=>?_)) h1 h2
 ·obtain⟨_,s,ob,hm⟩:=ha
  exact YK _ (dV hw hm)
 ·have hlt:j<(a.eval x).cells.size:=by rw[g1];exact(List.getElem?_eq_some_iff.1 hj).1
  rw[ZY,World.cell?_alloc_new];simp[hlt]
 ·have hlt:j<(a.eval x).cells.size:=by rw[g1];exact(List.getElem?_eq_some_iff.1 hj).1
  exact g2 j t _ hj (by simp[hlt])
theorem ag5 {ops:Array Oper} {rest:List Oper} {d:Nat} {T:TypeId} {x:Operand} {tv:TV} {l:List TV} (ho:o.op=.box T x) (hd:o.dst=some d) (hN:Nat.blt d N=true) (hx:ev env x=some tv) (hl:eM tv=some l)
   (h:∀ss b,AL P w0 N ops Q rest ((d,.mp ss b 0)::env) ((ss,b,.box l)::objs)):AO P w0 N ops Q o rest env objs:=⟨fun a w K hs hK=>by
   obtain⟨ss,hf⟩:=ff objs
   have hst:=ib hs.mem (a.eval x).cells T ss (.box l)
   obtain⟨g1,g2,g3⟩:=gF ((fU hs hx).step hst) hl
   unfold Oper.wp
   rw[aaX ho]
   refine hK _ _ ?_
   rw[hd]
   refine(h ss w.heap.size).run _ _ (hs.putNew hN (.mp ss _ 0 ⟨by simp,ga hs.mem #[] 0 ss _⟩) (hs.mem.newObj hf ⟨⟨hs.mem.below.size,g3⟩,_,T,heap_alloc_new w _,g1,fun j t hj=>?_⟩) hst)
   have hlt:j<(a.eval x).cells.size:=by rw[g1];exact(List.getElem?_eq_some_iff.1 hj).1
   exact⟨(a.eval x).cells[j],by simp[hlt],g2 j t _ hj (by simp[hlt])⟩⟩
def evL (env:Env):List (Nat×Operand)->Nat->Option (List (List TV))
 | [],_=>some []
 | (i,x)::r,n=>bif Nat.beq i n then (match (ev env x).bind eM,evL env r (n+1) with
   | some l,some ls=>some (l::ls)
   | _,_=>none) else none
theorem yh {w:World} (a:Act):∀{ps:List (Nat×Operand)} {n:Nat} {rows:List (List TV)},evL env ps n=some rows->(∀p∈ps,∀v,ev env p.2=some v->Rep w objs v (a.eval p.2)) ->
   (ps.map fun p=>(p.1,a.eval p.2))=(((ps.map fun p=>a.eval p.2)).zipIdx n).map (fun x=>(x.2,x.1))/\(rows.length=ps.length/\∀t∈rows.flatten,t.isCell=true) /\
     ∀(k:Nat) (r:List TV),rows[k]?=some r->∃v,(ps.map fun p=>a.eval p.2)[k]?=some v/\v.cells.size=r.length/\∀(i:Nat) (t:TV) (u:Value),r[i]?=some t->v.cells[i]?=some u->Rep w objs t u
 | [],n,rows,h,_=>by simp only[evL,Zo] at h;subst h;simp
 | (i,x)::ps,n,rows,h,hop=>by
   unfold evL at h
   cases hb:Nat.beq i n with
   | false=>rw[hb] at h;cases h
   | true =>
     rw[hb] at h
     have hi:i=n:=Yi hb
     simp only[cond_true] at h
     split at h
     ·rename_i l ls h1 h2
      simp only[Zo] at h
      subst h;subst hi
      obtain⟨e1,e2,e3⟩:=yh a h2 (fun p hp=>hop p (by simp[hp]))
      obtain⟨tv,h3,h4⟩:=Option.bind_eq_some_iff.1 h1
      obtain⟨g1,g2,g3⟩:=gF (hop (i,x) (by simp) tv h3) h4
      refine⟨by simp only[ZU,List.zipIdx_cons];rw[e1],⟨by simp[e2.1],fun t ht=>by
        rw[Yk,ZO] at ht
        rcases ht with ht|ht
        ·exact g3 t ht
        ·exact e2.2 t ht⟩,fun k r hk=>?_⟩
      cases k with
      | zero=>simp at hk;subst hk;exact⟨a.eval x,by simp,g1,g2⟩
      | succ k=>simpa using e3 k r (by simpa using hk)
     ·cases h
theorem wd {T:TypeId} {n m:Nat} {ps:List (Nat×Operand)} {rows:List (List TV)} (ho:o.op=.buildSlice T n ps.toArray) (hT:P.underlying T=some (.slice (P.elem T))) (hI:(dt P (P.elem T)).isSome=true) (hm:P.cellsOf (P.elem T)=m) (hm0:Nat.blt 0 m=true)
   (hn:rows.length=n) (hbig:Nat.ble (n * m) 16777216=true) {w:World} (a:Act) (hev:evL env ps 0=some rows) (hall:∀r∈rows,r.length=m) (hop:∀p∈ps,∀v,ev env p.2=some v->Rep w objs v (a.eval p.2)) :
   ∃cs:Array Value,(execOp a.eval o).run P w=.ok (.value (.slice (some ⟨w.heap.size,0,none⟩) n n)) (w.alloc (.cells cs (P.elem T)))/\(cs.size=n * m/\∀t∈rows.flatten,t.isCell=true)/\∀(j:Nat) (t:TV),rows.flatten[j]?=some t->∃v,cs[j]?=some v/\Rep w objs t v:=by
 have hm0:0<m:=Yo ▸ hm0
 have hbig:=Ya hbig
 obtain⟨e1,e2,e3⟩:=yh a hev hop
 obtain⟨zs,hz⟩:=Option.isSome_iff_exists.1 hI
 obtain⟨z,hz1,_,_⟩:=lM hz w
 unfold dt at hz
 cases hie:P.info? (P.elem T) with
 | none=>rw[hie] at hz;cases hz
 | some ie =>
 rw[hie] at hz
 simp only[Ym] at hz
 cases hzz:ie.zero with
 | none=>rw[hzz] at hz;cases hz
 | some zv =>
 have hsz:ie.size=m:=by rw[<- hm];simp[Program.cellsOf,hie]
 have hlen:ps.length=n:=by rw[<- e2.1];exact hn
 have hvs:∀v∈(ps.map fun p=>a.eval p.2),v.cells.size=m:=fun v hv=>by
   obtain⟨k,hk,rfl⟩:=ZD hv
   have hk':k<rows.length:=by rw[e2.1];simpa using hk
   obtain⟨v,h1,h2,_⟩:=e3 k rows[k] (Za hk')
   rw[Za hk] at h1
   simp only[Zo] at h1
   rw[h1,h2]
   exact hall _ (Zb hk')
 by_cases hn0:n=0
 ·subst hn0
  have hps:ps=[]:=ZV hlen
  subst hps
  have hr0:rows=[]:=ZV hn
  subst hr0
  refine⟨(Array.range 0).map fun _=>default, ?_,by simp,by simp⟩
  simp only[execOp,ho]
  refine dq ?_
  simp[Instr.buildSlice,ZE,run_underlying hT,run_sizeOf w hie,Instr.fill,newRow,run_newObj_alloc,Sem.run_pure]
 ·have hpos:¬ n * m=0:=by
    intro h;rcases Nat.mul_eq_zero.1 h with h|h <;> omega
  obtain⟨cs,h1,h2,h3⟩:=Great.fill_dense (s:=m) hm0 (ps.map fun p=>a.eval p.2) 0 ((Array.range (n * m)).map (zv.cells[· % zv.cells.size]!)) hvs (by simp[hlen])
  refine⟨cs, ?_,⟨by rw[h2];simp,e2.2⟩,fun j t hj=>?_⟩
  ·simp only[execOp,ho]
   refine dq ?_
   refine run_buildSlice w T _ n _ cs ie zv hT hie hzz (by rw[hsz];omega) (by rw[hsz];exact hpos) ?_
   rw[hsz]
   simp only[Ys]
   show Instr.fill _ _ (ps.map fun p=>(p.1,a.eval p.2))=_
   rw[e1];exact h1
  ·have hjl:j<rows.length * m:=by rw[<- length_flatten hall];exact(List.getElem?_eq_some_iff.1 hj).1
   have hq:j / m<rows.length:=Xr (by rw[Xv];exact hjl)
   have hr:j % m<m:=Nat.mod_lt _ hm0
   have hje:j=(j / m) * m+j % m:=by rw[Xv];exact(Nat.div_add_mod j m).symm
   have h5:=em hall (Za hq) hr
   rw[<- hje,hj] at h5
   obtain⟨v,g1,g2,g3⟩:=e3 _ _ (Za hq)
   have h6:=h3 j
   rw[if_pos ⟨by omega,by rw[ZY,Zf,hlen,<- hn];exact hjl⟩,Nat.sub_zero,g1,Ym] at h6
   have hlt:j % m<v.cells.size:=by rw[g2,hall _ (Zb hq)];exact hr
   exact⟨v.cells[j % m],h6.trans (by simp[hlt]),g3 _ t _ h5.symm (by simp[hlt])⟩
theorem aaS {T:TypeId} {n:Nat} {ps:List (Nat×Operand)} (ho:o.op=.buildSlice T n ps.toArray) {p:Nat×Operand} (hp:p∈ps):p.2∈o.op.operands.toList:=by
 simp only[ho,Op.operands,List.toList_toArray];exact List.mem_map.2 ⟨p,hp,rfl⟩
theorem aeY {T:TypeId} {n m:Nat} {ps:List (Nat×Operand)} {rows:List (List TV)} (ho:o.op=.buildSlice T n ps.toArray) (hT:P.underlying T=some (.slice (P.elem T))) (hI:(dt P (P.elem T)).isSome=true) (hm:P.cellsOf (P.elem T)=m) (hm0:Nat.blt 0 m=true)
   (hev:evL env ps 0=some rows) (hn:rows.length=n) (hbig:Nat.ble (n * m) 16777216=true) (hall:(rows.all fun r=>Nat.beq r.length m)=true):ba P w0 env objs o (.sl w0.heap.size m rows):=fun a w K Q hw hop hK=>by
 have hm0':0<m:=Yo ▸ hm0
 have hall':∀r∈rows,r.length=m:=fun r hr=>Yi (List.all_eq_true.1 hall r hr)
 obtain⟨cs,h1,h2,h3⟩:=wd ho hT hI hm hm0 hn hbig a hev hall' (fun p hp v hv=>hop _ (aaS ho hp) v hv)
 obtain⟨g1,g2⟩:=hw.alloc (.cells cs (P.elem T))
 unfold Oper.wp
 rw[h1]
 have hnm:n<=maxLen:=by
   have:=Ya hbig
   have h4:n * 1<=n * m:=Y9 _ hm0'
   simp only[maxLen];omega
 refine hK _ _ ?_ g1 g2
 have hsl := Rep.sl (w := w.alloc (.cells cs (P.elem T))) (objs := objs) w0.heap.size m rows (some ⟨w.heap.size, 0, none⟩) n (by omega) hnm hall' h2.2 (fun j => cs.getD j undef) (fun j t hj => ⟨_, _, rfl, ⟨hw.below.size, fun ha => by
     obtain⟨_,s,ob,hm⟩:=ha;exact YK _ (dV hw hm)⟩,by
     obtain⟨v,h4,_⟩:=h3 j t hj
     rw[ZY,World.cell?_alloc_new,h4];simp[ZH,h4]⟩) (fun j t hj=>by
     obtain⟨v,h4,h5⟩:=h3 j t hj
     simp only[ZH,h4,Yn]
     exact h5.step g2)
 rw[hn] at hsl
 exact hsl
theorem ag6 {ops:Array Oper} {rest:List Oper} {d:Nat} {T:TypeId} {n m:Nat} {ps:List (Nat×Operand)} {rows:List (List TV)} (ho:o.op=.buildSlice T n ps.toArray) (hd:o.dst=some d) (hN:Nat.blt d N=true) (hT:P.underlying T=some (.slice (P.elem T))) (hI:(dt P (P.elem T)).isSome=true) (hm:P.cellsOf (P.elem T)=m) (hm0:Nat.blt 0 m=true)
   (hev:evL env ps 0=some rows) (hn:rows.length=n) (hbig:Nat.ble (n * m) 16777216=true) (hall:(rows.all fun r=>Nat.beq r.length m)=true)
   (h:∀ss b,AL P w0 N ops Q rest ((d,.ms ss b 0 n)::env) ((ss,b,.row m rows)::objs)):AO P w0 N ops Q o rest env objs:=⟨fun a w K hs hK=>by
   obtain⟨ss,hf⟩:=ff objs
   have hm0':0<m:=Yo ▸ hm0
   have hall':∀r∈rows,r.length=m:=fun r hr=>Yi (List.all_eq_true.1 hall r hr)
   have hst:=fun cs=>ib hs.mem cs (P.elem T) ss (.row m rows)
   obtain⟨cs,h1,h2,h3⟩:=wd ho hT hI hm hm0 hn hbig a hev hall' (fun p hp v hv=>fU hs hv)
   unfold Oper.wp
   rw[h1]
   refine hK _ _ ?_
   rw[hd]
   have hnm:n<=maxLen:=by
     have:=Ya hbig
     have h4:n * 1<=n * m:=Y9 _ hm0'
     simp only[maxLen];omega
   have hb0:w.heap.size≠0:=Xi (ZJ hs.mem.pos hs.mem.below.size)
   refine(h ss w.heap.size).run _ _ (hs.putNew hN (.ms _ _ _ _ _ (.mk ⟨by simp,ga hs.mem #[] 0 ss _,_,_,rfl⟩ (fun m' rows' hm'=>.inr ⟨hb0,0,n,P.elem T,n * m,rfl,Zg _,by unfold World.shape?;rw[heap_alloc_new];simp[h2.1], ?_,fun _=>by simp⟩) (fun h0=>absurd h0 hb0))) (hs.mem.newObj hf ⟨⟨hm0',h2.2⟩,hall',.inr ⟨hs.mem.below.size,cs,P.elem T,n,heap_alloc_new w _,h2.1,by omega,hnm,fun j t hj=>?_⟩⟩) (hst cs))
   ·rcases List.mem_cons.1 hm' with he|hm'
    ·simp only[Zp,aV.row.injEq] at he;rw[he.2.2.1];simp
    ·exact absurd (dV hs.mem hm') (YK _)
   ·obtain⟨v,h4,h5⟩:=h3 j t hj
    exact⟨v,h4,h5.step (hst cs)⟩⟩
end
inductive Upd (x x':Nat×Nat×aV):aG->aG->Prop
 | head (l:aG):Upd x x' (x::l) (x'::l)
 | tail (y:Nat×Nat×aV) (l l':aG) (h:Upd x x' l l'):Upd x x' (y::l) (y::l')
theorem Upd.mem {x x':Nat×Nat×aV} {l l':aG} (h:Upd x x' l l'):x∈l:=by
 induction h with
 | head l=>exact Zi
 | tail y l l' h ih=>exact Zd _ ih
theorem Upd.other {x x':Nat×Nat×aV} {l l':aG} (h:Upd x x' l l') (hp:List.Pairwise fL l):∀y∈l',y=x'\/(y∈l/\y.1≠x.1/\(y.2.1≠x.2.1\/x.2.1=0)):=by
 induction h with
 | head l =>
   intro y hy
   rcases List.mem_cons.1 hy with rfl|hy
   ·exact .inl rfl
   ·obtain⟨h1,h2⟩:=(List.pairwise_cons.1 hp).1 y hy
    exact .inr ⟨Zd _ hy,h1.symm,h2.imp Ne.symm id⟩
 | tail z l l' h ih =>
   intro y hy
   rcases List.mem_cons.1 hy with rfl|hy
   ·obtain⟨h1,h2⟩:=(List.pairwise_cons.1 hp).1 x h.mem
    refine .inr ⟨Zi,h1, ?_⟩
    rcases h2 with h2|h2
    ·exact .inl h2
    ·by_cases e:y.2.1=x.2.1
     ·exact .inr (e ▸ h2)
     ·exact .inl e
   ·exact(ih (List.pairwise_cons.1 hp).2 y hy).imp id fun⟨h1,h2⟩=>⟨Zd _ h1,h2⟩
theorem Upd.sites {x x':Nat×Nat×aV} {l l':aG} (h:Upd x x' l l') (hs:x'.1=x.1) (hp:List.Pairwise fL l) (hb:∀y∈l,y.1≠x.1->x'.2.1≠y.2.1\/x'.2.1=0):List.Pairwise fL l':=by
 induction h with
 | head l =>
   obtain⟨h1,h2⟩:=List.pairwise_cons.1 hp
   exact List.pairwise_cons.2 ⟨fun y hy=>⟨by rw[hs];exact(h1 y hy).1,hb y (Zd _ hy) (h1 y hy).1.symm⟩,h2⟩
 | tail z l l' h ih =>
   obtain⟨h1,h2⟩:=List.pairwise_cons.1 hp
   refine List.pairwise_cons.2 ⟨fun y hy=>?_,ih h2 fun y hy=>hb y (Zd _ hy)⟩
   rcases h.other h2 y hy with rfl|⟨hy,_,_⟩
   ·have hz:=h1 x h.mem
    refine⟨by rw[hs];exact hz.1, ?_⟩
    rcases hb z Zi hz.1 with h3|h3
    ·exact .inl h3.symm
    ·by_cases e:z.2.1=0
     ·exact .inr e
     ·exact .inl (by rw[h3];exact e)
   ·exact h1 y hy
section
variable {P:Program} {w0:World} {N:Nat} {Q:Exit->Act->World->Prop} {env:Env} {objs objs':aG} {o:Oper}
theorem j4 {w w':World} (hw:eo w0 objs w) {s b b' m:Nat} {ob ob':aV} (hu:Upd (s,b,ob) (s,b',ob') objs objs') (hsz:w.heap.size<=w'.heap.size)
   (hk:∀k,k<w.heap.size->k≠b\/b=0->w'.heap[k]?=w.heap[k]?) (hb':b'=b\/w.heap.size<=b') (hkind:∀rows',ob'=.row m rows'->∃rows,ob=.row m rows) (hm:∀m' rows',ob'=.row m' rows'->m'=m) (hsh:b'=b->b≠0->w'.shape? b=w.shape? b) (hmk:dr≠(s,b',ob')):kQ w objs w' objs':=by
 have hoth:=hu.other hw.sites
 refine⟨fun k hlt hna=>hk k hlt ?_,fun k hlt ha=>?_,fun s1 b1 m1 rows1 hlt hb1 hm1=>?_,hsz,fun hm=>(hoth _ hm).elim (fun e=>absurd e hmk) (fun e=>e.1)⟩
 ·by_cases e:k=b
  ·subst e
   by_cases e0:k=0
   ·exact .inr e0
   ·exact absurd ⟨e0,s,ob,hu.mem⟩ hna
  ·exact .inl e
 ·obtain⟨h0,s1,o1,h1⟩:=ha
  rcases hoth _ h1 with he|⟨h2,_⟩
  ·simp only[Zp] at he
   obtain⟨_,rfl,_⟩:=he
   rcases hb' with rfl|hb'
   ·exact⟨h0,s,ob,hu.mem⟩
   ·omega
  ·exact⟨h0,s1,o1,h2⟩
 ·rcases hoth _ hm1 with he|⟨h2,_,h3⟩
  ·simp only[Zp] at he
   obtain⟨rfl,rfl,rfl⟩:=he
   have hmm:=hm m1 rows1 rfl
   subst hmm
   obtain⟨rows,hr⟩:=hkind rows1 rfl
   rcases hb' with rfl|hb'
   ·exact⟨⟨rows,hr ▸ hu.mem⟩,hsh rfl hb1⟩
   ·omega
  ·refine⟨⟨rows1,h2⟩,iz (hk b1 hlt ?_)⟩
   exact h3
theorem eo.upd {w w':World} (hw:eo w0 objs w) {s b b':Nat} {ob ob':aV} (hu:Upd (s,b,ob) (s,b',ob') objs objs') (hbel:Below w0.heap.size w0 w')
   (hk:∀k,k<w.heap.size->k≠b\/b=0->w'.heap[k]?=w.heap[k]?) (hb':b'=b\/w.heap.size<=b') (hst:kQ w objs w' objs') (hob:uz w' w0.heap.size objs' b' ob'):eo w0 objs' w':=by
 refine⟨hbel,hw.pos,fun s1 b1 o1 hm1=>?_,hu.sites rfl hw.sites fun y hy hne=>?_⟩
 ·rcases hu.other hw.sites _ hm1 with he|⟨h2,_,h3⟩
  ·simp only[Zp] at he
   obtain⟨rfl,rfl,rfl⟩:=he
   exact hob
  ·exact(hw.obj s1 b1 o1 h2).step hst (hk b1 (dV hw h2) h3)
 ·rcases hb' with rfl|hb'
  ·have hx:=hu.mem
   by_cases e0:b'=0
   ·exact .inr e0
   ·refine .inl fun e=>?_
    -- two owned things of one block
    have key:∀(l:aG),List.Pairwise fL l->(s,b',ob)∈l->y∈l->y.1≠s->y.2.1=b'->False:=fun l=>by
      induction l with
      | nil=>intro _ h;simp at h
      | cons z l ih =>
        intro hp h1 h2 h3 h4
        obtain⟨g1,g2⟩:=List.pairwise_cons.1 hp
        rcases List.mem_cons.1 h1 with rfl|h1'
        ·rcases List.mem_cons.1 h2 with rfl|h2'
         ·exact h3 rfl
         ·rcases(g1 y h2').2 with h|h
          ·exact h h4.symm
          ·exact e0 h
        ·rcases List.mem_cons.1 h2 with rfl|h2'
         ·rcases(g1 _ h1').2 with h|h
          ·exact h h4
          ·exact e0 (h4 ▸ h)
         ·exact ih g2 h1' h2' h3 h4
    exact key objs hw.sites hx hy hne e.symm
  ·exact .inl (Xi (ZJ (dV (s:=y.1) (ob:=y.2.2) hw hy) hb'))
inductive aW:List TV->Nat->List TV->List TV->Prop
 | nil (l:List TV):aW l 0 [] l
 | put (x v:TV) (l vs l':List TV) (h:aW l 0 vs l'):aW (x::l) 0 (v::vs) (v::l')
 | skip (x:TV) (l:List TV) (n:Nat) (vs l':List TV) (h:aW l n vs l'):aW (x::l) (n+1) vs (x::l')
theorem aW.spec {l:List TV} {n:Nat} {vs l':List TV} (h:aW l n vs l'):n+vs.length<=l.length/\l'.length=l.length/\∀j,l'[j]?=if n<=j/\j<n+vs.length then vs[j - n]? else l[j]?:=by
 induction h with
 | nil l=>exact⟨by simp,rfl,fun j=>by rw[if_neg (by simp)]⟩
 | put x v l vs l' h ih =>
   obtain⟨h1,h2,h3⟩:=ih
   refine⟨by simp at h1 |-;omega,by simp[h2],fun j=>?_⟩
   cases j with
   | zero=>simp
   | succ j =>
     have:=h3 j
     simp only[List.getElem?_cons_succ,this,Zy,Ze,true_and,Nat.sub_zero]
     by_cases hj:j<0+vs.length
     ·rw[if_pos hj,if_pos (by omega)]
     ·rw[if_neg hj,if_neg (by omega)]
 | skip x l n vs l' h ih =>
   obtain⟨h1,h2,h3⟩:=ih
   refine⟨by simp at h1 |-;omega,by simp[h2],fun j=>?_⟩
   cases j with
   | zero=>rw[if_neg (by omega)];simp
   | succ j =>
     have:=h3 j
     simp only[List.getElem?_cons_succ,this]
     by_cases hj:n<=j/\j<n+vs.length
     ·rw[if_pos hj,if_pos (by omega),show j+1 - (n+1)=j - n by omega]
     ·rw[if_neg hj,if_neg (by omega)]
theorem mK {T:TypeId} {x v:Operand} {a:Act} {w:World} {g q:Nat} {cur:Array Value} {e:TypeId} (ho:o.op=.store T x v) (ha:a.eval x=.pointer (some ⟨g,q,none⟩)) (hi:(P.info? T).isSome=true) (hsz:P.cellsOf T=(a.eval v).cells.size)
   (hg:w.heap[g]?=some (.cells cur e (0,0))) (hfit:q+(a.eval v).cells.size<=cur.size) (h1:∀u∈(a.eval v).cells.toList,u.oneCell'=true) :
   (execOp a.eval o).run P w=.ok .skip (w.setRow g (cur.toList.take q++(a.eval v).cells.toList++cur.toList.drop (q+(a.eval v).cells.size)).toArray):=by
 cases hie:P.info? T with
 | none=>rw[hie] at hi;cases hi
 | some i =>
 have hr:=run_storeCells_at P g q e (a.eval v).cells.toList 0 cur w hg (by simpa using hfit) h1
 have hne:¬ (a.eval v).cells.size≠P.cellsOf T:=by omega
 simp only[execOp,ho,ha,Instr.storeAt,Instr.sureAddr,storeVar,ZE,Sem.run_pure,Zz,run_sizeOf w hie,if_neg hne]
 rw[hr]
 simp[Zz,Sem.run_pure]
theorem gR {w0 w:World} (h:Below w0.heap.size w0 w) {g:Nat} (hg:w0.heap.size<=g) (cs:Array Value):Below w0.heap.size w0 (w.setRow g cs) :=
 h.trans ⟨rfl,rfl,rfl,by simp,fun k hk=>setRow_other w g k cs (by omega)⟩
theorem vV {ops:Array Oper} {rest:List Oper} {T:TypeId} {x v:Operand} {s b off:Nat} {tv:TV} {cells vs cells':List TV} (ho:o.op=.store T x v) (hd:o.dst=none) (hx:ev env x=some (.mp s b off)) (hv:ev env v=some tv) (hc:eM tv=some vs)
   (hi:(P.info? T).isSome=true) (hsz:P.cellsOf T=vs.length) (hu:Upd (s,b,.box cells) (s,b,.box cells') objs objs') (hsp:aW cells off vs cells') (h:AL P w0 N ops Q rest env objs'):AO P w0 N ops Q o rest env objs:=⟨fun a w K hs hK=>by
   obtain⟨⟨hB,hci⟩,cur,e,h2,h3,h4⟩:=hs.mem.obj s b _ hu.mem
   obtain⟨g1,g2,g3⟩:=gF (fU hs hv) hc
   obtain⟨p1,p2,p3⟩:=hsp.spec
   have hxa:=fU hs hx
   generalize hax:a.eval x=ax at hxa
   cases hxa with
   | mp s b off hb =>
   have hone:∀u∈(a.eval v).cells.toList,u.oneCell'=true:=fun u hu=>by
     obtain⟨k,hk,rfl⟩:=ZD hu
     have hk':k<vs.length:=by rw[<- g1];simpa using hk
     exact((g2 k vs[k] _ (Za hk') (by rw[<- Xm];exact Za hk)).one (g3 _ (Zb hk'))).1
   have hrun:=mK (P:=P) (o:=o) (cur:=cur) (e:=e) (w:=w) ho hax hi (by rw[hsz,g1]) h2 (by rw[g1,h3];exact p1) hone
   unfold Oper.wp
   rw[hrun]
   refine hK _ _ ?_
   rw[hd]
   have hb0:b≠0:=by have:=hs.mem.pos;omega
   have hkk:∀k,k<w.heap.size->k≠b\/b=0->(w.setRow b (cur.toList.take off++(a.eval v).cells.toList++cur.toList.drop (off+(a.eval v).cells.size)).toArray).heap[k]?=w.heap[k]?:=fun k _ hk=>setRow_other w b k _ (hk.resolve_right hb0)
   have hst:=j4 (m:=0) hs.mem hu (w':=w.setRow b (cur.toList.take off++(a.eval v).cells.toList++cur.toList.drop (off+(a.eval v).cells.size)).toArray) (by simp) hkk (.inl rfl) (by simp) (by simp) (fun _ _=>by
     unfold World.shape?;rw[setRow_heap w b cur _ e _ h2,h2];simp;omega) (by simp[dr])
   refine h.run _ _ (hs.same (hs.mem.upd hu (gR hs.mem.below hB _) hkk (.inl rfl) hst ⟨⟨hB,fun t ht=>?_⟩,_,e,setRow_heap w b cur _ e _ h2, ?_,fun j t hj=>?_⟩) hst)
   ·obtain⟨k,hk,rfl⟩:=ZD ht
    have h5:=p3 k
    rw[Za hk] at h5
    split at h5
    ·exact g3 _ (Zm h5.symm)
    ·exact hci _ (Zm h5.symm)
   ·simp;omega
   ·rw[p3] at hj
    have hcur:∀i:Nat,cur.toList[i]?=cur[i]?:=fun i=>by simp
    simp only[YS]
    split at hj
    ·rename_i hin
     have hlt:j - off<(a.eval v).cells.size:=by omega
     refine⟨(a.eval v).cells[j - off], ?_,(g2 _ t _ hj (by simp[hlt])).step hst⟩
     rw[Zs (by simp;omega),Zr (by simp;omega)]
     simp only[Zu,Z5]
     rw[show j - min off cur.size=j - off by omega]
     simp[hlt]
    ·rename_i hin
     obtain⟨u,h5,h6⟩:=h4 j t hj
     refine⟨u, ?_,h6.step hst⟩
     have hjl:j<cur.size:=(Array.getElem?_eq_some_iff.1 h5).1
     by_cases hjo:j<off
     ·rw[Zs (by simp;omega),Zs (by simp;omega),ZQ,if_pos hjo,hcur];exact h5
     ·rw[Zr (by simp;omega)]
      simp only[Zh,Zu,Z5,Yf]
      rw[show off+(a.eval v).cells.size+(j - (min off cur.size+(a.eval v).cells.size))=j by omega,hcur];exact h5⟩
end
section
variable {P:Program} {w0:World} {N:Nat} {Q:Exit->Act->World->Prop} {env:Env} {objs objs':aG} {o:Oper}
theorem oO {m:Nat} {rows:List (List TV)} (hm:∀r∈rows,r.length=m) (hm0:0<m) {k:Nat} (hk:k<rows.length) {r':List TV} (hr':r'.length=m) (j:Nat) :
   (rows.set k r').flatten[j]?=if k * m<=j/\j<(k+1) * m then r'[j - k * m]? else rows.flatten[j]?:=by
 have hm':∀r∈rows.set k r',r.length=m:=fun r hr=>by
   rcases Z7 hr with h|h
   ·exact hm r h
   ·exact h ▸ hr'
 have hL:(rows.set k r').flatten.length=rows.length * m:=by rw[length_flatten hm',ZA]
 have hL2:=length_flatten hm
 by_cases hj:j<rows.length * m
 ·have hq:j / m<rows.length:=Xr (by rw[Xv];exact hj)
  have hmod:j % m<m:=Nat.mod_lt _ hm0
  have hje:j=(j / m) * m+j % m:=by rw[Xv];exact(Nat.div_add_mod j m).symm
  by_cases hc:j / m=k
  ·have h1:(rows.set k r')[j / m]?=some r':=by rw[hc,ZN hk]
   have h2:=em hm' h1 hmod
   rw[<- hje] at h2
   rw[h2,if_pos ⟨by rw[<- hc];omega,by rw[<- hc,Yh,Y8];omega⟩,show j - k * m=j % m by rw[<- hc];omega]
  ·have h1:(rows.set k r')[j / m]?=some rows[j / m]:=by rw[List.getElem?_set_ne (Ne.symm hc)];exact Za hq
   have h2:=em hm' h1 hmod
   have h3:=em hm (Za hq) hmod
   rw[<- hje] at h2 h3
   rw[h2,h3,if_neg]
   rintro ⟨g1,g2⟩
   apply hc
   refine Nat.le_antisymm ?_ ?_
   ·exact Nat.le_of_lt_succ (Xr (by rw[Xv];exact g2))
   ·exact(Nat.le_div_iff_mul_le hm0).2 g1
 ·rw[YH (by omega),if_neg (by
    rintro ⟨_,g2⟩
    have:(k+1) * m<=rows.length * m:=YV _ hk
    omega),YH (by omega)]
theorem lP {rows:List (List TV)} {k:Nat} {r':List TV} (h:∀t∈rows.flatten,t.isCell=true) (h':∀t∈r',t.isCell=true):∀t∈(rows.set k r').flatten,t.isCell=true:=fun t ht=>by
 obtain⟨r,hr,htr⟩:=List.mem_flatten.1 ht
 rcases Z7 hr with h1|h1
 ·exact h t (List.mem_flatten.2 ⟨r,h1,htr⟩)
 ·exact h' t (h1 ▸ htr)
theorem wj {ops:Array Oper} {rest:List Oper} {T:TypeId} {x v:Operand} {s b m k j:Nat} {tv:TV} {vs r r':List TV} {rows rows':List (List TV)} (ho:o.op=.store T x v) (hd:o.dst=none) (hx:ev env x=some (.me s b m k j)) (hv:ev env v=some tv) (hc:eM tv=some vs)
   (hi:(P.info? T).isSome=true) (hsz:P.cellsOf T=vs.length) (hu:Upd (s,b,.row m rows) (s,b,.row m rows') objs objs') (hr:rows[k]?=some r) (hsp:aW r j vs r') (hrows:rows.set k r'=rows') (h:AL P w0 N ops Q rest env objs'):AO P w0 N ops Q o rest env objs:=⟨fun a w K hs hK=>by
   subst hrows
   obtain⟨⟨hm0,hci⟩,hm,hor⟩:=hs.mem.obj s b _ hu.mem
   have hk:k<rows.length:=(List.getElem?_eq_some_iff.1 hr).1
   have hrm:r.length=m:=hm r (Zm hr)
   rcases hor with ⟨_,h0⟩|⟨hB,cur,e,cap,h2,h3,hcap,hmax,h4⟩
   ·subst h0;simp at hk
   obtain⟨g1,g2,g3⟩:=gF (fU hs hv) hc
   obtain⟨p1,p2,p3⟩:=hsp.spec
   have hxa:=fU hs hx
   generalize hax:a.eval x=ax at hxa
   cases hxa with
   | me s b m k j hb =>
   have hone:∀u∈(a.eval v).cells.toList,u.oneCell'=true:=fun u hu=>by
     obtain⟨i,hi,rfl⟩:=ZD hu
     have hi':i<vs.length:=by rw[<- g1];simpa using hi
     exact((g2 i vs[i] _ (Za hi') (by rw[<- Xm];exact Za hi)).one (g3 _ (Zb hi'))).1
   have hkm:k * m+m<=cur.size:=by
     have:(k+1) * m<=cap * m:=YV _ (by omega)
     rw[Yh,Y8] at this;omega
   have hrun:=mK (P:=P) (o:=o) (cur:=cur) (e:=e) (w:=w) ho hax hi (by rw[hsz,g1]) h2 (by rw[g1];omega) hone
   unfold Oper.wp
   rw[hrun]
   refine hK _ _ ?_
   rw[hd]
   have hb0:b≠0:=by have:=hs.mem.pos;omega
   generalize hq:k * m+j=q at *
   have hkk:∀i,i<w.heap.size->i≠b\/b=0->(w.setRow b (cur.toList.take q++(a.eval v).cells.toList++cur.toList.drop (q+(a.eval v).cells.size)).toArray).heap[i]?=w.heap[i]?:=fun i _ hi=>setRow_other w b i _ (hi.resolve_right hb0)
   have hst:=j4 (m:=m) hs.mem hu (w':=w.setRow b (cur.toList.take q++(a.eval v).cells.toList++cur.toList.drop (q+(a.eval v).cells.size)).toArray) (by simp) hkk (.inl rfl) (fun rows' he=>⟨rows,rfl⟩) (fun m' rows' he=>by simp only[aV.row.injEq] at he;exact he.1.symm) (fun _ _=>by
     unfold World.shape?;rw[setRow_heap w b cur _ e _ h2,h2];simp;omega) (by simp only[dr,ne_eq,Zp,aV.row.injEq];omega)
   have hr'c:∀t∈r',t.isCell=true:=fun t ht=>by
     obtain⟨i,hi,rfl⟩:=ZD ht
     have h5:=p3 i
     rw[Za hi] at h5
     split at h5
     ·exact g3 _ (Zm h5.symm)
     ·exact hci _ (List.mem_flatten.2 ⟨r,Zm hr,Zm h5.symm⟩)
   have hr'm:r'.length=m:=by omega
   refine h.run _ _ (hs.same (hs.mem.upd hu (gR hs.mem.below hB _) hkk (.inl rfl) hst ⟨⟨hm0,lP hci hr'c⟩,fun r1 hr1=>?_,.inr ⟨hB,_,e,cap,setRow_heap w b cur _ e _ h2, ?_,by simpa using hcap,hmax,fun i t hi=>?_⟩⟩) hst)
   ·rcases Z7 hr1 with h5|h5
    ·exact hm r1 h5
    ·exact h5 ▸ hr'm
   ·simp;omega
   ·have hcur:∀i:Nat,cur.toList[i]?=cur[i]?:=fun i=>by simp
    rw[oO hm hm0 hk hr'm] at hi
    simp only[YS]
    by_cases hin:q<=i/\i<q+vs.length
    ·have e1:k * m<=i/\i<(k+1) * m:=⟨by omega,by rw[Yh,Y8];omega⟩
     rw[if_pos e1,p3,if_pos (by omega),show i - k * m - j=i - q by omega] at hi
     have hlt:i - q<(a.eval v).cells.size:=by omega
     refine⟨(a.eval v).cells[i - q], ?_,(g2 _ t _ hi (by simp[hlt])).step hst⟩
     rw[Zs (by simp;omega),Zr (by simp;omega)]
     simp only[Zu,Z5]
     rw[show i - min q cur.size=i - q by omega]
     simp[hlt]
    ·have hi2:rows.flatten[i]?=some t:=by
       split at hi
       ·rename_i e1
        rw[p3,if_neg (by omega)] at hi
        have h6:=em hm hr (j:=i - k * m) (by rw[Yh,Y8] at e1;omega)
        rw[show k * m+(i - k * m)=i by omega] at h6
        rw[h6];exact hi
       ·exact hi
     obtain⟨u,h5,h6⟩:=h4 i t hi2
     refine⟨u, ?_,h6.step hst⟩
     have hjl:i<cur.size:=(Array.getElem?_eq_some_iff.1 h5).1
     by_cases hjo:i<q
     ·rw[Zs (by simp;omega),Zs (by simp;omega),ZQ,if_pos hjo,hcur];exact h5
     ·rw[Zr (by simp;omega)]
      simp only[Zh,Zu,Z5,Yf]
      rw[show q+(a.eval v).cells.size+(i - (min q cur.size+(a.eval v).cells.size))=i by omega,hcur];exact h5⟩
def mz (P:Program) (T m:Nat):Bool:=match P.underlying T with
 | some (.slice e)=>(match P.info? e with
   | some i=>i.size == m && (match i.zero with|some z=>z.cells.size == m|none=>false) && Nat.ble i.bytes 4096
   | none=>false)
 | _=>false
theorem zD {T m:Nat} (h:mz P T m=true):∃e i z,P.underlying T=some (.slice e)/\P.info? e=some i/\i.zero=some z/\i.size=m/\z.cells.size=m/\i.bytes<=4096:=by
 unfold mz at h
 split at h
 ·rename_i e hu
  split at h
  ·rename_i i hi
   simp only[Zq,beq_iff_eq] at h
   obtain⟨⟨h1,h2⟩,h3⟩:=h
   split at h2
   ·rename_i z hz;exact⟨e,i,z,hu,hi,hz,h1,by simpa using h2,Ya h3⟩
   ·cases h2
  ·cases h
 ·cases h
theorem vD {w:World} {s b off len:Nat} {v:Value} (h:Rep w objs (.ms s b off len) v):afY w objs s b off len v:=by
 cases h with
 | ms _ _ _ _ _ h=>exact h
theorem lS {w:World} {f:Nat} {m:Nat} {rows:List (List TV)} {v:Value} (h:Rep w objs (.sl f m rows) v):∃A c,v=.slice A rows.length c/\rows.length<=c/\c<=maxLen/\(∀r∈rows,r.length=m)/\(∀t∈rows.flatten,t.isCell=true) /\
   ∀(j:Nat) (t:TV),rows.flatten[j]?=some t->∃b q u,A=some ⟨b,q,none⟩/\ZZ objs f b/\w.cell? ⟨b,q+j,none⟩=some u/\Rep w objs t u:=by
 cases h with
 | sl f m rows A c h1 h2 hm hi g hc hr=>exact⟨A,c,rfl,h1,h2,hm,hi,fun j t hj=>by obtain⟨b,q,h3,h4,h5⟩:=hc j t hj;exact⟨b,q,g j,h3,h4,h5,hr j t hj⟩⟩
theorem kU {w:World} (t ty e e':TypeId) (i:TypeInfo) (ht:P.underlying t=some (.slice e)) (hi:P.info? e=some i)
   (g q sLen sCap:Nat) (cur:Array Value) (hg:w.heap[g]?=some (.cells cur e' (0,0)))
   (a:Addr) (m c:Nat) (news:List Value) (hl:news.length=m * i.size) (hnews:∀j u,news[j]?=some u->w.cell? (a.add j)=some u) (h1:∀u∈news,u.oneCell'=true)
   (hroom:sLen+m<=sCap) (hfit:q+sLen * i.size+news.length<=cur.size) :
   (Builtin.append_ #[t,t] ty #[.slice (some ⟨g,q,none⟩) sLen sCap,.slice (some a) m c]).run P w =
     .ok (.slice (some ⟨g,q,none⟩) (sLen+m) sCap) (w.setRow g (cur.toList.take (q+sLen * i.size)++news++cur.toList.drop (q+sLen * i.size+news.length)).toArray):=by
 have hf:=run_firstCells_some (P:=P) w i.size m a m c news hl hnews
 have hst:=run_storeCells_at P g (q+sLen * i.size) e' news 0 cur w hg (by simpa using hfit) h1
 simp only[Yy] at hst
 simp[Builtin.append_,run_underlying ht,sizeOf,typeInfo,hi,Builtin.lenOf,hroom,hf,Addr.add_lit,hst]
theorem qJ {w:World} {b q n:Nat} {l:List TV} (hl:l.length=n) (hi:∀t∈l,t.isCell=true) (h:∀(j:Nat) (t:TV),l[j]?=some t->∃u,w.cell? ⟨b,q+j,none⟩=some u/\Rep w objs t u) :
   ∃nv:List Value,nv.length=n/\(∀(j:Nat) (u:Value),nv[j]?=some u->w.cell? ((⟨b,q,none⟩:Addr).add j)=some u)/\(∀u∈nv,u.oneCell'=true)/\∀(j:Nat) (t:TV),l[j]?=some t->∃u,nv[j]?=some u/\Rep w objs t u:=by
 have key:∀j,j<n->∃u,w.cell? ⟨b,q+j,none⟩=some u/\∃t,l[j]?=some t/\Rep w objs t u:=fun j hj=>by
   obtain⟨u,h1,h2⟩:=h j l[j] (Za (by omega))
   exact⟨u,h1,l[j],Za (by omega),h2⟩
 refine⟨(List.range n).map fun j=>(w.cell? ⟨b,q+j,none⟩).getD undef,by simp,fun j u hj=>?_,fun u hu=>?_,fun j t hj=>?_⟩
 ·rw[Zj] at hj
  have hlt:j<n:=by
    rcases YB j n with h|h
    ·exact h
    ·rw[YH (by simpa using h)] at hj;cases hj
  obtain⟨u',h1,_⟩:=key j hlt
  rw[Xu hlt] at hj
  simp only[Yb,h1,Yn,Zo] at hj
  subst hj
  rw[Addr.add_lit];exact h1
 ·obtain⟨j,hj,rfl⟩:=List.mem_map.1 hu
  obtain⟨u',h1,t,h2,h3⟩:=key j (List.mem_range.1 hj)
  rw[h1]
  exact(h3.one (hi t (Zm h2))).1
 ·obtain⟨u,h1,h2⟩:=h j t hj
  have hlt:j<n:=by rw[<- hl];exact(List.getElem?_eq_some_iff.1 hj).1
  exact⟨u,by rw[Zj,Xu hlt,Yb,h1];rfl,h2⟩
structure aef (w0:World) (w:World) (objs:aG) (s b off len m n:Nat) (rows news:List (List TV)) (b' off':Nat) (pre:List (List TV)) (v':Value) (w':World):Prop where
 prelen:pre.length=off'
 prem:∀r∈pre,r.length=m
 prec:∀t∈pre.flatten,t.isCell=true
 zero:off=0->off'=0
 blk:b'=b\/w.heap.size<=b'
 below:Below w0.heap.size w0 w'
 size:w.heap.size<=w'.heap.size
 keep:∀k,k<w.heap.size->k≠b\/b=0->w'.heap[k]?=w.heap[k]?
 shape:b'=b->b≠0->w'.shape? b=w.shape? b
 val:(b'=0/\off'=0/\len+n=0/\v'=.slice none 0 0) \/
   (b'≠0/\∃o c e k,v'=.slice (some ⟨b',o,none⟩) (len+n) c/\len+n<=c/\w'.shape? b'=some (e,k)/\k=(off'+c) * m/\(0<c\/off'=0->o=off' * m))
 obj:(b'=0/\pre++((rows.drop off).take len++news)=[])\/(w0.heap.size<=b'/\∃cur e cap,w'.heap[b']?=some (.cells cur e (0,0))/\cur.size=cap * m/\(pre++((rows.drop off).take len++news)).length<=cap/\cap<=maxLen /\
   ∀(j:Nat) (t:TV),(pre++((rows.drop off).take len++news)).flatten[j]?=some t->∃u,cur[j]?=some u/\Rep w objs t u)
 lt:b'<w'.heap.size
theorem pN {rows:List (List TV)} {off len:Nat}:rows.take off++(rows.drop off).take len=rows.take (off+len):=by
 rw[List.take_add]
theorem eU {m:Nat} {rows:List (List TV)} (hm:∀r∈rows,r.length=m) (k:Nat):(rows.take k).flatten=rows.flatten.take (k * m):=by
 induction rows generalizing k with
 | nil=>simp
 | cons x l ih =>
   cases k with
   | zero=>simp
   | succ k =>
     have hx:=hm x (by simp)
     rw[List.take_succ_cons,Yk,Yk,ih (fun r hr=>hm r (by simp[hr])),List.take_append,Yh,Y8,hx,Zc (l:=x) (by omega),show k * m+m - m=k * m by omega]
theorem ig {m:Nat} {rows:List (List TV)} (hm:∀r∈rows,r.length=m) (k:Nat):(rows.drop k).flatten=rows.flatten.drop (k * m):=by
 induction rows generalizing k with
 | nil=>simp
 | cons x l ih =>
   cases k with
   | zero=>simp
   | succ k =>
     have hx:=hm x (by simp)
     rw[List.drop_succ_cons,Yk,ih (fun r hr=>hm r (by simp[hr])),List.drop_append,Yh,Y8,hx,Yl (l:=x) (by omega),show k * m+m - m=k * m by omega,Zx]
theorem sP {w:World} (hw:eo w0 objs w) {T ty s b off len m n:Nat} {f:Nat} {rows news:List (List TV)} (hmem:(s,b,aV.row m rows)∈objs) {v1 v2:Value} (h1:Rep w objs (.ms s b off len) v1) (h2:Rep w objs (.sl f m news) v2)
   (hT:mz P T m=true) (hl:off+len<=rows.length) (hn:news.length=n) (hbig:len+n<=1000000000) :
   ∃b' off' pre v' w',(Builtin.append_ #[T,T] ty #[v1,v2]).run P w=.ok v' w'/\aef w0 w objs s b off len m n rows news b' off' pre v' w':=by
 obtain⟨e,i,z,hu,hie,hz,hisz,hzs,hby⟩:=zD hT
 obtain⟨⟨hm0,hci⟩,hm,hor⟩:=hw.obj s b _ hmem
 obtain⟨A2,c2,rfl,g1,g2,g3,g4,g5⟩:=lS h2
 have hms:=(vD h1).or m rows hmem
 have hpos:0<w.heap.size:=ZJ hw.pos hw.below.size
 have hblt:=(vD h1).1.1
 subst hn
 by_cases hn0:news=[]
 ·-- nothing is appended
  subst hn0
  refine⟨b,off,rows.take off,v1,w, ?_, ?_⟩
  ·rcases hms with ⟨_,_,_,rfl⟩|⟨_,o,c,e',k,rfl,hlc,_⟩
   ·cases A2 <;> simp[Builtin.append_,run_underlying hu,sizeOf,typeInfo,hie,Builtin.lenOf,Builtin.firstCells,loadCells,loadCellsFrom]
   ·cases A2 <;> simp[Builtin.append_,run_underlying hu,sizeOf,typeInfo,hie,Builtin.lenOf,Builtin.firstCells,hlc,storeCells,loadCells,loadCellsFrom]
  ·refine ⟨by simp; omega, fun r hr => hm r (ZS hr), fun t ht => by
       obtain⟨r,hr,htr⟩:=List.mem_flatten.1 ht
       exact hci t (List.mem_flatten.2 ⟨r,ZS hr,htr⟩),id,.inl rfl,hw.below,Zg _,fun _ _ _=>rfl,fun _ _=>rfl, ?_, ?_,hblt⟩
   ·simpa using hms
   ·rw[Zt,pN]
    rcases hor with ⟨h3,rfl⟩|⟨hB,cur,e',cap,h3,h4,h5,h6,h7⟩
    ·exact .inl ⟨h3,by simp⟩
    ·refine .inr ⟨hB,cur,e',cap,h3,h4,by simp;omega,h6,fun j t hj=>h7 j t ?_⟩
     rw[eU hm,ZQ] at hj
     split at hj
     ·exact hj
     ·cases hj
 ·have hnpos:0<news.length:=List.length_pos_iff.2 hn0
  have hfl:=length_flatten g3
  have hflpos:0<news.flatten.length:=by rw[hfl];exact Nat.mul_pos hnpos hm0
  obtain⟨b2,q2,_,hA2,_,_,_⟩:=g5 0 _ (Za hflpos)
  subst hA2
  obtain⟨nv,n1,n2,n3,n4⟩:=qJ (w:=w) (b:=b2) (q:=q2) (objs:=objs) hfl g4 (fun j t hj=>by
    obtain⟨b,q,u,h3,_,h4,h5⟩:=g5 j t hj
    simp only[Zo,Addr.mk.injEq,and_true] at h3
    obtain⟨rfl,rfl⟩:=h3
    exact⟨u,h4,h5⟩)
  have n1':nv.length=news.length * i.size:=by rw[n1,hisz]
  -- what a new block holds
  have fresh : ∀ (old : Nat) (olds : List Value) (live : List (List TV)), live.length = len -> (∀ r ∈ live, r.length = m) -> olds.length = len * m -> (∀ (j : Nat) (t : TV), live.flatten[j]? = some t -> ∃ u, olds[j]? = some u /\ Rep w objs t u) -> live = (rows.drop off).take len ->
      aef w0 w objs s b off len m news.length rows news w.heap.size 0 [] (.slice (some ⟨w.heap.size,0,none⟩) (len+news.length) (grownCap w (len+news.length) old e))
        (w.drew.alloc (.cells (olds.toArray++nv.toArray++Builtin.zeroCells z.cells (grownCap w (len+news.length) old e - (len+news.length))) e)):=by
    intro old olds live l1 l2 l3 l4 l5
    have hge:=grownCap_ge w (len+news.length) old e
    have hcm:grownCap w (len+news.length) old e<=maxLen:=grownCap_le_maxLen w (len+news.length) old e (by simp only[maxLen];omega)
    have hkeep:∀k,k<w.heap.size->∀ob,(w.drew.alloc ob).heap[k]?=w.heap[k]?:=fun k hk ob=>Below.heap_alloc w.drew ob k hk
    have hsize:(olds.toArray++nv.toArray++Builtin.zeroCells z.cells (grownCap w (len+news.length) old e - (len+news.length))).size=grownCap w (len+news.length) old e * m:=by
      simp only[Array.size_append,YU,size_zeroCells,hzs,l3,n1,<- Yh]
      congr 1;omega
    have hb0:w.heap.size≠0:=by omega
    have hshp:(w.drew.alloc (.cells (olds.toArray++nv.toArray++Builtin.zeroCells z.cells (grownCap w (len+news.length) old e - (len+news.length))) e)).shape? w.heap.size=some (e,grownCap w (len+news.length) old e * m):=by
      unfold World.shape?
      rw[show (w.drew.alloc (.cells (olds.toArray++nv.toArray++Builtin.zeroCells z.cells (grownCap w (len+news.length) old e - (len+news.length))) e)).heap[w.heap.size]?=some (.cells _ e (0,0)) from heap_alloc_new w.drew _]
      simp only[hsize]
    refine⟨rfl,by simp,by simp,fun _=>rfl,.inr (Zg _),hw.below.trans ⟨rfl,rfl,rfl,by simp,fun k hk=>hkeep k (ZJ hk hw.below.size) _⟩,by simp,fun k hk _=>hkeep k hk _,fun h _=>absurd (h ▸ hblt) (YK _),.inr ⟨hb0,0,_,e,_,rfl,hge,hshp,by rw[ZY],fun _=>by simp⟩,.inr ⟨hw.below.size,_,e,_,heap_alloc_new w.drew _,hsize, ?_,hcm,fun j t hj=>?_⟩,by simp⟩
    ·rw[Zx,<- l5,Zh,l1];exact hge
    ·rw[Zx,<- l5,YN] at hj
     have hlf:live.flatten.length=len * m:=by rw[length_flatten l2,l1]
     by_cases hjl:j<len * m
     ·rw[Zs (by omega)] at hj
      obtain⟨u,h5,h6⟩:=l4 j t hj
      exact⟨u,by rw[Yp (by simp;omega),Yp (by simp;omega)];simpa using h5,h6⟩
     ·rw[Zr (by omega),hlf] at hj
      obtain⟨u,h5,h6⟩:=n4 _ t hj
      have:j - len * m<nv.length:=(List.getElem?_eq_some_iff.1 h5).1
      exact⟨u,by rw[Yp (by simp;omega),Array.getElem?_append_right (by simp;omega)];simpa [l3] using h5,h6⟩
  have hlive:((rows.drop off).take len).length=len:=by simp;omega
  have hlivem:∀r∈(rows.drop off).take len,r.length=m:=fun r hr=>hm r (Z3 (ZS hr))
  rcases hms with ⟨hb,hoff,hlen,rfl⟩|⟨hb0,o,c,e',k,rfl,hlc,hsh,hk,ho⟩
  ·-- onto nil
   subst hlen
   have hr:=run_append_nil (P:=P) w T ty e i z hu hie hz ⟨b2,q2,none⟩ news.length c2 nv n1' n2 hnpos (by omega) (by have:news.length * i.bytes<=1000000000 * 4096:=Xw (by omega) hby;omega)
   have hf:=fresh 0 [] ((rows.drop off).take 0) hlive hlivem (by simp) (by simp) rfl
   simp only[ZY,Array.empty_append] at hf
   refine⟨w.heap.size,0,[],_,_,hr, ?_⟩
   simpa using hf
  ·rcases hor with ⟨h0,_⟩|⟨hB,cur,e'',cap,h3,h4,h5,h6,h7⟩
   ·exact absurd h0 hb0
   have hshape:(e'',cur.size)=(e',k):=by
     have:w.shape? b=some (e'',cur.size):=by unfold World.shape?;rw[h3]
     rw[this] at hsh;simpa using hsh
   have hkc:cur.size=(off+c) * m:=by have:=congrArg Prod.snd hshape;simp only at this;omega
   by_cases hroom:len+news.length<=c
   ·-- there is room
    have hoe:=ho (.inl (by omega))
    subst hoe
    have hmul:(off+(len+news.length)) * m<=(off+c) * m:=YV _ (by omega)
    rw[Yh,Yh] at hmul
    have hfit:off * m+len * i.size+nv.length<=cur.size:=by rw[hisz,n1,hkc];omega
    have hr:=kU (P:=P) (w:=w) T ty e e'' i hu hie b (off * m) len c cur h3 ⟨b2,q2,none⟩ news.length c2 nv n1' n2 n3 hroom hfit
    rw[hisz] at hr hfit
    have hnewsize:(cur.toList.take (off * m+len * m)++nv++cur.toList.drop (off * m+len * m+nv.length)).toArray.size=cur.size:=by simp;omega
    refine⟨b,off,rows.take off,_,_,hr,by simp;omega,fun r hr=>hm r (ZS hr),fun t ht=>by
      obtain⟨r,hr,htr⟩:=List.mem_flatten.1 ht
      exact hci t (List.mem_flatten.2 ⟨r,ZS hr,htr⟩),id,.inl rfl,gR hw.below hB _,by simp,fun k _ hk=>setRow_other w b k _ (hk.resolve_right hb0),fun _ _=>?_,.inr ⟨hb0,off * m,c,e'',cur.size,rfl,hroom, ?_,hkc,fun _=>rfl⟩,.inr ⟨hB,_,e'',cap,setRow_heap w b cur _ e'' _ h3,by rw[hnewsize];exact h4, ?_,h6,fun j t hj=>?_⟩,by simpa using hblt⟩
    ·unfold World.shape?;rw[setRow_heap w b cur _ e'' _ h3,h3];simp only[hnewsize]
    ·unfold World.shape?;rw[setRow_heap w b cur _ e'' _ h3];simp only[hnewsize]
    ·have hcap:cap=off+c:=by
       have:cap * m=(off+c) * m:=by omega
       exact YQ hm0 this
     rw[<- Zk,pN];simp;omega
    ·rw[<- Zk,pN,YN,eU hm] at hj
     have hcur:∀i:Nat,cur.toList[i]?=cur[i]?:=fun i=>by simp
     have hlf:(rows.flatten.take ((off+len) * m)).length=off * m+len * m:=by
       rw[Zu,length_flatten hm,<- Yh]
       exact Nat.min_eq_left (YV _ hl)
     simp only[YS]
     by_cases hjl:j<off * m+len * m
     ·rw[Zs (by omega),ZQ,if_pos (by rw[Yh];exact hjl)] at hj
      obtain⟨u,p1,p2⟩:=h7 j t hj
      exact⟨u,by rw[Zs (by simp;omega),Zs (by simp;omega),ZQ,if_pos hjl,hcur];exact p1,p2⟩
     ·rw[Zr (by omega),hlf] at hj
      obtain⟨u,p1,p2⟩:=n4 _ t hj
      have:j - (off * m+len * m)<nv.length:=(List.getElem?_eq_some_iff.1 p1).1
      refine⟨u, ?_,p2⟩
      rw[Zs (by simp;omega),Zr (by simp;omega)]
      simp only[Zu,Z5]
      rw[show min (off * m+len * m) cur.size=off * m+len * m by omega];exact p1
   ·-- a new block
    have holds:∃olds:List Value,olds.length=len * m/\(∀(j:Nat) (u:Value),olds[j]?=some u->w.cell? ((⟨b,o,none⟩:Addr).add j)=some u)/\∀(j:Nat) (t:TV),((rows.drop off).take len).flatten[j]?=some t->∃u,olds[j]?=some u/\Rep w objs t u:=by
      by_cases hlen:len=0
      ·subst hlen;exact⟨[],by simp,by simp,by simp⟩
      ·have hoe:=ho (.inl (by omega))
       subst hoe
       obtain ⟨nv', m1, m2, _, m4⟩ := qJ (w := w) (b := b) (q := off * m) (objs := objs) (l := ((rows.drop off).take len).flatten) (n := len * m) (by rw [length_flatten hlivem, hlive]) (fun t ht => by
           obtain⟨r,hr,htr⟩:=List.mem_flatten.1 ht
           exact hci t (List.mem_flatten.2 ⟨r,Z3 (ZS hr),htr⟩)) (fun j t hj=>by
           rw[eU (fun r hr=>hm r (Z3 hr)),ig hm,ZQ] at hj
           split at hj
           ·rw[Yf] at hj
            obtain⟨u,p1,p2⟩:=h7 _ t hj
            exact⟨u,by rw[cell_of_row w b _ cur e'' (0,0) h3];exact p1,p2⟩
           ·cases hj)
       exact⟨nv',m1,m2,m4⟩
    obtain⟨olds,o1,o2,o3⟩:=holds
    have hr:=run_append_grow (P:=P) w T ty e i z hu hie hz ⟨b,o,none⟩ len c olds (by rw[o1,hisz]) o2 ⟨b2,q2,none⟩ news.length c2 nv n1' n2 (by omega) (by omega) (growslice_fits (by omega) (by have:(len+news.length) * i.bytes<=1000000000 * 4096:=Xw hbig hby;omega))
    exact⟨w.heap.size,0,[],_,_,hr,fresh c olds _ hlive hlivem o1 o3 rfl⟩
theorem kC {x y:Operand} {T:TypeId} (ho:o.op=.call { callee:=.builtin .append,args:=#[x,y],argTypes:=#[T,T] }) {a:Act} {w w':World} {v:Value} (h:(Builtin.append_ #[T,T] o.type #[a.eval x,a.eval y]).run P w=.ok v w') :
   (execOp a.eval o).run P w=.ok (.value v) w':=by
 simp only[execOp,ho,resolve,ZE,Sem.run_pure,Zz,invoke,builtin,Ys,ZU,Yj]
 rw[h];rfl
theorem xo {objsOf:Nat->List (List TV)->aG} {ops:Array Oper} {rest:List Oper} {d T s b off len n m:Nat} {x y:Operand} {f:Nat} {rows live news:List (List TV)} (ho:o.op=.call { callee:=.builtin .append,args:=#[x,y],argTypes:=#[T,T] }) (hd:o.dst=some d) (hN:Nat.blt d N=true)
   (hx:ev env x=some (.ms s b off len)) (hy:ev env y=some (.sl f m news)) (hT:mz P T m=true) (hl:off+len<=rows.length) (hn:news.length=n) (hbig:len+n<=1000000000) (hlive:(rows.drop off).take len=live)
   (hu:∀b' pre,Upd (s,b,.row m rows) (s,b',.row m (pre++(live++news))) objs (objsOf b' pre)) (h:∀b' pre,(off=0->pre=[])->AL P w0 N ops Q rest ((d,.ms s b' pre.length (len+n))::env) (objsOf b' pre)):AO P w0 N ops Q o rest env objs:=⟨fun a w K hs hK=>by
   subst hlive
   have hmem:=(hu 0 []).mem
   obtain⟨b',off',pre,v',w',hr,hE⟩:=sP (P:=P) (ty:=o.type) hs.mem hmem (fU hs hx) (fU hs hy) hT hl hn hbig
   obtain⟨⟨hm0,hci⟩,hm,_⟩:=hs.mem.obj s b _ hmem
   obtain⟨_,_,_,_,_,g3,g4,_⟩:=lS (fU hs hy)
   unfold Oper.wp
   rw[kC ho hr]
   refine hK _ _ ?_
   rw[hd]
   have hpre:=hE.prelen
   subst hpre
   subst hn
   have hst:=j4 (m:=m) hs.mem (hu b' pre) hE.size hE.keep hE.blk (fun rows' _=>⟨rows,rfl⟩) (fun m' rows' he=>by simp only[aV.row.injEq] at he;exact he.1.symm) hE.shape (by simp only[dr,ne_eq,Zp,aV.row.injEq];omega)
   have hlm:∀r∈(rows.drop off).take len,r∈rows:=fun r hr=>Z3 (ZS hr)
   refine(h b' pre (fun h0=>ZV (hE.zero h0))).run _ _ (hs.putNew hN (.ms s b' _ _ _ (.mk ⟨hE.lt,fun hm'=>hs.mem.noMark (hst.mark hm'), ?_⟩ (fun m' rows' hm'=>?_) (fun h0=>?_))) (hs.mem.upd (hu b' pre) hE.below hE.keep hE.blk hst ⟨⟨hm0,fun t ht=>?_⟩,fun r hr=>?_,hE.obj.imp id fun⟨h1,cur,e,cap,h2,h3,h4,h5,h6⟩=>⟨h1,cur,e,cap,h2,h3,h4,h5,fun j t hj=>?_⟩⟩) hst)
   ·rcases hE.val with ⟨_,_,h0,h1⟩|⟨_,q,c,e,k,h1,_⟩
    ·exact⟨none,0,by rw[h0];exact h1⟩
    ·exact⟨_,_,h1⟩
   ·rcases(hu b' pre).other hs.mem.sites _ hm' with he|⟨_,hne,_⟩
    ·simp only[Zp,aV.row.injEq] at he
     obtain⟨_,_,rfl,_⟩:=he
     exact hE.val
    ·exact absurd rfl hne
   ·rcases hE.val with ⟨_,h1,h2,h3⟩|⟨h1,_⟩
    ·exact⟨h1,h2,h3⟩
    ·exact absurd h0 h1
   ·simp only[YN,ZO] at ht
    rcases ht with ht|ht|ht
    ·exact hE.prec t ht
    ·obtain⟨r,hr,htr⟩:=List.mem_flatten.1 ht
     exact hci t (List.mem_flatten.2 ⟨r,hlm r hr,htr⟩)
    ·exact g4 t ht
   ·simp only[ZO] at hr
    rcases hr with hr|hr|hr
    ·exact hE.prem r hr
    ·exact hm r (hlm r hr)
    ·exact g3 r hr
   ·obtain⟨u,p1,p2⟩:=h6 j t hj
    exact⟨u,p1,p2.step hst⟩⟩
theorem ach {objsOf:Nat->aG} {ops:Array Oper} {rest:List Oper} {d T s b len n m:Nat} {x y:Operand} {f:Nat} {rows rows' news:List (List TV)} (ho:o.op=.call { callee:=.builtin .append,args:=#[x,y],argTypes:=#[T,T] }) (hd:o.dst=some d) (hN:Nat.blt d N=true)
   (hx:ev env x=some (.ms s b 0 len)) (hy:ev env y=some (.sl f m news)) (hT:mz P T m=true) (hl:len<=rows.length) (hn:news.length=n) (hbig:len+n<=1000000000) (hrows:rows.take len++news=rows')
   (hu:∀b',Upd (s,b,.row m rows) (s,b',.row m rows') objs (objsOf b')) (h:∀b',AL P w0 N ops Q rest ((d,.ms s b' 0 (len+n))::env) (objsOf b')):AO P w0 N ops Q o rest env objs:=⟨fun a w K hs hK=>by
   subst hrows
   subst hn
   have hmem:=(hu 0).mem
   obtain⟨b',off',pre,v',w',hr,hE⟩:=sP (P:=P) (ty:=o.type) hs.mem hmem (fU hs hx) (fU hs hy) hT (by omega) rfl hbig
   have hpre:pre=[]:=ZV (by rw[hE.prelen];exact hE.zero rfl)
   have hoff:off'=0:=hE.zero rfl
   subst hpre;subst hoff
   obtain⟨⟨hm0,hci⟩,hm,_⟩:=hs.mem.obj s b _ hmem
   obtain⟨_,_,_,_,_,g3,g4,_⟩:=lS (fU hs hy)
   unfold Oper.wp
   rw[kC ho hr]
   refine hK _ _ ?_
   rw[hd]
   have hst:=j4 (m:=m) hs.mem (hu b') hE.size hE.keep hE.blk (fun rows' _=>⟨rows,rfl⟩) (fun m' rows' he=>by simp only[aV.row.injEq] at he;exact he.1.symm) hE.shape (by simp only[dr,ne_eq,Zp,aV.row.injEq];omega)
   have hobj:=hE.obj
   simp only[Zx,Y0] at hobj
   refine(h b').run _ _ (hs.putNew hN (.ms s b' _ _ _ (.mk ⟨hE.lt,fun hm'=>hs.mem.noMark (hst.mark hm'), ?_⟩ (fun m' rows' hm'=>?_) (fun h0=>?_))) (hs.mem.upd (hu b') hE.below hE.keep hE.blk hst ⟨⟨hm0,fun t ht=>?_⟩,fun r hr=>?_,hobj.imp id fun⟨h1,cur,e,cap,h2,h3,h4,h5,h6⟩=>⟨h1,cur,e,cap,h2,h3,h4,h5,fun j t hj=>?_⟩⟩) hst)
   ·rcases hE.val with ⟨_,_,h0,h1⟩|⟨_,q,c,e,k,h1,_⟩
    ·exact⟨none,0,by rw[h0];exact h1⟩
    ·exact⟨_,_,h1⟩
   ·rcases(hu b').other hs.mem.sites _ hm' with he|⟨_,hne,_⟩
    ·simp only[Zp,aV.row.injEq] at he
     obtain⟨_,_,rfl,_⟩:=he
     exact hE.val
    ·exact absurd rfl hne
   ·rcases hE.val with ⟨_,h1,h2,h3⟩|⟨h1,_⟩
    ·exact⟨h1,h2,h3⟩
    ·exact absurd h0 h1
   ·simp only[YN,ZO] at ht
    rcases ht with ht|ht
    ·obtain⟨r,hr,htr⟩:=List.mem_flatten.1 ht
     exact hci t (List.mem_flatten.2 ⟨r,ZS hr,htr⟩)
    ·exact g4 t ht
   ·simp only[ZO] at hr
    rcases hr with hr|hr
    ·exact hm r (ZS hr)
    ·exact g3 r hr
   ·obtain⟨u,p1,p2⟩:=h6 j t hj
    exact⟨u,p1,p2.step hst⟩⟩
end
def fA (n:Nat):aG:=dr::(List.range n).map fun b=>(0,b,aV.box [])
theorem vw {n b:Nat}:qm (fA n) b↔b≠0/\b<n:=by
 constructor
 ·rintro ⟨h0,s,o,hm⟩
  refine⟨h0, ?_⟩
  rcases List.mem_cons.1 hm with he|hm
  ·simp only[dr,Zp] at he;omega
  ·obtain⟨b',hb,he⟩:=List.mem_map.1 hm
   simp only[Zp] at he
   have:=List.mem_range.1 hb
   omega
 ·rintro ⟨h0,hlt⟩
  exact⟨h0,0,.box [],Zd _ (List.mem_map.2 ⟨b,List.mem_range.2 hlt,rfl⟩)⟩
theorem Rep.ofOld {w:World} {objs:aG} {n:Nat} (hal:∀b,qm objs b->b<n) {t:TV} {v:Value} (h:Rep w (fA n) t v):Rep w objs t v:=by
 have hz:∀lo b,ZZ (fA n) lo b->ZZ objs lo b:=fun lo b hz=>⟨hz.1,fun ha=>hz.2 (vw.2 ⟨ha.1,hal b ha⟩)⟩
 have hmk:dr∈fA n:=Zi
 induction h with
 | int k n=>exact .int k n
 | bool b=>exact .bool b
 | str s=>exact .str s
 | agg l vs hi h h2 ih=>exact .agg l vs hi h ih
 | sl f m rows A c h1 h2 hm hi g hc hr ih =>
   refine .sl f m rows A c h1 h2 hm hi g (fun j t hj=>?_) ih
   obtain⟨b,o,hA,hzz,hcc⟩:=hc j t hj
   exact⟨b,o,hA,hz _ _ hzz,hcc⟩
 | cp f l hi b o g hZ hb hc hr ih=>exact .cp f l hi b o g (hz _ _ hZ) hb hc ih
 | nilp=>exact .nilp
 | nilf=>exact .nilf
 | nils=>exact .nils
 | ms s b off len v h=>exact absurd hmk h.1.2.1
 | mp s b off h=>exact absurd hmk h.2
 | me s b m k j h=>exact absurd hmk h.2
 | tup l vs h h2 ih=>exact .tup l vs h ih
 | fn f l vs h h2 ih=>exact .fn f l vs h ih
 | top v=>exact .top v
 | gh l v h ih=>exact .gh l v ih
theorem Rep.bare {w:World} {objs:aG} {t:TV} {v:Value} (h:Rep w objs t v):Rep w [] t v:=h.step (jc (.nil objs) w)
def Ct (P:Program) (G:World->Prop) (f:FuncId) (args:List TV) (r:Nat->TV):Prop :=
 ∀(w:World) (vs:Array Value),0<w.heap.size->G w->vs.size=args.length->(∀(i:Nat) (t:TV) (v:Value),args[i]?=some t->vs[i]?=some v->Rep w [] t v) ->
   Calls P f vs w fun e w'=>∃v,e=.returned v/\Below w.heap.size w w'/\∀L,L<=w.heap.size->Rep w' (fA w.heap.size) (r L) v
structure ay (G:World->Prop):Prop where
 below:∀w w',G w->Below w.heap.size w w'->G w'
def qW:Nat->List TV->Env
 | _,[]=>[]
 | i,t::r=>(i,t)::qW (i+1) r
theorem pJ {t:Nat} {v:TV}:∀{l:List TV} {i:Nat},lk t (qW i l)=some v->i<=t/\l[t - i]?=some v
 | [],i,h=>by simp[qW,lk] at h
 | x::r,i,h=>by
   rw[qW,cK] at h
   split at h
   ·rename_i e;subst e;simp only[Zo] at h;subst h;simp
   ·obtain⟨h1,h2⟩:=pJ h
    refine⟨by omega, ?_⟩
    rw[show t - i=t - (i+1)+1 by omega];simpa using h2
def agM (w0:World) (r:Nat->TV):Ending->World->Prop:=fun e w'=>∃v,e=.returned v/\Below w0.heap.size w0 w'/\∀L,L<=w0.heap.size->Rep w' (fA w0.heap.size) (r L) v
theorem av {P:Program} {G:World->Prop} {f:FuncId} {fn:Func} {c:Code} {args:List TV} {r:Nat->TV} {N:Nat} {env:Env} (hf:P.funcs[f]?=some fn) (hb:fn.body=some c) (hn:fn.ntmps=N) (hN:Nat.ble args.length N=true) (he:qW 0 args=env)
   (h:∀w0,0<w0.heap.size->G w0->AW P w0 N c (bodyPost P fn (agM w0 r)) env []):Ct P G f args r:=fun w vs hpos hG hsz hrep=>by
 have hN:=Ya hN
 subst he
 refine calls_of_wp hf hb ((h w hpos hG).run _ w ⟨rfl, ?_,⟨Below.refl _ _,hpos,by simp,.nil⟩,fun t v hv=>?_⟩)
 ·simp[hn,hsz];omega
 ·obtain⟨_,h2⟩:=pJ hv
  rw[Nat.sub_zero] at h2
  have hlt:t<vs.size:=by rw[hsz];exact(List.getElem?_eq_some_iff.1 h2).1
  have:(vs++Array.replicate (fn.ntmps - vs.size) undef).getD t undef=vs[t]:=by simp[Yp hlt,hlt]
  rw[this]
  exact hrep t v _ h2 (by simp[hlt])
inductive Fin (B:Nat) (objs:aG) (L:Nat):TV->TV->Prop
 | int (k:IntKind) (n:Int):Fin B objs L (.int k n) (.int k n)
 | bool (b:Bool):Fin B objs L (.bool b) (.bool b)
 | str (s:ByteArray):Fin B objs L (.str s) (.str s)
 | nilp:Fin B objs L .nilp .nilp
 | nils (m:Nat):Fin B objs L .nils (.sl L m [])
 | sl (lo m:Nat) (rows rows':List (List TV)) (hlo:B<=lo) (hl:rows'.map List.length=rows.map List.length) (h:∀(j:Nat) (t t':TV),rows.flatten[j]?=some t->rows'.flatten[j]?=some t'->Fin B objs L t t'):Fin B objs L (.sl lo m rows) (.sl L m rows')
 | ms (s b off len m : Nat) (rows live rows' : List (List TV)) (hm : (s, b, aV.row m rows) ∈ objs) (hle : off + len <= rows.length) (hlive : (rows.drop off).take len = live) (hl : rows'.map List.length = live.map List.length)
     (h:∀(j:Nat) (t t':TV),live.flatten[j]?=some t->rows'.flatten[j]?=some t'->Fin B objs L t t'):Fin B objs L (.ms s b off len) (.sl L m rows')
 | agg (l l':List TV) (hl:l'.length=l.length) (h:∀(j:Nat) (t t':TV),l[j]?=some t->l'[j]?=some t'->Fin B objs L t t'):Fin B objs L (.agg l) (.agg l')
section
variable {P:Program} {w0:World} {N:Nat} {Q:Exit->Act->World->Prop} {env:Env} {objs objs':aG} {o:Oper}
theorem Fin.cell {B L:Nat} {t t':TV} (h:Fin B objs L t t') (hc:t.isCell=true):t'.isCell=true:=by
 cases h <;> first|rfl|cases hc
theorem n7 {rows rows':List (List TV)} (h:rows'.map List.length=rows.map List.length):rows'.flatten.length=rows.flatten.length/\rows'.length=rows.length:=by
 refine⟨by rw[List.length_flatten,List.length_flatten,h],by simpa using congrArg List.length h⟩
theorem nW {m:Nat} {rows rows':List (List TV)} (h:rows'.map List.length=rows.map List.length) (hm:∀r∈rows,r.length=m):∀r∈rows',r.length=m:=fun r hr=>by
 have h1:r.length∈rows'.map List.length:=List.mem_map.2 ⟨r,hr,rfl⟩
 rw[h] at h1
 obtain⟨r0,h2,h3⟩:=List.mem_map.1 h1
 rw[<- h3];exact hm r0 h2
theorem kB {w:World} (hw:eo w0 objs w) {L:Nat} (hL:L<=w0.heap.size) {t t':TV} {v:Value} (h:Fin w0.heap.size objs L t t') (hr:Rep w objs t v):Rep w (fA w0.heap.size) t' v:=by
 have hz:∀b,w0.heap.size<=b->ZZ (fA w0.heap.size) L b:=fun b hb=>⟨Z0 hL hb,fun ha=>by have:=(vw.1 ha).2;omega⟩
 induction h generalizing v with
 | int k n=>cases hr;exact .int k n
 | bool b=>cases hr;exact .bool b
 | str s=>cases hr;exact .str s
 | nilp=>cases hr <;> constructor
 | nils m=>cases hr;exact .sl L m [] none 0 (Zg _) (by simp) (by simp) (by simp) (fun _=>undef) (by simp) (by simp)
 | sl lo m rows rows' hlo hl h ih =>
   obtain⟨A,c,rfl,g1,g2,g3,g4,g5⟩:=lS hr
   obtain⟨e1,e2⟩:=n7 hl
   have hget:∀(j:Nat) (t':TV),rows'.flatten[j]?=some t'->∃t,rows.flatten[j]?=some t:=fun j t' hj=>by
     have:j<rows.flatten.length:=by rw[<- e1];exact(List.getElem?_eq_some_iff.1 hj).1
     exact⟨_,Za this⟩
   have key:∀j,∃u,∀t',rows'.flatten[j]?=some t'->∃b q,A=some ⟨b,q,none⟩/\ZZ (fA w0.heap.size) L b/\w.cell? ⟨b,q+j,none⟩=some u/\Rep w (fA w0.heap.size) t' u:=fun j=>by
     cases hj:rows.flatten[j]? with
     | none=>exact⟨undef,fun t' ht=>by obtain⟨t,h1⟩:=hget j t' ht;rw[hj] at h1;cases h1⟩
     | some t =>
       obtain⟨b,q,u,h1,h2,h3,h4⟩:=g5 j t hj
       exact⟨u,fun t' ht=>⟨b,q,h1,hz b (Z0 hlo h2.1),h3,ih j t t' hj ht h4⟩⟩
   rw[<- e2]
   refine .sl L m rows' A c (by omega) g2 (nW hl g3) (fun t' ht=>?_) (fun j=>Classical.choose (key j)) (fun j t' hj=>?_) (fun j t' hj=>?_)
   ·obtain⟨j,hj,rfl⟩:=ZD ht
    obtain⟨t,h1⟩:=hget j _ (Za hj)
    exact(h j t _ h1 (Za hj)).cell (g4 t (Zm h1))
   ·obtain⟨b,q,h1,h2,h3,_⟩:=ZL (key j) t' hj
    exact⟨b,q,h1,h2,h3⟩
   ·obtain⟨b,q,h1,h2,_,h4⟩:=ZL (key j) t' hj
    exact h4
 | ms s b off len m rows live rows' hm hle hlive hl h ih =>
   subst hlive
   obtain⟨⟨hm0,hci⟩,hmm,hor⟩:=hw.obj s b _ hm
   obtain⟨e1,e2⟩:=n7 hl
   have hll:((rows.drop off).take len).length=len:=by simp;omega
   have hlm:∀r∈(rows.drop off).take len,r∈rows:=fun r hr=>Z3 (ZS hr)
   have hget:∀(j:Nat) (t':TV),rows'.flatten[j]?=some t'->∃t,((rows.drop off).take len).flatten[j]?=some t:=fun j t' hj=>by
     have:j<((rows.drop off).take len).flatten.length:=by rw[<- e1];exact(List.getElem?_eq_some_iff.1 hj).1
     exact⟨_,Za this⟩
   have hcell:∀t'∈rows'.flatten,t'.isCell=true:=fun t' ht=>by
     obtain⟨j,hj,rfl⟩:=ZD ht
     obtain⟨t,h1⟩:=hget j _ (Za hj)
     obtain⟨r,hr,htr⟩:=List.mem_flatten.1 (Zm h1)
     exact(h j t _ h1 (Za hj)).cell (hci t (List.mem_flatten.2 ⟨r,hlm r hr,htr⟩))
   rcases(vD hr).or m rows hm with ⟨_,_,hlen,rfl⟩|⟨hb0,q,c,e,k,rfl,hlc,hsh,hk,ho⟩
   ·subst hlen
    have:rows'=[]:=ZV (by rw[e2,hll])
    subst this
    exact .sl L m [] none 0 (Zg _) (by simp) (by simp) (by simp) (fun _=>undef) (by simp) (by simp)
   ·rcases hor with ⟨h0,_⟩|⟨hB,cur,e',cap,h3,h4,h5,h6,h7⟩
    ·exact absurd h0 hb0
    have hcm:c<=maxLen:=by
      have h8:w.shape? b=some (e',cur.size):=by unfold World.shape?;rw[h3]
      rw[h8] at hsh
      simp only[Zo,Zp] at hsh
      have h9:cap * m=(off+c) * m:=by omega
      have:=YQ hm0 h9
      omega
    have key:∀j,∃u,∀t',rows'.flatten[j]?=some t'->w.cell? ⟨b,q+j,none⟩=some u/\Rep w (fA w0.heap.size) t' u:=fun j=>by
      cases hj:((rows.drop off).take len).flatten[j]? with
      | none=>exact⟨undef,fun t' ht=>by obtain⟨t,h1⟩:=hget j t' ht;rw[hj] at h1;cases h1⟩
      | some t =>
        have hlpos:0<len:=by
          rcases Nat.eq_zero_or_pos len with h|h
          ·subst h;simp at hj
          ·exact h
        have hq:=ho (.inl (by omega))
        have hj2:=hj
        rw[eU (fun r hr=>hmm r (Z3 hr)),ig hmm,ZQ] at hj2
        split at hj2
        ·rw[Yf] at hj2
         obtain⟨u,p1,p2⟩:=h7 _ t hj2
         exact⟨u,fun t' ht=>⟨by rw[cell_of_row w b _ cur e' (0,0) h3,hq];exact p1,ih j t t' hj ht p2⟩⟩
        ·cases hj2
    have hlen':rows'.length=len:=by rw[e2,hll]
    have hres:=Rep.sl (w:=w) (objs:=fA w0.heap.size) L m rows' (some ⟨b,q,none⟩) c (by omega) hcm (nW hl fun r hr=>hmm r (hlm r hr)) hcell (fun j=>Classical.choose (key j))
      (fun j t' hj=>⟨b,q,rfl,hz b hB,(ZL (key j) t' hj).1⟩) (fun j t' hj=>(ZL (key j) t' hj).2)
    rw[hlen'] at hres
    exact hres
 | agg l l' hl h ih =>
   cases hr with
   | agg l vs hi h1 h2 =>
     refine .agg l' vs (fun t' ht=>?_) (by omega) (fun i t' v ht hv=>?_)
     ·obtain⟨j,hj,rfl⟩:=ZD ht
      exact(h j l[j] _ (Za (by omega)) (Za hj)).cell (hi _ (Zb _))
     ·have hil:i<l.length:=by rw[<- hl];exact(List.getElem?_eq_some_iff.1 ht).1
      exact ih i l[i] t' (Za hil) ht (h2 i _ v (Za hil) hv)
def TV.flat:TV->Bool
 | .int _ _ | .bool _ | .str _ | .nilp=>true
 | _=>false
theorem Fin.flat {B L:Nat} {t:TV} (h:t.flat=true):Fin B objs L t t:=by
 cases t <;> first|(cases h;done)|constructor
theorem Fin.slFlat {B L lo m:Nat} {rows:List (List TV)} (hlo:B<=lo) (h:∀t∈rows.flatten,t.flat=true):Fin B objs L (.sl lo m rows) (.sl L m rows) :=
 .sl lo m rows rows hlo rfl fun j t t' h1 h2=>by rw[h1] at h2;cases h2;exact .flat (h t (Zm h1))
theorem Fin.msFlat {B L s b off len m:Nat} {rows live:List (List TV)} (hm:(s,b,aV.row m rows)∈objs) (hle:off+len<=rows.length) (hlive:(rows.drop off).take len=live) (h:∀t∈live.flatten,t.flat=true):Fin B objs L (.ms s b off len) (.sl L m live) :=
 .ms s b off len m rows live live hm hle hlive rfl fun j t t' h1 h2=>by rw[h1] at h2;cases h2;exact .flat (h t (Zm h1))
inductive RV (P:Program) (env:Env) (objs:aG):ResultVar->TV->Prop
 | tmp (t:Nat) (tv:TV) (h:lk t env=some tv):RV P env objs (.tmp t) tv
 | cell (a T s b:Nat) (cells:List TV) (h:lk a env=some (.mp s b 0)) (hm:(s,b,aV.box cells)∈objs) (hT:ki P T=true) (hi:(P.info? T).isSome=true) (hs:P.cellsOf T=cells.length):RV P env objs (.cell a T) (.agg cells)
 | cell1 (a T s b:Nat) (c:TV) (h:lk a env=some (.mp s b 0)) (hm:(s,b,aV.box [c])∈objs) (hT:ju P T=true):RV P env objs (.cell a T) c
def rL (tmps:Array Value):ResultVar->Sem Value
 | .tmp t=>pure (tmps.getD t undef)
 | .cell a t=>do loadVar t (<- asAddr (tmps.getD a undef))
theorem kY {a:Act} {w:World} (hs:Sim w0 N env objs a w) {r:ResultVar} {tv:TV} (h:RV P env objs r tv):∃v,(rL a.tmps r).run P w=.ok v w/\Rep w objs tv v:=by
 cases h with
 | tmp t tv h=>exact⟨_,rfl,hs.env t _ h⟩
 | cell x T s b cells h hm hT hi hsz =>
   have h0:=hs.env x _ h
   obtain⟨⟨_,hci⟩,cur,e,h2,h3,h4⟩:=hs.mem.obj s b _ hm
   generalize hv:a.tmps.getD x undef=v at h0
   cases h0 with
   | mp s b q hb =>
     cases hie:P.info? T with
     | none=>rw[hie] at hi;cases hi
     | some i =>
     refine⟨.agg cur, ?_,.agg cells cur hci h3.symm (fun j t v ht hv=>by obtain⟨u,h5,h6⟩:=h4 j t ht;rw[h5] at hv;cases hv;exact h6)⟩
     simp only[rL,hv,asAddr,ZE,Sem.run_pure,Zz,loadVar,oW hT,if_true,run_sizeOf w hie,hsz]
     have hl:=run_loadCells_list (P:=P) w ⟨b,0,none⟩ cur.toList (fun j v hj=>by rw[Addr.add_lit,ZY,cell_of_row w b j cur e (0,0) h2];simpa using hj)
     rw[Z5,h3] at hl
     rw[hl];simp[Zz,Sem.run_pure]
 | cell1 x T s b c h hm hT =>
   have h0:=hs.env x _ h
   obtain⟨⟨_,hci⟩,cur,e,h2,h3,h4⟩:=hs.mem.obj s b _ hm
   generalize hv:a.tmps.getD x undef=v at h0
   cases h0 with
   | mp s b q hb =>
     obtain⟨u,h5,h6⟩:=h4 0 tv rfl
     refine⟨u, ?_,h6⟩
     simp only[rL,hv,asAddr,ZE,Sem.run_pure,Zz,loadVar,iZ hT]
     show Sem.run P (load ⟨b,0,none⟩) w=_
     rw[run_load,cell_of_row w b 0 cur e (0,0) h2,h5]
theorem wI {fn:Func} {r:Nat->TV} {x:Exit} (hx:x=.normal\/x=.ret) {a:Act} {w:World} (hs:Sim w0 N env objs a w) {v:Value} (hr:(results fn a.tmps).run P w=.ok v w) (hv:∀L,L<=w0.heap.size->Rep w (fA w0.heap.size) (r L) v):bodyPost P fn (agM w0 r) x a w:=by
 rcases hx with rfl|rfl
 ·exact⟨hs.defers,v,hr,v,rfl,hs.mem.below,hv⟩
 ·exact⟨hs.defers,v,hr,v,rfl,hs.mem.below,hv⟩
theorem aN {fn:Func} {r1:ResultVar} {t1:TV} {r:Nat->TV} {x:Exit} (hx:x=.normal\/x=.ret) (hres:fn.results=#[r1]) (h1:RV P env objs r1 t1) (hf:∀L,Fin w0.heap.size objs L t1 (r L)):AQ w0 N (bodyPost P fn (agM w0 r)) x env objs:=⟨fun a w hs=>by
 obtain⟨v1,e1,g1⟩:=kY hs h1
 refine wI hx hs (v:=v1) ?_ (fun L hL=>kB hs.mem hL (hf L) g1)
 have:results fn a.tmps=(#[r1].mapM (rL a.tmps)) >>= fun vs=>pure (if h:vs.size=1 then vs[0] else .tuple vs):=by rw[<- hres];rfl
 rw[this]
 simp[ZE,e1,Sem.run_pure]⟩
theorem yA {w:World} {objs:aG} {t1 t2:TV} {v1 v2:Value} (h1:Rep w objs t1 v1) (h2:Rep w objs t2 v2):Rep w objs (.tup [t1,t2]) (.tuple #[v1,v2]) :=
 .tup _ _ rfl fun i t v ht hv=>by
   match i with
   | 0=>simp at ht hv;subst ht;subst hv;exact h1
   | 1=>simp at ht hv;subst ht;subst hv;exact h2
   | i+2=>simp at ht
theorem ad3 {w:World} {objs:aG} {t1 t2 t3:TV} {v1 v2 v3:Value} (h1:Rep w objs t1 v1) (h2:Rep w objs t2 v2) (h3:Rep w objs t3 v3):Rep w objs (.tup [t1,t2,t3]) (.tuple #[v1,v2,v3]) :=
 .tup _ _ rfl fun i t v ht hv=>by
   match i with
   | 0=>simp at ht hv;subst ht;subst hv;exact h1
   | 1=>simp at ht hv;subst ht;subst hv;exact h2
   | 2=>simp at ht hv;subst ht;subst hv;exact h3
   | i+3=>simp at ht
theorem fj {fn:Func} {r1 r2:ResultVar} {t1 t2:TV} {s1 s2:Nat->TV} {x:Exit} (hx:x=.normal\/x=.ret) (hres:fn.results=#[r1,r2]) (h1:RV P env objs r1 t1) (h2:RV P env objs r2 t2) (hf1:∀L,Fin w0.heap.size objs L t1 (s1 L)) (hf2:∀L,Fin w0.heap.size objs L t2 (s2 L)) :
   AQ w0 N (bodyPost P fn (agM w0 fun L=>.tup [s1 L,s2 L])) x env objs:=⟨fun a w hs=>by
 obtain⟨v1,e1,g1⟩:=kY hs h1
 obtain⟨v2,e2,g2⟩:=kY hs h2
 refine wI hx hs (v:=.tuple #[v1,v2]) ?_ (fun L hL=>yA (kB hs.mem hL (hf1 L) g1) (kB hs.mem hL (hf2 L) g2))
 have:results fn a.tmps=(#[r1,r2].mapM (rL a.tmps)) >>= fun vs=>pure (if h:vs.size=1 then vs[0] else .tuple vs):=by rw[<- hres];rfl
 rw[this]
 simp[ZE,e1,e2,Sem.run_pure]⟩
theorem abk {fn:Func} {r1 r2 r3:ResultVar} {t1 t2 t3:TV} {s1 s2 s3:Nat->TV} {x:Exit} (hx:x=.normal\/x=.ret) (hres:fn.results=#[r1,r2,r3]) (h1:RV P env objs r1 t1) (h2:RV P env objs r2 t2) (h3:RV P env objs r3 t3)
   (hf1:∀L,Fin w0.heap.size objs L t1 (s1 L)) (hf2:∀L,Fin w0.heap.size objs L t2 (s2 L)) (hf3:∀L,Fin w0.heap.size objs L t3 (s3 L)):AQ w0 N (bodyPost P fn (agM w0 fun L=>.tup [s1 L,s2 L,s3 L])) x env objs:=⟨fun a w hs=>by
 obtain⟨v1,e1,g1⟩:=kY hs h1
 obtain⟨v2,e2,g2⟩:=kY hs h2
 obtain⟨v3,e3,g3⟩:=kY hs h3
 refine wI hx hs (v:=.tuple #[v1,v2,v3]) ?_ (fun L hL=>ad3 (kB hs.mem hL (hf1 L) g1) (kB hs.mem hL (hf2 L) g2) (kB hs.mem hL (hf3 L) g3))
 have:results fn a.tmps=(#[r1,r2,r3].mapM (rL a.tmps)) >>= fun vs=>pure (if h:vs.size=1 then vs[0] else .tuple vs):=by rw[<- hres];rfl
 rw[this]
 simp[ZE,e1,e2,e3,Sem.run_pure]⟩
inductive cy (objs:aG):TV->TV->Prop
 | same (t:TV):cy objs t t
 | ms (s b off len m : Nat) (rows live rows' : List (List TV)) (hm : (s, b, aV.row m rows) ∈ objs) (hle : off + len <= rows.length) (hlive : (rows.drop off).take len = live) (hl : rows'.map List.length = live.map List.length)
     (h:∀(j:Nat) (t t':TV),live.flatten[j]?=some t->rows'.flatten[j]?=some t'->cy objs t t'):cy objs (.ms s b off len) (.sl 0 m rows')
 | mp (s b off:Nat) (cells l':List TV) (hm:(s,b,aV.box cells)∈objs) (hl:l'.length=(cells.drop off).length) (h:∀(j:Nat) (t t':TV),(cells.drop off)[j]?=some t->l'[j]?=some t'->cy objs t t'):cy objs (.mp s b off) (.cp 0 l')
 | me (s b m k j:Nat) (rows:List (List TV)) (r l':List TV) (hm:(s,b,aV.row m rows)∈objs) (hr:rows[k]?=some r) (hl:l'.length=(r.drop j).length) (h:∀(i:Nat) (t t':TV),(r.drop j)[i]?=some t->l'[i]?=some t'->cy objs t t'):cy objs (.me s b m k j) (.cp 0 l')
 | nils (m:Nat):cy objs .nils (.sl 0 m [])
 | agg (l l':List TV) (hl:l'.length=l.length) (h:∀(j:Nat) (t t':TV),l[j]?=some t->l'[j]?=some t'->cy objs t t'):cy objs (.agg l) (.agg l')
 | sl (f m:Nat) (rows rows':List (List TV)) (hl:rows'.map List.length=rows.map List.length) (h:∀(j:Nat) (t t':TV),rows.flatten[j]?=some t->rows'.flatten[j]?=some t'->cy objs t t'):cy objs (.sl f m rows) (.sl 0 m rows')
 | cp (f:Nat) (l l':List TV) (hl:l'.length=l.length) (h:∀(j:Nat) (t t':TV),l[j]?=some t->l'[j]?=some t'->cy objs t t'):cy objs (.cp f l) (.cp 0 l')
 | cut (t:TV) (l l':List TV) (h:cy objs t (.cp 0 l)) (hp:l.take l'.length=l'):cy objs t (.cp 0 l')
theorem cy.cp0 (f:Nat) (l:List TV):cy objs (.cp f l) (.cp 0 l) :=
 .cp f l l rfl fun j t t' h1 h2=>by rw[h1] at h2;cases h2;exact .same t
theorem cy.msSame {s b off len m:Nat} {rows live:List (List TV)} (hm:(s,b,aV.row m rows)∈objs) (hle:off+len<=rows.length) (hlive:(rows.drop off).take len=live):cy objs (.ms s b off len) (.sl 0 m live) :=
 .ms s b off len m rows live live hm hle hlive rfl fun j t t' h1 h2=>by rw[h1] at h2;cases h2;exact .same t
theorem cy.mpSame {s b off:Nat} {cells:List TV} (hm:(s,b,aV.box cells)∈objs):cy objs (.mp s b off) (.cp 0 (cells.drop off)) :=
 .mp s b off cells _ hm rfl fun j t t' h1 h2=>by rw[h1] at h2;cases h2;exact .same t
theorem cy.cell {t t':TV} (h:cy objs t t') (hc:t.isCell=true):t'.isCell=true:=by
 cases h <;> first|exact hc|rfl|cases hc
theorem ej {α:Type} {l l':List α} (h:l'.length=l.length) {j:Nat} {t':α} (hj:l'[j]?=some t'):∃t,l[j]?=some t :=
 ⟨_,Za (by rw[<- h];exact(List.getElem?_eq_some_iff.1 hj).1)⟩
theorem yn (b:Nat):ZZ [] 0 b:=⟨Ze _,fun ha=>by obtain⟨_,s,o,hm⟩:=ha;simp at hm⟩
theorem wL {w:World} (hw:eo w0 objs w) {tv:TV} {l l':List TV} {v:Value} (hp:vB w objs tv l) (hr:Rep w objs tv v) (hb:∀b q,v=.pointer (some ⟨b,q,none⟩)->b<w.heap.size) (hl:l'.length=l.length)
   (hc:∀(j:Nat) (t t':TV),l[j]?=some t->l'[j]?=some t'->t.isCell=true->t'.isCell=true) (h:∀(j:Nat) (t t':TV) (u:Value),l[j]?=some t->l'[j]?=some t'->Rep w objs t u->Rep w [] t' u):Rep w [] (.cp 0 l') v:=by
 obtain⟨b,q,rfl,h1,h2⟩:=iO hw hp hr
 have key:∀j,∃u,∀t',l'[j]?=some t'->w.cell? ⟨b,q+j,none⟩=some u/\Rep w [] t' u:=fun j=>by
   cases hj:l[j]? with
   | none=>exact⟨undef,fun t' ht=>by obtain⟨t,h3⟩:=ej hl ht;rw[hj] at h3;cases h3⟩
   | some t=>obtain⟨u,h3,h4⟩:=h2 j t hj;exact⟨u,fun t' ht=>⟨h3,h j t t' u hj ht h4⟩⟩
 refine .cp 0 l' (fun t' ht=>?_) b q (fun j=>Classical.choose (key j)) (yn b) (hb b q rfl) (fun j t hj=>(ZL (key j) t hj).1) (fun j t hj=>(ZL (key j) t hj).2)
 obtain⟨j,hj,rfl⟩:=ZD ht
 obtain⟨t,h3⟩:=ej hl (Za hj)
 exact hc j t _ h3 (Za hj) (h1 t (Zm h3))
theorem ae4 {w:World} {l l':List TV} {v:Value} (hp:l.take l'.length=l') (h:Rep w [] (.cp 0 l) v):Rep w [] (.cp 0 l') v:=by
 have hget:∀(j:Nat) (t:TV),l'[j]?=some t->l[j]?=some t:=fun j t hj=>by
   rw[<- hp,ZQ] at hj
   split at hj
   ·exact hj
   ·cases hj
 cases h with
 | cp f l hi b o g hZ hb hc hr=>exact .cp 0 l' (fun t ht=>hi t (by rw[<- hp] at ht;exact ZS ht)) b o g hZ hb (fun j t hj=>hc j t (hget j t hj)) (fun j t hj=>hr j t (hget j t hj))
theorem yH {w:World} (hw:eo w0 objs w) {t t':TV} {v:Value} (h:cy objs t t') (hr:Rep w objs t v):Rep w [] t' v:=by
 induction h generalizing v with
 | same t=>exact hr.bare
 | cp f l l' hl h ih =>
   refine wL hw (.cp f l) hr (fun b' q hv=>?_) hl (fun j t t' h1 h2 h3=>(h j t t' h1 h2).cell h3) (fun j t t' u h1 h2 h3=>ih j t t' h1 h2 h3)
   subst hv
   cases hr with
   | cp f l hi b o g hZ hb hc hr=>exact hb
 | cut t l l' h hp ih=>exact ae4 hp (ih hr)
 | nils m=>cases hr;exact .sl 0 m [] none 0 (Zg _) (by simp) (by simp) (by simp) (fun _=>undef) (by simp) (by simp)
 | mp s b off cells l' hm hl h ih =>
   refine wL hw (.mp s b off cells hm) hr (fun b' q hv=>?_) hl (fun j t t' h1 h2 h3=>(h j t t' h1 h2).cell h3) (fun j t t' u h1 h2 h3=>ih j t t' h1 h2 h3)
   subst hv
   cases hr with
   | mp s b off h=>exact h.1
 | me s b m k j rows r l' hm hk hl h ih =>
   refine wL hw (.me s b m k j rows r hm hk) hr (fun b' q hv=>?_) hl (fun j t t' h1 h2 h3=>(h j t t' h1 h2).cell h3) (fun j t t' u h1 h2 h3=>ih j t t' h1 h2 h3)
   subst hv
   cases hr with
   | me s b m k j h=>exact h.1
 | agg l l' hl h ih =>
   cases hr with
   | agg l vs hi h1 h2 =>
     refine .agg l' vs (fun t' ht=>?_) (by omega) (fun i t' v ht hv=>?_)
     ·obtain⟨j,hj,rfl⟩:=ZD ht
      obtain⟨t,h3⟩:=ej hl (Za hj)
      exact(h j t _ h3 (Za hj)).cell (hi t (Zm h3))
     ·obtain⟨t,h3⟩:=ej hl ht
      exact ih i t t' h3 ht (h2 i t v h3 hv)
 | sl f m rows rows' hl h ih =>
   obtain⟨A,c,rfl,g1,g2,g3,g4,g5⟩:=lS hr
   obtain⟨e1,e2⟩:=n7 hl
   have key:∀j,∃u,∀t',rows'.flatten[j]?=some t'->∃b q,A=some ⟨b,q,none⟩/\w.cell? ⟨b,q+j,none⟩=some u/\Rep w [] t' u:=fun j=>by
     cases hj:rows.flatten[j]? with
     | none=>exact⟨undef,fun t' ht=>by obtain⟨t,h1⟩:=ej e1 ht;rw[hj] at h1;cases h1⟩
     | some t =>
       obtain⟨b,q,u,h1,h2,h3,h4⟩:=g5 j t hj
       exact⟨u,fun t' ht=>⟨b,q,h1,h3,ih j t t' hj ht h4⟩⟩
   rw[<- e2]
   refine .sl 0 m rows' A c (by omega) g2 (nW hl g3) (fun t' ht=>?_) (fun j=>Classical.choose (key j)) (fun j t' hj=>?_) (fun j t' hj=>?_)
   ·obtain⟨j,hj,rfl⟩:=ZD ht
    obtain⟨t,h1⟩:=ej e1 (Za hj)
    exact(h j t _ h1 (Za hj)).cell (g4 t (Zm h1))
   ·obtain⟨b,q,h1,h3,_⟩:=ZL (key j) t' hj
    exact⟨b,q,h1,yn b,h3⟩
   ·obtain⟨b,q,h1,_,h4⟩:=ZL (key j) t' hj
    exact h4
 | ms s b off len m rows live rows' hm hle hlive hl h ih =>
   subst hlive
   obtain⟨⟨hm0,hci⟩,hmm,hor⟩:=hw.obj s b _ hm
   obtain⟨e1,e2⟩:=n7 hl
   have hll:((rows.drop off).take len).length=len:=by simp;omega
   have hlm:∀r∈(rows.drop off).take len,r∈rows:=fun r hr=>Z3 (ZS hr)
   have hcell:∀t'∈rows'.flatten,t'.isCell=true:=fun t' ht=>by
     obtain⟨j,hj,rfl⟩:=ZD ht
     obtain⟨t,h1⟩:=ej e1 (Za hj)
     obtain⟨r,hr,htr⟩:=List.mem_flatten.1 (Zm h1)
     exact(h j t _ h1 (Za hj)).cell (hci t (List.mem_flatten.2 ⟨r,hlm r hr,htr⟩))
   have hlen':rows'.length=len:=by rw[e2,hll]
   rcases(vD hr).or m rows hm with ⟨_,_,hlen,rfl⟩|⟨hb0,q,c,e,k,rfl,hlc,hsh,hk,ho⟩
   ·subst hlen
    have:rows'=[]:=ZV hlen'
    subst this
    exact .sl 0 m [] none 0 (Zg _) (by simp) (by simp) (by simp) (fun _=>undef) (by simp) (by simp)
   ·rcases hor with ⟨h0,_⟩|⟨hB,cur,e',cap,h3,h4,h5,h6,h7⟩
    ·exact absurd h0 hb0
    have hcm:c<=maxLen:=by
      have h8:w.shape? b=some (e',cur.size):=by unfold World.shape?;rw[h3]
      rw[h8] at hsh
      simp only[Zo,Zp] at hsh
      have h9:cap * m=(off+c) * m:=by omega
      have:=YQ hm0 h9
      omega
    have key:∀j,∃u,∀t',rows'.flatten[j]?=some t'->w.cell? ⟨b,q+j,none⟩=some u/\Rep w [] t' u:=fun j=>by
      cases hj:((rows.drop off).take len).flatten[j]? with
      | none=>exact⟨undef,fun t' ht=>by obtain⟨t,h1⟩:=ej e1 ht;rw[hj] at h1;cases h1⟩
      | some t =>
        have hlpos:0<len:=by
          rcases Nat.eq_zero_or_pos len with h|h
          ·subst h;simp at hj
          ·exact h
        have hq:=ho (.inl (by omega))
        have hj2:=hj
        rw[eU (fun r hr=>hmm r (Z3 hr)),ig hmm,ZQ] at hj2
        split at hj2
        ·rw[Yf] at hj2
         obtain⟨u,p1,p2⟩:=h7 _ t hj2
         exact⟨u,fun t' ht=>⟨by rw[cell_of_row w b _ cur e' (0,0) h3,hq];exact p1,ih j t t' hj ht p2⟩⟩
        ·cases hj2
    have hres:=Rep.sl (w:=w) (objs:=[]) 0 m rows' (some ⟨b,q,none⟩) c (by omega) hcm (nW hl fun r hr=>hmm r (hlm r hr)) hcell (fun j=>Classical.choose (key j))
      (fun j t hj=>⟨b,q,rfl,yn b,(ZL (key j) t hj).1⟩) (fun j t hj=>(ZL (key j) t hj).2)
    rw[hlen'] at hres
    exact hres
inductive bU (env:Env) (objs:aG):List Operand->List TV->Prop
 | nil:bU env objs [] []
 | cons (x:Operand) (xs:List Operand) (t t':TV) (ts:List TV) (h:ev env x=some t) (hv:cy objs t t') (hr:bU env objs xs ts):bU env objs (x::xs) (t'::ts)
theorem nQ {w:World} (hw:eo w0 objs w) {a:Act} {xs:List Operand} {ts:List TV} (h:bU env objs xs ts) (hop:∀x∈xs,∀v,ev env x=some v->Rep w objs v (a.eval x)):(xs.map a.eval).length=ts.length/\∀(i:Nat) (t:TV) (v:Value),ts[i]?=some t->(xs.map a.eval)[i]?=some v->Rep w [] t v:=by
 induction h with
 | nil=>simp
 | cons x xs t t' ts h hv hr ih =>
   obtain⟨h1,h2⟩:=ih (fun y hy=>hop y (by simp[hy]))
   refine⟨by simpa using h1,fun i u v hu hv'=>?_⟩
   cases i with
   | zero=>simp at hu hv';subst hu;subst hv';exact yH hw hv (hop x (by simp) t h)
   | succ i=>exact h2 i u v (by simpa using hu) (by simpa using hv')
def gL (P:Program) (f:Nat):Bool:=match P.funcs[f]? with
 | some fn=>fn.name != "runtime.NumGoroutine" && fn.body.isSome
 | none=>false
theorem mN {f:Nat} (h:gL P f=true) (args:Array Value) (w:World):(callFunc f args).run P w=.ok (.enter f args) w:=by
 unfold gL at h
 split at h
 ·rename_i fn hf
  simp only[Zq,bne_iff_ne,ne_eq] at h
  obtain⟨h1,h2⟩:=h
  have h3:fn.body.isNone=false:=by cases hb:fn.body <;> simp_all
  simp[callFunc,ZE,run_program,hf,h1,h3,Sem.run_pure]
  intro hn;rw[hn] at h2;cases h2
 ·cases h
theorem jB {f:Nat} {xs:List Operand} {ts:Array TypeId} (ho:o.op=.call { callee:=.value (.func f),args:=xs.toArray,argTypes:=ts }) (hc:gL P f=true) (a:Act) (w:World):(execOp a.eval o).run P w=.ok (.enter f (xs.map a.eval).toArray) w:=by
 simp only[execOp,ho,resolve,ZE,Sem.run_pure,Zz,Deferred.ofValue,Act.eval,invoke]
 simp[mN hc,Sem.run_pure,Zz,Ys]
theorem ul {G:World->Prop} {f:Nat} {xs:List Operand} {ts:Array TypeId} {args:List TV} {r:Nat->TV} (ho:o.op=.call { callee:=.value (.func f),args:=xs.toArray,argTypes:=ts }) (hc:gL P f=true) (hargs:bU env objs xs args) (hct:Ct P G f args r) (hG:G w0) (hst:ay G) :
   ba P w0 env objs o (r w0.heap.size):=fun a w K Q hw hop hK=>by
 obtain⟨h1,h2⟩:=nQ hw (a:=a) hargs (fun x hx v hv=>hop x (by simp[ho,Op.operands,Call.operands,hx]) v hv)
 unfold Oper.wp
 rw[jB ho hc]
 refine(hct w (xs.map a.eval).toArray (ZJ hw.pos hw.below.size) (hst.below _ _ hG hw.below) (by simpa using h1) (fun i t v ht hv=>h2 i t v ht (by simpa using hv))).mono ?_
 rintro e w' ⟨v,rfl,hb,hr⟩
 have hk:∀b,b<w.heap.size->w'.heap[b]?=w.heap[b]?:=fun b hlt=>hb.block b hlt
 have hbel:Below w0.heap.size w0 w':=hw.below.trans (hb.mono hw.below.size)
 exact hK v w' (Rep.ofOld (fun b ha=>by obtain⟨_,s,ob,hm⟩:=ha;exact dV hw hm) (hr _ hw.below.size)) (hw.grow hbel hb.size hk) (lm objs hb.size hk)
end
theorem abB {B:Nat} {objs:aG} {L:Nat} {k:IntKind} {m n:Int} (h:m=n):Fin B objs L (.int k m) (.int k n):=h ▸ .int k m
theorem aL {B:Nat} {objs:aG} {L:Nat} {m n:Bool} (h:m=n):Fin B objs L (.bool m) (.bool n):=h ▸ .bool m
theorem ea {t:Nat} {env:Env} {k:IntKind} {m n:Int} (h:lk t env=some (.int k m)) (e:m=n):lk t env=some (.int k n):=e ▸ h
theorem km {t:Nat} {env:Env} {m n:Bool} (h:lk t env=some (.bool m)) (e:m=n):lk t env=some (.bool n):=e ▸ h
theorem agW {t:Nat} {env:Env} {m n:ByteArray} (h:lk t env=some (.str m)) (e:m=n):lk t env=some (.str n):=e ▸ h
theorem ae7 {w:World} {t:TV} {vs:Array Value} (hs:vs.size=[t].length) (h:∀(i:Nat) (u:TV) (v:Value),[t][i]?=some u->vs[i]?=some v->Rep w [] u v):∃v,vs=#[v]/\Rep w [] t v:=by
 match vs,hs with
 | ⟨[v]⟩,_=>exact⟨v,rfl,h 0 t v rfl rfl⟩
theorem ze {P:Program} {G:World->Prop} {f:FuncId} {k:IntKind} {n:Int} {s:ByteArray} (h:∀w,G w->Calls P f #[.int k n] w fun e w'=>e=.returned (.string s)/\Below w.heap.size w w'):Ct P G f [.int k n] (fun _=>.str s):=fun w vs _ hG hs hr=>by
 obtain⟨v,rfl,h1⟩:=ae7 hs hr
 rw[h1.int_inv]
 refine(h w hG).mono ?_
 rintro e w' ⟨rfl,hb⟩
 exact⟨_,rfl,hb,fun _ _=>.str _⟩
theorem iX {P:Program} {G:World->Prop} {f:FuncId} {s:ByteArray} {b:Bool} (h:∀w,G w->Calls P f #[.string s] w fun e w'=>e=.returned (.bool b)/\Below w.heap.size w w'):Ct P G f [.str s] (fun _=>.bool b):=fun w vs _ hG hs hr=>by
 obtain⟨v,rfl,h1⟩:=ae7 hs hr
 rw[h1.str_inv]
 refine(h w hG).mono ?_
 rintro e w' ⟨rfl,hb⟩
 exact⟨_,rfl,hb,fun _ _=>.bool _⟩
theorem aK {α:Type} {f:α->List TV} {l:List α} {k:Nat} (h:k<l.length):(l.map f)[k]?=some (f (l[k]'h)):=by rw[Zj,Za h];rfl
theorem mh {x:Nat×Nat×aV} {l:aG}:x∈x::l:=Zi
theorem mt {x y:Nat×Nat×aV} {l:aG} (h:x∈l):x∈y::l:=Zd _ h
theorem f5 {rows:List (List TV)} {r:List TV} {k:Nat} (h:k<rows.length):(rows.set k r)[k]?=some r:=ZN h
theorem qk:(0:Int)=((0:Nat):Int):=rfl
theorem qj:(1:Int)=((1:Nat):Int):=rfl
theorem qi:(2:Int)=((2:Nat):Int):=rfl
theorem qD:(3:Int)=((3:Nat):Int):=rfl
theorem aeA {a b:Nat} (h:a+b<=9223372036854775807):IntKind.i64.wrap ((a:Int)+(b:Int))=((a+b:Nat):Int):=by rw[IntWalk.i64_in _ (by omega)];simp
theorem aeD {a:Nat} (h:a+1<=9223372036854775807):IntKind.i64.wrap ((a:Int)+1)=((a+1:Nat):Int):=by rw[IntWalk.i64_in _ (by omega)];simp
theorem ael {a:Nat} (h:a+2<=9223372036854775807):IntKind.i64.wrap ((a:Int)+2)=((a+2:Nat):Int):=by rw[IntWalk.i64_in _ (by omega)];simp
theorem uA {a:Nat} (h:1<=a/\a<=9223372036854775807):IntKind.i64.wrap ((a:Int) - 1)=((a - 1:Nat):Int):=by rw[IntWalk.i64_in _ (by omega)];omega
theorem aez (n:Int) (h:0<=n/\n<=255):IntKind.u8.wrap n=n:=by
 simp[IntKind.wrap,IntKind.bits,IntKind.signed]
 omega
section
variable {P:Program} {w0:World} {N:Nat} {Q:Exit->Act->World->Prop} {env:Env} {objs:aG} {ops:Array Oper} {rest:List Oper} {d T0:Nat} {pos:String} {af:Array Edge} {g:Option (Nat×Bool)}
theorem xM {x:Operand} {tv:TV} (hN:Nat.blt d N=true) (hx:ev env x=some tv) (h:AL P w0 N ops Q rest ((d,tv)::env) objs):AO P w0 N ops Q ⟨some d,.move x,T0,pos,af,g⟩ rest env objs:=wu rfl hN (aev rfl hx) h
theorem nP {x:Operand} {tv:TV} (hN:Nat.blt d N=true) (hx:ev env x=some tv) (h:AL P w0 N ops Q rest ((d,tv)::env) objs):AO P w0 N ops Q ⟨some d,.assign x,T0,pos,af,g⟩ rest env objs:=wu rfl hN (yP rfl hx) h
theorem ahz {T:TypeId} {x:Operand} {tv:TV} {l:List TV} (hN:Nat.blt d N=true) (hx:ev env x=some tv) (hl:eM tv=some l) (h:AL P w0 N ops Q rest ((d,.cp w0.heap.size l)::env) objs):AO P w0 N ops Q ⟨some d,.box T x,T0,pos,af,g⟩ rest env objs:=wu rfl hN (ahF rfl hx hl) h
theorem ah9 {T:TypeId} {n m:Nat} {ps:List (Nat×Operand)} {rows:List (List TV)} (hN:Nat.blt d N=true) (hev:evL env ps 0=some rows) (hT:P.underlying T=some (.slice (P.elem T))) (hI:(dt P (P.elem T)).isSome=true) (hs:esT T=some m) (hm:P.cellsOf (P.elem T)=m) (hm0:Nat.blt 0 m=true) (hn:rows.length=n) (hbig:Nat.ble (n * m) 16777216=true) (hall:(rows.all fun r=>Nat.beq r.length m)=true) (h:AL P w0 N ops Q rest ((d,.sl w0.heap.size m rows)::env) objs):AO P w0 N ops Q ⟨some d,.buildSlice T n ps.toArray,T0,pos,af,g⟩ rest env objs:=wu rfl hN (aeY rfl hT hI hm hm0 hev hn hbig hall) h
theorem mZ {G:World->Prop} {f:Nat} {xs:List Operand} {ts:Array TypeId} {args:List TV} {r:Nat->TV} (hN:Nat.blt d N=true) (hc:gL P f=true) (hargs:bU env objs xs args) (hG:G w0) (hst:ay G) (hct:Ct P G f args r) (h:AL P w0 N ops Q rest ((d,r w0.heap.size)::env) objs):AO P w0 N ops Q ⟨some d,.call { callee:=.value (.func f),args:=xs.toArray,argTypes:=ts },T0,pos,af,g⟩ rest env objs:=wu rfl hN (ul rfl hc hargs hct hG hst) h
end
def dP (ops:Array Oper):Bool :=
 let B:=Region.before ops
 (List.range ops.size).all fun j=>match ops[j]? with
   | none=>false
   | some oj=>(oj.after.all fun e=>!Region.binds .any e || Nat.blt e.on j) &&
     (List.range j).all fun i=>match ops[i]? with
       | none=>false
       | some oi =>
         (!(B.getD j 0).testBit i || oj.after.any fun e=>Region.binds .any e && (Nat.beq e.on i || (Nat.blt i e.on && (B.getD e.on 0).testBit i))) &&
         (oi.apart ops oj || (B.getD j 0).testBit i)
section
variable {P:Program} {w0:World} {N:Nat} {Q:Exit->Act->World->Prop} {objs:aG} {ops:Array Oper}
theorem eO (h:dP ops=true) {j:Nat} {oj:Oper} (hj:ops[j]?=some oj):(∀e∈oj.after,Region.binds .any e=true->e.on<j) /\
   ∀i oi,i<j->ops[i]?=some oi->(((Region.before ops).getD j 0).testBit i=true->∃e∈oj.after,Region.binds .any e=true/\(e.on=i\/(i<e.on/\((Region.before ops).getD e.on 0).testBit i=true)))/\(oi.apart ops oj=true\/((Region.before ops).getD j 0).testBit i=true):=by
 have hlt:j<ops.size:=(Array.getElem?_eq_some_iff.1 hj).1
 unfold dP at h
 have h1:=List.all_eq_true.1 h j (List.mem_range.2 hlt)
 simp only[hj,Zq] at h1
 obtain⟨h2,h3⟩:=h1
 refine⟨fun e he hb=>?_,fun i oi hij hi=>?_⟩
 ·have:=Array.all_eq_true_iff_forall_mem.1 h2 e he
  rw[hb] at this
  simpa [Yo] using this
 ·have h4:=List.all_eq_true.1 h3 i (List.mem_range.2 hij)
  simp only[hi,Zq,Xb,Z9] at h4
  refine⟨fun hb=>?_,h4.2⟩
  rcases h4.1 with h5|h5
  ·rw[h5] at hb;cases hb
  ·obtain⟨k,hk,h6⟩:=Array.any_eq_true.1 h5
   simp only[Zq,Xb] at h6
   exact⟨_,Array.getElem_mem hk,h6.1,h6.2.imp Yi fun h=>⟨by simpa [Yo] using h.1,h.2⟩⟩
def fe (ops:Array Oper) (X:Nat->Prop):Prop:=∀j oj,ops[j]?=some oj->X j->∀e∈oj.after,Region.binds .any e=true->X e.on
theorem fY (h:dP ops=true) {X:Nat->Prop} (hX:fe ops X):∀j,j<ops.size->X j->∀i,i<j->((Region.before ops).getD j 0).testBit i=true->X i:=by
 intro j
 induction j using Nat.strongRecOn with
 | _ j ih =>
   intro hj hx i hij hb
   have hoj:ops[j]?=some ops[j]:=by simp[hj]
   have hoi:ops[i]?=some ops[i]:=by simp[show i<ops.size by omega]
   obtain⟨h1,h2⟩:=eO h hoj
   obtain⟨e,he,hb2,h3⟩:=(h2 i _ hij hoi).1 hb
   have hxe:=hX j _ hoj hx e he hb2
   have hej:=h1 e he hb2
   rcases h3 with rfl|⟨h4,h3⟩
   ·exact hxe
   ·exact ih e.on hej (by omega) hxe i h4 h3
def ahl (ops:Array Oper) (env:Env) (o:Oper):Prop:=o.guard=none\/∃j b d,o.guard=some (j,b)/\(ops[j]?).bind (·.dst)=some d/\lk d env=some (.bool b)
def agi (ops:Array Oper) (env:Env) (o:Oper):Prop:=(∃j b d,o.guard=some (j,!b)/\(ops[j]?).bind (·.dst)=some d/\lk d env=some (.bool b))\/∃j c d,o.guard=some (j,c)/\(ops[j]?).bind (·.dst)=some d/\lk d env=some (.tup [])
inductive DR (P:Program) (w0:World) (N:Nat) (ops:Array Oper) (objs:aG) (K:Env->Prop):List Oper->Env->Prop
 | nil (env:Env) (h:K env):DR P w0 N ops objs K [] env
 | run (o:Oper) (rest:List Oper) (env:Env) (d:Nat) (tv:TV) (hd:o.dst=some d) (hN:Nat.blt d N=true) (hg:ahl ops env o) (hy:ba P w0 env objs o tv) (h:DR P w0 N ops objs K rest ((d,tv)::env)):DR P w0 N ops objs K (o::rest) env
 | skip (o:Oper) (rest:List Oper) (env:Env) (d:Nat) (hd:o.dst=some d) (hN:Nat.blt d N=true) (hg:agi ops env o) (h:DR P w0 N ops objs K rest ((d,.tup [])::env)):DR P w0 N ops objs K (o::rest) env
 | know (rest:List Oper) (env:Env) (t:Nat) (v v':TV) (hv:lk t env=some v) (he:v=v') (h:DR P w0 N ops objs K rest ((t,v')::env)):DR P w0 N ops objs K rest env
def mQ (P:Program) (w0:World) (N:Nat) (ops:Array Oper) (objs:aG) (o:Oper) (env env':Env):Prop :=
 ∃d tv,o.dst=some d/\d<N/\(∀t,lk t env'=lk t ((d,tv)::env))/\((ahl ops env o/\ba P w0 env objs o tv)\/(agi ops env o/\tv=.tup []))
theorem adi {K:Env->Prop} {l:List Oper} {env:Env} (h:DR P w0 N ops objs K l env):∃σ:Nat->Env,(∀t,lk t (σ 0)=lk t env)/\K (σ l.length)/\∀k o,l[k]?=some o->mQ P w0 N ops objs o (σ k) (σ (k+1)):=by
 induction h with
 | nil env h=>exact⟨fun _=>env,fun _=>rfl,h,by simp⟩
 | run o rest env d tv hd hN hg hy h ih =>
   obtain⟨σ,h1,h2,h3⟩:=ih
   refine⟨fun k=>match k with|0=>env|k+1=>σ k,fun _=>rfl,h2,fun k o' hk=>?_⟩
   cases k with
   | zero=>simp at hk;subst hk;exact⟨d,tv,hd,Yo ▸ hN,h1,.inl ⟨hg,hy⟩⟩
   | succ k=>exact h3 k o' (by simpa using hk)
 | skip o rest env d hd hN hg h ih =>
   obtain⟨σ,h1,h2,h3⟩:=ih
   refine⟨fun k=>match k with|0=>env|k+1=>σ k,fun _=>rfl,h2,fun k o' hk=>?_⟩
   cases k with
   | zero=>simp at hk;subst hk;exact⟨d,.tup [],hd,Yo ▸ hN,h1,.inr ⟨hg,rfl⟩⟩
   | succ k=>exact h3 k o' (by simpa using hk)
 | know rest env t v v' hv he h ih =>
   obtain⟨σ,h1,h2,h3⟩:=ih
   refine⟨σ,fun x=>?_,h2,h3⟩
   rw[h1,cK]
   split
   ·rename_i e;subst e;rw[hv,he]
   ·rfl
def gz (ops:Array Oper) (i t:Nat):Prop:=(ops[i]?).bind (·.dst)=some t
theorem rI (hok:dP ops=true) {i j:Nat} {oi oj:Oper} (hi:ops[i]?=some oi) (hj:ops[j]?=some oj) (hij:i<j) (hna:¬ oi.apart ops oj=true) {X:Nat->Prop} (hX:fe ops X) (hx:X j):X i:=by
 have h:=((eO hok hj).2 i oi hij hi).2
 exact fY hok hX j (Array.getElem?_eq_some_iff.1 hj).1 hx i hij (h.resolve_left hna)
theorem pZ {x y:Oper} {t:Nat} (hx:x.dst=some t) (hy:t∈y.looksAt ops):¬ x.apart ops y=true:=fun h=>by
 unfold Oper.apart at h
 rw[hx] at h
 simp only[Zq,Z9] at h
 rw[List.contains_iff_mem.2 hy] at h
 simp at h
theorem o9 {x y:Oper} {t:Nat} (hx:t∈x.looksAt ops) (hy:y.dst=some t):¬ x.apart ops y=true:=fun h=>by
 unfold Oper.apart at h
 rw[hy] at h
 simp only[Zq,Z9] at h
 rw[List.contains_iff_mem.2 hx] at h
 simp at h
theorem qA {x y:Oper} {t:Nat} (hx:x.dst=some t) (hy:y.dst=some t):¬ x.apart ops y=true:=fun h=>by
 unfold Oper.apart at h
 rw[hx,hy] at h
 simp at h
def dE (listed:Array Bool):Nat:=(listed.toList.filter (! ·)).length
end
def aio (l:List UInt8):List (List TV):=l.map fun b=>[TV.int .u8 (b.toNat:Int)]
def aS (l:List Int):List (List TV):=l.map fun n=>[TV.int .i64 n]
def ca (l:List ByteArray):List (List TV):=l.map fun s=>[TV.str s]
theorem aI (l:List UInt8):(aio l).length=l.length:=by simp[aio]
theorem aj (l:List Int):(aS l).length=l.length:=by simp[aS]
theorem aH (l:List ByteArray):(ca l).length=l.length:=by simp[ca]
theorem t6 (l:List Int) (n:Int):aS l++[[TV.int .i64 n]]=aS (l++[n]):=by simp[aS]
theorem sE (l:List Int) (k:Nat) (n:Int):(aS l).set k [TV.int .i64 n]=aS (l.set k n):=by simp[aS,Yz]
theorem lE {l:List Int} {k:Nat} (h:k<l.length):(aS l)[k]?=some [TV.int .i64 (l[k]'h)]:=aK h
theorem nM {l:List ByteArray} {k:Nat} (h:k<l.length):(ca l)[k]?=some [TV.str (l[k]'h)]:=aK h
theorem nh (l:List Int):(aS l).flatten=l.map (TV.int .i64):=by
 induction l with
 | nil=>rfl
 | cons x l ih=>simp only[aS,ZU,Yk] at *;rw[ih];rfl
theorem uE (l:List ByteArray):(ca l).flatten=l.map TV.str:=by
 induction l with
 | nil=>rfl
 | cons x l ih=>simp only[ca,ZU,Yk] at *;rw[ih];rfl
theorem lg (l:List Int):∀t∈(aS l).flatten,t.flat=true:=by
 rw[nh];intro t ht;obtain⟨n,_,rfl⟩:=List.mem_map.1 ht;rfl
theorem tR (l:List ByteArray):∀t∈(ca l).flatten,t.flat=true:=by
 rw[uE];intro t ht;obtain⟨n,_,rfl⟩:=List.mem_map.1 ht;rfl
section
variable {P:Program} {w0:World} {N:Nat} {Q:Exit->Act->World->Prop} {env:Env} {objs:aG} {o:Oper}
end
theorem Tryz.infoInt:(Tryz.prog.info? 3).map (fun i=>(i.zero,i.size,i.bytes))=some (some (.int .i64 0),1,8):=by kernel_rfl
def ae3 (zs:List Int):List PT:=zs.map (PT.int .i64)
def kW (k n:Nat):List Int:=(List.range n).map fun i=>((k+i:Nat):Int)
end Go.Proofs.YtifcomgnmokimaaGreatDoor
