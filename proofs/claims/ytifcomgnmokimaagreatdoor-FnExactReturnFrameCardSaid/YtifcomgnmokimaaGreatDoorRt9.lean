/- Part 9 of the proof: the texts Row, MkT. -/
import Derived.Test.YtifcomgnmokimaaGreatDoorRows
import Derived.Test.YtifcomgnmokimaaGreatDoorRt5
import Derived.Test.YtifcomgnmokimaaGreatDoorRt4
import Derived.Shelf.Vars
import Derived.Lib.LaidU8
import Derived.Lib.LaidTab
import Derived.Lay
import Derived.MakeChecks
import Derived.ProofKit
import Derived.OpenShut
import Derived.ShutString
import Derived.ChangeOld
import Derived.Handed
import Derived.Deep.RegionHeld3
import Derived.Test.YtifcomgnmokimaaGreatDoorRt3
set_option linter.all false
set_option maxHeartbeats 400000
set_option maxRecDepth 8000
namespace Go.Proofs.YtifcomgnmokimaaGreatDoor
open Go Go.RowKit
theorem j8 {H:Type} {enc:TypeId×Value->H} {a:Assume} {C:Checked} {os:Os} {f:FuncId} {fn:Func} {s:ChangeSpec} {conds:List PathCond} {apart fresh handsOn again:Bool} {X:World->Array Value->Prop}
   (hX:∀(w w':World) (args:Array Value),w.heap=w'.heap->X w args->X w' args)
   (own:ownKnob C.prog.godebug=none) (started:os.Started) (noInit:C.prog.inits.idxOf? f=none) (hfn:C.prog.funcs[f]?=some fn)
   (witness:∃(w:World) (tape:Tape) (i:Input),w.os=os/\(w.forCall tape i).Shaped C.prog/\i.vars=[]/\Input.okWide C.prog (w.forCall tape i) .any w.heap.size f i /\
     ((s.pre enc C.prog fn conds apart (w.forCall tape i).memory i.args/\X (w.forCall tape i).memory i.args)/\sizedMet enc C.prog fn (OpenSpec.ofChange s) apart (w.forCall tape i).memory i.args)/\a.holds C.prog (lone (Frame.enter C.prog f i.args .normal) [] (w.forCall tape i)))
   (contract:∀(W:World) (base:Nat) (args:Array Value) (ds gs:List (DataW H)) (before:List MemPlace),
     (∀(j:Nat) t v,fn.params[j]?=some t->args[j]?=some v->Value.okWide C.prog W .any base t v) ->
     DataW.Whole enc C.prog fn.params.toList s.vars apart W args.toList ds gs before ->
     conds.all (PathCond.test C.prog ⟨fn.params.toList,ds,s.plain.varTypes C.prog,gs⟩)=true ->
     (DataW.weightsEach C.prog (fn.params.toList++s.plain.varTypes C.prog) (ds++gs)).all (·<=reachBytes)=true->X W args->W.ShapedOpen C.prog ->
     a.holds C.prog (lone (Frame.enter C.prog f args .normal) [] W) ->
     Calls C.prog f args W fun e W'=>∃v,e=.returned v/\s.post enc C.prog fn apart fresh handsOn again W args v W') :
   ReturnsInHanded a C os f .any (fun w args=>(s.pre enc C.prog fn conds apart w args/\X w args)/\sizedMet enc C.prog fn (OpenSpec.ofChange s) apart w args) (s.post enc C.prog fn apart fresh handsOn again):=by
 refine returnsInHanded_of_calls own started noInit witness ?_
 intro w tape i _ hsh _ hok hpre hholds
 obtain⟨_,_,_,fn',hfn',_,_,_,_,hval⟩:=hok
 have e:fn'=fn:=Option.some.inj (hfn'.symm.trans hfn)
 subst e
 obtain⟨⟨⟨ds,gs,before,hw,hc⟩,hx⟩,hz⟩:=hpre
 have hw':=DataW.Whole.of_heap (w':=w.forCall tape i) (by rfl) hw
 refine(contract (w.forCall tape i) w.heap.size i.args ds gs before hval hw' hc (hz.weights hw) (hX _ _ _ (by rfl) hx) hsh hholds).mono fun e W' ⟨v,he,hp⟩=>?_
 subst he
 exact ChangeSpec.post_blind hp
theorem ae2 {W:World} (h:W.ShapedOpen Tryz.prog):vq W :=
 cell_of_shapedOpen_int (zero:=#[.int .i64 0]) h (of_decide_eq_true (by kernel_rfl)) (by kernel_rfl) (by kernel_rfl) (by kernel_rfl) (by kernel_rfl) Tryz.underlying3
def eh (n:Int):ByteArray:=⟨(109::Lib.itoa n).toArray⟩
theorem uc (n:Int) (w:World) (h0:0<=n) (h1:n<=9000000000000000000):Calls Tryz.prog 146 #[.int .i64 n] w fun e w'=>e=.returned (.string (eh n))/\Below w.heap.size w w':=by
 by_cases hz:n=0
 ·subst hz
  go_enter Tryz.func146,Tryz.ntmps146
  go_wp2
  go_ret
  exact⟨my (by decide +kernel),Below.refl _ _⟩
 have Hlen:=Lib.hid (zl (u:=n.natAbs) (by omega))
 have HP:=Lib.hid (ac2 hz)
 have hpos:0<n:=by omega
 have hle:¬ n<=0:=by omega
 go_enter Tryz.func146,Tryz.ntmps146
 go_wp2
 go_loopw [0,3] (fun nv ov wr=>∃(m:Nat) (s:ByteArray),nv=.int .i64 (m:Int)/\ov=.string s/\m<=9000000000000000000/\pre m++s.data.toList=pre n.natAbs/\Below w.heap.size w wr) (fun nv _ _=>(intOf nv).natAbs)
 case atStart=>exact⟨n.natAbs,_,by rw[show ((n.natAbs:Nat):Int)=n by omega],rfl,by omega,by simp,Below.refl _ _⟩
 case round =>
   obtain⟨m,s,rfl,rfl,hm1,hr,hb⟩:=hrel
   have hsz:s.size<=19:=by
     have:=congrArg List.length hr
     rw[Zh,bQ] at this
     have:=Hlen.out
     omega
   have Hr:=Lib.hid hr
   clear hr
   by_cases hm:m=0
   ·subst hm
    go_wp2
    go_ret
    refine⟨my ?_,hb⟩
    have h2:=Hr.out
    rw[show pre 0=[] from rfl,Zx] at h2
    refine n6 ?_
    rw[ByteArray.data_append,Xt,h2]
    have h3:=HP.out
    rw[if_neg (by omega)] at h3
    have h4:Lib.itoa n=pre n.natAbs:=congrArg (fun b:ByteArray=>b.data.toList) h3
    show _=109::Lib.itoa n
    rw[h4];rfl
   ·have hd9:m % 10<=9:=by omega
    have hp:=adG (u:=m) hm
    generalize hd:m % 10=d at hd9 hp
    have hdi:(m:Int) % 10=(d:Int):=by omega
    have hdq:((m / 10:Nat):Int)=(m:Int) / 10:=by omega
    obtain⟨b,hbd⟩:∃b,UInt8.ofNat (48+d)=b:=⟨_,rfl⟩
    rw[hbd] at hp
    have Hp:=Lib.hid hp
    have hcv:=ad2 282 5 wr (48+d) (by omega) (48+(d:Int)) (by omega) Tryz.underlying282 Tryz.underlying5
    rw[hbd] at hcv
    have Hdq:=Lib.hid hdq
    clear hp hd hbd hdq
    have hnext:pre (m / 10)++((⟨#[b]⟩:ByteArray)++s).data.toList=pre n.natAbs:=by
      rw[<- Hr.out,Hp.out,ByteArray.data_append,Xt,Zk]
    have Hn:=Lib.hid hnext
    clear hnext
    have hbel:∀o,Below w.heap.size w (wr.alloc o):=fun o=>hb.trans (((Below.refl _ _).alloc (Zg _) o).mono hb.size)
    have hm0:(0:Int)<(m:Int):=by omega
    clear hb
    go_wp2
    go_roundw
    case rel=>exact⟨m / 10,_,by rw[Hdq.out],rfl,by omega,Hn.out,hbel _⟩
    case measure=>simp[intOf];omega
theorem ci {G:World->Prop} (n:Int) (h0:0<=n) (h1:n<=9000000000000000000):Ct Tryz.prog G 146 [.int .i64 n] (fun _=>.str (eh n)):=ze fun w _=>uc n w h0 h1
end Go.Proofs.YtifcomgnmokimaaGreatDoor
