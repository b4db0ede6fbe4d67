/- Part 9 of the proof: the texts MkT. -/
import Derived.Test.YtofnnnpahglfdaaGreatDoorCo4
import Derived.Test.YtofnnnpahglfdaaGreatDoorCo5
import Derived.Deep.RegionHeld3
import Derived.Test.YtofnnnpahglfdaaGreatDoorCo3
set_option linter.all false
set_option maxHeartbeats 400000
set_option maxRecDepth 8000
namespace Go.Proofs.YtofnnnpahglfdaaGreatDoor
open Go Go.RowKit
def dU (n:Int):ByteArray:=⟨(109::Lib.itoa n).toArray⟩
theorem uu (n:Int) (w:World) (h0:0<=n) (h1:n<=9000000000000000000):Calls Tryz.prog 65 #[.int .i64 n] w fun e w'=>e=.returned (.string (dU n))/\Below w.heap.size w w':=by
 by_cases hz:n=0
 ·subst hz
  go_enter Tryz.func65,Tryz.ntmps65
  go_wp2
  go_ret
  exact⟨lW (by decide +kernel),Below.refl _ _⟩
 have Hlen:=Lib.hid (zR (u:=n.natAbs) (by omega))
 have HP:=Lib.hid (ad6 hz)
 have hpos:0<n:=by omega
 have hle:¬ n<=0:=by omega
 go_enter Tryz.func65,Tryz.ntmps65
 go_wp2
 go_loopw [0,3] (fun nv ov wr=>∃(m:Nat) (s:ByteArray),nv=.int .i64 (m:Int)/\ov=.string s/\m<=9000000000000000000/\pre m++s.data.toList=pre n.natAbs/\Below w.heap.size w wr) (fun nv _ _=>(intOf nv).natAbs)
 case atStart=>exact⟨n.natAbs,_,by rw[show ((n.natAbs:Nat):Int)=n by omega],rfl,by omega,by simp,Below.refl _ _⟩
 case round =>
   obtain⟨m,s,rfl,rfl,hm1,hr,hb⟩:=hrel
   have hsz:s.size<=19:=by
     have:=congrArg List.length hr
     rw[Zs,bM] at this
     have:=Hlen.out
     omega
   have Hr:=Lib.hid hr
   clear hr
   by_cases hm:m=0
   ·subst hm
    go_wp2
    go_ret
    refine⟨lW ?_,hb⟩
    have h2:=Hr.out
    rw[show pre 0=[] from rfl,Zz] at h2
    refine nL ?_
    rw[ByteArray.data_append,Xx,h2]
    have h3:=HP.out
    rw[if_neg (by omega)] at h3
    have h4:Lib.itoa n=pre n.natAbs:=congrArg (fun b:ByteArray=>b.data.toList) h3
    show _=109::Lib.itoa n
    rw[h4];rfl
   ·have hd9:m % 10<=9:=by omega
    have hp:=ad7 (u:=m) hm
    generalize hd:m % 10=d at hd9 hp
    have hdi:(m:Int) % 10=(d:Int):=by omega
    have hdq:((m / 10:Nat):Int)=(m:Int) / 10:=by omega
    obtain⟨b,hbd⟩:∃b,UInt8.ofNat (48+d)=b:=⟨_,rfl⟩
    rw[hbd] at hp
    have Hp:=Lib.hid hp
    have hcv:=adw 201 5 wr (48+d) (by omega) (48+(d:Int)) (by omega) Tryz.underlying201 Tryz.underlying5
    rw[hbd] at hcv
    have Hdq:=Lib.hid hdq
    clear hp hd hbd hdq
    have hnext:pre (m / 10)++((⟨#[b]⟩:ByteArray)++s).data.toList=pre n.natAbs:=by
      rw[<- Hr.out,Hp.out,ByteArray.data_append,Xx,Zh]
    have Hn:=Lib.hid hnext
    clear hnext
    have hbel:∀o,Below w.heap.size w (wr.alloc o):=fun o=>hb.trans (((Below.refl _ _).alloc (Zf _) o).mono hb.size)
    have hm0:(0:Int)<(m:Int):=by omega
    clear hb
    go_wp2
    go_roundw
    case rel=>exact⟨m / 10,_,by rw[Hdq.out],rfl,by omega,Hn.out,hbel _⟩
    case measure=>simp[intOf];omega
theorem bZ {G:World->Prop} (n:Int) (h0:0<=n) (h1:n<=9000000000000000000):Ct Tryz.prog G 65 [.int .i64 n] (fun _=>.str (dU n)):=aan fun w _=>uu n w h0 h1
end Go.Proofs.YtofnnnpahglfdaaGreatDoor
