/- Part 6 of the proof: the texts Rep. -/
import Derived.Test.YtifcomgnmokimaaGreatDoorRt1
import Derived.Test.YtifcomgnmokimaaGreatDoorRt2
import Derived.Laws.CopyOwn
import Derived.IntWalk
import Derived.Deep.RegionHeld3
set_option linter.all false
set_option maxHeartbeats 1000000
set_option maxRecDepth 100000
namespace Go.Proofs.YtifcomgnmokimaaGreatDoor
open Go Go.RowKit
theorem Tryz.intSz:(Tryz.prog.info? 3).map (·.size)=some 1:=by kernel_rfl
def rR (n k:Nat):List Value:=List.replicate k (.int .i64 (-1))++List.replicate (n - k) (.int .i64 0)
theorem xI {n k:Nat} (h:k<=n):(rR n k).length=n:=by simp[rR];omega
theorem wF {n k m:Nat} (h:k+m<=n):(rR n k).take k++(List.replicate m (.int .i64 (-1))++(rR n k).drop (k+m))=rR n (k+m):=by
 have h1:(rR n k).take k=List.replicate k (.int .i64 (-1)):=by
   unfold rR;rw[List.take_append_of_le_length (by simp)];simp
 have h2:(rR n k).drop (k+m)=List.replicate (n - (k+m)) (.int .i64 0):=by
   unfold rR;rw[List.drop_append];simp;omega
 rw[h1,h2,<- Zk,List.replicate_append_replicate];rfl
theorem adS {n k j:Nat} (h:j<k) (_hk:k<=n):(rR n k)[j]?=some (.int .i64 (-1)):=by
 unfold rR
 rw[Zs (by simpa using h)]
 simp[h]
theorem aaA (B q c n:Nat) (w:World) (hc:w.cell? ⟨B,q,none⟩=some (.int .i64 (-1))) (hn0:1<=n) (hn:n<=1048576) :
   Calls Tryz.prog 184 #[.slice (some ⟨B,q,none⟩) 1 c,.int .i64 n] w fun e w'=>e=.returned (.slice (some ⟨w.heap.size,0,none⟩) n n)/\Below w.heap.size w w'/\Blk w' w.heap.size 3 (List.replicate n (Value.int .i64 (-1))).toArray:=by
 have hmk:=fun w=>ry (P:=Tryz.prog) 34 3 (.int .i64 0) 1 8 Tryz.underlying34 Tryz.infoInt .i64 .i64 n (by omega) (by omega) w
 have hd1:((1 * n / 18446744073709551616:Nat):Int)=0:=by omega
 have hd2:((1 * n % 18446744073709551616:Nat):Int)=(n:Int):=by omega
 have Hd1:=Lib.hid hd1
 have Hd2:=Lib.hid hd2
 have i1:¬ (n:Int)<0:=by omega
 have i2:¬ (9223372036854775807:Int)<(n:Int):=by omega
 clear hd1 hd2
 go_enter Tryz.func184,Tryz.ntmps184
 clear hmk
 go_wp2_with fail
 refine(Tryz.bits_Mul 1 n (by omega) (by omega) _).mono ?_
 rintro e w' ⟨he,hw⟩
 rw[Hd1.out,Hd2.out] at he
 subst he
 subst hw
 have hmk:=fun w=>ry (P:=Tryz.prog) 34 3 (.int .i64 0) 1 8 Tryz.underlying34 Tryz.infoInt .i64 .i64 n (by omega) (by omega) w
 have hcell:(w'.alloc (.cells (madeCells #[Value.int .i64 0] n) 3)).cell? ⟨B,q,none⟩=some (.int .i64 (-1)):=(Below.cell (B:=w'.heap.size) ((Below.refl _ _).alloc (Zg _) _) (p:=⟨B,q,none⟩) (World.block_lt_of_cell? w' _ hc)).trans hc
 have hmin:1=Nat.min 1 n:=(Nat.min_eq_left hn0).symm
 have Hmin:=Lib.hid hmin
 have Hs1:=Lib.hid (show ∀(j:Nat) v,[Value.int .i64 (-1)][j]?=some v->(w'.alloc (.cells (madeCells #[Value.int .i64 0] n) 3)).cell? ((⟨B,q,none⟩:Addr).add j)=some v from fun j v hj=>by
   have hj0:j=0:=by have:=(List.getElem?_eq_some_iff.1 hj).1;simpa using this
   subst hj0
   simp at hj
   subst hj
   exact hcell)
 clear hmin
 go_wp2_with ((refine wpList_copy_own rfl (.tmp 31) (.tmp 32) 34 34 rfl 3 Tryz.underlying34 Tryz.intSz w'.heap.size 0 n n ⟨B,q,none⟩ 1 c rfl rfl (madeCells #[Value.int .i64 0] n) 3 (heap_alloc_new w' _) [.int .i64 (-1)] Hmin.out Hs1.out (by simp[madeCells];omega) (by simp[Value.oneCell']) ?_))
 clear hmk hcell hc
 go_loopg [8] (n - 1) (fun gk v wr=>∃k:Nat,1<=k/\k<=n/\gk=n - k/\v=.int .i64 k/\Below w'.heap.size w' wr/\Blk wr w'.heap.size 3 (rR n k).toArray)
 case atStart =>
   refine⟨1,Zg _,hn0,rfl,rfl,below_setRow ((Below.refl _ _).alloc (Zg _) _) (Zg _) _, ?_⟩
   have h:=setRow_heap (w'.alloc (.cells (madeCells #[Value.int .i64 0] n) 3)) w'.heap.size (madeCells #[Value.int .i64 0] n) (rR n 1).toArray 3 (0,0) (heap_alloc_new w' _)
   have e:(rR n 1)=Value.int .i64 (-1)::(madeCells #[Value.int .i64 0] n).toList.tail:=by
     rw[toList_madeCells_one,List.tail_replicate];simp[rR]
   rw[e] at h |-
   exact h
 case round =>
   obtain⟨k,hk1,hk,rfl,rfl,hb,hB⟩:=hrel
   by_cases hlt:k<n
   ·have hne:¬ n=k:=by omega
    have i3:(0:Int)<=(k:Int):=by omega
    have i4:(k:Int)<=(n:Int):=by omega
    have hmm:Nat.min k (n - k)<=n - k/\Nat.min k (n - k)<=k:=⟨Nat.min_le_right _ _,Nat.min_le_left _ _⟩
    generalize hmd:Nat.min k (n - k)=m at hmm
    have Hmd:=Lib.hid hmd
    have hm1:1<=m:=by rw[<- hmd];exact Nat.le_min.2 ⟨hk1,by omega⟩
    clear hmd
    have Hs2:=Lib.hid (show ∀(j:Nat) v,(List.replicate m (Value.int .i64 (-1)))[j]?=some v->wr.cell? ((⟨w'.heap.size,0,none⟩:Addr).add j)=some v from fun j v hj=>by
      have hjm:j<m:=by have:=(List.getElem?_eq_some_iff.1 hj).1;simpa using this
      simp[hjm] at hj
      subst hj
      rw[Addr.add_lit,ZY,hB.cell j]
      simpa using adS (n:=n) (k:=k) (j:=j) (by omega) hk)
    have Hspl:=Lib.hid (wF (n:=n) (k:=k) (m:=m) (by omega))
    have HL:=Lib.hid (xI hk)
    have HB:=Lib.hid hB
    clear hB
    go_wp2
    have HB2:=Lib.hid (show wr.drew.heap[w'.heap.size]?=some (.cells (rR n k).toArray 3 (0,0)) from HB.out)
    go_region_held3 (fun W=>Below w'.heap.size w' W) (first|exact hb|exact hb.drew|exact h4) (first|(refine step_copy_splice rfl (.tmp 41) (.tmp 44) 34 34 rfl 3 Tryz.underlying34 Tryz.intSz _ _ (n - k) (n - k) k n rfl rfl w'.heap.size k (rR n k) 3 HB2.out (List.replicate m (.int .i64 (-1))) (by rw[Y7,Hmd.out]) (fun _=>⟨by simp,_,rfl,Hs2.out⟩) (by rw[Y7,HL.out];omega) (fun v hv=>by rw[Yx hv];rfl) w'.heap.size w' (by exact hb.drew) (Zg _) ?_;intro w3 h3 h4))
    all_goals
      have h5:Blk w3 w'.heap.size 3 (rR n (k+m)).toArray:=by
        have:=h3.out
        unfold splice at this
        rw[Y7,Hspl.out] at this
        exact this
      clear h3
      go_wp2
      go_roundg (n - (k+m))
      case measure=>omega
      case rel=>exact⟨k+m,by omega,by omega,rfl,by simp;exact IntWalk.i64_in _ (by omega),h4,h5⟩
   ·go_wp2
    go_ret
    obtain rfl:k=n:=by omega
    refine⟨rfl,hb, ?_⟩
    unfold rR at hB
    simpa using hB
end Go.Proofs.YtifcomgnmokimaaGreatDoor
