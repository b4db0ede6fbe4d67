/- Part 5 of the proof: the texts Num, Rep. -/
import Derived.Test.YtofnnnpahglfdaaGreatDoorCo1
import Derived.Test.YtofnnnpahglfdaaGreatDoorCo2
import Derived.Lib.AppendIntMem
import Derived.Laws.CopyOwn
import Derived.IntWalk
import Derived.Deep.RegionHeld3
set_option linter.all false
set_option maxHeartbeats 1000000
set_option maxRecDepth 100000
namespace Go.Proofs.YtofnnnpahglfdaaGreatDoor
open Go Go.RowKit
def ahj (w:World):Prop:=Lib.TabIs Tryz.prog w "internal/strconv.uint64pow10" .u64 Lib.pow10Tab
theorem ahj.below {w w':World} (h:ahj w) (hb:Below w.heap.size w w'):ahj w':=Lib.tabBelow_of_tabIs h w' hb
def ahK (n:Int):ByteArray:=⟨(Lib.itoa n).toArray⟩
theorem rg:∀(k u:Nat),u<10 ^ (k+1)->Lib.nDigits u<=k+1
 | 0,u,h=>by rw[Lib.nDigits_small (by simpa using h)];omega
 | k+1,u,h=>by
   by_cases h1:u<10
   ·rw[Lib.nDigits_small h1];omega
   ·rw[Lib.nDigits_big h1]
    have:=rg k (u / 10) (by rw[Nat.pow_succ] at h;omega)
    omega
def pre (u:Nat):List UInt8:=if u=0 then [] else Lib.decDigits u
theorem ad7 {u:Nat} (h:u≠0):pre u=pre (u / 10)++[UInt8.ofNat (48+u % 10)]:=by
 unfold pre
 rw[if_neg h,Lib.decDigits]
 by_cases h1:u<10
 ·rw[dif_pos h1,if_pos (by omega),Nat.mod_eq_of_lt h1];rfl
 ·rw[dif_neg h1,if_neg (by omega)]
theorem zR {u:Nat} (h:u<10000000000000000000):(pre u).length<=19:=by
 unfold pre
 split
 ·simp
 ·rw[Lib.decDigits_length];exact rg 18 u (by simpa using h)
theorem ad6 {n:Int} (hz:n≠0):ahK n=if n<0 then ⟨(45::pre n.natAbs).toArray⟩ else ⟨(pre n.natAbs).toArray⟩:=by
 have h1:pre n.natAbs=Lib.decDigits n.natAbs:=by unfold pre;rw[if_neg (by omega)]
 rw[h1]
 unfold ahK Lib.itoa
 by_cases h:n<0
 ·rw[if_pos h,if_pos h]
 ·rw[if_neg h,if_neg h,show n.toNat=n.natAbs by omega]
theorem adw (src:TypeId) (e:TypeId) (w:World) (d:Nat) (hd:d<256) (v:Int) (hv:v=d) (hs:Tryz.prog.underlying src=some (.slice e)) (he:Tryz.prog.underlying e=some (.int .u8)) :
   (convert src 9 (.slice (some ⟨w.heap.size,0,none⟩) 1 1)).run Tryz.prog (w.alloc (.cells #[.int .u8 v] e))=.ok (.string ⟨#[UInt8.ofNat d]⟩) (w.alloc (.cells #[.int .u8 v] e)):=by
 subst hv
 refine run_convert_bytes_back (P:=Tryz.prog) _ src 9 e ⟨w.heap.size,0,none⟩ 1 [UInt8.ofNat d] hs he Tryz.underlying9 fun j hj=>?_
 have hj0:j=0:=by simp at hj;omega
 subst hj0
 have h:=Blk.cell (Blk.new w e #[.int .u8 (d:Int)]) 0
 rw[show (⟨w.heap.size,0,none⟩:Addr).add 0=⟨w.heap.size,0,none⟩ from rfl,h]
 show some (Value.int .u8 (d:Int))=some (.int .u8 ((UInt8.ofNat d).toNat:Int))
 rw[UInt8.toNat_ofNat',Nat.mod_eq_of_lt hd]
theorem Tryz.intSz:(Tryz.prog.info? 3).map (·.size)=some 1:=by kernel_rfl
def sT (n k:Nat):List Value:=List.replicate k (.int .i64 (-1))++List.replicate (n - k) (.int .i64 0)
theorem wY {n k:Nat} (h:k<=n):(sT n k).length=n:=by simp[sT];omega
theorem w8 {n k m:Nat} (h:k+m<=n):(sT n k).take k++(List.replicate m (.int .i64 (-1))++(sT n k).drop (k+m))=sT n (k+m):=by
 have h1:(sT n k).take k=List.replicate k (.int .i64 (-1)):=by
   unfold sT;rw[List.take_append_of_le_length (by simp)];simp
 have h2:(sT n k).drop (k+m)=List.replicate (n - (k+m)) (.int .i64 0):=by
   unfold sT;rw[List.drop_append];simp;omega
 rw[h1,h2,<- Zh,List.replicate_append_replicate];rfl
theorem adr {n k j:Nat} (h:j<k) (_hk:k<=n):(sT n k)[j]?=some (.int .i64 (-1)):=by
 unfold sT
 rw[Zv (by simpa using h)]
 simp[h]
theorem aaa (B q c n:Nat) (w:World) (hc:w.cell? ⟨B,q,none⟩=some (.int .i64 (-1))) (hn0:1<=n) (hn:n<=1048576) :
   Calls Tryz.prog 199 #[.slice (some ⟨B,q,none⟩) 1 c,.int .i64 n] w fun e w'=>e=.returned (.slice (some ⟨w.heap.size,0,none⟩) n n)/\Below w.heap.size w w'/\Blk w' w.heap.size 3 (List.replicate n (Value.int .i64 (-1))).toArray:=by
 have hmk:=fun w=>ru (P:=Tryz.prog) 34 3 (.int .i64 0) 1 8 Tryz.underlying34 Tryz.infoInt .i64 .i64 n (by omega) (by omega) w
 have hd1:((1 * n / 18446744073709551616:Nat):Int)=0:=by omega
 have hd2:((1 * n % 18446744073709551616:Nat):Int)=(n:Int):=by omega
 have Hd1:=Lib.hid hd1
 have Hd2:=Lib.hid hd2
 have i1:¬ (n:Int)<0:=by omega
 have i2:¬ (9223372036854775807:Int)<(n:Int):=by omega
 clear hd1 hd2
 go_enter Tryz.func199,Tryz.ntmps199
 clear hmk
 go_wp2_with fail
 refine(Tryz.bits_Mul 1 n (by omega) (by omega) _).mono ?_
 rintro e w' ⟨he,hw⟩
 rw[Hd1.out,Hd2.out] at he
 subst he
 subst hw
 have hmk:=fun w=>ru (P:=Tryz.prog) 34 3 (.int .i64 0) 1 8 Tryz.underlying34 Tryz.infoInt .i64 .i64 n (by omega) (by omega) w
 have hcell:(w'.alloc (.cells (madeCells #[Value.int .i64 0] n) 3)).cell? ⟨B,q,none⟩=some (.int .i64 (-1)):=(Below.cell (B:=w'.heap.size) ((Below.refl _ _).alloc (Zf _) _) (p:=⟨B,q,none⟩) (World.block_lt_of_cell? w' _ hc)).trans hc
 have hmin:1=Nat.min 1 n:=(Xh hn0).symm
 have Hmin:=Lib.hid hmin
 have Hs1:=Lib.hid (show ∀(j:Nat) v,[Value.int .i64 (-1)][j]?=some v->(w'.alloc (.cells (madeCells #[Value.int .i64 0] n) 3)).cell? ((⟨B,q,none⟩:Addr).add j)=some v from fun j v hj=>by
   have hj0:j=0:=by have:=(List.getElem?_eq_some_iff.1 hj).1;simpa using this
   subst hj0
   simp at hj
   subst hj
   exact hcell)
 clear hmin
 go_wp2_with ((refine wpList_copy_own rfl (.tmp 31) (.tmp 32) 34 34 rfl 3 Tryz.underlying34 Tryz.intSz w'.heap.size 0 n n ⟨B,q,none⟩ 1 c rfl rfl (madeCells #[Value.int .i64 0] n) 3 (heap_alloc_new w' _) [.int .i64 (-1)] Hmin.out Hs1.out (by simp[madeCells];omega) (by simp[Value.oneCell']) ?_))
 clear hmk hcell hc
 go_loopg [8] (n - 1) (fun gk v wr=>∃k:Nat,1<=k/\k<=n/\gk=n - k/\v=.int .i64 k/\Below w'.heap.size w' wr/\Blk wr w'.heap.size 3 (sT n k).toArray)
 case atStart =>
   refine⟨1,Zf _,hn0,rfl,rfl,below_setRow ((Below.refl _ _).alloc (Zf _) _) (Zf _) _, ?_⟩
   have h:=setRow_heap (w'.alloc (.cells (madeCells #[Value.int .i64 0] n) 3)) w'.heap.size (madeCells #[Value.int .i64 0] n) (sT n 1).toArray 3 (0,0) (heap_alloc_new w' _)
   have e:(sT n 1)=Value.int .i64 (-1)::(madeCells #[Value.int .i64 0] n).toList.tail:=by
     rw[toList_madeCells_one,List.tail_replicate];simp[sT]
   rw[e] at h |-
   exact h
 case round =>
   obtain⟨k,hk1,hk,rfl,rfl,hb,hB⟩:=hrel
   by_cases hlt:k<n
   ·have hne:¬ n=k:=by omega
    have i3:(0:Int)<=(k:Int):=by omega
    have i4:(k:Int)<=(n:Int):=by omega
    have hmm:Nat.min k (n - k)<=n - k/\Nat.min k (n - k)<=k:=⟨Nat.min_le_right _ _,Nat.min_le_left _ _⟩
    generalize hmd:Nat.min k (n - k)=m at hmm
    have Hmd:=Lib.hid hmd
    have hm1:1<=m:=by rw[<- hmd];exact Nat.le_min.2 ⟨hk1,by omega⟩
    clear hmd
    have Hs2:=Lib.hid (show ∀(j:Nat) v,(List.replicate m (Value.int .i64 (-1)))[j]?=some v->wr.cell? ((⟨w'.heap.size,0,none⟩:Addr).add j)=some v from fun j v hj=>by
      have hjm:j<m:=by have:=(List.getElem?_eq_some_iff.1 hj).1;simpa using this
      simp[hjm] at hj
      subst hj
      rw[Addr.add_lit,ZX,hB.cell j]
      simpa using adr (n:=n) (k:=k) (j:=j) (by omega) hk)
    have Hspl:=Lib.hid (w8 (n:=n) (k:=k) (m:=m) (by omega))
    have HL:=Lib.hid (wY hk)
    have HB:=Lib.hid hB
    clear hB
    go_wp2
    have HB2:=Lib.hid (show wr.drew.heap[w'.heap.size]?=some (.cells (sT n k).toArray 3 (0,0)) from HB.out)
    go_region_held3 (fun W=>Below w'.heap.size w' W) (first|exact hb|exact hb.drew|exact h4) (first|(refine step_copy_splice rfl (.tmp 41) (.tmp 44) 34 34 rfl 3 Tryz.underlying34 Tryz.intSz _ _ (n - k) (n - k) k n rfl rfl w'.heap.size k (sT n k) 3 HB2.out (List.replicate m (.int .i64 (-1))) (by rw[Y9,Hmd.out]) (fun _=>⟨by simp,_,rfl,Hs2.out⟩) (by rw[Y9,HL.out];omega) (fun v hv=>by rw[Yr hv];rfl) w'.heap.size w' (by exact hb.drew) (Zf _) ?_;intro w3 h3 h4))
    all_goals
      have h5:Blk w3 w'.heap.size 3 (sT n (k+m)).toArray:=by
        have:=h3.out
        unfold splice at this
        rw[Y9,Hspl.out] at this
        exact this
      clear h3
      go_wp2
      go_roundg (n - (k+m))
      case measure=>omega
      case rel=>exact⟨k+m,by omega,by omega,rfl,by simp;exact IntWalk.i64_in _ (by omega),h4,h5⟩
   ·go_wp2
    go_ret
    obtain rfl:k=n:=by omega
    refine⟨rfl,hb, ?_⟩
    unfold sT at hB
    simpa using hB
end Go.Proofs.YtofnnnpahglfdaaGreatDoor
