/- Part 23 of the proof: the texts RsP, RsA, RsB, RsC, IvN. -/
import Derived.Test.YtigipcbnfeoliaaGreatDoorRf17
import Derived.Test.YtigipcbnfeoliaaGreatDoorRf14
import Derived.Test.YtigipcbnfeoliaaGreatDoorRf7
import Derived.Test.YtigipcbnfeoliaaGreatDoorRf3
set_option linter.all false
set_option maxHeartbeats 8000000
set_option maxRecDepth 20000
namespace Go.Proofs.YtigipcbnfeoliaaGreatDoor
open Go Go.RowKit
structure RS where
 met : List Bool
 out : List ByteArray
 todo : List Int
def gb (l : List Bool) (k : Int) : Bool := l.getD k.toNat true
section
variable {G : World -> Prop}
end
section
variable {G : World -> Prop}
end
section
variable {G : World -> Prop}
end
section
variable {G : World -> Prop}
theorem vp (hst : ay G) (lo : Nat) (n : Int) (bl : Bool) (pr sl : Int) (is : List ai) (hn : is.length <= 1048576) : Ct Tryz.prog G 271 [.int .i64 n, .cp 0 [.bool bl, .int .i64 pr, .int .i64 sl, .sl lo 4 (is.map (ai.tw lo))]] (fun _ => .bool (inR n 0 ((is.length : Int) - 1))) := by
 refine aq Tryz.func271 rfl Tryz.ntmps271 rfl rfl fun w0 _ hG => ?_
 have hil := ai.len lo is
 repeat' (first | refine W_ ?_ | refine ad hG hst (aL _ _ _) ?_)
 exact r1_
theorem ol (hst : ay G) (n least : Int) (bl : Bool) (pr sl : Int) (t : TV) : Ct Tryz.prog G 272 [.int .i64 n, .agg [.bool bl, .int .i64 pr, .int .i64 sl, t], .int .i64 least] (fun _ => .bool (inR n least (IntKind.i64.wrap (sl - 1)))) := by
 refine aq Tryz.func272 rfl Tryz.ntmps272 rfl rfl fun w0 _ hG => ?_
 repeat' (first | refine W_ ?_ | refine aH ?_ | refine ad hG hst (aL _ _ _) ?_)
 exact r1_
theorem xL (hst : ay G) (hse : ∀ s : ByteArray, s.size <= 1048576 -> Ct Tryz.prog G 218 [.str s] (fun _ => .bool (cK s.data.toList)))
   (lo lo2 : Nat) (cl : List aa) (cen : TV) (cs : List aC) (mn : Int) (hcl : cl.length <= 1048576) (hcs : cs.length <= 1048576 /\ ∀ y ∈ cs, aC.small 1048576 y) (o : List Int) (hinv : cT cs.length o) (k : Nat) (own : aC) (hk : cs[k]? = some own) (hsl : 0 <= own.slots /\ own.slots <= 30)
   (x : ai) (hx : x.text.size <= 1048576) :
   Ct Tryz.prog G 221 [.agg [.sl lo 3 (cl.map (aa.tw lo)), .sl lo 4 (cs.map (aC.tw lo)), cen, .int .i64 mn], .sl lo2 1 (aN o), .int .i64 (k : Int), .agg [.int .i64 x.op, .int .i64 x.a, .int .i64 x.b, .str x.text]] (fun _ => .bool (e7 cs cl.length o k own x)) := by
 obtain ⟨op, a, b, t⟩ := x
 dsimp only at hx |-
 refine aq Tryz.func221 rfl Tryz.ntmps221 rfl rfl fun w0 _ hG => ?_
 have hl1 := aa.len lo cl
 have hl2 := aC.len lo cs
 have hll := aj o
 have hkl : k < cs.length := (List.getElem?_eq_some_iff.1 hk).1
 have hrk : (cs.map (aC.tw lo))[k]? = some [.bool own.block, .int .i64 own.params, .int .i64 own.slots, .sl lo 4 (own.instrs.map (ai.tw lo))] := by rw [List.getElem?_map, hk]; rfl
 have hil := ai.len lo own.instrs
 have hin : own.instrs.length <= 1048576 := (hcs.2 own (List.mem_of_getElem? hk)).1
 have hw : IntKind.i64.wrap (own.slots - 1) = own.slots - 1 := IntWalk.i64_in _ (by omega)
 repeat' (first | refine H_ 2 ?_ | refine aH ?_ | refine ad hG hst (yU _) ?_)
 refine ⟨dq ?_⟩
 apply fx (X := Unit) [1, 2, 4, 7] (fun _ => [(54, .bool (!decide (ez ⟨op, a, b, t⟩)))]) (fun _ => []) (fun _ => True)
 case hk => (repeat (first | exact jp.nil | (apply jp.cons; rfl)))
 ·clear hrk hk hinv hse hl1 hl2 hll hin hil
  repeat' (first | refine W_ ?_ | refine ad hG hst (aL _ _ _) ?_ | refine g_ (fun hg => ?_) (fun hg => ?_))
  all_goals
    refine eb () trivial (.of _ (cD.envCons (jB rfl ?_) cD.envNil) od_ pk_)
    simp only [Bool.not_eq_true', Bool.not_eq_false', ne_eq, Decidable.not_not] at *
    first
      | (simp [ez, *]; done)
 intro _ _
 by_cases hh : ez ⟨op, a, b, t⟩
 case neg =>
   have hB : e7 cs cl.length o k own ⟨op, a, b, t⟩ = false := by unfold e7; rw [decide_eq_false hh]; rfl
   rw [hB, decide_eq_false hh, Bool.not_false]
   repeat' refine W_ ?_
   exact r1_
 have hB : e7 cs cl.length o k own ⟨op, a, b, t⟩ = cW cs cl.length o k own ⟨op, a, b, t⟩ := by unfold e7; rw [decide_eq_true hh]; rfl
 rw [hB, decide_eq_true hh, Bool.not_true]
 have hinv' : cT o.length o := by rw [hinv.1]; exact hinv
 have hvf : eS cs o k b = none -> vC cs o k ⟨op, a, b, t⟩ = false := fun h => by
   unfold vC
   dsimp only
   rw [h]
 clear hB hk
 repeat' (first | refine H_ 24 ?_ | (refine ak ?_; intro ss bb) | refine ac ?_ | refine mj ?_ | refine ad hG hst (aL _ _ _) ?_ | refine ad hG hst (tA hst _ hx) ?_ | refine ad hG hst (hse _ hx) ?_ | refine ad hG hst (gT _ hx) ?_ | ((with_reducible apply uT); rfl; rfl; kernel_rfl; exact hG; exact hst; (repeat (first | exact bS.nil | ((with_reducible apply bS.cons); rfl; exact .same _))); (repeat (first | exact jJ.nil | ((with_reducible apply jJ.cons); (first | ((with_reducible apply ca.mpSame); (repeat (first | with_reducible exact mh | with_reducible refine mt ?_))) | exact ca.same _)))); rfl; first | exact vp hst lo _ _ _ _ _ hin | exact ol hst _ _ _ _ _ _) | refine c_ (fun hc => ?_) (fun hc => ?_) | refine g_ (fun hg => ?_) (fun hg => ?_))
 all_goals first
   | (refine aK x_ rfl (.tmp _ _ rfl) (fun _ => ?_)
      clear hrk hl1 hl2 hll hil hcs hse hh hinv
      refine aJ ?_
      first
        | (simp [cW, *]; done))
   | (refine ⟨?_⟩
      generalize ss = s12; generalize bb = b12
      repeat' refine W_ ?_
      apply am (X := Nat) [1, 4, 7, 12, 14, 62] (fun n => [(15, .int .i64 (upN o n (k : Int))), (16, .int .i64 (n : Int))]) (fun _ => [(s12, b12, .box [.bool own.block, .int .i64 own.params, .int .i64 own.slots, .sl lo 4 (own.instrs.map (ai.tw lo))])]) (fun n => n <= b.toNat) (fun n => b.toNat - n) 0 (Nat.zero_le _)
      exact kp_; exact nw_
      ·exact .refl _
      intro n hn
      try dsimp only at hn |-
      have hol : o.length = cs.length := hinv.1
      have hup := sU hinv' n (k : Int) (.inr ⟨by omega, by omega⟩)
      by_cases hnb : (n : Int) < b
      ·by_cases hat : 0 <= upN o n (k : Int)
       ·obtain ⟨j, hj⟩ : ∃ j : Nat, upN o n (k : Int) = j := ⟨(upN o n (k : Int)).toNat, by omega⟩
        have hs := iZ o n (k : Int)
        rw [if_neg (by omega), hj] at hs
        have hge := acG hinv' (k := (k : Int)) ⟨by omega, by omega⟩ n hat
        rw [hj] at hup hge
        have hcl2 := hcs.1
        have hrow := eU (o := o) (j := j) (by omega)
        rw [hj]
        repeat' refine W_ ?_
        exact ag (n + 1) (by omega) (by omega) (.of _ nw_ od_ pk_)
       ·have hv := hvf (uj (n := n) (by omega) (by omega))
        repeat' refine W_ ?_
        refine aK x_ rfl (.tmp _ _ rfl) (fun _ => ?_)
        refine aJ ?_
        clear hrk hl1 hl2 hll hil hcs hse hh hinv hvf
        subst_vars
        simp [cW, hv]
      ·by_cases hb0 : b < 0
       ·have hv := hvf (sW hb0)
        repeat' (first | refine W_ ?_ | refine g_ (fun hg => ?_) (fun hg => ?_))
        all_goals
          refine aK x_ rfl (.tmp _ _ rfl) (fun _ => ?_)
          refine aJ ?_
          clear hrk hl1 hl2 hll hil hcs hse hh hinv hvf
          subst_vars
          simp [cW, hv]
       ·obtain rfl : b = (n : Int) := by omega
        by_cases hat : 0 <= upN o n (k : Int)
        ·obtain ⟨j, hj⟩ : ∃ j : Nat, upN o n (k : Int) = j := ⟨(upN o n (k : Int)).toNat, by omega⟩
         rw [hj] at hup
         have hjl : j < cs.length := by omega
         have hry := bN (lo := lo) hjl
         have hlev : eS cs o k (n : Int) = some cs[j] := w8 (by omega) (by rw [Int.toNat_natCast]; exact hj) (List.getElem?_eq_getElem hjl)
         generalize cs[j] = y at hry hlev
         rw [hj]
         repeat' (first | refine V_ ?_ | ((with_reducible apply adM); rfl; rfl; kernel_rfl; exact hG; exact hst; (repeat (first | exact bS.nil | ((with_reducible apply bS.cons); rfl; exact .same _))); (repeat (first | exact jJ.nil | ((with_reducible apply jJ.cons); (first | ((with_reducible apply ca.mpSame); (repeat (first | with_reducible exact mh | with_reducible refine mt ?_))) | exact ca.same _)))); rfl; exact ol hst _ _ _ _ _ _))
         all_goals first
           | (refine aK x_ rfl (.tmp _ _ rfl) (fun _ => ?_)
              refine aJ ?_
              clear hrk hl1 hl2 hll hil hcs hse hh hinv hvf
              subst_vars
              simp [cW, vC, hlev]; done)
        ·have hv := hvf (uj (n := n) (by omega) (by omega))
         repeat' refine W_ ?_
         refine aK x_ rfl (.tmp _ _ rfl) (fun _ => ?_)
         refine aJ ?_
         clear hrk hl1 hl2 hll hil hcs hse hh hinv hvf
         subst_vars
         simp [cW, hv])
end
end Go.Proofs.YtigipcbnfeoliaaGreatDoor
