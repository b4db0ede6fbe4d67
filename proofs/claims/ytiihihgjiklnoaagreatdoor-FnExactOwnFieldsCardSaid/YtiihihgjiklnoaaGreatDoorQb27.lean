/- Part 27 of the proof: the texts IvN. -/
import Derived.Test.YtiihihgjiklnoaaGreatDoorQb10
import Derived.Test.YtiihihgjiklnoaaGreatDoorQb21
import Derived.Test.YtiihihgjiklnoaaGreatDoorQb18
/- IsVerified: an instruction, on the side of the program (instrOk and its two function literals). -/
namespace Go.Proofs.YtiihihgjiklnoaaGreatDoor
set_option maxRecDepth 20000
open Go Go.RowKit
section
variable {G : World → Prop}
theorem ux (hst : az G) (lo : Nat) (n : Int) (bl : Bool) (pr sl : Int) (is : List ag) (hn : is.length ≤ 1048576) : Ct Tryz.prog G 220 [.int .i64 n, .cp 0 [.bool bl, .int .i64 pr, .int .i64 sl, .sl lo 4 (is.map (ag.tw lo))]] (fun _ => .bool (inR n 0 ((is.length : Int) - 1))) := by
  refine ao Tryz.func220 rfl Tryz.ntmps220 rfl rfl fun w0 _ hG => ?_
  have hil := ag.len lo is
  repeat' (first | refine W_ ?_ | refine ab hG hst (aK _ _ _) ?_ | refine c_ (fun hc => ?_) (fun hc => ?_) | refine g_ (fun hg => ?_) (fun hg => ?_))
  exact r1_
theorem mV (hst : az G) (n least : Int) (bl : Bool) (pr sl : Int) (t : TV) : Ct Tryz.prog G 221 [.int .i64 n, .agg [.bool bl, .int .i64 pr, .int .i64 sl, t], .int .i64 least] (fun _ => .bool (inR n least (IntKind.i64.wrap (sl - 1)))) := by
  refine ao Tryz.func221 rfl Tryz.ntmps221 rfl rfl fun w0 _ hG => ?_
  repeat' (first | refine W_ ?_ | refine aE ?_ | refine ab hG hst (aK _ _ _) ?_ | refine c_ (fun hc => ?_) (fun hc => ?_) | refine g_ (fun hg => ?_) (fun hg => ?_))
  exact r1_
set_option maxRecDepth 8000 in
set_option maxHeartbeats 8000000 in
theorem wM (hst : az G) (hse : ∀ s : ByteArray, s.size ≤ 1048576 → Ct Tryz.prog G 135 [.str s] (fun _ => .bool (cw s.data.toList)))
    (lo lo2 : Nat) (cl : List aa) (cen : TV) (cs : List ay) (mn : Int) (hcl : cl.length ≤ 1048576) (hcs : cs.length ≤ 1048576 ∧ ∀ y ∈ cs, ay.small 1048576 y) (o : List Int) (hinv : cC cs.length o) (k : Nat) (own : ay) (hk : cs[k]? = some own) (hsl : 0 ≤ own.slots ∧ own.slots ≤ 30)
    (x : ag) (hx : x.text.size ≤ 1048576) :
    Ct Tryz.prog G 139 [.agg [.sl lo 3 (cl.map (aa.tw lo)), .sl lo 4 (cs.map (ay.tw lo)), cen, .int .i64 mn], .sl lo2 1 (aO o), .int .i64 (k : Int), .agg [.int .i64 x.op, .int .i64 x.a, .int .i64 x.b, .str x.text]] (fun _ => .bool (eF cs cl.length o k own x)) := by
  obtain ⟨op, a, b, t⟩ := x
  dsimp only at hx ⊢
  refine ao Tryz.func139 rfl Tryz.ntmps139 rfl rfl fun w0 _ hG => ?_
  have hl1 := aa.len lo cl
  have hl2 := ay.len lo cs
  have hll := aq o
  have hkl : k < cs.length := (List.getElem?_eq_some_iff.1 hk).1
  have hrk : (cs.map (ay.tw lo))[k]? = some [.bool own.block, .int .i64 own.params, .int .i64 own.slots, .sl lo 4 (own.instrs.map (ag.tw lo))] := by rw [List.getElem?_map, hk]; rfl
  have hil := ag.len lo own.instrs
  have hin : own.instrs.length ≤ 1048576 := (hcs.2 own (List.mem_of_getElem? hk)).1
  have hw : IntKind.i64.wrap (own.slots - 1) = own.slots - 1 := IntWalk.i64_in _ (by omega)
  repeat' (first | refine H_ 2 ?_ | refine aE ?_ | refine ab hG hst (yI _) ?_ | refine c_ (fun hc => ?_) (fun hc => ?_) | refine g_ (fun hg => ?_) (fun hg => ?_))
  refine ⟨cE ?_⟩
  apply fc (X := Unit) [1, 2, 4, 7] (fun _ => [(54, .bool (!decide (dY ⟨op, a, b, t⟩)))]) (fun _ => []) (fun _ => True)
  case hk => (repeat (first | exact iO.nil | (apply iO.cons; rfl)))
  · clear hrk hk hinv hse hl1 hl2 hll hin hil
    repeat' (first | refine W_ ?_ | refine ab hG hst (aK _ _ _) ?_ | refine c_ (fun hc => ?_) (fun hc => ?_) | refine g_ (fun hg => ?_) (fun hg => ?_))
    all_goals
      refine dN () trivial (.of _ (dw.envCons (i8 rfl ?_) dw.envNil) od_ pk_)
      simp only [Bool.not_eq_true', Bool.not_eq_false', ne_eq, Decidable.not_not] at *
      first
        | (simp [dY, *]; done)
  intro _ _
  by_cases hh : dY ⟨op, a, b, t⟩
  case neg =>
    have hB : eF cs cl.length o k own ⟨op, a, b, t⟩ = false := by unfold eF; rw [decide_eq_false hh]; rfl
    rw [hB, decide_eq_false hh, Bool.not_false]
    repeat' (first | refine W_ ?_ | refine c_ (fun hc => ?_) (fun hc => ?_) | refine g_ (fun hg => ?_) (fun hg => ?_))
    exact r1_
  have hB : eF cs cl.length o k own ⟨op, a, b, t⟩ = cH cs cl.length o k own ⟨op, a, b, t⟩ := by unfold eF; rw [decide_eq_true hh]; rfl
  rw [hB, decide_eq_true hh, Bool.not_true]
  have hinv' : cC o.length o := by rw [hinv.1]; exact hinv
  have hvf : er cs o k b = none → uz cs o k ⟨op, a, b, t⟩ = false := fun h => by
    unfold uz
    dsimp only
    rw [h]
  clear hB hk
  repeat' (first | refine H_ 24 ?_ | (refine ai ?_; intro ss bb) | refine ad ?_ | refine lv ?_ | refine ab hG hst (aK _ _ _) ?_ | refine ab hG hst (qR hst _ hx) ?_ | refine ab hG hst (hse _ hx) ?_ | refine ab hG hst (gG _ hx) ?_ | ((with_reducible apply tC); rfl; rfl; kernel_rfl; exact hG; exact hst; (repeat (first | exact cf.nil | ((with_reducible apply cf.cons); rfl; exact .same _))); (repeat (first | exact jb.nil | ((with_reducible apply jb.cons); (first | ((with_reducible apply ci.mpSame); (repeat (first | with_reducible exact mh | with_reducible refine mt ?_))) | exact ci.same _)))); rfl; first | exact ux hst lo _ _ _ _ _ hin | exact mV hst _ _ _ _ _ _) | refine c_ (fun hc => ?_) (fun hc => ?_) | refine g_ (fun hg => ?_) (fun hg => ?_))
  all_goals first
    | (refine aB x_ rfl (.tmp _ _ rfl) (fun _ => ?_)
       clear hrk hl1 hl2 hll hil hcs hse hh hinv
       refine aJ ?_
       first
         | (simp [cH, *]; done))
    | (refine ⟨?_⟩
       generalize ss = s12; generalize bb = b12
       repeat' (first | refine W_ ?_ | refine c_ (fun hc => ?_) (fun hc => ?_) | refine g_ (fun hg => ?_) (fun hg => ?_))
       apply aj (X := Nat) [1, 4, 7, 12, 14, 62] (fun n => [(15, .int .i64 (upN o n (k : Int))), (16, .int .i64 (n : Int))]) (fun _ => [(s12, b12, .box [.bool own.block, .int .i64 own.params, .int .i64 own.slots, .sl lo 4 (own.instrs.map (ag.tw lo))])]) (fun n => n ≤ b.toNat) (fun n => b.toNat - n) 0 (Nat.zero_le _)
       exact kp_; exact nw_
       · exact .refl _
       intro n hn
       try dsimp only at hn ⊢
       have hol : o.length = cs.length := hinv.1
       have hup := r9 hinv' n (k : Int) (.inr ⟨by omega, by omega⟩)
       by_cases hnb : (n : Int) < b
       · by_cases hat : 0 ≤ upN o n (k : Int)
         · obtain ⟨j, hj⟩ : ∃ j : Nat, upN o n (k : Int) = j := ⟨(upN o n (k : Int)).toNat, by omega⟩
           have hs := iJ o n (k : Int)
           rw [if_neg (by omega), hj] at hs
           have hge := aaQ hinv' (k := (k : Int)) ⟨by omega, by omega⟩ n hat
           rw [hj] at hup hge
           have hcl2 := hcs.1
           have hrow := eN (o := o) (j := j) (by omega)
           rw [hj]
           repeat' (first | refine W_ ?_ | refine c_ (fun hc => ?_) (fun hc => ?_) | refine g_ (fun hg => ?_) (fun hg => ?_))
           exact ah (n + 1) (by omega) (by omega) (.of _ nw_ od_ pk_)
         · have hv := hvf (sc (n := n) (by omega) (by omega))
           repeat' (first | refine W_ ?_ | refine c_ (fun hc => ?_) (fun hc => ?_) | refine g_ (fun hg => ?_) (fun hg => ?_))
           refine aB x_ rfl (.tmp _ _ rfl) (fun _ => ?_)
           refine aJ ?_
           clear hrk hl1 hl2 hll hil hcs hse hh hinv hvf
           subst_vars
           simp [cH, hv]
       · by_cases hb0 : b < 0
         · have hv := hvf (sH hb0)
           repeat' (first | refine W_ ?_ | refine c_ (fun hc => ?_) (fun hc => ?_) | refine g_ (fun hg => ?_) (fun hg => ?_))
           all_goals
             refine aB x_ rfl (.tmp _ _ rfl) (fun _ => ?_)
             refine aJ ?_
             clear hrk hl1 hl2 hll hil hcs hse hh hinv hvf
             subst_vars
             simp [cH, hv]
         · obtain rfl : b = (n : Int) := by omega
           by_cases hat : 0 ≤ upN o n (k : Int)
           · obtain ⟨j, hj⟩ : ∃ j : Nat, upN o n (k : Int) = j := ⟨(upN o n (k : Int)).toNat, by omega⟩
             rw [hj] at hup
             have hjl : j < cs.length := by omega
             have hry := bL (lo := lo) hjl
             have hlev : er cs o k (n : Int) = some cs[j] := vI (by omega) (by rw [Int.toNat_natCast]; exact hj) (List.getElem?_eq_getElem hjl)
             generalize cs[j] = y at hry hlev
             rw [hj]
             repeat' (first | refine V_ ?_ | ((with_reducible apply ab0); rfl; rfl; kernel_rfl; exact hG; exact hst; (repeat (first | exact cf.nil | ((with_reducible apply cf.cons); rfl; exact .same _))); (repeat (first | exact jb.nil | ((with_reducible apply jb.cons); (first | ((with_reducible apply ci.mpSame); (repeat (first | with_reducible exact mh | with_reducible refine mt ?_))) | exact ci.same _)))); rfl; exact mV hst _ _ _ _ _ _) | refine c_ (fun hc => ?_) (fun hc => ?_) | refine g_ (fun hg => ?_) (fun hg => ?_))
             all_goals first
               | (refine aB x_ rfl (.tmp _ _ rfl) (fun _ => ?_)
                  refine aJ ?_
                  clear hrk hl1 hl2 hll hil hcs hse hh hinv hvf
                  subst_vars
                  simp [cH, uz, hlev]; done)
           · have hv := hvf (sc (n := n) (by omega) (by omega))
             repeat' (first | refine W_ ?_ | refine c_ (fun hc => ?_) (fun hc => ?_) | refine g_ (fun hg => ?_) (fun hg => ?_))
             refine aB x_ rfl (.tmp _ _ rfl) (fun _ => ?_)
             refine aJ ?_
             clear hrk hl1 hl2 hll hil hcs hse hh hinv hvf
             subst_vars
             simp [cH, hv])
end
end Go.Proofs.YtiihihgjiklnoaaGreatDoor
