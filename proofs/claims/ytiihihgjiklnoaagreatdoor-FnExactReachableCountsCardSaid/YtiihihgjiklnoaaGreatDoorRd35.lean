/- Part 35 of the proof. -/
import Derived.Test.YtiihihgjiklnoaaGreatDoorRd28
import Derived.Test.YtiihihgjiklnoaaGreatDoorRd16
import Derived.Test.YtiihihgjiklnoaaGreatDoorRd12
set_option maxHeartbeats 4000000
set_option maxRecDepth 20000
namespace Go.Proofs.YtiihihgjiklnoaaGreatDoor
open Go Go.RowKit
open Classical in
noncomputable def gY (st : aL) (nb : Int) : Bool :=
 bC st.classes && (inR st.made st.objects.length 800 && (decide (st.output.length <= 60) && (inR st.budget 0 3000 && (inR st.ticks 0 st.budget && (st.output.all ep && st.objects.all (eL st nb))))))
theorem lL (t : ByteArray) : hU 3 0 t = ep t := by
 unfold hU
 rw [if_neg (by decide), if_neg (by decide), if_neg (by decide), if_pos rfl, decide_eq_true rfl, Bool.true_and]
theorem lH {G : World -> Prop} (t : ByteArray) : Ct Tryz.prog G 165 [.str t] (fun _ => .agg [.int .i64 3, .int .i64 0, .str t]) := by
 refine ak Tryz.func165 rfl Tryz.ntmps165 rfl rfl fun w0 _ hG => ?_
 repeat' (first | refine W_ ?_ | (refine aj ?_; intro ss bb) | refine ad ?_ | refine eD ?_)
 refine aA x_ rfl (.cell _ _ _ _ _ rfl mm_ (by kernel_rfl) (by kernel_rfl) (by kernel_rfl)) (fun _ => ?_)
 exact dK (.cons (.flat rfl) (.cons (.flat rfl) (.cons (.flat rfl) .nil)))
theorem qr (f lo : Nat) (st : aL) (hsm : st.small 1048576) (nb : Int) : Ct Tryz.prog GL 162 [.cp f (st.tw lo), .int .i64 nb] (fun _ => .bool (gY st nb)) := by
 refine ak Tryz.func162 rfl Tryz.ntmps162 rfl rfl fun w0 _ hG => ?_
 have hst := cU
 have k1 := ic hst lo st.classes hsm.1
 have k2 := aV (G := GL) st.made st.objects.length 800
 have k4 := aV (G := GL) st.budget 0 3000
 have k5 := aV (G := GL) st.ticks 0 st.budget
 have hol := bL st.output
 have hbl := ar.len lo st.objects
 have hcn := aa.len lo st.classes
 have hz1 := hsm.2.1.1
 have hz2 := hsm.2.2.1
 have hex := fun (o : ar) (h : o.small 1048576) (hc : bC st.classes = true) => rN f lo st (nL hc) (iU hc).1 nb o h
 have hln := fun (t : ByteArray) (h : t.size <= 1048576) => fc 3 0 t h
 unfold gY
 unfold aL.tw at hex |-
 cases hc1 : bC st.classes
 case false =>
   rw [hc1] at k1
   rw [Bool.false_and]
   repeat' (first | refine V_ ?_ | refine ae hG hst (k1) ?_)
   exact r1_
 rw [hc1] at k1
 rw [Bool.true_and]
 cases hc2 : inR st.made st.objects.length 800
 case false =>
   rw [hc2] at k2
   rw [Bool.false_and]
   repeat' (first | refine V_ ?_ | refine ae hG hst (k1) ?_ | refine ae hG hst (k2) ?_)
   exact r1_
 rw [hc2] at k2
 rw [Bool.true_and]
 by_cases hc3 : st.output.length <= 60
 case neg =>
   rw [decide_eq_false hc3, Bool.false_and]
   repeat' (first | refine V_ ?_ | refine ae hG hst (k1) ?_ | refine ae hG hst (k2) ?_)
   exact r1_
 rw [decide_eq_true hc3, Bool.true_and]
 cases hc4 : inR st.budget 0 3000
 case false =>
   rw [hc4] at k4
   rw [Bool.false_and]
   repeat' (first | refine V_ ?_ | refine ae hG hst (k1) ?_ | refine ae hG hst (k2) ?_ | refine ae hG hst (k4) ?_)
   exact r1_
 rw [hc4] at k4
 rw [Bool.true_and]
 cases hc5 : inR st.ticks 0 st.budget
 case false =>
   rw [hc5] at k5
   rw [Bool.false_and]
   repeat' (first | refine V_ ?_ | refine ae hG hst (k1) ?_ | refine ae hG hst (k2) ?_ | refine ae hG hst (k4) ?_ | refine ae hG hst (k5) ?_)
   exact r1_
 rw [hc5] at k5
 rw [Bool.true_and]
 repeat' (first | refine V_ ?_ | refine ae hG hst (k1) ?_ | refine ae hG hst (k2) ?_ | refine ae hG hst (k4) ?_ | refine ae hG hst (k5) ?_)
 apply am (X := Nat) [0, 1, 4] (fun i => [(5, .int .i64 (i : Int))]) (fun _ => []) (fun i => i <= st.output.length /\ ∀ y ∈ st.output.take i, ep y = true) (fun i => st.output.length - i) 0 ⟨Nat.zero_le _, by simp⟩
 exact kp_; exact nw_
 ·exact .refl _
 rintro i ⟨hi, hall⟩
 try dsimp only
 by_cases hlt : i < st.output.length
 ·have hrow := kx hlt
  have hxi := hln _ (hsm.2.2.2 _ (List.getElem_mem hlt))
  have hta := aP (p := fun y => ep y = true) hlt hall
  cases hfi : ep st.output[i] with
  | false =>
    rw [show st.output.all ep = false from Bool.eq_false_iff.2 fun h => (by rw [List.all_eq_true.1 h _ (List.getElem_mem hlt)] at hfi; cases hfi), Bool.false_and]
    rw [lL] at hxi; rw [hfi] at hxi
    generalize st.output[i] = x at hrow hxi
    repeat' (first | refine W_ ?_ | refine ac hG hst (lH (G := GL) x) ?_ | refine ac hG hst (hxi) ?_)
    exact r1_
  | true =>
    rw [lL] at hxi; rw [hfi] at hxi
    rw [hfi] at hta
    generalize st.output[i] = x at hrow hxi
    repeat' (first | refine W_ ?_ | refine ac hG hst (lH (G := GL) x) ?_ | refine ac hG hst (hxi) ?_)
    exact ah (i + 1) ⟨by omega, hta rfl⟩ (by omega) (.of _ nw_ od_ pk_)
 obtain rfl : i = st.output.length := by omega
 rw [List.take_of_length_le (Nat.le_refl _)] at hall
 rw [List.all_eq_true.2 hall, Bool.true_and]
 clear hln hall
 repeat' refine W_ ?_
 have hfo : ∀ i (h : i < st.objects.length), eL st nb st.objects[i] = false -> st.objects.all (eL st nb) = false := fun i h hf => Bool.eq_false_iff.2 fun h2 => by
   rw [List.all_eq_true.1 h2 _ (List.getElem_mem h)] at hf; cases hf
 apply am (X := Nat) [0, 1, 4] (fun i => [(6, .int .i64 (i : Int))]) (fun _ => []) (fun i => i <= st.objects.length /\ ∀ y ∈ st.objects.take i, eL st nb y = true) (fun i => st.objects.length - i) 0 ⟨Nat.zero_le _, by simp⟩
 exact kp_; exact nw_
 ·exact .refl _
 rintro i ⟨hi, hall⟩
 try dsimp only
 by_cases hlt : i < st.objects.length
 ·have hrow : (st.objects.map (ar.tw lo))[i]? = some [.int .i64 st.objects[i].kind, .int .i64 st.objects[i].class_, .sl lo 3 (st.objects[i].fields.map (ab.tw lo)), .sl lo 1 (aM st.objects[i].numbers)] := aE hlt
  have hxi := hex _ (hsm.2.1.2 _ (List.getElem_mem hlt)) hc1
  have hta := aP (p := fun y => eL st nb y = true) hlt hall
  clear hex
  cases hfi : eL st nb st.objects[i] with
  | false =>
    rw [hfo i hlt hfi]
    rw [hfi] at hxi
    generalize st.objects[i] = x at hrow hxi
    obtain ⟨xk, xc, xf, xn⟩ := x
    dsimp only at hrow hxi
    repeat' (first | refine W_ ?_ | refine ac hG hst (hxi) ?_)
    exact r1_
  | true =>
    rw [hfi] at hxi hta
    generalize st.objects[i] = x at hrow hxi
    obtain ⟨xk, xc, xf, xn⟩ := x
    dsimp only at hrow hxi
    repeat' (first | refine W_ ?_ | refine ac hG hst (hxi) ?_)
    exact ah (i + 1) ⟨by omega, hta rfl⟩ (by omega) (.of _ nw_ od_ pk_)
 obtain rfl : i = st.objects.length := by omega
 rw [List.take_of_length_le (Nat.le_refl _)] at hall
 rw [List.all_eq_true.2 hall]
 repeat' refine W_ ?_
 exact r1_
theorem uU (lo : Nat) (st : aL) (hsm : st.small 1048576) (nb : Int) : Ct Tryz.prog GL 179 [.agg (st.tw lo), .int .i64 nb] (fun _ => .bool (gY st nb)) := by
 refine ak Tryz.func179 rfl Tryz.ntmps179 rfl rfl fun w0 _ hG => ?_
 have hst := cU
 have k1 := j2 hst lo st.classes hsm.1
 have k2 := aI (G := GL) st.made st.objects.length 800
 have k4 := aI (G := GL) st.budget 0 3000
 have k5 := aI (G := GL) st.ticks 0 st.budget
 have hol := bL st.output
 have hbl := ar.len lo st.objects
 have hcn := aa.len lo st.classes
 have hz1 := hsm.2.1.1
 have hz2 := hsm.2.2.1
 have hex := fun (o : ar) (h : o.small 1048576) (hc : bC st.classes = true) => rz lo st (nL hc) (iU hc).1 nb o h
 have hln := fun (t : ByteArray) (h : t.size <= 1048576) => kL hst t h
 unfold gY
 unfold aL.tw at hex |-
 cases hc1 : bC st.classes
 case false =>
   rw [hc1] at k1
   rw [Bool.false_and]
   repeat' (first | refine W_ ?_ | refine aF ?_ | refine ac hG hst (k1) ?_)
   exact r1_
 rw [hc1] at k1
 rw [Bool.true_and]
 cases hc2 : inR st.made st.objects.length 800
 case false =>
   rw [hc2] at k2
   rw [Bool.false_and]
   repeat' (first | refine W_ ?_ | refine aF ?_ | refine ac hG hst (k1) ?_ | refine ac hG hst (k2) ?_)
   exact r1_
 rw [hc2] at k2
 rw [Bool.true_and]
 by_cases hc3 : st.output.length <= 60
 case neg =>
   rw [decide_eq_false hc3, Bool.false_and]
   repeat' (first | refine W_ ?_ | refine aF ?_ | refine ac hG hst (k1) ?_ | refine ac hG hst (k2) ?_)
   exact r1_
 rw [decide_eq_true hc3, Bool.true_and]
 cases hc4 : inR st.budget 0 3000
 case false =>
   rw [hc4] at k4
   rw [Bool.false_and]
   repeat' (first | refine W_ ?_ | refine aF ?_ | refine ac hG hst (k1) ?_ | refine ac hG hst (k2) ?_ | refine ac hG hst (k4) ?_)
   exact r1_
 rw [hc4] at k4
 rw [Bool.true_and]
 cases hc5 : inR st.ticks 0 st.budget
 case false =>
   rw [hc5] at k5
   rw [Bool.false_and]
   repeat' (first | refine W_ ?_ | refine aF ?_ | refine ac hG hst (k1) ?_ | refine ac hG hst (k2) ?_ | refine ac hG hst (k4) ?_ | refine ac hG hst (k5) ?_)
   exact r1_
 rw [hc5] at k5
 rw [Bool.true_and]
 repeat' (first | refine W_ ?_ | refine aF ?_ | refine ac hG hst (k1) ?_ | refine ac hG hst (k2) ?_ | refine ac hG hst (k4) ?_ | refine ac hG hst (k5) ?_)
 apply am (X := Nat) [1, 2, 4, 43, 44] (fun i => [(45, .int .i64 (i : Int))]) (fun _ => []) (fun i => i <= st.output.length /\ ∀ y ∈ st.output.take i, ep y = true) (fun i => st.output.length - i) 0 ⟨Nat.zero_le _, by simp⟩
 exact kp_; exact nw_
 ·exact .refl _
 rintro i ⟨hi, hall⟩
 try dsimp only
 by_cases hlt : i < st.output.length
 ·have hrow := kx hlt
  have hxi := hln _ (hsm.2.2.2 _ (List.getElem_mem hlt))
  have hta := aP (p := fun y => ep y = true) hlt hall
  cases hfi : ep st.output[i] with
  | false =>
    rw [show st.output.all ep = false from Bool.eq_false_iff.2 fun h => (by rw [List.all_eq_true.1 h _ (List.getElem_mem hlt)] at hfi; cases hfi), Bool.false_and]
    rw [hfi] at hxi
    generalize st.output[i] = x at hrow hxi
    repeat' (first | refine W_ ?_ | refine ac hG hst (hxi) ?_)
    exact r1_
  | true =>
    rw [hfi] at hxi
    rw [hfi] at hta
    generalize st.output[i] = x at hrow hxi
    repeat' (first | refine W_ ?_ | refine ac hG hst (hxi) ?_)
    exact ah (i + 1) ⟨by omega, hta rfl⟩ (by omega) (.of _ nw_ od_ pk_)
 obtain rfl : i = st.output.length := by omega
 rw [List.take_of_length_le (Nat.le_refl _)] at hall
 rw [List.all_eq_true.2 hall, Bool.true_and]
 clear hln hall
 repeat' refine W_ ?_
 have hfo : ∀ i (h : i < st.objects.length), eL st nb st.objects[i] = false -> st.objects.all (eL st nb) = false := fun i h hf => Bool.eq_false_iff.2 fun h2 => by
   rw [List.all_eq_true.1 h2 _ (List.getElem_mem h)] at hf; cases hf
 apply am (X := Nat) [1, 2, 4, 54, 55] (fun i => [(56, .int .i64 (i : Int))]) (fun _ => []) (fun i => i <= st.objects.length /\ ∀ y ∈ st.objects.take i, eL st nb y = true) (fun i => st.objects.length - i) 0 ⟨Nat.zero_le _, by simp⟩
 exact kp_; exact nw_
 ·exact .refl _
 rintro i ⟨hi, hall⟩
 try dsimp only
 by_cases hlt : i < st.objects.length
 ·have hrow : (st.objects.map (ar.tw lo))[i]? = some [.int .i64 st.objects[i].kind, .int .i64 st.objects[i].class_, .sl lo 3 (st.objects[i].fields.map (ab.tw lo)), .sl lo 1 (aM st.objects[i].numbers)] := aE hlt
  have hxi := hex _ (hsm.2.1.2 _ (List.getElem_mem hlt)) hc1
  have hta := aP (p := fun y => eL st nb y = true) hlt hall
  clear hex
  cases hfi : eL st nb st.objects[i] with
  | false =>
    rw [hfo i hlt hfi]
    rw [hfi] at hxi
    generalize st.objects[i] = x at hrow hxi
    obtain ⟨xk, xc, xf, xn⟩ := x
    dsimp only at hrow hxi
    repeat' (first | refine W_ ?_ | (refine aj ?_; intro ss bb) | refine ad ?_ | refine ac hG hst (hxi) ?_)
    exact r1_
  | true =>
    rw [hfi] at hxi hta
    generalize st.objects[i] = x at hrow hxi
    obtain ⟨xk, xc, xf, xn⟩ := x
    dsimp only at hrow hxi
    repeat' (first | refine W_ ?_ | (refine aj ?_; intro ss bb) | refine ad ?_ | refine ac hG hst (hxi) ?_)
    exact ah (i + 1) ⟨by omega, hta rfl⟩ (by omega) (.of _ nw_ od_ pk_)
 obtain rfl : i = st.objects.length := by omega
 rw [List.take_of_length_le (Nat.le_refl _)] at hall
 rw [List.all_eq_true.2 hall]
 repeat' refine W_ ?_
 exact r1_
end Go.Proofs.YtiihihgjiklnoaaGreatDoor
