/- Part 31 of the proof: the texts ImE. -/
import Derived.Test.YtofnnnpahglfdaaGreatDoorFo24
import Derived.Test.YtofnnnpahglfdaaGreatDoorFo13
import Derived.Test.YtofnnnpahglfdaaGreatDoorFo10
set_option linter.all false
set_option maxHeartbeats 4000000
set_option maxRecDepth 20000
namespace Go.Proofs.YtofnnnpahglfdaaGreatDoor
open Go Go.RowKit
open Classical in
noncomputable def jD (st : aJ) (nb : Int) : Bool :=
 bH st.classes && (inR st.made st.objects.length 800 && (decide (st.output.length <= 60) && (inR st.budget 0 3000 && (inR st.ticks 0 st.budget && (st.output.all fb && st.objects.all (fi st nb))))))
theorem nQ (t : ByteArray) : ju 3 0 t = fb t := by
 unfold ju
 rw [if_neg (by decide), if_neg (by decide), if_neg (by decide), if_pos rfl, decide_eq_true rfl, Bool.true_and]
theorem oC {G : World -> Prop} (t : ByteArray) : Ct Tryz.prog G 101 [.str t] (fun _ => .agg [.int .i64 3, .int .i64 0, .str t]) := by
 refine am Tryz.func101 rfl Tryz.ntmps101 rfl rfl fun w0 _ hG => ?_
 repeat' (first | refine W_ ?_ | (refine aj ?_; intro ss bb) | refine ac ?_ | refine eW ?_)
 refine aE x_ rfl (.cell _ _ _ _ _ rfl mm_ (by kernel_rfl) (by kernel_rfl) (by kernel_rfl)) (fun _ => ?_)
 exact gR (.cons (.flat rfl) (.cons (.flat rfl) (.cons (.flat rfl) .nil)))
theorem ue (f lo : Nat) (st : aJ) (hsm : st.small 1048576) (nb : Int) : Ct Tryz.prog GL 98 [.cp f (st.tw lo), .int .i64 nb] (fun _ => .bool (jD st nb)) := by
 refine am Tryz.func98 rfl Tryz.ntmps98 rfl rfl fun w0 _ hG => ?_
 have hst := dA
 have k1 := jE hst lo st.classes hsm.1
 have k2 := a7 (G := GL) st.made st.objects.length 800
 have k4 := a7 (G := GL) st.budget 0 3000
 have k5 := a7 (G := GL) st.ticks 0 st.budget
 have hol := aZ st.output
 have hbl := ay.len lo st.objects
 have hcn := aa.len lo st.classes
 have hz1 := hsm.2.1.1
 have hz2 := hsm.2.2.1
 have hex := fun (o : ay) (h : o.small 1048576) (hc : bH st.classes = true) => wt f lo st (q9 hc) (kP hc).1 nb o h
 have hln := fun (t : ByteArray) (h : t.size <= 1048576) => fP 3 0 t h
 unfold jD
 unfold aJ.tw at hex |-
 cases hc1 : bH st.classes
 case false =>
   rw [hc1] at k1
   rw [Bool.false_and]
   repeat' (first | refine V_ ?_ | refine ae hG hst (k1) ?_)
   exact r1_
 rw [hc1] at k1
 rw [Bool.true_and]
 cases hc2 : inR st.made st.objects.length 800
 case false =>
   rw [hc2] at k2
   rw [Bool.false_and]
   repeat' (first | refine V_ ?_ | refine ae hG hst (k1) ?_ | refine ae hG hst (k2) ?_)
   exact r1_
 rw [hc2] at k2
 rw [Bool.true_and]
 by_cases hc3 : st.output.length <= 60
 case neg =>
   rw [decide_eq_false hc3, Bool.false_and]
   repeat' (first | refine V_ ?_ | refine ae hG hst (k1) ?_ | refine ae hG hst (k2) ?_)
   exact r1_
 rw [decide_eq_true hc3, Bool.true_and]
 cases hc4 : inR st.budget 0 3000
 case false =>
   rw [hc4] at k4
   rw [Bool.false_and]
   repeat' (first | refine V_ ?_ | refine ae hG hst (k1) ?_ | refine ae hG hst (k2) ?_ | refine ae hG hst (k4) ?_)
   exact r1_
 rw [hc4] at k4
 rw [Bool.true_and]
 cases hc5 : inR st.ticks 0 st.budget
 case false =>
   rw [hc5] at k5
   rw [Bool.false_and]
   repeat' (first | refine V_ ?_ | refine ae hG hst (k1) ?_ | refine ae hG hst (k2) ?_ | refine ae hG hst (k4) ?_ | refine ae hG hst (k5) ?_)
   exact r1_
 rw [hc5] at k5
 rw [Bool.true_and]
 repeat' (first | refine V_ ?_ | refine ae hG hst (k1) ?_ | refine ae hG hst (k2) ?_ | refine ae hG hst (k4) ?_ | refine ae hG hst (k5) ?_)
 apply ak (X := Nat) [0, 1, 4] (fun i => [(5, .int .i64 (i : Int))]) (fun _ => []) (fun i => i <= st.output.length /\ ∀ y ∈ st.output.take i, fb y = true) (fun i => st.output.length - i) 0 ⟨Nat.zero_le _, by simp⟩
 exact kp_; exact nw_
 ·exact .refl _
 rintro i ⟨hi, hall⟩
 try dsimp only
 by_cases hlt : i < st.output.length
 ·have hrow := mI hlt
  have hxi := hln _ (hsm.2.2.2 _ (List.getElem_mem hlt))
  have hta := aV (p := fun y => fb y = true) hlt hall
  cases hfi : fb st.output[i] with
  | false =>
    rw [show st.output.all fb = false from Bool.eq_false_iff.2 fun h => (by rw [List.all_eq_true.1 h _ (List.getElem_mem hlt)] at hfi; cases hfi), Bool.false_and]
    rw [nQ] at hxi; rw [hfi] at hxi
    generalize st.output[i] = x at hrow hxi
    repeat' (first | refine W_ ?_ | refine ab hG hst (oC (G := GL) x) ?_ | refine ab hG hst (hxi) ?_)
    exact r1_
  | true =>
    rw [nQ] at hxi; rw [hfi] at hxi
    rw [hfi] at hta
    generalize st.output[i] = x at hrow hxi
    repeat' (first | refine W_ ?_ | refine ab hG hst (oC (G := GL) x) ?_ | refine ab hG hst (hxi) ?_)
    exact ag (i + 1) ⟨by omega, hta rfl⟩ (by omega) (.of _ nw_ od_ pk_)
 obtain rfl : i = st.output.length := by omega
 rw [List.take_of_length_le (Nat.le_refl _)] at hall
 rw [List.all_eq_true.2 hall, Bool.true_and]
 clear hln hall
 repeat' refine W_ ?_
 have hfo : ∀ i (h : i < st.objects.length), fi st nb st.objects[i] = false -> st.objects.all (fi st nb) = false := fun i h hf => Bool.eq_false_iff.2 fun h2 => by
   rw [List.all_eq_true.1 h2 _ (List.getElem_mem h)] at hf; cases hf
 apply ak (X := Nat) [0, 1, 4] (fun i => [(6, .int .i64 (i : Int))]) (fun _ => []) (fun i => i <= st.objects.length /\ ∀ y ∈ st.objects.take i, fi st nb y = true) (fun i => st.objects.length - i) 0 ⟨Nat.zero_le _, by simp⟩
 exact kp_; exact nw_
 ·exact .refl _
 rintro i ⟨hi, hall⟩
 try dsimp only
 by_cases hlt : i < st.objects.length
 ·have hrow : (st.objects.map (ay.tw lo))[i]? = some [.int .i64 st.objects[i].kind, .int .i64 st.objects[i].class_, .sl lo 3 (st.objects[i].fields.map (ad.tw lo)), .sl lo 1 (aS st.objects[i].numbers)] := aM hlt
  have hxi := hex _ (hsm.2.1.2 _ (List.getElem_mem hlt)) hc1
  have hta := aV (p := fun y => fi st nb y = true) hlt hall
  clear hex
  cases hfi : fi st nb st.objects[i] with
  | false =>
    rw [hfo i hlt hfi]
    rw [hfi] at hxi
    generalize st.objects[i] = x at hrow hxi
    obtain ⟨xk, xc, xf, xn⟩ := x
    dsimp only at hrow hxi
    repeat' (first | refine W_ ?_ | refine ab hG hst (hxi) ?_)
    exact r1_
  | true =>
    rw [hfi] at hxi hta
    generalize st.objects[i] = x at hrow hxi
    obtain ⟨xk, xc, xf, xn⟩ := x
    dsimp only at hrow hxi
    repeat' (first | refine W_ ?_ | refine ab hG hst (hxi) ?_)
    exact ag (i + 1) ⟨by omega, hta rfl⟩ (by omega) (.of _ nw_ od_ pk_)
 obtain rfl : i = st.objects.length := by omega
 rw [List.take_of_length_le (Nat.le_refl _)] at hall
 rw [List.all_eq_true.2 hall]
 repeat' refine W_ ?_
 exact r1_
theorem yA (lo : Nat) (st : aJ) (hsm : st.small 1048576) (nb : Int) : Ct Tryz.prog GL 118 [.agg (st.tw lo), .int .i64 nb] (fun _ => .bool (jD st nb)) := by
 refine am Tryz.func118 rfl Tryz.ntmps118 rfl rfl fun w0 _ hG => ?_
 have hst := dA
 have k1 := lX hst lo st.classes hsm.1
 have k2 := aN (G := GL) st.made st.objects.length 800
 have k4 := aN (G := GL) st.budget 0 3000
 have k5 := aN (G := GL) st.ticks 0 st.budget
 have hol := aZ st.output
 have hbl := ay.len lo st.objects
 have hcn := aa.len lo st.classes
 have hz1 := hsm.2.1.1
 have hz2 := hsm.2.2.1
 have hex := fun (o : ay) (h : o.small 1048576) (hc : bH st.classes = true) => vf lo st (q9 hc) (kP hc).1 nb o h
 have hln := fun (t : ByteArray) (h : t.size <= 1048576) => nP hst t h
 unfold jD
 unfold aJ.tw at hex |-
 cases hc1 : bH st.classes
 case false =>
   rw [hc1] at k1
   rw [Bool.false_and]
   repeat' (first | refine W_ ?_ | refine aD ?_ | refine ab hG hst (k1) ?_)
   exact r1_
 rw [hc1] at k1
 rw [Bool.true_and]
 cases hc2 : inR st.made st.objects.length 800
 case false =>
   rw [hc2] at k2
   rw [Bool.false_and]
   repeat' (first | refine W_ ?_ | refine aD ?_ | refine ab hG hst (k1) ?_ | refine ab hG hst (k2) ?_)
   exact r1_
 rw [hc2] at k2
 rw [Bool.true_and]
 by_cases hc3 : st.output.length <= 60
 case neg =>
   rw [decide_eq_false hc3, Bool.false_and]
   repeat' (first | refine W_ ?_ | refine aD ?_ | refine ab hG hst (k1) ?_ | refine ab hG hst (k2) ?_)
   exact r1_
 rw [decide_eq_true hc3, Bool.true_and]
 cases hc4 : inR st.budget 0 3000
 case false =>
   rw [hc4] at k4
   rw [Bool.false_and]
   repeat' (first | refine W_ ?_ | refine aD ?_ | refine ab hG hst (k1) ?_ | refine ab hG hst (k2) ?_ | refine ab hG hst (k4) ?_)
   exact r1_
 rw [hc4] at k4
 rw [Bool.true_and]
 cases hc5 : inR st.ticks 0 st.budget
 case false =>
   rw [hc5] at k5
   rw [Bool.false_and]
   repeat' (first | refine W_ ?_ | refine aD ?_ | refine ab hG hst (k1) ?_ | refine ab hG hst (k2) ?_ | refine ab hG hst (k4) ?_ | refine ab hG hst (k5) ?_)
   exact r1_
 rw [hc5] at k5
 rw [Bool.true_and]
 repeat' (first | refine W_ ?_ | refine aD ?_ | refine ab hG hst (k1) ?_ | refine ab hG hst (k2) ?_ | refine ab hG hst (k4) ?_ | refine ab hG hst (k5) ?_)
 apply ak (X := Nat) [1, 2, 4, 43, 44] (fun i => [(45, .int .i64 (i : Int))]) (fun _ => []) (fun i => i <= st.output.length /\ ∀ y ∈ st.output.take i, fb y = true) (fun i => st.output.length - i) 0 ⟨Nat.zero_le _, by simp⟩
 exact kp_; exact nw_
 ·exact .refl _
 rintro i ⟨hi, hall⟩
 try dsimp only
 by_cases hlt : i < st.output.length
 ·have hrow := mI hlt
  have hxi := hln _ (hsm.2.2.2 _ (List.getElem_mem hlt))
  have hta := aV (p := fun y => fb y = true) hlt hall
  cases hfi : fb st.output[i] with
  | false =>
    rw [show st.output.all fb = false from Bool.eq_false_iff.2 fun h => (by rw [List.all_eq_true.1 h _ (List.getElem_mem hlt)] at hfi; cases hfi), Bool.false_and]
    rw [hfi] at hxi
    generalize st.output[i] = x at hrow hxi
    repeat' (first | refine W_ ?_ | refine ab hG hst (hxi) ?_)
    exact r1_
  | true =>
    rw [hfi] at hxi
    rw [hfi] at hta
    generalize st.output[i] = x at hrow hxi
    repeat' (first | refine W_ ?_ | refine ab hG hst (hxi) ?_)
    exact ag (i + 1) ⟨by omega, hta rfl⟩ (by omega) (.of _ nw_ od_ pk_)
 obtain rfl : i = st.output.length := by omega
 rw [List.take_of_length_le (Nat.le_refl _)] at hall
 rw [List.all_eq_true.2 hall, Bool.true_and]
 clear hln hall
 repeat' refine W_ ?_
 have hfo : ∀ i (h : i < st.objects.length), fi st nb st.objects[i] = false -> st.objects.all (fi st nb) = false := fun i h hf => Bool.eq_false_iff.2 fun h2 => by
   rw [List.all_eq_true.1 h2 _ (List.getElem_mem h)] at hf; cases hf
 apply ak (X := Nat) [1, 2, 4, 54, 55] (fun i => [(56, .int .i64 (i : Int))]) (fun _ => []) (fun i => i <= st.objects.length /\ ∀ y ∈ st.objects.take i, fi st nb y = true) (fun i => st.objects.length - i) 0 ⟨Nat.zero_le _, by simp⟩
 exact kp_; exact nw_
 ·exact .refl _
 rintro i ⟨hi, hall⟩
 try dsimp only
 by_cases hlt : i < st.objects.length
 ·have hrow : (st.objects.map (ay.tw lo))[i]? = some [.int .i64 st.objects[i].kind, .int .i64 st.objects[i].class_, .sl lo 3 (st.objects[i].fields.map (ad.tw lo)), .sl lo 1 (aS st.objects[i].numbers)] := aM hlt
  have hxi := hex _ (hsm.2.1.2 _ (List.getElem_mem hlt)) hc1
  have hta := aV (p := fun y => fi st nb y = true) hlt hall
  clear hex
  cases hfi : fi st nb st.objects[i] with
  | false =>
    rw [hfo i hlt hfi]
    rw [hfi] at hxi
    generalize st.objects[i] = x at hrow hxi
    obtain ⟨xk, xc, xf, xn⟩ := x
    dsimp only at hrow hxi
    repeat' (first | refine W_ ?_ | (refine aj ?_; intro ss bb) | refine ac ?_ | refine ab hG hst (hxi) ?_)
    exact r1_
  | true =>
    rw [hfi] at hxi hta
    generalize st.objects[i] = x at hrow hxi
    obtain ⟨xk, xc, xf, xn⟩ := x
    dsimp only at hrow hxi
    repeat' (first | refine W_ ?_ | (refine aj ?_; intro ss bb) | refine ac ?_ | refine ab hG hst (hxi) ?_)
    exact ag (i + 1) ⟨by omega, hta rfl⟩ (by omega) (.of _ nw_ od_ pk_)
 obtain rfl : i = st.objects.length := by omega
 rw [List.take_of_length_le (Nat.le_refl _)] at hall
 rw [List.all_eq_true.2 hall]
 repeat' refine W_ ?_
 exact r1_
end Go.Proofs.YtofnnnpahglfdaaGreatDoor
