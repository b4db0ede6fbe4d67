/- Part 36 of the proof: the texts ImE. -/
import Derived.Test.YtigipcbnfeoliaaGreatDoorFi30
import Derived.Test.YtigipcbnfeoliaaGreatDoorFi16
import Derived.Test.YtigipcbnfeoliaaGreatDoorFi12
set_option linter.all false
set_option maxHeartbeats 4000000
set_option maxRecDepth 20000
namespace Go.Proofs.YtigipcbnfeoliaaGreatDoor
open Go Go.RowKit
open Classical in
noncomputable def lB (st : aQ) (nb : Int) : Bool :=
 bS st.classes && (inR st.made st.objects.length 800 && (decide (st.output.length <= 60) && (inR st.budget 0 3000 && (inR st.ticks 0 st.budget && (st.output.all fZ && st.objects.all (f7 st nb))))))
theorem oY (t : ByteArray) : kj 3 0 t = fZ t := by
 unfold kj
 rw [if_neg (by decide), if_neg (by decide), if_neg (by decide), if_pos rfl, decide_eq_true rfl, Bool.true_and]
theorem oF {G : World -> Prop} (t : ByteArray) : Ct Tryz.prog G 106 [.str t] (fun _ => .agg [.int .i64 3, .int .i64 0, .str t]) := by
 refine aq Tryz.func106 rfl Tryz.ntmps106 rfl rfl fun w0 _ hG => ?_
 repeat' (first | refine W_ ?_ | (refine ak ?_; intro ss bb) | refine ae ?_ | refine j6 ?_)
 refine aD x_ rfl (.cell _ _ _ _ _ rfl mm_ (by kernel_rfl) (by kernel_rfl) (by kernel_rfl)) (fun _ => ?_)
 exact lU (.cons (.flat rfl) (.cons (.flat rfl) (.cons (.flat rfl) .nil)))
theorem sX (f lo : Nat) (st : aQ) (hsm : st.small 1048576) (nb : Int) : Ct Tryz.prog GL 102 [.cp f (st.tw lo), .int .i64 nb] (fun _ => .bool (lB st nb)) := by
 refine aq Tryz.func102 rfl Tryz.ntmps102 rfl rfl fun w0 _ hG => ?_
 have hst := eg
 have k1 := jI hst lo st.classes hsm.1
 have k2 := bm (G := GL) st.made st.objects.length 800
 have k4 := bm (G := GL) st.budget 0 3000
 have k5 := bm (G := GL) st.ticks 0 st.budget
 have hol := aG st.output
 have hbl := au.len lo st.objects
 have hcn := aa.len lo st.classes
 have hz1 := hsm.2.1.1
 have hz2 := hsm.2.2.1
 have hex := fun (o : au) (h : o.small 1048576) (hc : bS st.classes = true) => vr f lo st (sr hc) (kR hc).1 nb o h
 have hln := fun (t : ByteArray) (h : t.size <= 1048576) => gp 3 0 t h
 unfold lB
 unfold aQ.tw at hex |-
 cases hc1 : bS st.classes
 case false =>
   rw [hc1] at k1
   rw [Bool.false_and]
   repeat' (first | refine V_ ?_ | refine ad hG hst (k1) ?_)
   exact r1_
 rw [hc1] at k1
 rw [Bool.true_and]
 cases hc2 : inR st.made st.objects.length 800
 case false =>
   rw [hc2] at k2
   rw [Bool.false_and]
   repeat' (first | refine V_ ?_ | refine ad hG hst (k1) ?_ | refine ad hG hst (k2) ?_)
   exact r1_
 rw [hc2] at k2
 rw [Bool.true_and]
 by_cases hc3 : st.output.length <= 60
 case neg =>
   rw [decide_eq_false hc3, Bool.false_and]
   repeat' (first | refine V_ ?_ | refine ad hG hst (k1) ?_ | refine ad hG hst (k2) ?_)
   exact r1_
 rw [decide_eq_true hc3, Bool.true_and]
 cases hc4 : inR st.budget 0 3000
 case false =>
   rw [hc4] at k4
   rw [Bool.false_and]
   repeat' (first | refine V_ ?_ | refine ad hG hst (k1) ?_ | refine ad hG hst (k2) ?_ | refine ad hG hst (k4) ?_)
   exact r1_
 rw [hc4] at k4
 rw [Bool.true_and]
 cases hc5 : inR st.ticks 0 st.budget
 case false =>
   rw [hc5] at k5
   rw [Bool.false_and]
   repeat' (first | refine V_ ?_ | refine ad hG hst (k1) ?_ | refine ad hG hst (k2) ?_ | refine ad hG hst (k4) ?_ | refine ad hG hst (k5) ?_)
   exact r1_
 rw [hc5] at k5
 rw [Bool.true_and]
 repeat' (first | refine V_ ?_ | refine ad hG hst (k1) ?_ | refine ad hG hst (k2) ?_ | refine ad hG hst (k4) ?_ | refine ad hG hst (k5) ?_)
 apply ai (X := Nat) [0, 1, 4] (fun i => [(5, .int .i64 (i : Int))]) (fun _ => []) (fun i => i <= st.output.length /\ ∀ y ∈ st.output.take i, fZ y = true) (fun i => st.output.length - i) 0 ⟨Nat.zero_le _, by simp⟩
 exact kp_; exact nw_
 ·exact .refl _
 rintro i ⟨hi, hall⟩
 try dsimp only
 by_cases hlt : i < st.output.length
 ·have hrow := ny hlt
  have hxi := hln _ (hsm.2.2.2 _ (List.getElem_mem hlt))
  have hta := aY (p := fun y => fZ y = true) hlt hall
  cases hfi : fZ st.output[i] with
  | false =>
    rw [show st.output.all fZ = false from Bool.eq_false_iff.2 fun h => (by rw [List.all_eq_true.1 h _ (List.getElem_mem hlt)] at hfi; cases hfi), Bool.false_and]
    rw [oY] at hxi; rw [hfi] at hxi
    generalize st.output[i] = x at hrow hxi
    repeat' (first | refine W_ ?_ | refine ac hG hst (oF (G := GL) x) ?_ | refine ac hG hst (hxi) ?_)
    exact r1_
  | true =>
    rw [oY] at hxi; rw [hfi] at hxi
    rw [hfi] at hta
    generalize st.output[i] = x at hrow hxi
    repeat' (first | refine W_ ?_ | refine ac hG hst (oF (G := GL) x) ?_ | refine ac hG hst (hxi) ?_)
    exact ah (i + 1) ⟨by omega, hta rfl⟩ (by omega) (.of _ nw_ od_ pk_)
 obtain rfl : i = st.output.length := by omega
 rw [List.take_of_length_le (Nat.le_refl _)] at hall
 rw [List.all_eq_true.2 hall, Bool.true_and]
 clear hln hall
 repeat' refine W_ ?_
 have hfo : ∀ i (h : i < st.objects.length), f7 st nb st.objects[i] = false -> st.objects.all (f7 st nb) = false := fun i h hf => Bool.eq_false_iff.2 fun h2 => by
   rw [List.all_eq_true.1 h2 _ (List.getElem_mem h)] at hf; cases hf
 apply ai (X := Nat) [0, 1, 4] (fun i => [(6, .int .i64 (i : Int))]) (fun _ => []) (fun i => i <= st.objects.length /\ ∀ y ∈ st.objects.take i, f7 st nb y = true) (fun i => st.objects.length - i) 0 ⟨Nat.zero_le _, by simp⟩
 exact kp_; exact nw_
 ·exact .refl _
 rintro i ⟨hi, hall⟩
 try dsimp only
 by_cases hlt : i < st.objects.length
 ·have hrow : (st.objects.map (au.tw lo))[i]? = some [.int .i64 st.objects[i].kind, .int .i64 st.objects[i].class_, .sl lo 3 (st.objects[i].fields.map (ab.tw lo)), .sl lo 1 (aR st.objects[i].numbers)] := aL hlt
  have hxi := hex _ (hsm.2.1.2 _ (List.getElem_mem hlt)) hc1
  have hta := aY (p := fun y => f7 st nb y = true) hlt hall
  clear hex
  cases hfi : f7 st nb st.objects[i] with
  | false =>
    rw [hfo i hlt hfi]
    rw [hfi] at hxi
    generalize st.objects[i] = x at hrow hxi
    obtain ⟨xk, xc, xf, xn⟩ := x
    dsimp only at hrow hxi
    repeat' (first | refine W_ ?_ | refine ac hG hst (hxi) ?_)
    exact r1_
  | true =>
    rw [hfi] at hxi hta
    generalize st.objects[i] = x at hrow hxi
    obtain ⟨xk, xc, xf, xn⟩ := x
    dsimp only at hrow hxi
    repeat' (first | refine W_ ?_ | refine ac hG hst (hxi) ?_)
    exact ah (i + 1) ⟨by omega, hta rfl⟩ (by omega) (.of _ nw_ od_ pk_)
 obtain rfl : i = st.objects.length := by omega
 rw [List.take_of_length_le (Nat.le_refl _)] at hall
 rw [List.all_eq_true.2 hall]
 repeat' refine W_ ?_
 exact r1_
theorem yH (lo : Nat) (st : aQ) (hsm : st.small 1048576) (nb : Int) : Ct Tryz.prog GL 153 [.agg (st.tw lo), .int .i64 nb] (fun _ => .bool (lB st nb)) := by
 refine aq Tryz.func153 rfl Tryz.ntmps153 rfl rfl fun w0 _ hG => ?_
 have hst := eg
 have k1 := mW hst lo st.classes hsm.1
 have k2 := aK (G := GL) st.made st.objects.length 800
 have k4 := aK (G := GL) st.budget 0 3000
 have k5 := aK (G := GL) st.ticks 0 st.budget
 have hol := aG st.output
 have hbl := au.len lo st.objects
 have hcn := aa.len lo st.classes
 have hz1 := hsm.2.1.1
 have hz2 := hsm.2.2.1
 have hex := fun (o : au) (h : o.small 1048576) (hc : bS st.classes = true) => wD lo st (sr hc) (kR hc).1 nb o h
 have hln := fun (t : ByteArray) (h : t.size <= 1048576) => nW hst t h
 unfold lB
 unfold aQ.tw at hex |-
 cases hc1 : bS st.classes
 case false =>
   rw [hc1] at k1
   rw [Bool.false_and]
   repeat' (first | refine W_ ?_ | refine aJ ?_ | refine ac hG hst (k1) ?_)
   exact r1_
 rw [hc1] at k1
 rw [Bool.true_and]
 cases hc2 : inR st.made st.objects.length 800
 case false =>
   rw [hc2] at k2
   rw [Bool.false_and]
   repeat' (first | refine W_ ?_ | refine aJ ?_ | refine ac hG hst (k1) ?_ | refine ac hG hst (k2) ?_)
   exact r1_
 rw [hc2] at k2
 rw [Bool.true_and]
 by_cases hc3 : st.output.length <= 60
 case neg =>
   rw [decide_eq_false hc3, Bool.false_and]
   repeat' (first | refine W_ ?_ | refine aJ ?_ | refine ac hG hst (k1) ?_ | refine ac hG hst (k2) ?_)
   exact r1_
 rw [decide_eq_true hc3, Bool.true_and]
 cases hc4 : inR st.budget 0 3000
 case false =>
   rw [hc4] at k4
   rw [Bool.false_and]
   repeat' (first | refine W_ ?_ | refine aJ ?_ | refine ac hG hst (k1) ?_ | refine ac hG hst (k2) ?_ | refine ac hG hst (k4) ?_)
   exact r1_
 rw [hc4] at k4
 rw [Bool.true_and]
 cases hc5 : inR st.ticks 0 st.budget
 case false =>
   rw [hc5] at k5
   rw [Bool.false_and]
   repeat' (first | refine W_ ?_ | refine aJ ?_ | refine ac hG hst (k1) ?_ | refine ac hG hst (k2) ?_ | refine ac hG hst (k4) ?_ | refine ac hG hst (k5) ?_)
   exact r1_
 rw [hc5] at k5
 rw [Bool.true_and]
 repeat' (first | refine W_ ?_ | refine aJ ?_ | refine ac hG hst (k1) ?_ | refine ac hG hst (k2) ?_ | refine ac hG hst (k4) ?_ | refine ac hG hst (k5) ?_)
 apply ai (X := Nat) [1, 2, 4, 43, 44] (fun i => [(45, .int .i64 (i : Int))]) (fun _ => []) (fun i => i <= st.output.length /\ ∀ y ∈ st.output.take i, fZ y = true) (fun i => st.output.length - i) 0 ⟨Nat.zero_le _, by simp⟩
 exact kp_; exact nw_
 ·exact .refl _
 rintro i ⟨hi, hall⟩
 try dsimp only
 by_cases hlt : i < st.output.length
 ·have hrow := ny hlt
  have hxi := hln _ (hsm.2.2.2 _ (List.getElem_mem hlt))
  have hta := aY (p := fun y => fZ y = true) hlt hall
  cases hfi : fZ st.output[i] with
  | false =>
    rw [show st.output.all fZ = false from Bool.eq_false_iff.2 fun h => (by rw [List.all_eq_true.1 h _ (List.getElem_mem hlt)] at hfi; cases hfi), Bool.false_and]
    rw [hfi] at hxi
    generalize st.output[i] = x at hrow hxi
    repeat' (first | refine W_ ?_ | refine ac hG hst (hxi) ?_)
    exact r1_
  | true =>
    rw [hfi] at hxi
    rw [hfi] at hta
    generalize st.output[i] = x at hrow hxi
    repeat' (first | refine W_ ?_ | refine ac hG hst (hxi) ?_)
    exact ah (i + 1) ⟨by omega, hta rfl⟩ (by omega) (.of _ nw_ od_ pk_)
 obtain rfl : i = st.output.length := by omega
 rw [List.take_of_length_le (Nat.le_refl _)] at hall
 rw [List.all_eq_true.2 hall, Bool.true_and]
 clear hln hall
 repeat' refine W_ ?_
 have hfo : ∀ i (h : i < st.objects.length), f7 st nb st.objects[i] = false -> st.objects.all (f7 st nb) = false := fun i h hf => Bool.eq_false_iff.2 fun h2 => by
   rw [List.all_eq_true.1 h2 _ (List.getElem_mem h)] at hf; cases hf
 apply ai (X := Nat) [1, 2, 4, 54, 55] (fun i => [(56, .int .i64 (i : Int))]) (fun _ => []) (fun i => i <= st.objects.length /\ ∀ y ∈ st.objects.take i, f7 st nb y = true) (fun i => st.objects.length - i) 0 ⟨Nat.zero_le _, by simp⟩
 exact kp_; exact nw_
 ·exact .refl _
 rintro i ⟨hi, hall⟩
 try dsimp only
 by_cases hlt : i < st.objects.length
 ·have hrow : (st.objects.map (au.tw lo))[i]? = some [.int .i64 st.objects[i].kind, .int .i64 st.objects[i].class_, .sl lo 3 (st.objects[i].fields.map (ab.tw lo)), .sl lo 1 (aR st.objects[i].numbers)] := aL hlt
  have hxi := hex _ (hsm.2.1.2 _ (List.getElem_mem hlt)) hc1
  have hta := aY (p := fun y => f7 st nb y = true) hlt hall
  clear hex
  cases hfi : f7 st nb st.objects[i] with
  | false =>
    rw [hfo i hlt hfi]
    rw [hfi] at hxi
    generalize st.objects[i] = x at hrow hxi
    obtain ⟨xk, xc, xf, xn⟩ := x
    dsimp only at hrow hxi
    repeat' (first | refine W_ ?_ | (refine ak ?_; intro ss bb) | refine ae ?_ | refine ac hG hst (hxi) ?_)
    exact r1_
  | true =>
    rw [hfi] at hxi hta
    generalize st.objects[i] = x at hrow hxi
    obtain ⟨xk, xc, xf, xn⟩ := x
    dsimp only at hrow hxi
    repeat' (first | refine W_ ?_ | (refine ak ?_; intro ss bb) | refine ae ?_ | refine ac hG hst (hxi) ?_)
    exact ah (i + 1) ⟨by omega, hta rfl⟩ (by omega) (.of _ nw_ od_ pk_)
 obtain rfl : i = st.objects.length := by omega
 rw [List.take_of_length_le (Nat.le_refl _)] at hall
 rw [List.all_eq_true.2 hall]
 repeat' refine W_ ?_
 exact r1_
end Go.Proofs.YtigipcbnfeoliaaGreatDoor
