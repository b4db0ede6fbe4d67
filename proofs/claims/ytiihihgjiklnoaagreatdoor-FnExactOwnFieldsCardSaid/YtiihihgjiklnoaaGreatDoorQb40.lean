/- Part 40 of the proof: the texts ImE. -/
import Derived.Test.YtiihihgjiklnoaaGreatDoorQb34
import Derived.Test.YtiihihgjiklnoaaGreatDoorQb22
import Derived.Test.YtiihihgjiklnoaaGreatDoorQb18
/- IsImage: a store on both sides. -/
namespace Go.Proofs.YtiihihgjiklnoaaGreatDoor
set_option maxRecDepth 20000
set_option maxHeartbeats 2000000
open Go Go.RowKit
open Classical in
noncomputable def j7 (st : aM) (nb : Int) : Bool :=
  bP st.classes && (inR st.made st.objects.length 800 && (decide (st.output.length ≤ 60) && (inR st.budget 0 3000 && (inR st.ticks 0 st.budget && (st.output.all fe && st.objects.all (fE st nb))))))
theorem nd (t : ByteArray) : jA 3 0 t = fe t := by
  unfold jA
  rw [if_neg (by decide), if_neg (by decide), if_neg (by decide), if_pos rfl, decide_eq_true rfl, Bool.true_and]
theorem mJ {G : World → Prop} (t : ByteArray) : Ct Tryz.prog G 165 [.str t] (fun _ => .agg [.int .i64 3, .int .i64 0, .str t]) := by
  refine ao Tryz.func165 rfl Tryz.ntmps165 rfl rfl fun w0 _ hG => ?_
  repeat' (first | refine W_ ?_ | (refine ai ?_; intro ss bb) | refine ad ?_ | refine kn ?_ | refine c_ (fun hc => ?_) (fun hc => ?_) | refine g_ (fun hg => ?_) (fun hg => ?_))
  refine aB x_ rfl (.cell _ _ _ _ _ rfl mm_ (by kernel_rfl) (by kernel_rfl) (by kernel_rfl)) (fun _ => ?_)
  exact eg (.cons (.flat rfl) (.cons (.flat rfl) (.cons (.flat rfl) .nil)))
set_option maxHeartbeats 4000000 in
theorem rb (f lo : Nat) (st : aM) (hsm : st.small 1048576) (nb : Int) : Ct Tryz.prog GL 162 [.cp f (st.tw lo), .int .i64 nb] (fun _ => .bool (j7 st nb)) := by
  refine ao Tryz.func162 rfl Tryz.ntmps162 rfl rfl fun w0 _ hG => ?_
  have hst := df
  have k1 := iZ hst lo st.classes hsm.1
  have k2 := a7 (G := GL) st.made st.objects.length 800
  have k4 := a7 (G := GL) st.budget 0 3000
  have k5 := a7 (G := GL) st.ticks 0 st.budget
  have hol := bf st.output
  have hbl := au.len lo st.objects
  have hcn := aa.len lo st.classes
  have hz1 := hsm.2.1.1
  have hz2 := hsm.2.2.1
  have hex := fun (o : au) (h : o.small 1048576) (hc : bP st.classes = true) => tH f lo st (qg hc) (jE hc).1 nb o h
  have hln := fun (t : ByteArray) (h : t.size ≤ 1048576) => fH 3 0 t h
  unfold j7
  unfold aM.tw at hex ⊢
  cases hc1 : bP st.classes
  case false =>
    rw [hc1] at k1
    rw [Bool.false_and]
    repeat' (first | refine V_ ?_ | refine ac hG hst (k1) ?_ | refine ac hG hst (k2) ?_ | refine ac hG hst (k4) ?_ | refine ac hG hst (k5) ?_ | refine ab hG hst (k1) ?_ | refine ab hG hst (k2) ?_ | refine ab hG hst (k4) ?_ | refine ab hG hst (k5) ?_ | refine c_ (fun hc => ?_) (fun hc => ?_) | refine g_ (fun hg => ?_) (fun hg => ?_))
    exact r1_
  rw [hc1] at k1
  rw [Bool.true_and]
  cases hc2 : inR st.made st.objects.length 800
  case false =>
    rw [hc2] at k2
    rw [Bool.false_and]
    repeat' (first | refine V_ ?_ | refine ac hG hst (k1) ?_ | refine ac hG hst (k2) ?_ | refine ac hG hst (k4) ?_ | refine ac hG hst (k5) ?_ | refine ab hG hst (k1) ?_ | refine ab hG hst (k2) ?_ | refine ab hG hst (k4) ?_ | refine ab hG hst (k5) ?_ | refine c_ (fun hc => ?_) (fun hc => ?_) | refine g_ (fun hg => ?_) (fun hg => ?_))
    exact r1_
  rw [hc2] at k2
  rw [Bool.true_and]
  by_cases hc3 : st.output.length ≤ 60
  case neg =>
    rw [decide_eq_false hc3, Bool.false_and]
    repeat' (first | refine V_ ?_ | refine ac hG hst (k1) ?_ | refine ac hG hst (k2) ?_ | refine ac hG hst (k4) ?_ | refine ac hG hst (k5) ?_ | refine ab hG hst (k1) ?_ | refine ab hG hst (k2) ?_ | refine ab hG hst (k4) ?_ | refine ab hG hst (k5) ?_ | refine c_ (fun hc => ?_) (fun hc => ?_) | refine g_ (fun hg => ?_) (fun hg => ?_))
    exact r1_
  rw [decide_eq_true hc3, Bool.true_and]
  cases hc4 : inR st.budget 0 3000
  case false =>
    rw [hc4] at k4
    rw [Bool.false_and]
    repeat' (first | refine V_ ?_ | refine ac hG hst (k1) ?_ | refine ac hG hst (k2) ?_ | refine ac hG hst (k4) ?_ | refine ac hG hst (k5) ?_ | refine ab hG hst (k1) ?_ | refine ab hG hst (k2) ?_ | refine ab hG hst (k4) ?_ | refine ab hG hst (k5) ?_ | refine c_ (fun hc => ?_) (fun hc => ?_) | refine g_ (fun hg => ?_) (fun hg => ?_))
    exact r1_
  rw [hc4] at k4
  rw [Bool.true_and]
  cases hc5 : inR st.ticks 0 st.budget
  case false =>
    rw [hc5] at k5
    rw [Bool.false_and]
    repeat' (first | refine V_ ?_ | refine ac hG hst (k1) ?_ | refine ac hG hst (k2) ?_ | refine ac hG hst (k4) ?_ | refine ac hG hst (k5) ?_ | refine ab hG hst (k1) ?_ | refine ab hG hst (k2) ?_ | refine ab hG hst (k4) ?_ | refine ab hG hst (k5) ?_ | refine c_ (fun hc => ?_) (fun hc => ?_) | refine g_ (fun hg => ?_) (fun hg => ?_))
    exact r1_
  rw [hc5] at k5
  rw [Bool.true_and]
  repeat' (first | refine V_ ?_ | refine ac hG hst (k1) ?_ | refine ac hG hst (k2) ?_ | refine ac hG hst (k4) ?_ | refine ac hG hst (k5) ?_ | refine ab hG hst (k1) ?_ | refine ab hG hst (k2) ?_ | refine ab hG hst (k4) ?_ | refine ab hG hst (k5) ?_ | refine c_ (fun hc => ?_) (fun hc => ?_) | refine g_ (fun hg => ?_) (fun hg => ?_))
  apply aj (X := Nat) [0, 1, 4] (fun i => [(5, .int .i64 (i : Int))]) (fun _ => []) (fun i => i ≤ st.output.length ∧ ∀ y ∈ st.output.take i, fe y = true) (fun i => st.output.length - i) 0 ⟨Nat.zero_le _, by simp⟩
  exact kp_; exact nw_
  · exact .refl _
  rintro i ⟨hi, hall⟩
  try dsimp only
  by_cases hlt : i < st.output.length
  · have hrow := lQ hlt
    have hxi := hln _ (hsm.2.2.2 _ (List.getElem_mem hlt))
    have hta := aT (p := fun y => fe y = true) hlt hall
    cases hfi : fe st.output[i] with
    | false =>
      rw [show st.output.all fe = false from Bool.eq_false_iff.2 fun h => (by rw [List.all_eq_true.1 h _ (List.getElem_mem hlt)] at hfi; cases hfi), Bool.false_and]
      rw [nd] at hxi; rw [hfi] at hxi
      generalize st.output[i] = x at hrow hxi
      repeat' (first | refine W_ ?_ | refine ab hG hst (mJ (G := GL) x) ?_ | refine ab hG hst (hxi) ?_ | refine c_ (fun hc => ?_) (fun hc => ?_) | refine g_ (fun hg => ?_) (fun hg => ?_))
      exact r1_
    | true =>
      rw [nd] at hxi; rw [hfi] at hxi
      rw [hfi] at hta
      generalize st.output[i] = x at hrow hxi
      repeat' (first | refine W_ ?_ | refine ab hG hst (mJ (G := GL) x) ?_ | refine ab hG hst (hxi) ?_ | refine c_ (fun hc => ?_) (fun hc => ?_) | refine g_ (fun hg => ?_) (fun hg => ?_))
      exact ah (i + 1) ⟨by omega, hta rfl⟩ (by omega) (.of _ nw_ od_ pk_)
  obtain rfl : i = st.output.length := by omega
  rw [List.take_of_length_le (Nat.le_refl _)] at hall
  rw [List.all_eq_true.2 hall, Bool.true_and]
  clear hln hall
  repeat' (first | refine W_ ?_ | refine c_ (fun hc => ?_) (fun hc => ?_) | refine g_ (fun hg => ?_) (fun hg => ?_))
  have hfo : ∀ i (h : i < st.objects.length), fE st nb st.objects[i] = false → st.objects.all (fE st nb) = false := fun i h hf => Bool.eq_false_iff.2 fun h2 => by
    rw [List.all_eq_true.1 h2 _ (List.getElem_mem h)] at hf; cases hf
  apply aj (X := Nat) [0, 1, 4] (fun i => [(6, .int .i64 (i : Int))]) (fun _ => []) (fun i => i ≤ st.objects.length ∧ ∀ y ∈ st.objects.take i, fE st nb y = true) (fun i => st.objects.length - i) 0 ⟨Nat.zero_le _, by simp⟩
  exact kp_; exact nw_
  · exact .refl _
  rintro i ⟨hi, hall⟩
  try dsimp only
  by_cases hlt : i < st.objects.length
  · have hrow : (st.objects.map (au.tw lo))[i]? = some [.int .i64 st.objects[i].kind, .int .i64 st.objects[i].class_, .sl lo 3 (st.objects[i].fields.map (ae.tw lo)), .sl lo 1 (aO st.objects[i].numbers)] := aH hlt
    have hxi := hex _ (hsm.2.1.2 _ (List.getElem_mem hlt)) hc1
    have hta := aT (p := fun y => fE st nb y = true) hlt hall
    clear hex
    cases hfi : fE st nb st.objects[i] with
    | false =>
      rw [hfo i hlt hfi]
      rw [hfi] at hxi
      generalize st.objects[i] = x at hrow hxi
      obtain ⟨xk, xc, xf, xn⟩ := x
      dsimp only at hrow hxi
      repeat' (first | refine W_ ?_ | refine ab hG hst (hxi) ?_ | refine c_ (fun hc => ?_) (fun hc => ?_) | refine g_ (fun hg => ?_) (fun hg => ?_))
      exact r1_
    | true =>
      rw [hfi] at hxi hta
      generalize st.objects[i] = x at hrow hxi
      obtain ⟨xk, xc, xf, xn⟩ := x
      dsimp only at hrow hxi
      repeat' (first | refine W_ ?_ | refine ab hG hst (hxi) ?_ | refine c_ (fun hc => ?_) (fun hc => ?_) | refine g_ (fun hg => ?_) (fun hg => ?_))
      exact ah (i + 1) ⟨by omega, hta rfl⟩ (by omega) (.of _ nw_ od_ pk_)
  obtain rfl : i = st.objects.length := by omega
  rw [List.take_of_length_le (Nat.le_refl _)] at hall
  rw [List.all_eq_true.2 hall]
  repeat' (first | refine W_ ?_ | refine c_ (fun hc => ?_) (fun hc => ?_) | refine g_ (fun hg => ?_) (fun hg => ?_))
  exact r1_
set_option maxHeartbeats 4000000 in
theorem wu (lo : Nat) (st : aM) (hsm : st.small 1048576) (nb : Int) : Ct Tryz.prog GL 179 [.agg (st.tw lo), .int .i64 nb] (fun _ => .bool (j7 st nb)) := by
  refine ao Tryz.func179 rfl Tryz.ntmps179 rfl rfl fun w0 _ hG => ?_
  have hst := df
  have k1 := k7 hst lo st.classes hsm.1
  have k2 := aK (G := GL) st.made st.objects.length 800
  have k4 := aK (G := GL) st.budget 0 3000
  have k5 := aK (G := GL) st.ticks 0 st.budget
  have hol := bf st.output
  have hbl := au.len lo st.objects
  have hcn := aa.len lo st.classes
  have hz1 := hsm.2.1.1
  have hz2 := hsm.2.2.1
  have hex := fun (o : au) (h : o.small 1048576) (hc : bP st.classes = true) => tL lo st (qg hc) (jE hc).1 nb o h
  have hln := fun (t : ByteArray) (h : t.size ≤ 1048576) => nk hst t h
  unfold j7
  unfold aM.tw at hex ⊢
  cases hc1 : bP st.classes
  case false =>
    rw [hc1] at k1
    rw [Bool.false_and]
    repeat' (first | refine W_ ?_ | refine aE ?_ | refine ab hG hst (k1) ?_ | refine ab hG hst (k2) ?_ | refine ab hG hst (k4) ?_ | refine ab hG hst (k5) ?_ | refine c_ (fun hc => ?_) (fun hc => ?_) | refine g_ (fun hg => ?_) (fun hg => ?_))
    exact r1_
  rw [hc1] at k1
  rw [Bool.true_and]
  cases hc2 : inR st.made st.objects.length 800
  case false =>
    rw [hc2] at k2
    rw [Bool.false_and]
    repeat' (first | refine W_ ?_ | refine aE ?_ | refine ab hG hst (k1) ?_ | refine ab hG hst (k2) ?_ | refine ab hG hst (k4) ?_ | refine ab hG hst (k5) ?_ | refine c_ (fun hc => ?_) (fun hc => ?_) | refine g_ (fun hg => ?_) (fun hg => ?_))
    exact r1_
  rw [hc2] at k2
  rw [Bool.true_and]
  by_cases hc3 : st.output.length ≤ 60
  case neg =>
    rw [decide_eq_false hc3, Bool.false_and]
    repeat' (first | refine W_ ?_ | refine aE ?_ | refine ab hG hst (k1) ?_ | refine ab hG hst (k2) ?_ | refine ab hG hst (k4) ?_ | refine ab hG hst (k5) ?_ | refine c_ (fun hc => ?_) (fun hc => ?_) | refine g_ (fun hg => ?_) (fun hg => ?_))
    exact r1_
  rw [decide_eq_true hc3, Bool.true_and]
  cases hc4 : inR st.budget 0 3000
  case false =>
    rw [hc4] at k4
    rw [Bool.false_and]
    repeat' (first | refine W_ ?_ | refine aE ?_ | refine ab hG hst (k1) ?_ | refine ab hG hst (k2) ?_ | refine ab hG hst (k4) ?_ | refine ab hG hst (k5) ?_ | refine c_ (fun hc => ?_) (fun hc => ?_) | refine g_ (fun hg => ?_) (fun hg => ?_))
    exact r1_
  rw [hc4] at k4
  rw [Bool.true_and]
  cases hc5 : inR st.ticks 0 st.budget
  case false =>
    rw [hc5] at k5
    rw [Bool.false_and]
    repeat' (first | refine W_ ?_ | refine aE ?_ | refine ab hG hst (k1) ?_ | refine ab hG hst (k2) ?_ | refine ab hG hst (k4) ?_ | refine ab hG hst (k5) ?_ | refine c_ (fun hc => ?_) (fun hc => ?_) | refine g_ (fun hg => ?_) (fun hg => ?_))
    exact r1_
  rw [hc5] at k5
  rw [Bool.true_and]
  repeat' (first | refine W_ ?_ | refine aE ?_ | refine ab hG hst (k1) ?_ | refine ab hG hst (k2) ?_ | refine ab hG hst (k4) ?_ | refine ab hG hst (k5) ?_ | refine c_ (fun hc => ?_) (fun hc => ?_) | refine g_ (fun hg => ?_) (fun hg => ?_))
  apply aj (X := Nat) [1, 2, 4, 43, 44] (fun i => [(45, .int .i64 (i : Int))]) (fun _ => []) (fun i => i ≤ st.output.length ∧ ∀ y ∈ st.output.take i, fe y = true) (fun i => st.output.length - i) 0 ⟨Nat.zero_le _, by simp⟩
  exact kp_; exact nw_
  · exact .refl _
  rintro i ⟨hi, hall⟩
  try dsimp only
  by_cases hlt : i < st.output.length
  · have hrow := lQ hlt
    have hxi := hln _ (hsm.2.2.2 _ (List.getElem_mem hlt))
    have hta := aT (p := fun y => fe y = true) hlt hall
    cases hfi : fe st.output[i] with
    | false =>
      rw [show st.output.all fe = false from Bool.eq_false_iff.2 fun h => (by rw [List.all_eq_true.1 h _ (List.getElem_mem hlt)] at hfi; cases hfi), Bool.false_and]
      rw [hfi] at hxi
      generalize st.output[i] = x at hrow hxi
      repeat' (first | refine W_ ?_ | refine ab hG hst (hxi) ?_ | refine c_ (fun hc => ?_) (fun hc => ?_) | refine g_ (fun hg => ?_) (fun hg => ?_))
      exact r1_
    | true =>
      rw [hfi] at hxi
      rw [hfi] at hta
      generalize st.output[i] = x at hrow hxi
      repeat' (first | refine W_ ?_ | refine ab hG hst (hxi) ?_ | refine c_ (fun hc => ?_) (fun hc => ?_) | refine g_ (fun hg => ?_) (fun hg => ?_))
      exact ah (i + 1) ⟨by omega, hta rfl⟩ (by omega) (.of _ nw_ od_ pk_)
  obtain rfl : i = st.output.length := by omega
  rw [List.take_of_length_le (Nat.le_refl _)] at hall
  rw [List.all_eq_true.2 hall, Bool.true_and]
  clear hln hall
  repeat' (first | refine W_ ?_ | refine c_ (fun hc => ?_) (fun hc => ?_) | refine g_ (fun hg => ?_) (fun hg => ?_))
  have hfo : ∀ i (h : i < st.objects.length), fE st nb st.objects[i] = false → st.objects.all (fE st nb) = false := fun i h hf => Bool.eq_false_iff.2 fun h2 => by
    rw [List.all_eq_true.1 h2 _ (List.getElem_mem h)] at hf; cases hf
  apply aj (X := Nat) [1, 2, 4, 54, 55] (fun i => [(56, .int .i64 (i : Int))]) (fun _ => []) (fun i => i ≤ st.objects.length ∧ ∀ y ∈ st.objects.take i, fE st nb y = true) (fun i => st.objects.length - i) 0 ⟨Nat.zero_le _, by simp⟩
  exact kp_; exact nw_
  · exact .refl _
  rintro i ⟨hi, hall⟩
  try dsimp only
  by_cases hlt : i < st.objects.length
  · have hrow : (st.objects.map (au.tw lo))[i]? = some [.int .i64 st.objects[i].kind, .int .i64 st.objects[i].class_, .sl lo 3 (st.objects[i].fields.map (ae.tw lo)), .sl lo 1 (aO st.objects[i].numbers)] := aH hlt
    have hxi := hex _ (hsm.2.1.2 _ (List.getElem_mem hlt)) hc1
    have hta := aT (p := fun y => fE st nb y = true) hlt hall
    clear hex
    cases hfi : fE st nb st.objects[i] with
    | false =>
      rw [hfo i hlt hfi]
      rw [hfi] at hxi
      generalize st.objects[i] = x at hrow hxi
      obtain ⟨xk, xc, xf, xn⟩ := x
      dsimp only at hrow hxi
      repeat' (first | refine W_ ?_ | (refine ai ?_; intro ss bb) | refine ad ?_ | refine ab hG hst (hxi) ?_ | refine c_ (fun hc => ?_) (fun hc => ?_) | refine g_ (fun hg => ?_) (fun hg => ?_))
      exact r1_
    | true =>
      rw [hfi] at hxi hta
      generalize st.objects[i] = x at hrow hxi
      obtain ⟨xk, xc, xf, xn⟩ := x
      dsimp only at hrow hxi
      repeat' (first | refine W_ ?_ | (refine ai ?_; intro ss bb) | refine ad ?_ | refine ab hG hst (hxi) ?_ | refine c_ (fun hc => ?_) (fun hc => ?_) | refine g_ (fun hg => ?_) (fun hg => ?_))
      exact ah (i + 1) ⟨by omega, hta rfl⟩ (by omega) (.of _ nw_ od_ pk_)
  obtain rfl : i = st.objects.length := by omega
  rw [List.take_of_length_le (Nat.le_refl _)] at hall
  rw [List.all_eq_true.2 hall]
  repeat' (first | refine W_ ?_ | refine c_ (fun hc => ?_) (fun hc => ?_) | refine g_ (fun hg => ?_) (fun hg => ?_))
  exact r1_
end Go.Proofs.YtiihihgjiklnoaaGreatDoor
