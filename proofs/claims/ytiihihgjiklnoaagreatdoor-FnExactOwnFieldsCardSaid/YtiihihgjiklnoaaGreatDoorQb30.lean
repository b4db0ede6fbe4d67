/- Part 30 of the proof: the texts ImC. -/
import Derived.Test.YtiihihgjiklnoaaGreatDoorQb28
import Derived.Test.YtiihihgjiklnoaaGreatDoorQb15
/- IsImage: objects of a store on both sides. -/
namespace Go.Proofs.YtiihihgjiklnoaaGreatDoor
set_option maxRecDepth 20000
set_option maxHeartbeats 2000000
open Go Go.RowKit
def vy (l : List Int) : Nat → Int
  | 0 => l.getD 0 0
  | i + 1 => if l.getD (i + 1) 0 < vy l i then l.getD (i + 1) 0 else vy l i
theorem yA (l : List Int) : ∀ i, 0 ≤ vy l i ↔ ∀ j, j ≤ i → 0 ≤ l.getD j 0
  | 0 => by
    unfold vy
    exact ⟨fun h j hj => by rw [Nat.le_zero.1 hj]; exact h, fun h => h 0 (Nat.le_refl _)⟩
  | i + 1 => by
    have ih := yA l i
    unfold vy
    constructor
    · intro h j hj
      rcases Nat.lt_or_ge j (i + 1) with h1 | h1
      · refine ih.1 ?_ j (by omega)
        split at h <;> omega
      · obtain rfl : j = i + 1 := by omega
        split at h <;> omega
    · intro h
      have h1 := ih.2 fun j hj => h j (by omega)
      have h2 := h (i + 1) (Nat.le_refl _)
      split <;> assumption
def nnL (l : List Int) : Prop := ∀ n ∈ l, 0 ≤ n
instance (l : List Int) : Decidable (nnL l) := by unfold nnL; infer_instance
theorem aaa {l : List Int} (h : 0 < l.length) : 0 ≤ vy l (l.length - 1) ↔ nnL l := by
  rw [yA]
  constructor
  · intro h1 n hn
    obtain ⟨j, hj, rfl⟩ := List.getElem_of_mem hn
    have := h1 j (by omega)
    rwa [List.getD_eq_getElem?_getD, List.getElem?_eq_getElem hj] at this
  · intro h1 j hj
    rw [List.getD_eq_getElem?_getD, List.getElem?_eq_getElem (by omega)]
    exact h1 _ (List.getElem_mem _)
theorem sa {G : World → Prop} (lo : Nat) (l : List Int) (hl : 0 < l.length) (hn : l.length ≤ 1048576) : Ct Tryz.prog G 276 [.sl lo 1 (aO l)] (fun _ => .int .i64 (vy l (l.length - 1))) := by
  refine ao Tryz.func276 rfl Tryz.ntmps276 rfl rfl fun w0 _ hG => ?_
  have hlen := aq l
  have h0 : (aO l)[0]? = some [.int .i64 (vy l 0)] := by
    rw [iG hl]
    unfold vy
    rw [List.getD_eq_getElem?_getD, List.getElem?_eq_getElem hl]; rfl
  repeat' (first | refine W_ ?_ | refine c_ (fun hc => ?_) (fun hc => ?_) | refine g_ (fun hg => ?_) (fun hg => ?_))
  apply aj (X := Nat) [0] (fun i => [(4, .int .i64 ((i : Int) + 1)), (3, .int .i64 (vy l i))]) (fun _ => []) (fun i => i < l.length) (fun i => l.length - i) 0 hl
  exact kp_; exact nw_
  · exact .refl _
  intro i hi
  try dsimp only
  by_cases hlt : i + 1 < l.length
  · have hrow : (aO l)[i + 1]? = some [.int .i64 (l.getD (i + 1) 0)] := by
      rw [iG hlt, List.getD_eq_getElem?_getD, List.getElem?_eq_getElem hlt]; rfl
    have hs : vy l (i + 1) = if l.getD (i + 1) 0 < vy l i then l.getD (i + 1) 0 else vy l i := rfl
    have hi1 : (i : Int) + 1 = ((i + 1 : Nat) : Int) := by omega
    rw [hi1]
    generalize l.getD (i + 1) 0 = v at hrow hs
    repeat' (first | refine W_ ?_ | ((with_reducible apply adD); rfl; rfl; rfl) | refine c_ (fun hc => ?_) (fun hc => ?_) | refine g_ (fun hg => ?_) (fun hg => ?_))
    exact ah (i + 1) hlt (by omega) (.of _ (by rw [hs]; exact nw_) od_ pk_)
  · obtain rfl : i = l.length - 1 := by omega
    rw [show ((l.length - 1 : Nat) : Int) + 1 = (l.length : Int) by omega]
    repeat' (first | refine W_ ?_ | refine c_ (fun hc => ?_) (fun hc => ?_) | refine g_ (fun hg => ?_) (fun hg => ?_))
    exact r1_
def abt (cl : List aa) (k : Int) : Nat := match cl[k.toNat]? with
  | some c => c.fields.length
  | none => 0
open Classical in
noncomputable def fE (st : aM) (nb : Int) (o : au) : Bool :=
  o.fields.all (ck st nb) &&
  (if o.kind = 1 then decide ((0 ≤ o.class_ ∧ o.class_ < st.classes.length) ∧ ¬ (5 ≤ o.class_ ∧ o.class_ ≤ 15) ∧ o.fields.length = abt st.classes o.class_) && decide (o.numbers.length = if tF st.classes 1 o.class_ then 3 else 0)
   else if o.kind = 2 then decide (o.class_ = 10 ∧ o.fields.length ≤ 50 ∧ o.numbers.length = 0)
   else if o.kind = 3 then decide (o.class_ = 12 ∧ o.fields.length = 0 ∧ 1 ≤ o.numbers.length ∧ nnL o.numbers)
   else false)
theorem eh {st : aM} {nb : Int} {l : List ae} {i : Nat} (h : i < l.length) (hf : ck st nb l[i] = false) : l.all (ck st nb) = false := by
  rw [Bool.eq_false_iff]
  intro h2
  have := List.all_eq_true.1 h2 _ (List.getElem_mem h)
  rw [hf] at this; cases this
theorem jg {lo : Nat} {l : List ae} {i : Nat} (h : i < l.length) : (l.map (ae.tw lo))[i]? = some [.int .i64 l[i].kind, .int .i64 l[i].number, .str l[i].text] := aH h
theorem rO (k : Int) : k = 1 ∨ k = 2 ∨ k = 3 ∨ (¬ k = 1 ∧ ¬ k = 2 ∧ ¬ k = 3) := by omega
set_option maxHeartbeats 1000000 in
theorem tL (lo : Nat) (st : aM) (hcl : fT st.classes) (h16 : 16 ≤ st.classes.length ∧ st.classes.length ≤ 24) (nb : Int) (o : au) (ho : o.small 1048576) : Ct Tryz.prog GL 239 [.agg (st.tw lo), .agg [.int .i64 o.kind, .int .i64 o.class_, .sl lo 3 (o.fields.map (ae.tw lo)), .sl lo 1 (aO o.numbers)], .int .i64 nb] (fun _ => .bool (fE st nb o)) := by
  refine ao Tryz.func239 rfl Tryz.ntmps239 rfl rfl fun w0 _ hG => ?_
  have hst := df
  obtain ⟨ok, oc, fs, ns⟩ := o
  have hf1 := ho.1.1
  have hf2 := ho.1.2
  have hn1 := ho.2
  dsimp only at hf1 hf2 hn1 ⊢
  have hfl := ae.len lo fs
  have hnl := aq ns
  have hcn := aa.len lo st.classes
  have hex := fun (x : ae) (h : x.text.size ≤ 1048576) => mG lo st nb x h
  unfold aM.tw at hex ⊢
  repeat' (first | refine W_ ?_ | refine aE ?_ | refine c_ (fun hc => ?_) (fun hc => ?_) | refine g_ (fun hg => ?_) (fun hg => ?_))
  apply aj (X := Nat) [2, 3, 4, 10, 11] (fun i => [(12, .int .i64 (i : Int))]) (fun _ => []) (fun i => i ≤ fs.length ∧ ∀ y ∈ fs.take i, ck st nb y = true) (fun i => fs.length - i) 0 ⟨Nat.zero_le _, by simp⟩
  exact kp_; exact nw_
  · exact .refl _
  rintro i ⟨hi, hall⟩
  try dsimp only
  by_cases hlt : i < fs.length
  · have hrow := jg (lo := lo) hlt
    have hxi := hex _ (hf2 _ (List.getElem_mem hlt))
    have hta := aT (p := fun y => ck st nb y = true) hlt hall
    cases hfi : ck st nb fs[i] with
    | false =>
      have e : fE st nb ⟨ok, oc, fs, ns⟩ = false := by
        unfold fE
        rw [eh hlt hfi, Bool.false_and]
      rw [e]
      rw [hfi] at hxi
      generalize fs[i] = x at hrow hxi
      repeat' (first | refine W_ ?_ | (refine ai ?_; intro ss bb) | refine ad ?_ | refine ab hG hst (hxi) ?_ | refine c_ (fun hc => ?_) (fun hc => ?_) | refine g_ (fun hg => ?_) (fun hg => ?_))
      exact r1_
    | true =>
      rw [hfi] at hxi hta
      generalize fs[i] = x at hrow hxi
      repeat' (first | refine W_ ?_ | (refine ai ?_; intro ss bb) | refine ad ?_ | refine ab hG hst (hxi) ?_ | refine c_ (fun hc => ?_) (fun hc => ?_) | refine g_ (fun hg => ?_) (fun hg => ?_))
      exact ah (i + 1) ⟨by omega, hta rfl⟩ (by omega) (.of _ nw_ od_ pk_)
  obtain rfl : i = fs.length := by omega
  rw [List.take_of_length_le (Nat.le_refl _)] at hall
  have hA : fs.all (ck st nb) = true := List.all_eq_true.2 hall
  clear hex hall
  rcases rO ok with rfl | rfl | rfl | ⟨g1, g2, g3⟩
  · have e : fE st nb ⟨1, oc, fs, ns⟩ = (decide ((0 ≤ oc ∧ oc < st.classes.length) ∧ ¬ (5 ≤ oc ∧ oc ≤ 15) ∧ fs.length = abt st.classes oc) && decide (ns.length = if tF st.classes 1 oc then 3 else 0)) := by
      unfold fE
      rw [hA, Bool.true_and, if_pos rfl]
    rw [e]
    clear e hA
    have w1 := aK (G := GL) oc 0 ((st.classes.length : Int) - 1)
    have w2 := aK (G := GL) oc 5 15
    rw [show (st.classes.length : Int) - 1 = ((st.classes.length - 1 : Nat) : Int) by omega] at w1
    by_cases hr : 0 ≤ oc ∧ oc < st.classes.length
    case neg =>
      rw [show inR oc 0 ((st.classes.length - 1 : Nat) : Int) = false from by simp only [inR, decide_eq_false_iff_not]; omega] at w1
      rw [decide_eq_false fun h => hr h.1, Bool.false_and]
      repeat' (first | refine V_ ?_ | refine ac hG hst (w1) ?_ | refine ac hG hst (w2) ?_ | refine c_ (fun hc => ?_) (fun hc => ?_) | refine g_ (fun hg => ?_) (fun hg => ?_))
      exact r1_
    rw [show inR oc 0 ((st.classes.length - 1 : Nat) : Int) = true from by simp only [inR, decide_eq_true_eq]; omega] at w1
    by_cases h5 : 5 ≤ oc ∧ oc ≤ 15
    · rw [show inR oc 5 15 = true from by simp only [inR, decide_eq_true_eq]; omega] at w2
      rw [decide_eq_false fun h => h.2.1 h5, Bool.false_and]
      repeat' (first | refine V_ ?_ | refine ac hG hst (w1) ?_ | refine ac hG hst (w2) ?_ | refine c_ (fun hc => ?_) (fun hc => ?_) | refine g_ (fun hg => ?_) (fun hg => ?_))
      exact r1_
    rw [show inR oc 5 15 = false from by simp only [inR, decide_eq_false_iff_not]; exact h5] at w2
    obtain ⟨c, rfl⟩ : ∃ c : Nat, oc = c := ⟨oc.toNat, by omega⟩
    have hc : c < st.classes.length := by omega
    have hrow := iq (lo := lo) hc
    have hfn : abt st.classes (c : Int) = st.classes[c].fields.length := by
      unfold abt
      rw [Int.toNat_natCast, List.getElem?_eq_getElem hc]
    have hib := od (G := GL) lo st.classes hcl (c : Int) 1 (by omega)
    rw [hfn]
    generalize st.classes[c] = x at hrow hfn ⊢
    have hxl := bf x.fields
    by_cases hlen : fs.length = x.fields.length
    case neg =>
      have hne : (fs.length : Int) ≠ x.fields.length := by omega
      rw [decide_eq_false fun h => hlen h.2.2, Bool.false_and]
      repeat' (first | refine V_ ?_ | refine ac hG hst (w1) ?_ | refine ac hG hst (w2) ?_ | refine c_ (fun hc => ?_) (fun hc => ?_) | refine g_ (fun hg => ?_) (fun hg => ?_))
      exact r1_
    have hne : ¬ ((fs.length : Int) ≠ x.fields.length) := by omega
    rw [decide_eq_true ⟨hr, h5, hlen⟩, Bool.true_and]
    generalize tF st.classes 1 (c : Int) = b at hib ⊢
    cases b
    all_goals
      repeat' (first | refine V_ ?_ | refine ac hG hst (w1) ?_ | refine ac hG hst (w2) ?_ | refine ab hG hst (hib) ?_ | refine c_ (fun hc => ?_) (fun hc => ?_) | refine g_ (fun hg => ?_) (fun hg => ?_))
      refine aB x_ rfl (.tmp _ _ rfl) (fun _ => ?_)
      exact aJ (by first | (simp; done) | (simp; omega))
  · have e : fE st nb ⟨2, oc, fs, ns⟩ = decide (oc = 10 ∧ fs.length ≤ 50 ∧ ns.length = 0) := by
      unfold fE
      rw [hA, Bool.true_and, if_neg (by dsimp only; decide), if_pos rfl]
    rw [e]
    clear e hA
    repeat' (first | refine W_ ?_ | refine c_ (fun hc => ?_) (fun hc => ?_) | refine g_ (fun hg => ?_) (fun hg => ?_))
    all_goals
      refine aB x_ rfl (.tmp _ _ rfl) (fun _ => ?_)
      refine aJ ?_
      first
        | (rw [decide_eq_decide]; omega)
        | (symm; rw [decide_eq_false_iff_not]; omega)
  · have e : fE st nb ⟨3, oc, fs, ns⟩ = decide (oc = 12 ∧ fs.length = 0 ∧ 1 ≤ ns.length ∧ nnL ns) := by
      unfold fE
      rw [hA, Bool.true_and, if_neg (by dsimp only; decide), if_neg (by dsimp only; decide), if_pos rfl]
    rw [e]
    clear e hA
    by_cases hns : 0 < ns.length
    · have hmi := sa (G := GL) lo ns hns hn1
      have hma := aaa hns
      generalize vy ns (ns.length - 1) = mv at hmi hma
      repeat' (first | refine W_ ?_ | refine ab hG hst (hmi) ?_ | refine c_ (fun hc => ?_) (fun hc => ?_) | refine g_ (fun hg => ?_) (fun hg => ?_))
      all_goals
        refine aB x_ rfl (.tmp _ _ rfl) (fun _ => ?_)
        refine aJ ?_
        first
          | (rw [decide_eq_decide, ← hma]; omega)
          | (symm; rw [decide_eq_false_iff_not, ← hma]; omega)
    · repeat' (first | refine W_ ?_ | refine c_ (fun hc => ?_) (fun hc => ?_) | refine g_ (fun hg => ?_) (fun hg => ?_))
      all_goals
        refine aB x_ rfl (.tmp _ _ rfl) (fun _ => ?_)
        refine aJ ?_
        first
          | (symm; rw [decide_eq_false_iff_not]; omega)
          | (symm; rw [decide_eq_false_iff_not]; rintro ⟨_, _, h, _⟩; omega)
  · have e : fE st nb ⟨ok, oc, fs, ns⟩ = false := by
      unfold fE
      rw [if_neg g1, if_neg g2, if_neg g3, Bool.and_false]
    rw [e]
    repeat' (first | refine W_ ?_ | refine c_ (fun hc => ?_) (fun hc => ?_) | refine g_ (fun hg => ?_) (fun hg => ?_))
    exact r1_
end Go.Proofs.YtiihihgjiklnoaaGreatDoor
