/- Part 12 of the proof: the texts ImC, ImD, IvH, ImE, NeA, ImG0, ImP0. -/
import Derived.Test.YthpdkhejeookhaaGreatDoorPart11
import Derived.Test.YthpdkhejeookhaaGreatDoorPart6
import Derived.Test.YthpdkhejeookhaaGreatDoorPart8
import Derived.Test.YthpdkhejeookhaaGreatDoorPart5
import Derived.Test.YthpdkhejeookhaaGreatDoorPart7
/- IsImage: objects of a store on both sides. -/
namespace Go.Proofs.YthpdkhejeookhaaGreatDoor
set_option maxRecDepth 20000
open Go Go.RowKit
def q3 (l : List Int) : Nat → Int
  | 0 => l.getD 0 0
  | i + 1 => if l.getD (i + 1) 0 < q3 l i then l.getD (i + 1) 0 else q3 l i
theorem tx (l : List Int) : ∀ i, 0 ≤ q3 l i ↔ ∀ j, j ≤ i → 0 ≤ l.getD j 0
  | 0 => by
    unfold q3
    exact ⟨fun h j hj => by rw [Nat.le_zero.1 hj]; exact h, fun h => h 0 (Nat.le_refl _)⟩
  | i + 1 => by
    have ih := tx l i
    unfold q3
    constructor
    · intro h j hj
      rcases Nat.lt_or_ge j (i + 1) with h1 | h1
      · refine ih.1 ?_ j (by omega)
        split at h <;> omega
      · obtain rfl : j = i + 1 := by omega
        split at h <;> omega
    · intro h
      have h1 := ih.2 fun j hj => h j (by omega)
      have h2 := h (i + 1) (Nat.le_refl _)
      split <;> assumption
def nnL (l : List Int) : Prop := ∀ n ∈ l, 0 ≤ n
instance (l : List Int) : Decidable (nnL l) := by unfold nnL; infer_instance
theorem vO {l : List Int} (h : 0 < l.length) : 0 ≤ q3 l (l.length - 1) ↔ nnL l := by
  rw [tx]
  constructor
  · intro h1 n hn
    obtain ⟨j, hj, rfl⟩ := List.getElem_of_mem hn
    have := h1 j (by omega)
    rwa [List.getD_eq_getElem?_getD, List.getElem?_eq_getElem hj] at this
  · intro h1 j hj
    rw [List.getD_eq_getElem?_getD, List.getElem?_eq_getElem (by omega)]
    exact h1 _ (List.getElem_mem _)
theorem nA {G : World → Prop} (lo : Nat) (l : List Int) (hl : 0 < l.length) (hn : l.length ≤ 1048576) : Ct Tryz.prog G 214 [.sl lo 1 (bv l)] (fun _ => .int .i64 (q3 l (l.length - 1))) := by
  refine aJ Tryz.func214 rfl Tryz.ntmps214 rfl rfl fun w0 _ hG => ?_
  have hlen := aS l
  have h0 : (bv l)[0]? = some [.int .i64 (q3 l 0)] := by
    rw [f8 hl]
    unfold q3
    rw [List.getD_eq_getElem?_getD, List.getElem?_eq_getElem hl]; rfl
  repeat' (first | ((with_reducible apply o_y); exact y_; rfl) | with_reducible refine ab rfl ?_ | (with_reducible first | apply ag | apply aa | apply ah | apply ac | apply ai | apply ap) | (refine aj rfl rr_ dd_ ?_))
  apply aK (X := Nat) [0] (fun i => [(4, .int .i64 ((i : Int) + 1)), (3, .int .i64 (q3 l i))]) (fun _ => []) (fun i => i < l.length) (fun i => l.length - i) 0 hl
  exact kp_; (repeat (first | exact bj.envNil | refine bj.envCons we_ ?_))
  · exact .refl _
  intro i hi
  try dsimp only
  by_cases hlt : i + 1 < l.length
  · have hrow : (bv l)[i + 1]? = some [.int .i64 (l.getD (i + 1) 0)] := by
      rw [f8 hlt, List.getD_eq_getElem?_getD, List.getElem?_eq_getElem hlt]; rfl
    have hs : q3 l (i + 1) = if l.getD (i + 1) 0 < q3 l i then l.getD (i + 1) 0 else q3 l i := rfl
    have hi1 : (i : Int) + 1 = ((i + 1 : Nat) : Int) := by omega
    rw [hi1]
    generalize l.getD (i + 1) 0 = v at hrow hs
    repeat' (first | ((with_reducible apply o_y); exact y_; rfl) | ((with_reducible apply zj); rfl; rfl; rfl) | with_reducible refine ab rfl ?_ | (with_reducible first | apply ag | apply aa | apply ah | apply ac | apply ai | apply ap | apply aB) | (refine ae rfl rr_ dd_ ?_))
    exact aG (i + 1) hlt (by omega) (.of _ (by rw [hs]; exact nw_) od_ pk_)
  · obtain rfl : i = l.length - 1 := by omega
    rw [show ((l.length - 1 : Nat) : Int) + 1 = (l.length : Int) by omega]
    repeat' (first | ((with_reducible apply o_y); exact y_; rfl) | with_reducible refine ab rfl ?_ | (with_reducible first | apply ag | apply aa | apply ah | apply ac | apply aH | apply au | apply ar | apply aq) | (refine aj rfl rr_ dd_ ?_))
    refine ao x_ rfl (.tmp _ _ rfl) (fun _ => ?_)
    exact Fin.flat rfl
def xV (cl : List am) (k : Int) : Nat := match cl[k.toNat]? with
  | some c => c.fields.length
  | none => 0
open Classical in
noncomputable def ez (st : br) (nb : Int) (o : aR) : Bool :=
  o.fields.all (ch st nb) &&
  (if o.kind = 1 then decide ((0 ≤ o.class_ ∧ o.class_ < st.classes.length) ∧ ¬ (5 ≤ o.class_ ∧ o.class_ ≤ 15) ∧ o.fields.length = xV st.classes o.class_) && decide (o.numbers.length = if pF st.classes 1 o.class_ then 3 else 0)
   else if o.kind = 2 then decide (o.class_ = 10 ∧ o.fields.length ≤ 50 ∧ o.numbers.length = 0)
   else if o.kind = 3 then decide (o.class_ = 12 ∧ o.fields.length = 0 ∧ 1 ≤ o.numbers.length ∧ nnL o.numbers)
   else false)
theorem dz {st : br} {nb : Int} {l : List aC} {i : Nat} (h : i < l.length) (hf : ch st nb l[i] = false) : l.all (ch st nb) = false := by
  rw [Bool.eq_false_iff]
  intro h2
  have := List.all_eq_true.1 h2 _ (List.getElem_mem h)
  rw [hf] at this; cases this
theorem gL {lo : Nat} {l : List aC} {i : Nat} (h : i < l.length) : (l.map (aC.tw lo))[i]? = some [.int .i64 l[i].kind, .int .i64 l[i].number, .str l[i].text] := bg h
theorem oO (k : Int) : k = 1 ∨ k = 2 ∨ k = 3 ∨ (¬ k = 1 ∧ ¬ k = 2 ∧ ¬ k = 3) := by omega
set_option maxHeartbeats 1000000 in
theorem pB (lo : Nat) (st : br) (hcl : eV st.classes) (h16 : 16 ≤ st.classes.length ∧ st.classes.length ≤ 24) (nb : Int) (o : aR) (ho : o.small 1048576) : Ct Tryz.prog GL 171 [.agg (st.tw lo), .agg [.int .i64 o.kind, .int .i64 o.class_, .sl lo 3 (o.fields.map (aC.tw lo)), .sl lo 1 (bv o.numbers)], .int .i64 nb] (fun _ => .bool (ez st nb o)) := by
  refine aJ Tryz.func171 rfl Tryz.ntmps171 rfl rfl fun w0 _ hG => ?_
  have hst := cZ
  obtain ⟨ok, oc, fs, ns⟩ := o
  have hf1 := ho.1.1
  have hf2 := ho.1.2
  have hn1 := ho.2
  dsimp only at hf1 hf2 hn1 ⊢
  have hfl := aC.len lo fs
  have hnl := aS ns
  have hcn := am.len lo st.classes
  have hex := fun (x : aC) (h : x.text.size ≤ 1048576) => kj lo st nb x h
  unfold br.tw at hex ⊢
  repeat' (first | ((with_reducible apply o_y); exact y_; rfl) | refine bf ?_ | with_reducible refine ab rfl ?_ | (with_reducible first | apply ag | apply aa | apply ah | apply ac | apply ai))
  apply aK (X := Nat) [2, 3, 4, 10, 11] (fun i => [(12, .int .i64 (i : Int))]) (fun _ => []) (fun i => i ≤ fs.length ∧ ∀ y ∈ fs.take i, ch st nb y = true) (fun i => fs.length - i) 0 ⟨Nat.zero_le _, by simp⟩
  exact kp_; (repeat (first | exact bj.envNil | refine bj.envCons we_ ?_))
  · exact .refl _
  rintro i ⟨hi, hall⟩
  try dsimp only
  by_cases hlt : i < fs.length
  · have hrow := gL (lo := lo) hlt
    have hxi := hex _ (hf2 _ (List.getElem_mem hlt))
    have hta := bu (p := fun y => ch st nb y = true) hlt hall
    cases hfi : ch st nb fs[i] with
    | false =>
      have e : ez st nb ⟨ok, oc, fs, ns⟩ = false := by
        unfold ez
        rw [dz hlt hfi, Bool.false_and]
      rw [e]
      rw [hfi] at hxi
      generalize fs[i] = x at hrow hxi
      repeat' (first | ((with_reducible apply o_y); exact y_; rfl) | (refine aI ?_; intro ss bb) | refine aA ?_ | refine aw hG hst (hxi) ?_ | with_reducible refine ab rfl ?_ | (with_reducible first | apply ag | apply aa | apply ah | apply ac | apply ai | apply ap | apply au | apply ad | apply ak) | refine av rfl rr_ ?_ | (refine ae rfl rr_ dd_ ?_))
      refine ao x_ rfl (.tmp _ _ rfl) (fun _ => ?_)
      exact Fin.flat rfl
    | true =>
      rw [hfi] at hxi hta
      generalize fs[i] = x at hrow hxi
      repeat' (first | ((with_reducible apply o_y); exact y_; rfl) | (refine aI ?_; intro ss bb) | refine aA ?_ | refine aw hG hst (hxi) ?_ | with_reducible refine ab rfl ?_ | (with_reducible first | apply ag | apply aa | apply ah | apply ac | apply ai | apply ap | apply aB) | refine az rfl rr_ ?_ | (refine ae rfl rr_ dd_ ?_))
      exact aG (i + 1) ⟨by omega, hta rfl⟩ (by omega) (.of _ nw_ od_ pk_)
  obtain rfl : i = fs.length := by omega
  rw [List.take_of_length_le (Nat.le_refl _)] at hall
  have hA : fs.all (ch st nb) = true := List.all_eq_true.2 hall
  clear hex hall
  rcases oO ok with rfl | rfl | rfl | ⟨g1, g2, g3⟩
  · have e : ez st nb ⟨1, oc, fs, ns⟩ = (decide ((0 ≤ oc ∧ oc < st.classes.length) ∧ ¬ (5 ≤ oc ∧ oc ≤ 15) ∧ fs.length = xV st.classes oc) && decide (ns.length = if pF st.classes 1 oc then 3 else 0)) := by
      unfold ez
      rw [hA, Bool.true_and, if_pos rfl]
    rw [e]
    clear e hA
    have w1 := a7 (G := GL) oc 0 ((st.classes.length : Int) - 1)
    have w2 := a7 (G := GL) oc 5 15
    rw [show (st.classes.length : Int) - 1 = ((st.classes.length - 1 : Nat) : Int) by omega] at w1
    by_cases hr : 0 ≤ oc ∧ oc < st.classes.length
    case neg =>
      rw [show inR oc 0 ((st.classes.length - 1 : Nat) : Int) = false from by simp only [inR, decide_eq_false_iff_not]; omega] at w1
      rw [decide_eq_false fun h => hr h.1, Bool.false_and]
      repeat' (first | ((with_reducible apply o_y); exact y_; rfl) | with_reducible refine aF (by kernel_rfl) (by kernel_rfl) ?_ | with_reducible refine aN ?_ | with_reducible refine aE rfl ?_ | refine aV rfl rfl rfl rr_ rfl rfl rfl ?_ | ((with_reducible apply d_y); exact y_; rfl) | refine ay hG hst (w1) ?_ | with_reducible refine ab rfl ?_ | (with_reducible first | apply ag | apply aa | apply ah | apply ac | apply ai | apply aH | apply au | apply ar | apply aq | apply ad | apply ak) | refine av rfl rr_ ?_ | (refine ae rfl rr_ dd_ ?_) | (refine aj rfl rr_ dd_ ?_))
      refine ao x_ rfl (.tmp _ _ rfl) (fun _ => ?_)
      exact Fin.flat rfl
    rw [show inR oc 0 ((st.classes.length - 1 : Nat) : Int) = true from by simp only [inR, decide_eq_true_eq]; omega] at w1
    by_cases h5 : 5 ≤ oc ∧ oc ≤ 15
    · rw [show inR oc 5 15 = true from by simp only [inR, decide_eq_true_eq]; omega] at w2
      rw [decide_eq_false fun h => h.2.1 h5, Bool.false_and]
      repeat' (first | ((with_reducible apply o_y); exact y_; rfl) | with_reducible refine aF (by kernel_rfl) (by kernel_rfl) ?_ | with_reducible refine aN ?_ | with_reducible refine aE rfl ?_ | refine aX rfl rfl rfl rr_ ?_ | refine aV rfl rfl rfl rr_ rfl rfl rfl ?_ | ((with_reducible apply d_y); exact y_; rfl) | refine ay hG hst (w1) ?_ | refine ay hG hst (w2) ?_ | with_reducible refine ab rfl ?_ | (with_reducible first | apply ag | apply aa | apply ah | apply ac | apply ai | apply aH | apply au | apply ar | apply aq | apply ad | apply ak) | refine av rfl rr_ ?_ | (refine ae rfl rr_ dd_ ?_) | (refine aj rfl rr_ dd_ ?_))
      refine ao x_ rfl (.tmp _ _ rfl) (fun _ => ?_)
      exact Fin.flat rfl
    rw [show inR oc 5 15 = false from by simp only [inR, decide_eq_false_iff_not]; exact h5] at w2
    obtain ⟨c, rfl⟩ : ∃ c : Nat, oc = c := ⟨oc.toNat, by omega⟩
    have hc : c < st.classes.length := by omega
    have hrow := fL (lo := lo) hc
    have hfn : xV st.classes (c : Int) = st.classes[c].fields.length := by
      unfold xV
      rw [Int.toNat_natCast, List.getElem?_eq_getElem hc]
    have hib := lP (G := GL) lo st.classes hcl (c : Int) 1 (by omega)
    rw [hfn]
    generalize st.classes[c] = x at hrow hfn ⊢
    have hxl := bX x.fields
    by_cases hlen : fs.length = x.fields.length
    case neg =>
      have hne : (fs.length : Int) ≠ x.fields.length := by omega
      rw [decide_eq_false fun h => hlen h.2.2, Bool.false_and]
      repeat' (first | ((with_reducible apply o_y); exact y_; rfl) | with_reducible refine aF (by kernel_rfl) (by kernel_rfl) ?_ | with_reducible refine aN ?_ | with_reducible refine aE rfl ?_ | refine aX rfl rfl rfl rr_ ?_ | ((with_reducible apply d_y); exact y_; rfl) | refine ay hG hst (w1) ?_ | refine ay hG hst (w2) ?_ | with_reducible refine ab rfl ?_ | (with_reducible first | apply ag | apply aa | apply ah | apply ac | apply ai | apply aH | apply au | apply ar | apply aq | apply ad | apply ak) | (refine ae rfl rr_ dd_ ?_) | (refine aj rfl rr_ dd_ ?_))
      refine ao x_ rfl (.tmp _ _ rfl) (fun _ => ?_)
      exact Fin.flat rfl
    have hne : ¬ ((fs.length : Int) ≠ x.fields.length) := by omega
    rw [decide_eq_true ⟨hr, h5, hlen⟩, Bool.true_and]
    generalize pF st.classes 1 (c : Int) = b at hib ⊢
    cases b
    all_goals
      repeat' (first | ((with_reducible apply o_y); exact y_; rfl) | with_reducible refine aF (by kernel_rfl) (by kernel_rfl) ?_ | with_reducible refine aN ?_ | with_reducible refine aE rfl ?_ | refine aX rfl rfl rfl rr_ ?_ | ((with_reducible apply d_y); exact y_; rfl) | refine ay hG hst (w1) ?_ | refine ay hG hst (w2) ?_ | refine aw hG hst (hib) ?_ | with_reducible refine ab rfl ?_ | (with_reducible first | apply ag | apply aa | apply ah | apply ac | apply ai | apply aH | apply ap | apply au | apply ar | apply aq | apply ad | apply ak) | refine av rfl rr_ ?_ | refine az rfl rr_ ?_ | (refine ae rfl rr_ dd_ ?_) | (refine aj rfl rr_ dd_ ?_))
      refine ao x_ rfl (.tmp _ _ rfl) (fun _ => ?_)
      exact aZ (by first | (simp; done) | (simp; omega))
  · have e : ez st nb ⟨2, oc, fs, ns⟩ = decide (oc = 10 ∧ fs.length ≤ 50 ∧ ns.length = 0) := by
      unfold ez
      rw [hA, Bool.true_and, if_neg (by dsimp only; decide), if_pos rfl]
    rw [e]
    clear e hA
    repeat' (first | ((with_reducible apply o_y); exact y_; rfl) | with_reducible refine ab rfl ?_ | (with_reducible first | apply ag | apply aa | apply ah | apply ac | apply ai | apply aH | apply au | apply ar | apply aq | apply ad | apply ak) | refine aP rfl rfl rfl rr_ ?_ | refine aO rfl rfl rfl rr_ rfl rfl rfl ?_ | (refine bm rfl rfl rfl rr_ (fun hg => ?_) (fun hg => ?_)) | (refine ae rfl rr_ dd_ ?_) | (refine aj rfl rr_ dd_ ?_))
    all_goals
      refine ao x_ rfl (.tmp _ _ rfl) (fun _ => ?_)
      refine aZ ?_
      first
        | (rw [decide_eq_decide]; omega)
        | (symm; rw [decide_eq_false_iff_not]; omega)
  · have e : ez st nb ⟨3, oc, fs, ns⟩ = decide (oc = 12 ∧ fs.length = 0 ∧ 1 ≤ ns.length ∧ nnL ns) := by
      unfold ez
      rw [hA, Bool.true_and, if_neg (by dsimp only; decide), if_neg (by dsimp only; decide), if_pos rfl]
    rw [e]
    clear e hA
    by_cases hns : 0 < ns.length
    · have hmi := nA (G := GL) lo ns hns hn1
      have hma := vO hns
      generalize q3 ns (ns.length - 1) = mv at hmi hma
      repeat' (first | ((with_reducible apply o_y); exact y_; rfl) | refine aw hG hst (hmi) ?_ | with_reducible refine ab rfl ?_ | (with_reducible first | apply ag | apply aa | apply ah | apply ac | apply ai | apply aH | apply au | apply ar | apply aq | apply ad | apply ak) | refine aP rfl rfl rfl rr_ ?_ | refine aO rfl rfl rfl rr_ rfl rfl rfl ?_ | (refine bQ rfl rfl rfl rr_ dd_ ?_) | (refine bm rfl rfl rfl rr_ (fun hg => ?_) (fun hg => ?_)) | (refine ae rfl rr_ dd_ ?_) | (refine aj rfl rr_ dd_ ?_))
      all_goals
        refine ao x_ rfl (.tmp _ _ rfl) (fun _ => ?_)
        refine aZ ?_
        first
          | (rw [decide_eq_decide, ← hma]; omega)
          | (symm; rw [decide_eq_false_iff_not, ← hma]; omega)
    · repeat' (first | ((with_reducible apply o_y); exact y_; rfl) | with_reducible refine ab rfl ?_ | (with_reducible first | apply ag | apply aa | apply ah | apply ac | apply ai | apply aH | apply au | apply ar | apply aq | apply ad | apply ak) | refine aP rfl rfl rfl rr_ ?_ | refine aO rfl rfl rfl rr_ rfl rfl rfl ?_ | (refine bC rfl rfl rfl rr_ dd_ ?_) | (refine bm rfl rfl rfl rr_ (fun hg => ?_) (fun hg => ?_)) | (refine ae rfl rr_ dd_ ?_) | (refine aj rfl rr_ dd_ ?_))
      all_goals
        refine ao x_ rfl (.tmp _ _ rfl) (fun _ => ?_)
        refine aZ ?_
        first
          | (symm; rw [decide_eq_false_iff_not]; omega)
          | (symm; rw [decide_eq_false_iff_not]; rintro ⟨_, _, h, _⟩; omega)
  · have e : ez st nb ⟨ok, oc, fs, ns⟩ = false := by
      unfold ez
      rw [if_neg g1, if_neg g2, if_neg g3, Bool.and_false]
    rw [e]
    repeat' (first | ((with_reducible apply o_y); exact y_; rfl) | with_reducible refine ab rfl ?_ | (with_reducible first | apply ag | apply aa | apply ah | apply ac | apply ai | apply aH | apply ap | apply au | apply ar | apply aq | apply aB) | (refine aj rfl rr_ dd_ ?_))
    refine ao x_ rfl (.tmp _ _ rfl) (fun _ => ?_)
    exact Fin.flat rfl
set_option maxRecDepth 20000
theorem ri {l : List Int} : nnL l ↔ ∀ j, j < l.length → 0 ≤ l.getD j 0 := by
  constructor
  · intro h j hj
    rw [List.getD_eq_getElem?_getD, List.getElem?_eq_getElem hj]
    exact h _ (List.getElem_mem hj)
  · intro h n hn
    obtain ⟨j, hj, rfl⟩ := List.getElem_of_mem hn
    have := h j hj
    rwa [List.getD_eq_getElem?_getD, List.getElem?_eq_getElem hj] at this
set_option maxHeartbeats 4000000 in
theorem oe (f lo : Nat) (st : br) (hcl : eV st.classes) (h16 : 16 ≤ st.classes.length ∧ st.classes.length ≤ 24) (nb : Int) (o : aR) (ho : o.small 1048576) (hk : o.kind = 1) : Ct Tryz.prog GL 205 [.cp f (st.tw lo), .agg [.int .i64 o.kind, .int .i64 o.class_, .sl lo 3 (o.fields.map (aC.tw lo)), .sl lo 1 (bv o.numbers)], .int .i64 nb] (fun _ => .bool (ez st nb o)) := by
  refine aJ Tryz.func205 rfl Tryz.ntmps205 rfl rfl fun w0 _ hG => ?_
  have hst := cZ
  obtain ⟨ok, oc, fs, ns⟩ := o
  have hf1 := ho.1.1
  have hf2 := ho.1.2
  have hn1 := ho.2
  dsimp only at hf1 hf2 hn1 hk ⊢
  subst hk
  have hfl := aC.len lo fs
  have hnl := aS ns
  have hcn := am.len lo st.classes
  have hex := fun (x : aC) (h : x.text.size ≤ 1048576) => ep f lo st nb x h
  unfold br.tw at hex ⊢
  repeat' (first | ((with_reducible apply o_y); exact y_; rfl) | refine bf ?_ | with_reducible refine ab rfl ?_ | (with_reducible first | apply ag | apply aa | apply ah | apply ac | apply ai))
  apply aK (X := Nat) [0, 2, 4, 6] (fun i => [(7, .int .i64 (i : Int))]) (fun _ => []) (fun i => i ≤ fs.length ∧ ∀ y ∈ fs.take i, ch st nb y = true) (fun i => fs.length - i) 0 ⟨Nat.zero_le _, by simp⟩
  exact kp_; (repeat (first | exact bj.envNil | refine bj.envCons we_ ?_))
  · exact .refl _
  rintro i ⟨hi, hall⟩
  try dsimp only
  by_cases hlt : i < fs.length
  · have hrow := gL (lo := lo) hlt
    have hxi := hex _ (hf2 _ (List.getElem_mem hlt))
    have hta := bu (p := fun y => ch st nb y = true) hlt hall
    cases hfi : ch st nb fs[i] with
    | false =>
      have e : ez st nb ⟨1, oc, fs, ns⟩ = false := by
        unfold ez
        rw [dz hlt hfi, Bool.false_and]
      rw [e]
      rw [hfi] at hxi
      generalize fs[i] = x at hrow hxi
      repeat' (first | ((with_reducible apply o_y); exact y_; rfl) | refine aw hG hst (hxi) ?_ | with_reducible refine ab rfl ?_ | (with_reducible first | apply ag | apply aa | apply ah | apply ac | apply ai | apply ap | apply au | apply ad | apply ak) | refine av rfl rr_ ?_ | (refine ae rfl rr_ dd_ ?_))
      refine ao x_ rfl (.tmp _ _ rfl) (fun _ => ?_)
      exact Fin.flat rfl
    | true =>
      rw [hfi] at hxi hta
      generalize fs[i] = x at hrow hxi
      repeat' (first | ((with_reducible apply o_y); exact y_; rfl) | refine aw hG hst (hxi) ?_ | with_reducible refine ab rfl ?_ | (with_reducible first | apply ag | apply aa | apply ah | apply ac | apply ai | apply ap | apply aB) | refine az rfl rr_ ?_ | (refine ae rfl rr_ dd_ ?_))
      exact aG (i + 1) ⟨by omega, hta rfl⟩ (by omega) (.of _ nw_ od_ pk_)
  obtain rfl : i = fs.length := by omega
  rw [List.take_of_length_le (Nat.le_refl _)] at hall
  have hA : fs.all (ch st nb) = true := List.all_eq_true.2 hall
  clear hex hall
  have e : ez st nb ⟨1, oc, fs, ns⟩ = (decide ((0 ≤ oc ∧ oc < st.classes.length) ∧ ¬ (5 ≤ oc ∧ oc ≤ 15) ∧ fs.length = xV st.classes oc) && decide (ns.length = if pF st.classes 1 oc then 3 else 0)) := by
    unfold ez
    rw [hA, Bool.true_and, if_pos rfl]
  rw [e]
  clear e hA
  have w1 := bz (G := GL) oc 1 4
  have w2 := bz (G := GL) oc 16 ((st.classes.length : Int) - 1)
  have hib := rC (G := GL) lo st.classes hcl oc 1 (by omega)
  generalize pF st.classes 1 oc = b at hib ⊢
  rw [show (st.classes.length : Int) - 1 = ((st.classes.length - 1 : Nat) : Int) by omega] at w2
  by_cases hr : (0 ≤ oc ∧ oc < st.classes.length) ∧ ¬ (5 ≤ oc ∧ oc ≤ 15)
  case neg =>
    rw [show inR oc 16 ((st.classes.length - 1 : Nat) : Int) = false from by simp only [inR, decide_eq_false_iff_not]; omega] at w2
    rw [show inR oc 1 4 = false from by simp only [inR, decide_eq_false_iff_not]; omega] at w1
    have hoc : ¬ oc = 0 := by omega
    rw [decide_eq_false fun h => hr ⟨h.1, h.2.1⟩, Bool.false_and]
    cases b
    all_goals
      repeat' (first | ((with_reducible apply o_y); exact y_; rfl) | with_reducible refine aF (by kernel_rfl) (by kernel_rfl) ?_ | with_reducible refine aN ?_ | with_reducible refine aE rfl ?_ | refine aX rfl rfl rfl rr_ ?_ | refine aV rfl rfl rfl rr_ rfl rfl rfl ?_ | (refine bW rfl rfl rfl rr_ dd_ ?_) | ((with_reducible apply d_y); exact y_; rfl) | refine ay hG hst (w1) ?_ | refine ay hG hst (w2) ?_ | refine ay hG hst (hib) ?_ | with_reducible refine ab rfl ?_ | (with_reducible first | apply ag | apply aa | apply ah | apply ac | apply ai | apply aH | apply ap | apply au | apply ar | apply aq | apply ad | apply ak) | refine av rfl rr_ ?_ | refine az rfl rr_ ?_ | (refine ae rfl rr_ dd_ ?_) | (refine aj rfl rr_ dd_ ?_))
      refine ao x_ rfl (.tmp _ _ rfl) (fun _ => ?_)
      exact Fin.flat rfl
  obtain ⟨c, rfl⟩ : ∃ c : Nat, oc = c := ⟨oc.toNat, by omega⟩
  have hc : c < st.classes.length := by omega
  have hrow := fL (lo := lo) hc
  have hfn : xV st.classes (c : Int) = st.classes[c].fields.length := by
    unfold xV
    rw [Int.toNat_natCast, List.getElem?_eq_getElem hc]
  rw [hfn]
  generalize st.classes[c] = x at hrow hfn ⊢
  have hxl := bX x.fields
  have hd : decide ((0 ≤ (c : Int) ∧ (c : Int) < st.classes.length) ∧ ¬ (5 ≤ (c : Int) ∧ (c : Int) ≤ 15) ∧ fs.length = x.fields.length) = decide (fs.length = x.fields.length) := by
    rw [decide_eq_decide]
    exact ⟨fun h => h.2.2, fun h => ⟨hr.1, hr.2, h⟩⟩
  rw [hd]
  have h3 : (c : Int) = 0 ∨ (¬ (c : Int) = 0 ∧ inR c 1 4 = true) ∨ (¬ (c : Int) = 0 ∧ inR c 1 4 = false ∧ inR c 16 ((st.classes.length - 1 : Nat) : Int) = true) := by
    simp only [inR, decide_eq_true_eq, decide_eq_false_iff_not]; omega
  by_cases hlen : fs.length = x.fields.length
  case neg =>
    have hne : ¬ (fs.length : Int) = x.fields.length := by omega
    rw [decide_eq_false hlen, Bool.false_and]
    rcases h3 with h0 | ⟨n0, i1⟩ | ⟨n0, i1, i2⟩
    case' inr.inl => rw [i1] at w1
    case' inr.inr => rw [i1] at w1; rw [i2] at w2
    all_goals
      cases b
      all_goals
        repeat' (first | ((with_reducible apply o_y); exact y_; rfl) | with_reducible refine aF (by kernel_rfl) (by kernel_rfl) ?_ | with_reducible refine aN ?_ | with_reducible refine aE rfl ?_ | refine aX rfl rfl rfl rr_ ?_ | refine aV rfl rfl rfl rr_ rfl rfl rfl ?_ | (refine cF rfl rfl rfl rr_ dd_ ?_) | (refine bW rfl rfl rfl rr_ dd_ ?_) | ((with_reducible apply d_y); exact y_; rfl) | refine ay hG hst (w1) ?_ | refine ay hG hst (w2) ?_ | refine ay hG hst (hib) ?_ | with_reducible refine ab rfl ?_ | (with_reducible first | apply ag | apply aa | apply ah | apply ac | apply ai | apply aH | apply ap | apply au | apply ar | apply aq | apply ad | apply ak) | refine av rfl rr_ ?_ | refine az rfl rr_ ?_ | (refine ae rfl rr_ dd_ ?_) | (refine aj rfl rr_ dd_ ?_))
        all_goals
          refine ao x_ rfl (.tmp _ _ rfl) (fun _ => ?_)
          exact Fin.flat rfl
  have hne : (fs.length : Int) = x.fields.length := by omega
  rw [decide_eq_true hlen, Bool.true_and]
  rcases h3 with h0 | ⟨n0, i1⟩ | ⟨n0, i1, i2⟩
  case' inr.inl => rw [i1] at w1
  case' inr.inr => rw [i1] at w1; rw [i2] at w2
  all_goals
    cases b
    all_goals
      repeat' (first | ((with_reducible apply o_y); exact y_; rfl) | with_reducible refine aF (by kernel_rfl) (by kernel_rfl) ?_ | with_reducible refine aN ?_ | with_reducible refine aE rfl ?_ | refine aX rfl rfl rfl rr_ ?_ | refine aV rfl rfl rfl rr_ rfl rfl rfl ?_ | (refine cF rfl rfl rfl rr_ dd_ ?_) | (refine bW rfl rfl rfl rr_ dd_ ?_) | ((with_reducible apply d_y); exact y_; rfl) | refine ay hG hst (w1) ?_ | refine ay hG hst (w2) ?_ | refine ay hG hst (hib) ?_ | with_reducible refine ab rfl ?_ | (with_reducible first | apply ag | apply aa | apply ah | apply ac | apply ai | apply aH | apply ap | apply au | apply ar | apply aq | apply ad | apply ak) | refine av rfl rr_ ?_ | refine az rfl rr_ ?_ | (refine ae rfl rr_ dd_ ?_) | (refine aj rfl rr_ dd_ ?_))
      all_goals
        refine ao x_ rfl (.tmp _ _ rfl) (fun _ => ?_)
        exact aZ (by first | (simp; done) | (simp; omega))
set_option maxHeartbeats 4000000 in
theorem nT (f lo : Nat) (st : br) (_hcl : eV st.classes) (_h16 : 16 ≤ st.classes.length ∧ st.classes.length ≤ 24) (nb : Int) (o : aR) (ho : o.small 1048576) (hk : o.kind = 2) : Ct Tryz.prog GL 205 [.cp f (st.tw lo), .agg [.int .i64 o.kind, .int .i64 o.class_, .sl lo 3 (o.fields.map (aC.tw lo)), .sl lo 1 (bv o.numbers)], .int .i64 nb] (fun _ => .bool (ez st nb o)) := by
  refine aJ Tryz.func205 rfl Tryz.ntmps205 rfl rfl fun w0 _ hG => ?_
  have hst := cZ
  obtain ⟨ok, oc, fs, ns⟩ := o
  have hf1 := ho.1.1
  have hf2 := ho.1.2
  have hn1 := ho.2
  dsimp only at hf1 hf2 hn1 hk ⊢
  subst hk
  have hfl := aC.len lo fs
  have hnl := aS ns
  have hcn := am.len lo st.classes
  have hex := fun (x : aC) (h : x.text.size ≤ 1048576) => ep f lo st nb x h
  unfold br.tw at hex ⊢
  repeat' (first | ((with_reducible apply o_y); exact y_; rfl) | refine bf ?_ | with_reducible refine ab rfl ?_ | (with_reducible first | apply ag | apply aa | apply ah | apply ac | apply ai))
  apply aK (X := Nat) [0, 2, 4, 6] (fun i => [(7, .int .i64 (i : Int))]) (fun _ => []) (fun i => i ≤ fs.length ∧ ∀ y ∈ fs.take i, ch st nb y = true) (fun i => fs.length - i) 0 ⟨Nat.zero_le _, by simp⟩
  exact kp_; (repeat (first | exact bj.envNil | refine bj.envCons we_ ?_))
  · exact .refl _
  rintro i ⟨hi, hall⟩
  try dsimp only
  by_cases hlt : i < fs.length
  · have hrow := gL (lo := lo) hlt
    have hxi := hex _ (hf2 _ (List.getElem_mem hlt))
    have hta := bu (p := fun y => ch st nb y = true) hlt hall
    cases hfi : ch st nb fs[i] with
    | false =>
      have e : ez st nb ⟨2, oc, fs, ns⟩ = false := by
        unfold ez
        rw [dz hlt hfi, Bool.false_and]
      rw [e]
      rw [hfi] at hxi
      generalize fs[i] = x at hrow hxi
      repeat' (first | ((with_reducible apply o_y); exact y_; rfl) | refine aw hG hst (hxi) ?_ | with_reducible refine ab rfl ?_ | (with_reducible first | apply ag | apply aa | apply ah | apply ac | apply ai | apply ap | apply au | apply ad | apply ak) | refine av rfl rr_ ?_ | (refine ae rfl rr_ dd_ ?_))
      refine ao x_ rfl (.tmp _ _ rfl) (fun _ => ?_)
      exact Fin.flat rfl
    | true =>
      rw [hfi] at hxi hta
      generalize fs[i] = x at hrow hxi
      repeat' (first | ((with_reducible apply o_y); exact y_; rfl) | refine aw hG hst (hxi) ?_ | with_reducible refine ab rfl ?_ | (with_reducible first | apply ag | apply aa | apply ah | apply ac | apply ai | apply ap | apply aB) | refine az rfl rr_ ?_ | (refine ae rfl rr_ dd_ ?_))
      exact aG (i + 1) ⟨by omega, hta rfl⟩ (by omega) (.of _ nw_ od_ pk_)
  obtain rfl : i = fs.length := by omega
  rw [List.take_of_length_le (Nat.le_refl _)] at hall
  have hA : fs.all (ch st nb) = true := List.all_eq_true.2 hall
  clear hex hall
  have e : ez st nb ⟨2, oc, fs, ns⟩ = decide (oc = 10 ∧ fs.length ≤ 50 ∧ ns.length = 0) := by
    unfold ez
    rw [hA, Bool.true_and, if_neg (by dsimp only; decide), if_pos rfl]
  rw [e]
  clear e hA
  repeat' (first | ((with_reducible apply o_y); exact y_; rfl) | with_reducible refine ab rfl ?_ | (with_reducible first | apply ag | apply aa | apply ah | apply ac | apply ai | apply aH | apply au | apply ar | apply aq | apply ad | apply ak) | refine aP rfl rfl rfl rr_ ?_ | refine aO rfl rfl rfl rr_ rfl rfl rfl ?_ | (refine bm rfl rfl rfl rr_ (fun hg => ?_) (fun hg => ?_)) | (refine ae rfl rr_ dd_ ?_) | (refine aj rfl rr_ dd_ ?_))
  all_goals
    refine ao x_ rfl (.tmp _ _ rfl) (fun _ => ?_)
    refine aZ ?_
    first
      | (rw [decide_eq_decide]; omega)
      | (symm; rw [decide_eq_false_iff_not]; omega)
set_option maxHeartbeats 4000000 in
theorem nW (f lo : Nat) (st : br) (_hcl : eV st.classes) (_h16 : 16 ≤ st.classes.length ∧ st.classes.length ≤ 24) (nb : Int) (o : aR) (ho : o.small 1048576) (hk : o.kind = 3) : Ct Tryz.prog GL 205 [.cp f (st.tw lo), .agg [.int .i64 o.kind, .int .i64 o.class_, .sl lo 3 (o.fields.map (aC.tw lo)), .sl lo 1 (bv o.numbers)], .int .i64 nb] (fun _ => .bool (ez st nb o)) := by
  refine aJ Tryz.func205 rfl Tryz.ntmps205 rfl rfl fun w0 _ hG => ?_
  have hst := cZ
  obtain ⟨ok, oc, fs, ns⟩ := o
  have hf1 := ho.1.1
  have hf2 := ho.1.2
  have hn1 := ho.2
  dsimp only at hf1 hf2 hn1 hk ⊢
  subst hk
  have hfl := aC.len lo fs
  have hnl := aS ns
  have hcn := am.len lo st.classes
  have hex := fun (x : aC) (h : x.text.size ≤ 1048576) => ep f lo st nb x h
  unfold br.tw at hex ⊢
  repeat' (first | ((with_reducible apply o_y); exact y_; rfl) | refine bf ?_ | with_reducible refine ab rfl ?_ | (with_reducible first | apply ag | apply aa | apply ah | apply ac | apply ai))
  apply aK (X := Nat) [0, 2, 4, 6] (fun i => [(7, .int .i64 (i : Int))]) (fun _ => []) (fun i => i ≤ fs.length ∧ ∀ y ∈ fs.take i, ch st nb y = true) (fun i => fs.length - i) 0 ⟨Nat.zero_le _, by simp⟩
  exact kp_; (repeat (first | exact bj.envNil | refine bj.envCons we_ ?_))
  · exact .refl _
  rintro i ⟨hi, hall⟩
  try dsimp only
  by_cases hlt : i < fs.length
  · have hrow := gL (lo := lo) hlt
    have hxi := hex _ (hf2 _ (List.getElem_mem hlt))
    have hta := bu (p := fun y => ch st nb y = true) hlt hall
    cases hfi : ch st nb fs[i] with
    | false =>
      have e : ez st nb ⟨3, oc, fs, ns⟩ = false := by
        unfold ez
        rw [dz hlt hfi, Bool.false_and]
      rw [e]
      rw [hfi] at hxi
      generalize fs[i] = x at hrow hxi
      repeat' (first | ((with_reducible apply o_y); exact y_; rfl) | refine aw hG hst (hxi) ?_ | with_reducible refine ab rfl ?_ | (with_reducible first | apply ag | apply aa | apply ah | apply ac | apply ai | apply ap | apply au | apply ad | apply ak) | refine av rfl rr_ ?_ | (refine ae rfl rr_ dd_ ?_))
      refine ao x_ rfl (.tmp _ _ rfl) (fun _ => ?_)
      exact Fin.flat rfl
    | true =>
      rw [hfi] at hxi hta
      generalize fs[i] = x at hrow hxi
      repeat' (first | ((with_reducible apply o_y); exact y_; rfl) | refine aw hG hst (hxi) ?_ | with_reducible refine ab rfl ?_ | (with_reducible first | apply ag | apply aa | apply ah | apply ac | apply ai | apply ap | apply aB) | refine az rfl rr_ ?_ | (refine ae rfl rr_ dd_ ?_))
      exact aG (i + 1) ⟨by omega, hta rfl⟩ (by omega) (.of _ nw_ od_ pk_)
  obtain rfl : i = fs.length := by omega
  rw [List.take_of_length_le (Nat.le_refl _)] at hall
  have hA : fs.all (ch st nb) = true := List.all_eq_true.2 hall
  clear hex hall
  have e : ez st nb ⟨3, oc, fs, ns⟩ = decide (oc = 12 ∧ fs.length = 0 ∧ 1 ≤ ns.length ∧ nnL ns) := by
    unfold ez
    rw [hA, Bool.true_and, if_neg (by dsimp only; decide), if_neg (by dsimp only; decide), if_pos rfl]
  rw [e]
  clear e hA
  by_cases hns : 0 < ns.length
  case neg =>
    repeat' (first | ((with_reducible apply o_y); exact y_; rfl) | with_reducible refine ab rfl ?_ | (with_reducible first | apply ag | apply aa | apply ah | apply ac | apply ai | apply aH | apply au | apply ar | apply aq | apply ad | apply ak) | refine aP rfl rfl rfl rr_ ?_ | refine aO rfl rfl rfl rr_ rfl rfl rfl ?_ | (refine bQ rfl rfl rfl rr_ dd_ ?_) | (refine bm rfl rfl rfl rr_ (fun hg => ?_) (fun hg => ?_)) | refine av rfl rr_ ?_ | (refine ae rfl rr_ dd_ ?_) | (refine aj rfl rr_ dd_ ?_))
    all_goals
      refine ao x_ rfl (.tmp _ _ rfl) (fun _ => ?_)
      refine aZ ?_
      first
        | (symm; rw [decide_eq_false_iff_not]; omega)
        | (symm; rw [decide_eq_false_iff_not]; rintro ⟨_, _, h, _⟩; omega)
  have hr0 : (bv ns)[0]? = some [.int .i64 (ns.getD 0 0)] := by
    rw [f8 hns, List.getD_eq_getElem?_getD, List.getElem?_eq_getElem hns]; rfl
  by_cases hc1 : oc = 12 ∧ fs.length = 0
  case neg =>
    rw [decide_eq_false fun h => hc1 ⟨h.1, h.2.1⟩]
    generalize ns.getD 0 0 = v0 at hr0
    repeat' (first | ((with_reducible apply o_y); exact y_; rfl) | with_reducible refine ab rfl ?_ | (with_reducible first | apply ag | apply aa | apply ah | apply ac | apply ai | apply aH | apply au | apply ar | apply aq | apply ad | apply ak) | refine aP rfl rfl rfl rr_ ?_ | refine aO rfl rfl rfl rr_ rfl rfl rfl ?_ | (refine bQ rfl rfl rfl rr_ dd_ ?_) | (refine bm rfl rfl rfl rr_ (fun hg => ?_) (fun hg => ?_)) | refine av rfl rr_ ?_ | (refine ae rfl rr_ dd_ ?_) | (refine aj rfl rr_ dd_ ?_))
    all_goals
      refine ao x_ rfl (.tmp _ _ rfl) (fun _ => ?_)
      exact Fin.flat rfl
  by_cases hv0 : ns.getD 0 0 < 0
  case pos =>
    rw [decide_eq_false fun h => by
      have := h.2.2.2 _ (List.getElem_mem hns)
      rw [List.getD_eq_getElem?_getD, List.getElem?_eq_getElem hns] at hv0
      exact absurd hv0 (by simpa using this)]
    generalize ns.getD 0 0 = v0 at hr0 hv0
    repeat' (first | ((with_reducible apply o_y); exact y_; rfl) | with_reducible refine ab rfl ?_ | (with_reducible first | apply ag | apply aa | apply ah | apply ac | apply ai | apply aH | apply au | apply ar | apply aq | apply ad | apply ak) | refine aP rfl rfl rfl rr_ ?_ | (refine bC rfl rfl rfl rr_ dd_ ?_) | (refine ae rfl rr_ dd_ ?_) | (refine aj rfl rr_ dd_ ?_))
    all_goals
      refine ao x_ rfl (.tmp _ _ rfl) (fun _ => ?_)
      exact Fin.flat rfl
  have hd : decide (oc = 12 ∧ fs.length = 0 ∧ 1 ≤ ns.length ∧ nnL ns) = decide (nnL ns) := by
    rw [decide_eq_decide]
    exact ⟨fun h => h.2.2.2, fun h => ⟨hc1.1, hc1.2, hns, h⟩⟩
  rw [hd]
  generalize hg0 : ns.getD 0 0 = v0 at hr0 hv0
  repeat' (first | ((with_reducible apply o_y); exact y_; rfl) | with_reducible refine ab rfl ?_ | (with_reducible first | apply ag | apply aa | apply ah | apply ac | apply ai | apply aH | apply ap | apply ar | apply aq) | refine aP rfl rfl rfl rr_ ?_ | (refine bC rfl rfl rfl rr_ dd_ ?_) | (refine ae rfl rr_ dd_ ?_) | (refine aj rfl rr_ dd_ ?_))
  apply aK (X := Nat) [0, 2, 4, 6] (fun i => [(10, .int .i64 ((i : Int) + 1))]) (fun _ => []) (fun i => i < ns.length ∧ ∀ j, j ≤ i → 0 ≤ ns.getD j 0) (fun i => ns.length - i) 0 ⟨hns, fun j hj => by rw [Nat.le_zero.1 hj, hg0]; omega⟩
  exact kp_; (repeat (first | exact bj.envNil | refine bj.envCons we_ ?_))
  · exact .refl _
  rintro i ⟨hi2, hall⟩
  try dsimp only
  by_cases hl2 : i + 1 < ns.length
  · have hrow : (bv ns)[i + 1]? = some [.int .i64 (ns.getD (i + 1) 0)] := by
      rw [f8 hl2, List.getD_eq_getElem?_getD, List.getElem?_eq_getElem hl2]; rfl
    have hi1 : (i : Int) + 1 = ((i + 1 : Nat) : Int) := by omega
    rw [hi1]
    by_cases hv : ns.getD (i + 1) 0 < 0
    · rw [decide_eq_false (fun h => by have := ri.1 h _ hl2; omega : ¬ nnL ns)]
      generalize ns.getD (i + 1) 0 = v at hrow hv
      repeat' (first | ((with_reducible apply o_y); exact y_; rfl) | with_reducible refine ab rfl ?_ | (with_reducible first | apply ag | apply aa | apply ah | apply ac | apply ai | apply ap | apply au | apply ad | apply ak) | (refine ae rfl rr_ dd_ ?_))
      refine ao x_ rfl (.tmp _ _ rfl) (fun _ => ?_)
      exact Fin.flat rfl
    · have hall2 : ∀ j, j ≤ i + 1 → 0 ≤ ns.getD j 0 := fun j hj => by
        rcases Nat.lt_or_ge j (i + 1) with h | h
        · exact hall j (by omega)
        · obtain rfl : j = i + 1 := by omega
          omega
      generalize ns.getD (i + 1) 0 = v at hrow hv
      repeat' (first | ((with_reducible apply o_y); exact y_; rfl) | with_reducible refine ab rfl ?_ | (with_reducible first | apply ag | apply aa | apply ah | apply ac | apply ai | apply ap | apply aB) | (refine ae rfl rr_ dd_ ?_) | (refine aj rfl rr_ dd_ ?_))
      exact aG (i + 1) ⟨hl2, hall2⟩ (by omega) (.of _ nw_ od_ pk_)
  · obtain rfl : i = ns.length - 1 := by omega
    rw [decide_eq_true (ri.2 fun j hj => hall j (by omega))]
    rw [show ((ns.length - 1 : Nat) : Int) + 1 = (ns.length : Int) by omega]
    repeat' (first | ((with_reducible apply o_y); exact y_; rfl) | with_reducible refine ab rfl ?_ | (with_reducible first | apply ag | apply aa | apply ah | apply ac | apply aH | apply au | apply ar | apply aq | apply ad | apply ak) | (refine aj rfl rr_ dd_ ?_))
    refine ao x_ rfl (.tmp _ _ rfl) (fun _ => ?_)
    exact Fin.flat rfl
set_option maxHeartbeats 4000000 in
theorem n6 (f lo : Nat) (st : br) (_hcl : eV st.classes) (_h16 : 16 ≤ st.classes.length ∧ st.classes.length ≤ 24) (nb : Int) (o : aR) (ho : o.small 1048576) (hk : ¬ o.kind = 1 ∧ ¬ o.kind = 2 ∧ ¬ o.kind = 3) : Ct Tryz.prog GL 205 [.cp f (st.tw lo), .agg [.int .i64 o.kind, .int .i64 o.class_, .sl lo 3 (o.fields.map (aC.tw lo)), .sl lo 1 (bv o.numbers)], .int .i64 nb] (fun _ => .bool (ez st nb o)) := by
  refine aJ Tryz.func205 rfl Tryz.ntmps205 rfl rfl fun w0 _ hG => ?_
  have hst := cZ
  obtain ⟨ok, oc, fs, ns⟩ := o
  have hf1 := ho.1.1
  have hf2 := ho.1.2
  have hn1 := ho.2
  dsimp only at hf1 hf2 hn1 hk ⊢
  obtain ⟨g1, g2, g3⟩ := hk
  have hfl := aC.len lo fs
  have hnl := aS ns
  have hcn := am.len lo st.classes
  have hex := fun (x : aC) (h : x.text.size ≤ 1048576) => ep f lo st nb x h
  unfold br.tw at hex ⊢
  repeat' (first | ((with_reducible apply o_y); exact y_; rfl) | refine bf ?_ | with_reducible refine ab rfl ?_ | (with_reducible first | apply ag | apply aa | apply ah | apply ac | apply ai))
  apply aK (X := Nat) [0, 2, 4, 6] (fun i => [(7, .int .i64 (i : Int))]) (fun _ => []) (fun i => i ≤ fs.length ∧ ∀ y ∈ fs.take i, ch st nb y = true) (fun i => fs.length - i) 0 ⟨Nat.zero_le _, by simp⟩
  exact kp_; (repeat (first | exact bj.envNil | refine bj.envCons we_ ?_))
  · exact .refl _
  rintro i ⟨hi, hall⟩
  try dsimp only
  by_cases hlt : i < fs.length
  · have hrow := gL (lo := lo) hlt
    have hxi := hex _ (hf2 _ (List.getElem_mem hlt))
    have hta := bu (p := fun y => ch st nb y = true) hlt hall
    cases hfi : ch st nb fs[i] with
    | false =>
      have e : ez st nb ⟨ok, oc, fs, ns⟩ = false := by
        unfold ez
        rw [dz hlt hfi, Bool.false_and]
      rw [e]
      rw [hfi] at hxi
      generalize fs[i] = x at hrow hxi
      repeat' (first | ((with_reducible apply o_y); exact y_; rfl) | refine aw hG hst (hxi) ?_ | with_reducible refine ab rfl ?_ | (with_reducible first | apply ag | apply aa | apply ah | apply ac | apply ai | apply ap | apply au | apply ad | apply ak) | refine av rfl rr_ ?_ | (refine ae rfl rr_ dd_ ?_))
      refine ao x_ rfl (.tmp _ _ rfl) (fun _ => ?_)
      exact Fin.flat rfl
    | true =>
      rw [hfi] at hxi hta
      generalize fs[i] = x at hrow hxi
      repeat' (first | ((with_reducible apply o_y); exact y_; rfl) | refine aw hG hst (hxi) ?_ | with_reducible refine ab rfl ?_ | (with_reducible first | apply ag | apply aa | apply ah | apply ac | apply ai | apply ap | apply aB) | refine az rfl rr_ ?_ | (refine ae rfl rr_ dd_ ?_))
      exact aG (i + 1) ⟨by omega, hta rfl⟩ (by omega) (.of _ nw_ od_ pk_)
  obtain rfl : i = fs.length := by omega
  rw [List.take_of_length_le (Nat.le_refl _)] at hall
  have hA : fs.all (ch st nb) = true := List.all_eq_true.2 hall
  clear hex hall
  have e : ez st nb ⟨ok, oc, fs, ns⟩ = false := by
    unfold ez
    rw [if_neg g1, if_neg g2, if_neg g3, Bool.and_false]
  rw [e]
  repeat' (first | ((with_reducible apply o_y); exact y_; rfl) | with_reducible refine ab rfl ?_ | (with_reducible first | apply ag | apply aa | apply ah | apply ac | apply ai | apply aH | apply ap | apply au | apply ar | apply aq | apply aB) | (refine aj rfl rr_ dd_ ?_))
  refine ao x_ rfl (.tmp _ _ rfl) (fun _ => ?_)
  exact Fin.flat rfl
theorem qq (f lo : Nat) (st : br) (hcl : eV st.classes) (h16 : 16 ≤ st.classes.length ∧ st.classes.length ≤ 24) (nb : Int) (o : aR) (ho : o.small 1048576) : Ct Tryz.prog GL 205 [.cp f (st.tw lo), .agg [.int .i64 o.kind, .int .i64 o.class_, .sl lo 3 (o.fields.map (aC.tw lo)), .sl lo 1 (bv o.numbers)], .int .i64 nb] (fun _ => .bool (ez st nb o)) := by
  rcases oO o.kind with h | h | h | h
  · exact oe f lo st hcl h16 nb o ho h
  · exact nT f lo st hcl h16 nb o ho h
  · exact nW f lo st hcl h16 nb o ho h
  · exact n6 f lo st hcl h16 nb o ho h
set_option maxRecDepth 20000
section
variable {G : World → Prop}
set_option maxRecDepth 4000 in
set_option maxHeartbeats 4000000 in
theorem jp (hst : aY G) (lo : Nat) (l : List am) (hsm : l.length ≤ 1048576 ∧ ∀ y ∈ l, am.small 1048576 y) : Ct Tryz.prog G 117 [.sl lo 3 (l.map (am.tw lo))] (fun _ => .bool (bO l)) := by
  refine aJ Tryz.func117 rfl Tryz.ntmps117 rfl rfl fun w0 _ hG => ?_
  have hlen := am.len lo l
  have hbl := am.len w0.heap.size bH
  rw [ef] at hbl
  have hl1 := hsm.1
  have hwi := a7 (G := G) (l.length : Int) 16 24
  by_cases hl : 16 ≤ l.length ∧ l.length ≤ 24
  · rw [pQ (by omega)] at hwi
    repeat' (first | ((with_reducible apply o_y); exact y_; rfl) | refine aw hG hst (hwi) ?_ | with_reducible refine ab rfl ?_ | (with_reducible first | apply ag | apply aa | apply ah | apply ac | apply ai | apply ap) | refine az rfl rr_ ?_)
    apply aK (X := Nat) [0, 15, 16] (fun i => [(17, .int .i64 (i : Int))]) (fun _ => []) (fun i => i ≤ l.length ∧ ∀ j, j < i → ∀ h : j < l.length, dp l j l[j]) (fun i => l.length - i) 0 ⟨Nat.zero_le _, by simp⟩
    exact kp_; (repeat (first | exact bj.envNil | refine bj.envCons we_ ?_))
    · exact .nil _
    rintro i ⟨hi, hk⟩
    try dsimp only
    by_cases hlt : i < l.length
    · have hra : (l.map (am.tw lo))[i]? = some (l[i].tw lo) := bg hlt
      have hbi := hsm.2 _ (List.getElem_mem hlt)
      have hbad := hY hlt
      have hks : dp l i l[i] → ∀ j, j < i + 1 → ∀ h : j < l.length, dp l j l[j] := fun ho => bT hk fun _ => ho
      generalize l[i] = x at hra hbi hbad hks
      rw [show x.tw lo = [.str x.name, .int .i64 x.parent, .sl lo 1 (cL x.fields)] from rfl] at hra
      by_cases hlow : i < 16
      · obtain ⟨bi, hb, _, _, h3, _⟩ := ga hlow
        have hrb : (bH.map (am.tw w0.heap.size))[i]? = some [.str bi.name, .int .i64 bi.parent, .sl w0.heap.size 1 (cL bi.fields)] := by rw [List.getElem?_map, hb]; rfl
        rw [kf hlow hb] at hbad hks
        have hbf : bi.fields.length ≤ 1048576 := by rw [← h3]; unfold fb; split <;> simp
        have heq := eJ (G := G) lo w0.heap.size x.fields bi.fields hbi.2.1 hbf
        clear h3
        by_cases ho : x.name = bi.name ∧ x.parent = bi.parent ∧ x.fields = bi.fields
        · have n1 : ¬ x.name ≠ bi.name := fun h => h ho.1
          have n2 : ¬ x.parent ≠ bi.parent := fun h => h ho.2.1
          rw [decide_eq_true ho.2.2] at heq
          repeat' (first | ((with_reducible apply o_y); exact y_; rfl) | (refine aI ?_; intro ss bb) | refine aA ?_ | refine aw hG hst (ee hst) ?_ | refine aw hG hst (heq) ?_ | with_reducible refine ab rfl ?_ | (with_reducible first | apply ag | apply aa | apply ah | apply ac | apply ai | apply aH | apply ap | apply ar | apply aq) | refine aP rfl rfl rfl rr_ ?_ | (refine bC rfl rfl rfl rr_ dd_ ?_) | refine az rfl rr_ ?_ | (refine ae rfl rr_ dd_ ?_))
          exact aG (i + 1) ⟨by omega, hks ho⟩ (by omega) (.of _ nw_ od_ (dV.nil _))
        · rw [hbad ho]
          clear hks hbad
          by_cases hfe : x.fields = bi.fields
          · rw [decide_eq_true hfe] at heq
            repeat' (first | ((with_reducible apply o_y); exact y_; rfl) | (refine aI ?_; intro ss bb) | refine aA ?_ | refine aw hG hst (ee hst) ?_ | refine aw hG hst (heq) ?_ | with_reducible refine ab rfl ?_ | (with_reducible first | apply ag | apply aa | apply ah | apply ac | apply ai | apply aH | apply ap | apply au | apply ar | apply aq | apply ad | apply ak) | refine aP rfl rfl rfl rr_ ?_ | refine aO rfl rfl rfl rr_ rfl rfl rfl ?_ | (refine bm rfl rfl rfl rr_ (fun hg => ?_) (fun hg => ?_)) | refine av rfl rr_ ?_ | refine az rfl rr_ ?_ | (refine ae rfl rr_ dd_ ?_))
            all_goals first
              | (exfalso; exact ho ⟨Decidable.of_not_not (by assumption), Decidable.of_not_not (by assumption), hfe⟩)
              | (refine ao x_ rfl (.tmp _ _ rfl) (fun _ => ?_)
                 exact Fin.flat rfl)
          · rw [decide_eq_false hfe] at heq
            repeat' (first | ((with_reducible apply o_y); exact y_; rfl) | (refine aI ?_; intro ss bb) | refine aA ?_ | refine aw hG hst (ee hst) ?_ | refine aw hG hst (heq) ?_ | with_reducible refine ab rfl ?_ | (with_reducible first | apply ag | apply aa | apply ah | apply ac | apply ai | apply ap | apply au | apply ad | apply ak) | refine aP rfl rfl rfl rr_ ?_ | refine aO rfl rfl rfl rr_ rfl rfl rfl ?_ | (refine bm rfl rfl rfl rr_ (fun hg => ?_) (fun hg => ?_)) | refine av rfl rr_ ?_ | (refine ae rfl rr_ dd_ ?_))
            all_goals
              refine ao x_ rfl (.tmp _ _ rfl) (fun _ => ?_)
              exact Fin.flat rfl
      · rw [jB hlow] at hbad hks
        obtain ⟨nm, par, fs⟩ := x
        dsimp only at hra hbi hbad hks
        have hx1 : nm.size ≤ 1048576 := hbi.1
        have hx2 : fs.length ≤ 1048576 := hbi.2.1
        have hx3 : ∀ y ∈ fs, ByteArray.size y ≤ 1048576 := hbi.2.2
        have hfl := bX fs
        clear hbl
        repeat' (first | ((with_reducible apply o_y); exact y_; rfl) | (refine aI ?_; intro ss bb) | refine aA ?_ | with_reducible refine bx (id := 10) ?_ | with_reducible refine ab rfl ?_ | (with_reducible first | apply ag | apply aa | apply ah | apply ac | apply ai | apply ap) | (refine ae rfl rr_ dd_ ?_) | (refine aj rfl rr_ dd_ ?_))
        refine ⟨ag ?_⟩
        generalize ss = s3; generalize bb = b3
        apply en (X := Unit) [0, 3, 4, 15, 16, 17] (fun _ => [(70, .bool (!decide (cH l i ⟨nm, par, fs⟩)))]) (fun _ => [(s3, b3, .box [.str nm, .int .i64 par, .sl lo 1 (cL fs)])]) (fun _ => True)
        case hk => (repeat (first | exact gn.nil | (apply gn.cons; rfl)))
        · repeat' (first | ((with_reducible apply o_y); exact y_; rfl) | refine aw hG hst (fr _ hx1) ?_ | refine aw hG hst (a7 _ _ _) ?_ | with_reducible refine ab rfl ?_ | (with_reducible first | apply aa | apply ah) | refine aP rfl rfl rfl rr_ ?_ | refine aO rfl rfl rfl rr_ rfl rfl rfl ?_ | (refine bV rfl rfl rfl rr_ (fun hg => ?_) (fun hg => ?_)))
          all_goals
            refine dh () trivial (.of _ (bj.envCons (fN rfl ?_) bj.envNil) od_ pk_)
            clear hbad hks hk hra hbi
            simp only [Bool.not_eq_true', Bool.not_eq_false', inR, decide_eq_true_eq, decide_eq_false_iff_not] at *
            by_cases h8 : (8 : Int) < (fs.length : Int)
            all_goals (try simp only [h8, decide_true, decide_false])
            all_goals first
              | (have : cH l i ⟨nm, par, fs⟩ := ⟨by assumption, by dsimp only; omega, by dsimp only; omega, by dsimp only; omega⟩
                 simp only [decide_eq_true this, Bool.not_true]
                 done)
              | (have : ¬ cH l i ⟨nm, par, fs⟩ := fun h => by
                   obtain ⟨h1, h2, h3, h4⟩ := h
                   dsimp only at h1 h2 h3 h4
                   first
                     | omega
                     | (simp only [h1] at *; done)
                     | (simp_all; done)
                 simp only [decide_eq_false this, Bool.not_false]
                 done)
        intro _ _
        by_cases hh : cH l i ⟨nm, par, fs⟩
        · rw [decide_eq_true hh, Bool.not_true]
          have hh2 := hh.2
          obtain ⟨⟨hp0, hp1⟩, _, hf8⟩ := hh2
          dsimp only at hp0 hp1 hf8
          obtain ⟨p, rfl⟩ : ∃ p : Nat, par = p := ⟨par.toNat, by omega⟩
          have hpl : p < l.length := by omega
          have hrp : (l.map (am.tw lo))[p]? = some (l[p].tw lo) := bg hpl
          have hbp := hsm.2 _ (List.getElem_mem hpl)
          have hpf := fV (x := ⟨nm, (p : Int), fs⟩) rfl (List.getElem?_eq_getElem hpl)
          generalize l[p] = y at hrp hbp hpf
          obtain ⟨pn, pp, pf⟩ := y
          replace hrp : (l.map (am.tw lo))[p]? = some [.str pn, .int .i64 pp, .sl lo 1 (cL pf)] := hrp
          have hx4 : pf.length ≤ 1048576 := hbp.2.1
          have hpl2 := bX pf
          have htl : ((l.map (am.tw lo)).take i).length = i := by simp; omega
          repeat' (first | ((with_reducible apply o_y); exact y_; rfl) | refine rW ?_ | with_reducible refine ab rfl ?_ | (with_reducible first | apply ag | apply aa | apply ah | apply ac | apply ai | apply ap) | refine az rfl rr_ ?_)
          apply aK (X := Nat) [0, 3, 4, 15, 16, 17, 73, 74] (fun k => [(75, .int .i64 (k : Int))]) (fun _ => [(s3, b3, .box [.str nm, .int .i64 (p : Int), .sl lo 1 (cL fs)])]) (fun k => k ≤ i ∧ ∀ y ∈ l.take k, y.name ≠ nm) (fun k => i - k) 0 ⟨Nat.zero_le _, by simp⟩
          exact kp_; (repeat (first | exact bj.envNil | refine bj.envCons we_ ?_))
          · exact .refl _
          rintro k ⟨hki, hkn⟩
          try dsimp only
          by_cases hlk : k < i
          · have hlk2 : k < l.length := by omega
            have hrk : ((l.map (am.tw lo)).take i)[k]? = some (l[k].tw lo) := by rw [List.getElem?_take_of_lt hlk]; exact bg hlk2
            have hta := bu (p := fun y : am => y.name ≠ nm) hlk2 hkn
            have hmem : l[k] ∈ l.take i := List.mem_take_iff_getElem.2 ⟨k, by omega, rfl⟩
            generalize l[k] = z at hrk hta hmem
            obtain ⟨zn, zp, zf⟩ := z
            replace hrk : ((l.map (am.tw lo)).take i)[k]? = some [.str zn, .int .i64 zp, .sl lo 1 (cL zf)] := hrk
            by_cases hzn : zn = nm
            · rw [hbad fun h => h.2.1 _ hmem hzn]
              repeat' (first | ((with_reducible apply o_y); exact y_; rfl) | (refine aI ?_; intro ss bb) | refine aA ?_ | with_reducible refine ab rfl ?_ | (with_reducible first | apply ag | apply aa | apply ah | apply ac | apply ai | apply ap | apply au | apply ad | apply ak) | (refine ae rfl rr_ dd_ ?_))
              refine ao x_ rfl (.tmp _ _ rfl) (fun _ => ?_)
              exact Fin.flat rfl
            · repeat' (first | ((with_reducible apply o_y); exact y_; rfl) | (refine aI ?_; intro ss bb) | refine aA ?_ | with_reducible refine ab rfl ?_ | (with_reducible first | apply ag | apply aa | apply ah | apply ac | apply ai | apply ap | apply aB) | (refine ae rfl rr_ dd_ ?_) | (refine aj rfl rr_ dd_ ?_))
              exact aG (k + 1) ⟨by omega, hta hzn⟩ (by omega) (.of _ nw_ od_ pk_)
          · obtain rfl : k = i := by omega
            clear hlk
            by_cases hhe : pf.length ≤ fs.length ∧ fs.take pf.length = pf
            · have heq := eJ (G := G) lo lo (fs.take pf.length) pf (by simp; omega) hx4
              rw [decide_eq_true hhe.2] at heq
              have hsl : (cL fs).take pf.length = cL (fs.take pf.length) := by simp [cL, List.map_take]
              have hle := hhe.1
              repeat' (first | ((with_reducible apply o_y); exact y_; rfl) | refine rW ?_ | refine aw hG hst (heq) ?_ | with_reducible refine ab rfl ?_ | (with_reducible first | apply ag | apply aa | apply ah | apply ac | apply ai | apply aH | apply ap | apply ar | apply aq) | refine aP rfl rfl rfl rr_ ?_ | (refine bC rfl rfl rfl rr_ dd_ ?_) | refine az rfl rr_ ?_ | (refine aj rfl rr_ dd_ ?_))
              apply aK (X := Nat) [0, 3, 4, 8, 15, 16, 17, 108, 109] (fun k => [(110, .int .i64 (k : Int))]) (fun _ => [(s3, b3, .box [.str nm, .int .i64 (p : Int), .sl lo 1 (cL fs)])]) (fun k => k ≤ fs.length ∧ ∀ j, j < k → ∀ h : j < fs.length, fieldAt fs j fs[j] = true) (fun k => fs.length - k) 0 ⟨Nat.zero_le _, by omega⟩
              exact kp_; (repeat (first | exact bj.envNil | refine bj.envCons we_ ?_))
              · exact .refl _
              rintro q ⟨hq, hqa⟩
              try dsimp only
              by_cases hqf : q < fs.length
              · have hfr := dr hqf
                have hqs := hx3 _ (List.getElem_mem hqf)
                have hqb := jt hqf
                have hqn : fieldAt fs q fs[q] = true → ∀ j, j < q + 1 → ∀ h : j < fs.length, fieldAt fs j fs[j] = true := fun h => bT hqa fun _ => h
                generalize fs[q] = f at hfr hqs hqb hqn
                have hname := fr (G := G) f hqs
                have hhas := i5 (G := G) hst lo (fs.take q) f (by simp; omega)
                rw [vg] at hhas
                have hsq : (cL fs).take q = cL (fs.take q) := by simp [cL, List.map_take]
                have hqle : q ≤ fs.length := hq
                by_cases hqo : fieldAt fs q f = true
                · have hqo2 := hqo
                  unfold fieldAt at hqo2
                  rw [Bool.and_eq_true, Bool.not_eq_true'] at hqo2
                  rw [hqo2.1] at hname
                  rw [hqo2.2] at hhas
                  repeat' (first | ((with_reducible apply o_y); exact y_; rfl) | refine rW ?_ | refine aw hG hst (hname) ?_ | refine aw hG hst (hhas) ?_ | with_reducible refine ab rfl ?_ | (with_reducible first | apply ag | apply aa | apply ah | apply ac | apply ai | apply ap | apply aB) | refine aP rfl rfl rfl rr_ ?_ | refine az rfl rr_ ?_ | (refine ae rfl rr_ dd_ ?_))
                  exact aG (q + 1) ⟨by omega, hqn hqo⟩ (by omega) (.of _ nw_ od_ pk_)
                · rw [hbad fun h => hqb (Bool.eq_false_iff.2 hqo) h.2.2.2]
                  by_cases hqs1 : ce f.data.toList = true
                  · have hqs2 : iP (fs.take q) f = true := by
                      unfold fieldAt at hqo
                      rw [hqs1, Bool.true_and] at hqo
                      simpa using hqo
                    rw [hqs1] at hname
                    rw [hqs2] at hhas
                    repeat' (first | ((with_reducible apply o_y); exact y_; rfl) | refine rW ?_ | refine aw hG hst (hname) ?_ | refine aw hG hst (hhas) ?_ | with_reducible refine ab rfl ?_ | (with_reducible first | apply ag | apply aa | apply ah | apply ac | apply ai | apply ap | apply au | apply ad | apply ak) | refine aP rfl rfl rfl rr_ ?_ | refine av rfl rr_ ?_ | (refine ae rfl rr_ dd_ ?_))
                    refine ao x_ rfl (.tmp _ _ rfl) (fun _ => ?_)
                    exact Fin.flat rfl
                  · rw [Bool.eq_false_iff.2 hqs1] at hname
                    repeat' (first | ((with_reducible apply o_y); exact y_; rfl) | refine aw hG hst (hname) ?_ | with_reducible refine ab rfl ?_ | (with_reducible first | apply ag | apply aa | apply ah | apply ac | apply ai | apply ap | apply au | apply ad | apply ak) | refine aO rfl rfl rfl rr_ rfl rfl rfl ?_ | refine av rfl rr_ ?_ | (refine ae rfl rr_ dd_ ?_))
                    refine ao x_ rfl (.tmp _ _ rfl) (fun _ => ?_)
                    exact Fin.flat rfl
              · obtain rfl : q = fs.length := by omega
                repeat' (first | ((with_reducible apply o_y); exact y_; rfl) | with_reducible refine ab rfl ?_ | (with_reducible first | apply ag | apply aa | apply ah | apply ac | apply aH | apply ar | apply aq | apply aB) | (refine aj rfl rr_ dd_ ?_))
                exact aG (k + 1) ⟨by omega, hks ⟨hh, hkn, ⟨by rw [hpf]; exact hhe.1, by rw [hpf]; exact hhe.2⟩, fun j hj => hqa j hj hj⟩⟩ (by omega) (.of _ nw_ od_ (dV.nil _))
            · rw [hbad fun h => hhe (by have := h.2.2.1; unfold vG at this; rw [hpf] at this; exact this)]
              by_cases hle : pf.length ≤ fs.length
              · have heq := eJ (G := G) lo lo (fs.take pf.length) pf (by simp; omega) hx4
                rw [decide_eq_false fun h => hhe ⟨hle, h⟩] at heq
                have hsl : (cL fs).take pf.length = cL (fs.take pf.length) := by simp [cL, List.map_take]
                repeat' (first | ((with_reducible apply o_y); exact y_; rfl) | refine rW ?_ | refine aw hG hst (heq) ?_ | with_reducible refine ab rfl ?_ | (with_reducible first | apply ag | apply aa | apply ah | apply ac | apply aH | apply au | apply ar | apply aq | apply ad | apply ak) | refine aP rfl rfl rfl rr_ ?_ | (refine bC rfl rfl rfl rr_ dd_ ?_) | refine av rfl rr_ ?_ | (refine aj rfl rr_ dd_ ?_))
                refine ao x_ rfl (.tmp _ _ rfl) (fun _ => ?_)
                exact Fin.flat rfl
              · repeat' (first | ((with_reducible apply o_y); exact y_; rfl) | with_reducible refine ab rfl ?_ | (with_reducible first | apply ag | apply aa | apply ah | apply ac | apply aH | apply au | apply ar | apply aq | apply ad | apply ak) | refine aO rfl rfl rfl rr_ rfl rfl rfl ?_ | (refine bQ rfl rfl rfl rr_ dd_ ?_) | refine av rfl rr_ ?_ | (refine aj rfl rr_ dd_ ?_))
                refine ao x_ rfl (.tmp _ _ rfl) (fun _ => ?_)
                exact Fin.flat rfl
        · rw [decide_eq_false hh, Bool.not_false, hbad fun h => hh h.1]
          repeat' (first | ((with_reducible apply o_y); exact y_; rfl) | with_reducible refine ab rfl ?_ | (with_reducible first | apply ag | apply aa | apply ah | apply ac | apply au | apply ad | apply ak) | refine av rfl rr_ ?_)
          refine ao x_ rfl (.tmp _ _ rfl) (fun _ => ?_)
          exact Fin.flat rfl
    · rw [gC hl fun j hj => hk j (by omega)]
      repeat' (first | ((with_reducible apply o_y); exact y_; rfl) | with_reducible refine ab rfl ?_ | (with_reducible first | apply ag | apply aa | apply ah | apply ac | apply aH | apply au | apply ar | apply aq) | (refine aj rfl rr_ dd_ ?_))
      refine ao x_ rfl (.tmp _ _ rfl) (fun _ => ?_)
      exact Fin.flat rfl
  · rw [vy (by omega)] at hwi
    rw [ix hl]
    repeat' (first | ((with_reducible apply o_y); exact y_; rfl) | refine aw hG hst (hwi) ?_ | with_reducible refine ab rfl ?_ | (with_reducible first | apply ag | apply aa | apply ah | apply ac | apply au | apply ad) | refine av rfl rr_ ?_)
    refine ao x_ rfl (.tmp _ _ rfl) (fun _ => ?_)
    exact Fin.flat rfl
end
set_option maxRecDepth 20000
open Classical in
noncomputable def gY (st : br) (nb : Int) : Bool :=
  bO st.classes && (inR st.made st.objects.length 800 && (decide (st.output.length ≤ 60) && (inR st.budget 0 3000 && (inR st.ticks 0 st.budget && (st.output.all ei && st.objects.all (ez st nb))))))
theorem j0 (t : ByteArray) : gS 3 0 t = ei t := by
  unfold gS
  rw [if_neg (by decide), if_neg (by decide), if_neg (by decide), if_pos rfl, decide_eq_true rfl, Bool.true_and]
theorem kG {G : World → Prop} (t : ByteArray) : Ct Tryz.prog G 160 [.str t] (fun _ => .agg [.int .i64 3, .int .i64 0, .str t]) := by
  refine aJ Tryz.func160 rfl Tryz.ntmps160 rfl rfl fun w0 _ hG => ?_
  repeat' (first | ((with_reducible apply o_y); exact y_; rfl) | (refine aI ?_; intro ss bb) | refine aA ?_ | refine je ?_ | with_reducible refine ab rfl ?_ | (with_reducible first | apply ag | apply aa | apply ah | apply ac | apply au))
  refine ao x_ rfl (.cell _ _ _ _ _ rfl mm_ (by kernel_rfl) (by kernel_rfl) (by kernel_rfl)) (fun _ => ?_)
  exact dE (.cons (.flat rfl) (.cons (.flat rfl) (.cons (.flat rfl) .nil)))
set_option maxHeartbeats 4000000 in
theorem oJ (f lo : Nat) (st : br) (hsm : st.small 1048576) (nb : Int) : Ct Tryz.prog GL 157 [.cp f (st.tw lo), .int .i64 nb] (fun _ => .bool (gY st nb)) := by
  refine aJ Tryz.func157 rfl Tryz.ntmps157 rfl rfl fun w0 _ hG => ?_
  have hst := cZ
  have k1 := gB hst lo st.classes hsm.1
  have k2 := bz (G := GL) st.made st.objects.length 800
  have k4 := bz (G := GL) st.budget 0 3000
  have k5 := bz (G := GL) st.ticks 0 st.budget
  have hol := bX st.output
  have hbl := aR.len lo st.objects
  have hcn := am.len lo st.classes
  have hz1 := hsm.2.1.1
  have hz2 := hsm.2.2.1
  have hex := fun (o : aR) (h : o.small 1048576) (hc : bO st.classes = true) => qq f lo st (ng hc) (iC hc).1 nb o h
  have hln := fun (t : ByteArray) (h : t.size ≤ 1048576) => eK 3 0 t h
  unfold gY
  unfold br.tw at hex ⊢
  cases hc1 : bO st.classes
  case false =>
    rw [hc1] at k1
    rw [Bool.false_and]
    repeat' (first | ((with_reducible apply o_y); exact y_; rfl) | with_reducible refine aF (by kernel_rfl) (by kernel_rfl) ?_ | with_reducible refine aN ?_ | with_reducible refine aE rfl ?_ | refine aV rfl rfl rfl rr_ rfl rfl rfl ?_ | ((with_reducible apply d_y); exact y_; rfl) | refine ay hG hst (k1) ?_ | with_reducible refine ab rfl ?_ | (with_reducible first | apply ag | apply aa | apply ah | apply ac | apply au | apply ad) | refine av rfl rr_ ?_)
    refine ao x_ rfl (.tmp _ _ rfl) (fun _ => ?_)
    exact Fin.flat rfl
  rw [hc1] at k1
  rw [Bool.true_and]
  cases hc2 : inR st.made st.objects.length 800
  case false =>
    rw [hc2] at k2
    rw [Bool.false_and]
    repeat' (first | ((with_reducible apply o_y); exact y_; rfl) | with_reducible refine aF (by kernel_rfl) (by kernel_rfl) ?_ | with_reducible refine aN ?_ | with_reducible refine aE rfl ?_ | refine aX rfl rfl rfl rr_ ?_ | refine aV rfl rfl rfl rr_ rfl rfl rfl ?_ | ((with_reducible apply d_y); exact y_; rfl) | refine ay hG hst (k1) ?_ | refine ay hG hst (k2) ?_ | with_reducible refine ab rfl ?_ | (with_reducible first | apply ag | apply aa | apply ah | apply ac | apply au | apply ad) | refine av rfl rr_ ?_)
    refine ao x_ rfl (.tmp _ _ rfl) (fun _ => ?_)
    exact Fin.flat rfl
  rw [hc2] at k2
  rw [Bool.true_and]
  by_cases hc3 : st.output.length ≤ 60
  case neg =>
    rw [decide_eq_false hc3, Bool.false_and]
    repeat' (first | ((with_reducible apply o_y); exact y_; rfl) | with_reducible refine aF (by kernel_rfl) (by kernel_rfl) ?_ | with_reducible refine aN ?_ | with_reducible refine aE rfl ?_ | refine aX rfl rfl rfl rr_ ?_ | refine aV rfl rfl rfl rr_ rfl rfl rfl ?_ | (refine cF rfl rfl rfl rr_ dd_ ?_) | ((with_reducible apply d_y); exact y_; rfl) | refine ay hG hst (k1) ?_ | refine ay hG hst (k2) ?_ | with_reducible refine ab rfl ?_ | (with_reducible first | apply ag | apply aa | apply ah | apply ac | apply au | apply ad) | refine av rfl rr_ ?_)
    refine ao x_ rfl (.tmp _ _ rfl) (fun _ => ?_)
    exact Fin.flat rfl
  rw [decide_eq_true hc3, Bool.true_and]
  cases hc4 : inR st.budget 0 3000
  case false =>
    rw [hc4] at k4
    rw [Bool.false_and]
    repeat' (first | ((with_reducible apply o_y); exact y_; rfl) | with_reducible refine aF (by kernel_rfl) (by kernel_rfl) ?_ | with_reducible refine aN ?_ | with_reducible refine aE rfl ?_ | refine aX rfl rfl rfl rr_ ?_ | refine aV rfl rfl rfl rr_ rfl rfl rfl ?_ | (refine bW rfl rfl rfl rr_ dd_ ?_) | ((with_reducible apply d_y); exact y_; rfl) | refine ay hG hst (k1) ?_ | refine ay hG hst (k2) ?_ | refine ay hG hst (k4) ?_ | with_reducible refine ab rfl ?_ | (with_reducible first | apply ag | apply aa | apply ah | apply ac | apply au | apply ad) | refine av rfl rr_ ?_)
    refine ao x_ rfl (.tmp _ _ rfl) (fun _ => ?_)
    exact Fin.flat rfl
  rw [hc4] at k4
  rw [Bool.true_and]
  cases hc5 : inR st.ticks 0 st.budget
  case false =>
    rw [hc5] at k5
    rw [Bool.false_and]
    repeat' (first | ((with_reducible apply o_y); exact y_; rfl) | with_reducible refine aF (by kernel_rfl) (by kernel_rfl) ?_ | with_reducible refine aN ?_ | with_reducible refine aE rfl ?_ | refine aX rfl rfl rfl rr_ ?_ | (refine bW rfl rfl rfl rr_ dd_ ?_) | ((with_reducible apply d_y); exact y_; rfl) | refine ay hG hst (k1) ?_ | refine ay hG hst (k2) ?_ | refine ay hG hst (k4) ?_ | refine ay hG hst (k5) ?_ | with_reducible refine ab rfl ?_ | (with_reducible first | apply ag | apply aa | apply ah | apply ac | apply au | apply ad) | refine av rfl rr_ ?_)
    refine ao x_ rfl (.tmp _ _ rfl) (fun _ => ?_)
    exact Fin.flat rfl
  rw [hc5] at k5
  rw [Bool.true_and]
  repeat' (first | ((with_reducible apply o_y); exact y_; rfl) | with_reducible refine aF (by kernel_rfl) (by kernel_rfl) ?_ | with_reducible refine aN ?_ | with_reducible refine aE rfl ?_ | refine aX rfl rfl rfl rr_ ?_ | (refine bW rfl rfl rfl rr_ dd_ ?_) | ((with_reducible apply d_y); exact y_; rfl) | refine ay hG hst (k1) ?_ | refine ay hG hst (k2) ?_ | refine ay hG hst (k4) ?_ | refine ay hG hst (k5) ?_ | with_reducible refine ab rfl ?_ | (with_reducible first | apply ag | apply aa | apply ah | apply ac | apply ai | apply ap) | refine az rfl rr_ ?_)
  apply aK (X := Nat) [0, 1, 4] (fun i => [(5, .int .i64 (i : Int))]) (fun _ => []) (fun i => i ≤ st.output.length ∧ ∀ y ∈ st.output.take i, ei y = true) (fun i => st.output.length - i) 0 ⟨Nat.zero_le _, by simp⟩
  exact kp_; (repeat (first | exact bj.envNil | refine bj.envCons we_ ?_))
  · exact .refl _
  rintro i ⟨hi, hall⟩
  try dsimp only
  by_cases hlt : i < st.output.length
  · have hrow := jP hlt
    have hxi := hln _ (hsm.2.2.2 _ (List.getElem_mem hlt))
    have hta := bu (p := fun y => ei y = true) hlt hall
    cases hfi : ei st.output[i] with
    | false =>
      rw [show st.output.all ei = false from Bool.eq_false_iff.2 fun h => (by rw [List.all_eq_true.1 h _ (List.getElem_mem hlt)] at hfi; cases hfi), Bool.false_and]
      rw [j0] at hxi; rw [hfi] at hxi
      generalize st.output[i] = x at hrow hxi
      repeat' (first | ((with_reducible apply o_y); exact y_; rfl) | refine aw hG hst (kG (G := GL) x) ?_ | refine aw hG hst (hxi) ?_ | with_reducible refine ab rfl ?_ | (with_reducible first | apply ag | apply aa | apply ah | apply ac | apply ai | apply ap | apply au | apply ad | apply ak) | refine av rfl rr_ ?_ | (refine ae rfl rr_ dd_ ?_))
      refine ao x_ rfl (.tmp _ _ rfl) (fun _ => ?_)
      exact Fin.flat rfl
    | true =>
      rw [j0] at hxi; rw [hfi] at hxi
      rw [hfi] at hta
      generalize st.output[i] = x at hrow hxi
      repeat' (first | ((with_reducible apply o_y); exact y_; rfl) | refine aw hG hst (kG (G := GL) x) ?_ | refine aw hG hst (hxi) ?_ | with_reducible refine ab rfl ?_ | (with_reducible first | apply ag | apply aa | apply ah | apply ac | apply ai | apply ap | apply aB) | refine az rfl rr_ ?_ | (refine ae rfl rr_ dd_ ?_))
      exact aG (i + 1) ⟨by omega, hta rfl⟩ (by omega) (.of _ nw_ od_ pk_)
  obtain rfl : i = st.output.length := by omega
  rw [List.take_of_length_le (Nat.le_refl _)] at hall
  rw [List.all_eq_true.2 hall, Bool.true_and]
  clear hln hall
  repeat' (first | ((with_reducible apply o_y); exact y_; rfl) | with_reducible refine ab rfl ?_ | (with_reducible first | apply ag | apply aa | apply ah | apply ac | apply ai | apply aH | apply ar | apply aq) | (refine aj rfl rr_ dd_ ?_))
  have hfo : ∀ i (h : i < st.objects.length), ez st nb st.objects[i] = false → st.objects.all (ez st nb) = false := fun i h hf => Bool.eq_false_iff.2 fun h2 => by
    rw [List.all_eq_true.1 h2 _ (List.getElem_mem h)] at hf; cases hf
  apply aK (X := Nat) [0, 1, 4] (fun i => [(6, .int .i64 (i : Int))]) (fun _ => []) (fun i => i ≤ st.objects.length ∧ ∀ y ∈ st.objects.take i, ez st nb y = true) (fun i => st.objects.length - i) 0 ⟨Nat.zero_le _, by simp⟩
  exact kp_; (repeat (first | exact bj.envNil | refine bj.envCons we_ ?_))
  · exact .refl _
  rintro i ⟨hi, hall⟩
  try dsimp only
  by_cases hlt : i < st.objects.length
  · have hrow : (st.objects.map (aR.tw lo))[i]? = some [.int .i64 st.objects[i].kind, .int .i64 st.objects[i].class_, .sl lo 3 (st.objects[i].fields.map (aC.tw lo)), .sl lo 1 (bv st.objects[i].numbers)] := bg hlt
    have hxi := hex _ (hsm.2.1.2 _ (List.getElem_mem hlt)) hc1
    have hta := bu (p := fun y => ez st nb y = true) hlt hall
    clear hex
    cases hfi : ez st nb st.objects[i] with
    | false =>
      rw [hfo i hlt hfi]
      rw [hfi] at hxi
      generalize st.objects[i] = x at hrow hxi
      obtain ⟨xk, xc, xf, xn⟩ := x
      dsimp only at hrow hxi
      repeat' (first | ((with_reducible apply o_y); exact y_; rfl) | refine aw hG hst (hxi) ?_ | with_reducible refine ab rfl ?_ | (with_reducible first | apply ag | apply aa | apply ah | apply ac | apply ai | apply ap | apply au | apply ad | apply ak) | refine av rfl rr_ ?_ | (refine ae rfl rr_ dd_ ?_))
      refine ao x_ rfl (.tmp _ _ rfl) (fun _ => ?_)
      exact Fin.flat rfl
    | true =>
      rw [hfi] at hxi hta
      generalize st.objects[i] = x at hrow hxi
      obtain ⟨xk, xc, xf, xn⟩ := x
      dsimp only at hrow hxi
      repeat' (first | ((with_reducible apply o_y); exact y_; rfl) | refine aw hG hst (hxi) ?_ | with_reducible refine ab rfl ?_ | (with_reducible first | apply ag | apply aa | apply ah | apply ac | apply ai | apply ap | apply aB) | refine az rfl rr_ ?_ | (refine ae rfl rr_ dd_ ?_))
      exact aG (i + 1) ⟨by omega, hta rfl⟩ (by omega) (.of _ nw_ od_ pk_)
  obtain rfl : i = st.objects.length := by omega
  rw [List.take_of_length_le (Nat.le_refl _)] at hall
  rw [List.all_eq_true.2 hall]
  repeat' (first | ((with_reducible apply o_y); exact y_; rfl) | with_reducible refine ab rfl ?_ | (with_reducible first | apply ag | apply aa | apply ah | apply ac | apply aH | apply au | apply ar | apply aq) | (refine aj rfl rr_ dd_ ?_))
  refine ao x_ rfl (.tmp _ _ rfl) (fun _ => ?_)
  exact Fin.flat rfl
set_option maxHeartbeats 4000000 in
theorem rY (lo : Nat) (st : br) (hsm : st.small 1048576) (nb : Int) : Ct Tryz.prog GL 96 [.agg (st.tw lo), .int .i64 nb] (fun _ => .bool (gY st nb)) := by
  refine aJ Tryz.func96 rfl Tryz.ntmps96 rfl rfl fun w0 _ hG => ?_
  have hst := cZ
  have k1 := jp hst lo st.classes hsm.1
  have k2 := a7 (G := GL) st.made st.objects.length 800
  have k4 := a7 (G := GL) st.budget 0 3000
  have k5 := a7 (G := GL) st.ticks 0 st.budget
  have hol := bX st.output
  have hbl := aR.len lo st.objects
  have hcn := am.len lo st.classes
  have hz1 := hsm.2.1.1
  have hz2 := hsm.2.2.1
  have hex := fun (o : aR) (h : o.small 1048576) (hc : bO st.classes = true) => pB lo st (ng hc) (iC hc).1 nb o h
  have hln := fun (t : ByteArray) (h : t.size ≤ 1048576) => kr hst t h
  unfold gY
  unfold br.tw at hex ⊢
  cases hc1 : bO st.classes
  case false =>
    rw [hc1] at k1
    rw [Bool.false_and]
    repeat' (first | ((with_reducible apply o_y); exact y_; rfl) | refine bf ?_ | refine aw hG hst (k1) ?_ | with_reducible refine ab rfl ?_ | (with_reducible first | apply ag | apply aa | apply ah | apply ac | apply au | apply ad) | refine aO rfl rfl rfl rr_ rfl rfl rfl ?_ | refine av rfl rr_ ?_)
    refine ao x_ rfl (.tmp _ _ rfl) (fun _ => ?_)
    exact Fin.flat rfl
  rw [hc1] at k1
  rw [Bool.true_and]
  cases hc2 : inR st.made st.objects.length 800
  case false =>
    rw [hc2] at k2
    rw [Bool.false_and]
    repeat' (first | ((with_reducible apply o_y); exact y_; rfl) | refine bf ?_ | refine aw hG hst (k1) ?_ | refine aw hG hst (k2) ?_ | with_reducible refine ab rfl ?_ | (with_reducible first | apply ag | apply aa | apply ah | apply ac | apply au | apply ad) | refine aP rfl rfl rfl rr_ ?_ | refine aO rfl rfl rfl rr_ rfl rfl rfl ?_ | refine av rfl rr_ ?_)
    refine ao x_ rfl (.tmp _ _ rfl) (fun _ => ?_)
    exact Fin.flat rfl
  rw [hc2] at k2
  rw [Bool.true_and]
  by_cases hc3 : st.output.length ≤ 60
  case neg =>
    rw [decide_eq_false hc3, Bool.false_and]
    repeat' (first | ((with_reducible apply o_y); exact y_; rfl) | refine bf ?_ | refine aw hG hst (k1) ?_ | refine aw hG hst (k2) ?_ | with_reducible refine ab rfl ?_ | (with_reducible first | apply ag | apply aa | apply ah | apply ac | apply au | apply ad) | refine aP rfl rfl rfl rr_ ?_ | refine aO rfl rfl rfl rr_ rfl rfl rfl ?_ | (refine bQ rfl rfl rfl rr_ dd_ ?_) | refine av rfl rr_ ?_)
    refine ao x_ rfl (.tmp _ _ rfl) (fun _ => ?_)
    exact Fin.flat rfl
  rw [decide_eq_true hc3, Bool.true_and]
  cases hc4 : inR st.budget 0 3000
  case false =>
    rw [hc4] at k4
    rw [Bool.false_and]
    repeat' (first | ((with_reducible apply o_y); exact y_; rfl) | refine bf ?_ | refine aw hG hst (k1) ?_ | refine aw hG hst (k2) ?_ | refine aw hG hst (k4) ?_ | with_reducible refine ab rfl ?_ | (with_reducible first | apply ag | apply aa | apply ah | apply ac | apply au | apply ad) | refine aP rfl rfl rfl rr_ ?_ | refine aO rfl rfl rfl rr_ rfl rfl rfl ?_ | (refine bC rfl rfl rfl rr_ dd_ ?_) | refine av rfl rr_ ?_)
    refine ao x_ rfl (.tmp _ _ rfl) (fun _ => ?_)
    exact Fin.flat rfl
  rw [hc4] at k4
  rw [Bool.true_and]
  cases hc5 : inR st.ticks 0 st.budget
  case false =>
    rw [hc5] at k5
    rw [Bool.false_and]
    repeat' (first | ((with_reducible apply o_y); exact y_; rfl) | refine bf ?_ | refine aw hG hst (k1) ?_ | refine aw hG hst (k2) ?_ | refine aw hG hst (k4) ?_ | refine aw hG hst (k5) ?_ | with_reducible refine ab rfl ?_ | (with_reducible first | apply ag | apply aa | apply ah | apply ac | apply au | apply ad) | refine aP rfl rfl rfl rr_ ?_ | (refine bC rfl rfl rfl rr_ dd_ ?_) | refine av rfl rr_ ?_)
    refine ao x_ rfl (.tmp _ _ rfl) (fun _ => ?_)
    exact Fin.flat rfl
  rw [hc5] at k5
  rw [Bool.true_and]
  repeat' (first | ((with_reducible apply o_y); exact y_; rfl) | refine bf ?_ | refine aw hG hst (k1) ?_ | refine aw hG hst (k2) ?_ | refine aw hG hst (k4) ?_ | refine aw hG hst (k5) ?_ | with_reducible refine ab rfl ?_ | (with_reducible first | apply ag | apply aa | apply ah | apply ac | apply ai | apply ap) | refine aP rfl rfl rfl rr_ ?_ | (refine bC rfl rfl rfl rr_ dd_ ?_) | refine az rfl rr_ ?_)
  apply aK (X := Nat) [1, 2, 4, 43, 44] (fun i => [(45, .int .i64 (i : Int))]) (fun _ => []) (fun i => i ≤ st.output.length ∧ ∀ y ∈ st.output.take i, ei y = true) (fun i => st.output.length - i) 0 ⟨Nat.zero_le _, by simp⟩
  exact kp_; (repeat (first | exact bj.envNil | refine bj.envCons we_ ?_))
  · exact .refl _
  rintro i ⟨hi, hall⟩
  try dsimp only
  by_cases hlt : i < st.output.length
  · have hrow := jP hlt
    have hxi := hln _ (hsm.2.2.2 _ (List.getElem_mem hlt))
    have hta := bu (p := fun y => ei y = true) hlt hall
    cases hfi : ei st.output[i] with
    | false =>
      rw [show st.output.all ei = false from Bool.eq_false_iff.2 fun h => (by rw [List.all_eq_true.1 h _ (List.getElem_mem hlt)] at hfi; cases hfi), Bool.false_and]
      rw [hfi] at hxi
      generalize st.output[i] = x at hrow hxi
      repeat' (first | ((with_reducible apply o_y); exact y_; rfl) | refine aw hG hst (hxi) ?_ | with_reducible refine ab rfl ?_ | (with_reducible first | apply ag | apply aa | apply ah | apply ac | apply ai | apply ap | apply au | apply ad | apply ak) | refine av rfl rr_ ?_ | (refine ae rfl rr_ dd_ ?_))
      refine ao x_ rfl (.tmp _ _ rfl) (fun _ => ?_)
      exact Fin.flat rfl
    | true =>
      rw [hfi] at hxi
      rw [hfi] at hta
      generalize st.output[i] = x at hrow hxi
      repeat' (first | ((with_reducible apply o_y); exact y_; rfl) | refine aw hG hst (hxi) ?_ | with_reducible refine ab rfl ?_ | (with_reducible first | apply ag | apply aa | apply ah | apply ac | apply ai | apply ap | apply aB) | refine az rfl rr_ ?_ | (refine ae rfl rr_ dd_ ?_))
      exact aG (i + 1) ⟨by omega, hta rfl⟩ (by omega) (.of _ nw_ od_ pk_)
  obtain rfl : i = st.output.length := by omega
  rw [List.take_of_length_le (Nat.le_refl _)] at hall
  rw [List.all_eq_true.2 hall, Bool.true_and]
  clear hln hall
  repeat' (first | ((with_reducible apply o_y); exact y_; rfl) | with_reducible refine ab rfl ?_ | (with_reducible first | apply ag | apply aa | apply ah | apply ac | apply ai | apply aH | apply ar | apply aq) | (refine aj rfl rr_ dd_ ?_))
  have hfo : ∀ i (h : i < st.objects.length), ez st nb st.objects[i] = false → st.objects.all (ez st nb) = false := fun i h hf => Bool.eq_false_iff.2 fun h2 => by
    rw [List.all_eq_true.1 h2 _ (List.getElem_mem h)] at hf; cases hf
  apply aK (X := Nat) [1, 2, 4, 54, 55] (fun i => [(56, .int .i64 (i : Int))]) (fun _ => []) (fun i => i ≤ st.objects.length ∧ ∀ y ∈ st.objects.take i, ez st nb y = true) (fun i => st.objects.length - i) 0 ⟨Nat.zero_le _, by simp⟩
  exact kp_; (repeat (first | exact bj.envNil | refine bj.envCons we_ ?_))
  · exact .refl _
  rintro i ⟨hi, hall⟩
  try dsimp only
  by_cases hlt : i < st.objects.length
  · have hrow : (st.objects.map (aR.tw lo))[i]? = some [.int .i64 st.objects[i].kind, .int .i64 st.objects[i].class_, .sl lo 3 (st.objects[i].fields.map (aC.tw lo)), .sl lo 1 (bv st.objects[i].numbers)] := bg hlt
    have hxi := hex _ (hsm.2.1.2 _ (List.getElem_mem hlt)) hc1
    have hta := bu (p := fun y => ez st nb y = true) hlt hall
    clear hex
    cases hfi : ez st nb st.objects[i] with
    | false =>
      rw [hfo i hlt hfi]
      rw [hfi] at hxi
      generalize st.objects[i] = x at hrow hxi
      obtain ⟨xk, xc, xf, xn⟩ := x
      dsimp only at hrow hxi
      repeat' (first | ((with_reducible apply o_y); exact y_; rfl) | (refine aI ?_; intro ss bb) | refine aA ?_ | refine aw hG hst (hxi) ?_ | with_reducible refine ab rfl ?_ | (with_reducible first | apply ag | apply aa | apply ah | apply ac | apply ai | apply ap | apply au | apply ad | apply ak) | refine av rfl rr_ ?_ | (refine ae rfl rr_ dd_ ?_))
      refine ao x_ rfl (.tmp _ _ rfl) (fun _ => ?_)
      exact Fin.flat rfl
    | true =>
      rw [hfi] at hxi hta
      generalize st.objects[i] = x at hrow hxi
      obtain ⟨xk, xc, xf, xn⟩ := x
      dsimp only at hrow hxi
      repeat' (first | ((with_reducible apply o_y); exact y_; rfl) | (refine aI ?_; intro ss bb) | refine aA ?_ | refine aw hG hst (hxi) ?_ | with_reducible refine ab rfl ?_ | (with_reducible first | apply ag | apply aa | apply ah | apply ac | apply ai | apply ap | apply aB) | refine az rfl rr_ ?_ | (refine ae rfl rr_ dd_ ?_))
      exact aG (i + 1) ⟨by omega, hta rfl⟩ (by omega) (.of _ nw_ od_ pk_)
  obtain rfl : i = st.objects.length := by omega
  rw [List.take_of_length_le (Nat.le_refl _)] at hall
  rw [List.all_eq_true.2 hall]
  repeat' (first | ((with_reducible apply o_y); exact y_; rfl) | with_reducible refine ab rfl ?_ | (with_reducible first | apply ag | apply aa | apply ah | apply ac | apply aH | apply au | apply ar | apply aq) | (refine aj rfl rr_ dd_ ?_))
  refine ao x_ rfl (.tmp _ _ rfl) (fun _ => ?_)
  exact Fin.flat rfl
set_option maxRecDepth 20000
theorem gW {α : Type} {l : List α} {i : Nat} (h : i < l.length) : l.take (i + 1) = l.take i ++ [l[i]] := by rw [List.take_add_one, List.getElem?_eq_getElem h]; rfl
section
variable {G : World → Prop}
end
set_option maxRecDepth 20000
open Classical in
noncomputable def r8 (a b : List am) : Bool := decide (a = b)
open Classical in
theorem lA {a b : List am} (h : ¬ a = b) : r8 a b = false := decide_eq_false h
open Classical in
theorem rE {a b : List am} (h : a = b) : r8 a b = true := decide_eq_true h
theorem wL {x y : am} (h1 : x.name = y.name) (h2 : x.parent = y.parent) (h3 : x.fields = y.fields) : x = y := by
  cases x; cases y; simp_all
theorem fh {α : Type} {a b : List α} {i : Nat} (ha : i < a.length) (hb : i < b.length) (h : a.take i = b.take i) (e : a[i] = b[i]) : a.take (i + 1) = b.take (i + 1) := by
  rw [gW ha, gW hb, h, e]
section
variable {G : World → Prop}
set_option maxHeartbeats 4000000 in
theorem rV (hst : aY G) (l1 l2 : Nat) (a b : List am) (ha : a.length ≤ 1048576 ∧ ∀ y ∈ a, am.small 1048576 y) (hb : b.length ≤ 1048576 ∧ ∀ y ∈ b, am.small 1048576 y) : Ct Tryz.prog G 156 [.sl l1 3 (a.map (am.tw l1)), .sl l2 3 (b.map (am.tw l2))] (fun _ => .bool (r8 a b)) := by
  refine aJ Tryz.func156 rfl Tryz.ntmps156 rfl rfl fun w0 _ hG => ?_
  have hla := am.len l1 a
  have hlb := am.len l2 b
  have ha1 := ha.1
  have hb1 := hb.1
  by_cases hl : a.length = b.length
  case neg =>
    rw [lA fun e => hl (by rw [e])]
    repeat' (first | ((with_reducible apply o_y); exact y_; rfl) | with_reducible refine ab rfl ?_ | (with_reducible first | apply ag | apply aa | apply ah | apply ac | apply au | apply ad) | (refine ae rfl rr_ dd_ ?_))
    refine ao x_ rfl (.tmp _ _ rfl) (fun _ => ?_)
    exact Fin.flat rfl
  repeat' (first | ((with_reducible apply o_y); exact y_; rfl) | with_reducible refine ab rfl ?_ | (with_reducible first | apply ag | apply aa | apply ah | apply ac | apply ai | apply ap) | (refine aj rfl rr_ dd_ ?_))
  apply aK (X := Nat) [0, 1] (fun i => [(5, .int .i64 (i : Int))]) (fun _ => []) (fun i => i ≤ a.length ∧ a.take i = b.take i) (fun i => a.length - i) 0 ⟨Nat.zero_le _, by simp⟩
  exact kp_; (repeat (first | exact bj.envNil | refine bj.envCons we_ ?_))
  · exact .refl _
  rintro i ⟨hi, hs⟩
  try dsimp only
  by_cases hlt : i < a.length
  · have hr1 := fL (lo := l1) hlt
    have hlt2 : i < b.length := by omega
    have hr2 := fL (lo := l2) hlt2
    have hta := fh hlt hlt2 hs
    have hne : a[i] ≠ b[i] → r8 a b = false := fun h => lA fun e => h (by subst e; rfl)
    have hsa := (ha.2 _ (List.getElem_mem hlt)).2.1
    have hsb := (hb.2 _ (List.getElem_mem hlt2)).2.1
    have hce := wL (x := a[i]) (y := b[i])
    generalize a[i] = x at hr1 hta hne hsa hce
    generalize b[i] = y at hr2 hta hne hsb hce
    have c1 := fZ (G := G) l1 l2 x.fields y.fields hsa hsb
    by_cases h1 : x.name = y.name
    case neg =>
      have h1' : x.name ≠ y.name := h1
      rw [hne fun e => h1 (by rw [e])]
      repeat' (first | ((with_reducible apply o_y); exact y_; rfl) | with_reducible refine aF (by kernel_rfl) (by kernel_rfl) ?_ | with_reducible refine aN ?_ | with_reducible refine aE rfl ?_ | refine aV rfl rfl rfl rr_ rfl rfl rfl ?_ | (refine cF rfl rfl rfl rr_ dd_ ?_) | ((with_reducible apply d_y); exact y_; rfl) | with_reducible refine ab rfl ?_ | (with_reducible first | apply ag | apply aa | apply ah | apply ac | apply ai | apply ap | apply au | apply ad | apply ak) | refine av rfl rr_ ?_ | (refine ae rfl rr_ dd_ ?_))
      refine ao x_ rfl (.tmp _ _ rfl) (fun _ => ?_)
      exact Fin.flat rfl
    have h1' : ¬ x.name ≠ y.name := fun h => h h1
    by_cases h2 : x.parent = y.parent
    case neg =>
      have h2' : x.parent ≠ y.parent := h2
      rw [hne fun e => h2 (by rw [e])]
      repeat' (first | ((with_reducible apply o_y); exact y_; rfl) | with_reducible refine aF (by kernel_rfl) (by kernel_rfl) ?_ | with_reducible refine aN ?_ | with_reducible refine aE rfl ?_ | refine aX rfl rfl rfl rr_ ?_ | refine aV rfl rfl rfl rr_ rfl rfl rfl ?_ | (refine cF rfl rfl rfl rr_ dd_ ?_) | (refine bW rfl rfl rfl rr_ dd_ ?_) | ((with_reducible apply d_y); exact y_; rfl) | with_reducible refine ab rfl ?_ | (with_reducible first | apply ag | apply aa | apply ah | apply ac | apply ai | apply ap | apply au | apply ad | apply ak) | refine av rfl rr_ ?_ | (refine ae rfl rr_ dd_ ?_))
      refine ao x_ rfl (.tmp _ _ rfl) (fun _ => ?_)
      exact Fin.flat rfl
    have h2' : ¬ x.parent ≠ y.parent := fun h => h h2
    by_cases h3 : x.fields = y.fields
    case neg =>
      rw [decide_eq_false h3] at c1
      rw [hne fun e => h3 (by rw [e])]
      repeat' (first | ((with_reducible apply o_y); exact y_; rfl) | with_reducible refine aF (by kernel_rfl) (by kernel_rfl) ?_ | with_reducible refine aN ?_ | with_reducible refine aE rfl ?_ | refine aX rfl rfl rfl rr_ ?_ | (refine bW rfl rfl rfl rr_ dd_ ?_) | ((with_reducible apply d_y); exact y_; rfl) | refine ay hG hst (c1) ?_ | with_reducible refine ab rfl ?_ | (with_reducible first | apply ag | apply aa | apply ah | apply ac | apply ai | apply ap | apply au | apply ad | apply ak) | refine av rfl rr_ ?_ | (refine ae rfl rr_ dd_ ?_))
      refine ao x_ rfl (.tmp _ _ rfl) (fun _ => ?_)
      exact Fin.flat rfl
    rw [decide_eq_true h3] at c1
    repeat' (first | ((with_reducible apply o_y); exact y_; rfl) | with_reducible refine aF (by kernel_rfl) (by kernel_rfl) ?_ | with_reducible refine aN ?_ | with_reducible refine aE rfl ?_ | refine aX rfl rfl rfl rr_ ?_ | (refine bW rfl rfl rfl rr_ dd_ ?_) | ((with_reducible apply d_y); exact y_; rfl) | refine ay hG hst (c1) ?_ | with_reducible refine ab rfl ?_ | (with_reducible first | apply ag | apply aa | apply ah | apply ac | apply ai | apply ap | apply aB) | refine az rfl rr_ ?_ | (refine ae rfl rr_ dd_ ?_))
    exact aG (i + 1) ⟨by omega, hta (hce h1 h2 h3)⟩ (by omega) (.of _ nw_ od_ pk_)
  · rw [List.take_of_length_le (by omega), List.take_of_length_le (by omega)] at hs
    rw [rE hs]
    repeat' (first | ((with_reducible apply o_y); exact y_; rfl) | with_reducible refine ab rfl ?_ | (with_reducible first | apply ag | apply aa | apply ah | apply ac | apply aH | apply au | apply ar | apply aq) | (refine aj rfl rr_ dd_ ?_))
    refine ao x_ rfl (.tmp _ _ rfl) (fun _ => ?_)
    exact Fin.flat rfl
set_option maxHeartbeats 4000000 in
theorem kU (l1 l2 : Nat) (a b : List am) (ha : a.length ≤ 1048576 ∧ ∀ y ∈ a, am.small 1048576 y) (hb : b.length ≤ 1048576 ∧ ∀ y ∈ b, am.small 1048576 y) : Ct Tryz.prog G 95 [.sl l1 3 (a.map (am.tw l1)), .sl l2 3 (b.map (am.tw l2))] (fun _ => .bool (r8 a b)) := by
  refine aJ Tryz.func95 rfl Tryz.ntmps95 rfl rfl fun w0 _ hG => ?_
  have hla := am.len l1 a
  have hlb := am.len l2 b
  have ha1 := ha.1
  have hb1 := hb.1
  by_cases hl : a.length = b.length
  case neg =>
    rw [lA fun e => hl (by rw [e])]
    repeat' (first | ((with_reducible apply o_y); exact y_; rfl) | with_reducible refine ab rfl ?_ | (with_reducible first | apply ag | apply aa | apply ah | apply ac | apply au | apply ad) | (refine ae rfl rr_ dd_ ?_))
    refine ao x_ rfl (.tmp _ _ rfl) (fun _ => ?_)
    exact Fin.flat rfl
  repeat' (first | ((with_reducible apply o_y); exact y_; rfl) | with_reducible refine ab rfl ?_ | (with_reducible first | apply ag | apply aa | apply ah | apply ac | apply ai | apply ap) | (refine aj rfl rr_ dd_ ?_))
  apply aK (X := Nat) [0, 1, 13] (fun i => [(14, .int .i64 (i : Int))]) (fun _ => []) (fun i => i ≤ a.length ∧ a.take i = b.take i) (fun i => a.length - i) 0 ⟨Nat.zero_le _, by simp⟩
  exact kp_; (repeat (first | exact bj.envNil | refine bj.envCons we_ ?_))
  · exact .refl _
  rintro i ⟨hi, hs⟩
  try dsimp only
  by_cases hlt : i < a.length
  · have hr1 := fL (lo := l1) hlt
    have hlt2 : i < b.length := by omega
    have hr2 := fL (lo := l2) hlt2
    have hta := fh hlt hlt2 hs
    have hne : a[i] ≠ b[i] → r8 a b = false := fun h => lA fun e => h (by subst e; rfl)
    have hsa := (ha.2 _ (List.getElem_mem hlt)).2.1
    have hsb := (hb.2 _ (List.getElem_mem hlt2)).2.1
    have hce := wL (x := a[i]) (y := b[i])
    generalize a[i] = x at hr1 hta hne hsa hce
    generalize b[i] = y at hr2 hta hne hsb hce
    have hxl := bX x.fields
    have hyl := bX y.fields
    by_cases h1 : x.name = y.name
    case neg =>
      have h1' : x.name ≠ y.name := h1
      rw [hne fun e => h1 (by rw [e])]
      repeat' (first | ((with_reducible apply o_y); exact y_; rfl) | with_reducible refine aF (by kernel_rfl) (by kernel_rfl) ?_ | with_reducible refine aN ?_ | with_reducible refine aE rfl ?_ | refine aV rfl rfl rfl rr_ rfl rfl rfl ?_ | (refine cF rfl rfl rfl rr_ dd_ ?_) | ((with_reducible apply d_y); exact y_; rfl) | with_reducible refine ab rfl ?_ | (with_reducible first | apply ag | apply aa | apply ah | apply ac | apply ai | apply ap | apply au | apply ad | apply ak) | refine av rfl rr_ ?_ | (refine ae rfl rr_ dd_ ?_))
      refine ao x_ rfl (.tmp _ _ rfl) (fun _ => ?_)
      exact Fin.flat rfl
    have h1' : ¬ x.name ≠ y.name := fun h => h h1
    by_cases h2 : x.parent = y.parent
    case neg =>
      have h2' : x.parent ≠ y.parent := h2
      rw [hne fun e => h2 (by rw [e])]
      repeat' (first | ((with_reducible apply o_y); exact y_; rfl) | with_reducible refine aF (by kernel_rfl) (by kernel_rfl) ?_ | with_reducible refine aN ?_ | with_reducible refine aE rfl ?_ | refine aX rfl rfl rfl rr_ ?_ | refine aV rfl rfl rfl rr_ rfl rfl rfl ?_ | (refine cF rfl rfl rfl rr_ dd_ ?_) | (refine bW rfl rfl rfl rr_ dd_ ?_) | ((with_reducible apply d_y); exact y_; rfl) | with_reducible refine ab rfl ?_ | (with_reducible first | apply ag | apply aa | apply ah | apply ac | apply ai | apply ap | apply au | apply ad | apply ak) | refine av rfl rr_ ?_ | (refine ae rfl rr_ dd_ ?_))
      refine ao x_ rfl (.tmp _ _ rfl) (fun _ => ?_)
      exact Fin.flat rfl
    have h2' : ¬ x.parent ≠ y.parent := fun h => h h2
    by_cases h3 : x.fields.length = y.fields.length
    case neg =>
      have h3' : (x.fields.length : Int) ≠ y.fields.length := by omega
      rw [hne fun e => h3 (by rw [e])]
      repeat' (first | ((with_reducible apply o_y); exact y_; rfl) | with_reducible refine aF (by kernel_rfl) (by kernel_rfl) ?_ | with_reducible refine aN ?_ | with_reducible refine aE rfl ?_ | refine aX rfl rfl rfl rr_ ?_ | (refine bW rfl rfl rfl rr_ dd_ ?_) | ((with_reducible apply d_y); exact y_; rfl) | with_reducible refine ab rfl ?_ | (with_reducible first | apply ag | apply aa | apply ah | apply ac | apply ai | apply ap | apply au | apply ad | apply ak) | (refine ae rfl rr_ dd_ ?_))
      refine ao x_ rfl (.tmp _ _ rfl) (fun _ => ?_)
      exact Fin.flat rfl
    have h3' : ¬ (x.fields.length : Int) ≠ y.fields.length := by omega
    repeat' (first | ((with_reducible apply o_y); exact y_; rfl) | with_reducible refine aF (by kernel_rfl) (by kernel_rfl) ?_ | with_reducible refine aN ?_ | with_reducible refine aE rfl ?_ | refine aX rfl rfl rfl rr_ ?_ | (refine bW rfl rfl rfl rr_ dd_ ?_) | ((with_reducible apply d_y); exact y_; rfl) | with_reducible refine ab rfl ?_ | (with_reducible first | apply ag | apply aa | apply ah | apply ac | apply ai | apply ap) | (refine ae rfl rr_ dd_ ?_) | (refine aj rfl rr_ dd_ ?_))
    apply aK (X := Nat) [0, 1, 13, 14, 5, 61] (fun k => [(62, .int .i64 (k : Int))]) (fun _ => []) (fun k => k ≤ x.fields.length ∧ x.fields.take k = y.fields.take k) (fun k => x.fields.length - k) 0 ⟨Nat.zero_le _, by simp⟩
    exact kp_; (repeat (first | exact bj.envNil | refine bj.envCons we_ ?_))
    · exact .refl _
    rintro k ⟨hk, hks⟩
    try dsimp only
    by_cases hkt : k < x.fields.length
    · have hkt2 : k < y.fields.length := by omega
      have hs1 := jP hkt
      have hs2 := jP hkt2
      have htk := fh hkt hkt2 hks
      have hnf : x.fields[k] ≠ y.fields[k] → x ≠ y := fun h e => h (by subst e; rfl)
      generalize x.fields[k] = u at hs1 htk hnf
      generalize y.fields[k] = v at hs2 htk hnf
      by_cases h4 : u = v
      case neg =>
        have h4' : u ≠ v := h4
        rw [hne (hnf h4)]
        repeat' (first | ((with_reducible apply o_y); exact y_; rfl) | with_reducible refine aF (by kernel_rfl) (by kernel_rfl) ?_ | with_reducible refine aN ?_ | with_reducible refine aE rfl ?_ | ((with_reducible apply d_y); exact y_; rfl) | with_reducible refine ab rfl ?_ | (with_reducible first | apply ag | apply aa | apply ah | apply ac | apply ai | apply ap | apply au | apply ad | apply ak) | (refine ae rfl rr_ dd_ ?_))
        refine ao x_ rfl (.tmp _ _ rfl) (fun _ => ?_)
        exact Fin.flat rfl
      have h4' : ¬ u ≠ v := fun h => h h4
      repeat' (first | ((with_reducible apply o_y); exact y_; rfl) | with_reducible refine aF (by kernel_rfl) (by kernel_rfl) ?_ | with_reducible refine aN ?_ | with_reducible refine aE rfl ?_ | ((with_reducible apply d_y); exact y_; rfl) | with_reducible refine ab rfl ?_ | (with_reducible first | apply ag | apply aa | apply ah | apply ac | apply ai | apply ap | apply aB) | (refine ae rfl rr_ dd_ ?_) | (refine aj rfl rr_ dd_ ?_))
      exact aG (k + 1) ⟨by omega, htk h4⟩ (by omega) (.of _ nw_ od_ pk_)
    · rw [List.take_of_length_le (by omega), List.take_of_length_le (by omega)] at hks
      repeat' (first | ((with_reducible apply o_y); exact y_; rfl) | with_reducible refine ab rfl ?_ | (with_reducible first | apply ag | apply aa | apply ah | apply ac | apply aH | apply ar | apply aq | apply aB) | (refine aj rfl rr_ dd_ ?_))
      exact aG (i + 1) ⟨by omega, hta (hce h1 h2 hks)⟩ (by omega) (.of _ nw_ od_ pk_)
  · rw [List.take_of_length_le (by omega), List.take_of_length_le (by omega)] at hs
    rw [rE hs]
    repeat' (first | ((with_reducible apply o_y); exact y_; rfl) | with_reducible refine ab rfl ?_ | (with_reducible first | apply ag | apply aa | apply ah | apply ac | apply aH | apply au | apply ar | apply aq) | (refine aj rfl rr_ dd_ ?_))
    refine ao x_ rfl (.tmp _ _ rfl) (fun _ => ?_)
    exact Fin.flat rfl
end
structure yJ (m : aM) : Prop where
  ver : cI m.base = true
  same : m.base.classes = m.store.classes
  store : gY m.store m.blocks.length = true
  made : (m.store.objects.length : Int) + m.blocks.length ≤ m.store.made
  status : inR m.status 0 5 = true
  procs : inR m.processes.length 1 20 = true
  now : inR m.now 0 ((m.processes.length : Int) - 1) = true
  value : qk m m.value
  fault : ei m.fault = true
  outs : ∀ o, dy m.base.codes = some o → xW m o
  ats : ∀ p ∈ m.processes, inR p.at_ (-1) ((m.contexts.length : Int) - 1) = true
  live : nJ m (j8 m ++ m.ready ++ qz m)
  exc : ∀ o ∈ m.store.objects, ro m o
open Classical in
noncomputable def dX (m : aM) : Bool := decide (yJ m)
open Classical in
theorem ul {m : aM} (h : ¬ yJ m) : dX m = false := decide_eq_false h
open Classical in
theorem uH {m : aM} (h : yJ m) : dX m = true := decide_eq_true h
theorem jx {st : br} {nb : Int} (h : gY st nb = true) : bO st.classes = true ∧ st.objects.length ≤ 800 ∧ ∀ o ∈ st.objects, o.kind = 3 → 1 ≤ o.numbers.length := by
  unfold gY at h
  simp only [Bool.and_eq_true] at h
  obtain ⟨h1, h2, _, _, _, _, h7⟩ := h
  have h2 := of_decide_eq_true h2
  refine ⟨h1, by omega, fun o ho h3 => ?_⟩
  have h8 := List.all_eq_true.1 h7 o ho
  unfold ez at h8
  simp only [Bool.and_eq_true] at h8
  have h9 := h8.2
  rw [if_neg (by omega), if_neg (by omega), if_pos h3] at h9
  exact (of_decide_eq_true h9).2.2.1
open Classical in
theorem gu {x : ba} (h : cI x = true) : 1 ≤ x.codes.length ∧ ∃ o, dy x.codes = some o ∧ o.length = x.codes.length := by
  have hp : eo x := of_decide_eq_true h
  obtain ⟨o, ho, _⟩ := hp.2.2.2.2
  have h1 := of_decide_eq_true hp.2.2.1.1
  exact ⟨by omega, o, ho, (gI ho).1.1⟩
end Go.Proofs.YthpdkhejeookhaaGreatDoor
