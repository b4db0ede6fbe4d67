/- Part 14 of the proof, piece 3. -/
import Derived.Test.YthpdkhejeookhaaGreatDoorPart13
import Derived.Test.YthpdkhejeookhaaGreatDoorPart12
import Derived.Test.YthpdkhejeookhaaGreatDoorPart11
import Derived.Test.YthpdkhejeookhaaGreatDoorPart14b
namespace Go.Proofs.YthpdkhejeookhaaGreatDoor
open Go Go.RowKit
set_option maxRecDepth 20000
theorem tO (f lo : Nat) (m : aM) (_hbl : m.blocks.length ≤ 1048576) (l : List aC) (hl : l.length ≤ 1048576 ∧ ∀ y ∈ l, aC.small 1048576 y) : Ct Tryz.prog GL 206 [.cp f (m.tw lo), .sl lo 3 (l.map (aC.tw lo))] (fun _ => .bool (kN m l)) := by
  refine aJ Tryz.func206 rfl Tryz.ntmps206 rfl rfl fun w0 _ hG => ?_
  have hst := cZ
  have hlen := aQ.len lo m.blocks
  have hll := aC.len lo l
  obtain ⟨hl1, hl2⟩ := hl
  have hex := fun (x : aC) (h : x.text.size ≤ 1048576) => ep 0 lo m.store m.blocks.length x h
  unfold br.tw at hex
  unfold aM.tw
  repeat' (first | ((with_reducible apply o_y); exact y_; rfl) | with_reducible refine ab rfl ?_ | (with_reducible first | apply ag | apply aa | apply ah | apply ac | apply ai))
  apply aK (X := Nat) [0, 1] (fun i => [(5, .int .i64 (i : Int))]) (fun _ => []) (fun i => i ≤ l.length ∧ ∀ y ∈ l.take i, ch m.store m.blocks.length y = true) (fun i => l.length - i) 0 ⟨Nat.zero_le _, by simp⟩
  exact kp_; (repeat (first | exact bj.envNil | refine bj.envCons we_ ?_))
  · exact .refl _
  rintro i ⟨hi, hall⟩
  try dsimp only
  by_cases hlt : i < l.length
  · have hrow := gL (lo := lo) hlt
    have hxi := hex _ (hl2 _ (List.getElem_mem hlt))
    have hta := bu (p := fun y => ch m.store m.blocks.length y = true) hlt hall
    cases hfi : ch m.store m.blocks.length l[i] with
    | false =>
      rw [show kN m l = false from dz hlt hfi]
      rw [hfi] at hxi
      generalize l[i] = x at hrow hxi
      repeat' (first | ((with_reducible apply o_y); exact y_; rfl) | with_reducible refine aF (by kernel_rfl) (by kernel_rfl) ?_ | with_reducible refine aN ?_ | with_reducible refine aE rfl ?_ | ((with_reducible apply d_y); exact y_; rfl) | refine cw hG hst (hxi) ?_ | with_reducible refine ab rfl ?_ | (with_reducible first | apply ag | apply aa | apply ah | apply ac | apply ai | apply ap | apply au | apply ad | apply ak) | refine av rfl rr_ ?_ | (refine ae rfl rr_ dd_ ?_))
      refine ao x_ rfl (.tmp _ _ rfl) (fun _ => ?_)
      exact Fin.flat rfl
    | true =>
      rw [hfi] at hxi hta
      generalize l[i] = x at hrow hxi
      repeat' (first | ((with_reducible apply o_y); exact y_; rfl) | with_reducible refine aF (by kernel_rfl) (by kernel_rfl) ?_ | with_reducible refine aN ?_ | with_reducible refine aE rfl ?_ | ((with_reducible apply d_y); exact y_; rfl) | refine cw hG hst (hxi) ?_ | with_reducible refine ab rfl ?_ | (with_reducible first | apply ag | apply aa | apply ah | apply ac | apply ai | apply ap | apply aB) | refine az rfl rr_ ?_ | (refine ae rfl rr_ dd_ ?_))
      exact aG (i + 1) ⟨by omega, hta rfl⟩ (by omega) (.of _ nw_ od_ pk_)
  obtain rfl : i = l.length := by omega
  rw [List.take_of_length_le (Nat.le_refl _)] at hall
  rw [show kN m l = true from List.all_eq_true.2 hall]
  clear hex hall
  repeat' (first | ((with_reducible apply o_y); exact y_; rfl) | with_reducible refine ab rfl ?_ | (with_reducible first | apply ag | apply aa | apply ah | apply ac | apply aH | apply au | apply ar | apply aq) | (refine aj rfl rr_ dd_ ?_))
  refine ao x_ rfl (.tmp _ _ rfl) (fun _ => ?_)
  exact Fin.flat rfl
set_option maxHeartbeats 2000000 in
theorem sR (f lo : Nat) (m : aM) (hsm : m.small 1048576) (hcl : eV m.store.classes) (h16 : 16 ≤ m.store.classes.length) (hc1 : 1 ≤ m.base.codes.length) (k : Nat) (hk : k < m.contexts.length) (hva : ∀ v ∈ m.contexts[k].values, qk m v) : Ct Tryz.prog GL 207 [.cp f (m.tw lo), .int .i64 (k : Int)] (fun _ => .bool (vW m k m.contexts[k])) := by
  refine aJ Tryz.func207 rfl Tryz.ntmps207 rfl rfl fun w0 _ hG => ?_
  have hst := cZ
  have hrow := cP (lo := lo) hk
  have hlx := aL.len lo m.contexts
  have hxl := hsm.2.2.2.1.1
  have hmk := fun (i : Nat) (h : i < m.contexts.length) => uj (m := m) h
  have hrw := fun (i : Nat) (h : i < m.contexts.length) => cP (lo := lo) (l := m.contexts) h
  have hbk := fun v hv most => pE hst f lo m hsm.2.2.1.1 hsm.1.2.1.1 hc1 v hv most
  have hci := fun (k0 : Int) => rC (G := GL) lo m.store.classes hcl k0 1 (by omega)
  have hcs := (hsm.2.2.2.1.2 _ (List.getElem_mem hk)).2.2.2.1
  unfold aM.tw at hbk ⊢
  generalize m.contexts[k] = c at hrow hva hcs ⊢
  obtain ⟨mk, cc, pc, sd, ou, ho, ⟨sk, sn, st⟩, slots, stack, values, oth, rt⟩ := c
  dsimp only at hrow hva hcs ⊢
  have hvl := aC.len lo values
  unfold vW
  dsimp only
  rcases n9 mk with rfl | rfl | rfl | rfl | rfl | ⟨g1, g2, g3, g4, g5⟩
  · rw [if_pos rfl]
    by_cases h3 : values.length = 3
    case neg =>
      rw [x5 h3]
      have h3' : ¬ (values.length : Int) = 3 := by omega
      repeat' (first | ((with_reducible apply o_y); exact y_; rfl) | (refine aI ?_; intro ss bb) | refine aA ?_ | with_reducible refine aF (by kernel_rfl) (by kernel_rfl) ?_ | with_reducible refine aN ?_ | with_reducible refine aE rfl ?_ | refine aV rfl rfl rfl rr_ rfl rfl rfl ?_ | (refine bW rfl rfl rfl rr_ dd_ ?_) | ((with_reducible apply d_y); exact y_; rfl) | with_reducible refine ab rfl ?_ | (with_reducible first | apply ag | apply aa | apply ah | apply ac | apply ai | apply au | apply ad | apply ak) | (refine ae rfl rr_ dd_ ?_))
      refine ao x_ rfl (.tmp _ _ rfl) (fun _ => ?_)
      exact Fin.flat rfl
    obtain ⟨v0, v1, v2, rfl⟩ := zK h3
    rw [yE]
    obtain ⟨k0, n0, t0⟩ := v0
    have f1 := hbk v1 (hva v1 (by simp)) 1
    have f2 := hbk v2 (hva v2 (by simp)) 0
    have f0 := hci n0
    obtain ⟨k1, n1, t1⟩ := v1
    obtain ⟨k2, n2, t2⟩ := v2
    dsimp only at f1 f2 f0 ⊢
    generalize pu m ⟨k1, n1, t1⟩ 1 = b1 at f1 ⊢
    generalize pu m ⟨k2, n2, t2⟩ 0 = b2 at f2 ⊢
    generalize pF m.store.classes 1 n0 = b0 at f0 ⊢
    simp only [List.map_cons, List.map_nil, aC.tw] at hrow hvl
    repeat' (first | ((with_reducible apply o_y); exact y_; rfl) | (refine aI ?_; intro ss bb) | refine aA ?_ | with_reducible refine aF (by kernel_rfl) (by kernel_rfl) ?_ | with_reducible refine aN ?_ | with_reducible refine aE rfl ?_ | refine aX rfl rfl rfl rr_ ?_ | refine aV rfl rfl rfl rr_ rfl rfl rfl ?_ | (refine cF rfl rfl rfl rr_ dd_ ?_) | (refine bJ rfl rfl rfl rr_ (fun hg => ?_) (fun hg => ?_)) | (refine dD rfl rfl rfl rr_ (fun hg => ?_) (fun hg => ?_)) | ((with_reducible apply d_y); exact y_; rfl) | refine ay hG hst (f0) ?_ | refine ay hG hst (f1) ?_ | refine ay hG hst (f2) ?_ | with_reducible refine ab rfl ?_ | (with_reducible first | apply ag | apply aa | apply ah | apply ac | apply ai | apply au | apply ad | apply ak) | (refine ae rfl rr_ dd_ ?_))
    all_goals
      refine ao x_ rfl (.tmp _ _ rfl) (fun _ => ?_)
      exact aZ (by simp [*])
  · rw [if_neg (by decide), if_pos rfl]
    by_cases h3 : values.length = 1
    case neg =>
      rw [we h3]
      have h3' : ¬ (values.length : Int) = 1 := by omega
      repeat' (first | ((with_reducible apply o_y); exact y_; rfl) | (refine aI ?_; intro ss bb) | refine aA ?_ | with_reducible refine ab rfl ?_ | (with_reducible first | apply ag | apply aa | apply ah | apply ac | apply ai | apply au | apply ad | apply ak) | refine aO rfl rfl rfl rr_ rfl rfl rfl ?_ | (refine bC rfl rfl rfl rr_ dd_ ?_) | (refine ae rfl rr_ dd_ ?_) | (refine aj rfl rr_ dd_ ?_))
      refine ao x_ rfl (.tmp _ _ rfl) (fun _ => ?_)
      exact Fin.flat rfl
    obtain ⟨v1, rfl⟩ := yL h3
    rw [vi]
    have f1 := hbk v1 (hva v1 (by simp)) 0
    obtain ⟨k1, n1, t1⟩ := v1
    dsimp only at f1 ⊢
    generalize pu m ⟨k1, n1, t1⟩ 0 = b1 at f1 ⊢
    simp only [List.map_cons, List.map_nil, aC.tw] at hrow hvl
    repeat' (first | ((with_reducible apply o_y); exact y_; rfl) | (refine aI ?_; intro ss bb) | refine aA ?_ | refine aw hG hst (f1) ?_ | with_reducible refine ab rfl ?_ | (with_reducible first | apply ag | apply aa | apply ah | apply ac | apply ai | apply au | apply ad | apply ak) | refine aP rfl rfl rfl rr_ ?_ | (refine bQ rfl rfl rfl rr_ dd_ ?_) | (refine ae rfl rr_ dd_ ?_) | (refine aj rfl rr_ dd_ ?_))
    all_goals
      refine ao x_ rfl (.tmp _ _ rfl) (fun _ => ?_)
      exact aZ (by simp [*])
  · rw [if_neg (by decide), if_neg (by decide), if_pos rfl]
    by_cases h3 : values.length = 1
    case neg =>
      rw [we h3]
      have h3' : ¬ (values.length : Int) = 1 := by omega
      repeat' (first | ((with_reducible apply o_y); exact y_; rfl) | (refine aI ?_; intro ss bb) | refine aA ?_ | with_reducible refine aF (by kernel_rfl) (by kernel_rfl) ?_ | with_reducible refine aN ?_ | with_reducible refine aE rfl ?_ | refine aV rfl rfl rfl rr_ rfl rfl rfl ?_ | (refine bW rfl rfl rfl rr_ dd_ ?_) | ((with_reducible apply d_y); exact y_; rfl) | with_reducible refine ab rfl ?_ | (with_reducible first | apply ag | apply aa | apply ah | apply ac | apply ai | apply au | apply ad | apply ak) | (refine ae rfl rr_ dd_ ?_) | (refine aj rfl rr_ dd_ ?_))
      refine ao x_ rfl (.tmp _ _ rfl) (fun _ => ?_)
      exact Fin.flat rfl
    obtain ⟨v1, rfl⟩ := yL h3
    rw [vi]
    obtain ⟨k1, n1, t1⟩ := v1
    dsimp only at ⊢
    simp only [List.map_cons, List.map_nil, aC.tw] at hrow hvl
    have c1 := bz (G := GL) oth 0 ((k : Int) - 1)
    cases hin : inR oth 0 ((k : Int) - 1)
    case false =>
      rw [pz hin, Bool.and_false]
      rw [hin] at c1
      repeat' (first | ((with_reducible apply o_y); exact y_; rfl) | (refine aI ?_; intro ss bb) | refine aA ?_ | with_reducible refine aF (by kernel_rfl) (by kernel_rfl) ?_ | with_reducible refine aN ?_ | with_reducible refine aE rfl ?_ | refine aX rfl rfl rfl rr_ ?_ | refine aV rfl rfl rfl rr_ rfl rfl rfl ?_ | (refine cF rfl rfl rfl rr_ dd_ ?_) | (refine bJ rfl rfl rfl rr_ (fun hg => ?_) (fun hg => ?_)) | ((with_reducible apply d_y); exact y_; rfl) | refine ay hG hst (c1) ?_ | with_reducible refine ab rfl ?_ | (with_reducible first | apply ag | apply aa | apply ah | apply ac | apply ai | apply au | apply ad | apply ak) | (refine ae rfl rr_ dd_ ?_) | (refine aj rfl rr_ dd_ ?_))
      all_goals
        refine ao x_ rfl (.tmp _ _ rfl) (fun _ => ?_)
        exact Fin.flat rfl
    rw [t6 hin]
    rw [hin] at c1
    have hin' := of_decide_eq_true hin
    obtain ⟨q, rfl⟩ : ∃ q : Nat, oth = q := ⟨oth.toNat, by omega⟩
    have hq : q < m.contexts.length := by omega
    have hr2 := hrw q hq
    rw [hmk q hq]
    rw [show (k : Int) - 1 = ((k - 1 : Nat) : Int) by omega] at c1
    generalize m.contexts[q] = d at hr2 ⊢
    repeat' (first | ((with_reducible apply o_y); exact y_; rfl) | (refine aI ?_; intro ss bb) | refine aA ?_ | with_reducible refine aF (by kernel_rfl) (by kernel_rfl) ?_ | with_reducible refine aN ?_ | with_reducible refine aE rfl ?_ | refine aX rfl rfl rfl rr_ ?_ | refine aV rfl rfl rfl rr_ rfl rfl rfl ?_ | (refine cF rfl rfl rfl rr_ dd_ ?_) | (refine bJ rfl rfl rfl rr_ (fun hg => ?_) (fun hg => ?_)) | ((with_reducible apply d_y); exact y_; rfl) | refine ay hG hst (c1) ?_ | with_reducible refine ab rfl ?_ | (with_reducible first | apply ag | apply aa | apply ah | apply ac | apply ai | apply au | apply ad | apply ak) | (refine ae rfl rr_ dd_ ?_) | (refine aj rfl rr_ dd_ ?_))
    all_goals
      refine ao x_ rfl (.tmp _ _ rfl) (fun _ => ?_)
      exact aZ (by simp [*])
  · rw [if_neg (by decide), if_neg (by decide), if_neg (by decide), if_pos rfl]
    repeat' (first | ((with_reducible apply o_y); exact y_; rfl) | (refine aI ?_; intro ss bb) | refine aA ?_ | with_reducible refine ab rfl ?_ | (with_reducible first | apply ag | apply aa | apply ah | apply ac | apply ai | apply au | apply ad | apply ak) | (refine ae rfl rr_ dd_ ?_) | (refine aj rfl rr_ dd_ ?_))
    refine ao x_ rfl (.tmp _ _ rfl) (fun _ => ?_)
    exact aZ (by rw [decide_eq_decide]; omega)
  · rw [if_neg (by decide), if_neg (by decide), if_neg (by decide), if_neg (by decide), if_pos rfl]
    have c1 := bz (G := GL) oth (-1) ((k : Int) - 1)
    cases hin : inR oth (-1) ((k : Int) - 1)
    case false =>
      rw [Bool.false_and]
      rw [hin] at c1
      repeat' (first | ((with_reducible apply o_y); exact y_; rfl) | (refine aI ?_; intro ss bb) | refine aA ?_ | refine aw hG hst (c1) ?_ | with_reducible refine ab rfl ?_ | (with_reducible first | apply ag | apply aa | apply ah | apply ac | apply ai | apply au | apply ad | apply ak) | refine aO rfl rfl rfl rr_ rfl rfl rfl ?_ | refine av rfl rr_ ?_ | (refine ae rfl rr_ dd_ ?_) | (refine aj rfl rr_ dd_ ?_))
      refine ao x_ rfl (.tmp _ _ rfl) (fun _ => ?_)
      exact Fin.flat rfl
    rw [Bool.true_and]
    rw [hin] at c1
    have hin' := of_decide_eq_true hin
    by_cases h3 : values.length = 1
    case neg =>
      have h3' : (values.length : Int) ≠ 1 := by omega
      rw [decide_eq_false h3, Bool.false_and]
      repeat' (first | ((with_reducible apply o_y); exact y_; rfl) | (refine aI ?_; intro ss bb) | refine aA ?_ | refine aw hG hst (c1) ?_ | with_reducible refine ab rfl ?_ | (with_reducible first | apply ag | apply aa | apply ah | apply ac | apply ai | apply au | apply ad | apply ak) | refine aP rfl rfl rfl rr_ ?_ | (refine ae rfl rr_ dd_ ?_) | (refine aj rfl rr_ dd_ ?_))
      refine ao x_ rfl (.tmp _ _ rfl) (fun _ => ?_)
      exact Fin.flat rfl
    have h3' : ¬ (values.length : Int) ≠ 1 := by omega
    rw [decide_eq_true h3, Bool.true_and]
    cases rt
    case false =>
      repeat' (first | ((with_reducible apply o_y); exact y_; rfl) | (refine aI ?_; intro ss bb) | refine aA ?_ | with_reducible refine aF (by kernel_rfl) (by kernel_rfl) ?_ | with_reducible refine aN ?_ | with_reducible refine aE rfl ?_ | refine aV rfl rfl rfl rr_ rfl rfl rfl ?_ | refine jJ rfl rfl rfl rr_ rfl rfl ?_ | ((with_reducible apply d_y); exact y_; rfl) | refine aw hG hst (c1) ?_ | with_reducible refine ab rfl ?_ | (with_reducible first | apply ag | apply aa | apply ah | apply ac | apply ai | apply ap | apply au | apply ad | apply ak) | refine aP rfl rfl rfl rr_ ?_ | (refine ae rfl rr_ dd_ ?_) | (refine aj rfl rr_ dd_ ?_))
      refine ao x_ rfl (.tmp _ _ rfl) (fun _ => ?_)
      exact Fin.flat rfl
    by_cases hneg : oth < 0
    · rw [pz (by simp only [inR, decide_eq_false_iff_not]; omega)]
      repeat' (first | ((with_reducible apply o_y); exact y_; rfl) | (refine aI ?_; intro ss bb) | refine aA ?_ | with_reducible refine aF (by kernel_rfl) (by kernel_rfl) ?_ | with_reducible refine aN ?_ | with_reducible refine aE rfl ?_ | refine aX rfl rfl rfl rr_ ?_ | refine aV rfl rfl rfl rr_ rfl rfl rfl ?_ | (refine bW rfl rfl rfl rr_ dd_ ?_) | ((with_reducible apply d_y); exact y_; rfl) | refine aw hG hst (c1) ?_ | with_reducible refine ab rfl ?_ | (with_reducible first | apply ag | apply aa | apply ah | apply ac | apply ai | apply ap | apply au | apply ad | apply ak) | refine aP rfl rfl rfl rr_ ?_ | (refine ae rfl rr_ dd_ ?_) | (refine aj rfl rr_ dd_ ?_))
      refine ao x_ rfl (.tmp _ _ rfl) (fun _ => ?_)
      exact Fin.flat rfl
    rw [t6 (by simp only [inR, decide_eq_true_eq]; omega)]
    obtain ⟨q, rfl⟩ : ∃ q : Nat, oth = q := ⟨oth.toNat, by omega⟩
    have hq : q < m.contexts.length := by omega
    have hr2 := hrw q hq
    rw [hmk q hq]
    rw [show (k : Int) - 1 = ((k - 1 : Nat) : Int) by omega] at c1
    generalize m.contexts[q] = d at hr2 ⊢
    repeat' (first | ((with_reducible apply o_y); exact y_; rfl) | (refine aI ?_; intro ss bb) | refine aA ?_ | with_reducible refine aF (by kernel_rfl) (by kernel_rfl) ?_ | with_reducible refine aN ?_ | with_reducible refine aE rfl ?_ | refine aX rfl rfl rfl rr_ ?_ | (refine cF rfl rfl rfl rr_ dd_ ?_) | ((with_reducible apply d_y); exact y_; rfl) | refine aw hG hst (c1) ?_ | with_reducible refine ab rfl ?_ | (with_reducible first | apply ag | apply aa | apply ah | apply ac | apply ai | apply ap | apply au | apply ad | apply ak) | refine aP rfl rfl rfl rr_ ?_ | (refine ae rfl rr_ dd_ ?_) | (refine aj rfl rr_ dd_ ?_))
    refine ao x_ rfl (.tmp _ _ rfl) (fun _ => ?_)
    exact aZ (by simp [*])
  · rw [if_neg g1, if_neg g2, if_neg g3, if_neg g4, if_neg g5]
    repeat' (first | ((with_reducible apply o_y); exact y_; rfl) | (refine aI ?_; intro ss bb) | refine aA ?_ | with_reducible refine ab rfl ?_ | (with_reducible first | apply ag | apply aa | apply ah | apply ac | apply ai | apply ap | apply au | apply aB) | (refine aj rfl rr_ dd_ ?_))
    refine ao x_ rfl (.tmp _ _ rfl) (fun _ => ?_)
    exact Fin.flat rfl
end Go.Proofs.YthpdkhejeookhaaGreatDoor
