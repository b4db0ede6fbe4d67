/- Part 15 of the proof, piece 2. -/
import Derived.Test.YthpdkhejeookhaaGreatDoorPart12
import Derived.Test.YthpdkhejeookhaaGreatDoorPart14d
import Derived.Test.YthpdkhejeookhaaGreatDoorPart6
import Derived.Test.YthpdkhejeookhaaGreatDoorPart9
import Derived.Test.YthpdkhejeookhaaGreatDoorPart5
import Derived.Test.YthpdkhejeookhaaGreatDoorPart13
import Derived.Lib.LazyBuf
import Derived.Test.YthpdkhejeookhaaGreatDoorPart15
namespace Go.Proofs.YthpdkhejeookhaaGreatDoor
open Go Go.RowKit
set_option maxRecDepth 20000
theorem sv (f lo : Nat) (m : aM) (hxl : m.contexts.length ≤ 1048576) (k : Nat) (hk : k < m.contexts.length) (i : Int) : Ct Tryz.prog GL 215 [.int .i64 i, .cp f [.int .i64 (k : Int)], .cp f (m.tw lo)] (fun _ => .bool (doB m k i)) := by
  refine aJ Tryz.func215 rfl Tryz.ntmps215 rfl rfl fun w0 _ hG => ?_
  have hst := cZ
  have hlx := aL.len lo m.contexts
  have c1 := a7 (G := GL) i 0 ((k : Int) - 1)
  unfold aM.tw
  cases hin : inR i 0 ((k : Int) - 1)
  case false =>
    rw [pz hin]
    rw [hin] at c1
    repeat' (first | ((with_reducible apply o_y); exact y_; rfl) | refine aw hG hst (c1) ?_ | with_reducible refine ab rfl ?_ | (with_reducible first | apply ag | apply aa | apply ah | apply ac | apply au) | refine aO rfl rfl rfl rr_ rfl rfl rfl ?_)
    refine ao x_ rfl (.tmp _ _ rfl) (fun _ => ?_)
    exact Fin.flat rfl
  rw [t6 hin]
  rw [hin] at c1
  have hin' := of_decide_eq_true hin
  obtain ⟨q, rfl⟩ : ∃ q : Nat, i = q := ⟨i.toNat, by omega⟩
  have hq : q < m.contexts.length := by omega
  rw [show (k : Int) - 1 = ((k - 1 : Nat) : Int) by omega] at c1
  have hr2 := cP (lo := lo) hq
  rw [uj hq]
  generalize m.contexts[q] = d at hr2 ⊢
  repeat' (first | ((with_reducible apply o_y); exact y_; rfl) | refine aw hG hst (c1) ?_ | with_reducible refine ab rfl ?_ | (with_reducible first | apply ag | apply aa | apply ah | apply ac | apply au) | refine aP rfl rfl rfl rr_ ?_)
  refine ao x_ rfl (.tmp _ _ rfl) (fun _ => ?_)
  exact Fin.flat rfl
set_option maxHeartbeats 4000000 in
theorem uE (lo : Nat) (m : aM) (hsm : m.small 1048576) (hcl : eV m.store.classes) (hbc : ∀ b ∈ m.blocks, 0 ≤ b.code ∧ b.code < m.base.codes.length) (k : Nat) (hk : k < m.contexts.length) (hva : ∀ v ∈ m.contexts[k].values, qk m v) : Ct Tryz.prog GL 173 [.agg (m.tw lo), .int .i64 (k : Int)] (fun _ => .bool (vW m k m.contexts[k] && xU m.contexts[k])) := by
  refine aJ Tryz.func173 rfl Tryz.ntmps173 rfl rfl fun w0 _ hG => ?_
  have hst := cZ
  have hrow := cP (lo := lo) hk
  have hlx := aL.len lo m.contexts
  have hxl := hsm.2.2.2.1.1
  have hbk := fun v hv most => r5 hst lo m hsm.2.2.1.1 hsm.1.2.1.1 hbc v hv most
  have hci := fun (k0 : Int) => lP (G := GL) lo m.store.classes hcl k0 1
  have hcs := (hsm.2.2.2.1.2 _ (List.getElem_mem hk)).2.2.2.1
  have hfn := fun i => sv w0.heap.size lo m hxl k hk i
  unfold aM.tw at hbk hfn ⊢
  generalize m.contexts[k] = c at hrow hva hcs ⊢
  obtain ⟨mk, cc, pc, sd, ou, ho, ⟨sk, sn, st⟩, slots, stack, values, oth, rt⟩ := c
  dsimp only at hrow hva hcs ⊢
  have hvl := aC.len lo values
  unfold vW xU
  dsimp only
  rcases n9 mk with rfl | rfl | rfl | rfl | rfl | ⟨g1, g2, g3, g4, g5⟩
  · rw [if_pos rfl]
    by_cases h3 : values.length = 3
    case neg =>
      rw [x5 h3, Bool.false_and]
      have h3' : ¬ (values.length : Int) = 3 := by omega
      repeat' (first | ((with_reducible apply o_y); exact y_; rfl) | refine bf ?_ | (refine aI ?_; intro ss bb) | refine aA ?_ | refine jF ?_ | with_reducible refine aF (by kernel_rfl) (by kernel_rfl) ?_ | with_reducible refine aN ?_ | with_reducible refine aE rfl ?_ | refine aX rfl rfl rfl rr_ ?_ | refine aV rfl rfl rfl rr_ rfl rfl rfl ?_ | (refine bW rfl rfl rfl rr_ dd_ ?_) | (refine bJ rfl rfl rfl rr_ (fun hg => ?_) (fun hg => ?_)) | ((with_reducible apply d_y); exact y_; rfl) | with_reducible refine ab rfl ?_ | (with_reducible first | apply ag | apply aa | apply ah | apply ac | apply ai | apply au | apply ad | apply ak) | (refine ae rfl rr_ dd_ ?_))
      all_goals
        refine ao x_ rfl (.tmp _ _ rfl) (fun _ => ?_)
        exact Fin.flat rfl
    obtain ⟨v0, v1, v2, rfl⟩ := zK h3
    rw [yE]
    have hn0 := fun h5 => vD (hva v0 (by simp)) h5
    obtain ⟨k0, n0, t0⟩ := v0
    have f1 := hbk v1 (hva v1 (by simp)) 1
    have f2 := hbk v2 (hva v2 (by simp)) 0
    obtain ⟨k1, n1, t1⟩ := v1
    obtain ⟨k2, n2, t2⟩ := v2
    dsimp only at f1 f2 hn0 ⊢
    generalize pu m ⟨k1, n1, t1⟩ 1 = b1 at f1 ⊢
    generalize pu m ⟨k2, n2, t2⟩ 0 = b2 at f2 ⊢
    simp only [List.map_cons, List.map_nil, aC.tw] at hrow hvl
    by_cases h5 : k0 = 5
    case neg =>
      rw [decide_eq_false h5, Bool.false_and, Bool.false_and]
      repeat' (first | ((with_reducible apply o_y); exact y_; rfl) | refine bf ?_ | (refine aI ?_; intro ss bb) | refine aA ?_ | refine jF ?_ | with_reducible refine aF (by kernel_rfl) (by kernel_rfl) ?_ | with_reducible refine aN ?_ | with_reducible refine aE rfl ?_ | refine aX rfl rfl rfl rr_ ?_ | refine aV rfl rfl rfl rr_ rfl rfl rfl ?_ | (refine cF rfl rfl rfl rr_ dd_ ?_) | (refine bW rfl rfl rfl rr_ dd_ ?_) | (refine bJ rfl rfl rfl rr_ (fun hg => ?_) (fun hg => ?_)) | ((with_reducible apply d_y); exact y_; rfl) | with_reducible refine ab rfl ?_ | (with_reducible first | apply ag | apply aa | apply ah | apply ac | apply ai | apply au | apply ad | apply ak) | (refine ae rfl rr_ dd_ ?_))
      all_goals
        refine ao x_ rfl (.tmp _ _ rfl) (fun _ => ?_)
        exact Fin.flat rfl
    have f0 := hci n0 (by have := hn0 h5; omega)
    generalize pF m.store.classes 1 n0 = b0 at f0 ⊢
    repeat' (first | ((with_reducible apply o_y); exact y_; rfl) | refine bf ?_ | (refine aI ?_; intro ss bb) | refine aA ?_ | refine jF ?_ | with_reducible refine aF (by kernel_rfl) (by kernel_rfl) ?_ | with_reducible refine aN ?_ | with_reducible refine aE rfl ?_ | refine aX rfl rfl rfl rr_ ?_ | refine aV rfl rfl rfl rr_ rfl rfl rfl ?_ | (refine cF rfl rfl rfl rr_ dd_ ?_) | (refine bJ rfl rfl rfl rr_ (fun hg => ?_) (fun hg => ?_)) | (refine dD rfl rfl rfl rr_ (fun hg => ?_) (fun hg => ?_)) | ((with_reducible apply d_y); exact y_; rfl) | refine ay hG hst (f0) ?_ | refine ay hG hst (f1) ?_ | refine ay hG hst (f2) ?_ | with_reducible refine ab rfl ?_ | (with_reducible first | apply ag | apply aa | apply ah | apply ac | apply ai | apply au | apply ad | apply ak) | (refine ae rfl rr_ dd_ ?_))
    all_goals
      refine ao x_ rfl (.tmp _ _ rfl) (fun _ => ?_)
      refine aZ ?_
      first
        | (simp [*]; done)
        | (simp_all; done)
  · rw [if_neg (by decide), if_pos rfl]
    by_cases h3 : values.length = 1
    case neg =>
      rw [we h3, Bool.false_and]
      have h3' : ¬ (values.length : Int) = 1 := by omega
      repeat' (first | ((with_reducible apply o_y); exact y_; rfl) | refine bf ?_ | (refine aI ?_; intro ss bb) | refine aA ?_ | refine jF ?_ | with_reducible refine aF (by kernel_rfl) (by kernel_rfl) ?_ | with_reducible refine aN ?_ | with_reducible refine aE rfl ?_ | refine aX rfl rfl rfl rr_ ?_ | refine aV rfl rfl rfl rr_ rfl rfl rfl ?_ | (refine bW rfl rfl rfl rr_ dd_ ?_) | (refine bJ rfl rfl rfl rr_ (fun hg => ?_) (fun hg => ?_)) | ((with_reducible apply d_y); exact y_; rfl) | with_reducible refine ab rfl ?_ | (with_reducible first | apply ag | apply aa | apply ah | apply ac | apply ai | apply au | apply ad | apply ak) | (refine ae rfl rr_ dd_ ?_) | (refine aj rfl rr_ dd_ ?_))
      all_goals
        refine ao x_ rfl (.tmp _ _ rfl) (fun _ => ?_)
        exact Fin.flat rfl
    obtain ⟨v1, rfl⟩ := yL h3
    rw [vi]
    have f1 := hbk v1 (hva v1 (by simp)) 0
    obtain ⟨k1, n1, t1⟩ := v1
    dsimp only at f1 ⊢
    generalize pu m ⟨k1, n1, t1⟩ 0 = b1 at f1 ⊢
    simp only [List.map_cons, List.map_nil, aC.tw] at hrow hvl
    repeat' (first | ((with_reducible apply o_y); exact y_; rfl) | refine bf ?_ | (refine aI ?_; intro ss bb) | refine aA ?_ | refine jF ?_ | with_reducible refine aF (by kernel_rfl) (by kernel_rfl) ?_ | with_reducible refine aN ?_ | with_reducible refine aE rfl ?_ | refine aX rfl rfl rfl rr_ ?_ | refine aV rfl rfl rfl rr_ rfl rfl rfl ?_ | (refine cF rfl rfl rfl rr_ dd_ ?_) | (refine bJ rfl rfl rfl rr_ (fun hg => ?_) (fun hg => ?_)) | ((with_reducible apply d_y); exact y_; rfl) | refine ay hG hst (f1) ?_ | with_reducible refine ab rfl ?_ | (with_reducible first | apply ag | apply aa | apply ah | apply ac | apply ai | apply au | apply ad | apply ak) | (refine ae rfl rr_ dd_ ?_) | (refine aj rfl rr_ dd_ ?_))
    all_goals
      refine ao x_ rfl (.tmp _ _ rfl) (fun _ => ?_)
      refine aZ ?_
      first
        | (simp [*]; done)
        | (simp_all; done)
  · rw [if_neg (by decide), if_neg (by decide), if_pos rfl]
    by_cases h3 : values.length = 1
    case neg =>
      rw [we h3, Bool.false_and]
      have h3' : ¬ (values.length : Int) = 1 := by omega
      repeat' (first | ((with_reducible apply o_y); exact y_; rfl) | refine bf ?_ | (refine aI ?_; intro ss bb) | refine aA ?_ | refine jF ?_ | with_reducible refine ab rfl ?_ | (with_reducible first | apply ag | apply aa | apply ah | apply ac | apply ai | apply au | apply ad | apply ak) | refine aO rfl rfl rfl rr_ rfl rfl rfl ?_ | (refine bC rfl rfl rfl rr_ dd_ ?_) | (refine ae rfl rr_ dd_ ?_) | (refine aj rfl rr_ dd_ ?_))
      all_goals
        refine ao x_ rfl (.tmp _ _ rfl) (fun _ => ?_)
        exact Fin.flat rfl
    obtain ⟨v1, rfl⟩ := yL h3
    rw [vi]
    obtain ⟨k1, n1, t1⟩ := v1
    dsimp only at ⊢
    simp only [List.map_cons, List.map_nil, aC.tw] at hrow hvl
    have c1 := hfn oth
    generalize doB m k oth = b at c1 ⊢
    repeat' (first | ((with_reducible apply o_y); exact y_; rfl) | refine bf ?_ | (refine aI ?_; intro ss bb) | refine aA ?_ | refine jF ?_ | ((with_reducible apply pO); rfl; rfl; kernel_rfl; exact hG; exact hst; (repeat (first | exact dU.nil | ((with_reducible apply dU.cons); rfl; exact .same _))); (repeat (first | exact im.nil | ((with_reducible apply im.cons); (exact d7.same _)))); rfl; exact c1) | with_reducible refine ab rfl ?_ | (with_reducible first | apply ag | apply aa | apply ah | apply ac | apply ai | apply au | apply ad | apply ak) | refine aP rfl rfl rfl rr_ ?_ | refine aO rfl rfl rfl rr_ rfl rfl rfl ?_ | (refine bQ rfl rfl rfl rr_ dd_ ?_) | (refine bm rfl rfl rfl rr_ (fun hg => ?_) (fun hg => ?_)) | (refine ae rfl rr_ dd_ ?_) | (refine aj rfl rr_ dd_ ?_))
    all_goals
      refine ao x_ rfl (.tmp _ _ rfl) (fun _ => ?_)
      refine aZ ?_
      first
        | (simp [*]; done)
        | (simp_all; done)
  · rw [if_neg (by decide), if_neg (by decide), if_neg (by decide), if_pos rfl]
    repeat' (first | ((with_reducible apply o_y); exact y_; rfl) | refine bf ?_ | (refine aI ?_; intro ss bb) | refine aA ?_ | refine jF ?_ | with_reducible refine ab rfl ?_ | (with_reducible first | apply ag | apply aa | apply ah | apply ac | apply ai | apply au | apply ad | apply ak) | refine aP rfl rfl rfl rr_ ?_ | refine aO rfl rfl rfl rr_ rfl rfl rfl ?_ | (refine bm rfl rfl rfl rr_ (fun hg => ?_) (fun hg => ?_)) | (refine ae rfl rr_ dd_ ?_) | (refine aj rfl rr_ dd_ ?_))
    all_goals
      refine ao x_ rfl (.tmp _ _ rfl) (fun _ => ?_)
      refine aZ ?_
      first
        | (simp [*]; done)
        | (simp [*]; omega)
  · rw [if_neg (by decide), if_neg (by decide), if_neg (by decide), if_neg (by decide), if_pos rfl]
    have c1 := a7 (G := GL) oth (-1) ((k : Int) - 1)
    have c2 := hfn oth
    generalize doB m k oth = b at c2 ⊢
    generalize inR oth (-1) ((k : Int) - 1) = b2 at c1 ⊢
    by_cases h3 : values.length = 1
    case neg =>
      have h3' : ¬ (values.length : Int) = 1 := by omega
      rw [decide_eq_false h3, Bool.false_and, Bool.and_false, Bool.false_and]
      repeat' (first | ((with_reducible apply o_y); exact y_; rfl) | refine bf ?_ | (refine aI ?_; intro ss bb) | refine aA ?_ | refine jF ?_ | with_reducible refine ab rfl ?_ | (with_reducible first | apply ag | apply aa | apply ah | apply ac | apply ai | apply au | apply ad | apply ak) | refine aO rfl rfl rfl rr_ rfl rfl rfl ?_ | refine dK rfl rfl rfl rr_ rfl rfl ?_ | (refine bC rfl rfl rfl rr_ dd_ ?_) | (refine ae rfl rr_ dd_ ?_) | (refine aj rfl rr_ dd_ ?_))
      all_goals
        refine ao x_ rfl (.tmp _ _ rfl) (fun _ => ?_)
        exact Fin.flat rfl
    have h3' : (values.length : Int) = 1 := by omega
    cases rt
    all_goals
      repeat' (first | ((with_reducible apply o_y); exact y_; rfl) | refine bf ?_ | (refine aI ?_; intro ss bb) | refine aA ?_ | refine jF ?_ | refine aw hG hst (c1) ?_ | ((with_reducible apply pO); rfl; rfl; kernel_rfl; exact hG; exact hst; (repeat (first | exact dU.nil | ((with_reducible apply dU.cons); rfl; exact .same _))); (repeat (first | exact im.nil | ((with_reducible apply im.cons); (exact d7.same _)))); rfl; exact c2) | with_reducible refine ab rfl ?_ | (with_reducible first | apply ag | apply aa | apply ah | apply ac | apply ai | apply au | apply ad | apply ak) | refine aP rfl rfl rfl rr_ ?_ | refine aO rfl rfl rfl rr_ rfl rfl rfl ?_ | refine dK rfl rfl rfl rr_ rfl rfl ?_ | (refine bQ rfl rfl rfl rr_ dd_ ?_) | (refine bV rfl rfl rfl rr_ (fun hg => ?_) (fun hg => ?_)) | (refine ae rfl rr_ dd_ ?_) | (refine aj rfl rr_ dd_ ?_))
      all_goals
        refine ao x_ rfl (.tmp _ _ rfl) (fun _ => ?_)
        refine aZ ?_
        first
          | (simp [*]; done)
          | (simp_all; done)
  · rw [if_neg g1, if_neg g2, if_neg g3, if_neg g4, if_neg g5, Bool.false_and]
    repeat' (first | ((with_reducible apply o_y); exact y_; rfl) | refine bf ?_ | (refine aI ?_; intro ss bb) | refine aA ?_ | refine jF ?_ | with_reducible refine ab rfl ?_ | (with_reducible first | apply ag | apply aa | apply ah | apply ac | apply ai | apply ap | apply au | apply aB) | (refine aj rfl rr_ dd_ ?_))
    refine ao x_ rfl (.tmp _ _ rfl) (fun _ => ?_)
    exact Fin.flat rfl
end Go.Proofs.YthpdkhejeookhaaGreatDoor
