/- Part 37 of the proof: the texts ImJ, NiZ, NiZ2. -/
import Derived.Test.YtigipcbnfeoliaaGreatDoorFi26
import Derived.Test.YtigipcbnfeoliaaGreatDoorFi22
import Derived.Test.YtigipcbnfeoliaaGreatDoorFi33
import Derived.Test.YtigipcbnfeoliaaGreatDoorFi25
import Derived.Test.YtigipcbnfeoliaaGreatDoorFi7
set_option linter.all false
set_option maxHeartbeats 4000000
set_option maxRecDepth 20000
namespace Go.Proofs.YtigipcbnfeoliaaGreatDoor
open Go Go.RowKit
theorem yg (f lo : Nat) (m : ao) (hxl : m.contexts.length <= 1048576) (k : Nat) (hk : k < m.contexts.length) (i : Int) : Ct Tryz.prog GL 277 [.int .i64 i, .cp f [.int .i64 (k : Int)], .cp f (m.tw lo)] (fun _ => .bool (doB m k i)) := by
 refine aq Tryz.func277 rfl Tryz.ntmps277 rfl rfl fun w0 _ hG => ?_
 have hst := eg
 have hlx := aj.len lo m.contexts
 have c1 := aK (G := GL) i 0 ((k : Int) - 1)
 unfold ao.tw
 cases hin : inR i 0 ((k : Int) - 1)
 case false =>
   rw [uS hin]
   rw [hin] at c1
   repeat' (first | refine W_ ?_ | refine ac hG hst (c1) ?_)
   exact r1_
 rw [aar hin]
 rw [hin] at c1
 have hin' := of_decide_eq_true hin
 obtain ⟨q, rfl⟩ : ∃ q : Nat, i = q := ⟨i.toNat, by omega⟩
 have hq : q < m.contexts.length := by omega
 rw [show (k : Int) - 1 = ((k - 1 : Nat) : Int) by omega] at c1
 have hr2 := cV (lo := lo) hq
 rw [aaL hq]
 generalize m.contexts[q] = d at hr2 |-
 repeat' (first | refine W_ ?_ | refine ac hG hst (c1) ?_)
 exact r1_
theorem aaS (lo : Nat) (m : ao) (hsm : m.small 1048576) (hcl : gA m.store.classes) (hbc : ∀ b ∈ m.blocks, 0 <= b.code /\ b.code < m.base.codes.length) (k : Nat) (hk : k < m.contexts.length) (hva : ∀ v ∈ m.contexts[k].values, wt m v) : Ct Tryz.prog GL 225 [.agg (m.tw lo), .int .i64 (k : Int)] (fun _ => .bool (abI m k m.contexts[k] && adK m.contexts[k])) := by
 refine aq Tryz.func225 rfl Tryz.ntmps225 rfl rfl fun w0 _ hG => ?_
 have hst := eg
 have hrow := cV (lo := lo) hk
 have hlx := aj.len lo m.contexts
 have hxl := hsm.2.2.2.1.1
 have hbk := fun v hv most => zl hst lo m hsm.2.2.1.1 hsm.1.2.1.1 hbc v hv most
 have hci := fun (k0 : Int) => qv (G := GL) lo m.store.classes hcl k0 1
 have hcs := (hsm.2.2.2.1.2 _ (List.getElem_mem hk)).2.2.2.1
 have hfn := fun i => yg w0.heap.size lo m hxl k hk i
 unfold ao.tw at hbk hfn |-
 generalize m.contexts[k] = c at hrow hva hcs |-
 obtain ⟨mk, cc, pc, sd, ou, ho, ⟨sk, sn, st⟩, slots, stack, values, oth, rt⟩ := c
 dsimp only at hrow hva hcs |-
 have hvl := ab.len lo values
 unfold abI adK
 dsimp only
 rcases tr mk with rfl | rfl | rfl | rfl | rfl | ⟨g1, g2, g3, g4, g5⟩
 ·rw [if_pos rfl]
  by_cases h3 : values.length = 3
  case neg =>
    rw [aey h3, Bool.false_and]
    have h3' : ¬ (values.length : Int) = 3 := by omega
    repeat' (first | refine V_ ?_ | refine aJ ?_ | (refine ak ?_; intro ss bb) | refine ae ?_ | refine nf ?_ | refine g_ (fun hg => ?_) (fun hg => ?_))
    all_goals
      exact r1_
  obtain ⟨v0, v1, v2, rfl⟩ := afU h3
  rw [aeE]
  have hn0 := fun h5 => acF (hva v0 (by simp)) h5
  obtain ⟨k0, n0, t0⟩ := v0
  have f1 := hbk v1 (hva v1 (by simp)) 1
  have f2 := hbk v2 (hva v2 (by simp)) 0
  obtain ⟨k1, n1, t1⟩ := v1
  obtain ⟨k2, n2, t2⟩ := v2
  dsimp only at f1 f2 hn0 |-
  generalize uO m ⟨k1, n1, t1⟩ 1 = b1 at f1 |-
  generalize uO m ⟨k2, n2, t2⟩ 0 = b2 at f2 |-
  simp only [List.map_cons, List.map_nil, ab.tw] at hrow hvl
  by_cases h5 : k0 = 5
  case neg =>
    rw [decide_eq_false h5, Bool.false_and, Bool.false_and]
    repeat' (first | refine V_ ?_ | refine aJ ?_ | (refine ak ?_; intro ss bb) | refine ae ?_ | refine nf ?_ | refine g_ (fun hg => ?_) (fun hg => ?_))
    all_goals
      exact r1_
  have f0 := hci n0 (by have := hn0 h5; omega)
  generalize uZ m.store.classes 1 n0 = b0 at f0 |-
  repeat' (first | refine V_ ?_ | refine aJ ?_ | (refine ak ?_; intro ss bb) | refine ae ?_ | refine nf ?_ | refine ad hG hst (f0) ?_ | refine ad hG hst (f1) ?_ | refine ad hG hst (f2) ?_ | refine g_ (fun hg => ?_) (fun hg => ?_))
  all_goals
    refine aD x_ rfl (.tmp _ _ rfl) (fun _ => ?_)
    refine aI ?_
    first
      | (simp [*]; done)
      | (simp_all; done)
 ·rw [if_neg (by decide), if_pos rfl]
  by_cases h3 : values.length = 1
  case neg =>
    rw [abK h3, Bool.false_and]
    have h3' : ¬ (values.length : Int) = 1 := by omega
    repeat' (first | refine V_ ?_ | refine aJ ?_ | (refine ak ?_; intro ss bb) | refine ae ?_ | refine nf ?_ | refine g_ (fun hg => ?_) (fun hg => ?_))
    all_goals
      exact r1_
  obtain ⟨v1, rfl⟩ := ae3 h3
  rw [acr]
  have f1 := hbk v1 (hva v1 (by simp)) 0
  obtain ⟨k1, n1, t1⟩ := v1
  dsimp only at f1 |-
  generalize uO m ⟨k1, n1, t1⟩ 0 = b1 at f1 |-
  simp only [List.map_cons, List.map_nil, ab.tw] at hrow hvl
  repeat' (first | refine V_ ?_ | refine aJ ?_ | (refine ak ?_; intro ss bb) | refine ae ?_ | refine nf ?_ | refine ad hG hst (f1) ?_ | refine g_ (fun hg => ?_) (fun hg => ?_))
  all_goals
    refine aD x_ rfl (.tmp _ _ rfl) (fun _ => ?_)
    refine aI ?_
    first
      | (simp [*]; done)
      | (simp_all; done)
 ·rw [if_neg (by decide), if_neg (by decide), if_pos rfl]
  by_cases h3 : values.length = 1
  case neg =>
    rw [abK h3, Bool.false_and]
    have h3' : ¬ (values.length : Int) = 1 := by omega
    repeat' (first | refine W_ ?_ | refine aJ ?_ | (refine ak ?_; intro ss bb) | refine ae ?_ | refine nf ?_)
    all_goals
      exact r1_
  obtain ⟨v1, rfl⟩ := ae3 h3
  rw [acr]
  obtain ⟨k1, n1, t1⟩ := v1
  dsimp only at |-
  simp only [List.map_cons, List.map_nil, ab.tw] at hrow hvl
  have c1 := hfn oth
  generalize doB m k oth = b at c1 |-
  repeat' (first | refine W_ ?_ | refine aJ ?_ | (refine ak ?_; intro ss bb) | refine ae ?_ | refine nf ?_ | ((with_reducible apply vS); rfl; rfl; kernel_rfl; exact hG; exact hst; (repeat (first | exact dg.nil | ((with_reducible apply dg.cons); rfl; exact .same _))); (repeat (first | exact j3.nil | ((with_reducible apply j3.cons); (first | ((with_reducible apply cz.mpSame); (repeat (first | with_reducible exact mh | with_reducible refine mt ?_))) | exact cz.same _)))); rfl; exact c1) | refine g_ (fun hg => ?_) (fun hg => ?_))
  all_goals
    refine aD x_ rfl (.tmp _ _ rfl) (fun _ => ?_)
    refine aI ?_
    first
      | (simp [*]; done)
      | (simp_all; done)
 ·rw [if_neg (by decide), if_neg (by decide), if_neg (by decide), if_pos rfl]
  repeat' (first | refine W_ ?_ | refine aJ ?_ | (refine ak ?_; intro ss bb) | refine ae ?_ | refine nf ?_ | refine g_ (fun hg => ?_) (fun hg => ?_))
  all_goals
    refine aD x_ rfl (.tmp _ _ rfl) (fun _ => ?_)
    refine aI ?_
    first
      | (simp [*]; done)
      | (simp [*]; omega)
 ·rw [if_neg (by decide), if_neg (by decide), if_neg (by decide), if_neg (by decide), if_pos rfl]
  have c1 := aK (G := GL) oth (-1) ((k : Int) - 1)
  have c2 := hfn oth
  generalize doB m k oth = b at c2 |-
  generalize inR oth (-1) ((k : Int) - 1) = b2 at c1 |-
  by_cases h3 : values.length = 1
  case neg =>
    have h3' : ¬ (values.length : Int) = 1 := by omega
    rw [decide_eq_false h3, Bool.false_and, Bool.and_false, Bool.false_and]
    repeat' (first | refine W_ ?_ | refine aJ ?_ | (refine ak ?_; intro ss bb) | refine ae ?_ | refine nf ?_)
    all_goals
      exact r1_
  have h3' : (values.length : Int) = 1 := by omega
  cases rt
  all_goals
    repeat' (first | refine W_ ?_ | refine aJ ?_ | (refine ak ?_; intro ss bb) | refine ae ?_ | refine nf ?_ | refine ac hG hst (c1) ?_ | ((with_reducible apply vS); rfl; rfl; kernel_rfl; exact hG; exact hst; (repeat (first | exact dg.nil | ((with_reducible apply dg.cons); rfl; exact .same _))); (repeat (first | exact j3.nil | ((with_reducible apply j3.cons); (first | ((with_reducible apply cz.mpSame); (repeat (first | with_reducible exact mh | with_reducible refine mt ?_))) | exact cz.same _)))); rfl; exact c2) | refine g_ (fun hg => ?_) (fun hg => ?_))
    all_goals
      refine aD x_ rfl (.tmp _ _ rfl) (fun _ => ?_)
      refine aI ?_
      first
        | (simp [*]; done)
        | (simp_all; done)
 ·rw [if_neg g1, if_neg g2, if_neg g3, if_neg g4, if_neg g5, Bool.false_and]
  repeat' (first | refine W_ ?_ | refine aJ ?_ | (refine ak ?_; intro ss bb) | refine ae ?_ | refine nf ?_)
  exact r1_
end Go.Proofs.YtigipcbnfeoliaaGreatDoor
