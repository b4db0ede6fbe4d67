/- Part 16 of the proof, piece 4. -/
import Derived.Test.YthpdkhejeookhaaGreatDoorPart15d
import Derived.Test.YthpdkhejeookhaaGreatDoorPart14d
import Derived.Test.YthpdkhejeookhaaGreatDoorPart9
import Derived.Test.YthpdkhejeookhaaGreatDoorPart6
import Derived.Test.YthpdkhejeookhaaGreatDoorPart11
import Derived.Test.YthpdkhejeookhaaGreatDoorPart12
import Derived.Test.YthpdkhejeookhaaGreatDoorPart16c
namespace Go.Proofs.YthpdkhejeookhaaGreatDoor
open Go Go.RowKit
set_option maxRecDepth 20000
open Classical in
theorem xC {m : aM} (h : m3 m = true) : vT m := of_decide_eq_true h
open Classical in
theorem vx {m : aM} {n0 n1 n2 : Int} (h : rZ m n0 n1 n2 = true) : tf m n0 n1 n2 := of_decide_eq_true h
theorem qU {m : aM} {o : aR} (h : ¬ (o.kind = 1 ∧ o.numbers.length = 3)) : ro m o := fun hk a b c e => absurd ⟨hk, by rw [e]; rfl⟩ h
set_option maxHeartbeats 8000000 in
theorem lq (lo : Nat) (m : aM) (hsm : m.small 1048576) : Ct Tryz.prog GL 28 [.agg (m.tw lo)] (fun _ => .bool (dX m)) := by
  refine aJ Tryz.func28 rfl Tryz.ntmps28 rfl rfl fun w0 _ hG => ?_
  have hst := cZ
  have hF := ul (m := m)
  have hT := uH (m := m)
  have hlx := aL.len lo m.contexts
  have hlb := aQ.len lo m.blocks
  have hlp := aU.len lo m.processes
  have hlo := aR.len lo m.store.objects
  have hlc := aT.len lo m.base.codes
  have hxl := hsm.2.2.2.1.1
  have hbl := hsm.2.2.1.1
  have hcl2 := hsm.1.2.1.1
  have hol := hsm.2.1.2.1.1
  have c1 := iR lo m.base.classes m.base.entries m.base.codes m.base.main hsm.1.1 hsm.1.2.1 hsm.1.2.2
  have c2 := kU (G := GL) lo lo m.base.classes m.store.classes hsm.1.1 hsm.2.1.1
  have c3 := rY lo m.store hsm.2.1 m.blocks.length
  have d1 := a7 (G := GL) m.status 0 5
  have d4 := kj lo m.store m.blocks.length m.value hsm.2.2.2.2.2.2.1
  have d5 := kr (G := GL) hst m.fault hsm.2.2.2.2.2.2.2
  unfold br.tw at c3 d4
  have e16 := fun hne => oQ hst lo (.sl lo 3 (m.base.classes.map (am.tw lo))) (.sl lo 4 (m.base.entries.map (aW.tw lo))) m.base.codes m.base.main hne hsm.1.2.1
  have eX := fun hcl hc1 hbc o ho k hk => nG lo w0.heap.size m hsm hcl hc1 hbc o ho k hk
  have eP := fun hdep hsd hpl h800 hsem => kZ lo m hsm hdep hsd hpl h800 hsem
  have eE := fun hsd n0 n1 n2 => lm lo lo m hsm hsd n0 n1 n2
  have hxr := fun (i : Nat) (h : i < m.contexts.length) => cP (lo := lo) (l := m.contexts) h
  have hcr := fun (i : Nat) (h : i < m.base.codes.length) => bN (lo := lo) (cs := m.base.codes) h
  have hxi := fun (i : Nat) (h : i < m.contexts.length) => rm (m := m) h rfl
  have hci := fun (i : Nat) (h : i < m.base.codes.length) => rp (m := m) h rfl
  have hnum := fun (i : Nat) (h : i < m.store.objects.length) => (hsm.2.1.2.1.2 _ (List.getElem_mem h)).2
  unfold aM.tw at eX eP eE ⊢
  cases hV : cI m.base
  case false =>
    rw [hF fun h => by have := h.ver; rw [hV] at this; cases this]
    replace c1 : Ct Tryz.prog GL 39 [.agg [.sl lo 3 (m.base.classes.map (am.tw lo)), .sl lo 4 (m.base.codes.map (aT.tw lo)), .sl lo 4 (m.base.entries.map (aW.tw lo)), .int .i64 m.base.main]] (fun _ => .bool false) := hV ▸ c1
    repeat' (first | ((with_reducible apply o_y); exact y_; rfl) | refine bf ?_ | refine aw hG hst (c1) ?_ | with_reducible refine ab rfl ?_ | (with_reducible first | apply ag | apply aa | apply ah | apply ac | apply au | apply ad) | refine aO rfl rfl rfl rr_ rfl rfl rfl ?_ | refine av rfl rr_ ?_)
    refine ao x_ rfl (.tmp _ _ rfl) (fun _ => ?_)
    exact Fin.flat rfl
  replace c1 : Ct Tryz.prog GL 39 [.agg [.sl lo 3 (m.base.classes.map (am.tw lo)), .sl lo 4 (m.base.codes.map (aT.tw lo)), .sl lo 4 (m.base.entries.map (aW.tw lo)), .int .i64 m.base.main]] (fun _ => .bool true) := hV ▸ c1
  by_cases hS : m.base.classes = m.store.classes
  case neg =>
    rw [hF fun h => hS h.same]
    rw [lA hS] at c2
    repeat' (first | ((with_reducible apply o_y); exact y_; rfl) | refine bf ?_ | refine aw hG hst (c1) ?_ | refine aw hG hst (c2) ?_ | with_reducible refine ab rfl ?_ | (with_reducible first | apply ag | apply aa | apply ah | apply ac | apply au | apply ad) | refine aP rfl rfl rfl rr_ ?_ | refine aO rfl rfl rfl rr_ rfl rfl rfl ?_ | refine av rfl rr_ ?_)
    refine ao x_ rfl (.tmp _ _ rfl) (fun _ => ?_)
    exact Fin.flat rfl
  rw [rE hS] at c2
  cases hR : gY m.store m.blocks.length
  case false =>
    rw [hF fun h => by have := h.store; rw [hR] at this; cases this]
    rw [hR] at c3
    repeat' (first | ((with_reducible apply o_y); exact y_; rfl) | refine bf ?_ | refine aw hG hst (c1) ?_ | refine aw hG hst (c2) ?_ | refine aw hG hst (c3) ?_ | with_reducible refine ab rfl ?_ | (with_reducible first | apply ag | apply aa | apply ah | apply ac | apply au | apply ad) | refine aP rfl rfl rfl rr_ ?_ | refine aO rfl rfl rfl rr_ rfl rfl rfl ?_ | refine av rfl rr_ ?_)
    refine ao x_ rfl (.tmp _ _ rfl) (fun _ => ?_)
    exact Fin.flat rfl
  rw [hR] at c3
  by_cases hM : (m.store.objects.length : Int) + m.blocks.length ≤ m.store.made
  case neg =>
    rw [hF fun h => hM h.made]
    have hM' : m.store.made < (m.store.objects.length : Int) + m.blocks.length := by omega
    repeat' (first | ((with_reducible apply o_y); exact y_; rfl) | refine bf ?_ | refine aw hG hst (c1) ?_ | refine aw hG hst (c2) ?_ | refine aw hG hst (c3) ?_ | with_reducible refine ab rfl ?_ | (with_reducible first | apply ag | apply aa | apply ah | apply ac | apply au | apply ad) | refine aP rfl rfl rfl rr_ ?_ | refine aO rfl rfl rfl rr_ rfl rfl rfl ?_ | (refine bQ rfl rfl rfl rr_ dd_ ?_) | refine av rfl rr_ ?_)
    refine ao x_ rfl (.tmp _ _ rfl) (fun _ => ?_)
    exact Fin.flat rfl
  have hM' : ¬ m.store.made < (m.store.objects.length : Int) + m.blocks.length := by omega
  cases h1 : inR m.status 0 5
  case false =>
    rw [hF fun h => by have := h.status; rw [h1] at this; cases this]
    rw [h1] at d1
    repeat' (first | ((with_reducible apply o_y); exact y_; rfl) | refine bf ?_ | refine aw hG hst (c1) ?_ | refine aw hG hst (c2) ?_ | refine aw hG hst (c3) ?_ | refine aw hG hst (d1) ?_ | with_reducible refine ab rfl ?_ | (with_reducible first | apply ag | apply aa | apply ah | apply ac | apply au | apply ad) | refine aP rfl rfl rfl rr_ ?_ | refine aO rfl rfl rfl rr_ rfl rfl rfl ?_ | (refine bC rfl rfl rfl rr_ dd_ ?_) | refine av rfl rr_ ?_)
    refine ao x_ rfl (.tmp _ _ rfl) (fun _ => ?_)
    exact Fin.flat rfl
  rw [h1] at d1
  cases h4 : ch m.store m.blocks.length m.value
  case false =>
    rw [hF fun h => by have := h.value; unfold qk at this; rw [h4] at this; cases this]
    rw [h4] at d4
    repeat' (first | ((with_reducible apply o_y); exact y_; rfl) | refine bf ?_ | refine aw hG hst (c1) ?_ | refine aw hG hst (c2) ?_ | refine aw hG hst (c3) ?_ | refine aw hG hst (d1) ?_ | refine aw hG hst (d4) ?_ | with_reducible refine ab rfl ?_ | (with_reducible first | apply ag | apply aa | apply ah | apply ac | apply au | apply ad) | refine aP rfl rfl rfl rr_ ?_ | refine aO rfl rfl rfl rr_ rfl rfl rfl ?_ | (refine bC rfl rfl rfl rr_ dd_ ?_) | refine av rfl rr_ ?_)
    refine ao x_ rfl (.tmp _ _ rfl) (fun _ => ?_)
    exact Fin.flat rfl
  rw [h4] at d4
  cases h5 : ei m.fault
  case false =>
    rw [hF fun h => by have := h.fault; rw [h5] at this; cases this]
    rw [h5] at d5
    repeat' (first | ((with_reducible apply o_y); exact y_; rfl) | refine bf ?_ | refine aw hG hst (c1) ?_ | refine aw hG hst (c2) ?_ | refine aw hG hst (c3) ?_ | refine aw hG hst (d1) ?_ | refine aw hG hst (d4) ?_ | refine aw hG hst (d5) ?_ | with_reducible refine ab rfl ?_ | (with_reducible first | apply ag | apply aa | apply ah | apply ac | apply au | apply ad) | refine aP rfl rfl rfl rr_ ?_ | (refine bC rfl rfl rfl rr_ dd_ ?_) | refine av rfl rr_ ?_)
    refine ao x_ rfl (.tmp _ _ rfl) (fun _ => ?_)
    exact Fin.flat rfl
  rw [h5] at d5
  repeat' (first | ((with_reducible apply o_y); exact y_; rfl) | refine bf ?_ | refine aw hG hst (c1) ?_ | refine aw hG hst (c2) ?_ | refine aw hG hst (c3) ?_ | refine aw hG hst (d1) ?_ | refine aw hG hst (d4) ?_ | refine aw hG hst (d5) ?_ | with_reducible refine bx (id := 3) ?_ | with_reducible refine ab rfl ?_ | (with_reducible first | apply ag | apply aa | apply ah | apply ac | apply ap) | refine aP rfl rfl rfl rr_ ?_ | (refine bC rfl rfl rfl rr_ dd_ ?_) | refine az rfl rr_ ?_)
  refine ⟨?_⟩
  clear c1 c2 c3 d1 d4 d5 hM'
  obtain ⟨hc1, o, ho, hoL⟩ := gu hV
  obtain ⟨hsc, h800, hsem⟩ := jx hR
  have hcl := ng hsc
  have hdep := kg hV
  have hgo := fun (j : Nat) (h : j < o.length) => dW (o := o) h
  have holn := aS o
  replace e16 := e16 hc1
  unfold wK at e16
  rw [ho] at e16
  replace e16 : Ct Tryz.prog GL 99 [.agg [.sl lo 3 (m.base.classes.map (am.tw lo)), .sl lo 4 (m.base.codes.map (aT.tw lo)), .sl lo 4 (m.base.entries.map (aW.tw lo)), .int .i64 m.base.main]] (fun K => .tup [.sl K 1 (bv o), .bool true]) := e16
  repeat' (first | ((with_reducible apply o_y); exact y_; rfl) | refine aw hG hst (e16) ?_ | with_reducible refine ab rfl ?_ | (with_reducible first | apply ag | apply aa | apply ah | apply ac | apply ai))
  apply aK (X := Nat) [1, 3, 78, 79] (fun i => [(80, .int .i64 (i : Int))]) (fun _ => []) (fun i => i ≤ m.blocks.length ∧ ∀ b ∈ m.blocks.take i, gP m o b = true) (fun i => m.blocks.length - i) 0 ⟨Nat.zero_le _, by simp⟩
  exact kp_; (repeat (first | exact bj.envNil | refine bj.envCons we_ ?_))
  · exact .refl _
  rintro i ⟨hi, hall⟩
  try dsimp only
  by_cases hlt : i < m.blocks.length
  · have hrow := mI (lo := lo) hlt
    have hta : gP m o m.blocks[i] = true → ∀ y ∈ m.blocks.take (i + 1), gP m o y = true := bu (p := fun b => gP m o b = true) hlt hall
    have hbad : gP m o m.blocks[i] = false → dX m = false := fun hB => hF fun h => by have := (h.outs o ho).2 _ (List.getElem_mem hlt); rw [hB] at this; cases this
    clear hF hT eX eP eE e16 hall hV hS hR hM h1 h4 h5 hdep hsem hcl hsc hnum
    generalize m.blocks[i] = b at hrow hta hbad
    obtain ⟨bc, bo, bh, ⟨bk, bn, bt⟩⟩ := b
    have k1 := a7 (G := GL) bc 0 ((m.base.codes.length : Int) - 1)
    have k2 := a7 (G := GL) bo 0 ((m.contexts.length : Int) - 1)
    rw [show (m.base.codes.length : Int) - 1 = ((m.base.codes.length - 1 : Nat) : Int) by omega] at k1
    generalize hQ : (∀ y ∈ m.blocks.take (i + 1), gP m o y = true) = Q at hta
    unfold gP at hta hbad
    dsimp only at hta hbad hrow
    rw [show (m.base.codes.length : Int) - 1 = ((m.base.codes.length - 1 : Nat) : Int) by omega] at hta hbad
    have hcs : (m.contexts.length : Int) - 1 = ((m.contexts.length - 1 : Nat) : Int) ∨ ¬ 1 ≤ m.contexts.length := by omega
    cases g1 : inR bc 0 ((m.base.codes.length - 1 : Nat) : Int)
    case false =>
      rw [hbad (by rw [g1, Bool.false_and])]
      rw [g1] at k1
      repeat' (first | ((with_reducible apply o_y); exact y_; rfl) | (refine aI ?_; intro ss bb) | refine aA ?_ | refine aw hG hst (k1) ?_ | with_reducible refine ab rfl ?_ | (with_reducible first | apply ag | apply aa | apply ah | apply ac | apply ai | apply ap | apply au | apply ad | apply ak) | refine aO rfl rfl rfl rr_ rfl rfl rfl ?_ | refine av rfl rr_ ?_ | (refine ae rfl rr_ dd_ ?_))
      refine ao x_ rfl (.tmp _ _ rfl) (fun _ => ?_)
      exact Fin.flat rfl
    rw [g1, Bool.true_and] at hta hbad
    rw [g1] at k1
    have g1' := of_decide_eq_true g1
    obtain ⟨q, rfl⟩ : ∃ q : Nat, bc = q := ⟨bc.toNat, by omega⟩
    have hq : q < m.base.codes.length := by omega
    have hrq := hcr q hq
    have hqo := hgo q (by omega)
    rw [hci q hq] at hta hbad
    clear hcr hgo hci
    generalize m.base.codes[q] = x at hrq hta hbad
    obtain ⟨xb, xp, xs, xi⟩ := x
    dsimp only at hrq hta hbad
    cases xb
    case false =>
      rw [hbad (by rw [Bool.false_and])]
      repeat' (first | ((with_reducible apply o_y); exact y_; rfl) | (refine aI ?_; intro ss bb) | refine aA ?_ | refine aw hG hst (k1) ?_ | with_reducible refine ab rfl ?_ | (with_reducible first | apply ag | apply aa | apply ah | apply ac | apply ai | apply ap | apply au | apply ad | apply ak) | refine aP rfl rfl rfl rr_ ?_ | refine aO rfl rfl rfl rr_ rfl rfl rfl ?_ | refine av rfl rr_ ?_ | (refine ae rfl rr_ dd_ ?_))
      refine ao x_ rfl (.tmp _ _ rfl) (fun _ => ?_)
      exact Fin.flat rfl
    rw [Bool.true_and] at hta hbad
    cases g2 : inR bo 0 ((m.contexts.length : Int) - 1)
    case false =>
      rw [hbad (by rw [g2, Bool.false_and])]
      rw [g2] at k2
      rcases hcs with hcs | hcs
      · rw [hcs] at k2
        have hcs1 : 1 ≤ m.contexts.length := by omega
        repeat' (first | ((with_reducible apply o_y); exact y_; rfl) | (refine aI ?_; intro ss bb) | refine aA ?_ | refine aw hG hst (k1) ?_ | refine aw hG hst (k2) ?_ | with_reducible refine ab rfl ?_ | (with_reducible first | apply ag | apply aa | apply ah | apply ac | apply ai | apply ap | apply au | apply ad | apply ak) | refine aP rfl rfl rfl rr_ ?_ | refine av rfl rr_ ?_ | (refine ae rfl rr_ dd_ ?_))
        refine ao x_ rfl (.tmp _ _ rfl) (fun _ => ?_)
        exact Fin.flat rfl
      · repeat' (first | ((with_reducible apply o_y); exact y_; rfl) | (refine aI ?_; intro ss bb) | refine aA ?_ | refine aw hG hst (k1) ?_ | refine aw hG hst (k2) ?_ | with_reducible refine ab rfl ?_ | (with_reducible first | apply ag | apply aa | apply ah | apply ac | apply ai | apply ap | apply au | apply ad | apply ak) | refine aP rfl rfl rfl rr_ ?_ | refine av rfl rr_ ?_ | (refine ae rfl rr_ dd_ ?_))
        refine ao x_ rfl (.tmp _ _ rfl) (fun _ => ?_)
        exact Fin.flat rfl
    rw [g2, Bool.true_and] at hta hbad
    rw [g2] at k2
    have g2' := of_decide_eq_true g2
    obtain ⟨u, rfl⟩ : ∃ u : Nat, bo = u := ⟨bo.toNat, by omega⟩
    have hu : u < m.contexts.length := by omega
    have hru := hxr u hu
    rw [hxi u hu] at hta hbad
    rw [show (m.contexts.length : Int) - 1 = ((m.contexts.length - 1 : Nat) : Int) by omega] at k2
    clear hxr hxi
    generalize m.contexts[u] = p at hru hta hbad
    obtain ⟨pm, pcc, ppc, ps, po, ph, ⟨pk, pn, pt⟩, psl, pst, pva, pot, prt⟩ := p
    dsimp only at hru hta hbad
    have hE : eqL [.int .i64 bk, .int .i64 bn, .str bt] [.int .i64 pk, .int .i64 pn, .str pt] = eqV ⟨bk, bn, bt⟩ ⟨pk, pn, pt⟩ := rfl
    generalize eqV ⟨bk, bn, bt⟩ ⟨pk, pn, pt⟩ = E at hE hta hbad
    by_cases m0 : pm = 0
    case neg =>
      have m0' : pm ≠ 0 := m0
      rw [hbad (by rw [decide_eq_false m0, Bool.false_and])]
      repeat' (first | ((with_reducible apply o_y); exact y_; rfl) | (refine aI ?_; intro ss bb) | refine aA ?_ | with_reducible refine aF (by kernel_rfl) (by kernel_rfl) ?_ | with_reducible refine aN ?_ | with_reducible refine aE rfl ?_ | refine aV rfl rfl rfl rr_ rfl rfl rfl ?_ | (refine cF rfl rfl rfl rr_ dd_ ?_) | ((with_reducible apply d_y); exact y_; rfl) | refine aw hG hst (k1) ?_ | refine aw hG hst (k2) ?_ | with_reducible refine ab rfl ?_ | (with_reducible first | apply ag | apply aa | apply ah | apply ac | apply ai | apply ap | apply au | apply ad | apply ak) | refine aP rfl rfl rfl rr_ ?_ | refine av rfl rr_ ?_ | refine az rfl rr_ ?_ | (refine ae rfl rr_ dd_ ?_))
      refine ao x_ rfl (.tmp _ _ rfl) (fun _ => ?_)
      exact Fin.flat rfl
    have m0' : ¬ pm ≠ 0 := fun h => h m0
    rw [decide_eq_true m0, Bool.true_and] at hta hbad
    by_cases m1 : pcc = gd o (q : Int)
    case neg =>
      have m1' : pcc ≠ gd o (q : Int) := m1
      rw [hbad (by rw [decide_eq_false m1, Bool.false_and])]
      repeat' (first | ((with_reducible apply o_y); exact y_; rfl) | (refine aI ?_; intro ss bb) | refine aA ?_ | with_reducible refine aF (by kernel_rfl) (by kernel_rfl) ?_ | with_reducible refine aN ?_ | with_reducible refine aE rfl ?_ | refine aX rfl rfl rfl rr_ ?_ | refine aV rfl rfl rfl rr_ rfl rfl rfl ?_ | (refine cF rfl rfl rfl rr_ dd_ ?_) | (refine bW rfl rfl rfl rr_ dd_ ?_) | ((with_reducible apply d_y); exact y_; rfl) | refine aw hG hst (k1) ?_ | refine aw hG hst (k2) ?_ | with_reducible refine ab rfl ?_ | (with_reducible first | apply ag | apply aa | apply ah | apply ac | apply ai | apply ap | apply au | apply ad | apply ak) | refine aP rfl rfl rfl rr_ ?_ | refine av rfl rr_ ?_ | refine az rfl rr_ ?_ | (refine ae rfl rr_ dd_ ?_))
      refine ao x_ rfl (.tmp _ _ rfl) (fun _ => ?_)
      exact Fin.flat rfl
    have m1' : ¬ pcc ≠ gd o (q : Int) := fun h => h m1
    rw [decide_eq_true m1, Bool.true_and] at hta hbad
    by_cases m2 : bh = ph
    case neg =>
      have m2' : bh ≠ ph := m2
      rw [hbad (by rw [decide_eq_false m2, Bool.false_and])]
      repeat' (first | ((with_reducible apply o_y); exact y_; rfl) | (refine aI ?_; intro ss bb) | refine aA ?_ | with_reducible refine aF (by kernel_rfl) (by kernel_rfl) ?_ | with_reducible refine aN ?_ | with_reducible refine aE rfl ?_ | refine aX rfl rfl rfl rr_ ?_ | refine aV rfl rfl rfl rr_ rfl rfl rfl ?_ | (refine cF rfl rfl rfl rr_ dd_ ?_) | (refine bW rfl rfl rfl rr_ dd_ ?_) | ((with_reducible apply d_y); exact y_; rfl) | refine aw hG hst (k1) ?_ | refine aw hG hst (k2) ?_ | with_reducible refine ab rfl ?_ | (with_reducible first | apply ag | apply aa | apply ah | apply ac | apply ai | apply ap | apply au | apply ad | apply ak) | refine aP rfl rfl rfl rr_ ?_ | refine av rfl rr_ ?_ | refine az rfl rr_ ?_ | (refine ae rfl rr_ dd_ ?_))
      refine ao x_ rfl (.tmp _ _ rfl) (fun _ => ?_)
      exact Fin.flat rfl
    have m2' : ¬ bh ≠ ph := fun h => h m2
    rw [decide_eq_true m2, Bool.true_and] at hta hbad
    cases E
    · rw [hbad rfl]
      have hE2 : (!eqL [.int .i64 bk, .int .i64 bn, .str bt] [.int .i64 pk, .int .i64 pn, .str pt]) = true := by rw [hE]; rfl
      repeat' (first | ((with_reducible apply o_y); exact y_; rfl) | (refine aI ?_; intro ss bb) | refine aA ?_ | with_reducible refine aF (by kernel_rfl) (by kernel_rfl) ?_ | with_reducible refine aN ?_ | with_reducible refine aE rfl ?_ | refine aX rfl rfl rfl rr_ ?_ | (refine bW rfl rfl rfl rr_ dd_ ?_) | ((with_reducible apply d_y); exact y_; rfl) | refine aw hG hst (k1) ?_ | refine aw hG hst (k2) ?_ | with_reducible refine ab rfl ?_ | (with_reducible first | apply ag | apply aa | apply ah | apply ac | apply ai | apply ap | apply au | apply ad | apply ak | apply aB) | refine aP rfl rfl rfl rr_ ?_ | refine az rfl rr_ ?_ | (refine ae rfl rr_ dd_ ?_) | (refine cf rfl rr_ (fun hc => ?_) (fun hc => ?_)))
      all_goals first
        | (refine ao x_ rfl (.tmp _ _ rfl) (fun _ => ?_)
           exact Fin.flat rfl)
        | (exfalso; simp_all; done)
    · have hE2 : (!eqL [.int .i64 bk, .int .i64 bn, .str bt] [.int .i64 pk, .int .i64 pn, .str pt]) = false := by rw [hE]; rfl
      repeat' (first | ((with_reducible apply o_y); exact y_; rfl) | (refine aI ?_; intro ss bb) | refine aA ?_ | with_reducible refine aF (by kernel_rfl) (by kernel_rfl) ?_ | with_reducible refine aN ?_ | with_reducible refine aE rfl ?_ | refine aX rfl rfl rfl rr_ ?_ | (refine bW rfl rfl rfl rr_ dd_ ?_) | ((with_reducible apply d_y); exact y_; rfl) | refine aw hG hst (k1) ?_ | refine aw hG hst (k2) ?_ | with_reducible refine ab rfl ?_ | (with_reducible first | apply ag | apply aa | apply ah | apply ac | apply ai | apply ap | apply au | apply ad | apply ak | apply aB) | refine aP rfl rfl rfl rr_ ?_ | refine az rfl rr_ ?_ | (refine ae rfl rr_ dd_ ?_) | (refine cf rfl rr_ (fun hc => ?_) (fun hc => ?_)))
      all_goals first
        | exact aG (i + 1) ⟨by omega, hQ ▸ hta rfl⟩ (by omega) (.of _ nw_ od_ pk_)
        | (exfalso; simp_all; done)
  obtain rfl : i = m.blocks.length := by omega
  rw [List.take_of_length_le (Nat.le_refl _)] at hall
  have hcb := hall
  have hbc : ∀ b ∈ m.blocks, 0 ≤ b.code ∧ b.code < m.base.codes.length := fun b hb => by
    have h2 := hcb b hb
    unfold gP at h2
    simp only [Bool.and_eq_true] at h2
    have h3 := of_decide_eq_true h2.1
    omega
  replace eX := eX hcl hc1 hbc o hoL
  clear hall hlt hi hxr hcr hxi hci hgo e16
  repeat' (first | ((with_reducible apply o_y); exact y_; rfl) | with_reducible refine ab rfl ?_ | (with_reducible first | apply ag | apply aa | apply ah | apply ac | apply ai | apply aH | apply ar | apply aq) | (refine aj rfl rr_ dd_ ?_))
  apply aK (X := Nat) [1, 3, 150] (fun i => [(151, .int .i64 (i : Int))]) (fun _ => []) (fun i => i ≤ m.contexts.length ∧ ∀ j (h : j < m.contexts.length), j < i → lU m o j m.contexts[j] = true) (fun i => m.contexts.length - i) 0 ⟨Nat.zero_le _, fun _ _ h => absurd h (Nat.not_lt_zero _)⟩
  exact kp_; (repeat (first | exact bj.envNil | refine bj.envCons we_ ?_))
  · exact .refl _
  rintro i ⟨hi, hall⟩
  try dsimp only
  by_cases hlt : i < m.contexts.length
  · have hct := eX i hlt
    cases hB : lU m o i m.contexts[i]
    · rw [hF fun h => by have := (h.outs o ho).1 i hlt; rw [hB] at this; cases this]
      rw [hB] at hct
      repeat' (first | ((with_reducible apply o_y); exact y_; rfl) | refine aw hG hst (hct) ?_ | with_reducible refine ab rfl ?_ | (with_reducible first | apply ag | apply aa | apply ah | apply ac | apply ai | apply ap | apply au | apply ad | apply ak) | refine av rfl rr_ ?_ | (refine ae rfl rr_ dd_ ?_))
      refine ao x_ rfl (.tmp _ _ rfl) (fun _ => ?_)
      exact Fin.flat rfl
    · rw [hB] at hct
      repeat' (first | ((with_reducible apply o_y); exact y_; rfl) | refine aw hG hst (hct) ?_ | with_reducible refine ab rfl ?_ | (with_reducible first | apply ag | apply aa | apply ah | apply ac | apply ai | apply ap | apply aB) | refine az rfl rr_ ?_ | (refine ae rfl rr_ dd_ ?_))
      exact aG (i + 1) ⟨by omega, fun j h hj => by
        rcases Nat.lt_or_ge j i with h1 | h1
        · exact hall j h h1
        · obtain rfl : j = i := by omega
          exact hB⟩ (by omega) (.of _ nw_ od_ pk_)
  obtain rfl : i = m.contexts.length := by omega
  have hctx : ∀ j (h : j < m.contexts.length), lU m o j m.contexts[j] = true := fun j h => hall j h h
  have hsd := nM hctx
  have hplain : ∀ (i : Nat) (h : i < m.contexts.length), m.contexts[i].mark = 0 → (0 ≤ m.contexts[i].code ∧ m.contexts[i].code < m.base.codes.length) ∧ 0 ≤ m.contexts[i].pc := fun i h h0 => by
    obtain ⟨x, _, h2, h3, _⟩ := pg (hctx i h) h0
    exact ⟨h2, h3.1⟩
  replace eP := eP hdep hsd hplain h800 hsem
  replace eE := eE hsd
  have houts : xW m o := ⟨hctx, hcb⟩
  clear hall eX hdep hplain hlt hi hcb hctx hbc
  cases hPB : m3 m
  · rw [hF fun h => by
      have := wq (m := m) ⟨h.procs, h.now, h.ats, h.live⟩
      rw [hPB] at this; cases this]
    rw [hPB] at eP
    repeat' (first | ((with_reducible apply o_y); exact y_; rfl) | refine aw hG hst (eP) ?_ | with_reducible refine ab rfl ?_ | (with_reducible first | apply ag | apply aa | apply ah | apply ac | apply aH | apply au | apply ar | apply aq | apply ad) | refine av rfl rr_ ?_ | (refine aj rfl rr_ dd_ ?_))
    refine ao x_ rfl (.tmp _ _ rfl) (fun _ => ?_)
    exact Fin.flat rfl
  rw [hPB] at eP
  have hPP := xC hPB
  have hgood : (∀ o ∈ m.store.objects, ro m o) → dX m = true := fun k => hT ⟨hV, hS, hR, hM, h1, hPP.1, hPP.2.1, h4, h5, fun o' ho' => by rw [ho] at ho'; cases ho'; exact houts, hPP.2.2.1, hPP.2.2.2, k⟩
  have hbadE : ∀ o ∈ m.store.objects, ¬ ro m o → dX m = false := fun o ho hn => hF fun h => hn (h.exc o ho)
  clear hT hF hV hS hR hM h1 h4 h5 houts hPP hPB ho
  generalize dX m = V at hgood hbadE ⊢
  repeat' (first | ((with_reducible apply o_y); exact y_; rfl) | refine aw hG hst (eP) ?_ | with_reducible refine ab rfl ?_ | (with_reducible first | apply ag | apply aa | apply ah | apply ac | apply ai | apply aH | apply ap | apply ar | apply aq) | refine az rfl rr_ ?_ | (refine aj rfl rr_ dd_ ?_))
  apply aK (X := Nat) [1, 165, 166] (fun i => [(167, .int .i64 (i : Int))]) (fun _ => []) (fun i => i ≤ m.store.objects.length ∧ ∀ o ∈ m.store.objects.take i, ro m o) (fun i => m.store.objects.length - i) 0 ⟨Nat.zero_le _, by simp⟩
  exact kp_; (repeat (first | exact bj.envNil | refine bj.envCons we_ ?_))
  · exact .refl _
  rintro i ⟨hi, hall⟩
  try dsimp only
  by_cases hlt : i < m.store.objects.length
  case neg =>
    obtain rfl : i = m.store.objects.length := by omega
    rw [List.take_of_length_le (Nat.le_refl _)] at hall
    rw [hgood hall]
    repeat' (first | ((with_reducible apply o_y); exact y_; rfl) | with_reducible refine ab rfl ?_ | (with_reducible first | apply ag | apply aa | apply ah | apply ac | apply aH | apply au | apply ar | apply aq) | (refine aj rfl rr_ dd_ ?_))
    refine ao x_ rfl (.tmp _ _ rfl) (fun _ => ?_)
    exact Fin.flat rfl
  have hrow := mT (lo := lo) hlt
  have hta := bu (p := fun o => ro m o) hlt hall
  have hbad := hbadE _ (List.getElem_mem hlt)
  have hnl := hnum i hlt
  clear hall hgood hbadE hnum eP hsem
  generalize m.store.objects[i] = ob at hrow hta hbad hnl
  obtain ⟨ok, oc, fs, ns⟩ := ob
  dsimp only at hrow hnl
  have hnl2 := aS ns
  by_cases hk : ok = 1
  case neg =>
    replace hta := hta (qU fun h => hk h.1)
    repeat' (first | ((with_reducible apply o_y); exact y_; rfl) | (refine aI ?_; intro ss bb) | refine aA ?_ | with_reducible refine ab rfl ?_ | (with_reducible first | apply ag | apply aa | apply ah | apply ac | apply ai | apply ap | apply aB) | refine aO rfl rfl rfl rr_ rfl rfl rfl ?_ | (refine bC rfl rfl rfl rr_ dd_ ?_) | refine az rfl rr_ ?_ | (refine ae rfl rr_ dd_ ?_))
    exact aG (i + 1) ⟨by omega, hta⟩ (by omega) (.of _ nw_ od_ pk_)
  subst hk
  by_cases h3 : ns.length = 3
  case neg =>
    have h3' : ¬ (ns.length : Int) = 3 := by omega
    replace hta := hta (qU fun h => h3 h.2)
    repeat' (first | ((with_reducible apply o_y); exact y_; rfl) | (refine aI ?_; intro ss bb) | refine aA ?_ | with_reducible refine ab rfl ?_ | (with_reducible first | apply ag | apply aa | apply ah | apply ac | apply ai | apply ap | apply aB) | refine aP rfl rfl rfl rr_ ?_ | refine aO rfl rfl rfl rr_ rfl rfl rfl ?_ | (refine bQ rfl rfl rfl rr_ dd_ ?_) | (refine bC rfl rfl rfl rr_ dd_ ?_) | refine az rfl rr_ ?_ | (refine ae rfl rr_ dd_ ?_))
    exact aG (i + 1) ⟨by omega, hta⟩ (by omega) (.of _ nw_ od_ pk_)
  obtain ⟨n0, n1, n2, rfl⟩ := yl h3
  clear hnl hnl2 h3
  rw [x1] at hta hbad
  simp only [bv, List.map_cons, List.map_nil] at hrow
  have hln : ([[.int .i64 n0], [.int .i64 n1], [.int .i64 n2]] : List (List TV)).length = 3 := rfl
  have hct := eE n0 n1 n2
  cases hB : rZ m n0 n1 n2
  · rw [hB] at hct
    rw [hbad fun h => by rw [qj h] at hB; cases hB]
    repeat' (first | ((with_reducible apply o_y); exact y_; rfl) | (refine aI ?_; intro ss bb) | refine aA ?_ | refine aw hG hst (hct) ?_ | with_reducible refine ab rfl ?_ | (with_reducible first | apply ag | apply aa | apply ah | apply ac | apply ai | apply ap | apply au | apply ad | apply ak) | refine aP rfl rfl rfl rr_ ?_ | (refine bQ rfl rfl rfl rr_ dd_ ?_) | refine av rfl rr_ ?_ | (refine ae rfl rr_ dd_ ?_))
    refine ao x_ rfl (.tmp _ _ rfl) (fun _ => ?_)
    exact Fin.flat rfl
  · rw [hB] at hct
    replace hta := hta (vx hB)
    repeat' (first | ((with_reducible apply o_y); exact y_; rfl) | (refine aI ?_; intro ss bb) | refine aA ?_ | refine aw hG hst (hct) ?_ | with_reducible refine ab rfl ?_ | (with_reducible first | apply ag | apply aa | apply ah | apply ac | apply ai | apply ap | apply aB) | refine aP rfl rfl rfl rr_ ?_ | (refine bQ rfl rfl rfl rr_ dd_ ?_) | refine az rfl rr_ ?_ | (refine ae rfl rr_ dd_ ?_))
    exact aG (i + 1) ⟨by omega, hta⟩ (by omega) (.of _ nw_ od_ pk_)
set_option maxRecDepth 20000
theorem j1 {α : Type} {R : PT → α → Prop} {f : α → List TV} {l : List PT} {xs : List α} (h : AtL R l xs) (hf : ∀ t x, R t x → t.tvs = f x) : PT.rowsL l = xs.map f := by
  rw [PT.rowsL_map]
  apply List.ext_getElem?
  intro i
  simp only [List.getElem?_map]
  by_cases hi : i < l.length
  · have hj : i < xs.length := by rw [← h.1]; exact hi
    rw [List.getElem?_eq_getElem hi, List.getElem?_eq_getElem hj]
    simp only [Option.map_some]
    rw [hf _ _ (h.get hi)]
  · rw [List.getElem?_eq_none (by omega), List.getElem?_eq_none (by rw [← h.1]; omega)]; rfl
theorem iL {t : PT} {x : am} (h : cD t x) : t.tvs = x.tw 0 := by
  obtain ⟨A, c, rfl⟩ := h
  simp [PT.tvs, PT.tvsL, am.tw, cL, PT.rowsL_map, Function.comp_def]
theorem vP {t : PT} {x : aT} (h : gE t x) : t.tvs = x.tw 0 := by
  obtain ⟨A, c, rfl⟩ := h
  simp [PT.tvs, PT.tvsL, aT.tw, aD.pt, aD.tw, PT.rowsL_map, Function.comp_def]
theorem nS {t : PT} {x : ba} (h : cM t x) : t.tvs = x.tw 0 := by
  obtain ⟨A0, c0, l0, A1, c1, l1, A2, c2, h0, h1, rfl⟩ := h
  simp only [PT.tvs, PT.tvsL, ba.tw, j1 h0 (fun _ _ => iL), j1 h1 (fun _ _ => vP), PT.rowsL_map, List.map_map, List.append_nil, List.cons_append, List.nil_append]
  rfl
theorem fM {w : World} {S : Nat → Prop} {t : PT} {x : am} (h : cD t x) (hs : dl w S t) (hx : x.sane) : am.small 9223372036854775807 x := by
  obtain ⟨A, c, rfl⟩ := h
  simp only [dl, cg] at hs
  have h1 := hs.2.2.1.1
  have h2 := hs.2.2.1.2.1
  simp only [List.length_map] at h1
  exact ⟨hx.1, Nat.le_trans h1 h2, hx.2.2⟩
theorem r9 {w : World} {S : Nat → Prop} {t : PT} {x : aT} (h : gE t x) (hs : dl w S t) (hx : x.sane) : aT.small 9223372036854775807 x := by
  obtain ⟨A, c, rfl⟩ := h
  simp only [dl, cg] at hs
  have h1 := hs.2.2.2.1.1
  have h2 := hs.2.2.2.1.2.1
  simp only [List.length_map] at h1
  exact ⟨Nat.le_trans h1 h2, fun y hy => (hx.2.2 y hy).2.2.2⟩
theorem nK {w : World} {S : Nat → Prop} : ∀ {l : List PT}, cg w S l → ∀ t ∈ l, dl w S t
  | _ :: _, h, t, ht => by
    simp only [cg] at h
    rcases List.mem_cons.1 ht with rfl | ht
    · exact h.1
    · exact nK h.2 t ht
theorem fK {α : Type} {R : PT → α → Prop} {w : World} {S : Nat → Prop} {l : List PT} {xs : List α} (h : AtL R l xs) (hs : cg w S l) {p q : α → Prop} (hp : ∀ t x, R t x → dl w S t → p x → q x) (ha : ∀ x ∈ xs, p x) : ∀ x ∈ xs, q x := fun x hx => by
  obtain ⟨i, hi, rfl⟩ := List.getElem_of_mem hx
  have hj : i < l.length := by rw [h.1]; exact hi
  exact hp l[i] _ (h.get hj) (nK hs _ (List.getElem_mem hj)) (ha _ hx)
theorem lg {w : World} {S : Nat → Prop} {t : PT} {x : ba} (h : cM t x) (hs : dl w S t) (hx : x.sane) : ba.small 9223372036854775807 x := by
  obtain ⟨A0, c0, l0, A1, c1, l1, A2, c2, h0, h1, rfl⟩ := h
  simp only [dl, cg] at hs
  obtain ⟨⟨a1, a2, _, _, a5⟩, ⟨b1, b2, _, _, b5⟩, ⟨d1, d2, _, _, _⟩, _⟩ := hs
  simp only [List.length_map] at d1
  exact ⟨⟨by rw [← h0.1]; exact Nat.le_trans a1 a2, fK h0 a5 (fun _ _ => fM) hx.1⟩, ⟨by rw [← h1.1]; exact Nat.le_trans b1 b2, fK h1 b5 (fun _ _ => r9) hx.2.1⟩, ⟨Nat.le_trans d1 d2, fun y hy => (hx.2.2.1 y hy).2.1⟩⟩
end Go.Proofs.YthpdkhejeookhaaGreatDoor
