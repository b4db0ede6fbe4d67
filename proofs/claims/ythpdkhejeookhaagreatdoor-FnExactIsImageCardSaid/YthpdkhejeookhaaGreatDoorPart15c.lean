/- Part 15 of the proof, piece 3. -/
import Derived.Test.YthpdkhejeookhaaGreatDoorPart12
import Derived.Test.YthpdkhejeookhaaGreatDoorPart14d
import Derived.Test.YthpdkhejeookhaaGreatDoorPart6
import Derived.Test.YthpdkhejeookhaaGreatDoorPart9
import Derived.Test.YthpdkhejeookhaaGreatDoorPart5
import Derived.Test.YthpdkhejeookhaaGreatDoorPart13
import Derived.Lib.LazyBuf
import Derived.Test.YthpdkhejeookhaaGreatDoorPart15b
namespace Go.Proofs.YthpdkhejeookhaaGreatDoor
open Go Go.RowKit
set_option maxRecDepth 20000
theorem vf {m : aM} {o : List Int} {k : Int} {c : aL} {l : List aC} (hl : l ∈ [[c.self], c.slots, c.stack, c.values]) (hf : kN m l = false) : lU m o k c = false := by
  have e : kN m [c.self] = ch m.store m.blocks.length c.self := by simp [kN]
  simp only [List.mem_cons, List.not_mem_nil, or_false] at hl
  unfold lU
  rcases hl with rfl | rfl | rfl | rfl
  · rw [e] at hf; rw [hf]; simp
  · rw [hf]; simp
  · rw [hf]; simp
  · rw [hf]; simp
theorem tU {m : aM} {o : List Int} {k : Int} {c : aL} (hs : inR c.sender (-1) (k - 1) = true) (h : ∀ l ∈ [[c.self], c.slots, c.stack, c.values], kN m l = true) : ch m.store m.blocks.length c.self = true ∧ kN m c.values = true ∧ lU m o k c = (if c.mark = 0 then plB m o k c else shB c && (vW m k c && xU c)) := by
  have e : kN m [c.self] = ch m.store m.blocks.length c.self := by simp [kN]
  have h1 := h [c.self] (by simp)
  have h2 := h c.slots (by simp)
  have h3 := h c.stack (by simp)
  have h4 := h c.values (by simp)
  rw [e] at h1
  refine ⟨h1, h4, ?_⟩
  unfold lU
  rw [hs, h1, h2, h3, h4]; simp only [Bool.true_and]
set_option maxHeartbeats 4000000 in
theorem nG (lo l2 : Nat) (m : aM) (hsm : m.small 1048576) (hcl : eV m.store.classes) (hc1 : 1 ≤ m.base.codes.length) (hbc : ∀ b ∈ m.blocks, 0 ≤ b.code ∧ b.code < m.base.codes.length) (o : List Int) (ho : o.length = m.base.codes.length) (k : Nat) (hk : k < m.contexts.length) : Ct Tryz.prog GL 100 [.agg (m.tw lo), .sl l2 1 (bv o), .int .i64 (k : Int)] (fun _ => .bool (lU m o k m.contexts[k])) := by
  refine aJ Tryz.func100 rfl Tryz.ntmps100 rfl rfl fun w0 _ hG => ?_
  have hst := cZ
  have hrow := cP (lo := lo) hk
  have hlx := aL.len lo m.contexts
  have hlc := aT.len lo m.base.codes
  have hxl := hsm.2.2.2.1.1
  have hcl2 := hsm.1.2.1.1
  have hol := aS o
  have hgo := fun (j : Nat) (h : j < o.length) => dW (o := o) h
  have hxi := fun (i : Nat) (h : i < m.contexts.length) => rm (m := m) h rfl
  have hci := fun (i : Nat) (h : i < m.base.codes.length) => rp (m := m) h rfl
  have hxr := fun (i : Nat) (h : i < m.contexts.length) => cP (lo := lo) (l := m.contexts) h
  have hcr := fun (i : Nat) (h : i < m.base.codes.length) => bN (lo := lo) (cs := m.base.codes) h
  have hsc := hsm.2.2.2.1.2 _ (List.getElem_mem hk)
  have hMk := fun hv => uE lo m hsm hcl hbc k hk hv
  have hex := fun (x : aC) (h : x.text.size ≤ 1048576) => kj lo m.store m.blocks.length x h
  have hbl := aQ.len lo m.blocks
  have hbl1 := hsm.2.2.1.1
  have hcn := hsm.1.2.1.2
  clear hsm hcl
  unfold br.tw at hex
  generalize m.contexts[k] = c at hrow hsc hMk ⊢
  have hbad := fun (l : List aC) hl hf => vf (m := m) (o := o) (k := (k : Int)) (c := c) (l := l) hl hf
  have hgood := fun hs h => tU (m := m) (o := o) (k := (k : Int)) (c := c) hs h
  obtain ⟨mk, cc, pc, sd, ou, hm, ⟨sk, sn, st⟩, slots, stack, values, oth, rt⟩ := c
  dsimp only at hbad hgood hrow hMk ⊢
  have k1 := a7 (G := GL) sd (-1) ((k : Int) - 1)
  have hsl1 := hsc.2.1.1
  have hst1 := hsc.2.2.1.1
  have hvl1 := hsc.2.2.2.1
  dsimp only at hsl1 hst1 hvl1
  have hvl := aC.len lo values
  have hsl := aC.len lo slots
  have htl := aC.len lo stack
  have hAm := ra (m := m) (l := values)
  unfold aM.tw at hMk ⊢
  cases hb1 : inR sd (-1) ((k : Int) - 1)
  case false =>
    rw [hb1] at k1
    rw [show lU m o k _ = false from by unfold lU; dsimp only; rw [hb1, Bool.false_and]]
    repeat' (first | ((with_reducible apply o_y); exact y_; rfl) | refine bf ?_ | (refine aI ?_; intro ss bb) | refine aA ?_ | refine aw hG hst (k1) ?_ | with_reducible refine ab rfl ?_ | (with_reducible first | apply ag | apply aa | apply ah | apply ac | apply au | apply ad) | refine av rfl rr_ ?_)
    refine ao x_ rfl (.tmp _ _ rfl) (fun _ => ?_)
    exact Fin.flat rfl
  rw [hb1] at k1
  replace hgood := hgood hb1
  have hLL : ∀ l ∈ [[⟨sk, sn, st⟩], slots, stack, values], l.length ≤ 1048576 ∧ ∀ y ∈ l, aC.small 1048576 y := fun l hl => by
    simp only [List.mem_cons, List.not_mem_nil, or_false] at hl
    rcases hl with rfl | rfl | rfl | rfl
    · exact ⟨by simp, fun y hy => by rw [List.mem_singleton.1 hy]; exact hsc.1⟩
    · exact hsc.2.1
    · exact hsc.2.2.1
    · exact hsc.2.2.2
  have hrows : ∀ i, i < 4 → ∃ f l, [[TV.sl w0.heap.size 3 [[.int .i64 sk, .int .i64 sn, .str st]]], [.sl lo 3 (slots.map (aC.tw lo))], [.sl lo 3 (stack.map (aC.tw lo))], [.sl lo 3 (values.map (aC.tw lo))]][i]? = some [.sl f 3 (l.map (aC.tw lo))] ∧ [[⟨sk, sn, st⟩], slots, stack, values][i]? = some l := fun i hi => by
    match i, hi with
    | 0, _ => exact ⟨_, _, rfl, rfl⟩
    | 1, _ => exact ⟨_, _, rfl, rfl⟩
    | 2, _ => exact ⟨_, _, rfl, rfl⟩
    | 3, _ => exact ⟨_, _, rfl, rfl⟩
  clear hsc
  repeat' (first | ((with_reducible apply o_y); exact y_; rfl) | refine bf ?_ | (refine aI ?_; intro ss bb) | refine aA ?_ | refine dk ?_ | refine aw hG hst (k1) ?_ | with_reducible refine ab rfl ?_ | (with_reducible first | apply ag | apply aa | apply ah | apply ac | apply ai | apply ap) | refine az rfl rr_ ?_)
  generalize ss = s7; generalize bb = b7
  have hrl : ([[TV.sl w0.heap.size 3 [[.int .i64 sk, .int .i64 sn, .str st]]], [.sl lo 3 (slots.map (aC.tw lo))], [.sl lo 3 (stack.map (aC.tw lo))], [.sl lo 3 (values.map (aC.tw lo))]] : List (List TV)).length = 4 := rfl
  have hLl : ([[⟨sk, sn, st⟩], slots, stack, values] : List (List aC)).length = 4 := rfl
  generalize [[TV.sl w0.heap.size 3 [[.int .i64 sk, .int .i64 sn, .str st]]], [.sl lo 3 (slots.map (aC.tw lo))], [.sl lo 3 (stack.map (aC.tw lo))], [.sl lo 3 (values.map (aC.tw lo))]] = rows at hrows hrl ⊢
  generalize ([[⟨sk, sn, st⟩], slots, stack, values] : List (List aC)) = LL at hLL hLl hrows hbad hgood
  apply aK (X := Nat) [1, 2, 3, 7, 34, 35] (fun i => [(36, .int .i64 (i : Int))]) (fun _ => [(s7, b7, .box [.int .i64 mk, .int .i64 cc, .int .i64 pc, .int .i64 sd, .int .i64 ou, .int .i64 hm, .int .i64 sk, .int .i64 sn, .str st, .sl lo 3 (slots.map (aC.tw lo)), .sl lo 3 (stack.map (aC.tw lo)), .sl lo 3 (values.map (aC.tw lo)), .int .i64 oth, .bool rt])]) (fun i => i ≤ 4 ∧ ∀ l ∈ LL.take i, kN m l = true) (fun i => 4 - i) 0 ⟨by omega, by simp⟩
  exact kp_; (repeat (first | exact bj.envNil | refine bj.envCons we_ ?_))
  · exact .refl _
  rintro i ⟨hi, hall⟩
  try dsimp only
  by_cases hlt : i < 4
  · obtain ⟨f, l, hrow4, hl4⟩ := hrows i hlt
    have hli := hLL l (List.mem_of_getElem? hl4)
    have hll := aC.len lo l
    have hli1 := hli.1
    have hta := bu (p := fun l => kN m l = true) (l := LL) (i := i) (by omega) hall
    obtain ⟨hi4, hel⟩ := List.getElem?_eq_some_iff.1 hl4
    rw [hel] at hta
    repeat' (first | ((with_reducible apply o_y); exact y_; rfl) | with_reducible refine ab rfl ?_ | (with_reducible first | apply ag | apply aa | apply ah | apply ac | apply ai | apply ap) | (refine ae rfl rr_ dd_ ?_))
    apply aK (X := Nat) [1, 2, 3, 7, 34, 35, 36, 40, 41] (fun j => [(42, .int .i64 (j : Int))]) (fun _ => [(s7, b7, .box [.int .i64 mk, .int .i64 cc, .int .i64 pc, .int .i64 sd, .int .i64 ou, .int .i64 hm, .int .i64 sk, .int .i64 sn, .str st, .sl lo 3 (slots.map (aC.tw lo)), .sl lo 3 (stack.map (aC.tw lo)), .sl lo 3 (values.map (aC.tw lo)), .int .i64 oth, .bool rt])]) (fun j => j ≤ l.length ∧ ∀ y ∈ l.take j, ch m.store m.blocks.length y = true) (fun j => l.length - j) 0 ⟨Nat.zero_le _, by simp⟩
    exact kp_; (repeat (first | exact bj.envNil | refine bj.envCons we_ ?_))
    · exact .refl _
    rintro j ⟨hj, hallj⟩
    try dsimp only
    by_cases hjt : j < l.length
    · have hrow := gL (lo := lo) hjt
      have hxj := hex _ (hli.2 _ (List.getElem_mem hjt))
      have htj := bu (p := fun y => ch m.store m.blocks.length y = true) hjt hallj
      cases hfj : ch m.store m.blocks.length l[j] with
      | false =>
        rw [hbad l (List.mem_of_getElem? hl4) (dz hjt hfj)]
        rw [hfj] at hxj
        generalize l[j] = x at hrow hxj
        repeat' (first | ((with_reducible apply o_y); exact y_; rfl) | (refine aI ?_; intro ss bb) | refine aA ?_ | refine aw hG hst (hxj) ?_ | with_reducible refine ab rfl ?_ | (with_reducible first | apply ag | apply aa | apply ah | apply ac | apply ai | apply ap | apply au | apply ad | apply ak) | refine av rfl rr_ ?_ | (refine ae rfl rr_ dd_ ?_))
        refine ao x_ rfl (.tmp _ _ rfl) (fun _ => ?_)
        exact Fin.flat rfl
      | true =>
        rw [hfj] at hxj htj
        generalize l[j] = x at hrow hxj
        repeat' (first | ((with_reducible apply o_y); exact y_; rfl) | (refine aI ?_; intro ss bb) | refine aA ?_ | refine aw hG hst (hxj) ?_ | with_reducible refine ab rfl ?_ | (with_reducible first | apply ag | apply aa | apply ah | apply ac | apply ai | apply ap | apply aB) | refine az rfl rr_ ?_ | (refine ae rfl rr_ dd_ ?_))
        exact aG (j + 1) ⟨by omega, htj rfl⟩ (by omega) (.of _ nw_ od_ pk_)
    · obtain rfl : j = l.length := by omega
      rw [List.take_of_length_le (Nat.le_refl _)] at hallj
      repeat' (first | ((with_reducible apply o_y); exact y_; rfl) | with_reducible refine ab rfl ?_ | (with_reducible first | apply ag | apply aa | apply ah | apply ac | apply aH | apply ar | apply aq | apply aB) | (refine aj rfl rr_ dd_ ?_))
      exact aG (i + 1) ⟨by omega, hta (List.all_eq_true.2 hallj)⟩ (by omega) (.of _ nw_ od_ pk_)
  obtain rfl : i = 4 := by omega
  rw [List.take_of_length_le (by omega)] at hall
  obtain ⟨_, hv5, hB⟩ := hgood hall
  rw [hB]
  replace hMk := hMk (hAm hv5)
  clear hgood hbad hall hB hv5 hAm hLL hrows hex
  by_cases hm0 : mk = 0
  case neg =>
    rw [if_neg hm0]
    unfold shB
    dsimp only
    rw [show decide (slots.length = 0) = !decide ((slots.length : Int) > 0) from by rw [← decide_not, decide_eq_decide]; omega, show decide (stack.length = 0) = !decide ((stack.length : Int) > 0) from by rw [← decide_not, decide_eq_decide]; omega]
    generalize (vW m k _ && xU _) = B at hMk ⊢
    have hE : eqL [.int .i64 sk, .int .i64 sn, .str st] (zT 57) = eqV ⟨sk, sn, st⟩ ⟨0, 0, ⟨#[]⟩⟩ := rfl
    generalize eqV ⟨sk, sn, st⟩ ⟨0, 0, ⟨#[]⟩⟩ = E at hE ⊢
    repeat' (first | ((with_reducible apply o_y); exact y_; rfl) | refine aw hG hst (hMk) ?_ | refine je ?_ | with_reducible refine ab rfl ?_ | (with_reducible first | apply ag | apply aa | apply ah | apply ac | apply aH | apply ap | apply au | apply ar | apply aq | apply ad) | refine aP rfl rfl rfl rr_ ?_ | refine aO rfl rfl rfl rr_ rfl rfl rfl ?_ | refine dK rfl rfl rfl rr_ rfl rfl ?_ | (refine bm rfl rfl rfl rr_ (fun hg => ?_) (fun hg => ?_)) | (refine bV rfl rfl rfl rr_ (fun hg => ?_) (fun hg => ?_)) | refine av rfl rr_ ?_ | refine az rfl rr_ ?_ | (refine aj rfl rr_ dd_ ?_) | (refine bD rfl rr_ (fun hc => ?_) (fun hc => ?_)))
    all_goals
      refine ao x_ rfl (.tmp _ _ rfl) (fun _ => ?_)
      refine aZ ?_
      first
        | (simp_all; done)
        | (simp_all; omega)
  subst hm0
  rw [if_pos rfl]
  clear hMk
  have k6 := a7 (G := GL) cc 0 ((m.base.codes.length : Int) - 1)
  rw [show (m.base.codes.length : Int) - 1 = ((m.base.codes.length - 1 : Nat) : Int) by omega] at k6
  unfold plB
  dsimp only
  rw [show (m.base.codes.length : Int) - 1 = ((m.base.codes.length - 1 : Nat) : Int) by omega]
  have hc7 : inR cc 0 ((m.base.codes.length - 1 : Nat) : Int) = true → 0 ≤ cc ∧ cc < m.base.codes.length := fun h => by have := of_decide_eq_true h; omega
  generalize inR cc 0 ((m.base.codes.length - 1 : Nat) : Int) = b6 at k6 hc7 ⊢
  by_cases hv0 : values.length = 0
  case neg =>
    rw [decide_eq_false hv0, Bool.false_and]
    have hv0' : (values.length : Int) > 0 := by omega
    repeat' (first | ((with_reducible apply o_y); exact y_; rfl) | with_reducible refine ab rfl ?_ | (with_reducible first | apply ag | apply aa | apply ah | apply ac | apply aH | apply au | apply ar | apply aq | apply ad) | refine aO rfl rfl rfl rr_ rfl rfl rfl ?_ | (refine bQ rfl rfl rfl rr_ dd_ ?_) | refine av rfl rr_ ?_ | (refine ae rfl rr_ dd_ ?_) | (refine aj rfl rr_ dd_ ?_))
    refine ao x_ rfl (.tmp _ _ rfl) (fun _ => ?_)
    exact Fin.flat rfl
  have hv0' : ¬ (values.length : Int) > 0 := by omega
  rw [decide_eq_true hv0, Bool.true_and]
  by_cases ho0 : oth = 0
  case neg =>
    rw [decide_eq_false ho0, Bool.false_and]
    have ho0' : oth ≠ 0 := ho0
    repeat' (first | ((with_reducible apply o_y); exact y_; rfl) | with_reducible refine ab rfl ?_ | (with_reducible first | apply ag | apply aa | apply ah | apply ac | apply aH | apply au | apply ar | apply aq | apply ad) | refine aP rfl rfl rfl rr_ ?_ | refine aO rfl rfl rfl rr_ rfl rfl rfl ?_ | (refine bQ rfl rfl rfl rr_ dd_ ?_) | (refine bC rfl rfl rfl rr_ dd_ ?_) | refine av rfl rr_ ?_ | (refine ae rfl rr_ dd_ ?_) | (refine aj rfl rr_ dd_ ?_))
    refine ao x_ rfl (.tmp _ _ rfl) (fun _ => ?_)
    exact Fin.flat rfl
  have ho0' : ¬ oth ≠ 0 := fun h => h ho0
  rw [decide_eq_true ho0, Bool.true_and]
  cases rt
  case true =>
    rw [Bool.not_true, Bool.false_and]
    repeat' (first | ((with_reducible apply o_y); exact y_; rfl) | with_reducible refine ab rfl ?_ | (with_reducible first | apply ag | apply aa | apply ah | apply ac | apply aH | apply au | apply ar | apply aq | apply ad) | refine aP rfl rfl rfl rr_ ?_ | refine aO rfl rfl rfl rr_ rfl rfl rfl ?_ | (refine bC rfl rfl rfl rr_ dd_ ?_) | refine av rfl rr_ ?_ | (refine ae rfl rr_ dd_ ?_) | (refine aj rfl rr_ dd_ ?_))
    refine ao x_ rfl (.tmp _ _ rfl) (fun _ => ?_)
    exact Fin.flat rfl
  rw [Bool.not_false, Bool.true_and]
  cases b6
  case false =>
    rw [Bool.false_and]
    repeat' (first | ((with_reducible apply o_y); exact y_; rfl) | refine aw hG hst (k6) ?_ | with_reducible refine ab rfl ?_ | (with_reducible first | apply ag | apply aa | apply ah | apply ac | apply aH | apply au | apply ar | apply aq | apply ad) | refine aP rfl rfl rfl rr_ ?_ | (refine bC rfl rfl rfl rr_ dd_ ?_) | refine av rfl rr_ ?_ | (refine ae rfl rr_ dd_ ?_) | (refine aj rfl rr_ dd_ ?_))
    refine ao x_ rfl (.tmp _ _ rfl) (fun _ => ?_)
    exact Fin.flat rfl
  rw [Bool.true_and]
  have hcc := hc7 rfl
  obtain ⟨q, rfl⟩ : ∃ q : Nat, cc = q := ⟨cc.toNat, by omega⟩
  have hq : q < m.base.codes.length := by omega
  have hrq := hcr q hq
  have hqo := hgo q (by omega)
  rw [hci q hq]
  have hin := (hcn _ (List.getElem_mem hq)).1
  generalize m.base.codes[q] = x at hrq hin ⊢
  obtain ⟨xb, xp, xs, xi⟩ := x
  have hil := aD.len lo xi
  have k9 := a7 (G := GL) pc 0 (xi.length : Int)
  unfold yW
  dsimp only at hrq hin ⊢
  generalize inR pc 0 (xi.length : Int) = b9 at k9 ⊢
  by_cases hs1 : (slots.length : Int) = xs
  case neg =>
    have hs1' : (slots.length : Int) ≠ xs := hs1
    rw [decide_eq_false hs1, Bool.false_and]
    repeat' (first | ((with_reducible apply o_y); exact y_; rfl) | (refine aI ?_; intro ss bb) | refine aA ?_ | refine aw hG hst (k6) ?_ | with_reducible refine ab rfl ?_ | (with_reducible first | apply ag | apply aa | apply ah | apply ac | apply aH | apply ap | apply au | apply ar | apply aq | apply ad) | refine aP rfl rfl rfl rr_ ?_ | refine aO rfl rfl rfl rr_ rfl rfl rfl ?_ | (refine bQ rfl rfl rfl rr_ dd_ ?_) | (refine bC rfl rfl rfl rr_ dd_ ?_) | refine av rfl rr_ ?_ | refine az rfl rr_ ?_ | (refine ae rfl rr_ dd_ ?_) | (refine aj rfl rr_ dd_ ?_))
    all_goals
      refine ao x_ rfl (.tmp _ _ rfl) (fun _ => ?_)
      exact Fin.flat rfl
  have hs1' : ¬ (slots.length : Int) ≠ xs := fun h => h hs1
  rw [decide_eq_true hs1, Bool.true_and]
  cases b9
  case false =>
    rw [Bool.false_and]
    repeat' (first | ((with_reducible apply o_y); exact y_; rfl) | (refine aI ?_; intro ss bb) | refine aA ?_ | refine aw hG hst (k6) ?_ | refine aw hG hst (k9) ?_ | with_reducible refine ab rfl ?_ | (with_reducible first | apply ag | apply aa | apply ah | apply ac | apply aH | apply ap | apply au | apply ar | apply aq | apply ad) | refine aP rfl rfl rfl rr_ ?_ | refine aO rfl rfl rfl rr_ rfl rfl rfl ?_ | (refine bC rfl rfl rfl rr_ dd_ ?_) | refine av rfl rr_ ?_ | refine az rfl rr_ ?_ | (refine ae rfl rr_ dd_ ?_) | (refine aj rfl rr_ dd_ ?_))
    all_goals
      refine ao x_ rfl (.tmp _ _ rfl) (fun _ => ?_)
      exact Fin.flat rfl
  rw [Bool.true_and]
  by_cases hs2 : stack.length ≤ 250
  case neg =>
    have hs2' : (stack.length : Int) > 250 := by omega
    rw [decide_eq_false hs2, Bool.false_and]
    repeat' (first | ((with_reducible apply o_y); exact y_; rfl) | (refine aI ?_; intro ss bb) | refine aA ?_ | refine aw hG hst (k6) ?_ | refine aw hG hst (k9) ?_ | with_reducible refine ab rfl ?_ | (with_reducible first | apply ag | apply aa | apply ah | apply ac | apply aH | apply ap | apply au | apply ar | apply aq | apply ad) | refine aP rfl rfl rfl rr_ ?_ | (refine bC rfl rfl rfl rr_ dd_ ?_) | refine az rfl rr_ ?_ | (refine ae rfl rr_ dd_ ?_) | (refine aj rfl rr_ dd_ ?_))
    all_goals
      refine ao x_ rfl (.tmp _ _ rfl) (fun _ => ?_)
      exact Fin.flat rfl
  have hs2' : ¬ (stack.length : Int) > 250 := by omega
  rw [decide_eq_true hs2, Bool.true_and]
  cases xb
  case false =>
    rw [if_neg (by decide)]
    repeat' (first | ((with_reducible apply o_y); exact y_; rfl) | (refine aI ?_; intro ss bb) | refine aA ?_ | refine aw hG hst (k6) ?_ | refine aw hG hst (k9) ?_ | with_reducible refine ab rfl ?_ | (with_reducible first | apply ag | apply aa | apply ah | apply ac | apply aH | apply ap | apply au | apply ar | apply aq | apply ad) | refine aP rfl rfl rfl rr_ ?_ | refine aO rfl rfl rfl rr_ rfl rfl rfl ?_ | (refine bC rfl rfl rfl rr_ dd_ ?_) | (refine bm rfl rfl rfl rr_ (fun hg => ?_) (fun hg => ?_)) | refine av rfl rr_ ?_ | refine az rfl rr_ ?_ | (refine ae rfl rr_ dd_ ?_) | (refine aj rfl rr_ dd_ ?_))
    all_goals
      refine ao x_ rfl (.tmp _ _ rfl) (fun _ => ?_)
      exact aZ (by simp [*])
  rw [if_pos rfl]
  have k13 := a7 (G := GL) ou 0 ((k : Int) - 1)
  cases hin2 : inR ou 0 ((k : Int) - 1)
  case false =>
    rw [Bool.false_and]
    rw [hin2] at k13
    repeat' (first | ((with_reducible apply o_y); exact y_; rfl) | (refine aI ?_; intro ss bb) | refine aA ?_ | refine aw hG hst (k6) ?_ | refine aw hG hst (k9) ?_ | refine aw hG hst (k13) ?_ | with_reducible refine ab rfl ?_ | (with_reducible first | apply ag | apply aa | apply ah | apply ac | apply aH | apply ap | apply au | apply ar | apply aq | apply ad) | refine aP rfl rfl rfl rr_ ?_ | (refine bC rfl rfl rfl rr_ dd_ ?_) | refine av rfl rr_ ?_ | refine az rfl rr_ ?_ | (refine ae rfl rr_ dd_ ?_) | (refine aj rfl rr_ dd_ ?_))
    all_goals
      refine ao x_ rfl (.tmp _ _ rfl) (fun _ => ?_)
      exact Fin.flat rfl
  rw [Bool.true_and]
  rw [hin2] at k13
  have hin3 := of_decide_eq_true hin2
  obtain ⟨u, rfl⟩ : ∃ u : Nat, ou = u := ⟨ou.toNat, by omega⟩
  have hu : u < m.contexts.length := by omega
  have hru := hxr u hu
  rw [hxi u hu]
  rw [show (k : Int) - 1 = ((k - 1 : Nat) : Int) by omega] at k13
  generalize m.contexts[u] = p at hru ⊢
  obtain ⟨pm, pcc, ppc, ps, po, ph, ⟨pk, pn, pt⟩, psl, pst, pva, pot, prt⟩ := p
  unfold eqV
  dsimp only at hru ⊢
  repeat' (first | ((with_reducible apply o_y); exact y_; rfl) | (refine aI ?_; intro ss bb) | refine aA ?_ | with_reducible refine aF (by kernel_rfl) (by kernel_rfl) ?_ | with_reducible refine aN ?_ | with_reducible refine aE rfl ?_ | refine aX rfl rfl rfl rr_ ?_ | refine aV rfl rfl rfl rr_ rfl rfl rfl ?_ | (refine bJ rfl rfl rfl rr_ (fun hg => ?_) (fun hg => ?_)) | ((with_reducible apply d_y); exact y_; rfl) | refine aw hG hst (k6) ?_ | refine aw hG hst (k9) ?_ | refine aw hG hst (k13) ?_ | with_reducible refine ab rfl ?_ | (with_reducible first | apply ag | apply aa | apply ah | apply ac | apply aH | apply ap | apply au | apply ar | apply aq | apply ad) | refine aP rfl rfl rfl rr_ ?_ | (refine bC rfl rfl rfl rr_ dd_ ?_) | refine az rfl rr_ ?_ | (refine ae rfl rr_ dd_ ?_) | (refine aj rfl rr_ dd_ ?_))
  all_goals
    refine ao x_ rfl (.tmp _ _ rfl) (fun _ => ?_)
    refine aZ ?_
    first
      | (simp [eqL, eqC, *]; done)
      | (simp_all [eqL, eqC]; done)
section
variable {P : Program} {w0 : World} {N : Nat} {Q : Exit → Act → World → Prop} {env : Env} {objs : bp} {ops : Array Oper} {rest : List Oper}
def x4 (P : Program) (T : TypeId) : Bool := match P.underlying T with
  | some (.slice _) => true
  | _ => false
theorem xJ {d : Nat} {T T0 t2 : TypeId} {pos : String} {af : Array Edge} {g : Option (Nat × Bool)} {x : Operand} {f m : Nat} {rows : List (List TV)} (hN : Nat.blt d N = true) (hx : ev env x = some (.sl f m rows)) (hm : Nat.blt 0 m = true) (hT : x4 P T = true)
    (h : ∀ b : Bool, (b = true → rows = []) → AL P w0 N ops Q rest ((d, .bool b) :: env) objs) : AO P w0 N ops Q ⟨some d, .binOp .eql T x (.const (.slice none 0 0)) t2, T0, pos, af, g⟩ rest env objs :=
  ⟨fun a w K hs hK => by
    have hr := dY hs hx
    obtain ⟨A, c, hA, hn⟩ : ∃ A c, a.eval x = .slice A rows.length c ∧ (A = none → rows = []) := by
      generalize a.eval x = v at hr
      cases hr with
      | sl _ _ _ A c h1 h2 hm2 hi gg hc hrr =>
        refine ⟨A, c, rfl, fun hA => ?_⟩
        cases rows with
        | nil => rfl
        | cons r rs =>
          exfalso
          have hl := hm2 r List.mem_cons_self
          have hm0 : 0 < m := Nat.le_of_ble_eq_true hm
          cases r with
          | nil => simp at hl; omega
          | cons t ts =>
            obtain ⟨b, o, hA2, _⟩ := hc 0 t (by simp)
            rw [hA] at hA2; cases hA2
    unfold x4 at hT
    split at hT
    · rename_i e hu
      have h1 : (execOp a.eval ⟨some d, .binOp .eql T x (.const (.slice none 0 0)) t2, T0, pos, af, g⟩).run P w = .ok (.value (.bool A.isNone)) w := by
        simp only [execOp, hA, show a.eval (.const (.slice none 0 0)) = .slice none 0 0 from rfl]
        refine cq ?_
        simp [eqGuard, run_eql_slice_nil w T e A rows.length c hu]
      unfold Oper.wp
      rw [h1]
      exact hK _ _ ((h A.isNone fun hb => hn (by simpa using hb)).run _ _ (hs.put hN (.bool _) hs.mem ⟨fun _ _ _ => rfl, fun _ _ h => h, fun _ _ _ rows _ _ h => ⟨⟨rows, h⟩, rfl⟩, Nat.le_refl _, id⟩))
    · cases hT⟩
theorem uM {objs' : bp} {o : Oper} {t s b m n : Nat} {rows : List (List TV)} (hx : lk t env = some (.ms s b 0 n)) (hn : rows.length = n) (hd : tg s b (.row m rows) objs objs') (h : AO P w0 N ops Q o rest ((t, .sl w0.heap.size m rows) :: env) objs') : AO P w0 N ops Q o rest env objs := ⟨fun a w K hs hK => h.run a w K (hs.freeze hx hn hd) hK⟩
end
end Go.Proofs.YthpdkhejeookhaaGreatDoor
