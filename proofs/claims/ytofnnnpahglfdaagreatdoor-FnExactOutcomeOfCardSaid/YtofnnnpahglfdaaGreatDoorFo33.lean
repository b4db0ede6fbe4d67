/- Part 33 of the proof: the texts ImL. -/
import Derived.Test.YtofnnnpahglfdaaGreatDoorFo29
import Derived.Test.YtofnnnpahglfdaaGreatDoorFo21
set_option linter.all false
set_option maxHeartbeats 4000000
set_option maxRecDepth 20000
namespace Go.Proofs.YtofnnnpahglfdaaGreatDoor
open Go Go.RowKit
theorem abL {m : ai} {o : List Int} {k : Int} {c : ap} {l : List ad} (hl : l ∈ [[c.self], c.slots, c.stack, c.values]) (hf : oK m l = false) : qd m o k c = false := by
 have e : oK m [c.self] = bI m.store m.blocks.length c.self := by simp [oK]
 simp only [List.mem_cons, List.not_mem_nil, or_false] at hl
 unfold qd
 rcases hl with rfl | rfl | rfl | rfl
 ·rw [e] at hf; rw [hf]; simp
 ·rw [hf]; simp
 ·rw [hf]; simp
 ·rw [hf]; simp
theorem aaE {m : ai} {o : List Int} {k : Int} {c : ap} (hs : inR c.sender (-1) (k - 1) = true) (h : ∀ l ∈ [[c.self], c.slots, c.stack, c.values], oK m l = true) : bI m.store m.blocks.length c.self = true /\ oK m c.values = true /\ qd m o k c = (if c.mark = 0 then plB m o k c else shB c && (acu m k c && aes c)) := by
 have e : oK m [c.self] = bI m.store m.blocks.length c.self := by simp [oK]
 have h1 := h [c.self] (by simp)
 have h2 := h c.slots (by simp)
 have h3 := h c.stack (by simp)
 have h4 := h c.values (by simp)
 rw [e] at h1
 refine ⟨h1, h4, ?_⟩
 unfold qd
 rw [hs, h1, h2, h3, h4]; simp only [Bool.true_and]
theorem sF (lo l2 : Nat) (m : ai) (hsm : m.small 1048576) (hcl : fW m.store.classes) (hc1 : 1 <= m.base.codes.length) (hbc : ∀ b ∈ m.blocks, 0 <= b.code /\ b.code < m.base.codes.length) (o : List Int) (ho : o.length = m.base.codes.length) (k : Nat) (hk : k < m.contexts.length) : Ct Tryz.prog GL 121 [.agg (m.tw lo), .sl l2 1 (aS o), .int .i64 (k : Int)] (fun _ => .bool (qd m o k m.contexts[k])) := by
 refine am Tryz.func121 rfl Tryz.ntmps121 rfl rfl fun w0 _ hG => ?_
 have hst := dA
 have hrow := cx (lo := lo) hk
 have hlx := ap.len lo m.contexts
 have hlc := aA.len lo m.base.codes
 have hxl := hsm.2.2.2.1.1
 have hcl2 := hsm.1.2.1.1
 have hol := ao o
 have hgo := fun (j : Nat) (h : j < o.length) => eY (o := o) h
 have hxi := fun (i : Nat) (h : i < m.contexts.length) => xh (m := m) h rfl
 have hci := fun (i : Nat) (h : i < m.base.codes.length) => xG (m := m) h rfl
 have hxr := fun (i : Nat) (h : i < m.contexts.length) => cx (lo := lo) (l := m.contexts) h
 have hcr := fun (i : Nat) (h : i < m.base.codes.length) => bL (lo := lo) (cs := m.base.codes) h
 have hsc := hsm.2.2.2.1.2 _ (List.getElem_mem hk)
 have hMk := fun hv => aaT lo m hsm hcl hbc k hk hv
 have hex := fun (x : ad) (h : x.text.size <= 1048576) => nF lo m.store m.blocks.length x h
 have hbl := aq.len lo m.blocks
 have hbl1 := hsm.2.2.1.1
 have hcn := hsm.1.2.1.2
 clear hsm hcl
 unfold aJ.tw at hex
 generalize m.contexts[k] = c at hrow hsc hMk |-
 have hbad := fun (l : List ad) hl hf => abL (m := m) (o := o) (k := (k : Int)) (c := c) (l := l) hl hf
 have hgood := fun hs h => aaE (m := m) (o := o) (k := (k : Int)) (c := c) hs h
 obtain ⟨mk, cc, pc, sd, ou, hm, ⟨sk, sn, st⟩, slots, stack, values, oth, rt⟩ := c
 dsimp only at hbad hgood hrow hMk |-
 have k1 := aN (G := GL) sd (-1) ((k : Int) - 1)
 have hsl1 := hsc.2.1.1
 have hst1 := hsc.2.2.1.1
 have hvl1 := hsc.2.2.2.1
 dsimp only at hsl1 hst1 hvl1
 have hvl := ad.len lo values
 have hsl := ad.len lo slots
 have htl := ad.len lo stack
 have hAm := xx (m := m) (l := values)
 unfold ai.tw at hMk |-
 cases hb1 : inR sd (-1) ((k : Int) - 1)
 case false =>
   rw [hb1] at k1
   rw [show qd m o k _ = false from by unfold qd; dsimp only; rw [hb1, Bool.false_and]]
   repeat' (first | refine W_ ?_ | refine aD ?_ | (refine aj ?_; intro ss bb) | refine ac ?_ | refine ab hG hst (k1) ?_)
   exact r1_
 rw [hb1] at k1
 replace hgood := hgood hb1
 have hLL : ∀ l ∈ [[⟨sk, sn, st⟩], slots, stack, values], l.length <= 1048576 /\ ∀ y ∈ l, ad.small 1048576 y := fun l hl => by
   simp only [List.mem_cons, List.not_mem_nil, or_false] at hl
   rcases hl with rfl | rfl | rfl | rfl
   ·exact ⟨by simp, fun y hy => by rw [List.mem_singleton.1 hy]; exact hsc.1⟩
   ·exact hsc.2.1
   ·exact hsc.2.2.1
   ·exact hsc.2.2.2
 have hrows : ∀ i, i < 4 -> ∃ f l, [[TV.sl w0.heap.size 3 [[.int .i64 sk, .int .i64 sn, .str st]]], [.sl lo 3 (slots.map (ad.tw lo))], [.sl lo 3 (stack.map (ad.tw lo))], [.sl lo 3 (values.map (ad.tw lo))]][i]? = some [.sl f 3 (l.map (ad.tw lo))] /\ [[⟨sk, sn, st⟩], slots, stack, values][i]? = some l := fun i hi => by
   match i, hi with
   | 0, _ => exact ⟨_, _, rfl, rfl⟩
   | 1, _ => exact ⟨_, _, rfl, rfl⟩
   | 2, _ => exact ⟨_, _, rfl, rfl⟩
   | 3, _ => exact ⟨_, _, rfl, rfl⟩
 clear hsc
 repeat' (first | refine W_ ?_ | refine aD ?_ | (refine aj ?_; intro ss bb) | refine ac ?_ | refine cH ?_ | refine ab hG hst (k1) ?_)
 generalize ss = s7; generalize bb = b7
 have hrl : ([[TV.sl w0.heap.size 3 [[.int .i64 sk, .int .i64 sn, .str st]]], [.sl lo 3 (slots.map (ad.tw lo))], [.sl lo 3 (stack.map (ad.tw lo))], [.sl lo 3 (values.map (ad.tw lo))]] : List (List TV)).length = 4 := rfl
 have hLl : ([[⟨sk, sn, st⟩], slots, stack, values] : List (List ad)).length = 4 := rfl
 generalize [[TV.sl w0.heap.size 3 [[.int .i64 sk, .int .i64 sn, .str st]]], [.sl lo 3 (slots.map (ad.tw lo))], [.sl lo 3 (stack.map (ad.tw lo))], [.sl lo 3 (values.map (ad.tw lo))]] = rows at hrows hrl |-
 generalize ([[⟨sk, sn, st⟩], slots, stack, values] : List (List ad)) = LL at hLL hLl hrows hbad hgood
 apply ak (X := Nat) [1, 2, 3, 7, 34, 35] (fun i => [(36, .int .i64 (i : Int))]) (fun _ => [(s7, b7, .box [.int .i64 mk, .int .i64 cc, .int .i64 pc, .int .i64 sd, .int .i64 ou, .int .i64 hm, .int .i64 sk, .int .i64 sn, .str st, .sl lo 3 (slots.map (ad.tw lo)), .sl lo 3 (stack.map (ad.tw lo)), .sl lo 3 (values.map (ad.tw lo)), .int .i64 oth, .bool rt])]) (fun i => i <= 4 /\ ∀ l ∈ LL.take i, oK m l = true) (fun i => 4 - i) 0 ⟨by omega, by simp⟩
 exact kp_; exact nw_
 ·exact .refl _
 rintro i ⟨hi, hall⟩
 try dsimp only
 by_cases hlt : i < 4
 ·obtain ⟨f, l, hrow4, hl4⟩ := hrows i hlt
  have hli := hLL l (List.mem_of_getElem? hl4)
  have hll := ad.len lo l
  have hli1 := hli.1
  have hta := aV (p := fun l => oK m l = true) (l := LL) (i := i) (by omega) hall
  obtain ⟨hi4, hel⟩ := List.getElem?_eq_some_iff.1 hl4
  rw [hel] at hta
  repeat' refine W_ ?_
  apply ak (X := Nat) [1, 2, 3, 7, 34, 35, 36, 40, 41] (fun j => [(42, .int .i64 (j : Int))]) (fun _ => [(s7, b7, .box [.int .i64 mk, .int .i64 cc, .int .i64 pc, .int .i64 sd, .int .i64 ou, .int .i64 hm, .int .i64 sk, .int .i64 sn, .str st, .sl lo 3 (slots.map (ad.tw lo)), .sl lo 3 (stack.map (ad.tw lo)), .sl lo 3 (values.map (ad.tw lo)), .int .i64 oth, .bool rt])]) (fun j => j <= l.length /\ ∀ y ∈ l.take j, bI m.store m.blocks.length y = true) (fun j => l.length - j) 0 ⟨Nat.zero_le _, by simp⟩
  exact kp_; exact nw_
  ·exact .refl _
  rintro j ⟨hj, hallj⟩
  try dsimp only
  by_cases hjt : j < l.length
  ·have hrow := gO (lo := lo) hjt
   have hxj := hex _ (hli.2 _ (List.getElem_mem hjt))
   have htj := aV (p := fun y => bI m.store m.blocks.length y = true) hjt hallj
   cases hfj : bI m.store m.blocks.length l[j] with
   | false =>
     rw [hbad l (List.mem_of_getElem? hl4) (et hjt hfj)]
     rw [hfj] at hxj
     generalize l[j] = x at hrow hxj
     repeat' (first | refine W_ ?_ | (refine aj ?_; intro ss bb) | refine ac ?_ | refine ab hG hst (hxj) ?_)
     exact r1_
   | true =>
     rw [hfj] at hxj htj
     generalize l[j] = x at hrow hxj
     repeat' (first | refine W_ ?_ | (refine aj ?_; intro ss bb) | refine ac ?_ | refine ab hG hst (hxj) ?_)
     exact ag (j + 1) ⟨by omega, htj rfl⟩ (by omega) (.of _ nw_ od_ pk_)
  ·obtain rfl : j = l.length := by omega
   rw [List.take_of_length_le (Nat.le_refl _)] at hallj
   repeat' refine W_ ?_
   exact ag (i + 1) ⟨by omega, hta (List.all_eq_true.2 hallj)⟩ (by omega) (.of _ nw_ od_ pk_)
 obtain rfl : i = 4 := by omega
 rw [List.take_of_length_le (by omega)] at hall
 obtain ⟨_, hv5, hB⟩ := hgood hall
 rw [hB]
 replace hMk := hMk (hAm hv5)
 clear hgood hbad hall hB hv5 hAm hLL hrows hex
 by_cases hm0 : mk = 0
 case neg =>
   rw [if_neg hm0]
   unfold shB
   dsimp only
   rw [show decide (slots.length = 0) = !decide ((slots.length : Int) > 0) from by rw [<- decide_not, decide_eq_decide]; omega, show decide (stack.length = 0) = !decide ((stack.length : Int) > 0) from by rw [<- decide_not, decide_eq_decide]; omega]
   generalize (acu m k _ && aes _) = B at hMk |-
   have hE : eqL [.int .i64 sk, .int .i64 sn, .str st] (zT 55) = eqV ⟨sk, sn, st⟩ ⟨0, 0, ⟨#[]⟩⟩ := rfl
   generalize eqV ⟨sk, sn, st⟩ ⟨0, 0, ⟨#[]⟩⟩ = E at hE |-
   repeat' (first | refine W_ ?_ | refine ab hG hst (hMk) ?_ | refine eW ?_ | refine c_ (fun hc => ?_) (fun hc => ?_) | refine g_ (fun hg => ?_) (fun hg => ?_))
   all_goals
     refine aE x_ rfl (.tmp _ _ rfl) (fun _ => ?_)
     refine aK ?_
     first
       | (simp_all; done)
       | (simp_all; omega)
 subst hm0
 rw [if_pos rfl]
 clear hMk
 have k6 := aN (G := GL) cc 0 ((m.base.codes.length : Int) - 1)
 rw [show (m.base.codes.length : Int) - 1 = ((m.base.codes.length - 1 : Nat) : Int) by omega] at k6
 unfold plB
 dsimp only
 rw [show (m.base.codes.length : Int) - 1 = ((m.base.codes.length - 1 : Nat) : Int) by omega]
 have hc7 : inR cc 0 ((m.base.codes.length - 1 : Nat) : Int) = true -> 0 <= cc /\ cc < m.base.codes.length := fun h => by have := of_decide_eq_true h; omega
 generalize inR cc 0 ((m.base.codes.length - 1 : Nat) : Int) = b6 at k6 hc7 |-
 by_cases hv0 : values.length = 0
 case neg =>
   rw [decide_eq_false hv0, Bool.false_and]
   have hv0' : (values.length : Int) > 0 := by omega
   repeat' refine W_ ?_
   exact r1_
 have hv0' : ¬ (values.length : Int) > 0 := by omega
 rw [decide_eq_true hv0, Bool.true_and]
 by_cases ho0 : oth = 0
 case neg =>
   rw [decide_eq_false ho0, Bool.false_and]
   have ho0' : oth ≠ 0 := ho0
   repeat' refine W_ ?_
   exact r1_
 have ho0' : ¬ oth ≠ 0 := fun h => h ho0
 rw [decide_eq_true ho0, Bool.true_and]
 cases rt
 case true =>
   rw [Bool.not_true, Bool.false_and]
   repeat' refine W_ ?_
   exact r1_
 rw [Bool.not_false, Bool.true_and]
 cases b6
 case false =>
   rw [Bool.false_and]
   repeat' (first | refine W_ ?_ | refine ab hG hst (k6) ?_)
   exact r1_
 rw [Bool.true_and]
 have hcc := hc7 rfl
 obtain ⟨q, rfl⟩ : ∃ q : Nat, cc = q := ⟨cc.toNat, by omega⟩
 have hq : q < m.base.codes.length := by omega
 have hrq := hcr q hq
 have hqo := hgo q (by omega)
 rw [hci q hq]
 have hin := (hcn _ (List.getElem_mem hq)).1
 generalize m.base.codes[q] = x at hrq hin |-
 obtain ⟨xb, xp, xs, xi⟩ := x
 have hil := ah.len lo xi
 have k9 := aN (G := GL) pc 0 (xi.length : Int)
 unfold afT
 dsimp only at hrq hin |-
 generalize inR pc 0 (xi.length : Int) = b9 at k9 |-
 by_cases hs1 : (slots.length : Int) = xs
 case neg =>
   have hs1' : (slots.length : Int) ≠ xs := hs1
   rw [decide_eq_false hs1, Bool.false_and]
   repeat' (first | refine W_ ?_ | (refine aj ?_; intro ss bb) | refine ac ?_ | refine ab hG hst (k6) ?_)
   all_goals
     exact r1_
 have hs1' : ¬ (slots.length : Int) ≠ xs := fun h => h hs1
 rw [decide_eq_true hs1, Bool.true_and]
 cases b9
 case false =>
   rw [Bool.false_and]
   repeat' (first | refine W_ ?_ | (refine aj ?_; intro ss bb) | refine ac ?_ | refine ab hG hst (k6) ?_ | refine ab hG hst (k9) ?_)
   all_goals
     exact r1_
 rw [Bool.true_and]
 by_cases hs2 : stack.length <= 250
 case neg =>
   have hs2' : (stack.length : Int) > 250 := by omega
   rw [decide_eq_false hs2, Bool.false_and]
   repeat' (first | refine W_ ?_ | (refine aj ?_; intro ss bb) | refine ac ?_ | refine ab hG hst (k6) ?_ | refine ab hG hst (k9) ?_)
   all_goals
     exact r1_
 have hs2' : ¬ (stack.length : Int) > 250 := by omega
 rw [decide_eq_true hs2, Bool.true_and]
 cases xb
 case false =>
   rw [if_neg (by decide)]
   repeat' (first | refine W_ ?_ | (refine aj ?_; intro ss bb) | refine ac ?_ | refine ab hG hst (k6) ?_ | refine ab hG hst (k9) ?_ | refine g_ (fun hg => ?_) (fun hg => ?_))
   all_goals
     refine aE x_ rfl (.tmp _ _ rfl) (fun _ => ?_)
     exact aK (by simp [*])
 rw [if_pos rfl]
 have k13 := aN (G := GL) ou 0 ((k : Int) - 1)
 cases hin2 : inR ou 0 ((k : Int) - 1)
 case false =>
   rw [Bool.false_and]
   rw [hin2] at k13
   repeat' (first | refine W_ ?_ | (refine aj ?_; intro ss bb) | refine ac ?_ | refine ab hG hst (k6) ?_ | refine ab hG hst (k9) ?_ | refine ab hG hst (k13) ?_)
   all_goals
     exact r1_
 rw [Bool.true_and]
 rw [hin2] at k13
 have hin3 := of_decide_eq_true hin2
 obtain ⟨u, rfl⟩ : ∃ u : Nat, ou = u := ⟨ou.toNat, by omega⟩
 have hu : u < m.contexts.length := by omega
 have hru := hxr u hu
 rw [hxi u hu]
 rw [show (k : Int) - 1 = ((k - 1 : Nat) : Int) by omega] at k13
 generalize m.contexts[u] = p at hru |-
 obtain ⟨pm, pcc, ppc, ps, po, ph, ⟨pk, pn, pt⟩, psl, pst, pva, pot, prt⟩ := p
 unfold eqV
 dsimp only at hru |-
 repeat' (first | refine V_ ?_ | (refine aj ?_; intro ss bb) | refine ac ?_ | refine ab hG hst (k6) ?_ | refine ab hG hst (k9) ?_ | refine ab hG hst (k13) ?_ | refine g_ (fun hg => ?_) (fun hg => ?_))
 all_goals
   refine aE x_ rfl (.tmp _ _ rfl) (fun _ => ?_)
   refine aK ?_
   first
     | (simp [eqL, eqC, *]; done)
     | (simp_all [eqL, eqC]; done)
end Go.Proofs.YtofnnnpahglfdaaGreatDoor
