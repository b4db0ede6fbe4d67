/- Part 46 of the proof: the texts ImU, RcQ, RfP. -/
import Derived.Test.YtigipcbnfeoliaaGreatDoorRf43
import Derived.Test.YtigipcbnfeoliaaGreatDoorRf42
import Derived.Test.YtigipcbnfeoliaaGreatDoorRf29
import Derived.Test.YtigipcbnfeoliaaGreatDoorRf40
import Derived.Test.YtigipcbnfeoliaaGreatDoorRf26
import Derived.Test.YtigipcbnfeoliaaGreatDoorRf44
set_option linter.all false
set_option maxHeartbeats 2000000
set_option maxRecDepth 20000
namespace Go.Proofs.YtigipcbnfeoliaaGreatDoor
open Go Go.RowKit
theorem aat (x : ab) : x.pt.tvs = x.tw 0 := by simp [PT.tvs, PT.tvsL, ab.pt, ab.tw]
theorem xN {t : PT} {x : au} (h : fy t x) : t.tvs = x.tw 0 := by
 obtain ⟨A2, c2, A3, c3, rfl⟩ := h
 simp [PT.tvs, PT.tvsL, au.tw, ab.pt, ab.tw, aN, PT.rowsL_map, Function.comp_def]
theorem aaO {t : PT} {x : aP} (h : fT t x) : t.tvs = x.tw 0 := by
 obtain ⟨A0, c0, l0, A1, c1, l1, A2, c2, h0, h1, rfl⟩ := h
 simp only [PT.tvs, PT.tvsL, aP.tw, nG h0 (fun _ _ => j0), nG h1 (fun _ _ => xN), PT.rowsL_map, List.map_map, List.append_nil, List.cons_append, List.nil_append]
 rfl
theorem vY {t : PT} {x : ap} (h : eJ t x) : t.tvs = x.tw 0 := by
 obtain ⟨A7, c7, A8, c8, A9, c9, rfl⟩ := h
 simp [PT.tvs, PT.tvsL, ap.tw, ab.pt, ab.tw, PT.rowsL_map, Function.comp_def]
theorem aaJ {t : PT} {x : ah} (h : fU t x) : t.tvs = x.tw 0 := by
 obtain ⟨t0, t1, A2, c2, A3, c3, l3, A4, c4, A5, c5, h0, h1, h3, rfl⟩ := h
 simp only [PT.tvs, PT.tvsL, ue h0, aaO h1, ah.tw, aD.tw, aP.tw, nG h3 (fun _ _ => vY), PT.rowsL_map, List.map_map, List.append_nil, List.cons_append, List.nil_append, aat]
 rfl
theorem tr {w : World} {S : Nat -> Prop} {t : PT} {x : au} (h : fy t x) (hs : gG w S t) (hx : x.sane) : au.small 9223372036854775807 x := by
 obtain ⟨A2, c2, A3, c3, rfl⟩ := h
 simp only [gG, dY] at hs
 obtain ⟨_, _, ⟨a1, a2, _⟩, ⟨b1, b2, _⟩, _⟩ := hs
 simp only [List.length_map] at a1 b1
 exact ⟨⟨Nat.le_trans a1 a2, fun y hy => (hx.2.2.1 y hy).2.2⟩, Nat.le_trans b1 b2⟩
theorem ur {w : World} {S : Nat -> Prop} {t : PT} {x : aP} (h : fT t x) (hs : gG w S t) (hx : x.sane) : aP.small 9223372036854775807 x := by
 obtain ⟨A0, c0, l0, A1, c1, l1, A2, c2, h0, h1, rfl⟩ := h
 simp only [gG, dY] at hs
 obtain ⟨⟨a1, a2, _, _, a5⟩, ⟨b1, b2, _, _, b5⟩, ⟨d1, d2, _, _, _⟩, _⟩ := hs
 simp only [List.length_map] at d1
 exact ⟨⟨by rw [<- h0.1]; exact Nat.le_trans a1 a2, iz h0 a5 (fun _ _ => iP) hx.1⟩, ⟨by rw [<- h1.1]; exact Nat.le_trans b1 b2, iz h1 b5 (fun _ _ => tr) hx.2.1⟩, Nat.le_trans d1 d2, hx.2.2.1⟩
theorem qx {w : World} {S : Nat -> Prop} {t : PT} {x : ap} (h : eJ t x) (hs : gG w S t) (hx : x.sane) : ap.small 9223372036854775807 x := by
 obtain ⟨A7, c7, A8, c8, A9, c9, rfl⟩ := h
 simp only [gG, dY] at hs
 obtain ⟨_, _, _, _, _, _, _, ⟨a1, a2, _⟩, ⟨b1, b2, _⟩, ⟨d1, d2, _⟩, _⟩ := hs
 simp only [List.length_map] at a1 b1 d1
 obtain ⟨_, _, _, _, _, _, g6, g7, g8, g9, _⟩ := hx
 exact ⟨g6.2.2, ⟨Nat.le_trans a1 a2, fun y hy => (g7 y hy).2.2⟩, ⟨Nat.le_trans b1 b2, fun y hy => (g8 y hy).2.2⟩, ⟨Nat.le_trans d1 d2, fun y hy => (g9 y hy).2.2⟩⟩
theorem vi {w : World} {S : Nat -> Prop} {t : PT} {x : ah} (h : fU t x) (hs : gG w S t) (hx : x.sane) : ah.small 9223372036854775807 x := by
 obtain ⟨t0, t1, A2, c2, A3, c3, l3, A4, c4, A5, c5, h0, h1, h3, rfl⟩ := h
 simp only [gG, dY] at hs
 obtain ⟨s0, s1, ⟨a1, a2, _⟩, ⟨b1, b2, _, _, b5⟩, ⟨d1, d2, _⟩, ⟨e1, e2, _⟩, _⟩ := hs
 simp only [List.length_map] at a1 d1 e1
 obtain ⟨g0, g1, g2, g3, _, _, _, _, g8, g9⟩ := hx
 exact ⟨oZ h0 s0 g0, ur h1 s1 g1, ⟨Nat.le_trans a1 a2, fun y hy => (g2 y hy).2.2.2.2.2⟩, ⟨by rw [<- h3.1]; exact Nat.le_trans b1 b2, iz h3 b5 (fun _ _ => qx) g3⟩, ⟨Nat.le_trans d1 d2, fun _ _ => trivial⟩, Nat.le_trans e1 e2, g8.2.2, g9⟩
theorem ab0 {m : ah} {v : ab} (h : mT m v) (h6 : v.kind = 6) : 0 <= v.number /\ v.number < m.store.objects.length := by
 unfold mT cz jM at h
 rw [h6] at h
 simp at h
 omega
def acd (o : au) : au := ⟨o.kind, o.class_, o.fields, [-1, -1, 0]⟩
def acL (os : List au) (n : Nat) : List au := match os[n]? with
 | some o => if o.kind = 1 /\ o.numbers.length = 3 then os.set n (acd o) else os
 | none => os
theorem ace (os : List au) (n : Nat) : (acL os n).length = os.length := by
 unfold acL
 split
 ·split <;> simp
 ·rfl
def hdN (c : ap) : Nat := match c.values with
 | v :: _ => v.number.toNat
 | [] => 0
def rsF (m : ah) (a : Int) : Nat -> Int -> List au -> List au
 | 0, _, os => os
 | n + 1, k, os => if k = a then os else match cxA m k with
   | some c => rsF m a n c.sender (if c.mark = 3 then acL os (hdN c) else os)
   | none => os
def fS (m : ah) (a k : Int) (os : List au) : List au := rsF m a (k + 1).toNat k os
theorem aei {m : ah} (hs : eg m) (a : Int) (n : Nat) : ∀ (k : Int) (os : List au), (k + 1).toNat <= n -> rsF m a n k os = rsF m a (k + 1).toNat k os := by
 induction n using Nat.strongRecOn with
 | _ n ih =>
   intro k os hk
   generalize hj : (k + 1).toNat = j at hk |-
   cases j with
   | zero =>
     cases n with
     | zero => rfl
     | succ n =>
       simp only [rsF, vI (m := m) (k := k) (by omega)]
       split <;> rfl
   | succ j =>
     obtain ⟨q, rfl⟩ : ∃ q, n = q + 1 := ⟨n - 1, by omega⟩
     simp only [rsF]
     cases hc : cxA m k with
     | none => rfl
     | some c =>
       obtain ⟨h0, hl, he⟩ := km hc
       have h1 := hs k.toNat hl
       rw [he] at h1
       dsimp only
       rw [ih q (by omega) c.sender _ (by omega), ih j (by omega) c.sender _ (by omega)]
theorem oz (m : ah) (a : Int) (os : List au) : fS m a a os = os := by
 unfold fS
 cases (a + 1).toNat with
 | zero => rfl
 | succ n => simp [rsF]
theorem oh {m : ah} (hs : eg m) {a : Int} {k : Nat} (h : k < m.contexts.length) (hne : (k : Int) ≠ a) (os : List au) : fS m a k os = fS m a m.contexts[k].sender (if m.contexts[k].mark = 3 then acL os (hdN m.contexts[k]) else os) := by
 have h1 := hs k h
 unfold fS
 rw [show ((k : Int) + 1).toNat = k + 1 by omega]
 simp only [rsF, iN h]
 rw [if_neg hne, aei hs a k _ _ (by omega)]
theorem xM (m : ah) (a k : Int) (os : List au) : (fS m a k os).length = os.length := by
 have h : ∀ (n : Nat) (k : Int) (os : List au), (rsF m a n k os).length = os.length := by
   intro n
   induction n with
   | zero => intro k os; rfl
   | succ n ih =>
     intro k os
     simp only [rsF]
     split
     ·rfl
     ·split
      ·rw [ih]
       split
       ·exact ace _ _
       ·rfl
      ·rfl
 exact h _ _ _
theorem ya {os : List au} (h : ∀ y ∈ os, au.small 1048576 y) (n : Nat) : ∀ y ∈ acL os n, au.small 1048576 y := by
 unfold acL
 split
 ·rename_i o ho
  split
  ·intro y hy
   rcases List.mem_or_eq_of_mem_set hy with hy | rfl
   ·exact h y hy
   ·exact ⟨(h o (List.mem_of_getElem? ho)).1, by show (3 : Nat) <= _; omega⟩
  ·exact h
 ·exact h
theorem t6 {m : ah} (a k : Int) {os : List au} (h : ∀ y ∈ os, au.small 1048576 y) : ∀ y ∈ fS m a k os, au.small 1048576 y := by
 have h : ∀ (n : Nat) (k : Int) (os : List au), (∀ y ∈ os, au.small 1048576 y) -> ∀ y ∈ rsF m a n k os, au.small 1048576 y := by
   intro n
   induction n with
   | zero => intro k os h; exact h
   | succ n ih =>
     intro k os h
     simp only [rsF]
     split
     ·exact h
     ·split
      ·refine ih _ _ ?_
       split
       ·exact ya h _
       ·exact h
      ·exact h
 exact h _ _ _ ‹_›
def zV : ab := ⟨0, 0, ⟨#[]⟩⟩
def gj (l : List ab) (n q : Nat) : List ab := l.take n ++ abn (fun _ => zV) (l.drop n) q
theorem tc (l : List ab) (n : Nat) : gj l n 0 = l := by unfold gj; rw [zC, List.take_append_drop]
theorem gM (l : List ab) (n q : Nat) : (gj l n q).length = l.length := by
 unfold gj
 rw [List.length_append, abp, <- List.length_append, List.take_append_drop]
theorem wZ {l : List ab} {n q : Nat} (h : n + q < l.length) : (gj l n q).set (n + q) zV = gj l n (q + 1) := by
 unfold gj
 have h1 : (l.take n).length = n := by rw [List.length_take]; omega
 have h2 : q < (l.drop n).length := by rw [List.length_drop]; omega
 rw [List.set_append_right _ _ (by omega), h1, Nat.add_sub_cancel_left, <- abw (fun _ => zV) h2]
theorem abj {l : List ab} {n q : Nat} {v : ab} (h : v ∈ gj l n q) : v ∈ l \/ v = zV := by
 unfold gj abn at h
 simp only [List.mem_append, List.mem_map] at h
 rcases h with h | ⟨_, _, rfl⟩ | h
 ·exact .inl (List.mem_of_mem_take h)
 ·exact .inr rfl
 ·exact .inl (List.mem_of_mem_drop (List.mem_of_mem_drop h))
def rsP (m : ah) (c : ap) : Nat := match cdA m c.code with | some x => x.params.toNat | none => 0
def rsC (m : ah) (c : ap) : ap := ⟨c.mark, c.code, 0, c.sender, c.outer, c.home, c.self, gj c.slots (rsP m c) (c.slots.length - rsP m c), [], c.values, c.other, c.retry⟩
def ada (m : ah) (os : List au) (cs : List ap) (ps : List ao) : ah := ⟨m.base, ⟨m.store.classes, os, m.store.output, m.store.ticks, m.store.budget, m.store.made⟩, m.blocks, cs, ps, m.ready, m.now, m.status, m.value, m.fault⟩
theorem tY (m : ah) : ada m m.store.objects m.contexts m.processes = m := rfl
def sQ (m : ah) (y : eF) : aF := mF m.store.classes y.2.1.1 ++ ([(y.2.1.2.2.1, y.2.1.2.2.2, .row 1 (bK m.store.output))] ++ ([(y.2.2.1.1, y.2.2.1.2, .row 6 (m.blocks.map (ar.tw 0)))] ++ [(y.2.2.2.2.2.1, y.2.2.2.2.2.2, .row 1 (aN m.ready))]))
theorem kQ (m : ah) (os : List au) (cs : List ap) (ps : List ao) (y : eF) : (imO (ada m os cs ps) y).Perm (ab1 os y.2.1.2.1 ++ (xW cs y.2.2.2.1 ++ ((y.2.2.2.2.1.1, y.2.2.2.2.1.2, .row 2 (ps.map (ao.tw 0))) :: (cbO m.base y.1 ++ sQ m y)))) := by
 have h := cJ (n := 8) [cbO m.base y.1, mF m.store.classes y.2.1.1, ab1 os y.2.1.2.1, [(y.2.1.2.2.1, y.2.1.2.2.2, aZ.row 1 (bK m.store.output))], [(y.2.2.1.1, y.2.2.1.2, aZ.row 6 (m.blocks.map (ar.tw 0)))], xW cs y.2.2.2.1, [(y.2.2.2.2.1.1, y.2.2.2.2.1.2, aZ.row 2 (ps.map (ao.tw 0)))], [(y.2.2.2.2.2.1, y.2.2.2.2.2.2, aZ.row 1 (aN m.ready))]] [2, 5, 6, 0, 1, 3, 4, 7] rfl (by decide)
 simpa [imO, stO, ada, sQ] using h.symm
theorem i5 {α β : Type} (mk : α -> β -> List TV) (ob : α -> β -> aF) (l : List α) (ps : List β) (hp : ps.length = l.length) {q : Nat} (hq : q < l.length) : ∃ p E, ps[q]? = some p /\ (nRg mk l ps)[q]? = some (mk l[q] p) /\ (nOg ob l ps).Perm (ob l[q] p ++ E) /\ ∀ x' p', nRg mk (l.set q x') (ps.set q p') = (nRg mk l ps).set q (mk x' p') /\ (nOg ob (l.set q x') (ps.set q p')).Perm (ob x' p' ++ E) := by
 have hpq : ps[q]? = some (ps[q]'(by omega)) := List.getElem?_eq_getElem _
 have hx : l[q]? = some l[q] := List.getElem?_eq_getElem hq
 refine ⟨ps[q]'(by omega), ngE ob l ps q, hpq, uO mk hx hpq, oE ob hx hpq, fun x' p' => ⟨?_, ?_⟩⟩
 ·unfold nRg
  rw [wk]
 ·have h := oE ob (l := l.set q x') (ps := ps.set q p') (i := q) (p := p') (x := x') (by rw [List.getElem?_set_self hq]) (by rw [List.getElem?_set_self (by omega)])
  have e : ngE ob (l.set q x') (ps.set q p') q = ngE ob l ps q := by
    unfold ngE
    rw [wk, j5]
  rwa [e] at h
theorem yS {m : ah} (hs : eg m) (k : Nat) : ∀ h : k < m.contexts.length, ∀ a ∈ bJ m k, OnW m a k /\ ∃ q : Nat, a = q /\ ∃ hq : q < m.contexts.length, m.contexts[q].mark = 0 := by
 induction k using Nat.strongRecOn with
 | _ k ih =>
   intro hk a ha
   have h1 := hs k hk
   rw [iV hs hk] at ha
   rcases List.mem_append.1 ha with h | h
   ·split at h
    ·simp only [List.mem_singleton] at h
     subst h
     exact ⟨.here, k, rfl, hk, ‹_›⟩
    ·cases h
   ·by_cases hn : m.contexts[k].sender < 0
    ·rw [ic hn] at h; cases h
    ·obtain ⟨s, hs1⟩ : ∃ s : Nat, m.contexts[k].sender = s := ⟨m.contexts[k].sender.toNat, by omega⟩
     rw [hs1] at h
     obtain ⟨h2, q, rfl, hq, h3⟩ := ih s (by omega) (by omega) a h
     refine ⟨?_, q, rfl, hq, h3⟩
     by_cases he : (k : Int) = (q : Int)
     ·rw [he]; exact .here
     ·exact .up k hk he (by rw [hs1]; exact h2)
noncomputable def bZ (m : ah) (k : Int) : Bool := du m && (decide (m.status = 0) && inR k 0 (((bJ m (atN m)).length : Int) - 1))
noncomputable def afr (m : ah) (k : Int) : Nat := match (bJ m (atN m))[k.toNat]? with | some a => a.toNat | none => 0
noncomputable def nS (m : ah) (a n : Nat) : ah := match m.contexts[a]?, m.processes[n]? with
 | some c, some p => ada m (fS m a p.at_ m.store.objects) (m.contexts.set a (rsC m c)) (m.processes.set n ⟨a, p.main⟩)
 | _, _ => m
noncomputable def aY (m : ah) (k : Int) : ah := if bZ m k = true then nS m (afr m k) m.now.toNat else zIm
theorem jE {m : ah} (hb : m.small 1048576) (k : Int) : (aY m k).small 1048576 := by
 unfold aY
 split
 ·unfold nS
  split
  ·rename_i c p hc hp
   have hcs := hb.2.2.2.1.2 c (List.mem_of_getElem? hc)
   refine ⟨hb.1, ⟨hb.2.1.1, ⟨by show (fS _ _ _ _).length <= _; rw [xM]; exact hb.2.1.2.1.1, t6 _ _ hb.2.1.2.1.2⟩, hb.2.1.2.2⟩, hb.2.2.1, ⟨by show (List.set _ _ _).length <= _; rw [List.length_set]; exact hb.2.2.2.1.1, fun y hy => ?_⟩, ⟨by show (List.set _ _ _).length <= _; rw [List.length_set]; exact hb.2.2.2.2.1.1, fun y hy => ?_⟩, hb.2.2.2.2.2⟩
   ·rcases List.mem_or_eq_of_mem_set hy with hy | rfl
    ·exact hb.2.2.2.1.2 y hy
    ·refine ⟨hcs.1, ⟨by show (gj _ _ _).length <= _; rw [gM]; exact hcs.2.1.1, fun v hv => ?_⟩, ⟨by show (0 : Nat) <= _; omega, fun v hv => by cases hv⟩, hcs.2.2.2⟩
     rcases abj hv with hv | rfl
     ·exact hcs.2.1.2 v hv
     ·show (0 : Nat) <= _; omega
   ·rcases List.mem_or_eq_of_mem_set hy with hy | rfl
    ·exact hb.2.2.2.2.1.2 y hy
    ·trivial
  ·exact hb
 ·exact aaq _
open Classical in
structure afF (m : ah) (k : Int) (kn a n : Nat) (c : ap) (p : ao) (x : aC) : Prop where
 img : du m = true
 st : m.status = 0
 kk : k = kn
 now : m.now = n
 fr : (bJ m (atN m))[kn]? = some (a : Int)
 at_ : atN m = p.at_
 prc : m.processes[n]? = some p
 ctx : m.contexts[a]? = some c
 onw : OnW m a p.at_
 cod : ∃ q : Nat, c.code = q /\ m.base.codes[q]? = some x
 par : 0 <= x.params /\ x.params <= c.slots.length
 sen : eg m
 lt : -1 <= p.at_ /\ p.at_ < m.contexts.length
 eq : aY m k = ada m (fS m a p.at_ m.store.objects) (m.contexts.set a ⟨c.mark, c.code, 0, c.sender, c.outer, c.home, c.self, gj c.slots x.params.toNat (c.slots.length - x.params.toNat), [], c.values, c.other, c.retry⟩) (m.processes.set n ⟨a, p.main⟩)
 hdl : ∀ (i : Nat) (h : i < m.contexts.length), m.contexts[i].mark = 3 -> ∃ v q, m.contexts[i].values = [v] /\ v.kind = 6 /\ v.number = (q : Nat) /\ q < m.store.objects.length
open Classical in
theorem aet {m : ah} (h : du m = true) : ∀ (i : Nat) (h : i < m.contexts.length), m.contexts[i].mark = 3 -> ∃ v q, m.contexts[i].values = [v] /\ v.kind = 6 /\ v.number = (q : Nat) /\ q < m.store.objects.length := fun i hi h3 => by
 have hp : ad0 m := of_decide_eq_true h
 obtain ⟨_, o, ho, _⟩ := dK hp.ver
 have hc := jc ((hp.outs o ho).1 i hi)
 have h1 := hc.2.2.2.2.2
 have hv := hc.2.2.2.2.1
 rw [if_neg (by omega)] at h1
 simp only [Bool.and_eq_true] at h1
 have h2 := h1.2.1
 unfold aa9 at h2
 rw [if_neg (by omega), if_neg (by omega), if_pos h3] at h2
 rcases hvs : m.contexts[i].values with _ | ⟨v, _ | ⟨b, l⟩⟩
 ·rw [hvs] at h2; cases h2
 ·rw [hvs, y0] at h2
  simp only [Bool.and_eq_true] at h2
  have h6 : v.kind = 6 := of_decide_eq_true h2.1
  have hf := ab0 (rJ hv v (by rw [hvs]; exact List.mem_cons_self)) h6
  exact ⟨v, v.number.toNat, rfl, h6, by omega, by omega⟩
 ·rw [hvs] at h2; cases h2
open Classical in
theorem aeG {m : ah} (h : du m = true) {a : Nat} {c : ap} (hc : m.contexts[a]? = some c) (h0 : c.mark = 0) : ∃ x, (∃ q : Nat, c.code = q /\ m.base.codes[q]? = some x) /\ 0 <= x.params /\ x.params <= c.slots.length := by
 have hp : ad0 m := of_decide_eq_true h
 obtain ⟨_, o, ho, _⟩ := dK hp.ver
 obtain ⟨ha, rfl⟩ := List.getElem?_eq_some_iff.1 hc
 have h1 := (jc ((hp.outs o ho).1 a ha)).2.2.2.2.2
 rw [if_pos h0] at h1
 unfold plB at h1
 simp only [Bool.and_eq_true] at h1
 obtain ⟨_, _, _, h4, h5⟩ := h1
 have h4 : 0 <= m.contexts[a].code /\ m.contexts[a].code <= (m.base.codes.length : Int) - 1 := of_decide_eq_true h4
 cases hx : cdA m m.contexts[a].code with
 | none => rw [hx] at h5; cases h5
 | some x =>
   rw [hx] at h5
   simp only [Bool.and_eq_true] at h5
   have h6 : (m.contexts[a].slots.length : Int) = x.slots := of_decide_eq_true h5.1
   obtain ⟨_, hl, hxe⟩ := xl hx
   have hv : ff m.base := of_decide_eq_true hp.ver
   obtain ⟨o2, ho2, hk⟩ := hv.2.2.2.2
   have h7 := (hk _ hl).1.2.1
   rw [hxe] at h7
   have h7 : 0 <= x.params /\ x.params <= x.slots := of_decide_eq_true h7
   exact ⟨x, ⟨m.contexts[a].code.toNat, by omega, by rw [List.getElem?_eq_getElem hl, hxe]⟩, by omega⟩
theorem qe {m : ah} {k : Int} (h : bZ m k = true) : ∃ kn a n c p x, afF m k kn a n c p x := by
 have h0 := h
 unfold bZ at h
 simp only [Bool.and_eq_true] at h
 obtain ⟨h1, h2, h3⟩ := h
 have h2 : m.status = 0 := of_decide_eq_true h2
 have h3 : 0 <= k /\ k <= ((bJ m (atN m)).length : Int) - 1 := of_decide_eq_true h3
 obtain ⟨hs, n, p, hn, hnl, hp, ha, hl1, hl2⟩ := mU h1
 have hkl : k.toNat < (bJ m (atN m)).length := by omega
 have hmem : (bJ m (atN m))[k.toNat] ∈ bJ m (atN m) := List.getElem_mem hkl
 have hge : 0 <= p.at_ := Int.not_lt.1 fun hlt => by
   rw [ha, ic hlt] at hkl
   exact absurd hkl (Nat.not_lt_zero _)
 obtain ⟨t, ht⟩ : ∃ t : Nat, p.at_ = t := ⟨p.at_.toNat, by omega⟩
 have hon : ∀ b ∈ bJ m (atN m), OnW m b p.at_ /\ ∃ q : Nat, b = q /\ ∃ hq : q < m.contexts.length, m.contexts[q].mark = 0 := by
   rw [ha, ht]
   exact yS hs t (by omega)
 obtain ⟨g1, a, g2, g3, g4⟩ := hon _ hmem
 have hc : m.contexts[a]? = some m.contexts[a] := List.getElem?_eq_getElem g3
 obtain ⟨x, ⟨q, hq, hx⟩, hpar⟩ := aeG h1 hc g4
 have hfr : (bJ m (atN m))[k.toNat]? = some (a : Int) := by rw [List.getElem?_eq_getElem hkl, g2]
 rw [g2] at g1
 refine ⟨k.toNat, a, n, _, p, x, h1, h2, by omega, hn, hfr, ha, hp, hc, g1, ⟨q, hq, hx⟩, hpar, hs, ⟨hl1, hl2⟩, ?_, aet h1⟩
 unfold aY
 rw [if_pos h0]
 have e1 : afr m k = a := by unfold afr; rw [hfr]; simp
 have e2 : m.now.toNat = n := by omega
 have e3 : cdA m m.contexts[a].code = some x := by
   unfold cdA
   rw [hq, if_pos (by omega), Int.toNat_natCast, hx]
 unfold nS
 rw [e1, e2, hc, hp]
 dsimp only
 unfold rsC rsP
 rw [e3]
end Go.Proofs.YtigipcbnfeoliaaGreatDoor
