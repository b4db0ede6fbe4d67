/- Part 41 of the proof: the texts ImO, ImS. -/
import Derived.Test.YtigipcbnfeoliaaGreatDoorFi32
import Derived.Test.YtigipcbnfeoliaaGreatDoorFi3
import Derived.Test.YtigipcbnfeoliaaGreatDoorFi35
import Derived.Test.YtigipcbnfeoliaaGreatDoorFi15
set_option linter.all false
set_option maxHeartbeats 8000000
set_option maxRecDepth 20000
namespace Go.Proofs.YtigipcbnfeoliaaGreatDoor
open Go Go.RowKit
theorem acx {l : List Int} (h : aR l = []) : l = [] := by
 cases l with
 | nil => rfl
 | cons a r => simp [aR] at h
theorem oQ {G : World -> Prop} (lo : Nat) (l : List Int) (hn : l.length <= 1048576) : CtM Tryz.prog G 226 [.sl lo 1 (aR l)] [] (fun _ : Nat × Nat => True) (fun y => [(y.1, y.2, .row 1 (aR l))]) (fun y => .ms y.1 y.2 0 l.length) := by
 refine aB Tryz.func226 rfl Tryz.ntmps226 rfl rfl rfl fun w0 R gs objsR hG hR => ?_
 obtain rfl := hR.inv0
 clear hR
 have hlen := ar l
 repeat' (first | refine W_ ?_ | ((with_reducible apply adQ); rfl; rfl; rfl; kernel_rfl; intro bl hbl) | ((with_reducible apply vU (n := 0)); rfl; rfl; kernel_rfl; kernel_rfl; rfl; kernel_rfl; rfl; rfl; rfl; rfl; intro ss bb) | ((with_reducible apply ux); rfl; rfl; rfl; kernel_rfl; (repeat (first | with_reducible exact mh | with_reducible refine mt ?_)); (first | with_reducible assumption | exact aW _ | exact ar _ | exact aV _ | exact List.length_map _ | assumption | rfl); omega; (intro bq; (repeat (first | with_reducible exact Upd.head _ | with_reducible apply Upd.tail))); intro bb) | refine c_ (fun hc => ?_) (fun hc => ?_))
 ·obtain rfl := acx (hbl hc)
  refine ek 2 1 (by decide) rfl fun ss => ?_
  exact az x_ rfl (ss, 0) trivial rfl (.cons _ _ _ _ (.nil R)) (.refl _) (.tmp _ _ rfl) rfl
 ·exact az x_ rfl (_, _) trivial rfl (.cons _ _ _ _ (.nil R)) (.refl _) (.tmp _ _ rfl) rfl
theorem aeI {l2 : Nat} {l : List aw} {i : Nat} (h : i < l.length) : (l.map fun x => [TV.sl l2 1 (aR (dps x))])[i]? = some [.sl l2 1 (aR (dps l[i]))] := aL h
theorem ac7 {x : aw} {ds : List Int} (h : bT x.instrs = some ds) : dps x = ds := by unfold dps; rw [h]; rfl
theorem abJ (lo l2 : Nat) (m : ao) (hsm : m.small 1048576) (hdep : ∀ c ∈ m.base.codes, j7 c.instrs = true /\ ∃ ds, bT c.instrs = some ds /\ ds.length = c.instrs.length) (hsd : lu m)
   (hpl : ∀ (i : Nat) (h : i < m.contexts.length), m.contexts[i].mark = 0 -> (0 <= m.contexts[i].code /\ m.contexts[i].code < m.base.codes.length) /\ 0 <= m.contexts[i].pc) (at0 : Int) : Ct Tryz.prog GL 228 [.agg (m.tw lo), .sl l2 1 (m.base.codes.map fun x => [TV.sl l2 1 (aR (dps x))]), .int .i64 at0] (fun _ => .bool (jQ m at0)) := by
 refine aq Tryz.func228 rfl Tryz.ntmps228 rfl rfl fun w0 _ hG => ?_
 have hst := eg
 have hlx := aj.len lo m.contexts
 have hxl := hsm.2.2.2.1.1
 have hcl2 := hsm.1.2.1.1
 have hxr := fun (i : Nat) (h : i < m.contexts.length) => cV (lo := lo) (l := m.contexts) h
 have hdr := fun (i : Nat) (h : i < m.base.codes.length) => aeI (l2 := l2) h
 have hdl : (m.base.codes.map fun x => [TV.sl l2 1 (aR (dps x))]).length = m.base.codes.length := by simp
 have hon := fun (k0 a : Int) h => xg (G := GL) w0.heap.size lo m hxl hsd k0 a h
 have hsx := fun (i : Nat) (h : i < m.contexts.length) => (hsm.2.2.2.1.2 _ (List.getElem_mem h)).2.2.1.1
 have hsi := fun (i : Nat) (h : i < m.base.codes.length) => (hsm.1.2.1.2 _ (List.getElem_mem h)).1
 have k1 := aK (G := GL) at0 0 ((m.contexts.length : Int) - 1)
 generalize (m.base.codes.map fun x => [TV.sl l2 1 (aR (dps x))]) = dd at hdr hdl |-
 unfold ao.tw at hon |-
 by_cases hin : 0 <= at0 /\ at0 < m.contexts.length
 case neg =>
   rw [jR fun h => hin (by
     obtain ⟨c, hc, _⟩ := h
     obtain ⟨h0, h1, _⟩ := rW hc
     omega)]
   rw [show inR at0 0 ((m.contexts.length : Int) - 1) = false from by simp only [inR, decide_eq_false_iff_not]; omega] at k1
   by_cases hz : 1 <= m.contexts.length
   ·rw [show (m.contexts.length : Int) - 1 = ((m.contexts.length - 1 : Nat) : Int) by omega] at k1
    repeat' (first | refine W_ ?_ | refine aJ ?_ | refine ac hG hst (k1) ?_)
    exact r1_
   ·repeat' (first | refine W_ ?_ | refine aJ ?_ | refine ac hG hst (k1) ?_)
    exact r1_
 rw [show inR at0 0 ((m.contexts.length : Int) - 1) = true from by simp only [inR, decide_eq_true_eq]; omega] at k1
 rw [show (m.contexts.length : Int) - 1 = ((m.contexts.length - 1 : Nat) : Int) by omega] at k1
 obtain ⟨u, rfl⟩ : ∃ u : Nat, at0 = u := ⟨at0.toNat, by omega⟩
 have hu : u < m.contexts.length := by omega
 have hru := hxr u hu
 by_cases hm0 : m.contexts[u].mark = 0
 case neg =>
   rw [jR fun h => by
     obtain ⟨c, hc, h0, _⟩ := h
     rw [mj hu] at hc
     cases hc
     exact hm0 h0]
   have hm0' : m.contexts[u].mark ≠ 0 := hm0
   generalize m.contexts[u] = c at hru hm0'
   repeat' (first | refine W_ ?_ | refine aJ ?_ | refine ac hG hst (k1) ?_)
   exact r1_
 have hm0' : ¬ m.contexts[u].mark ≠ 0 := fun h => h hm0
 have hiff : dt m (u : Int) ↔ yz m 0 (u : Int) := ⟨fun h => by
   obtain ⟨c, _, _, h3⟩ := h
   exact h3, fun h => ⟨_, mj hu, hm0, h⟩⟩
 clear hm0
 generalize m.contexts[u] = c at hru hm0'
 repeat' (first | refine W_ ?_ | refine aJ ?_ | refine ac hG hst (k1) ?_)
 apply ai (X := Int × Int) [1, 3] (fun x => [(7, .int .i64 x.1), (8, .int .i64 x.2)]) (fun _ => []) (fun x => (-1 <= x.1 /\ x.1 < m.contexts.length) /\ (dt m (u : Int) ↔ yz m x.2 x.1)) (fun x => (x.1 + 1).toNat) ((u : Int), 0) ⟨by dsimp only; omega, hiff⟩
 exact kp_; exact nw_
 ·exact .refl _
 clear hiff k1 hru hm0'
 rintro ⟨k, less⟩ ⟨hk, hiff⟩
 dsimp only at hk hiff |-
 by_cases hneg : k < 0
 ·rw [q9 (hiff.2 (.out _ _ hneg))]
  repeat' refine W_ ?_
  exact r1_
 obtain ⟨n, rfl⟩ : ∃ n : Nat, k = n := ⟨k.toNat, by omega⟩
 have hn : n < m.contexts.length := by omega
 have hrn := hxr n hn
 have hst2 := hiff.trans (nr hn)
 have hsn := hsd n hn
 have hpn := hpl n hn
 have hsz := hsx n hn
 have hot := hon m.contexts[n].sender m.contexts[n].other (by omega)
 clear hxr hpl hon hsd hsx
 have hF : pd m m.contexts[n] less = false -> jQ m (u : Int) = false := fun h => jR fun hc => by have := (hst2.1 hc).1; rw [h] at this; cases this
 have hT : pd m m.contexts[n] less = true -> (dt m (u : Int) ↔ yz m 1 m.contexts[n].sender) := fun h => ⟨fun hc => (hst2.1 hc).2, fun hw => hst2.2 ⟨h, hw⟩⟩
 clear hst2
 unfold pd at hF hT
 by_cases hm0 : m.contexts[n].mark = 0
 ·rw [if_pos hm0] at hF hT
  obtain ⟨⟨c0, c1⟩, c2⟩ := hpn hm0
  obtain ⟨q, hq⟩ : ∃ q : Nat, m.contexts[n].code = q := ⟨m.contexts[n].code.toNat, by omega⟩
  obtain ⟨p, hp⟩ : ∃ p : Nat, m.contexts[n].pc = p := ⟨m.contexts[n].pc.toNat, by omega⟩
  have hql : q < m.base.codes.length := by omega
  obtain ⟨_, ds, hds, hdsl⟩ := hdep _ (List.getElem_mem hql)
  have hB := abk (less := less) hq (List.getElem?_eq_getElem hql) hp hds
  have hdq := hdr q hql
  rw [ac7 hds] at hdq
  have hil := hsi q hql
  rw [hB] at hF hT
  rw [hq, hp] at hrn
  rw [<- hdsl] at hF hT hil
  clear hB hdr hsi hot hds hdep hdsl
  have hol := ar ds
  generalize m.contexts[n] = c at hrn hm0 hsn hT hF hsz
  obtain ⟨mk, cc, pc, sd, ou, hm, ⟨sk, sn, st⟩, slots, stack, values, oth, rt⟩ := c
  dsimp only at hrn hm0 hsn hT hF hsz
  have htl := ab.len lo stack
  by_cases hpl : p < ds.length
  case neg =>
    rw [hF (by rw [decide_eq_false hpl, Bool.false_and])]
    repeat' (first | refine V_ ?_ | (refine ak ?_; intro ss bb) | refine ae ?_)
    exact r1_
  rw [decide_eq_true hpl, Bool.true_and] at hF hT
  have hgp := fo (o := ds) (j := p) (by omega)
  generalize hW : IntKind.i64.wrap (gd ds (p : Int) - less) = W at hF hT
  generalize gd ds (p : Int) = g at hgp hW hF hT
  by_cases hg0 : 0 <= g
  case neg =>
    rw [hF (by rw [decide_eq_false hg0, Bool.false_and])]
    repeat' (first | refine V_ ?_ | (refine ak ?_; intro ss bb) | refine ae ?_)
    exact r1_
  rw [decide_eq_true hg0, Bool.true_and] at hF hT
  have hg0' : ¬ g < 0 := by omega
  by_cases hsW : (stack.length : Int) = W
  case neg =>
    have hsW' : (stack.length : Int) ≠ W := hsW
    rw [hF (decide_eq_false hsW)]
    repeat' (first | refine V_ ?_ | (refine ak ?_; intro ss bb) | refine ae ?_)
    exact r1_
  have hsW' : ¬ (stack.length : Int) ≠ W := fun h => h hsW
  replace hT := hT (decide_eq_true hsW)
  repeat' (first | refine V_ ?_ | (refine ak ?_; intro ss bb) | refine ae ?_)
  exact ah (sd, 1) ⟨by dsimp only; omega, hT⟩ (by dsimp only; omega) (.of _ nw_ od_ pk_)
 rw [if_neg hm0] at hF hT
 clear hpn hdr hsi hdep
 by_cases hm35 : m.contexts[n].mark = 3 \/ m.contexts[n].mark = 5
 ·rw [if_pos hm35] at hF hT
  generalize onB m m.contexts[n].other m.contexts[n].sender = b at hot hF hT
  generalize m.contexts[n] = c at hrn hm0 hm35 hsn hT hot
  rcases hm35 with hm3 | hm5
  ·have hm5 : ¬ c.mark = 5 := by omega
   cases b
   ·rw [hF rfl]
    repeat' (first | refine W_ ?_ | (refine ak ?_; intro ss bb) | refine ae ?_ | refine ac hG hst (hot) ?_)
    exact r1_
   ·repeat' (first | refine W_ ?_ | (refine ak ?_; intro ss bb) | refine ae ?_ | refine ac hG hst (hot) ?_)
    exact ah (c.sender, 1) ⟨by dsimp only; omega, hT rfl⟩ (by dsimp only; omega) (.of _ nw_ od_ pk_)
  ·have hm3 : ¬ c.mark = 3 := by omega
   cases b
   ·rw [hF rfl]
    repeat' (first | refine W_ ?_ | (refine ak ?_; intro ss bb) | refine ae ?_ | refine ac hG hst (hot) ?_)
    exact r1_
   ·repeat' (first | refine W_ ?_ | (refine ak ?_; intro ss bb) | refine ae ?_ | refine ac hG hst (hot) ?_)
    exact ah (c.sender, 1) ⟨by dsimp only; omega, hT rfl⟩ (by dsimp only; omega) (.of _ nw_ od_ pk_)
 ·rw [if_neg hm35] at hT
  have hm3 : ¬ m.contexts[n].mark = 3 := fun h => hm35 (.inl h)
  have hm5 : ¬ m.contexts[n].mark = 5 := fun h => hm35 (.inr h)
  generalize m.contexts[n] = c at hrn hm0 hm3 hm5 hsn hT
  repeat' (first | refine W_ ?_ | (refine ak ?_; intro ss bb) | refine ae ?_)
  exact ah (c.sender, 1) ⟨by dsimp only; omega, hT rfl⟩ (by dsimp only; omega) (.of _ nw_ od_ pk_)
def acO (l : List Int) (v : Int) : Int := if v ∈ l then (l.findIdx (fun y => decide (y = v)) : Nat) else -1
theorem ad6 {l : List Int} {v : Int} {i : Nat} (h : i < l.length) (e : l[i] = v) (hb : ∀ y ∈ l.take i, y ≠ v) : acO l v = i := by
 unfold acO
 rw [if_pos (e ▸ List.getElem_mem h), (List.findIdx_eq (p := fun y => decide (y = v)) h).2 ⟨by simp [e], fun j hj => ?_⟩]
 refine decide_eq_false (hb _ ?_)
 exact List.mem_take_iff_getElem.2 ⟨j, by omega, rfl⟩
theorem aaf {l : List Int} {v : Int} (h : ∀ y ∈ l, y ≠ v) : acO l v = -1 := by
 unfold acO
 rw [if_neg fun hm => h v hm rfl]
theorem abW (l : List Int) (v : Int) : decide (acO l v ≥ 0) = decide (v ∈ l) := by
 unfold acO
 split <;> simp_all
section
variable {G : World -> Prop}
theorem oy (lo : Nat) (l : List Int) (v : Int) (hn : l.length <= 1000000000) : Ct Tryz.prog G 279 [.sl lo 1 (aR l), .int .i64 v] (fun _ => .int .i64 (acO l v)) := by
 refine aq Tryz.func279 rfl Tryz.ntmps279 rfl rfl fun w0 _ hG => ?_
 have hlen := ar l
 repeat' refine W_ ?_
 apply ai (X := Nat) [0, 1, 7] (fun i => [(8, .int .i64 (i : Int))]) (fun _ => []) (fun i => i <= l.length /\ ∀ y ∈ l.take i, y ≠ v) (fun i => l.length - i) 0 ⟨Nat.zero_le _, by simp⟩
 exact kp_; exact nw_
 ·exact .refl _
 rintro i ⟨hi, hs⟩
 try dsimp only
 by_cases hlt : i < l.length
 ·have hrow := j1 hlt
  have hta := aY (p := fun y => y ≠ v) hlt hs
  have htr : l[i] = v -> acO l v = i := fun e => ad6 hlt e hs
  generalize l[i] = x at hrow hta htr
  by_cases hx : x = v
  ·rw [htr hx]
   have hx2 : v = x := hx.symm
   repeat' refine W_ ?_
   exact r1_
  ·have hx2 : ¬ v = x := fun e => hx e.symm
   repeat' refine W_ ?_
   exact ah (i + 1) ⟨by omega, hta hx⟩ (by omega) (.of _ nw_ od_ pk_)
 ·rw [List.take_of_length_le (by omega)] at hs
  rw [aaf hs]
  repeat' refine W_ ?_
  exact r1_
theorem ly (hst : aC G) (lo : Nat) (l : List Int) (v : Int) (hn : l.length <= 1000000000) : Ct Tryz.prog G 227 [.sl lo 1 (aR l), .int .i64 v] (fun _ => .bool (decide (v ∈ l))) := by
 rw [<- abW]
 refine aq Tryz.func227 rfl Tryz.ntmps227 rfl rfl fun w0 _ hG => ?_
 repeat' (first | refine W_ ?_ | refine ac hG hst (oy lo l v hn) ?_)
 exact r1_
end
open Classical in
theorem aaR {m : ao} {a : Int} : jQ m a = true ↔ dt m a := decide_eq_true_iff
def ab7 (m : ao) : Prop := inR m.processes.length 1 20 = true /\ inR m.now 0 ((m.processes.length : Int) - 1) = true /\ (∀ p ∈ m.processes, inR p.at_ (-1) ((m.contexts.length : Int) - 1) = true) /\ uq m (nX m ++ m.ready ++ wC m)
open Classical in
noncomputable def rV (m : ao) : Bool := decide (ab7 m)
open Classical in
theorem aeA {m : ao} (h : ¬ ab7 m) : rV m = false := decide_eq_false h
open Classical in
theorem acL {m : ao} (h : ab7 m) : rV m = true := decide_eq_true h
theorem ad1 {l2 : Nat} {l : List aw} {i : Nat} (h : i < l.length) {ds : List Int} (hd : dps l[i] = ds) : ((l.take i).map fun x => [TV.sl l2 1 (aR (dps x))]) ++ [[TV.sl l2 1 (aR ds)]] = (l.take (i + 1)).map fun x => [TV.sl l2 1 (aR (dps x))] := by
 rw [eo h, List.map_append, <- hd]; rfl
theorem pl (lo : Nat) (m : ao) (hsm : m.small 1048576) (hdep : ∀ c ∈ m.base.codes, j7 c.instrs = true /\ ∃ ds, bT c.instrs = some ds /\ ds.length = c.instrs.length) (hsd : lu m)
   (hplain : ∀ (i : Nat) (h : i < m.contexts.length), m.contexts[i].mark = 0 -> (0 <= m.contexts[i].code /\ m.contexts[i].code < m.base.codes.length) /\ 0 <= m.contexts[i].pc) (h800 : m.store.objects.length <= 800) (hsem : ∀ o ∈ m.store.objects, o.kind = 3 -> 1 <= o.numbers.length) : Ct Tryz.prog GL 158 [.agg (m.tw lo)] (fun _ => .bool (rV m)) := by
 refine aq Tryz.func158 rfl Tryz.ntmps158 rfl rfl fun w0 _ hG => ?_
 have hst := eg
 have hF := aeA (m := m)
 have hT := acL (m := m)
 have hlx := aj.len lo m.contexts
 have hlo := au.len lo m.store.objects
 have hlp := ap.len lo m.processes
 have hlc := aw.len lo m.base.codes
 have hxl := hsm.2.2.2.1.1
 have hpl := hsm.2.2.2.2.1.1
 have hrl := hsm.2.2.2.2.2.1
 have hcl := hsm.1.2.1.1
 have hrl2 := ar m.ready
 have hnum : ∀ o ∈ m.store.objects, o.numbers.length <= 1048576 := fun o h => (hsm.2.1.2.1.2 o h).2
 have hsl := fun (i : Nat) (h : i <= m.store.objects.length) => wc h hnum
 have hnl := wl m
 have hnow : nX m = if m.status = 0 then [m.now] else [] := rfl
 have hW := fun a => abJ lo w0.heap.size m hsm hdep hsd hplain a
 have k1 := aK (G := GL) m.processes.length 1 20
 have k2 := aK (G := GL) m.now 0 ((m.processes.length : Int) - 1)
 have hcl1 := oQ (G := GL) lo m.ready hrl
 have hsc := fun (i : Nat) (h : i < m.base.codes.length) => hsm.1.2.1.2 _ (List.getElem_mem h)
 have hdp := fun (i : Nat) (h : i < m.base.codes.length) => hdep _ (List.getElem_mem h)
 clear hsm hdep hplain hsd
 unfold ao.tw at hW |-
 cases h1 : inR m.processes.length 1 20
 case false =>
   rw [hF fun h => by have := h.1; rw [h1] at this; cases this]
   rw [h1] at k1
   repeat' (first | refine W_ ?_ | refine aJ ?_ | refine ac hG hst (k1) ?_)
   exact r1_
 rw [h1] at k1
 have h1' := of_decide_eq_true h1
 rw [show (m.processes.length : Int) - 1 = ((m.processes.length - 1 : Nat) : Int) by omega] at k2
 cases h2 : inR m.now 0 ((m.processes.length - 1 : Nat) : Int)
 case false =>
   rw [hF fun h => by
     have := h.2.1
     rw [show (m.processes.length : Int) - 1 = ((m.processes.length - 1 : Nat) : Int) by omega, h2] at this; cases this]
   rw [h2] at k2
   repeat' (first | refine W_ ?_ | refine aJ ?_ | refine ac hG hst (k1) ?_ | refine ac hG hst (k2) ?_)
   exact r1_
 rw [h2] at k2
 rw [show ((m.processes.length - 1 : Nat) : Int) = (m.processes.length : Int) - 1 by omega] at h2
 repeat' (first | refine W_ ?_ | refine aJ ?_ | refine ac hG hst (k1) ?_ | refine ac hG hst (k2) ?_)
 apply ai (X := Nat) [1, 31, 32] (fun i => [(33, .int .i64 (i : Int))]) (fun _ => []) (fun i => i <= m.processes.length /\ ∀ p ∈ m.processes.take i, inR p.at_ (-1) ((m.contexts.length : Int) - 1) = true) (fun i => m.processes.length - i) 0 ⟨Nat.zero_le _, by simp⟩
 exact kp_; exact nw_
 ·exact .refl _
 rintro i ⟨hi, hall⟩
 try dsimp only
 by_cases hlt : i < m.processes.length
 ·have hrow := mf (lo := lo) hlt
  have hta := aY (p := fun p => inR p.at_ (-1) ((m.contexts.length : Int) - 1) = true) hlt hall
  have hbad : inR m.processes[i].at_ (-1) ((m.contexts.length : Int) - 1) = false -> rV m = false := fun hB => hF fun h => by have := h.2.2.1 _ (List.getElem_mem hlt); rw [hB] at this; cases this
  generalize m.processes[i] = p at hrow hta hbad
  have hct := aK (G := GL) p.at_ (-1) ((m.contexts.length : Int) - 1)
  have hcs : (m.contexts.length : Int) - 1 = ((m.contexts.length - 1 : Nat) : Int) \/ ¬ 1 <= m.contexts.length := by omega
  cases hB : inR p.at_ (-1) ((m.contexts.length : Int) - 1)
  ·rw [hbad hB]
   rw [hB] at hct
   rcases hcs with hcs | hcs
   ·rw [hcs] at hct
    have hcs1 : 1 <= m.contexts.length := by omega
    repeat' (first | refine W_ ?_ | (refine ak ?_; intro ss bb) | refine ae ?_ | refine ac hG hst (hct) ?_)
    exact r1_
   ·repeat' (first | refine W_ ?_ | (refine ak ?_; intro ss bb) | refine ae ?_ | refine ac hG hst (hct) ?_)
    exact r1_
  ·rw [hB] at hct
   rcases hcs with hcs | hcs
   ·rw [hcs] at hct
    have hcs1 : 1 <= m.contexts.length := by omega
    repeat' (first | refine W_ ?_ | (refine ak ?_; intro ss bb) | refine ae ?_ | refine ac hG hst (hct) ?_)
    exact ah (i + 1) ⟨by omega, hta hB⟩ (by omega) (.of _ nw_ od_ pk_)
   ·repeat' (first | refine W_ ?_ | (refine ak ?_; intro ss bb) | refine ae ?_ | refine ac hG hst (hct) ?_)
    exact ah (i + 1) ⟨by omega, hta hB⟩ (by omega) (.of _ nw_ od_ pk_)
 obtain rfl : i = m.processes.length := by omega
 rw [List.take_of_length_le (Nat.le_refl _)] at hall
 have hFl : ¬ uq m (m.ready ++ nX m ++ wC m) -> rV m = false := fun h => hF fun k => h (qD.2 k.2.2.2)
 have hTl : uq m (m.ready ++ nX m ++ wC m) -> rV m = true := fun h => hT ⟨h1, h2, hall, qD.1 h⟩
 clear hF hT hall hlt hi k1 k2
 generalize rV m = V at hFl hTl |-
 repeat' (first | refine H_ 10 ?_ | ((with_reducible apply aE); rfl; kernel_rfl; (repeat (first | exact ay.nil | ((with_reducible apply ay.cons); rfl))); exact hG; exact hcl1; exact .nil _; rintro ⟨s5, b5⟩ -; refine bF ?_))
 refine ⟨?_⟩
 apply fK (X := Nat) [1] (fun b => [(5, .ms s5 b 0 (m.ready ++ nX m).length)]) (fun b => [(s5, b, .row 1 (aR (m.ready ++ nX m)))]) (fun _ => True)
 case hk => (repeat (first | exact jB.nil | (apply jB.cons; rfl)))
 ·rw [hnow]
  have hap : aR m.ready ++ [[.int .i64 m.now]] = aR (m.ready ++ [m.now]) := by simp [aR]
  by_cases hs : m.status = 0
  ·rw [if_pos hs, show (m.ready ++ [m.now]).length = m.ready.length + 1 by simp]
   repeat' (first | refine W_ ?_ | refine ch ?_ | ((with_reducible apply bx); rfl; rfl; rfl; kernel_rfl; (repeat (first | with_reducible exact mh | with_reducible refine mt ?_)); exact hrl2; exact (rfl : _ = 1); omega; exact hap; (intro bq; (repeat (first | with_reducible exact Upd.head _ | with_reducible apply Upd.tail))); intro bb))
   exact ee _ trivial (.of _ nw_ od_ pk_)
  ·rw [if_neg hs, List.append_nil]
   repeat' refine W_ ?_
   exact ee b5 trivial (.of _ nw_ od_ pk_)
 clear hnow hcl1
 intro b6 _
 generalize hN0 : m.ready ++ nX m = N0 at hFl hTl |-
 have hN0l : N0.length <= 1048577 := by rw [<- hN0, List.length_append]; omega
 repeat' refine W_ ?_
 apply ai (X := Nat × Nat × List Int) [1, 59, 60] (fun x => [(61, .int .i64 (x.1 : Int)), (5, .ms s5 x.2.1 0 x.2.2.length)]) (fun x => [(s5, x.2.1, .row 1 (aR x.2.2))]) (fun x => x.1 <= m.store.objects.length /\ x.2.2 = N0 ++ (m.store.objects.take x.1).flatMap wF) (fun x => m.store.objects.length - x.1) (0, b6, N0) ⟨Nat.zero_le _, by simp⟩
 exact kp_; exact nw_
 ·exact .refl _
 rintro ⟨i, b7, A⟩ ⟨hi, hA⟩
 dsimp only at hi hA |-
 have hAl : A.length <= 1 + 1048576 + i * 1048576 := by
   rw [hA, List.length_append]
   have := hsl i hi
   omega
 by_cases hlt : i < m.store.objects.length
 ·have hrow := lK (lo := lo) hlt
  have hsn := oz hlt
  have hol := hnum _ (List.getElem_mem hlt)
  have hse := hsem _ (List.getElem_mem hlt)
  have hA2 : A ++ wF m.store.objects[i] = N0 ++ (m.store.objects.take (i + 1)).flatMap wF := by rw [hsn, hA, List.append_assoc]
  clear hsn hsem hsl hnum hW
  generalize m.store.objects[i] = o at hrow hol hse hA2
  obtain ⟨ok, oc, fs, ns⟩ := o
  dsimp only at hrow hol hse
  unfold wF at hA2
  dsimp only at hA2
  have hnl2 := ar ns
  by_cases hk : ok = 3
  ·rw [if_pos hk] at hA2
   have h1 := hse hk
   have hdr := tp ns 1
   have hdl := ar (ns.drop 1)
   have hdl2 : (ns.drop 1).length <= 1048576 := by rw [List.length_drop]; omega
   have hap := rq A (ns.drop 1)
   repeat' (first | refine W_ ?_ | (refine ak ?_; intro ss bb) | refine ae ?_ | refine aeq ?_ | ((with_reducible apply bx); rfl; rfl; rfl; kernel_rfl; (repeat (first | with_reducible exact mh | with_reducible refine mt ?_)); exact ar _; exact hdl; omega; exact hap; (intro bq; (repeat (first | with_reducible exact Upd.head _ | with_reducible apply Upd.tail))); intro bb))
   rw [<- List.length_append]
   exact ah (i + 1, _, A ++ ns.drop 1) ⟨by dsimp only; omega, hA2⟩ (by dsimp only; omega) (.of _ nw_ od_ pk_)
  ·rw [if_neg hk, List.append_nil] at hA2
   repeat' (first | refine W_ ?_ | (refine ak ?_; intro ss bb) | refine ae ?_)
   exact ah (i + 1, b7, A) ⟨by dsimp only; omega, hA2⟩ (by dsimp only; omega) (.of _ nw_ od_ pk_)
 obtain rfl : i = m.store.objects.length := by omega
 rw [List.take_of_length_le (Nat.le_refl _)] at hA
 rw [show N0 ++ wC m = A from hA.symm] at hFl hTl
 clear hA hN0 hsl hsem hnum hlt hi
 replace hAl : A.length <= 900000000 := by omega
 repeat' refine H_ 18 ?_
 refine ⟨?_⟩
 refine oq (t := 5) rfl (ar _) (.head _) ?_
 have hll := ar A
 repeat' (first | refine W_ ?_ | ((with_reducible apply vU (n := 0)); rfl; rfl; kernel_rfl; kernel_rfl; rfl; kernel_rfl; rfl; rfl; rfl; rfl; intro ss bb))
 generalize ss = s8; generalize bb = b8
 apply ai (X := Nat × Nat) [1, 5, 77, 78] (fun x => [(79, .int .i64 (x.1 : Int)), (8, .ms s8 x.2 0 x.1)]) (fun x => [(s8, x.2, .row 1 ((m.base.codes.take x.1).map fun c => [TV.sl w0.heap.size 1 (aR (dps c))]))]) (fun x => x.1 <= m.base.codes.length) (fun x => m.base.codes.length - x.1) (0, b8) (Nat.zero_le _)
 exact kp_; exact nw_
 ·exact .refl _
 rintro ⟨i, b9⟩ hi
 dsimp only at hi |-
 by_cases hlt : i < m.base.codes.length
 ·have hrow := bP (lo := lo) hlt
  obtain ⟨_, ds, hds, _⟩ := hdp i hlt
  have hsn := ad1 (l2 := w0.heap.size) hlt (ac7 hds)
  have hsz := hsc i hlt
  have hrlen : ((m.base.codes.take i).map fun c => [TV.sl w0.heap.size 1 (aR (dps c))]).length = i := by rw [List.length_map, List.length_take]; omega
  clear hW hdp hsc
  generalize m.base.codes[i] = c at hrow hds hsz
  obtain ⟨xb, xp, xs, is⟩ := c
  dsimp only at hrow hds
  have hsd := jM hst afN lo xb xp xs is hsz.1 hsz.2
  rw [kB lo] at hsd
  unfold dR dO at hsd
  rw [hds] at hsd
  rw [Option.getD_some, Option.isSome_some] at hsd
  generalize ((m.base.codes.take i).map fun c => [TV.sl w0.heap.size 1 (aR (dps c))]) = R1 at hsn hrlen |-
  generalize hR2 : ((m.base.codes.take (i + 1)).map fun c => [TV.sl w0.heap.size 1 (aR (dps c))]) = R2 at hsn
  repeat' (first | refine W_ ?_ | (refine ak ?_; intro ss bb) | refine ae ?_ | ((with_reducible apply aE); rfl; kernel_rfl; (repeat (first | exact ay.nil | ((with_reducible apply ay.cons); rfl))); exact hG; exact hsd; exact .nil _; rintro ⟨s9, b10⟩ -; refine bF ?_))
  refine abh (t := 89) rfl (ar _) (.head _) ?_
  repeat' (first | refine W_ ?_ | refine ch ?_ | ((with_reducible apply bx); rfl; rfl; rfl; kernel_rfl; (repeat (first | with_reducible exact mh | with_reducible refine mt ?_)); exact hrlen; exact (rfl : _ = 1); omega; exact hsn; (intro bq; (repeat (first | with_reducible exact Upd.head _ | with_reducible apply Upd.tail))); intro bb))
  subst hR2
  exact ah (i + 1, _) (by dsimp only; omega) (by dsimp only; omega) (.of _ nw_ od_ pk_)
 obtain rfl : i = m.base.codes.length := by omega
 rw [List.take_of_length_le (Nat.le_refl _)]
 have hddl : (m.base.codes.map fun c => [TV.sl w0.heap.size 1 (aR (dps c))]).length = m.base.codes.length := by simp
 clear hdp hsc hlt hi
 generalize (m.base.codes.map fun c => [TV.sl w0.heap.size 1 (aR (dps c))]) = dd at hW hddl |-
 repeat' refine H_ 25 ?_
 refine ⟨?_⟩
 refine oq (t := 8) rfl hddl (.head _) ?_
 repeat' refine W_ ?_
 apply ai (X := Nat) [1, 5, 8, 93, 94] (fun i => [(95, .int .i64 (i : Int))]) (fun _ => []) (fun i => i <= A.length /\ (∀ p ∈ A.take i, (0 <= p /\ p < m.processes.length) /\ ∀ q, m.processes[p.toNat]? = some q -> dt m q.at_) /\ (A.take i).Nodup) (fun i => A.length - i) 0 ⟨Nat.zero_le _, by simp, by simp⟩
 exact kp_; exact nw_
 ·exact .refl _
 rintro i ⟨hi, hin, hnd⟩
 try dsimp only
 by_cases hlt : i < A.length
 case neg =>
   obtain rfl : i = A.length := by omega
   rw [List.take_of_length_le (Nat.le_refl _)] at hin hnd
   rw [hTl ⟨fun p hp => (hin p hp).1, hnd, fun p hp => (hin p hp).2⟩]
   repeat' refine W_ ?_
   exact r1_
 have hrow := j1 hlt
 have hta := aY (p := fun p : Int => (0 <= p /\ p < m.processes.length) /\ ∀ q, m.processes[p.toNat]? = some q -> dt m q.at_) hlt hin
 have hns := qW hlt hnd
 have hb1 : ¬ (0 <= A[i] /\ A[i] < m.processes.length) -> V = false := fun h => hFl fun k => h (k.1 _ (List.getElem_mem hlt))
 have hb2 : A[i] ∈ A.take i -> V = false := fun h => hFl fun k => sQ hlt h k.2.1
 have hb3 : ∀ q, m.processes[A[i].toNat]? = some q -> ¬ dt m q.at_ -> V = false := fun q hq hn => hFl fun k => hn (k.2.2 _ (List.getElem_mem hlt) q hq)
 have htk := tK A i
 have hhas := ly (G := GL) hst w0.heap.size (A.take i) A[i] (by rw [List.length_take]; omega)
 have k1 := aK (G := GL) A[i] 0 ((m.processes.length - 1 : Nat) : Int)
 clear hin hFl hTl
 generalize A[i] = p at hrow hta hns hb1 hb2 hb3 hhas k1
 by_cases hr : 0 <= p /\ p < m.processes.length
 case neg =>
   rw [show inR p 0 ((m.processes.length - 1 : Nat) : Int) = false from by simp only [inR, decide_eq_false_iff_not]; omega] at k1
   rw [hb1 hr]
   repeat' (first | refine V_ ?_ | refine ad hG hst (k1) ?_)
   exact r1_
 rw [show inR p 0 ((m.processes.length - 1 : Nat) : Int) = true from by simp only [inR, decide_eq_true_eq]; omega] at k1
 by_cases hm : p ∈ A.take i
 ·rw [decide_eq_true hm] at hhas
  rw [hb2 hm]
  repeat' (first | refine V_ ?_ | refine ko ?_ | refine ad hG hst (k1) ?_ | refine ad hG hst (hhas) ?_)
  exact r1_
 rw [decide_eq_false hm] at hhas
 obtain ⟨u, rfl⟩ : ∃ u : Nat, p = u := ⟨p.toNat, by omega⟩
 have hul : u < m.processes.length := by omega
 have hrp := mf (lo := lo) hul
 have hwu := hW m.processes[u].at_
 have hq : m.processes[((u : Nat) : Int).toNat]? = some m.processes[u] := by rw [Int.toNat_natCast, List.getElem?_eq_getElem hul]
 have hb3 := hb3 _ hq
 have hta2 : dt m m.processes[u].at_ -> ∀ q, m.processes[((u : Nat) : Int).toNat]? = some q -> dt m q.at_ := fun h q hqq => by rw [hq] at hqq; cases hqq; exact h
 generalize m.processes[u] = pr at hrp hwu hb3 hta2
 cases hB : jQ m pr.at_
 ·rw [hB] at hwu
  rw [hb3 fun h => by rw [q9 h] at hB; cases hB]
  repeat' (first | refine V_ ?_ | refine ko ?_ | refine ad hG hst (k1) ?_ | refine ad hG hst (hhas) ?_ | refine ad hG hst (hwu) ?_)
  exact r1_
 ·rw [hB] at hwu
  have hcp := aaR.1 hB
  repeat' (first | refine V_ ?_ | refine ko ?_ | refine ad hG hst (k1) ?_ | refine ad hG hst (hhas) ?_ | refine ad hG hst (hwu) ?_)
  exact ah (i + 1) ⟨by omega, hta ⟨hr, hta2 hcp⟩, hns hm⟩ (by omega) (.of _ nw_ od_ pk_)
end Go.Proofs.YtigipcbnfeoliaaGreatDoor
