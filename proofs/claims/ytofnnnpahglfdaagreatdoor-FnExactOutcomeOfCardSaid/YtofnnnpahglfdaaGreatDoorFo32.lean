/- Part 32 of the proof: the texts ImG0, ImO. -/
import Derived.Test.YtofnnnpahglfdaaGreatDoorFo21
import Derived.Test.YtofnnnpahglfdaaGreatDoorFo7
import Derived.Test.YtofnnnpahglfdaaGreatDoorFo26
import Derived.Test.YtofnnnpahglfdaaGreatDoorFo3
set_option linter.all false
set_option maxHeartbeats 4000000
set_option maxRecDepth 20000
namespace Go.Proofs.YtofnnnpahglfdaaGreatDoor
open Go Go.RowKit
open Classical in
noncomputable def yB (a b : List aa) : Bool := decide (a = b)
open Classical in
theorem qC {a b : List aa} (h : ¬ a = b) : yB a b = false := decide_eq_false h
open Classical in
theorem xo {a b : List aa} (h : a = b) : yB a b = true := decide_eq_true h
theorem ac8 {x y : aa} (h1 : x.name = y.name) (h2 : x.parent = y.parent) (h3 : x.fields = y.fields) : x = y := by
 cases x; cases y; simp_all
theorem gT {α : Type} {a b : List α} {i : Nat} (ha : i < a.length) (hb : i < b.length) (h : a.take i = b.take i) (e : a[i] = b[i]) : a.take (i + 1) = b.take (i + 1) := by
 rw [ed ha, ed hb, h, e]
section
variable {G : World -> Prop}
theorem yD (hst : aB G) (l1 l2 : Nat) (a b : List aa) (ha : a.length <= 1048576 /\ ∀ y ∈ a, aa.small 1048576 y) (hb : b.length <= 1048576 /\ ∀ y ∈ b, aa.small 1048576 y) : Ct Tryz.prog G 97 [.sl l1 3 (a.map (aa.tw l1)), .sl l2 3 (b.map (aa.tw l2))] (fun _ => .bool (yB a b)) := by
 refine am Tryz.func97 rfl Tryz.ntmps97 rfl rfl fun w0 _ hG => ?_
 have hla := aa.len l1 a
 have hlb := aa.len l2 b
 have ha1 := ha.1
 have hb1 := hb.1
 by_cases hl : a.length = b.length
 case neg =>
   rw [qC fun e => hl (by rw [e])]
   repeat' refine W_ ?_
   exact r1_
 repeat' refine W_ ?_
 apply ak (X := Nat) [0, 1] (fun i => [(5, .int .i64 (i : Int))]) (fun _ => []) (fun i => i <= a.length /\ a.take i = b.take i) (fun i => a.length - i) 0 ⟨Nat.zero_le _, by simp⟩
 exact kp_; exact nw_
 ·exact .refl _
 rintro i ⟨hi, hs⟩
 try dsimp only
 by_cases hlt : i < a.length
 ·have hr1 := d8 (lo := l1) hlt
  have hlt2 : i < b.length := by omega
  have hr2 := d8 (lo := l2) hlt2
  have hta := gT hlt hlt2 hs
  have hne : a[i] ≠ b[i] -> yB a b = false := fun h => qC fun e => h (by subst e; rfl)
  have hsa := (ha.2 _ (List.getElem_mem hlt)).2.1
  have hsb := (hb.2 _ (List.getElem_mem hlt2)).2.1
  have hce := ac8 (x := a[i]) (y := b[i])
  generalize a[i] = x at hr1 hta hne hsa hce
  generalize b[i] = y at hr2 hta hne hsb hce
  have c1 := jc (G := G) l1 l2 x.fields y.fields hsa hsb
  by_cases h1 : x.name = y.name
  case neg =>
    have h1' : x.name ≠ y.name := h1
    rw [hne fun e => h1 (by rw [e])]
    repeat' refine V_ ?_
    exact r1_
  have h1' : ¬ x.name ≠ y.name := fun h => h h1
  by_cases h2 : x.parent = y.parent
  case neg =>
    have h2' : x.parent ≠ y.parent := h2
    rw [hne fun e => h2 (by rw [e])]
    repeat' refine V_ ?_
    exact r1_
  have h2' : ¬ x.parent ≠ y.parent := fun h => h h2
  by_cases h3 : x.fields = y.fields
  case neg =>
    rw [decide_eq_false h3] at c1
    rw [hne fun e => h3 (by rw [e])]
    repeat' (first | refine V_ ?_ | refine ae hG hst (c1) ?_)
    exact r1_
  rw [decide_eq_true h3] at c1
  repeat' (first | refine V_ ?_ | refine ae hG hst (c1) ?_)
  exact ag (i + 1) ⟨by omega, hta (hce h1 h2 h3)⟩ (by omega) (.of _ nw_ od_ pk_)
 ·rw [List.take_of_length_le (by omega), List.take_of_length_le (by omega)] at hs
  rw [xo hs]
  repeat' refine W_ ?_
  exact r1_
theorem oR (l1 l2 : Nat) (a b : List aa) (ha : a.length <= 1048576 /\ ∀ y ∈ a, aa.small 1048576 y) (hb : b.length <= 1048576 /\ ∀ y ∈ b, aa.small 1048576 y) : Ct Tryz.prog G 117 [.sl l1 3 (a.map (aa.tw l1)), .sl l2 3 (b.map (aa.tw l2))] (fun _ => .bool (yB a b)) := by
 refine am Tryz.func117 rfl Tryz.ntmps117 rfl rfl fun w0 _ hG => ?_
 have hla := aa.len l1 a
 have hlb := aa.len l2 b
 have ha1 := ha.1
 have hb1 := hb.1
 by_cases hl : a.length = b.length
 case neg =>
   rw [qC fun e => hl (by rw [e])]
   repeat' refine W_ ?_
   exact r1_
 repeat' refine W_ ?_
 apply ak (X := Nat) [0, 1, 13] (fun i => [(14, .int .i64 (i : Int))]) (fun _ => []) (fun i => i <= a.length /\ a.take i = b.take i) (fun i => a.length - i) 0 ⟨Nat.zero_le _, by simp⟩
 exact kp_; exact nw_
 ·exact .refl _
 rintro i ⟨hi, hs⟩
 try dsimp only
 by_cases hlt : i < a.length
 ·have hr1 := d8 (lo := l1) hlt
  have hlt2 : i < b.length := by omega
  have hr2 := d8 (lo := l2) hlt2
  have hta := gT hlt hlt2 hs
  have hne : a[i] ≠ b[i] -> yB a b = false := fun h => qC fun e => h (by subst e; rfl)
  have hsa := (ha.2 _ (List.getElem_mem hlt)).2.1
  have hsb := (hb.2 _ (List.getElem_mem hlt2)).2.1
  have hce := ac8 (x := a[i]) (y := b[i])
  generalize a[i] = x at hr1 hta hne hsa hce
  generalize b[i] = y at hr2 hta hne hsb hce
  have hxl := aZ x.fields
  have hyl := aZ y.fields
  by_cases h1 : x.name = y.name
  case neg =>
    have h1' : x.name ≠ y.name := h1
    rw [hne fun e => h1 (by rw [e])]
    repeat' refine V_ ?_
    exact r1_
  have h1' : ¬ x.name ≠ y.name := fun h => h h1
  by_cases h2 : x.parent = y.parent
  case neg =>
    have h2' : x.parent ≠ y.parent := h2
    rw [hne fun e => h2 (by rw [e])]
    repeat' refine V_ ?_
    exact r1_
  have h2' : ¬ x.parent ≠ y.parent := fun h => h h2
  by_cases h3 : x.fields.length = y.fields.length
  case neg =>
    have h3' : (x.fields.length : Int) ≠ y.fields.length := by omega
    rw [hne fun e => h3 (by rw [e])]
    repeat' refine V_ ?_
    exact r1_
  have h3' : ¬ (x.fields.length : Int) ≠ y.fields.length := by omega
  repeat' refine V_ ?_
  apply ak (X := Nat) [0, 1, 13, 14, 5, 61] (fun k => [(62, .int .i64 (k : Int))]) (fun _ => []) (fun k => k <= x.fields.length /\ x.fields.take k = y.fields.take k) (fun k => x.fields.length - k) 0 ⟨Nat.zero_le _, by simp⟩
  exact kp_; exact nw_
  ·exact .refl _
  rintro k ⟨hk, hks⟩
  try dsimp only
  by_cases hkt : k < x.fields.length
  ·have hkt2 : k < y.fields.length := by omega
   have hs1 := mI hkt
   have hs2 := mI hkt2
   have htk := gT hkt hkt2 hks
   have hnf : x.fields[k] ≠ y.fields[k] -> x ≠ y := fun h e => h (by subst e; rfl)
   generalize x.fields[k] = u at hs1 htk hnf
   generalize y.fields[k] = v at hs2 htk hnf
   by_cases h4 : u = v
   case neg =>
     have h4' : u ≠ v := h4
     rw [hne (hnf h4)]
     repeat' refine V_ ?_
     exact r1_
   have h4' : ¬ u ≠ v := fun h => h h4
   repeat' refine V_ ?_
   exact ag (k + 1) ⟨by omega, htk h4⟩ (by omega) (.of _ nw_ od_ pk_)
  ·rw [List.take_of_length_le (by omega), List.take_of_length_le (by omega)] at hks
   repeat' refine W_ ?_
   exact ag (i + 1) ⟨by omega, hta (hce h1 h2 hks)⟩ (by omega) (.of _ nw_ od_ pk_)
 ·rw [List.take_of_length_le (by omega), List.take_of_length_le (by omega)] at hs
  rw [xo hs]
  repeat' refine W_ ?_
  exact r1_
end
theorem ack {l : List Int} (h : aS l = []) : l = [] := by
 cases l with
 | nil => rfl
 | cons a r => simp [aS] at h
theorem nh {G : World -> Prop} (lo : Nat) (l : List Int) (hn : l.length <= 1048576) : CtM Tryz.prog G 201 [.sl lo 1 (aS l)] [] (fun _ : Nat × Nat => True) (fun y => [(y.1, y.2, .row 1 (aS l))]) (fun y => .ms y.1 y.2 0 l.length) := by
 refine aC Tryz.func201 rfl Tryz.ntmps201 rfl rfl rfl fun w0 R gs objsR hG hR => ?_
 obtain rfl := hR.inv0
 clear hR
 have hlen := ao l
 repeat' (first | refine W_ ?_ | ((with_reducible apply aei); rfl; rfl; rfl; kernel_rfl; intro bl hbl) | ((with_reducible apply o9 (n := 0)); rfl; rfl; kernel_rfl; kernel_rfl; rfl; kernel_rfl; rfl; rfl; rfl; rfl; intro ss bb) | ((with_reducible apply sW); rfl; rfl; rfl; kernel_rfl; (repeat (first | with_reducible exact mh | with_reducible refine mt ?_)); (first | with_reducible assumption | exact aO _ | exact ao _ | exact aT _ | exact List.length_map _ | assumption | rfl); omega; (intro bq; (repeat (first | with_reducible exact Upd.head _ | with_reducible apply Upd.tail))); intro bb) | refine c_ (fun hc => ?_) (fun hc => ?_))
 ·obtain rfl := ack (hbl hc)
  refine dT 2 1 (by decide) rfl fun ss => ?_
  exact av x_ rfl (ss, 0) trivial rfl (.cons _ _ _ _ (.nil R)) (.refl _) (.tmp _ _ rfl) rfl
 ·exact av x_ rfl (_, _) trivial rfl (.cons _ _ _ _ (.nil R)) (.refl _) (.tmp _ _ rfl) rfl
theorem ae4 {l2 : Nat} {l : List aA} {i : Nat} (h : i < l.length) : (l.map fun x => [TV.sl l2 1 (aS (dps x))])[i]? = some [.sl l2 1 (aS (dps l[i]))] := aM h
theorem ada {x : aA} {ds : List Int} (h : bP x.instrs = some ds) : dps x = ds := by unfold dps; rw [h]; rfl
theorem abN (lo l2 : Nat) (m : ai) (hsm : m.small 1048576) (hdep : ∀ c ∈ m.base.codes, jI c.instrs = true /\ ∃ ds, bP c.instrs = some ds /\ ds.length = c.instrs.length) (hsd : fE m)
   (hpl : ∀ (i : Nat) (h : i < m.contexts.length), m.contexts[i].mark = 0 -> (0 <= m.contexts[i].code /\ m.contexts[i].code < m.base.codes.length) /\ 0 <= m.contexts[i].pc) (at0 : Int) : Ct Tryz.prog GL 203 [.agg (m.tw lo), .sl l2 1 (m.base.codes.map fun x => [TV.sl l2 1 (aS (dps x))]), .int .i64 at0] (fun _ => .bool (jC m at0)) := by
 refine am Tryz.func203 rfl Tryz.ntmps203 rfl rfl fun w0 _ hG => ?_
 have hst := dA
 have hlx := ap.len lo m.contexts
 have hxl := hsm.2.2.2.1.1
 have hcl2 := hsm.1.2.1.1
 have hxr := fun (i : Nat) (h : i < m.contexts.length) => cx (lo := lo) (l := m.contexts) h
 have hdr := fun (i : Nat) (h : i < m.base.codes.length) => ae4 (l2 := l2) h
 have hdl : (m.base.codes.map fun x => [TV.sl l2 1 (aS (dps x))]).length = m.base.codes.length := by simp
 have hon := fun (k0 a : Int) h => xl (G := GL) w0.heap.size lo m hxl hsd k0 a h
 have hsx := fun (i : Nat) (h : i < m.contexts.length) => (hsm.2.2.2.1.2 _ (List.getElem_mem h)).2.2.1.1
 have hsi := fun (i : Nat) (h : i < m.base.codes.length) => (hsm.1.2.1.2 _ (List.getElem_mem h)).1
 have k1 := aN (G := GL) at0 0 ((m.contexts.length : Int) - 1)
 generalize (m.base.codes.map fun x => [TV.sl l2 1 (aS (dps x))]) = dd at hdr hdl |-
 unfold ai.tw at hon |-
 by_cases hin : 0 <= at0 /\ at0 < m.contexts.length
 case neg =>
   rw [j1 fun h => hin (by
     obtain ⟨c, hc, _⟩ := h
     obtain ⟨h0, h1, _⟩ := j7 hc
     omega)]
   rw [show inR at0 0 ((m.contexts.length : Int) - 1) = false from by simp only [inR, decide_eq_false_iff_not]; omega] at k1
   by_cases hz : 1 <= m.contexts.length
   ·rw [show (m.contexts.length : Int) - 1 = ((m.contexts.length - 1 : Nat) : Int) by omega] at k1
    repeat' (first | refine W_ ?_ | refine aD ?_ | refine ab hG hst (k1) ?_)
    exact r1_
   ·repeat' (first | refine W_ ?_ | refine aD ?_ | refine ab hG hst (k1) ?_)
    exact r1_
 rw [show inR at0 0 ((m.contexts.length : Int) - 1) = true from by simp only [inR, decide_eq_true_eq]; omega] at k1
 rw [show (m.contexts.length : Int) - 1 = ((m.contexts.length - 1 : Nat) : Int) by omega] at k1
 obtain ⟨u, rfl⟩ : ∃ u : Nat, at0 = u := ⟨at0.toNat, by omega⟩
 have hu : u < m.contexts.length := by omega
 have hru := hxr u hu
 by_cases hm0 : m.contexts[u].mark = 0
 case neg =>
   rw [j1 fun h => by
     obtain ⟨c, hc, h0, _⟩ := h
     rw [jG hu] at hc
     cases hc
     exact hm0 h0]
   have hm0' : m.contexts[u].mark ≠ 0 := hm0
   generalize m.contexts[u] = c at hru hm0'
   repeat' (first | refine W_ ?_ | refine aD ?_ | refine ab hG hst (k1) ?_)
   exact r1_
 have hm0' : ¬ m.contexts[u].mark ≠ 0 := fun h => h hm0
 have hiff : dk m (u : Int) ↔ yG m 0 (u : Int) := ⟨fun h => by
   obtain ⟨c, _, _, h3⟩ := h
   exact h3, fun h => ⟨_, jG hu, hm0, h⟩⟩
 clear hm0
 generalize m.contexts[u] = c at hru hm0'
 repeat' (first | refine W_ ?_ | refine aD ?_ | refine ab hG hst (k1) ?_)
 apply ak (X := Int × Int) [1, 3] (fun x => [(7, .int .i64 x.1), (8, .int .i64 x.2)]) (fun _ => []) (fun x => (-1 <= x.1 /\ x.1 < m.contexts.length) /\ (dk m (u : Int) ↔ yG m x.2 x.1)) (fun x => (x.1 + 1).toNat) ((u : Int), 0) ⟨by dsimp only; omega, hiff⟩
 exact kp_; exact nw_
 ·exact .refl _
 clear hiff k1 hru hm0'
 rintro ⟨k, less⟩ ⟨hk, hiff⟩
 dsimp only at hk hiff |-
 by_cases hneg : k < 0
 ·rw [rp (hiff.2 (.out _ _ hneg))]
  repeat' refine W_ ?_
  exact r1_
 obtain ⟨n, rfl⟩ : ∃ n : Nat, k = n := ⟨k.toNat, by omega⟩
 have hn : n < m.contexts.length := by omega
 have hrn := hxr n hn
 have hst2 := hiff.trans (mV hn)
 have hsn := hsd n hn
 have hpn := hpl n hn
 have hsz := hsx n hn
 have hot := hon m.contexts[n].sender m.contexts[n].other (by omega)
 clear hxr hpl hon hsd hsx
 have hF : od m m.contexts[n] less = false -> jC m (u : Int) = false := fun h => j1 fun hc => by have := (hst2.1 hc).1; rw [h] at this; cases this
 have hT : od m m.contexts[n] less = true -> (dk m (u : Int) ↔ yG m 1 m.contexts[n].sender) := fun h => ⟨fun hc => (hst2.1 hc).2, fun hw => hst2.2 ⟨h, hw⟩⟩
 clear hst2
 unfold od at hF hT
 by_cases hm0 : m.contexts[n].mark = 0
 ·rw [if_pos hm0] at hF hT
  obtain ⟨⟨c0, c1⟩, c2⟩ := hpn hm0
  obtain ⟨q, hq⟩ : ∃ q : Nat, m.contexts[n].code = q := ⟨m.contexts[n].code.toNat, by omega⟩
  obtain ⟨p, hp⟩ : ∃ p : Nat, m.contexts[n].pc = p := ⟨m.contexts[n].pc.toNat, by omega⟩
  have hql : q < m.base.codes.length := by omega
  obtain ⟨_, ds, hds, hdsl⟩ := hdep _ (List.getElem_mem hql)
  have hB := z6 (less := less) hq (List.getElem?_eq_getElem hql) hp hds
  have hdq := hdr q hql
  rw [ada hds] at hdq
  have hil := hsi q hql
  rw [hB] at hF hT
  rw [hq, hp] at hrn
  rw [<- hdsl] at hF hT hil
  clear hB hdr hsi hot hds hdep hdsl
  have hol := ao ds
  generalize m.contexts[n] = c at hrn hm0 hsn hT hF hsz
  obtain ⟨mk, cc, pc, sd, ou, hm, ⟨sk, sn, st⟩, slots, stack, values, oth, rt⟩ := c
  dsimp only at hrn hm0 hsn hT hF hsz
  have htl := ad.len lo stack
  by_cases hpl : p < ds.length
  case neg =>
    rw [hF (by rw [decide_eq_false hpl, Bool.false_and])]
    repeat' (first | refine V_ ?_ | (refine aj ?_; intro ss bb) | refine ac ?_)
    exact r1_
  rw [decide_eq_true hpl, Bool.true_and] at hF hT
  have hgp := eY (o := ds) (j := p) (by omega)
  generalize hW : IntKind.i64.wrap (gd ds (p : Int) - less) = W at hF hT
  generalize gd ds (p : Int) = g at hgp hW hF hT
  by_cases hg0 : 0 <= g
  case neg =>
    rw [hF (by rw [decide_eq_false hg0, Bool.false_and])]
    repeat' (first | refine V_ ?_ | (refine aj ?_; intro ss bb) | refine ac ?_)
    exact r1_
  rw [decide_eq_true hg0, Bool.true_and] at hF hT
  have hg0' : ¬ g < 0 := by omega
  by_cases hsW : (stack.length : Int) = W
  case neg =>
    have hsW' : (stack.length : Int) ≠ W := hsW
    rw [hF (decide_eq_false hsW)]
    repeat' (first | refine V_ ?_ | (refine aj ?_; intro ss bb) | refine ac ?_)
    exact r1_
  have hsW' : ¬ (stack.length : Int) ≠ W := fun h => h hsW
  replace hT := hT (decide_eq_true hsW)
  repeat' (first | refine V_ ?_ | (refine aj ?_; intro ss bb) | refine ac ?_)
  exact ag (sd, 1) ⟨by dsimp only; omega, hT⟩ (by dsimp only; omega) (.of _ nw_ od_ pk_)
 rw [if_neg hm0] at hF hT
 clear hpn hdr hsi hdep
 by_cases hm35 : m.contexts[n].mark = 3 \/ m.contexts[n].mark = 5
 ·rw [if_pos hm35] at hF hT
  generalize onB m m.contexts[n].other m.contexts[n].sender = b at hot hF hT
  generalize m.contexts[n] = c at hrn hm0 hm35 hsn hT hot
  rcases hm35 with hm3 | hm5
  ·have hm5 : ¬ c.mark = 5 := by omega
   cases b
   ·rw [hF rfl]
    repeat' (first | refine W_ ?_ | (refine aj ?_; intro ss bb) | refine ac ?_ | refine ab hG hst (hot) ?_)
    exact r1_
   ·repeat' (first | refine W_ ?_ | (refine aj ?_; intro ss bb) | refine ac ?_ | refine ab hG hst (hot) ?_)
    exact ag (c.sender, 1) ⟨by dsimp only; omega, hT rfl⟩ (by dsimp only; omega) (.of _ nw_ od_ pk_)
  ·have hm3 : ¬ c.mark = 3 := by omega
   cases b
   ·rw [hF rfl]
    repeat' (first | refine W_ ?_ | (refine aj ?_; intro ss bb) | refine ac ?_ | refine ab hG hst (hot) ?_)
    exact r1_
   ·repeat' (first | refine W_ ?_ | (refine aj ?_; intro ss bb) | refine ac ?_ | refine ab hG hst (hot) ?_)
    exact ag (c.sender, 1) ⟨by dsimp only; omega, hT rfl⟩ (by dsimp only; omega) (.of _ nw_ od_ pk_)
 ·rw [if_neg hm35] at hT
  have hm3 : ¬ m.contexts[n].mark = 3 := fun h => hm35 (.inl h)
  have hm5 : ¬ m.contexts[n].mark = 5 := fun h => hm35 (.inr h)
  generalize m.contexts[n] = c at hrn hm0 hm3 hm5 hsn hT
  repeat' (first | refine W_ ?_ | (refine aj ?_; intro ss bb) | refine ac ?_)
  exact ag (c.sender, 1) ⟨by dsimp only; omega, hT rfl⟩ (by dsimp only; omega) (.of _ nw_ od_ pk_)
end Go.Proofs.YtofnnnpahglfdaaGreatDoor
