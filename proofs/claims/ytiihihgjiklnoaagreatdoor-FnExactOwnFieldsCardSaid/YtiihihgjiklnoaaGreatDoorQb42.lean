/- Part 42 of the proof: the texts ImO. -/
import Derived.Test.YtiihihgjiklnoaaGreatDoorQb36
import Derived.Test.YtiihihgjiklnoaaGreatDoorQb15
/- IsImage: a row copied by slices.Clone; the ways outwards, the program's side. -/
namespace Go.Proofs.YtiihihgjiklnoaaGreatDoor
set_option maxRecDepth 20000
set_option maxHeartbeats 2000000
open Go Go.RowKit
theorem zw {l : List Int} (h : aO l = []) : l = [] := by
  cases l with
  | nil => rfl
  | cons a r => simp [aO] at h
theorem m8 {G : World → Prop} (lo : Nat) (l : List Int) (hn : l.length ≤ 1048576) : CtM Tryz.prog G 242 [.sl lo 1 (aO l)] [] (fun _ : Nat × Nat => True) (fun y => [(y.1, y.2, .row 1 (aO l))]) (fun y => .ms y.1 y.2 0 l.length) := by
  refine aC Tryz.func242 rfl Tryz.ntmps242 rfl rfl rfl fun w0 R gs objsR hG hR => ?_
  obtain rfl := hR.inv0
  clear hR
  have hlen := aq l
  repeat' (first | refine W_ ?_ | ((with_reducible apply yJ); rfl; rfl; rfl; kernel_rfl; intro bl hbl) | ((with_reducible apply p9 (n := 0)); rfl; rfl; kernel_rfl; kernel_rfl; rfl; kernel_rfl; rfl; rfl; rfl; rfl; intro ss bb) | ((with_reducible apply mX); rfl; rfl; rfl; kernel_rfl; (repeat (first | with_reducible exact mh | with_reducible refine mt ?_)); (first | with_reducible assumption | exact aP _ | exact aq _ | exact aQ _ | exact List.length_map _ | assumption | rfl); omega; (intro bq; (repeat (first | with_reducible exact Upd.head _ | with_reducible apply Upd.tail))); intro bb) | refine c_ (fun hc => ?_) (fun hc => ?_) | refine g_ (fun hg => ?_) (fun hg => ?_))
  · obtain rfl := zw (hbl hc)
    refine db 2 1 (by decide) rfl fun ss => ?_
    exact av x_ rfl (ss, 0) trivial rfl (.cons _ _ _ _ (.nil R)) (.refl _) (.tmp _ _ rfl) rfl
  · exact av x_ rfl (_, _) trivial rfl (.cons _ _ _ _ (.nil R)) (.refl _) (.tmp _ _ rfl) rfl
theorem acc {l2 : Nat} {l : List ay} {i : Nat} (h : i < l.length) : (l.map fun x => [TV.sl l2 1 (aO (dps x))])[i]? = some [.sl l2 1 (aO (dps l[i]))] := aH h
theorem aa1 {x : ay} {ds : List Int} (h : bR x.instrs = some ds) : dps x = ds := by unfold dps; rw [h]; rfl
set_option maxHeartbeats 4000000 in
theorem zZ (lo l2 : Nat) (m : ak) (hsm : m.small 1048576) (hdep : ∀ c ∈ m.base.codes, jm c.instrs = true ∧ ∃ ds, bR c.instrs = some ds ∧ ds.length = c.instrs.length) (hsd : fz m)
    (hpl : ∀ (i : Nat) (h : i < m.contexts.length), m.contexts[i].mark = 0 → (0 ≤ m.contexts[i].code ∧ m.contexts[i].code < m.base.codes.length) ∧ 0 ≤ m.contexts[i].pc) (at0 : Int) : Ct Tryz.prog GL 244 [.agg (m.tw lo), .sl l2 1 (m.base.codes.map fun x => [TV.sl l2 1 (aO (dps x))]), .int .i64 at0] (fun _ => .bool (iW m at0)) := by
  refine ao Tryz.func244 rfl Tryz.ntmps244 rfl rfl fun w0 _ hG => ?_
  have hst := df
  have hlx := am.len lo m.contexts
  have hxl := hsm.2.2.2.1.1
  have hcl2 := hsm.1.2.1.1
  have hxr := fun (i : Nat) (h : i < m.contexts.length) => cN (lo := lo) (l := m.contexts) h
  have hdr := fun (i : Nat) (h : i < m.base.codes.length) => acc (l2 := l2) h
  have hdl : (m.base.codes.map fun x => [TV.sl l2 1 (aO (dps x))]).length = m.base.codes.length := by simp
  have hon := fun (k0 a : Int) h => vG (G := GL) w0.heap.size lo m hxl hsd k0 a h
  have hsx := fun (i : Nat) (h : i < m.contexts.length) => (hsm.2.2.2.1.2 _ (List.getElem_mem h)).2.2.1.1
  have hsi := fun (i : Nat) (h : i < m.base.codes.length) => (hsm.1.2.1.2 _ (List.getElem_mem h)).1
  have k1 := aK (G := GL) at0 0 ((m.contexts.length : Int) - 1)
  generalize (m.base.codes.map fun x => [TV.sl l2 1 (aO (dps x))]) = dd at hdr hdl ⊢
  unfold ak.tw at hon ⊢
  by_cases hin : 0 ≤ at0 ∧ at0 < m.contexts.length
  case neg =>
    rw [ji fun h => hin (by
      obtain ⟨c, hc, _⟩ := h
      obtain ⟨h0, h1, _⟩ := lE hc
      omega)]
    rw [show inR at0 0 ((m.contexts.length : Int) - 1) = false from by simp only [inR, decide_eq_false_iff_not]; omega] at k1
    by_cases hz : 1 ≤ m.contexts.length
    · rw [show (m.contexts.length : Int) - 1 = ((m.contexts.length - 1 : Nat) : Int) by omega] at k1
      repeat' (first | refine W_ ?_ | refine aE ?_ | refine ab hG hst (k1) ?_ | refine c_ (fun hc => ?_) (fun hc => ?_) | refine g_ (fun hg => ?_) (fun hg => ?_))
      exact r1_
    · repeat' (first | refine W_ ?_ | refine aE ?_ | refine ab hG hst (k1) ?_ | refine c_ (fun hc => ?_) (fun hc => ?_) | refine g_ (fun hg => ?_) (fun hg => ?_))
      exact r1_
  rw [show inR at0 0 ((m.contexts.length : Int) - 1) = true from by simp only [inR, decide_eq_true_eq]; omega] at k1
  rw [show (m.contexts.length : Int) - 1 = ((m.contexts.length - 1 : Nat) : Int) by omega] at k1
  obtain ⟨u, rfl⟩ : ∃ u : Nat, at0 = u := ⟨at0.toNat, by omega⟩
  have hu : u < m.contexts.length := by omega
  have hru := hxr u hu
  by_cases hm0 : m.contexts[u].mark = 0
  case neg =>
    rw [ji fun h => by
      obtain ⟨c, hc, h0, _⟩ := h
      rw [jn hu] at hc
      cases hc
      exact hm0 h0]
    have hm0' : m.contexts[u].mark ≠ 0 := hm0
    generalize m.contexts[u] = c at hru hm0'
    repeat' (first | refine W_ ?_ | refine aE ?_ | refine ab hG hst (k1) ?_ | refine c_ (fun hc => ?_) (fun hc => ?_) | refine g_ (fun hg => ?_) (fun hg => ?_))
    exact r1_
  have hm0' : ¬ m.contexts[u].mark ≠ 0 := fun h => h hm0
  have hiff : di m (u : Int) ↔ we m 0 (u : Int) := ⟨fun h => by
    obtain ⟨c, _, _, h3⟩ := h
    exact h3, fun h => ⟨_, jn hu, hm0, h⟩⟩
  clear hm0
  generalize m.contexts[u] = c at hru hm0'
  repeat' (first | refine W_ ?_ | refine aE ?_ | refine ab hG hst (k1) ?_ | refine c_ (fun hc => ?_) (fun hc => ?_) | refine g_ (fun hg => ?_) (fun hg => ?_))
  apply aj (X := Int × Int) [1, 3] (fun x => [(7, .int .i64 x.1), (8, .int .i64 x.2)]) (fun _ => []) (fun x => (-1 ≤ x.1 ∧ x.1 < m.contexts.length) ∧ (di m (u : Int) ↔ we m x.2 x.1)) (fun x => (x.1 + 1).toNat) ((u : Int), 0) ⟨by dsimp only; omega, hiff⟩
  exact kp_; exact nw_
  · exact .refl _
  clear hiff k1 hru hm0'
  rintro ⟨k, less⟩ ⟨hk, hiff⟩
  dsimp only at hk hiff ⊢
  by_cases hneg : k < 0
  · rw [qG (hiff.2 (.out _ _ hneg))]
    repeat' (first | refine W_ ?_ | refine c_ (fun hc => ?_) (fun hc => ?_) | refine g_ (fun hg => ?_) (fun hg => ?_))
    exact r1_
  obtain ⟨n, rfl⟩ : ∃ n : Nat, k = n := ⟨k.toNat, by omega⟩
  have hn : n < m.contexts.length := by omega
  have hrn := hxr n hn
  have hst2 := hiff.trans (lR hn)
  have hsn := hsd n hn
  have hpn := hpl n hn
  have hsz := hsx n hn
  have hot := hon m.contexts[n].sender m.contexts[n].other (by omega)
  clear hxr hpl hon hsd hsx
  have hF : mW m m.contexts[n] less = false → iW m (u : Int) = false := fun h => ji fun hc => by have := (hst2.1 hc).1; rw [h] at this; cases this
  have hT : mW m m.contexts[n] less = true → (di m (u : Int) ↔ we m 1 m.contexts[n].sender) := fun h => ⟨fun hc => (hst2.1 hc).2, fun hw => hst2.2 ⟨h, hw⟩⟩
  clear hst2
  unfold mW at hF hT
  by_cases hm0 : m.contexts[n].mark = 0
  · rw [if_pos hm0] at hF hT
    obtain ⟨⟨c0, c1⟩, c2⟩ := hpn hm0
    obtain ⟨q, hq⟩ : ∃ q : Nat, m.contexts[n].code = q := ⟨m.contexts[n].code.toNat, by omega⟩
    obtain ⟨p, hp⟩ : ∃ p : Nat, m.contexts[n].pc = p := ⟨m.contexts[n].pc.toNat, by omega⟩
    have hql : q < m.base.codes.length := by omega
    obtain ⟨_, ds, hds, hdsl⟩ := hdep _ (List.getElem_mem hql)
    have hB := xo (less := less) hq (List.getElem?_eq_getElem hql) hp hds
    have hdq := hdr q hql
    rw [aa1 hds] at hdq
    have hil := hsi q hql
    rw [hB] at hF hT
    rw [hq, hp] at hrn
    rw [← hdsl] at hF hT hil
    clear hB hdr hsi hot hds hdep hdsl
    have hol := aq ds
    generalize m.contexts[n] = c at hrn hm0 hsn hT hF hsz
    obtain ⟨mk, cc, pc, sd, ou, hm, ⟨sk, sn, st⟩, slots, stack, values, oth, rt⟩ := c
    dsimp only at hrn hm0 hsn hT hF hsz
    have htl := ae.len lo stack
    by_cases hpl : p < ds.length
    case neg =>
      rw [hF (by rw [decide_eq_false hpl, Bool.false_and])]
      repeat' (first | refine V_ ?_ | (refine ai ?_; intro ss bb) | refine ad ?_ | refine c_ (fun hc => ?_) (fun hc => ?_) | refine g_ (fun hg => ?_) (fun hg => ?_))
      exact r1_
    rw [decide_eq_true hpl, Bool.true_and] at hF hT
    have hgp := eN (o := ds) (j := p) (by omega)
    generalize hW : IntKind.i64.wrap (gd ds (p : Int) - less) = W at hF hT
    generalize gd ds (p : Int) = g at hgp hW hF hT
    by_cases hg0 : 0 ≤ g
    case neg =>
      rw [hF (by rw [decide_eq_false hg0, Bool.false_and])]
      repeat' (first | refine V_ ?_ | (refine ai ?_; intro ss bb) | refine ad ?_ | refine c_ (fun hc => ?_) (fun hc => ?_) | refine g_ (fun hg => ?_) (fun hg => ?_))
      exact r1_
    rw [decide_eq_true hg0, Bool.true_and] at hF hT
    have hg0' : ¬ g < 0 := by omega
    by_cases hsW : (stack.length : Int) = W
    case neg =>
      have hsW' : (stack.length : Int) ≠ W := hsW
      rw [hF (decide_eq_false hsW)]
      repeat' (first | refine V_ ?_ | (refine ai ?_; intro ss bb) | refine ad ?_ | refine c_ (fun hc => ?_) (fun hc => ?_) | refine g_ (fun hg => ?_) (fun hg => ?_))
      exact r1_
    have hsW' : ¬ (stack.length : Int) ≠ W := fun h => h hsW
    replace hT := hT (decide_eq_true hsW)
    repeat' (first | refine V_ ?_ | (refine ai ?_; intro ss bb) | refine ad ?_ | refine c_ (fun hc => ?_) (fun hc => ?_) | refine g_ (fun hg => ?_) (fun hg => ?_))
    exact ah (sd, 1) ⟨by dsimp only; omega, hT⟩ (by dsimp only; omega) (.of _ nw_ od_ pk_)
  rw [if_neg hm0] at hF hT
  clear hpn hdr hsi hdep
  by_cases hm35 : m.contexts[n].mark = 3 ∨ m.contexts[n].mark = 5
  · rw [if_pos hm35] at hF hT
    generalize onB m m.contexts[n].other m.contexts[n].sender = b at hot hF hT
    generalize m.contexts[n] = c at hrn hm0 hm35 hsn hT hot
    rcases hm35 with hm3 | hm5
    · have hm5 : ¬ c.mark = 5 := by omega
      cases b
      · rw [hF rfl]
        repeat' (first | refine W_ ?_ | (refine ai ?_; intro ss bb) | refine ad ?_ | refine ab hG hst (hot) ?_ | refine c_ (fun hc => ?_) (fun hc => ?_) | refine g_ (fun hg => ?_) (fun hg => ?_))
        exact r1_
      · repeat' (first | refine W_ ?_ | (refine ai ?_; intro ss bb) | refine ad ?_ | refine ab hG hst (hot) ?_ | refine c_ (fun hc => ?_) (fun hc => ?_) | refine g_ (fun hg => ?_) (fun hg => ?_))
        exact ah (c.sender, 1) ⟨by dsimp only; omega, hT rfl⟩ (by dsimp only; omega) (.of _ nw_ od_ pk_)
    · have hm3 : ¬ c.mark = 3 := by omega
      cases b
      · rw [hF rfl]
        repeat' (first | refine W_ ?_ | (refine ai ?_; intro ss bb) | refine ad ?_ | refine ab hG hst (hot) ?_ | refine c_ (fun hc => ?_) (fun hc => ?_) | refine g_ (fun hg => ?_) (fun hg => ?_))
        exact r1_
      · repeat' (first | refine W_ ?_ | (refine ai ?_; intro ss bb) | refine ad ?_ | refine ab hG hst (hot) ?_ | refine c_ (fun hc => ?_) (fun hc => ?_) | refine g_ (fun hg => ?_) (fun hg => ?_))
        exact ah (c.sender, 1) ⟨by dsimp only; omega, hT rfl⟩ (by dsimp only; omega) (.of _ nw_ od_ pk_)
  · rw [if_neg hm35] at hT
    have hm3 : ¬ m.contexts[n].mark = 3 := fun h => hm35 (.inl h)
    have hm5 : ¬ m.contexts[n].mark = 5 := fun h => hm35 (.inr h)
    generalize m.contexts[n] = c at hrn hm0 hm3 hm5 hsn hT
    repeat' (first | refine W_ ?_ | (refine ai ?_; intro ss bb) | refine ad ?_ | refine c_ (fun hc => ?_) (fun hc => ?_) | refine g_ (fun hg => ?_) (fun hg => ?_))
    exact ah (c.sender, 1) ⟨by dsimp only; omega, hT rfl⟩ (by dsimp only; omega) (.of _ nw_ od_ pk_)
end Go.Proofs.YtiihihgjiklnoaaGreatDoor
