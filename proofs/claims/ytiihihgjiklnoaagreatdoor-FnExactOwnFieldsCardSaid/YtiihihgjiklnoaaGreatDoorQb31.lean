/- Part 31 of the proof: the texts ImG, ImK. -/
import Derived.Test.YtiihihgjiklnoaaGreatDoorQb28
import Derived.Test.YtiihihgjiklnoaaGreatDoorQb25
import Derived.Test.YtiihihgjiklnoaaGreatDoorQb16
/- IsImage: ways outwards, blocks: both sides. -/
namespace Go.Proofs.YtiihihgjiklnoaaGreatDoor
set_option maxRecDepth 20000
set_option maxHeartbeats 2000000
open Go Go.RowKit
section
variable {G : World → Prop}
theorem cN {lo : Nat} {l : List am} {i : Nat} (h : i < l.length) : (l.map (am.tw lo))[i]? = some [.int .i64 l[i].mark, .int .i64 l[i].code, .int .i64 l[i].pc, .int .i64 l[i].sender, .int .i64 l[i].outer, .int .i64 l[i].home, .int .i64 l[i].self.kind, .int .i64 l[i].self.number, .str l[i].self.text, .sl lo 3 (l[i].slots.map (ae.tw lo)), .sl lo 3 (l[i].stack.map (ae.tw lo)), .sl lo 3 (l[i].values.map (ae.tw lo)), .int .i64 l[i].other, .bool l[i].retry] := aH h
open Classical in
theorem vK (f lo : Nat) (m : ak) (_hcl : m.contexts.length ≤ 1048576) (hs : fz m) (k0 a : Int) (hk0 : -1 ≤ k0 ∧ k0 < m.contexts.length) : Ct Tryz.prog G 234 [.cp f (m.tw lo), .int .i64 k0, .int .i64 a] (fun _ => .bool (onB m a k0)) := by
  refine ao Tryz.func234 rfl Tryz.ntmps234 rfl rfl fun w0 _ hG => ?_
  have hlen := am.len lo m.contexts
  unfold ak.tw
  repeat' (first | refine W_ ?_ | refine c_ (fun hc => ?_) (fun hc => ?_) | refine g_ (fun hg => ?_) (fun hg => ?_))
  apply aj (X := Int) [0, 2] (fun k => [(1, .int .i64 k)]) (fun _ => []) (fun k => (-1 ≤ k ∧ k < m.contexts.length) ∧ (OnW m a k0 ↔ OnW m a k)) (fun k => (k + 1).toNat) k0 ⟨hk0, Iff.rfl⟩
  exact kp_; exact nw_
  · exact .refl _
  rintro k ⟨hk, hiff⟩
  try dsimp only
  by_cases hneg : k < 0
  · have e : onB m a k0 = decide (a = -1) := decide_eq_decide.2 (hiff.trans ((yj hneg).trans (by omega)))
    rw [e]
    repeat' (first | refine W_ ?_ | refine c_ (fun hc => ?_) (fun hc => ?_) | refine g_ (fun hg => ?_) (fun hg => ?_))
    refine aB x_ rfl (.tmp _ _ rfl) (fun _ => ?_)
    exact aJ rfl
  obtain ⟨n, rfl⟩ : ∃ n : Nat, k = n := ⟨k.toNat, by omega⟩
  have hn : n < m.contexts.length := by omega
  by_cases hka : (n : Int) = a
  · have e : onB m a k0 = true := decide_eq_true (hiff.2 (hka ▸ .here))
    rw [e]
    repeat' (first | refine W_ ?_ | refine c_ (fun hc => ?_) (fun hc => ?_) | refine g_ (fun hg => ?_) (fun hg => ?_))
    exact r1_
  · have hrow := cN (lo := lo) hn
    have hp := hs n hn
    have hst2 := hiff.trans (uD hn hka)
    generalize m.contexts[n] = c at hrow hp hst2
    repeat' (first | refine W_ ?_ | refine c_ (fun hc => ?_) (fun hc => ?_) | refine g_ (fun hg => ?_) (fun hg => ?_))
    exact ah c.sender ⟨by omega, hst2⟩ (by omega) (.of _ nw_ od_ pk_)
open Classical in
theorem vG (f lo : Nat) (m : ak) (_hcl : m.contexts.length ≤ 1048576) (hs : fz m) (k0 a : Int) (hk0 : -1 ≤ k0 ∧ k0 < m.contexts.length) : Ct Tryz.prog G 246 [.cp f (m.tw lo), .int .i64 k0, .int .i64 a] (fun _ => .bool (onB m a k0)) := by
  refine ao Tryz.func246 rfl Tryz.ntmps246 rfl rfl fun w0 _ hG => ?_
  have hlen := am.len lo m.contexts
  unfold ak.tw
  repeat' (first | refine W_ ?_ | refine c_ (fun hc => ?_) (fun hc => ?_) | refine g_ (fun hg => ?_) (fun hg => ?_))
  apply aj (X := Int) [0, 2] (fun k => [(1, .int .i64 k)]) (fun _ => []) (fun k => (-1 ≤ k ∧ k < m.contexts.length) ∧ (OnW m a k0 ↔ OnW m a k)) (fun k => (k + 1).toNat) k0 ⟨hk0, Iff.rfl⟩
  exact kp_; exact nw_
  · exact .refl _
  rintro k ⟨hk, hiff⟩
  try dsimp only
  by_cases hneg : k < 0
  · have e : onB m a k0 = decide (k = a) := decide_eq_decide.2 (hiff.trans (yj hneg))
    rw [e]
    repeat' (first | refine W_ ?_ | refine c_ (fun hc => ?_) (fun hc => ?_) | refine g_ (fun hg => ?_) (fun hg => ?_))
    refine aB x_ rfl (.tmp _ _ rfl) (fun _ => ?_)
    exact aJ rfl
  obtain ⟨n, rfl⟩ : ∃ n : Nat, k = n := ⟨k.toNat, by omega⟩
  have hn : n < m.contexts.length := by omega
  by_cases hka : (n : Int) = a
  · have e : onB m a k0 = true := decide_eq_true (hiff.2 (hka ▸ .here))
    have hne : ¬ ((n : Int) ≠ a) := fun h => h hka
    rw [e]
    repeat' (first | refine W_ ?_ | refine c_ (fun hc => ?_) (fun hc => ?_) | refine g_ (fun hg => ?_) (fun hg => ?_))
    refine aB x_ rfl (.tmp _ _ rfl) (fun _ => ?_)
    exact aJ (decide_eq_true hka)
  · have hrow := cN (lo := lo) hn
    have hp := hs n hn
    have hst2 := hiff.trans (uD hn hka)
    have hne : (n : Int) ≠ a := hka
    generalize m.contexts[n] = c at hrow hp hst2
    repeat' (first | refine W_ ?_ | refine c_ (fun hc => ?_) (fun hc => ?_) | refine g_ (fun hg => ?_) (fun hg => ?_))
    exact ah c.sender ⟨by omega, hst2⟩ (by omega) (.of _ nw_ od_ pk_)
end
theorem vj {m : ak} {v : ae} (h : tj m v) (h7 : v.kind = 7) : 0 ≤ v.number ∧ v.number < m.blocks.length := by
  unfold tj ck jA at h
  rw [h7] at h
  simp at h
  omega
theorem aas {m : ak} {v : ae} (h : tj m v) (h5 : v.kind = 5) : 0 ≤ v.number ∧ v.number < m.store.classes.length := by
  unfold tj ck jA at h
  rw [h5] at h
  simp at h
  omega
theorem aaq {m : ak} {v : ae} (h : tj m v) (h0 : v.kind = 0) : v = ⟨0, 0, ⟨#[]⟩⟩ := by
  obtain ⟨k, n, t⟩ := v
  dsimp only at h0
  subst h0
  unfold tj ck jA at h
  simp at h
  rw [h.1, h.2]
theorem x5 {m : ak} {v : ae} {most : Int} {n q : Nat} {b : ap} {x : ay} (h7 : v.kind = 7) (hn : v.number = n) (hb : m.blocks[n]? = some b) (hq : b.code = q) (hx : m.base.codes[q]? = some x) : ac4 m v most ↔ x.params ≤ most := by
  unfold ac4 cdA
  rw [hn, Int.toNat_natCast, hb]
  constructor
  · rintro ⟨_, b', x', hb', hx', h⟩
    cases hb'
    rw [hq, if_pos (by omega), Int.toNat_natCast, hx] at hx'
    cases hx'
    exact h
  · intro h
    exact ⟨h7, b, x, rfl, by rw [hq, if_pos (by omega), Int.toNat_natCast, hx], h⟩
theorem pU {lo : Nat} {l : List ap} {i : Nat} (h : i < l.length) : (l.map (ap.tw lo))[i]? = some [.int .i64 l[i].code, .int .i64 l[i].outer, .int .i64 l[i].home, .int .i64 l[i].self.kind, .int .i64 l[i].self.number, .str l[i].self.text] := aH h
section
variable {G : World → Prop}
open Classical in
theorem tR (lo : Nat) (m : ak) (_hbl : m.blocks.length ≤ 1048576) (_hcl : m.base.codes.length ≤ 1048576) (n q : Nat) (b : ap) (x : ay) (hb : m.blocks[n]? = some b) (hq : b.code = q) (hx : m.base.codes[q]? = some x) : Ct Tryz.prog G 292 [.agg (m.tw lo), .int .i64 (n : Int)] (fun _ => .int .i64 x.params) := by
  refine ao Tryz.func292 rfl Tryz.ntmps292 rfl rfl fun w0 _ hG => ?_
  have hlen := ap.len lo m.blocks
  have hlc := ay.len lo m.base.codes
  obtain ⟨h1, e1⟩ := List.getElem?_eq_some_iff.1 hb
  obtain ⟨h2, e2⟩ := List.getElem?_eq_some_iff.1 hx
  have hr1 := pU (lo := lo) h1
  have hr2 := bL (lo := lo) h2
  rw [e1] at hr1
  rw [e2] at hr2
  rw [hq] at hr1
  unfold ak.tw
  repeat' (first | refine V_ ?_ | refine aE ?_ | refine c_ (fun hc => ?_) (fun hc => ?_) | refine g_ (fun hg => ?_) (fun hg => ?_))
  exact r1_
open Classical in
theorem wk (hst : az G) (lo : Nat) (m : ak) (hbl : m.blocks.length ≤ 1048576) (hcl : m.base.codes.length ≤ 1048576) (hbc : ∀ b ∈ m.blocks, 0 ≤ b.code ∧ b.code < m.base.codes.length) (v : ae) (hv : tj m v) (most : Int) : Ct Tryz.prog G 278 [.agg (m.tw lo), .agg [.int .i64 v.kind, .int .i64 v.number, .str v.text], .int .i64 most] (fun _ => .bool (sL m v most)) := by
  refine ao Tryz.func278 rfl Tryz.ntmps278 rfl rfl fun w0 _ hG => ?_
  by_cases h7 : v.kind = 7
  case neg =>
    rw [show sL m v most = false from decide_eq_false fun h => h7 h.1]
    unfold ak.tw
    repeat' (first | refine W_ ?_ | refine aE ?_ | refine c_ (fun hc => ?_) (fun hc => ?_) | refine g_ (fun hg => ?_) (fun hg => ?_))
    exact r1_
  have hr := vj hv h7
  obtain ⟨n, hn⟩ : ∃ n : Nat, v.number = n := ⟨v.number.toNat, by omega⟩
  have h1 : n < m.blocks.length := by omega
  have h2 := hbc _ (List.getElem_mem h1)
  obtain ⟨q, hq⟩ : ∃ q : Nat, m.blocks[n].code = q := ⟨m.blocks[n].code.toNat, by omega⟩
  have h3 : q < m.base.codes.length := by omega
  have hiff := x5 (most := most) h7 hn (List.getElem?_eq_getElem h1) hq (List.getElem?_eq_getElem h3)
  have hct := tR (G := G) lo m hbl hcl n q _ _ (List.getElem?_eq_getElem h1) hq (List.getElem?_eq_getElem h3)
  rw [show sL m v most = decide (m.base.codes[q].params ≤ most) from decide_eq_decide.2 hiff, h7, hn]
  generalize m.base.codes[q].params = pr at hct
  unfold ak.tw at hct ⊢
  repeat' (first | refine W_ ?_ | refine aE ?_ | refine ab hG hst (hct) ?_ | refine c_ (fun hc => ?_) (fun hc => ?_) | refine g_ (fun hg => ?_) (fun hg => ?_))
  refine aB x_ rfl (.tmp _ _ rfl) (fun _ => ?_)
  exact aJ rfl
open Classical in
theorem uh (hst : az G) (f lo : Nat) (m : ak) (_hbl : m.blocks.length ≤ 1048576) (hcl : m.base.codes.length ≤ 1048576) (hc1 : 1 ≤ m.base.codes.length) (v : ae) (hv : tj m v) (most : Int) : Ct Tryz.prog G 274 [.cp f (m.tw lo), .agg [.int .i64 v.kind, .int .i64 v.number, .str v.text], .int .i64 most] (fun _ => .bool (sL m v most)) := by
  refine ao Tryz.func274 rfl Tryz.ntmps274 rfl rfl fun w0 _ hG => ?_
  have hlen := ap.len lo m.blocks
  have hlc := ay.len lo m.base.codes
  by_cases h7 : v.kind = 7
  case neg =>
    rw [show sL m v most = false from decide_eq_false fun h => h7 h.1]
    unfold ak.tw
    repeat' (first | refine V_ ?_ | refine aE ?_ | refine c_ (fun hc => ?_) (fun hc => ?_) | refine g_ (fun hg => ?_) (fun hg => ?_))
    exact r1_
  have hr := vj hv h7
  obtain ⟨n, hn⟩ : ∃ n : Nat, v.number = n := ⟨v.number.toNat, by omega⟩
  have h1 : n < m.blocks.length := by omega
  have hr1 := pU (lo := lo) h1
  have hbg : m.blocks[n]? = some m.blocks[n] := List.getElem?_eq_getElem h1
  generalize m.blocks[n] = b at hr1 hbg
  have c1 := a7 (G := G) b.code 0 ((m.base.codes.length - 1 : Nat) : Int)
  have hsub : (m.base.codes.length : Int) - 1 = ((m.base.codes.length - 1 : Nat) : Int) := by omega
  by_cases h2 : 0 ≤ b.code ∧ b.code < m.base.codes.length
  case neg =>
    rw [show inR b.code 0 ((m.base.codes.length - 1 : Nat) : Int) = false from by simp only [inR, decide_eq_false_iff_not]; omega] at c1
    rw [show sL m v most = false from decide_eq_false fun h => by
      obtain ⟨_, b', x, hb', hx, _⟩ := h
      rw [hn, Int.toNat_natCast, hbg] at hb'
      cases hb'
      obtain ⟨h3, h4, _⟩ := aav hx
      omega]
    rw [h7, hn]
    unfold ak.tw
    repeat' (first | refine V_ ?_ | refine aE ?_ | refine ac hG hst (c1) ?_ | refine c_ (fun hc => ?_) (fun hc => ?_) | refine g_ (fun hg => ?_) (fun hg => ?_))
    exact r1_
  rw [show inR b.code 0 ((m.base.codes.length - 1 : Nat) : Int) = true from by simp only [inR, decide_eq_true_eq]; omega] at c1
  obtain ⟨q, hq⟩ : ∃ q : Nat, b.code = q := ⟨b.code.toNat, by omega⟩
  have h3 : q < m.base.codes.length := by omega
  have hiff := x5 (most := most) h7 hn hbg hq (List.getElem?_eq_getElem h3)
  have hr2 := bL (lo := lo) h3
  rw [show sL m v most = decide (m.base.codes[q].params ≤ most) from decide_eq_decide.2 hiff, h7, hn]
  rw [hq] at hr1 c1
  generalize m.base.codes[q] = x at hr2
  unfold ak.tw
  repeat' (first | refine V_ ?_ | refine aE ?_ | refine ac hG hst (c1) ?_ | refine c_ (fun hc => ?_) (fun hc => ?_) | refine g_ (fun hg => ?_) (fun hg => ?_))
  refine aB x_ rfl (.tmp _ _ rfl) (fun _ => ?_)
  exact aJ rfl
end
theorem qZ (k : Int) : k = 1 ∨ k = 2 ∨ k = 3 ∨ k = 4 ∨ k = 5 ∨ (¬ k = 1 ∧ ¬ k = 2 ∧ ¬ k = 3 ∧ ¬ k = 4 ∧ ¬ k = 5) := by omega
theorem acV {α : Type} {l : List α} (h : l.length = 1) : ∃ a, l = [a] := by
  match l, h with
  | [a], _ => exact ⟨a, rfl⟩
theorem adG {α : Type} {l : List α} (h : l.length = 3) : ∃ a b c, l = [a, b, c] := by
  match l, h with
  | [a, b, c], _ => exact ⟨a, b, c, rfl⟩
theorem tb {m : ak} {k i : Int} (h : inR i 0 (k - 1) = false) : doB m k i = false := by unfold doB; rw [h, Bool.false_and]
theorem x1 {m : ak} {k i : Int} (h : inR i 0 (k - 1) = true) : doB m k i = decide (mkA m i = 1) := by unfold doB; rw [h, Bool.true_and]
theorem yz {m : ak} {k : Nat} (h : k < m.contexts.length) : mkA m (k : Int) = m.contexts[k].mark := by
  unfold mkA; rw [jn h]
theorem ab5 {m : ak} {k n : Int} {t : ByteArray} (h : ck m.store m.blocks.length ⟨k, n, t⟩ = true) : eqV ⟨k, n, t⟩ ⟨0, 0, ⟨#[]⟩⟩ = decide (k = 0) := by
  by_cases hk : k = 0
  · rw [decide_eq_true hk, aaq (m := m) h hk]; rfl
  · unfold eqV
    rw [decide_eq_false hk, Bool.false_and]
theorem uA {m : ak} {k : Nat} {c : am} (h : k < m.contexts.length) (e : m.contexts[k] = c) : cxA m (k : Int) = some c := by rw [jn h, e]
theorem uL {m : ak} {k : Nat} {c : ay} (h : k < m.base.codes.length) (e : m.base.codes[k] = c) : cdA m (k : Int) = some c := by rw [abS h, e]
set_option maxRecDepth 20000
set_option maxHeartbeats 2000000
theorem vf (is : List ag) (hp : jm is = true) : ∀ (f : Nat) (ds : List Int) (q : List Nat) (r : List Int), DSt is.length ds q f → qi is (kD is) f ds q = some r → r.length = is.length
  | _, ds, [], r, h, e => by simp [qi] at e; subst e; exact h.len
  | 0, _, _ :: _, r, _, e => by simp [qi] at e
  | f + 1, ds, p :: q, r, h, e => by
    obtain ⟨j, hj, hst, hpl, hg⟩ := h.pop
    obtain rfl : f = j := by omega
    rw [hY _ _ _ _ _ hpl] at e
    have hpi : dv is.length is[p] = true := List.all_eq_true.1 hp _ (List.getElem_mem _)
    cases hs : kD is is[p] p ds with
    | none => rw [hs] at e; cases e
    | some s =>
      rw [hs] at e
      have hsel : is[p].op = 14 → 0 ≤ is[p].eff.1 := fun h14 => by
        simp only [dv, Bool.and_eq_true] at hpi
        have := hpi.1.2
        simp [h14] at this
        simp [ag.eff, h14]; exact this
      unfold kD at hs
      by_cases ht : gd ds p < is[p].eff.1
      · rw [if_pos ht] at hs; cases hs
      · rw [if_neg ht] at hs
        by_cases hA : (is[p].labs.any (fY is p is[p].op)) = true
        · rw [if_pos hA] at hs; cases hs
        · rw [if_neg hA] at hs
          have hst' := iK _ ds q [] s (fA _ p _ hg ht hsel) (by rw [List.append_nil]; exact hst) hs
          exact vf is hp f s.1 (q ++ s.2) r hst' e
theorem tk (is r) (h : bR is = some r) : r.length = is.length := by
  unfold bR at h
  split at h
  · cases h
  · split at h
    · rename_i h0 hp
      exact vf is hp _ _ _ _ (lM (by omega)) h
    · cases h
open Classical in
theorem lY {x : aA} (hv : cV x = true) : ∀ c ∈ x.codes, jm c.instrs = true ∧ ∃ ds, bR c.instrs = some ds ∧ ds.length = c.instrs.length := fun c hc => by
  have h : eb x := of_decide_eq_true hv
  obtain ⟨o, ho, hok⟩ := h.2.2.2.2
  obtain ⟨k, hk, rfl⟩ := List.getElem_of_mem hc
  obtain ⟨_, h2, h3⟩ := hok k hk
  obtain ⟨ds, hds⟩ := Option.isSome_iff_exists.1 h3
  exact ⟨oV h2, ds, hds, tk _ _ hds⟩
set_option maxHeartbeats 4000000 in
theorem pQ (f lo l2 : Nat) (m : ak) (hsm : m.small 1048576) (hc1 : 1 ≤ m.base.codes.length) (o : List Int) (ho : o.length = m.base.codes.length) (b : ap) : Ct Tryz.prog GL 167 [.cp f (m.tw lo), .agg [.int .i64 b.code, .int .i64 b.outer, .int .i64 b.home, .int .i64 b.self.kind, .int .i64 b.self.number, .str b.self.text], .sl l2 1 (aO o)] (fun _ => .bool (ja m o b)) := by
  refine ao Tryz.func167 rfl Tryz.ntmps167 rfl rfl fun w0 _ hG => ?_
  have hst := df
  have hlx := am.len lo m.contexts
  have hlc := ay.len lo m.base.codes
  have hxl := hsm.2.2.2.1.1
  have hcl2 := hsm.1.2.1.1
  have hol := aq o
  have hgo := fun (j : Nat) (h : j < o.length) => eN (o := o) h
  have hxi := fun (i : Nat) (h : i < m.contexts.length) => uA (m := m) h rfl
  have hci := fun (i : Nat) (h : i < m.base.codes.length) => uL (m := m) h rfl
  have hxr := fun (i : Nat) (h : i < m.contexts.length) => cN (lo := lo) (l := m.contexts) h
  have hcr := fun (i : Nat) (h : i < m.base.codes.length) => bL (lo := lo) (cs := m.base.codes) h
  obtain ⟨bc, bo, bh, ⟨bk, bn, bt⟩⟩ := b
  have k1 := a7 (G := GL) bc 0 ((m.base.codes.length : Int) - 1)
  have k2 := a7 (G := GL) bo 0 ((m.contexts.length : Int) - 1)
  unfold ja
  unfold ak.tw
  dsimp only
  cases h1 : inR bc 0 ((m.base.codes.length : Int) - 1)
  case false =>
    rw [Bool.false_and]
    rw [h1] at k1
    rw [show (m.base.codes.length : Int) - 1 = ((m.base.codes.length - 1 : Nat) : Int) by omega] at k1
    repeat' (first | refine V_ ?_ | refine aE ?_ | refine ac hG hst (k1) ?_ | refine c_ (fun hc => ?_) (fun hc => ?_) | refine g_ (fun hg => ?_) (fun hg => ?_))
    exact r1_
  rw [Bool.true_and]
  rw [h1] at k1
  rw [show (m.base.codes.length : Int) - 1 = ((m.base.codes.length - 1 : Nat) : Int) by omega] at k1
  have h1' := of_decide_eq_true h1
  obtain ⟨q, rfl⟩ : ∃ q : Nat, bc = q := ⟨bc.toNat, by omega⟩
  have hq : q < m.base.codes.length := by omega
  have hrq := hcr q hq
  have hqo := hgo q (by omega)
  rw [hci q hq]
  generalize m.base.codes[q] = x at hrq ⊢
  obtain ⟨xb, xp, xs, xi⟩ := x
  dsimp only at hrq ⊢
  cases xb
  case false =>
    rw [Bool.false_and]
    repeat' (first | refine V_ ?_ | refine aE ?_ | refine ac hG hst (k1) ?_ | refine c_ (fun hc => ?_) (fun hc => ?_) | refine g_ (fun hg => ?_) (fun hg => ?_))
    exact r1_
  rw [Bool.true_and]
  cases h2 : inR bo 0 ((m.contexts.length : Int) - 1)
  case false =>
    rw [Bool.false_and]
    rw [h2] at k2
    repeat' (first | refine V_ ?_ | refine aE ?_ | refine ac hG hst (k1) ?_ | refine ac hG hst (k2) ?_ | refine c_ (fun hc => ?_) (fun hc => ?_) | refine g_ (fun hg => ?_) (fun hg => ?_))
    exact r1_
  rw [Bool.true_and]
  rw [h2] at k2
  have h2' := of_decide_eq_true h2
  obtain ⟨u, rfl⟩ : ∃ u : Nat, bo = u := ⟨bo.toNat, by omega⟩
  have hu : u < m.contexts.length := by omega
  have hru := hxr u hu
  rw [hxi u hu]
  rw [show (m.contexts.length : Int) - 1 = ((m.contexts.length - 1 : Nat) : Int) by omega] at k2
  generalize m.contexts[u] = p at hru ⊢
  obtain ⟨pm, pcc, ppc, ps, po, ph, ⟨pk, pn, pt⟩, psl, pst, pva, pot, prt⟩ := p
  unfold eqV
  dsimp only at hru ⊢
  repeat' (first | refine W_ ?_ | refine aE ?_ | ((with_reducible apply vm (id := 3) 8); kernel_rfl; kernel_rfl; kernel_rfl; (repeat (first | exact Cut.zero _ | apply Cut.succ)); rfl; rfl; rfl; rfl; rfl; kernel_rfl; rfl) | ((with_reducible apply u_y); exact yu_; rfl) | (with_reducible refine aaY ?_; intro ss bb) | (refine ai ?_; intro ss bb) | refine ad ?_ | ((with_reducible apply pT); rfl; rfl; kernel_rfl; kernel_rfl; kernel_rfl; rfl; (repeat (first | with_reducible exact mh | with_reducible refine mt ?_)); (repeat (first | exact .zero _ | apply fr.succ))) | ((with_reducible apply qK); rfl; rfl; kernel_rfl; kernel_rfl; kernel_rfl; rfl; (repeat (first | exact .zero _ | apply fr.succ))) | ((with_reducible apply ql); rfl; rfl; kernel_rfl; kernel_rfl; kernel_rfl; rfl; (repeat (first | with_reducible exact mh | with_reducible refine mt ?_)); (first | (with_reducible assumption) | (refine aH ?_; omega) | (refine fi ?_; simp only [List.length_set, List.length_map]; omega) | exact rfl | assumption); (repeat (first | exact .zero _ | apply fr.succ))) | with_reducible refine f8 (by kernel_rfl) (by kernel_rfl) ?_ | with_reducible refine kf ?_ | with_reducible refine gA ?_ | with_reducible refine gB rfl ?_ | refine jM rfl rfl rfl rr_ ?_ | refine gz rfl rfl rfl rr_ rfl rfl rfl ?_ | refine eW rfl rfl rfl rr_ rfl rfl ?_ | (refine pO rfl rfl rfl rr_ dd_ ?_) | (refine qx rfl rfl rfl rr_ dd_ ?_) | (refine eG rfl rfl rfl rr_ (fun hg => ?_) (fun hg => ?_)) | (refine et rfl rfl rfl rr_ (fun hg => ?_) (fun hg => ?_)) | ((with_reducible apply d_y); exact y_; rfl) | refine ac hG hst (k1) ?_ | refine ac hG hst (k2) ?_ | refine c_ (fun hc => ?_) (fun hc => ?_) | refine g_ (fun hg => ?_) (fun hg => ?_))
  all_goals
    refine aB x_ rfl (.tmp _ _ rfl) (fun _ => ?_)
    refine aJ ?_
    first
      | (simp [eqL, eqC, *]; done)
      | (simp_all [eqL, eqC]; done)
theorem xo {m : ak} {c : am} {x : ay} {q p : Nat} {ds : List Int} {less : Int} (hq : c.code = q) (hx : m.base.codes[q]? = some x) (hp : c.pc = p) (hd : bR x.instrs = some ds) : abd m c less = (decide (p < x.instrs.length) && (decide (0 ≤ gd ds (p : Int)) && decide ((c.stack.length : Int) = IntKind.i64.wrap (gd ds (p : Int) - less)))) := by
  unfold abd cdA dps
  rw [hq, if_pos (by omega), Int.toNat_natCast, hx]
  dsimp only
  rw [hd, hp, Option.getD_some]
  congr 1
  rw [decide_eq_decide]; omega
set_option maxHeartbeats 4000000 in
theorem tX (f lo : Nat) (m : ak) (hsm : m.small 1048576) (hdep : ∀ c ∈ m.base.codes, jm c.instrs = true ∧ ∃ ds, bR c.instrs = some ds ∧ ds.length = c.instrs.length) (k : Nat) (hk : k < m.contexts.length)
    (hc : (0 ≤ m.contexts[k].code ∧ m.contexts[k].code < m.base.codes.length) ∧ 0 ≤ m.contexts[k].pc) (less : Int) : Ct Tryz.prog GL 233 [.cp f (m.tw lo), .int .i64 (k : Int), .int .i64 less] (fun _ => .bool (abd m m.contexts[k] less)) := by
  refine ao Tryz.func233 rfl Tryz.ntmps233 rfl rfl fun w0 _ hG => ?_
  have hst := df
  have hrow := cN (lo := lo) hk
  have hlx := am.len lo m.contexts
  have hlc := ay.len lo m.base.codes
  have hxl := hsm.2.2.2.1.1
  have hcl2 := hsm.1.2.1.1
  have hst1 := (hsm.2.2.2.1.2 _ (List.getElem_mem hk)).2.2.1.1
  obtain ⟨⟨c0, c1⟩, c2⟩ := hc
  obtain ⟨q, hq⟩ : ∃ q : Nat, m.contexts[k].code = q := ⟨m.contexts[k].code.toNat, by omega⟩
  obtain ⟨p, hp⟩ : ∃ p : Nat, m.contexts[k].pc = p := ⟨m.contexts[k].pc.toNat, by omega⟩
  have hql : q < m.base.codes.length := by omega
  have hrq := bL (lo := lo) hql
  obtain ⟨hpre, ds, hds, hdl⟩ := hdep _ (List.getElem_mem hql)
  have hB := xo (less := less) hq (List.getElem?_eq_getElem hql) hp hds
  have hxs := hsm.1.2.1.2 _ (List.getElem_mem hql)
  rw [hB]
  clear hB hdep
  rw [hq, hp] at hrow
  generalize m.base.codes[q] = x at hrq hpre hds hdl hxs ⊢
  obtain ⟨xb, xp, xs, is⟩ := x
  dsimp only at hrq hpre hds hdl ⊢
  have hil := ag.len lo is
  have hin : is.length ≤ 1048576 := hxs.1
  have hl16 := lg hst adA 0 lo xb xp xs is hin hxs.2 hpre
  have hnew := xJ (cM is)
  rw [kb lo] at hl16
  unfold dR dO at hl16 hnew
  rw [← oP is hpre, hds] at hl16 hnew
  rw [Option.getD_some, Option.isSome_some] at hl16 hnew
  generalize m.contexts[k] = c at hrow hst1 c0 c1 c2 hq hp ⊢
  obtain ⟨mk, cc, pc, sd, ou, hm, ⟨sk, sn, st⟩, slots, stack, values, oth, rt⟩ := c
  dsimp only at hrow hst1 ⊢
  have htl := ae.len lo stack
  have hol := aq ds
  unfold ak.tw
  repeat' (first | refine H_ 2 ?_ | (refine ai ?_; intro ss bb) | refine ad ?_ | refine c_ (fun hc => ?_) (fun hc => ?_) | refine g_ (fun hg => ?_) (fun hg => ?_))
  refine ⟨?_⟩
  repeat' (first | refine W_ ?_ | ((with_reducible apply lI (id := 2) 10); kernel_rfl; kernel_rfl; kernel_rfl; rfl; (repeat (first | exact Cut.zero _ | apply Cut.succ))) | ((with_reducible apply m_q); exact ym_; rfl; exact zk) | ((with_reducible apply p7); rfl; (intro p; try dsimp only); (repeat (first | exact TB.nil _ | ((with_reducible apply TB.cons); rfl; rfl; (first | exact .nil _ | exact .put _ _ _ _ _ (.nil _) | exact .skip _ _ _ _ _ (.put _ _ _ _ _ (.nil _)) | exact .skip _ _ _ _ _ (.skip _ _ _ _ _ (.put _ _ _ _ _ (.nil _))) | (repeat (first | exact .nil _ | apply cz.put | apply cz.skip))); kernel_rfl))); rfl; kernel_rfl; kernel_rfl; exact zk) | ((with_reducible apply yY); rfl; rfl; kernel_rfl) | (with_reducible refine DM.nil _ _ _ ?_) | refine c_ (fun hc => ?_) (fun hc => ?_) | refine g_ (fun hg => ?_) (fun hg => ?_))
  intro pp hpp
  refine uN (objs' := ((pp 9).a, (pp 9).b, .box [.bool false, .int .i64 0, .int .i64 0, .nils]) :: [(ss, bb, .box [.int .i64 mk, .int .i64 (q : Int), .int .i64 (p : Int), .int .i64 sd, .int .i64 ou, .int .i64 hm, .int .i64 sk, .int .i64 sn, .str st, .sl lo 3 (slots.map (ae.tw lo)), .sl lo 3 (stack.map (ae.tw lo)), .sl lo 3 (values.map (ae.tw lo)), .int .i64 oth, .bool rt])]) (by rw [show qj _ = [_] from rfl]; simp only [List.flatMap_cons, List.flatMap_nil, List.append_nil, List.cons_append, List.nil_append]; (try rfl)) ?_
  dsimp only [Nat.reduceAdd]
  generalize Yu.a (pp 9) = s8; generalize Yu.b (pp 9) = b8
  generalize ss = s7; generalize bb = b7
  repeat' (first | refine H_ 3 ?_ | refine ad ?_ | refine c_ (fun hc => ?_) (fun hc => ?_) | refine g_ (fun hg => ?_) (fun hg => ?_))
  refine ⟨?_⟩
  by_cases hpl : p < is.length
  case neg =>
    rw [decide_eq_false hpl, Bool.false_and]
    repeat' (first | refine W_ ?_ | refine c_ (fun hc => ?_) (fun hc => ?_) | refine g_ (fun hg => ?_) (fun hg => ?_))
    all_goals
      exact r1_
  rw [decide_eq_true hpl, Bool.true_and]
  have hgp := eN (o := ds) (j := p) (by omega)
  have hwr : IntKind.i64.wrap (gd ds (p : Int) - less) = IntKind.i64.wrap (gd ds (p : Int) - less) := rfl
  generalize hW : IntKind.i64.wrap (gd ds (p : Int) - less) = W at hwr ⊢
  generalize gd ds (p : Int) = g at hgp hW hwr ⊢
  clear hwr
  repeat' (first | refine V_ ?_ | ((with_reducible apply ed); rfl; kernel_rfl; exact hG; exact hst; exact hl16; ((with_reducible apply cf.cons); rfl; exact ci.mpSame (cells := [.bool xb, .int .i64 xp, .int .i64 xs, .sl lo 4 (is.map (ag.tw lo))]) mm_); exact cf.nil; exact hnew; rintro ⟨ss, bb⟩ -; refine br ?_) | refine c_ (fun hc => ?_) (fun hc => ?_) | refine g_ (fun hg => ?_) (fun hg => ?_))
  all_goals
    refine aB x_ rfl (.tmp _ _ rfl) (fun _ => ?_)
    refine aJ ?_
    first
      | (simp [*]; done)
      | (simp_all; done)
end Go.Proofs.YtiihihgjiklnoaaGreatDoor
