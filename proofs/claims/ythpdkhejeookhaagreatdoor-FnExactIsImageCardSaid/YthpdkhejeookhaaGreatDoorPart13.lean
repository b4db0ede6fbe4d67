/- Part 13 of the proof: the texts ImG, EngAB, EngAC, EngAD, EngAF, ImK, ImM. -/
import Derived.Test.YthpdkhejeookhaaGreatDoorPart11
import Derived.Test.YthpdkhejeookhaaGreatDoorPart5
import Derived.Test.YthpdkhejeookhaaGreatDoorPart6
import Derived.Test.YthpdkhejeookhaaGreatDoorPart12
/- IsImage: ways outwards, blocks: both sides. -/
namespace Go.Proofs.YthpdkhejeookhaaGreatDoor
set_option maxRecDepth 20000
open Go Go.RowKit
section
variable {G : World → Prop}
theorem cP {lo : Nat} {l : List aL} {i : Nat} (h : i < l.length) : (l.map (aL.tw lo))[i]? = some [.int .i64 l[i].mark, .int .i64 l[i].code, .int .i64 l[i].pc, .int .i64 l[i].sender, .int .i64 l[i].outer, .int .i64 l[i].home, .int .i64 l[i].self.kind, .int .i64 l[i].self.number, .str l[i].self.text, .sl lo 3 (l[i].slots.map (aC.tw lo)), .sl lo 3 (l[i].stack.map (aC.tw lo)), .sl lo 3 (l[i].values.map (aC.tw lo)), .int .i64 l[i].other, .bool l[i].retry] := bg h
open Classical in
theorem rk (f lo : Nat) (m : aM) (_hcl : m.contexts.length ≤ 1048576) (hs : iD m) (k0 a : Int) (hk0 : -1 ≤ k0 ∧ k0 < m.contexts.length) : Ct Tryz.prog G 210 [.cp f (m.tw lo), .int .i64 k0, .int .i64 a] (fun _ => .bool (onB m a k0)) := by
  refine aJ Tryz.func210 rfl Tryz.ntmps210 rfl rfl fun w0 _ hG => ?_
  have hlen := aL.len lo m.contexts
  unfold aM.tw
  repeat' (first | ((with_reducible apply o_y); exact y_; rfl) | with_reducible refine ab rfl ?_ | (with_reducible first | apply ag | apply aa | apply ah | apply ac | apply ai))
  apply aK (X := Int) [0, 2] (fun k => [(1, .int .i64 k)]) (fun _ => []) (fun k => (-1 ≤ k ∧ k < m.contexts.length) ∧ (OnW m a k0 ↔ OnW m a k)) (fun k => (k + 1).toNat) k0 ⟨hk0, Iff.rfl⟩
  exact kp_; (repeat (first | exact bj.envNil | refine bj.envCons we_ ?_))
  · exact .refl _
  rintro k ⟨hk, hiff⟩
  try dsimp only
  by_cases hneg : k < 0
  · have e : onB m a k0 = decide (a = -1) := decide_eq_decide.2 (hiff.trans ((uf hneg).trans (by omega)))
    rw [e]
    repeat' (first | ((with_reducible apply o_y); exact y_; rfl) | with_reducible refine ab rfl ?_ | (with_reducible first | apply ag | apply aa | apply ah | apply ac | apply aH | apply au | apply ar | apply aq) | (refine aj rfl rr_ dd_ ?_))
    refine ao x_ rfl (.tmp _ _ rfl) (fun _ => ?_)
    exact aZ rfl
  obtain ⟨n, rfl⟩ : ∃ n : Nat, k = n := ⟨k.toNat, by omega⟩
  have hn : n < m.contexts.length := by omega
  by_cases hka : (n : Int) = a
  · have e : onB m a k0 = true := decide_eq_true (hiff.2 (hka ▸ .here))
    rw [e]
    repeat' (first | ((with_reducible apply o_y); exact y_; rfl) | with_reducible refine ab rfl ?_ | (with_reducible first | apply ag | apply aa | apply ah | apply ac | apply ai | apply ap | apply au | apply ad | apply ak) | (refine ae rfl rr_ dd_ ?_))
    refine ao x_ rfl (.tmp _ _ rfl) (fun _ => ?_)
    exact Fin.flat rfl
  · have hrow := cP (lo := lo) hn
    have hp := hs n hn
    have hst2 := hiff.trans (qT hn hka)
    generalize m.contexts[n] = c at hrow hp hst2
    repeat' (first | ((with_reducible apply o_y); exact y_; rfl) | with_reducible refine ab rfl ?_ | (with_reducible first | apply ag | apply aa | apply ah | apply ac | apply ai | apply ap | apply aB) | (refine ae rfl rr_ dd_ ?_) | (refine aj rfl rr_ dd_ ?_))
    exact aG c.sender ⟨by omega, hst2⟩ (by omega) (.of _ nw_ od_ pk_)
open Classical in
theorem re (f lo : Nat) (m : aM) (_hcl : m.contexts.length ≤ 1048576) (hs : iD m) (k0 a : Int) (hk0 : -1 ≤ k0 ∧ k0 < m.contexts.length) : Ct Tryz.prog G 177 [.cp f (m.tw lo), .int .i64 k0, .int .i64 a] (fun _ => .bool (onB m a k0)) := by
  refine aJ Tryz.func177 rfl Tryz.ntmps177 rfl rfl fun w0 _ hG => ?_
  have hlen := aL.len lo m.contexts
  unfold aM.tw
  repeat' (first | ((with_reducible apply o_y); exact y_; rfl) | with_reducible refine ab rfl ?_ | (with_reducible first | apply ag | apply aa | apply ah | apply ac | apply ai))
  apply aK (X := Int) [0, 2] (fun k => [(1, .int .i64 k)]) (fun _ => []) (fun k => (-1 ≤ k ∧ k < m.contexts.length) ∧ (OnW m a k0 ↔ OnW m a k)) (fun k => (k + 1).toNat) k0 ⟨hk0, Iff.rfl⟩
  exact kp_; (repeat (first | exact bj.envNil | refine bj.envCons we_ ?_))
  · exact .refl _
  rintro k ⟨hk, hiff⟩
  try dsimp only
  by_cases hneg : k < 0
  · have e : onB m a k0 = decide (k = a) := decide_eq_decide.2 (hiff.trans (uf hneg))
    rw [e]
    repeat' (first | ((with_reducible apply o_y); exact y_; rfl) | with_reducible refine ab rfl ?_ | (with_reducible first | apply ag | apply aa | apply ah | apply ac | apply aH | apply au | apply ar | apply aq) | refine aO rfl rfl rfl rr_ rfl rfl rfl ?_ | (refine bC rfl rfl rfl rr_ dd_ ?_) | refine az rfl rr_ ?_)
    refine ao x_ rfl (.tmp _ _ rfl) (fun _ => ?_)
    exact aZ rfl
  obtain ⟨n, rfl⟩ : ∃ n : Nat, k = n := ⟨k.toNat, by omega⟩
  have hn : n < m.contexts.length := by omega
  by_cases hka : (n : Int) = a
  · have e : onB m a k0 = true := decide_eq_true (hiff.2 (hka ▸ .here))
    have hne : ¬ ((n : Int) ≠ a) := fun h => h hka
    rw [e]
    repeat' (first | ((with_reducible apply o_y); exact y_; rfl) | with_reducible refine ab rfl ?_ | (with_reducible first | apply ag | apply aa | apply ah | apply ac | apply aH | apply au | apply ar | apply aq) | refine aP rfl rfl rfl rr_ ?_ | (refine bQ rfl rfl rfl rr_ dd_ ?_) | (refine aj rfl rr_ dd_ ?_))
    refine ao x_ rfl (.tmp _ _ rfl) (fun _ => ?_)
    exact aZ (decide_eq_true hka)
  · have hrow := cP (lo := lo) hn
    have hp := hs n hn
    have hst2 := hiff.trans (qT hn hka)
    have hne : (n : Int) ≠ a := hka
    generalize m.contexts[n] = c at hrow hp hst2
    repeat' (first | ((with_reducible apply o_y); exact y_; rfl) | with_reducible refine ab rfl ?_ | (with_reducible first | apply ag | apply aa | apply ah | apply ac | apply ai | apply ap | apply aB) | refine aP rfl rfl rfl rr_ ?_ | (refine bQ rfl rfl rfl rr_ dd_ ?_) | (refine ae rfl rr_ dd_ ?_))
    exact aG c.sender ⟨by omega, hst2⟩ (by omega) (.of _ nw_ od_ pk_)
end
theorem rg {m : aM} {v : aC} (h : qk m v) (h7 : v.kind = 7) : 0 ≤ v.number ∧ v.number < m.blocks.length := by
  unfold qk ch gS at h
  rw [h7] at h
  simp at h
  omega
theorem vD {m : aM} {v : aC} (h : qk m v) (h5 : v.kind = 5) : 0 ≤ v.number ∧ v.number < m.store.classes.length := by
  unfold qk ch gS at h
  rw [h5] at h
  simp at h
  omega
theorem vp {m : aM} {v : aC} (h : qk m v) (h0 : v.kind = 0) : v = ⟨0, 0, ⟨#[]⟩⟩ := by
  obtain ⟨k, n, t⟩ := v
  dsimp only at h0
  subst h0
  unfold qk ch gS at h
  simp at h
  rw [h.1, h.2]
theorem uU {m : aM} {v : aC} {most : Int} {n q : Nat} {b : aQ} {x : aT} (h7 : v.kind = 7) (hn : v.number = n) (hb : m.blocks[n]? = some b) (hq : b.code = q) (hx : m.base.codes[q]? = some x) : za m v most ↔ x.params ≤ most := by
  unfold za cdA
  rw [hn, Int.toNat_natCast, hb]
  constructor
  · rintro ⟨_, b', x', hb', hx', h⟩
    cases hb'
    rw [hq, if_pos (by omega), Int.toNat_natCast, hx] at hx'
    cases hx'
    exact h
  · intro h
    exact ⟨h7, b, x, rfl, by rw [hq, if_pos (by omega), Int.toNat_natCast, hx], h⟩
theorem mI {lo : Nat} {l : List aQ} {i : Nat} (h : i < l.length) : (l.map (aQ.tw lo))[i]? = some [.int .i64 l[i].code, .int .i64 l[i].outer, .int .i64 l[i].home, .int .i64 l[i].self.kind, .int .i64 l[i].self.number, .str l[i].self.text] := bg h
section
variable {G : World → Prop}
open Classical in
theorem pD (lo : Nat) (m : aM) (_hbl : m.blocks.length ≤ 1048576) (_hcl : m.base.codes.length ≤ 1048576) (n q : Nat) (b : aQ) (x : aT) (hb : m.blocks[n]? = some b) (hq : b.code = q) (hx : m.base.codes[q]? = some x) : Ct Tryz.prog G 241 [.agg (m.tw lo), .int .i64 (n : Int)] (fun _ => .int .i64 x.params) := by
  refine aJ Tryz.func241 rfl Tryz.ntmps241 rfl rfl fun w0 _ hG => ?_
  have hlen := aQ.len lo m.blocks
  have hlc := aT.len lo m.base.codes
  obtain ⟨h1, e1⟩ := List.getElem?_eq_some_iff.1 hb
  obtain ⟨h2, e2⟩ := List.getElem?_eq_some_iff.1 hx
  have hr1 := mI (lo := lo) h1
  have hr2 := bN (lo := lo) h2
  rw [e1] at hr1
  rw [e2] at hr2
  rw [hq] at hr1
  unfold aM.tw
  repeat' (first | ((with_reducible apply o_y); exact y_; rfl) | refine bf ?_ | with_reducible refine aF (by kernel_rfl) (by kernel_rfl) ?_ | with_reducible refine aN ?_ | with_reducible refine aE rfl ?_ | ((with_reducible apply d_y); exact y_; rfl) | with_reducible refine ab rfl ?_ | (with_reducible first | apply ag | apply aa | apply ah | apply ac | apply au))
  refine ao x_ rfl (.tmp _ _ rfl) (fun _ => ?_)
  exact Fin.flat rfl
open Classical in
theorem r5 (hst : aY G) (lo : Nat) (m : aM) (hbl : m.blocks.length ≤ 1048576) (hcl : m.base.codes.length ≤ 1048576) (hbc : ∀ b ∈ m.blocks, 0 ≤ b.code ∧ b.code < m.base.codes.length) (v : aC) (hv : qk m v) (most : Int) : Ct Tryz.prog G 216 [.agg (m.tw lo), .agg [.int .i64 v.kind, .int .i64 v.number, .str v.text], .int .i64 most] (fun _ => .bool (pu m v most)) := by
  refine aJ Tryz.func216 rfl Tryz.ntmps216 rfl rfl fun w0 _ hG => ?_
  by_cases h7 : v.kind = 7
  case neg =>
    rw [show pu m v most = false from decide_eq_false fun h => h7 h.1]
    unfold aM.tw
    repeat' (first | ((with_reducible apply o_y); exact y_; rfl) | refine bf ?_ | with_reducible refine ab rfl ?_ | (with_reducible first | apply ag | apply aa | apply ah | apply ac | apply au) | refine aO rfl rfl rfl rr_ rfl rfl rfl ?_ | (refine bC rfl rfl rfl rr_ dd_ ?_))
    refine ao x_ rfl (.tmp _ _ rfl) (fun _ => ?_)
    exact Fin.flat rfl
  have hr := rg hv h7
  obtain ⟨n, hn⟩ : ∃ n : Nat, v.number = n := ⟨v.number.toNat, by omega⟩
  have h1 : n < m.blocks.length := by omega
  have h2 := hbc _ (List.getElem_mem h1)
  obtain ⟨q, hq⟩ : ∃ q : Nat, m.blocks[n].code = q := ⟨m.blocks[n].code.toNat, by omega⟩
  have h3 : q < m.base.codes.length := by omega
  have hiff := uU (most := most) h7 hn (List.getElem?_eq_getElem h1) hq (List.getElem?_eq_getElem h3)
  have hct := pD (G := G) lo m hbl hcl n q _ _ (List.getElem?_eq_getElem h1) hq (List.getElem?_eq_getElem h3)
  rw [show pu m v most = decide (m.base.codes[q].params ≤ most) from decide_eq_decide.2 hiff, h7, hn]
  generalize m.base.codes[q].params = pr at hct
  unfold aM.tw at hct ⊢
  repeat' (first | ((with_reducible apply o_y); exact y_; rfl) | refine bf ?_ | refine aw hG hst (hct) ?_ | with_reducible refine ab rfl ?_ | (with_reducible first | apply ag | apply aa | apply ah | apply ac | apply au) | refine aP rfl rfl rfl rr_ ?_ | (refine bQ rfl rfl rfl rr_ dd_ ?_))
  refine ao x_ rfl (.tmp _ _ rfl) (fun _ => ?_)
  exact aZ rfl
open Classical in
theorem pE (hst : aY G) (f lo : Nat) (m : aM) (_hbl : m.blocks.length ≤ 1048576) (hcl : m.base.codes.length ≤ 1048576) (hc1 : 1 ≤ m.base.codes.length) (v : aC) (hv : qk m v) (most : Int) : Ct Tryz.prog G 240 [.cp f (m.tw lo), .agg [.int .i64 v.kind, .int .i64 v.number, .str v.text], .int .i64 most] (fun _ => .bool (pu m v most)) := by
  refine aJ Tryz.func240 rfl Tryz.ntmps240 rfl rfl fun w0 _ hG => ?_
  have hlen := aQ.len lo m.blocks
  have hlc := aT.len lo m.base.codes
  by_cases h7 : v.kind = 7
  case neg =>
    rw [show pu m v most = false from decide_eq_false fun h => h7 h.1]
    unfold aM.tw
    repeat' (first | ((with_reducible apply o_y); exact y_; rfl) | refine bf ?_ | with_reducible refine aF (by kernel_rfl) (by kernel_rfl) ?_ | with_reducible refine aN ?_ | with_reducible refine aE rfl ?_ | refine aV rfl rfl rfl rr_ rfl rfl rfl ?_ | (refine bW rfl rfl rfl rr_ dd_ ?_) | ((with_reducible apply d_y); exact y_; rfl) | with_reducible refine ab rfl ?_ | (with_reducible first | apply ag | apply aa | apply ah | apply ac | apply au))
    refine ao x_ rfl (.tmp _ _ rfl) (fun _ => ?_)
    exact Fin.flat rfl
  have hr := rg hv h7
  obtain ⟨n, hn⟩ : ∃ n : Nat, v.number = n := ⟨v.number.toNat, by omega⟩
  have h1 : n < m.blocks.length := by omega
  have hr1 := mI (lo := lo) h1
  have hbg : m.blocks[n]? = some m.blocks[n] := List.getElem?_eq_getElem h1
  generalize m.blocks[n] = b at hr1 hbg
  have c1 := bz (G := G) b.code 0 ((m.base.codes.length - 1 : Nat) : Int)
  have hsub : (m.base.codes.length : Int) - 1 = ((m.base.codes.length - 1 : Nat) : Int) := by omega
  by_cases h2 : 0 ≤ b.code ∧ b.code < m.base.codes.length
  case neg =>
    rw [show inR b.code 0 ((m.base.codes.length - 1 : Nat) : Int) = false from by simp only [inR, decide_eq_false_iff_not]; omega] at c1
    rw [show pu m v most = false from decide_eq_false fun h => by
      obtain ⟨_, b', x, hb', hx, _⟩ := h
      rw [hn, Int.toNat_natCast, hbg] at hb'
      cases hb'
      obtain ⟨h3, h4, _⟩ := wh hx
      omega]
    rw [h7, hn]
    unfold aM.tw
    repeat' (first | ((with_reducible apply o_y); exact y_; rfl) | refine bf ?_ | with_reducible refine aF (by kernel_rfl) (by kernel_rfl) ?_ | with_reducible refine aN ?_ | with_reducible refine aE rfl ?_ | refine aX rfl rfl rfl rr_ ?_ | refine aV rfl rfl rfl rr_ rfl rfl rfl ?_ | (refine cF rfl rfl rfl rr_ dd_ ?_) | ((with_reducible apply d_y); exact y_; rfl) | refine ay hG hst (c1) ?_ | with_reducible refine ab rfl ?_ | (with_reducible first | apply ag | apply aa | apply ah | apply ac | apply au))
    refine ao x_ rfl (.tmp _ _ rfl) (fun _ => ?_)
    exact Fin.flat rfl
  rw [show inR b.code 0 ((m.base.codes.length - 1 : Nat) : Int) = true from by simp only [inR, decide_eq_true_eq]; omega] at c1
  obtain ⟨q, hq⟩ : ∃ q : Nat, b.code = q := ⟨b.code.toNat, by omega⟩
  have h3 : q < m.base.codes.length := by omega
  have hiff := uU (most := most) h7 hn hbg hq (List.getElem?_eq_getElem h3)
  have hr2 := bN (lo := lo) h3
  rw [show pu m v most = decide (m.base.codes[q].params ≤ most) from decide_eq_decide.2 hiff, h7, hn]
  rw [hq] at hr1 c1
  generalize m.base.codes[q] = x at hr2
  unfold aM.tw
  repeat' (first | ((with_reducible apply o_y); exact y_; rfl) | refine bf ?_ | with_reducible refine aF (by kernel_rfl) (by kernel_rfl) ?_ | with_reducible refine aN ?_ | with_reducible refine aE rfl ?_ | refine aX rfl rfl rfl rr_ ?_ | (refine cF rfl rfl rfl rr_ dd_ ?_) | ((with_reducible apply d_y); exact y_; rfl) | refine ay hG hst (c1) ?_ | with_reducible refine ab rfl ?_ | (with_reducible first | apply ag | apply aa | apply ah | apply ac | apply au))
  refine ao x_ rfl (.tmp _ _ rfl) (fun _ => ?_)
  exact aZ rfl
end
theorem n9 (k : Int) : k = 1 ∨ k = 2 ∨ k = 3 ∨ k = 4 ∨ k = 5 ∨ (¬ k = 1 ∧ ¬ k = 2 ∧ ¬ k = 3 ∧ ¬ k = 4 ∧ ¬ k = 5) := by omega
theorem yL {α : Type} {l : List α} (h : l.length = 1) : ∃ a, l = [a] := by
  match l, h with
  | [a], _ => exact ⟨a, rfl⟩
theorem zK {α : Type} {l : List α} (h : l.length = 3) : ∃ a b c, l = [a, b, c] := by
  match l, h with
  | [a, b, c], _ => exact ⟨a, b, c, rfl⟩
theorem pz {m : aM} {k i : Int} (h : inR i 0 (k - 1) = false) : doB m k i = false := by unfold doB; rw [h, Bool.false_and]
theorem t6 {m : aM} {k i : Int} (h : inR i 0 (k - 1) = true) : doB m k i = decide (mkA m i = 1) := by unfold doB; rw [h, Bool.true_and]
theorem uj {m : aM} {k : Nat} (h : k < m.contexts.length) : mkA m (k : Int) = m.contexts[k].mark := by
  unfold mkA; rw [iY h]
theorem xM {m : aM} {k n : Int} {t : ByteArray} (h : ch m.store m.blocks.length ⟨k, n, t⟩ = true) : eqV ⟨k, n, t⟩ ⟨0, 0, ⟨#[]⟩⟩ = decide (k = 0) := by
  by_cases hk : k = 0
  · rw [decide_eq_true hk, vp (m := m) h hk]; rfl
  · unfold eqV
    rw [decide_eq_false hk, Bool.false_and]
theorem rm {m : aM} {k : Nat} {c : aL} (h : k < m.contexts.length) (e : m.contexts[k] = c) : cxA m (k : Int) = some c := by rw [iY h, e]
theorem rp {m : aM} {k : Nat} {c : aT} (h : k < m.base.codes.length) (e : m.base.codes[k] = c) : cdA m (k : Int) = some c := by rw [xO h, e]
inductive Yu where
  | no
  | one (a b : Nat)
  | many (l : List (Nat × Nat))
  | pair (x y : Yu)
def Pt : Type := Nat → Yu
def Pt.put (p : Pt) (i : Nat) (y : Yu) : Pt := fun j => if j = i then y else p j
theorem Pt.put_ne {p : Pt} {i j : Nat} {y : Yu} (h : j ≠ i) : p.put i y j = p j := if_neg h
theorem Pt.put_eq {p : Pt} {i : Nat} {y : Yu} : p.put i y i = y := if_pos rfl
def sH (ops : Array Oper) (c m : Nat) : Prop := m = c ∨ (m < c ∧ ((Region.before ops).getD c 0).testBit m = true)
def ve {α : Type} (ops : Array Oper) (c : Nat) (T : Pt → α) : Prop := ∀ p p' : Pt, (∀ m, sH ops c m → p m = p' m) → T p = T p'
def MkW (P : Program) (w0 : World) (env : Env) (o : Oper) (C R : bp) (I : Yu → Prop) (O : Yu → bp) (T : Yu → TV) : Prop :=
  ∀ (a : Act) (w : World) (K : Act → World → Prop) (Q : Exit → Act → World → Prop), cV w0 (C ++ R) w → (∀ x ∈ o.op.operands.toList, ∀ v, ev env x = some v → Rep w (C ++ R) v (a.eval x)) →
    (∀ y v w', I y → cV w0 (O y ++ R) w' → gT w (C ++ R) w' (O y ++ R) → Rep w' (O y ++ R) (T y) v → K (a.put o.dst v) w') → o.wp P a w K Q
structure Mks where
  on : Nat → Bool
  O : Nat → Pt → bp
  src : Nat → Option Nat
  I : Nat → Yu → Prop
def Mks.cons (M : Mks) (c : Nat) (p : Pt) : bp := match M.src c with
  | some i => M.O i p
  | none => []
section
variable {P : Program} {w0 : World} {N : Nat} {Q : Exit → Act → World → Prop} {objs : bp} {ops : Array Oper}
def OpM (P : Program) (w0 : World) (N : Nat) (ops : Array Oper) (objs : bp) (M : Mks) (σ : Pt → Nat → Env) (c : Nat) (o : Oper) : Prop :=
  ∃ T, o.guard = none ∧ ((∃ d, o.dst = some d ∧ d < N ∧ ∀ p t, lk t (σ p (c + 1)) = lk t ((d, T p) :: σ p c)) ∨ (o.dst = none ∧ ∀ p t, lk t (σ p (c + 1)) = lk t (σ p c))) ∧ ve ops c T ∧
    ((M.on c = false ∧ M.src c = none ∧ ∀ p R, (∀ x ∈ objs, x ∈ R) → bs P w0 (σ p c) R o (T p)) ∨
     (M.on c = true ∧ ve ops c (M.O c) ∧ (∀ i, M.src c = some i → i ≠ c ∧ (i < ops.size → sH ops c i) ∧ M.on i = true) ∧
       ∀ p R, (∀ x ∈ objs, x ∈ R) → MkW P w0 (σ p c) o (M.cons c p) R (M.I c) (fun y => M.O c (p.put c y)) (fun y => T (p.put c y))))
def yw (N : Nat) (ops : Array Oper) (k : Nat) (σ : Nat → Env) : Prop := ∀ i o, i < k → ops[i]? = some o → (∃ d tv, o.dst = some d ∧ d < N ∧ ∀ t, lk t (σ (i + 1)) = lk t ((d, tv) :: σ i)) ∨ (o.dst = none ∧ ∀ t, lk t (σ (i + 1)) = lk t (σ i))
theorem vm {objs' : bp} (hok : cC ops = true) {k : Nat} (hk : k ≤ ops.size) {σ : Nat → Env} {X : Nat → Prop} {a : Act} {w w' : World} (hJ : JY w0 N ops objs σ k X a w) (hX : co ops X) {i d : Nat} {o : Oper} {tv : TV} {v : Value} (hi : ops[i]? = some o) (hik : i < k) (hni : ¬ X i) (hd : o.dst = some d) (hdN : d < N)
    (hσ : yw N ops k σ) (hσi : ∀ t, lk t (σ (i + 1)) = lk t ((d, tv) :: σ i)) (hr : Rep w' objs' tv v) (hw : cV w0 objs' w') (hst : gT w objs w' objs') : JY w0 N ops objs' σ k (fun k => k = i ∨ X k) (a.put (some d) v) w' := by
  refine ⟨hJ.defers, by simp [Act.put, hJ.size], hw, fun t c hc h1 h2 u hu => ?_⟩
  show Rep w' objs' u ((a.tmps.setIfInBounds d v).getD t undef)
  rw [eF (by rw [hJ.size]; exact hdN)]
  by_cases hdt : d = t
  · subst hdt
    rw [if_pos rfl]
    have hwi : bY ops i d := by unfold bY; rw [hi]; exact hd
    have hic : i < c := Nat.lt_of_not_le fun h => h2 i h hik hwi (.inl rfl)
    have hlast : ∀ m, i + 1 ≤ m → m ≤ c → lk d (σ m) = some tv := fun m => by
      induction m with
      | zero => intro h; omega
      | succ m ih =>
        intro hm1 hm2
        rcases Nat.eq_or_lt_of_le hm1 with h | h
        · have : m = i := by omega
          subst this; rw [hσi, bL, if_pos rfl]
        · have hm : m < ops.size := by omega
          have hom : ops[m]? = some ops[m] := by simp [hm]
          rcases hσ m _ (by omega) hom with ⟨dm, tm, e1, _, e2⟩ | ⟨_, e2⟩
          · rw [e2, bL, if_neg]
            · exact ih (by omega) (by omega)
            · intro e
              subst e
              have hwm : bY ops m dm := by unfold bY; rw [hom]; exact e1
              rcases h1 m (by omega) hwm with h3 | h3
              · omega
              · exact hni (eu hok hi hom (by omega) (dL hd e1) hX h3)
          · rw [e2]; exact ih (by omega) (by omega)
    rw [hlast c hic (Nat.le_refl _)] at hu
    simp only [Option.some.injEq] at hu
    subst hu; exact hr
  · rw [if_neg hdt]
    refine (hJ.cut t c hc (fun m hm hwm => ?_) (fun m hm hmk hwm hx => h2 m hm hmk hwm (.inr hx)) u hu).step hst
    rcases h1 m hm hwm with h3 | h3
    · subst h3
      unfold bY at hwm
      rw [hi] at hwm
      simp only [Option.bind_some, hd, Option.some.injEq] at hwm
      exact absurd hwm hdt
    · exact h3
theorem vR {objs' : bp} {k : Nat} {σ : Nat → Env} {X : Nat → Prop} {a : Act} {w w' : World} (hJ : JY w0 N ops objs σ k X a w) {i : Nat} {o : Oper} (hi : ops[i]? = some o) (hd : o.dst = none) (hw : cV w0 objs' w') (hst : gT w objs w' objs') : JY w0 N ops objs' σ k (fun k => k = i ∨ X k) a w' :=
  ⟨hJ.defers, hJ.size, hw, fun t c hc h1 h2 u hu => (hJ.cut t c hc (fun m hm hwm => (h1 m hm hwm).resolve_left fun e => by
    subst e
    unfold bY at hwm
    rw [hi] at hwm
    simp only [Option.bind_some, hd] at hwm
    cases hwm) (fun m hm hmk hwm hx => h2 m hm hmk hwm (.inr hx)) u hu).step hst⟩
theorem JY.pick {objs' : bp} {σ : Nat → Env} {k : Nat} {X : Nat → Prop} {a : Act} {w : World} (h : JY w0 N ops objs σ k X a w) (hp : dV objs' objs) : JY w0 N ops objs' σ k X a w :=
  ⟨h.defers, h.size, h.mem.sub hp, fun t c hc h1 h2 v hv => (h.cut t c hc h1 h2 v hv).step (fo hp w)⟩
theorem jZ (hok : cC ops = true) {k : Nat} (hk : k ≤ ops.size) {M : Mks} {σ : Pt → Nat → Env} (h0 : ∀ p p' t, lk t (σ p 0) = lk t (σ p' 0)) (hop : ∀ c o, c < k → ops[c]? = some o → OpM P w0 N ops objs M σ c o) {X : Nat → Prop} (hX : co ops X) {i : Nat} (hni : ¬ X i) (p : Pt) (y : Yu) (t : Nat) : ∀ c, c ≤ k → (∀ m, m < c → bY ops m t → X m) → lk t (σ (p.put i y) c) = lk t (σ p c)
  | 0, _, _ => h0 _ _ _
  | c + 1, hc, hw => by
    have hcs : c < ops.size := by omega
    have hoc : ops[c]? = some ops[c] := by simp [hcs]
    obtain ⟨T, _, hs, hT, _⟩ := hop c _ (by omega) hoc
    rcases hs with ⟨d, hd, _, hs⟩ | ⟨_, hs⟩
    · rw [hs, hs, bL, bL]
      split
      · rename_i hdt
        have hXc : X c := hw c (Nat.lt_succ_self c) (by unfold bY; rw [hoc]; exact hdt ▸ hd)
        rw [hT (p.put i y) p fun m hm => Pt.put_ne fun e => ?_]
        subst e
        rcases hm with h | ⟨h1, h2⟩
        · exact hni (h ▸ hXc)
        · exact hni (cQ hok hX c hcs hXc m h1 h2)
      · exact jZ hok hk h0 hop hX hni p y t c (by omega) fun m hm => hw m (by omega)
    · rw [hs, hs]
      exact jZ hok hk h0 hop hX hni p y t c (by omega) fun m hm => hw m (by omega)
theorem JY.put (hok : cC ops = true) {k : Nat} (hk : k ≤ ops.size) {M : Mks} {σ : Pt → Nat → Env} (h0 : ∀ p p' t, lk t (σ p 0) = lk t (σ p' 0)) (hop : ∀ c o, c < k → ops[c]? = some o → OpM P w0 N ops objs M σ c o) {X : Nat → Prop} (hX : co ops X) {i : Nat} (hni : ¬ X i) {p : Pt} (y : Yu) {objs' : bp} {a : Act} {w : World} (h : JY w0 N ops objs' (σ p) k X a w) : JY w0 N ops objs' (σ (p.put i y)) k X a w :=
  ⟨h.defers, h.size, h.mem, fun t c hc h1 h2 v hv => by
    rw [jZ hok hk h0 hop hX hni p y t c hc h1] at hv
    exact h.cut t c hc h1 h2 v hv⟩
def vz (M : Mks) (n k : Nat) (X : Nat → Prop) (i : Nat) : Prop := (i < n → X i) ∧ M.on i = true ∧ ∀ c, c < k → M.src c = some i → ¬ X c
def MO (M : Mks) (objs : bp) (n k : Nat) (X : Nat → Prop) (p : Pt) (objs' : bp) : Prop := ∃ l : List Nat, l.Nodup ∧ (∀ i, i ∈ l ↔ vz M n k X i) ∧ objs' = l.flatMap (fun i => M.O i p) ++ objs
theorem MO.sub {M : Mks} {n k : Nat} {X : Nat → Prop} {p : Pt} {objs' : bp} (h : MO M objs n k X p objs') : ∀ x ∈ objs, x ∈ objs' := fun x hx => by
  obtain ⟨l, _, _, rfl⟩ := h
  exact List.mem_append_right _ hx
def JM (w0 : World) (N : Nat) (ops : Array Oper) (objs : bp) (M : Mks) (σ : Pt → Nat → Env) (k : Nat) (X : Nat → Prop) (a : Act) (w : World) : Prop :=
  ∃ p objs', MO M objs ops.size k X p objs' ∧ JY w0 N ops objs' (σ p) k X a w ∧ ∀ i, i < k → X i → M.on i = true → M.I i (p i)
theorem JM.congr {M : Mks} {σ : Pt → Nat → Env} {k : Nat} {X Y : Nat → Prop} {a : Act} {w : World} (h : JM w0 N ops objs M σ k X a w) (hXY : ∀ i, Y i ↔ X i) : JM w0 N ops objs M σ k Y a w := by
  have : Y = X := funext fun i => propext (hXY i)
  rw [this]; exact h
theorem vo {M : Mks} {k : Nat} {σ : Pt → Nat → Env} (hop : ∀ c o, c < k → ops[c]? = some o → OpM P w0 N ops objs M σ c o) (p : Pt) : yw N ops k (σ p) := fun i o hi ho => by
  obtain ⟨T, _, h, _⟩ := hop i o hi ho
  rcases h with ⟨d, h1, h2, h3⟩ | ⟨h1, h3⟩
  · exact .inl ⟨d, T p, h1, h2, h3 p⟩
  · exact .inr ⟨h1, h3 p⟩
theorem zr (hok : cC ops = true) {k : Nat} (hk : k ≤ ops.size) {M : Mks} {σ : Pt → Nat → Env} (h0 : ∀ p p' t, lk t (σ p 0) = lk t (σ p' 0)) (hop : ∀ c o, c < k → ops[c]? = some o → OpM P w0 N ops objs M σ c o) (hinj : ∀ c c' i, c < k → c' < k → M.src c = some i → M.src c' = some i → c = c') (hps : ∀ j, ¬ j < ops.size → ∀ p p', M.O j p = M.O j p')
    {X : Nat → Prop} {a : Act} {w : World} (hJ : JM w0 N ops objs M σ k X a w) (hX : co ops X) (hXk : ∀ i, X i → i < k) {i : Nat} {o : Oper} (ho : ops[i]? = some o) (hik : i < k) (hni : ¬ X i) (hX' : co ops fun k => k = i ∨ X k)
    {K : Act → World → Prop} (hnext : ∀ a' w', JM w0 N ops objs M σ k (fun k => k = i ∨ X k) a' w' → K a' w') : wpOp P ops Q i K a w := by
  obtain ⟨p, objs', hMO, hJY, hI⟩ := hJ
  obtain ⟨T, hg, hs, hT, hcase⟩ := hop i o hik ho
  have hput : ∀ {objs1 objs2 : bp} {p' : Pt} {v : Value} {w' : World}, JY w0 N ops objs1 (σ p') k X a w → Rep w' objs2 (T p') v → cV w0 objs2 w' → gT w objs1 w' objs2 → JY w0 N ops objs2 (σ p') k (fun k => k = i ∨ X k) (a.put o.dst v) w' := fun {objs1 objs2 p' v w'} hJ hr hsw hst => by
    rcases hs with ⟨d, hd, hdN, hs⟩ | ⟨hd, _⟩
    · rw [hd]; exact vm hok hk hJ hX ho hik hni hd hdN (vo hop p') (hs p') hr hsw hst
    · rw [hd]; exact vR hJ ho hd hsw hst
  have hiz : i < ops.size := by omega
  have hread : ∀ {objs2 : bp} (_ : JY w0 N ops objs2 (σ p) k X a w) (x : Operand), x ∈ o.op.operands.toList → ∀ v, ev (σ p i) x = some v → Rep w objs2 v (a.eval x) := fun hJ2 x hx v hv => by
    cases x with
    | tmp t =>
      have hl : t ∈ o.looksAt ops := by
        unfold Oper.looksAt
        exact List.mem_append_left _ (List.mem_filterMap.2 ⟨.tmp t, hx, rfl⟩)
      exact gN hok hk hJ2 hX hXk ho hik hni hX' hl hv
    | const u => exact iN hv
    | func f => simp only [ev, Option.some.injEq] at hv; subst hv; exact .fn f [] #[] rfl (by simp)
    | global g => cases hv
  have hw : Region.wanted o (yielded ops a.tmps) = true := by simp [Region.wanted, hg]
  unfold wpOp
  rw [ho]
  simp only [hw, if_true]
  have hbef : ∀ m, sH ops i m → m ≠ i → X m := fun m hm hne => by
    rcases hm with h | ⟨h1, h2⟩
    · exact absurd h hne
    · rcases cQ hok hX' i hiz (.inl rfl) m h1 h2 with h | h
      · exact absurd h hne
      · exact h
  have hnb : ∀ c, X c → ¬ sH ops c i := fun c hc hm => by
    rcases hm with h | ⟨h1, h2⟩
    · exact hni (h ▸ hc)
    · exact hni (cQ hok hX c (Nat.lt_of_lt_of_le (hXk c hc) hk) hc i h1 h2)
  rcases hcase with ⟨hmk, hsrc, hy⟩ | ⟨hmk, hO, hsrc, hmake⟩
  · refine .inl (hy p objs' hMO.sub a w _ Q hJY.mem (hread hJY) fun v w' hr hsw hst => ?_)
    refine hnext _ _ ⟨p, objs', ?_, hput hJY hr hsw hst, fun j hj hx hm => ?_⟩
    · obtain ⟨l, h1, h2, h3⟩ := hMO
      refine ⟨l, h1, fun j => (h2 j).trans ?_, h3⟩
      unfold vz
      constructor
      · rintro ⟨e2, e3, e4⟩
        refine ⟨fun h => .inr (e2 h), e3, fun c hc hsc hx => ?_⟩
        rcases hx with rfl | hx
        · rw [hsrc] at hsc; cases hsc
        · exact e4 c hc hsc hx
      · rintro ⟨e2, e3, e4⟩
        exact ⟨fun h => (e2 h).resolve_left fun e => (by subst e; rw [hmk] at e3; cases e3), e3, fun c hc hsc hx => e4 c hc hsc (.inr hx)⟩
    · rcases hx with rfl | hx
      · rw [hmk] at hm; cases hm
      · exact hI j hj hx hm
  · obtain ⟨l, hnd, hl, rfl⟩ := hMO
    -- what stays
    have hstay : ∃ l2 : List Nat, l2.Nodup ∧ (∀ j, j ∈ l2 ↔ vz M ops.size k X j ∧ M.src i ≠ some j) ∧ (l.flatMap (fun i => M.O i p)).Perm (M.cons i p ++ l2.flatMap fun i => M.O i p) := by
      unfold Mks.cons
      cases hsc : M.src i with
      | none => exact ⟨l, hnd, fun j => by rw [hl]; simp, .refl _⟩
      | some s =>
        obtain ⟨hne, hah, hms⟩ := hsrc s hsc
        have hsl : s ∈ l := (hl s).2 ⟨fun h => hbef s (hah h) hne, hms, fun c hc hc2 hx => hni (hinj c i s hc hik hc2 hsc ▸ hx)⟩
        refine ⟨l.erase s, hnd.erase s, fun j => ?_, ?_⟩
        · rw [hnd.mem_erase_iff, hl]
          constructor
          · rintro ⟨e1, e2⟩; exact ⟨e2, fun h => e1 (Option.some.inj h).symm⟩
          · rintro ⟨e1, e2⟩; exact ⟨fun h => e2 (by rw [h]), e1⟩
        · have := (List.perm_cons_erase hsl).flatMap_right fun i => M.O i p
          rwa [List.flatMap_cons] at this
    obtain ⟨l2, hnd2, hl2, hperm⟩ := hstay
    have hpk : dV (M.cons i p ++ (l2.flatMap (fun i => M.O i p) ++ objs)) (l.flatMap (fun i => M.O i p) ++ objs) := .perm (by
      rw [← List.append_assoc]
      exact (hperm.append_right objs).symm)
    have hJ2 := hJY.pick hpk
    refine .inl (hmake p (l2.flatMap (fun i => M.O i p) ++ objs) (fun x hx => List.mem_append_right _ hx) a w _ Q hJ2.mem (hread hJ2) fun y v w' hIy hsw hst hr => ?_)
    have heq : l2.flatMap (fun j => M.O j (p.put i y)) = l2.flatMap fun j => M.O j p := by
      have : ∀ l3 : List Nat, (∀ j ∈ l3, j ∈ l2) → l3.flatMap (fun j => M.O j (p.put i y)) = l3.flatMap fun j => M.O j p := fun l3 => by
        induction l3 with
        | nil => intro _; rfl
        | cons j r ih =>
          intro h
          have hlj := ((hl2 j).1 (h j List.mem_cons_self)).1
          rw [List.flatMap_cons, List.flatMap_cons, ih fun x hx => h x (List.mem_cons_of_mem _ hx)]
          by_cases hjs : j < ops.size
          · have hoj : ops[j]? = some ops[j] := by simp [hjs]
            have hXj := hlj.1 hjs
            obtain ⟨_, _, _, _, hcj⟩ := hop j _ (hXk j hXj) hoj
            have hOj : ve ops j (M.O j) := by
              rcases hcj with ⟨e, _⟩ | ⟨_, e, _⟩
              · rw [hlj.2.1] at e; cases e
              · exact e
            rw [hOj (p.put i y) p fun m hm => Pt.put_ne fun e => hnb j hXj (e ▸ hm)]
          · rw [hps j hjs (p.put i y) p]
      exact this l2 fun _ h => h
    refine hnext _ _ ⟨p.put i y, M.O i (p.put i y) ++ (l2.flatMap (fun i => M.O i p) ++ objs), ?_, hput (hJ2.put hok hk h0 hop hX hni y) hr hsw hst, fun j hj hx hm => ?_⟩
    · refine ⟨i :: l2, List.nodup_cons.2 ⟨fun h => hni (((hl2 i).1 h).1.1 hiz), hnd2⟩, fun j => ?_, by rw [List.flatMap_cons, heq, List.append_assoc]⟩
      rw [List.mem_cons, hl2]
      unfold vz
      constructor
      · rintro (rfl | ⟨⟨e2, e3, e4⟩, e5⟩)
        · refine ⟨fun _ => .inl rfl, hmk, fun c hc hsc hx => ?_⟩
          have hcs : c < ops.size := by omega
          have hoc : ops[c]? = some ops[c] := by simp [hcs]
          obtain ⟨_, _, _, _, hcc⟩ := hop c _ hc hoc
          rcases hcc with ⟨_, e, _⟩ | ⟨_, _, e, _⟩
          · rw [hsc] at e; cases e
          · obtain ⟨e1, e2, _⟩ := e j hsc
            rcases hx with rfl | hx
            · exact e1 rfl
            · exact hnb c hx (e2 hiz)
        · refine ⟨fun h => .inr (e2 h), e3, fun c hc hsc hx => ?_⟩
          rcases hx with rfl | hx
          · exact e5 hsc
          · exact e4 c hc hsc hx
      · rintro ⟨e2, e3, e4⟩
        by_cases hji : j = i
        · exact .inl hji
        · exact .inr ⟨⟨fun h => (e2 h).resolve_left hji, e3, fun c hc hsc hx => e4 c hc hsc (.inr hx)⟩, fun h => e4 i hik h (.inl rfl)⟩
    · rcases hx with rfl | hx
      · rw [Pt.put_eq]; exact hIy
      · rw [Pt.put_ne (fun e : j = i => hni (e ▸ hx))]
        exact hI j hj hx hm
theorem rz (hok : cC ops = true) {k : Nat} (hk : k ≤ ops.size) (htl : eU ops k = true) {M : Mks} {σ : Pt → Nat → Env} (_hop : ∀ c o, c < k → ops[c]? = some o → OpM P w0 N ops objs M σ c o) {ms : List Nat} (hms : ms.Nodup) (hmem : ∀ i, i ∈ ms ↔ vz M ops.size k (· < k) i)
    (hQ : ∀ p : Pt, (∀ i, i < k → M.on i = true → M.I i (p i)) → AL P w0 N ops Q (ops.toList.drop k) (σ p k) (ms.flatMap (fun i => M.O i p) ++ objs)) {fuel : Nat} {listed : Array Bool} {a : Act} {w : World} (hsz : listed.size = ops.size) (hun : bK listed ≤ fuel) (hXk : ∀ i, listed.getD i false = true → i < k)
    (hall : ∀ j, j < k → listed.getD j false = true) (hJ : JM w0 N ops objs M σ k (fun i => listed.getD i false = true) a w) : wpAny P .any ops Q fuel listed a w := by
  obtain ⟨p, objs', ⟨l, hnd, hl, rfl⟩, hJY, hI⟩ := hJ
  have hp : ms.Perm l := (List.perm_ext_iff_of_nodup hms hnd).2 fun i => by
    rw [hmem, hl]
    unfold vz
    exact ⟨fun ⟨e2, e3, e4⟩ => ⟨fun h => hall i (e2 h), e3, fun c hc hs _ => e4 c hc hs hc⟩, fun ⟨e2, e3, e4⟩ => ⟨fun h => hXk i (e2 h), e3, fun c hc hs _ => e4 c hc hs (hall c hc)⟩⟩
  exact ib hok hk htl (hQ p fun i hi hm => hI i hi (hall i hi) hm) hsz hun hXk hall (hJY.pick (.perm ((hp.flatMap_right fun i => M.O i p).append_right objs)))
theorem vb (hok : cC ops = true) {k : Nat} (hk : k ≤ ops.size) (htl : eU ops k = true) {M : Mks} {σ : Pt → Nat → Env} (hz : ∀ p p' t, lk t (σ p 0) = lk t (σ p' 0)) (hop : ∀ c o, c < k → ops[c]? = some o → OpM P w0 N ops objs M σ c o) (hinj : ∀ c c' i, c < k → c' < k → M.src c = some i → M.src c' = some i → c = c') (hps : ∀ j, ¬ j < ops.size → ∀ p p', M.O j p = M.O j p')
    {ms : List Nat} (hms : ms.Nodup) (hmem : ∀ i, i ∈ ms ↔ vz M ops.size k (· < k) i) (hQ : ∀ p : Pt, (∀ i, i < k → M.on i = true → M.I i (p i)) → AL P w0 N ops Q (ops.toList.drop k) (σ p k) (ms.flatMap (fun i => M.O i p) ++ objs)) :
    ∀ (fuel : Nat) (listed : Array Bool) (a : Act) (w : World), listed.size = ops.size → bK listed ≤ fuel → (∀ i, listed.getD i false = true → i < k) → co ops (fun i => listed.getD i false = true) → JM w0 N ops objs M σ k (fun i => listed.getD i false = true) a w → wpAny P .any ops Q fuel listed a w := by
  intro fuel
  induction fuel with
  | zero =>
    intro listed a w hsz hun hXk hX hJ
    by_cases hall : ∀ j, j < k → listed.getD j false = true
    · exact rz hok hk htl hop hms hmem hQ hsz hun hXk hall hJ
    · exfalso
      apply hall
      intro j hj
      cases hb : listed.getD j false with
      | true => rfl
      | false =>
        exfalso
        have hjl : j < listed.size := by omega
        have : listed[j] ∈ listed.toList.filter (! ·) := List.mem_filter.2 ⟨by simp, by
          simp only [Array.getD_eq_getD_getElem?, Array.getElem?_eq_getElem hjl, Option.getD_some] at hb; simp [hb]⟩
        have := List.length_pos_of_mem this
        unfold bK at hun; omega
  | succ fuel ih =>
    intro listed a w hsz hun hXk hX hJ
    by_cases hall : ∀ j, j < k → listed.getD j false = true
    · exact rz hok hk htl hop hms hmem hQ hsz hun hXk hall hJ
    have hsome : ∃ j, j < k ∧ ¬ listed.getD j false = true := by
      refine Classical.byContradiction fun hn => hall fun j hj => Classical.byContradiction fun h => hn ⟨j, hj, h⟩
    refine ⟨fun hr => ?_, fun i hi => ?_⟩
    · exfalso
      have hall2 : ∀ j, j < ops.size → listed.getD j false = true := by
        intro j
        induction j using Nat.strongRecOn with
        | _ j ih =>
          intro hj
          cases hb : listed.getD j false with
          | true => rfl
          | false =>
            have hoj : ops[j]? = some ops[j] := by simp [hj]
            have hmem : j ∈ Region.ready .any ops listed := mem_ready.2 ⟨by
              have hjl : j < listed.size := by omega
              simp only [Array.getD_eq_getD_getElem?, Array.getElem?_eq_getElem hjl, Option.getD_some] at hb ⊢; exact hb, _, hoj, fun e he hbd => ih e.on ((bR hok hoj).1 e he hbd) (Nat.lt_trans ((bR hok hoj).1 e he hbd) hj)⟩
            rw [hr] at hmem; cases hmem
      obtain ⟨j, hj, hnj⟩ := hsome
      exact hnj (hall2 j (by omega))
    · obtain ⟨h0, o, ho, hed⟩ := mem_ready.1 hi
      have hisz : i < ops.size := (Array.getElem?_eq_some_iff.1 ho).1
      have hil : i < listed.size := by rw [hsz]; exact hisz
      have h0' : listed[i] = false := by simpa [Array.getD_eq_getD_getElem?, hil] using h0
      have hni : ¬ listed.getD i false = true := by simp [hil, h0']
      have hXeq : ∀ k, (listed.setIfInBounds i true).getD k false = true ↔ (k = i ∨ listed.getD k false = true) := fun k => by
        by_cases hk : k = i
        · subst hk; simp [hil]
        · rw [getD_set_ne false (Ne.symm hk)]; simp [hk]
      have hX' : co ops fun k => k = i ∨ listed.getD k false = true := fun j oj hj hx e he hb => by
        rcases hx with rfl | hx
        · rw [hj] at ho; cases ho; exact .inr (hed e he hb)
        · exact .inr (hX j oj hj hx e he hb)
      have hik : i < k := Nat.lt_of_not_le fun hge => by
        obtain ⟨j, hj, hnj⟩ := hsome
        have := cQ hok hX' i hisz (.inl rfl) j (by omega) (fj htl hisz hge (by omega))
        rcases this with h | h
        · omega
        · exact hnj h
      have hXs : co ops fun k => (listed.setIfInBounds i true).getD k false = true := fun j oj hj hx e he hb => (hXeq _).2 (hX' j oj hj ((hXeq _).1 hx) e he hb)
      have hun' : bK (listed.setIfInBounds i true) ≤ fuel := by
        have key : ∀ (l : List Bool) (i : Nat), l[i]? = some false → ((l.set i true).filter (! ·)).length + 1 = (l.filter (! ·)).length := fun l => by
          induction l with
          | nil => intro i h; simp at h
          | cons x l ih =>
            intro i h
            cases i with
            | zero => simp at h; subst h; simp
            | succ i =>
              have := ih i (by simpa using h)
              cases x <;> simp at this ⊢ <;> omega
        have := key listed.toList i (by simp [hil, h0'])
        unfold bK at hun ⊢
        simp only [Array.toList_setIfInBounds]
        omega
      have hnext : ∀ a' w', JM w0 N ops objs M σ k (fun k => k = i ∨ listed.getD k false = true) a' w' → wpAny P .any ops Q fuel (listed.setIfInBounds i true) a' w' := fun a' w' hJ' =>
        ih _ a' w' (by simpa using hsz) hun' (fun j hj => ((hXeq j).1 hj).elim (fun e => e ▸ hik) (hXk j)) hXs (hJ'.congr hXeq)
      exact zr hok hk hz hop hinj hps hJ hX hXk ho hik hni hX' hnext
end
def pt0 : Pt := fun _ => .no
structure Mki where
  idx : Nat
  O : Pt → bp
  src : Option Nat
  I : Yu → Prop
def fnd (L : List Mki) (i : Nat) : Option Mki := L.find? fun m => Nat.beq m.idx i
def Mks.of (L : List Mki) : Mks where
  on i := (fnd L i).isSome
  O i p := match fnd L i with | some m => m.O p | none => []
  src i := (fnd L i).bind (·.src)
  I i y := match fnd L i with | some m => m.I y | none => True
def wV (L : List Mki) (src : Option Nat) (p : Pt) : bp := match src with
  | some i => (Mks.of L).O i p
  | none => []
def qD (L : List Mki) : List Mki := L.filter fun m => L.all fun m' => !(match m'.src with | some i => Nat.beq i m.idx | none => false)
structure MWf (L : List Mki) (c : Nat) : Prop where
  lt : ∀ m ∈ L, m.idx < c ∨ 1000000 ≤ m.idx
  pw : L.Pairwise fun a b => a.idx ≠ b.idx ∧ ∀ i, a.src = some i → b.src ≠ some i
theorem ry {L : List Mki} {i : Nat} (h : ∀ m ∈ L, m.idx ≠ i) : fnd L i = none := List.find?_eq_none.2 fun m hm => by
  rw [sI (h m hm)]; decide
theorem nh {new L : List Mki} {c i : Nat} (hn : ∀ m ∈ new, c ≤ m.idx ∧ m.idx < 1000000) (hi : i < c ∨ 1000000 ≤ i) : fnd (new ++ L) i = fnd L i := by
  unfold fnd
  rw [List.find?_append]
  have : new.find? (fun m => Nat.beq m.idx i) = none := ry fun m hm => by have := hn m hm; omega
  rw [this]; rfl
theorem fI {L : List Mki} {i : Nat} {m : Mki} (h : fnd L i = some m) : m ∈ L ∧ m.idx = i := ⟨List.mem_of_find?_eq_some h, by
  have := List.find?_some h
  exact Nat.eq_of_beq_eq_true this⟩
theorem rh {L : List Mki} {c : Nat} (h : MWf L c) {m : Mki} (hm : m ∈ L) : fnd L m.idx = some m := by
  have hp := h.pw
  clear h
  induction L with
  | nil => cases hm
  | cons x r ih =>
    obtain ⟨h1, h2⟩ := List.pairwise_cons.1 hp
    unfold fnd
    rw [List.find?_cons]
    rcases List.mem_cons.1 hm with rfl | hm
    · have : Nat.beq m.idx m.idx = true := Nat.beq_refl _
      simp only [this]
    · have hne : x.idx ≠ m.idx := (h1 m hm).1
      simp only [sI hne]
      exact ih hm h2
section
variable {P : Program} {w0 : World} {N : Nat} {Q : Exit → Act → World → Prop} {objs : bp} {ops : Array Oper}
inductive DM (P : Program) (w0 : World) (N : Nat) (ops : Array Oper) (objs : bp) (K : List Mki → (Pt → Env) → Prop) : Nat → List Mki → List Oper → (Pt → Env) → Prop
  | nil (c : Nat) (L : List Mki) (E : Pt → Env) (h : K L E) : DM P w0 N ops objs K c L [] E
  | run (c : Nat) (L : List Mki) (o : Oper) (rest : List Oper) (E : Pt → Env) (d : Nat) (T : Pt → TV) (hd : o.dst = some d) (hN : Nat.blt d N = true) (hg : o.guard = none) (hi : ve ops c T) (hy : ∀ p R, (∀ x ∈ objs, x ∈ R) → bs P w0 (E p) R o (T p))
      (h : DM P w0 N ops objs K (c + 1) L rest (fun p => (d, T p) :: E p)) : DM P w0 N ops objs K c L (o :: rest) E
  | make (c : Nat) (L : List Mki) (o : Oper) (rest : List Oper) (E : Pt → Env) (d : Nat) (O : Pt → bp) (src : Option Nat) (I : Yu → Prop) (T : Pt → TV) (hd : o.dst = some d) (hN : Nat.blt d N = true) (hg : o.guard = none) (hi : ve ops c T) (hO : ve ops c O)
      (hs : ∀ i, src = some i → (i < ops.size → sH ops c i) ∧ (fnd L i).isSome = true ∧ ∀ m ∈ L, m.src ≠ some i) (hm : ∀ p R, (∀ x ∈ objs, x ∈ R) → MkW P w0 (E p) o (wV L src p) R I (fun y => O (p.put c y)) (fun y => T (p.put c y)))
      (h : DM P w0 N ops objs K (c + 1) (⟨c, O, src, I⟩ :: L) rest (fun p => (d, T p) :: E p)) : DM P w0 N ops objs K c L (o :: rest) E
  | makeN (c : Nat) (L : List Mki) (o : Oper) (rest : List Oper) (E : Pt → Env) (O : Pt → bp) (src : Option Nat) (I : Yu → Prop) (T : Pt → TV) (hd : o.dst = none) (hg : o.guard = none) (hi : ve ops c T) (hO : ve ops c O)
      (hs : ∀ i, src = some i → (i < ops.size → sH ops c i) ∧ (fnd L i).isSome = true ∧ ∀ m ∈ L, m.src ≠ some i) (hm : ∀ p R, (∀ x ∈ objs, x ∈ R) → MkW P w0 (E p) o (wV L src p) R I (fun y => O (p.put c y)) (fun y => T (p.put c y)))
      (h : DM P w0 N ops objs K (c + 1) (⟨c, O, src, I⟩ :: L) rest E) : DM P w0 N ops objs K c L (o :: rest) E
theorem OpM.congr {M : Mks} {σ σ' : Pt → Nat → Env} {c : Nat} {o : Oper} (h : OpM P w0 N ops objs M σ c o) (h1 : ∀ p, σ' p c = σ p c) (h2 : ∀ p, σ' p (c + 1) = σ p (c + 1)) : OpM P w0 N ops objs M σ' c o := by
  unfold OpM at h ⊢
  simpa only [h1, h2] using h
theorem vE {K : List Mki → (Pt → Env) → Prop} {c : Nat} {L : List Mki} {l : List Oper} {E : Pt → Env} (h : DM P w0 N ops objs K c L l E) (hL : MWf L c) (hbig : c + l.length < 1000000) : ∃ (σ : Pt → Nat → Env) (new : List Mki) (Ef : Pt → Env), K (new ++ L) Ef ∧ (∀ m ∈ new, c ≤ m.idx ∧ m.idx < 1000000) ∧ MWf (new ++ L) (c + l.length) ∧ (∀ p, σ p c = E p) ∧ (∀ p, σ p (c + l.length) = Ef p) ∧ ∀ j o, l[j]? = some o → OpM P w0 N ops objs (Mks.of (new ++ L)) σ (c + j) o := by
  induction h with
  | nil c L E h => exact ⟨fun p _ => E p, [], E, h, by simp, hL, fun _ => rfl, fun _ => rfl, by simp⟩
  | run c L o rest E d T hd hN hg hi hy h ih =>
    obtain ⟨σ, new, Ef, h1, h2, h3, h4, h5, h6⟩ := ih ⟨fun m hm => (hL.lt m hm).imp Nat.lt_succ_of_lt id, hL.pw⟩ (by rw [List.length_cons] at hbig; omega)
    rw [List.length_cons] at hbig
    have hfn : fnd (new ++ L) c = none := ry fun m hm => by
      rcases List.mem_append.1 hm with hm | hm
      · have := h2 m hm; omega
      · have := hL.lt m hm; omega
    refine ⟨fun p i => if i = c then E p else σ p i, new, Ef, h1, fun m hm => by have := h2 m hm; omega, by rw [List.length_cons, show c + (rest.length + 1) = c + 1 + rest.length by omega]; exact h3, fun p => if_pos rfl, fun p => ?_, fun j o' hj => ?_⟩
    · dsimp only
      rw [if_neg (by simp), List.length_cons, show c + (rest.length + 1) = c + 1 + rest.length by omega]; exact h5 p
    · cases j with
      | zero =>
        simp only [List.getElem?_cons_zero, Option.some.injEq] at hj
        subst hj
        refine ⟨T, hg, .inl ⟨d, hd, Nat.blt_eq ▸ hN, fun p t => ?_⟩, hi, .inl ⟨by show (fnd (new ++ L) (c + 0)).isSome = false; rw [Nat.add_zero, hfn]; rfl, by show (fnd (new ++ L) (c + 0)).bind _ = none; rw [Nat.add_zero, hfn]; rfl, fun p R hR => ?_⟩⟩
        · dsimp only
          rw [if_neg (by omega), if_pos (by omega), Nat.add_zero, h4 p]
        · dsimp only
          rw [if_pos (by omega)]
          exact hy p R hR
      | succ j =>
        have := h6 j o' (by simpa using hj)
        rw [show c + 1 + j = c + (j + 1) by omega] at this
        exact this.congr (fun p => if_neg (by omega)) fun p => if_neg (by omega)
  | make c L o rest E d O src I T hd hN hg hi hO hs hm h ih =>
    obtain ⟨σ, new, Ef, h1, h2, h3, h4, h5, h6⟩ := ih ⟨fun m hm => by
      rcases List.mem_cons.1 hm with rfl | hm
      · exact .inl (Nat.lt_succ_self _)
      · exact (hL.lt m hm).imp Nat.lt_succ_of_lt id, List.pairwise_cons.2 ⟨fun m hm => ⟨by rw [List.length_cons] at hbig; have := hL.lt m hm; dsimp only; omega, fun i hi2 => (hs i hi2).2.2 m hm⟩, hL.pw⟩⟩ (by rw [List.length_cons] at hbig; omega)
    rw [List.length_cons] at hbig
    have happ : new ++ (⟨c, O, src, I⟩ :: L) = (new ++ [⟨c, O, src, I⟩]) ++ L := by simp
    have hfn : fnd (new ++ (⟨c, O, src, I⟩ :: L)) c = some ⟨c, O, src, I⟩ := by
      rw [nh (c := c + 1) h2 (.inl (Nat.lt_succ_self c))]
      unfold fnd
      rw [List.find?_cons]
      have : Nat.beq c c = true := Nat.beq_refl _
      simp only [this]
    have hfl : ∀ i, (i < c ∨ 1000000 ≤ i) → fnd (new ++ (⟨c, O, src, I⟩ :: L)) i = fnd L i := fun i hic => by
      rw [nh (c := c + 1) h2 (by omega)]
      unfold fnd
      rw [List.find?_cons]
      have : Nat.beq c i = false := sI (by omega)
      simp only [this]
    refine ⟨fun p i => if i = c then E p else σ p i, new ++ [⟨c, O, src, I⟩], Ef, happ ▸ h1, fun m hm => ?_, by rw [List.length_cons, show c + (rest.length + 1) = c + 1 + rest.length by omega]; exact happ ▸ h3, fun p => if_pos rfl, fun p => ?_, fun j o' hj => ?_⟩
    · rcases List.mem_append.1 hm with hm | hm
      · have := h2 m hm; omega
      · simp only [List.mem_singleton] at hm
        subst hm; exact ⟨Nat.le_refl _, by dsimp only; omega⟩
    · dsimp only
      rw [if_neg (by simp), List.length_cons, show c + (rest.length + 1) = c + 1 + rest.length by omega]; exact h5 p
    · rw [← happ]
      cases j with
      | zero =>
        simp only [List.getElem?_cons_zero, Option.some.injEq] at hj
        subst hj
        have hOc : (Mks.of (new ++ (⟨c, O, src, I⟩ :: L))).O c = O := by
          funext p
          show (match fnd (new ++ (⟨c, O, src, I⟩ :: L)) c with | some m => m.O p | none => []) = _
          rw [hfn]
        have hsc : (Mks.of (new ++ (⟨c, O, src, I⟩ :: L))).src c = src := by
          show (fnd (new ++ (⟨c, O, src, I⟩ :: L)) c).bind _ = _
          rw [hfn]; rfl
        have hIc : (Mks.of (new ++ (⟨c, O, src, I⟩ :: L))).I c = I := by
          funext y
          show (match fnd (new ++ (⟨c, O, src, I⟩ :: L)) c with | some m => m.I y | none => True) = _
          rw [hfn]
        rw [Nat.add_zero]
        refine ⟨T, hg, .inl ⟨d, hd, Nat.blt_eq ▸ hN, fun p t => ?_⟩, hi, .inr ⟨by show (fnd (new ++ (⟨c, O, src, I⟩ :: L)) c).isSome = true; rw [hfn]; rfl, by rw [hOc]; exact hO, fun i hi2 => ?_, fun p R hR => ?_⟩⟩
        · dsimp only
          rw [if_neg (by omega), if_pos rfl, h4 p]
        · rw [hsc] at hi2
          obtain ⟨e1, e2, _⟩ := hs i hi2
          have hic : i < c ∨ 1000000 ≤ i := by
            obtain ⟨m, hm⟩ := Option.isSome_iff_exists.1 e2
            obtain ⟨g1, g2⟩ := fI hm
            have := hL.lt m g1
            omega
          exact ⟨by omega, e1, by show (fnd (new ++ (⟨c, O, src, I⟩ :: L)) i).isSome = true; rw [hfl i hic]; exact e2⟩
        · dsimp only
          rw [if_pos rfl, hOc, hIc]
          have hcons : (Mks.of (new ++ (⟨c, O, src, I⟩ :: L))).cons c p = wV L src p := by
            unfold Mks.cons wV
            rw [hsc]
            cases hsr : src with
            | none => rfl
            | some i =>
              have hic : i < c ∨ 1000000 ≤ i := by
                obtain ⟨_, e2, _⟩ := hs i hsr
                obtain ⟨m, hm⟩ := Option.isSome_iff_exists.1 e2
                obtain ⟨g1, g2⟩ := fI hm
                have := hL.lt m g1
                omega
              rw [hsr] at hfl
              show (match fnd (new ++ (⟨c, O, some i, I⟩ :: L)) i with | some m => m.O p | none => []) = (match fnd L i with | some m => m.O p | none => [])
              rw [hfl i hic]
          rw [hcons]
          exact hm p R hR
      | succ j =>
        have := h6 j o' (by simpa using hj)
        rw [show c + 1 + j = c + (j + 1) by omega] at this
        exact this.congr (fun p => if_neg (by omega)) fun p => if_neg (by omega)
  | makeN c L o rest E O src I T hd hg hi hO hs hm h ih =>
    obtain ⟨σ, new, Ef, h1, h2, h3, h4, h5, h6⟩ := ih ⟨fun m hm => by
      rcases List.mem_cons.1 hm with rfl | hm
      · exact .inl (Nat.lt_succ_self _)
      · exact (hL.lt m hm).imp Nat.lt_succ_of_lt id, List.pairwise_cons.2 ⟨fun m hm => ⟨by rw [List.length_cons] at hbig; have := hL.lt m hm; dsimp only; omega, fun i hi2 => (hs i hi2).2.2 m hm⟩, hL.pw⟩⟩ (by rw [List.length_cons] at hbig; omega)
    rw [List.length_cons] at hbig
    have happ : new ++ (⟨c, O, src, I⟩ :: L) = (new ++ [⟨c, O, src, I⟩]) ++ L := by simp
    have hfn : fnd (new ++ (⟨c, O, src, I⟩ :: L)) c = some ⟨c, O, src, I⟩ := by
      rw [nh (c := c + 1) h2 (.inl (Nat.lt_succ_self c))]
      unfold fnd
      rw [List.find?_cons]
      have : Nat.beq c c = true := Nat.beq_refl _
      simp only [this]
    have hfl : ∀ i, (i < c ∨ 1000000 ≤ i) → fnd (new ++ (⟨c, O, src, I⟩ :: L)) i = fnd L i := fun i hic => by
      rw [nh (c := c + 1) h2 (by omega)]
      unfold fnd
      rw [List.find?_cons]
      have : Nat.beq c i = false := sI (by omega)
      simp only [this]
    refine ⟨fun p i => if i = c then E p else σ p i, new ++ [⟨c, O, src, I⟩], Ef, happ ▸ h1, fun m hm => ?_, by rw [List.length_cons, show c + (rest.length + 1) = c + 1 + rest.length by omega]; exact happ ▸ h3, fun p => if_pos rfl, fun p => ?_, fun j o' hj => ?_⟩
    · rcases List.mem_append.1 hm with hm | hm
      · have := h2 m hm; omega
      · simp only [List.mem_singleton] at hm
        subst hm; exact ⟨Nat.le_refl _, by dsimp only; omega⟩
    · dsimp only
      rw [if_neg (by simp), List.length_cons, show c + (rest.length + 1) = c + 1 + rest.length by omega]; exact h5 p
    · rw [← happ]
      cases j with
      | zero =>
        simp only [List.getElem?_cons_zero, Option.some.injEq] at hj
        subst hj
        have hOc : (Mks.of (new ++ (⟨c, O, src, I⟩ :: L))).O c = O := by
          funext p
          show (match fnd (new ++ (⟨c, O, src, I⟩ :: L)) c with | some m => m.O p | none => []) = _
          rw [hfn]
        have hsc : (Mks.of (new ++ (⟨c, O, src, I⟩ :: L))).src c = src := by
          show (fnd (new ++ (⟨c, O, src, I⟩ :: L)) c).bind _ = _
          rw [hfn]; rfl
        have hIc : (Mks.of (new ++ (⟨c, O, src, I⟩ :: L))).I c = I := by
          funext y
          show (match fnd (new ++ (⟨c, O, src, I⟩ :: L)) c with | some m => m.I y | none => True) = _
          rw [hfn]
        rw [Nat.add_zero]
        refine ⟨T, hg, .inr ⟨hd, fun p t => ?_⟩, hi, .inr ⟨by show (fnd (new ++ (⟨c, O, src, I⟩ :: L)) c).isSome = true; rw [hfn]; rfl, by rw [hOc]; exact hO, fun i hi2 => ?_, fun p R hR => ?_⟩⟩
        · dsimp only
          rw [if_neg (by omega), if_pos rfl, h4 p]
        · rw [hsc] at hi2
          obtain ⟨e1, e2, _⟩ := hs i hi2
          have hic : i < c ∨ 1000000 ≤ i := by
            obtain ⟨m, hm⟩ := Option.isSome_iff_exists.1 e2
            obtain ⟨g1, g2⟩ := fI hm
            have := hL.lt m g1
            omega
          exact ⟨by omega, e1, by show (fnd (new ++ (⟨c, O, src, I⟩ :: L)) i).isSome = true; rw [hfl i hic]; exact e2⟩
        · dsimp only
          rw [if_pos rfl, hOc, hIc]
          have hcons : (Mks.of (new ++ (⟨c, O, src, I⟩ :: L))).cons c p = wV L src p := by
            unfold Mks.cons wV
            rw [hsc]
            cases hsr : src with
            | none => rfl
            | some i =>
              have hic : i < c ∨ 1000000 ≤ i := by
                obtain ⟨_, e2, _⟩ := hs i hsr
                obtain ⟨m, hm⟩ := Option.isSome_iff_exists.1 e2
                obtain ⟨g1, g2⟩ := fI hm
                have := hL.lt m g1
                omega
              rw [hsr] at hfl
              show (match fnd (new ++ (⟨c, O, some i, I⟩ :: L)) i with | some m => m.O p | none => []) = (match fnd L i with | some m => m.O p | none => [])
              rw [hfl i hic]
          rw [hcons]
          exact hm p R hR
      | succ j =>
        have := h6 j o' (by simpa using hj)
        rw [show c + 1 + j = c + (j + 1) by omega] at this
        exact this.congr (fun p => if_neg (by omega)) fun p => if_neg (by omega)
theorem vZ (L0 : List Mki) (k : Nat) {id : Nat} {l l1 l2 : List Oper} {env : Env} (hm : P.follows .mixedOrders = true) (hok : cC l.toArray = true) (htl : eU l.toArray k = true) (hbl : Nat.blt l.length 1000000 = true) (hc : Cut k l l1 l2) (hL0 : MWf L0 0) (hcon : ∀ m ∈ L0, m.src = none ∧ (∀ p p', m.O p = m.O p') ∧ ∀ y, m.I y)
    (h : DM P w0 N l.toArray objs (fun L E => ∀ p : Pt, (∀ m ∈ L, m.I (p m.idx)) → AL P w0 N l.toArray Q l2 (E p) ((qD L).flatMap (fun m => m.O p) ++ objs)) 0 L0 l1 (fun _ => env)) : AW P w0 N (.region id l.toArray true) Q env (L0.flatMap (fun m => m.O pt0) ++ objs) := ⟨fun a w hs => by
  obtain ⟨e1, e2, hkl⟩ := hc.eq
  have hbl : l.length < 1000000 := Nat.blt_eq ▸ hbl
  have hl1 : l1.length = k := by rw [e1, List.length_take]; omega
  obtain ⟨σ, new0, Ef, h1, hnew, h3, h4, h5, h6⟩ := vE h hL0 (by omega)
  rw [hl1, Nat.zero_add] at h5 h3
  have hnk : ∀ m ∈ new0, m.idx < k := fun m hm => by
    have := h3.lt m (List.mem_append_left _ hm)
    have := hnew m hm
    omega
  have hL0i : ∀ m ∈ L0, 1000000 ≤ m.idx := fun m hm => by have := hL0.lt m hm; omega
  have hmemL : ∀ m, m ∈ new0 ++ L0 → ¬ m.idx < k → m ∈ L0 := fun m hm hk => by
    rcases List.mem_append.1 hm with h | h
    · exact absurd (hnk m h) hk
    · exact h
  have hL0m : ∀ m ∈ L0, m ∈ new0 ++ L0 := fun m hm => List.mem_append_right _ hm
  generalize new0 ++ L0 = new at h1 h3 h6 hmemL hL0m
  have hop : ∀ c o, c < k → l.toArray[c]? = some o → OpM P w0 N l.toArray objs (Mks.of new) σ c o := fun c o hck ho => by
    have := h6 c o (by rw [e1, List.getElem?_take, if_pos hck]; simpa using ho)
    rwa [Nat.zero_add] at this
  have hrep : ∀ i, (Array.replicate l.toArray.size false).getD i false = false := fun i => by
    rcases Nat.lt_or_ge i l.toArray.size with h | h
    · simp at h; simp [h]
    · simp at h; simp [Array.getD_eq_getD_getElem?, h]
  have hsrc : ∀ {c i : Nat}, (Mks.of new).src c = some i → ∃ m ∈ new, m.idx = c ∧ m.src = some i := fun {c i} hci => by
    obtain ⟨m, hm, hmi⟩ := Option.bind_eq_some_iff.1 hci
    obtain ⟨g1, g2⟩ := fI hm
    exact ⟨m, g1, g2, hmi⟩
  have hOof : ∀ {m : Mki} (_ : m ∈ new) (p : Pt), (Mks.of new).O m.idx p = m.O p := fun {m} hm p => by
    show (match fnd new m.idx with | some m => m.O p | none => []) = _
    rw [rh h3 hm]
  have hon : ∀ {m : Mki} (_ : m ∈ new), (Mks.of new).on m.idx = true := fun {m} hm => by
    show (fnd new m.idx).isSome = true
    rw [rh h3 hm]; rfl
  have hfla : ∀ (p : Pt) (l3 : List Mki), (∀ m ∈ l3, m ∈ new) → (l3.map (·.idx)).flatMap (fun i => (Mks.of new).O i p) = l3.flatMap fun m => m.O p := fun p l3 => by
    induction l3 with
    | nil => intro _; rfl
    | cons x r ih =>
      intro hx
      rw [List.map_cons, List.flatMap_cons, List.flatMap_cons, ih fun y hy => hx y (List.mem_cons_of_mem _ hy), hOof (hx x List.mem_cons_self)]
  have hnd : (qD new).Pairwise fun a b => a.idx ≠ b.idx := (h3.pw.imp fun h => h.1).filter _
  refine wp_region_any hm (vb (objs := objs) hok (k := k) (by simp; omega) htl (M := Mks.of new) (σ := σ) (fun p p' t => by rw [h4, h4]) hop (fun c c' i hck hck' hsc hsc' => ?_) (fun j hj p p' => ?_) (ms := (qD new).map (·.idx)) (List.Pairwise.map _ (fun a b h => h) hnd) (fun i => ?_) (fun p hI => ?_) _ _ _ _ (by simp) (by simp [bK]) (fun i hi => by rw [hrep] at hi; cases hi) (fun j oj _ hx => nomatch (hrep j).symm.trans hx) ⟨pt0, L0.flatMap (fun m => m.O pt0) ++ objs, ⟨L0.map (·.idx), List.Pairwise.map _ (fun a b h => h) (hL0.pw.imp fun h => h.1), fun i => ?_, by rw [hfla pt0 L0 hL0m]⟩, ⟨hs.defers, hs.size, ?_, fun t c hc' h7 h8 v hv => ?_⟩, fun i _ hx => nomatch (hrep i).symm.trans hx⟩)
  · obtain ⟨m, g1, g2, g3⟩ := hsrc hsc
    obtain ⟨m', g1', g2', g3'⟩ := hsrc hsc'
    refine Classical.byContradiction fun hne => ?_
    obtain ⟨x, hx, rfl⟩ := List.getElem_of_mem g1
    obtain ⟨y, hy, rfl⟩ := List.getElem_of_mem g1'
    have hne : x ≠ y := fun e => by subst e; omega
    rcases Nat.lt_or_gt_of_ne hne with hxy | hxy
    · exact (List.pairwise_iff_getElem.1 h3.pw x y hx hy hxy).2 i g3 g3'
    · exact (List.pairwise_iff_getElem.1 h3.pw y x hy hx hxy).2 i g3' g3
  · show (match fnd new j with | some m => m.O p | none => []) = (match fnd new j with | some m => m.O p' | none => [])
    cases hf : fnd new j with
    | none => rfl
    | some m =>
      obtain ⟨g1, g2⟩ := fI hf
      exact (hcon m (hmemL m g1 (by simp at hj; omega))).2.1 p p'
  · unfold vz
    rw [List.mem_map]
    constructor
    · rintro ⟨m, hm, rfl⟩
      obtain ⟨g1, g2⟩ := List.mem_filter.1 hm
      refine ⟨fun hlt => ?_, hon g1, fun c hck hsc _ => ?_⟩
      · have := h3.lt m g1
        simp at hlt
        omega
      · obtain ⟨m', g1', _, g3'⟩ := hsrc hsc
        have := List.all_eq_true.1 g2 m' g1'
        simp only [g3', Nat.beq_refl, Bool.not_true] at this
        cases this
    · rintro ⟨hik, hon2, hno⟩
      obtain ⟨m, hm⟩ := Option.isSome_iff_exists.1 (show (fnd new i).isSome = true from hon2)
      obtain ⟨g1, rfl⟩ := fI hm
      refine ⟨m, List.mem_filter.2 ⟨g1, List.all_eq_true.2 fun m' hm' => ?_⟩, rfl⟩
      cases hsr : m'.src with
      | none => rfl
      | some j =>
        have hne : j ≠ m.idx := fun e => by
          subst e
          have hlt : m'.idx < k := Classical.byContradiction fun hk => by
            have := (hcon m' (hmemL m' hm' hk)).1
            rw [hsr] at this; cases this
          exact hno m'.idx hlt (by show (fnd new m'.idx).bind _ = _; rw [rh h3 hm']; exact hsr) hlt
        simp only [sI hne, Bool.not_false]
  · have hd2 : l.toArray.toList.drop k = l2 := by simpa using e2.symm
    rw [hd2, h5, hfla p (qD new) fun m hm => (List.mem_filter.1 hm).1]
    refine h1 p fun m hm => ?_
    by_cases hlt : m.idx < k
    · have := hI m.idx hlt (hon hm)
      have e : (Mks.of new).I m.idx = m.I := by
        funext y
        show (match fnd new m.idx with | some m => m.I y | none => True) = _
        rw [rh h3 hm]
      rwa [e] at this
    · exact (hcon m (hmemL m hm hlt)).2.2 _
  · unfold vz
    rw [List.mem_map]
    constructor
    · rintro ⟨m, hm, rfl⟩
      have := hL0i m hm
      exact ⟨fun h => by simp at h; omega, hon (hL0m m hm), fun c _ _ hx => nomatch (hrep c).symm.trans hx⟩
    · rintro ⟨hx, hon2, _⟩
      obtain ⟨m, hm⟩ := Option.isSome_iff_exists.1 (show (fnd new i).isSome = true from hon2)
      obtain ⟨g1, rfl⟩ := fI hm
      exact ⟨m, hmemL m g1 (fun hlt => nomatch (hrep _).symm.trans (hx (by simp; omega))), rfl⟩
  · exact hs.mem.grow ⟨hs.mem.below.os, hs.mem.below.tape, hs.mem.below.output, hs.mem.below.size, hs.mem.below.block⟩ (Nat.le_refl _) (fun _ _ => rfl)
  · have hk0 : ∀ m, m ≤ c → lk t (σ pt0 m) = lk t (σ pt0 0) := fun m => by
      induction m with
      | zero => intro _; rfl
      | succ m ih =>
        intro hm2
        have hml : m < l.length := by omega
        obtain ⟨T, _, g, _⟩ := hop m l[m] (by omega) (by simp [hml])
        rcases g with ⟨d, g1, _, g2⟩ | ⟨_, g2⟩
        · rw [g2, bL, if_neg]
          · exact ih (by omega)
          · intro e
            have := h7 m (by omega) (by unfold bY; simp [hml, g1, e])
            rw [hrep] at this; cases this
        · rw [g2]; exact ih (by omega)
    rw [hk0 c (Nat.le_refl _), h4] at hv
    have hst : gT w (L0.flatMap (fun m => m.O pt0) ++ objs) { w with drawn := w.drawn + 1 } (L0.flatMap (fun m => m.O pt0) ++ objs) := ⟨fun _ _ _ => rfl, fun _ _ h => h, fun _ _ _ rows _ _ h => ⟨⟨rows, h⟩, rfl⟩, Nat.le_refl _, fun h => h⟩
    exact (hs.env t v hv).step hst⟩
theorem rD (k : Nat) {id : Nat} {l l1 l2 : List Oper} {env : Env} (hm : P.follows .mixedOrders = true) (hok : cC l.toArray = true) (htl : eU l.toArray k = true) (hbl : Nat.blt l.length 1000000 = true) (hc : Cut k l l1 l2)
    (h : DM P w0 N l.toArray objs (fun L E => ∀ p : Pt, (∀ m ∈ L, m.I (p m.idx)) → AL P w0 N l.toArray Q l2 (E p) ((qD L).flatMap (fun m => m.O p) ++ objs)) 0 [] l1 (fun _ => env)) : AW P w0 N (.region id l.toArray true) Q env objs :=
  vZ [] k hm hok htl hbl hc ⟨by simp, .nil⟩ (by simp) h
end
def Yu.a : Yu → Nat
  | .one a _ => a
  | _ => 0
def Yu.b : Yu → Nat
  | .one _ b => b
  | _ => 0
class Enc (Y : Type) where
  enc : Y → Yu
  dec : Yu → Y
  eq : ∀ y, dec (enc y) = y
instance : Enc (Nat × Nat) := ⟨fun y => .one y.1 y.2, fun y => (y.a, y.b), fun _ => rfl⟩
instance : Enc (List (Nat × Nat)) := ⟨.many, fun y => match y with | .many l => l | _ => [], fun _ => rfl⟩
instance {A B : Type} [Enc A] [Enc B] : Enc (A × B) := ⟨fun y => .pair (Enc.enc y.1) (Enc.enc y.2), fun y => match y with | .pair a b => (Enc.dec a, Enc.dec b) | _ => (Enc.dec .no, Enc.dec .no), fun y => by simp [Enc.eq]⟩
section
variable {P : Program} {w0 : World} {N : Nat} {Q : Exit → Act → World → Prop} {objs R : bp} {ops : Array Oper} {env : Env} {dd : Option Nat} {T0 : Nat} {pos : String} {af : Array Edge} {g : Option (Nat × Bool)}
theorem vA {T : TypeId} {zs : List TV} (hz : cJ P T = some zs) : MkW P w0 env ⟨dd, .alloc T, T0, pos, af, g⟩ [] R (fun _ => True) (fun y => [(y.a, y.b, .box zs)]) (fun y => .mp y.a y.b 0) := fun a w K Q hw _ hK =>
  qY rfl hz (by simpa using hw) fun ss b v w' h1 h2 h3 => hK (.one ss b) v w' trivial h2 h3 h1
theorem d7.mono {objs' : bp} (hs : ∀ x ∈ objs, x ∈ objs') {t t' : TV} (h : d7 objs t t') : d7 objs' t t' := by
  induction h with
  | same t => exact .same t
  | nils m => exact .nils m
  | ms s b off len m rows live rows' hm hle hlive hl h ih => exact .ms s b off len m rows live rows' (hs _ hm) hle hlive hl ih
  | mp s b off cells l' hm hl h ih => exact .mp s b off cells l' (hs _ hm) hl ih
  | me s b m k j rows r l' hm hr hl h ih => exact .me s b m k j rows r l' (hs _ hm) hr hl ih
  | agg l l' hl h ih => exact .agg l l' hl ih
  | sl f m rows rows' hl h ih => exact .sl f m rows rows' hl ih
  | cp0 f l => exact .cp0 f l
  | cut t l l' h hp ih => exact .cut t l l' ih hp
theorem dU.mono {objs' : bp} (hs : ∀ x ∈ objs, x ∈ objs') {xs : List Operand} {ts : List TV} (h : dU env objs xs ts) : dU env objs' xs ts := by
  induction h with
  | nil => exact .nil
  | cons x xs t t' ts h hv hr ih => exact .cons x xs t t' ts h (hv.mono hs) ih
end
theorem zJ {α : Type} {ops : Array Oper} {c : Nat} (f : Yu → α) : ve ops c (fun p => f (p c)) := fun p p' h => by
  show f (p c) = f (p' c)
  rw [h c (.inl rfl)]
theorem uc (L : List Mki) (p : Pt) : wV L none p = [] := rfl
theorem ah_ {A : Prop} (h : A := by (first | exact .inl rfl | exact .inr ⟨by decide, by kernel_rfl⟩ | fail)) : A := h
theorem zH {A : Prop} (h : A := by (first | (intro p p' h; rfl) | (intro p p' h; (try dsimp only); (repeat rw [h _ ah_])) | fail)) : A := h
section
variable {P : Program} {w0 : World} {N : Nat} {Q : Exit → Act → World → Prop} {objs : bp} {ops : Array Oper} {K : List Mki → (Pt → Env) → Prop} {c : Nat} {L : List Mki} {rest : List Oper} {E : Pt → Env} {d T0 : Nat} {pos : String} {af : Array Edge}
theorem m_q {op : Op} {T : Pt → TV} (hy : ∀ p R, (∀ x ∈ objs, x ∈ R) → Yd P w0 (E p) R ⟨some d, op, T0, pos, af, none⟩ (T p)) (hN : Nat.blt d N = true) (hi : ve ops c T) (h : DM P w0 N ops objs K (c + 1) L rest (fun p => (d, T p) :: E p)) : DM P w0 N ops objs K c L (⟨some d, op, T0, pos, af, none⟩ :: rest) E :=
  .run c L _ rest E d T rfl hN rfl hi (fun p R hR => (hy p R hR).go) h
theorem uh {T : TypeId} {zs : List TV} (hN : Nat.blt d N = true) (_he : zT T = zs) (hz : cJ P T = some zs)
    (h : DM P w0 N ops objs K (c + 1) (⟨c, fun p => [((p c).a, (p c).b, .box zs)], none, fun _ => True⟩ :: L) rest (fun p => (d, .mp (p c).a (p c).b 0) :: E p)) : DM P w0 N ops objs K c L (⟨some d, .alloc T, T0, pos, af, none⟩ :: rest) E :=
  .make c L _ rest E d (fun p => [((p c).a, (p c).b, .box zs)]) none (fun _ => True) (fun p => .mp (p c).a (p c).b 0) rfl hN rfl (zJ fun y => TV.mp y.a y.b 0) (zJ fun y => [(y.a, y.b, ca.box zs)]) (fun _ h => by cases h) (fun p R hR => by
    have := vA (P := P) (w0 := w0) (env := E p) (R := R) (dd := some d) (T0 := T0) (pos := pos) (af := af) (g := none) hz
    simpa only [Pt.put_eq, uc] using this) h
end
theorem nD {P : Program} {w0 : World} {N : Nat} {Q : Exit → Act → World → Prop} {env : Env} {objs : bp} {ops : Array Oper} {rest : List Oper} {d T0 : Nat} {pos : String} {af : Array Edge} {g : Option (Nat × Bool)} {objsOf : Nat → bp} {T s b n m : Nat} {x y : Operand} {f : Nat} {news : List (List TV)} (hN : Nat.blt d N = true) (hx : ev env x = some (.ms s b 0 0)) (hy : ev env y = some (.sl f m news)) (hT : nY P T m = true) (hm : (s, b, ca.row m []) ∈ objs) (hn : news.length = n) (hbig : n ≤ 1000000000) (hu : ∀ b2, Upd (s, b, .row m []) (s, b2, .row m news) objs (objsOf b2)) (h : ∀ b2, AL P w0 N ops Q rest ((d, .ms s b2 0 n) :: env) (objsOf b2)) : AO P w0 N ops Q ⟨some d, .call { callee := .builtin .append, args := #[x, y], argTypes := #[T, T] }, T0, pos, af, g⟩ rest env objs :=
  fg hN hx hy hT hm rfl hn (by omega) (List.nil_append _) hu (fun b2 => by simpa only [Nat.zero_add] using h b2)
theorem ym_ {A : Prop} (h : A := by (first | (intro p R hR; (try dsimp only); (first | ((with_reducible first | apply tq | apply m8 | apply fe); rfl) | ((with_reducible apply q7); rfl; (with_reducible rfl); rfl) | ((with_reducible apply qN); rfl; (with_reducible rfl); rfl) | ((with_reducible apply o9); rfl; kernel_rfl; rfl; (exact hR _ mm_); (first | (with_reducible assumption) | (refine bg ?_; omega) | (refine eH ?_; simp only [List.length_set, List.length_map]; omega) | exact rfl | assumption); rfl) | ((with_reducible apply ku); rfl; kernel_rfl; rfl; rfl) | ((with_reducible apply nE); rfl; kernel_rfl; rfl; (exact hR _ mm_); rfl) | ((with_reducible apply gH); rfl; kernel_rfl; rfl) | ((with_reducible apply gD); rfl; rfl; kernel_rfl; kernel_rfl; kernel_rfl; rfl; (first | (with_reducible first | exact rfl | exact lb | exact ll | exact lp | exact ld) | exact rfl | exact cn (by omega) | omega); (first | (with_reducible assumption) | (refine bg ?_; omega) | (refine eH ?_; simp only [List.length_set, List.length_map]; omega) | exact rfl | assumption)) | ((with_reducible apply gA); rfl; rfl; (exact hR _ mm_); kernel_rfl; kernel_rfl; kernel_rfl; (first | (with_reducible first | exact rfl | exact lb | exact ll | exact lp | exact ld) | exact rfl | exact cn (by omega) | omega); (first | assumption | omega); (first | with_reducible exact Nat.zero_add _ | rfl)) | ((with_reducible apply qa); rfl; kernel_rfl) | ((with_reducible apply ni); rfl; kernel_rfl; (first | exact List.length_map _ | rfl)) | ((with_reducible apply q1); rfl; kernel_rfl) | ((with_reducible apply lr); rfl; kernel_rfl) | ((with_reducible first | apply xN | apply xd | apply xj | apply wT | apply xE | apply xG | apply ka | apply zE | apply yz); rfl; rfl) | ((with_reducible first | apply w7 | apply xm | apply xz); rfl; rfl; (first | ((with_reducible first | refine wB ?_ | refine ws ?_ | refine wJ ?_ | refine oy ?_ | refine IntWalk.i64_in _ ?_ | refine wC _ ?_); omega) | ((with_reducible refine IntWalk.i64_in _ ?_); omega) | (with_reducible assumption) | exact rfl)) | ((with_reducible apply kL); rfl; rfl; kernel_rfl; (first | (with_reducible first | exact rfl | exact lb | exact ll | exact lp | exact ld) | exact rfl | exact cn (by omega) | omega); (first | assumption | omega)) | ((with_reducible apply uR); rfl; (with_reducible rfl)) | ((with_reducible apply uW); rfl; (with_reducible rfl)) | ((with_reducible apply x8); rfl; (with_reducible rfl)) | ((with_reducible apply tE); rfl; (with_reducible rfl)) | ((with_reducible first | apply tD | apply tA); rfl; rfl) | ((with_reducible apply i8); rfl; rfl; kernel_rfl; kernel_rfl; (first | ((with_reducible first | refine wB ?_ | refine ws ?_ | refine wJ ?_ | refine oy ?_ | refine IntWalk.i64_in _ ?_ | refine wC _ ?_); omega) | ((with_reducible refine IntWalk.i64_in _ ?_); omega) | (with_reducible assumption) | exact rfl)) | ((with_reducible apply iO); rfl; (exact hR _ mm_)) | ((with_reducible apply ig); rfl; (exact hR _ mm_); (first | (with_reducible assumption) | (refine bg ?_; omega) | (refine eH ?_; simp only [List.length_set, List.length_map]; omega) | exact rfl | assumption)) | ((with_reducible apply gV); rfl; kernel_rfl; kernel_rfl; kernel_rfl; rfl; (exact hR _ mm_); (first | (with_reducible assumption) | (refine bg ?_; omega) | (refine eH ?_; simp only [List.length_set, List.length_map]; omega) | exact rfl | assumption); (first | exact .zero _ | exact .succ _ _ _ _ (.zero _) | exact .succ _ _ _ _ (.succ _ _ _ _ (.zero _)) | exact .succ _ _ _ _ (.succ _ _ _ _ (.succ _ _ _ _ (.zero _))) | exact .succ _ _ _ _ (.succ _ _ _ _ (.succ _ _ _ _ (.succ _ _ _ _ (.zero _)))) | (repeat (first | exact .zero _ | apply er.succ)))) | ((with_reducible apply fa); rfl; kernel_rfl; kernel_rfl; kernel_rfl; rfl; (first | exact .zero _ | exact .succ _ _ _ _ (.zero _) | exact .succ _ _ _ _ (.succ _ _ _ _ (.zero _)) | exact .succ _ _ _ _ (.succ _ _ _ _ (.succ _ _ _ _ (.zero _))) | exact .succ _ _ _ _ (.succ _ _ _ _ (.succ _ _ _ _ (.succ _ _ _ _ (.zero _)))) | (repeat (first | exact .zero _ | apply er.succ)))) | ((with_reducible apply iE); rfl; kernel_rfl; kernel_rfl; kernel_rfl; rfl; (exact hR _ mm_); (first | exact .zero _ | exact .succ _ _ _ _ (.zero _) | exact .succ _ _ _ _ (.succ _ _ _ _ (.zero _)) | exact .succ _ _ _ _ (.succ _ _ _ _ (.succ _ _ _ _ (.zero _))) | exact .succ _ _ _ _ (.succ _ _ _ _ (.succ _ _ _ _ (.succ _ _ _ _ (.zero _)))) | (repeat (first | exact .zero _ | apply er.succ)))) | ((with_reducible apply uS); rfl; kernel_rfl; kernel_rfl; rfl) | ((with_reducible apply ly); rfl; rfl; rfl; kernel_rfl; (first | (with_reducible first | exact rfl | exact lb | exact ll | exact lp | exact ld) | exact rfl | exact cn (by omega) | omega); (first | (with_reducible first | exact rfl | exact lb | exact ll | exact lp | exact ld) | exact rfl | exact cn (by omega) | omega); (first | assumption | omega); (first | assumption | omega)) | ((with_reducible apply oX); rfl; rfl; kernel_rfl; (first | (with_reducible first | exact rfl | exact lb | exact ll | exact lp | exact ld) | exact rfl | exact cn (by omega) | omega); (first | assumption | omega)) | ((with_reducible apply og); rfl; rfl; kernel_rfl; (first | (with_reducible first | exact rfl | exact lb | exact ll | exact lp | exact ld) | exact rfl | exact cn (by omega) | omega); (first | assumption | omega)) | ((with_reducible apply yq); rfl; rfl; omega; (first | ((with_reducible first | refine wB ?_ | refine ws ?_ | refine wJ ?_ | refine oy ?_ | refine IntWalk.i64_in _ ?_ | refine wC _ ?_); omega) | ((with_reducible refine IntWalk.i64_in _ ?_); omega) | (with_reducible assumption) | exact rfl)) | ((with_reducible apply yd); rfl; rfl; omega; exact rfl) | ((with_reducible apply tH); rfl; rfl; (first | assumption | omega)) | ((with_reducible first | apply uP | apply uI); rfl; rfl; kernel_rfl) | ((with_reducible apply yB); rfl; rfl; omega) | ((with_reducible first | apply uQ | apply tF); rfl; rfl; kernel_rfl))) | fail)) : A := h
set_option maxRecDepth 20000
theorem rn (is : List aD) (hp : gO is = true) : ∀ (f : Nat) (ds : List Int) (q : List Nat) (r : List Int), DSt is.length ds q f → nj is (iW is) f ds q = some r → r.length = is.length
  | _, ds, [], r, h, e => by simp [nj] at e; subst e; exact h.len
  | 0, _, _ :: _, r, _, e => by simp [nj] at e
  | f + 1, ds, p :: q, r, h, e => by
    obtain ⟨j, hj, hst, hpl, hg⟩ := h.pop
    obtain rfl : f = j := by omega
    rw [fH _ _ _ _ _ hpl] at e
    have hpi : cU is.length is[p] = true := List.all_eq_true.1 hp _ (List.getElem_mem _)
    cases hs : iW is is[p] p ds with
    | none => rw [hs] at e; cases e
    | some s =>
      rw [hs] at e
      have hsel : is[p].op = 14 → 0 ≤ is[p].eff.1 := fun h14 => by
        simp only [cU, Bool.and_eq_true] at hpi
        have := hpi.1.2
        simp [h14] at this
        simp [aD.eff, h14]; exact this
      unfold iW at hs
      by_cases ht : gd ds p < is[p].eff.1
      · rw [if_pos ht] at hs; cases hs
      · rw [if_neg ht] at hs
        by_cases hA : (is[p].labs.any (eY is p is[p].op)) = true
        · rw [if_pos hA] at hs; cases hs
        · rw [if_neg hA] at hs
          have hst' := f3 _ ds q [] s (ew _ p _ hg ht hsel) (by rw [List.append_nil]; exact hst) hs
          exact rn is hp f s.1 (q ++ s.2) r hst' e
theorem qx (is r) (h : bP is = some r) : r.length = is.length := by
  unfold bP at h
  split at h
  · cases h
  · split at h
    · rename_i h0 hp
      exact rn is hp _ _ _ _ (jK (by omega)) h
    · cases h
open Classical in
theorem kg {x : ba} (hv : cI x = true) : ∀ c ∈ x.codes, gO c.instrs = true ∧ ∃ ds, bP c.instrs = some ds ∧ ds.length = c.instrs.length := fun c hc => by
  have h : eo x := of_decide_eq_true hv
  obtain ⟨o, ho, hok⟩ := h.2.2.2.2
  obtain ⟨k, hk, rfl⟩ := List.getElem_of_mem hc
  obtain ⟨_, h2, h3⟩ := hok k hk
  obtain ⟨ds, hds⟩ := Option.isSome_iff_exists.1 h3
  exact ⟨lx h2, ds, hds, qx _ _ hds⟩
set_option maxHeartbeats 4000000 in
theorem nq (f lo l2 : Nat) (m : aM) (hsm : m.small 1048576) (hc1 : 1 ≤ m.base.codes.length) (o : List Int) (ho : o.length = m.base.codes.length) (b : aQ) : Ct Tryz.prog GL 162 [.cp f (m.tw lo), .agg [.int .i64 b.code, .int .i64 b.outer, .int .i64 b.home, .int .i64 b.self.kind, .int .i64 b.self.number, .str b.self.text], .sl l2 1 (bv o)] (fun _ => .bool (gP m o b)) := by
  refine aJ Tryz.func162 rfl Tryz.ntmps162 rfl rfl fun w0 _ hG => ?_
  have hst := cZ
  have hlx := aL.len lo m.contexts
  have hlc := aT.len lo m.base.codes
  have hxl := hsm.2.2.2.1.1
  have hcl2 := hsm.1.2.1.1
  have hol := aS o
  have hgo := fun (j : Nat) (h : j < o.length) => dW (o := o) h
  have hxi := fun (i : Nat) (h : i < m.contexts.length) => rm (m := m) h rfl
  have hci := fun (i : Nat) (h : i < m.base.codes.length) => rp (m := m) h rfl
  have hxr := fun (i : Nat) (h : i < m.contexts.length) => cP (lo := lo) (l := m.contexts) h
  have hcr := fun (i : Nat) (h : i < m.base.codes.length) => bN (lo := lo) (cs := m.base.codes) h
  obtain ⟨bc, bo, bh, ⟨bk, bn, bt⟩⟩ := b
  have k1 := bz (G := GL) bc 0 ((m.base.codes.length : Int) - 1)
  have k2 := bz (G := GL) bo 0 ((m.contexts.length : Int) - 1)
  unfold gP
  unfold aM.tw
  dsimp only
  cases h1 : inR bc 0 ((m.base.codes.length : Int) - 1)
  case false =>
    rw [Bool.false_and]
    rw [h1] at k1
    rw [show (m.base.codes.length : Int) - 1 = ((m.base.codes.length - 1 : Nat) : Int) by omega] at k1
    repeat' (first | ((with_reducible apply o_y); exact y_; rfl) | refine bf ?_ | with_reducible refine aF (by kernel_rfl) (by kernel_rfl) ?_ | with_reducible refine aN ?_ | with_reducible refine aE rfl ?_ | refine aV rfl rfl rfl rr_ rfl rfl rfl ?_ | ((with_reducible apply d_y); exact y_; rfl) | refine ay hG hst (k1) ?_ | with_reducible refine ab rfl ?_ | (with_reducible first | apply ag | apply aa | apply ah | apply ac | apply au | apply ad) | refine av rfl rr_ ?_)
    refine ao x_ rfl (.tmp _ _ rfl) (fun _ => ?_)
    exact Fin.flat rfl
  rw [Bool.true_and]
  rw [h1] at k1
  rw [show (m.base.codes.length : Int) - 1 = ((m.base.codes.length - 1 : Nat) : Int) by omega] at k1
  have h1' := of_decide_eq_true h1
  obtain ⟨q, rfl⟩ : ∃ q : Nat, bc = q := ⟨bc.toNat, by omega⟩
  have hq : q < m.base.codes.length := by omega
  have hrq := hcr q hq
  have hqo := hgo q (by omega)
  rw [hci q hq]
  generalize m.base.codes[q] = x at hrq ⊢
  obtain ⟨xb, xp, xs, xi⟩ := x
  dsimp only at hrq ⊢
  cases xb
  case false =>
    rw [Bool.false_and]
    repeat' (first | ((with_reducible apply o_y); exact y_; rfl) | refine bf ?_ | with_reducible refine aF (by kernel_rfl) (by kernel_rfl) ?_ | with_reducible refine aN ?_ | with_reducible refine aE rfl ?_ | refine aX rfl rfl rfl rr_ ?_ | refine aV rfl rfl rfl rr_ rfl rfl rfl ?_ | ((with_reducible apply d_y); exact y_; rfl) | refine ay hG hst (k1) ?_ | with_reducible refine ab rfl ?_ | (with_reducible first | apply ag | apply aa | apply ah | apply ac | apply au | apply ad) | refine av rfl rr_ ?_)
    refine ao x_ rfl (.tmp _ _ rfl) (fun _ => ?_)
    exact Fin.flat rfl
  rw [Bool.true_and]
  cases h2 : inR bo 0 ((m.contexts.length : Int) - 1)
  case false =>
    rw [Bool.false_and]
    rw [h2] at k2
    repeat' (first | ((with_reducible apply o_y); exact y_; rfl) | refine bf ?_ | with_reducible refine aF (by kernel_rfl) (by kernel_rfl) ?_ | with_reducible refine aN ?_ | with_reducible refine aE rfl ?_ | refine aX rfl rfl rfl rr_ ?_ | ((with_reducible apply d_y); exact y_; rfl) | refine ay hG hst (k1) ?_ | refine ay hG hst (k2) ?_ | with_reducible refine ab rfl ?_ | (with_reducible first | apply ag | apply aa | apply ah | apply ac | apply au | apply ad) | refine av rfl rr_ ?_)
    refine ao x_ rfl (.tmp _ _ rfl) (fun _ => ?_)
    exact Fin.flat rfl
  rw [Bool.true_and]
  rw [h2] at k2
  have h2' := of_decide_eq_true h2
  obtain ⟨u, rfl⟩ : ∃ u : Nat, bo = u := ⟨bo.toNat, by omega⟩
  have hu : u < m.contexts.length := by omega
  have hru := hxr u hu
  rw [hxi u hu]
  rw [show (m.contexts.length : Int) - 1 = ((m.contexts.length - 1 : Nat) : Int) by omega] at k2
  generalize m.contexts[u] = p at hru ⊢
  obtain ⟨pm, pcc, ppc, ps, po, ph, ⟨pk, pn, pt⟩, psl, pst, pva, pot, prt⟩ := p
  unfold eqV
  dsimp only at hru ⊢
  repeat' (first | ((with_reducible apply o_y); exact y_; rfl) | refine bf ?_ | ((with_reducible apply qR (id := 3) 8); kernel_rfl; kernel_rfl; kernel_rfl; (repeat (first | exact Cut.zero _ | apply Cut.succ)); rfl; rfl; rfl; rfl; rfl; kernel_rfl; rfl) | ((with_reducible apply u_y); exact yu_; rfl) | (with_reducible refine wv ?_; intro ss bb) | refine aA ?_ | ((with_reducible apply iA); rfl; rfl; kernel_rfl; kernel_rfl; kernel_rfl; rfl; (repeat (with_reducible exact mh)); (repeat (first | exact .zero _ | apply er.succ))) | ((with_reducible apply iz); rfl; rfl; kernel_rfl; kernel_rfl; kernel_rfl; rfl; (repeat (first | exact .zero _ | apply er.succ))) | with_reducible refine aF (by kernel_rfl) (by kernel_rfl) ?_ | with_reducible refine aN ?_ | with_reducible refine aE rfl ?_ | refine aX rfl rfl rfl rr_ ?_ | refine aV rfl rfl rfl rr_ rfl rfl rfl ?_ | (refine bJ rfl rfl rfl rr_ (fun hg => ?_) (fun hg => ?_)) | ((with_reducible apply d_y); exact y_; rfl) | refine ay hG hst (k1) ?_ | refine ay hG hst (k2) ?_ | with_reducible refine ab rfl ?_ | (with_reducible first | apply ag | apply aa | apply ah | apply ac | apply ap | apply au) | refine az rfl rr_ ?_)
  all_goals
    refine ao x_ rfl (.tmp _ _ rfl) (fun _ => ?_)
    refine aZ ?_
    first
      | (simp [eqL, eqC, *]; done)
      | (simp_all [eqL, eqC]; done)
theorem ut {m : aM} {c : aL} {x : aT} {q p : Nat} {ds : List Int} {less : Int} (hq : c.code = q) (hx : m.base.codes[q]? = some x) (hp : c.pc = p) (hd : bP x.instrs = some ds) : wY m c less = (decide (p < x.instrs.length) && (decide (0 ≤ gd ds (p : Int)) && decide ((c.stack.length : Int) = IntKind.i64.wrap (gd ds (p : Int) - less)))) := by
  unfold wY cdA dps
  rw [hq, if_pos (by omega), Int.toNat_natCast, hx]
  dsimp only
  rw [hd, hp, Option.getD_some]
  congr 1
  rw [decide_eq_decide]; omega
set_option maxHeartbeats 4000000 in
theorem qs (f lo : Nat) (m : aM) (hsm : m.small 1048576) (hdep : ∀ c ∈ m.base.codes, gO c.instrs = true ∧ ∃ ds, bP c.instrs = some ds ∧ ds.length = c.instrs.length) (k : Nat) (hk : k < m.contexts.length)
    (hc : (0 ≤ m.contexts[k].code ∧ m.contexts[k].code < m.base.codes.length) ∧ 0 ≤ m.contexts[k].pc) (less : Int) : Ct Tryz.prog GL 209 [.cp f (m.tw lo), .int .i64 (k : Int), .int .i64 less] (fun _ => .bool (wY m m.contexts[k] less)) := by
  refine aJ Tryz.func209 rfl Tryz.ntmps209 rfl rfl fun w0 _ hG => ?_
  have hst := cZ
  have hrow := cP (lo := lo) hk
  have hlx := aL.len lo m.contexts
  have hlc := aT.len lo m.base.codes
  have hxl := hsm.2.2.2.1.1
  have hcl2 := hsm.1.2.1.1
  have hst1 := (hsm.2.2.2.1.2 _ (List.getElem_mem hk)).2.2.1.1
  obtain ⟨⟨c0, c1⟩, c2⟩ := hc
  obtain ⟨q, hq⟩ : ∃ q : Nat, m.contexts[k].code = q := ⟨m.contexts[k].code.toNat, by omega⟩
  obtain ⟨p, hp⟩ : ∃ p : Nat, m.contexts[k].pc = p := ⟨m.contexts[k].pc.toNat, by omega⟩
  have hql : q < m.base.codes.length := by omega
  have hrq := bN (lo := lo) hql
  obtain ⟨hpre, ds, hds, hdl⟩ := hdep _ (List.getElem_mem hql)
  have hB := ut (less := less) hq (List.getElem?_eq_getElem hql) hp hds
  have hxs := hsm.1.2.1.2 _ (List.getElem_mem hql)
  rw [hB]
  clear hB hdep
  rw [hq, hp] at hrow
  generalize m.base.codes[q] = x at hrq hpre hds hdl hxs ⊢
  obtain ⟨xb, xp, xs, is⟩ := x
  dsimp only at hrq hpre hds hdl ⊢
  have hil := aD.len lo is
  have hin : is.length ≤ 1048576 := hxs.1
  have hl16 := jk hst yU 0 lo xb xp xs is hin hxs.2 hpre
  have hnew := ue (cG is)
  rw [ik lo] at hl16
  unfold dR dO at hl16 hnew
  rw [← lC is hpre, hds] at hl16 hnew
  rw [Option.getD_some, Option.isSome_some] at hl16 hnew
  generalize m.contexts[k] = c at hrow hst1 c0 c1 c2 hq hp ⊢
  obtain ⟨mk, cc, pc, sd, ou, hm, ⟨sk, sn, st⟩, slots, stack, values, oth, rt⟩ := c
  dsimp only at hrow hst1 ⊢
  have htl := aC.len lo stack
  have hol := aS ds
  unfold aM.tw
  repeat' (first | ((with_reducible apply o_y); exact y_; rfl) | (refine aI ?_; intro ss bb) | refine aA ?_ | with_reducible refine bx (id := 2) ?_ | with_reducible refine ab rfl ?_ | (with_reducible first | apply ag | apply aa | apply ah | apply ac))
  refine ⟨?_⟩
  repeat' (first | ((with_reducible apply rD (id := 2) 10); kernel_rfl; kernel_rfl; kernel_rfl; rfl; (repeat (first | exact Cut.zero _ | apply Cut.succ))) | ((with_reducible apply m_q); exact ym_; rfl; exact zH) | ((with_reducible apply uh); rfl; rfl; kernel_rfl) | (with_reducible refine DM.nil _ _ _ ?_) | (with_reducible apply ag))
  intro pp hpp
  refine wI (objs' := ((pp 9).a, (pp 9).b, .box [.bool false, .int .i64 0, .int .i64 0, .nils]) :: [(ss, bb, .box [.int .i64 mk, .int .i64 (q : Int), .int .i64 (p : Int), .int .i64 sd, .int .i64 ou, .int .i64 hm, .int .i64 sk, .int .i64 sn, .str st, .sl lo 3 (slots.map (aC.tw lo)), .sl lo 3 (stack.map (aC.tw lo)), .sl lo 3 (values.map (aC.tw lo)), .int .i64 oth, .bool rt])]) (by rw [show qD _ = [_] from rfl]; simp only [List.flatMap_cons, List.flatMap_nil, List.append_nil, List.cons_append, List.nil_append]; (try rfl)) ?_
  dsimp only [Nat.reduceAdd]
  generalize Yu.a (pp 9) = s8; generalize Yu.b (pp 9) = b8
  generalize ss = s7; generalize bb = b7
  repeat' (first | refine aA ?_ | with_reducible refine bx (id := 3) ?_ | with_reducible refine ab rfl ?_ | (with_reducible first | apply ag | apply ah | apply ac))
  refine ⟨?_⟩
  by_cases hpl : p < is.length
  case neg =>
    rw [decide_eq_false hpl, Bool.false_and]
    repeat' (first | ((with_reducible apply o_y); exact y_; rfl) | with_reducible refine ab rfl ?_ | (with_reducible first | apply ag | apply aa | apply ah | apply ac | apply au | apply ad) | (refine ae rfl rr_ dd_ ?_))
    all_goals
      refine ao x_ rfl (.tmp _ _ rfl) (fun _ => ?_)
      exact Fin.flat rfl
  rw [decide_eq_true hpl, Bool.true_and]
  have hgp := dW (o := ds) (j := p) (by omega)
  have hwr : IntKind.i64.wrap (gd ds (p : Int) - less) = IntKind.i64.wrap (gd ds (p : Int) - less) := rfl
  generalize hW : IntKind.i64.wrap (gd ds (p : Int) - less) = W at hwr ⊢
  generalize gd ds (p : Int) = g at hgp hW hwr ⊢
  clear hwr
  repeat' (first | ((with_reducible apply o_y); exact y_; rfl) | ((with_reducible apply e7); rfl; kernel_rfl; exact hG; exact hst; exact hl16; ((with_reducible apply dU.cons); rfl; exact d7.mpSame (cells := [.bool xb, .int .i64 xp, .int .i64 xs, .sl lo 4 (is.map (aD.tw lo))]) mm_); exact dU.nil; exact hnew; rintro ⟨ss, bb⟩ -; refine eb ?_) | with_reducible refine aF (by kernel_rfl) (by kernel_rfl) ?_ | with_reducible refine aN ?_ | with_reducible refine aE rfl ?_ | refine aX rfl rfl rfl rr_ ?_ | refine aV rfl rfl rfl rr_ rfl rfl rfl ?_ | (refine bJ rfl rfl rfl rr_ (fun hg => ?_) (fun hg => ?_)) | ((with_reducible apply d_y); exact y_; rfl) | with_reducible refine ab rfl ?_ | (with_reducible first | apply ag | apply aa | apply ah | apply ac | apply ap | apply au) | (refine aj rfl rr_ dd_ ?_))
  all_goals
    refine ao x_ rfl (.tmp _ _ rfl) (fun _ => ?_)
    refine aZ ?_
    first
      | (simp [*]; done)
      | (simp_all; done)
set_option maxRecDepth 20000
open Classical in
theorem gQ {m : aM} {a : Int} (h : ¬ cO m a) : gx m a = false := decide_eq_false h
open Classical in
theorem mq {m : aM} {a : Int} (h : cO m a) : gx m a = true := decide_eq_true h
theorem mO {lo : Nat} {l : List aU} {i : Nat} (h : i < l.length) : (l.map (aU.tw lo))[i]? = some [.int .i64 l[i].at_, .bool l[i].main] := bg h
theorem tk {m : aM} {u : Nat} (hu : u < m.contexts.length) : cO m (u : Int) ↔ m.contexts[u].mark = 0 ∧ j4 m m.contexts[u] 0 = true ∧ si m 1 m.contexts[u].sender := by
  unfold cO
  rw [iY hu]
  constructor
  · rintro ⟨c, hc, h1, h2⟩
    cases hc
    exact ⟨h1, (jL hu).1 h2⟩
  · rintro ⟨h1, h2⟩
    exact ⟨_, rfl, h1, (jL hu).2 h2⟩
set_option maxHeartbeats 4000000 in
theorem p8 (f lo : Nat) (m : aM) (hsm : m.small 1048576) (hdep : ∀ c ∈ m.base.codes, gO c.instrs = true ∧ ∃ ds, bP c.instrs = some ds ∧ ds.length = c.instrs.length) (hsd : iD m)
    (hpl : ∀ (i : Nat) (h : i < m.contexts.length), m.contexts[i].mark = 0 → (0 ≤ m.contexts[i].code ∧ m.contexts[i].code < m.base.codes.length) ∧ 0 ≤ m.contexts[i].pc) (p : Nat) (hp : p < m.processes.length) : Ct Tryz.prog GL 164 [.cp f (m.tw lo), .int .i64 (p : Int)] (fun _ => .bool (gx m m.processes[p].at_)) := by
  refine aJ Tryz.func164 rfl Tryz.ntmps164 rfl rfl fun w0 _ hG => ?_
  have hst := cZ
  have hlx := aL.len lo m.contexts
  have hlp := aU.len lo m.processes
  have hxl := hsm.2.2.2.1.1
  have hpl1 := hsm.2.2.2.2.1.1
  have hrp := mO (lo := lo) hp
  have hxr := fun (i : Nat) (h : i < m.contexts.length) => cP (lo := lo) (l := m.contexts) h
  have hde := fun (i : Nat) (h : i < m.contexts.length) hc less => qs f lo m hsm hdep i h hc less
  have hon := fun (k0 a : Int) h => rk (G := GL) f lo m hxl hsd k0 a h
  generalize m.processes[p] = pr at hrp ⊢
  obtain ⟨at0, mn⟩ := pr
  dsimp only at hrp ⊢
  have k1 := bz (G := GL) at0 0 ((m.contexts.length : Int) - 1)
  unfold aM.tw at hde hon ⊢
  by_cases hin : 0 ≤ at0 ∧ at0 < m.contexts.length
  case neg =>
    rw [gQ fun h => hin (by
      obtain ⟨c, hc, _⟩ := h
      obtain ⟨h0, h1, _⟩ := mN hc
      omega)]
    rw [show inR at0 0 ((m.contexts.length : Int) - 1) = false from by simp only [inR, decide_eq_false_iff_not]; omega] at k1
    by_cases hz : 1 ≤ m.contexts.length
    · rw [show (m.contexts.length : Int) - 1 = ((m.contexts.length - 1 : Nat) : Int) by omega] at k1
      repeat' (first | ((with_reducible apply o_y); exact y_; rfl) | refine aw hG hst (k1) ?_ | with_reducible refine ab rfl ?_ | (with_reducible first | apply ag | apply aa | apply ah | apply ac | apply au | apply ad) | refine aO rfl rfl rfl rr_ rfl rfl rfl ?_ | refine av rfl rr_ ?_)
      refine ao x_ rfl (.tmp _ _ rfl) (fun _ => ?_)
      exact Fin.flat rfl
    · repeat' (first | ((with_reducible apply o_y); exact y_; rfl) | refine aw hG hst (k1) ?_ | with_reducible refine ab rfl ?_ | (with_reducible first | apply ag | apply aa | apply ah | apply ac | apply au | apply ad) | refine aO rfl rfl rfl rr_ rfl rfl rfl ?_ | refine av rfl rr_ ?_)
      refine ao x_ rfl (.tmp _ _ rfl) (fun _ => ?_)
      exact Fin.flat rfl
  rw [show inR at0 0 ((m.contexts.length : Int) - 1) = true from by simp only [inR, decide_eq_true_eq]; omega] at k1
  rw [show (m.contexts.length : Int) - 1 = ((m.contexts.length - 1 : Nat) : Int) by omega] at k1
  obtain ⟨u, rfl⟩ : ∃ u : Nat, at0 = u := ⟨at0.toNat, by omega⟩
  have hu : u < m.contexts.length := by omega
  have hch := tk hu
  have hru := hxr u hu
  have hpu := hpl u hu
  have hdu := hde u hu
  have hsu := hsd u hu
  by_cases hm0 : m.contexts[u].mark = 0
  case neg =>
    rw [gQ fun h => hm0 (hch.1 h).1]
    have hm0' : m.contexts[u].mark ≠ 0 := hm0
    generalize m.contexts[u] = c at hru hm0'
    repeat' (first | ((with_reducible apply o_y); exact y_; rfl) | refine aw hG hst (k1) ?_ | with_reducible refine ab rfl ?_ | (with_reducible first | apply ag | apply aa | apply ah | apply ac | apply au | apply ad) | refine aP rfl rfl rfl rr_ ?_ | refine aO rfl rfl rfl rr_ rfl rfl rfl ?_ | (refine bQ rfl rfl rfl rr_ dd_ ?_) | refine av rfl rr_ ?_)
    refine ao x_ rfl (.tmp _ _ rfl) (fun _ => ?_)
    exact Fin.flat rfl
  have hm0' : ¬ m.contexts[u].mark ≠ 0 := fun h => h hm0
  replace hdu := hdu (hpu hm0) 0
  have hs0 : j4 m m.contexts[u] 0 = wY m m.contexts[u] 0 := by unfold j4; rw [if_pos hm0]
  rw [hs0] at hch
  clear hpu hs0
  generalize wY m m.contexts[u] 0 = b at hdu hch
  cases b
  case false =>
    rw [gQ fun h => by have := (hch.1 h).2.1; cases this]
    generalize m.contexts[u] = c at hru hm0'
    repeat' (first | ((with_reducible apply o_y); exact y_; rfl) | refine aw hG hst (k1) ?_ | refine aw hG hst (hdu) ?_ | with_reducible refine ab rfl ?_ | (with_reducible first | apply ag | apply aa | apply ah | apply ac | apply au | apply ad) | refine aP rfl rfl rfl rr_ ?_ | (refine bC rfl rfl rfl rr_ dd_ ?_) | refine av rfl rr_ ?_)
    refine ao x_ rfl (.tmp _ _ rfl) (fun _ => ?_)
    exact Fin.flat rfl
  have hiff : cO m (u : Int) ↔ si m 1 m.contexts[u].sender := ⟨fun h => (hch.1 h).2.2, fun h => hch.2 ⟨hm0, rfl, h⟩⟩
  clear hch hm0
  generalize m.contexts[u] = c at hru hm0' hsu hiff
  repeat' (first | ((with_reducible apply o_y); exact y_; rfl) | refine aw hG hst (k1) ?_ | refine aw hG hst (hdu) ?_ | with_reducible refine ab rfl ?_ | (with_reducible first | apply ag | apply aa | apply ah | apply ac | apply ai | apply ap) | refine aP rfl rfl rfl rr_ ?_ | (refine bC rfl rfl rfl rr_ dd_ ?_) | refine az rfl rr_ ?_)
  apply aK (X := Int) [0] (fun k => [(6, .int .i64 k)]) (fun _ => []) (fun k => (-1 ≤ k ∧ k < m.contexts.length) ∧ (cO m (u : Int) ↔ si m 1 k)) (fun k => (k + 1).toNat) c.sender ⟨by omega, hiff⟩
  exact kp_; (repeat (first | exact bj.envNil | refine bj.envCons we_ ?_))
  · exact .refl _
  clear hiff hdu k1 hru hm0' hsu
  rintro k ⟨hk, hiff⟩
  try dsimp only
  by_cases hneg : k < 0
  · rw [mq (hiff.2 (.out _ _ hneg))]
    repeat' (first | ((with_reducible apply o_y); exact y_; rfl) | with_reducible refine ab rfl ?_ | (with_reducible first | apply ag | apply aa | apply ah | apply ac | apply aH | apply au | apply ar | apply aq) | (refine aj rfl rr_ dd_ ?_))
    refine ao x_ rfl (.tmp _ _ rfl) (fun _ => ?_)
    exact Fin.flat rfl
  obtain ⟨n, rfl⟩ : ∃ n : Nat, k = n := ⟨k.toNat, by omega⟩
  have hn : n < m.contexts.length := by omega
  have hrn := hxr n hn
  have hst2 := hiff.trans (jL hn)
  have hsn := hsd n hn
  have hpn := hpl n hn
  have hdn := hde n hn
  have hot := hon m.contexts[n].sender m.contexts[n].other (by omega)
  clear hxr hpl hde hon hdep hsd
  have hF : j4 m m.contexts[n] 1 = false → gx m (u : Int) = false := fun h => gQ fun hc => by have := (hst2.1 hc).1; rw [h] at this; cases this
  have hT : j4 m m.contexts[n] 1 = true → (cO m (u : Int) ↔ si m 1 m.contexts[n].sender) := fun h => ⟨fun hc => (hst2.1 hc).2, fun hw => hst2.2 ⟨h, hw⟩⟩
  clear hst2
  unfold j4 at hF hT
  by_cases hm0 : m.contexts[n].mark = 0
  · replace hdn := hdn (hpn hm0) 1
    rw [if_pos hm0] at hF hT
    generalize wY m m.contexts[n] 1 = b at hdn hF hT
    clear hpn hot
    have hm3 : ¬ m.contexts[n].mark = 3 := by omega
    have hm5 : ¬ m.contexts[n].mark = 5 := by omega
    generalize m.contexts[n] = c at hrn hm0 hm3 hm5 hsn hT
    cases b
    · rw [hF rfl]
      repeat' (first | ((with_reducible apply o_y); exact y_; rfl) | (refine aI ?_; intro ss bb) | refine aA ?_ | refine aw hG hst (hdn) ?_ | with_reducible refine ab rfl ?_ | (with_reducible first | apply ag | apply aa | apply ah | apply ac | apply ai | apply ap | apply au | apply ad | apply ak) | refine aP rfl rfl rfl rr_ ?_ | refine aO rfl rfl rfl rr_ rfl rfl rfl ?_ | refine dK rfl rfl rfl rr_ rfl rfl ?_ | (refine bQ rfl rfl rfl rr_ dd_ ?_) | refine av rfl rr_ ?_ | (refine ae rfl rr_ dd_ ?_))
      refine ao x_ rfl (.tmp _ _ rfl) (fun _ => ?_)
      exact Fin.flat rfl
    · repeat' (first | ((with_reducible apply o_y); exact y_; rfl) | (refine aI ?_; intro ss bb) | refine aA ?_ | refine aw hG hst (hdn) ?_ | with_reducible refine ab rfl ?_ | (with_reducible first | apply ag | apply aa | apply ah | apply ac | apply ai | apply ap | apply aB) | refine aP rfl rfl rfl rr_ ?_ | refine aO rfl rfl rfl rr_ rfl rfl rfl ?_ | (refine bQ rfl rfl rfl rr_ dd_ ?_) | (refine bC rfl rfl rfl rr_ dd_ ?_) | refine az rfl rr_ ?_ | (refine ae rfl rr_ dd_ ?_))
      exact aG c.sender ⟨by omega, hT rfl⟩ (by omega) (.of _ nw_ od_ pk_)
  rw [if_neg hm0] at hF hT
  clear hdn hpn
  by_cases hm35 : m.contexts[n].mark = 3 ∨ m.contexts[n].mark = 5
  · rw [if_pos hm35] at hF hT
    generalize onB m m.contexts[n].other m.contexts[n].sender = b at hot hF hT
    generalize m.contexts[n] = c at hrn hm0 hm35 hsn hT hot
    rcases hm35 with hm3 | hm5
    · have hm5 : ¬ c.mark = 5 := by omega
      cases b
      · rw [hF rfl]
        repeat' (first | ((with_reducible apply o_y); exact y_; rfl) | (refine aI ?_; intro ss bb) | refine aA ?_ | refine aw hG hst (hot) ?_ | with_reducible refine ab rfl ?_ | (with_reducible first | apply ag | apply aa | apply ah | apply ac | apply ai | apply ap | apply au | apply ad | apply ak) | refine aP rfl rfl rfl rr_ ?_ | refine aO rfl rfl rfl rr_ rfl rfl rfl ?_ | (refine bQ rfl rfl rfl rr_ dd_ ?_) | (refine bC rfl rfl rfl rr_ dd_ ?_) | refine av rfl rr_ ?_ | (refine ae rfl rr_ dd_ ?_))
        refine ao x_ rfl (.tmp _ _ rfl) (fun _ => ?_)
        exact Fin.flat rfl
      · repeat' (first | ((with_reducible apply o_y); exact y_; rfl) | (refine aI ?_; intro ss bb) | refine aA ?_ | refine aw hG hst (hot) ?_ | with_reducible refine ab rfl ?_ | (with_reducible first | apply ag | apply aa | apply ah | apply ac | apply ai | apply ap | apply aB) | refine aP rfl rfl rfl rr_ ?_ | refine aO rfl rfl rfl rr_ rfl rfl rfl ?_ | (refine bQ rfl rfl rfl rr_ dd_ ?_) | (refine bC rfl rfl rfl rr_ dd_ ?_) | refine az rfl rr_ ?_ | (refine ae rfl rr_ dd_ ?_))
        exact aG c.sender ⟨by omega, hT rfl⟩ (by omega) (.of _ nw_ od_ pk_)
    · have hm3 : ¬ c.mark = 3 := by omega
      cases b
      · rw [hF rfl]
        repeat' (first | ((with_reducible apply o_y); exact y_; rfl) | (refine aI ?_; intro ss bb) | refine aA ?_ | refine aw hG hst (hot) ?_ | with_reducible refine ab rfl ?_ | (with_reducible first | apply ag | apply aa | apply ah | apply ac | apply ai | apply ap | apply au | apply ad | apply ak) | refine aP rfl rfl rfl rr_ ?_ | refine aO rfl rfl rfl rr_ rfl rfl rfl ?_ | refine dK rfl rfl rfl rr_ rfl rfl ?_ | (refine bQ rfl rfl rfl rr_ dd_ ?_) | (refine bC rfl rfl rfl rr_ dd_ ?_) | refine av rfl rr_ ?_ | (refine ae rfl rr_ dd_ ?_))
        refine ao x_ rfl (.tmp _ _ rfl) (fun _ => ?_)
        exact Fin.flat rfl
      · repeat' (first | ((with_reducible apply o_y); exact y_; rfl) | (refine aI ?_; intro ss bb) | refine aA ?_ | refine aw hG hst (hot) ?_ | with_reducible refine ab rfl ?_ | (with_reducible first | apply ag | apply aa | apply ah | apply ac | apply ai | apply ap | apply aB) | refine aP rfl rfl rfl rr_ ?_ | refine aO rfl rfl rfl rr_ rfl rfl rfl ?_ | (refine bQ rfl rfl rfl rr_ dd_ ?_) | (refine bC rfl rfl rfl rr_ dd_ ?_) | refine az rfl rr_ ?_ | (refine ae rfl rr_ dd_ ?_))
        exact aG c.sender ⟨by omega, hT rfl⟩ (by omega) (.of _ nw_ od_ pk_)
  · rw [if_neg hm35] at hT
    have hm3 : ¬ m.contexts[n].mark = 3 := fun h => hm35 (.inl h)
    have hm5 : ¬ m.contexts[n].mark = 5 := fun h => hm35 (.inr h)
    generalize m.contexts[n] = c at hrn hm0 hm3 hm5 hsn hT
    repeat' (first | ((with_reducible apply o_y); exact y_; rfl) | (refine aI ?_; intro ss bb) | refine aA ?_ | with_reducible refine ab rfl ?_ | (with_reducible first | apply ag | apply aa | apply ah | apply ac | apply ai | apply ap | apply aB) | refine aP rfl rfl rfl rr_ ?_ | refine aO rfl rfl rfl rr_ rfl rfl rfl ?_ | (refine bC rfl rfl rfl rr_ dd_ ?_) | refine az rfl rr_ ?_ | (refine ae rfl rr_ dd_ ?_))
    exact aG c.sender ⟨by omega, hT rfl⟩ (by omega) (.of _ nw_ od_ pk_)
end Go.Proofs.YthpdkhejeookhaaGreatDoor
