/- Part 25 of the proof: the texts ImH, ShD, ShL, ShN, NiV, NiW, NiX. -/
import Derived.Test.YtofnnnpahglfdaaGreatDoorFo21
import Derived.Test.YtofnnnpahglfdaaGreatDoorFo23
import Derived.Test.YtofnnnpahglfdaaGreatDoorFo9
import Derived.Test.YtofnnnpahglfdaaGreatDoorFo22
import Derived.Test.YtofnnnpahglfdaaGreatDoorFo3
import Derived.Test.YtofnnnpahglfdaaGreatDoorFo19
set_option linter.all false
set_option maxHeartbeats 2000000
set_option maxRecDepth 20000
namespace Go.Proofs.YtofnnnpahglfdaaGreatDoor
open Go Go.RowKit
theorem zP (f lo : Nat) (m : ai) (hbl : m.blocks.length <= 1048576) (l : List ad) (hl : l.length <= 1048576 /\ ∀ y ∈ l, ad.small 1048576 y) : Ct Tryz.prog GL 183 [.cp f (m.tw lo), .sl lo 3 (l.map (ad.tw lo))] (fun _ => .bool (oK m l)) := by
 refine am Tryz.func183 rfl Tryz.ntmps183 rfl rfl fun w0 _ hG => ?_
 have hst := dA
 have hlen := aq.len lo m.blocks
 have hll := ad.len lo l
 obtain ⟨hl1, hl2⟩ := hl
 have hex := fun (x : ad) (h : x.text.size <= 1048576) => fu 0 lo m.store m.blocks.length x h
 unfold aJ.tw at hex
 unfold ai.tw
 repeat' refine W_ ?_
 apply ak (X := Nat) [0, 1] (fun i => [(5, .int .i64 (i : Int))]) (fun _ => []) (fun i => i <= l.length /\ ∀ y ∈ l.take i, bI m.store m.blocks.length y = true) (fun i => l.length - i) 0 ⟨Nat.zero_le _, by simp⟩
 exact kp_; exact nw_
 ·exact .refl _
 rintro i ⟨hi, hall⟩
 try dsimp only
 by_cases hlt : i < l.length
 ·have hrow := gO (lo := lo) hlt
  have hxi := hex _ (hl2 _ (List.getElem_mem hlt))
  have hta := aV (p := fun y => bI m.store m.blocks.length y = true) hlt hall
  cases hfi : bI m.store m.blocks.length l[i] with
  | false =>
    rw [show oK m l = false from et hlt hfi]
    rw [hfi] at hxi
    generalize l[i] = x at hrow hxi
    repeat' (first | refine V_ ?_ | refine bW hG hst (hxi) ?_)
    exact r1_
  | true =>
    rw [hfi] at hxi hta
    generalize l[i] = x at hrow hxi
    repeat' (first | refine V_ ?_ | refine bW hG hst (hxi) ?_)
    exact ag (i + 1) ⟨by omega, hta rfl⟩ (by omega) (.of _ nw_ od_ pk_)
 obtain rfl : i = l.length := by omega
 rw [List.take_of_length_le (Nat.le_refl _)] at hall
 rw [show oK m l = true from List.all_eq_true.2 hall]
 clear hex hall
 repeat' refine W_ ?_
 exact r1_
theorem yF (f lo : Nat) (m : ai) (hsm : m.small 1048576) (hcl : fW m.store.classes) (h16 : 16 <= m.store.classes.length) (hc1 : 1 <= m.base.codes.length) (k : Nat) (hk : k < m.contexts.length) (hva : ∀ v ∈ m.contexts[k].values, oL m v) : Ct Tryz.prog GL 184 [.cp f (m.tw lo), .int .i64 (k : Int)] (fun _ => .bool (acu m k m.contexts[k])) := by
 refine am Tryz.func184 rfl Tryz.ntmps184 rfl rfl fun w0 _ hG => ?_
 have hst := dA
 have hrow := cx (lo := lo) hk
 have hlx := ap.len lo m.contexts
 have hxl := hsm.2.2.2.1.1
 have hmk := fun (i : Nat) (h : i < m.contexts.length) => aaL (m := m) h
 have hrw := fun (i : Nat) (h : i < m.contexts.length) => cx (lo := lo) (l := m.contexts) h
 have hbk := fun v hv most => wy hst f lo m hsm.2.2.1.1 hsm.1.2.1.1 hc1 v hv most
 have hci := fun (k0 : Int) => wE (G := GL) lo m.store.classes hcl k0 1 (by omega)
 have hcs := (hsm.2.2.2.1.2 _ (List.getElem_mem hk)).2.2.2.1
 unfold ai.tw at hbk |-
 generalize m.contexts[k] = c at hrow hva hcs |-
 obtain ⟨mk, cc, pc, sd, ou, ho, ⟨sk, sn, st⟩, slots, stack, values, oth, rt⟩ := c
 dsimp only at hrow hva hcs |-
 have hvl := ad.len lo values
 unfold acu
 dsimp only
 rcases sH mk with rfl | rfl | rfl | rfl | rfl | ⟨g1, g2, g3, g4, g5⟩
 ·rw [if_pos rfl]
  by_cases h3 : values.length = 3
  case neg =>
    rw [ae8 h3]
    have h3' : ¬ (values.length : Int) = 3 := by omega
    repeat' (first | refine V_ ?_ | (refine aj ?_; intro ss bb) | refine ac ?_)
    exact r1_
  obtain ⟨v0, v1, v2, rfl⟩ := af7 h3
  rw [ae0]
  obtain ⟨k0, n0, t0⟩ := v0
  have f1 := hbk v1 (hva v1 (by simp)) 1
  have f2 := hbk v2 (hva v2 (by simp)) 0
  have f0 := hci n0
  obtain ⟨k1, n1, t1⟩ := v1
  obtain ⟨k2, n2, t2⟩ := v2
  dsimp only at f1 f2 f0 |-
  generalize uK m ⟨k1, n1, t1⟩ 1 = b1 at f1 |-
  generalize uK m ⟨k2, n2, t2⟩ 0 = b2 at f2 |-
  generalize vN m.store.classes 1 n0 = b0 at f0 |-
  simp only [List.map_cons, List.map_nil, ad.tw] at hrow hvl
  repeat' (first | refine V_ ?_ | (refine aj ?_; intro ss bb) | refine ac ?_ | refine ae hG hst (f0) ?_ | refine ae hG hst (f1) ?_ | refine ae hG hst (f2) ?_ | refine g_ (fun hg => ?_) (fun hg => ?_))
  all_goals
    refine aE x_ rfl (.tmp _ _ rfl) (fun _ => ?_)
    exact aK (by simp [*])
 ·rw [if_neg (by decide), if_pos rfl]
  by_cases h3 : values.length = 1
  case neg =>
    rw [abT h3]
    have h3' : ¬ (values.length : Int) = 1 := by omega
    repeat' (first | refine V_ ?_ | (refine aj ?_; intro ss bb) | refine ac ?_)
    exact r1_
  obtain ⟨v1, rfl⟩ := afj h3
  rw [abM]
  have f1 := hbk v1 (hva v1 (by simp)) 0
  obtain ⟨k1, n1, t1⟩ := v1
  dsimp only at f1 |-
  generalize uK m ⟨k1, n1, t1⟩ 0 = b1 at f1 |-
  simp only [List.map_cons, List.map_nil, ad.tw] at hrow hvl
  repeat' (first | refine W_ ?_ | (refine aj ?_; intro ss bb) | refine ac ?_ | refine ab hG hst (f1) ?_)
  all_goals
    refine aE x_ rfl (.tmp _ _ rfl) (fun _ => ?_)
    exact aK (by simp [*])
 ·rw [if_neg (by decide), if_neg (by decide), if_pos rfl]
  by_cases h3 : values.length = 1
  case neg =>
    rw [abT h3]
    have h3' : ¬ (values.length : Int) = 1 := by omega
    repeat' (first | refine V_ ?_ | (refine aj ?_; intro ss bb) | refine ac ?_)
    exact r1_
  obtain ⟨v1, rfl⟩ := afj h3
  rw [abM]
  obtain ⟨k1, n1, t1⟩ := v1
  dsimp only at |-
  simp only [List.map_cons, List.map_nil, ad.tw] at hrow hvl
  have c1 := a7 (G := GL) oth 0 ((k : Int) - 1)
  cases hin : inR oth 0 ((k : Int) - 1)
  case false =>
    rw [vL hin, Bool.and_false]
    rw [hin] at c1
    repeat' (first | refine V_ ?_ | (refine aj ?_; intro ss bb) | refine ac ?_ | refine ae hG hst (c1) ?_ | refine g_ (fun hg => ?_) (fun hg => ?_))
    all_goals
      exact r1_
  rw [zL hin]
  rw [hin] at c1
  have hin' := of_decide_eq_true hin
  obtain ⟨q, rfl⟩ : ∃ q : Nat, oth = q := ⟨oth.toNat, by omega⟩
  have hq : q < m.contexts.length := by omega
  have hr2 := hrw q hq
  rw [hmk q hq]
  rw [show (k : Int) - 1 = ((k - 1 : Nat) : Int) by omega] at c1
  generalize m.contexts[q] = d at hr2 |-
  repeat' (first | refine V_ ?_ | (refine aj ?_; intro ss bb) | refine ac ?_ | refine ae hG hst (c1) ?_ | refine g_ (fun hg => ?_) (fun hg => ?_))
  all_goals
    refine aE x_ rfl (.tmp _ _ rfl) (fun _ => ?_)
    exact aK (by simp [*])
 ·rw [if_neg (by decide), if_neg (by decide), if_neg (by decide), if_pos rfl]
  repeat' (first | refine W_ ?_ | (refine aj ?_; intro ss bb) | refine ac ?_)
  refine aE x_ rfl (.tmp _ _ rfl) (fun _ => ?_)
  exact aK (by rw [decide_eq_decide]; omega)
 ·rw [if_neg (by decide), if_neg (by decide), if_neg (by decide), if_neg (by decide), if_pos rfl]
  have c1 := a7 (G := GL) oth (-1) ((k : Int) - 1)
  cases hin : inR oth (-1) ((k : Int) - 1)
  case false =>
    rw [Bool.false_and]
    rw [hin] at c1
    repeat' (first | refine W_ ?_ | (refine aj ?_; intro ss bb) | refine ac ?_ | refine ab hG hst (c1) ?_)
    exact r1_
  rw [Bool.true_and]
  rw [hin] at c1
  have hin' := of_decide_eq_true hin
  by_cases h3 : values.length = 1
  case neg =>
    have h3' : (values.length : Int) ≠ 1 := by omega
    rw [decide_eq_false h3, Bool.false_and]
    repeat' (first | refine W_ ?_ | (refine aj ?_; intro ss bb) | refine ac ?_ | refine ab hG hst (c1) ?_)
    exact r1_
  have h3' : ¬ (values.length : Int) ≠ 1 := by omega
  rw [decide_eq_true h3, Bool.true_and]
  cases rt
  case false =>
    repeat' (first | refine V_ ?_ | (refine aj ?_; intro ss bb) | refine ac ?_ | refine ab hG hst (c1) ?_)
    exact r1_
  by_cases hneg : oth < 0
  ·rw [vL (by simp only [inR, decide_eq_false_iff_not]; omega)]
   repeat' (first | refine V_ ?_ | (refine aj ?_; intro ss bb) | refine ac ?_ | refine ab hG hst (c1) ?_)
   exact r1_
  rw [zL (by simp only [inR, decide_eq_true_eq]; omega)]
  obtain ⟨q, rfl⟩ : ∃ q : Nat, oth = q := ⟨oth.toNat, by omega⟩
  have hq : q < m.contexts.length := by omega
  have hr2 := hrw q hq
  rw [hmk q hq]
  rw [show (k : Int) - 1 = ((k - 1 : Nat) : Int) by omega] at c1
  generalize m.contexts[q] = d at hr2 |-
  repeat' (first | refine V_ ?_ | (refine aj ?_; intro ss bb) | refine ac ?_ | refine ab hG hst (c1) ?_)
  refine aE x_ rfl (.tmp _ _ rfl) (fun _ => ?_)
  exact aK (by simp [*])
 ·rw [if_neg g1, if_neg g2, if_neg g3, if_neg g4, if_neg g5]
  repeat' (first | refine W_ ?_ | (refine aj ?_; intro ss bb) | refine ac ?_)
  exact r1_
instance : Enc CbP := inferInstanceAs (Enc (((Nat × Nat) × List (Nat × Nat)) × ((Nat × Nat) × List (Nat × Nat)) × (Nat × Nat)))
structure Rl (objs : aH) (K : Nat) (R : TV -> TV -> Prop) : Prop where
 flat : ∀ t : TV, t.flat = true -> R t t
 ms : ∀ (s b m : Nat) (rows rows' : List (List TV)), (s, b, bj.row m rows) ∈ objs -> rows'.map List.length = rows.map List.length -> (∀ (j : Nat) (t t' : TV), rows.flatten[j]? = some t -> rows'.flatten[j]? = some t' -> R t t') -> R (.ms s b 0 rows.length) (.sl K m rows')
def RL (R : TV -> TV -> Prop) (l l' : List TV) : Prop := l'.length = l.length /\ ∀ (j : Nat) (t t' : TV), l[j]? = some t -> l'[j]? = some t' -> R t t'
theorem RL.nil {R : TV -> TV -> Prop} : RL R [] [] := ⟨rfl, by simp⟩
theorem RL.append {R : TV -> TV -> Prop} {a a' b b' : List TV} (h : RL R a a') (k : RL R b b') : RL R (a ++ b) (a' ++ b') := ⟨by simp [h.1, k.1], fun j u u' h1 h2 => by
 by_cases hj : j < a.length
 ·rw [List.getElem?_append_left hj] at h1
  rw [List.getElem?_append_left (by rw [h.1]; exact hj)] at h2
  exact h.2 j u u' h1 h2
 ·rw [List.getElem?_append_right (by omega)] at h1
  rw [List.getElem?_append_right (by rw [h.1]; omega)] at h2
  rw [h.1] at h2
  exact k.2 _ u u' h1 h2⟩
theorem RL.cons {R : TV -> TV -> Prop} {t t' : TV} {l l' : List TV} (h : R t t') (k : RL R l l') : RL R (t :: l) (t' :: l') :=
 RL.append (a := [t]) (a' := [t']) ⟨rfl, fun j u u' h1 h2 => by
   cases j with
   | zero => cases h1; cases h2; exact h
   | succ j => simp at h1⟩ k
theorem abY {α : Type} {f : α -> List TV} (h : ∀ x, (f x).all TV.flat = true) (l : List α) : ∀ t ∈ (l.map f).flatten, t.flat = true := fun t ht => by
 obtain ⟨r, hr, ht⟩ := List.mem_flatten.1 ht
 obtain ⟨x, _, rfl⟩ := List.mem_map.1 hr
 exact List.all_eq_true.1 (h x) t ht
section
variable {objs : aH} {K : Nat} {R : TV -> TV -> Prop} (h : Rl objs K R)
include h
theorem Rl.msF {s b m : Nat} {α : Type} {f : α -> List TV} (hf : ∀ x, (f x).all TV.flat = true) {l : List α} (hm : (s, b, bj.row m (l.map f)) ∈ objs) : R (.ms s b 0 l.length) (.sl K m (l.map f)) := by
 have h1 := h.ms s b m (l.map f) (l.map f) hm rfl (fun j t t' h1 h2 => by rw [h1] at h2; cases h2; exact h.flat t (abY hf l t (List.mem_of_getElem? h1)))
 rwa [List.length_map] at h1
omit h in
theorem RL.zip {α β : Type} {f : α -> List TV} {mk : α -> β -> List TV} {ob : α -> β -> aH} (h : ∀ x p, (∀ o ∈ ob x p, o ∈ objs) -> RL R (mk x p) (f x)) : ∀ (l : List α) (ps : List β), ps.length = l.length -> (∀ o ∈ nOg ob l ps, o ∈ objs) -> RL R (nRg mk l ps).flatten (l.map f).flatten /\ (l.map f).map List.length = (nRg mk l ps).map List.length
 | [], ps, hl, _ => by simp [nRg, RL]
 | x :: l, [], hl, _ => by simp at hl
 | x :: l, p :: ps, hl, hm => by
   have h1 := h x p (fun o ho => hm o (by simp only [nOg, List.zipWith_cons_cons, List.flatten_cons, List.mem_append]; exact .inl ho))
   obtain ⟨h2, h3⟩ := RL.zip h l ps (by simpa using hl) (fun o ho => hm o (by simp only [nOg, List.zipWith_cons_cons, List.flatten_cons, List.mem_append]; exact .inr ho))
   exact ⟨h1.append h2, by
     show (f x).length :: (l.map f).map List.length = (mk x p).length :: (nRg mk l ps).map List.length
     rw [h3, h1.1]⟩
theorem Rl.zip {α β : Type} {f : α -> List TV} {mk : α -> β -> List TV} {ob : α -> β -> aH} {m s b : Nat} (hx : ∀ x p, (∀ o ∈ ob x p, o ∈ objs) -> RL R (mk x p) (f x)) {l : List α} {ps : List β} (hl : ps.length = l.length) (hm : (s, b, bj.row m (nRg mk l ps)) ∈ objs) (hp : ∀ o ∈ nOg ob l ps, o ∈ objs) : R (.ms s b 0 l.length) (.sl K m (l.map f)) := by
 obtain ⟨h1, h2⟩ := RL.zip hx l ps hl hp
 have h3 := h.ms s b m _ _ hm h2 h1.2
 rwa [vt mk hl] at h3
theorem Rl.zip1 {α : Type} {f : α -> List TV} {mk : α -> Nat × Nat -> List TV} {ob : α -> bj} {m s b : Nat} (hx : ∀ x p, (p.1, p.2, ob x) ∈ objs -> RL R (mk x p) (f x)) {l : List α} {ps : List (Nat × Nat)} (hl : ps.length = l.length) (hm : (s, b, bj.row m (nR mk l ps)) ∈ objs) (hp : ∀ o ∈ nO ob l ps, o ∈ objs) : R (.ms s b 0 l.length) (.sl K m (l.map f)) := by
 refine h.zip (ob := fun x p => [(p.1, p.2, ob x)]) (fun x p k => hx x p (k _ List.mem_cons_self)) hl hm fun o ho => hp o ?_
 have e : ∀ (l : List α) (ps : List (Nat × Nat)), nOg (fun x p => [(p.1, p.2, ob x)]) l ps = nO ob l ps := fun l => by
   induction l with
   | nil => intro ps; rfl
   | cons x l ih => intro ps; cases ps with
     | nil => rfl
     | cons p ps => show (p.1, p.2, ob x) :: nOg _ l ps = _ :: nO ob l ps; rw [ih]
 rwa [e] at ho
theorem abc (x : aa) (p : Nat × Nat) (k : (p.1, p.2, lx x) ∈ objs) : RL R (jp x p) (x.tw K) := .cons (h.flat _ rfl) (.cons (h.flat _ rfl) (.cons (h.msF (fun _ => rfl) k) .nil))
theorem ad0 (x : aA) (p : Nat × Nat) (k : (p.1, p.2, lB x) ∈ objs) : RL R (jl x p) (x.tw K) := .cons (h.flat _ rfl) (.cons (h.flat _ rfl) (.cons (h.flat _ rfl) (.cons (h.msF (fun _ => rfl) k) .nil)))
theorem ady (x : ay) (p : Pl × Pl) (k : ∀ o ∈ kI x p, o ∈ objs) : RL R (ib x p) (x.tw K) :=
 .cons (h.flat _ rfl) (.cons (h.flat _ rfl) (.cons (h.msF (fun _ => rfl) (k _ List.mem_cons_self)) (.cons (h.msF (fun _ => rfl) (k _ (List.mem_cons_of_mem _ List.mem_cons_self))) .nil)))
theorem aed (x : ap) (p : Pl × Pl × Pl) (k : ∀ o ∈ kW x p, o ∈ objs) : RL R (ic x p) (x.tw K) := by
 have h1 := h.msF (fun _ => rfl) (k _ List.mem_cons_self)
 have h2 := h.msF (fun _ => rfl) (k _ (List.mem_cons_of_mem _ List.mem_cons_self))
 have h3 := h.msF (fun _ => rfl) (k _ (List.mem_cons_of_mem _ (List.mem_cons_of_mem _ List.mem_cons_self)))
 repeat' (first | exact RL.nil | refine RL.cons (h.flat _ rfl) ?_ | refine RL.cons h1 ?_ | refine RL.cons h2 ?_ | refine RL.cons h3 ?_)
theorem ac3 {x : ai} {y : oO} (hy : imI x y) (hm : ∀ o ∈ imO x y, o ∈ objs) : RL R (imC x y) (x.tw K) := by
 unfold imO cbO stO at hm
 simp only [List.mem_append, or_imp, forall_and] at hm
 obtain ⟨⟨m1, m2, m3⟩, ⟨m4, m5, m6⟩, m7, m8, m9, m10⟩ := hm
 have r1 := h.zip1 (abc h) hy.1.1 (m1 _ List.mem_cons_self) (fun o k => m1 o (List.mem_cons_of_mem _ k))
 have r2 := h.zip1 (ad0 h) hy.1.2 (m2 _ List.mem_cons_self) (fun o k => m2 o (List.mem_cons_of_mem _ k))
 have r3 := h.msF (fun _ => rfl) (m3 _ List.mem_cons_self)
 have r4 := h.zip1 (abc h) hy.2.1.1 (m4 _ List.mem_cons_self) (fun o k => m4 o (List.mem_cons_of_mem _ k))
 have r5 := h.zip (ady h) hy.2.1.2 (m5 _ List.mem_cons_self) (fun o k => m5 o (List.mem_cons_of_mem _ k))
 have r6 := h.msF (fun _ => rfl) (m6 _ List.mem_cons_self)
 have r7 := h.msF (fun _ => rfl) (m7 _ List.mem_cons_self)
 have r8 := h.zip (aed h) hy.2.2 (m8 _ List.mem_cons_self) (fun o k => m8 o (List.mem_cons_of_mem _ k))
 have r9 := h.msF (fun _ => rfl) (m9 _ List.mem_cons_self)
 have r10 := h.msF (fun _ => rfl) (m10 _ List.mem_cons_self)
 exact .cons r1 (.cons r2 (.cons r3 (.cons (h.flat _ rfl) (.cons r4 (.cons r5 (.cons r6 (.cons (h.flat _ rfl) (.cons (h.flat _ rfl) (.cons (h.flat _ rfl) (.cons r7 (.cons r8 (.cons r9 (.cons r10 (.cons (h.flat _ rfl) (.cons (h.flat _ rfl) (.cons (h.flat _ rfl) (.cons (h.flat _ rfl) (.cons (h.flat _ rfl) (.cons (h.flat _ rfl) .nil)))))))))))))))))))
end
theorem aaq {objs : aH} {x : ai} {y : oO} (hy : imI x y) (hm : ∀ o ∈ imO x y, o ∈ objs) : bU objs (.agg (imC x y)) (.agg (x.tw 0)) := by
 have h := ac3 (R := bU objs) ⟨fun t _ => .same t, fun s b m rows rows' hm hl h => .ms s b 0 rows.length m rows rows rows' hm (by omega) (by rw [List.drop_zero, List.take_of_length_le (Nat.le_refl _)]) hl h⟩ hy hm
 exact .agg _ _ h.1 h.2
theorem afc {x : ai} {y : oO} (hy : imI x y) (B L : Nat) : Fin B (imO x y) L (.agg (imC x y)) (.agg (x.tw L)) := by
 have h := ac3 (R := Fin B (imO x y) L) ⟨fun t ht => .flat ht, fun s b m rows rows' hm hl h => .ms s b 0 rows.length m rows rows rows' hm (by omega) (by rw [List.drop_zero, List.take_of_length_le (Nat.le_refl _)]) hl h⟩ hy (fun _ h => h)
 exact .agg _ _ h.1 h.2
instance {A B : Type} [Enc (List A)] [Enc (List B)] : Enc (List (A × B)) := ⟨fun y => Enc.enc (y.map Prod.fst, y.map Prod.snd), fun y => match (Enc.dec y : List A × List B) with | (a, b) => a.zip b, fun y => by
 rw [Enc.eq]
 induction y with
 | nil => rfl
 | cons z y ih => simpa using ih⟩
instance : Enc StP := inferInstanceAs (Enc (((Nat × Nat) × List (Nat × Nat)) × ((Nat × Nat) × List ((Nat × Nat) × (Nat × Nat))) × (Nat × Nat)))
instance : Enc oO := inferInstanceAs (Enc (CbP × StP × (Nat × Nat) × ((Nat × Nat) × List ((Nat × Nat) × (Nat × Nat) × (Nat × Nat))) × (Nat × Nat) × (Nat × Nat)))
theorem nH {G : World -> Prop} (hst : aB G) (lo : Nat) (x : ai) (hb : x.small 1048576) : Ct Tryz.prog G 9 [.agg (x.tw lo)] (fun K => .agg (x.tw K)) :=
 aaA (jY hst lo x hb) fun _ hy B L => afc hy B L
section
variable {G : World -> Prop}
end
end Go.Proofs.YtofnnnpahglfdaaGreatDoor
