/- Part 33 of the proof: the texts ImN, ShD, ShL, ShN, NiV, NiW, NiX, NiY. -/
import Derived.Test.YtigipcbnfeoliaaGreatDoorFi26
import Derived.Test.YtigipcbnfeoliaaGreatDoorFi27
import Derived.Test.YtigipcbnfeoliaaGreatDoorFi11
import Derived.Test.YtigipcbnfeoliaaGreatDoorFi28
import Derived.Test.YtigipcbnfeoliaaGreatDoorFi3
import Derived.Test.YtigipcbnfeoliaaGreatDoorFi29
import Derived.Test.YtigipcbnfeoliaaGreatDoorFi18
set_option linter.all false
set_option maxHeartbeats 4000000
set_option maxRecDepth 20000
namespace Go.Proofs.YtigipcbnfeoliaaGreatDoor
open Go Go.RowKit
open Classical in
noncomputable def yf (m : ao) (n0 n1 n2 : Int) : Bool := decide (zE m n0 n1 n2)
open Classical in
theorem rQ {m : ao} {n0 n1 n2 : Int} (h : ¬ zE m n0 n1 n2) : yf m n0 n1 n2 = false := decide_eq_false h
open Classical in
theorem vh {m : ao} {n0 n1 n2 : Int} (h : zE m n0 n1 n2) : yf m n0 n1 n2 = true := decide_eq_true h
theorem nA {m : ao} {n0 n2 : Int} : zE m n0 (-1) n2 ↔ n0 = -1 /\ n2 = 0 := by
 unfold zE
 rw [ad8 (by omega)]
 constructor
 ·rintro (⟨h1, _, h2⟩ | ⟨_, c, hc, _⟩)
  ·exact ⟨h1, h2⟩
  ·cases hc
 ·rintro ⟨h1, h2⟩; exact .inl ⟨h1, rfl, h2⟩
theorem xl {m : ao} {n0 n2 : Int} {u : Nat} (hu : u < m.contexts.length) : zE m n0 (u : Int) n2 ↔ n2 = 1 /\ m.contexts[u].mark = 3 /\ 0 <= n0 /\ OnW m n0 m.contexts[u].sender := by
 unfold zE
 rw [mj hu]
 constructor
 ·rintro (⟨_, h, _⟩ | ⟨h2, c, hc, h3⟩)
  ·omega
  ·cases hc; exact ⟨h2, h3⟩
 ·rintro ⟨h2, h3⟩; exact .inr ⟨h2, _, rfl, h3⟩
theorem xN {m : ao} {n0 n1 n2 : Int} (h : n1 ≠ -1) (hu : ¬ (0 <= n1 /\ n1 < m.contexts.length)) : ¬ zE m n0 n1 n2 := by
 rintro (⟨_, h1, _⟩ | ⟨_, c, hc, _⟩)
 ·exact h h1
 ·obtain ⟨h0, h1, _⟩ := rW hc; omega
theorem wV {m : ao} {n0 n1 n2 : Int} (h : n1 ≠ -1) (h2 : n2 ≠ 1) : ¬ zE m n0 n1 n2 := by
 rintro (⟨_, h1, _⟩ | ⟨h1, _⟩)
 ·exact h h1
 ·exact h2 h1
open Classical in
theorem aat {m : ao} {a k : Int} : onB m a k = true ↔ OnW m a k := decide_eq_true_iff
theorem j1 {l : List Int} {i : Nat} (h : i < l.length) : (aR l)[i]? = some [.int .i64 l[i]] := aL h
theorem nN {G : World -> Prop} (l1 l2 : Nat) (a b : List Int) (hn : a.length <= 1048576) (hm : b.length <= 1048576) : Ct Tryz.prog G 280 [.sl l1 1 (aR a), .sl l2 1 (aR b)] (fun _ => .bool (decide (a = b))) := by
 refine aq Tryz.func280 rfl Tryz.ntmps280 rfl rfl fun w0 _ hG => ?_
 have hla := ar a
 have hlb := ar b
 by_cases hl : a.length = b.length
 ·repeat' refine W_ ?_
  apply ai (X := Nat) [0, 1, 12] (fun i => [(13, .int .i64 (i : Int))]) (fun _ => []) (fun i => i <= a.length /\ a.take i = b.take i) (fun i => a.length - i) 0 ⟨Nat.zero_le _, by simp⟩
  exact kp_; exact nw_
  ·exact .refl _
  rintro i ⟨hi, hs⟩
  try dsimp only
  by_cases hlt : i < a.length
  ·have hr1 := j1 hlt
   have hlt2 : i < b.length := by omega
   have hr2 := j1 hlt2
   have hta : a[i] = b[i] -> a.take (i + 1) = b.take (i + 1) := fun e => by rw [List.take_add_one, List.take_add_one, hs, List.getElem?_eq_getElem hlt, List.getElem?_eq_getElem hlt2, e]
   have hne : a[i] ≠ b[i] -> decide (a = b) = false := fun h => decide_eq_false fun e => h (by subst e; rfl)
   generalize a[i] = x at hr1 hta hne
   generalize b[i] = y at hr2 hta hne
   by_cases hx : x = y
   ·have hx' : ¬ x ≠ y := fun h => h hx
    repeat' refine V_ ?_
    exact ah (i + 1) ⟨by omega, hta hx⟩ (by omega) (.of _ nw_ od_ pk_)
   ·have hx' : x ≠ y := hx
    rw [hne hx]
    repeat' refine V_ ?_
    exact r1_
  ·rw [List.take_of_length_le (by omega), List.take_of_length_le (by omega)] at hs
   rw [decide_eq_true hs]
   repeat' refine W_ ?_
   exact r1_
 ·rw [decide_eq_false (p := a = b) fun e => hl (by rw [e])]
  repeat' refine W_ ?_
  exact r1_
theorem pC {G : World -> Prop} (hst : aC G) (l1 l2 : Nat) (a b : List Int) (hn : a.length <= 1048576) (hm : b.length <= 1048576) : Ct Tryz.prog G 229 [.sl l1 1 (aR a), .sl l2 1 (aR b)] (fun _ => .bool (decide (a = b))) := by
 refine aq Tryz.func229 rfl Tryz.ntmps229 rfl rfl fun w0 _ hG => ?_
 repeat' (first | refine W_ ?_ | refine ac hG hst (nN l1 l2 a b hn hm) ?_)
 exact r1_
theorem pu (lo l2 : Nat) (m : ao) (hsm : m.small 1048576) (hsd : lu m) (n0 n1 n2 : Int) : Ct Tryz.prog GL 159 [.agg (m.tw lo), .sl l2 1 [[.int .i64 n0], [.int .i64 n1], [.int .i64 n2]]] (fun _ => .bool (yf m n0 n1 n2)) := by
 refine aq Tryz.func159 rfl Tryz.ntmps159 rfl rfl fun w0 _ hG => ?_
 have hst := eg
 have hlx := aj.len lo m.contexts
 have hxl := hsm.2.2.2.1.1
 have hon := fun (k0 a : Int) h => xg (G := GL) w0.heap.size lo m hxl hsd k0 a h
 have hxr := fun (i : Nat) (h : i < m.contexts.length) => cV (lo := lo) (l := m.contexts) h
 have hsn := pC hst l2 w0.heap.size [n0, n1, n2] [-1, -1, 0] (by simp) (by simp)
 simp only [aR, List.map_cons, List.map_nil] at hsn
 unfold ao.tw at hon |-
 by_cases h1 : n1 = -1
 ·subst h1
  by_cases h0 : n0 = -1 /\ n2 = 0
  ·obtain ⟨rfl, rfl⟩ := h0
   rw [vh (nA.2 ⟨rfl, rfl⟩)]
   rw [decide_eq_true rfl] at hsn
   repeat' (first | refine W_ ?_ | refine aJ ?_ | refine ch ?_ | refine ac hG hst (hsn) ?_)
   exact r1_
  rw [rQ fun h => h0 (nA.1 h)]
  rw [decide_eq_false fun e => h0 (by simp at e; exact e)] at hsn
  have k1 := aK (G := GL) (-1) 0 ((m.contexts.length : Int) - 1)
  rw [show inR (-1) 0 ((m.contexts.length : Int) - 1) = false from by simp only [inR, decide_eq_false_iff_not]; omega] at k1
  have k2 := aK (G := GL) (-1) 0 ((m.contexts.length - 1 : Nat) : Int)
  rw [show inR (-1) 0 ((m.contexts.length - 1 : Nat) : Int) = false from by simp only [inR, decide_eq_false_iff_not]; omega] at k2
  by_cases hz : 1 <= m.contexts.length
  all_goals
    repeat' (first | refine V_ ?_ | refine aJ ?_ | refine ch ?_ | refine ac hG hst (hsn) ?_ | refine ad hG hst (k1) ?_ | refine ad hG hst (k2) ?_ | refine g_ (fun hg => ?_) (fun hg => ?_))
    all_goals
      exact r1_
 rw [decide_eq_false fun e => h1 (by simp at e; exact e.2.1)] at hsn
 by_cases h2 : n2 = 1
 case neg =>
   rw [rQ (wV h1 h2)]
   repeat' (first | refine V_ ?_ | refine aJ ?_ | refine ch ?_ | refine ac hG hst (hsn) ?_)
   exact r1_
 have k1 := aK (G := GL) n1 0 ((m.contexts.length : Int) - 1)
 by_cases hin : 0 <= n1 /\ n1 < m.contexts.length
 case neg =>
   rw [rQ (xN h1 hin)]
   rw [show inR n1 0 ((m.contexts.length : Int) - 1) = false from by simp only [inR, decide_eq_false_iff_not]; omega] at k1
   by_cases hz : 1 <= m.contexts.length
   ·rw [show (m.contexts.length : Int) - 1 = ((m.contexts.length - 1 : Nat) : Int) by omega] at k1
    repeat' (first | refine V_ ?_ | refine aJ ?_ | refine ch ?_ | refine ac hG hst (hsn) ?_ | refine ad hG hst (k1) ?_)
    exact r1_
   ·repeat' (first | refine V_ ?_ | refine aJ ?_ | refine ch ?_ | refine ac hG hst (hsn) ?_ | refine ad hG hst (k1) ?_)
    exact r1_
 rw [show inR n1 0 ((m.contexts.length : Int) - 1) = true from by simp only [inR, decide_eq_true_eq]; omega] at k1
 rw [show (m.contexts.length : Int) - 1 = ((m.contexts.length - 1 : Nat) : Int) by omega] at k1
 obtain ⟨u, rfl⟩ : ∃ u : Nat, n1 = u := ⟨n1.toNat, by omega⟩
 have hu : u < m.contexts.length := by omega
 have hru := hxr u hu
 have hiff := xl (m := m) (n0 := n0) (n2 := n2) hu
 have hsu := hsd u hu
 have hot := hon m.contexts[u].sender n0 (by omega)
 have hob : onB m n0 m.contexts[u].sender = true ↔ OnW m n0 m.contexts[u].sender := aat
 generalize onB m n0 m.contexts[u].sender = b at hot hob
 rw [<- hob] at hiff
 generalize m.contexts[u] = c at hru hiff hot
 have hF := rQ (m := m) (n0 := n0) (n1 := (u : Int)) (n2 := n2)
 have hT := vh (m := m) (n0 := n0) (n1 := (u : Int)) (n2 := n2)
 rw [hiff] at hF hT
 generalize yf m n0 (u : Int) n2 = V at hF hT |-
 by_cases h3 : c.mark = 3
 case neg =>
   rw [hF fun h => h3 h.2.1]
   repeat' (first | refine V_ ?_ | refine aJ ?_ | refine ch ?_ | refine ac hG hst (hsn) ?_ | refine ad hG hst (k1) ?_)
   exact r1_
 by_cases h0 : 0 <= n0
 case neg =>
   rw [hF fun h => h0 h.2.2.1]
   repeat' (first | refine V_ ?_ | refine aJ ?_ | refine ch ?_ | refine ac hG hst (hsn) ?_ | refine ad hG hst (k1) ?_)
   exact r1_
 cases b
 ·rw [hF fun h => by have := h.2.2.2; cases this]
  repeat' (first | refine V_ ?_ | refine aJ ?_ | refine ch ?_ | refine ac hG hst (hsn) ?_ | refine ad hG hst (k1) ?_ | refine ad hG hst (hot) ?_)
  exact r1_
 ·rw [hT ⟨h2, h3, h0, rfl⟩]
  repeat' (first | refine V_ ?_ | refine aJ ?_ | refine ch ?_ | refine ac hG hst (hsn) ?_ | refine ad hG hst (k1) ?_ | refine ad hG hst (hot) ?_)
  exact r1_
instance : Enc CbP := inferInstanceAs (Enc (((Nat × Nat) × List (Nat × Nat)) × ((Nat × Nat) × List (Nat × Nat)) × (Nat × Nat)))
structure Rl (objs : aF) (K : Nat) (R : TV -> TV -> Prop) : Prop where
 flat : ∀ t : TV, t.flat = true -> R t t
 ms : ∀ (s b m : Nat) (rows rows' : List (List TV)), (s, b, bv.row m rows) ∈ objs -> rows'.map List.length = rows.map List.length -> (∀ (j : Nat) (t t' : TV), rows.flatten[j]? = some t -> rows'.flatten[j]? = some t' -> R t t') -> R (.ms s b 0 rows.length) (.sl K m rows')
def RL (R : TV -> TV -> Prop) (l l' : List TV) : Prop := l'.length = l.length /\ ∀ (j : Nat) (t t' : TV), l[j]? = some t -> l'[j]? = some t' -> R t t'
theorem RL.nil {R : TV -> TV -> Prop} : RL R [] [] := ⟨rfl, by simp⟩
theorem RL.append {R : TV -> TV -> Prop} {a a' b b' : List TV} (h : RL R a a') (k : RL R b b') : RL R (a ++ b) (a' ++ b') := ⟨by simp [h.1, k.1], fun j u u' h1 h2 => by
 by_cases hj : j < a.length
 ·rw [List.getElem?_append_left hj] at h1
  rw [List.getElem?_append_left (by rw [h.1]; exact hj)] at h2
  exact h.2 j u u' h1 h2
 ·rw [List.getElem?_append_right (by omega)] at h1
  rw [List.getElem?_append_right (by rw [h.1]; omega)] at h2
  rw [h.1] at h2
  exact k.2 _ u u' h1 h2⟩
theorem RL.cons {R : TV -> TV -> Prop} {t t' : TV} {l l' : List TV} (h : R t t') (k : RL R l l') : RL R (t :: l) (t' :: l') :=
 RL.append (a := [t]) (a' := [t']) ⟨rfl, fun j u u' h1 h2 => by
   cases j with
   | zero => cases h1; cases h2; exact h
   | succ j => simp at h1⟩ k
theorem abT {α : Type} {f : α -> List TV} (h : ∀ x, (f x).all TV.flat = true) (l : List α) : ∀ t ∈ (l.map f).flatten, t.flat = true := fun t ht => by
 obtain ⟨r, hr, ht⟩ := List.mem_flatten.1 ht
 obtain ⟨x, _, rfl⟩ := List.mem_map.1 hr
 exact List.all_eq_true.1 (h x) t ht
section
variable {objs : aF} {K : Nat} {R : TV -> TV -> Prop} (h : Rl objs K R)
include h
theorem Rl.msF {s b m : Nat} {α : Type} {f : α -> List TV} (hf : ∀ x, (f x).all TV.flat = true) {l : List α} (hm : (s, b, bv.row m (l.map f)) ∈ objs) : R (.ms s b 0 l.length) (.sl K m (l.map f)) := by
 have h1 := h.ms s b m (l.map f) (l.map f) hm rfl (fun j t t' h1 h2 => by rw [h1] at h2; cases h2; exact h.flat t (abT hf l t (List.mem_of_getElem? h1)))
 rwa [List.length_map] at h1
omit h in
theorem RL.zip {α β : Type} {f : α -> List TV} {mk : α -> β -> List TV} {ob : α -> β -> aF} (h : ∀ x p, (∀ o ∈ ob x p, o ∈ objs) -> RL R (mk x p) (f x)) : ∀ (l : List α) (ps : List β), ps.length = l.length -> (∀ o ∈ nOg ob l ps, o ∈ objs) -> RL R (nRg mk l ps).flatten (l.map f).flatten /\ (l.map f).map List.length = (nRg mk l ps).map List.length
 | [], ps, hl, _ => by simp [nRg, RL]
 | x :: l, [], hl, _ => by simp at hl
 | x :: l, p :: ps, hl, hm => by
   have h1 := h x p (fun o ho => hm o (by simp only [nOg, List.zipWith_cons_cons, List.flatten_cons, List.mem_append]; exact .inl ho))
   obtain ⟨h2, h3⟩ := RL.zip h l ps (by simpa using hl) (fun o ho => hm o (by simp only [nOg, List.zipWith_cons_cons, List.flatten_cons, List.mem_append]; exact .inr ho))
   exact ⟨h1.append h2, by
     show (f x).length :: (l.map f).map List.length = (mk x p).length :: (nRg mk l ps).map List.length
     rw [h3, h1.1]⟩
theorem Rl.zip {α β : Type} {f : α -> List TV} {mk : α -> β -> List TV} {ob : α -> β -> aF} {m s b : Nat} (hx : ∀ x p, (∀ o ∈ ob x p, o ∈ objs) -> RL R (mk x p) (f x)) {l : List α} {ps : List β} (hl : ps.length = l.length) (hm : (s, b, bv.row m (nRg mk l ps)) ∈ objs) (hp : ∀ o ∈ nOg ob l ps, o ∈ objs) : R (.ms s b 0 l.length) (.sl K m (l.map f)) := by
 obtain ⟨h1, h2⟩ := RL.zip hx l ps hl hp
 have h3 := h.ms s b m _ _ hm h2 h1.2
 rwa [vK mk hl] at h3
theorem Rl.zip1 {α : Type} {f : α -> List TV} {mk : α -> Nat × Nat -> List TV} {ob : α -> bv} {m s b : Nat} (hx : ∀ x p, (p.1, p.2, ob x) ∈ objs -> RL R (mk x p) (f x)) {l : List α} {ps : List (Nat × Nat)} (hl : ps.length = l.length) (hm : (s, b, bv.row m (nR mk l ps)) ∈ objs) (hp : ∀ o ∈ nO ob l ps, o ∈ objs) : R (.ms s b 0 l.length) (.sl K m (l.map f)) := by
 refine h.zip (ob := fun x p => [(p.1, p.2, ob x)]) (fun x p k => hx x p (k _ List.mem_cons_self)) hl hm fun o ho => hp o ?_
 have e : ∀ (l : List α) (ps : List (Nat × Nat)), nOg (fun x p => [(p.1, p.2, ob x)]) l ps = nO ob l ps := fun l => by
   induction l with
   | nil => intro ps; rfl
   | cons x l ih => intro ps; cases ps with
     | nil => rfl
     | cons p ps => show (p.1, p.2, ob x) :: nOg _ l ps = _ :: nO ob l ps; rw [ih]
 rwa [e] at ho
theorem aaW (x : aa) (p : Nat × Nat) (k : (p.1, p.2, lQ x) ∈ objs) : RL R (jE x p) (x.tw K) := .cons (h.flat _ rfl) (.cons (h.flat _ rfl) (.cons (h.msF (fun _ => rfl) k) .nil))
theorem adH (x : aw) (p : Nat × Nat) (k : (p.1, p.2, lH x) ∈ objs) : RL R (jD x p) (x.tw K) := .cons (h.flat _ rfl) (.cons (h.flat _ rfl) (.cons (h.flat _ rfl) (.cons (h.msF (fun _ => rfl) k) .nil)))
theorem adh (x : au) (p : Pl × Pl) (k : ∀ o ∈ kY x p, o ∈ objs) : RL R (iJ x p) (x.tw K) :=
 .cons (h.flat _ rfl) (.cons (h.flat _ rfl) (.cons (h.msF (fun _ => rfl) (k _ List.mem_cons_self)) (.cons (h.msF (fun _ => rfl) (k _ (List.mem_cons_of_mem _ List.mem_cons_self))) .nil)))
theorem adm (x : aj) (p : Pl × Pl × Pl) (k : ∀ o ∈ li x p, o ∈ objs) : RL R (iI x p) (x.tw K) := by
 have h1 := h.msF (fun _ => rfl) (k _ List.mem_cons_self)
 have h2 := h.msF (fun _ => rfl) (k _ (List.mem_cons_of_mem _ List.mem_cons_self))
 have h3 := h.msF (fun _ => rfl) (k _ (List.mem_cons_of_mem _ (List.mem_cons_of_mem _ List.mem_cons_self)))
 repeat' (first | exact RL.nil | refine RL.cons (h.flat _ rfl) ?_ | refine RL.cons h1 ?_ | refine RL.cons h2 ?_ | refine RL.cons h3 ?_)
theorem acR {x : ao} {y : sx} (hy : imI x y) (hm : ∀ o ∈ imO x y, o ∈ objs) : RL R (imC x y) (x.tw K) := by
 unfold imO cbO stO at hm
 simp only [List.mem_append, or_imp, forall_and] at hm
 obtain ⟨⟨m1, m2, m3⟩, ⟨m4, m5, m6⟩, m7, m8, m9, m10⟩ := hm
 have r1 := h.zip1 (aaW h) hy.1.1 (m1 _ List.mem_cons_self) (fun o k => m1 o (List.mem_cons_of_mem _ k))
 have r2 := h.zip1 (adH h) hy.1.2 (m2 _ List.mem_cons_self) (fun o k => m2 o (List.mem_cons_of_mem _ k))
 have r3 := h.msF (fun _ => rfl) (m3 _ List.mem_cons_self)
 have r4 := h.zip1 (aaW h) hy.2.1.1 (m4 _ List.mem_cons_self) (fun o k => m4 o (List.mem_cons_of_mem _ k))
 have r5 := h.zip (adh h) hy.2.1.2 (m5 _ List.mem_cons_self) (fun o k => m5 o (List.mem_cons_of_mem _ k))
 have r6 := h.msF (fun _ => rfl) (m6 _ List.mem_cons_self)
 have r7 := h.msF (fun _ => rfl) (m7 _ List.mem_cons_self)
 have r8 := h.zip (adm h) hy.2.2 (m8 _ List.mem_cons_self) (fun o k => m8 o (List.mem_cons_of_mem _ k))
 have r9 := h.msF (fun _ => rfl) (m9 _ List.mem_cons_self)
 have r10 := h.msF (fun _ => rfl) (m10 _ List.mem_cons_self)
 exact .cons r1 (.cons r2 (.cons r3 (.cons (h.flat _ rfl) (.cons r4 (.cons r5 (.cons r6 (.cons (h.flat _ rfl) (.cons (h.flat _ rfl) (.cons (h.flat _ rfl) (.cons r7 (.cons r8 (.cons r9 (.cons r10 (.cons (h.flat _ rfl) (.cons (h.flat _ rfl) (.cons (h.flat _ rfl) (.cons (h.flat _ rfl) (.cons (h.flat _ rfl) (.cons (h.flat _ rfl) .nil)))))))))))))))))))
end
theorem adl {objs : aF} {x : ao} {y : sx} (hy : imI x y) (hm : ∀ o ∈ imO x y, o ∈ objs) : cz objs (.agg (imC x y)) (.agg (x.tw 0)) := by
 have h := acR (R := cz objs) ⟨fun t _ => .same t, fun s b m rows rows' hm hl h => .ms s b 0 rows.length m rows rows rows' hm (by omega) (by rw [List.drop_zero, List.take_of_length_le (Nat.le_refl _)]) hl h⟩ hy hm
 exact .agg _ _ h.1 h.2
theorem aeC {x : ao} {y : sx} (hy : imI x y) (B L : Nat) : Fin B (imO x y) L (.agg (imC x y)) (.agg (x.tw L)) := by
 have h := acR (R := Fin B (imO x y) L) ⟨fun t ht => .flat ht, fun s b m rows rows' hm hl h => .ms s b 0 rows.length m rows rows rows' hm (by omega) (by rw [List.drop_zero, List.take_of_length_le (Nat.le_refl _)]) hl h⟩ hy (fun _ h => h)
 exact .agg _ _ h.1 h.2
instance {A B : Type} [Enc (List A)] [Enc (List B)] : Enc (List (A × B)) := ⟨fun y => Enc.enc (y.map Prod.fst, y.map Prod.snd), fun y => match (Enc.dec y : List A × List B) with | (a, b) => a.zip b, fun y => by
 rw [Enc.eq]
 induction y with
 | nil => rfl
 | cons z y ih => simpa using ih⟩
instance : Enc StP := inferInstanceAs (Enc (((Nat × Nat) × List (Nat × Nat)) × ((Nat × Nat) × List ((Nat × Nat) × (Nat × Nat))) × (Nat × Nat)))
instance : Enc sx := inferInstanceAs (Enc (CbP × StP × (Nat × Nat) × ((Nat × Nat) × List ((Nat × Nat) × (Nat × Nat) × (Nat × Nat))) × (Nat × Nat) × (Nat × Nat)))
theorem vz {G : World -> Prop} (hst : aC G) (lo : Nat) (x : ao) (hb : x.small 1048576) : Ct Tryz.prog G 10 [.agg (x.tw lo)] (fun K => .agg (x.tw K)) :=
 aaA (oW hst lo x hb) fun _ hy B L => aeC hy B L
section
variable {G : World -> Prop}
end
section
variable {G : World -> Prop}
end
end Go.Proofs.YtigipcbnfeoliaaGreatDoor
