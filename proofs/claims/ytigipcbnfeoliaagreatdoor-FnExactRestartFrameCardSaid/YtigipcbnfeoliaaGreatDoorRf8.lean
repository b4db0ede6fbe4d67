/- Part 8 of the proof: the texts DepP, DepF, DepG. -/
import Derived.Test.YtigipcbnfeoliaaGreatDoorRf5
import Derived.Test.YtigipcbnfeoliaaGreatDoorRf4
import Derived.Test.YtigipcbnfeoliaaGreatDoorRf1
set_option linter.all false
namespace Go.Proofs.YtigipcbnfeoliaaGreatDoor
open Go Go.RowKit
def ai.eff (i : ai) : Int × Int :=
 if i.op = 9 \/ i.op = 11 \/ i.op = 18 then (1, 1)
 else if i.op = 13 then (bY i.text.data.toList + 1, 1)
 else if i.op = 14 then (bY i.text.data.toList, 1)
 else if i.op = 16 \/ i.op = 19 \/ i.op = 21 \/ i.op = 22 then (1, 0)
 else if i.op = 17 then (1, 2)
 else if i.op = 24 \/ i.op = 25 then (2, 2)
 else if i.op = 26 then (2, 1)
 else if i.op = 20 \/ i.op = 23 then (0, 0)
 else (0, 1)
def ai.labs (i : ai) : List Int :=
 if i.op = 20 then [i.a] else if i.op = 21 \/ i.op = 22 then [i.a, i.b] else if i.op = 24 \/ i.op = 25 \/ i.op = 26 then [i.b] else []
def ai.nexts (i : ai) (at_ d : Int) : List (Int × Int) :=
 if i.op = 19 then []
 else if i.op = 20 then [(i.a, d - i.eff.1 + i.eff.2)]
 else if i.op = 21 \/ i.op = 22 then [(at_ + 1, d - i.eff.1 + i.eff.2), (i.a, d - i.eff.1 + i.eff.2), (i.b, d - i.eff.1 + i.eff.2 + 1)]
 else if i.op = 24 \/ i.op = 25 then [(at_ + 1, d - i.eff.1 + i.eff.2), (i.b, d - 1)]
 else if i.op = 26 then [(at_ + 1, d - i.eff.1 + i.eff.2), (i.b, d)]
 else [(at_ + 1, d - i.eff.1 + i.eff.2)]
theorem oF (k : Int) : k = 9 \/ k = 11 \/ k = 13 \/ k = 14 \/ k = 16 \/ k = 17 \/ k = 18 \/ k = 19 \/ k = 20 \/ k = 21 \/ k = 22 \/ k = 23 \/ k = 24 \/ k = 25 \/ k = 26 \/ (¬ k = 9 /\ ¬ k = 11 /\ ¬ k = 13 /\ ¬ k = 14 /\ ¬ k = 16 /\ ¬ k = 17 /\ ¬ k = 18 /\ ¬ k = 19 /\ ¬ k = 20 /\ ¬ k = 21 /\ ¬ k = 22 /\ ¬ k = 23 /\ ¬ k = 24 /\ ¬ k = 25 /\ ¬ k = 26) := by omega
theorem acq (l : List UInt8) : cK l = decide (0 <= bY l) := by
 unfold cK bY
 cases lg l
 ·cases cA l
  ·cases kwL l <;> simp
  ·simp
 ·simp
theorem rq (l : List UInt8) : -1 <= bY l := by
 unfold bY
 split
 ·omega
 ·split
  ·omega
  ·split <;> omega
theorem aap {l : List UInt8} {ps : List (List UInt8)} (h : kwL l = some ps) : ps.length <= 4 := by
 unfold kwL at h
 split at h
 ·split at h
  ·rename_i h2
   simp only [Bool.and_eq_true, decide_eq_true_eq] at h2
   cases h; exact h2.2
  ·cases h
 ·cases h
theorem qF (l : List UInt8) : bY l <= 4 := by
 unfold bY
 split
 ·omega
 ·split
  ·omega
  ·split
   ·rename_i ps h
    have := aap h
    omega
   ·omega
theorem iq (i : ai) : -1 <= i.eff.1 /\ i.eff.1 <= 5 /\ 0 <= i.eff.2 /\ i.eff.2 <= 2 := by
 have h1 := rq i.text.data.toList
 have h2 := qF i.text.data.toList
 unfold ai.eff
 repeat' split
 all_goals (refine ⟨?_, ?_, ?_, ?_⟩ <;> simp <;> omega)
def gd (ds : List Int) (p : Int) : Int := ds.getD p.toNat 0
def aeq (is : List ai) (p : Int) : Int := ((is[p.toNat]?).map ai.op).getD 0
def dI (n : Nat) (i : ai) : Bool := inR i.op 1 26 && (!(decide (i.op = 13) || decide (i.op = 14)) || decide (0 <= bY i.text.data.toList)) && i.labs.all fun l => inR l 0 ((n : Int) - 1)
def jz (is : List ai) : Bool := is.all (dI is.length)
abbrev Dst := List Int × List Nat
def ul (n : Nat) (ds : List Int) (p d : Int) : Bool := !inR p 0 ((n : Int) - 1) || decide (250 < d) || (decide (0 <= gd ds p) && !decide (gd ds p = d))
def gA (n : Nat) : List (Int × Int) -> Dst -> Option Dst
 | [], s => some s
 | (p, d) :: r, (ds, q) => if ul n ds p d then none else if gd ds p < 0 then gA n r (ds.set p.toNat d, q ++ [p.toNat]) else gA n r (ds, q)
def gz (is : List ai) (at_ : Int) (op l : Int) : Bool := !decide (op = 26) && decide (l <= at_) && !decide (aeq is l = 23)
def la (is : List ai) (i : ai) (at_ : Nat) (ds : List Int) : Option Dst :=
 if gd ds at_ < i.eff.1 then none
 else if i.labs.any (gz is at_ i.op) then none
 else gA is.length (i.nexts at_ (gd ds at_)) (ds, [])
def xD (is : List ai) (at_ : Int) (op p : Int) : Bool := decide ((is.length : Int) <= p) || gz is at_ op p
def jq (is : List ai) (at_ op : Int) : List (Int × Int) -> Dst -> Option Dst
 | [], s => some s
 | (p, d) :: r, (ds, q) => if xD is at_ op p then none else if gd ds p = -1 then jq is at_ op r (ds.set p.toNat d, q ++ [p.toNat]) else if gd ds p = d then jq is at_ op r (ds, q) else none
def tx (is : List ai) (i : ai) (at_ : Nat) (ds : List Int) : Option Dst :=
 if gd ds at_ - i.eff.1 < 0 \/ 250 < gd ds at_ - i.eff.1 + i.eff.2 then none
 else jq is at_ i.op (i.nexts at_ (gd ds at_)) (ds, [])
def mf : List (Int × Int) -> Dst -> Option Dst
 | [], s => some s
 | (p, d) :: r, (ds, q) => if gd ds p < 0 then mf r (ds.set p.toNat d, q ++ [p.toNat]) else if gd ds p = d then mf r (ds, q) else none
def okP (n : Nat) (x : Int × Int) : Bool := inR x.1 0 ((n : Int) - 1) && decide (x.2 <= 250)
theorem wL (n : Nat) : ∀ (l : List (Int × Int)) (s : Dst), gA n l s = if l.all (okP n) then mf l s else none
 | [], s => by simp [gA, mf]
 | (p, d) :: r, (ds, q) => by
   have ih := wL n r
   by_cases hr : inR p 0 ((n : Int) - 1) = true
   ·by_cases hd : d <= 250
    ·have hd' : ¬ 250 < d := by omega
     by_cases hg : gd ds p < 0
     ·have hg' : ¬ 0 <= gd ds p := by omega
      simp only [gA, ul, mf, okP, List.all_cons, hr, hd, hd', hg, hg', ih, decide_true, decide_false, Bool.not_true, Bool.or_false, Bool.false_and, Bool.true_and, if_true, Bool.false_eq_true, if_false]
     ·have hg' : 0 <= gd ds p := by omega
      by_cases he : gd ds p = d
      ·have h1 : ¬ d < 0 := he ▸ hg
       have h2 : 0 <= d := he ▸ hg'
       simp only [gA, ul, mf, okP, List.all_cons, hr, hd, hd', he, h1, h2, ih, decide_true, decide_false, Bool.not_true, Bool.or_false, Bool.true_and, if_true, Bool.false_eq_true, if_false]
      ·simp [gA, ul, mf, okP, hr, hd, hd', hg, hg', he]
       exact (ite_self _).symm
    ·have hd' : 250 < d := by omega
     simp [gA, ul, okP, hr, hd, hd']
   ·simp [gA, ul, okP, hr]
def acN (ds : List Int) : Prop := ∀ x ∈ ds, -1 <= x /\ x <= 250
theorem acN.gd {ds : List Int} (h : acN ds) (p : Int) : -1 <= gd ds p /\ gd ds p <= 250 := by
 unfold Proofs.YtigipcbnfeoliaaGreatDoor.gd
 rw [List.getD_eq_getElem?_getD]
 cases hp : ds[p.toNat]? with
 | none => simp
 | some x => exact h x (List.mem_of_getElem? hp)
theorem acN.set {ds : List Int} (h : acN ds) {d : Int} (h0 : -1 <= d) (h1 : d <= 250) (p : Nat) : acN (ds.set p d) := fun x hx => by
 rcases List.mem_or_eq_of_mem_set hx with hx | rfl
 ·exact h x hx
 ·exact ⟨h0, h1⟩
theorem wT (is : List ai) (at_ op : Int) : ∀ (l : List (Int × Int)) (s : Dst), acN s.1 -> (∀ x ∈ l, 0 <= x.2 /\ x.2 <= 250) -> jq is at_ op l s = if l.all (fun x => !xD is at_ op x.1) then mf l s else none
 | [], s, _, _ => by simp [jq, mf]
 | (p, d) :: r, (ds, q), hI, hl => by
   have ih := wT is at_ op r
   have hd := hl (p, d) (by simp)
   have hl' : ∀ x ∈ r, 0 <= x.2 /\ x.2 <= 250 := fun x hx => hl x (by simp [hx])
   have hg := hI.gd p
   by_cases hb : xD is at_ op p = true
   ·simp [jq, hb]
   ·by_cases h1 : gd ds p = -1
    ·have h2 : gd ds p < 0 := by omega
     have := ih (ds.set p.toNat d, q ++ [p.toNat]) (hI.set (by omega) hd.2 _) hl'
     simp only [jq, mf, List.all_cons, hb, h1, if_true, Bool.false_eq_true, if_false, Bool.not_false, Bool.true_and, this, show ((-1 : Int) < 0) from by omega]
    ·have h2 : ¬ gd ds p < 0 := by simp only at hg; omega
     by_cases he : gd ds p = d
     ·have h3 : ¬ d < 0 := he ▸ h2
      have h4 : ¬ d = -1 := he ▸ h1
      have := ih (ds, q) hI hl'
      simp only [jq, mf, List.all_cons, hb, he, h3, h4, if_true, Bool.false_eq_true, if_false, Bool.not_false, Bool.true_and, this]
     ·simp [jq, mf, hb, h1, h2, he]
      exact (ite_self _).symm
theorem abE (i : ai) (at_ : Nat) (g : Int) (h0 : 0 <= g) (h1 : g <= 250) (h : 250 < g - i.eff.1 + i.eff.2) (hl : ∀ l : Int, True) : ∃ x ∈ i.nexts at_ g, 250 < x.2 := by
 rcases oF i.op with h' | h' | h' | h' | h' | h' | h' | h' | h' | h' | h' | h' | h' | h' | h' | h'
 all_goals first
   | (refine ⟨((at_ : Int) + 1, g - i.eff.1 + i.eff.2), ?_, h⟩; simp [ai.nexts, h']; done)
   | (refine ⟨(i.a, g - i.eff.1 + i.eff.2), ?_, h⟩; simp [ai.nexts, h']; done)
   | (exfalso; simp [ai.eff, h'] at h; omega)
theorem uq (i : ai) (at_ : Nat) (g : Int) (h0 : 0 <= g) (h1 : g <= 250) (ht : ¬ g < i.eff.1) (h : ¬ 250 < g - i.eff.1 + i.eff.2) (hsel : i.op = 14 -> 0 <= i.eff.1) : ∀ x ∈ i.nexts at_ g, 0 <= x.2 /\ x.2 <= 250 := by
 have he := iq i
 intro x hx
 rcases oF i.op with h' | h' | h' | h' | h' | h' | h' | h' | h' | h' | h' | h' | h' | h' | h' | h'
 all_goals first
     | (simp [ai.nexts, h'] at hx; done)
     | skip
 all_goals
   simp [ai.nexts, h'] at hx
   try simp [ai.eff, h'] at ht h he hsel hx
   first
     | (subst hx; simp; omega)
     | (rcases hx with rfl | rfl <;> simp <;> omega)
     | (rcases hx with rfl | rfl | rfl <;> simp <;> omega)
theorem ade (n : Nat) (l : Int) : inR l 0 ((n : Int) - 1) = (decide (0 <= l) && !decide ((n : Int) <= l)) := by
 simp only [inR]; rw [Bool.eq_iff_iff]; simp; omega
theorem aab (is : List ai) (i : ai) (at_ : Nat) (g : Int) (h0 : 0 <= g) (h1 : g <= 250) (ht : ¬ g < i.eff.1) (h : ¬ 250 < g - i.eff.1 + i.eff.2) (hlab : (i.labs.all fun l => inR l 0 ((is.length : Int) - 1)) = true) :
   (!i.labs.any (gz is at_ i.op) && (i.nexts at_ g).all (okP is.length)) = (i.nexts at_ g).all (fun x => !xD is at_ i.op x.1) := by
 have hb1 : ∀ op, gz is at_ op ((at_ : Int) + 1) = false := fun op => by
   simp only [gz]
   rw [show decide ((at_ : Int) + 1 <= at_) = false from decide_eq_false (by omega)]; simp
 have hin1 : inR ((at_ : Int) + 1) 0 ((is.length : Int) - 1) = !decide ((is.length : Int) <= (at_ : Int) + 1) := by
   rw [ade, show decide (0 <= (at_ : Int) + 1) = true from decide_eq_true (by omega)]; rfl
 have hl2 : ∀ l ∈ i.labs, inR l 0 ((is.length : Int) - 1) = true /\ decide ((is.length : Int) <= l) = false := fun l hl => by
   have := List.all_eq_true.1 hlab l hl
   refine ⟨this, ?_⟩
   simp only [inR, decide_eq_true_eq] at this
   exact decide_eq_false (by omega)
 rcases oF i.op with h' | h' | h' | h' | h' | h' | h' | h' | h' | h' | h' | h' | h' | h' | h' | h'
 all_goals
   simp only [ai.labs, ai.eff, h'] at hl2 ht h
   simp [ai.nexts, ai.labs, ai.eff, h', okP, xD, hb1, hin1]
   try simp at hl2 ht h
 all_goals first
   | (intros; omega)
   | grind
theorem zD (is : List ai) (i : ai) (at_ : Nat) (ds : List Int) (hI : acN ds) (hp : dI is.length i = true) (hg : 0 <= gd ds at_) : la is i at_ ds = tx is i at_ ds := by
 have hr := hI.gd at_
 unfold la tx
 by_cases ht : gd ds at_ < i.eff.1
 ·rw [if_pos ht, if_pos (by omega)]
 rw [if_neg ht]
 simp only [dI, Bool.and_eq_true] at hp
 obtain ⟨⟨hop, hsel⟩, hlab⟩ := hp
 have hsel' : i.op = 14 -> 0 <= i.eff.1 := fun h => by
   simp [h] at hsel
   simp [ai.eff, h]; exact hsel
 rw [wL]
 by_cases h250 : 250 < gd ds at_ - i.eff.1 + i.eff.2
 ·rw [if_pos (Or.inr h250)]
  obtain ⟨x, hx, hx2⟩ := abE i at_ _ hg hr.2 h250 fun _ => trivial
  have hno : (i.nexts at_ (gd ds at_)).all (okP is.length) = false := by
    rw [List.all_eq_false]
    exact ⟨x, hx, by simp [okP]; intro _; omega⟩
  rw [hno]; simp
 ·rw [if_neg (c := gd ds at_ - i.eff.1 < 0 \/ 250 < gd ds at_ - i.eff.1 + i.eff.2) (by omega), wT _ _ _ _ _ hI (uq i at_ _ hg hr.2 ht h250 hsel')]
  have key := aab is i at_ _ hg hr.2 ht h250 hlab
  by_cases hA : i.labs.any (gz is at_ i.op) = true
  ·rw [hA] at key
   rw [if_pos hA, <- key]; rfl
  ·rw [if_neg hA]
   rw [Bool.not_eq_true] at hA
   rw [hA] at key
   rw [<- key]; rfl
structure DSt (n : Nat) (ds : List Int) (q : List Nat) (k : Nat) : Prop where
 len : ds.length = n
 inv : acN ds
 ok : ∀ p ∈ q, p < n /\ 0 <= gd ds p
 mu : q.length + ds.countP (· < 0) <= k
theorem ad8 {ds : List Int} {p : Int} (hp : p.toNat < ds.length) (d : Int) (x : Nat) : gd (ds.set p.toNat d) (x : Int) = if p.toNat = x then d else gd ds x := by
 unfold gd
 simp only [Int.toNat_natCast, List.getD_eq_getElem?_getD, List.getElem?_set]
 split
 ·rename_i h; subst h; simp [hp]
 ·rfl
theorem qm {ds : List Int} {p : Nat} (hp : p < ds.length) : gd ds (p : Int) = ds[p] := by
 unfold gd; simp [hp]
theorem DSt.push {n : Nat} {ds : List Int} {q : List Nat} {k : Nat} (h : DSt n ds q k) {p d : Int} (hp : inR p 0 ((n : Int) - 1) = true) (h0 : 0 <= d) (h1 : d <= 250) (hg : gd ds p < 0) : DSt n (ds.set p.toNat d) (q ++ [p.toNat]) k := by
 simp only [inR, decide_eq_true_eq] at hp
 have hl := h.len
 have hpl : p.toNat < ds.length := by omega
 refine ⟨by simp [hl], h.inv.set (by omega) h1 _, fun x hx => ?_, ?_⟩
 ·rw [ad8 hpl]
  rcases List.mem_append.1 hx with hx | hx
  ·refine ⟨(h.ok x hx).1, ?_⟩
   split
   ·exact h0
   ·exact (h.ok x hx).2
  ·simp at hx; subst hx
   exact ⟨by omega, by rw [if_pos rfl]; exact h0⟩
 ·have hn : ds[p.toNat] < 0 := by
    have := qm hpl
    have hpp : ((p.toNat : Nat) : Int) = p := by omega
    rw [hpp] at this; omega
  have hc := List.countP_set (p := fun x : Int => decide (x < 0)) (l := ds) (a := d) hpl
  have hpos : 0 < ds.countP (fun x : Int => decide (x < 0)) := List.countP_pos_iff.2 ⟨_, List.getElem_mem hpl, by simpa using hn⟩
  have hm := h.mu
  simp only [hn, decide_true, if_true, show decide (d < 0) = false from decide_eq_false (by omega), Bool.false_eq_true, if_false] at hc
  rw [List.length_append, List.length_singleton, hc]
  omega
theorem DSt.pop {n : Nat} {ds : List Int} {p : Nat} {q : List Nat} {k : Nat} (h : DSt n ds (p :: q) k) : ∃ j, k = j + 1 /\ DSt n ds q j /\ p < n /\ 0 <= gd ds p := by
 have hm := h.mu
 rw [List.length_cons] at hm
 exact ⟨k - 1, by omega, ⟨h.len, h.inv, fun x hx => h.ok x (by simp [hx]), by omega⟩, h.ok p (by simp)⟩
def qT (is : List ai) (step : ai -> Nat -> List Int -> Option Dst) : Nat -> List Int -> List Nat -> Option (List Int)
 | _, ds, [] => some ds
 | 0, _, _ :: _ => none
 | f + 1, ds, p :: q => match is[p]? with
   | none => none
   | some i => match step i p ds with
     | none => none
     | some (ds', new) => qT is step f ds' (q ++ new)
theorem iU (is : List ai) (step : ai -> Nat -> List Int -> Option Dst) (f : Nat) (ds : List Int) {p : Nat} (q : List Nat) (hp : p < is.length) : qT is step (f + 1) ds (p :: q) = match step is[p] p ds with
     | none => none
     | some (ds', new) => qT is step f ds' (q ++ new) := by
 simp only [qT, List.getElem?_eq_getElem hp]
theorem fP (i : ai) (at_ : Nat) (g : Int) (h0 : 0 <= g) (ht : ¬ g < i.eff.1) (hsel : i.op = 14 -> 0 <= i.eff.1) : ∀ x ∈ i.nexts at_ g, 0 <= x.2 := by
 have he := iq i
 intro x hx
 rcases oF i.op with h' | h' | h' | h' | h' | h' | h' | h' | h' | h' | h' | h' | h' | h' | h' | h'
 all_goals first
     | (simp [ai.nexts, h'] at hx; done)
     | skip
 all_goals
   simp [ai.nexts, h'] at hx
   try simp [ai.eff, h'] at ht he hsel hx
   first
     | (subst hx; simp; omega)
     | (rcases hx with rfl | rfl <;> simp <;> omega)
     | (rcases hx with rfl | rfl | rfl <;> simp <;> omega)
theorem i9 {n k : Nat} : ∀ (l : List (Int × Int)) (ds : List Int) (q0 new : List Nat) (s : Dst), (∀ x ∈ l, 0 <= x.2) -> DSt n ds (q0 ++ new) k -> gA n l (ds, new) = some s -> DSt n s.1 (q0 ++ s.2) k
 | [], ds, q0, new, s, _, h, e => by simp only [gA, Option.some.injEq] at e; subst e; exact h
 | (p, d) :: r, ds, q0, new, s, hl, h, e => by
   have h0 := hl (p, d) (by simp)
   have hr : ∀ x ∈ r, 0 <= x.2 := fun x hx => hl x (by simp [hx])
   simp only [gA] at e
   by_cases hb : ul n ds p d = true
   ·rw [if_pos hb] at e; cases e
   ·rw [if_neg hb] at e
    simp only [ul, Bool.or_eq_true, not_or, Bool.not_eq_true, Bool.not_eq_false', decide_eq_false_iff_not] at hb
    by_cases hg : gd ds p < 0
    ·rw [if_pos hg] at e
     exact i9 r _ q0 _ s hr (by rw [<- List.append_assoc]; exact h.push hb.1.1 h0 (by omega) hg) e
    ·rw [if_neg hg] at e
     exact i9 r _ q0 _ s hr h e
theorem aaV (is : List ai) (hp : jz is = true) : ∀ (f : Nat) (ds : List Int) (q : List Nat), DSt is.length ds q f -> qT is (la is) f ds q = qT is (tx is) f ds q
 | _, _, [], _ => by simp [qT]
 | 0, _, _ :: _, _ => by simp [qT]
 | f + 1, ds, p :: q, h => by
   obtain ⟨j, hj, hst, hpl, hg⟩ := h.pop
   obtain rfl : f = j := by omega
   rw [iU _ _ _ _ _ hpl, iU _ _ _ _ _ hpl]
   have hpi : dI is.length is[p] = true := List.all_eq_true.1 hp _ (List.getElem_mem _)
   have hse := zD is is[p] p ds h.inv hpi hg
   rw [<- hse]
   cases hs : la is is[p] p ds with
   | none => rfl
   | some s =>
     have hsel : is[p].op = 14 -> 0 <= is[p].eff.1 := fun h14 => by
       simp only [dI, Bool.and_eq_true] at hpi
       have := hpi.1.2
       simp [h14] at this
       simp [ai.eff, h14]; exact this
     unfold la at hs
     by_cases ht : gd ds p < is[p].eff.1
     ·rw [if_pos ht] at hs; cases hs
     ·rw [if_neg ht] at hs
      by_cases hA : (is[p].labs.any (gz is p is[p].op)) = true
      ·rw [if_pos hA] at hs; cases hs
      ·rw [if_neg hA] at hs
       have hst' := i9 _ ds q [] s (fP _ p _ hg ht hsel) (by rw [List.append_nil]; exact hst) hs
       exact aaV is hp f s.1 (q ++ s.2) hst'
def bX (is : List ai) : Option (List Int) :=
 if is.length = 0 then none else if jz is then qT is (la is) is.length (0 :: List.replicate (is.length - 1) (-1)) [0] else none
theorem mG {n : Nat} (hn : 1 <= n) : DSt n (0 :: List.replicate (n - 1) (-1)) [0] n := by
 refine ⟨by simp; omega, fun x hx => ?_, fun p hp => ?_, ?_⟩
 ·rcases List.mem_cons.1 hx with rfl | hx
  ·omega
  ·rw [List.eq_of_mem_replicate hx]; omega
 ·simp at hp; subst hp; exact ⟨by omega, by simp [gd]⟩
 ·simp [List.countP_replicate]; omega
def afx (ds : List Int) : Array Value := (ds.map (Value.int .i64)).toArray
def nts (q : List Nat) : List Int := q.map Int.ofNat
def aed (x : ai) : Array Value := #[.int .i64 x.op, .int .i64 x.a, .int .i64 x.b, .string x.text]
structure afz (w wi : World) (g B B2 gb : Nat) (x : ai) (L : List (Int × Int)) (A13 : Option Addr) (c13 : Nat) (A14 : Option Addr) (c14 : Nat) (r14 : List Int) (ds : List Int) (tl : List Nat) (A : Option Addr) (c : Nat) : Prop where
 own : fb wi (fun b => g < b /\ (b < B \/ B2 <= b)) (.sl A c 1 (ad5 (nts tl)))
 dep : Blk wi g 3 (afx ds)
 s13 : gG wi (Rng B B2) (.sl A13 c13 1 (ad5 (L.map Prod.fst)))
 s14 : gG wi (Rng B B2) (.sl A14 c14 1 (ad5 (L.map Prod.snd ++ r14)))
 box : Blk wi gb 254 (aed x)
 old : Below w.heap.size w wi
 sz : B2 <= wi.heap.size
 hg : g < B
 hg0 : w.heap.size <= g
 hB : B <= B2
 hgb : B <= gb
 hgb2 : gb < B2
section
variable {w wi : World} {g B B2 gb : Nat} {x : ai} {L : List (Int × Int)} {A13 : Option Addr} {c13 : Nat} {A14 : Option Addr} {c14 : Nat} {r14 : List Int} {ds : List Int} {tl : List Nat} {A : Option Addr} {c : Nat}
end
structure afs (w wx : World) (g : Nat) (ds : List Int) (tl : List Nat) (A : Option Addr) (c : Nat) : Prop where
 own : fb wx (g < ·) (.sl A c 1 (ad5 (nts tl)))
 dep : Blk wx g 3 (afx ds)
 old : Below w.heap.size w wx
 hg0 : w.heap.size <= g
theorem acl {is : List ai} {i : ai} {at_ : Nat} {ds ds' : List Int} {new q : List Nat} {k : Nat} (hpi : dI is.length i = true) (hD : DSt is.length ds q k) (hg : 0 <= gd ds at_) (h : tx is i at_ ds = some (ds', new)) : DSt is.length ds' (q ++ new) k := by
 rw [<- zD is i at_ ds hD.inv hpi hg] at h
 have hsel : i.op = 14 -> 0 <= i.eff.1 := fun h14 => by
   simp only [dI, Bool.and_eq_true] at hpi
   have := hpi.1.2
   simp [h14] at this
   simp [ai.eff, h14]; exact this
 unfold la at h
 by_cases ht : gd ds at_ < i.eff.1
 ·rw [if_pos ht] at h; cases h
 ·rw [if_neg ht] at h
  by_cases hA : (i.labs.any (gz is at_ i.op)) = true
  ·rw [if_pos hA] at h; cases h
  ·rw [if_neg hA] at h
   exact i9 _ ds q [] _ (fP _ at_ _ hg ht hsel) (by rw [List.append_nil]; exact hD) h
theorem xF (is : List ai) (at_ op p d : Int) (r : List (Int × Int)) (ds : List Int) (q : List Nat) : jq is at_ op ((p, d) :: r) (ds, q) = if xD is at_ op p then none else if gd ds p = -1 then jq is at_ op r (ds.set p.toNat d, q ++ [p.toNat]) else if gd ds p = d then jq is at_ op r (ds, q) else none := rfl
def cY (is : List ai) : Option (List Int) := if is.length = 0 then none else qT is (tx is) is.length (0 :: List.replicate (is.length - 1) (-1)) [0]
theorem pC (is : List ai) (hp : jz is = true) : bX is = cY is := by
 unfold bX cY
 rw [if_pos hp]
 split
 ·rfl
 ·rename_i h
  exact aaV is hp _ _ _ (mG (by omega))
theorem z8 {n : Nat} (i : ai) (at_ : Nat) (d : Int) (h : dI n i = true) : ∀ x ∈ i.nexts at_ d, 0 <= x.1 := by
 simp only [dI, Bool.and_eq_true] at h
 have hl := h.2
 simp only [List.all_eq_true, inR, decide_eq_true_eq] at hl
 intro x hx
 rcases oF i.op with h' | h' | h' | h' | h' | h' | h' | h' | h' | h' | h' | h' | h' | h' | h' | h'
 all_goals
   simp only [ai.labs, h'] at hl
   simp [ai.nexts, h'] at hx
   try simp at hl
   try first
     | (subst hx; simp; omega)
     | (rcases hx with rfl | rfl <;> simp <;> omega)
     | (rcases hx with rfl | rfl | rfl <;> simp <;> omega)
theorem sD (i : ai) (a d : Int) : (i.nexts a d).length <= 3 := by
 unfold ai.nexts
 repeat' split
 all_goals simp
end Go.Proofs.YtigipcbnfeoliaaGreatDoor
