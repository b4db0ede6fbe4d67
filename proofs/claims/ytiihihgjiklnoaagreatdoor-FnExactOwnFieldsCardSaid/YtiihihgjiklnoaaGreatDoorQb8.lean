/- Part 8 of the proof: the texts DepP, DepF, DepG. -/
import Derived.Test.YtiihihgjiklnoaaGreatDoorQb5
import Derived.Test.YtiihihgjiklnoaaGreatDoorQb4
import Derived.Test.YtiihihgjiklnoaaGreatDoorQb1
/- The depths of the stack as plain functions: what an instruction takes, where it goes on, one step of the program's way and of the reference's way, and that both are one. No program here. -/
namespace Go.Proofs.YtiihihgjiklnoaaGreatDoor
open Go Go.RowKit

def ag.eff (i : ag) : Int × Int :=
  if i.op = 9 ∨ i.op = 11 ∨ i.op = 18 then (1, 1)
  else if i.op = 13 then (bT i.text.data.toList + 1, 1)
  else if i.op = 14 then (bT i.text.data.toList, 1)
  else if i.op = 16 ∨ i.op = 19 ∨ i.op = 21 ∨ i.op = 22 then (1, 0)
  else if i.op = 17 then (1, 2)
  else if i.op = 24 ∨ i.op = 25 then (2, 2)
  else if i.op = 26 then (2, 1)
  else if i.op = 20 ∨ i.op = 23 then (0, 0)
  else (0, 1)
def ag.labs (i : ag) : List Int :=
  if i.op = 20 then [i.a] else if i.op = 21 ∨ i.op = 22 then [i.a, i.b] else if i.op = 24 ∨ i.op = 25 ∨ i.op = 26 then [i.b] else []
def ag.nexts (i : ag) (at_ d : Int) : List (Int × Int) :=
  if i.op = 19 then []
  else if i.op = 20 then [(i.a, d - i.eff.1 + i.eff.2)]
  else if i.op = 21 ∨ i.op = 22 then [(at_ + 1, d - i.eff.1 + i.eff.2), (i.a, d - i.eff.1 + i.eff.2), (i.b, d - i.eff.1 + i.eff.2 + 1)]
  else if i.op = 24 ∨ i.op = 25 then [(at_ + 1, d - i.eff.1 + i.eff.2), (i.b, d - 1)]
  else if i.op = 26 then [(at_ + 1, d - i.eff.1 + i.eff.2), (i.b, d)]
  else [(at_ + 1, d - i.eff.1 + i.eff.2)]

theorem nh (k : Int) : k = 9 ∨ k = 11 ∨ k = 13 ∨ k = 14 ∨ k = 16 ∨ k = 17 ∨ k = 18 ∨ k = 19 ∨ k = 20 ∨ k = 21 ∨ k = 22 ∨ k = 23 ∨ k = 24 ∨ k = 25 ∨ k = 26 ∨ (¬ k = 9 ∧ ¬ k = 11 ∧ ¬ k = 13 ∧ ¬ k = 14 ∧ ¬ k = 16 ∧ ¬ k = 17 ∧ ¬ k = 18 ∧ ¬ k = 19 ∧ ¬ k = 20 ∧ ¬ k = 21 ∧ ¬ k = 22 ∧ ¬ k = 23 ∧ ¬ k = 24 ∧ ¬ k = 25 ∧ ¬ k = 26) := by omega

theorem aab (l : List UInt8) : cw l = decide (0 ≤ bT l) := by
  unfold cw bT
  cases kK l
  · cases cj l
    · cases kwL l <;> simp
    · simp
  · simp
theorem pB (l : List UInt8) : -1 ≤ bT l := by
  unfold bT
  split
  · omega
  · split
    · omega
    · split <;> omega
theorem yr {l : List UInt8} {ps : List (List UInt8)} (h : kwL l = some ps) : ps.length ≤ 4 := by
  unfold kwL at h
  split at h
  · split at h
    · rename_i h2
      simp only [Bool.and_eq_true, decide_eq_true_eq] at h2
      cases h; exact h2.2
    · cases h
  · cases h
theorem pY (l : List UInt8) : bT l ≤ 4 := by
  unfold bT
  split
  · omega
  · split
    · omega
    · split
      · rename_i ps h
        have := yr h
        omega
      · omega
theorem ij (i : ag) : -1 ≤ i.eff.1 ∧ i.eff.1 ≤ 5 ∧ 0 ≤ i.eff.2 ∧ i.eff.2 ≤ 2 := by
  have h1 := pB i.text.data.toList
  have h2 := pY i.text.data.toList
  unfold ag.eff
  repeat' split
  all_goals (refine ⟨?_, ?_, ?_, ?_⟩ <;> simp <;> omega)

def gd (ds : List Int) (p : Int) : Int := ds.getD p.toNat 0
def acI (is : List ag) (p : Int) : Int := ((is[p.toNat]?).map ag.op).getD 0

def dv (n : Nat) (i : ag) : Bool := inR i.op 1 26 && (!(decide (i.op = 13) || decide (i.op = 14)) || decide (0 ≤ bT i.text.data.toList)) && i.labs.all fun l => inR l 0 ((n : Int) - 1)
def jm (is : List ag) : Bool := is.all (dv is.length)

abbrev Dst := List Int × List Nat
def sK (n : Nat) (ds : List Int) (p d : Int) : Bool := !inR p 0 ((n : Int) - 1) || decide (250 < d) || (decide (0 ≤ gd ds p) && !decide (gd ds p = d))
def fK (n : Nat) : List (Int × Int) → Dst → Option Dst
  | [], s => some s
  | (p, d) :: r, (ds, q) => if sK n ds p d then none else if gd ds p < 0 then fK n r (ds.set p.toNat d, q ++ [p.toNat]) else fK n r (ds, q)
def fY (is : List ag) (at_ : Int) (op l : Int) : Bool := !decide (op = 26) && decide (l ≤ at_) && !decide (acI is l = 23)
def kD (is : List ag) (i : ag) (at_ : Nat) (ds : List Int) : Option Dst :=
  if gd ds at_ < i.eff.1 then none
  else if i.labs.any (fY is at_ i.op) then none
  else fK is.length (i.nexts at_ (gd ds at_)) (ds, [])
def vN (is : List ag) (at_ : Int) (op p : Int) : Bool := decide ((is.length : Int) ≤ p) || fY is at_ op p
def iS (is : List ag) (at_ op : Int) : List (Int × Int) → Dst → Option Dst
  | [], s => some s
  | (p, d) :: r, (ds, q) => if vN is at_ op p then none else if gd ds p = -1 then iS is at_ op r (ds.set p.toNat d, q ++ [p.toNat]) else if gd ds p = d then iS is at_ op r (ds, q) else none
def rG (is : List ag) (i : ag) (at_ : Nat) (ds : List Int) : Option Dst :=
  if gd ds at_ - i.eff.1 < 0 ∨ 250 < gd ds at_ - i.eff.1 + i.eff.2 then none
  else iS is at_ i.op (i.nexts at_ (gd ds at_)) (ds, [])

def lw : List (Int × Int) → Dst → Option Dst
  | [], s => some s
  | (p, d) :: r, (ds, q) => if gd ds p < 0 then lw r (ds.set p.toNat d, q ++ [p.toNat]) else if gd ds p = d then lw r (ds, q) else none
def okP (n : Nat) (x : Int × Int) : Bool := inR x.1 0 ((n : Int) - 1) && decide (x.2 ≤ 250)
theorem vD (n : Nat) : ∀ (l : List (Int × Int)) (s : Dst), fK n l s = if l.all (okP n) then lw l s else none
  | [], s => by simp [fK, lw]
  | (p, d) :: r, (ds, q) => by
    have ih := vD n r
    by_cases hr : inR p 0 ((n : Int) - 1) = true
    · by_cases hd : d ≤ 250
      · have hd' : ¬ 250 < d := by omega
        by_cases hg : gd ds p < 0
        · have hg' : ¬ 0 ≤ gd ds p := by omega
          simp only [fK, sK, lw, okP, List.all_cons, hr, hd, hd', hg, hg', ih, decide_true, decide_false, Bool.not_true, Bool.or_false, Bool.false_and, Bool.true_and, if_true, Bool.false_eq_true, if_false]
        · have hg' : 0 ≤ gd ds p := by omega
          by_cases he : gd ds p = d
          · have h1 : ¬ d < 0 := he ▸ hg
            have h2 : 0 ≤ d := he ▸ hg'
            simp only [fK, sK, lw, okP, List.all_cons, hr, hd, hd', he, h1, h2, ih, decide_true, decide_false, Bool.not_true, Bool.or_false, Bool.true_and, if_true, Bool.false_eq_true, if_false]
          · simp [fK, sK, lw, okP, hr, hd, hd', hg, hg', he]
            exact (ite_self _).symm
      · have hd' : 250 < d := by omega
        simp [fK, sK, okP, hr, hd, hd']
    · simp [fK, sK, okP, hr]

def aaO (ds : List Int) : Prop := ∀ x ∈ ds, -1 ≤ x ∧ x ≤ 250
theorem aaO.gd {ds : List Int} (h : aaO ds) (p : Int) : -1 ≤ gd ds p ∧ gd ds p ≤ 250 := by
  unfold Proofs.YtiihihgjiklnoaaGreatDoor.gd
  rw [List.getD_eq_getElem?_getD]
  cases hp : ds[p.toNat]? with
  | none => simp
  | some x => exact h x (List.mem_of_getElem? hp)
theorem aaO.set {ds : List Int} (h : aaO ds) {d : Int} (h0 : -1 ≤ d) (h1 : d ≤ 250) (p : Nat) : aaO (ds.set p d) := fun x hx => by
  rcases List.mem_or_eq_of_mem_set hx with hx | rfl
  · exact h x hx
  · exact ⟨h0, h1⟩
theorem vk (is : List ag) (at_ op : Int) : ∀ (l : List (Int × Int)) (s : Dst), aaO s.1 → (∀ x ∈ l, 0 ≤ x.2 ∧ x.2 ≤ 250) → iS is at_ op l s = if l.all (fun x => !vN is at_ op x.1) then lw l s else none
  | [], s, _, _ => by simp [iS, lw]
  | (p, d) :: r, (ds, q), hI, hl => by
    have ih := vk is at_ op r
    have hd := hl (p, d) (by simp)
    have hl' : ∀ x ∈ r, 0 ≤ x.2 ∧ x.2 ≤ 250 := fun x hx => hl x (by simp [hx])
    have hg := hI.gd p
    by_cases hb : vN is at_ op p = true
    · simp [iS, hb]
    · by_cases h1 : gd ds p = -1
      · have h2 : gd ds p < 0 := by omega
        have := ih (ds.set p.toNat d, q ++ [p.toNat]) (hI.set (by omega) hd.2 _) hl'
        simp only [iS, lw, List.all_cons, hb, h1, if_true, Bool.false_eq_true, if_false, Bool.not_false, Bool.true_and, this, show ((-1 : Int) < 0) from by omega]
      · have h2 : ¬ gd ds p < 0 := by simp only at hg; omega
        by_cases he : gd ds p = d
        · have h3 : ¬ d < 0 := he ▸ h2
          have h4 : ¬ d = -1 := he ▸ h1
          have := ih (ds, q) hI hl'
          simp only [iS, lw, List.all_cons, hb, he, h3, h4, if_true, Bool.false_eq_true, if_false, Bool.not_false, Bool.true_and, this]
        · simp [iS, lw, hb, h1, h2, he]
          exact (ite_self _).symm

theorem zz (i : ag) (at_ : Nat) (g : Int) (h0 : 0 ≤ g) (h1 : g ≤ 250) (h : 250 < g - i.eff.1 + i.eff.2) (_hl : ∀ _l : Int, True) : ∃ x ∈ i.nexts at_ g, 250 < x.2 := by
  rcases nh i.op with h' | h' | h' | h' | h' | h' | h' | h' | h' | h' | h' | h' | h' | h' | h' | h'
  all_goals first
    | (refine ⟨((at_ : Int) + 1, g - i.eff.1 + i.eff.2), ?_, h⟩; simp [ag.nexts, h']; done)
    | (refine ⟨(i.a, g - i.eff.1 + i.eff.2), ?_, h⟩; simp [ag.nexts, h']; done)
    | (exfalso; simp [ag.eff, h'] at h; omega)
theorem tc (i : ag) (at_ : Nat) (g : Int) (h0 : 0 ≤ g) (h1 : g ≤ 250) (ht : ¬ g < i.eff.1) (h : ¬ 250 < g - i.eff.1 + i.eff.2) (_hsel : i.op = 14 → 0 ≤ i.eff.1) : ∀ x ∈ i.nexts at_ g, 0 ≤ x.2 ∧ x.2 ≤ 250 := by
  have he := ij i
  intro x hx
  rcases nh i.op with h' | h' | h' | h' | h' | h' | h' | h' | h' | h' | h' | h' | h' | h' | h' | h'
  all_goals first
      | (simp [ag.nexts, h'] at hx; done)
      | skip
  all_goals
    simp [ag.nexts, h'] at hx
    try simp [ag.eff, h'] at ht h he _hsel hx
    first
      | (subst hx; simp; omega)
      | (rcases hx with rfl | rfl <;> simp <;> omega)
      | (rcases hx with rfl | rfl | rfl <;> simp <;> omega)
theorem abC (n : Nat) (l : Int) : inR l 0 ((n : Int) - 1) = (decide (0 ≤ l) && !decide ((n : Int) ≤ l)) := by
  simp only [inR]; rw [Bool.eq_iff_iff]; simp; omega
theorem xz (is : List ag) (i : ag) (at_ : Nat) (g : Int) (_h0 : 0 ≤ g) (h1 : g ≤ 250) (_ht : ¬ g < i.eff.1) (h : ¬ 250 < g - i.eff.1 + i.eff.2) (hlab : (i.labs.all fun l => inR l 0 ((is.length : Int) - 1)) = true) :
    (!i.labs.any (fY is at_ i.op) && (i.nexts at_ g).all (okP is.length)) = (i.nexts at_ g).all (fun x => !vN is at_ i.op x.1) := by
  have hb1 : ∀ op, fY is at_ op ((at_ : Int) + 1) = false := fun op => by
    simp only [fY]
    rw [show decide ((at_ : Int) + 1 ≤ at_) = false from decide_eq_false (by omega)]; simp
  have hin1 : inR ((at_ : Int) + 1) 0 ((is.length : Int) - 1) = !decide ((is.length : Int) ≤ (at_ : Int) + 1) := by
    rw [abC, show decide (0 ≤ (at_ : Int) + 1) = true from decide_eq_true (by omega)]; rfl
  have hl2 : ∀ l ∈ i.labs, inR l 0 ((is.length : Int) - 1) = true ∧ decide ((is.length : Int) ≤ l) = false := fun l hl => by
    have := List.all_eq_true.1 hlab l hl
    refine ⟨this, ?_⟩
    simp only [inR, decide_eq_true_eq] at this
    exact decide_eq_false (by omega)
  rcases nh i.op with h' | h' | h' | h' | h' | h' | h' | h' | h' | h' | h' | h' | h' | h' | h' | h'
  all_goals
    simp only [ag.labs, ag.eff, h'] at hl2 _ht h
    simp [ag.nexts, ag.labs, ag.eff, h', okP, vN, hb1, hin1]
    try simp at hl2 _ht h
  all_goals first
    | (intros; omega)
    | grind

theorem yC (is : List ag) (i : ag) (at_ : Nat) (ds : List Int) (hI : aaO ds) (hp : dv is.length i = true) (hg : 0 ≤ gd ds at_) : kD is i at_ ds = rG is i at_ ds := by
  have hr := hI.gd at_
  unfold kD rG
  by_cases ht : gd ds at_ < i.eff.1
  · rw [if_pos ht, if_pos (by omega)]
  rw [if_neg ht]
  simp only [dv, Bool.and_eq_true] at hp
  obtain ⟨⟨hop, hsel⟩, hlab⟩ := hp
  have hsel' : i.op = 14 → 0 ≤ i.eff.1 := fun h => by
    simp [h] at hsel
    simp [ag.eff, h]; exact hsel
  rw [vD]
  by_cases h250 : 250 < gd ds at_ - i.eff.1 + i.eff.2
  · rw [if_pos (Or.inr h250)]
    obtain ⟨x, hx, hx2⟩ := zz i at_ _ hg hr.2 h250 fun _ => trivial
    have hno : (i.nexts at_ (gd ds at_)).all (okP is.length) = false := by
      rw [List.all_eq_false]
      exact ⟨x, hx, by simp [okP]; intro _; omega⟩
    rw [hno]; simp
  · rw [if_neg (c := gd ds at_ - i.eff.1 < 0 ∨ 250 < gd ds at_ - i.eff.1 + i.eff.2) (by omega), vk _ _ _ _ _ hI (tc i at_ _ hg hr.2 ht h250 hsel')]
    have key := xz is i at_ _ hg hr.2 ht h250 hlab
    by_cases hA : i.labs.any (fY is at_ i.op) = true
    · rw [hA] at key
      rw [if_pos hA, ← key]; rfl
    · rw [if_neg hA]
      rw [Bool.not_eq_true] at hA
      rw [hA] at key
      rw [← key]; rfl


structure DSt (n : Nat) (ds : List Int) (q : List Nat) (k : Nat) : Prop where
  len : ds.length = n
  inv : aaO ds
  ok : ∀ p ∈ q, p < n ∧ 0 ≤ gd ds p
  mu : q.length + ds.countP (· < 0) ≤ k
theorem acw {ds : List Int} {p : Int} (hp : p.toNat < ds.length) (d : Int) (x : Nat) : gd (ds.set p.toNat d) (x : Int) = if p.toNat = x then d else gd ds x := by
  unfold gd
  simp only [Int.toNat_natCast, List.getD_eq_getElem?_getD, List.getElem?_set]
  split
  · rename_i h; subst h; simp
  · rfl
theorem oe {ds : List Int} {p : Nat} (hp : p < ds.length) : gd ds (p : Int) = ds[p] := by
  unfold gd; simp [hp]
theorem DSt.push {n : Nat} {ds : List Int} {q : List Nat} {k : Nat} (h : DSt n ds q k) {p d : Int} (hp : inR p 0 ((n : Int) - 1) = true) (h0 : 0 ≤ d) (h1 : d ≤ 250) (hg : gd ds p < 0) : DSt n (ds.set p.toNat d) (q ++ [p.toNat]) k := by
  simp only [inR, decide_eq_true_eq] at hp
  have hl := h.len
  have hpl : p.toNat < ds.length := by omega
  refine ⟨by simp [hl], h.inv.set (by omega) h1 _, fun x hx => ?_, ?_⟩
  · rw [acw hpl]
    rcases List.mem_append.1 hx with hx | hx
    · refine ⟨(h.ok x hx).1, ?_⟩
      split
      · exact h0
      · exact (h.ok x hx).2
    · simp at hx; subst hx
      exact ⟨by omega, by rw [if_pos rfl]; exact h0⟩
  · have hn : ds[p.toNat] < 0 := by
      have := oe hpl
      have hpp : ((p.toNat : Nat) : Int) = p := by omega
      rw [hpp] at this; omega
    have hc := List.countP_set (p := fun x : Int => decide (x < 0)) (l := ds) (a := d) hpl
    have hpos : 0 < ds.countP (fun x : Int => decide (x < 0)) := List.countP_pos_iff.2 ⟨_, List.getElem_mem hpl, by simpa using hn⟩
    have hm := h.mu
    simp only [hn, decide_true, if_true, show decide (d < 0) = false from decide_eq_false (by omega), Bool.false_eq_true, if_false] at hc
    rw [List.length_append, List.length_singleton, hc]
    omega
theorem DSt.pop {n : Nat} {ds : List Int} {p : Nat} {q : List Nat} {k : Nat} (h : DSt n ds (p :: q) k) : ∃ j, k = j + 1 ∧ DSt n ds q j ∧ p < n ∧ 0 ≤ gd ds p := by
  have hm := h.mu
  rw [List.length_cons] at hm
  exact ⟨k - 1, by omega, ⟨h.len, h.inv, fun x hx => h.ok x (by simp [hx]), by omega⟩, h.ok p (by simp)⟩

def qi (is : List ag) (step : ag → Nat → List Int → Option Dst) : Nat → List Int → List Nat → Option (List Int)
  | _, ds, [] => some ds
  | 0, _, _ :: _ => none
  | f + 1, ds, p :: q => match is[p]? with
    | none => none
    | some i => match step i p ds with
      | none => none
      | some (ds', new) => qi is step f ds' (q ++ new)
theorem hY (is : List ag) (step : ag → Nat → List Int → Option Dst) (f : Nat) (ds : List Int) {p : Nat} (q : List Nat) (hp : p < is.length) : qi is step (f + 1) ds (p :: q) = match step is[p] p ds with
      | none => none
      | some (ds', new) => qi is step f ds' (q ++ new) := by
  simp only [qi, List.getElem?_eq_getElem hp]

theorem fA (i : ag) (at_ : Nat) (g : Int) (h0 : 0 ≤ g) (ht : ¬ g < i.eff.1) (_hsel : i.op = 14 → 0 ≤ i.eff.1) : ∀ x ∈ i.nexts at_ g, 0 ≤ x.2 := by
  have he := ij i
  intro x hx
  rcases nh i.op with h' | h' | h' | h' | h' | h' | h' | h' | h' | h' | h' | h' | h' | h' | h' | h'
  all_goals first
      | (simp [ag.nexts, h'] at hx; done)
      | skip
  all_goals
    simp [ag.nexts, h'] at hx
    try simp [ag.eff, h'] at ht he _hsel hx
    first
      | (subst hx; simp; omega)
      | (rcases hx with rfl | rfl <;> simp <;> omega)
      | (rcases hx with rfl | rfl | rfl <;> simp <;> omega)

theorem iK {n k : Nat} : ∀ (l : List (Int × Int)) (ds : List Int) (q0 new : List Nat) (s : Dst), (∀ x ∈ l, 0 ≤ x.2) → DSt n ds (q0 ++ new) k → fK n l (ds, new) = some s → DSt n s.1 (q0 ++ s.2) k
  | [], ds, q0, new, s, _, h, e => by simp only [fK, Option.some.injEq] at e; subst e; exact h
  | (p, d) :: r, ds, q0, new, s, hl, h, e => by
    have h0 := hl (p, d) (by simp)
    have hr : ∀ x ∈ r, 0 ≤ x.2 := fun x hx => hl x (by simp [hx])
    simp only [fK] at e
    by_cases hb : sK n ds p d = true
    · rw [if_pos hb] at e; cases e
    · rw [if_neg hb] at e
      simp only [sK, Bool.or_eq_true, not_or, Bool.not_eq_true, Bool.not_eq_false', decide_eq_false_iff_not] at hb
      by_cases hg : gd ds p < 0
      · rw [if_pos hg] at e
        exact iK r _ q0 _ s hr (by rw [← List.append_assoc]; exact h.push hb.1.1 h0 (by omega) hg) e
      · rw [if_neg hg] at e
        exact iK r _ q0 _ s hr h e

theorem zh (is : List ag) (hp : jm is = true) : ∀ (f : Nat) (ds : List Int) (q : List Nat), DSt is.length ds q f → qi is (kD is) f ds q = qi is (rG is) f ds q
  | _, _, [], _ => by simp [qi]
  | 0, _, _ :: _, _ => by simp [qi]
  | f + 1, ds, p :: q, h => by
    obtain ⟨j, hj, hst, hpl, hg⟩ := h.pop
    obtain rfl : f = j := by omega
    rw [hY _ _ _ _ _ hpl, hY _ _ _ _ _ hpl]
    have hpi : dv is.length is[p] = true := List.all_eq_true.1 hp _ (List.getElem_mem _)
    have hse := yC is is[p] p ds h.inv hpi hg
    rw [← hse]
    cases hs : kD is is[p] p ds with
    | none => rfl
    | some s =>
      have hsel : is[p].op = 14 → 0 ≤ is[p].eff.1 := fun h14 => by
        simp only [dv, Bool.and_eq_true] at hpi
        have := hpi.1.2
        simp [h14] at this
        simp [ag.eff, h14]; exact this
      unfold kD at hs
      by_cases ht : gd ds p < is[p].eff.1
      · rw [if_pos ht] at hs; cases hs
      · rw [if_neg ht] at hs
        by_cases hA : (is[p].labs.any (fY is p is[p].op)) = true
        · rw [if_pos hA] at hs; cases hs
        · rw [if_neg hA] at hs
          have hst' := iK _ ds q [] s (fA _ p _ hg ht hsel) (by rw [List.append_nil]; exact hst) hs
          exact zh is hp f s.1 (q ++ s.2) hst'

def bR (is : List ag) : Option (List Int) :=
  if is.length = 0 then none else if jm is then qi is (kD is) is.length (0 :: List.replicate (is.length - 1) (-1)) [0] else none
theorem lM {n : Nat} (hn : 1 ≤ n) : DSt n (0 :: List.replicate (n - 1) (-1)) [0] n := by
  refine ⟨by simp; omega, fun x hx => ?_, fun p hp => ?_, ?_⟩
  · rcases List.mem_cons.1 hx with rfl | hx
    · omega
    · rw [List.eq_of_mem_replicate hx]; omega
  · simp at hp; subst hp; exact ⟨by omega, by simp [gd]⟩
  · simp [List.countP_replicate]; omega

def ab8 (ds : List Int) : Array Value := (ds.map (Value.int .i64)).toArray
theorem aak (ds : List Int) (p : Nat) (d : Int) : (ab8 ds).setIfInBounds p (.int .i64 d) = ab8 (ds.set p d) := by
  unfold ab8
  rw [List.setIfInBounds_toArray, List.map_set]
def nts (q : List Nat) : List Int := q.map Int.ofNat
theorem wg (a b : List Nat) : nts (a ++ b) = nts a ++ nts b := by simp [nts]
theorem iF.blk {w : World} {g : Nat} {e : TypeId} {xs : List Value} (h : iF w g e xs.length xs) : Blk w g e xs.toArray := by
  obtain ⟨cur, h1, h2, _, h4⟩ := h
  have : cur = xs.toArray := by
    rw [List.take_of_length_le (by simp [h2])] at h4
    rw [← h4]
  rw [← this]; exact h1
def acl (x : ag) : Array Value := #[.int .i64 x.op, .int .i64 x.a, .int .i64 x.b, .string x.text]
structure nq (w wi : World) (g B B2 gb : Nat) (x : ag) (L : List (Int × Int)) (A13 : Option Addr) (c13 : Nat) (A14 : Option Addr) (c14 : Nat) (r14 : List Int) (ds : List Int) (tl : List Nat) (A : Option Addr) (c : Nat) : Prop where
  own : cr wi (fun b => g < b ∧ (b < B ∨ B2 ≤ b)) (.sl A c 1 (ab2 (nts tl)))
  dep : Blk wi g 3 (ab8 ds)
  s13 : dK wi (Rng B B2) (.sl A13 c13 1 (ab2 (L.map Prod.fst)))
  s14 : dK wi (Rng B B2) (.sl A14 c14 1 (ab2 (L.map Prod.snd ++ r14)))
  box : Blk wi gb 202 (acl x)
  old : Below w.heap.size w wi
  sz : B2 ≤ wi.heap.size
  hg : g < B
  hg0 : w.heap.size ≤ g
  hB : B ≤ B2
  hgb : B ≤ gb
  hgb2 : gb < B2
section
variable {w wi : World} {g B B2 gb : Nat} {x : ag} {L : List (Int × Int)} {A13 : Option Addr} {c13 : Nat} {A14 : Option Addr} {c14 : Nat} {r14 : List Int} {ds : List Int} {tl : List Nat} {A : Option Addr} {c : Nat}
theorem nq.set (h : nq w wi g B B2 gb x L A13 c13 A14 c14 r14 ds tl A c) (p : Nat) (d : Int) : nq w (wi.setCell ⟨g, p, none⟩ (.int .i64 d)) g B B2 gb x L A13 c13 A14 c14 r14 (ds.set p d) tl A c :=
  ⟨h.own.far (p := ⟨g, p, none⟩) (fun hh => by have := hh.1; simp at this) _, by rw [← aak]; exact h.dep.set_ p _,
   h.s13.keep (fun b hb => Below.heap_setCell _ _ _ _ (by have := hb.1; have := h.hg; simp only; omega)) (fun _ hb _ => hb),
   h.s14.keep (fun b hb => Below.heap_setCell _ _ _ _ (by have := hb.1; have := h.hg; simp only; omega)) (fun _ hb _ => hb),
   h.box.far (p := ⟨g, p, none⟩) (by have := h.hg; have := h.hgb; simp only; omega) _, h.old.setCell h.hg0 _, by have := h.sz; simpa [World.setCell] using this, h.hg, h.hg0, h.hB, h.hgb, h.hgb2⟩
theorem nq.drewN (h : nq w wi g B B2 gb x L A13 c13 A14 c14 r14 ds tl A c) (n : Nat) : nq w (wi.drewN n) g B B2 gb x L A13 c13 A14 c14 r14 ds tl A c :=
  ⟨h.own.keep fun _ _ _ => rfl, h.dep, h.s13.keep (fun _ _ => rfl) fun _ hb _ => hb, h.s14.keep (fun _ _ => rfl) fun _ hb _ => hb, h.box, aU h.old n, h.sz, h.hg, h.hg0, h.hB, h.hgb, h.hgb2⟩
theorem nq.push (h : nq w wi g B B2 gb x L A13 c13 A14 c14 r14 ds tl A c) {w2 : World} {A' : Option Addr} {c' p : Nat} (ho : cr w2 (fun b => g < b ∧ (b < B ∨ B2 ≤ b)) (.sl A' c' 1 (ab2 (nts tl ++ [(p : Int)])))) (ht : dB (· ∈ PT.rowOf A) wi w2) : nq w w2 g B B2 gb x L A13 c13 A14 c14 r14 ds (tl ++ [p]) A' c' := by
  have hA : ∀ b, b ∈ PT.rowOf A → g < b ∧ (b < B ∨ B2 ≤ b) := fun b hb => h.own.2.2 b (by simp [PT.blocks, hb])
  refine ⟨by rw [wg]; exact ho, h.dep.touch ht fun hb => by have := (hA g hb).1; omega, h.s13.touch ht fun b hb _ hm => ?_, h.s14.touch ht fun b hb _ hm => ?_, h.box.touch ht fun hb => ?_, h.old.trans (ht.below h.old.size fun b hb => by have := (hA b hb).1; have := h.hg0; omega), Nat.le_trans h.sz ht.size, h.hg, h.hg0, h.hB, h.hgb, h.hgb2⟩
  · have h1 := hA b hm; have h2 := hb.1; have h3 := hb.2; omega
  · have h1 := hA b hm; have h2 := hb.1; have h3 := hb.2; omega
  · have h1 := hA gb hb; have h2 := h.hgb; have h3 := h.hgb2; omega
end

structure vC (w wx : World) (g : Nat) (ds : List Int) (tl : List Nat) (A : Option Addr) (c : Nat) : Prop where
  own : cr wx (g < ·) (.sl A c 1 (ab2 (nts tl)))
  dep : Blk wx g 3 (ab8 ds)
  old : Below w.heap.size w wx
  hg0 : w.heap.size ≤ g
theorem vC.below {w wx w' : World} {g : Nat} {ds : List Int} {tl : List Nat} {A : Option Addr} {c : Nat} (h : vC w wx g ds tl A c) (hb : Below wx.heap.size wx w') : vC w w' g ds tl A c :=
  ⟨h.own.below hb, h.dep.below hb h.dep.lt, h.old.trans (hb.mono h.old.size), h.hg0⟩
theorem nq.out {w wi : World} {g B B2 gb : Nat} {x : ag} {L : List (Int × Int)} {A13 : Option Addr} {c13 : Nat} {A14 : Option Addr} {c14 : Nat} {r14 : List Int} {ds : List Int} {tl : List Nat} {A : Option Addr} {c : Nat} (h : nq w wi g B B2 gb x L A13 c13 A14 c14 r14 ds tl A c) : vC w wi g ds tl A c :=
  ⟨h.own.mono fun _b hb _ => hb.1, h.dep, h.old, h.hg0⟩
theorem aaE {is : List ag} {i : ag} {at_ : Nat} {ds ds' : List Int} {new q : List Nat} {k : Nat} (hpi : dv is.length i = true) (hD : DSt is.length ds q k) (hg : 0 ≤ gd ds at_) (h : rG is i at_ ds = some (ds', new)) : DSt is.length ds' (q ++ new) k := by
  rw [← yC is i at_ ds hD.inv hpi hg] at h
  have hsel : i.op = 14 → 0 ≤ i.eff.1 := fun h14 => by
    simp only [dv, Bool.and_eq_true] at hpi
    have := hpi.1.2
    simp [h14] at this
    simp [ag.eff, h14]; exact this
  unfold kD at h
  by_cases ht : gd ds at_ < i.eff.1
  · rw [if_pos ht] at h; cases h
  · rw [if_neg ht] at h
    by_cases hA : (i.labs.any (fY is at_ i.op)) = true
    · rw [if_pos hA] at h; cases h
    · rw [if_neg hA] at h
      exact iK _ ds q [] _ (fA _ at_ _ hg ht hsel) (by rw [List.append_nil]; exact hD) h

theorem wA (is : List ag) (at_ op p d : Int) (r : List (Int × Int)) (ds : List Int) (q : List Nat) : iS is at_ op ((p, d) :: r) (ds, q) = if vN is at_ op p then none else if gd ds p = -1 then iS is at_ op r (ds.set p.toNat d, q ++ [p.toNat]) else if gd ds p = d then iS is at_ op r (ds, q) else none := rfl

def cM (is : List ag) : Option (List Int) := if is.length = 0 then none else qi is (rG is) is.length (0 :: List.replicate (is.length - 1) (-1)) [0]
theorem oP (is : List ag) (hp : jm is = true) : bR is = cM is := by
  unfold bR cM
  rw [if_pos hp]
  split
  · rfl
  · rename_i h
    exact zh is hp _ _ _ (lM (by omega))
theorem yN {n : Nat} (i : ag) (at_ : Nat) (d : Int) (h : dv n i = true) : ∀ x ∈ i.nexts at_ d, 0 ≤ x.1 := by
  simp only [dv, Bool.and_eq_true] at h
  have hl := h.2
  simp only [List.all_eq_true, inR, decide_eq_true_eq] at hl
  intro x hx
  rcases nh i.op with h' | h' | h' | h' | h' | h' | h' | h' | h' | h' | h' | h' | h' | h' | h' | h'
  all_goals
    simp only [ag.labs, h'] at hl
    simp [ag.nexts, h'] at hx
    try simp at hl
    try first
      | (subst hx; simp; omega)
      | (rcases hx with rfl | rfl <;> simp <;> omega)
      | (rcases hx with rfl | rfl | rfl <;> simp <;> omega)
theorem rX (i : ag) (a d : Int) : (i.nexts a d).length ≤ 3 := by
  unfold ag.nexts
  repeat' split
  all_goals simp
end Go.Proofs.YtiihihgjiklnoaaGreatDoor
