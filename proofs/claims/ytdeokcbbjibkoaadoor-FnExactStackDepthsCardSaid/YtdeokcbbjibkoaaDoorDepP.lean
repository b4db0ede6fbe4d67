/- The depths of the stack as plain functions: what an instruction takes, where it goes on, one step of the program's way and of the reference's way, and that both are one. No program here. -/
import Derived.Test.YtdeokcbbjibkoaaDoorTypes
import Derived.Test.YtdeokcbbjibkoaaDoorSelPure
namespace Go.Proofs.YtdeokcbbjibkoaaDoor
open Go Go.RowKit

/-- How many values an instruction takes and leaves. -/
def TInstr.eff (i : TInstr) : Int × Int :=
  if i.op = 9 ∨ i.op = 11 ∨ i.op = 18 then (1, 1)
  else if i.op = 13 then (nArgsL i.text.data.toList + 1, 1)
  else if i.op = 14 then (nArgsL i.text.data.toList, 1)
  else if i.op = 16 ∨ i.op = 19 ∨ i.op = 21 ∨ i.op = 22 then (1, 0)
  else if i.op = 17 then (1, 2)
  else if i.op = 24 ∨ i.op = 25 then (2, 2)
  else if i.op = 26 then (2, 1)
  else if i.op = 20 ∨ i.op = 23 then (0, 0)
  else (0, 1)
/-- The labels of an instruction. -/
def TInstr.labs (i : TInstr) : List Int :=
  if i.op = 20 then [i.a] else if i.op = 21 ∨ i.op = 22 then [i.a, i.b] else if i.op = 24 ∨ i.op = 25 ∨ i.op = 26 then [i.b] else []
/-- Where an instruction goes on, and with how many values. -/
def TInstr.nexts (i : TInstr) (at_ d : Int) : List (Int × Int) :=
  if i.op = 19 then []
  else if i.op = 20 then [(i.a, d - i.eff.1 + i.eff.2)]
  else if i.op = 21 ∨ i.op = 22 then [(at_ + 1, d - i.eff.1 + i.eff.2), (i.a, d - i.eff.1 + i.eff.2), (i.b, d - i.eff.1 + i.eff.2 + 1)]
  else if i.op = 24 ∨ i.op = 25 then [(at_ + 1, d - i.eff.1 + i.eff.2), (i.b, d - 1)]
  else if i.op = 26 then [(at_ + 1, d - i.eff.1 + i.eff.2), (i.b, d)]
  else [(at_ + 1, d - i.eff.1 + i.eff.2)]

theorem op_ways (k : Int) : k = 9 ∨ k = 11 ∨ k = 13 ∨ k = 14 ∨ k = 16 ∨ k = 17 ∨ k = 18 ∨ k = 19 ∨ k = 20 ∨ k = 21 ∨ k = 22 ∨ k = 23 ∨ k = 24 ∨ k = 25 ∨ k = 26 ∨ (¬ k = 9 ∧ ¬ k = 11 ∧ ¬ k = 13 ∧ ¬ k = 14 ∧ ¬ k = 16 ∧ ¬ k = 17 ∧ ¬ k = 18 ∧ ¬ k = 19 ∧ ¬ k = 20 ∧ ¬ k = 21 ∧ ¬ k = 22 ∧ ¬ k = 23 ∧ ¬ k = 24 ∧ ¬ k = 25 ∧ ¬ k = 26) := by omega

/-- A selector has at least no arguments. -/
theorem sel_args (l : List UInt8) : isSelL l = decide (0 ≤ nArgsL l) := by
  unfold isSelL nArgsL
  cases isOpL l
  · cases isNameL l
    · cases kwL l <;> simp
    · simp
  · simp
theorem nArgs_ge (l : List UInt8) : -1 ≤ nArgsL l := by
  unfold nArgsL
  split
  · omega
  · split
    · omega
    · split <;> omega
theorem kw_length {l : List UInt8} {ps : List (List UInt8)} (h : kwL l = some ps) : ps.length ≤ 4 := by
  unfold kwL at h
  split at h
  · split at h
    · rename_i h2
      simp only [Bool.and_eq_true, decide_eq_true_eq] at h2
      cases h; exact h2.2
    · cases h
  · cases h
theorem nArgs_le (l : List UInt8) : nArgsL l ≤ 4 := by
  unfold nArgsL
  split
  · omega
  · split
    · omega
    · split
      · rename_i ps h
        have := kw_length h
        omega
      · omega
theorem eff_range (i : TInstr) : -1 ≤ i.eff.1 ∧ i.eff.1 ≤ 5 ∧ 0 ≤ i.eff.2 ∧ i.eff.2 ≤ 2 := by
  have h1 := nArgs_ge i.text.data.toList
  have h2 := nArgs_le i.text.data.toList
  unfold TInstr.eff
  repeat' split
  all_goals (refine ⟨?_, ?_, ?_, ?_⟩ <;> simp <;> omega)

def gd (ds : List Int) (p : Int) : Int := ds.getD p.toNat 0
def opAt (is : List TInstr) (p : Int) : Int := ((is[p.toNat]?).map TInstr.op).getD 0

/-- What is asked of the instructions one by one, ahead of all steps. -/
def preOkI (n : Nat) (i : TInstr) : Bool := inR i.op 1 26 && (!(decide (i.op = 13) || decide (i.op = 14)) || decide (0 ≤ nArgsL i.text.data.toList)) && i.labs.all fun l => inR l 0 ((n : Int) - 1)
def preOk (is : List TInstr) : Bool := is.all (preOkI is.length)

abbrev Dst := List Int × List Nat
def badI (n : Nat) (ds : List Int) (p d : Int) : Bool := !inR p 0 ((n : Int) - 1) || decide (250 < d) || (decide (0 ≤ gd ds p) && !decide (gd ds p = d))
/-- The program's way to mark where an instruction goes on. -/
def pushI (n : Nat) : List (Int × Int) → Dst → Option Dst
  | [], s => some s
  | (p, d) :: r, (ds, q) => if badI n ds p d then none else if gd ds p < 0 then pushI n r (ds.set p.toNat d, q ++ [p.toNat]) else pushI n r (ds, q)
def backI (is : List TInstr) (at_ : Int) (op l : Int) : Bool := !decide (op = 26) && decide (l ≤ at_) && !decide (opAt is l = 23)
def stepI (is : List TInstr) (i : TInstr) (at_ : Nat) (ds : List Int) : Option Dst :=
  if gd ds at_ < i.eff.1 then none
  else if i.labs.any (backI is at_ i.op) then none
  else pushI is.length (i.nexts at_ (gd ds at_)) (ds, [])
def badS (is : List TInstr) (at_ : Int) (op p : Int) : Bool := decide ((is.length : Int) ≤ p) || backI is at_ op p
/-- The reference's way. -/
def pushS (is : List TInstr) (at_ op : Int) : List (Int × Int) → Dst → Option Dst
  | [], s => some s
  | (p, d) :: r, (ds, q) => if badS is at_ op p then none else if gd ds p = -1 then pushS is at_ op r (ds.set p.toNat d, q ++ [p.toNat]) else if gd ds p = d then pushS is at_ op r (ds, q) else none
def stepS (is : List TInstr) (i : TInstr) (at_ : Nat) (ds : List Int) : Option Dst :=
  if gd ds at_ - i.eff.1 < 0 ∨ 250 < gd ds at_ - i.eff.1 + i.eff.2 then none
  else pushS is at_ i.op (i.nexts at_ (gd ds at_)) (ds, [])

/-- The common way: only a mismatch ends it. -/
def pushM : List (Int × Int) → Dst → Option Dst
  | [], s => some s
  | (p, d) :: r, (ds, q) => if gd ds p < 0 then pushM r (ds.set p.toNat d, q ++ [p.toNat]) else if gd ds p = d then pushM r (ds, q) else none
def okP (n : Nat) (x : Int × Int) : Bool := inR x.1 0 ((n : Int) - 1) && decide (x.2 ≤ 250)
theorem pushI_eq (n : Nat) : ∀ (l : List (Int × Int)) (s : Dst), pushI n l s = if l.all (okP n) then pushM l s else none
  | [], s => by simp [pushI, pushM]
  | (p, d) :: r, (ds, q) => by
    have ih := pushI_eq n r
    by_cases hr : inR p 0 ((n : Int) - 1) = true
    · by_cases hd : d ≤ 250
      · have hd' : ¬ 250 < d := by omega
        by_cases hg : gd ds p < 0
        · have hg' : ¬ 0 ≤ gd ds p := by omega
          simp only [pushI, badI, pushM, okP, List.all_cons, hr, hd, hd', hg, hg', ih, decide_true, decide_false, Bool.not_true, Bool.or_false, Bool.false_and, Bool.true_and, if_true, Bool.false_eq_true, if_false]
        · have hg' : 0 ≤ gd ds p := by omega
          by_cases he : gd ds p = d
          · have h1 : ¬ d < 0 := he ▸ hg
            have h2 : 0 ≤ d := he ▸ hg'
            simp only [pushI, badI, pushM, okP, List.all_cons, hr, hd, hd', he, h1, h2, ih, decide_true, decide_false, Bool.not_true, Bool.or_false, Bool.true_and, if_true, Bool.false_eq_true, if_false]
          · simp [pushI, badI, pushM, okP, hr, hd, hd', hg, hg', he]
            exact (ite_self _).symm
      · have hd' : 250 < d := by omega
        simp [pushI, badI, okP, hr, hd, hd']
    · simp [pushI, badI, okP, hr]

/-- All depths lie from -1 to 250. -/
def InvD (ds : List Int) : Prop := ∀ x ∈ ds, -1 ≤ x ∧ x ≤ 250
theorem InvD.gd {ds : List Int} (h : InvD ds) (p : Int) : -1 ≤ gd ds p ∧ gd ds p ≤ 250 := by
  unfold Proofs.YtdeokcbbjibkoaaDoor.gd
  rw [List.getD_eq_getElem?_getD]
  cases hp : ds[p.toNat]? with
  | none => simp
  | some x => exact h x (List.mem_of_getElem? hp)
theorem InvD.set {ds : List Int} (h : InvD ds) {d : Int} (h0 : -1 ≤ d) (h1 : d ≤ 250) (p : Nat) : InvD (ds.set p d) := fun x hx => by
  rcases List.mem_or_eq_of_mem_set hx with hx | rfl
  · exact h x hx
  · exact ⟨h0, h1⟩
theorem pushS_eq (is : List TInstr) (at_ op : Int) : ∀ (l : List (Int × Int)) (s : Dst), InvD s.1 → (∀ x ∈ l, 0 ≤ x.2 ∧ x.2 ≤ 250) → pushS is at_ op l s = if l.all (fun x => !badS is at_ op x.1) then pushM l s else none
  | [], s, _, _ => by simp [pushS, pushM]
  | (p, d) :: r, (ds, q), hI, hl => by
    have ih := pushS_eq is at_ op r
    have hd := hl (p, d) (by simp)
    have hl' : ∀ x ∈ r, 0 ≤ x.2 ∧ x.2 ≤ 250 := fun x hx => hl x (by simp [hx])
    have hg := hI.gd p
    by_cases hb : badS is at_ op p = true
    · simp [pushS, hb]
    · by_cases h1 : gd ds p = -1
      · have h2 : gd ds p < 0 := by omega
        have := ih (ds.set p.toNat d, q ++ [p.toNat]) (hI.set (by omega) hd.2 _) hl'
        simp only [pushS, pushM, List.all_cons, hb, h1, if_true, Bool.false_eq_true, if_false, Bool.not_false, Bool.true_and, this, show ((-1 : Int) < 0) from by omega]
      · have h2 : ¬ gd ds p < 0 := by simp only at hg; omega
        by_cases he : gd ds p = d
        · have h3 : ¬ d < 0 := he ▸ h2
          have h4 : ¬ d = -1 := he ▸ h1
          have := ih (ds, q) hI hl'
          simp only [pushS, pushM, List.all_cons, hb, he, h3, h4, if_true, Bool.false_eq_true, if_false, Bool.not_false, Bool.true_and, this]
        · simp [pushS, pushM, hb, h1, h2, he]
          exact (ite_self _).symm

theorem nexts_le (i : TInstr) (at_ : Nat) (g : Int) (h0 : 0 ≤ g) (h1 : g ≤ 250) (h : 250 < g - i.eff.1 + i.eff.2) (hl : ∀ l : Int, True) : ∃ x ∈ i.nexts at_ g, 250 < x.2 := by
  rcases op_ways i.op with h' | h' | h' | h' | h' | h' | h' | h' | h' | h' | h' | h' | h' | h' | h' | h'
  all_goals first
    | (refine ⟨((at_ : Int) + 1, g - i.eff.1 + i.eff.2), ?_, h⟩; simp [TInstr.nexts, h']; done)
    | (refine ⟨(i.a, g - i.eff.1 + i.eff.2), ?_, h⟩; simp [TInstr.nexts, h']; done)
    | (exfalso; simp [TInstr.eff, h'] at h; omega)
theorem nexts_range (i : TInstr) (at_ : Nat) (g : Int) (h0 : 0 ≤ g) (h1 : g ≤ 250) (ht : ¬ g < i.eff.1) (h : ¬ 250 < g - i.eff.1 + i.eff.2) (hsel : i.op = 14 → 0 ≤ i.eff.1) : ∀ x ∈ i.nexts at_ g, 0 ≤ x.2 ∧ x.2 ≤ 250 := by
  have he := eff_range i
  intro x hx
  rcases op_ways i.op with h' | h' | h' | h' | h' | h' | h' | h' | h' | h' | h' | h' | h' | h' | h' | h'
  all_goals first
      | (simp [TInstr.nexts, h'] at hx; done)
      | skip
  all_goals
    simp [TInstr.nexts, h'] at hx
    try simp [TInstr.eff, h'] at ht h he hsel hx
    first
      | (subst hx; simp; omega)
      | (rcases hx with rfl | rfl <;> simp <;> omega)
      | (rcases hx with rfl | rfl | rfl <;> simp <;> omega)
theorem inR_cut (n : Nat) (l : Int) : inR l 0 ((n : Int) - 1) = (decide (0 ≤ l) && !decide ((n : Int) ≤ l)) := by
  simp only [inR]; rw [Bool.eq_iff_iff]; simp; omega
theorem nexts_key (is : List TInstr) (i : TInstr) (at_ : Nat) (g : Int) (h0 : 0 ≤ g) (h1 : g ≤ 250) (ht : ¬ g < i.eff.1) (h : ¬ 250 < g - i.eff.1 + i.eff.2) (hlab : (i.labs.all fun l => inR l 0 ((is.length : Int) - 1)) = true) :
    (!i.labs.any (backI is at_ i.op) && (i.nexts at_ g).all (okP is.length)) = (i.nexts at_ g).all (fun x => !badS is at_ i.op x.1) := by
  have hb1 : ∀ op, backI is at_ op ((at_ : Int) + 1) = false := fun op => by
    simp only [backI]
    rw [show decide ((at_ : Int) + 1 ≤ at_) = false from decide_eq_false (by omega)]; simp
  have hin1 : inR ((at_ : Int) + 1) 0 ((is.length : Int) - 1) = !decide ((is.length : Int) ≤ (at_ : Int) + 1) := by
    rw [inR_cut, show decide (0 ≤ (at_ : Int) + 1) = true from decide_eq_true (by omega)]; rfl
  have hl2 : ∀ l ∈ i.labs, inR l 0 ((is.length : Int) - 1) = true ∧ decide ((is.length : Int) ≤ l) = false := fun l hl => by
    have := List.all_eq_true.1 hlab l hl
    refine ⟨this, ?_⟩
    simp only [inR, decide_eq_true_eq] at this
    exact decide_eq_false (by omega)
  rcases op_ways i.op with h' | h' | h' | h' | h' | h' | h' | h' | h' | h' | h' | h' | h' | h' | h' | h'
  all_goals
    simp only [TInstr.labs, TInstr.eff, h'] at hl2 ht h
    simp [TInstr.nexts, TInstr.labs, TInstr.eff, h', okP, badS, hb1, hin1]
    try simp at hl2 ht h
  all_goals first
    | (intros; omega)
    | grind

theorem step_eq (is : List TInstr) (i : TInstr) (at_ : Nat) (ds : List Int) (hI : InvD ds) (hp : preOkI is.length i = true) (hg : 0 ≤ gd ds at_) : stepI is i at_ ds = stepS is i at_ ds := by
  have hr := hI.gd at_
  unfold stepI stepS
  by_cases ht : gd ds at_ < i.eff.1
  · rw [if_pos ht, if_pos (by omega)]
  rw [if_neg ht]
  simp only [preOkI, Bool.and_eq_true] at hp
  obtain ⟨⟨hop, hsel⟩, hlab⟩ := hp
  have hsel' : i.op = 14 → 0 ≤ i.eff.1 := fun h => by
    simp [h] at hsel
    simp [TInstr.eff, h]; exact hsel
  rw [pushI_eq]
  by_cases h250 : 250 < gd ds at_ - i.eff.1 + i.eff.2
  · rw [if_pos (Or.inr h250)]
    obtain ⟨x, hx, hx2⟩ := nexts_le i at_ _ hg hr.2 h250 fun _ => trivial
    have hno : (i.nexts at_ (gd ds at_)).all (okP is.length) = false := by
      rw [List.all_eq_false]
      exact ⟨x, hx, by simp [okP]; intro _; omega⟩
    rw [hno]; simp
  · rw [if_neg (c := gd ds at_ - i.eff.1 < 0 ∨ 250 < gd ds at_ - i.eff.1 + i.eff.2) (by omega), pushS_eq _ _ _ _ _ hI (nexts_range i at_ _ hg hr.2 ht h250 hsel')]
    have key := nexts_key is i at_ _ hg hr.2 ht h250 hlab
    by_cases hA : i.labs.any (backI is at_ i.op) = true
    · rw [hA] at key
      rw [if_pos hA, ← key]; rfl
    · rw [if_neg hA]
      rw [Bool.not_eq_true] at hA
      rw [hA] at key
      rw [← key]; rfl

end Go.Proofs.YtdeokcbbjibkoaaDoor
