/- The whole way of the depths as a plain function: the program's steps and the reference's, one behind the other, and that both come to one result. No program here. -/
import Derived.Test.YtdeokcbbjibkoaaDoorDepP
namespace Go.Proofs.YtdeokcbbjibkoaaDoor
open Go Go.RowKit

/-- What holds between two steps: the depths known so far, what is still to do, and how many steps at most are still to come. -/
structure DSt (n : Nat) (ds : List Int) (q : List Nat) (k : Nat) : Prop where
  len : ds.length = n
  inv : InvD ds
  ok : ∀ p ∈ q, p < n ∧ 0 ≤ gd ds p
  mu : q.length + ds.countP (· < 0) ≤ k
theorem gd_set {ds : List Int} {p : Int} (hp : p.toNat < ds.length) (d : Int) (x : Nat) : gd (ds.set p.toNat d) (x : Int) = if p.toNat = x then d else gd ds x := by
  unfold gd
  simp only [Int.toNat_natCast, List.getD_eq_getElem?_getD, List.getElem?_set]
  split
  · rename_i h; subst h; simp [hp]
  · rfl
theorem gd_get {ds : List Int} {p : Nat} (hp : p < ds.length) : gd ds (p : Int) = ds[p] := by
  unfold gd; simp [hp]
theorem DSt.push {n : Nat} {ds : List Int} {q : List Nat} {k : Nat} (h : DSt n ds q k) {p d : Int} (hp : inR p 0 ((n : Int) - 1) = true) (h0 : 0 ≤ d) (h1 : d ≤ 250) (hg : gd ds p < 0) : DSt n (ds.set p.toNat d) (q ++ [p.toNat]) k := by
  simp only [inR, decide_eq_true_eq] at hp
  have hl := h.len
  have hpl : p.toNat < ds.length := by omega
  refine ⟨by simp [hl], h.inv.set (by omega) h1 _, fun x hx => ?_, ?_⟩
  · rw [gd_set hpl]
    rcases List.mem_append.1 hx with hx | hx
    · refine ⟨(h.ok x hx).1, ?_⟩
      split
      · exact h0
      · exact (h.ok x hx).2
    · simp at hx; subst hx
      exact ⟨by omega, by rw [if_pos rfl]; exact h0⟩
  · have hn : ds[p.toNat] < 0 := by
      have := gd_get hpl
      have hpp : ((p.toNat : Nat) : Int) = p := by omega
      rw [hpp] at this; omega
    have hc := List.countP_set (p := fun x : Int => decide (x < 0)) (l := ds) (a := d) hpl
    have hpos : 0 < ds.countP (fun x : Int => decide (x < 0)) := List.countP_pos_iff.2 ⟨_, List.getElem_mem hpl, by simpa using hn⟩
    have hm := h.mu
    simp only [hn, decide_true, if_true, show decide (d < 0) = false from decide_eq_false (by omega), Bool.false_eq_true, if_false] at hc
    rw [List.length_append, List.length_singleton, hc]
    omega
theorem DSt.pop {n : Nat} {ds : List Int} {p : Nat} {q : List Nat} {k : Nat} (h : DSt n ds (p :: q) k) : ∃ j, k = j + 1 ∧ DSt n ds q j ∧ p < n ∧ 0 ≤ gd ds p := by
  have hm := h.mu
  rw [List.length_cons] at hm
  exact ⟨k - 1, by omega, ⟨h.len, h.inv, fun x hx => h.ok x (by simp [hx]), by omega⟩, h.ok p (by simp)⟩

/-- The way from a state on, of at most so many steps. -/
def flow (is : List TInstr) (step : TInstr → Nat → List Int → Option Dst) : Nat → List Int → List Nat → Option (List Int)
  | _, ds, [] => some ds
  | 0, _, _ :: _ => none
  | f + 1, ds, p :: q => match is[p]? with
    | none => none
    | some i => match step i p ds with
      | none => none
      | some (ds', new) => flow is step f ds' (q ++ new)
theorem flow_cons (is : List TInstr) (step : TInstr → Nat → List Int → Option Dst) (f : Nat) (ds : List Int) {p : Nat} (q : List Nat) (hp : p < is.length) : flow is step (f + 1) ds (p :: q) = match step is[p] p ds with
      | none => none
      | some (ds', new) => flow is step f ds' (q ++ new) := by
  simp only [flow, List.getElem?_eq_getElem hp]

theorem nexts_nonneg (i : TInstr) (at_ : Nat) (g : Int) (h0 : 0 ≤ g) (ht : ¬ g < i.eff.1) (hsel : i.op = 14 → 0 ≤ i.eff.1) : ∀ x ∈ i.nexts at_ g, 0 ≤ x.2 := by
  have he := eff_range i
  intro x hx
  rcases op_ways i.op with h' | h' | h' | h' | h' | h' | h' | h' | h' | h' | h' | h' | h' | h' | h' | h'
  all_goals first
      | (simp [TInstr.nexts, h'] at hx; done)
      | skip
  all_goals
    simp [TInstr.nexts, h'] at hx
    try simp [TInstr.eff, h'] at ht he hsel hx
    first
      | (subst hx; simp; omega)
      | (rcases hx with rfl | rfl <;> simp <;> omega)
      | (rcases hx with rfl | rfl | rfl <;> simp <;> omega)

/-- What a push leaves of a state. -/
theorem pushI_st {n k : Nat} : ∀ (l : List (Int × Int)) (ds : List Int) (q0 new : List Nat) (s : Dst), (∀ x ∈ l, 0 ≤ x.2) → DSt n ds (q0 ++ new) k → pushI n l (ds, new) = some s → DSt n s.1 (q0 ++ s.2) k
  | [], ds, q0, new, s, _, h, e => by simp only [pushI, Option.some.injEq] at e; subst e; exact h
  | (p, d) :: r, ds, q0, new, s, hl, h, e => by
    have h0 := hl (p, d) (by simp)
    have hr : ∀ x ∈ r, 0 ≤ x.2 := fun x hx => hl x (by simp [hx])
    simp only [pushI] at e
    by_cases hb : badI n ds p d = true
    · rw [if_pos hb] at e; cases e
    · rw [if_neg hb] at e
      simp only [badI, Bool.or_eq_true, not_or, Bool.not_eq_true, Bool.not_eq_false', decide_eq_false_iff_not] at hb
      by_cases hg : gd ds p < 0
      · rw [if_pos hg] at e
        exact pushI_st r _ q0 _ s hr (by rw [← List.append_assoc]; exact h.push hb.1.1 h0 (by omega) hg) e
      · rw [if_neg hg] at e
        exact pushI_st r _ q0 _ s hr h e

theorem flow_eq (is : List TInstr) (hp : preOk is = true) : ∀ (f : Nat) (ds : List Int) (q : List Nat), DSt is.length ds q f → flow is (stepI is) f ds q = flow is (stepS is) f ds q
  | _, _, [], _ => by simp [flow]
  | 0, _, _ :: _, _ => by simp [flow]
  | f + 1, ds, p :: q, h => by
    obtain ⟨j, hj, hst, hpl, hg⟩ := h.pop
    obtain rfl : f = j := by omega
    rw [flow_cons _ _ _ _ _ hpl, flow_cons _ _ _ _ _ hpl]
    have hpi : preOkI is.length is[p] = true := List.all_eq_true.1 hp _ (List.getElem_mem _)
    have hse := step_eq is is[p] p ds h.inv hpi hg
    rw [← hse]
    cases hs : stepI is is[p] p ds with
    | none => rfl
    | some s =>
      have hsel : is[p].op = 14 → 0 ≤ is[p].eff.1 := fun h14 => by
        simp only [preOkI, Bool.and_eq_true] at hpi
        have := hpi.1.2
        simp [h14] at this
        simp [TInstr.eff, h14]; exact this
      unfold stepI at hs
      by_cases ht : gd ds p < is[p].eff.1
      · rw [if_pos ht] at hs; cases hs
      · rw [if_neg ht] at hs
        by_cases hA : (is[p].labs.any (backI is p is[p].op)) = true
        · rw [if_pos hA] at hs; cases hs
        · rw [if_neg hA] at hs
          have hst' := pushI_st _ ds q [] s (nexts_nonneg _ p _ hg ht hsel) (by rw [List.append_nil]; exact hst) hs
          exact flow_eq is hp f s.1 (q ++ s.2) hst'

/-- The depths of the stack before each instruction, where the code is right. -/
def depthsL (is : List TInstr) : Option (List Int) :=
  if is.length = 0 then none else if preOk is then flow is (stepI is) is.length (0 :: List.replicate (is.length - 1) (-1)) [0] else none
theorem start_st {n : Nat} (hn : 1 ≤ n) : DSt n (0 :: List.replicate (n - 1) (-1)) [0] n := by
  refine ⟨by simp; omega, fun x hx => ?_, fun p hp => ?_, ?_⟩
  · rcases List.mem_cons.1 hx with rfl | hx
    · omega
    · rw [List.eq_of_mem_replicate hx]; omega
  · simp at hp; subst hp; exact ⟨by omega, by simp [gd]⟩
  · simp [List.countP_replicate]; omega
end Go.Proofs.YtdeokcbbjibkoaaDoor
