/- Part 44 of the proof: the texts ImP0, FrP. -/
import Derived.Test.YtiihihgjiklnoaaGreatDoorQb28
import Derived.Test.YtiihihgjiklnoaaGreatDoorQb40
import Derived.Test.YtiihihgjiklnoaaGreatDoorQb32
/- IsImage: the whole predicate. -/
namespace Go.Proofs.YtiihihgjiklnoaaGreatDoor
open Go Go.RowKit
structure abO (m : ak) : Prop where
  ver : cV m.base = true
  same : m.base.classes = m.store.classes
  store : j7 m.store m.blocks.length = true
  made : (m.store.objects.length : Int) + m.blocks.length ≤ m.store.made
  status : inR m.status 0 5 = true
  procs : inR m.processes.length 1 20 = true
  now : inR m.now 0 ((m.processes.length : Int) - 1) = true
  value : tj m m.value
  fault : fe m.fault = true
  outs : ∀ o, ew m.base.codes = some o → abk m o
  ats : ∀ p ∈ m.processes, inR p.at_ (-1) ((m.contexts.length : Int) - 1) = true
  live : rK m (mS m ++ m.ready ++ sU m)
  exc : ∀ o ∈ m.store.objects, vi m o
open Classical in
noncomputable def dk (m : ak) : Bool := decide (abO m)
open Classical in
theorem xq {m : ak} (h : ¬ abO m) : dk m = false := decide_eq_false h
open Classical in
theorem xe {m : ak} (h : abO m) : dk m = true := decide_eq_true h
theorem lm {st : aM} {nb : Int} (h : j7 st nb = true) : bP st.classes = true ∧ st.objects.length ≤ 800 ∧ ∀ o ∈ st.objects, o.kind = 3 → 1 ≤ o.numbers.length := by
  unfold j7 at h
  simp only [Bool.and_eq_true] at h
  obtain ⟨h1, h2, _, _, _, _, h7⟩ := h
  have h2 := of_decide_eq_true h2
  refine ⟨h1, by omega, fun o ho h3 => ?_⟩
  have h8 := List.all_eq_true.1 h7 o ho
  unfold fE at h8
  simp only [Bool.and_eq_true] at h8
  have h9 := h8.2
  rw [if_neg (by omega), if_neg (by omega), if_pos h3] at h9
  exact (of_decide_eq_true h9).2.2.1
open Classical in
theorem fI {x : aA} (h : cV x = true) : 1 ≤ x.codes.length ∧ ∃ o, ew x.codes = some o ∧ o.length = x.codes.length := by
  have hp : eb x := of_decide_eq_true h
  obtain ⟨o, ho, _⟩ := hp.2.2.2.2
  have h1 := of_decide_eq_true hp.2.2.1.1
  exact ⟨by omega, o, ho, (js ho).1.1⟩
def frF (m : ak) : Nat → Int → List Int
  | 0, _ => []
  | n + 1, k => match cxA m k with
    | some c => (if c.mark = 0 then [k] else []) ++ frF m n c.sender
    | none => []
def dc (m : ak) (k : Int) : List Int := frF m (k + 1).toNat k
theorem acg {m : ak} (hs : fz m) (n : Nat) : ∀ k : Int, (k + 1).toNat ≤ n → frF m n k = frF m (k + 1).toNat k := by
  induction n using Nat.strongRecOn with
  | _ n ih =>
    intro k hk
    generalize hj : (k + 1).toNat = j at hk ⊢
    cases j with
    | zero =>
      cases n with
      | zero => rfl
      | succ n => simp only [frF, xm (m := m) (k := k) (by omega)]
    | succ j =>
      obtain ⟨q, rfl⟩ : ∃ q, n = q + 1 := ⟨n - 1, by omega⟩
      simp only [frF]
      cases hc : cxA m k with
      | none => rfl
      | some c =>
        obtain ⟨h0, hl, he⟩ := lE hc
        have h1 := hs k.toNat hl
        rw [he] at h1
        dsimp only
        rw [ih q (by omega) c.sender (by omega), ih j (by omega) c.sender (by omega)]
theorem np {m : ak} {k : Int} (h : k < 0) : dc m k = [] := by
  unfold dc
  rw [show (k + 1).toNat = 0 by omega]; rfl
theorem kP {m : ak} (hs : fz m) {k : Nat} (h : k < m.contexts.length) : dc m k = (if m.contexts[k].mark = 0 then [(k : Int)] else []) ++ dc m m.contexts[k].sender := by
  have h1 := hs k h
  unfold dc
  rw [show ((k : Int) + 1).toNat = k + 1 by omega]
  simp only [frF, jn h]
  rw [acg hs k _ (by omega)]
theorem jc (m : ak) (k : Int) : (dc m k).length ≤ (k + 1).toNat := by
  have h : ∀ (n : Nat) (k : Int), (frF m n k).length ≤ n := by
    intro n
    induction n with
    | zero => intro k; simp [frF]
    | succ n ih =>
      intro k
      simp only [frF]
      cases cxA m k with
      | none => simp
      | some c =>
        have := ih c.sender
        dsimp only
        split <;> simp <;> omega
  exact h _ _
def atN (m : ak) : Int := match m.processes[m.now.toNat]? with | some p => p.at_ | none => -1
noncomputable def d7 (m : ak) : List Int := if dk m = true ∧ m.status = 0 then dc m (atN m) else []
open Classical in
theorem pz {m : ak} (h : dk m = true) : fz m ∧ ∃ (n : Nat) (p : ar), m.now = n ∧ n < m.processes.length ∧ m.processes[n]? = some p ∧ atN m = p.at_ ∧ -1 ≤ p.at_ ∧ p.at_ < m.contexts.length := by
  have hi : abO m := of_decide_eq_true h
  obtain ⟨_, o, ho, _⟩ := fI hi.ver
  refine ⟨nu (hi.outs o ho).1, ?_⟩
  have h1 : 0 ≤ m.now ∧ m.now ≤ (m.processes.length : Int) - 1 := of_decide_eq_true hi.now
  obtain ⟨n, hn⟩ : ∃ n : Nat, m.now = n := ⟨m.now.toNat, by omega⟩
  have hl : n < m.processes.length := by omega
  have h2 : -1 ≤ m.processes[n].at_ ∧ m.processes[n].at_ ≤ (m.contexts.length : Int) - 1 := of_decide_eq_true (hi.ats _ (List.getElem_mem hl))
  refine ⟨n, m.processes[n], hn, hl, List.getElem?_eq_getElem hl, ?_, by omega, by omega⟩
  unfold atN
  rw [hn, Int.toNat_natCast, List.getElem?_eq_getElem hl]
theorem p8 {m : ak} (hx : m.small 1048576) : (d7 m).length ≤ 1048576 := by
  unfold d7
  split
  · rename_i h
    obtain ⟨_, n, p, _, _, _, h1, _, h2⟩ := pz h.1
    have h3 := jc m (atN m)
    have h4 := hx.2.2.2.1.1
    rw [h1] at h3 ⊢
    omega
  · simp
end Go.Proofs.YtiihihgjiklnoaaGreatDoor
