/- Both ways of sorting give one list: the numbers in order. No program here. -/
import Derived.Test.YtoflhemcjmhmkaaSort
namespace Go.Proofs.Ytoflhemcjmhmkaa
open Go Go.RowKit

theorem sorted_perm (zs : List Int) : (sorted zs).Perm zs := List.mergeSort_perm _ _
theorem sorted_pair (zs : List Int) : (sorted zs).Pairwise (· ≤ ·) := by
  have h := List.pairwise_mergeSort (le := fun x y : Int => decide (x ≤ y)) (fun a b c h1 h2 => by simp at *; omega) (fun a b => by simp; omega) zs
  exact h.imp fun h => by simpa using h

theorem insPos_spec (x : Int) (l : List Int) (hl : l.Pairwise (· ≤ ·)) : ∀ k, k ≤ l.length → (∀ j (h : j < l.length), k ≤ j → x < l[j]) →
    (∀ j (h : j < l.length), j < insPos x l k → l[j] ≤ x) ∧ (∀ j (h : j < l.length), insPos x l k ≤ j → x < l[j])
  | 0, _, hg => ⟨fun j _ h => by simp [insPos] at h, fun j h _ => hg j h (Nat.zero_le _)⟩
  | k + 1, hk, hg => by
    have hd : l.getD k 0 = l[k] := by simp [List.getD, List.getElem?_eq_getElem (show k < l.length by omega)]
    unfold insPos
    rw [hd]
    split
    · rename_i h
      exact insPos_spec x l hl k (by omega) fun j hj hkj => by
        rcases Nat.eq_or_lt_of_le hkj with e | e
        · subst e; exact h
        · exact hg j hj e
    · rename_i h
      refine ⟨fun j hj hjk => ?_, fun j hj hkj => hg j hj hkj⟩
      rcases Nat.eq_or_lt_of_le (Nat.le_of_lt_succ hjk) with e | e
      · subst e; omega
      · have := List.pairwise_iff_getElem.1 hl j k hj (by omega) e
        omega

theorem insAt_pair (x : Int) (l : List Int) (hl : l.Pairwise (· ≤ ·)) : (insAt x l).Pairwise (· ≤ ·) := by
  obtain ⟨h1, h2⟩ := insPos_spec x l hl l.length (Nat.le_refl _) (fun j h hj => absurd h (by omega))
  have hp := insPos_le x l l.length
  unfold insAt
  generalize insPos x l l.length = p at *
  refine List.pairwise_append.2 ⟨hl.sublist (List.take_sublist _ _), List.pairwise_cons.2 ⟨fun b hb => ?_, hl.sublist (List.drop_sublist _ _)⟩, fun a ha b hb => ?_⟩
  · obtain ⟨j, hj, rfl⟩ := List.getElem_of_mem hb
    rw [List.getElem_drop]
    exact Int.le_of_lt (h2 _ (by simp at hj; omega) (by omega))
  · obtain ⟨i, hi, rfl⟩ := List.getElem_of_mem ha
    have hi' : i < p := by simp at hi; omega
    rw [List.getElem_take]
    have ha' := h1 i (by simp at hi; omega) hi'
    rcases List.mem_cons.1 hb with rfl | hb
    · exact ha'
    · obtain ⟨j, hj, rfl⟩ := List.getElem_of_mem hb
      rw [List.getElem_drop]
      have := h2 (p + j) (by simp at hj; omega) (by omega)
      omega
theorem insAt_perm (x : Int) (l : List Int) : (insAt x l).Perm (x :: l) := by
  unfold insAt
  exact (List.perm_middle).trans (by rw [List.take_append_drop])

theorem insSort_go : ∀ (zs acc : List Int), acc.Pairwise (· ≤ ·) → (zs.foldl (fun acc x => insAt x acc) acc).Pairwise (· ≤ ·) ∧ (zs.foldl (fun acc x => insAt x acc) acc).Perm (acc ++ zs)
  | [], acc, h => ⟨h, by simp⟩
  | z :: r, acc, h => by
    obtain ⟨h1, h2⟩ := insSort_go r (insAt z acc) (insAt_pair z acc h)
    refine ⟨h1, h2.trans ?_⟩
    exact ((insAt_perm z acc).append_right r).trans ((List.perm_middle (l₁ := acc)).symm)

theorem insSort_eq (zs : List Int) : insSort zs = sorted zs := by
  obtain ⟨h1, h2⟩ := insSort_go zs [] List.Pairwise.nil
  rw [List.nil_append] at h2
  exact (h2.trans (sorted_perm zs).symm).eq_of_pairwise (fun a b _ _ h3 h4 => Int.le_antisymm h3 h4) h1 (sorted_pair zs)

end Go.Proofs.Ytoflhemcjmhmkaa
