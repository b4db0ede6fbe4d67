/- Names, operators and selectors as plain functions on lists of bytes, and the laws between them. No program here. -/
import Derived.Test.YtdeokcbbjibkoaaDoorStr
import Derived.Lib.SplitLaws
namespace Go.Proofs.YtdeokcbbjibkoaaDoor
open Go Go.RowKit

def words : List (List UInt8) := [[99, 108, 97, 115, 115], [101, 120, 116, 101, 110, 100, 115], [102, 105, 101, 108, 100, 115], [109, 101, 116, 104, 111, 100], [99, 108, 97, 115, 115, 109, 101, 116, 104, 111, 100], [101, 110, 100], [109, 97, 105, 110]]
def ops : List (List UInt8) := [[47, 47], [92, 92], [60, 61], [62, 61], [61, 61], [126, 61], [126, 126], [43], [45], [42], [60], [62], [61], [44], [38]]
def isWordL (l : List UInt8) : Bool := words.contains l
def isOpL (l : List UInt8) : Bool := ops.contains l
def isNameL (l : List UInt8) : Bool := isPartL l && !isWordL l

/-- A text cut at a byte. -/
def spl (c : UInt8) : List UInt8 → List (List UInt8)
  | [] => [[]]
  | b :: r => if b = c then [] :: spl c r else (b :: (spl c r).headD []) :: (spl c r).tail

/-- The parts of a keyword selector without their colons. -/
def kwL (l : List UInt8) : Option (List (List UInt8)) :=
  if l.getLast? = some 58 then (if (spl 58 l.dropLast).all isPartL && decide ((spl 58 l.dropLast).length ≤ 4) then some (spl 58 l.dropLast) else none) else none
def isSelL (l : List UInt8) : Bool := isOpL l || isNameL l || (kwL l).isSome
def nArgsL (l : List UInt8) : Int := if isOpL l then 1 else if isNameL l then 0 else match kwL l with | some ps => ps.length | none => -1

theorem spl_ne (c : UInt8) (l : List UInt8) : spl c l ≠ [] := by
  cases l with
  | nil => simp [spl]
  | cons b r => simp only [spl]; split <;> simp

theorem spl_pos (c : UInt8) (l : List UInt8) : 0 < (spl c l).length := List.length_pos_iff.2 (spl_ne c l)

theorem spl_snoc (c : UInt8) : ∀ l : List UInt8, spl c (l ++ [c]) = spl c l ++ [[]]
  | [] => by simp [spl]
  | b :: r => by
    have h := spl_snoc c r
    simp only [List.cons_append, spl]
    split
    · rw [h]; rfl
    · rw [h]
      obtain ⟨x, xs, hx⟩ := List.exists_cons_of_ne_nil (spl_ne c r)
      rw [hx]; rfl

theorem spl_last (c : UInt8) : ∀ l : List UInt8, (spl c l).getLast? = some [] → l = [] ∨ l.getLast? = some c
  | [], _ => .inl rfl
  | b :: r, h => by
    simp only [spl] at h
    refine .inr ?_
    obtain ⟨x, xs, hx⟩ := List.exists_cons_of_ne_nil (spl_ne c r)
    split at h
    · rename_i hb
      subst hb
      rw [hx, List.getLast?_cons_cons, ← hx] at h
      rcases spl_last b r h with h1 | h1
      · subst h1; rfl
      · cases r with
        | nil => simp at h1
        | cons a t => rw [List.getLast?_cons_cons]; exact h1
    · rw [hx] at h
      cases xs with
      | nil => simp at h
      | cons y ys =>
        simp only [List.headD_cons, List.tail_cons, List.getLast?_cons_cons] at h
        have h2 : (spl c r).getLast? = some [] := by rw [hx, List.getLast?_cons_cons]; exact h
        rcases spl_last c r h2 with h1 | h1
        · subst h1; simp [spl] at hx
        · cases r with
          | nil => simp at h1
          | cons a t => rw [List.getLast?_cons_cons]; exact h1

theorem spl_no (c : UInt8) : ∀ l : List UInt8, c ∉ l → spl c l = [l]
  | [], _ => rfl
  | b :: r, h => by
    simp only [List.mem_cons, not_or] at h
    rw [spl, if_neg (fun e => h.1 e.symm), spl_no c r h.2]; rfl

theorem spl_one (c : UInt8) : ∀ l : List UInt8, (spl c l).length = 1 → spl c l = [l]
  | [], _ => rfl
  | b :: r, h => by
    have hp := spl_pos c r
    simp only [spl] at h ⊢
    split
    · rename_i hb; rw [if_pos hb] at h; simp only [List.length_cons] at h; omega
    · rename_i hb
      rw [if_neg hb] at h
      simp only [List.length_cons, List.length_tail] at h
      rw [spl_one c r (by omega)]; rfl

theorem spl_size (c : UInt8) : ∀ (l p : List UInt8), p ∈ spl c l → p.length ≤ l.length
  | [], p, h => by simp [spl] at h; subst h; simp
  | b :: r, p, h => by
    simp only [spl] at h
    obtain ⟨x, xs, hx⟩ := List.exists_cons_of_ne_nil (spl_ne c r)
    split at h
    · rcases List.mem_cons.1 h with rfl | h
      · simp
      · have := spl_size c r p h; simp only [List.length_cons]; omega
    · rw [hx] at h
      simp only [List.headD_cons, List.tail_cons] at h
      rcases List.mem_cons.1 h with rfl | h
      · have := spl_size c r x (by rw [hx]; simp); simp only [List.length_cons]; omega
      · have := spl_size c r p (by rw [hx]; simp [h]); simp only [List.length_cons]; omega

theorem spl_length (c : UInt8) : ∀ l : List UInt8, (spl c l).length ≤ l.length + 1
  | [] => by simp [spl]
  | b :: r => by
    have := spl_length c r
    have hp := spl_pos c r
    simp only [spl]
    split
    · simp only [List.length_cons]; omega
    · simp only [List.length_cons, List.length_tail]; omega

/-- A first part put ahead of a cut text. -/
def glue (pre : List UInt8) (ps : List (List UInt8)) : List (List UInt8) := (pre ++ ps.headD []) :: ps.tail
theorem glue_nil (c : UInt8) (l : List UInt8) : glue [] (spl c l) = spl c l := by
  obtain ⟨x, xs, hx⟩ := List.exists_cons_of_ne_nil (spl_ne c l)
  rw [hx]; rfl
theorem glue_hit (c : UInt8) (pre r : List UInt8) : glue pre (spl c (c :: r)) = pre :: spl c r := by simp [spl, glue]
theorem glue_miss (b c : UInt8) (pre r : List UInt8) (h : b ≠ c) : glue pre (spl c (b :: r)) = glue (pre ++ [b]) (spl c r) := by simp [spl, glue, h]

/-- The library's cut at one byte. -/
theorem index_cons_eq (c : UInt8) (r : List UInt8) : Lib.index (c :: r) [c] = 0 := by
  simp [Lib.index]
theorem index_cons_ne (b c : UInt8) (r : List UInt8) (h : b ≠ c) : Lib.index (b :: r) [c] = if Lib.index r [c] = -1 then -1 else Lib.index r [c] + 1 := by
  simp [Lib.index, Ne.symm h]
theorem split_spl (c : UInt8) : ∀ (l : List UInt8), Lib.splitK [c] 0 (l.count c) l = spl c l
  | [] => rfl
  | b :: r => by
    have ih := split_spl c r
    by_cases hb : b = c
    · subst hb
      rw [List.count_cons_self, Lib.splitK, index_cons_eq, if_neg (by decide)]
      simp only [spl, if_true]
      simpa using ih
    · rw [List.count_cons_of_ne hb, spl, if_neg hb, ← ih]
      generalize hk : r.count c = k
      cases k with
      | zero => rfl
      | succ k =>
        have hge := Lib.index_ge r [c]
        have hin : Lib.index r [c] ≠ -1 := by
          intro h0
          have := Lib.count_one c r
          rw [Lib.count_miss h0, hk] at this
          omega
        rw [Lib.splitK, Lib.splitK, index_cons_ne b c r hb, if_neg hin]
        have e1 : (Lib.index r [c] + 1 == -1) = false := by rw [beq_eq_false_iff_ne]; omega
        have e2 : (Lib.index r [c] == -1) = false := by rw [beq_eq_false_iff_ne]; exact hin
        rw [e1, e2]
        obtain ⟨i, hi⟩ := Int.eq_ofNat_of_zero_le (show 0 ≤ Lib.index r [c] by omega)
        rw [hi]
        have e3 : ((i : Int) + 1).toNat = i + 1 := by omega
        simp [e3]

/-- How the reference reads a selector. -/
def specSel (l : List UInt8) : Bool :=
  if isOpL l then true else
  if 1 < (spl 58 l).length then (if (spl 58 l).getLast? = some [] then (spl 58 l).dropLast.all isPartL && decide ((spl 58 l).length - 1 ≤ 4) else false)
  else isPartL l && !isWordL l

theorem lod_colon : lod 58 = false := by decide
theorem part_no_colon (l : List UInt8) (h : isPartL l = true) : (58 : UInt8) ∉ l := by
  intro hm
  cases l with
  | nil => simp at hm
  | cons b r =>
    simp only [isPartL, Bool.and_eq_true, List.all_eq_true] at h
    rcases List.mem_cons.1 hm with e | e
    · subst e
      have : letter 58 = true := h.1.2
      exact absurd this (by decide)
    · have := h.2 58 e
      rw [lod_colon] at this
      cases this

theorem specSel_eq (l : List UInt8) : specSel l = isSelL l := by
  unfold specSel isSelL
  by_cases ho : isOpL l = true
  · rw [if_pos ho, ho]; rfl
  · rw [if_neg ho, Bool.eq_false_iff.2 ho, Bool.false_or]
    by_cases hn : 1 < (spl 58 l).length
    · rw [if_pos hn]
      have hno : isNameL l = false := by
        rw [Bool.eq_false_iff]
        intro h
        simp only [isNameL, Bool.and_eq_true] at h
        have := spl_no 58 l (part_no_colon l h.1)
        rw [this] at hn
        simp at hn
      rw [hno, Bool.false_or]
      by_cases hl : l.getLast? = some 58
      · obtain ⟨m, rfl⟩ := List.getLast?_eq_some_iff.1 hl
        simp only [spl_snoc, List.getLast?_append, List.getLast?_singleton, Option.some_or, if_true, List.dropLast_concat, List.length_append, List.length_singleton, Nat.add_sub_cancel]
        simp only [kwL, List.getLast?_append, List.getLast?_singleton, Option.some_or, if_true, List.dropLast_concat]
        split
        · rename_i h; rw [h]; rfl
        · rename_i h; rw [Bool.eq_false_iff.2 h]; rfl
      · have h2 : ¬ (spl 58 l).getLast? = some [] := by
          intro h
          rcases spl_last 58 l h with h1 | h1
          · subst h1; simp [spl] at hn
          · exact hl h1
        rw [if_neg h2]
        simp [kwL, hl]
    · rw [if_neg hn]
      have hone := spl_one 58 l (by have := spl_pos 58 l; omega)
      have hk : kwL l = none := by
        unfold kwL
        by_cases hl : l.getLast? = some 58
        · obtain ⟨m, rfl⟩ := List.getLast?_eq_some_iff.1 hl
          rw [spl_snoc] at hn
          have := spl_pos 58 m
          simp at hn
          exact absurd hn (spl_ne 58 m)
        · rw [if_neg hl]
      rw [hk]
      simp [isNameL]

/-- How the reference counts the arguments. -/
def specArgs (l : List UInt8) : Int := if specSel l then (if isOpL l then 1 else ((spl 58 l).length : Int) - 1) else -1
theorem specArgs_eq (l : List UInt8) : specArgs l = nArgsL l := by
  unfold specArgs nArgsL
  rw [specSel_eq]
  by_cases ho : isOpL l = true
  · simp [isSelL, ho]
  · rw [Bool.eq_false_iff.2 ho]
    by_cases hn : isNameL l = true
    · have := spl_no 58 l (part_no_colon l (by simp only [isNameL, Bool.and_eq_true] at hn; exact hn.1))
      simp [isSelL, hn, this]
    · rw [Bool.eq_false_iff.2 hn]
      cases hk : kwL l with
      | none => simp [isSelL, Bool.eq_false_iff.2 ho, Bool.eq_false_iff.2 hn, hk]
      | some ps =>
        simp only [isSelL, Bool.eq_false_iff.2 ho, Bool.eq_false_iff.2 hn, hk, Option.isSome_some, Bool.or_true, if_true, Bool.false_eq_true, if_false]
        unfold kwL at hk
        by_cases hl : l.getLast? = some 58
        · obtain ⟨m, rfl⟩ := List.getLast?_eq_some_iff.1 hl
          rw [if_pos hl, List.dropLast_concat] at hk
          split at hk
          · simp only [Option.some.injEq] at hk
            subst hk
            rw [spl_snoc]; simp
          · cases hk
        · rw [if_neg hl] at hk; cases hk
end Go.Proofs.YtdeokcbbjibkoaaDoor
