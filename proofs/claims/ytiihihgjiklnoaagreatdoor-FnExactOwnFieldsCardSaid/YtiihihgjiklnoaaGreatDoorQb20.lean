/- Part 20 of the proof: the texts MkV, CpA, CpB, CpC, CpD. -/
import Derived.Test.YtiihihgjiklnoaaGreatDoorQb14
import Derived.Test.YtiihihgjiklnoaaGreatDoorQb10
import Derived.Test.YtiihihgjiklnoaaGreatDoorQb16
/- An owned code base as it looks to who only reads it. -/
namespace Go.Proofs.YtiihihgjiklnoaaGreatDoor
open Go Go.RowKit
def dJ (objs : aI) (l l' : List TV) : Prop := l'.length = l.length ∧ ∀ (j : Nat) (t t' : TV), l[j]? = some t → l'[j]? = some t' → ci objs t t'
theorem dJ.nil {objs : aI} : dJ objs [] [] := ⟨rfl, by simp⟩
theorem dJ.cons {objs : aI} {t t' : TV} {l l' : List TV} (h : ci objs t t') (hr : dJ objs l l') : dJ objs (t :: l) (t' :: l') := ⟨by simp [hr.1], fun j u u' h1 h2 => by
  cases j with
  | zero => simp at h1 h2; subst h1; subst h2; exact h
  | succ j => exact hr.2 j u u' (by simpa using h1) (by simpa using h2)⟩
theorem dJ.append {objs : aI} {a a' b b' : List TV} (h : dJ objs a a') (k : dJ objs b b') : dJ objs (a ++ b) (a' ++ b') := ⟨by simp [h.1, k.1], fun j u u' h1 h2 => by
  by_cases hj : j < a.length
  · rw [List.getElem?_append_left hj] at h1
    rw [List.getElem?_append_left (by rw [h.1]; exact hj)] at h2
    exact h.2 j u u' h1 h2
  · rw [List.getElem?_append_right (by omega)] at h1
    rw [List.getElem?_append_right (by rw [h.1]; omega)] at h2
    rw [h.1] at h2
    exact k.2 _ u u' h1 h2⟩
theorem r6 {α : Type} {objs : aI} {f : α → List TV} {mk : α → Nat × Nat → List TV} {ob : α → bu} (h : ∀ x p, (p.1, p.2, ob x) ∈ objs → dJ objs (mk x p) (f x)) : ∀ (l : List α) (ps : List (Nat × Nat)), ps.length = l.length → (∀ o ∈ nO ob l ps, o ∈ objs) → dJ objs (nR mk l ps).flatten (l.map f).flatten ∧ (l.map f).map List.length = (nR mk l ps).map List.length
  | [], ps, hl, _ => by simp [nR, dJ]
  | x :: l, [], hl, _ => by simp at hl
  | x :: l, p :: ps, hl, hm => by
    have h1 := h x p (hm _ (by simp [nO]))
    obtain ⟨h2, h3⟩ := r6 h l ps (by simpa using hl) (fun o ho => hm o (by simp only [nO, List.zipWith_cons_cons, List.mem_cons]; exact .inr ho))
    exact ⟨h1.append h2, by
      show (f x).length :: (l.map f).map List.length = (mk x p).length :: (nR mk l ps).map List.length
      rw [h3, h1.1]⟩
theorem qo {α : Type} {objs : aI} {f : α → List TV} {mk : α → Nat × Nat → List TV} {ob : α → bu} {m s b : Nat} (h : ∀ x p, (p.1, p.2, ob x) ∈ objs → dJ objs (mk x p) (f x)) {l : List α} {ps : List (Nat × Nat)} (hl : ps.length = l.length) (hm : (s, b, bu.row m (nR mk l ps)) ∈ objs) (hp : ∀ o ∈ nO ob l ps, o ∈ objs) : ci objs (.ms s b 0 l.length) (.sl 0 m (l.map f)) := by
  obtain ⟨h1, h2⟩ := r6 h l ps hl hp
  have h3 := xw mk hl
  exact .ms s b 0 l.length m _ _ _ hm (by omega) rfl (by rw [List.drop_zero, List.take_of_length_le (by omega)]; exact h2) (by rw [List.drop_zero, List.take_of_length_le (by omega)]; exact h1.2)
theorem vt {objs : aI} (x : aa) (p : Nat × Nat) (h : (p.1, p.2, ko x) ∈ objs) : dJ objs (iN x p) (x.tw 0) := .cons (.same _) (.cons (.same _) (.cons (.msAll h (bf _)) .nil))
theorem aae {objs : aI} (x : ay) (p : Nat × Nat) (h : (p.1, p.2, ks x) ∈ objs) : dJ objs (iQ x p) (x.tw 0) := .cons (.same _) (.cons (.same _) (.cons (.same _) (.cons (.msAll h (by simp)) .nil)))
set_option maxRecDepth 20000
section
variable {G : World → Prop}
end
set_option maxRecDepth 20000
section
variable {G : World → Prop}
end
set_option maxRecDepth 20000
section
variable {G : World → Prop}
end
set_option maxRecDepth 20000
section
variable {G : World → Prop}
end
end Go.Proofs.YtiihihgjiklnoaaGreatDoor
