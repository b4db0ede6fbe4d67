/- What the reference's way of the depths keeps of memory: plain lemmas, no walk. -/
import Derived.Test.YtdeokcbbjibkoaaDoorDepF
import Derived.Test.YtdeokcbbjibkoaaDoorInts
namespace Go.Proofs.YtdeokcbbjibkoaaDoor
open Go Go.RowKit

/-- The depths' block. -/
def dArr (ds : List Int) : Array Value := (ds.map (Value.int .i64)).toArray
theorem dArr_set (ds : List Int) (p : Nat) (d : Int) : (dArr ds).setIfInBounds p (.int .i64 d) = dArr (ds.set p d) := by
  unfold dArr
  rw [List.setIfInBounds_toArray, List.map_set]
def nts (q : List Nat) : List Int := q.map Int.ofNat
theorem nts_append (a b : List Nat) : nts (a ++ b) = nts a ++ nts b := by simp [nts]
/-- A filled block is known whole. -/
theorem Fill.blk {w : World} {g : Nat} {e : TypeId} {xs : List Value} (h : Fill w g e xs.length xs) : Blk w g e xs.toArray := by
  obtain ⟨cur, h1, h2, _, h4⟩ := h
  have : cur = xs.toArray := by
    rw [List.take_of_length_le (by simp [h2])] at h4
    rw [← h4]
  rw [← this]; exact h1
def instrC (x : TInstr) : Array Value := #[.int .i64 x.op, .int .i64 x.a, .int .i64 x.b, .string x.text]
/-- The world between two rounds of the inner loop. -/
structure DepIn (w wi : World) (g B B2 gb : Nat) (x : TInstr) (L : List (Int × Int)) (A13 : Option Addr) (c13 : Nat) (A14 : Option Addr) (c14 : Nat) (r14 : List Int) (ds : List Int) (tl : List Nat) (A : Option Addr) (c : Nat) : Prop where
  own : Owned wi (fun b => g < b ∧ (b < B ∨ B2 ≤ b)) (.sl A c 1 (ints (nts tl)))
  dep : Blk wi g 3 (dArr ds)
  s13 : Seen wi (Rng B B2) (.sl A13 c13 1 (ints (L.map Prod.fst)))
  s14 : Seen wi (Rng B B2) (.sl A14 c14 1 (ints (L.map Prod.snd ++ r14)))
  box : Blk wi gb 46 (instrC x)
  old : Below w.heap.size w wi
  sz : B2 ≤ wi.heap.size
  hg : g < B
  hg0 : w.heap.size ≤ g
  hB : B ≤ B2
  hgb : B ≤ gb
  hgb2 : gb < B2
section
variable {w wi : World} {g B B2 gb : Nat} {x : TInstr} {L : List (Int × Int)} {A13 : Option Addr} {c13 : Nat} {A14 : Option Addr} {c14 : Nat} {r14 : List Int} {ds : List Int} {tl : List Nat} {A : Option Addr} {c : Nat}
theorem DepIn.set (h : DepIn w wi g B B2 gb x L A13 c13 A14 c14 r14 ds tl A c) (p : Nat) (d : Int) : DepIn w (wi.setCell ⟨g, p, none⟩ (.int .i64 d)) g B B2 gb x L A13 c13 A14 c14 r14 (ds.set p d) tl A c :=
  ⟨h.own.far (p := ⟨g, p, none⟩) (fun hh => by have := hh.1; simp at this) _, by rw [← dArr_set]; exact h.dep.set_ p _,
   h.s13.keep (fun b hb => Below.heap_setCell _ _ _ _ (by have := hb.1; have := h.hg; simp only; omega)) (fun _ hb _ => hb),
   h.s14.keep (fun b hb => Below.heap_setCell _ _ _ _ (by have := hb.1; have := h.hg; simp only; omega)) (fun _ hb _ => hb),
   h.box.far (p := ⟨g, p, none⟩) (by have := h.hg; have := h.hgb; simp only; omega) _, h.old.setCell h.hg0 _, by have := h.sz; simpa [World.setCell] using this, h.hg, h.hg0, h.hB, h.hgb, h.hgb2⟩
theorem DepIn.drewN (h : DepIn w wi g B B2 gb x L A13 c13 A14 c14 r14 ds tl A c) (n : Nat) : DepIn w (wi.drewN n) g B B2 gb x L A13 c13 A14 c14 r14 ds tl A c :=
  ⟨h.own.keep fun _ _ _ => rfl, h.dep, h.s13.keep (fun _ _ => rfl) fun _ hb _ => hb, h.s14.keep (fun _ _ => rfl) fun _ hb _ => hb, h.box, below_drewN h.old n, h.sz, h.hg, h.hg0, h.hB, h.hgb, h.hgb2⟩
theorem DepIn.push (h : DepIn w wi g B B2 gb x L A13 c13 A14 c14 r14 ds tl A c) {w2 : World} {A' : Option Addr} {c' p : Nat} (ho : Owned w2 (fun b => g < b ∧ (b < B ∨ B2 ≤ b)) (.sl A' c' 1 (ints (nts tl ++ [(p : Int)])))) (ht : Touch (· ∈ PT.rowOf A) wi w2) : DepIn w w2 g B B2 gb x L A13 c13 A14 c14 r14 ds (tl ++ [p]) A' c' := by
  have hA : ∀ b, b ∈ PT.rowOf A → g < b ∧ (b < B ∨ B2 ≤ b) := fun b hb => h.own.2.2 b (by simp [PT.blocks, hb])
  refine ⟨by rw [nts_append]; exact ho, h.dep.touch ht fun hb => by have := (hA g hb).1; omega, h.s13.touch ht fun b hb _ hm => ?_, h.s14.touch ht fun b hb _ hm => ?_, h.box.touch ht fun hb => ?_, h.old.trans (ht.below h.old.size fun b hb => by have := (hA b hb).1; have := h.hg0; omega), Nat.le_trans h.sz ht.size, h.hg, h.hg0, h.hB, h.hgb, h.hgb2⟩
  · have h1 := hA b hm; have h2 := hb.1; have h3 := hb.2; omega
  · have h1 := hA b hm; have h2 := hb.1; have h3 := hb.2; omega
  · have h1 := hA gb hb; have h2 := h.hgb; have h3 := h.hgb2; omega
end

/-- The world between two rounds of the outer loop. -/
structure DepOut (w wx : World) (g : Nat) (ds : List Int) (tl : List Nat) (A : Option Addr) (c : Nat) : Prop where
  own : Owned wx (g < ·) (.sl A c 1 (ints (nts tl)))
  dep : Blk wx g 3 (dArr ds)
  old : Below w.heap.size w wx
  hg0 : w.heap.size ≤ g
theorem DepOut.below {w wx w' : World} {g : Nat} {ds : List Int} {tl : List Nat} {A : Option Addr} {c : Nat} (h : DepOut w wx g ds tl A c) (hb : Below wx.heap.size wx w') : DepOut w w' g ds tl A c :=
  ⟨h.own.below hb, h.dep.below hb h.dep.lt, h.old.trans (hb.mono h.old.size), h.hg0⟩
theorem DepIn.out {w wi : World} {g B B2 gb : Nat} {x : TInstr} {L : List (Int × Int)} {A13 : Option Addr} {c13 : Nat} {A14 : Option Addr} {c14 : Nat} {r14 : List Int} {ds : List Int} {tl : List Nat} {A : Option Addr} {c : Nat} (h : DepIn w wi g B B2 gb x L A13 c13 A14 c14 r14 ds tl A c) : DepOut w wi g ds tl A c :=
  ⟨h.own.mono fun b hb _ => hb.1, h.dep, h.old, h.hg0⟩
theorem stepS_st {is : List TInstr} {i : TInstr} {at_ : Nat} {ds ds' : List Int} {new q : List Nat} {k : Nat} (hpi : preOkI is.length i = true) (hD : DSt is.length ds q k) (hg : 0 ≤ gd ds at_) (h : stepS is i at_ ds = some (ds', new)) : DSt is.length ds' (q ++ new) k := by
  rw [← step_eq is i at_ ds hD.inv hpi hg] at h
  have hsel : i.op = 14 → 0 ≤ i.eff.1 := fun h14 => by
    simp only [preOkI, Bool.and_eq_true] at hpi
    have := hpi.1.2
    simp [h14] at this
    simp [TInstr.eff, h14]; exact this
  unfold stepI at h
  by_cases ht : gd ds at_ < i.eff.1
  · rw [if_pos ht] at h; cases h
  · rw [if_neg ht] at h
    by_cases hA : (i.labs.any (backI is at_ i.op)) = true
    · rw [if_pos hA] at h; cases h
    · rw [if_neg hA] at h
      exact pushI_st _ ds q [] _ (nexts_nonneg _ at_ _ hg ht hsel) (by rw [List.append_nil]; exact hD) h

theorem pushS_cons (is : List TInstr) (at_ op p d : Int) (r : List (Int × Int)) (ds : List Int) (q : List Nat) : pushS is at_ op ((p, d) :: r) (ds, q) = if badS is at_ op p then none else if gd ds p = -1 then pushS is at_ op r (ds.set p.toNat d, q ++ [p.toNat]) else if gd ds p = d then pushS is at_ op r (ds, q) else none := rfl

/-- What the reference finds. -/
def depthsS (is : List TInstr) : Option (List Int) := if is.length = 0 then none else flow is (stepS is) is.length (0 :: List.replicate (is.length - 1) (-1)) [0]
theorem depthsL_eq (is : List TInstr) (hp : preOk is = true) : depthsL is = depthsS is := by
  unfold depthsL depthsS
  rw [if_pos hp]
  split
  · rfl
  · rename_i h
    exact flow_eq is hp _ _ _ (start_st (by omega))
/-- Where an instruction goes on is no negative place, where its labels are right. -/
theorem nexts_fst {n : Nat} (i : TInstr) (at_ : Nat) (d : Int) (h : preOkI n i = true) : ∀ x ∈ i.nexts at_ d, 0 ≤ x.1 := by
  simp only [preOkI, Bool.and_eq_true] at h
  have hl := h.2
  simp only [List.all_eq_true, inR, decide_eq_true_eq] at hl
  intro x hx
  rcases op_ways i.op with h' | h' | h' | h' | h' | h' | h' | h' | h' | h' | h' | h' | h' | h' | h' | h'
  all_goals
    simp only [TInstr.labs, h'] at hl
    simp [TInstr.nexts, h'] at hx
    try simp at hl
    try first
      | (subst hx; simp; omega)
      | (rcases hx with rfl | rfl <;> simp <;> omega)
      | (rcases hx with rfl | rfl | rfl <;> simp <;> omega)
theorem nexts_len (i : TInstr) (a d : Int) : (i.nexts a d).length ≤ 3 := by
  unfold TInstr.nexts
  repeat' split
  all_goals simp
end Go.Proofs.YtdeokcbbjibkoaaDoor
