/- Blocks that are filled one cell behind the other; lists of elements in memory; what a call owns, part by part. -/
import Derived.Test.YtdeokcbbjibkoaaDoorTy
namespace Go.Proofs.YtdeokcbbjibkoaaDoor
open Go Go.RowKit

/-- A block of N cells whose first cells are xs. -/
def Fill (w : World) (g : Nat) (e : TypeId) (N : Nat) (xs : List Value) : Prop :=
  ∃ cur, w.heap[g]? = some (.cells cur e (0, 0)) ∧ cur.size = N ∧ xs.length ≤ N ∧ cur.toList.take xs.length = xs

section
variable {w w' : World} {g : Nat} {e : TypeId} {N : Nat} {xs : List Value}
theorem Fill.lt (h : Fill w g e N xs) : g < w.heap.size := by
  obtain ⟨cur, h1, _⟩ := h
  exact (Array.getElem?_eq_some_iff.1 h1).1
theorem Fill.cell (h : Fill w g e N xs) {i : Nat} (hi : i < N) : ∃ u, w.cell? ⟨g, i, none⟩ = some u := by
  obtain ⟨cur, h1, h2, _⟩ := h
  exact ⟨_, by rw [cell_of_row w g i cur e (0, 0) h1]; exact Array.getElem?_eq_getElem (by omega)⟩
theorem Fill.made (w : World) (z : Value) (n : Nat) (e : TypeId) : Fill (w.alloc (.cells (madeCells #[z] n) e)) w.heap.size e n [] :=
  ⟨_, heap_alloc_new w _, by simp [madeCells], by simp, by simp⟩
theorem Fill.same (h : Fill w g e N xs) (hb : w'.heap[g]? = w.heap[g]?) : Fill w' g e N xs := by
  obtain ⟨cur, h1, h2⟩ := h
  exact ⟨cur, hb.trans h1, h2⟩
theorem Fill.below {B : Nat} (h : Fill w g e N xs) (hb : Below B w w') (hg : g < B) : Fill w' g e N xs := h.same (hb.block g hg)
theorem Fill.alloc (h : Fill w g e N xs) (o : Obj) : Fill (w.alloc o) g e N xs := h.same (Below.heap_alloc w o g h.lt)
theorem Fill.far (h : Fill w g e N xs) {p : Addr} (hp : g ≠ p.block) (u : Value) : Fill (w.setCell p u) g e N xs := h.same (Below.heap_setCell w p u g hp)
theorem Fill.drew (h : Fill w g e N xs) : Fill w.drew g e N xs := h
theorem Fill.push (h : Fill w g e N xs) {i : Nat} (hi : i = xs.length) (hN : i < N) (u : Value) : Fill (w.setCell ⟨g, i, none⟩ u) g e N (xs ++ [u]) := by
  obtain ⟨cur, h1, h2, h3, h4⟩ := h
  subst hi
  refine ⟨cur.setIfInBounds xs.length u, by simp [World.setCell, Array.getElem?_modify, h1], by simpa using h2, by simp; omega, ?_⟩
  rw [Array.toList_setIfInBounds, List.length_append, List.length_singleton, List.take_add_one, List.take_set]
  rw [List.set_eq_of_length_le (by simp; omega), h4]
  simp [h2, hN]
theorem Fill.own {l : List PT} {c m : Nat} (h : Fill w g e (c * m) (PT.cellsL l)) (hm : ∀ t ∈ l, t.cells.length = m) (hl : l.length ≤ c) (hc : c ≤ maxLen) (ho : OwnL w l) : Own w (.sl (some ⟨g, 0, none⟩) c m l) := by
  obtain ⟨cur, h1, h2, h3, h4⟩ := h
  have hL := PT.length_cellsL hm
  exact own_of_block hm hL h1 hl hc h2 (by rw [← hL]; exact h4) ho
end


/-- make, with n a variable. -/
theorem run_make_n {P : Program} (t e : TypeId) (z : Value) (m bytes : Nat) (ht : P.underlying t = some (.slice e)) (hinfo : (P.info? e).map (fun i => (i.zero, i.size, i.bytes)) = some (some z, m, bytes))
    (kl kc : IntKind) (n : Nat) (hbytes : bytes * n ≤ 281474976710656) (h63 : n ≤ 9223372036854775807) (w : World) :
    (Instr.makeSlice t (.int kl (n : Int)) (.int kc (n : Int))).run P w = .ok (.slice (some ⟨w.heap.size, 0, none⟩) n n) (w.alloc (.cells (madeCells z.cells (n * m)) e)) := by
  obtain ⟨i, hi, hzz⟩ := Option.map_eq_some_iff.1 hinfo
  simp only [Prod.mk.injEq] at hzz
  obtain ⟨hz, hs, hb⟩ := hzz
  have hb' : (i.bytes : Int) * (n : Int) ≤ 281474976710656 := by
    have h : ((i.bytes * n : Nat) : Int) ≤ 281474976710656 := by rw [hb]; omega
    rwa [Int.natCast_mul] at h
  have hr := run_make (P := P) w t e i z ht hi hz kl kc n n (by omega) (Int.le_refl _) hb' (by omega)
  simp only [Int.toNat_natCast, hs] at hr
  exact hr
/-- Elements of m cells without slices of their own. -/
structure Flat {α : Type} (f : α → PT) (m : Nat) : Prop where
  cells : ∀ x, (f x).cells.length = m
  blocks : ∀ x, (f x).blocks = []
  own : ∀ x w, Own w (f x)
  seen : ∀ x w S, Seen w S (f x)
section
variable {α : Type} {f : α → PT} {m : Nat} {w : World} {S : Nat → Prop}
theorem Flat.cellsL (h : Flat f m) (l : List α) : ∀ t ∈ l.map f, t.cells.length = m := fun t ht => by
  obtain ⟨x, _, rfl⟩ := List.mem_map.1 ht; exact h.cells x
theorem Flat.blocksL (h : Flat f m) (l : List α) : PT.blocksL (l.map f) = [] := by
  induction l with
  | nil => rfl
  | cons z r ih => simp only [List.map_cons, PT.blocksL, h.blocks, ih, List.append_nil]
theorem Flat.ownL (h : Flat f m) (l : List α) : OwnL w (l.map f) := OwnL.of_get fun t ht => by
  obtain ⟨x, _, rfl⟩ := List.mem_map.1 ht; exact h.own x w
theorem Flat.length (h : Flat f m) (l : List α) : (PT.cellsL (l.map f)).length = l.length * m := by
  rw [PT.length_cellsL (h.cellsL l), List.length_map]
theorem Flat.owned (h : Flat f m) {g c : Nat} {e : TypeId} {l : List α} (hf : Fill w g e (c * m) (PT.cellsL (l.map f))) (hl : l.length ≤ c) (hc : c ≤ maxLen) (hS : S g) : Owned w S (.sl (some ⟨g, 0, none⟩) c m (l.map f)) :=
  ⟨Fill.own hf (h.cellsL l) (by simpa using hl) hc (h.ownL l), by simp [PT.blocks, h.blocksL, PT.rowOf], by simpa [PT.blocks, h.blocksL, PT.rowOf] using hS⟩
theorem Flat.none (h : Flat f m) : Seen w S (.sl none 0 m (([] : List α).map f)) := ⟨by simp, by simp, Sees.nil _ _ _, by simp, trivial⟩
end
/-- Trees that stand for the elements of a list, one by one. -/
def AtL {α : Type} (R : PT → α → Prop) (l : List PT) (xs : List α) : Prop := l.length = xs.length ∧ ∀ (i : Nat) (t : PT) (x : α), l[i]? = some t → xs[i]? = some x → R t x
section
variable {α : Type} {R : PT → α → Prop} {l : List PT} {xs : List α}
theorem AtL.get (h : AtL R l xs) {k : Nat} (hk : k < l.length) : R l[k] (xs[k]'(by have := h.1; omega)) := h.2 k _ _ (List.getElem?_eq_getElem hk) (List.getElem?_eq_getElem _)
theorem AtL.nil : AtL R [] ([] : List α) := ⟨rfl, by simp⟩
theorem AtL.cells {m : Nat} (h : AtL R l xs) (hm : ∀ t x, R t x → t.cells.length = m) : ∀ t ∈ l, t.cells.length = m := fun t ht => by
  obtain ⟨i, hi, rfl⟩ := List.getElem_of_mem ht
  exact hm _ _ (h.get hi)
end
/-- A list of trees that each stand for something is a list that stands for a list. -/
theorem atL_of {α : Type} {R : PT → α → Prop} {l : List PT} (h : ∀ t ∈ l, ∃ x, R t x) : ∃ xs, AtL R l xs := by
  induction l with
  | nil => exact ⟨[], AtL.nil⟩
  | cons t r ih =>
    obtain ⟨x, hx⟩ := h t (by simp)
    obtain ⟨xs, hxs⟩ := ih fun u hu => h u (by simp [hu])
    refine ⟨x :: xs, by simp [hxs.1], fun i u y hu hy => ?_⟩
    cases i with
    | zero => simp at hu hy; subst hu; subst hy; exact hx
    | succ i => exact hxs.2 i u y (by simpa using hu) (by simpa using hy)
theorem map_of {α : Type} {f : α → PT} {l : List PT} (h : ∀ t ∈ l, ∃ x, t = f x) : ∃ xs : List α, l = xs.map f := by
  induction l with
  | nil => exact ⟨[], rfl⟩
  | cons t r ih =>
    obtain ⟨x, hx⟩ := h t (by simp)
    obtain ⟨xs, hxs⟩ := ih fun u hu => h u (by simp [hu])
    exact ⟨x :: xs, by simp [hx, hxs]⟩

/-- Owned part by part, all in blocks from lo on, below hi. -/
def OwnedS (w : World) (lo hi : Nat) (ts : List PT) : Prop := OwnL w ts ∧ (PT.blocksL ts).Nodup ∧ ∀ b ∈ PT.blocksL ts, Rng lo hi b
section
variable {w w' : World} {lo mid hi : Nat}
theorem OwnedS.nil : OwnedS w lo hi [] := ⟨trivial, by simp [PT.blocksL], by simp [PT.blocksL]⟩
theorem OwnedS.cons {ts : List PT} {t : PT} (ht : Owned w (Rng lo mid) t) (h : OwnedS w mid hi ts) (hl : lo ≤ mid) (hm : mid ≤ hi) : OwnedS w lo hi (t :: ts) := by
  refine ⟨⟨ht.1, h.1⟩, ?_, fun b hb => ?_⟩
  · simp only [PT.blocksL, List.nodup_append]
    refine ⟨ht.2.1, h.2.1, fun a ha b hb => ?_⟩
    have h1 := (ht.2.2 a ha).2
    have h2 := (h.2.2 b hb).1
    omega
  · simp only [PT.blocksL, List.mem_append] at hb
    rcases hb with hb | hb
    · have := ht.2.2 b hb; exact ⟨this.1, Nat.lt_of_lt_of_le this.2 hm⟩
    · have := h.2.2 b hb; exact ⟨Nat.le_trans hl this.1, this.2⟩
theorem OwnedS.flat {ts : List PT} {t : PT} (hb : t.blocks = []) (ho : Own w t) (h : OwnedS w lo hi ts) : OwnedS w lo hi (t :: ts) :=
  ⟨⟨ho, h.1⟩, by simpa [PT.blocksL, hb] using h.2.1, by simpa [PT.blocksL, hb] using h.2.2⟩
theorem OwnedS.agg {ts : List PT} {S : Nat → Prop} (h : OwnedS w lo hi ts) (hS : ∀ b, Rng lo hi b → S b) : Owned w S (.agg ts) := ⟨h.1, h.2.1, fun b hb => hS b (h.2.2 b hb)⟩
theorem OwnedS.keep {ts : List PT} (h : OwnedS w lo hi ts) (hk : ∀ b, Rng lo hi b → b < w.heap.size → w'.heap[b]? = w.heap[b]?) : OwnedS w' lo hi ts :=
  ⟨own_keep.2 ts h.1 fun b hb => hk b (h.2.2 b hb) (own_lt.2 ts h.1 b hb), h.2.1, h.2.2⟩
theorem OwnedS.below {ts : List PT} (h : OwnedS w lo hi ts) (hb : Below w.heap.size w w') : OwnedS w' lo hi ts := h.keep fun b _ hlt => hb.block b hlt
theorem OwnedS.far {ts : List PT} (h : OwnedS w lo hi ts) {p : Addr} (hp : p.block < lo) (u : Value) : OwnedS (w.setCell p u) lo hi ts :=
  h.keep fun b hb _ => Below.heap_setCell _ _ _ _ (by have := hb.1; omega)
theorem Owned.far {S : Nat → Prop} {t : PT} (h : Owned w S t) {p : Addr} (hp : ¬ S p.block) (u : Value) : Owned (w.setCell p u) S t :=
  h.keep fun b hb _ => Below.heap_setCell _ _ _ _ (fun e => hp (e ▸ hb))
/-- A filled block whose elements are owned: a slice of the call's own. -/
theorem OwnedS.slice {ts : List PT} {g c m : Nat} {e : TypeId} {S : Nat → Prop} (h : OwnedS w lo hi ts) (hf : Fill w g e (c * m) (PT.cellsL ts)) (hm : ∀ t ∈ ts, t.cells.length = m) (hl : ts.length ≤ c) (hc : c ≤ maxLen) (hg : g < lo) (hS : ∀ b, g ≤ b → S b) :
    Owned w S (.sl (some ⟨g, 0, none⟩) c m ts) := by
  refine ⟨Fill.own hf hm hl hc h.1, ?_, fun b hb => ?_⟩
  · simp only [PT.blocks, PT.rowOf, List.singleton_append, List.nodup_cons]
    exact ⟨fun hb => by have := (h.2.2 g hb).1; omega, h.2.1⟩
  · simp only [PT.blocks, PT.rowOf, List.mem_append, List.mem_singleton] at hb
    rcases hb with rfl | hb
    · exact hS b (Nat.le_refl _)
    · exact hS b (by have := (h.2.2 b hb).1; omega)
end

/-- An int of 64 bits. -/
def i64 (n : Int) : Prop := -9223372036854775808 ≤ n ∧ n ≤ 9223372036854775807
theorem i64_of {n : Int} (h : (Lit.int .i64 n).wf = true) : i64 n := bounds_i64 h

end Go.Proofs.YtdeokcbbjibkoaaDoor
