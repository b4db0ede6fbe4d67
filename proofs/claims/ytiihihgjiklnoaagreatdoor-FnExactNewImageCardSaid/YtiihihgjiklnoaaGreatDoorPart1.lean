/- Part 1 of the proof: the texts Base. -/
import Derived.WalkKit
import Derived.WalkSpells
import Derived.WalkLawsBesides
import Derived.Deep.LoopGhost
import Derived.Deep.OwnRows
import Derived.Lib.Hide
import Derived.Handy
import Derived.Maps.AppendAt
import Derived.Deep.AppendLies
import Derived.RegionTactic
import Derived.OwnWalk
/- The vocabulary of memory that all proofs of this seat share: a value in memory as a tree with its addresses, what of it can be read, and what of it a call owns. Plain definitions and lemmas. -/
namespace Go.Proofs.YtiihihgjiklnoaaGreatDoor
open Go Go.RowKit

/-- A datum: what a value in memory says, its addresses left out. -/
inductive D where
  | int (k : IntKind) (n : Int)
  | bool (b : Bool)
  | str (s : ByteArray)
  | agg (l : List D)
  | sl (l : List D)

/-- A value with its addresses. -/
inductive PT where
  | int (k : IntKind) (n : Int)
  | bool (b : Bool)
  | str (s : ByteArray)
  | agg (l : List PT)
  | sl (A : Option Addr) (c m : Nat) (l : List PT)

namespace PT
mutual
def cells : PT → List Value
  | .int k n => [.int k n]
  | .bool b => [.bool b]
  | .str s => [.string s]
  | .agg l => cellsL l
  | .sl A c _ l => [.slice A l.length c]
def cellsL : List PT → List Value
  | [] => []
  | t :: r => cells t ++ cellsL r
end
mutual
def data : PT → D
  | .int k n => .int k n
  | .bool b => .bool b
  | .str s => .str s
  | .agg l => .agg (dataL l)
  | .sl _ _ _ l => .sl (dataL l)
def dataL : List PT → List D
  | [] => []
  | t :: r => data t :: dataL r
end
def value : PT → Value
  | .int k n => .int k n
  | .bool b => .bool b
  | .str s => .string s
  | .agg l => .agg (cellsL l).toArray
  | .sl A c _ l => .slice A l.length c
def rowOf : Option Addr → List Nat
  | some a => [a.block]
  | none => []
mutual
def blocks : PT → List Nat
  | .agg l => blocksL l
  | .sl A _ _ l => rowOf A ++ blocksL l
  | _ => []
def blocksL : List PT → List Nat
  | [] => []
  | t :: r => blocks t ++ blocksL r
end
end PT

/-- From the address A on stand the cells xs, in blocks that satisfy S. -/
def Sees (w : World) (S : Nat → Prop) (A : Option Addr) (xs : List Value) : Prop :=
  ∀ j u, xs[j]? = some u → ∃ b o, A = some ⟨b, o, none⟩ ∧ S b ∧ w.cell? ⟨b, o + j, none⟩ = some u

mutual
/-- All that the tree says can be read in w, in blocks that satisfy S. -/
def Seen (w : World) (S : Nat → Prop) : PT → Prop
  | .agg l => SeenL w S l
  | .sl A c m l => l.length ≤ c ∧ c ≤ maxLen ∧ Sees w S A (PT.cellsL l) ∧ (∀ t ∈ l, t.cells.length = m) ∧ SeenL w S l
  | _ => True
def SeenL (w : World) (S : Nat → Prop) : List PT → Prop
  | [] => True
  | t :: r => Seen w S t ∧ SeenL w S r
end

mutual
/-- Every slice of the tree is a block of its own, which holds the slice's cells from its first cell on. -/
def Own (w : World) : PT → Prop
  | .agg l => OwnL w l
  | .sl A c m l => (∀ t ∈ l, t.cells.length = m) ∧ (∃ e, w.ownsRow 0 e m (.slice A l.length c) l.length (PT.cellsL l)) ∧ OwnL w l
  | _ => True
def OwnL (w : World) : List PT → Prop
  | [] => True
  | t :: r => Own w t ∧ OwnL w r
end

/-- Owned and nowhere shared, all in blocks that satisfy S. -/
def Owned (w : World) (S : Nat → Prop) (t : PT) : Prop := Own w t ∧ t.blocks.Nodup ∧ ∀ b ∈ t.blocks, S b

theorem PT.blocksL_append (l m : List PT) : PT.blocksL (l ++ m) = PT.blocksL l ++ PT.blocksL m := by
  induction l with
  | nil => rfl
  | cons t r ih => simp [PT.blocksL, ih]
theorem PT.cellsL_append (l m : List PT) : PT.cellsL (l ++ m) = PT.cellsL l ++ PT.cellsL m := by
  induction l with
  | nil => rfl
  | cons t r ih => simp [PT.cellsL, ih]
/-- Trees: a proof by their make, lists of trees beside. -/
theorem PT.ind {p : PT → Prop} {q : List PT → Prop} (hi : ∀ k n, p (.int k n)) (hb : ∀ b, p (.bool b)) (hs : ∀ s, p (.str s)) (ha : ∀ l, q l → p (.agg l)) (hl : ∀ A c m l, q l → p (.sl A c m l))
    (hn : q []) (hc : ∀ t r, p t → q r → q (t :: r)) : (∀ t, p t) ∧ (∀ l, q l) :=
  ⟨fun t => PT.rec (motive_1 := p) (motive_2 := q) hi hb hs ha hl hn hc t, fun l => PT.rec_1 (motive_1 := p) (motive_2 := q) hi hb hs ha hl hn hc l⟩

section
variable {w w' : World} {S S' : Nat → Prop}

theorem Sees.nil (w : World) (S : Nat → Prop) (A : Option Addr) : Sees w S A [] := fun j u h => by simp at h
theorem Sees.keep {A : Option Addr} {xs : List Value} (h : Sees w S A xs) (hk : ∀ b, S b → w'.heap[b]? = w.heap[b]?) (hm : ∀ b, S b → b < w.heap.size → S' b) : Sees w' S' A xs := by
  intro j u hj
  obtain ⟨b, o, hA, hS, hc⟩ := h j u hj
  exact ⟨b, o, hA, hm b hS (World.block_lt_of_cell? w _ hc), (World.cell?_of_block (w := w) (w' := w') (a := ⟨b, o + j, none⟩) (hk b hS)).trans hc⟩

theorem seen_keep (hk : ∀ b, S b → w'.heap[b]? = w.heap[b]?) (hm : ∀ b, S b → b < w.heap.size → S' b) : (∀ t, Seen w S t → Seen w' S' t) ∧ (∀ l, SeenL w S l → SeenL w' S' l) :=
  PT.ind (fun _ _ _ => trivial) (fun _ _ => trivial) (fun _ _ => trivial) (fun _ h k => h k)
    (fun _ _ _ _ h k => ⟨k.1, k.2.1, k.2.2.1.keep hk hm, k.2.2.2.1, h k.2.2.2.2⟩) (fun _ => trivial) (fun _ _ h k m => ⟨h m.1, k m.2⟩)

theorem Seen.keep {t : PT} (h : Seen w S t) (hk : ∀ b, S b → w'.heap[b]? = w.heap[b]?) (hm : ∀ b, S b → b < w.heap.size → S' b) : Seen w' S' t := (seen_keep hk hm).1 t h
theorem SeenL.keep {t : List PT} (h : SeenL w S t) (hk : ∀ b, S b → w'.heap[b]? = w.heap[b]?) (hm : ∀ b, S b → b < w.heap.size → S' b) : SeenL w' S' t := (seen_keep hk hm).2 t h

/-- What lies below B is there when nothing below B has turned. -/
theorem Seen.below {B : Nat} {t : PT} (h : Seen w (· < B) t) (hb : Below B w w') : Seen w' (· < B) t := h.keep (fun b hB => hb.block b hB) (fun _ h _ => h)
theorem SeenL.below {B : Nat} {t : List PT} (h : SeenL w (· < B) t) (hb : Below B w w') : SeenL w' (· < B) t := h.keep (fun b hB => hb.block b hB) (fun _ h _ => h)
theorem Sees.below {B : Nat} {A : Option Addr} {xs : List Value} (h : Sees w (· < B) A xs) (hb : Below B w w') : Sees w' (· < B) A xs := h.keep (fun b hB => hb.block b hB) (fun _ h _ => h)
theorem Seen.mono {t : PT} (h : Seen w S t) (hm : ∀ b, S b → b < w.heap.size → S' b) : Seen w S' t := h.keep (fun _ _ => rfl) hm
theorem SeenL.mono {t : List PT} (h : SeenL w S t) (hm : ∀ b, S b → b < w.heap.size → S' b) : SeenL w S' t := h.keep (fun _ _ => rfl) hm
theorem Sees.mono {A : Option Addr} {xs : List Value} (h : Sees w S A xs) (hm : ∀ b, S b → b < w.heap.size → S' b) : Sees w S' A xs := h.keep (fun _ _ => rfl) hm
/-- All that is seen lies in blocks that are there. -/
theorem Seen.here {t : PT} (h : Seen w S t) : Seen w (· < w.heap.size) t := h.mono fun _ _ h => h
theorem SeenL.here {t : List PT} (h : SeenL w S t) : SeenL w (· < w.heap.size) t := h.mono fun _ _ h => h
theorem Sees.here {A : Option Addr} {xs : List Value} (h : Sees w S A xs) : Sees w (· < w.heap.size) A xs := h.mono fun _ _ h => h

theorem SeenL.get {l : List PT} (h : SeenL w S l) {i : Nat} {t : PT} (hi : l[i]? = some t) : Seen w S t := by
  induction l generalizing i with
  | nil => simp at hi
  | cons x r ih =>
    cases i with
    | zero => simp at hi; subst hi; exact h.1
    | succ i => exact ih h.2 (by simpa using hi)
theorem SeenL.of_get {l : List PT} (h : ∀ t ∈ l, Seen w S t) : SeenL w S l := by
  induction l with
  | nil => trivial
  | cons x r ih => exact ⟨h x (by simp), ih fun t ht => h t (by simp [ht])⟩
theorem OwnL.get {l : List PT} (h : OwnL w l) {t : PT} (hi : t ∈ l) : Own w t := by
  induction l with
  | nil => simp at hi
  | cons x r ih =>
    rcases List.mem_cons.1 hi with rfl | hi
    · exact h.1
    · exact ih h.2 hi
theorem OwnL.of_get {l : List PT} (h : ∀ t ∈ l, Own w t) : OwnL w l := by
  induction l with
  | nil => trivial
  | cons x r ih => exact ⟨h x (by simp), ih fun t ht => h t (by simp [ht])⟩

theorem PT.mem_blocksL {l : List PT} {b : Nat} : b ∈ PT.blocksL l ↔ ∃ t ∈ l, b ∈ t.blocks := by
  induction l with
  | nil => simp [PT.blocksL]
  | cons x r ih => simp [PT.blocksL, ih]

theorem own_row {A : Option Addr} {c m : Nat} {l : List PT} (h : Own w (.sl A c m l)) :
    (A = none ∧ c = 0 ∧ l = []) ∨ ∃ g cur e, A = some ⟨g, 0, none⟩ ∧ w.heap[g]? = some (.cells cur e (0, 0)) ∧ l.length ≤ c ∧ c ≤ maxLen ∧ cur.size = c * m ∧ cur.toList.take (l.length * m) = PT.cellsL l := by
  obtain ⟨_, ⟨e, _, h1 | ⟨g, cap, cur, hv, _, hg, hn, hc, hs, ht⟩⟩, _⟩ := h
  · obtain ⟨h1, h2⟩ := h1
    simp only [Value.slice.injEq] at h1
    exact .inl ⟨h1.1, h1.2.2, List.eq_nil_of_length_eq_zero h2⟩
  · simp only [Value.slice.injEq, true_and] at hv
    obtain ⟨rfl, rfl⟩ := hv
    exact .inr ⟨g, cur, e, rfl, hg, hn, hc, hs, ht⟩
theorem own_of_block {g c m : Nat} {cur : Array Value} {e : TypeId} {l : List PT} (hm : ∀ t ∈ l, t.cells.length = m) (hL : (PT.cellsL l).length = l.length * m) (hg : w.heap[g]? = some (.cells cur e (0, 0))) (hn : l.length ≤ c) (hc : c ≤ maxLen) (hs : cur.size = c * m)
    (ht : cur.toList.take (l.length * m) = PT.cellsL l) (ho : OwnL w l) : Own w (.sl (some ⟨g, 0, none⟩) c m l) :=
  ⟨hm, ⟨e, hL, .inr ⟨g, c, cur, rfl, Nat.zero_le _, hg, hn, hc, hs, ht⟩⟩, ho⟩
/-- What is owned is seen. -/
theorem own_seen : (∀ t, Own w t → (∀ b ∈ t.blocks, S b) → Seen w S t) ∧ (∀ l, OwnL w l → (∀ b ∈ PT.blocksL l, S b) → SeenL w S l) :=
  PT.ind (fun _ _ _ _ => trivial) (fun _ _ _ => trivial) (fun _ _ _ => trivial) (fun _ h k m => h k m)
    (fun A c m l h k hS => by
      rcases own_row k with ⟨rfl, rfl, rfl⟩ | ⟨g, cur, e, rfl, hg, hl, hc, _, ht⟩
      · exact ⟨by simp, by simp, Sees.nil _ _ _, by simp, trivial⟩
      · refine ⟨hl, hc, fun j u hj => ⟨g, 0, rfl, hS g (by simp [PT.blocks, PT.rowOf]), ?_⟩, k.1, h k.2.2 fun b hb => hS b (by simp [PT.blocks, hb])⟩
        rw [Nat.zero_add, cell_of_row w g j cur e (0, 0) hg]
        rw [← ht, List.getElem?_take] at hj
        split at hj
        · simpa using hj
        · cases hj)
    (fun _ _ => trivial) (fun t r h k m n => ⟨h m.1 fun b hb => n b (by simp [PT.blocksL, hb]), k m.2 fun b hb => n b (by simp [PT.blocksL, hb])⟩)

theorem Owned.seen {t : PT} (h : Owned w S t) : Seen w S t := own_seen.1 t h.1 h.2.2

theorem own_keep : (∀ t, Own w t → (∀ b ∈ t.blocks, w'.heap[b]? = w.heap[b]?) → Own w' t) ∧ (∀ l, OwnL w l → (∀ b ∈ PT.blocksL l, w'.heap[b]? = w.heap[b]?) → OwnL w' l) :=
  PT.ind (fun _ _ _ _ => trivial) (fun _ _ _ => trivial) (fun _ _ _ => trivial) (fun _ h k m => h k m)
    (fun A c m l h k hb => by
      refine ⟨k.1, ?_, h k.2.2 fun b hb' => hb b (by simp [PT.blocks, hb'])⟩
      obtain ⟨_, ⟨e, h0, h1⟩, _⟩ := k
      rcases h1 with h1 | ⟨g, cap, cur, hv, h2, hg, h3⟩
      · exact ⟨e, h0, .inl h1⟩
      · refine ⟨e, h0, .inr ⟨g, cap, cur, hv, h2, ?_, h3⟩⟩
        simp only [Value.slice.injEq] at hv
        obtain ⟨rfl, _⟩ := hv
        exact (hb g (by simp [PT.blocks, PT.rowOf])).trans hg)
    (fun _ _ => trivial) (fun t r h k m n => ⟨h m.1 fun b hb => n b (by simp [PT.blocksL, hb]), k m.2 fun b hb => n b (by simp [PT.blocksL, hb])⟩)

theorem own_lt : (∀ t, Own w t → ∀ b ∈ t.blocks, b < w.heap.size) ∧ (∀ l, OwnL w l → ∀ b ∈ PT.blocksL l, b < w.heap.size) :=
  PT.ind (fun _ _ _ b hb => by simp [PT.blocks] at hb) (fun _ _ b hb => by simp [PT.blocks] at hb) (fun _ _ b hb => by simp [PT.blocks] at hb) (fun _ h k b hb => h k b hb)
    (fun A c m l h k b hb => by
      have h2 := k.2.2
      rcases own_row k with ⟨rfl, rfl, rfl⟩ | ⟨g, cur, e, rfl, hg, _⟩
      · simp [PT.blocks, PT.blocksL, PT.rowOf] at hb
      · simp only [PT.blocks, PT.rowOf, List.mem_append, List.mem_singleton] at hb
        rcases hb with rfl | hb
        · exact (Array.getElem?_eq_some_iff.1 hg).1
        · exact h h2 b hb)
    (fun _ b hb => by simp [PT.blocksL] at hb) (fun t r h k m b hb => by
      simp only [PT.blocksL, List.mem_append] at hb
      rcases hb with hb | hb
      · exact h m.1 b hb
      · exact k m.2 b hb)

theorem Owned.keep {t : PT} (h : Owned w S t) (hk : ∀ b, S b → b < w.heap.size → w'.heap[b]? = w.heap[b]?) : Owned w' S t :=
  ⟨own_keep.1 t h.1 fun b hb => hk b (h.2.2 b hb) (own_lt.1 t h.1 b hb), h.2.1, h.2.2⟩
theorem Owned.mono {t : PT} (h : Owned w S t) (hm : ∀ b, S b → b < w.heap.size → S' b) : Owned w S' t :=
  ⟨h.1, h.2.1, fun b hb => hm b (h.2.2 b hb) (own_lt.1 t h.1 b hb)⟩
theorem Owned.below {t : PT} (h : Owned w S t) (hb : Below w.heap.size w w') : Owned w' S t := h.keep fun b _ hlt => hb.block b hlt
end

/-- Only blocks that satisfy T have turned. -/
structure Touch (T : Nat → Prop) (w w' : World) : Prop where
  os : w'.os = w.os
  tape : w'.tape = w.tape
  output : w'.output = w.output
  size : w.heap.size ≤ w'.heap.size
  block : ∀ b, b < w.heap.size → ¬ T b → w'.heap[b]? = w.heap[b]?
theorem Touch.refl (T : Nat → Prop) (w : World) : Touch T w w := ⟨rfl, rfl, rfl, Nat.le_refl _, fun _ _ _ => rfl⟩
theorem Touch.trans {T : Nat → Prop} {a b c : World} (h : Touch T a b) (k : Touch T b c) : Touch T a c :=
  ⟨k.os.trans h.os, k.tape.trans h.tape, k.output.trans h.output, Nat.le_trans h.size k.size, fun i hi hn => (k.block i (Nat.lt_of_lt_of_le hi h.size) hn).trans (h.block i hi hn)⟩
theorem Touch.mono {T T' : Nat → Prop} {w w' : World} (h : Touch T w w') (hm : ∀ b, b < w.heap.size → T b → T' b) : Touch T' w w' :=
  ⟨h.os, h.tape, h.output, h.size, fun b hb hn => h.block b hb fun ht => hn (hm b hb ht)⟩
theorem Touch.setCell {T : Nat → Prop} {w w' : World} (h : Touch T w w') {p : Addr} (hp : T p.block) (u : Value) : Touch T w (w'.setCell p u) :=
  h.trans ⟨rfl, rfl, rfl, by simp [World.setCell], fun b _ hn => Below.heap_setCell _ _ _ _ (fun e => hn (e ▸ hp))⟩
theorem Touch.drewN {T : Nat → Prop} {w w' : World} (h : Touch T w w') (n : Nat) : Touch T w (w'.drewN n) := ⟨h.os, h.tape, h.output, h.size, h.block⟩
theorem Touch.below {T : Nat → Prop} {B : Nat} {w w' : World} (h : Touch T w w') (hB : B ≤ w.heap.size) (hT : ∀ b, T b → B ≤ b) : Below B w w' :=
  ⟨h.os, h.tape, h.output, h.size, fun b hb => h.block b (by omega) fun ht => by have := hT b ht; omega⟩
theorem Touch.of_below {w w' : World} (h : Below w.heap.size w w') (T : Nat → Prop) : Touch T w w' := ⟨h.os, h.tape, h.output, h.size, fun b hb _ => h.block b hb⟩
theorem below_drewN {B : Nat} {a w : World} (h : Below B a w) (n : Nat) : Below B a (w.drewN n) := ⟨h.os, h.tape, h.output, h.size, h.block⟩
theorem Seen.touch {w w' : World} {S T : Nat → Prop} {t : PT} (h : Seen w S t) (ht : Touch T w w') (hd : ∀ b, S b → b < w.heap.size → ¬ T b) : Seen w' S t :=
  (h.mono (S' := fun b => S b ∧ b < w.heap.size) fun _ h1 h2 => ⟨h1, h2⟩).keep (fun b hb => ht.block b hb.2 (hd b hb.1 hb.2)) fun _ hb _ => hb.1
theorem Owned.touch {w w' : World} {S T : Nat → Prop} {t : PT} (h : Owned w S t) (ht : Touch T w w') (hd : ∀ b, S b → b < w.heap.size → ¬ T b) : Owned w' S t :=
  h.keep fun b hS hb => ht.block b hb (hd b hS hb)

theorem Sees.touch {w w' : World} {S T : Nat → Prop} {A : Option Addr} {xs : List Value} (h : Sees w S A xs) (ht : Touch T w w') (hd : ∀ b, S b → b < w.heap.size → ¬ T b) : Sees w' S A xs :=
  (h.mono (S' := fun b => S b ∧ b < w.heap.size) fun _ h1 h2 => ⟨h1, h2⟩).keep (fun b hb => ht.block b hb.2 (hd b hb.1 hb.2)) fun _ hb _ => hb.1

/-- Every block is as it was; there may be new ones. -/
def Ext (w w' : World) : Prop := ∀ b, b < w.heap.size → w'.heap[b]? = w.heap[b]?
theorem Ext.refl (w : World) : Ext w w := fun _ _ => rfl
theorem Ext.alloc {w w' : World} (h : Ext w w') (o : Obj) (hs : w.heap.size ≤ w'.heap.size) : Ext w (w'.alloc o) := fun b hb => (Below.heap_alloc w' o b (by omega)).trans (h b hb)
theorem Ext.alloc1 (w : World) (o : Obj) : Ext w (w.alloc o) := fun b hb => Below.heap_alloc w o b hb
theorem Ext.of_below {w w' : World} (h : Below w.heap.size w w') : Ext w w' := fun b hb => h.block b hb
theorem Sees.ext {w w' : World} {S : Nat → Prop} {A : Option Addr} {xs : List Value} (h : Sees w S A xs) (he : Ext w w') : Sees w' S A xs :=
  (h.mono (S' := fun b => S b ∧ b < w.heap.size) fun _ h1 h2 => ⟨h1, h2⟩).keep (fun b hb => he b hb.2) fun _ hb _ => hb.1
theorem Seen.ext {w w' : World} {S : Nat → Prop} {t : PT} (h : Seen w S t) (he : Ext w w') : Seen w' S t :=
  (h.mono (S' := fun b => S b ∧ b < w.heap.size) fun _ h1 h2 => ⟨h1, h2⟩).keep (fun b hb => he b hb.2) fun _ hb _ => hb.1
theorem Owned.ext {w w' : World} {S : Nat → Prop} {t : PT} (h : Owned w S t) (he : Ext w w') : Owned w' S t := h.keep fun b _ hb => he b hb

/-- A callee that only reads leaves everything as it was. -/
theorem q_below {w w' : World} (h : ∃ n, w' = w.drewN n) : Below w.heap.size w w' := by
  obtain ⟨n, rfl⟩ := h
  exact below_drewN (Below.refl _ _) n
/-- The blocks from lo on, below hi. -/
def Rng (lo hi : Nat) (b : Nat) : Prop := lo ≤ b ∧ b < hi
/-- A block that is known whole. -/
def Blk (w : World) (g : Nat) (t : TypeId) (cs : Array Value) : Prop := w.heap[g]? = some (.cells cs t (0, 0))
section
variable {w w' : World} {g : Nat} {t : TypeId} {cs : Array Value}
theorem Blk.lt (h : Blk w g t cs) : g < w.heap.size := (Array.getElem?_eq_some_iff.1 h).1
theorem Blk.cell (h : Blk w g t cs) (i : Nat) : w.cell? ⟨g, i, none⟩ = cs[i]? := cell_of_row w g i cs t (0, 0) h
theorem Blk.frozen (h : Blk w g t cs) (i : Nat) : w.frozen? ⟨g, i, none⟩ = false := by
  unfold Blk at h
  simp [World.frozen?, h]
theorem Blk.new (w : World) (t : TypeId) (cs : Array Value) : Blk (w.alloc (.cells cs t)) w.heap.size t cs := heap_alloc_new w _
theorem Blk.alloc (h : Blk w g t cs) (o : Obj) : Blk (w.alloc o) g t cs := (Below.heap_alloc w o g h.lt).trans h
theorem Blk.set_ (h : Blk w g t cs) (i : Nat) (u : Value) : Blk (w.setCell ⟨g, i, none⟩ u) g t (cs.setIfInBounds i u) := by
  unfold Blk at h ⊢
  simp [World.setCell, Array.getElem?_modify, h]
theorem Blk.far (h : Blk w g t cs) {p : Addr} (hp : g ≠ p.block) (u : Value) : Blk (w.setCell p u) g t cs := (Below.heap_setCell w p u g hp).trans h
theorem Blk.below {B : Nat} (h : Blk w g t cs) (hb : Below B w w') (hg : g < B) : Blk w' g t cs := (hb.block g hg).trans h
theorem Blk.touch {T : Nat → Prop} (h : Blk w g t cs) (ht : Touch T w w') (hg : ¬ T g) : Blk w' g t cs := (ht.block g h.lt hg).trans h
theorem Blk.ext (h : Blk w g t cs) (he : Ext w w') : Blk w' g t cs := (he g h.lt).trans h
end

/-- The k-th element's cells, where every element has m of them. -/
theorem PT.cellsL_at {m : Nat} : ∀ {l : List PT}, (∀ t ∈ l, t.cells.length = m) → ∀ {k j : Nat} {t : PT}, l[k]? = some t → j < m → (PT.cellsL l)[k * m + j]? = t.cells[j]?
  | [], _, k, j, t, hk, _ => by simp at hk
  | x :: r, h, 0, j, t, hk, hj => by
    simp at hk; subst hk
    rw [PT.cellsL, List.getElem?_append_left (by rw [h x (by simp)]; omega)]
    congr 1; omega
  | x :: r, h, k + 1, j, t, hk, hj => by
    rw [PT.cellsL, List.getElem?_append_right (by rw [h x (by simp), Nat.succ_mul]; omega), h x (by simp)]
    rw [show (k + 1) * m + j - m = k * m + j by rw [Nat.succ_mul]; omega]
    exact PT.cellsL_at (fun t ht => h t (by simp [ht])) (by simpa using hk) hj
theorem PT.length_cellsL {m : Nat} : ∀ {l : List PT}, (∀ t ∈ l, t.cells.length = m) → (PT.cellsL l).length = l.length * m
  | [], _ => by simp [PT.cellsL]
  | x :: r, h => by
    rw [PT.cellsL, List.length_append, h x (by simp), PT.length_cellsL fun t ht => h t (by simp [ht]), List.length_cons, Nat.succ_mul]; omega

/-- Reading the k-th element of a slice of elements of m cells each. -/
theorem Sees.elem {w : World} {S : Nat → Prop} {A : Option Addr} {l : List PT} (h : Sees w S A (PT.cellsL l)) {m : Nat} (hm : ∀ t ∈ l, t.cells.length = m) (hm0 : 0 < m) {k : Nat} {t : PT} (hk : l[k]? = some t) :
    ∃ b o, A = some ⟨b, o, none⟩ ∧ S b ∧ ∀ j u, t.cells[j]? = some u → w.cell? ⟨b, o + (k * m + j), none⟩ = some u := by
  have ht : t.cells.length = m := hm t (List.mem_of_getElem? hk)
  have h0 : ∃ u, t.cells[0]? = some u := ⟨_, List.getElem?_eq_getElem (by omega)⟩
  obtain ⟨u0, hu0⟩ := h0
  obtain ⟨b, o, hA, hS, _⟩ := h (k * m + 0) u0 (by rw [PT.cellsL_at hm hk hm0, hu0])
  refine ⟨b, o, hA, hS, fun j u hj => ?_⟩
  have hjm : j < m := by
    have := (List.getElem?_eq_some_iff.1 hj).1; omega
  obtain ⟨b', o', hA', _, hc⟩ := h (k * m + j) u (by rw [PT.cellsL_at hm hk hjm, hj])
  rw [hA] at hA'
  obtain ⟨rfl, rfl⟩ : b = b' ∧ o = o' := by simpa using hA'
  exact hc

theorem PT.oneCell : (∀ t : PT, ∀ u ∈ t.cells, u.oneCell' = true) ∧ (∀ l : List PT, ∀ u ∈ PT.cellsL l, u.oneCell' = true) :=
  PT.ind (fun _ _ u hu => by simp [PT.cells] at hu; subst hu; rfl) (fun _ u hu => by simp [PT.cells] at hu; subst hu; rfl) (fun _ u hu => by simp [PT.cells] at hu; subst hu; rfl) (fun _ h => h)
    (fun _ _ _ _ _ u hu => by simp [PT.cells] at hu; subst hu; rfl) (fun u hu => by simp [PT.cellsL] at hu) (fun t r h k u hu => by
      simp only [PT.cellsL, List.mem_append] at hu
      rcases hu with hu | hu
      · exact h u hu
      · exact k u hu)

section
variable {P : Program} (w : World)

/-- append where there is room, whatever type the block bears. -/
theorem run_append_room_any (t ty e e' : TypeId) (i : TypeInfo) (ht : P.underlying t = some (.slice e)) (hi : P.info? e = some i)
    (g sLen sCap : Nat) (cur : Array Value) (hg : w.heap[g]? = some (.cells cur e' (0, 0)))
    (a : Addr) (m c : Nat) (news : List Value) (hl : news.length = m * i.size) (hnews : ∀ j u, news[j]? = some u → w.cell? (a.add j) = some u) (h1 : ∀ u ∈ news, u.oneCell' = true)
    (hroom : sLen + m ≤ sCap) (hfit : sLen * i.size + news.length ≤ cur.size) :
    (Builtin.append_ #[t, t] ty #[.slice (some ⟨g, 0, none⟩) sLen sCap, .slice (some a) m c]).run P w =
      .ok (.slice (some ⟨g, 0, none⟩) (sLen + m) sCap) (w.setRow g (cur.toList.take (sLen * i.size) ++ news ++ cur.toList.drop (sLen * i.size + news.length)).toArray) := by
  have hf := run_firstCells_some (P := P) w i.size m a m c news hl hnews
  have hst := run_storeCells_at P g (sLen * i.size) e' news 0 cur w hg (by simpa using hfit) h1
  simp only [Nat.add_zero] at hst
  simp [Builtin.append_, run_underlying ht, sizeOf, typeInfo, hi, Builtin.lenOf, hroom, hf, Addr.add_lit, hst]

/-- append onto a slice of the call's own, whatever the source. -/
theorem run_append_pt (t ty e : TypeId) (i : TypeInfo) (z : Value) (m bytes : Nat) (ht : P.underlying t = some (.slice e)) (hi : P.info? e = some i) (hz : i.zero = some z)
    (hsize : i.size = m) (hby : i.bytes = bytes) (hzs : z.cells.size = m) (hm0 : 0 < m)
    {S S2 : Nat → Prop} (A A2 : Option Addr) (c c2 n n2 : Nat) (l news : List PT) (hown : Owned w S (.sl A c m l)) (hsee : Sees w S2 A2 (PT.cellsL news)) (hn : n = l.length) (hn2 : n2 = news.length)
    (hmm : ∀ t ∈ news, t.cells.length = m) (hown2 : OwnL w news) (hnd : ((PT.sl A c m l).blocks ++ PT.blocksL news).Nodup) (hS2 : ∀ b ∈ PT.blocksL news, S b) (hSn : S w.heap.size)
    (h63 : n + n2 ≤ maxLen) (hbytes : (n + n2) * bytes ≤ 140737488355328) :
    ∃ A' c' w', (Builtin.append_ #[t, t] ty #[.slice A n c, .slice A2 n2 c2]).run P w = .ok (.slice A' (n + n2) c') w' ∧ Owned w' S (.sl A' c' m (l ++ news)) ∧ Touch (· ∈ PT.rowOf A) w w' ∧ (A' = A ∨ A' = some ⟨w.heap.size, 0, none⟩) := by
  subst hsize; subst hby; subst hn; subst hn2
  have hsmall : l.length + news.length ≤ 9223372036854775807 := by simp only [maxLen] at h63; omega
  have hL1 := PT.length_cellsL hown.1.1
  have hL2 := PT.length_cellsL hmm
  have hmm' : ∀ t ∈ l ++ news, t.cells.length = i.size := fun t ht => by
    rcases List.mem_append.1 ht with h | h
    · exact hown.1.1 t h
    · exact hmm t h
  have hLL := PT.length_cellsL hmm'
  have h1 : ∀ u ∈ PT.cellsL news, u.oneCell' = true := PT.oneCell.2 news
  have hnd' := List.nodup_append.1 hnd
  have hlt := own_lt.1 _ hown.1
  have hlt2 := own_lt.2 _ hown2
  -- the new block, where the row must grow
  have grown : ∀ old, Owned (w.drew.alloc (.cells ((PT.cellsL l).toArray ++ (PT.cellsL news).toArray ++ Builtin.zeroCells z.cells (grownCap w (l.length + news.length) old e - (l.length + news.length))) e)) S
      (.sl (some ⟨w.heap.size, 0, none⟩) (grownCap w (l.length + news.length) old e) i.size (l ++ news)) ∧
      Touch (· ∈ PT.rowOf A) w (w.drew.alloc (.cells ((PT.cellsL l).toArray ++ (PT.cellsL news).toArray ++ Builtin.zeroCells z.cells (grownCap w (l.length + news.length) old e - (l.length + news.length))) e)) := by
    intro old
    have hge := grownCap_ge w (l.length + news.length) old e
    have hcm : grownCap w (l.length + news.length) old e ≤ maxLen := grownCap_le_maxLen w (l.length + news.length) old e h63
    have hkeep : ∀ b, b < w.heap.size → ∀ o, (w.drew.alloc o).heap[b]? = w.heap[b]? := fun b hb o => Below.heap_alloc w.drew o b hb
    refine ⟨⟨own_of_block hmm' hLL (heap_alloc_new w.drew _) (by simpa using hge) hcm ?_ ?_ (OwnL.of_get fun t ht => ?_), ?_, ?_⟩, ⟨rfl, rfl, rfl, by simp, fun b hb _ => hkeep b hb _⟩⟩
    · simp only [Array.size_append, List.size_toArray, size_zeroCells, hzs, hL1, hL2, ← Nat.add_mul]
      congr 1
      omega
    · simp only [Array.toList_append, PT.cellsL_append, List.append_assoc]
      rw [← List.append_assoc, show (l ++ news).length * i.size = (PT.cellsL l ++ PT.cellsL news).length by simp only [List.length_append, hL1, hL2, Nat.add_mul]]
      exact List.take_left
    · rcases List.mem_append.1 ht with h | h
      · exact own_keep.1 t (OwnL.get hown.1.2.2 h) fun b hb => hkeep b (hlt b (by simp only [PT.blocks, List.mem_append]; exact .inr (PT.mem_blocksL.2 ⟨t, h, hb⟩))) _
      · exact own_keep.1 t (OwnL.get hown2 h) fun b hb => hkeep b (hlt2 b (PT.mem_blocksL.2 ⟨t, h, hb⟩)) _
    · have h2 : (PT.blocksL l).Nodup := (List.nodup_append.1 hnd'.1).2.1
      simp only [PT.blocks, PT.rowOf, PT.blocksL_append, List.singleton_append, List.nodup_cons, List.nodup_append, List.mem_append, not_or]
      refine ⟨⟨fun h => ?_, fun h => ?_⟩, h2, hnd'.2.1, fun a ha b hb => hnd'.2.2 a (by simp only [PT.blocks, List.mem_append]; exact .inr ha) b hb⟩
      · exact Nat.lt_irrefl _ (hlt _ (by simp only [PT.blocks, List.mem_append]; exact .inr h))
      · exact Nat.lt_irrefl _ (hlt2 _ h)
    · intro b hb
      simp only [PT.blocks, PT.rowOf, PT.blocksL_append, List.mem_append, List.mem_singleton] at hb
      rcases hb with rfl | hb | hb
      · exact hSn
      · exact hown.2.2 b (by simp only [PT.blocks, List.mem_append]; exact .inr hb)
      · exact hS2 b hb
  by_cases hz2 : news = []
  · subst hz2
    refine ⟨A, c, w, ?_, by simpa using hown, Touch.refl _ _, .inl rfl⟩
    rcases own_row hown.1 with ⟨rfl, rfl, rfl⟩ | ⟨g, cur, e', rfl, hg, hnc, hcm, hcs, htake⟩
    · cases A2 <;> simp [Builtin.append_, run_underlying ht, sizeOf, typeInfo, hi, Builtin.lenOf, Builtin.firstCells, loadCells, loadCellsFrom]
    · cases A2 <;> simp [Builtin.append_, run_underlying ht, sizeOf, typeInfo, hi, Builtin.lenOf, Builtin.firstCells, hnc, storeCells, loadCells, loadCellsFrom]
  · obtain ⟨b2, o2, hA2, _⟩ : ∃ b o, A2 = some ⟨b, o, none⟩ ∧ S2 b := by
      have hp : 0 < (PT.cellsL news).length := by
        rw [hL2]; exact Nat.mul_pos (List.length_pos_iff.2 hz2) hm0
      obtain ⟨b, o, h2, h3, _⟩ := hsee 0 _ (List.getElem?_eq_getElem hp)
      exact ⟨b, o, h2, h3⟩
    subst hA2
    have hpos : 0 < news.length := List.length_pos_iff.2 hz2
    have hnews : ∀ j u, (PT.cellsL news)[j]? = some u → w.cell? ((⟨b2, o2, none⟩ : Addr).add j) = some u := fun j u hj => by
      obtain ⟨b, o, hA, _, hc⟩ := hsee j u hj
      simp only [Option.some.injEq, Addr.mk.injEq, and_true] at hA
      obtain ⟨rfl, rfl⟩ := hA
      rw [Addr.add_lit]; exact hc
    rcases own_row hown.1 with ⟨rfl, rfl, rfl⟩ | ⟨g, cur, e', rfl, hg, hnc, hcm, hcs, htake⟩
    · have hr := run_append_nil (P := P) w t ty e i z ht hi hz ⟨b2, o2, none⟩ news.length c2 (PT.cellsL news) hL2 hnews (by omega) (by simp at hsmall; omega) (by have hb := hbytes; simp only [List.length_nil, Nat.zero_add] at hb; omega)
      have hgr := grown 0
      simp only [List.length_nil, Nat.zero_add, List.nil_append, PT.cellsL, Array.empty_append] at hgr hr ⊢
      exact ⟨_, _, _, hr, hgr.1, hgr.2, .inr rfl⟩
    · by_cases hroom : l.length + news.length ≤ c
      · have hfit : l.length * i.size + (PT.cellsL news).length ≤ cur.size := by rw [hL2, hcs, ← Nat.add_mul]; exact Nat.mul_le_mul_right _ hroom
        have hr := run_append_room_any (P := P) w t ty e e' i ht hi g l.length c cur hg ⟨b2, o2, none⟩ news.length c2 (PT.cellsL news) hL2 hnews h1 hroom hfit
        have hother : ∀ b, b ≠ g → ∀ d, (w.setRow g d).heap[b]? = w.heap[b]? := fun b hb d => setRow_other w g b _ hb
        refine ⟨_, _, _, hr, ⟨own_of_block hmm' hLL (setRow_heap w g cur _ e' _ hg) (by simpa using hroom) hcm ?_ ?_ (OwnL.of_get fun t ht => ?_), ?_, ?_⟩, ⟨rfl, rfl, rfl, by simp, fun b _ hb => hother b (fun h => hb (by simp [PT.rowOf, h])) _⟩, .inl rfl⟩
        · simp only [List.size_toArray, List.length_append, List.length_take, List.length_drop, Array.length_toList]
          omega
        · rw [htake, PT.cellsL_append, show (l ++ news).length * i.size = (PT.cellsL l ++ PT.cellsL news).length by simp only [List.length_append, hL1, hL2, Nat.add_mul]]
          exact List.take_left
        · have hgn : ∀ b ∈ PT.blocksL l, b ≠ g := fun b hb h => by
            have := (List.nodup_append.1 hnd'.1).2.2 g (by simp [PT.rowOf]) b hb
            exact this h.symm
          have hgn2 : ∀ b ∈ PT.blocksL news, b ≠ g := fun b hb h => hnd'.2.2 g (by simp [PT.blocks, PT.rowOf]) b hb h.symm
          rcases List.mem_append.1 ht with h | h
          · exact own_keep.1 t (OwnL.get hown.1.2.2 h) fun b hb => hother b (hgn b (PT.mem_blocksL.2 ⟨t, h, hb⟩)) _
          · exact own_keep.1 t (OwnL.get hown2 h) fun b hb => hother b (hgn2 b (PT.mem_blocksL.2 ⟨t, h, hb⟩)) _
        · simpa [PT.blocks, PT.blocksL_append] using hnd
        · intro b hb
          simp only [PT.blocks, PT.blocksL_append, List.mem_append] at hb
          rcases hb with hb | hb | hb
          · exact hown.2.2 b (by simp only [PT.blocks, List.mem_append]; exact .inl hb)
          · exact hown.2.2 b (by simp only [PT.blocks, List.mem_append]; exact .inr hb)
          · exact hS2 b hb
      · have holds : ∀ j u, (PT.cellsL l)[j]? = some u → w.cell? ((⟨g, 0, none⟩ : Addr).add j) = some u := fun j u hj => by
          rw [Addr.add_lit, Nat.zero_add, cell_of_row w g j cur e' (0, 0) hg]
          rw [← htake, List.getElem?_take] at hj
          split at hj
          · simpa using hj
          · cases hj
        have hr := run_append_grow (P := P) w t ty e i z ht hi hz ⟨g, 0, none⟩ l.length c (PT.cellsL l) hL1 holds ⟨b2, o2, none⟩ news.length c2 (PT.cellsL news) hL2 hnews (by omega) (by omega) (growslice_fits (by omega) hbytes)
        exact ⟨_, _, _, hr, (grown c).1, (grown c).2, .inr rfl⟩
end

section
variable {P : Program} (w : World)
theorem wp_append_pt {o : Oper} {a : Act} {K : Act → World → Prop} {Q : Exit → Act → World → Prop} (s x : Operand) (t : TypeId)
    (ho : o.op = .call { callee := .builtin .append, args := #[s, x], argTypes := #[t, t] }) (e : TypeId) (i : TypeInfo) (z : Value) (m bytes : Nat) (ht : P.underlying t = some (.slice e)) (hi : P.info? e = some i) (hz : i.zero = some z)
    (hsize : i.size = m) (hby : i.bytes = bytes) (hzs : z.cells.size = m) (hm0 : 0 < m)
    {S S2 : Nat → Prop} (A A2 : Option Addr) (c c2 n n2 : Nat) (l news : List PT) (hs : a.eval s = .slice A n c) (hx : a.eval x = .slice A2 n2 c2) (hown : Owned w S (.sl A c m l)) (hsee : Sees w S2 A2 (PT.cellsL news)) (hn : n = l.length) (hn2 : n2 = news.length)
    (hmm : ∀ t ∈ news, t.cells.length = m) (hown2 : OwnL w news) (hnd : ((PT.sl A c m l).blocks ++ PT.blocksL news).Nodup) (hS2 : ∀ b ∈ PT.blocksL news, S b) (hSn : S w.heap.size)
    (h63 : n + n2 ≤ maxLen) (hbytes : (n + n2) * bytes ≤ 140737488355328)
    (h : ∀ A' c' w', Owned w' S (.sl A' c' m (l ++ news)) → Touch (· ∈ PT.rowOf A) w w' → (A' = A ∨ A' = some ⟨w.heap.size, 0, none⟩) → K (a.put o.dst (.slice A' (n + n2) c')) w') : o.wp P a w K Q := by
  obtain ⟨A', c', w', hr, h1, h2, h3⟩ := run_append_pt (P := P) w t o.type e i z m bytes ht hi hz hsize hby hzs hm0 A A2 c c2 n n2 l news hown hsee hn hn2 hmm hown2 hnd hS2 hSn h63 hbytes
  unfold Oper.wp execOp
  simp only [ho, resolve, invoke, builtin, Sem.run_bind, Sem.run_pure, Result.andThen_ok, List.map_toArray, List.map_cons, List.map_nil, hs, hx, hr]
  exact h A' c' w' h1 h2 h3
/-- append, as a law for the walk. -/
theorem wpList_append_pt {ops : Array Oper} {rest : List Oper} {o : Oper} {a : Act} {Q : Exit → Act → World → Prop} (hgd : o.guard = none) (s x : Operand) (t : TypeId)
    (ho : o.op = .call { callee := .builtin .append, args := #[s, x], argTypes := #[t, t] }) (e : TypeId) (i : TypeInfo) (z : Value) (m bytes : Nat) (ht : P.underlying t = some (.slice e)) (hi : P.info? e = some i) (hz : i.zero = some z)
    (hsize : i.size = m) (hby : i.bytes = bytes) (hzs : z.cells.size = m) (hm0 : 0 < m)
    {S S2 : Nat → Prop} (A A2 : Option Addr) (c c2 n n2 : Nat) (l news : List PT) (hs : a.eval s = .slice A n c) (hx : a.eval x = .slice A2 n2 c2) (hown : Owned w S (.sl A c m l)) (hsee : Sees w S2 A2 (PT.cellsL news)) (hn : n = l.length) (hn2 : n2 = news.length)
    (hmm : ∀ t ∈ news, t.cells.length = m) (hown2 : OwnL w news) (hnd : ((PT.sl A c m l).blocks ++ PT.blocksL news).Nodup) (hS2 : ∀ b ∈ PT.blocksL news, S b) (hSn : S w.heap.size)
    (h63 : n + n2 ≤ maxLen) (hbytes : (n + n2) * bytes ≤ 140737488355328)
    (h : ∀ A' c' w', Owned w' S (.sl A' c' m (l ++ news)) → Touch (· ∈ PT.rowOf A) w w' → (A' = A ∨ A' = some ⟨w.heap.size, 0, none⟩) → wpList P ops Q rest (a.put o.dst (.slice A' (n + n2) c')) w') : wpList P ops Q (o :: rest) a w :=
  wpList_plain hgd fun _ hK => wp_append_pt w s x t ho e i z m bytes ht hi hz hsize hby hzs hm0 A A2 c c2 n n2 l news hs hx hown hsee hn hn2 hmm hown2 hnd hS2 hSn h63 hbytes fun A' c' w' h1 h2 h3 => hK _ _ (h A' c' w' h1 h2 h3)
end

theorem sees_new (w : World) (cs : Array Value) (e : TypeId) : Sees (w.alloc (.cells cs e)) (fun _ => True) (some ⟨w.heap.size, 0, none⟩) cs.toList := fun j u hj =>
  ⟨_, _, rfl, trivial, by rw [Nat.zero_add, World.cell?_alloc_new]; simpa using hj⟩

/-- 'append(s, x)' of one element without slices of its own. -/
theorem wpList_append_one {P : Program} {ops : Array Oper} {rest : List Oper} {o : Oper} {a : Act} {Q : Exit → Act → World → Prop} {w : World} (hgd : o.guard = none) (s x : Operand) (t e : TypeId) (z : Value) (m bytes : Nat)
    (ho : o.op = .call { callee := .builtin .append, args := #[s, x], argTypes := #[t, t] }) (ht : P.underlying t = some (.slice e)) (hinfo : (P.info? e).map (fun i => (i.zero, i.size, i.bytes)) = some (some z, m, bytes)) (hzs : z.cells.size = m) (hm0 : 0 < m)
    {S : Nat → Prop} (A : Option Addr) (c n : Nat) (l : List PT) (el : PT)
    (hs : a.eval s = .slice A n c) (hx : a.eval x = .slice (some ⟨w.heap.size, 0, none⟩) 1 1) (hown : Owned w S (.sl A c m l)) (hn : n = l.length) (hel : el.cells.length = m) (hob : Own w el) (hbl : el.blocks = []) (hS : S (w.heap.size + 1)) (hl : n ≤ 1000000000) (hb : bytes ≤ 1000)
    (h : ∀ A' c' w', Owned w' S (.sl A' c' m (l ++ [el])) → Touch (· ∈ PT.rowOf A) w w' → (∀ g, A = some ⟨g, 0, none⟩ → ∃ g', A' = some ⟨g', 0, none⟩) → wpList P ops Q rest (a.put o.dst (.slice A' (n + 1) c')) w') :
    wpList P ops Q (o :: rest) a (w.alloc (.cells el.cells.toArray e)) := by
  obtain ⟨i0, hi0, hz0, hz1, hz2⟩ := info_parts hinfo
  refine wpList_append_pt (w.alloc (.cells el.cells.toArray e)) hgd s x _ ho e i0 _ m bytes ht hi0 hz0 hz1 hz2 hzs hm0 (S := S) A _ c 1 n 1 l [el] hs hx (hown.ext (Ext.alloc1 w _)) (by simpa [PT.cellsL] using sees_new w el.cells.toArray e) hn rfl (by simpa using hel) ⟨own_keep.1 el hob (by simp [hbl]), trivial⟩
    (by simpa [PT.blocksL, hbl] using hown.2.1) (by simp [PT.blocksL, hbl]) (by simpa using hS) (by simp only [maxLen]; omega) ?_ fun A' c' w' h1 h2 h3 => ?_
  · have : (n + 1) * bytes ≤ 1000000001 * 1000 := Nat.mul_le_mul (by omega) hb
    omega
  · refine h A' c' w' h1 ((Touch.of_below ((Below.refl _ _).alloc (Nat.le_refl _) _) _).trans h2) fun g hg => ?_
    rcases h3 with rfl | rfl
    · exact ⟨g, hg⟩
    · exact ⟨_, rfl⟩

/-- A made slice without elements. -/
theorem owned_made {w : World} {S : Nat → Prop} (e : TypeId) (m : Nat) (hS : S w.heap.size) : Owned (w.alloc (.cells #[] e)) S (.sl (some ⟨w.heap.size, 0, none⟩) 0 m []) :=
  ⟨own_of_block (by simp) (by simp [PT.cellsL]) (heap_alloc_new w _) (by simp) (by simp) (by simp) (by simp [PT.cellsL]) trivial, by simp [PT.blocks, PT.blocksL, PT.rowOf], by simpa [PT.blocks, PT.blocksL, PT.rowOf] using hS⟩

end Go.Proofs.YtiihihgjiklnoaaGreatDoor
