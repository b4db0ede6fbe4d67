/- Part 1 of the proof: the texts Base, Str, Shelf, Num, SelPure, Sel, Ty, Mem, Types, Row. -/
import Derived.WalkKit
import Derived.WalkSpells
import Derived.WalkLawsBesides
import Derived.Deep.LoopGhost
import Derived.Deep.OwnRows
import Derived.Lib.Hide
import Derived.Handy
import Derived.Maps.AppendAt
import Derived.Deep.AppendLies
import Derived.RegionTactic
import Derived.OwnWalk
import Derived.Test.YtdeokcbbjibkoaaDoorChecked
import Derived.Deep.QuietTactic
import Derived.BigQuiet
import Derived.Lib.Strings
import Derived.WideShapes
import Derived.Shelf.Strings.Builder1
import Derived.Shelf.Strings.Builder2
import Derived.Shelf.Strings.OnBuilder
import Derived.Shelf.Small.Bits
import Derived.Shelf.Small.Wraps
import Derived.Shelf.Utf8.RuneCount
import Derived.Shelf.Strconv.Itoa0
import Derived.Shelf.Strconv.Itoa1
import Derived.Shelf.LaysM
import Derived.Shelf.Strconv.Itoa2
import Derived.Shelf.Strconv.Itoa3
import Derived.Shelf.Strings.Search1
import Derived.Shelf.Strings.Search2
import Derived.Shelf.Strings.Search3
import Derived.Shelf.Strings.Count
import Derived.Shelf.Strings.Shaped
import Derived.Shelf.Sort.Plain
import Derived.Shelf.Strings.Prefix
import Derived.Shelf.Strings.Split
import Derived.Shelf.Strings.SplitShaped
import Derived.Shelf.Unicode.Decode
import Derived.Shelf.Strings.RuneCount
import Derived.Shelf.Strings.Explode
import Derived.Shelf.Bits.Mul64
import Derived.Shelf.Unicode.DecodeSlow
import Derived.Shelf.Unicode.DecodeAny
import Derived.Ground.Names2Prog
import Derived.Shelf.Slices.SearchI
import Derived.Shelf.Slices.In.SortNone
import Derived.Test.YtdeokcbbjibkoaaDoorProg
import Derived.Lib.AppendIntMem
import Derived.Lib.SplitLaws
import Derived.Deep.RegionLaw
import Derived.ProofKit
import Derived.Deep.Slices
import Derived.Test.YtdeokcbbjibkoaaDoorRows
import Derived.Shelf.Vars
import Derived.Lib.LaidU8
import Derived.Lib.LaidTab
import Derived.Lay
import Derived.MakeChecks
import Derived.OpenShut
import Derived.ShutString
import Derived.ChangeOld
import Derived.Handed
/- The vocabulary of memory that all proofs of this seat share: a value in memory as a tree with its addresses, what of it can be read, and what of it a call owns. Plain definitions and lemmas. -/
namespace Go.Proofs.YtdeokcbbjibkoaaDoor
open Go Go.RowKit

/-- A datum: what a value in memory says, its addresses left out. -/
inductive D where
  | int (k : IntKind) (n : Int)
  | bool (b : Bool)
  | str (s : ByteArray)
  | agg (l : List D)
  | sl (l : List D)

/-- A value with its addresses. -/
inductive PT where
  | int (k : IntKind) (n : Int)
  | bool (b : Bool)
  | str (s : ByteArray)
  | agg (l : List PT)
  | sl (A : Option Addr) (c m : Nat) (l : List PT)

namespace PT
mutual
def cells : PT → List Value
  | .int k n => [.int k n]
  | .bool b => [.bool b]
  | .str s => [.string s]
  | .agg l => cellsL l
  | .sl A c _ l => [.slice A l.length c]
def cellsL : List PT → List Value
  | [] => []
  | t :: r => cells t ++ cellsL r
end
mutual
def data : PT → D
  | .int k n => .int k n
  | .bool b => .bool b
  | .str s => .str s
  | .agg l => .agg (dataL l)
  | .sl _ _ _ l => .sl (dataL l)
def dataL : List PT → List D
  | [] => []
  | t :: r => data t :: dataL r
end
def value : PT → Value
  | .int k n => .int k n
  | .bool b => .bool b
  | .str s => .string s
  | .agg l => .agg (cellsL l).toArray
  | .sl A c _ l => .slice A l.length c
def rowOf : Option Addr → List Nat
  | some a => [a.block]
  | none => []
mutual
def blocks : PT → List Nat
  | .agg l => blocksL l
  | .sl A _ _ l => rowOf A ++ blocksL l
  | _ => []
def blocksL : List PT → List Nat
  | [] => []
  | t :: r => blocks t ++ blocksL r
end
end PT

/-- From the address A on stand the cells xs, in blocks that satisfy S. -/
def Sees (w : World) (S : Nat → Prop) (A : Option Addr) (xs : List Value) : Prop :=
  ∀ j u, xs[j]? = some u → ∃ b o, A = some ⟨b, o, none⟩ ∧ S b ∧ w.cell? ⟨b, o + j, none⟩ = some u

mutual
/-- All that the tree says can be read in w, in blocks that satisfy S. -/
def Seen (w : World) (S : Nat → Prop) : PT → Prop
  | .agg l => SeenL w S l
  | .sl A c m l => l.length ≤ c ∧ c ≤ maxLen ∧ Sees w S A (PT.cellsL l) ∧ (∀ t ∈ l, t.cells.length = m) ∧ SeenL w S l
  | _ => True
def SeenL (w : World) (S : Nat → Prop) : List PT → Prop
  | [] => True
  | t :: r => Seen w S t ∧ SeenL w S r
end

mutual
/-- Every slice of the tree is a block of its own, which holds the slice's cells from its first cell on. -/
def Own (w : World) : PT → Prop
  | .agg l => OwnL w l
  | .sl A c m l => (∀ t ∈ l, t.cells.length = m) ∧ (∃ e, w.ownsRow 0 e m (.slice A l.length c) l.length (PT.cellsL l)) ∧ OwnL w l
  | _ => True
def OwnL (w : World) : List PT → Prop
  | [] => True
  | t :: r => Own w t ∧ OwnL w r
end

/-- Owned and nowhere shared, all in blocks that satisfy S. -/
def Owned (w : World) (S : Nat → Prop) (t : PT) : Prop := Own w t ∧ t.blocks.Nodup ∧ ∀ b ∈ t.blocks, S b

theorem PT.blocksL_append (l m : List PT) : PT.blocksL (l ++ m) = PT.blocksL l ++ PT.blocksL m := by
  induction l with
  | nil => rfl
  | cons t r ih => simp [PT.blocksL, ih]
theorem PT.cellsL_append (l m : List PT) : PT.cellsL (l ++ m) = PT.cellsL l ++ PT.cellsL m := by
  induction l with
  | nil => rfl
  | cons t r ih => simp [PT.cellsL, ih]
/-- Trees: a proof by their make, lists of trees beside. -/
theorem PT.ind {p : PT → Prop} {q : List PT → Prop} (hi : ∀ k n, p (.int k n)) (hb : ∀ b, p (.bool b)) (hs : ∀ s, p (.str s)) (ha : ∀ l, q l → p (.agg l)) (hl : ∀ A c m l, q l → p (.sl A c m l))
    (hn : q []) (hc : ∀ t r, p t → q r → q (t :: r)) : (∀ t, p t) ∧ (∀ l, q l) :=
  ⟨fun t => PT.rec (motive_1 := p) (motive_2 := q) hi hb hs ha hl hn hc t, fun l => PT.rec_1 (motive_1 := p) (motive_2 := q) hi hb hs ha hl hn hc l⟩

section
variable {w w' : World} {S S' : Nat → Prop}

theorem Sees.nil (w : World) (S : Nat → Prop) (A : Option Addr) : Sees w S A [] := fun j u h => by simp at h
theorem Sees.keep {A : Option Addr} {xs : List Value} (h : Sees w S A xs) (hk : ∀ b, S b → w'.heap[b]? = w.heap[b]?) (hm : ∀ b, S b → b < w.heap.size → S' b) : Sees w' S' A xs := by
  intro j u hj
  obtain ⟨b, o, hA, hS, hc⟩ := h j u hj
  exact ⟨b, o, hA, hm b hS (World.block_lt_of_cell? w _ hc), (World.cell?_of_block (w := w) (w' := w') (a := ⟨b, o + j, none⟩) (hk b hS)).trans hc⟩

theorem seen_keep (hk : ∀ b, S b → w'.heap[b]? = w.heap[b]?) (hm : ∀ b, S b → b < w.heap.size → S' b) : (∀ t, Seen w S t → Seen w' S' t) ∧ (∀ l, SeenL w S l → SeenL w' S' l) :=
  PT.ind (fun _ _ _ => trivial) (fun _ _ => trivial) (fun _ _ => trivial) (fun _ h k => h k)
    (fun _ _ _ _ h k => ⟨k.1, k.2.1, k.2.2.1.keep hk hm, k.2.2.2.1, h k.2.2.2.2⟩) (fun _ => trivial) (fun _ _ h k m => ⟨h m.1, k m.2⟩)

theorem Seen.keep {t : PT} (h : Seen w S t) (hk : ∀ b, S b → w'.heap[b]? = w.heap[b]?) (hm : ∀ b, S b → b < w.heap.size → S' b) : Seen w' S' t := (seen_keep hk hm).1 t h
theorem SeenL.keep {t : List PT} (h : SeenL w S t) (hk : ∀ b, S b → w'.heap[b]? = w.heap[b]?) (hm : ∀ b, S b → b < w.heap.size → S' b) : SeenL w' S' t := (seen_keep hk hm).2 t h

/-- What lies below B is there when nothing below B has turned. -/
theorem Seen.below {B : Nat} {t : PT} (h : Seen w (· < B) t) (hb : Below B w w') : Seen w' (· < B) t := h.keep (fun b hB => hb.block b hB) (fun _ h _ => h)
theorem SeenL.below {B : Nat} {t : List PT} (h : SeenL w (· < B) t) (hb : Below B w w') : SeenL w' (· < B) t := h.keep (fun b hB => hb.block b hB) (fun _ h _ => h)
theorem Sees.below {B : Nat} {A : Option Addr} {xs : List Value} (h : Sees w (· < B) A xs) (hb : Below B w w') : Sees w' (· < B) A xs := h.keep (fun b hB => hb.block b hB) (fun _ h _ => h)
theorem Seen.mono {t : PT} (h : Seen w S t) (hm : ∀ b, S b → b < w.heap.size → S' b) : Seen w S' t := h.keep (fun _ _ => rfl) hm
theorem SeenL.mono {t : List PT} (h : SeenL w S t) (hm : ∀ b, S b → b < w.heap.size → S' b) : SeenL w S' t := h.keep (fun _ _ => rfl) hm
theorem Sees.mono {A : Option Addr} {xs : List Value} (h : Sees w S A xs) (hm : ∀ b, S b → b < w.heap.size → S' b) : Sees w S' A xs := h.keep (fun _ _ => rfl) hm
/-- All that is seen lies in blocks that are there. -/
theorem Seen.here {t : PT} (h : Seen w S t) : Seen w (· < w.heap.size) t := h.mono fun _ _ h => h
theorem SeenL.here {t : List PT} (h : SeenL w S t) : SeenL w (· < w.heap.size) t := h.mono fun _ _ h => h
theorem Sees.here {A : Option Addr} {xs : List Value} (h : Sees w S A xs) : Sees w (· < w.heap.size) A xs := h.mono fun _ _ h => h

theorem SeenL.get {l : List PT} (h : SeenL w S l) {i : Nat} {t : PT} (hi : l[i]? = some t) : Seen w S t := by
  induction l generalizing i with
  | nil => simp at hi
  | cons x r ih =>
    cases i with
    | zero => simp at hi; subst hi; exact h.1
    | succ i => exact ih h.2 (by simpa using hi)
theorem SeenL.of_get {l : List PT} (h : ∀ t ∈ l, Seen w S t) : SeenL w S l := by
  induction l with
  | nil => trivial
  | cons x r ih => exact ⟨h x (by simp), ih fun t ht => h t (by simp [ht])⟩
theorem OwnL.get {l : List PT} (h : OwnL w l) {t : PT} (hi : t ∈ l) : Own w t := by
  induction l with
  | nil => simp at hi
  | cons x r ih =>
    rcases List.mem_cons.1 hi with rfl | hi
    · exact h.1
    · exact ih h.2 hi
theorem OwnL.of_get {l : List PT} (h : ∀ t ∈ l, Own w t) : OwnL w l := by
  induction l with
  | nil => trivial
  | cons x r ih => exact ⟨h x (by simp), ih fun t ht => h t (by simp [ht])⟩

theorem PT.mem_blocksL {l : List PT} {b : Nat} : b ∈ PT.blocksL l ↔ ∃ t ∈ l, b ∈ t.blocks := by
  induction l with
  | nil => simp [PT.blocksL]
  | cons x r ih => simp [PT.blocksL, ih]

theorem own_row {A : Option Addr} {c m : Nat} {l : List PT} (h : Own w (.sl A c m l)) :
    (A = none ∧ c = 0 ∧ l = []) ∨ ∃ g cur e, A = some ⟨g, 0, none⟩ ∧ w.heap[g]? = some (.cells cur e (0, 0)) ∧ l.length ≤ c ∧ c ≤ maxLen ∧ cur.size = c * m ∧ cur.toList.take (l.length * m) = PT.cellsL l := by
  obtain ⟨_, ⟨e, _, h1 | ⟨g, cap, cur, hv, _, hg, hn, hc, hs, ht⟩⟩, _⟩ := h
  · obtain ⟨h1, h2⟩ := h1
    simp only [Value.slice.injEq] at h1
    exact .inl ⟨h1.1, h1.2.2, List.eq_nil_of_length_eq_zero h2⟩
  · simp only [Value.slice.injEq, true_and] at hv
    obtain ⟨rfl, rfl⟩ := hv
    exact .inr ⟨g, cur, e, rfl, hg, hn, hc, hs, ht⟩
theorem own_of_block {g c m : Nat} {cur : Array Value} {e : TypeId} {l : List PT} (hm : ∀ t ∈ l, t.cells.length = m) (hL : (PT.cellsL l).length = l.length * m) (hg : w.heap[g]? = some (.cells cur e (0, 0))) (hn : l.length ≤ c) (hc : c ≤ maxLen) (hs : cur.size = c * m)
    (ht : cur.toList.take (l.length * m) = PT.cellsL l) (ho : OwnL w l) : Own w (.sl (some ⟨g, 0, none⟩) c m l) :=
  ⟨hm, ⟨e, hL, .inr ⟨g, c, cur, rfl, Nat.zero_le _, hg, hn, hc, hs, ht⟩⟩, ho⟩
theorem own_nil (w : World) (m : Nat) : Own w (.sl none 0 m []) := ⟨by simp, ⟨0, by simp [PT.cellsL], .inl ⟨rfl, rfl⟩⟩, trivial⟩

/-- What is owned is seen. -/
theorem own_seen : (∀ t, Own w t → (∀ b ∈ t.blocks, S b) → Seen w S t) ∧ (∀ l, OwnL w l → (∀ b ∈ PT.blocksL l, S b) → SeenL w S l) :=
  PT.ind (fun _ _ _ _ => trivial) (fun _ _ _ => trivial) (fun _ _ _ => trivial) (fun _ h k m => h k m)
    (fun A c m l h k hS => by
      rcases own_row k with ⟨rfl, rfl, rfl⟩ | ⟨g, cur, e, rfl, hg, hl, hc, _, ht⟩
      · exact ⟨by simp, by simp, Sees.nil _ _ _, by simp, trivial⟩
      · refine ⟨hl, hc, fun j u hj => ⟨g, 0, rfl, hS g (by simp [PT.blocks, PT.rowOf]), ?_⟩, k.1, h k.2.2 fun b hb => hS b (by simp [PT.blocks, hb])⟩
        rw [Nat.zero_add, cell_of_row w g j cur e (0, 0) hg]
        rw [← ht, List.getElem?_take] at hj
        split at hj
        · simpa using hj
        · cases hj)
    (fun _ _ => trivial) (fun t r h k m n => ⟨h m.1 fun b hb => n b (by simp [PT.blocksL, hb]), k m.2 fun b hb => n b (by simp [PT.blocksL, hb])⟩)

theorem Owned.seen {t : PT} (h : Owned w S t) : Seen w S t := own_seen.1 t h.1 h.2.2

theorem own_keep : (∀ t, Own w t → (∀ b ∈ t.blocks, w'.heap[b]? = w.heap[b]?) → Own w' t) ∧ (∀ l, OwnL w l → (∀ b ∈ PT.blocksL l, w'.heap[b]? = w.heap[b]?) → OwnL w' l) :=
  PT.ind (fun _ _ _ _ => trivial) (fun _ _ _ => trivial) (fun _ _ _ => trivial) (fun _ h k m => h k m)
    (fun A c m l h k hb => by
      refine ⟨k.1, ?_, h k.2.2 fun b hb' => hb b (by simp [PT.blocks, hb'])⟩
      obtain ⟨_, ⟨e, h0, h1⟩, _⟩ := k
      rcases h1 with h1 | ⟨g, cap, cur, hv, h2, hg, h3⟩
      · exact ⟨e, h0, .inl h1⟩
      · refine ⟨e, h0, .inr ⟨g, cap, cur, hv, h2, ?_, h3⟩⟩
        simp only [Value.slice.injEq] at hv
        obtain ⟨rfl, _⟩ := hv
        exact (hb g (by simp [PT.blocks, PT.rowOf])).trans hg)
    (fun _ _ => trivial) (fun t r h k m n => ⟨h m.1 fun b hb => n b (by simp [PT.blocksL, hb]), k m.2 fun b hb => n b (by simp [PT.blocksL, hb])⟩)

theorem own_lt : (∀ t, Own w t → ∀ b ∈ t.blocks, b < w.heap.size) ∧ (∀ l, OwnL w l → ∀ b ∈ PT.blocksL l, b < w.heap.size) :=
  PT.ind (fun _ _ _ b hb => by simp [PT.blocks] at hb) (fun _ _ b hb => by simp [PT.blocks] at hb) (fun _ _ b hb => by simp [PT.blocks] at hb) (fun _ h k b hb => h k b hb)
    (fun A c m l h k b hb => by
      have h2 := k.2.2
      rcases own_row k with ⟨rfl, rfl, rfl⟩ | ⟨g, cur, e, rfl, hg, _⟩
      · simp [PT.blocks, PT.blocksL, PT.rowOf] at hb
      · simp only [PT.blocks, PT.rowOf, List.mem_append, List.mem_singleton] at hb
        rcases hb with rfl | hb
        · exact (Array.getElem?_eq_some_iff.1 hg).1
        · exact h h2 b hb)
    (fun _ b hb => by simp [PT.blocksL] at hb) (fun t r h k m b hb => by
      simp only [PT.blocksL, List.mem_append] at hb
      rcases hb with hb | hb
      · exact h m.1 b hb
      · exact k m.2 b hb)

theorem Owned.keep {t : PT} (h : Owned w S t) (hk : ∀ b, S b → b < w.heap.size → w'.heap[b]? = w.heap[b]?) : Owned w' S t :=
  ⟨own_keep.1 t h.1 fun b hb => hk b (h.2.2 b hb) (own_lt.1 t h.1 b hb), h.2.1, h.2.2⟩
theorem Owned.mono {t : PT} (h : Owned w S t) (hm : ∀ b, S b → b < w.heap.size → S' b) : Owned w S' t :=
  ⟨h.1, h.2.1, fun b hb => hm b (h.2.2 b hb) (own_lt.1 t h.1 b hb)⟩
theorem Owned.below {t : PT} (h : Owned w S t) (hb : Below w.heap.size w w') : Owned w' S t := h.keep fun b _ hlt => hb.block b hlt
end

/-- Only blocks that satisfy T have turned. -/
structure Touch (T : Nat → Prop) (w w' : World) : Prop where
  os : w'.os = w.os
  tape : w'.tape = w.tape
  output : w'.output = w.output
  size : w.heap.size ≤ w'.heap.size
  block : ∀ b, b < w.heap.size → ¬ T b → w'.heap[b]? = w.heap[b]?
theorem Touch.refl (T : Nat → Prop) (w : World) : Touch T w w := ⟨rfl, rfl, rfl, Nat.le_refl _, fun _ _ _ => rfl⟩
theorem Touch.trans {T : Nat → Prop} {a b c : World} (h : Touch T a b) (k : Touch T b c) : Touch T a c :=
  ⟨k.os.trans h.os, k.tape.trans h.tape, k.output.trans h.output, Nat.le_trans h.size k.size, fun i hi hn => (k.block i (Nat.lt_of_lt_of_le hi h.size) hn).trans (h.block i hi hn)⟩
theorem Touch.mono {T T' : Nat → Prop} {w w' : World} (h : Touch T w w') (hm : ∀ b, b < w.heap.size → T b → T' b) : Touch T' w w' :=
  ⟨h.os, h.tape, h.output, h.size, fun b hb hn => h.block b hb fun ht => hn (hm b hb ht)⟩
theorem Touch.setCell {T : Nat → Prop} {w w' : World} (h : Touch T w w') {p : Addr} (hp : T p.block) (u : Value) : Touch T w (w'.setCell p u) :=
  h.trans ⟨rfl, rfl, rfl, by simp [World.setCell], fun b _ hn => Below.heap_setCell _ _ _ _ (fun e => hn (e ▸ hp))⟩
theorem Touch.drewN {T : Nat → Prop} {w w' : World} (h : Touch T w w') (n : Nat) : Touch T w (w'.drewN n) := ⟨h.os, h.tape, h.output, h.size, h.block⟩
theorem Touch.below {T : Nat → Prop} {B : Nat} {w w' : World} (h : Touch T w w') (hB : B ≤ w.heap.size) (hT : ∀ b, T b → B ≤ b) : Below B w w' :=
  ⟨h.os, h.tape, h.output, h.size, fun b hb => h.block b (by omega) fun ht => by have := hT b ht; omega⟩
theorem Touch.of_below {w w' : World} (h : Below w.heap.size w w') (T : Nat → Prop) : Touch T w w' := ⟨h.os, h.tape, h.output, h.size, fun b hb _ => h.block b hb⟩
theorem below_drewN {B : Nat} {a w : World} (h : Below B a w) (n : Nat) : Below B a (w.drewN n) := ⟨h.os, h.tape, h.output, h.size, h.block⟩
theorem Seen.touch {w w' : World} {S T : Nat → Prop} {t : PT} (h : Seen w S t) (ht : Touch T w w') (hd : ∀ b, S b → b < w.heap.size → ¬ T b) : Seen w' S t :=
  (h.mono (S' := fun b => S b ∧ b < w.heap.size) fun _ h1 h2 => ⟨h1, h2⟩).keep (fun b hb => ht.block b hb.2 (hd b hb.1 hb.2)) fun _ hb _ => hb.1
theorem Owned.touch {w w' : World} {S T : Nat → Prop} {t : PT} (h : Owned w S t) (ht : Touch T w w') (hd : ∀ b, S b → b < w.heap.size → ¬ T b) : Owned w' S t :=
  h.keep fun b hS hb => ht.block b hb (hd b hS hb)

theorem Sees.touch {w w' : World} {S T : Nat → Prop} {A : Option Addr} {xs : List Value} (h : Sees w S A xs) (ht : Touch T w w') (hd : ∀ b, S b → b < w.heap.size → ¬ T b) : Sees w' S A xs :=
  (h.mono (S' := fun b => S b ∧ b < w.heap.size) fun _ h1 h2 => ⟨h1, h2⟩).keep (fun b hb => ht.block b hb.2 (hd b hb.1 hb.2)) fun _ hb _ => hb.1

/-- Every block is as it was; there may be new ones. -/
def Ext (w w' : World) : Prop := ∀ b, b < w.heap.size → w'.heap[b]? = w.heap[b]?
theorem Ext.refl (w : World) : Ext w w := fun _ _ => rfl
theorem Ext.alloc {w w' : World} (h : Ext w w') (o : Obj) (hs : w.heap.size ≤ w'.heap.size) : Ext w (w'.alloc o) := fun b hb => (Below.heap_alloc w' o b (by omega)).trans (h b hb)
theorem Ext.alloc1 (w : World) (o : Obj) : Ext w (w.alloc o) := fun b hb => Below.heap_alloc w o b hb
theorem Ext.of_below {w w' : World} (h : Below w.heap.size w w') : Ext w w' := fun b hb => h.block b hb
theorem Sees.ext {w w' : World} {S : Nat → Prop} {A : Option Addr} {xs : List Value} (h : Sees w S A xs) (he : Ext w w') : Sees w' S A xs :=
  (h.mono (S' := fun b => S b ∧ b < w.heap.size) fun _ h1 h2 => ⟨h1, h2⟩).keep (fun b hb => he b hb.2) fun _ hb _ => hb.1
theorem Seen.ext {w w' : World} {S : Nat → Prop} {t : PT} (h : Seen w S t) (he : Ext w w') : Seen w' S t :=
  (h.mono (S' := fun b => S b ∧ b < w.heap.size) fun _ h1 h2 => ⟨h1, h2⟩).keep (fun b hb => he b hb.2) fun _ hb _ => hb.1
theorem Owned.ext {w w' : World} {S : Nat → Prop} {t : PT} (h : Owned w S t) (he : Ext w w') : Owned w' S t := h.keep fun b _ hb => he b hb

/-- A callee that only reads leaves everything as it was. -/
theorem q_below {w w' : World} (h : ∃ n, w' = w.drewN n) : Below w.heap.size w w' := by
  obtain ⟨n, rfl⟩ := h
  exact below_drewN (Below.refl _ _) n
/-- The blocks from lo on, below hi. -/
def Rng (lo hi : Nat) (b : Nat) : Prop := lo ≤ b ∧ b < hi
/-- A block that is known whole. -/
def Blk (w : World) (g : Nat) (t : TypeId) (cs : Array Value) : Prop := w.heap[g]? = some (.cells cs t (0, 0))
section
variable {w w' : World} {g : Nat} {t : TypeId} {cs : Array Value}
theorem Blk.lt (h : Blk w g t cs) : g < w.heap.size := (Array.getElem?_eq_some_iff.1 h).1
theorem Blk.cell (h : Blk w g t cs) (i : Nat) : w.cell? ⟨g, i, none⟩ = cs[i]? := cell_of_row w g i cs t (0, 0) h
theorem Blk.frozen (h : Blk w g t cs) (i : Nat) : w.frozen? ⟨g, i, none⟩ = false := by
  unfold Blk at h
  simp [World.frozen?, h]
theorem Blk.new (w : World) (t : TypeId) (cs : Array Value) : Blk (w.alloc (.cells cs t)) w.heap.size t cs := heap_alloc_new w _
theorem Blk.alloc (h : Blk w g t cs) (o : Obj) : Blk (w.alloc o) g t cs := (Below.heap_alloc w o g h.lt).trans h
theorem Blk.set_ (h : Blk w g t cs) (i : Nat) (u : Value) : Blk (w.setCell ⟨g, i, none⟩ u) g t (cs.setIfInBounds i u) := by
  unfold Blk at h ⊢
  simp [World.setCell, Array.getElem?_modify, h]
theorem Blk.far (h : Blk w g t cs) {p : Addr} (hp : g ≠ p.block) (u : Value) : Blk (w.setCell p u) g t cs := (Below.heap_setCell w p u g hp).trans h
theorem Blk.below {B : Nat} (h : Blk w g t cs) (hb : Below B w w') (hg : g < B) : Blk w' g t cs := (hb.block g hg).trans h
theorem Blk.touch {T : Nat → Prop} (h : Blk w g t cs) (ht : Touch T w w') (hg : ¬ T g) : Blk w' g t cs := (ht.block g h.lt hg).trans h
theorem Blk.ext (h : Blk w g t cs) (he : Ext w w') : Blk w' g t cs := (he g h.lt).trans h
end

/-- The k-th element's cells, where every element has m of them. -/
theorem PT.cellsL_at {m : Nat} : ∀ {l : List PT}, (∀ t ∈ l, t.cells.length = m) → ∀ {k j : Nat} {t : PT}, l[k]? = some t → j < m → (PT.cellsL l)[k * m + j]? = t.cells[j]?
  | [], _, k, j, t, hk, _ => by simp at hk
  | x :: r, h, 0, j, t, hk, hj => by
    simp at hk; subst hk
    rw [PT.cellsL, List.getElem?_append_left (by rw [h x (by simp)]; omega)]
    congr 1; omega
  | x :: r, h, k + 1, j, t, hk, hj => by
    rw [PT.cellsL, List.getElem?_append_right (by rw [h x (by simp), Nat.succ_mul]; omega), h x (by simp)]
    rw [show (k + 1) * m + j - m = k * m + j by rw [Nat.succ_mul]; omega]
    exact PT.cellsL_at (fun t ht => h t (by simp [ht])) (by simpa using hk) hj
theorem PT.length_cellsL {m : Nat} : ∀ {l : List PT}, (∀ t ∈ l, t.cells.length = m) → (PT.cellsL l).length = l.length * m
  | [], _ => by simp [PT.cellsL]
  | x :: r, h => by
    rw [PT.cellsL, List.length_append, h x (by simp), PT.length_cellsL fun t ht => h t (by simp [ht]), List.length_cons, Nat.succ_mul]; omega

/-- Reading the k-th element of a slice of elements of m cells each. -/
theorem Sees.elem {w : World} {S : Nat → Prop} {A : Option Addr} {l : List PT} (h : Sees w S A (PT.cellsL l)) {m : Nat} (hm : ∀ t ∈ l, t.cells.length = m) (hm0 : 0 < m) {k : Nat} {t : PT} (hk : l[k]? = some t) :
    ∃ b o, A = some ⟨b, o, none⟩ ∧ S b ∧ ∀ j u, t.cells[j]? = some u → w.cell? ⟨b, o + (k * m + j), none⟩ = some u := by
  have ht : t.cells.length = m := hm t (List.mem_of_getElem? hk)
  have h0 : ∃ u, t.cells[0]? = some u := ⟨_, List.getElem?_eq_getElem (by omega)⟩
  obtain ⟨u0, hu0⟩ := h0
  obtain ⟨b, o, hA, hS, _⟩ := h (k * m + 0) u0 (by rw [PT.cellsL_at hm hk hm0, hu0])
  refine ⟨b, o, hA, hS, fun j u hj => ?_⟩
  have hjm : j < m := by
    have := (List.getElem?_eq_some_iff.1 hj).1; omega
  obtain ⟨b', o', hA', _, hc⟩ := h (k * m + j) u (by rw [PT.cellsL_at hm hk hjm, hj])
  rw [hA] at hA'
  obtain ⟨rfl, rfl⟩ : b = b' ∧ o = o' := by simpa using hA'
  exact hc

theorem PT.oneCell : (∀ t : PT, ∀ u ∈ t.cells, u.oneCell' = true) ∧ (∀ l : List PT, ∀ u ∈ PT.cellsL l, u.oneCell' = true) :=
  PT.ind (fun _ _ u hu => by simp [PT.cells] at hu; subst hu; rfl) (fun _ u hu => by simp [PT.cells] at hu; subst hu; rfl) (fun _ u hu => by simp [PT.cells] at hu; subst hu; rfl) (fun _ h => h)
    (fun _ _ _ _ _ u hu => by simp [PT.cells] at hu; subst hu; rfl) (fun u hu => by simp [PT.cellsL] at hu) (fun t r h k u hu => by
      simp only [PT.cellsL, List.mem_append] at hu
      rcases hu with hu | hu
      · exact h u hu
      · exact k u hu)

section
variable {P : Program} (w : World)

/-- append where there is room, whatever type the block bears. -/
theorem run_append_room_any (t ty e e' : TypeId) (i : TypeInfo) (ht : P.underlying t = some (.slice e)) (hi : P.info? e = some i)
    (g sLen sCap : Nat) (cur : Array Value) (hg : w.heap[g]? = some (.cells cur e' (0, 0)))
    (a : Addr) (m c : Nat) (news : List Value) (hl : news.length = m * i.size) (hnews : ∀ j u, news[j]? = some u → w.cell? (a.add j) = some u) (h1 : ∀ u ∈ news, u.oneCell' = true)
    (hroom : sLen + m ≤ sCap) (hfit : sLen * i.size + news.length ≤ cur.size) :
    (Builtin.append_ #[t, t] ty #[.slice (some ⟨g, 0, none⟩) sLen sCap, .slice (some a) m c]).run P w =
      .ok (.slice (some ⟨g, 0, none⟩) (sLen + m) sCap) (w.setRow g (cur.toList.take (sLen * i.size) ++ news ++ cur.toList.drop (sLen * i.size + news.length)).toArray) := by
  have hf := run_firstCells_some (P := P) w i.size m a m c news hl hnews
  have hst := run_storeCells_at P g (sLen * i.size) e' news 0 cur w hg (by simpa using hfit) h1
  simp only [Nat.add_zero] at hst
  simp [Builtin.append_, run_underlying ht, sizeOf, typeInfo, hi, Builtin.lenOf, hroom, hf, Addr.add_lit, hst]

/-- append onto a slice of the call's own, whatever the source. -/
theorem run_append_pt (t ty e : TypeId) (i : TypeInfo) (z : Value) (m bytes : Nat) (ht : P.underlying t = some (.slice e)) (hi : P.info? e = some i) (hz : i.zero = some z)
    (hsize : i.size = m) (hby : i.bytes = bytes) (hzs : z.cells.size = m) (hm0 : 0 < m)
    {S S2 : Nat → Prop} (A A2 : Option Addr) (c c2 n n2 : Nat) (l news : List PT) (hown : Owned w S (.sl A c m l)) (hsee : Sees w S2 A2 (PT.cellsL news)) (hn : n = l.length) (hn2 : n2 = news.length)
    (hmm : ∀ t ∈ news, t.cells.length = m) (hown2 : OwnL w news) (hnd : ((PT.sl A c m l).blocks ++ PT.blocksL news).Nodup) (hS2 : ∀ b ∈ PT.blocksL news, S b) (hSn : S w.heap.size)
    (h63 : n + n2 ≤ maxLen) (hbytes : (n + n2) * bytes ≤ 140737488355328) :
    ∃ A' c' w', (Builtin.append_ #[t, t] ty #[.slice A n c, .slice A2 n2 c2]).run P w = .ok (.slice A' (n + n2) c') w' ∧ Owned w' S (.sl A' c' m (l ++ news)) ∧ Touch (· ∈ PT.rowOf A) w w' ∧ (A' = A ∨ A' = some ⟨w.heap.size, 0, none⟩) := by
  subst hsize; subst hby; subst hn; subst hn2
  have hsmall : l.length + news.length ≤ 9223372036854775807 := by simp only [maxLen] at h63; omega
  have hL1 := PT.length_cellsL hown.1.1
  have hL2 := PT.length_cellsL hmm
  have hmm' : ∀ t ∈ l ++ news, t.cells.length = i.size := fun t ht => by
    rcases List.mem_append.1 ht with h | h
    · exact hown.1.1 t h
    · exact hmm t h
  have hLL := PT.length_cellsL hmm'
  have h1 : ∀ u ∈ PT.cellsL news, u.oneCell' = true := PT.oneCell.2 news
  have hnd' := List.nodup_append.1 hnd
  have hlt := own_lt.1 _ hown.1
  have hlt2 := own_lt.2 _ hown2
  -- the new block, where the row must grow
  have grown : ∀ old, Owned (w.drew.alloc (.cells ((PT.cellsL l).toArray ++ (PT.cellsL news).toArray ++ Builtin.zeroCells z.cells (grownCap w (l.length + news.length) old e - (l.length + news.length))) e)) S
      (.sl (some ⟨w.heap.size, 0, none⟩) (grownCap w (l.length + news.length) old e) i.size (l ++ news)) ∧
      Touch (· ∈ PT.rowOf A) w (w.drew.alloc (.cells ((PT.cellsL l).toArray ++ (PT.cellsL news).toArray ++ Builtin.zeroCells z.cells (grownCap w (l.length + news.length) old e - (l.length + news.length))) e)) := by
    intro old
    have hge := grownCap_ge w (l.length + news.length) old e
    have hcm : grownCap w (l.length + news.length) old e ≤ maxLen := grownCap_le_maxLen w (l.length + news.length) old e h63
    have hkeep : ∀ b, b < w.heap.size → ∀ o, (w.drew.alloc o).heap[b]? = w.heap[b]? := fun b hb o => Below.heap_alloc w.drew o b hb
    refine ⟨⟨own_of_block hmm' hLL (heap_alloc_new w.drew _) (by simpa using hge) hcm ?_ ?_ (OwnL.of_get fun t ht => ?_), ?_, ?_⟩, ⟨rfl, rfl, rfl, by simp, fun b hb _ => hkeep b hb _⟩⟩
    · simp only [Array.size_append, List.size_toArray, size_zeroCells, hzs, hL1, hL2, ← Nat.add_mul]
      congr 1
      omega
    · simp only [Array.toList_append, PT.cellsL_append, List.append_assoc]
      rw [← List.append_assoc, show (l ++ news).length * i.size = (PT.cellsL l ++ PT.cellsL news).length by simp only [List.length_append, hL1, hL2, Nat.add_mul]]
      exact List.take_left
    · rcases List.mem_append.1 ht with h | h
      · exact own_keep.1 t (OwnL.get hown.1.2.2 h) fun b hb => hkeep b (hlt b (by simp only [PT.blocks, List.mem_append]; exact .inr (PT.mem_blocksL.2 ⟨t, h, hb⟩))) _
      · exact own_keep.1 t (OwnL.get hown2 h) fun b hb => hkeep b (hlt2 b (PT.mem_blocksL.2 ⟨t, h, hb⟩)) _
    · have h2 : (PT.blocksL l).Nodup := (List.nodup_append.1 hnd'.1).2.1
      simp only [PT.blocks, PT.rowOf, PT.blocksL_append, List.singleton_append, List.nodup_cons, List.nodup_append, List.mem_append, not_or]
      refine ⟨⟨fun h => ?_, fun h => ?_⟩, h2, hnd'.2.1, fun a ha b hb => hnd'.2.2 a (by simp only [PT.blocks, List.mem_append]; exact .inr ha) b hb⟩
      · exact Nat.lt_irrefl _ (hlt _ (by simp only [PT.blocks, List.mem_append]; exact .inr h))
      · exact Nat.lt_irrefl _ (hlt2 _ h)
    · intro b hb
      simp only [PT.blocks, PT.rowOf, PT.blocksL_append, List.mem_append, List.mem_singleton] at hb
      rcases hb with rfl | hb | hb
      · exact hSn
      · exact hown.2.2 b (by simp only [PT.blocks, List.mem_append]; exact .inr hb)
      · exact hS2 b hb
  by_cases hz2 : news = []
  · subst hz2
    refine ⟨A, c, w, ?_, by simpa using hown, Touch.refl _ _, .inl rfl⟩
    rcases own_row hown.1 with ⟨rfl, rfl, rfl⟩ | ⟨g, cur, e', rfl, hg, hnc, hcm, hcs, htake⟩
    · cases A2 <;> simp [Builtin.append_, run_underlying ht, sizeOf, typeInfo, hi, Builtin.lenOf, Builtin.firstCells, loadCells, loadCellsFrom]
    · cases A2 <;> simp [Builtin.append_, run_underlying ht, sizeOf, typeInfo, hi, Builtin.lenOf, Builtin.firstCells, hnc, storeCells, loadCells, loadCellsFrom]
  · obtain ⟨b2, o2, hA2, _⟩ : ∃ b o, A2 = some ⟨b, o, none⟩ ∧ S2 b := by
      have hp : 0 < (PT.cellsL news).length := by
        rw [hL2]; exact Nat.mul_pos (List.length_pos_iff.2 hz2) hm0
      obtain ⟨b, o, h2, h3, _⟩ := hsee 0 _ (List.getElem?_eq_getElem hp)
      exact ⟨b, o, h2, h3⟩
    subst hA2
    have hpos : 0 < news.length := List.length_pos_iff.2 hz2
    have hnews : ∀ j u, (PT.cellsL news)[j]? = some u → w.cell? ((⟨b2, o2, none⟩ : Addr).add j) = some u := fun j u hj => by
      obtain ⟨b, o, hA, _, hc⟩ := hsee j u hj
      simp only [Option.some.injEq, Addr.mk.injEq, and_true] at hA
      obtain ⟨rfl, rfl⟩ := hA
      rw [Addr.add_lit]; exact hc
    rcases own_row hown.1 with ⟨rfl, rfl, rfl⟩ | ⟨g, cur, e', rfl, hg, hnc, hcm, hcs, htake⟩
    · have hr := run_append_nil (P := P) w t ty e i z ht hi hz ⟨b2, o2, none⟩ news.length c2 (PT.cellsL news) hL2 hnews (by omega) (by simp at hsmall; omega) (by have hb := hbytes; simp only [List.length_nil, Nat.zero_add] at hb; omega)
      have hgr := grown 0
      simp only [List.length_nil, Nat.zero_add, List.nil_append, PT.cellsL, Array.empty_append] at hgr hr ⊢
      exact ⟨_, _, _, hr, hgr.1, hgr.2, .inr rfl⟩
    · by_cases hroom : l.length + news.length ≤ c
      · have hfit : l.length * i.size + (PT.cellsL news).length ≤ cur.size := by rw [hL2, hcs, ← Nat.add_mul]; exact Nat.mul_le_mul_right _ hroom
        have hr := run_append_room_any (P := P) w t ty e e' i ht hi g l.length c cur hg ⟨b2, o2, none⟩ news.length c2 (PT.cellsL news) hL2 hnews h1 hroom hfit
        have hother : ∀ b, b ≠ g → ∀ d, (w.setRow g d).heap[b]? = w.heap[b]? := fun b hb d => setRow_other w g b _ hb
        refine ⟨_, _, _, hr, ⟨own_of_block hmm' hLL (setRow_heap w g cur _ e' _ hg) (by simpa using hroom) hcm ?_ ?_ (OwnL.of_get fun t ht => ?_), ?_, ?_⟩, ⟨rfl, rfl, rfl, by simp, fun b _ hb => hother b (fun h => hb (by simp [PT.rowOf, h])) _⟩, .inl rfl⟩
        · simp only [List.size_toArray, List.length_append, List.length_take, List.length_drop, Array.length_toList]
          omega
        · rw [htake, PT.cellsL_append, show (l ++ news).length * i.size = (PT.cellsL l ++ PT.cellsL news).length by simp only [List.length_append, hL1, hL2, Nat.add_mul]]
          exact List.take_left
        · have hgn : ∀ b ∈ PT.blocksL l, b ≠ g := fun b hb h => by
            have := (List.nodup_append.1 hnd'.1).2.2 g (by simp [PT.rowOf]) b hb
            exact this h.symm
          have hgn2 : ∀ b ∈ PT.blocksL news, b ≠ g := fun b hb h => hnd'.2.2 g (by simp [PT.blocks, PT.rowOf]) b hb h.symm
          rcases List.mem_append.1 ht with h | h
          · exact own_keep.1 t (OwnL.get hown.1.2.2 h) fun b hb => hother b (hgn b (PT.mem_blocksL.2 ⟨t, h, hb⟩)) _
          · exact own_keep.1 t (OwnL.get hown2 h) fun b hb => hother b (hgn2 b (PT.mem_blocksL.2 ⟨t, h, hb⟩)) _
        · simpa [PT.blocks, PT.blocksL_append] using hnd
        · intro b hb
          simp only [PT.blocks, PT.blocksL_append, List.mem_append] at hb
          rcases hb with hb | hb | hb
          · exact hown.2.2 b (by simp only [PT.blocks, List.mem_append]; exact .inl hb)
          · exact hown.2.2 b (by simp only [PT.blocks, List.mem_append]; exact .inr hb)
          · exact hS2 b hb
      · have holds : ∀ j u, (PT.cellsL l)[j]? = some u → w.cell? ((⟨g, 0, none⟩ : Addr).add j) = some u := fun j u hj => by
          rw [Addr.add_lit, Nat.zero_add, cell_of_row w g j cur e' (0, 0) hg]
          rw [← htake, List.getElem?_take] at hj
          split at hj
          · simpa using hj
          · cases hj
        have hr := run_append_grow (P := P) w t ty e i z ht hi hz ⟨g, 0, none⟩ l.length c (PT.cellsL l) hL1 holds ⟨b2, o2, none⟩ news.length c2 (PT.cellsL news) hL2 hnews (by omega) (by omega) (growslice_fits (by omega) hbytes)
        exact ⟨_, _, _, hr, (grown c).1, (grown c).2, .inr rfl⟩
end

section
variable {P : Program} (w : World)
theorem wp_append_pt {o : Oper} {a : Act} {K : Act → World → Prop} {Q : Exit → Act → World → Prop} (s x : Operand) (t : TypeId)
    (ho : o.op = .call { callee := .builtin .append, args := #[s, x], argTypes := #[t, t] }) (e : TypeId) (i : TypeInfo) (z : Value) (m bytes : Nat) (ht : P.underlying t = some (.slice e)) (hi : P.info? e = some i) (hz : i.zero = some z)
    (hsize : i.size = m) (hby : i.bytes = bytes) (hzs : z.cells.size = m) (hm0 : 0 < m)
    {S S2 : Nat → Prop} (A A2 : Option Addr) (c c2 n n2 : Nat) (l news : List PT) (hs : a.eval s = .slice A n c) (hx : a.eval x = .slice A2 n2 c2) (hown : Owned w S (.sl A c m l)) (hsee : Sees w S2 A2 (PT.cellsL news)) (hn : n = l.length) (hn2 : n2 = news.length)
    (hmm : ∀ t ∈ news, t.cells.length = m) (hown2 : OwnL w news) (hnd : ((PT.sl A c m l).blocks ++ PT.blocksL news).Nodup) (hS2 : ∀ b ∈ PT.blocksL news, S b) (hSn : S w.heap.size)
    (h63 : n + n2 ≤ maxLen) (hbytes : (n + n2) * bytes ≤ 140737488355328)
    (h : ∀ A' c' w', Owned w' S (.sl A' c' m (l ++ news)) → Touch (· ∈ PT.rowOf A) w w' → (A' = A ∨ A' = some ⟨w.heap.size, 0, none⟩) → K (a.put o.dst (.slice A' (n + n2) c')) w') : o.wp P a w K Q := by
  obtain ⟨A', c', w', hr, h1, h2, h3⟩ := run_append_pt (P := P) w t o.type e i z m bytes ht hi hz hsize hby hzs hm0 A A2 c c2 n n2 l news hown hsee hn hn2 hmm hown2 hnd hS2 hSn h63 hbytes
  unfold Oper.wp execOp
  simp only [ho, resolve, invoke, builtin, Sem.run_bind, Sem.run_pure, Result.andThen_ok, List.map_toArray, List.map_cons, List.map_nil, hs, hx, hr]
  exact h A' c' w' h1 h2 h3
/-- append, as a law for the walk. -/
theorem wpList_append_pt {ops : Array Oper} {rest : List Oper} {o : Oper} {a : Act} {Q : Exit → Act → World → Prop} (hgd : o.guard = none) (s x : Operand) (t : TypeId)
    (ho : o.op = .call { callee := .builtin .append, args := #[s, x], argTypes := #[t, t] }) (e : TypeId) (i : TypeInfo) (z : Value) (m bytes : Nat) (ht : P.underlying t = some (.slice e)) (hi : P.info? e = some i) (hz : i.zero = some z)
    (hsize : i.size = m) (hby : i.bytes = bytes) (hzs : z.cells.size = m) (hm0 : 0 < m)
    {S S2 : Nat → Prop} (A A2 : Option Addr) (c c2 n n2 : Nat) (l news : List PT) (hs : a.eval s = .slice A n c) (hx : a.eval x = .slice A2 n2 c2) (hown : Owned w S (.sl A c m l)) (hsee : Sees w S2 A2 (PT.cellsL news)) (hn : n = l.length) (hn2 : n2 = news.length)
    (hmm : ∀ t ∈ news, t.cells.length = m) (hown2 : OwnL w news) (hnd : ((PT.sl A c m l).blocks ++ PT.blocksL news).Nodup) (hS2 : ∀ b ∈ PT.blocksL news, S b) (hSn : S w.heap.size)
    (h63 : n + n2 ≤ maxLen) (hbytes : (n + n2) * bytes ≤ 140737488355328)
    (h : ∀ A' c' w', Owned w' S (.sl A' c' m (l ++ news)) → Touch (· ∈ PT.rowOf A) w w' → (A' = A ∨ A' = some ⟨w.heap.size, 0, none⟩) → wpList P ops Q rest (a.put o.dst (.slice A' (n + n2) c')) w') : wpList P ops Q (o :: rest) a w :=
  wpList_plain hgd fun _ hK => wp_append_pt w s x t ho e i z m bytes ht hi hz hsize hby hzs hm0 A A2 c c2 n n2 l news hs hx hown hsee hn hn2 hmm hown2 hnd hS2 hSn h63 hbytes fun A' c' w' h1 h2 h3 => hK _ _ (h A' c' w' h1 h2 h3)
theorem step_append_pt {ops : Array Oper} {o : Oper} {a : Act} {K : Act → World → Prop} {Q : Exit → Act → World → Prop} {E : Prop} (hgd : o.guard = none) (s x : Operand) (t : TypeId)
    (ho : o.op = .call { callee := .builtin .append, args := #[s, x], argTypes := #[t, t] }) (e : TypeId) (i : TypeInfo) (z : Value) (m bytes : Nat) (ht : P.underlying t = some (.slice e)) (hi : P.info? e = some i) (hz : i.zero = some z)
    (hsize : i.size = m) (hby : i.bytes = bytes) (hzs : z.cells.size = m) (hm0 : 0 < m)
    {S S2 : Nat → Prop} (A A2 : Option Addr) (c c2 n n2 : Nat) (l news : List PT) (hs : a.eval s = .slice A n c) (hx : a.eval x = .slice A2 n2 c2) (hown : Owned w S (.sl A c m l)) (hsee : Sees w S2 A2 (PT.cellsL news)) (hn : n = l.length) (hn2 : n2 = news.length)
    (hmm : ∀ t ∈ news, t.cells.length = m) (hown2 : OwnL w news) (hnd : ((PT.sl A c m l).blocks ++ PT.blocksL news).Nodup) (hS2 : ∀ b ∈ PT.blocksL news, S b) (hSn : S w.heap.size)
    (h63 : n + n2 ≤ maxLen) (hbytes : (n + n2) * bytes ≤ 140737488355328)
    (h : ∀ A' c' w', Owned w' S (.sl A' c' m (l ++ news)) → Touch (· ∈ PT.rowOf A) w w' → (A' = A ∨ A' = some ⟨w.heap.size, 0, none⟩) → K (a.put o.dst (.slice A' (n + n2) c')) w') :
    if Region.wanted o (yielded ops a.tmps) = true then Oper.wp P o a w K Q else E := by
  have hw : Region.wanted o (yielded ops a.tmps) = true := by simp [Region.wanted, hgd]
  rw [if_pos hw]
  exact wp_append_pt w s x t ho e i z m bytes ht hi hz hsize hby hzs hm0 A A2 c c2 n n2 l news hs hx hown hsee hn hn2 hmm hown2 hnd hS2 hSn h63 hbytes h
end

theorem sees_new (w : World) (cs : Array Value) (e : TypeId) : Sees (w.alloc (.cells cs e)) (fun _ => True) (some ⟨w.heap.size, 0, none⟩) cs.toList := fun j u hj =>
  ⟨_, _, rfl, trivial, by rw [Nat.zero_add, World.cell?_alloc_new]; simpa using hj⟩

/-- A made slice without elements. -/
theorem owned_made {w : World} {S : Nat → Prop} (e : TypeId) (m : Nat) (hS : S w.heap.size) : Owned (w.alloc (.cells #[] e)) S (.sl (some ⟨w.heap.size, 0, none⟩) 0 m []) :=
  ⟨own_of_block (by simp) (by simp [PT.cellsL]) (heap_alloc_new w _) (by simp) (by simp) (by simp) (by simp [PT.cellsL]) trivial, by simp [PT.blocks, PT.blocksL, PT.rowOf], by simpa [PT.blocks, PT.blocksL, PT.rowOf] using hS⟩

end Go.Proofs.YtdeokcbbjibkoaaDoor
/- The contracts of the small functions on numbers and strings that both the program and the reference lean on. -/
namespace Go.Proofs.YtdeokcbbjibkoaaDoor
open Go Go.RowKit

/-- n lies from a to b. -/
def inR (n a b : Int) : Bool := decide (a ≤ n ∧ n ≤ b)
theorem inR_t {n a b : Int} (h : a ≤ n ∧ n ≤ b) : inR n a b = true := by simp [inR, h]
theorem inR_f {n a b : Int} (h : ¬ (a ≤ n ∧ n ≤ b)) : inR n a b = false := by simp only [inR, decide_eq_false_iff_not]; exact h

theorem ret_str {a b : ByteArray} (h : a = b) : Ending.returned (.string a) = .returned (.string b) := by rw [h]
theorem ret_bool {a b : Bool} (h : a = b) : Ending.returned (.bool a) = .returned (.bool b) := by rw [h]

set_option maxHeartbeats 400000 in
theorem within_any (n a b : Int) (w : World) : Calls Tryd.prog 25 #[.int .i64 n, .int .i64 a, .int .i64 b] w fun e w' => e = .returned (.bool (inR n a b)) ∧ w = w' := by
  by_cases h1 : a ≤ n
  all_goals by_cases h2 : n ≤ b
  all_goals
    go_enter Tryd.func25, Tryd.ntmps25
    go_wp2
    go_ret
    exact ⟨ret_bool (by simp [inR]; omega), rfl⟩

def digit (b : UInt8) : Bool := decide (48 ≤ (b.toNat : Int) ∧ (b.toNat : Int) ≤ 57)
theorem isDigit_any (b : UInt8) (w : World) : Calls Tryd.prog 59 #[.int .u8 (b.toNat : Int)] w fun e w' => e = .returned (.bool (digit b)) ∧ w = w' := by
  go_enter Tryd.func59, Tryd.ntmps59
  go_wp2
  all_goals (go_ret; exact ⟨ret_bool (by simp [digit]; omega), rfl⟩)
theorem l2Digit_any (b : UInt8) (w : World) : Calls Tryd.prog 55 #[.int .u8 (b.toNat : Int)] w fun e w' => e = .returned (.bool (digit b)) ∧ w = w' := by
  go_enter Tryd.func55, Tryd.ntmps55
  go_wp2
  all_goals (go_ret; exact ⟨ret_bool (by simp [digit]; omega), rfl⟩)
theorem drop_byte (s : ByteArray) {k : Nat} (h : k < s.size) : s.data.toList.drop k = s[k] :: s.data.toList.drop (k + 1) := by
  rw [List.drop_eq_getElem_cons (by simpa using h)]; rfl
theorem size_toList (s : ByteArray) : s.data.toList.length = s.size := by rw [Array.length_toList]; rfl
theorem bytes_eq {a b : ByteArray} (h : a.data.toList = b.data.toList) : a = b := WideShapes.bytes_inj h
end Go.Proofs.YtdeokcbbjibkoaaDoor
/-
  DERIVED: THE SHELF's CONTRACTS AT THIS DUMP, IN PLAIN WORDS (tools/lay-plain.mjs out of 'TrydShelf.lean', which tools/lay-shelf.mjs wrote): THE SAME DECLARATIONS UNDER THE SAME NAMES: 'import', 'namespace', 'open', 'def', 'theorem' AND NOTHING ELSE: no command of the shelf's: FOR A HAND-IN. Each laying: the table of numbers ('.._ren') and one theorem, a field a fact of the dump's own or the kernel's comparison; each contract: ONE APPLICATION.
-/
namespace Go.Proofs
open Go.Shelf
def Tryd.lays156_ren : Go.Shelf.Ren := ⟨fun | 156 => 38 | 165 => 62 | 166 => 63 | 169 => 64 | 240 => 79 | 241 => 80 | 276 => 98 | 277 => 99 | n => n, fun | 31 => 38 | 9 => 9 | 3 => 3 | 4 => 4 | 0 => 0 | 20 => 20 | 72 => 92 | 76 => 96 | 70 => 89 | 37 => 90 | 75 => 95 | 127 => 111 | 164 => 126 | 5 => 5 | 80 => 98 | n => n, fun | n => n⟩
theorem Tryd.lays156 : Go.Proofs.Lays.n156 Tryd.prog Tryd.lays156_ren := {
  mixed := by kernel_rfl
  f156 := Tryd.func38.trans (congrArg some (by kernel_rfl))
  f165 := Tryd.func62.trans (congrArg some (by kernel_rfl))
  f166 := Tryd.func63.trans (congrArg some (by kernel_rfl))
  f169 := Tryd.func64.trans (congrArg some (by kernel_rfl))
  f240 := Tryd.func79.trans (congrArg some (by kernel_rfl))
  f241 := Tryd.func80.trans (congrArg some (by kernel_rfl))
  f276 := Tryd.func98.trans (congrArg some (by kernel_rfl))
  f277 := Tryd.func99.trans (congrArg some (by kernel_rfl))
  t0 := Tryd.underlying0
  a0 := Tryd.isAgg0
  z0 := Tryd.sizeOf0
  v0 := Tryd.zeroValue0
  t3 := Tryd.underlying3
  a3 := Tryd.isAgg3
  z3 := Tryd.sizeOf3
  v3 := Tryd.zeroValue3
  t4 := Tryd.underlying4
  a4 := Tryd.isAgg4
  z4 := Tryd.sizeOf4
  v4 := Tryd.zeroValue4
  t9 := Tryd.underlying9
  a9 := Tryd.isAgg9
  z9 := Tryd.sizeOf9
  v9 := Tryd.zeroValue9
  t20 := Tryd.underlying20
  a20 := Tryd.isAgg20
  z20 := Tryd.sizeOf20
  v20 := Tryd.zeroValue20
  t31 := Tryd.underlying38
  a31 := Tryd.isAgg38
  z31 := Tryd.sizeOf38
  v31 := Tryd.zeroValue38
  t37 := Tryd.underlying90
  a37 := Tryd.isAgg90
  z37 := Tryd.sizeOf90
  v37 := Tryd.zeroValue90
  t70 := Tryd.underlying89
  a70 := Tryd.isAgg89
  z70 := Tryd.sizeOf89
  v70 := Tryd.zeroValue89
  t72 := Tryd.underlying92
  a72 := Tryd.isAgg92
  z72 := Tryd.sizeOf92
  v72 := Tryd.zeroValue92
  t75 := Tryd.underlying95
  a75 := Tryd.isAgg95
  z75 := Tryd.sizeOf95
  v75 := Tryd.zeroValue95
  t76 := Tryd.underlying96
  a76 := Tryd.isAgg96
  z76 := Tryd.sizeOf96
  v76 := Tryd.zeroValue96
  t127 := Tryd.underlying111
  a127 := Tryd.isAgg111
  z127 := Tryd.sizeOf111
  v127 := Tryd.zeroValue111
  t164 := Tryd.underlying126
  a164 := Tryd.isAgg126
  z164 := Tryd.sizeOf126
  v164 := Tryd.zeroValue126 }
theorem Tryd.Builder_Extra_156 : Builder.Extra Tryd.prog Tryd.lays156_ren := {
  sizeBuilder := by kernel_rfl
  liesBuilder := by kernel_rfl
  t5 := Tryd.underlying5
  a5 := Tryd.isAgg5
  z5 := Tryd.sizeOf5
  v5 := Tryd.zeroValue5
  infoByte := by kernel_rfl
  cellsByte := by kernel_rfl
  sizeByte := by kernel_rfl
  neB5 := by decide }
open Go.RowKit in
/-- strings.Join: "Join concatenates the elements of its first argument to create a single string. The separator string sep is placed between elements in the resulting string.": HOWEVER MANY ELEMENTS. Below the heap's end the world is as it was. (LAID: no walk: one application.) -/
theorem Tryd.strings_Join (bk o c : Nat) (xs : List ByteArray) (sep : ByteArray) (w : World) (hcells : ∀ (j : Nat) x, xs[j]? = some x → w.cell? ⟨bk, o + j, none⟩ = some (.string x)) (hbk : bk < w.heap.size) (hN : xs.length ≤ 140737488355328) (hcap : xs.length ≤ c) (hlen : (Lib.join (xs.map (·.data.toList)) sep.data.toList).length ≤ 140737488355328) :
    Calls Tryd.prog 38 #[.slice (some ⟨bk, o, none⟩) xs.length c, .string sep] w fun e w' => e = .returned (.string ⟨(Lib.join (xs.map (·.data.toList)) sep.data.toList).toArray⟩) ∧ Below w.heap.size w w' := Any.strings_Join Tryd.lays156 Tryd.Builder_Extra_156 bk o c xs sep w hcells hbk hN hcap hlen
def Tryd.laysM171_ren : Go.Shelf.Ren := ⟨fun | 171 => 61 | 243 => 78 | 246 => 97 | 283 => 110 | 284 => 111 | 285 => 112 | 286 => 113 | 129 => 96 | 317 => 119 | 318 => 120 | 319 => 121 | 320 => 122 | 337 => 128 | 338 => 129 | n => n, fun | 3 => 3 | 9 => 9 | 2 => 2 | 4 => 4 | 171 => 136 | 0 => 0 | 53 => 106 | 37 => 90 | 5 => 5 | 173 => 138 | 212 => 147 | 51 => 103 | 20 => 20 | 213 => 148 | 46 => 83 | 232 => 154 | 233 => 155 | n => n, fun | 17 => 1 | 18 => 4 | 19 => 5 | n => n⟩
theorem Tryd.laysM171 : Go.Proofs.LaysM.n171 Tryd.prog Tryd.laysM171_ren := {
  mixed := by kernel_rfl
  f129 := Tryd.func96.trans (congrArg some (by kernel_rfl))
  f171 := Tryd.func61.trans (congrArg some (by kernel_rfl))
  f243 := Tryd.func78.trans (congrArg some (by kernel_rfl))
  f246 := Tryd.func97.trans (congrArg some (by kernel_rfl))
  f283 := Tryd.func110.trans (congrArg some (by kernel_rfl))
  f284 := Tryd.func111.trans (congrArg some (by kernel_rfl))
  f285 := Tryd.func112.trans (congrArg some (by kernel_rfl))
  f286 := Tryd.func113.trans (congrArg some (by kernel_rfl))
  f317 := Tryd.func119.trans (congrArg some (by kernel_rfl))
  f318 := Tryd.func120.trans (congrArg some (by kernel_rfl))
  f319 := Tryd.func121.trans (congrArg some (by kernel_rfl))
  f320 := Tryd.func122.trans (congrArg some (by kernel_rfl))
  f337 := Tryd.func128.trans (congrArg some (by kernel_rfl))
  f338 := Tryd.func129.trans (congrArg some (by kernel_rfl))
  t0 := Tryd.underlying0
  a0 := Tryd.isAgg0
  z0 := Tryd.sizeOf0
  v0 := Tryd.zeroValue0
  t2 := Tryd.underlying2
  a2 := Tryd.isAgg2
  z2 := Tryd.sizeOf2
  v2 := Tryd.zeroValue2
  t3 := Tryd.underlying3
  a3 := Tryd.isAgg3
  z3 := Tryd.sizeOf3
  v3 := Tryd.zeroValue3
  t4 := Tryd.underlying4
  a4 := Tryd.isAgg4
  z4 := Tryd.sizeOf4
  v4 := Tryd.zeroValue4
  t5 := Tryd.underlying5
  a5 := Tryd.isAgg5
  z5 := Tryd.sizeOf5
  v5 := Tryd.zeroValue5
  t9 := Tryd.underlying9
  a9 := Tryd.isAgg9
  z9 := Tryd.sizeOf9
  v9 := Tryd.zeroValue9
  t20 := Tryd.underlying20
  a20 := Tryd.isAgg20
  z20 := Tryd.sizeOf20
  v20 := Tryd.zeroValue20
  t37 := Tryd.underlying90
  a37 := Tryd.isAgg90
  z37 := Tryd.sizeOf90
  v37 := Tryd.zeroValue90
  t46 := Tryd.underlying83
  a46 := Tryd.isAgg83
  z46 := Tryd.sizeOf83
  v46 := Tryd.zeroValue83
  t51 := Tryd.underlying103
  a51 := Tryd.isAgg103
  z51 := Tryd.sizeOf103
  v51 := Tryd.zeroValue103
  t53 := Tryd.underlying106
  a53 := Tryd.isAgg106
  z53 := Tryd.sizeOf106
  v53 := Tryd.zeroValue106
  t171 := Tryd.underlying136
  a171 := Tryd.isAgg136
  z171 := Tryd.sizeOf136
  v171 := Tryd.zeroValue136
  t173 := Tryd.underlying138
  a173 := Tryd.isAgg138
  z173 := Tryd.sizeOf138
  v173 := Tryd.zeroValue138
  t212 := Tryd.underlying147
  a212 := Tryd.isAgg147
  z212 := Tryd.sizeOf147
  v212 := Tryd.zeroValue147
  t213 := Tryd.underlying148
  a213 := Tryd.isAgg148
  z213 := Tryd.sizeOf148
  t232 := Tryd.underlying154
  a232 := Tryd.isAgg154
  z232 := Tryd.sizeOf154
  v232 := Tryd.zeroValue154
  t233 := Tryd.underlying155
  a233 := Tryd.isAgg155
  z233 := Tryd.sizeOf155
  v233 := Tryd.zeroValue155
  g17 := by kernel_rfl
  g18 := by kernel_rfl
  g19 := by kernel_rfl
  i0 := by kernel_rfl
  i2 := by kernel_rfl
  i3 := by kernel_rfl
  i4 := by kernel_rfl
  i5 := by kernel_rfl
  i9 := by kernel_rfl
  i20 := by kernel_rfl
  i37 := by kernel_rfl
  i46 := by kernel_rfl
  i51 := by kernel_rfl
  i53 := by kernel_rfl
  i171 := by kernel_rfl
  i173 := by kernel_rfl
  i212 := by kernel_rfl
  i232 := by kernel_rfl
  i233 := by kernel_rfl
  m17 := by kernel_rfl
  m18 := by kernel_rfl
  m19 := by kernel_rfl }
open Go.RowKit Go.Sort Go.Lib in
/-- strconv.Itoa: "Itoa is equivalent to FormatInt(int64(i), 10).": i's DECIMAL NUMERAL ('Lib.itoa': a '-' where i is negative, then the digits), FOR EVERY int. The world behind the call: the world before it, new blocks behind the heap (the library's 'var a [24]byte'), draws. (LAID: no walk: one application.) -/
theorem Tryd.strconv_Itoa (n : Int) (h0 : -9223372036854775808 ≤ n) (h1 : n ≤ 9223372036854775807) (w : World) (htab : Lib.TabIs Tryd.prog w "internal/strconv.uint64pow10" .u64 Lib.pow10Tab) :
    Calls Tryd.prog 61 #[.int .i64 n] w fun e w' => e = .returned (.string ⟨(Lib.itoa n).toArray⟩) ∧ ∃ k os, w' = grow (w.drewN k) os := Any.strconv_Itoa Tryd.laysM171 n h0 h1 w htab
def Tryd.lays189_ren : Go.Shelf.Ren := ⟨fun | 189 => 60 | 125 => 77 | 257 => 76 | 128 => 95 | 129 => 96 | 294 => 86 | 295 => 87 | 296 => 88 | 297 => 89 | 298 => 90 | 299 => 91 | 216 => 92 | 300 => 93 | 301 => 94 | 328 => 104 | 329 => 105 | 330 => 106 | 331 => 107 | 332 => 108 | 215 => 109 | 343 => 118 | n => n, fun | 28 => 26 | 3 => 3 | 46 => 83 | 0 => 0 | 51 => 103 | 53 => 106 | 4 => 4 | 183 => 116 | 182 => 115 | 131 => 121 | 5 => 5 | 9 => 9 | 218 => 131 | 222 => 58 | 228 => 143 | 229 => 60 | n => n, fun | n => n⟩
theorem Tryd.lays189 : Go.Proofs.Lays.n189 Tryd.prog Tryd.lays189_ren := {
  mixed := by kernel_rfl
  f125 := Tryd.func77.trans (congrArg some (by kernel_rfl))
  f128 := Tryd.func95.trans (congrArg some (by kernel_rfl))
  f129 := Tryd.func96.trans (congrArg some (by kernel_rfl))
  f189 := Tryd.func60.trans (congrArg some (by kernel_rfl))
  f215 := Tryd.func109.trans (congrArg some (by kernel_rfl))
  f216 := Tryd.func92.trans (congrArg some (by kernel_rfl))
  f257 := Tryd.func76.trans (congrArg some (by kernel_rfl))
  f294 := Tryd.func86.trans (congrArg some (by kernel_rfl))
  f295 := Tryd.func87.trans (congrArg some (by kernel_rfl))
  f296 := Tryd.func88.trans (congrArg some (by kernel_rfl))
  f297 := Tryd.func89.trans (congrArg some (by kernel_rfl))
  f298 := Tryd.func90.trans (congrArg some (by kernel_rfl))
  f299 := Tryd.func91.trans (congrArg some (by kernel_rfl))
  f300 := Tryd.func93.trans (congrArg some (by kernel_rfl))
  f301 := Tryd.func94.trans (congrArg some (by kernel_rfl))
  f328 := Tryd.func104.trans (congrArg some (by kernel_rfl))
  f329 := Tryd.func105.trans (congrArg some (by kernel_rfl))
  f330 := Tryd.func106.trans (congrArg some (by kernel_rfl))
  f331 := Tryd.func107.trans (congrArg some (by kernel_rfl))
  f332 := Tryd.func108.trans (congrArg some (by kernel_rfl))
  f343 := Tryd.func118.trans (congrArg some (by kernel_rfl))
  t0 := Tryd.underlying0
  a0 := Tryd.isAgg0
  z0 := Tryd.sizeOf0
  v0 := Tryd.zeroValue0
  t3 := Tryd.underlying3
  a3 := Tryd.isAgg3
  z3 := Tryd.sizeOf3
  v3 := Tryd.zeroValue3
  t4 := Tryd.underlying4
  a4 := Tryd.isAgg4
  z4 := Tryd.sizeOf4
  v4 := Tryd.zeroValue4
  t5 := Tryd.underlying5
  a5 := Tryd.isAgg5
  z5 := Tryd.sizeOf5
  v5 := Tryd.zeroValue5
  t9 := Tryd.underlying9
  a9 := Tryd.isAgg9
  z9 := Tryd.sizeOf9
  v9 := Tryd.zeroValue9
  t28 := Tryd.underlying26
  a28 := Tryd.isAgg26
  z28 := Tryd.sizeOf26
  v28 := Tryd.zeroValue26
  t46 := Tryd.underlying83
  a46 := Tryd.isAgg83
  z46 := Tryd.sizeOf83
  v46 := Tryd.zeroValue83
  t51 := Tryd.underlying103
  a51 := Tryd.isAgg103
  z51 := Tryd.sizeOf103
  v51 := Tryd.zeroValue103
  t53 := Tryd.underlying106
  a53 := Tryd.isAgg106
  z53 := Tryd.sizeOf106
  v53 := Tryd.zeroValue106
  t131 := Tryd.underlying121
  a131 := Tryd.isAgg121
  z131 := Tryd.sizeOf121
  v131 := Tryd.zeroValue121
  t182 := Tryd.underlying115
  a182 := Tryd.isAgg115
  z182 := Tryd.sizeOf115
  v182 := Tryd.zeroValue115
  t183 := Tryd.underlying116
  a183 := Tryd.isAgg116
  z183 := Tryd.sizeOf116
  v183 := Tryd.zeroValue116
  t218 := Tryd.underlying131
  a218 := Tryd.isAgg131
  z218 := Tryd.sizeOf131
  v218 := Tryd.zeroValue131
  t222 := Tryd.underlying58
  a222 := Tryd.isAgg58
  z222 := Tryd.sizeOf58
  v222 := Tryd.zeroValue58
  t228 := Tryd.underlying143
  a228 := Tryd.isAgg143
  z228 := Tryd.sizeOf143
  v228 := Tryd.zeroValue143
  t229 := Tryd.underlying60
  a229 := Tryd.isAgg60
  z229 := Tryd.sizeOf60
  v229 := Tryd.zeroValue60 }
open Go.Sort Go.RowKit in
theorem Tryd.slices_Sort_int (blk off cap : Nat) (zs : List Int) (w : World) (hH : Holds (Value.int .i64) w blk off zs.toArray) (hblk : blk < w.heap.size) (hsz : zs.length < 4611686018427387904) :
    Calls Tryd.prog 60 #[.slice (some ⟨blk, off, none⟩) zs.length cap] w fun e w' =>
      e = .returned (.tuple #[]) ∧ ∃ n os, w' = grow (putRow (Value.int .i64) (Sort.ahead w n) blk off (zs.mergeSort fun x y => decide (x ≤ y)).toArray) os := Any.slices_Sort_int Tryd.lays189 blk off cap zs w hH hblk hsz
end Go.Proofs
/- Numbers as texts: the program's FormatInt and the reference's. -/
namespace Go.Proofs.YtdeokcbbjibkoaaDoor
open Go Go.RowKit

/-- The library's table of powers of ten is laid. -/
def TabL (w : World) : Prop := Lib.TabIs Tryd.prog w "internal/strconv.uint64pow10" .u64 Lib.pow10Tab
theorem TabL.below {w w' : World} (h : TabL w) (hb : Below w.heap.size w w') : TabL w' := Lib.tabBelow_of_tabIs h w' hb

/-- A number's text. -/
def numB (n : Int) : ByteArray := ⟨(Lib.itoa n).toArray⟩

theorem nDigits_le : ∀ (k u : Nat), u < 10 ^ (k + 1) → Lib.nDigits u ≤ k + 1
  | 0, u, h => by rw [Lib.nDigits_small (by simpa using h)]; omega
  | k + 1, u, h => by
    by_cases h1 : u < 10
    · rw [Lib.nDigits_small h1]; omega
    · rw [Lib.nDigits_big h1]
      have := nDigits_le k (u / 10) (by rw [Nat.pow_succ] at h; omega)
      omega
theorem numB_size {n : Int} (h0 : -9223372036854775808 ≤ n) (h1 : n ≤ 9223372036854775807) : (numB n).size ≤ 20 := by
  show (Lib.itoa n).toArray.size ≤ 20
  rw [List.size_toArray, Lib.itoa]
  split
  · rw [List.length_cons, Lib.decDigits_length]; have := nDigits_le 18 n.natAbs (by simp; omega); omega
  · rw [Lib.decDigits_length]; have := nDigits_le 18 n.toNat (by simp; omega); omega

theorem formatInt_any (n : Int) (w : World) (ht : TabL w) (h0 : -9223372036854775808 ≤ n) (h1 : n ≤ 9223372036854775807) : Calls Tryd.prog 37 #[.int .i64 n] w fun e w' => e = .returned (.string (numB n)) ∧ Below w.heap.size w w' := by
  go_enter Tryd.func37, Tryd.ntmps37
  go_wp2_with (go_at_call 61; refine (Tryd.strconv_Itoa n h0 h1 _ ht).mono ?_; rintro e w' ⟨rfl, k, os, rfl⟩)
  go_ret
  exact ⟨rfl, Lib.below_grow _ _ (Nat.le_refl _) _ _⟩

/-- The digits of a number, none where it is 0. -/
def pre (u : Nat) : List UInt8 := if u = 0 then [] else Lib.decDigits u
theorem pre_step {u : Nat} (h : u ≠ 0) : pre u = pre (u / 10) ++ [UInt8.ofNat (48 + u % 10)] := by
  unfold pre
  rw [if_neg h, Lib.decDigits]
  by_cases h1 : u < 10
  · rw [dif_pos h1, if_pos (by omega), Nat.mod_eq_of_lt h1]; rfl
  · rw [dif_neg h1, if_neg (by omega)]
theorem pre_length {u : Nat} (h : u < 10000000000000000000) : (pre u).length ≤ 19 := by
  unfold pre
  split
  · simp
  · rw [Lib.decDigits_length]; exact nDigits_le 18 u (by simpa using h)

theorem numB_pre {n : Int} (hz : n ≠ 0) : numB n = if n < 0 then ⟨(45 :: pre n.natAbs).toArray⟩ else ⟨(pre n.natAbs).toArray⟩ := by
  have h1 : pre n.natAbs = Lib.decDigits n.natAbs := by unfold pre; rw [if_neg (by omega)]
  rw [h1]
  unfold numB Lib.itoa
  by_cases h : n < 0
  · rw [if_pos h, if_pos h]
  · rw [if_neg h, if_neg h, show n.toNat = n.natAbs by omega]
theorem tmod_abs (m : Int) : Int.tmod m 10 = if m < 0 then -((m.natAbs % 10 : Nat) : Int) else ((m.natAbs % 10 : Nat) : Int) := by
  by_cases h : m < 0
  · rw [if_pos h]
    have h2 : Int.tmod m 10 = -((-m) % 10) := by rw [← Int.tmod_eq_emod_of_nonneg (by omega), Int.neg_tmod]; omega
    rw [h2]; omega
  · rw [if_neg h, Int.tmod_eq_emod_of_nonneg (by omega)]; omega
/-- 'string([]byte{b})' of a byte that is reckoned. -/
theorem conv_one (src : TypeId) (e : TypeId) (w : World) (d : Nat) (hd : d < 256) (v : Int) (hv : v = d) (hs : Tryd.prog.underlying src = some (.slice e)) (he : Tryd.prog.underlying e = some (.int .u8)) :
    (convert src 9 (.slice (some ⟨w.heap.size, 0, none⟩) 1 1)).run Tryd.prog (w.alloc (.cells #[.int .u8 v] e)) = .ok (.string ⟨#[UInt8.ofNat d]⟩) (w.alloc (.cells #[.int .u8 v] e)) := by
  subst hv
  refine run_convert_bytes_back (P := Tryd.prog) _ src 9 e ⟨w.heap.size, 0, none⟩ 1 [UInt8.ofNat d] hs he Tryd.underlying9 fun j hj => ?_
  have hj0 : j = 0 := by simp at hj; omega
  subst hj0
  have h := Blk.cell (Blk.new w e #[.int .u8 (d : Int)]) 0
  rw [show (⟨w.heap.size, 0, none⟩ : Addr).add 0 = ⟨w.heap.size, 0, none⟩ from rfl, h]
  show some (Value.int .u8 (d : Int)) = some (.int .u8 ((UInt8.ofNat d).toNat : Int))
  rw [UInt8.toNat_ofNat', Nat.mod_eq_of_lt hd]
theorem tdiv_abs (m : Int) : (Int.tdiv m 10).natAbs = m.natAbs / 10 := by rw [Int.natAbs_tdiv]; rfl

set_option maxHeartbeats 400000 in
set_option maxRecDepth 8000 in
theorem specFormatInt_any (n : Int) (w : World) (h0 : -9223372036854775808 ≤ n) (h1 : n ≤ 9223372036854775807) : Calls Tryd.prog 57 #[.int .i64 n] w fun e w' => e = .returned (.string (numB n)) ∧ Below w.heap.size w w' := by
  by_cases hz : n = 0
  · subst hz
    go_enter Tryd.func57, Tryd.ntmps57
    go_wp2
    go_ret
    exact ⟨ret_str (by decide +kernel), Below.refl _ _⟩
  have Hlen := Lib.hid (pre_length (u := n.natAbs) (by omega))
  have HP := Lib.hid (numB_pre hz)
  by_cases hneg : n < 0
  all_goals
    go_enter Tryd.func57, Tryd.ntmps57
    go_wp2
    go_loopw [0, 4] (fun nv ov wr => ∃ (m : Int) (s : ByteArray), nv = .int .i64 m ∧ ov = .string s ∧ -9223372036854775808 ≤ m ∧ m ≤ 9223372036854775807 ∧ pre m.natAbs ++ s.data.toList = pre n.natAbs ∧ Below w.heap.size w wr) (fun nv _ _ => (intOf nv).natAbs)
    case atStart => exact ⟨n, _, rfl, rfl, h0, h1, by simp, Below.refl _ _⟩
    case round =>
      obtain ⟨m, s, rfl, rfl, hm0, hm1, hr, hb⟩ := hrel
      have hsz : s.size ≤ 19 := by
        have := congrArg List.length hr
        rw [List.length_append, size_toList] at this
        have := Hlen.out
        omega
      have Hr := Lib.hid hr
      clear hr
      by_cases hm : m = 0
      · subst hm
        go_wp2
        go_ret
        refine ⟨ret_str ?_, hb⟩
        have h2 := Hr.out
        rw [HP.out]
        rw [show (0 : Int).natAbs = 0 from rfl, show pre 0 = [] from rfl, List.nil_append] at h2
        first
          | (rw [if_pos hneg]; exact bytes_eq (by rw [ByteArray.data_append, Array.toList_append, h2]; rfl))
          | (rw [if_neg (by omega)]; exact bytes_eq h2)
      · have ha := tmod_abs m
        have hd9 : m.natAbs % 10 ≤ 9 := by omega
        have hp := pre_step (u := m.natAbs) (by omega)
        have hq := tdiv_abs m
        generalize hd : m.natAbs % 10 = d at ha hd9 hp
        obtain ⟨b, hbd⟩ : ∃ b, UInt8.ofNat (48 + d) = b := ⟨_, rfl⟩
        rw [hbd] at hp
        have Hp := Lib.hid hp
        have Hq := Lib.hid hq
        have hcv := conv_one 90 5 wr (48 + d) (by omega) (48 + (d : Int)) (by omega) Tryd.underlying90 Tryd.underlying5
        rw [hbd] at hcv
        clear hp hd hq hbd
        have hnext : pre (Int.tdiv m 10).natAbs ++ ((⟨#[b]⟩ : ByteArray) ++ s).data.toList = pre n.natAbs := by
          rw [Hq.out, ← Hr.out, Hp.out, ByteArray.data_append, Array.toList_append, List.append_assoc]
        have Hn := Lib.hid hnext
        clear hnext
        have hbel : ∀ o, Below w.heap.size w (wr.alloc o) := fun o => hb.trans (((Below.refl _ _).alloc (Nat.le_refl _) o).mono hb.size)
        have hm10 : (Int.tdiv m 10).natAbs < m.natAbs := by rw [Hq.out]; omega
        have Hm10 := Lib.hid hm10
        clear hm10 hb
        by_cases hs : m < 0
        · rw [if_pos hs] at ha
          by_cases hd0 : d = 0
          · subst hd0
            rw [show -((0 : Nat) : Int) = 0 from rfl] at ha
            rw [show 48 + ((0 : Nat) : Int) = 48 from rfl] at hcv
            go_wp2
            go_roundw
            case rel => exact ⟨_, _, rfl, rfl, by have := Hm10.out; omega, by have := Hm10.out; omega, Hn.out, hbel _⟩
            case measure => exact Hm10.out
          · have hd1 : -(d : Int) < 0 := by omega
            go_wp2
            go_roundw
            case rel => exact ⟨_, _, rfl, rfl, by have := Hm10.out; omega, by have := Hm10.out; omega, Hn.out, hbel _⟩
            case measure => exact Hm10.out
        · rw [if_neg hs] at ha
          have hd1 : ¬ (d : Int) < 0 := by omega
          have hdv : Int.tdiv m 10 = m / 10 := Int.tdiv_eq_ediv_of_nonneg (by omega)
          have Hm10 := Lib.hid (hdv ▸ Hm10.out)
          have Hn := Lib.hid (hdv ▸ Hn.out)
          clear hdv
          go_wp2
          go_roundw
          case rel => exact ⟨_, _, rfl, rfl, by have := Hm10.out; omega, by have := Hm10.out; omega, Hn.out, hbel _⟩
          case measure => exact Hm10.out
end Go.Proofs.YtdeokcbbjibkoaaDoor
/- Names, operators and selectors as plain functions on lists of bytes, and the laws between them. No program here. -/
namespace Go.Proofs.YtdeokcbbjibkoaaDoor
open Go Go.RowKit

def ops : List (List UInt8) := [[47, 47], [92, 92], [60, 61], [62, 61], [61, 61], [126, 61], [126, 126], [43], [45], [42], [60], [62], [61], [44], [38]]
end Go.Proofs.YtdeokcbbjibkoaaDoor
/- The contracts of the functions on names and selectors, the program's and the reference's. -/
namespace Go.Proofs.YtdeokcbbjibkoaaDoor
open Go Go.RowKit

/-- The library's variable MaxLen holds a number. -/
def MaxL (w : World) : Prop := ∃ m : Int, w.cell? ⟨0, 0, none⟩ = some (.int .i64 m)
theorem MaxL.below {w w' : World} (h : MaxL w) (hb : Below w.heap.size w w') : MaxL w' := by
  obtain ⟨m, hm⟩ := h
  exact ⟨m, (hb.cell (World.block_lt_of_cell? w _ hm)).trans hm⟩

end Go.Proofs.YtdeokcbbjibkoaaDoor
/- From the data that a row reads to values with addresses: every argument whose type is made of ints, bools, strings, structs and slices opens to a tree that can be read. -/
namespace Go.Proofs.YtdeokcbbjibkoaaDoor
open Go Go.RowKit

inductive Ty where
  | int (k : IntKind)
  | bool
  | str
  | agg (l : List Ty)
  | sl (m : Nat) (e : Ty)

mutual
def Ty.size : Ty → Nat
  | .agg l => Ty.sizeL l
  | _ => 1
def Ty.sizeL : List Ty → Nat
  | [] => 0
  | t :: r => Ty.size t + Ty.sizeL r
end

mutual
def HasTy : Ty → PT → Prop
  | .int k, t => ∃ n, t = .int k n
  | .bool, t => ∃ b, t = .bool b
  | .str, t => ∃ s, t = .str s
  | .agg l, t => ∃ ts, t = .agg ts ∧ HasTys l ts
  | .sl m e, t => ∃ A c l, t = .sl A c m l ∧ ∀ u ∈ l, HasTy e u
def HasTys : List Ty → List PT → Prop
  | [], ts => ts = []
  | t :: r, ts => ∃ u us, ts = u :: us ∧ HasTy t u ∧ HasTys r us
end

mutual
/-- Numbers fit their kinds, strings have a size that a machine bears. -/
def PT.sane : PT → Prop
  | .int k n => (Lit.int k n).wf = true
  | .str s => s.size ≤ maxLen
  | .bool _ => True
  | .agg l => saneL l
  | .sl _ _ _ l => saneL l
def PT.saneL : List PT → Prop
  | [] => True
  | t :: r => PT.sane t ∧ PT.saneL r
end
theorem PT.saneL_of {l : List PT} (h : ∀ t ∈ l, t.sane) : PT.saneL l := by
  induction l with
  | nil => trivial
  | cons x r ih => exact ⟨h x (by simp), ih fun t ht => h t (by simp [ht])⟩
theorem PT.saneL_mem {l : List PT} (h : PT.saneL l) {t : PT} (ht : t ∈ l) : t.sane := by
  induction l with
  | nil => cases ht
  | cons x r ih =>
    rcases List.mem_cons.1 ht with rfl | ht
    · exact h.1
    · exact ih h.2 ht

mutual
/-- The type T of the program is made as the description says. -/
def tyB (P : Program) : Ty → TypeId → Bool
  | .int k, T => match P.underlying T with | some (.int k') => k == k' | _ => false
  | .bool, T => match P.underlying T with | some .bool => true | _ => false
  | .str, T => match P.underlying T with | some .string => true | _ => false
  | .agg l, T => match P.underlying T with | some (.struct fs) => tysB P l fs.toList 0 && (P.cellsOf T == Ty.sizeL l) | _ => false
  | .sl m e, T => match P.underlying T with | some (.slice E) => tyB P e E && (P.cellsOf E == m) && (Ty.size e == m) && decide (0 < m) | _ => false
def tysB (P : Program) : List Ty → List Field → Nat → Bool
  | [], [], _ => true
  | t :: r, f :: fs, off => (f.offset == off) && tyB P t f.type && (P.cellsOf f.type == Ty.size t) && tysB P r fs (off + Ty.size t)
  | _, _, _ => false
end

mutual
theorem hasTy_size : ∀ (τ : Ty) (t : PT), HasTy τ t → t.cells.length = τ.size
  | .int k, t, h => by simp only [HasTy] at h; obtain ⟨n, rfl⟩ := h; rfl
  | .bool, t, h => by simp only [HasTy] at h; obtain ⟨n, rfl⟩ := h; rfl
  | .str, t, h => by simp only [HasTy] at h; obtain ⟨n, rfl⟩ := h; rfl
  | .agg l, t, h => by
    simp only [HasTy] at h
    obtain ⟨ts, rfl, h⟩ := h
    simp only [PT.cells, Ty.size]
    exact hasTys_size l ts h
  | .sl m e, t, h => by simp only [HasTy] at h; obtain ⟨A, c, l, rfl, _⟩ := h; rfl
theorem hasTys_size : ∀ (l : List Ty) (ts : List PT), HasTys l ts → (PT.cellsL ts).length = Ty.sizeL l
  | [], ts, h => by simp only [HasTys] at h; subst h; rfl
  | τ :: r, ts, h => by
    simp only [HasTys] at h
    obtain ⟨u, us, rfl, h1, h2⟩ := h
    simp only [PT.cellsL, List.length_append, Ty.sizeL]
    rw [hasTy_size τ u h1, hasTys_size r us h2]
end

section
variable {H : Type} {enc : TypeId × Value → H} {P : Program} {w : World} {base : Nat} {spare : Nat → Bool} {held : Bool}

theorem plain_addr {a : Addr} {v : Value} (h : w.cell? a = some v) : ∃ b o, a = ⟨b, o, none⟩ := by
  obtain ⟨b, o, s⟩ := a
  cases s with
  | none => exact ⟨b, o, rfl⟩
  | some s => simp [World.cell?] at h; split at h <;> simp at h

mutual
theorem open_pt : ∀ (τ : Ty) (T : TypeId) (fuel : Nat) (cs : List Value) (x : DataW H × List MemPlace), tyB P τ T = true → DataW.trod enc P w base spare held fuel T cs = some x →
    ∃ t : PT, HasTy τ t ∧ t.cells = cs ∧ Seen w (· < w.heap.size) t ∧ t.sane
  | .int k, T, fuel, cs, x, ht, h => by
    simp only [tyB] at ht
    split at ht
    · rename_i k' hu
      obtain ⟨n, rfl, _, hwf⟩ := DataW.trod_int hu h
      have : k = k' := by simpa using ht
      subst this
      exact ⟨.int k n, by simp [HasTy], rfl, trivial, hwf⟩
    · cases ht
  | .bool, T, fuel, cs, x, ht, h => by
    simp only [tyB] at ht
    split at ht
    · rename_i hu
      obtain ⟨b, rfl, _⟩ := DataW.trod_bool hu h
      exact ⟨.bool b, by simp [HasTy], rfl, trivial, trivial⟩
    · cases ht
  | .str, T, fuel, cs, x, ht, h => by
    simp only [tyB] at ht
    split at ht
    · rename_i hu
      obtain ⟨s, rfl, _, hs⟩ := DataW.trod_string hu h
      exact ⟨.str s, by simp [HasTy], rfl, trivial, hs⟩
    · cases ht
  | .agg l, T, fuel, cs, x, ht, h => by
    simp only [tyB] at ht
    split at ht
    · rename_i fs hu
      simp only [Bool.and_eq_true, beq_iff_eq] at ht
      obtain ⟨xs, n, _, _, hcl, hxl, hf⟩ := DataW.trod_struct hu h
      obtain ⟨ts, h1, h2, h3, h4⟩ := opens_pt l fs.toList 0 n cs ht.1 (by rw [hcl, ht.2]; simp) (fun i f hfi => by
        have h5 := hf i f (by simpa using hfi)
        have hi : i < xs.length := by rw [hxl]; have := (List.getElem?_eq_some_iff.1 hfi).1; simpa using this
        rw [List.getElem?_eq_getElem hi] at h5
        exact ⟨_, h5⟩)
      exact ⟨.agg ts, by simp only [HasTy]; exact ⟨ts, rfl, h1⟩, by simpa [PT.cells] using h2, h3, h4⟩
    · cases ht
  | .sl m e, T, fuel, cs, x, ht, h => by
    simp only [tyB] at ht
    split at ht
    · rename_i E hu
      simp only [Bool.and_eq_true, beq_iff_eq, decide_eq_true_eq] at ht
      obtain ⟨⟨⟨hE, hm⟩, hsz⟩, hm0⟩ := ht
      rcases Go.Deep.open_slice hu h with ⟨rfl, _⟩ | ⟨a, len, cap, mm, n, D, Pl, rfl, _, hl, hc, hmm, _, hel⟩
      · exact ⟨.sl none 0 m [], by simp only [HasTy]; exact ⟨_, _, _, rfl, by simp⟩, rfl, ⟨by simp, by simp, Sees.nil _ _ _, by simp, trivial⟩, trivial⟩
      · rw [hm] at hel
        have hge : len ≤ mm := by rw [hmm]; split <;> omega
        -- the elements, one behind the other
        have build : ∀ k, k ≤ len → ∃ l : List PT, l.length = k ∧ (∀ u ∈ l, HasTy e u) ∧ SeenL w (· < w.heap.size) l ∧ PT.saneL l ∧ ∀ j v, (PT.cellsL l)[j]? = some v → w.cell? (a.add j) = some v := by
          intro k
          induction k with
          | zero => intro _; exact ⟨[], rfl, by simp, trivial, trivial, by simp [PT.cellsL]⟩
          | succ k ih =>
            intro hk
            obtain ⟨l, hll, h1, h2, h3, h4⟩ := ih (by omega)
            obtain ⟨cs', hc', ht'⟩ := hel k (by omega)
            obtain ⟨t, ht1, ht2, ht3, ht4⟩ := open_pt e E n cs' _ hE ht'
            obtain ⟨_, hcl', hat⟩ := World.cells?_some hc'
            have hll2 : (PT.cellsL l).length = k * m := by
              rw [PT.length_cellsL (m := m) (fun u hu => by rw [hasTy_size e u (h1 u hu), hsz]), hll]
            refine ⟨l ++ [t], by simp [hll], fun u hu => ?_, SeenL.of_get fun u hu => ?_, PT.saneL_of fun u hu => ?_, fun j v hj => ?_⟩
            · rcases List.mem_append.1 hu with hu | hu
              · exact h1 u hu
              · rw [List.mem_singleton.1 hu]; exact ht1
            · rcases List.mem_append.1 hu with hu | hu
              · obtain ⟨i, hi, rfl⟩ := List.getElem_of_mem hu
                exact SeenL.get h2 (List.getElem?_eq_getElem hi)
              · rw [List.mem_singleton.1 hu]; exact ht3
            · rcases List.mem_append.1 hu with hu | hu
              · exact PT.saneL_mem h3 hu
              · rw [List.mem_singleton.1 hu]; exact ht4
            · rw [PT.cellsL_append] at hj
              simp only [PT.cellsL, List.append_nil] at hj
              rw [ht2] at hj
              by_cases hjl : j < (PT.cellsL l).length
              · rw [List.getElem?_append_left hjl] at hj
                exact h4 j v hj
              · rw [List.getElem?_append_right (by omega)] at hj
                have hj2 := (List.getElem?_eq_some_iff.1 hj).1
                have h5 := hat (j - (PT.cellsL l).length) (by rw [← hcl']; exact hj2)
                rw [hj] at h5
                rw [← h5, Addr.add_add, show k * m + (j - (PT.cellsL l).length) = j by omega]
        obtain ⟨l, hll, h1, h2, h3, h4⟩ := build len (Nat.le_refl _)
        subst hll
        refine ⟨.sl (some a) cap m l, by simp only [HasTy]; exact ⟨_, _, _, rfl, h1⟩, rfl, ⟨hl, hc, fun j v hj => ?_, fun u hu => by rw [hasTy_size e u (h1 u hu), hsz], h2⟩, h3⟩
        have h0 : 0 < (PT.cellsL l).length := by have := (List.getElem?_eq_some_iff.1 hj).1; omega
        have hz := h4 0 _ (List.getElem?_eq_getElem h0)
        rw [Addr.add_zero'] at hz
        obtain ⟨b, o, rfl⟩ := plain_addr hz
        have hv := h4 j v hj
        rw [Addr.add_lit] at hv
        exact ⟨b, o, rfl, World.block_lt_of_cell? w _ hz, hv⟩
    · cases ht
theorem opens_pt : ∀ (l : List Ty) (fs : List Field) (off fuel : Nat) (cs : List Value), tysB P l fs off = true → cs.length = off + Ty.sizeL l →
    (∀ (i : Nat) (f : Field), fs[i]? = some f → ∃ y, DataW.trod enc P w base spare held fuel f.type ((cs.drop f.offset).take (P.cellsOf f.type)) = some y) →
    ∃ ts : List PT, HasTys l ts ∧ PT.cellsL ts = cs.drop off ∧ SeenL w (· < w.heap.size) ts ∧ PT.saneL ts
  | [], fs, off, fuel, cs, h, hl, _ => by
    refine ⟨[], by simp [HasTys], ?_, trivial, trivial⟩
    rw [List.drop_eq_nil_of_le (by rw [hl]; simp [Ty.sizeL])]; rfl
  | τ :: r, [], off, fuel, cs, h, hl, _ => by simp [tysB] at h
  | τ :: r, f :: fs, off, fuel, cs, h, hl, hf => by
    simp only [tysB, Bool.and_eq_true, beq_iff_eq] at h
    obtain ⟨⟨⟨h1, h2⟩, h3⟩, h4⟩ := h
    obtain ⟨y, hy⟩ := hf 0 f rfl
    rw [h1, h3] at hy
    obtain ⟨t, ht1, ht2, ht3, ht4⟩ := open_pt τ f.type fuel _ y h2 hy
    obtain ⟨ts, hs1, hs2, hs3, hs4⟩ := opens_pt r fs (off + τ.size) fuel cs h4 (by rw [hl]; simp only [Ty.sizeL]; omega) (fun i g hg => hf (i + 1) g (by simpa using hg))
    refine ⟨t :: ts, by simp only [HasTys]; exact ⟨t, ts, rfl, ht1, hs1⟩, ?_, ⟨ht3, hs3⟩, ⟨ht4, hs4⟩⟩
    simp only [PT.cellsL]
    rw [ht2, hs2, ← List.drop_drop]
    exact List.take_append_drop _ _
end
end

end Go.Proofs.YtdeokcbbjibkoaaDoor
/- Blocks that are filled one cell behind the other; lists of elements in memory; what a call owns, part by part. -/
namespace Go.Proofs.YtdeokcbbjibkoaaDoor
open Go Go.RowKit

/-- A block of N cells whose first cells are xs. -/
def Fill (w : World) (g : Nat) (e : TypeId) (N : Nat) (xs : List Value) : Prop :=
  ∃ cur, w.heap[g]? = some (.cells cur e (0, 0)) ∧ cur.size = N ∧ xs.length ≤ N ∧ cur.toList.take xs.length = xs

section
variable {w w' : World} {g : Nat} {e : TypeId} {N : Nat} {xs : List Value}
theorem Fill.lt (h : Fill w g e N xs) : g < w.heap.size := by
  obtain ⟨cur, h1, _⟩ := h
  exact (Array.getElem?_eq_some_iff.1 h1).1
theorem Fill.cell (h : Fill w g e N xs) {i : Nat} (hi : i < N) : ∃ u, w.cell? ⟨g, i, none⟩ = some u := by
  obtain ⟨cur, h1, h2, _⟩ := h
  exact ⟨_, by rw [cell_of_row w g i cur e (0, 0) h1]; exact Array.getElem?_eq_getElem (by omega)⟩
theorem Fill.frozen (h : Fill w g e N xs) (i : Nat) : w.frozen? ⟨g, i, none⟩ = false := by
  obtain ⟨cur, h1, _⟩ := h
  simp [World.frozen?, h1]
theorem Fill.made (w : World) (z : Value) (n : Nat) (e : TypeId) : Fill (w.alloc (.cells (madeCells #[z] n) e)) w.heap.size e n [] :=
  ⟨_, heap_alloc_new w _, by simp [madeCells], by simp, by simp⟩
theorem Fill.same (h : Fill w g e N xs) (hb : w'.heap[g]? = w.heap[g]?) : Fill w' g e N xs := by
  obtain ⟨cur, h1, h2⟩ := h
  exact ⟨cur, hb.trans h1, h2⟩
theorem Fill.below {B : Nat} (h : Fill w g e N xs) (hb : Below B w w') (hg : g < B) : Fill w' g e N xs := h.same (hb.block g hg)
theorem Fill.alloc (h : Fill w g e N xs) (o : Obj) : Fill (w.alloc o) g e N xs := h.same (Below.heap_alloc w o g h.lt)
theorem Fill.far (h : Fill w g e N xs) {p : Addr} (hp : g ≠ p.block) (u : Value) : Fill (w.setCell p u) g e N xs := h.same (Below.heap_setCell w p u g hp)
theorem Fill.drew (h : Fill w g e N xs) : Fill w.drew g e N xs := h
theorem Fill.push (h : Fill w g e N xs) {i : Nat} (hi : i = xs.length) (hN : i < N) (u : Value) : Fill (w.setCell ⟨g, i, none⟩ u) g e N (xs ++ [u]) := by
  obtain ⟨cur, h1, h2, h3, h4⟩ := h
  subst hi
  refine ⟨cur.setIfInBounds xs.length u, by simp [World.setCell, Array.getElem?_modify, h1], by simpa using h2, by simp; omega, ?_⟩
  rw [Array.toList_setIfInBounds, List.length_append, List.length_singleton, List.take_add_one, List.take_set]
  rw [List.set_eq_of_length_le (by simp; omega), h4]
  simp [h2, hN]
theorem Fill.own {l : List PT} {c m : Nat} (h : Fill w g e (c * m) (PT.cellsL l)) (hm : ∀ t ∈ l, t.cells.length = m) (hl : l.length ≤ c) (hc : c ≤ maxLen) (ho : OwnL w l) : Own w (.sl (some ⟨g, 0, none⟩) c m l) := by
  obtain ⟨cur, h1, h2, h3, h4⟩ := h
  have hL := PT.length_cellsL hm
  exact own_of_block hm hL h1 hl hc h2 (by rw [← hL]; exact h4) ho
end


/-- Elements of m cells without slices of their own. -/
structure Flat {α : Type} (f : α → PT) (m : Nat) : Prop where
  cells : ∀ x, (f x).cells.length = m
  blocks : ∀ x, (f x).blocks = []
  own : ∀ x w, Own w (f x)
  seen : ∀ x w S, Seen w S (f x)
section
variable {α : Type} {f : α → PT} {m : Nat} {w : World} {S : Nat → Prop}
theorem Flat.cellsL (h : Flat f m) (l : List α) : ∀ t ∈ l.map f, t.cells.length = m := fun t ht => by
  obtain ⟨x, _, rfl⟩ := List.mem_map.1 ht; exact h.cells x
theorem Flat.blocksL (h : Flat f m) (l : List α) : PT.blocksL (l.map f) = [] := by
  induction l with
  | nil => rfl
  | cons z r ih => simp only [List.map_cons, PT.blocksL, h.blocks, ih, List.append_nil]
theorem Flat.ownL (h : Flat f m) (l : List α) : OwnL w (l.map f) := OwnL.of_get fun t ht => by
  obtain ⟨x, _, rfl⟩ := List.mem_map.1 ht; exact h.own x w
theorem Flat.length (h : Flat f m) (l : List α) : (PT.cellsL (l.map f)).length = l.length * m := by
  rw [PT.length_cellsL (h.cellsL l), List.length_map]
theorem Flat.owned (h : Flat f m) {g c : Nat} {e : TypeId} {l : List α} (hf : Fill w g e (c * m) (PT.cellsL (l.map f))) (hl : l.length ≤ c) (hc : c ≤ maxLen) (hS : S g) : Owned w S (.sl (some ⟨g, 0, none⟩) c m (l.map f)) :=
  ⟨Fill.own hf (h.cellsL l) (by simpa using hl) hc (h.ownL l), by simp [PT.blocks, h.blocksL, PT.rowOf], by simpa [PT.blocks, h.blocksL, PT.rowOf] using hS⟩
theorem Flat.none (h : Flat f m) : Seen w S (.sl none 0 m (([] : List α).map f)) := ⟨by simp, by simp, Sees.nil _ _ _, by simp, trivial⟩
end
/-- Trees that stand for the elements of a list, one by one. -/
def AtL {α : Type} (R : PT → α → Prop) (l : List PT) (xs : List α) : Prop := l.length = xs.length ∧ ∀ (i : Nat) (t : PT) (x : α), l[i]? = some t → xs[i]? = some x → R t x
section
variable {α : Type} {R : PT → α → Prop} {l : List PT} {xs : List α}
theorem AtL.get (h : AtL R l xs) {k : Nat} (hk : k < l.length) : R l[k] (xs[k]'(by have := h.1; omega)) := h.2 k _ _ (List.getElem?_eq_getElem hk) (List.getElem?_eq_getElem _)
theorem AtL.nil : AtL R [] ([] : List α) := ⟨rfl, by simp⟩
theorem AtL.cells {m : Nat} (h : AtL R l xs) (hm : ∀ t x, R t x → t.cells.length = m) : ∀ t ∈ l, t.cells.length = m := fun t ht => by
  obtain ⟨i, hi, rfl⟩ := List.getElem_of_mem ht
  exact hm _ _ (h.get hi)
end
/-- Owned part by part, all in blocks from lo on, below hi. -/
def OwnedS (w : World) (lo hi : Nat) (ts : List PT) : Prop := OwnL w ts ∧ (PT.blocksL ts).Nodup ∧ ∀ b ∈ PT.blocksL ts, Rng lo hi b
section
variable {w w' : World} {lo mid hi : Nat}
theorem OwnedS.nil : OwnedS w lo hi [] := ⟨trivial, by simp [PT.blocksL], by simp [PT.blocksL]⟩
theorem OwnedS.cons {ts : List PT} {t : PT} (ht : Owned w (Rng lo mid) t) (h : OwnedS w mid hi ts) (hl : lo ≤ mid) (hm : mid ≤ hi) : OwnedS w lo hi (t :: ts) := by
  refine ⟨⟨ht.1, h.1⟩, ?_, fun b hb => ?_⟩
  · simp only [PT.blocksL, List.nodup_append]
    refine ⟨ht.2.1, h.2.1, fun a ha b hb => ?_⟩
    have h1 := (ht.2.2 a ha).2
    have h2 := (h.2.2 b hb).1
    omega
  · simp only [PT.blocksL, List.mem_append] at hb
    rcases hb with hb | hb
    · have := ht.2.2 b hb; exact ⟨this.1, Nat.lt_of_lt_of_le this.2 hm⟩
    · have := h.2.2 b hb; exact ⟨Nat.le_trans hl this.1, this.2⟩
theorem OwnedS.flat {ts : List PT} {t : PT} (hb : t.blocks = []) (ho : Own w t) (h : OwnedS w lo hi ts) : OwnedS w lo hi (t :: ts) :=
  ⟨⟨ho, h.1⟩, by simpa [PT.blocksL, hb] using h.2.1, by simpa [PT.blocksL, hb] using h.2.2⟩
theorem OwnedS.agg {ts : List PT} {S : Nat → Prop} (h : OwnedS w lo hi ts) (hS : ∀ b, Rng lo hi b → S b) : Owned w S (.agg ts) := ⟨h.1, h.2.1, fun b hb => hS b (h.2.2 b hb)⟩
theorem OwnedS.keep {ts : List PT} (h : OwnedS w lo hi ts) (hk : ∀ b, Rng lo hi b → b < w.heap.size → w'.heap[b]? = w.heap[b]?) : OwnedS w' lo hi ts :=
  ⟨own_keep.2 ts h.1 fun b hb => hk b (h.2.2 b hb) (own_lt.2 ts h.1 b hb), h.2.1, h.2.2⟩
theorem OwnedS.below {ts : List PT} (h : OwnedS w lo hi ts) (hb : Below w.heap.size w w') : OwnedS w' lo hi ts := h.keep fun b _ hlt => hb.block b hlt
theorem OwnedS.far {ts : List PT} (h : OwnedS w lo hi ts) {p : Addr} (hp : p.block < lo) (u : Value) : OwnedS (w.setCell p u) lo hi ts :=
  h.keep fun b hb _ => Below.heap_setCell _ _ _ _ (by have := hb.1; omega)
theorem Owned.far {S : Nat → Prop} {t : PT} (h : Owned w S t) {p : Addr} (hp : ¬ S p.block) (u : Value) : Owned (w.setCell p u) S t :=
  h.keep fun b hb _ => Below.heap_setCell _ _ _ _ (fun e => hp (e ▸ hb))
/-- A filled block whose elements are owned: a slice of the call's own. -/
theorem OwnedS.slice {ts : List PT} {g c m : Nat} {e : TypeId} {S : Nat → Prop} (h : OwnedS w lo hi ts) (hf : Fill w g e (c * m) (PT.cellsL ts)) (hm : ∀ t ∈ ts, t.cells.length = m) (hl : ts.length ≤ c) (hc : c ≤ maxLen) (hg : g < lo) (hS : ∀ b, g ≤ b → S b) :
    Owned w S (.sl (some ⟨g, 0, none⟩) c m ts) := by
  refine ⟨Fill.own hf hm hl hc h.1, ?_, fun b hb => ?_⟩
  · simp only [PT.blocks, PT.rowOf, List.singleton_append, List.nodup_cons]
    exact ⟨fun hb => by have := (h.2.2 g hb).1; omega, h.2.1⟩
  · simp only [PT.blocks, PT.rowOf, List.mem_append, List.mem_singleton] at hb
    rcases hb with rfl | hb
    · exact hS b (Nat.le_refl _)
    · exact hS b (by have := (h.2.2 b hb).1; omega)
end

/-- An int of 64 bits. -/
def i64 (n : Int) : Prop := -9223372036854775808 ≤ n ∧ n ≤ 9223372036854775807
theorem i64_of {n : Int} (h : (Lit.int .i64 n).wf = true) : i64 n := bounds_i64 h

end Go.Proofs.YtdeokcbbjibkoaaDoor
/- The program's struct types as plain structures, and what they are in memory. Written by gen_types.py. -/
namespace Go.Proofs.YtdeokcbbjibkoaaDoor
open Go Go.RowKit

/-- How many values a list holds: its length and what its elements hold. -/
def bl {α : Type} (f : α → Nat) (l : List α) : Nat := l.length + (l.map f).sum
structure TValue where
  kind : Int
  number : Int
  text : ByteArray

def TValue.ty : Ty := .agg [.int .i64, .int .i64, .str]

def TValue.sane (x : TValue) : Prop := i64 x.kind ∧ i64 x.number ∧ x.text.size ≤ maxLen

def TValue.pt (x : TValue) : PT := .agg [.int .i64 x.kind, .int .i64 x.number, .str x.text]

theorem TValue.flat : Flat TValue.pt 3 := ⟨fun _ => rfl, fun _ => rfl, fun _ _ => by simp [TValue.pt, Own, OwnL], fun _ _ _ => by simp [TValue.pt, Seen, SeenL]⟩

structure TInstr where
  op : Int
  a : Int
  b : Int
  text : ByteArray

def TInstr.ty : Ty := .agg [.int .i64, .int .i64, .int .i64, .str]

def TInstr.sane (x : TInstr) : Prop := i64 x.op ∧ i64 x.a ∧ i64 x.b ∧ x.text.size ≤ maxLen

def TInstr.pt (x : TInstr) : PT := .agg [.int .i64 x.op, .int .i64 x.a, .int .i64 x.b, .str x.text]

theorem TInstr.flat : Flat TInstr.pt 4 := ⟨fun _ => rfl, fun _ => rfl, fun _ _ => by simp [TInstr.pt, Own, OwnL], fun _ _ _ => by simp [TInstr.pt, Seen, SeenL]⟩

structure TCode where
  block : Bool
  params : Int
  slots : Int
  instrs : List TInstr

def TCode.ty : Ty := .agg [.bool, .int .i64, .int .i64, .sl 4 TInstr.ty]

def TCode.sane (x : TCode) : Prop := i64 x.params ∧ i64 x.slots ∧ (∀ y ∈ x.instrs, y.sane)

def TCodeAt (t : PT) (x : TCode) : Prop := ∃ (A3 : Option Addr) (c3 : Nat), t = .agg [.bool x.block, .int .i64 x.params, .int .i64 x.slots, .sl A3 c3 4 ((x.instrs).map TInstr.pt)]

theorem TCodeAt.cells {t : PT} {x : TCode} (h : TCodeAt t x) : t.cells.length = 4 := by
  obtain ⟨A3, c3, rfl⟩ := h
  rfl

structure TEntry where
  owner : Int
  class_ : Bool
  selector : ByteArray
  code : Int

def TEntry.ty : Ty := .agg [.int .i64, .bool, .str, .int .i64]

def TEntry.sane (x : TEntry) : Prop := i64 x.owner ∧ x.selector.size ≤ maxLen ∧ i64 x.code

def TEntry.pt (x : TEntry) : PT := .agg [.int .i64 x.owner, .bool x.class_, .str x.selector, .int .i64 x.code]

theorem TEntry.flat : Flat TEntry.pt 4 := ⟨fun _ => rfl, fun _ => rfl, fun _ _ => by simp [TEntry.pt, Own, OwnL], fun _ _ _ => by simp [TEntry.pt, Seen, SeenL]⟩

structure TClassInfo where
  name : ByteArray
  parent : Int
  fields : List ByteArray

def TClassInfo.ty : Ty := .agg [.str, .int .i64, .sl 1 (.str)]

def TClassInfo.sane (x : TClassInfo) : Prop := x.name.size ≤ maxLen ∧ i64 x.parent ∧ (∀ s ∈ x.fields, s.size ≤ maxLen)

def TClassInfoAt (t : PT) (x : TClassInfo) : Prop := ∃ (A2 : Option Addr) (c2 : Nat), t = .agg [.str x.name, .int .i64 x.parent, .sl A2 c2 1 ((x.fields).map PT.str)]

theorem TClassInfoAt.cells {t : PT} {x : TClassInfo} (h : TClassInfoAt t x) : t.cells.length = 3 := by
  obtain ⟨A2, c2, rfl⟩ := h
  rfl

structure TCodeBase where
  classes : List TClassInfo
  codes : List TCode
  entries : List TEntry
  main : Int

def TCodeBase.ty : Ty := .agg [.sl 3 TClassInfo.ty, .sl 4 TCode.ty, .sl 4 TEntry.ty, .int .i64]

def TCodeBase.sane (x : TCodeBase) : Prop := (∀ y ∈ x.classes, y.sane) ∧ (∀ y ∈ x.codes, y.sane) ∧ (∀ y ∈ x.entries, y.sane) ∧ i64 x.main

def TCodeBaseAt (t : PT) (x : TCodeBase) : Prop := ∃ (A0 : Option Addr) (c0 : Nat) (l0 : List PT) (A1 : Option Addr) (c1 : Nat) (l1 : List PT) (A2 : Option Addr) (c2 : Nat), AtL TClassInfoAt l0 (x.classes) ∧ AtL TCodeAt l1 (x.codes) ∧ t = .agg [.sl A0 c0 3 l0, .sl A1 c1 4 l1, .sl A2 c2 4 ((x.entries).map TEntry.pt), .int .i64 x.main]

theorem TCodeBaseAt.cells {t : PT} {x : TCodeBase} (h : TCodeBaseAt t x) : t.cells.length = 4 := by
  obtain ⟨A0, c0, l0, A1, c1, l1, A2, c2, h0, h1, rfl⟩ := h
  rfl

structure TObject where
  kind : Int
  class_ : Int
  fields : List TValue
  numbers : List Int

def TObject.ty : Ty := .agg [.int .i64, .int .i64, .sl 3 TValue.ty, .sl 1 (.int .i64)]

def TObject.sane (x : TObject) : Prop := i64 x.kind ∧ i64 x.class_ ∧ (∀ y ∈ x.fields, y.sane) ∧ (∀ n ∈ x.numbers, i64 n)

def TObjectAt (t : PT) (x : TObject) : Prop := ∃ (A2 : Option Addr) (c2 : Nat) (A3 : Option Addr) (c3 : Nat), t = .agg [.int .i64 x.kind, .int .i64 x.class_, .sl A2 c2 3 ((x.fields).map TValue.pt), .sl A3 c3 1 ((x.numbers).map (PT.int .i64))]

theorem TObjectAt.cells {t : PT} {x : TObject} (h : TObjectAt t x) : t.cells.length = 4 := by
  obtain ⟨A2, c2, A3, c3, rfl⟩ := h
  rfl

structure TStore where
  classes : List TClassInfo
  objects : List TObject
  output : List ByteArray
  ticks : Int
  budget : Int
  made : Int

def TStore.ty : Ty := .agg [.sl 3 TClassInfo.ty, .sl 4 TObject.ty, .sl 1 (.str), .int .i64, .int .i64, .int .i64]

def TStore.sane (x : TStore) : Prop := (∀ y ∈ x.classes, y.sane) ∧ (∀ y ∈ x.objects, y.sane) ∧ (∀ s ∈ x.output, s.size ≤ maxLen) ∧ i64 x.ticks ∧ i64 x.budget ∧ i64 x.made

def TStoreAt (t : PT) (x : TStore) : Prop := ∃ (A0 : Option Addr) (c0 : Nat) (l0 : List PT) (A1 : Option Addr) (c1 : Nat) (l1 : List PT) (A2 : Option Addr) (c2 : Nat), AtL TClassInfoAt l0 (x.classes) ∧ AtL TObjectAt l1 (x.objects) ∧ t = .agg [.sl A0 c0 3 l0, .sl A1 c1 4 l1, .sl A2 c2 1 ((x.output).map PT.str), .int .i64 x.ticks, .int .i64 x.budget, .int .i64 x.made]

theorem TStoreAt.cells {t : PT} {x : TStore} (h : TStoreAt t x) : t.cells.length = 6 := by
  obtain ⟨A0, c0, l0, A1, c1, l1, A2, c2, h0, h1, rfl⟩ := h
  rfl

structure TClosure where
  code : Int
  outer : Int
  home : Int
  self : TValue

def TClosure.ty : Ty := .agg [.int .i64, .int .i64, .int .i64, TValue.ty]

def TClosure.sane (x : TClosure) : Prop := i64 x.code ∧ i64 x.outer ∧ i64 x.home ∧ x.self.sane

def TClosure.pt (x : TClosure) : PT := .agg [.int .i64 x.code, .int .i64 x.outer, .int .i64 x.home, x.self.pt]

theorem TClosure.flat : Flat TClosure.pt 6 := ⟨fun _ => rfl, fun _ => rfl, fun _ _ => by simp [TClosure.pt, Own, OwnL, TValue.pt], fun _ _ _ => by simp [TClosure.pt, Seen, SeenL, TValue.pt]⟩

structure TContext where
  mark : Int
  code : Int
  pc : Int
  sender : Int
  outer : Int
  home : Int
  self : TValue
  slots : List TValue
  stack : List TValue
  values : List TValue
  other : Int
  retry : Bool

def TContext.ty : Ty := .agg [.int .i64, .int .i64, .int .i64, .int .i64, .int .i64, .int .i64, TValue.ty, .sl 3 TValue.ty, .sl 3 TValue.ty, .sl 3 TValue.ty, .int .i64, .bool]

def TContext.sane (x : TContext) : Prop := i64 x.mark ∧ i64 x.code ∧ i64 x.pc ∧ i64 x.sender ∧ i64 x.outer ∧ i64 x.home ∧ x.self.sane ∧ (∀ y ∈ x.slots, y.sane) ∧ (∀ y ∈ x.stack, y.sane) ∧ (∀ y ∈ x.values, y.sane) ∧ i64 x.other

def TContextAt (t : PT) (x : TContext) : Prop := ∃ (A7 : Option Addr) (c7 : Nat) (A8 : Option Addr) (c8 : Nat) (A9 : Option Addr) (c9 : Nat), t = .agg [.int .i64 x.mark, .int .i64 x.code, .int .i64 x.pc, .int .i64 x.sender, .int .i64 x.outer, .int .i64 x.home, x.self.pt, .sl A7 c7 3 ((x.slots).map TValue.pt), .sl A8 c8 3 ((x.stack).map TValue.pt), .sl A9 c9 3 ((x.values).map TValue.pt), .int .i64 x.other, .bool x.retry]

theorem TContextAt.cells {t : PT} {x : TContext} (h : TContextAt t x) : t.cells.length = 14 := by
  obtain ⟨A7, c7, A8, c8, A9, c9, rfl⟩ := h
  rfl

structure TProcess where
  at_ : Int
  main : Bool

def TProcess.ty : Ty := .agg [.int .i64, .bool]

def TProcess.sane (x : TProcess) : Prop := i64 x.at_

def TProcess.pt (x : TProcess) : PT := .agg [.int .i64 x.at_, .bool x.main]

theorem TProcess.flat : Flat TProcess.pt 2 := ⟨fun _ => rfl, fun _ => rfl, fun _ _ => by simp [TProcess.pt, Own, OwnL], fun _ _ _ => by simp [TProcess.pt, Seen, SeenL]⟩

structure TImage where
  base : TCodeBase
  store : TStore
  blocks : List TClosure
  contexts : List TContext
  processes : List TProcess
  ready : List Int
  now : Int
  status : Int
  value : TValue
  fault : ByteArray

def TImage.ty : Ty := .agg [TCodeBase.ty, TStore.ty, .sl 6 TClosure.ty, .sl 14 TContext.ty, .sl 2 TProcess.ty, .sl 1 (.int .i64), .int .i64, .int .i64, TValue.ty, .str]

def TImage.sane (x : TImage) : Prop := x.base.sane ∧ x.store.sane ∧ (∀ y ∈ x.blocks, y.sane) ∧ (∀ y ∈ x.contexts, y.sane) ∧ (∀ y ∈ x.processes, y.sane) ∧ (∀ n ∈ x.ready, i64 n) ∧ i64 x.now ∧ i64 x.status ∧ x.value.sane ∧ x.fault.size ≤ maxLen

def TImageAt (t : PT) (x : TImage) : Prop := ∃ (t0 : PT) (t1 : PT) (A2 : Option Addr) (c2 : Nat) (A3 : Option Addr) (c3 : Nat) (l3 : List PT) (A4 : Option Addr) (c4 : Nat) (A5 : Option Addr) (c5 : Nat), TCodeBaseAt t0 x.base ∧ TStoreAt t1 x.store ∧ AtL TContextAt l3 (x.contexts) ∧ t = .agg [t0, t1, .sl A2 c2 6 ((x.blocks).map TClosure.pt), .sl A3 c3 14 l3, .sl A4 c4 2 ((x.processes).map TProcess.pt), .sl A5 c5 1 ((x.ready).map (PT.int .i64)), .int .i64 x.now, .int .i64 x.status, x.value.pt, .str x.fault]

theorem TImageAt.cells {t : PT} {x : TImage} (h : TImageAt t x) : t.cells.length = 20 := by
  obtain ⟨t0, t1, A2, c2, A3, c3, l3, A4, c4, A5, c5, h0, h1, h2, rfl⟩ := h
  have e0 := TCodeBaseAt.cells h0
  have e1 := TStoreAt.cells h1
  simp [PT.cells, PT.cellsL, List.length_append, List.length_cons, List.length_nil, TValue.pt, e0, e1]

structure TEdit where
  code : Int
  at_ : Int
  kind : Int

def TEdit.ty : Ty := .agg [.int .i64, .int .i64, .int .i64]

def TEdit.sane (x : TEdit) : Prop := i64 x.code ∧ i64 x.at_ ∧ i64 x.kind

def TEdit.pt (x : TEdit) : PT := .agg [.int .i64 x.code, .int .i64 x.at_, .int .i64 x.kind]

theorem TEdit.flat : Flat TEdit.pt 3 := ⟨fun _ => rfl, fun _ => rfl, fun _ _ => by simp [TEdit.pt, Own, OwnL], fun _ _ _ => by simp [TEdit.pt, Seen, SeenL]⟩

end Go.Proofs.YtdeokcbbjibkoaaDoor
/- A row's frame: the wrap that hands the walk both what the row lists and the world's shape. -/
namespace Go.Proofs.YtdeokcbbjibkoaaDoor
open Go Go.RowKit

theorem returnsInHanded_both {H : Type} {enc : TypeId × Value → H} {a : Assume} {C : Checked} {os : Os} {f : FuncId} {fn : Func} {s : ChangeSpec} {conds : List PathCond} {apart fresh handsOn again : Bool} {X : World → Array Value → Prop}
    (hX : ∀ (w w' : World) (args : Array Value), w.heap = w'.heap → X w args → X w' args)
    (own : ownKnob C.prog.godebug = none) (started : os.Started) (noInit : C.prog.inits.idxOf? f = none) (hfn : C.prog.funcs[f]? = some fn)
    (witness : ∃ (w : World) (tape : Tape) (i : Input), w.os = os ∧ (w.forCall tape i).Shaped C.prog ∧ i.vars = [] ∧ Input.okWide C.prog (w.forCall tape i) .any w.heap.size f i ∧
      ((s.pre enc C.prog fn conds apart (w.forCall tape i).memory i.args ∧ X (w.forCall tape i).memory i.args) ∧ sizedMet enc C.prog fn (OpenSpec.ofChange s) apart (w.forCall tape i).memory i.args) ∧ a.holds C.prog (lone (Frame.enter C.prog f i.args .normal) [] (w.forCall tape i)))
    (contract : ∀ (W : World) (base : Nat) (args : Array Value) (ds gs : List (DataW H)) (before : List MemPlace),
      (∀ (j : Nat) t v, fn.params[j]? = some t → args[j]? = some v → Value.okWide C.prog W .any base t v) →
      DataW.Whole enc C.prog fn.params.toList s.vars apart W args.toList ds gs before →
      conds.all (PathCond.test C.prog ⟨fn.params.toList, ds, s.plain.varTypes C.prog, gs⟩) = true →
      (DataW.weightsEach C.prog (fn.params.toList ++ s.plain.varTypes C.prog) (ds ++ gs)).all (· ≤ reachBytes) = true → X W args → W.ShapedOpen C.prog →
      a.holds C.prog (lone (Frame.enter C.prog f args .normal) [] W) →
      Calls C.prog f args W fun e W' => ∃ v, e = .returned v ∧ s.post enc C.prog fn apart fresh handsOn again W args v W') :
    ReturnsInHanded a C os f .any (fun w args => (s.pre enc C.prog fn conds apart w args ∧ X w args) ∧ sizedMet enc C.prog fn (OpenSpec.ofChange s) apart w args) (s.post enc C.prog fn apart fresh handsOn again) := by
  refine returnsInHanded_of_calls own started noInit witness ?_
  intro w tape i _ hsh _ hok hpre hholds
  obtain ⟨_, _, _, fn', hfn', _, _, _, _, hval⟩ := hok
  have e : fn' = fn := Option.some.inj (hfn'.symm.trans hfn)
  subst e
  obtain ⟨⟨⟨ds, gs, before, hw, hc⟩, hx⟩, hz⟩ := hpre
  have hw' := DataW.Whole.of_heap (w' := w.forCall tape i) (by rfl) hw
  refine (contract (w.forCall tape i) w.heap.size i.args ds gs before hval hw' hc (hz.weights hw) (hX _ _ _ (by rfl) hx) hsh hholds).mono fun e W' ⟨v, he, hp⟩ => ?_
  subst he
  exact ChangeSpec.post_blind hp

theorem maxL_of {W : World} (h : W.ShapedOpen Tryd.prog) : MaxL W :=
  cell_of_shapedOpen_int (zero := #[.int .i64 0]) h (of_decide_eq_true (by kernel_rfl)) (by kernel_rfl) (by kernel_rfl) (by kernel_rfl) (by kernel_rfl) Tryd.underlying3
theorem tabIs_of_reads {P : Program} {W : World} {name : String} {k : IntKind} {zs : List Int} {g : Nat} {t e : TypeId} {n : Nat}
    (hg : P.globalNamed name = some g) (hty : (P.globals[g]?).map (·.type) = some t) (ht : P.underlying t = some (.array n e)) (he : P.underlying e = some (.int k)) (hce : P.cellsOf e = 1) (hct : P.cellsOf t = n)
    (h : Lib.VarReads P W name (Lib.tabData k zs)) : Lib.TabIs P W name k zs := by
  obtain ⟨g', t', cs, fuel, p, hg', ht', hvar, hd⟩ := h
  obtain rfl := Option.some.inj (hg.symm.trans hg')
  obtain rfl := Option.some.inj (hty.symm.trans ht')
  unfold Lib.TabIs
  rw [hvar, ← Lib.cells_of_tab ht he hce hct hd]
theorem tabL_of {l : List (String × DataW Unit)} {W : World} (h : laidMet Tryd.prog l W) (hm : ("internal/strconv.uint64pow10", (Rows.laid_internal_strconv_uint64pow10 : DataW Unit)) ∈ l) : TabL W :=
  tabIs_of_reads (g := 1) (t := 147) (e := 106) (n := 20) (by kernel_rfl) (by kernel_rfl) Tryd.underlying147 Tryd.underlying106 (by kernel_rfl) (by kernel_rfl) ((show (Rows.laid_internal_strconv_uint64pow10 : DataW Unit) = Lib.tabData .u64 Lib.pow10Tab from by rfl) ▸ Lib.laidMet.reads h hm)
end Go.Proofs.YtdeokcbbjibkoaaDoor
