/- Part 1 of the proof: the texts Base, Str, Shelf, Num, SelPure, Sel, Ty, Mem. -/
import Derived.WalkKit
import Derived.WalkSpells
import Derived.WalkLawsBesides
import Derived.Deep.LoopGhost
import Derived.Deep.OwnRows
import Derived.Lib.Hide
import Derived.Handy
import Derived.Maps.AppendAt
import Derived.Deep.AppendLies
import Derived.RegionTactic
import Derived.OwnWalk
import Derived.Test.YthpdkhejeookhaaGreatDoorChecked
import Derived.Deep.QuietTactic
import Derived.BigQuiet
import Derived.Lib.Strings
import Derived.WideShapes
import Derived.Shelf.Strings.Search1
import Derived.Shelf.Strings.Search2
import Derived.Shelf.Strings.Search3
import Derived.Shelf.Strings.Count
import Derived.Shelf.LaysM
import Derived.Shelf.Strings.Shaped
import Derived.Shelf.Strings.Prefix
import Derived.Shelf.Strings.Split
import Derived.Shelf.Unicode.Decode
import Derived.Shelf.Strings.RuneCount
import Derived.Shelf.Strings.Explode
import Derived.Shelf.Bits.Mul64
import Derived.Shelf.Unicode.DecodeSlow
import Derived.Shelf.Unicode.DecodeAny
import Derived.Test.YthpdkhejeookhaaGreatDoorProg
import Derived.Lib.AppendIntMem
import Derived.Lib.SplitLaws
import Derived.Deep.RegionLaw
import Derived.ProofKit
import Derived.Deep.Slices
/- The vocabulary of memory that all proofs of this seat share: a value in memory as a tree with its addresses, what of it can be read, and what of it a call owns. Plain definitions and lemmas. -/
namespace Go.Proofs.YthpdkhejeookhaaGreatDoor
open Go Go.RowKit

inductive D where
  | int (k : IntKind) (n : Int)
  | bool (b : Bool)
  | str (s : ByteArray)
  | agg (l : List D)
  | sl (l : List D)

inductive PT where
  | int (k : IntKind) (n : Int)
  | bool (b : Bool)
  | str (s : ByteArray)
  | agg (l : List PT)
  | sl (A : Option Addr) (c m : Nat) (l : List PT)

namespace PT
mutual
def cells : PT → List Value
  | .int k n => [.int k n]
  | .bool b => [.bool b]
  | .str s => [.string s]
  | .agg l => cellsL l
  | .sl A c _ l => [.slice A l.length c]
def cellsL : List PT → List Value
  | [] => []
  | t :: r => cells t ++ cellsL r
end
mutual
def data : PT → D
  | .int k n => .int k n
  | .bool b => .bool b
  | .str s => .str s
  | .agg l => .agg (xF l)
  | .sl _ _ _ l => .sl (xF l)
def xF : List PT → List D
  | [] => []
  | t :: r => data t :: xF r
end
def value : PT → Value
  | .int k n => .int k n
  | .bool b => .bool b
  | .str s => .string s
  | .agg l => .agg (cellsL l).toArray
  | .sl A c _ l => .slice A l.length c
def rowOf : Option Addr → List Nat
  | some a => [a.block]
  | none => []
mutual
def blocks : PT → List Nat
  | .agg l => blocksL l
  | .sl A _ _ l => rowOf A ++ blocksL l
  | _ => []
def blocksL : List PT → List Nat
  | [] => []
  | t :: r => blocks t ++ blocksL r
end
end PT

def gR (w : World) (S : Nat → Prop) (A : Option Addr) (xs : List Value) : Prop :=
  ∀ j u, xs[j]? = some u → ∃ b o, A = some ⟨b, o, none⟩ ∧ S b ∧ w.cell? ⟨b, o + j, none⟩ = some u

mutual
def dl (w : World) (S : Nat → Prop) : PT → Prop
  | .agg l => cg w S l
  | .sl A c m l => l.length ≤ c ∧ c ≤ maxLen ∧ gR w S A (PT.cellsL l) ∧ (∀ t ∈ l, t.cells.length = m) ∧ cg w S l
  | _ => True
def cg (w : World) (S : Nat → Prop) : List PT → Prop
  | [] => True
  | t :: r => dl w S t ∧ cg w S r
end

mutual
def Own (w : World) : PT → Prop
  | .agg l => gq w l
  | .sl A c m l => (∀ t ∈ l, t.cells.length = m) ∧ (∃ e, w.ownsRow 0 e m (.slice A l.length c) l.length (PT.cellsL l)) ∧ gq w l
  | _ => True
def gq (w : World) : List PT → Prop
  | [] => True
  | t :: r => Own w t ∧ gq w r
end

def ck (w : World) (S : Nat → Prop) (t : PT) : Prop := Own w t ∧ t.blocks.Nodup ∧ ∀ b ∈ t.blocks, S b

theorem PT.blocksL_append (l m : List PT) : PT.blocksL (l ++ m) = PT.blocksL l ++ PT.blocksL m := by
  induction l with
  | nil => rfl
  | cons t r ih => simp [PT.blocksL, ih]
theorem PT.cellsL_append (l m : List PT) : PT.cellsL (l ++ m) = PT.cellsL l ++ PT.cellsL m := by
  induction l with
  | nil => rfl
  | cons t r ih => simp [PT.cellsL, ih]
theorem PT.ind {p : PT → Prop} {q : List PT → Prop} (hi : ∀ k n, p (.int k n)) (hb : ∀ b, p (.bool b)) (hs : ∀ s, p (.str s)) (ha : ∀ l, q l → p (.agg l)) (hl : ∀ A c m l, q l → p (.sl A c m l))
    (hn : q []) (hc : ∀ t r, p t → q r → q (t :: r)) : (∀ t, p t) ∧ (∀ l, q l) :=
  ⟨fun t => PT.rec (motive_1 := p) (motive_2 := q) hi hb hs ha hl hn hc t, fun l => PT.rec_1 (motive_1 := p) (motive_2 := q) hi hb hs ha hl hn hc l⟩

section
variable {w w' : World} {S S' : Nat → Prop}

theorem gR.nil (w : World) (S : Nat → Prop) (A : Option Addr) : gR w S A [] := fun j u h => by simp at h
theorem gR.keep {A : Option Addr} {xs : List Value} (h : gR w S A xs) (hk : ∀ b, S b → w'.heap[b]? = w.heap[b]?) (hm : ∀ b, S b → b < w.heap.size → S' b) : gR w' S' A xs := by
  intro j u hj
  obtain ⟨b, o, hA, hS, hc⟩ := h j u hj
  exact ⟨b, o, hA, hm b hS (World.block_lt_of_cell? w _ hc), (World.cell?_of_block (w := w) (w' := w') (a := ⟨b, o + j, none⟩) (hk b hS)).trans hc⟩

theorem oZ (hk : ∀ b, S b → w'.heap[b]? = w.heap[b]?) (hm : ∀ b, S b → b < w.heap.size → S' b) : (∀ t, dl w S t → dl w' S' t) ∧ (∀ l, cg w S l → cg w' S' l) :=
  PT.ind (fun _ _ _ => trivial) (fun _ _ => trivial) (fun _ _ => trivial) (fun _ h k => h k)
    (fun _ _ _ _ h k => ⟨k.1, k.2.1, k.2.2.1.keep hk hm, k.2.2.2.1, h k.2.2.2.2⟩) (fun _ => trivial) (fun _ _ h k m => ⟨h m.1, k m.2⟩)

theorem dl.keep {t : PT} (h : dl w S t) (hk : ∀ b, S b → w'.heap[b]? = w.heap[b]?) (hm : ∀ b, S b → b < w.heap.size → S' b) : dl w' S' t := (oZ hk hm).1 t h
theorem cg.keep {t : List PT} (h : cg w S t) (hk : ∀ b, S b → w'.heap[b]? = w.heap[b]?) (hm : ∀ b, S b → b < w.heap.size → S' b) : cg w' S' t := (oZ hk hm).2 t h

theorem dl.below {B : Nat} {t : PT} (h : dl w (· < B) t) (hb : Below B w w') : dl w' (· < B) t := h.keep (fun b hB => hb.block b hB) (fun _ h _ => h)
theorem cg.below {B : Nat} {t : List PT} (h : cg w (· < B) t) (hb : Below B w w') : cg w' (· < B) t := h.keep (fun b hB => hb.block b hB) (fun _ h _ => h)
theorem gR.below {B : Nat} {A : Option Addr} {xs : List Value} (h : gR w (· < B) A xs) (hb : Below B w w') : gR w' (· < B) A xs := h.keep (fun b hB => hb.block b hB) (fun _ h _ => h)
theorem dl.mono {t : PT} (h : dl w S t) (hm : ∀ b, S b → b < w.heap.size → S' b) : dl w S' t := h.keep (fun _ _ => rfl) hm
theorem cg.mono {t : List PT} (h : cg w S t) (hm : ∀ b, S b → b < w.heap.size → S' b) : cg w S' t := h.keep (fun _ _ => rfl) hm
theorem gR.mono {A : Option Addr} {xs : List Value} (h : gR w S A xs) (hm : ∀ b, S b → b < w.heap.size → S' b) : gR w S' A xs := h.keep (fun _ _ => rfl) hm
theorem dl.here {t : PT} (h : dl w S t) : dl w (· < w.heap.size) t := h.mono fun _ _ h => h
theorem cg.here {t : List PT} (h : cg w S t) : cg w (· < w.heap.size) t := h.mono fun _ _ h => h
theorem gR.here {A : Option Addr} {xs : List Value} (h : gR w S A xs) : gR w (· < w.heap.size) A xs := h.mono fun _ _ h => h

theorem cg.get {l : List PT} (h : cg w S l) {i : Nat} {t : PT} (hi : l[i]? = some t) : dl w S t := by
  induction l generalizing i with
  | nil => simp at hi
  | cons x r ih =>
    cases i with
    | zero => simp at hi; subst hi; exact h.1
    | succ i => exact ih h.2 (by simpa using hi)
theorem cg.of_get {l : List PT} (h : ∀ t ∈ l, dl w S t) : cg w S l := by
  induction l with
  | nil => trivial
  | cons x r ih => exact ⟨h x (by simp), ih fun t ht => h t (by simp [ht])⟩
theorem gq.get {l : List PT} (h : gq w l) {t : PT} (hi : t ∈ l) : Own w t := by
  induction l with
  | nil => simp at hi
  | cons x r ih =>
    rcases List.mem_cons.1 hi with rfl | hi
    · exact h.1
    · exact ih h.2 hi
theorem gq.of_get {l : List PT} (h : ∀ t ∈ l, Own w t) : gq w l := by
  induction l with
  | nil => trivial
  | cons x r ih => exact ⟨h x (by simp), ih fun t ht => h t (by simp [ht])⟩

theorem PT.mem_blocksL {l : List PT} {b : Nat} : b ∈ PT.blocksL l ↔ ∃ t ∈ l, b ∈ t.blocks := by
  induction l with
  | nil => simp [PT.blocksL]
  | cons x r ih => simp [PT.blocksL, ih]

theorem mA {A : Option Addr} {c m : Nat} {l : List PT} (h : Own w (.sl A c m l)) :
    (A = none ∧ c = 0 ∧ l = []) ∨ ∃ g cur e, A = some ⟨g, 0, none⟩ ∧ w.heap[g]? = some (.cells cur e (0, 0)) ∧ l.length ≤ c ∧ c ≤ maxLen ∧ cur.size = c * m ∧ cur.toList.take (l.length * m) = PT.cellsL l := by
  obtain ⟨_, ⟨e, _, h1 | ⟨g, cap, cur, hv, _, hg, hn, hc, hs, ht⟩⟩, _⟩ := h
  · obtain ⟨h1, h2⟩ := h1
    simp only [Value.slice.injEq] at h1
    exact .inl ⟨h1.1, h1.2.2, List.eq_nil_of_length_eq_zero h2⟩
  · simp only [Value.slice.injEq, true_and] at hv
    obtain ⟨rfl, rfl⟩ := hv
    exact .inr ⟨g, cur, e, rfl, hg, hn, hc, hs, ht⟩
theorem dS {g c m : Nat} {cur : Array Value} {e : TypeId} {l : List PT} (hm : ∀ t ∈ l, t.cells.length = m) (hL : (PT.cellsL l).length = l.length * m) (hg : w.heap[g]? = some (.cells cur e (0, 0))) (hn : l.length ≤ c) (hc : c ≤ maxLen) (hs : cur.size = c * m)
    (ht : cur.toList.take (l.length * m) = PT.cellsL l) (ho : gq w l) : Own w (.sl (some ⟨g, 0, none⟩) c m l) :=
  ⟨hm, ⟨e, hL, .inr ⟨g, c, cur, rfl, Nat.zero_le _, hg, hn, hc, hs, ht⟩⟩, ho⟩
theorem vw : (∀ t, Own w t → (∀ b ∈ t.blocks, S b) → dl w S t) ∧ (∀ l, gq w l → (∀ b ∈ PT.blocksL l, S b) → cg w S l) :=
  PT.ind (fun _ _ _ _ => trivial) (fun _ _ _ => trivial) (fun _ _ _ => trivial) (fun _ h k m => h k m)
    (fun A c m l h k hS => by
      rcases mA k with ⟨rfl, rfl, rfl⟩ | ⟨g, cur, e, rfl, hg, hl, hc, _, ht⟩
      · exact ⟨by simp, by simp, gR.nil _ _ _, by simp, trivial⟩
      · refine ⟨hl, hc, fun j u hj => ⟨g, 0, rfl, hS g (by simp [PT.blocks, PT.rowOf]), ?_⟩, k.1, h k.2.2 fun b hb => hS b (by simp [PT.blocks, hb])⟩
        rw [Nat.zero_add, cell_of_row w g j cur e (0, 0) hg]
        rw [← ht, List.getElem?_take] at hj
        split at hj
        · simpa using hj
        · cases hj)
    (fun _ _ => trivial) (fun t r h k m n => ⟨h m.1 fun b hb => n b (by simp [PT.blocksL, hb]), k m.2 fun b hb => n b (by simp [PT.blocksL, hb])⟩)

theorem ck.seen {t : PT} (h : ck w S t) : dl w S t := vw.1 t h.1 h.2.2

theorem fi : (∀ t, Own w t → (∀ b ∈ t.blocks, w'.heap[b]? = w.heap[b]?) → Own w' t) ∧ (∀ l, gq w l → (∀ b ∈ PT.blocksL l, w'.heap[b]? = w.heap[b]?) → gq w' l) :=
  PT.ind (fun _ _ _ _ => trivial) (fun _ _ _ => trivial) (fun _ _ _ => trivial) (fun _ h k m => h k m)
    (fun A c m l h k hb => by
      refine ⟨k.1, ?_, h k.2.2 fun b hb' => hb b (by simp [PT.blocks, hb'])⟩
      obtain ⟨_, ⟨e, h0, h1⟩, _⟩ := k
      rcases h1 with h1 | ⟨g, cap, cur, hv, h2, hg, h3⟩
      · exact ⟨e, h0, .inl h1⟩
      · refine ⟨e, h0, .inr ⟨g, cap, cur, hv, h2, ?_, h3⟩⟩
        simp only [Value.slice.injEq] at hv
        obtain ⟨rfl, _⟩ := hv
        exact (hb g (by simp [PT.blocks, PT.rowOf])).trans hg)
    (fun _ _ => trivial) (fun t r h k m n => ⟨h m.1 fun b hb => n b (by simp [PT.blocksL, hb]), k m.2 fun b hb => n b (by simp [PT.blocksL, hb])⟩)

theorem nQ : (∀ t, Own w t → ∀ b ∈ t.blocks, b < w.heap.size) ∧ (∀ l, gq w l → ∀ b ∈ PT.blocksL l, b < w.heap.size) :=
  PT.ind (fun _ _ _ b hb => by simp [PT.blocks] at hb) (fun _ _ b hb => by simp [PT.blocks] at hb) (fun _ _ b hb => by simp [PT.blocks] at hb) (fun _ h k b hb => h k b hb)
    (fun A c m l h k b hb => by
      have h2 := k.2.2
      rcases mA k with ⟨rfl, rfl, rfl⟩ | ⟨g, cur, e, rfl, hg, _⟩
      · simp [PT.blocks, PT.blocksL, PT.rowOf] at hb
      · simp only [PT.blocks, PT.rowOf, List.mem_append, List.mem_singleton] at hb
        rcases hb with rfl | hb
        · exact (Array.getElem?_eq_some_iff.1 hg).1
        · exact h h2 b hb)
    (fun _ b hb => by simp [PT.blocksL] at hb) (fun t r h k m b hb => by
      simp only [PT.blocksL, List.mem_append] at hb
      rcases hb with hb | hb
      · exact h m.1 b hb
      · exact k m.2 b hb)

theorem ck.keep {t : PT} (h : ck w S t) (hk : ∀ b, S b → b < w.heap.size → w'.heap[b]? = w.heap[b]?) : ck w' S t :=
  ⟨fi.1 t h.1 fun b hb => hk b (h.2.2 b hb) (nQ.1 t h.1 b hb), h.2.1, h.2.2⟩
theorem ck.mono {t : PT} (h : ck w S t) (hm : ∀ b, S b → b < w.heap.size → S' b) : ck w S' t :=
  ⟨h.1, h.2.1, fun b hb => hm b (h.2.2 b hb) (nQ.1 t h.1 b hb)⟩
theorem ck.below {t : PT} (h : ck w S t) (hb : Below w.heap.size w w') : ck w' S t := h.keep fun b _ hlt => hb.block b hlt
end

structure cW (T : Nat → Prop) (w w' : World) : Prop where
  os : w'.os = w.os
  tape : w'.tape = w.tape
  output : w'.output = w.output
  size : w.heap.size ≤ w'.heap.size
  block : ∀ b, b < w.heap.size → ¬ T b → w'.heap[b]? = w.heap[b]?
theorem cW.refl (T : Nat → Prop) (w : World) : cW T w w := ⟨rfl, rfl, rfl, Nat.le_refl _, fun _ _ _ => rfl⟩
theorem cW.trans {T : Nat → Prop} {a b c : World} (h : cW T a b) (k : cW T b c) : cW T a c :=
  ⟨k.os.trans h.os, k.tape.trans h.tape, k.output.trans h.output, Nat.le_trans h.size k.size, fun i hi hn => (k.block i (Nat.lt_of_lt_of_le hi h.size) hn).trans (h.block i hi hn)⟩
theorem cW.mono {T T' : Nat → Prop} {w w' : World} (h : cW T w w') (hm : ∀ b, b < w.heap.size → T b → T' b) : cW T' w w' :=
  ⟨h.os, h.tape, h.output, h.size, fun b hb hn => h.block b hb fun ht => hn (hm b hb ht)⟩
theorem cW.setCell {T : Nat → Prop} {w w' : World} (h : cW T w w') {p : Addr} (hp : T p.block) (u : Value) : cW T w (w'.setCell p u) :=
  h.trans ⟨rfl, rfl, rfl, by simp [World.setCell], fun b _ hn => Below.heap_setCell _ _ _ _ (fun e => hn (e ▸ hp))⟩
theorem cW.drewN {T : Nat → Prop} {w w' : World} (h : cW T w w') (n : Nat) : cW T w (w'.drewN n) := ⟨h.os, h.tape, h.output, h.size, h.block⟩
theorem cW.below {T : Nat → Prop} {B : Nat} {w w' : World} (h : cW T w w') (hB : B ≤ w.heap.size) (hT : ∀ b, T b → B ≤ b) : Below B w w' :=
  ⟨h.os, h.tape, h.output, h.size, fun b hb => h.block b (by omega) fun ht => by have := hT b ht; omega⟩
theorem cW.of_below {w w' : World} (h : Below w.heap.size w w') (T : Nat → Prop) : cW T w w' := ⟨h.os, h.tape, h.output, h.size, fun b hb _ => h.block b hb⟩
theorem bw {B : Nat} {a w : World} (h : Below B a w) (n : Nat) : Below B a (w.drewN n) := ⟨h.os, h.tape, h.output, h.size, h.block⟩
theorem dl.touch {w w' : World} {S T : Nat → Prop} {t : PT} (h : dl w S t) (ht : cW T w w') (hd : ∀ b, S b → b < w.heap.size → ¬ T b) : dl w' S t :=
  (h.mono (S' := fun b => S b ∧ b < w.heap.size) fun _ h1 h2 => ⟨h1, h2⟩).keep (fun b hb => ht.block b hb.2 (hd b hb.1 hb.2)) fun _ hb _ => hb.1
theorem ck.touch {w w' : World} {S T : Nat → Prop} {t : PT} (h : ck w S t) (ht : cW T w w') (hd : ∀ b, S b → b < w.heap.size → ¬ T b) : ck w' S t :=
  h.keep fun b hS hb => ht.block b hb (hd b hS hb)

theorem gR.touch {w w' : World} {S T : Nat → Prop} {A : Option Addr} {xs : List Value} (h : gR w S A xs) (ht : cW T w w') (hd : ∀ b, S b → b < w.heap.size → ¬ T b) : gR w' S A xs :=
  (h.mono (S' := fun b => S b ∧ b < w.heap.size) fun _ h1 h2 => ⟨h1, h2⟩).keep (fun b hb => ht.block b hb.2 (hd b hb.1 hb.2)) fun _ hb _ => hb.1

def Ext (w w' : World) : Prop := ∀ b, b < w.heap.size → w'.heap[b]? = w.heap[b]?
theorem Ext.refl (w : World) : Ext w w := fun _ _ => rfl
theorem Ext.alloc {w w' : World} (h : Ext w w') (o : Obj) (hs : w.heap.size ≤ w'.heap.size) : Ext w (w'.alloc o) := fun b hb => (Below.heap_alloc w' o b (by omega)).trans (h b hb)
theorem Ext.alloc1 (w : World) (o : Obj) : Ext w (w.alloc o) := fun b hb => Below.heap_alloc w o b hb
theorem Ext.of_below {w w' : World} (h : Below w.heap.size w w') : Ext w w' := fun b hb => h.block b hb
theorem gR.ext {w w' : World} {S : Nat → Prop} {A : Option Addr} {xs : List Value} (h : gR w S A xs) (he : Ext w w') : gR w' S A xs :=
  (h.mono (S' := fun b => S b ∧ b < w.heap.size) fun _ h1 h2 => ⟨h1, h2⟩).keep (fun b hb => he b hb.2) fun _ hb _ => hb.1
theorem dl.ext {w w' : World} {S : Nat → Prop} {t : PT} (h : dl w S t) (he : Ext w w') : dl w' S t :=
  (h.mono (S' := fun b => S b ∧ b < w.heap.size) fun _ h1 h2 => ⟨h1, h2⟩).keep (fun b hb => he b hb.2) fun _ hb _ => hb.1
theorem ck.ext {w w' : World} {S : Nat → Prop} {t : PT} (h : ck w S t) (he : Ext w w') : ck w' S t := h.keep fun b _ hb => he b hb

theorem qI {w w' : World} (h : ∃ n, w' = w.drewN n) : Below w.heap.size w w' := by
  obtain ⟨n, rfl⟩ := h
  exact bw (Below.refl _ _) n
def Rng (lo hi : Nat) (b : Nat) : Prop := lo ≤ b ∧ b < hi
def Blk (w : World) (g : Nat) (t : TypeId) (cs : Array Value) : Prop := w.heap[g]? = some (.cells cs t (0, 0))
section
variable {w w' : World} {g : Nat} {t : TypeId} {cs : Array Value}
theorem Blk.lt (h : Blk w g t cs) : g < w.heap.size := (Array.getElem?_eq_some_iff.1 h).1
theorem Blk.cell (h : Blk w g t cs) (i : Nat) : w.cell? ⟨g, i, none⟩ = cs[i]? := cell_of_row w g i cs t (0, 0) h
theorem Blk.frozen (h : Blk w g t cs) (i : Nat) : w.frozen? ⟨g, i, none⟩ = false := by
  unfold Blk at h
  simp [World.frozen?, h]
theorem Blk.new (w : World) (t : TypeId) (cs : Array Value) : Blk (w.alloc (.cells cs t)) w.heap.size t cs := heap_alloc_new w _
theorem Blk.alloc (h : Blk w g t cs) (o : Obj) : Blk (w.alloc o) g t cs := (Below.heap_alloc w o g h.lt).trans h
theorem Blk.set_ (h : Blk w g t cs) (i : Nat) (u : Value) : Blk (w.setCell ⟨g, i, none⟩ u) g t (cs.setIfInBounds i u) := by
  unfold Blk at h ⊢
  simp [World.setCell, Array.getElem?_modify, h]
theorem Blk.far (h : Blk w g t cs) {p : Addr} (hp : g ≠ p.block) (u : Value) : Blk (w.setCell p u) g t cs := (Below.heap_setCell w p u g hp).trans h
theorem Blk.below {B : Nat} (h : Blk w g t cs) (hb : Below B w w') (hg : g < B) : Blk w' g t cs := (hb.block g hg).trans h
theorem Blk.touch {T : Nat → Prop} (h : Blk w g t cs) (ht : cW T w w') (hg : ¬ T g) : Blk w' g t cs := (ht.block g h.lt hg).trans h
theorem Blk.ext (h : Blk w g t cs) (he : Ext w w') : Blk w' g t cs := (he g h.lt).trans h
end

theorem PT.cellsL_at {m : Nat} : ∀ {l : List PT}, (∀ t ∈ l, t.cells.length = m) → ∀ {k j : Nat} {t : PT}, l[k]? = some t → j < m → (PT.cellsL l)[k * m + j]? = t.cells[j]?
  | [], _, k, j, t, hk, _ => by simp at hk
  | x :: r, h, 0, j, t, hk, hj => by
    simp at hk; subst hk
    rw [PT.cellsL, List.getElem?_append_left (by rw [h x (by simp)]; omega)]
    congr 1; omega
  | x :: r, h, k + 1, j, t, hk, hj => by
    rw [PT.cellsL, List.getElem?_append_right (by rw [h x (by simp), Nat.succ_mul]; omega), h x (by simp)]
    rw [show (k + 1) * m + j - m = k * m + j by rw [Nat.succ_mul]; omega]
    exact PT.cellsL_at (fun t ht => h t (by simp [ht])) (by simpa using hk) hj
theorem PT.length_cellsL {m : Nat} : ∀ {l : List PT}, (∀ t ∈ l, t.cells.length = m) → (PT.cellsL l).length = l.length * m
  | [], _ => by simp [PT.cellsL]
  | x :: r, h => by
    rw [PT.cellsL, List.length_append, h x (by simp), PT.length_cellsL fun t ht => h t (by simp [ht]), List.length_cons, Nat.succ_mul]; omega

theorem gR.elem {w : World} {S : Nat → Prop} {A : Option Addr} {l : List PT} (h : gR w S A (PT.cellsL l)) {m : Nat} (hm : ∀ t ∈ l, t.cells.length = m) (hm0 : 0 < m) {k : Nat} {t : PT} (hk : l[k]? = some t) :
    ∃ b o, A = some ⟨b, o, none⟩ ∧ S b ∧ ∀ j u, t.cells[j]? = some u → w.cell? ⟨b, o + (k * m + j), none⟩ = some u := by
  have ht : t.cells.length = m := hm t (List.mem_of_getElem? hk)
  have h0 : ∃ u, t.cells[0]? = some u := ⟨_, List.getElem?_eq_getElem (by omega)⟩
  obtain ⟨u0, hu0⟩ := h0
  obtain ⟨b, o, hA, hS, _⟩ := h (k * m + 0) u0 (by rw [PT.cellsL_at hm hk hm0, hu0])
  refine ⟨b, o, hA, hS, fun j u hj => ?_⟩
  have hjm : j < m := by
    have := (List.getElem?_eq_some_iff.1 hj).1; omega
  obtain ⟨b', o', hA', _, hc⟩ := h (k * m + j) u (by rw [PT.cellsL_at hm hk hjm, hj])
  rw [hA] at hA'
  obtain ⟨rfl, rfl⟩ : b = b' ∧ o = o' := by simpa using hA'
  exact hc

theorem PT.oneCell : (∀ t : PT, ∀ u ∈ t.cells, u.oneCell' = true) ∧ (∀ l : List PT, ∀ u ∈ PT.cellsL l, u.oneCell' = true) :=
  PT.ind (fun _ _ u hu => by simp [PT.cells] at hu; subst hu; rfl) (fun _ u hu => by simp [PT.cells] at hu; subst hu; rfl) (fun _ u hu => by simp [PT.cells] at hu; subst hu; rfl) (fun _ h => h)
    (fun _ _ _ _ _ u hu => by simp [PT.cells] at hu; subst hu; rfl) (fun u hu => by simp [PT.cellsL] at hu) (fun t r h k u hu => by
      simp only [PT.cellsL, List.mem_append] at hu
      rcases hu with hu | hu
      · exact h u hu
      · exact k u hu)

section
variable {P : Program} (w : World)

theorem gM (t ty e e' : TypeId) (i : TypeInfo) (ht : P.underlying t = some (.slice e)) (hi : P.info? e = some i)
    (g sLen sCap : Nat) (cur : Array Value) (hg : w.heap[g]? = some (.cells cur e' (0, 0)))
    (a : Addr) (m c : Nat) (news : List Value) (hl : news.length = m * i.size) (hnews : ∀ j u, news[j]? = some u → w.cell? (a.add j) = some u) (h1 : ∀ u ∈ news, u.oneCell' = true)
    (hroom : sLen + m ≤ sCap) (hfit : sLen * i.size + news.length ≤ cur.size) :
    (Builtin.append_ #[t, t] ty #[.slice (some ⟨g, 0, none⟩) sLen sCap, .slice (some a) m c]).run P w =
      .ok (.slice (some ⟨g, 0, none⟩) (sLen + m) sCap) (w.setRow g (cur.toList.take (sLen * i.size) ++ news ++ cur.toList.drop (sLen * i.size + news.length)).toArray) := by
  have hf := run_firstCells_some (P := P) w i.size m a m c news hl hnews
  have hst := run_storeCells_at P g (sLen * i.size) e' news 0 cur w hg (by simpa using hfit) h1
  simp only [Nat.add_zero] at hst
  simp [Builtin.append_, run_underlying ht, sizeOf, typeInfo, hi, Builtin.lenOf, hroom, hf, Addr.add_lit, hst]

theorem ml (t ty e : TypeId) (i : TypeInfo) (z : Value) (m bytes : Nat) (ht : P.underlying t = some (.slice e)) (hi : P.info? e = some i) (hz : i.zero = some z)
    (hsize : i.size = m) (hby : i.bytes = bytes) (hzs : z.cells.size = m) (hm0 : 0 < m)
    {S S2 : Nat → Prop} (A A2 : Option Addr) (c c2 n n2 : Nat) (l news : List PT) (hown : ck w S (.sl A c m l)) (hsee : gR w S2 A2 (PT.cellsL news)) (hn : n = l.length) (hn2 : n2 = news.length)
    (hmm : ∀ t ∈ news, t.cells.length = m) (hown2 : gq w news) (hnd : ((PT.sl A c m l).blocks ++ PT.blocksL news).Nodup) (hS2 : ∀ b ∈ PT.blocksL news, S b) (hSn : S w.heap.size)
    (h63 : n + n2 ≤ maxLen) (hbytes : (n + n2) * bytes ≤ 140737488355328) :
    ∃ A' c' w', (Builtin.append_ #[t, t] ty #[.slice A n c, .slice A2 n2 c2]).run P w = .ok (.slice A' (n + n2) c') w' ∧ ck w' S (.sl A' c' m (l ++ news)) ∧ cW (· ∈ PT.rowOf A) w w' ∧ (A' = A ∨ A' = some ⟨w.heap.size, 0, none⟩) := by
  subst hsize; subst hby; subst hn; subst hn2
  have hsmall : l.length + news.length ≤ 9223372036854775807 := by simp only [maxLen] at h63; omega
  have hL1 := PT.length_cellsL hown.1.1
  have hL2 := PT.length_cellsL hmm
  have hmm' : ∀ t ∈ l ++ news, t.cells.length = i.size := fun t ht => by
    rcases List.mem_append.1 ht with h | h
    · exact hown.1.1 t h
    · exact hmm t h
  have hLL := PT.length_cellsL hmm'
  have h1 : ∀ u ∈ PT.cellsL news, u.oneCell' = true := PT.oneCell.2 news
  have hnd' := List.nodup_append.1 hnd
  have hlt := nQ.1 _ hown.1
  have hlt2 := nQ.2 _ hown2
  -- the new block, where the row must grow
  have grown : ∀ old, ck (w.drew.alloc (.cells ((PT.cellsL l).toArray ++ (PT.cellsL news).toArray ++ Builtin.zeroCells z.cells (grownCap w (l.length + news.length) old e - (l.length + news.length))) e)) S
      (.sl (some ⟨w.heap.size, 0, none⟩) (grownCap w (l.length + news.length) old e) i.size (l ++ news)) ∧
      cW (· ∈ PT.rowOf A) w (w.drew.alloc (.cells ((PT.cellsL l).toArray ++ (PT.cellsL news).toArray ++ Builtin.zeroCells z.cells (grownCap w (l.length + news.length) old e - (l.length + news.length))) e)) := by
    intro old
    have hge := grownCap_ge w (l.length + news.length) old e
    have hcm : grownCap w (l.length + news.length) old e ≤ maxLen := grownCap_le_maxLen w (l.length + news.length) old e h63
    have hkeep : ∀ b, b < w.heap.size → ∀ o, (w.drew.alloc o).heap[b]? = w.heap[b]? := fun b hb o => Below.heap_alloc w.drew o b hb
    refine ⟨⟨dS hmm' hLL (heap_alloc_new w.drew _) (by simpa using hge) hcm ?_ ?_ (gq.of_get fun t ht => ?_), ?_, ?_⟩, ⟨rfl, rfl, rfl, by simp, fun b hb _ => hkeep b hb _⟩⟩
    · simp only [Array.size_append, List.size_toArray, size_zeroCells, hzs, hL1, hL2, ← Nat.add_mul]
      congr 1
      omega
    · simp only [Array.toList_append, PT.cellsL_append, List.append_assoc]
      rw [← List.append_assoc, show (l ++ news).length * i.size = (PT.cellsL l ++ PT.cellsL news).length by simp only [List.length_append, hL1, hL2, Nat.add_mul]]
      exact List.take_left
    · rcases List.mem_append.1 ht with h | h
      · exact fi.1 t (gq.get hown.1.2.2 h) fun b hb => hkeep b (hlt b (by simp only [PT.blocks, List.mem_append]; exact .inr (PT.mem_blocksL.2 ⟨t, h, hb⟩))) _
      · exact fi.1 t (gq.get hown2 h) fun b hb => hkeep b (hlt2 b (PT.mem_blocksL.2 ⟨t, h, hb⟩)) _
    · have h2 : (PT.blocksL l).Nodup := (List.nodup_append.1 hnd'.1).2.1
      simp only [PT.blocks, PT.rowOf, PT.blocksL_append, List.singleton_append, List.nodup_cons, List.nodup_append, List.mem_append, not_or]
      refine ⟨⟨fun h => ?_, fun h => ?_⟩, h2, hnd'.2.1, fun a ha b hb => hnd'.2.2 a (by simp only [PT.blocks, List.mem_append]; exact .inr ha) b hb⟩
      · exact Nat.lt_irrefl _ (hlt _ (by simp only [PT.blocks, List.mem_append]; exact .inr h))
      · exact Nat.lt_irrefl _ (hlt2 _ h)
    · intro b hb
      simp only [PT.blocks, PT.rowOf, PT.blocksL_append, List.mem_append, List.mem_singleton] at hb
      rcases hb with rfl | hb | hb
      · exact hSn
      · exact hown.2.2 b (by simp only [PT.blocks, List.mem_append]; exact .inr hb)
      · exact hS2 b hb
  by_cases hz2 : news = []
  · subst hz2
    refine ⟨A, c, w, ?_, by simpa using hown, cW.refl _ _, .inl rfl⟩
    rcases mA hown.1 with ⟨rfl, rfl, rfl⟩ | ⟨g, cur, e', rfl, hg, hnc, hcm, hcs, htake⟩
    · cases A2 <;> simp [Builtin.append_, run_underlying ht, sizeOf, typeInfo, hi, Builtin.lenOf, Builtin.firstCells, loadCells, loadCellsFrom]
    · cases A2 <;> simp [Builtin.append_, run_underlying ht, sizeOf, typeInfo, hi, Builtin.lenOf, Builtin.firstCells, hnc, storeCells, loadCells, loadCellsFrom]
  · obtain ⟨b2, o2, hA2, _⟩ : ∃ b o, A2 = some ⟨b, o, none⟩ ∧ S2 b := by
      have hp : 0 < (PT.cellsL news).length := by
        rw [hL2]; exact Nat.mul_pos (List.length_pos_iff.2 hz2) hm0
      obtain ⟨b, o, h2, h3, _⟩ := hsee 0 _ (List.getElem?_eq_getElem hp)
      exact ⟨b, o, h2, h3⟩
    subst hA2
    have hpos : 0 < news.length := List.length_pos_iff.2 hz2
    have hnews : ∀ j u, (PT.cellsL news)[j]? = some u → w.cell? ((⟨b2, o2, none⟩ : Addr).add j) = some u := fun j u hj => by
      obtain ⟨b, o, hA, _, hc⟩ := hsee j u hj
      simp only [Option.some.injEq, Addr.mk.injEq, and_true] at hA
      obtain ⟨rfl, rfl⟩ := hA
      rw [Addr.add_lit]; exact hc
    rcases mA hown.1 with ⟨rfl, rfl, rfl⟩ | ⟨g, cur, e', rfl, hg, hnc, hcm, hcs, htake⟩
    · have hr := run_append_nil (P := P) w t ty e i z ht hi hz ⟨b2, o2, none⟩ news.length c2 (PT.cellsL news) hL2 hnews (by omega) (by simp at hsmall; omega) (by have hb := hbytes; simp only [List.length_nil, Nat.zero_add] at hb; omega)
      have hgr := grown 0
      simp only [List.length_nil, Nat.zero_add, List.nil_append, PT.cellsL, Array.empty_append] at hgr hr ⊢
      exact ⟨_, _, _, hr, hgr.1, hgr.2, .inr rfl⟩
    · by_cases hroom : l.length + news.length ≤ c
      · have hfit : l.length * i.size + (PT.cellsL news).length ≤ cur.size := by rw [hL2, hcs, ← Nat.add_mul]; exact Nat.mul_le_mul_right _ hroom
        have hr := gM (P := P) w t ty e e' i ht hi g l.length c cur hg ⟨b2, o2, none⟩ news.length c2 (PT.cellsL news) hL2 hnews h1 hroom hfit
        have hother : ∀ b, b ≠ g → ∀ d, (w.setRow g d).heap[b]? = w.heap[b]? := fun b hb d => setRow_other w g b _ hb
        refine ⟨_, _, _, hr, ⟨dS hmm' hLL (setRow_heap w g cur _ e' _ hg) (by simpa using hroom) hcm ?_ ?_ (gq.of_get fun t ht => ?_), ?_, ?_⟩, ⟨rfl, rfl, rfl, by simp, fun b _ hb => hother b (fun h => hb (by simp [PT.rowOf, h])) _⟩, .inl rfl⟩
        · simp only [List.size_toArray, List.length_append, List.length_take, List.length_drop, Array.length_toList]
          omega
        · rw [htake, PT.cellsL_append, show (l ++ news).length * i.size = (PT.cellsL l ++ PT.cellsL news).length by simp only [List.length_append, hL1, hL2, Nat.add_mul]]
          exact List.take_left
        · have hgn : ∀ b ∈ PT.blocksL l, b ≠ g := fun b hb h => by
            have := (List.nodup_append.1 hnd'.1).2.2 g (by simp [PT.rowOf]) b hb
            exact this h.symm
          have hgn2 : ∀ b ∈ PT.blocksL news, b ≠ g := fun b hb h => hnd'.2.2 g (by simp [PT.blocks, PT.rowOf]) b hb h.symm
          rcases List.mem_append.1 ht with h | h
          · exact fi.1 t (gq.get hown.1.2.2 h) fun b hb => hother b (hgn b (PT.mem_blocksL.2 ⟨t, h, hb⟩)) _
          · exact fi.1 t (gq.get hown2 h) fun b hb => hother b (hgn2 b (PT.mem_blocksL.2 ⟨t, h, hb⟩)) _
        · simpa [PT.blocks, PT.blocksL_append] using hnd
        · intro b hb
          simp only [PT.blocks, PT.blocksL_append, List.mem_append] at hb
          rcases hb with hb | hb | hb
          · exact hown.2.2 b (by simp only [PT.blocks, List.mem_append]; exact .inl hb)
          · exact hown.2.2 b (by simp only [PT.blocks, List.mem_append]; exact .inr hb)
          · exact hS2 b hb
      · have holds : ∀ j u, (PT.cellsL l)[j]? = some u → w.cell? ((⟨g, 0, none⟩ : Addr).add j) = some u := fun j u hj => by
          rw [Addr.add_lit, Nat.zero_add, cell_of_row w g j cur e' (0, 0) hg]
          rw [← htake, List.getElem?_take] at hj
          split at hj
          · simpa using hj
          · cases hj
        have hr := run_append_grow (P := P) w t ty e i z ht hi hz ⟨g, 0, none⟩ l.length c (PT.cellsL l) hL1 holds ⟨b2, o2, none⟩ news.length c2 (PT.cellsL news) hL2 hnews (by omega) (by omega) (growslice_fits (by omega) hbytes)
        exact ⟨_, _, _, hr, (grown c).1, (grown c).2, .inr rfl⟩
end

section
variable {P : Program} (w : World)
theorem nU {o : Oper} {a : Act} {K : Act → World → Prop} {Q : Exit → Act → World → Prop} (s x : Operand) (t : TypeId)
    (ho : o.op = .call { callee := .builtin .append, args := #[s, x], argTypes := #[t, t] }) (e : TypeId) (i : TypeInfo) (z : Value) (m bytes : Nat) (ht : P.underlying t = some (.slice e)) (hi : P.info? e = some i) (hz : i.zero = some z)
    (hsize : i.size = m) (hby : i.bytes = bytes) (hzs : z.cells.size = m) (hm0 : 0 < m)
    {S S2 : Nat → Prop} (A A2 : Option Addr) (c c2 n n2 : Nat) (l news : List PT) (hs : a.eval s = .slice A n c) (hx : a.eval x = .slice A2 n2 c2) (hown : ck w S (.sl A c m l)) (hsee : gR w S2 A2 (PT.cellsL news)) (hn : n = l.length) (hn2 : n2 = news.length)
    (hmm : ∀ t ∈ news, t.cells.length = m) (hown2 : gq w news) (hnd : ((PT.sl A c m l).blocks ++ PT.blocksL news).Nodup) (hS2 : ∀ b ∈ PT.blocksL news, S b) (hSn : S w.heap.size)
    (h63 : n + n2 ≤ maxLen) (hbytes : (n + n2) * bytes ≤ 140737488355328)
    (h : ∀ A' c' w', ck w' S (.sl A' c' m (l ++ news)) → cW (· ∈ PT.rowOf A) w w' → (A' = A ∨ A' = some ⟨w.heap.size, 0, none⟩) → K (a.put o.dst (.slice A' (n + n2) c')) w') : o.wp P a w K Q := by
  obtain ⟨A', c', w', hr, h1, h2, h3⟩ := ml (P := P) w t o.type e i z m bytes ht hi hz hsize hby hzs hm0 A A2 c c2 n n2 l news hown hsee hn hn2 hmm hown2 hnd hS2 hSn h63 hbytes
  unfold Oper.wp execOp
  simp only [ho, resolve, invoke, builtin, Sem.run_bind, Sem.run_pure, Result.andThen_ok, List.map_toArray, List.map_cons, List.map_nil, hs, hx, hr]
  exact h A' c' w' h1 h2 h3
theorem jG {ops : Array Oper} {rest : List Oper} {o : Oper} {a : Act} {Q : Exit → Act → World → Prop} (hgd : o.guard = none) (s x : Operand) (t : TypeId)
    (ho : o.op = .call { callee := .builtin .append, args := #[s, x], argTypes := #[t, t] }) (e : TypeId) (i : TypeInfo) (z : Value) (m bytes : Nat) (ht : P.underlying t = some (.slice e)) (hi : P.info? e = some i) (hz : i.zero = some z)
    (hsize : i.size = m) (hby : i.bytes = bytes) (hzs : z.cells.size = m) (hm0 : 0 < m)
    {S S2 : Nat → Prop} (A A2 : Option Addr) (c c2 n n2 : Nat) (l news : List PT) (hs : a.eval s = .slice A n c) (hx : a.eval x = .slice A2 n2 c2) (hown : ck w S (.sl A c m l)) (hsee : gR w S2 A2 (PT.cellsL news)) (hn : n = l.length) (hn2 : n2 = news.length)
    (hmm : ∀ t ∈ news, t.cells.length = m) (hown2 : gq w news) (hnd : ((PT.sl A c m l).blocks ++ PT.blocksL news).Nodup) (hS2 : ∀ b ∈ PT.blocksL news, S b) (hSn : S w.heap.size)
    (h63 : n + n2 ≤ maxLen) (hbytes : (n + n2) * bytes ≤ 140737488355328)
    (h : ∀ A' c' w', ck w' S (.sl A' c' m (l ++ news)) → cW (· ∈ PT.rowOf A) w w' → (A' = A ∨ A' = some ⟨w.heap.size, 0, none⟩) → wpList P ops Q rest (a.put o.dst (.slice A' (n + n2) c')) w') : wpList P ops Q (o :: rest) a w :=
  wpList_plain hgd fun _ hK => nU w s x t ho e i z m bytes ht hi hz hsize hby hzs hm0 A A2 c c2 n n2 l news hs hx hown hsee hn hn2 hmm hown2 hnd hS2 hSn h63 hbytes fun A' c' w' h1 h2 h3 => hK _ _ (h A' c' w' h1 h2 h3)
end

theorem vF (w : World) (cs : Array Value) (e : TypeId) : gR (w.alloc (.cells cs e)) (fun _ => True) (some ⟨w.heap.size, 0, none⟩) cs.toList := fun j u hj =>
  ⟨_, _, rfl, trivial, by rw [Nat.zero_add, World.cell?_alloc_new]; simpa using hj⟩

theorem iS {P : Program} {ops : Array Oper} {rest : List Oper} {o : Oper} {a : Act} {Q : Exit → Act → World → Prop} {w : World} (hgd : o.guard = none) (s x : Operand) (t e : TypeId) (z : Value) (m bytes : Nat)
    (ho : o.op = .call { callee := .builtin .append, args := #[s, x], argTypes := #[t, t] }) (ht : P.underlying t = some (.slice e)) (hinfo : (P.info? e).map (fun i => (i.zero, i.size, i.bytes)) = some (some z, m, bytes)) (hzs : z.cells.size = m) (hm0 : 0 < m)
    {S : Nat → Prop} (A : Option Addr) (c n : Nat) (l : List PT) (el : PT)
    (hs : a.eval s = .slice A n c) (hx : a.eval x = .slice (some ⟨w.heap.size, 0, none⟩) 1 1) (hown : ck w S (.sl A c m l)) (hn : n = l.length) (hel : el.cells.length = m) (hob : Own w el) (hbl : el.blocks = []) (hS : S (w.heap.size + 1)) (hl : n ≤ 1000000000) (hb : bytes ≤ 1000)
    (h : ∀ A' c' w', ck w' S (.sl A' c' m (l ++ [el])) → cW (· ∈ PT.rowOf A) w w' → (∀ g, A = some ⟨g, 0, none⟩ → ∃ g', A' = some ⟨g', 0, none⟩) → wpList P ops Q rest (a.put o.dst (.slice A' (n + 1) c')) w') :
    wpList P ops Q (o :: rest) a (w.alloc (.cells el.cells.toArray e)) := by
  obtain ⟨i0, hi0, hz0, hz1, hz2⟩ := info_parts hinfo
  refine jG (w.alloc (.cells el.cells.toArray e)) hgd s x _ ho e i0 _ m bytes ht hi0 hz0 hz1 hz2 hzs hm0 (S := S) A _ c 1 n 1 l [el] hs hx (hown.ext (Ext.alloc1 w _)) (by simpa [PT.cellsL] using vF w el.cells.toArray e) hn rfl (by simpa using hel) ⟨fi.1 el hob (by simp [hbl]), trivial⟩
    (by simpa [PT.blocksL, hbl] using hown.2.1) (by simp [PT.blocksL, hbl]) (by simpa using hS) (by simp only [maxLen]; omega) ?_ fun A' c' w' h1 h2 h3 => ?_
  · have : (n + 1) * bytes ≤ 1000000001 * 1000 := Nat.mul_le_mul (by omega) hb
    omega
  · refine h A' c' w' h1 ((cW.of_below ((Below.refl _ _).alloc (Nat.le_refl _) _) _).trans h2) fun g hg => ?_
    rcases h3 with rfl | rfl
    · exact ⟨g, hg⟩
    · exact ⟨_, rfl⟩

theorem rM {w : World} {S : Nat → Prop} (e : TypeId) (m : Nat) (hS : S w.heap.size) : ck (w.alloc (.cells #[] e)) S (.sl (some ⟨w.heap.size, 0, none⟩) 0 m []) :=
  ⟨dS (by simp) (by simp [PT.cellsL]) (heap_alloc_new w _) (by simp) (by simp) (by simp) (by simp [PT.cellsL]) trivial, by simp [PT.blocks, PT.blocksL, PT.rowOf], by simpa [PT.blocks, PT.blocksL, PT.rowOf] using hS⟩


def inR (n a b : Int) : Bool := decide (a ≤ n ∧ n ≤ b)
theorem pQ {n a b : Int} (h : a ≤ n ∧ n ≤ b) : inR n a b = true := by simp [inR, h]
theorem vy {n a b : Int} (h : ¬ (a ≤ n ∧ n ≤ b)) : inR n a b = false := by simp only [inR, decide_eq_false_iff_not]; exact h

theorem ma {a b : ByteArray} (h : a = b) : Ending.returned (.string a) = .returned (.string b) := by rw [h]
theorem ff {k : IntKind} {a b : Int} (h : a = b) : Ending.returned (.int k a) = .returned (.int k b) := by rw [h]
theorem bF {a b : Bool} (h : a = b) : Ending.returned (.bool a) = .returned (.bool b) := by rw [h]

set_option maxHeartbeats 400000 in
theorem lw (n a b : Int) (w : World) : Calls Tryz.prog 57 #[.int .i64 n, .int .i64 a, .int .i64 b] w fun e w' => e = .returned (.bool (inR n a b)) ∧ w = w' := by
  by_cases h1 : a ≤ n
  all_goals by_cases h2 : n ≤ b
  all_goals
    go_enter Tryz.func57, Tryz.ntmps57
    go_wp2
    go_ret
    exact ⟨bF (by simp [inR]; omega), rfl⟩

def ej (b : UInt8) : Bool := decide ((97 ≤ (b.toNat : Int) ∧ (b.toNat : Int) ≤ 122) ∨ (65 ≤ (b.toNat : Int) ∧ (b.toNat : Int) ≤ 90))
def od (b : UInt8) : Bool := decide (48 ≤ (b.toNat : Int) ∧ (b.toNat : Int) ≤ 57)
def lod (b : UInt8) : Bool := ej b || od b

theorem qJ (b : UInt8) (w : World) : Calls Tryz.prog 251 #[.int .u8 (b.toNat : Int)] w fun e w' => e = .returned (.bool (od b)) ∧ w = w' := by
  go_enter Tryz.func251, Tryz.ntmps251
  go_wp2
  all_goals (go_ret; exact ⟨bF (by simp [od]; omega), rfl⟩)
theorem pT (b : UInt8) (w : World) : Calls Tryz.prog 250 #[.int .u8 (b.toNat : Int)] w fun e w' => e = .returned (.bool (od b)) ∧ w = w' := by
  go_enter Tryz.func250, Tryz.ntmps250
  go_wp2
  all_goals (go_ret; exact ⟨bF (by simp [od]; omega), rfl⟩)
theorem jh (b : UInt8) (w : World) : Calls Tryz.prog 245 #[.int .u8 (b.toNat : Int)] w fun e w' => e = .returned (.bool (ej b)) ∧ w = w' := by
  go_enter Tryz.func245, Tryz.ntmps245
  go_wp2
  all_goals (go_ret; exact ⟨bF (by rw [Bool.eq_iff_iff]; simp [ej]; omega), rfl⟩)
theorem jm (b : UInt8) (w : World) : Calls Tryz.prog 243 #[.int .u8 (b.toNat : Int)] w fun e w' => e = .returned (.bool (ej b)) ∧ w = w' := by
  go_enter Tryz.func243, Tryz.ntmps243
  go_wp2
  all_goals (go_ret; exact ⟨bF (by rw [Bool.eq_iff_iff]; simp [ej]; omega), rfl⟩)

def dx : List UInt8 → Nat
  | [] => 0
  | b :: r => if lod b then dx r + 1 else 0
theorem kq (l : List UInt8) : dx l ≤ l.length := by
  induction l with
  | nil => simp [dx]
  | cons b r ih => simp only [dx, List.length_cons]; split <;> omega

theorem kw (s : ByteArray) {k : Nat} (h : k < s.size) : s.data.toList.drop k = s[k] :: s.data.toList.drop (k + 1) := by
  rw [List.drop_eq_getElem_cons (by simpa using h)]; rfl
theorem bG (s : ByteArray) : s.data.toList.length = s.size := by rw [Array.length_toList]; rfl
theorem fq (s : ByteArray) {k : Nat} (h : k < s.size) : dx (s.data.toList.drop k) = if lod s[k] then dx (s.data.toList.drop (k + 1)) + 1 else 0 := by
  rw [kw s h]; rfl
theorem lY (s : ByteArray) {k : Nat} (h : ¬ k < s.size) : dx (s.data.toList.drop k) = 0 := by
  rw [List.drop_eq_nil_of_le (by rw [bG]; omega)]; rfl

set_option maxHeartbeats 400000 in
theorem tI (s : ByteArray) (w : World) (hs : s.size ≤ 1048576) : Calls Tryz.prog 246 #[.string s] w fun e w' => e = .returned (.string (s.extract 0 (dx s.data.toList))) ∧ ∃ n, w' = w.drewN n := by
  go_enter Tryz.func246, Tryz.ntmps246
  go_wp2
  go_loopw [3] (fun i wr => ∃ k n : Nat, k ≤ s.size ∧ i = .int .i64 k ∧ wr = w.drewN n ∧ dx s.data.toList = k + dx (s.data.toList.drop k)) (fun i _ => s.size - (intOf i).toNat)
  case atStart => exact ⟨0, 0, Nat.zero_le _, rfl, rfl, by simp⟩
  case round =>
    obtain ⟨k, n, hk, rfl, rfl, hr⟩ := hrel
    have Hr := Lib.hid hr
    clear hr
    by_cases hlt : k < s.size
    · cases hl : ej s[k] <;> cases hd : od s[k]
      all_goals
        go_wp2_with (first | (go_at_call 245; refine (jh s[k] _).mono ?_; rintro e w' ⟨rfl, rfl⟩) | (go_at_call 251; refine (qJ s[k] _).mono ?_; rintro e w' ⟨rfl, rfl⟩))
        first
          | (
              have hq := fq s hlt
              rw [if_pos (by simp [lod, hl, hd])] at hq
              go_roundw
              case rel => exact ⟨k + 1, n, by omega, by go_num, rfl, by have := Hr.out; omega⟩
              case measure => simp [intOf]; omega)
          | (
              have hq := fq s hlt
              rw [if_neg (by simp [lod, hl, hd])] at hq
              go_ret
              exact ⟨ma (by rw [Hr.out, hq, Nat.add_zero]), n, rfl⟩)
    · go_wp2
      go_ret
      exact ⟨ma (by rw [Hr.out, lY s hlt, Nat.add_zero]), n, rfl⟩

set_option maxHeartbeats 400000 in
theorem um (s : ByteArray) (at_ : Nat) (w : World) (hs : s.size ≤ 1048576) (ha : at_ ≤ s.size) : Calls Tryz.prog 244 #[.string s, .int .i64 at_] w fun e w' => e = .returned (.int .i64 ((at_ + dx (s.data.toList.drop at_) : Nat) : Int)) ∧ ∃ n, w' = w.drewN n := by
  go_enter Tryz.func244, Tryz.ntmps244
  go_wp2
  go_loopw [1] (fun i wr => ∃ k n : Nat, k ≤ s.size ∧ i = .int .i64 k ∧ wr = w.drewN n ∧ at_ + dx (s.data.toList.drop at_) = k + dx (s.data.toList.drop k)) (fun i _ => s.size - (intOf i).toNat)
  case atStart => exact ⟨at_, 0, ha, rfl, rfl, rfl⟩
  case round =>
    obtain ⟨k, n, hk, rfl, rfl, hr⟩ := hrel
    have Hr := Lib.hid hr
    clear hr
    by_cases hlt : k < s.size
    · cases hl : ej s[k] <;> cases hd : od s[k]
      all_goals
        go_wp2_with (first | (go_at_call 243; refine (jm s[k] _).mono ?_; rintro e w' ⟨rfl, rfl⟩) | (go_at_call 250; refine (pT s[k] _).mono ?_; rintro e w' ⟨rfl, rfl⟩))
        first
          | (
              have hq := fq s hlt
              rw [if_pos (by simp [lod, hl, hd])] at hq
              go_roundw
              case rel => exact ⟨k + 1, n, by omega, by go_num, rfl, by have := Hr.out; omega⟩
              case measure => simp [intOf]; omega)
          | (
              have hq := fq s hlt
              rw [if_neg (by simp [lod, hl, hd])] at hq
              go_ret
              exact ⟨ff (by rw [Hr.out, hq, Nat.add_zero]), n, rfl⟩)
    · go_wp2
      go_ret
      exact ⟨ff (by rw [Hr.out, lY s hlt, Nat.add_zero]), n, rfl⟩

def bM : List UInt8 → Bool
  | [] => false
  | b :: r => decide (r.length < 20) && ej b && r.all lod

theorem iT (l : List UInt8) : dx l = l.length ↔ l.all lod = true := by
  induction l with
  | nil => simp [dx]
  | cons b r ih =>
    have := kq r
    simp only [dx, List.length_cons, List.all_cons, Bool.and_eq_true]
    split
    · rename_i h; rw [h]; simp only [true_and]; rw [← ih]; omega
    · rename_i h; constructor
      · intro h2; omega
      · intro h2; exact absurd h2.1 h

theorem mJ {a b : ByteArray} (h : a.data.toList = b.data.toList) : a = b := WideShapes.bytes_inj h
theorem jw (s : ByteArray) (k : Nat) : (s.extract 0 k).data.toList = s.data.toList.take k := by
  rw [Lib.extract_data]; simp

theorem vj (s : ByteArray) : ((s.extract 0 (dx s.data.toList)).toList == s.toList) = s.data.toList.all lod := by
  have h1 := kq s.data.toList
  rw [Lib.toList_data, Lib.toList_data, jw]
  by_cases h : s.data.toList.all lod = true
  · rw [h, (iT _).2 h, List.take_length]; simp
  · rw [Bool.eq_false_iff.2 h, beq_eq_false_iff_ne]
    intro e
    have h2 := congrArg List.length e
    rw [List.length_take] at h2
    exact h ((iT _).1 (by omega))

theorem kv (s : ByteArray) (h : s.size = 0) : bM s.data.toList = false := by
  have : s.data.toList = [] := List.eq_nil_of_length_eq_zero (by rw [bG]; exact h)
  rw [this]; rfl
theorem fP (s : ByteArray) (h : 0 < s.size) : bM s.data.toList = (decide (s.size ≤ 20) && ej s[0] && s.data.toList.all lod) := by
  have h0 := kw s h
  rw [List.drop_zero] at h0
  have hl := bG s
  rw [h0] at hl ⊢
  have hd : decide ((List.drop (0 + 1) s.data.toList).length < 20) = decide (s.size ≤ 20) := by
    rw [List.length_cons] at hl
    simp only [decide_eq_decide]; omega
  simp only [bM, hd, List.all_cons]
  by_cases hlt : ej s[0] = true
  · have hx : lod s[0] = true := by simp [lod, hlt]
    rw [hlt, hx]; simp
  · rw [Bool.eq_false_iff.2 hlt]; simp

set_option maxHeartbeats 400000 in
theorem iX (s : ByteArray) (w : World) (hs : s.size ≤ 1048576) : Calls Tryz.prog 230 #[.string s] w fun e w' => e = .returned (.bool (bM s.data.toList)) ∧ ∃ n, w' = w.drewN n := by
  go_enter Tryz.func230, Tryz.ntmps230
  by_cases h1 : 1 ≤ (s.size : Int) ∧ (s.size : Int) ≤ 20
  · have hin := pQ h1
    have h0 : 0 < s.size := by omega
    have hf := fP s h0
    rw [decide_eq_true (by omega : s.size ≤ 20)] at hf
    have Hf := Lib.hid hf
    clear hf
    cases hl : ej s[0]
    all_goals
      go_wp2_with (first | (go_at_call 57; refine (lw _ _ _ _).mono ?_; rintro e w' ⟨rfl, rfl⟩) | (go_at_call 245; refine (jh s[0] _).mono ?_; rintro e w' ⟨rfl, rfl⟩) | (go_at_call 246; refine (tI s _ hs).mono ?_; rintro e w' ⟨rfl, n, rfl⟩))
      go_ret
      first
        | exact ⟨bF (by rw [Hf.out, hl]; rfl), 0, rfl⟩
        | exact ⟨bF (by rw [Hf.out, hl, vj]; rfl), _, rfl⟩
  · have hin := vy h1
    go_wp2_with ((go_at_call 57; refine (lw _ _ _ _).mono ?_; rintro e w' ⟨rfl, rfl⟩))
    go_ret
    refine ⟨bF ?_, 0, rfl⟩
    by_cases h0 : s.size = 0
    · rw [kv s h0]
    · rw [fP s (by omega), decide_eq_false (by omega)]; rfl

end Go.Proofs.YthpdkhejeookhaaGreatDoor
/-
  DERIVED: THE SHELF's CONTRACTS AT THIS DUMP, IN PLAIN WORDS (tools/lay-plain.mjs out of 'TryzShelf.lean', which tools/lay-shelf.mjs wrote): THE SAME DECLARATIONS UNDER THE SAME NAMES: 'import', 'namespace', 'open', 'def', 'theorem' AND NOTHING ELSE: no command of the shelf's: FOR A HAND-IN. Each laying: the table of numbers ('.._ren') and one theorem, a field a fact of the dump's own or the kernel's comparison; each contract: ONE APPLICATION.
-/
namespace Go.Proofs
open Go.Shelf
def Tryz.lays99_ren : Go.Shelf.Ren := ⟨fun | 99 => 247 | 206 => 252 | n => n, fun | 9 => 9 | 4 => 4 | 3 => 3 | n => n, fun | n => n⟩
theorem Tryz.lays99 : Go.Proofs.Lays.n99 Tryz.prog Tryz.lays99_ren := {
  mixed := by kernel_rfl
  f99 := Tryz.func247.trans (congrArg some (by kernel_rfl))
  f206 := Tryz.func252.trans (congrArg some (by kernel_rfl))
  t3 := Tryz.underlying3
  a3 := Tryz.isAgg3
  z3 := Tryz.sizeOf3
  v3 := Tryz.zeroValue3
  t4 := Tryz.underlying4
  a4 := Tryz.isAgg4
  z4 := Tryz.sizeOf4
  v4 := Tryz.zeroValue4
  t9 := Tryz.underlying9
  a9 := Tryz.isAgg9
  z9 := Tryz.sizeOf9
  v9 := Tryz.zeroValue9 }
open Go.RowKit Go.Lib in
theorem Tryz.strings_HasPrefix (s p : ByteArray) (w : World) :
    Calls Tryz.prog 247 #[.string s, .string p] w fun e w' => e = .returned (.bool (Lib.hasPrefix s.data.toList p.data.toList)) ∧ w' = w := Any.strings_HasPrefix Tryz.lays99 s p w
def Tryz.lays100_ren : Go.Shelf.Ren := ⟨fun | 100 => 234 | 207 => 248 | n => n, fun | 9 => 9 | 4 => 4 | 3 => 3 | n => n, fun | n => n⟩
theorem Tryz.lays100 : Go.Proofs.Lays.n100 Tryz.prog Tryz.lays100_ren := {
  mixed := by kernel_rfl
  f100 := Tryz.func234.trans (congrArg some (by kernel_rfl))
  f207 := Tryz.func248.trans (congrArg some (by kernel_rfl))
  t3 := Tryz.underlying3
  a3 := Tryz.isAgg3
  z3 := Tryz.sizeOf3
  v3 := Tryz.zeroValue3
  t4 := Tryz.underlying4
  a4 := Tryz.isAgg4
  z4 := Tryz.sizeOf4
  v4 := Tryz.zeroValue4
  t9 := Tryz.underlying9
  a9 := Tryz.isAgg9
  z9 := Tryz.sizeOf9
  v9 := Tryz.zeroValue9 }
open Go.RowKit Go.Lib in
theorem Tryz.strings_HasSuffix (s p : ByteArray) (w : World) (hs : s.size ≤ 9223372036854775807) :
    Calls Tryz.prog 234 #[.string s, .string p] w fun e w' => e = .returned (.bool (Lib.hasSuffix s.data.toList p.data.toList)) ∧ w' = w := Any.strings_HasSuffix Tryz.lays100 s p w hs
def Tryz.lays146_ren : Go.Shelf.Ren := ⟨fun | 146 => 235 | 221 => 249 | 268 => 253 | 138 => 254 | 143 => 255 | 195 => 256 | 197 => 257 | 218 => 258 | 219 => 259 | 260 => 260 | 217 => 261 | 225 => 262 | 224 => 263 | 267 => 264 | 266 => 265 | 314 => 266 | n => n, fun | 9 => 9 | 31 => 49 | 3 => 3 | 4 => 4 | 0 => 0 | 105 => 310 | 21 => 21 | 5 => 5 | 46 => 267 | 119 => 313 | 139 => 316 | 138 => 315 | 146 => 298 | 51 => 297 | n => n, fun | 1 => 0 | 3 => 1 | 4 => 2 | n => n⟩
theorem Tryz.lays146 : Go.Proofs.Lays.n146 Tryz.prog Tryz.lays146_ren := {
  mixed := by kernel_rfl
  f138 := Tryz.func254.trans (congrArg some (by kernel_rfl))
  f143 := Tryz.func255.trans (congrArg some (by kernel_rfl))
  f146 := Tryz.func235.trans (congrArg some (by kernel_rfl))
  f195 := Tryz.func256.trans (congrArg some (by kernel_rfl))
  f197 := Tryz.func257.trans (congrArg some (by kernel_rfl))
  f217 := Tryz.func261.trans (congrArg some (by kernel_rfl))
  f218 := Tryz.func258.trans (congrArg some (by kernel_rfl))
  f219 := Tryz.func259.trans (congrArg some (by kernel_rfl))
  f221 := Tryz.func249.trans (congrArg some (by kernel_rfl))
  f224 := Tryz.func263.trans (congrArg some (by kernel_rfl))
  f225 := Tryz.func262.trans (congrArg some (by kernel_rfl))
  f260 := Tryz.func260.trans (congrArg some (by kernel_rfl))
  f266 := Tryz.func265.trans (congrArg some (by kernel_rfl))
  f267 := Tryz.func264.trans (congrArg some (by kernel_rfl))
  f268 := Tryz.func253.trans (congrArg some (by kernel_rfl))
  f314 := Tryz.func266.trans (congrArg some (by kernel_rfl))
  t0 := Tryz.underlying0
  a0 := Tryz.isAgg0
  z0 := Tryz.sizeOf0
  v0 := Tryz.zeroValue0
  t3 := Tryz.underlying3
  a3 := Tryz.isAgg3
  z3 := Tryz.sizeOf3
  v3 := Tryz.zeroValue3
  t4 := Tryz.underlying4
  a4 := Tryz.isAgg4
  z4 := Tryz.sizeOf4
  v4 := Tryz.zeroValue4
  t5 := Tryz.underlying5
  a5 := Tryz.isAgg5
  z5 := Tryz.sizeOf5
  v5 := Tryz.zeroValue5
  t9 := Tryz.underlying9
  a9 := Tryz.isAgg9
  z9 := Tryz.sizeOf9
  v9 := Tryz.zeroValue9
  t21 := Tryz.underlying21
  a21 := Tryz.isAgg21
  z21 := Tryz.sizeOf21
  v21 := Tryz.zeroValue21
  t31 := Tryz.underlying49
  a31 := Tryz.isAgg49
  z31 := Tryz.sizeOf49
  v31 := Tryz.zeroValue49
  t46 := Tryz.underlying267
  a46 := Tryz.isAgg267
  z46 := Tryz.sizeOf267
  v46 := Tryz.zeroValue267
  t51 := Tryz.underlying297
  a51 := Tryz.isAgg297
  z51 := Tryz.sizeOf297
  v51 := Tryz.zeroValue297
  t105 := Tryz.underlying310
  a105 := Tryz.isAgg310
  z105 := Tryz.sizeOf310
  v105 := Tryz.zeroValue310
  t119 := Tryz.underlying313
  a119 := Tryz.isAgg313
  z119 := Tryz.sizeOf313
  t138 := Tryz.underlying315
  a138 := Tryz.isAgg315
  z138 := Tryz.sizeOf315
  v138 := Tryz.zeroValue315
  t139 := Tryz.underlying316
  a139 := Tryz.isAgg316
  z139 := Tryz.sizeOf316
  v139 := Tryz.zeroValue316
  t146 := Tryz.underlying298
  a146 := Tryz.isAgg298
  z146 := Tryz.sizeOf298
  v146 := Tryz.zeroValue298
  g1 := by kernel_rfl
  g3 := by kernel_rfl
  g4 := by kernel_rfl }
open Go.RowKit Go.Lib in
theorem Tryz.strings_Split (s sep : ByteArray) (m : Int) (w : World) (hs : s.size < 4294967281) (hm : w.cell? ⟨0, 0, none⟩ = some (.int .i64 m)) (h1 : 1 ≤ sep.size) :
    Calls Tryz.prog 235 #[.string s, .string sep] w fun e w' =>
      e = .returned (.slice (some ⟨w.heap.size, 0, none⟩) (Lib.countB s sep + 1) (Lib.countB s sep + 1)) ∧ w' = w.alloc (.cells ((Lib.splitB sep 0 (Lib.countB s sep) s).map Value.string).toArray 9) := Any.strings_Split Tryz.lays146 (by kernel_rfl) s sep m w hs hm h1
def Tryz.lays212_ren : Go.Shelf.Ren := ⟨fun | 212 => 199 | 263 => 237 | 264 => 238 | n => n, fun | 46 => 267 | 51 => 297 | 146 => 298 | 53 => 300 | 148 => 301 | n => n, fun | n => n⟩
theorem Tryz.lays212 : Go.Proofs.Lays.n212 Tryz.prog Tryz.lays212_ren := {
  mixed := by kernel_rfl
  f212 := Tryz.func199.trans (congrArg some (by kernel_rfl))
  f263 := Tryz.func237.trans (congrArg some (by kernel_rfl))
  f264 := Tryz.func238.trans (congrArg some (by kernel_rfl))
  t46 := Tryz.underlying267
  a46 := Tryz.isAgg267
  z46 := Tryz.sizeOf267
  v46 := Tryz.zeroValue267
  t51 := Tryz.underlying297
  a51 := Tryz.isAgg297
  z51 := Tryz.sizeOf297
  v51 := Tryz.zeroValue297
  t53 := Tryz.underlying300
  a53 := Tryz.isAgg300
  z53 := Tryz.sizeOf300
  v53 := Tryz.zeroValue300
  t146 := Tryz.underlying298
  a146 := Tryz.isAgg298
  z146 := Tryz.sizeOf298
  v146 := Tryz.zeroValue298
  t148 := Tryz.underlying301
  a148 := Tryz.isAgg301
  z148 := Tryz.sizeOf301
  v148 := Tryz.zeroValue301 }
open Go.RowKit Go.Lib in
theorem Tryz.bits_Mul (x y : Nat) (hx : x < 18446744073709551616) (hy : y < 18446744073709551616) (w : World) :
    Calls Tryz.prog 199 #[.int .u64 x, .int .u64 y] w fun e w' => e = .returned (.tuple #[.int .u64 ((x * y / 18446744073709551616 : Nat) : Int), .int .u64 ((x * y % 18446744073709551616 : Nat) : Int)]) ∧ w' = w := Any.bits_Mul Tryz.lays212 x y hx hy w
end Go.Proofs
/- Numbers as texts: the program's FormatInt and the reference's. -/
namespace Go.Proofs.YthpdkhejeookhaaGreatDoor
open Go Go.RowKit

def ze (w : World) : Prop := Lib.TabIs Tryz.prog w "internal/strconv.uint64pow10" .u64 Lib.pow10Tab
theorem ze.below {w w' : World} (h : ze w) (hb : Below w.heap.size w w') : ze w' := Lib.tabBelow_of_tabIs h w' hb

def pre (u : Nat) : List UInt8 := if u = 0 then [] else Lib.decDigits u

def wO : List (List UInt8) := [[99, 108, 97, 115, 115], [101, 120, 116, 101, 110, 100, 115], [102, 105, 101, 108, 100, 115], [109, 101, 116, 104, 111, 100], [99, 108, 97, 115, 115, 109, 101, 116, 104, 111, 100], [101, 110, 100], [109, 97, 105, 110]]
def ops : List (List UInt8) := [[47, 47], [92, 92], [60, 61], [62, 61], [61, 61], [126, 61], [126, 126], [43], [45], [42], [60], [62], [61], [44], [38]]
def fw (l : List UInt8) : Bool := wO.contains l
def iQ (l : List UInt8) : Bool := ops.contains l
def ce (l : List UInt8) : Bool := bM l && !fw l

def spl (c : UInt8) : List UInt8 → List (List UInt8)
  | [] => [[]]
  | b :: r => if b = c then [] :: spl c r else (b :: (spl c r).headD []) :: (spl c r).tail

def kwL (l : List UInt8) : Option (List (List UInt8)) :=
  if l.getLast? = some 58 then (if (spl 58 l.dropLast).all bM && decide ((spl 58 l.dropLast).length ≤ 4) then some (spl 58 l.dropLast) else none) else none
def cm (l : List UInt8) : Bool := iQ l || ce l || (kwL l).isSome
def bS (l : List UInt8) : Int := if iQ l then 1 else if ce l then 0 else match kwL l with | some ps => ps.length | none => -1

theorem lM (c : UInt8) (l : List UInt8) : spl c l ≠ [] := by
  cases l with
  | nil => simp [spl]
  | cons b r => simp only [spl]; split <;> simp

theorem j6 (c : UInt8) (l : List UInt8) : 0 < (spl c l).length := List.length_pos_iff.2 (lM c l)

theorem jM (c : UInt8) : ∀ l : List UInt8, spl c (l ++ [c]) = spl c l ++ [[]]
  | [] => by simp [spl]
  | b :: r => by
    have h := jM c r
    simp only [List.cons_append, spl]
    split
    · rw [h]; rfl
    · rw [h]
      obtain ⟨x, xs, hx⟩ := List.exists_cons_of_ne_nil (lM c r)
      rw [hx]; rfl

theorem m5 (c : UInt8) : ∀ l : List UInt8, (spl c l).getLast? = some [] → l = [] ∨ l.getLast? = some c
  | [], _ => .inl rfl
  | b :: r, h => by
    simp only [spl] at h
    refine .inr ?_
    obtain ⟨x, xs, hx⟩ := List.exists_cons_of_ne_nil (lM c r)
    split at h
    · rename_i hb
      subst hb
      rw [hx, List.getLast?_cons_cons, ← hx] at h
      rcases m5 b r h with h1 | h1
      · subst h1; rfl
      · cases r with
        | nil => simp at h1
        | cons a t => rw [List.getLast?_cons_cons]; exact h1
    · rw [hx] at h
      cases xs with
      | nil => simp at h
      | cons y ys =>
        simp only [List.headD_cons, List.tail_cons, List.getLast?_cons_cons] at h
        have h2 : (spl c r).getLast? = some [] := by rw [hx, List.getLast?_cons_cons]; exact h
        rcases m5 c r h2 with h1 | h1
        · subst h1; simp [spl] at hx
        · cases r with
          | nil => simp at h1
          | cons a t => rw [List.getLast?_cons_cons]; exact h1

theorem va (c : UInt8) : ∀ l : List UInt8, c ∉ l → spl c l = [l]
  | [], _ => rfl
  | b :: r, h => by
    simp only [List.mem_cons, not_or] at h
    rw [spl, if_neg (fun e => h.1 e.symm), va c r h.2]; rfl

theorem pU (c : UInt8) : ∀ l : List UInt8, (spl c l).length = 1 → spl c l = [l]
  | [], _ => rfl
  | b :: r, h => by
    have hp := j6 c r
    simp only [spl] at h ⊢
    split
    · rename_i hb; rw [if_pos hb] at h; simp only [List.length_cons] at h; omega
    · rename_i hb
      rw [if_neg hb] at h
      simp only [List.length_cons, List.length_tail] at h
      rw [pU c r (by omega)]; rfl

theorem iH (c : UInt8) : ∀ (l p : List UInt8), p ∈ spl c l → p.length ≤ l.length
  | [], p, h => by simp [spl] at h; subst h; simp
  | b :: r, p, h => by
    simp only [spl] at h
    obtain ⟨x, xs, hx⟩ := List.exists_cons_of_ne_nil (lM c r)
    split at h
    · rcases List.mem_cons.1 h with rfl | h
      · simp
      · have := iH c r p h; simp only [List.length_cons]; omega
    · rw [hx] at h
      simp only [List.headD_cons, List.tail_cons] at h
      rcases List.mem_cons.1 h with rfl | h
      · have := iH c r x (by rw [hx]; simp); simp only [List.length_cons]; omega
      · have := iH c r p (by rw [hx]; simp [h]); simp only [List.length_cons]; omega

theorem jd (c : UInt8) : ∀ l : List UInt8, (spl c l).length ≤ l.length + 1
  | [] => by simp [spl]
  | b :: r => by
    have := jd c r
    have hp := j6 c r
    simp only [spl]
    split
    · simp only [List.length_cons]; omega
    · simp only [List.length_cons, List.length_tail]; omega

def wz (pre : List UInt8) (ps : List (List UInt8)) : List (List UInt8) := (pre ++ ps.headD []) :: ps.tail
theorem rI (c : UInt8) (l : List UInt8) : wz [] (spl c l) = spl c l := by
  obtain ⟨x, xs, hx⟩ := List.exists_cons_of_ne_nil (lM c l)
  rw [hx]; rfl
theorem vk (c : UInt8) (pre r : List UInt8) : wz pre (spl c (c :: r)) = pre :: spl c r := by simp [spl, wz]
theorem tR (b c : UInt8) (pre r : List UInt8) (h : b ≠ c) : wz pre (spl c (b :: r)) = wz (pre ++ [b]) (spl c r) := by simp [spl, wz, h]

theorem nf (c : UInt8) (r : List UInt8) : Lib.index (c :: r) [c] = 0 := by
  simp [Lib.index]
theorem md (b c : UInt8) (r : List UInt8) (h : b ≠ c) : Lib.index (b :: r) [c] = if Lib.index r [c] = -1 then -1 else Lib.index r [c] + 1 := by
  simp [Lib.index, Ne.symm h]
theorem nV (c : UInt8) : ∀ (l : List UInt8), Lib.splitK [c] 0 (l.count c) l = spl c l
  | [] => rfl
  | b :: r => by
    have ih := nV c r
    by_cases hb : b = c
    · subst hb
      rw [List.count_cons_self, Lib.splitK, nf, if_neg (by decide)]
      simp only [spl, if_true]
      simpa using ih
    · rw [List.count_cons_of_ne hb, spl, if_neg hb, ← ih]
      generalize hk : r.count c = k
      cases k with
      | zero => rfl
      | succ k =>
        have hge := Lib.index_ge r [c]
        have hin : Lib.index r [c] ≠ -1 := by
          intro h0
          have := Lib.count_one c r
          rw [Lib.count_miss h0, hk] at this
          omega
        rw [Lib.splitK, Lib.splitK, md b c r hb, if_neg hin]
        have e1 : (Lib.index r [c] + 1 == -1) = false := by rw [beq_eq_false_iff_ne]; omega
        have e2 : (Lib.index r [c] == -1) = false := by rw [beq_eq_false_iff_ne]; exact hin
        rw [e1, e2]
        obtain ⟨i, hi⟩ := Int.eq_ofNat_of_zero_le (show 0 ≤ Lib.index r [c] by omega)
        rw [hi]
        have e3 : ((i : Int) + 1).toNat = i + 1 := by omega
        simp [e3]

def gF (l : List UInt8) : Bool :=
  if iQ l then true else
  if 1 < (spl 58 l).length then (if (spl 58 l).getLast? = some [] then (spl 58 l).dropLast.all bM && decide ((spl 58 l).length - 1 ≤ 4) else false)
  else bM l && !fw l

theorem tV : lod 58 = false := by decide
theorem iK (l : List UInt8) (h : bM l = true) : (58 : UInt8) ∉ l := by
  intro hm
  cases l with
  | nil => simp at hm
  | cons b r =>
    simp only [bM, Bool.and_eq_true, List.all_eq_true] at h
    rcases List.mem_cons.1 hm with e | e
    · subst e
      have : ej 58 = true := h.1.2
      exact absurd this (by decide)
    · have := h.2 58 e
      rw [tV] at this
      cases this

theorem i7 (l : List UInt8) : gF l = cm l := by
  unfold gF cm
  by_cases ho : iQ l = true
  · rw [if_pos ho, ho]; rfl
  · rw [if_neg ho, Bool.eq_false_iff.2 ho, Bool.false_or]
    by_cases hn : 1 < (spl 58 l).length
    · rw [if_pos hn]
      have hno : ce l = false := by
        rw [Bool.eq_false_iff]
        intro h
        simp only [ce, Bool.and_eq_true] at h
        have := va 58 l (iK l h.1)
        rw [this] at hn
        simp at hn
      rw [hno, Bool.false_or]
      by_cases hl : l.getLast? = some 58
      · obtain ⟨m, rfl⟩ := List.getLast?_eq_some_iff.1 hl
        simp only [jM, List.getLast?_append, List.getLast?_singleton, Option.some_or, if_true, List.dropLast_concat, List.length_append, List.length_singleton, Nat.add_sub_cancel]
        simp only [kwL, List.getLast?_append, List.getLast?_singleton, Option.some_or, if_true, List.dropLast_concat]
        split
        · rename_i h; rw [h]; rfl
        · rename_i h; rw [Bool.eq_false_iff.2 h]; rfl
      · have h2 : ¬ (spl 58 l).getLast? = some [] := by
          intro h
          rcases m5 58 l h with h1 | h1
          · subst h1; simp [spl] at hn
          · exact hl h1
        rw [if_neg h2]
        simp [kwL, hl]
    · rw [if_neg hn]
      have hone := pU 58 l (by have := j6 58 l; omega)
      have hk : kwL l = none := by
        unfold kwL
        by_cases hl : l.getLast? = some 58
        · obtain ⟨m, rfl⟩ := List.getLast?_eq_some_iff.1 hl
          rw [jM] at hn
          have := j6 58 m
          simp at hn
          exact absurd hn (lM 58 m)
        · rw [if_neg hl]
      rw [hk]
      simp [ce]

def il (l : List UInt8) : Int := if gF l then (if iQ l then 1 else ((spl 58 l).length : Int) - 1) else -1
theorem qu (l : List UInt8) : il l = bS l := by
  unfold il bS
  rw [i7]
  by_cases ho : iQ l = true
  · simp [cm, ho]
  · rw [Bool.eq_false_iff.2 ho]
    by_cases hn : ce l = true
    · have := va 58 l (iK l (by simp only [ce, Bool.and_eq_true] at hn; exact hn.1))
      simp [cm, hn, this]
    · rw [Bool.eq_false_iff.2 hn]
      cases hk : kwL l with
      | none => simp [cm, Bool.eq_false_iff.2 ho, Bool.eq_false_iff.2 hn, hk]
      | some ps =>
        simp only [cm, Bool.eq_false_iff.2 ho, Bool.eq_false_iff.2 hn, hk, Option.isSome_some, Bool.or_true, if_true, Bool.false_eq_true, if_false]
        unfold kwL at hk
        by_cases hl : l.getLast? = some 58
        · obtain ⟨m, rfl⟩ := List.getLast?_eq_some_iff.1 hl
          rw [if_pos hl, List.dropLast_concat] at hk
          split at hk
          · simp only [Option.some.injEq] at hk
            subst hk
            rw [jM]; simp
          · cases hk
        · rw [if_neg hl] at hk; cases hk

def oB (w : World) : Prop := ∃ m : Int, w.cell? ⟨0, 0, none⟩ = some (.int .i64 m)
theorem oB.below {w w' : World} (h : oB w) (hb : Below w.heap.size w w') : oB w' := by
  obtain ⟨m, hm⟩ := h
  exact ⟨m, (hb.cell (World.block_lt_of_cell? w _ hm)).trans hm⟩

theorem Tryz.infoStr : (Tryz.prog.info? 9).map (fun i => (i.zero, i.size, i.bytes)) = some (some (.string ByteArray.empty), 1, 16) := by kernel_rfl

def i6 (l : List ByteArray) : List PT := l.map PT.str
theorem pH (l : List ByteArray) : (i6 l).length = l.length := by simp [i6]
theorem qe (a b : List ByteArray) : i6 (a ++ b) = i6 a ++ i6 b := by simp [i6]
theorem gG (l : List ByteArray) : PT.cellsL (i6 l) = l.map Value.string := by
  induction l with
  | nil => rfl
  | cons z r ih => simp only [i6, List.map_cons, PT.cellsL, PT.cells] at *; rw [ih]; rfl
theorem jv (l : List ByteArray) : PT.blocksL (i6 l) = [] := by
  induction l with
  | nil => rfl
  | cons z r ih => simp only [i6, List.map_cons, PT.blocksL, PT.blocks] at *; rw [ih]; rfl
theorem sM (l : List ByteArray) : ∀ t ∈ i6 l, t.cells.length = 1 := fun t ht => by
  simp only [i6, List.mem_map] at ht; obtain ⟨z, _, rfl⟩ := ht; rfl
theorem ua (w : World) (l : List ByteArray) : gq w (i6 l) := gq.of_get fun t ht => by
  simp only [i6, List.mem_map] at ht; obtain ⟨z, _, rfl⟩ := ht; trivial
theorem dl.str_at {w : World} {S : Nat → Prop} {A : Option Addr} {c : Nat} {l : List ByteArray} (h : dl w S (.sl A c 1 (i6 l))) {k : Nat} (hk : k < l.length) :
    ∃ b o, A = some ⟨b, o, none⟩ ∧ S b ∧ w.cell? ⟨b, o + k, none⟩ = some (.string (l[k]'hk)) := by
  have h1 := h.2.2.1
  rw [gG] at h1
  exact h1 k _ (by simp [hk])
theorem d9 {w : World} {S : Nat → Prop} (l : List ByteArray) (e : TypeId) (hl : l.length ≤ maxLen) (hS : S w.heap.size) : ck (w.alloc (.cells (l.map Value.string).toArray e)) S (.sl (some ⟨w.heap.size, 0, none⟩) l.length 1 (i6 l)) :=
  ⟨dS (sM l) (by rw [gG]; simp [i6]) (heap_alloc_new w _) (by simp [i6]) hl (by simp) (by rw [gG]; simp [i6, List.take_of_length_le]) (ua _ _), by simp [PT.blocks, jv, PT.rowOf],
    by simpa [PT.blocks, jv, PT.rowOf] using hS⟩

def dP : List ByteArray := wO.map fun l => ⟨l.toArray⟩
def lN : List ByteArray := ops.map fun l => ⟨l.toArray⟩

def iP (l : List ByteArray) (s : ByteArray) : Bool := l.any fun x => x.toList == s.toList
theorem iV (s : ByteArray) : iP dP s = fw s.data.toList := by
  rw [Bool.eq_iff_iff]
  simp only [iP, dP, fw, List.any_map, List.any_eq_true, Function.comp, List.contains_iff_mem, beq_iff_eq, Lib.toList_data]
  exact ⟨fun ⟨x, h1, h2⟩ => by rw [← h2]; exact h1, fun h => ⟨_, h, rfl⟩⟩
theorem mC (s : ByteArray) : iP lN s = iQ s.data.toList := by
  rw [Bool.eq_iff_iff]
  simp only [iP, lN, iQ, List.any_map, List.any_eq_true, Function.comp, List.contains_iff_mem, beq_iff_eq, Lib.toList_data]
  exact ⟨fun ⟨x, h1, h2⟩ => by rw [← h2]; exact h1, fun h => ⟨_, h, rfl⟩⟩

set_option maxHeartbeats 400000 in
theorem sJ (s : ByteArray) (w : World) : Calls Tryz.prog 231 #[.string s] w fun e w' => e = .returned (.bool (fw s.data.toList)) ∧ w = w' := by
  have hL := Lib.toList_data s
  have hd : fw s.data.toList = iP dP s := (iV s).symm
  have Hd := Lib.hid hd
  have HL := Lib.hid hL
  clear hd hL
  go_enter Tryz.func231, Tryz.ntmps231
  go_wp2
  all_goals (go_ret; exact ⟨bF (by have := HL.out; simp_all [fw, wO]), rfl⟩)

set_option maxHeartbeats 400000 in
theorem ir (A : Option Addr) (c : Nat) (l : List ByteArray) (s : ByteArray) (w : World) (S : Nat → Prop) (hs : dl w S (.sl A c 1 (i6 l))) (hn : l.length ≤ 1048576) :
    Calls Tryz.prog 35 #[.slice A l.length c, .string s] w fun e w' => e = .returned (.bool (iP l s)) ∧ ∃ n, w' = w.drewN n := by
  go_enter Tryz.func35, Tryz.ntmps35
  go_wp2
  go_loopw [5] (fun i wr => ∃ k n : Nat, k ≤ l.length ∧ i = .int .i64 k ∧ wr = w.drewN n ∧ iP l s = iP (l.drop k) s) (fun i _ => l.length - (intOf i).toNat)
  case atStart => exact ⟨0, 0, Nat.zero_le _, rfl, rfl, rfl⟩
  case round =>
    obtain ⟨k, n, hk, rfl, rfl, hr⟩ := hrel
    have Hr := Lib.hid hr
    clear hr
    by_cases hlt : k < l.length
    · obtain ⟨b, o, rfl, _, hcell⟩ := hs.str_at hlt
      have hd : iP (l.drop k) s = (l[k].toList == s.toList || iP (l.drop (k + 1)) s) := by rw [List.drop_eq_getElem_cons hlt]; rfl
      have Hd := Lib.hid hd
      clear hd hs
      cases hq : l[k].toList == s.toList
      all_goals
        go_wp2
        first
          | (
              go_roundw
              case rel => exact ⟨k + 1, n, by omega, by go_num, rfl, by rw [Hr.out, Hd.out, hq]; rfl⟩
              case measure => simp [intOf]; omega)
          | (
              go_ret
              exact ⟨bF (by rw [Hr.out, Hd.out, hq]; rfl), n, rfl⟩)
    · go_wp2
      go_ret
      exact ⟨bF (by rw [Hr.out, List.drop_eq_nil_of_le (by omega)]; rfl), n, rfl⟩

theorem qC (w : World) : Calls Tryz.prog 223 #[] w fun e w' => e = .returned (.slice (some ⟨w.heap.size, 0, none⟩) 7 7) ∧ w.alloc (.cells (dP.map Value.string).toArray 9) = w' := by
  go_enter Tryz.func223, Tryz.ntmps223
  go_wp2
  go_ret
  exact ⟨rfl, rfl⟩
theorem eI (w : World) : Calls Tryz.prog 224 #[] w fun e w' => e = .returned (.slice (some ⟨w.heap.size, 0, none⟩) 15 15) ∧ w.alloc (.cells (lN.map Value.string).toArray 9) = w' := by
  go_enter Tryz.func224, Tryz.ntmps224
  go_wp2
  go_ret
  exact ⟨rfl, rfl⟩
theorem nk (w : World) : Calls Tryz.prog 233 #[] w fun e w' => e = .returned (.slice (some ⟨w.heap.size, 0, none⟩) 15 15) ∧ w.alloc (.cells (lN.map Value.string).toArray 9) = w' := by
  go_enter Tryz.func233, Tryz.ntmps233
  go_wp2
  go_ret
  exact ⟨rfl, rfl⟩

def dt (s : ByteArray) (l : List ByteArray) : ByteArray := (l.find? fun x => Lib.hasPrefix s.data.toList x.data.toList).getD ByteArray.empty

set_option maxHeartbeats 400000 in
theorem pX (A : Option Addr) (c : Nat) (l : List ByteArray) (s : ByteArray) (w : World) (S : Nat → Prop) (hs : dl w S (.sl A c 1 (i6 l))) (hn : l.length ≤ 1048576) :
    Calls Tryz.prog 232 #[.string s, .slice A l.length c] w fun e w' => e = .returned (.string (dt s l)) ∧ ∃ n, w' = w.drewN n := by
  go_enter Tryz.func232, Tryz.ntmps232
  go_wp2
  go_loopw [9] (fun i wr => ∃ k n : Nat, k ≤ l.length ∧ i = .int .i64 k ∧ wr = w.drewN n ∧ dt s l = dt s (l.drop k)) (fun i _ => l.length - (intOf i).toNat)
  case atStart => exact ⟨0, 0, Nat.zero_le _, rfl, rfl, rfl⟩
  case round =>
    obtain ⟨k, n, hk, rfl, rfl, hr⟩ := hrel
    have Hr := Lib.hid hr
    clear hr
    by_cases hlt : k < l.length
    · obtain ⟨b, o, rfl, _, hcell⟩ := hs.str_at hlt
      have hd : dt s (l.drop k) = if Lib.hasPrefix s.data.toList l[k].data.toList then l[k] else dt s (l.drop (k + 1)) := by
        rw [List.drop_eq_getElem_cons hlt]
        simp only [dt, List.find?_cons]
        split <;> simp_all
      have Hd := Lib.hid hd
      clear hd hs
      cases hq : Lib.hasPrefix s.data.toList l[k].data.toList
      all_goals
        go_wp2_with (go_at_call 247; refine (Tryz.strings_HasPrefix _ _ _).mono ?_; rintro e w' ⟨rfl, rfl⟩)
        first
          | (
              go_roundw
              case rel => exact ⟨k + 1, n, by omega, by go_num, rfl, by rw [Hr.out, Hd.out, hq]; rfl⟩
              case measure => simp [intOf]; omega)
          | (
              go_ret
              exact ⟨ma (by rw [Hr.out, Hd.out, hq]; rfl), n, rfl⟩)
    · go_wp2
      go_ret
      exact ⟨ma (by rw [Hr.out, List.drop_eq_nil_of_le (by omega)]; rfl), n, rfl⟩

theorem o7 (s : ByteArray) (l : List ByteArray) (h : dt s l = s) (hs : s.data.toList ≠ []) : s ∈ l := by
  unfold dt at h
  cases hf : l.find? (fun x => Lib.hasPrefix s.data.toList x.data.toList) with
  | none => rw [hf] at h; simp only [Option.getD_none] at h; rw [← h] at hs; exact absurd rfl hs
  | some x => rw [hf] at h; simp only [Option.getD_some] at h; subst h; exact List.mem_of_find?_eq_some hf
theorem oD : ∀ l ∈ lN, ((dt l lN).toList == l.toList) = true ∧ l.toList ≠ [] := by decide +kernel
theorem wS (s : ByteArray) : (!s.toList.isEmpty && (dt s lN).toList == s.toList) = iQ s.data.toList := by
  rw [← mC, Bool.eq_iff_iff]
  constructor
  · intro h
    simp only [Bool.and_eq_true, Bool.not_eq_true', beq_iff_eq] at h
    have h1 : dt s lN = s := mJ (by rw [← Lib.toList_data, ← Lib.toList_data]; exact h.2)
    have h2 : s ∈ lN := o7 s lN h1 (by intro e; rw [← Lib.toList_data] at e; rw [e] at h; simp at h)
    simp only [iP, List.any_eq_true]
    exact ⟨s, h2, by simp⟩
  · intro h
    simp only [iP, List.any_eq_true] at h
    obtain ⟨x, hx, he⟩ := h
    have e : x = s := mJ (by rw [← Lib.toList_data, ← Lib.toList_data]; exact beq_iff_eq.1 he)
    subst e
    obtain ⟨h1, h2⟩ := oD x hx
    rw [h1]
    cases hx : x.toList with
    | nil => exact absurd hx h2
    | cons => rfl

set_option maxHeartbeats 400000 in
theorem bZ (s : ByteArray) (w : World) : Calls Tryz.prog 190 #[.string s] w fun e w' => e = .returned (.bool (iQ s.data.toList)) ∧ Below w.heap.size w w' := by
  have Hq := Lib.hid (wS s)
  cases hn : s.toList.isEmpty
  all_goals
    go_enter Tryz.func190, Tryz.ntmps190
    go_wp2_with (first
      | (go_at_call 233; refine (nk _).mono ?_; rintro e w' ⟨rfl, rfl⟩)
      | (go_at_call 232; refine (pX _ 15 lN s _ (fun _ => True) (d9 lN _ (by decide) trivial).seen (by decide)).mono ?_; rintro e w' ⟨rfl, n, rfl⟩))
    go_ret
    first
      | exact ⟨bF (by rw [← Hq.out, hn]; rfl), Below.refl _ _⟩
      | exact ⟨bF (by rw [← Hq.out, hn]; rfl), bw ((Below.refl _ _).alloc (Nat.le_refl _) _) _⟩

set_option maxHeartbeats 400000 in
theorem dC (s : ByteArray) (w : World) (hs : s.size ≤ 1048576) : Calls Tryz.prog 189 #[.string s] w fun e w' => e = .returned (.bool (ce s.data.toList)) ∧ ∃ n, w' = w.drewN n := by
  cases hp : bM s.data.toList
  all_goals
    go_enter Tryz.func189, Tryz.ntmps189
    go_wp2_with (first
      | (go_at_call 230; refine (iX s _ hs).mono ?_; rintro e w' ⟨rfl, n, rfl⟩)
      | (go_at_call 231; refine (sJ s _).mono ?_; rintro e w' ⟨rfl, rfl⟩))
    go_ret
    exact ⟨bF (by rw [ce, hp]; simp), n, rfl⟩

set_option maxHeartbeats 400000 in
theorem dQ (s : ByteArray) (w : World) (hs : s.size ≤ 1048576) : Calls Tryz.prog 222 #[.string s] w fun e w' => e = .returned (.bool (bM s.data.toList)) ∧ ∃ n, w' = w.drewN n := by
  by_cases h1 : 1 ≤ (s.size : Int)
  · have h0 : 0 < s.size := by omega
    have Hf := Lib.hid (fP s h0)
    have Hr := Lib.hid (iT s.data.toList)
    have hr : dx s.data.toList ≤ s.size := by have := kq s.data.toList; rw [bG] at this; exact this
    by_cases h2 : (s.size : Int) ≤ 20
    all_goals cases hl : ej s[0]
    all_goals
      go_enter Tryz.func222, Tryz.ntmps222
      go_wp2_with (first
        | (go_at_call 243; refine (jm s[0] _).mono ?_; rintro e w' ⟨rfl, rfl⟩)
        | (go_at_call 244; refine (um s 0 _ hs (by omega)).mono ?_; rintro e w' ⟨rfl, n, rfl⟩))
      go_ret
      first
        | exact ⟨bF (by rw [Hf.out, hl, decide_eq_false (by omega)]; rfl), 0, rfl⟩
        | exact ⟨bF (by rw [Hf.out, hl]; simp), 0, rfl⟩
        | (
            refine ⟨bF ?_, n, rfl⟩
            rw [Hf.out, hl, decide_eq_true (show s.size ≤ 20 by omega)]
            have hx := Hr.out
            rw [bG] at hx
            rw [Bool.eq_iff_iff]
            simp only [Bool.true_and, ← hx]
            simp
            try omega)
  · go_enter Tryz.func222, Tryz.ntmps222
    go_wp2
    go_ret
    exact ⟨bF (kv s (by omega)).symm, 0, rfl⟩

theorem eN {ops : Array Oper} {rest : List Oper} {o : Oper} {a : Act} {Q : Exit → Act → World → Prop} {w : World} (hgd : o.guard = none) (s x : Operand)
    (ho : o.op = .call { callee := .builtin .append, args := #[s, x], argTypes := #[49, 49] }) {S : Nat → Prop} (A : Option Addr) (c n : Nat) (l : List ByteArray) (v : ByteArray)
    (hs : a.eval s = .slice A n c) (hx : a.eval x = .slice (some ⟨w.heap.size, 0, none⟩) 1 1) (hown : ck w S (.sl A c 1 (i6 l))) (hn : n = l.length) (hS : S (w.heap.size + 1)) (hl : n ≤ 1000000000)
    (h : ∀ A' c' w', ck w' S (.sl A' c' 1 (i6 (l ++ [v]))) → cW (· ∈ PT.rowOf A) w w' → (∀ g, A = some ⟨g, 0, none⟩ → ∃ g', A' = some ⟨g', 0, none⟩) → wpList Tryz.prog ops Q rest (a.put o.dst (.slice A' (n + 1) c')) w') :
    wpList Tryz.prog ops Q (o :: rest) a (w.alloc (.cells #[.string v] 9)) :=
  iS hgd s x 49 9 (.string ByteArray.empty) 1 16 ho Tryz.underlying49 Tryz.infoStr rfl (by omega) A c n (i6 l) (.str v) hs hx hown (by rw [pH]; exact hn) rfl trivial rfl hS hl (by omega)
    fun A' c' w' h1 h2 h3 => h A' c' w' (by rw [qe]; exact h1) h2 h3

set_option maxHeartbeats 800000 in
theorem io (s : ByteArray) (b : UInt8) (w : World) (hs : s.size ≤ 1048576) : Calls Tryz.prog 225 #[.string s, .int .u8 (b.toNat : Int)] w fun e w' => ∃ (ps : List ByteArray) (g c : Nat), ps.map (·.data.toList) = spl b s.data.toList ∧ e = .returned (.slice (some ⟨g, 0, none⟩) ps.length c) ∧ Below w.heap.size w w' ∧ ck w' (w.heap.size ≤ ·) (.sl (some ⟨g, 0, none⟩) c 1 (i6 ps)) := by
  go_enter Tryz.func225, Tryz.ntmps225
  go_wp2
  go_loopw [5, 6, 7] (fun ov fv iv wr => ∃ (k f m g c : Nat) (ps : List ByteArray), k ≤ s.size + 1 ∧ iv = .int .i64 k ∧ fv = .int .i64 f ∧ f ≤ k ∧ m ≤ k ∧ ps.length = m ∧ ov = .slice (some ⟨g, 0, none⟩) m c ∧ Below w.heap.size w wr ∧ ck wr (w.heap.size ≤ ·) (.sl (some ⟨g, 0, none⟩) c 1 (i6 ps)) ∧
    (if k ≤ s.size then ps.map (·.data.toList) ++ wz ((s.data.toList.take k).drop f) (spl b (s.data.toList.drop k)) else ps.map (·.data.toList)) = spl b s.data.toList) (fun _ _ iv _ => s.size + 1 - (intOf iv).toNat)
  case atStart => exact ⟨0, 0, 0, _, _, [], Nat.zero_le _, rfl, rfl, Nat.le_refl _, Nat.le_refl _, rfl, rfl, (Below.refl _ _).alloc (Nat.le_refl _) _, rM _ _ (Nat.le_refl _), by simp [rI]⟩
  case round =>
    obtain ⟨k, f, m, g, c, ps, hk, rfl, rfl, hf, hm, hl, rfl, hb, ho, hr⟩ := hrel
    have Hr := Lib.hid hr
    have Hl := Lib.hid hl
    clear hr hl
    have hg : w.heap.size ≤ g := ho.2.2 g (by simp [PT.blocks, PT.rowOf])
    have hsz := hb.size
    by_cases hlt : k ≤ s.size
    · by_cases hend : k = s.size
      · have he : ((k : Int) == (s.size : Int)) = true := by simp [hend]
        have Hend := Lib.hid hend
        clear hend
        go_wp2_with (at_builtin; refine eN rfl (.tmp 26) (.tmp 31) rfl (S := (w.heap.size ≤ ·)) (some ⟨g, 0, none⟩) c m ps (s.extract f k) rfl rfl ho Hl.out.symm (by omega) (by omega) ?_; intro A5 c5 w5 ho5 ht5 hA5)
        obtain ⟨g5, rfl⟩ := hA5 g rfl
        have hb5 := hb.trans (ht5.below (B := w.heap.size) hb.size (fun b h => by simp [PT.rowOf] at h; omega))
        clear ho hb ht5
        go_roundw
        case rel =>
          refine ⟨k + 1, k + 1, m + 1, g5, c5, ps ++ [s.extract f k], by omega, by go_num, by go_num, Nat.le_refl _, by omega, by simp [Hl.out], rfl, hb5, ho5, ?_⟩
          have h1 := Hr.out
          have h2 := Hend.out
          rw [if_pos hlt] at h1
          have h5 : s.data.toList.drop s.size = [] := List.drop_eq_nil_of_le (by rw [bG]; omega)
          rw [if_neg (by omega), ← h1, h2, h5]
          simp only [spl, wz, List.headD_cons, List.append_nil, List.tail_cons, List.map_append, List.map_cons, List.map_nil]
          rw [Lib.extract_data, ← List.drop_take]
        case measure => simp [intOf]; omega
      · have he : ((k : Int) == (s.size : Int)) = false := by simp; omega
        have hks : k < s.size := by omega
        have hdr := kw s hks
        have Hdr := Lib.hid hdr
        clear hdr
        cases hq : ((s[k].toNat : Int) == (b.toNat : Int))
        · go_wp2
          go_roundw
          case rel =>
            refine ⟨k + 1, f, m, g, c, ps, by omega, by go_num, rfl, by omega, by omega, Hl.out, rfl, hb, ho, ?_⟩
            have h1 := Hr.out
            rw [if_pos hlt, Hdr.out, tR _ _ _ _ (fun e => by simp [e] at hq)] at h1
            rw [if_pos (by omega), ← h1]
            have h3 : (s.data.toList.take (k + 1)).drop f = (s.data.toList.take k).drop f ++ [s[k]] := by
              rw [List.take_add_one, List.getElem?_eq_getElem (by rw [bG]; exact hks), List.drop_append_of_le_length (by rw [List.length_take, bG]; omega)]
              rfl
            rw [h3]
          case measure => simp [intOf]; omega
        · go_wp2_with (at_builtin; refine eN rfl (.tmp 26) (.tmp 31) rfl (S := (w.heap.size ≤ ·)) (some ⟨g, 0, none⟩) c m ps (s.extract f k) rfl rfl ho Hl.out.symm (by omega) (by omega) ?_; intro A5 c5 w5 ho5 ht5 hA5)
          obtain ⟨g5, rfl⟩ := hA5 g rfl
          have hb5 := hb.trans (ht5.below (B := w.heap.size) hb.size (fun b h => by simp [PT.rowOf] at h; omega))
          clear ho hb ht5
          go_roundw
          case rel =>
            refine ⟨k + 1, k + 1, m + 1, g5, c5, ps ++ [s.extract f k], by omega, by go_num, by go_num, Nat.le_refl _, by omega, by simp [Hl.out], rfl, hb5, ho5, ?_⟩
            have h1 := Hr.out
            have hbb : s[k] = b := by
              have : (s[k].toNat : Int) = (b.toNat : Int) := beq_iff_eq.1 hq
              exact UInt8.toNat_inj.1 (by omega)
            rw [if_pos hlt, Hdr.out, hbb, vk] at h1
            have h4 : ((s.data.toList.take (k + 1)).drop (k + 1)) = [] := List.drop_eq_nil_of_le (by rw [List.length_take]; omega)
            rw [if_pos (by omega), h4, rI, ← h1]
            simp only [List.map_append, List.map_cons, List.map_nil, List.append_assoc, List.singleton_append]
            rw [Lib.extract_data, ← List.drop_take]
          case measure => simp [intOf]; omega
    · go_wp2
      go_ret
      refine ⟨ps, g, c, ?_, by rw [Hl.out]; rfl, hb, ho⟩
      have := Hr.out
      rw [if_neg hlt] at this
      exact this


inductive Ty where
  | int (k : IntKind)
  | bool
  | str
  | agg (l : List Ty)
  | sl (m : Nat) (e : Ty)

mutual
def Ty.size : Ty → Nat
  | .agg l => Ty.sizeL l
  | _ => 1
def Ty.sizeL : List Ty → Nat
  | [] => 0
  | t :: r => Ty.size t + Ty.sizeL r
end

mutual
def cu : Ty → PT → Prop
  | .int k, t => ∃ n, t = .int k n
  | .bool, t => ∃ b, t = .bool b
  | .str, t => ∃ s, t = .str s
  | .agg l, t => ∃ ts, t = .agg ts ∧ cY l ts
  | .sl m e, t => ∃ A c l, t = .sl A c m l ∧ ∀ u ∈ l, cu e u
def cY : List Ty → List PT → Prop
  | [], ts => ts = []
  | t :: r, ts => ∃ u us, ts = u :: us ∧ cu t u ∧ cY r us
end

mutual
def PT.sane : PT → Prop
  | .int k n => (Lit.int k n).wf = true
  | .str s => s.size ≤ maxLen
  | .bool _ => True
  | .agg l => saneL l
  | .sl _ _ _ l => saneL l
def PT.saneL : List PT → Prop
  | [] => True
  | t :: r => PT.sane t ∧ PT.saneL r
end
theorem PT.saneL_of {l : List PT} (h : ∀ t ∈ l, t.sane) : PT.saneL l := by
  induction l with
  | nil => trivial
  | cons x r ih => exact ⟨h x (by simp), ih fun t ht => h t (by simp [ht])⟩
theorem PT.saneL_mem {l : List PT} (h : PT.saneL l) {t : PT} (ht : t ∈ l) : t.sane := by
  induction l with
  | nil => cases ht
  | cons x r ih =>
    rcases List.mem_cons.1 ht with rfl | ht
    · exact h.1
    · exact ih h.2 ht

mutual
def tyB (P : Program) : Ty → TypeId → Bool
  | .int k, T => match P.underlying T with | some (.int k') => k == k' | _ => false
  | .bool, T => match P.underlying T with | some .bool => true | _ => false
  | .str, T => match P.underlying T with | some .string => true | _ => false
  | .agg l, T => match P.underlying T with | some (.struct fs) => yu P l fs.toList 0 && (P.cellsOf T == Ty.sizeL l) | _ => false
  | .sl m e, T => match P.underlying T with | some (.slice E) => tyB P e E && (P.cellsOf E == m) && (Ty.size e == m) && decide (0 < m) | _ => false
def yu (P : Program) : List Ty → List Field → Nat → Bool
  | [], [], _ => true
  | t :: r, f :: fs, off => (f.offset == off) && tyB P t f.type && (P.cellsOf f.type == Ty.size t) && yu P r fs (off + Ty.size t)
  | _, _, _ => false
end

mutual
theorem iZ : ∀ (τ : Ty) (t : PT), cu τ t → t.cells.length = τ.size
  | .int k, t, h => by simp only [cu] at h; obtain ⟨n, rfl⟩ := h; rfl
  | .bool, t, h => by simp only [cu] at h; obtain ⟨n, rfl⟩ := h; rfl
  | .str, t, h => by simp only [cu] at h; obtain ⟨n, rfl⟩ := h; rfl
  | .agg l, t, h => by
    simp only [cu] at h
    obtain ⟨ts, rfl, h⟩ := h
    simp only [PT.cells, Ty.size]
    exact kD l ts h
  | .sl m e, t, h => by simp only [cu] at h; obtain ⟨A, c, l, rfl, _⟩ := h; rfl
theorem kD : ∀ (l : List Ty) (ts : List PT), cY l ts → (PT.cellsL ts).length = Ty.sizeL l
  | [], ts, h => by simp only [cY] at h; subst h; rfl
  | τ :: r, ts, h => by
    simp only [cY] at h
    obtain ⟨u, us, rfl, h1, h2⟩ := h
    simp only [PT.cellsL, List.length_append, Ty.sizeL]
    rw [iZ τ u h1, kD r us h2]
end

section
variable {H : Type} {enc : TypeId × Value → H} {P : Program} {w : World} {base : Nat} {spare : Nat → Bool} {held : Bool}

theorem sQ {a : Addr} {v : Value} (h : w.cell? a = some v) : ∃ b o, a = ⟨b, o, none⟩ := by
  obtain ⟨b, o, s⟩ := a
  cases s with
  | none => exact ⟨b, o, rfl⟩
  | some s => simp [World.cell?] at h; split at h <;> simp at h

mutual
theorem qr : ∀ (τ : Ty) (T : TypeId) (fuel : Nat) (cs : List Value) (x : DataW H × List MemPlace), tyB P τ T = true → DataW.trod enc P w base spare held fuel T cs = some x →
    ∃ t : PT, cu τ t ∧ t.cells = cs ∧ dl w (· < w.heap.size) t ∧ t.sane
  | .int k, T, fuel, cs, x, ht, h => by
    simp only [tyB] at ht
    split at ht
    · rename_i k' hu
      obtain ⟨n, rfl, _, hwf⟩ := DataW.trod_int hu h
      have : k = k' := by simpa using ht
      subst this
      exact ⟨.int k n, by simp [cu], rfl, trivial, hwf⟩
    · cases ht
  | .bool, T, fuel, cs, x, ht, h => by
    simp only [tyB] at ht
    split at ht
    · rename_i hu
      obtain ⟨b, rfl, _⟩ := DataW.trod_bool hu h
      exact ⟨.bool b, by simp [cu], rfl, trivial, trivial⟩
    · cases ht
  | .str, T, fuel, cs, x, ht, h => by
    simp only [tyB] at ht
    split at ht
    · rename_i hu
      obtain ⟨s, rfl, _, hs⟩ := DataW.trod_string hu h
      exact ⟨.str s, by simp [cu], rfl, trivial, hs⟩
    · cases ht
  | .agg l, T, fuel, cs, x, ht, h => by
    simp only [tyB] at ht
    split at ht
    · rename_i fs hu
      simp only [Bool.and_eq_true, beq_iff_eq] at ht
      obtain ⟨xs, n, _, _, hcl, hxl, hf⟩ := DataW.trod_struct hu h
      obtain ⟨ts, h1, h2, h3, h4⟩ := rx l fs.toList 0 n cs ht.1 (by rw [hcl, ht.2]; simp) (fun i f hfi => by
        have h5 := hf i f (by simpa using hfi)
        have hi : i < xs.length := by rw [hxl]; have := (List.getElem?_eq_some_iff.1 hfi).1; simpa using this
        rw [List.getElem?_eq_getElem hi] at h5
        exact ⟨_, h5⟩)
      exact ⟨.agg ts, by simp only [cu]; exact ⟨ts, rfl, h1⟩, by simpa [PT.cells] using h2, h3, h4⟩
    · cases ht
  | .sl m e, T, fuel, cs, x, ht, h => by
    simp only [tyB] at ht
    split at ht
    · rename_i E hu
      simp only [Bool.and_eq_true, beq_iff_eq, decide_eq_true_eq] at ht
      obtain ⟨⟨⟨hE, hm⟩, hsz⟩, hm0⟩ := ht
      rcases Go.Deep.open_slice hu h with ⟨rfl, _⟩ | ⟨a, len, cap, mm, n, D, Pl, rfl, _, hl, hc, hmm, _, hel⟩
      · exact ⟨.sl none 0 m [], by simp only [cu]; exact ⟨_, _, _, rfl, by simp⟩, rfl, ⟨by simp, by simp, gR.nil _ _ _, by simp, trivial⟩, trivial⟩
      · rw [hm] at hel
        have hge : len ≤ mm := by rw [hmm]; split <;> omega
        -- the elements, one behind the other
        have build : ∀ k, k ≤ len → ∃ l : List PT, l.length = k ∧ (∀ u ∈ l, cu e u) ∧ cg w (· < w.heap.size) l ∧ PT.saneL l ∧ ∀ j v, (PT.cellsL l)[j]? = some v → w.cell? (a.add j) = some v := by
          intro k
          induction k with
          | zero => intro _; exact ⟨[], rfl, by simp, trivial, trivial, by simp [PT.cellsL]⟩
          | succ k ih =>
            intro hk
            obtain ⟨l, hll, h1, h2, h3, h4⟩ := ih (by omega)
            obtain ⟨cs', hc', ht'⟩ := hel k (by omega)
            obtain ⟨t, ht1, ht2, ht3, ht4⟩ := qr e E n cs' _ hE ht'
            obtain ⟨_, hcl', hat⟩ := World.cells?_some hc'
            have hll2 : (PT.cellsL l).length = k * m := by
              rw [PT.length_cellsL (m := m) (fun u hu => by rw [iZ e u (h1 u hu), hsz]), hll]
            refine ⟨l ++ [t], by simp [hll], fun u hu => ?_, cg.of_get fun u hu => ?_, PT.saneL_of fun u hu => ?_, fun j v hj => ?_⟩
            · rcases List.mem_append.1 hu with hu | hu
              · exact h1 u hu
              · rw [List.mem_singleton.1 hu]; exact ht1
            · rcases List.mem_append.1 hu with hu | hu
              · obtain ⟨i, hi, rfl⟩ := List.getElem_of_mem hu
                exact cg.get h2 (List.getElem?_eq_getElem hi)
              · rw [List.mem_singleton.1 hu]; exact ht3
            · rcases List.mem_append.1 hu with hu | hu
              · exact PT.saneL_mem h3 hu
              · rw [List.mem_singleton.1 hu]; exact ht4
            · rw [PT.cellsL_append] at hj
              simp only [PT.cellsL, List.append_nil] at hj
              rw [ht2] at hj
              by_cases hjl : j < (PT.cellsL l).length
              · rw [List.getElem?_append_left hjl] at hj
                exact h4 j v hj
              · rw [List.getElem?_append_right (by omega)] at hj
                have hj2 := (List.getElem?_eq_some_iff.1 hj).1
                have h5 := hat (j - (PT.cellsL l).length) (by rw [← hcl']; exact hj2)
                rw [hj] at h5
                rw [← h5, Addr.add_add, show k * m + (j - (PT.cellsL l).length) = j by omega]
        obtain ⟨l, hll, h1, h2, h3, h4⟩ := build len (Nat.le_refl _)
        subst hll
        refine ⟨.sl (some a) cap m l, by simp only [cu]; exact ⟨_, _, _, rfl, h1⟩, rfl, ⟨hl, hc, fun j v hj => ?_, fun u hu => by rw [iZ e u (h1 u hu), hsz], h2⟩, h3⟩
        have h0 : 0 < (PT.cellsL l).length := by have := (List.getElem?_eq_some_iff.1 hj).1; omega
        have hz := h4 0 _ (List.getElem?_eq_getElem h0)
        rw [Addr.add_zero'] at hz
        obtain ⟨b, o, rfl⟩ := sQ hz
        have hv := h4 j v hj
        rw [Addr.add_lit] at hv
        exact ⟨b, o, rfl, World.block_lt_of_cell? w _ hz, hv⟩
    · cases ht
theorem rx : ∀ (l : List Ty) (fs : List Field) (off fuel : Nat) (cs : List Value), yu P l fs off = true → cs.length = off + Ty.sizeL l →
    (∀ (i : Nat) (f : Field), fs[i]? = some f → ∃ y, DataW.trod enc P w base spare held fuel f.type ((cs.drop f.offset).take (P.cellsOf f.type)) = some y) →
    ∃ ts : List PT, cY l ts ∧ PT.cellsL ts = cs.drop off ∧ cg w (· < w.heap.size) ts ∧ PT.saneL ts
  | [], fs, off, fuel, cs, h, hl, _ => by
    refine ⟨[], by simp [cY], ?_, trivial, trivial⟩
    rw [List.drop_eq_nil_of_le (by rw [hl]; simp [Ty.sizeL])]; rfl
  | τ :: r, [], off, fuel, cs, h, hl, _ => by simp [yu] at h
  | τ :: r, f :: fs, off, fuel, cs, h, hl, hf => by
    simp only [yu, Bool.and_eq_true, beq_iff_eq] at h
    obtain ⟨⟨⟨h1, h2⟩, h3⟩, h4⟩ := h
    obtain ⟨y, hy⟩ := hf 0 f rfl
    rw [h1, h3] at hy
    obtain ⟨t, ht1, ht2, ht3, ht4⟩ := qr τ f.type fuel _ y h2 hy
    obtain ⟨ts, hs1, hs2, hs3, hs4⟩ := rx r fs (off + τ.size) fuel cs h4 (by rw [hl]; simp only [Ty.sizeL]; omega) (fun i g hg => hf (i + 1) g (by simpa using hg))
    refine ⟨t :: ts, by simp only [cY]; exact ⟨t, ts, rfl, ht1, hs1⟩, ?_, ⟨ht3, hs3⟩, ⟨ht4, hs4⟩⟩
    simp only [PT.cellsL]
    rw [ht2, hs2, ← List.drop_drop]
    exact List.take_append_drop _ _
end
end


def f9 (w : World) (g : Nat) (e : TypeId) (N : Nat) (xs : List Value) : Prop :=
  ∃ cur, w.heap[g]? = some (.cells cur e (0, 0)) ∧ cur.size = N ∧ xs.length ≤ N ∧ cur.toList.take xs.length = xs

section
variable {w w' : World} {g : Nat} {e : TypeId} {N : Nat} {xs : List Value}
theorem f9.lt (h : f9 w g e N xs) : g < w.heap.size := by
  obtain ⟨cur, h1, _⟩ := h
  exact (Array.getElem?_eq_some_iff.1 h1).1
theorem f9.cell (h : f9 w g e N xs) {i : Nat} (hi : i < N) : ∃ u, w.cell? ⟨g, i, none⟩ = some u := by
  obtain ⟨cur, h1, h2, _⟩ := h
  exact ⟨_, by rw [cell_of_row w g i cur e (0, 0) h1]; exact Array.getElem?_eq_getElem (by omega)⟩
theorem f9.frozen (h : f9 w g e N xs) (i : Nat) : w.frozen? ⟨g, i, none⟩ = false := by
  obtain ⟨cur, h1, _⟩ := h
  simp [World.frozen?, h1]
theorem f9.made (w : World) (z : Value) (n : Nat) (e : TypeId) : f9 (w.alloc (.cells (madeCells #[z] n) e)) w.heap.size e n [] :=
  ⟨_, heap_alloc_new w _, by simp [madeCells], by simp, by simp⟩
theorem f9.same (h : f9 w g e N xs) (hb : w'.heap[g]? = w.heap[g]?) : f9 w' g e N xs := by
  obtain ⟨cur, h1, h2⟩ := h
  exact ⟨cur, hb.trans h1, h2⟩
theorem f9.below {B : Nat} (h : f9 w g e N xs) (hb : Below B w w') (hg : g < B) : f9 w' g e N xs := h.same (hb.block g hg)
theorem f9.alloc (h : f9 w g e N xs) (o : Obj) : f9 (w.alloc o) g e N xs := h.same (Below.heap_alloc w o g h.lt)
theorem f9.far (h : f9 w g e N xs) {p : Addr} (hp : g ≠ p.block) (u : Value) : f9 (w.setCell p u) g e N xs := h.same (Below.heap_setCell w p u g hp)
theorem f9.drew (h : f9 w g e N xs) : f9 w.drew g e N xs := h
theorem f9.push (h : f9 w g e N xs) {i : Nat} (hi : i = xs.length) (hN : i < N) (u : Value) : f9 (w.setCell ⟨g, i, none⟩ u) g e N (xs ++ [u]) := by
  obtain ⟨cur, h1, h2, h3, h4⟩ := h
  subst hi
  refine ⟨cur.setIfInBounds xs.length u, by simp [World.setCell, Array.getElem?_modify, h1], by simpa using h2, by simp; omega, ?_⟩
  rw [Array.toList_setIfInBounds, List.length_append, List.length_singleton, List.take_add_one, List.take_set]
  rw [List.set_eq_of_length_le (by simp; omega), h4]
  simp [h2, hN]
theorem f9.own {l : List PT} {c m : Nat} (h : f9 w g e (c * m) (PT.cellsL l)) (hm : ∀ t ∈ l, t.cells.length = m) (hl : l.length ≤ c) (hc : c ≤ maxLen) (ho : gq w l) : Own w (.sl (some ⟨g, 0, none⟩) c m l) := by
  obtain ⟨cur, h1, h2, h3, h4⟩ := h
  have hL := PT.length_cellsL hm
  exact dS hm hL h1 hl hc h2 (by rw [← hL]; exact h4) ho
end


theorem lR {P : Program} (t e : TypeId) (z : Value) (m bytes : Nat) (ht : P.underlying t = some (.slice e)) (hinfo : (P.info? e).map (fun i => (i.zero, i.size, i.bytes)) = some (some z, m, bytes))
    (kl kc : IntKind) (n : Nat) (hbytes : bytes * n ≤ 281474976710656) (h63 : n ≤ 9223372036854775807) (w : World) :
    (Instr.makeSlice t (.int kl (n : Int)) (.int kc (n : Int))).run P w = .ok (.slice (some ⟨w.heap.size, 0, none⟩) n n) (w.alloc (.cells (madeCells z.cells (n * m)) e)) := by
  obtain ⟨i, hi, hzz⟩ := Option.map_eq_some_iff.1 hinfo
  simp only [Prod.mk.injEq] at hzz
  obtain ⟨hz, hs, hb⟩ := hzz
  have hb' : (i.bytes : Int) * (n : Int) ≤ 281474976710656 := by
    have h : ((i.bytes * n : Nat) : Int) ≤ 281474976710656 := by rw [hb]; omega
    rwa [Int.natCast_mul] at h
  have hr := run_make (P := P) w t e i z ht hi hz kl kc n n (by omega) (Int.le_refl _) hb' (by omega)
  simp only [Int.toNat_natCast, hs] at hr
  exact hr
structure nw {α : Type} (f : α → PT) (m : Nat) : Prop where
  cells : ∀ x, (f x).cells.length = m
  blocks : ∀ x, (f x).blocks = []
  own : ∀ x w, Own w (f x)
  seen : ∀ x w S, dl w S (f x)
section
variable {α : Type} {f : α → PT} {m : Nat} {w : World} {S : Nat → Prop}
theorem nw.cellsL (h : nw f m) (l : List α) : ∀ t ∈ l.map f, t.cells.length = m := fun t ht => by
  obtain ⟨x, _, rfl⟩ := List.mem_map.1 ht; exact h.cells x
theorem nw.blocksL (h : nw f m) (l : List α) : PT.blocksL (l.map f) = [] := by
  induction l with
  | nil => rfl
  | cons z r ih => simp only [List.map_cons, PT.blocksL, h.blocks, ih, List.append_nil]
theorem nw.ownL (h : nw f m) (l : List α) : gq w (l.map f) := gq.of_get fun t ht => by
  obtain ⟨x, _, rfl⟩ := List.mem_map.1 ht; exact h.own x w
theorem nw.length (h : nw f m) (l : List α) : (PT.cellsL (l.map f)).length = l.length * m := by
  rw [PT.length_cellsL (h.cellsL l), List.length_map]
theorem nw.owned (h : nw f m) {g c : Nat} {e : TypeId} {l : List α} (hf : f9 w g e (c * m) (PT.cellsL (l.map f))) (hl : l.length ≤ c) (hc : c ≤ maxLen) (hS : S g) : ck w S (.sl (some ⟨g, 0, none⟩) c m (l.map f)) :=
  ⟨f9.own hf (h.cellsL l) (by simpa using hl) hc (h.ownL l), by simp [PT.blocks, h.blocksL, PT.rowOf], by simpa [PT.blocks, h.blocksL, PT.rowOf] using hS⟩
theorem nw.none (_h : nw f m) : dl w S (.sl none 0 m (([] : List α).map f)) := ⟨by simp, by simp, gR.nil _ _ _, by simp, trivial⟩
end
def AtL {α : Type} (R : PT → α → Prop) (l : List PT) (xs : List α) : Prop := l.length = xs.length ∧ ∀ (i : Nat) (t : PT) (x : α), l[i]? = some t → xs[i]? = some x → R t x
section
variable {α : Type} {R : PT → α → Prop} {l : List PT} {xs : List α}
theorem AtL.get (h : AtL R l xs) {k : Nat} (hk : k < l.length) : R l[k] (xs[k]'(by have := h.1; omega)) := h.2 k _ _ (List.getElem?_eq_getElem hk) (List.getElem?_eq_getElem _)
theorem AtL.nil : AtL R [] ([] : List α) := ⟨rfl, by simp⟩
theorem AtL.cells {m : Nat} (h : AtL R l xs) (hm : ∀ t x, R t x → t.cells.length = m) : ∀ t ∈ l, t.cells.length = m := fun t ht => by
  obtain ⟨i, hi, rfl⟩ := List.getElem_of_mem ht
  exact hm _ _ (h.get hi)
end
theorem om {α : Type} {R : PT → α → Prop} {l : List PT} (h : ∀ t ∈ l, ∃ x, R t x) : ∃ xs, AtL R l xs := by
  induction l with
  | nil => exact ⟨[], AtL.nil⟩
  | cons t r ih =>
    obtain ⟨x, hx⟩ := h t (by simp)
    obtain ⟨xs, hxs⟩ := ih fun u hu => h u (by simp [hu])
    refine ⟨x :: xs, by simp [hxs.1], fun i u y hu hy => ?_⟩
    cases i with
    | zero => simp at hu hy; subst hu; subst hy; exact hx
    | succ i => exact hxs.2 i u y (by simpa using hu) (by simpa using hy)
theorem fx {α : Type} {f : α → PT} {l : List PT} (h : ∀ t ∈ l, ∃ x, t = f x) : ∃ xs : List α, l = xs.map f := by
  induction l with
  | nil => exact ⟨[], rfl⟩
  | cons t r ih =>
    obtain ⟨x, hx⟩ := h t (by simp)
    obtain ⟨xs, hxs⟩ := ih fun u hu => h u (by simp [hu])
    exact ⟨x :: xs, by simp [hx, hxs]⟩

def cX (w : World) (lo hi : Nat) (ts : List PT) : Prop := gq w ts ∧ (PT.blocksL ts).Nodup ∧ ∀ b ∈ PT.blocksL ts, Rng lo hi b
section
variable {w w' : World} {lo mid hi : Nat}
theorem cX.nil : cX w lo hi [] := ⟨trivial, by simp [PT.blocksL], by simp [PT.blocksL]⟩
theorem cX.cons {ts : List PT} {t : PT} (ht : ck w (Rng lo mid) t) (h : cX w mid hi ts) (hl : lo ≤ mid) (hm : mid ≤ hi) : cX w lo hi (t :: ts) := by
  refine ⟨⟨ht.1, h.1⟩, ?_, fun b hb => ?_⟩
  · simp only [PT.blocksL, List.nodup_append]
    refine ⟨ht.2.1, h.2.1, fun a ha b hb => ?_⟩
    have h1 := (ht.2.2 a ha).2
    have h2 := (h.2.2 b hb).1
    omega
  · simp only [PT.blocksL, List.mem_append] at hb
    rcases hb with hb | hb
    · have := ht.2.2 b hb; exact ⟨this.1, Nat.lt_of_lt_of_le this.2 hm⟩
    · have := h.2.2 b hb; exact ⟨Nat.le_trans hl this.1, this.2⟩
theorem cX.flat {ts : List PT} {t : PT} (hb : t.blocks = []) (ho : Own w t) (h : cX w lo hi ts) : cX w lo hi (t :: ts) :=
  ⟨⟨ho, h.1⟩, by simpa [PT.blocksL, hb] using h.2.1, by simpa [PT.blocksL, hb] using h.2.2⟩
theorem cX.agg {ts : List PT} {S : Nat → Prop} (h : cX w lo hi ts) (hS : ∀ b, Rng lo hi b → S b) : ck w S (.agg ts) := ⟨h.1, h.2.1, fun b hb => hS b (h.2.2 b hb)⟩
theorem cX.keep {ts : List PT} (h : cX w lo hi ts) (hk : ∀ b, Rng lo hi b → b < w.heap.size → w'.heap[b]? = w.heap[b]?) : cX w' lo hi ts :=
  ⟨fi.2 ts h.1 fun b hb => hk b (h.2.2 b hb) (nQ.2 ts h.1 b hb), h.2.1, h.2.2⟩
theorem cX.below {ts : List PT} (h : cX w lo hi ts) (hb : Below w.heap.size w w') : cX w' lo hi ts := h.keep fun b _ hlt => hb.block b hlt
theorem cX.far {ts : List PT} (h : cX w lo hi ts) {p : Addr} (hp : p.block < lo) (u : Value) : cX (w.setCell p u) lo hi ts :=
  h.keep fun b hb _ => Below.heap_setCell _ _ _ _ (by have := hb.1; omega)
theorem ck.far {S : Nat → Prop} {t : PT} (h : ck w S t) {p : Addr} (hp : ¬ S p.block) (u : Value) : ck (w.setCell p u) S t :=
  h.keep fun _b hb _ => Below.heap_setCell _ _ _ _ (fun e => hp (e ▸ hb))
theorem cX.slice {ts : List PT} {g c m : Nat} {e : TypeId} {S : Nat → Prop} (h : cX w lo hi ts) (hf : f9 w g e (c * m) (PT.cellsL ts)) (hm : ∀ t ∈ ts, t.cells.length = m) (hl : ts.length ≤ c) (hc : c ≤ maxLen) (hg : g < lo) (hS : ∀ b, g ≤ b → S b) :
    ck w S (.sl (some ⟨g, 0, none⟩) c m ts) := by
  refine ⟨f9.own hf hm hl hc h.1, ?_, fun b hb => ?_⟩
  · simp only [PT.blocks, PT.rowOf, List.singleton_append, List.nodup_cons]
    exact ⟨fun hb => by have := (h.2.2 g hb).1; omega, h.2.1⟩
  · simp only [PT.blocks, PT.rowOf, List.mem_append, List.mem_singleton] at hb
    rcases hb with rfl | hb
    · exact hS b (Nat.le_refl _)
    · exact hS b (by have := (h.2.2 b hb).1; omega)
end

def i64 (n : Int) : Prop := -9223372036854775808 ≤ n ∧ n ≤ 9223372036854775807
theorem bU {n : Int} (h : (Lit.int .i64 n).wf = true) : i64 n := bounds_i64 h

end Go.Proofs.YthpdkhejeookhaaGreatDoor
