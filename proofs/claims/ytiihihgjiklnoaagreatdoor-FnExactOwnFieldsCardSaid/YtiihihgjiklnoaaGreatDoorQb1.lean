/- Part 1 of the proof: the texts Base, Ty, Mem, EngA, Tab, EngB, Ints. -/
import Derived.WalkKit
import Derived.WalkSpells
import Derived.WalkLawsBesides
import Derived.Deep.LoopGhost
import Derived.Deep.OwnRows
import Derived.Lib.Hide
import Derived.Handy
import Derived.Maps.AppendAt
import Derived.Deep.AppendLies
import Derived.RegionTactic
import Derived.OwnWalk
import Derived.ProofKit
import Derived.Deep.Slices
import Derived.Orders
import Derived.IntWalk
import Derived.Lib.Strings
import Derived.WideShapes
import Derived.Test.YtiihihgjiklnoaaGreatDoorChecked
import Derived.Deep.QuietTactic
import Derived.BigQuiet
/- The vocabulary of memory that all proofs of this seat share: a value in memory as a tree with its addresses, what of it can be read, and what of it a call owns. Plain definitions and lemmas. -/
namespace Go.Proofs.YtiihihgjiklnoaaGreatDoor
open Go Go.RowKit

inductive D where
  | int (k : IntKind) (n : Int)
  | bool (b : Bool)
  | str (s : ByteArray)
  | agg (l : List D)
  | sl (l : List D)

inductive PT where
  | int (k : IntKind) (n : Int)
  | bool (b : Bool)
  | str (s : ByteArray)
  | agg (l : List PT)
  | sl (A : Option Addr) (c m : Nat) (l : List PT)

namespace PT
mutual
def cells : PT → List Value
  | .int k n => [.int k n]
  | .bool b => [.bool b]
  | .str s => [.string s]
  | .agg l => cellsL l
  | .sl A c _ l => [.slice A l.length c]
def cellsL : List PT → List Value
  | [] => []
  | t :: r => cells t ++ cellsL r
end
mutual
def data : PT → D
  | .int k n => .int k n
  | .bool b => .bool b
  | .str s => .str s
  | .agg l => .agg (abJ l)
  | .sl _ _ _ l => .sl (abJ l)
def abJ : List PT → List D
  | [] => []
  | t :: r => data t :: abJ r
end
def value : PT → Value
  | .int k n => .int k n
  | .bool b => .bool b
  | .str s => .string s
  | .agg l => .agg (cellsL l).toArray
  | .sl A c _ l => .slice A l.length c
def rowOf : Option Addr → List Nat
  | some a => [a.block]
  | none => []
mutual
def blocks : PT → List Nat
  | .agg l => blocksL l
  | .sl A _ _ l => rowOf A ++ blocksL l
  | _ => []
def blocksL : List PT → List Nat
  | [] => []
  | t :: r => blocks t ++ blocksL r
end
end PT

def jB (w : World) (S : Nat → Prop) (A : Option Addr) (xs : List Value) : Prop :=
  ∀ j u, xs[j]? = some u → ∃ b o, A = some ⟨b, o, none⟩ ∧ S b ∧ w.cell? ⟨b, o + j, none⟩ = some u

mutual
def dK (w : World) (S : Nat → Prop) : PT → Prop
  | .agg l => cm w S l
  | .sl A c m l => l.length ≤ c ∧ c ≤ maxLen ∧ jB w S A (PT.cellsL l) ∧ (∀ t ∈ l, t.cells.length = m) ∧ cm w S l
  | _ => True
def cm (w : World) (S : Nat → Prop) : List PT → Prop
  | [] => True
  | t :: r => dK w S t ∧ cm w S r
end

mutual
def Own (w : World) : PT → Prop
  | .agg l => iP w l
  | .sl A c m l => (∀ t ∈ l, t.cells.length = m) ∧ (∃ e, w.ownsRow 0 e m (.slice A l.length c) l.length (PT.cellsL l)) ∧ iP w l
  | _ => True
def iP (w : World) : List PT → Prop
  | [] => True
  | t :: r => Own w t ∧ iP w r
end

def cr (w : World) (S : Nat → Prop) (t : PT) : Prop := Own w t ∧ t.blocks.Nodup ∧ ∀ b ∈ t.blocks, S b

theorem PT.blocksL_append (l m : List PT) : PT.blocksL (l ++ m) = PT.blocksL l ++ PT.blocksL m := by
  induction l with
  | nil => rfl
  | cons t r ih => simp [PT.blocksL, ih]
theorem PT.cellsL_append (l m : List PT) : PT.cellsL (l ++ m) = PT.cellsL l ++ PT.cellsL m := by
  induction l with
  | nil => rfl
  | cons t r ih => simp [PT.cellsL, ih]
theorem PT.ind {p : PT → Prop} {q : List PT → Prop} (hi : ∀ k n, p (.int k n)) (hb : ∀ b, p (.bool b)) (hs : ∀ s, p (.str s)) (ha : ∀ l, q l → p (.agg l)) (hl : ∀ A c m l, q l → p (.sl A c m l))
    (hn : q []) (hc : ∀ t r, p t → q r → q (t :: r)) : (∀ t, p t) ∧ (∀ l, q l) :=
  ⟨fun t => PT.rec (motive_1 := p) (motive_2 := q) hi hb hs ha hl hn hc t, fun l => PT.rec_1 (motive_1 := p) (motive_2 := q) hi hb hs ha hl hn hc l⟩

section
variable {w w' : World} {S S' : Nat → Prop}

theorem jB.nil (w : World) (S : Nat → Prop) (A : Option Addr) : jB w S A [] := fun j u h => by simp at h
theorem jB.keep {A : Option Addr} {xs : List Value} (h : jB w S A xs) (hk : ∀ b, S b → w'.heap[b]? = w.heap[b]?) (hm : ∀ b, S b → b < w.heap.size → S' b) : jB w' S' A xs := by
  intro j u hj
  obtain ⟨b, o, hA, hS, hc⟩ := h j u hj
  exact ⟨b, o, hA, hm b hS (World.block_lt_of_cell? w _ hc), (World.cell?_of_block (w := w) (w' := w') (a := ⟨b, o + j, none⟩) (hk b hS)).trans hc⟩

theorem sq (hk : ∀ b, S b → w'.heap[b]? = w.heap[b]?) (hm : ∀ b, S b → b < w.heap.size → S' b) : (∀ t, dK w S t → dK w' S' t) ∧ (∀ l, cm w S l → cm w' S' l) :=
  PT.ind (fun _ _ _ => trivial) (fun _ _ => trivial) (fun _ _ => trivial) (fun _ h k => h k)
    (fun _ _ _ _ h k => ⟨k.1, k.2.1, k.2.2.1.keep hk hm, k.2.2.2.1, h k.2.2.2.2⟩) (fun _ => trivial) (fun _ _ h k m => ⟨h m.1, k m.2⟩)

theorem dK.keep {t : PT} (h : dK w S t) (hk : ∀ b, S b → w'.heap[b]? = w.heap[b]?) (hm : ∀ b, S b → b < w.heap.size → S' b) : dK w' S' t := (sq hk hm).1 t h
theorem cm.keep {t : List PT} (h : cm w S t) (hk : ∀ b, S b → w'.heap[b]? = w.heap[b]?) (hm : ∀ b, S b → b < w.heap.size → S' b) : cm w' S' t := (sq hk hm).2 t h

theorem dK.below {B : Nat} {t : PT} (h : dK w (· < B) t) (hb : Below B w w') : dK w' (· < B) t := h.keep (fun b hB => hb.block b hB) (fun _ h _ => h)
theorem cm.below {B : Nat} {t : List PT} (h : cm w (· < B) t) (hb : Below B w w') : cm w' (· < B) t := h.keep (fun b hB => hb.block b hB) (fun _ h _ => h)
theorem jB.below {B : Nat} {A : Option Addr} {xs : List Value} (h : jB w (· < B) A xs) (hb : Below B w w') : jB w' (· < B) A xs := h.keep (fun b hB => hb.block b hB) (fun _ h _ => h)
theorem dK.mono {t : PT} (h : dK w S t) (hm : ∀ b, S b → b < w.heap.size → S' b) : dK w S' t := h.keep (fun _ _ => rfl) hm
theorem cm.mono {t : List PT} (h : cm w S t) (hm : ∀ b, S b → b < w.heap.size → S' b) : cm w S' t := h.keep (fun _ _ => rfl) hm
theorem jB.mono {A : Option Addr} {xs : List Value} (h : jB w S A xs) (hm : ∀ b, S b → b < w.heap.size → S' b) : jB w S' A xs := h.keep (fun _ _ => rfl) hm
theorem dK.here {t : PT} (h : dK w S t) : dK w (· < w.heap.size) t := h.mono fun _ _ h => h
theorem cm.here {t : List PT} (h : cm w S t) : cm w (· < w.heap.size) t := h.mono fun _ _ h => h
theorem jB.here {A : Option Addr} {xs : List Value} (h : jB w S A xs) : jB w (· < w.heap.size) A xs := h.mono fun _ _ h => h

theorem cm.get {l : List PT} (h : cm w S l) {i : Nat} {t : PT} (hi : l[i]? = some t) : dK w S t := by
  induction l generalizing i with
  | nil => simp at hi
  | cons x r ih =>
    cases i with
    | zero => simp at hi; subst hi; exact h.1
    | succ i => exact ih h.2 (by simpa using hi)
theorem cm.of_get {l : List PT} (h : ∀ t ∈ l, dK w S t) : cm w S l := by
  induction l with
  | nil => trivial
  | cons x r ih => exact ⟨h x (by simp), ih fun t ht => h t (by simp [ht])⟩
theorem iP.get {l : List PT} (h : iP w l) {t : PT} (hi : t ∈ l) : Own w t := by
  induction l with
  | nil => simp at hi
  | cons x r ih =>
    rcases List.mem_cons.1 hi with rfl | hi
    · exact h.1
    · exact ih h.2 hi
theorem iP.of_get {l : List PT} (h : ∀ t ∈ l, Own w t) : iP w l := by
  induction l with
  | nil => trivial
  | cons x r ih => exact ⟨h x (by simp), ih fun t ht => h t (by simp [ht])⟩

theorem PT.mem_blocksL {l : List PT} {b : Nat} : b ∈ PT.blocksL l ↔ ∃ t ∈ l, b ∈ t.blocks := by
  induction l with
  | nil => simp [PT.blocksL]
  | cons x r ih => simp [PT.blocksL, ih]

theorem px {A : Option Addr} {c m : Nat} {l : List PT} (h : Own w (.sl A c m l)) :
    (A = none ∧ c = 0 ∧ l = []) ∨ ∃ g cur e, A = some ⟨g, 0, none⟩ ∧ w.heap[g]? = some (.cells cur e (0, 0)) ∧ l.length ≤ c ∧ c ≤ maxLen ∧ cur.size = c * m ∧ cur.toList.take (l.length * m) = PT.cellsL l := by
  obtain ⟨_, ⟨e, _, h1 | ⟨g, cap, cur, hv, _, hg, hn, hc, hs, ht⟩⟩, _⟩ := h
  · obtain ⟨h1, h2⟩ := h1
    simp only [Value.slice.injEq] at h1
    exact .inl ⟨h1.1, h1.2.2, List.eq_nil_of_length_eq_zero h2⟩
  · simp only [Value.slice.injEq, true_and] at hv
    obtain ⟨rfl, rfl⟩ := hv
    exact .inr ⟨g, cur, e, rfl, hg, hn, hc, hs, ht⟩
theorem eI {g c m : Nat} {cur : Array Value} {e : TypeId} {l : List PT} (hm : ∀ t ∈ l, t.cells.length = m) (hL : (PT.cellsL l).length = l.length * m) (hg : w.heap[g]? = some (.cells cur e (0, 0))) (hn : l.length ≤ c) (hc : c ≤ maxLen) (hs : cur.size = c * m)
    (ht : cur.toList.take (l.length * m) = PT.cellsL l) (ho : iP w l) : Own w (.sl (some ⟨g, 0, none⟩) c m l) :=
  ⟨hm, ⟨e, hL, .inr ⟨g, c, cur, rfl, Nat.zero_le _, hg, hn, hc, hs, ht⟩⟩, ho⟩
theorem zx : (∀ t, Own w t → (∀ b ∈ t.blocks, S b) → dK w S t) ∧ (∀ l, iP w l → (∀ b ∈ PT.blocksL l, S b) → cm w S l) :=
  PT.ind (fun _ _ _ _ => trivial) (fun _ _ _ => trivial) (fun _ _ _ => trivial) (fun _ h k m => h k m)
    (fun A c m l h k hS => by
      rcases px k with ⟨rfl, rfl, rfl⟩ | ⟨g, cur, e, rfl, hg, hl, hc, _, ht⟩
      · exact ⟨by simp, by simp, jB.nil _ _ _, by simp, trivial⟩
      · refine ⟨hl, hc, fun j u hj => ⟨g, 0, rfl, hS g (by simp [PT.blocks, PT.rowOf]), ?_⟩, k.1, h k.2.2 fun b hb => hS b (by simp [PT.blocks, hb])⟩
        rw [Nat.zero_add, cell_of_row w g j cur e (0, 0) hg]
        rw [← ht, List.getElem?_take] at hj
        split at hj
        · simpa using hj
        · cases hj)
    (fun _ _ => trivial) (fun t r h k m n => ⟨h m.1 fun b hb => n b (by simp [PT.blocksL, hb]), k m.2 fun b hb => n b (by simp [PT.blocksL, hb])⟩)

theorem cr.seen {t : PT} (h : cr w S t) : dK w S t := zx.1 t h.1 h.2.2

theorem gl : (∀ t, Own w t → (∀ b ∈ t.blocks, w'.heap[b]? = w.heap[b]?) → Own w' t) ∧ (∀ l, iP w l → (∀ b ∈ PT.blocksL l, w'.heap[b]? = w.heap[b]?) → iP w' l) :=
  PT.ind (fun _ _ _ _ => trivial) (fun _ _ _ => trivial) (fun _ _ _ => trivial) (fun _ h k m => h k m)
    (fun A c m l h k hb => by
      refine ⟨k.1, ?_, h k.2.2 fun b hb' => hb b (by simp [PT.blocks, hb'])⟩
      obtain ⟨_, ⟨e, h0, h1⟩, _⟩ := k
      rcases h1 with h1 | ⟨g, cap, cur, hv, h2, hg, h3⟩
      · exact ⟨e, h0, .inl h1⟩
      · refine ⟨e, h0, .inr ⟨g, cap, cur, hv, h2, ?_, h3⟩⟩
        simp only [Value.slice.injEq] at hv
        obtain ⟨rfl, _⟩ := hv
        exact (hb g (by simp [PT.blocks, PT.rowOf])).trans hg)
    (fun _ _ => trivial) (fun t r h k m n => ⟨h m.1 fun b hb => n b (by simp [PT.blocksL, hb]), k m.2 fun b hb => n b (by simp [PT.blocksL, hb])⟩)

theorem sm : (∀ t, Own w t → ∀ b ∈ t.blocks, b < w.heap.size) ∧ (∀ l, iP w l → ∀ b ∈ PT.blocksL l, b < w.heap.size) :=
  PT.ind (fun _ _ _ b hb => by simp [PT.blocks] at hb) (fun _ _ b hb => by simp [PT.blocks] at hb) (fun _ _ b hb => by simp [PT.blocks] at hb) (fun _ h k b hb => h k b hb)
    (fun A c m l h k b hb => by
      have h2 := k.2.2
      rcases px k with ⟨rfl, rfl, rfl⟩ | ⟨g, cur, e, rfl, hg, _⟩
      · simp [PT.blocks, PT.blocksL, PT.rowOf] at hb
      · simp only [PT.blocks, PT.rowOf, List.mem_append, List.mem_singleton] at hb
        rcases hb with rfl | hb
        · exact (Array.getElem?_eq_some_iff.1 hg).1
        · exact h h2 b hb)
    (fun _ b hb => by simp [PT.blocksL] at hb) (fun t r h k m b hb => by
      simp only [PT.blocksL, List.mem_append] at hb
      rcases hb with hb | hb
      · exact h m.1 b hb
      · exact k m.2 b hb)

theorem cr.keep {t : PT} (h : cr w S t) (hk : ∀ b, S b → b < w.heap.size → w'.heap[b]? = w.heap[b]?) : cr w' S t :=
  ⟨gl.1 t h.1 fun b hb => hk b (h.2.2 b hb) (sm.1 t h.1 b hb), h.2.1, h.2.2⟩
theorem cr.mono {t : PT} (h : cr w S t) (hm : ∀ b, S b → b < w.heap.size → S' b) : cr w S' t :=
  ⟨h.1, h.2.1, fun b hb => hm b (h.2.2 b hb) (sm.1 t h.1 b hb)⟩
theorem cr.below {t : PT} (h : cr w S t) (hb : Below w.heap.size w w') : cr w' S t := h.keep fun b _ hlt => hb.block b hlt
end

structure dB (T : Nat → Prop) (w w' : World) : Prop where
  os : w'.os = w.os
  tape : w'.tape = w.tape
  output : w'.output = w.output
  size : w.heap.size ≤ w'.heap.size
  block : ∀ b, b < w.heap.size → ¬ T b → w'.heap[b]? = w.heap[b]?
theorem dB.refl (T : Nat → Prop) (w : World) : dB T w w := ⟨rfl, rfl, rfl, Nat.le_refl _, fun _ _ _ => rfl⟩
theorem dB.trans {T : Nat → Prop} {a b c : World} (h : dB T a b) (k : dB T b c) : dB T a c :=
  ⟨k.os.trans h.os, k.tape.trans h.tape, k.output.trans h.output, Nat.le_trans h.size k.size, fun i hi hn => (k.block i (Nat.lt_of_lt_of_le hi h.size) hn).trans (h.block i hi hn)⟩
theorem dB.mono {T T' : Nat → Prop} {w w' : World} (h : dB T w w') (hm : ∀ b, b < w.heap.size → T b → T' b) : dB T' w w' :=
  ⟨h.os, h.tape, h.output, h.size, fun b hb hn => h.block b hb fun ht => hn (hm b hb ht)⟩
theorem dB.setCell {T : Nat → Prop} {w w' : World} (h : dB T w w') {p : Addr} (hp : T p.block) (u : Value) : dB T w (w'.setCell p u) :=
  h.trans ⟨rfl, rfl, rfl, by simp [World.setCell], fun b _ hn => Below.heap_setCell _ _ _ _ (fun e => hn (e ▸ hp))⟩
theorem dB.drewN {T : Nat → Prop} {w w' : World} (h : dB T w w') (n : Nat) : dB T w (w'.drewN n) := ⟨h.os, h.tape, h.output, h.size, h.block⟩
theorem dB.below {T : Nat → Prop} {B : Nat} {w w' : World} (h : dB T w w') (hB : B ≤ w.heap.size) (hT : ∀ b, T b → B ≤ b) : Below B w w' :=
  ⟨h.os, h.tape, h.output, h.size, fun b hb => h.block b (by omega) fun ht => by have := hT b ht; omega⟩
theorem dB.of_below {w w' : World} (h : Below w.heap.size w w') (T : Nat → Prop) : dB T w w' := ⟨h.os, h.tape, h.output, h.size, fun b hb _ => h.block b hb⟩
theorem aU {B : Nat} {a w : World} (h : Below B a w) (n : Nat) : Below B a (w.drewN n) := ⟨h.os, h.tape, h.output, h.size, h.block⟩
theorem dK.touch {w w' : World} {S T : Nat → Prop} {t : PT} (h : dK w S t) (ht : dB T w w') (hd : ∀ b, S b → b < w.heap.size → ¬ T b) : dK w' S t :=
  (h.mono (S' := fun b => S b ∧ b < w.heap.size) fun _ h1 h2 => ⟨h1, h2⟩).keep (fun b hb => ht.block b hb.2 (hd b hb.1 hb.2)) fun _ hb _ => hb.1
theorem cr.touch {w w' : World} {S T : Nat → Prop} {t : PT} (h : cr w S t) (ht : dB T w w') (hd : ∀ b, S b → b < w.heap.size → ¬ T b) : cr w' S t :=
  h.keep fun b hS hb => ht.block b hb (hd b hS hb)

theorem jB.touch {w w' : World} {S T : Nat → Prop} {A : Option Addr} {xs : List Value} (h : jB w S A xs) (ht : dB T w w') (hd : ∀ b, S b → b < w.heap.size → ¬ T b) : jB w' S A xs :=
  (h.mono (S' := fun b => S b ∧ b < w.heap.size) fun _ h1 h2 => ⟨h1, h2⟩).keep (fun b hb => ht.block b hb.2 (hd b hb.1 hb.2)) fun _ hb _ => hb.1

def Ext (w w' : World) : Prop := ∀ b, b < w.heap.size → w'.heap[b]? = w.heap[b]?
theorem Ext.refl (w : World) : Ext w w := fun _ _ => rfl
theorem Ext.alloc {w w' : World} (h : Ext w w') (o : Obj) (hs : w.heap.size ≤ w'.heap.size) : Ext w (w'.alloc o) := fun b hb => (Below.heap_alloc w' o b (by omega)).trans (h b hb)
theorem Ext.alloc1 (w : World) (o : Obj) : Ext w (w.alloc o) := fun b hb => Below.heap_alloc w o b hb
theorem Ext.of_below {w w' : World} (h : Below w.heap.size w w') : Ext w w' := fun b hb => h.block b hb
theorem jB.ext {w w' : World} {S : Nat → Prop} {A : Option Addr} {xs : List Value} (h : jB w S A xs) (he : Ext w w') : jB w' S A xs :=
  (h.mono (S' := fun b => S b ∧ b < w.heap.size) fun _ h1 h2 => ⟨h1, h2⟩).keep (fun b hb => he b hb.2) fun _ hb _ => hb.1
theorem dK.ext {w w' : World} {S : Nat → Prop} {t : PT} (h : dK w S t) (he : Ext w w') : dK w' S t :=
  (h.mono (S' := fun b => S b ∧ b < w.heap.size) fun _ h1 h2 => ⟨h1, h2⟩).keep (fun b hb => he b hb.2) fun _ hb _ => hb.1
theorem cr.ext {w w' : World} {S : Nat → Prop} {t : PT} (h : cr w S t) (he : Ext w w') : cr w' S t := h.keep fun b _ hb => he b hb

theorem sN {w w' : World} (h : ∃ n, w' = w.drewN n) : Below w.heap.size w w' := by
  obtain ⟨n, rfl⟩ := h
  exact aU (Below.refl _ _) n
def Rng (lo hi : Nat) (b : Nat) : Prop := lo ≤ b ∧ b < hi
def Blk (w : World) (g : Nat) (t : TypeId) (cs : Array Value) : Prop := w.heap[g]? = some (.cells cs t (0, 0))
section
variable {w w' : World} {g : Nat} {t : TypeId} {cs : Array Value}
theorem Blk.lt (h : Blk w g t cs) : g < w.heap.size := (Array.getElem?_eq_some_iff.1 h).1
theorem Blk.cell (h : Blk w g t cs) (i : Nat) : w.cell? ⟨g, i, none⟩ = cs[i]? := cell_of_row w g i cs t (0, 0) h
theorem Blk.frozen (h : Blk w g t cs) (i : Nat) : w.frozen? ⟨g, i, none⟩ = false := by
  unfold Blk at h
  simp [World.frozen?, h]
theorem Blk.new (w : World) (t : TypeId) (cs : Array Value) : Blk (w.alloc (.cells cs t)) w.heap.size t cs := heap_alloc_new w _
theorem Blk.alloc (h : Blk w g t cs) (o : Obj) : Blk (w.alloc o) g t cs := (Below.heap_alloc w o g h.lt).trans h
theorem Blk.set_ (h : Blk w g t cs) (i : Nat) (u : Value) : Blk (w.setCell ⟨g, i, none⟩ u) g t (cs.setIfInBounds i u) := by
  unfold Blk at h ⊢
  simp [World.setCell, Array.getElem?_modify, h]
theorem Blk.far (h : Blk w g t cs) {p : Addr} (hp : g ≠ p.block) (u : Value) : Blk (w.setCell p u) g t cs := (Below.heap_setCell w p u g hp).trans h
theorem Blk.below {B : Nat} (h : Blk w g t cs) (hb : Below B w w') (hg : g < B) : Blk w' g t cs := (hb.block g hg).trans h
theorem Blk.touch {T : Nat → Prop} (h : Blk w g t cs) (ht : dB T w w') (hg : ¬ T g) : Blk w' g t cs := (ht.block g h.lt hg).trans h
theorem Blk.ext (h : Blk w g t cs) (he : Ext w w') : Blk w' g t cs := (he g h.lt).trans h
end

theorem PT.cellsL_at {m : Nat} : ∀ {l : List PT}, (∀ t ∈ l, t.cells.length = m) → ∀ {k j : Nat} {t : PT}, l[k]? = some t → j < m → (PT.cellsL l)[k * m + j]? = t.cells[j]?
  | [], _, k, j, t, hk, _ => by simp at hk
  | x :: r, h, 0, j, t, hk, hj => by
    simp at hk; subst hk
    rw [PT.cellsL, List.getElem?_append_left (by rw [h x (by simp)]; omega)]
    congr 1; omega
  | x :: r, h, k + 1, j, t, hk, hj => by
    rw [PT.cellsL, List.getElem?_append_right (by rw [h x (by simp), Nat.succ_mul]; omega), h x (by simp)]
    rw [show (k + 1) * m + j - m = k * m + j by rw [Nat.succ_mul]; omega]
    exact PT.cellsL_at (fun t ht => h t (by simp [ht])) (by simpa using hk) hj
theorem PT.length_cellsL {m : Nat} : ∀ {l : List PT}, (∀ t ∈ l, t.cells.length = m) → (PT.cellsL l).length = l.length * m
  | [], _ => by simp [PT.cellsL]
  | x :: r, h => by
    rw [PT.cellsL, List.length_append, h x (by simp), PT.length_cellsL fun t ht => h t (by simp [ht]), List.length_cons, Nat.succ_mul]; omega

theorem jB.elem {w : World} {S : Nat → Prop} {A : Option Addr} {l : List PT} (h : jB w S A (PT.cellsL l)) {m : Nat} (hm : ∀ t ∈ l, t.cells.length = m) (hm0 : 0 < m) {k : Nat} {t : PT} (hk : l[k]? = some t) :
    ∃ b o, A = some ⟨b, o, none⟩ ∧ S b ∧ ∀ j u, t.cells[j]? = some u → w.cell? ⟨b, o + (k * m + j), none⟩ = some u := by
  have ht : t.cells.length = m := hm t (List.mem_of_getElem? hk)
  have h0 : ∃ u, t.cells[0]? = some u := ⟨_, List.getElem?_eq_getElem (by omega)⟩
  obtain ⟨u0, hu0⟩ := h0
  obtain ⟨b, o, hA, hS, _⟩ := h (k * m + 0) u0 (by rw [PT.cellsL_at hm hk hm0, hu0])
  refine ⟨b, o, hA, hS, fun j u hj => ?_⟩
  have hjm : j < m := by
    have := (List.getElem?_eq_some_iff.1 hj).1; omega
  obtain ⟨b', o', hA', _, hc⟩ := h (k * m + j) u (by rw [PT.cellsL_at hm hk hjm, hj])
  rw [hA] at hA'
  obtain ⟨rfl, rfl⟩ : b = b' ∧ o = o' := by simpa using hA'
  exact hc

theorem PT.oneCell : (∀ t : PT, ∀ u ∈ t.cells, u.oneCell' = true) ∧ (∀ l : List PT, ∀ u ∈ PT.cellsL l, u.oneCell' = true) :=
  PT.ind (fun _ _ u hu => by simp [PT.cells] at hu; subst hu; rfl) (fun _ u hu => by simp [PT.cells] at hu; subst hu; rfl) (fun _ u hu => by simp [PT.cells] at hu; subst hu; rfl) (fun _ h => h)
    (fun _ _ _ _ _ u hu => by simp [PT.cells] at hu; subst hu; rfl) (fun u hu => by simp [PT.cellsL] at hu) (fun t r h k u hu => by
      simp only [PT.cellsL, List.mem_append] at hu
      rcases hu with hu | hu
      · exact h u hu
      · exact k u hu)

section
variable {P : Program} (w : World)

theorem jl (t ty e e' : TypeId) (i : TypeInfo) (ht : P.underlying t = some (.slice e)) (hi : P.info? e = some i)
    (g sLen sCap : Nat) (cur : Array Value) (hg : w.heap[g]? = some (.cells cur e' (0, 0)))
    (a : Addr) (m c : Nat) (news : List Value) (hl : news.length = m * i.size) (hnews : ∀ j u, news[j]? = some u → w.cell? (a.add j) = some u) (h1 : ∀ u ∈ news, u.oneCell' = true)
    (hroom : sLen + m ≤ sCap) (hfit : sLen * i.size + news.length ≤ cur.size) :
    (Builtin.append_ #[t, t] ty #[.slice (some ⟨g, 0, none⟩) sLen sCap, .slice (some a) m c]).run P w =
      .ok (.slice (some ⟨g, 0, none⟩) (sLen + m) sCap) (w.setRow g (cur.toList.take (sLen * i.size) ++ news ++ cur.toList.drop (sLen * i.size + news.length)).toArray) := by
  have hf := run_firstCells_some (P := P) w i.size m a m c news hl hnews
  have hst := run_storeCells_at P g (sLen * i.size) e' news 0 cur w hg (by simpa using hfit) h1
  simp only [Nat.add_zero] at hst
  simp [Builtin.append_, run_underlying ht, sizeOf, typeInfo, hi, Builtin.lenOf, hroom, hf, Addr.add_lit, hst]

theorem pl (t ty e : TypeId) (i : TypeInfo) (z : Value) (m bytes : Nat) (ht : P.underlying t = some (.slice e)) (hi : P.info? e = some i) (hz : i.zero = some z)
    (hsize : i.size = m) (hby : i.bytes = bytes) (hzs : z.cells.size = m) (hm0 : 0 < m)
    {S S2 : Nat → Prop} (A A2 : Option Addr) (c c2 n n2 : Nat) (l news : List PT) (hown : cr w S (.sl A c m l)) (hsee : jB w S2 A2 (PT.cellsL news)) (hn : n = l.length) (hn2 : n2 = news.length)
    (hmm : ∀ t ∈ news, t.cells.length = m) (hown2 : iP w news) (hnd : ((PT.sl A c m l).blocks ++ PT.blocksL news).Nodup) (hS2 : ∀ b ∈ PT.blocksL news, S b) (hSn : S w.heap.size)
    (h63 : n + n2 ≤ maxLen) (hbytes : (n + n2) * bytes ≤ 140737488355328) :
    ∃ A' c' w', (Builtin.append_ #[t, t] ty #[.slice A n c, .slice A2 n2 c2]).run P w = .ok (.slice A' (n + n2) c') w' ∧ cr w' S (.sl A' c' m (l ++ news)) ∧ dB (· ∈ PT.rowOf A) w w' ∧ (A' = A ∨ A' = some ⟨w.heap.size, 0, none⟩) := by
  subst hsize; subst hby; subst hn; subst hn2
  have hsmall : l.length + news.length ≤ 9223372036854775807 := by simp only [maxLen] at h63; omega
  have hL1 := PT.length_cellsL hown.1.1
  have hL2 := PT.length_cellsL hmm
  have hmm' : ∀ t ∈ l ++ news, t.cells.length = i.size := fun t ht => by
    rcases List.mem_append.1 ht with h | h
    · exact hown.1.1 t h
    · exact hmm t h
  have hLL := PT.length_cellsL hmm'
  have h1 : ∀ u ∈ PT.cellsL news, u.oneCell' = true := PT.oneCell.2 news
  have hnd' := List.nodup_append.1 hnd
  have hlt := sm.1 _ hown.1
  have hlt2 := sm.2 _ hown2
  -- the new block, where the row must grow
  have grown : ∀ old, cr (w.drew.alloc (.cells ((PT.cellsL l).toArray ++ (PT.cellsL news).toArray ++ Builtin.zeroCells z.cells (grownCap w (l.length + news.length) old e - (l.length + news.length))) e)) S
      (.sl (some ⟨w.heap.size, 0, none⟩) (grownCap w (l.length + news.length) old e) i.size (l ++ news)) ∧
      dB (· ∈ PT.rowOf A) w (w.drew.alloc (.cells ((PT.cellsL l).toArray ++ (PT.cellsL news).toArray ++ Builtin.zeroCells z.cells (grownCap w (l.length + news.length) old e - (l.length + news.length))) e)) := by
    intro old
    have hge := grownCap_ge w (l.length + news.length) old e
    have hcm : grownCap w (l.length + news.length) old e ≤ maxLen := grownCap_le_maxLen w (l.length + news.length) old e h63
    have hkeep : ∀ b, b < w.heap.size → ∀ o, (w.drew.alloc o).heap[b]? = w.heap[b]? := fun b hb o => Below.heap_alloc w.drew o b hb
    refine ⟨⟨eI hmm' hLL (heap_alloc_new w.drew _) (by simpa using hge) hcm ?_ ?_ (iP.of_get fun t ht => ?_), ?_, ?_⟩, ⟨rfl, rfl, rfl, by simp, fun b hb _ => hkeep b hb _⟩⟩
    · simp only [Array.size_append, List.size_toArray, size_zeroCells, hzs, hL1, hL2, ← Nat.add_mul]
      congr 1
      omega
    · simp only [Array.toList_append, PT.cellsL_append, List.append_assoc]
      rw [← List.append_assoc, show (l ++ news).length * i.size = (PT.cellsL l ++ PT.cellsL news).length by simp only [List.length_append, hL1, hL2, Nat.add_mul]]
      exact List.take_left
    · rcases List.mem_append.1 ht with h | h
      · exact gl.1 t (iP.get hown.1.2.2 h) fun b hb => hkeep b (hlt b (by simp only [PT.blocks, List.mem_append]; exact .inr (PT.mem_blocksL.2 ⟨t, h, hb⟩))) _
      · exact gl.1 t (iP.get hown2 h) fun b hb => hkeep b (hlt2 b (PT.mem_blocksL.2 ⟨t, h, hb⟩)) _
    · have h2 : (PT.blocksL l).Nodup := (List.nodup_append.1 hnd'.1).2.1
      simp only [PT.blocks, PT.rowOf, PT.blocksL_append, List.singleton_append, List.nodup_cons, List.nodup_append, List.mem_append, not_or]
      refine ⟨⟨fun h => ?_, fun h => ?_⟩, h2, hnd'.2.1, fun a ha b hb => hnd'.2.2 a (by simp only [PT.blocks, List.mem_append]; exact .inr ha) b hb⟩
      · exact Nat.lt_irrefl _ (hlt _ (by simp only [PT.blocks, List.mem_append]; exact .inr h))
      · exact Nat.lt_irrefl _ (hlt2 _ h)
    · intro b hb
      simp only [PT.blocks, PT.rowOf, PT.blocksL_append, List.mem_append, List.mem_singleton] at hb
      rcases hb with rfl | hb | hb
      · exact hSn
      · exact hown.2.2 b (by simp only [PT.blocks, List.mem_append]; exact .inr hb)
      · exact hS2 b hb
  by_cases hz2 : news = []
  · subst hz2
    refine ⟨A, c, w, ?_, by simpa using hown, dB.refl _ _, .inl rfl⟩
    rcases px hown.1 with ⟨rfl, rfl, rfl⟩ | ⟨g, cur, e', rfl, hg, hnc, hcm, hcs, htake⟩
    · cases A2 <;> simp [Builtin.append_, run_underlying ht, sizeOf, typeInfo, hi, Builtin.lenOf, Builtin.firstCells, loadCells, loadCellsFrom]
    · cases A2 <;> simp [Builtin.append_, run_underlying ht, sizeOf, typeInfo, hi, Builtin.lenOf, Builtin.firstCells, hnc, storeCells, loadCells, loadCellsFrom]
  · obtain ⟨b2, o2, hA2, _⟩ : ∃ b o, A2 = some ⟨b, o, none⟩ ∧ S2 b := by
      have hp : 0 < (PT.cellsL news).length := by
        rw [hL2]; exact Nat.mul_pos (List.length_pos_iff.2 hz2) hm0
      obtain ⟨b, o, h2, h3, _⟩ := hsee 0 _ (List.getElem?_eq_getElem hp)
      exact ⟨b, o, h2, h3⟩
    subst hA2
    have hpos : 0 < news.length := List.length_pos_iff.2 hz2
    have hnews : ∀ j u, (PT.cellsL news)[j]? = some u → w.cell? ((⟨b2, o2, none⟩ : Addr).add j) = some u := fun j u hj => by
      obtain ⟨b, o, hA, _, hc⟩ := hsee j u hj
      simp only [Option.some.injEq, Addr.mk.injEq, and_true] at hA
      obtain ⟨rfl, rfl⟩ := hA
      rw [Addr.add_lit]; exact hc
    rcases px hown.1 with ⟨rfl, rfl, rfl⟩ | ⟨g, cur, e', rfl, hg, hnc, hcm, hcs, htake⟩
    · have hr := run_append_nil (P := P) w t ty e i z ht hi hz ⟨b2, o2, none⟩ news.length c2 (PT.cellsL news) hL2 hnews (by omega) (by simp at hsmall; omega) (by have hb := hbytes; simp only [List.length_nil, Nat.zero_add] at hb; omega)
      have hgr := grown 0
      simp only [List.length_nil, Nat.zero_add, List.nil_append, PT.cellsL, Array.empty_append] at hgr hr ⊢
      exact ⟨_, _, _, hr, hgr.1, hgr.2, .inr rfl⟩
    · by_cases hroom : l.length + news.length ≤ c
      · have hfit : l.length * i.size + (PT.cellsL news).length ≤ cur.size := by rw [hL2, hcs, ← Nat.add_mul]; exact Nat.mul_le_mul_right _ hroom
        have hr := jl (P := P) w t ty e e' i ht hi g l.length c cur hg ⟨b2, o2, none⟩ news.length c2 (PT.cellsL news) hL2 hnews h1 hroom hfit
        have hother : ∀ b, b ≠ g → ∀ d, (w.setRow g d).heap[b]? = w.heap[b]? := fun b hb d => setRow_other w g b _ hb
        refine ⟨_, _, _, hr, ⟨eI hmm' hLL (setRow_heap w g cur _ e' _ hg) (by simpa using hroom) hcm ?_ ?_ (iP.of_get fun t ht => ?_), ?_, ?_⟩, ⟨rfl, rfl, rfl, by simp, fun b _ hb => hother b (fun h => hb (by simp [PT.rowOf, h])) _⟩, .inl rfl⟩
        · simp only [List.size_toArray, List.length_append, List.length_take, List.length_drop, Array.length_toList]
          omega
        · rw [htake, PT.cellsL_append, show (l ++ news).length * i.size = (PT.cellsL l ++ PT.cellsL news).length by simp only [List.length_append, hL1, hL2, Nat.add_mul]]
          exact List.take_left
        · have hgn : ∀ b ∈ PT.blocksL l, b ≠ g := fun b hb h => by
            have := (List.nodup_append.1 hnd'.1).2.2 g (by simp [PT.rowOf]) b hb
            exact this h.symm
          have hgn2 : ∀ b ∈ PT.blocksL news, b ≠ g := fun b hb h => hnd'.2.2 g (by simp [PT.blocks, PT.rowOf]) b hb h.symm
          rcases List.mem_append.1 ht with h | h
          · exact gl.1 t (iP.get hown.1.2.2 h) fun b hb => hother b (hgn b (PT.mem_blocksL.2 ⟨t, h, hb⟩)) _
          · exact gl.1 t (iP.get hown2 h) fun b hb => hother b (hgn2 b (PT.mem_blocksL.2 ⟨t, h, hb⟩)) _
        · simpa [PT.blocks, PT.blocksL_append] using hnd
        · intro b hb
          simp only [PT.blocks, PT.blocksL_append, List.mem_append] at hb
          rcases hb with hb | hb | hb
          · exact hown.2.2 b (by simp only [PT.blocks, List.mem_append]; exact .inl hb)
          · exact hown.2.2 b (by simp only [PT.blocks, List.mem_append]; exact .inr hb)
          · exact hS2 b hb
      · have holds : ∀ j u, (PT.cellsL l)[j]? = some u → w.cell? ((⟨g, 0, none⟩ : Addr).add j) = some u := fun j u hj => by
          rw [Addr.add_lit, Nat.zero_add, cell_of_row w g j cur e' (0, 0) hg]
          rw [← htake, List.getElem?_take] at hj
          split at hj
          · simpa using hj
          · cases hj
        have hr := run_append_grow (P := P) w t ty e i z ht hi hz ⟨g, 0, none⟩ l.length c (PT.cellsL l) hL1 holds ⟨b2, o2, none⟩ news.length c2 (PT.cellsL news) hL2 hnews (by omega) (by omega) (growslice_fits (by omega) hbytes)
        exact ⟨_, _, _, hr, (grown c).1, (grown c).2, .inr rfl⟩
end

section
variable {P : Program} (w : World)
theorem rY {o : Oper} {a : Act} {K : Act → World → Prop} {Q : Exit → Act → World → Prop} (s x : Operand) (t : TypeId)
    (ho : o.op = .call { callee := .builtin .append, args := #[s, x], argTypes := #[t, t] }) (e : TypeId) (i : TypeInfo) (z : Value) (m bytes : Nat) (ht : P.underlying t = some (.slice e)) (hi : P.info? e = some i) (hz : i.zero = some z)
    (hsize : i.size = m) (hby : i.bytes = bytes) (hzs : z.cells.size = m) (hm0 : 0 < m)
    {S S2 : Nat → Prop} (A A2 : Option Addr) (c c2 n n2 : Nat) (l news : List PT) (hs : a.eval s = .slice A n c) (hx : a.eval x = .slice A2 n2 c2) (hown : cr w S (.sl A c m l)) (hsee : jB w S2 A2 (PT.cellsL news)) (hn : n = l.length) (hn2 : n2 = news.length)
    (hmm : ∀ t ∈ news, t.cells.length = m) (hown2 : iP w news) (hnd : ((PT.sl A c m l).blocks ++ PT.blocksL news).Nodup) (hS2 : ∀ b ∈ PT.blocksL news, S b) (hSn : S w.heap.size)
    (h63 : n + n2 ≤ maxLen) (hbytes : (n + n2) * bytes ≤ 140737488355328)
    (h : ∀ A' c' w', cr w' S (.sl A' c' m (l ++ news)) → dB (· ∈ PT.rowOf A) w w' → (A' = A ∨ A' = some ⟨w.heap.size, 0, none⟩) → K (a.put o.dst (.slice A' (n + n2) c')) w') : o.wp P a w K Q := by
  obtain ⟨A', c', w', hr, h1, h2, h3⟩ := pl (P := P) w t o.type e i z m bytes ht hi hz hsize hby hzs hm0 A A2 c c2 n n2 l news hown hsee hn hn2 hmm hown2 hnd hS2 hSn h63 hbytes
  unfold Oper.wp execOp
  simp only [ho, resolve, invoke, builtin, Sem.run_bind, Sem.run_pure, Result.andThen_ok, List.map_toArray, List.map_cons, List.map_nil, hs, hx, hr]
  exact h A' c' w' h1 h2 h3
theorem lB {ops : Array Oper} {rest : List Oper} {o : Oper} {a : Act} {Q : Exit → Act → World → Prop} (hgd : o.guard = none) (s x : Operand) (t : TypeId)
    (ho : o.op = .call { callee := .builtin .append, args := #[s, x], argTypes := #[t, t] }) (e : TypeId) (i : TypeInfo) (z : Value) (m bytes : Nat) (ht : P.underlying t = some (.slice e)) (hi : P.info? e = some i) (hz : i.zero = some z)
    (hsize : i.size = m) (hby : i.bytes = bytes) (hzs : z.cells.size = m) (hm0 : 0 < m)
    {S S2 : Nat → Prop} (A A2 : Option Addr) (c c2 n n2 : Nat) (l news : List PT) (hs : a.eval s = .slice A n c) (hx : a.eval x = .slice A2 n2 c2) (hown : cr w S (.sl A c m l)) (hsee : jB w S2 A2 (PT.cellsL news)) (hn : n = l.length) (hn2 : n2 = news.length)
    (hmm : ∀ t ∈ news, t.cells.length = m) (hown2 : iP w news) (hnd : ((PT.sl A c m l).blocks ++ PT.blocksL news).Nodup) (hS2 : ∀ b ∈ PT.blocksL news, S b) (hSn : S w.heap.size)
    (h63 : n + n2 ≤ maxLen) (hbytes : (n + n2) * bytes ≤ 140737488355328)
    (h : ∀ A' c' w', cr w' S (.sl A' c' m (l ++ news)) → dB (· ∈ PT.rowOf A) w w' → (A' = A ∨ A' = some ⟨w.heap.size, 0, none⟩) → wpList P ops Q rest (a.put o.dst (.slice A' (n + n2) c')) w') : wpList P ops Q (o :: rest) a w :=
  wpList_plain hgd fun _ hK => rY w s x t ho e i z m bytes ht hi hz hsize hby hzs hm0 A A2 c c2 n n2 l news hs hx hown hsee hn hn2 hmm hown2 hnd hS2 hSn h63 hbytes fun A' c' w' h1 h2 h3 => hK _ _ (h A' c' w' h1 h2 h3)
end

theorem aaF (w : World) (cs : Array Value) (e : TypeId) : jB (w.alloc (.cells cs e)) (fun _ => True) (some ⟨w.heap.size, 0, none⟩) cs.toList := fun j u hj =>
  ⟨_, _, rfl, trivial, by rw [Nat.zero_add, World.cell?_alloc_new]; simpa using hj⟩

theorem kz {P : Program} {ops : Array Oper} {rest : List Oper} {o : Oper} {a : Act} {Q : Exit → Act → World → Prop} {w : World} (hgd : o.guard = none) (s x : Operand) (t e : TypeId) (z : Value) (m bytes : Nat)
    (ho : o.op = .call { callee := .builtin .append, args := #[s, x], argTypes := #[t, t] }) (ht : P.underlying t = some (.slice e)) (hinfo : (P.info? e).map (fun i => (i.zero, i.size, i.bytes)) = some (some z, m, bytes)) (hzs : z.cells.size = m) (hm0 : 0 < m)
    {S : Nat → Prop} (A : Option Addr) (c n : Nat) (l : List PT) (el : PT)
    (hs : a.eval s = .slice A n c) (hx : a.eval x = .slice (some ⟨w.heap.size, 0, none⟩) 1 1) (hown : cr w S (.sl A c m l)) (hn : n = l.length) (hel : el.cells.length = m) (hob : Own w el) (hbl : el.blocks = []) (hS : S (w.heap.size + 1)) (hl : n ≤ 1000000000) (hb : bytes ≤ 1000)
    (h : ∀ A' c' w', cr w' S (.sl A' c' m (l ++ [el])) → dB (· ∈ PT.rowOf A) w w' → (∀ g, A = some ⟨g, 0, none⟩ → ∃ g', A' = some ⟨g', 0, none⟩) → wpList P ops Q rest (a.put o.dst (.slice A' (n + 1) c')) w') :
    wpList P ops Q (o :: rest) a (w.alloc (.cells el.cells.toArray e)) := by
  obtain ⟨i0, hi0, hz0, hz1, hz2⟩ := info_parts hinfo
  refine lB (w.alloc (.cells el.cells.toArray e)) hgd s x _ ho e i0 _ m bytes ht hi0 hz0 hz1 hz2 hzs hm0 (S := S) A _ c 1 n 1 l [el] hs hx (hown.ext (Ext.alloc1 w _)) (by simpa [PT.cellsL] using aaF w el.cells.toArray e) hn rfl (by simpa using hel) ⟨gl.1 el hob (by simp [hbl]), trivial⟩
    (by simpa [PT.blocksL, hbl] using hown.2.1) (by simp [PT.blocksL, hbl]) (by simpa using hS) (by simp only [maxLen]; omega) ?_ fun A' c' w' h1 h2 h3 => ?_
  · have : (n + 1) * bytes ≤ 1000000001 * 1000 := Nat.mul_le_mul (by omega) hb
    omega
  · refine h A' c' w' h1 ((dB.of_below ((Below.refl _ _).alloc (Nat.le_refl _) _) _).trans h2) fun g hg => ?_
    rcases h3 with rfl | rfl
    · exact ⟨g, hg⟩
    · exact ⟨_, rfl⟩

theorem wG {w : World} {S : Nat → Prop} (e : TypeId) (m : Nat) (hS : S w.heap.size) : cr (w.alloc (.cells #[] e)) S (.sl (some ⟨w.heap.size, 0, none⟩) 0 m []) :=
  ⟨eI (by simp) (by simp [PT.cellsL]) (heap_alloc_new w _) (by simp) (by simp) (by simp) (by simp [PT.cellsL]) trivial, by simp [PT.blocks, PT.blocksL, PT.rowOf], by simpa [PT.blocks, PT.blocksL, PT.rowOf] using hS⟩


inductive Ty where
  | int (k : IntKind)
  | bool
  | str
  | agg (l : List Ty)
  | sl (m : Nat) (e : Ty)

mutual
def Ty.size : Ty → Nat
  | .agg l => Ty.sizeL l
  | _ => 1
def Ty.sizeL : List Ty → Nat
  | [] => 0
  | t :: r => Ty.size t + Ty.sizeL r
end

mutual
def cx : Ty → PT → Prop
  | .int k, t => ∃ n, t = .int k n
  | .bool, t => ∃ b, t = .bool b
  | .str, t => ∃ s, t = .str s
  | .agg l, t => ∃ ts, t = .agg ts ∧ dx l ts
  | .sl m e, t => ∃ A c l, t = .sl A c m l ∧ ∀ u ∈ l, cx e u
def dx : List Ty → List PT → Prop
  | [], ts => ts = []
  | t :: r, ts => ∃ u us, ts = u :: us ∧ cx t u ∧ dx r us
end

mutual
def PT.sane : PT → Prop
  | .int k n => (Lit.int k n).wf = true
  | .str s => s.size ≤ maxLen
  | .bool _ => True
  | .agg l => saneL l
  | .sl _ _ _ l => saneL l
def PT.saneL : List PT → Prop
  | [] => True
  | t :: r => PT.sane t ∧ PT.saneL r
end
theorem PT.saneL_of {l : List PT} (h : ∀ t ∈ l, t.sane) : PT.saneL l := by
  induction l with
  | nil => trivial
  | cons x r ih => exact ⟨h x (by simp), ih fun t ht => h t (by simp [ht])⟩
theorem PT.saneL_mem {l : List PT} (h : PT.saneL l) {t : PT} (ht : t ∈ l) : t.sane := by
  induction l with
  | nil => cases ht
  | cons x r ih =>
    rcases List.mem_cons.1 ht with rfl | ht
    · exact h.1
    · exact ih h.2 ht

mutual
def tyB (P : Program) : Ty → TypeId → Bool
  | .int k, T => match P.underlying T with | some (.int k') => k == k' | _ => false
  | .bool, T => match P.underlying T with | some .bool => true | _ => false
  | .str, T => match P.underlying T with | some .string => true | _ => false
  | .agg l, T => match P.underlying T with | some (.struct fs) => ab9 P l fs.toList 0 && (P.cellsOf T == Ty.sizeL l) | _ => false
  | .sl m e, T => match P.underlying T with | some (.slice E) => tyB P e E && (P.cellsOf E == m) && (Ty.size e == m) && decide (0 < m) | _ => false
def ab9 (P : Program) : List Ty → List Field → Nat → Bool
  | [], [], _ => true
  | t :: r, f :: fs, off => (f.offset == off) && tyB P t f.type && (P.cellsOf f.type == Ty.size t) && ab9 P r fs (off + Ty.size t)
  | _, _, _ => false
end

mutual
theorem kI : ∀ (τ : Ty) (t : PT), cx τ t → t.cells.length = τ.size
  | .int k, t, h => by simp only [cx] at h; obtain ⟨n, rfl⟩ := h; rfl
  | .bool, t, h => by simp only [cx] at h; obtain ⟨n, rfl⟩ := h; rfl
  | .str, t, h => by simp only [cx] at h; obtain ⟨n, rfl⟩ := h; rfl
  | .agg l, t, h => by
    simp only [cx] at h
    obtain ⟨ts, rfl, h⟩ := h
    simp only [PT.cells, Ty.size]
    exact nj l ts h
  | .sl m e, t, h => by simp only [cx] at h; obtain ⟨A, c, l, rfl, _⟩ := h; rfl
theorem nj : ∀ (l : List Ty) (ts : List PT), dx l ts → (PT.cellsL ts).length = Ty.sizeL l
  | [], ts, h => by simp only [dx] at h; subst h; rfl
  | τ :: r, ts, h => by
    simp only [dx] at h
    obtain ⟨u, us, rfl, h1, h2⟩ := h
    simp only [PT.cellsL, List.length_append, Ty.sizeL]
    rw [kI τ u h1, nj r us h2]
end

section
variable {H : Type} {enc : TypeId × Value → H} {P : Program} {w : World} {base : Nat} {spare : Nat → Bool} {held : Bool}

theorem vO {a : Addr} {v : Value} (h : w.cell? a = some v) : ∃ b o, a = ⟨b, o, none⟩ := by
  obtain ⟨b, o, s⟩ := a
  cases s with
  | none => exact ⟨b, o, rfl⟩
  | some s => simp [World.cell?] at h; split at h <;> simp at h

mutual
theorem m9 : ∀ (τ : Ty) (T : TypeId) (fuel : Nat) (cs : List Value) (x : DataW H × List MemPlace), tyB P τ T = true → DataW.trod enc P w base spare held fuel T cs = some x →
    ∃ t : PT, cx τ t ∧ t.cells = cs ∧ dK w (· < w.heap.size) t ∧ t.sane
  | .int k, T, fuel, cs, x, ht, h => by
    simp only [tyB] at ht
    split at ht
    · rename_i k' hu
      obtain ⟨n, rfl, _, hwf⟩ := DataW.trod_int hu h
      have : k = k' := by simpa using ht
      subst this
      exact ⟨.int k n, by simp [cx], rfl, trivial, hwf⟩
    · cases ht
  | .bool, T, fuel, cs, x, ht, h => by
    simp only [tyB] at ht
    split at ht
    · rename_i hu
      obtain ⟨b, rfl, _⟩ := DataW.trod_bool hu h
      exact ⟨.bool b, by simp [cx], rfl, trivial, trivial⟩
    · cases ht
  | .str, T, fuel, cs, x, ht, h => by
    simp only [tyB] at ht
    split at ht
    · rename_i hu
      obtain ⟨s, rfl, _, hs⟩ := DataW.trod_string hu h
      exact ⟨.str s, by simp [cx], rfl, trivial, hs⟩
    · cases ht
  | .agg l, T, fuel, cs, x, ht, h => by
    simp only [tyB] at ht
    split at ht
    · rename_i fs hu
      simp only [Bool.and_eq_true, beq_iff_eq] at ht
      obtain ⟨xs, n, _, _, hcl, hxl, hf⟩ := DataW.trod_struct hu h
      obtain ⟨ts, h1, h2, h3, h4⟩ := uJ l fs.toList 0 n cs ht.1 (by rw [hcl, ht.2]; simp) (fun i f hfi => by
        have h5 := hf i f (by simpa using hfi)
        have hi : i < xs.length := by rw [hxl]; have := (List.getElem?_eq_some_iff.1 hfi).1; simpa using this
        rw [List.getElem?_eq_getElem hi] at h5
        exact ⟨_, h5⟩)
      exact ⟨.agg ts, by simp only [cx]; exact ⟨ts, rfl, h1⟩, by simpa [PT.cells] using h2, h3, h4⟩
    · cases ht
  | .sl m e, T, fuel, cs, x, ht, h => by
    simp only [tyB] at ht
    split at ht
    · rename_i E hu
      simp only [Bool.and_eq_true, beq_iff_eq, decide_eq_true_eq] at ht
      obtain ⟨⟨⟨hE, hm⟩, hsz⟩, hm0⟩ := ht
      rcases Go.Deep.open_slice hu h with ⟨rfl, _⟩ | ⟨a, len, cap, mm, n, D, Pl, rfl, _, hl, hc, hmm, _, hel⟩
      · exact ⟨.sl none 0 m [], by simp only [cx]; exact ⟨_, _, _, rfl, by simp⟩, rfl, ⟨by simp, by simp, jB.nil _ _ _, by simp, trivial⟩, trivial⟩
      · rw [hm] at hel
        have hge : len ≤ mm := by rw [hmm]; split <;> omega
        -- the elements, one behind the other
        have build : ∀ k, k ≤ len → ∃ l : List PT, l.length = k ∧ (∀ u ∈ l, cx e u) ∧ cm w (· < w.heap.size) l ∧ PT.saneL l ∧ ∀ j v, (PT.cellsL l)[j]? = some v → w.cell? (a.add j) = some v := by
          intro k
          induction k with
          | zero => intro _; exact ⟨[], rfl, by simp, trivial, trivial, by simp [PT.cellsL]⟩
          | succ k ih =>
            intro hk
            obtain ⟨l, hll, h1, h2, h3, h4⟩ := ih (by omega)
            obtain ⟨cs', hc', ht'⟩ := hel k (by omega)
            obtain ⟨t, ht1, ht2, ht3, ht4⟩ := m9 e E n cs' _ hE ht'
            obtain ⟨_, hcl', hat⟩ := World.cells?_some hc'
            have hll2 : (PT.cellsL l).length = k * m := by
              rw [PT.length_cellsL (m := m) (fun u hu => by rw [kI e u (h1 u hu), hsz]), hll]
            refine ⟨l ++ [t], by simp [hll], fun u hu => ?_, cm.of_get fun u hu => ?_, PT.saneL_of fun u hu => ?_, fun j v hj => ?_⟩
            · rcases List.mem_append.1 hu with hu | hu
              · exact h1 u hu
              · rw [List.mem_singleton.1 hu]; exact ht1
            · rcases List.mem_append.1 hu with hu | hu
              · obtain ⟨i, hi, rfl⟩ := List.getElem_of_mem hu
                exact cm.get h2 (List.getElem?_eq_getElem hi)
              · rw [List.mem_singleton.1 hu]; exact ht3
            · rcases List.mem_append.1 hu with hu | hu
              · exact PT.saneL_mem h3 hu
              · rw [List.mem_singleton.1 hu]; exact ht4
            · rw [PT.cellsL_append] at hj
              simp only [PT.cellsL, List.append_nil] at hj
              rw [ht2] at hj
              by_cases hjl : j < (PT.cellsL l).length
              · rw [List.getElem?_append_left hjl] at hj
                exact h4 j v hj
              · rw [List.getElem?_append_right (by omega)] at hj
                have hj2 := (List.getElem?_eq_some_iff.1 hj).1
                have h5 := hat (j - (PT.cellsL l).length) (by rw [← hcl']; exact hj2)
                rw [hj] at h5
                rw [← h5, Addr.add_add, show k * m + (j - (PT.cellsL l).length) = j by omega]
        obtain ⟨l, hll, h1, h2, h3, h4⟩ := build len (Nat.le_refl _)
        subst hll
        refine ⟨.sl (some a) cap m l, by simp only [cx]; exact ⟨_, _, _, rfl, h1⟩, rfl, ⟨hl, hc, fun j v hj => ?_, fun u hu => by rw [kI e u (h1 u hu), hsz], h2⟩, h3⟩
        have h0 : 0 < (PT.cellsL l).length := by have := (List.getElem?_eq_some_iff.1 hj).1; omega
        have hz := h4 0 _ (List.getElem?_eq_getElem h0)
        rw [Addr.add_zero'] at hz
        obtain ⟨b, o, rfl⟩ := vO hz
        have hv := h4 j v hj
        rw [Addr.add_lit] at hv
        exact ⟨b, o, rfl, World.block_lt_of_cell? w _ hz, hv⟩
    · cases ht
theorem uJ : ∀ (l : List Ty) (fs : List Field) (off fuel : Nat) (cs : List Value), ab9 P l fs off = true → cs.length = off + Ty.sizeL l →
    (∀ (i : Nat) (f : Field), fs[i]? = some f → ∃ y, DataW.trod enc P w base spare held fuel f.type ((cs.drop f.offset).take (P.cellsOf f.type)) = some y) →
    ∃ ts : List PT, dx l ts ∧ PT.cellsL ts = cs.drop off ∧ cm w (· < w.heap.size) ts ∧ PT.saneL ts
  | [], fs, off, fuel, cs, h, hl, _ => by
    refine ⟨[], by simp [dx], ?_, trivial, trivial⟩
    rw [List.drop_eq_nil_of_le (by rw [hl]; simp [Ty.sizeL])]; rfl
  | τ :: r, [], off, fuel, cs, h, hl, _ => by simp [ab9] at h
  | τ :: r, f :: fs, off, fuel, cs, h, hl, hf => by
    simp only [ab9, Bool.and_eq_true, beq_iff_eq] at h
    obtain ⟨⟨⟨h1, h2⟩, h3⟩, h4⟩ := h
    obtain ⟨y, hy⟩ := hf 0 f rfl
    rw [h1, h3] at hy
    obtain ⟨t, ht1, ht2, ht3, ht4⟩ := m9 τ f.type fuel _ y h2 hy
    obtain ⟨ts, hs1, hs2, hs3, hs4⟩ := uJ r fs (off + τ.size) fuel cs h4 (by rw [hl]; simp only [Ty.sizeL]; omega) (fun i g hg => hf (i + 1) g (by simpa using hg))
    refine ⟨t :: ts, by simp only [dx]; exact ⟨t, ts, rfl, ht1, hs1⟩, ?_, ⟨ht3, hs3⟩, ⟨ht4, hs4⟩⟩
    simp only [PT.cellsL]
    rw [ht2, hs2, ← List.drop_drop]
    exact List.take_append_drop _ _
end
end


def iF (w : World) (g : Nat) (e : TypeId) (N : Nat) (xs : List Value) : Prop :=
  ∃ cur, w.heap[g]? = some (.cells cur e (0, 0)) ∧ cur.size = N ∧ xs.length ≤ N ∧ cur.toList.take xs.length = xs

section
variable {w w' : World} {g : Nat} {e : TypeId} {N : Nat} {xs : List Value}
theorem iF.lt (h : iF w g e N xs) : g < w.heap.size := by
  obtain ⟨cur, h1, _⟩ := h
  exact (Array.getElem?_eq_some_iff.1 h1).1
theorem iF.cell (h : iF w g e N xs) {i : Nat} (hi : i < N) : ∃ u, w.cell? ⟨g, i, none⟩ = some u := by
  obtain ⟨cur, h1, h2, _⟩ := h
  exact ⟨_, by rw [cell_of_row w g i cur e (0, 0) h1]; exact Array.getElem?_eq_getElem (by omega)⟩
theorem iF.frozen (h : iF w g e N xs) (i : Nat) : w.frozen? ⟨g, i, none⟩ = false := by
  obtain ⟨cur, h1, _⟩ := h
  simp [World.frozen?, h1]
theorem iF.made (w : World) (z : Value) (n : Nat) (e : TypeId) : iF (w.alloc (.cells (madeCells #[z] n) e)) w.heap.size e n [] :=
  ⟨_, heap_alloc_new w _, by simp [madeCells], by simp, by simp⟩
theorem iF.same (h : iF w g e N xs) (hb : w'.heap[g]? = w.heap[g]?) : iF w' g e N xs := by
  obtain ⟨cur, h1, h2⟩ := h
  exact ⟨cur, hb.trans h1, h2⟩
theorem iF.below {B : Nat} (h : iF w g e N xs) (hb : Below B w w') (hg : g < B) : iF w' g e N xs := h.same (hb.block g hg)
theorem iF.alloc (h : iF w g e N xs) (o : Obj) : iF (w.alloc o) g e N xs := h.same (Below.heap_alloc w o g h.lt)
theorem iF.far (h : iF w g e N xs) {p : Addr} (hp : g ≠ p.block) (u : Value) : iF (w.setCell p u) g e N xs := h.same (Below.heap_setCell w p u g hp)
theorem iF.drew (h : iF w g e N xs) : iF w.drew g e N xs := h
theorem iF.push (h : iF w g e N xs) {i : Nat} (hi : i = xs.length) (hN : i < N) (u : Value) : iF (w.setCell ⟨g, i, none⟩ u) g e N (xs ++ [u]) := by
  obtain ⟨cur, h1, h2, h3, h4⟩ := h
  subst hi
  refine ⟨cur.setIfInBounds xs.length u, by simp [World.setCell, Array.getElem?_modify, h1], by simpa using h2, by simp; omega, ?_⟩
  rw [Array.toList_setIfInBounds, List.length_append, List.length_singleton, List.take_add_one, List.take_set]
  rw [List.set_eq_of_length_le (by simp; omega), h4]
  simp [h2, hN]
theorem iF.own {l : List PT} {c m : Nat} (h : iF w g e (c * m) (PT.cellsL l)) (hm : ∀ t ∈ l, t.cells.length = m) (hl : l.length ≤ c) (hc : c ≤ maxLen) (ho : iP w l) : Own w (.sl (some ⟨g, 0, none⟩) c m l) := by
  obtain ⟨cur, h1, h2, h3, h4⟩ := h
  have hL := PT.length_cellsL hm
  exact eI hm hL h1 hl hc h2 (by rw [← hL]; exact h4) ho
end


theorem oT {P : Program} (t e : TypeId) (z : Value) (m bytes : Nat) (ht : P.underlying t = some (.slice e)) (hinfo : (P.info? e).map (fun i => (i.zero, i.size, i.bytes)) = some (some z, m, bytes))
    (kl kc : IntKind) (n : Nat) (hbytes : bytes * n ≤ 281474976710656) (h63 : n ≤ 9223372036854775807) (w : World) :
    (Instr.makeSlice t (.int kl (n : Int)) (.int kc (n : Int))).run P w = .ok (.slice (some ⟨w.heap.size, 0, none⟩) n n) (w.alloc (.cells (madeCells z.cells (n * m)) e)) := by
  obtain ⟨i, hi, hzz⟩ := Option.map_eq_some_iff.1 hinfo
  simp only [Prod.mk.injEq] at hzz
  obtain ⟨hz, hs, hb⟩ := hzz
  have hb' : (i.bytes : Int) * (n : Int) ≤ 281474976710656 := by
    have h : ((i.bytes * n : Nat) : Int) ≤ 281474976710656 := by rw [hb]; omega
    rwa [Int.natCast_mul] at h
  have hr := run_make (P := P) w t e i z ht hi hz kl kc n n (by omega) (Int.le_refl _) hb' (by omega)
  simp only [Int.toNat_natCast, hs] at hr
  exact hr
structure qQ {α : Type} (f : α → PT) (m : Nat) : Prop where
  cells : ∀ x, (f x).cells.length = m
  blocks : ∀ x, (f x).blocks = []
  own : ∀ x w, Own w (f x)
  seen : ∀ x w S, dK w S (f x)
section
variable {α : Type} {f : α → PT} {m : Nat} {w : World} {S : Nat → Prop}
theorem qQ.cellsL (h : qQ f m) (l : List α) : ∀ t ∈ l.map f, t.cells.length = m := fun t ht => by
  obtain ⟨x, _, rfl⟩ := List.mem_map.1 ht; exact h.cells x
theorem qQ.blocksL (h : qQ f m) (l : List α) : PT.blocksL (l.map f) = [] := by
  induction l with
  | nil => rfl
  | cons z r ih => simp only [List.map_cons, PT.blocksL, h.blocks, ih, List.append_nil]
theorem qQ.ownL (h : qQ f m) (l : List α) : iP w (l.map f) := iP.of_get fun t ht => by
  obtain ⟨x, _, rfl⟩ := List.mem_map.1 ht; exact h.own x w
theorem qQ.length (h : qQ f m) (l : List α) : (PT.cellsL (l.map f)).length = l.length * m := by
  rw [PT.length_cellsL (h.cellsL l), List.length_map]
theorem qQ.owned (h : qQ f m) {g c : Nat} {e : TypeId} {l : List α} (hf : iF w g e (c * m) (PT.cellsL (l.map f))) (hl : l.length ≤ c) (hc : c ≤ maxLen) (hS : S g) : cr w S (.sl (some ⟨g, 0, none⟩) c m (l.map f)) :=
  ⟨iF.own hf (h.cellsL l) (by simpa using hl) hc (h.ownL l), by simp [PT.blocks, h.blocksL, PT.rowOf], by simpa [PT.blocks, h.blocksL, PT.rowOf] using hS⟩
theorem qQ.none (_h : qQ f m) : dK w S (.sl none 0 m (([] : List α).map f)) := ⟨by simp, by simp, jB.nil _ _ _, by simp, trivial⟩
end
def AtL {α : Type} (R : PT → α → Prop) (l : List PT) (xs : List α) : Prop := l.length = xs.length ∧ ∀ (i : Nat) (t : PT) (x : α), l[i]? = some t → xs[i]? = some x → R t x
section
variable {α : Type} {R : PT → α → Prop} {l : List PT} {xs : List α}
theorem AtL.get (h : AtL R l xs) {k : Nat} (hk : k < l.length) : R l[k] (xs[k]'(by have := h.1; omega)) := h.2 k _ _ (List.getElem?_eq_getElem hk) (List.getElem?_eq_getElem _)
theorem AtL.nil : AtL R [] ([] : List α) := ⟨rfl, by simp⟩
theorem AtL.cells {m : Nat} (h : AtL R l xs) (hm : ∀ t x, R t x → t.cells.length = m) : ∀ t ∈ l, t.cells.length = m := fun t ht => by
  obtain ⟨i, hi, rfl⟩ := List.getElem_of_mem ht
  exact hm _ _ (h.get hi)
end
theorem rj {α : Type} {R : PT → α → Prop} {l : List PT} (h : ∀ t ∈ l, ∃ x, R t x) : ∃ xs, AtL R l xs := by
  induction l with
  | nil => exact ⟨[], AtL.nil⟩
  | cons t r ih =>
    obtain ⟨x, hx⟩ := h t (by simp)
    obtain ⟨xs, hxs⟩ := ih fun u hu => h u (by simp [hu])
    refine ⟨x :: xs, by simp [hxs.1], fun i u y hu hy => ?_⟩
    cases i with
    | zero => simp at hu hy; subst hu; subst hy; exact hx
    | succ i => exact hxs.2 i u y (by simpa using hu) (by simpa using hy)
theorem gM {α : Type} {f : α → PT} {l : List PT} (h : ∀ t ∈ l, ∃ x, t = f x) : ∃ xs : List α, l = xs.map f := by
  induction l with
  | nil => exact ⟨[], rfl⟩
  | cons t r ih =>
    obtain ⟨x, hx⟩ := h t (by simp)
    obtain ⟨xs, hxs⟩ := ih fun u hu => h u (by simp [hu])
    exact ⟨x :: xs, by simp [hx, hxs]⟩

def dC (w : World) (lo hi : Nat) (ts : List PT) : Prop := iP w ts ∧ (PT.blocksL ts).Nodup ∧ ∀ b ∈ PT.blocksL ts, Rng lo hi b
section
variable {w w' : World} {lo mid hi : Nat}
theorem dC.nil : dC w lo hi [] := ⟨trivial, by simp [PT.blocksL], by simp [PT.blocksL]⟩
theorem dC.cons {ts : List PT} {t : PT} (ht : cr w (Rng lo mid) t) (h : dC w mid hi ts) (hl : lo ≤ mid) (hm : mid ≤ hi) : dC w lo hi (t :: ts) := by
  refine ⟨⟨ht.1, h.1⟩, ?_, fun b hb => ?_⟩
  · simp only [PT.blocksL, List.nodup_append]
    refine ⟨ht.2.1, h.2.1, fun a ha b hb => ?_⟩
    have h1 := (ht.2.2 a ha).2
    have h2 := (h.2.2 b hb).1
    omega
  · simp only [PT.blocksL, List.mem_append] at hb
    rcases hb with hb | hb
    · have := ht.2.2 b hb; exact ⟨this.1, Nat.lt_of_lt_of_le this.2 hm⟩
    · have := h.2.2 b hb; exact ⟨Nat.le_trans hl this.1, this.2⟩
theorem dC.flat {ts : List PT} {t : PT} (hb : t.blocks = []) (ho : Own w t) (h : dC w lo hi ts) : dC w lo hi (t :: ts) :=
  ⟨⟨ho, h.1⟩, by simpa [PT.blocksL, hb] using h.2.1, by simpa [PT.blocksL, hb] using h.2.2⟩
theorem dC.agg {ts : List PT} {S : Nat → Prop} (h : dC w lo hi ts) (hS : ∀ b, Rng lo hi b → S b) : cr w S (.agg ts) := ⟨h.1, h.2.1, fun b hb => hS b (h.2.2 b hb)⟩
theorem dC.keep {ts : List PT} (h : dC w lo hi ts) (hk : ∀ b, Rng lo hi b → b < w.heap.size → w'.heap[b]? = w.heap[b]?) : dC w' lo hi ts :=
  ⟨gl.2 ts h.1 fun b hb => hk b (h.2.2 b hb) (sm.2 ts h.1 b hb), h.2.1, h.2.2⟩
theorem dC.below {ts : List PT} (h : dC w lo hi ts) (hb : Below w.heap.size w w') : dC w' lo hi ts := h.keep fun b _ hlt => hb.block b hlt
theorem dC.far {ts : List PT} (h : dC w lo hi ts) {p : Addr} (hp : p.block < lo) (u : Value) : dC (w.setCell p u) lo hi ts :=
  h.keep fun b hb _ => Below.heap_setCell _ _ _ _ (by have := hb.1; omega)
theorem cr.far {S : Nat → Prop} {t : PT} (h : cr w S t) {p : Addr} (hp : ¬ S p.block) (u : Value) : cr (w.setCell p u) S t :=
  h.keep fun _b hb _ => Below.heap_setCell _ _ _ _ (fun e => hp (e ▸ hb))
theorem dC.slice {ts : List PT} {g c m : Nat} {e : TypeId} {S : Nat → Prop} (h : dC w lo hi ts) (hf : iF w g e (c * m) (PT.cellsL ts)) (hm : ∀ t ∈ ts, t.cells.length = m) (hl : ts.length ≤ c) (hc : c ≤ maxLen) (hg : g < lo) (hS : ∀ b, g ≤ b → S b) :
    cr w S (.sl (some ⟨g, 0, none⟩) c m ts) := by
  refine ⟨iF.own hf hm hl hc h.1, ?_, fun b hb => ?_⟩
  · simp only [PT.blocks, PT.rowOf, List.singleton_append, List.nodup_cons]
    exact ⟨fun hb => by have := (h.2.2 g hb).1; omega, h.2.1⟩
  · simp only [PT.blocks, PT.rowOf, List.mem_append, List.mem_singleton] at hb
    rcases hb with rfl | hb
    · exact hS b (Nat.le_refl _)
    · exact hS b (by have := (h.2.2 b hb).1; omega)
end

def i64 (n : Int) : Prop := -9223372036854775808 ≤ n ∧ n ≤ 9223372036854775807
theorem bU {n : Int} (h : (Lit.int .i64 n).wf = true) : i64 n := bounds_i64 h


inductive TV where
  | int (k : IntKind) (n : Int)
  | bool (b : Bool)
  | str (s : ByteArray)
  | agg (l : List TV)
  | sl (f : Nat) (m : Nat) (rows : List (List TV))
  | cp (f : Nat) (l : List TV)
  | nilp
  | nils
  | ms (s b off len : Nat)
  | mp (s b off : Nat)
  | me (s b m k j : Nat)
  | tup (l : List TV)
  | fn (f : FuncId) (l : List TV)
  | top
  | gh (l : List (TV × Value))

def TV.isCell : TV → Bool
  | .agg _ => false
  | .tup _ => false
  | .top => false
  | .gh _ => false
  | _ => true

inductive bu where
  | row (m : Nat) (rows : List (List TV))
  | box (cells : List TV)
  | void
  | iter (s : ByteArray) (pos : Nat)

abbrev aI := List (Nat × Nat × bu)
abbrev Env := List (Nat × TV)

def lk (t : Nat) : Env → Option TV
  | [] => none
  | (s, v) :: r => bif Nat.beq s t then some v else lk t r
theorem wn {s t : Nat} (h : s ≠ t) : Nat.beq s t = false := by
  cases hb : Nat.beq s t
  · rfl
  · exact absurd (Nat.eq_of_beq_eq_true hb) h
theorem sS {s t : Nat} (h : Nat.beq s t = false) : s ≠ t := Nat.ne_of_beq_eq_false h
theorem bI (t s : Nat) (v : TV) (r : Env) : lk t ((s, v) :: r) = if s = t then some v else lk t r := by
  show (bif Nat.beq s t then some v else lk t r) = _
  by_cases h : s = t
  · subst h; simp
  · rw [wn h, if_neg h]; rfl

def nQ (objs : aI) (b : Nat) : Prop := b ≠ 0 ∧ ∃ s o, (s, b, o) ∈ objs
def ZZ (objs : aI) (lo : Nat) (b : Nat) : Prop := lo ≤ b ∧ ¬ nQ objs b

def dz : Nat × Nat × bu := (0, 0, .row 0 [])
def ab6 (w : World) (objs : aI) (s b off len : Nat) (v : Value) : Prop :=
  (b < w.heap.size ∧ dz ∉ objs ∧ ∃ A c, v = Value.slice A len c) ∧ (b = 0 → off = 0 ∧ len = 0 ∧ v = .slice none 0 0) ∧ ∀ m rows, b ≠ 0 → (s, b, bu.row m rows) ∈ objs →
    ∃ o c e n, v = .slice (some ⟨b, o, none⟩) len c ∧ len ≤ c ∧ w.shape? b = some (e, n) ∧ n = (off + c) * m ∧ (0 < c ∨ off = 0 → o = off * m)
theorem ab6.or {w : World} {objs : aI} {s b off len : Nat} {v : Value} (h : ab6 w objs s b off len v) (m : Nat) (rows : List (List TV)) (hm : (s, b, bu.row m rows) ∈ objs) :
    (b = 0 ∧ off = 0 ∧ len = 0 ∧ v = .slice none 0 0) ∨
    (b ≠ 0 ∧ ∃ o c e n, v = .slice (some ⟨b, o, none⟩) len c ∧ len ≤ c ∧ w.shape? b = some (e, n) ∧ n = (off + c) * m ∧ (0 < c ∨ off = 0 → o = off * m)) := by
  by_cases hb : b = 0
  · exact .inl ⟨hb, h.2.1 hb⟩
  · exact .inr ⟨hb, h.2.2 m rows hb hm⟩
theorem ab6.mk {w : World} {objs : aI} {s b off len : Nat} {v : Value} (h1 : b < w.heap.size ∧ dz ∉ objs ∧ ∃ A c, v = Value.slice A len c) (h2 : ∀ (m : Nat) (rows : List (List TV)), (s, b, bu.row m rows) ∈ objs →
    (b = 0 ∧ off = 0 ∧ len = 0 ∧ v = .slice none 0 0) ∨
    (b ≠ 0 ∧ ∃ o c e n, v = .slice (some ⟨b, o, none⟩) len c ∧ len ≤ c ∧ w.shape? b = some (e, n) ∧ n = (off + c) * m ∧ (0 < c ∨ off = 0 → o = off * m))) (h3 : b = 0 → off = 0 ∧ len = 0 ∧ v = .slice none 0 0) : ab6 w objs s b off len v :=
  ⟨h1, h3, fun m rows hb hm => (h2 m rows hm).elim (fun h => absurd h.1 hb) (fun h => h.2)⟩

inductive Rep (w : World) (objs : aI) : TV → Value → Prop
  | int (k : IntKind) (n : Int) : Rep w objs (.int k n) (.int k n)
  | bool (b : Bool) : Rep w objs (.bool b) (.bool b)
  | str (s : ByteArray) : Rep w objs (.str s) (.string s)
  | agg (l : List TV) (vs : Array Value) (hi : ∀ t ∈ l, t.isCell = true) (h : l.length = vs.size) (h2 : ∀ (i : Nat) (t : TV) (v : Value), l[i]? = some t → vs[i]? = some v → Rep w objs t v) : Rep w objs (.agg l) (.agg vs)
  | sl (f : Nat) (m : Nat) (rows : List (List TV)) (A : Option Addr) (c : Nat) (h1 : rows.length ≤ c) (h2 : c ≤ maxLen) (hm : ∀ r ∈ rows, r.length = m) (hi : ∀ t ∈ rows.flatten, t.isCell = true) (g : Nat → Value)
      (hc : ∀ (j : Nat) (t : TV), rows.flatten[j]? = some t → ∃ b o, A = some ⟨b, o, none⟩ ∧ ZZ objs f b ∧ w.cell? ⟨b, o + j, none⟩ = some (g j))
      (hr : ∀ (j : Nat) (t : TV), rows.flatten[j]? = some t → Rep w objs t (g j)) : Rep w objs (.sl f m rows) (.slice A rows.length c)
  | cp (f : Nat) (l : List TV) (hi : ∀ t ∈ l, t.isCell = true) (b o : Nat) (g : Nat → Value) (hZ : ZZ objs f b) (hb : b < w.heap.size) (hc : ∀ (j : Nat) (t : TV), l[j]? = some t → w.cell? ⟨b, o + j, none⟩ = some (g j))
      (hr : ∀ (j : Nat) (t : TV), l[j]? = some t → Rep w objs t (g j)) : Rep w objs (.cp f l) (.pointer (some ⟨b, o, none⟩))
  | nilp : Rep w objs .nilp (.pointer none)
  | nils : Rep w objs .nils (.slice none 0 0)
  | ms (s b off len : Nat) (v : Value) (h : ab6 w objs s b off len v) : Rep w objs (.ms s b off len) v
  | mp (s b off : Nat) (h : b < w.heap.size ∧ dz ∉ objs) : Rep w objs (.mp s b off) (.pointer (some ⟨b, off, none⟩))
  | me (s b m k j : Nat) (h : b < w.heap.size ∧ dz ∉ objs) : Rep w objs (.me s b m k j) (.pointer (some ⟨b, k * m + j, none⟩))
  | tup (l : List TV) (vs : Array Value) (h : l.length = vs.size) (h2 : ∀ (i : Nat) (t : TV) (v : Value), l[i]? = some t → vs[i]? = some v → Rep w objs t v) : Rep w objs (.tup l) (.tuple vs)
  | fn (f : FuncId) (l : List TV) (vs : Array Value) (h : l.length = vs.size) (h2 : ∀ (i : Nat) (t : TV) (v : Value), l[i]? = some t → vs[i]? = some v → Rep w objs t v) : Rep w objs (.fn f l) (.func (.func f) #[] vs)
  | top (v : Value) : Rep w objs .top v
  | gh (l : List (TV × Value)) (v : Value) (h : ∀ (i : Nat) (t : TV) (u : Value), l[i]? = some (t, u) → Rep w objs t u) : Rep w objs (.gh l) v

def sj (w : World) (B : Nat) (objs : aI) (b : Nat) : bu → Prop
  | .void => b = 0
  | .iter s pos => B ≤ b ∧ w.heap[b]? = some (.stringIter s pos)
  | .row m rows => (0 < m ∧ ∀ t ∈ rows.flatten, t.isCell = true) ∧ (∀ r ∈ rows, r.length = m) ∧ ((b = 0 ∧ rows = []) ∨ (B ≤ b ∧ ∃ cur e cap, w.heap[b]? = some (.cells cur e (0, 0)) ∧ cur.size = cap * m ∧ rows.length ≤ cap ∧ cap ≤ maxLen ∧
      ∀ (j : Nat) (t : TV), rows.flatten[j]? = some t → ∃ v, cur[j]? = some v ∧ Rep w objs t v))
  | .box cells => (B ≤ b ∧ ∀ t ∈ cells, t.isCell = true) ∧ ∃ cur e, w.heap[b]? = some (.cells cur e (0, 0)) ∧ cur.size = cells.length ∧ ∀ (j : Nat) (t : TV), cells[j]? = some t → ∃ v, cur[j]? = some v ∧ Rep w objs t v

structure jz (w : World) (objs : aI) (w' : World) (objs' : aI) : Prop where
  blk : ∀ b, b < w.heap.size → ¬ nQ objs b → w'.heap[b]? = w.heap[b]?
  al : ∀ b, b < w.heap.size → nQ objs' b → nQ objs b
  ms : ∀ s b m rows, b < w.heap.size → b ≠ 0 → (s, b, bu.row m rows) ∈ objs' → (∃ rows0, (s, b, bu.row m rows0) ∈ objs) ∧ w'.shape? b = w.shape? b
  size : w.heap.size ≤ w'.heap.size
  mark : dz ∈ objs' → dz ∈ objs

theorem oS {w : World} {a : Addr} {v : Value} (h : w.cell? a = some v) : a.block < w.heap.size := World.block_lt_of_cell? w a h

theorem Rep.step {w w' : World} {objs objs' : aI} (hs : jz w objs w' objs') {t : TV} {v : Value} (h : Rep w objs t v) : Rep w' objs' t v := by
  have hcell : ∀ (f : Nat) b o v, ZZ objs f b → w.cell? ⟨b, o, none⟩ = some v → ZZ objs' f b ∧ w'.cell? ⟨b, o, none⟩ = some v := fun f b o v hz hc => by
    have hb := oS hc
    exact ⟨⟨hz.1, fun ha => hz.2 (hs.al b hb ha)⟩, (World.cell?_of_block (w := w) (w' := w') (a := ⟨b, o, none⟩) (hs.blk b hb hz.2)).trans hc⟩
  induction h with
  | int k n => exact .int k n
  | bool b => exact .bool b
  | str s => exact .str s
  | agg l vs hi h h2 ih => exact .agg l vs hi h ih
  | sl f m rows A c h1 h2 hm hi g hc hr ih =>
    refine .sl f m rows A c h1 h2 hm hi g (fun j t hj => ?_) ih
    obtain ⟨b, o, hA, hz, hcc⟩ := hc j t hj
    obtain ⟨h3, h4⟩ := hcell f b (o + j) _ hz hcc
    exact ⟨b, o, hA, h3, h4⟩
  | cp f l hi b o g hZ hb hc hr ih =>
    exact .cp f l hi b o g ⟨hZ.1, fun ha => hZ.2 (hs.al b hb ha)⟩ (Nat.lt_of_lt_of_le hb hs.size) (fun j t hj => (hcell f b (o + j) _ hZ (hc j t hj)).2) ih
  | nilp => exact .nilp
  | nils => exact .nils
  | ms s b off len v h =>
    refine .ms s b off len v ⟨⟨Nat.lt_of_lt_of_le h.1.1 hs.size, fun hk => h.1.2.1 (hs.mark hk), h.1.2.2⟩, h.2.1, fun m rows hb hm => ?_⟩
    obtain ⟨⟨rows0, h0⟩, hsh⟩ := hs.ms s b m rows h.1.1 hb hm
    obtain ⟨o, c, e, n, h3, h4, h5, h6⟩ := h.2.2 m rows0 hb h0
    exact ⟨o, c, e, n, h3, h4, hsh.trans h5, h6⟩
  | mp s b off h => exact .mp s b off ⟨Nat.lt_of_lt_of_le h.1 hs.size, fun hk => h.2 (hs.mark hk)⟩
  | me s b m k j h => exact .me s b m k j ⟨Nat.lt_of_lt_of_le h.1 hs.size, fun hk => h.2 (hs.mark hk)⟩
  | tup l vs h h2 ih => exact .tup l vs h ih
  | fn f l vs h h2 ih => exact .fn f l vs h ih
  | top v => exact .top v
  | gh l v h ih => exact .gh l v ih

abbrev em : Nat × Nat × bu → Nat × Nat × bu → Prop := fun x y => x.1 ≠ y.1 ∧ (x.2.1 ≠ y.2.1 ∨ x.2.1 = 0)
structure du (w0 : World) (objs : aI) (w : World) : Prop where
  below : Below w0.heap.size w0 w
  pos : 0 < w0.heap.size
  obj : ∀ s b o, (s, b, o) ∈ objs → sj w w0.heap.size objs b o
  sites : List.Pairwise em objs

theorem du.noMark {w0 w : World} {objs : aI} (h : du w0 objs w) : dz ∉ objs := fun hm => absurd (h.obj 0 0 _ hm).1.1 (Nat.lt_irrefl _)

structure Sim (w0 : World) (N : Nat) (env : Env) (objs : aI) (a : Act) (w : World) : Prop where
  defers : a.defers = []
  size : a.tmps.size = N
  mem : du w0 objs w
  env : ∀ t v, lk t env = some v → Rep w objs v (a.tmps.getD t undef)

structure AW (P : Program) (w0 : World) (N : Nat) (c : Code) (Q : Exit → Act → World → Prop) (env : Env) (objs : aI) : Prop where
  run : ∀ a w, Sim w0 N env objs a w → c.wp P Q a w
structure AL (P : Program) (w0 : World) (N : Nat) (ops : Array Oper) (Q : Exit → Act → World → Prop) (rest : List Oper) (env : Env) (objs : aI) : Prop where
  run : ∀ a w, Sim w0 N env objs a w → wpList P ops Q rest a w
structure AO (P : Program) (w0 : World) (N : Nat) (ops : Array Oper) (Q : Exit → Act → World → Prop) (o : Oper) (rest : List Oper) (env : Env) (objs : aI) : Prop where
  run : ∀ a w (K : Act → World → Prop), Sim w0 N env objs a w → (∀ a w, wpList P ops Q rest a w → K a w) → o.wp P a w K Q
structure AQ (w0 : World) (N : Nat) (Q : Exit → Act → World → Prop) (x : Exit) (env : Env) (objs : aI) : Prop where
  run : ∀ a w, Sim w0 N env objs a w → Q x a w

section
variable {P : Program} {w0 : World} {N : Nat} {Q : Exit → Act → World → Prop} {env : Env} {objs : aI}

theorem cE {x y : Code} (h : AW P w0 N x (Exit.then (y.wp P Q) Q) env objs) : AW P w0 N (.seq x y) Q env objs := ⟨fun a w hs => wp_seq (h.run a w hs)⟩
theorem cU (h : AQ w0 N Q .normal env objs) : AW P w0 N .skip Q env objs := ⟨fun a w hs => wp_skip (h.run a w hs)⟩
theorem cS {id : Nat} (h : AQ w0 N Q (.exit id) env objs) : AW P w0 N (.exit id) Q env objs := ⟨fun a w hs => wp_exit (h.run a w hs)⟩
theorem ea (h : AQ w0 N Q .ret env objs) : AW P w0 N .ret Q env objs := ⟨fun a w hs => wp_ret (h.run a w hs)⟩
theorem bV {id : Nat} {c : Code} (h : AW P w0 N c (Exit.inBlock id Q) env objs) : AW P w0 N (.block id c) Q env objs := ⟨fun a w hs => wp_block (h.run a w hs)⟩
theorem bJ {id : Nat} {l : List Oper} (h : AL P w0 N l.toArray Q l env objs) : AW P w0 N (.region id l.toArray false) Q env objs := ⟨fun a w hs => wp_region_lit (h.run a w hs)⟩
theorem dX {ops : Array Oper} (h : AQ w0 N Q .normal env objs) : AL P w0 N ops Q [] env objs := ⟨fun a w hs => wpList_nil (h.run a w hs)⟩

theorem cO {y : Code} (h : AW P w0 N y Q env objs) : AQ w0 N (Exit.then (y.wp P Q) Q) .normal env objs := ⟨h.run⟩
theorem aZ {K : Act → World → Prop} {id : Nat} (h : AQ w0 N Q (.exit id) env objs) : AQ w0 N (Exit.then K Q) (.exit id) env objs := ⟨h.run⟩
theorem ba {K : Act → World → Prop} (h : AQ w0 N Q .ret env objs) : AQ w0 N (Exit.then K Q) .ret env objs := ⟨h.run⟩
theorem bZ {id : Nat} (h : AQ w0 N Q .normal env objs) : AQ w0 N (Exit.inBlock id Q) .normal env objs := ⟨h.run⟩
theorem aX {id : Nat} (h : AQ w0 N Q .ret env objs) : AQ w0 N (Exit.inBlock id Q) .ret env objs := ⟨h.run⟩
theorem aY {id : Nat} (h : AQ w0 N Q .normal env objs) : AQ w0 N (Exit.inBlock id Q) (.exit id) env objs := ⟨fun a w hs => by
  show (if id = id then _ else _)
  rw [if_pos rfl]; exact h.run a w hs⟩
theorem aR {id id' : Nat} (hn : Nat.beq id' id = false) (h : AQ w0 N Q (.exit id') env objs) : AQ w0 N (Exit.inBlock id Q) (.exit id') env objs := ⟨fun a w hs => by
  show (if id' = id then _ else _)
  rw [if_neg (sS hn)]; exact h.run a w hs⟩

theorem Rep.bool_inv {w : World} {b : Bool} {v : Value} (h : Rep w objs (.bool b) v) : v = .bool b := by cases h; rfl
theorem Rep.int_inv {w : World} {k : IntKind} {n : Int} {v : Value} (h : Rep w objs (.int k n) v) : v = .int k n := by cases h; rfl
theorem Rep.str_inv {w : World} {s : ByteArray} {v : Value} (h : Rep w objs (.str s) v) : v = .string s := by cases h; rfl

theorem ee {t : Nat} {v : TV} {p : Prop} {i : Decidable p} {x y : Code} (hl : lk t env = some v) (he : v = .bool (@decide p i)) (ht : p → AW P w0 N x Q env objs) (hf : ¬ p → AW P w0 N y Q env objs) : AW P w0 N (.cond (.tmp t) x y) Q env objs := ⟨fun a w hs => by
  have hv : a.eval (.tmp t) = .bool (decide p) := (hs.env t _ (he ▸ hl)).bool_inv
  by_cases h : p
  · exact wp_cond_true (by rw [hv]; simp [h]) ((ht h).run a w hs)
  · exact wp_cond_false (by rw [hv]; simp [h]) ((hf h).run a w hs)⟩
theorem cW {t : Nat} {v : TV} {b : Bool} {x y : Code} (hl : lk t env = some v) (he : v = .bool b) (ht : b = true → AW P w0 N x Q env objs) (hf : b = false → AW P w0 N y Q env objs) : AW P w0 N (.cond (.tmp t) x y) Q env objs := ⟨fun a w hs => by
  have hv : a.eval (.tmp t) = .bool b := (hs.env t _ (he ▸ hl)).bool_inv
  exact wp_cond_split hv (fun h => (ht h).run a w hs) (fun h => (hf h).run a w hs)⟩
theorem bM {t : Nat} {v : TV} {x y : Code} (hl : lk t env = some v) (he : v = .bool true) (ht : AW P w0 N x Q env objs) : AW P w0 N (.cond (.tmp t) x y) Q env objs := ⟨fun a w hs => wp_cond_true (hs.env t _ (he ▸ hl)).bool_inv (ht.run a w hs)⟩
theorem bN {t : Nat} {v : TV} {x y : Code} (hl : lk t env = some v) (he : v = .bool false) (hf : AW P w0 N y Q env objs) : AW P w0 N (.cond (.tmp t) x y) Q env objs := ⟨fun a w hs => wp_cond_false (hs.env t _ (he ▸ hl)).bool_inv (hf.run a w hs)⟩
theorem bw {t : Nat} {v : TV} {p : Prop} {i : Decidable p} {x y : Code} (hl : lk t env = some v) (he : v = .bool (@decide p i)) (hp : p) (ht : AW P w0 N x Q env objs) : AW P w0 N (.cond (.tmp t) x y) Q env objs := ee hl he (fun _ => ht) (fun h => absurd hp h)
theorem bz {t : Nat} {v : TV} {p : Prop} {i : Decidable p} {x y : Code} (hl : lk t env = some v) (he : v = .bool (@decide p i)) (hp : ¬ p) (hf : AW P w0 N y Q env objs) : AW P w0 N (.cond (.tmp t) x y) Q env objs := ee hl he (fun h => absurd h hp) (fun _ => hf)

structure dg (objs' objs : aI) : Prop where
  mem : ∀ x ∈ objs', x ∈ objs
  sites : List.Pairwise em objs → List.Pairwise em objs'
theorem dg.refl (l : aI) : dg l l := ⟨fun _ h => h, id⟩
theorem dg.trans {a b c : aI} (h : dg a b) (k : dg b c) : dg a c := ⟨fun x hx => k.mem x (h.mem x hx), fun hp => h.sites (k.sites hp)⟩
theorem dg.sub {a b : aI} (h : List.Sublist a b) : dg a b := ⟨fun _ hx => h.subset hx, fun hp => hp.sublist h⟩
theorem em.symm {x y : Nat × Nat × bu} (h : em x y) : em y x := ⟨h.1.symm, by
  by_cases e : x.2.1 = y.2.1
  · rcases h.2 with h2 | h2
    · exact absurd e h2
    · exact .inr (e ▸ h2)
  · exact .inl (Ne.symm e)⟩
theorem dg.perm {a b : aI} (h : a.Perm b) : dg a b := ⟨fun _ hx => h.subset hx, fun hp => h.symm.pairwise hp (fun h => em.symm h)⟩
theorem dg.nil (l : aI) : dg [] l := .sub (List.nil_sublist l)
inductive Del (x : Nat × Nat × bu) : aI → aI → Prop
  | head (l : aI) : Del x (x :: l) l
  | tail (y : Nat × Nat × bu) (l l' : aI) (h : Del x l l') : Del x (y :: l) (y :: l')
theorem Del.perm {x : Nat × Nat × bu} {l l' : aI} (h : Del x l l') : (x :: l').Perm l := by
  induction h with
  | head l => exact .refl _
  | tail y l l' h ih => exact (List.Perm.swap y x l').trans (ih.cons y)
theorem dg.cons {x : Nat × Nat × bu} {l' l l1 : aI} (hd : Del x l l1) (h : dg l' l1) : dg (x :: l') l := by
  refine dg.trans ?_ (.perm hd.perm)
  refine ⟨fun y hy => ?_, fun hp => ?_⟩
  · rcases List.mem_cons.1 hy with rfl | hy
    · exact List.mem_cons_self
    · exact List.mem_cons_of_mem _ (h.mem y hy)
  · obtain ⟨h1, h2⟩ := List.pairwise_cons.1 hp
    exact List.pairwise_cons.2 ⟨fun y hy => h1 y (h.mem y hy), h.sites h2⟩
theorem dg.drop {x : Nat × Nat × bu} {l' l : aI} (h : dg l' l) : dg l' (x :: l) := h.trans (.sub (List.sublist_cons_self x l))

structure dw (env : Env) (objs : aI) (env' : Env) (objs' : aI) : Prop where
  env : ∀ t v, lk t env' = some v → lk t env = some v
  objs : dg objs' objs
theorem dw.envNil : ∀ t v, lk t [] = some v → lk t env = some v := fun t v h => by simp [lk] at h
theorem dw.envCons {t : Nat} {v : TV} {env' : Env} (h : lk t env = some v) (hr : ∀ t v, lk t env' = some v → lk t env = some v) : ∀ t' v', lk t' ((t, v) :: env') = some v' → lk t' env = some v' := fun t' v' h' => by
  rw [bI] at h'
  split at h'
  · rename_i e; subst e; rw [h, h']
  · exact hr _ _ h'

theorem yO {objs' : aI} (h : dg objs' objs) {b : Nat} (ha : nQ objs' b) : nQ objs b := ⟨ha.1, let ⟨s, o, hm⟩ := ha.2; ⟨s, o, h.mem _ hm⟩⟩
theorem f3 {objs' : aI} (h : dg objs' objs) (w : World) : jz w objs w objs' :=
  ⟨fun _ _ _ => rfl, fun _ _ ha => yO h ha, fun _ _ _ rows _ _ hm => ⟨⟨rows, h.mem _ hm⟩, rfl⟩, Nat.le_refl _, fun hk => h.mem _ hk⟩
theorem sj.step {w w' : World} {B b : Nat} {objs' : aI} {o : bu} (hs : jz w objs w' objs') (hb : w'.heap[b]? = w.heap[b]?) (h : sj w B objs b o) : sj w' B objs' b o := by
  cases o with
  | void => exact h
  | iter s pos => exact ⟨h.1, hb.trans h.2⟩
  | row m rows =>
    refine ⟨h.1, h.2.1, h.2.2.imp id fun ⟨h1, cur, e, cap, h2, h3, h4, h5, h6⟩ => ⟨h1, cur, e, cap, hb.trans h2, h3, h4, h5, fun j t hj => ?_⟩⟩
    obtain ⟨v, h7, h8⟩ := h6 j t hj
    exact ⟨v, h7, h8.step hs⟩
  | box cells =>
    obtain ⟨h1, cur, e, h2, h3, h6⟩ := h
    refine ⟨h1, cur, e, hb.trans h2, h3, fun j t hj => ?_⟩
    obtain ⟨v, h7, h8⟩ := h6 j t hj
    exact ⟨v, h7, h8.step hs⟩
theorem du.sub {w : World} {objs' : aI} (h : du w0 objs w) (hsub : dg objs' objs) : du w0 objs' w :=
  ⟨h.below, h.pos, fun s b o hm => (h.obj s b o (hsub.mem _ hm)).step (f3 hsub w) rfl, hsub.sites h.sites⟩
theorem Sim.weak {a : Act} {w : World} {env' : Env} {objs' : aI} (h : Sim w0 N env objs a w) (k : dw env objs env' objs') : Sim w0 N env' objs' a w :=
  ⟨h.defers, h.size, h.mem.sub k.objs, fun t v ht => (h.env t v (k.env t v ht)).step (f3 k.objs w)⟩

def adx {X : Type} (w0 : World) (N : Nat) (E : X → Env) (O : X → aI) (I : X → Prop) (μ : X → Nat) (n : Nat) (a : Act) (w : World) : Prop := ∃ x, I x ∧ μ x < n ∧ Sim w0 N (E x) (O x) a w
theorem aby {X : Type} {body : Code} (E : X → Env) (O : X → aI) (I : X → Prop) (μ : X → Nat) (x0 : X) (h0 : I x0) (hw : dw env objs (E x0) (O x0))
    (round : ∀ x, I x → AW P w0 N body (Exit.then (adx w0 N E O I μ (μ x)) Q) (E x) (O x)) : AW P w0 N (.loop body) Q env objs := ⟨fun a w hs => by
  refine wp_loop_ghost (fun n a w => ∃ x, I x ∧ μ x = n ∧ Sim w0 N (E x) (O x) a w) (μ x0) ⟨x0, h0, rfl, hs.weak hw⟩ ?_
  rintro n a w ⟨x, hI, rfl, hs⟩
  refine wp_mono ((round x hI).run a w hs) fun e a' w' hq => ?_
  cases e with
  | normal =>
    obtain ⟨y, hy, hlt, hs'⟩ := hq
    exact ⟨μ y, hlt, y, hy, rfl, hs'⟩
  | exit id => exact hq
  | goto l => exact hq
  | ret => exact hq
  | panic c => exact hq
  | outgrown => exact hq⟩
theorem ah {X : Type} {E : X → Env} {O : X → aI} {I : X → Prop} {μ : X → Nat} {n : Nat} (y : X) (hI : I y) (hlt : μ y < n) (k : dw env objs (E y) (O y)) : AQ w0 N (Exit.then (adx w0 N E O I μ n) Q) .normal env objs :=
  ⟨fun _ _ hs => ⟨y, hI, hlt, hs.weak k⟩⟩
def adH {X : Type} (w0 : World) (N : Nat) (E : X → Env) (O : X → aI) (I : X → Prop) (a : Act) (w : World) : Prop := ∃ y, I y ∧ Sim w0 N (E y) (O y) a w
theorem dN {X : Type} {E : X → Env} {O : X → aI} {I : X → Prop} (y : X) (hI : I y) (k : dw env objs (E y) (O y)) : AQ w0 N (Exit.then (adH w0 N E O I) Q) .normal env objs := ⟨fun _ _ hs => ⟨y, hI, hs.weak k⟩⟩
end

open Go
def adm : List Nat := [1, 1, 1, 1, 1, 1, 1, 4, 4, 1, 1, 1, 1, 2, 2, 1, 1, 1, 1, 1, 1, 1, 1, 1, 1, 4, 4, 1, 1, 1, 1, 4, 4, 1, 1, 6, 6, 1, 1, 1, 1, 3, 3, 20, 20, 1, 1, 1, 1, 1, 1, 1, 1, 1, 6, 6, 1, 1, 1, 3, 20, 20, 1, 1, 1, 1, 1, 1, 1, 1, 1, 1, 1, 1, 1, 1, 1, 1, 1, 1, 1, 1, 1, 1, 1, 1, 1, 1, 1, 1, 1, 1, 1, 1, 1, 1, 1, 1, 1, 1, 1, 1, 1, 1, 1, 1, 1, 1, 1, 1, 1, 1, 1, 1, 1, 1, 5, 5, 1, 1, 1, 1, 1, 1, 1, 1, 1, 1, 1, 5, 5, 3, 3, 1, 1, 1, 1, 1, 1, 1, 1, 4, 4, 4, 4, 1, 1, 1, 1, 6, 6, 1, 14, 14, 1, 1, 1, 1, 2, 2, 1, 1, 4, 4, 1, 1, 2, 2, 1, 1, 1, 1, 1, 3, 3, 1, 1, 1, 1, 1, 1, 3, 1, 1, 4, 4, 1, 4, 1, 1, 1, 1, 1, 1, 1, 1, 1, 1, 1, 1, 1, 4, 4, 1, 1, 1, 1, 1, 1, 1, 1, 1, 1, 1, 1, 1, 1, 6, 6, 1, 1, 14, 14, 1, 1, 1, 1, 1, 1, 1, 1, 1, 1, 1, 1, 1, 1, 1, 1, 1, 2, 1, 1, 1, 1, 1, 1, 1, 1, 1, 1, 1, 1, 1, 1, 1, 1, 1, 5, 5, 6, 6, 1, 1, 1, 1, 1, 1, 1, 1, 1, 1, 1, 1, 1, 1, 1, 1, 1, 1, 1, 2, 2, 1, 1, 1, 1, 1, 1, 1, 1, 4, 4, 1, 1, 1, 1, 1, 1, 1, 1, 1, 1, 1, 1, 1, 1, 1, 4, 1, 1, 1, 4, 4, 1, 1, 1, 1, 1, 1, 1, 1, 1, 1, 1, 1, 1, 1, 1, 1, 1, 1, 1, 1, 1, 1, 1, 1, 1, 1, 1, 1, 1, 1, 256, 2, 2, 32, 1, 1, 4, 4, 0, 0, 0, 1, 1, 1, 1, 1, 1, 11, 11, 5, 5, 1]
def adl : List (List Nat) := [[], [], [], [], [], [], [], [0, 1, 2, 3], [0, 1, 2, 3], [], [], [], [], [0, 1], [0, 1], [], [], [], [0], [0], [], [], [], [], [], [0, 1, 2, 3], [0, 1, 2, 3], [], [], [], [], [0, 1, 2, 3], [0, 1, 2, 3], [], [], [0, 1, 2, 3, 4, 5], [0, 1, 2, 3, 4, 5], [], [], [], [], [0, 1, 2], [0, 1, 2], [0, 4, 10, 11, 12, 13, 14, 15, 16, 19], [0, 4, 10, 11, 12, 13, 14, 15, 16, 19], [], [], [], [], [], [], [], [], [], [0, 1, 2, 3, 4, 5], [0, 1, 2, 3, 4, 5], [], [], [], [0, 1, 2], [0, 4, 10, 11, 12, 13, 14, 15, 16, 19], [0, 4, 10, 11, 12, 13, 14, 15, 16, 19], [], [], [], [], [], [], [], [], [], [], [], [], [], [], [], [], [], [], [], [], [], [], [], [], [], [], [], [], [], [], [], [], [], [], [], [], [], [], [], [], [], [], [], [], [], [], [], [], [], [], [], [], [], [], [0, 1, 2, 3, 4], [0, 1, 2, 3, 4], [], [], [], [], [], [], [], [], [], [], [], [0, 1, 2, 3, 4], [0, 1, 2, 3, 4], [0, 1, 2], [0, 1, 2], [], [], [], [], [], [], [], [], [0, 1, 2, 3], [0, 1, 2, 3], [0, 1, 2, 3], [0, 1, 2, 3], [], [], [], [], [0, 1, 2, 3], [0, 1, 2, 3], [], [0, 1, 2, 3, 4, 5, 6, 9, 10, 11, 12, 13], [0, 1, 2, 3, 4, 5, 6, 9, 10, 11, 12, 13], [], [], [], [], [0, 1], [0, 1], [], [], [0, 1, 2, 3], [0, 1, 2, 3], [], [], [0, 1], [0, 1], [], [], [], [], [], [0, 1, 2], [0, 1, 2], [], [], [], [], [], [], [0, 1, 2], [], [], [0, 1, 2, 3], [0, 1, 2, 3], [], [0, 1, 2, 3], [], [], [], [], [], [], [], [], [], [], [], [], [], [0, 1, 2, 3], [0, 1, 2, 3], [], [], [], [], [], [], [], [], [], [], [], [], [], [], [0, 1, 2, 3], [0, 1, 2, 3], [], [], [0, 1, 2, 3, 4, 5, 6, 9, 10, 11, 12, 13], [0, 1, 2, 3, 4, 5, 6, 9, 10, 11, 12, 13], [], [], [], [], [], [], [], [], [], [], [], [], [], [], [], [], [], [0, 1], [], [], [], [], [], [], [], [], [], [], [], [], [], [], [], [], [], [0, 1, 2, 3, 4], [0, 1, 2, 3, 4], [0, 1], [0, 1], [], [], [], [], [], [], [], [], [], [], [], [], [], [], [], [], [], [], [], [0, 1], [0, 1], [], [], [], [], [], [], [], [], [0, 1, 2, 3], [0, 1, 2, 3], [], [], [], [], [], [], [], [], [], [], [], [], [], [], [], [0, 1, 2, 3], [], [], [], [0, 1, 2, 3], [0, 1, 2, 3], [], [], [], [], [], [], [], [], [], [], [], [], [], [], [], [], [], [], [], [], [], [], [], [], [], [], [], [], [], [], [], [0, 1], [0, 1], [], [], [], [0, 1, 2, 3], [0, 1, 2, 3], [], [0], [0], [], [], [], [], [], [], [0, 1, 2, 3, 4, 5, 6, 7, 8, 9, 10], [0, 1, 2, 3, 4, 5, 6, 7, 8, 9, 10], [0, 1, 2, 3, 4], [0, 1, 2, 3, 4], []]
def szT (t : Nat) : Nat := adm.getD t 0
def ofT (t k : Nat) : Nat := (adl.getD t []).getD k 0
def adN : List (List TV) := [[], [], [.int .i64 0], [.int .i64 0], [.bool false], [.int .u8 0], [.int .u8 0], [.int .i64 0, .int .i64 0, .bool false, .int .u8 0], [.int .i64 0, .int .i64 0, .bool false, .int .u8 0], [.str ⟨#[]⟩], [.str ⟨#[]⟩], [.str ⟨#[]⟩], [.int .u64 0], [.str ⟨#[]⟩, .int .u64 0], [.str ⟨#[]⟩, .int .u64 0], [.nilp], [.nilp], [.nilp], [.nilp], [.nilp], [], [.int .i32 0], [.nils], [.nils], [.nils], [.nils, .nils, .nils, .int .i64 0], [.nils, .nils, .nils, .int .i64 0], [], [.nils], [.nils], [.nils], [.nils, .nils, .nils, .int .i64 0], [.nils, .nils, .nils, .int .i64 0], [.nils], [.nils], [.nils, .nils, .nils, .int .i64 0, .int .i64 0, .int .i64 0], [.nils, .nils, .nils, .int .i64 0, .int .i64 0, .int .i64 0], [.nils], [.nils], [.nils], [.nils], [.int .i64 0, .int .i64 0, .str ⟨#[]⟩], [.int .i64 0, .int .i64 0, .str ⟨#[]⟩], [.nils, .nils, .nils, .int .i64 0, .nils, .nils, .nils, .int .i64 0, .int .i64 0, .int .i64 0, .nils, .nils, .nils, .nils, .int .i64 0, .int .i64 0, .int .i64 0, .int .i64 0, .str ⟨#[]⟩, .str ⟨#[]⟩], [.nils, .nils, .nils, .int .i64 0, .nils, .nils, .nils, .int .i64 0, .int .i64 0, .int .i64 0, .nils, .nils, .nils, .nils, .int .i64 0, .int .i64 0, .int .i64 0, .int .i64 0, .str ⟨#[]⟩, .str ⟨#[]⟩], [], [], [], [], [], [], [], [], [.nils], [.nils, .nils, .nils, .int .i64 0, .int .i64 0, .int .i64 0], [.nils, .nils, .nils, .int .i64 0, .int .i64 0, .int .i64 0], [.nils], [.nils], [.nils], [.int .i64 0, .int .i64 0, .str ⟨#[]⟩], [.nils, .nils, .nils, .int .i64 0, .nils, .nils, .nils, .int .i64 0, .int .i64 0, .int .i64 0, .nils, .nils, .nils, .nils, .int .i64 0, .int .i64 0, .int .i64 0, .int .i64 0, .str ⟨#[]⟩, .str ⟨#[]⟩], [.nils, .nils, .nils, .int .i64 0, .nils, .nils, .nils, .int .i64 0, .int .i64 0, .int .i64 0, .nils, .nils, .nils, .nils, .int .i64 0, .int .i64 0, .int .i64 0, .int .i64 0, .str ⟨#[]⟩, .str ⟨#[]⟩], [], [], [], [], [], [], [], [], [], [], [], [], [], [], [], [], [], [], [], [], [], [], [.nilp], [], [], [], [], [], [], [], [], [], [], [], [], [], [], [], [], [], [], [], [], [], [], [], [], [], [], [], [], [.nilp], [.nils], [.nils], [.nils, .nils, .nils, .nils, .nils], [.nils, .nils, .nils, .nils, .nils], [], [], [], [], [], [], [], [], [], [.nilp], [], [.nilp, .nils, .nils, .nils, .nils], [.nilp, .nils, .nils, .nils, .nils], [.str ⟨#[]⟩, .int .i64 0, .nils], [.str ⟨#[]⟩, .int .i64 0, .nils], [], [], [], [], [], [], [], [], [.int .i64 0, .int .i64 0, .nils, .nils], [.int .i64 0, .int .i64 0, .nils, .nils], [.int .i64 0, .bool false, .str ⟨#[]⟩, .int .i64 0], [.int .i64 0, .bool false, .str ⟨#[]⟩, .int .i64 0], [], [], [], [], [.int .i64 0, .int .i64 0, .int .i64 0, .int .i64 0, .int .i64 0, .str ⟨#[]⟩], [.int .i64 0, .int .i64 0, .int .i64 0, .int .i64 0, .int .i64 0, .str ⟨#[]⟩], [.nilp], [.int .i64 0, .int .i64 0, .int .i64 0, .int .i64 0, .int .i64 0, .int .i64 0, .int .i64 0, .int .i64 0, .str ⟨#[]⟩, .nils, .nils, .nils, .int .i64 0, .bool false], [.int .i64 0, .int .i64 0, .int .i64 0, .int .i64 0, .int .i64 0, .int .i64 0, .int .i64 0, .int .i64 0, .str ⟨#[]⟩, .nils, .nils, .nils, .int .i64 0, .bool false], [.nilp], [], [], [], [.int .i64 0, .bool false], [.int .i64 0, .bool false], [.nilp], [.nils], [.bool false, .int .i64 0, .int .i64 0, .nils], [.bool false, .int .i64 0, .int .i64 0, .nils], [.nilp], [], [], [], [], [], [], [], [], [.nils, .nils, .nils], [.nils, .nils, .nils], [], [], [], [], [], [], [.str ⟨#[]⟩, .int .i64 0, .nils], [], [.nils], [.bool false, .int .i64 0, .int .i64 0, .nils], [.bool false, .int .i64 0, .int .i64 0, .nils], [], [.int .i64 0, .bool false, .str ⟨#[]⟩, .int .i64 0], [], [], [], [], [], [], [], [], [], [], [], [], [], [.int .i64 0, .int .i64 0, .int .i64 0, .str ⟨#[]⟩], [.int .i64 0, .int .i64 0, .int .i64 0, .str ⟨#[]⟩], [], [], [], [], [], [], [], [], [], [], [], [], [], [], [.int .i64 0, .int .i64 0, .int .i64 0, .int .i64 0, .int .i64 0, .str ⟨#[]⟩], [.int .i64 0, .int .i64 0, .int .i64 0, .int .i64 0, .int .i64 0, .str ⟨#[]⟩], [], [.nils], [.int .i64 0, .int .i64 0, .int .i64 0, .int .i64 0, .int .i64 0, .int .i64 0, .int .i64 0, .int .i64 0, .str ⟨#[]⟩, .nils, .nils, .nils, .int .i64 0, .bool false], [.int .i64 0, .int .i64 0, .int .i64 0, .int .i64 0, .int .i64 0, .int .i64 0, .int .i64 0, .int .i64 0, .str ⟨#[]⟩, .nils, .nils, .nils, .int .i64 0, .bool false], [], [.nilp], [], [], [], [], [], [], [], [], [.nilp], [], [], [], [], [], [], [.int .i64 0, .bool false], [], [], [], [], [], [.nils], [], [], [], [], [], [], [], [], [], [.nils], [.nils], [.str ⟨#[]⟩, .bool false, .nils, .nils, .nils], [.str ⟨#[]⟩, .bool false, .nils, .nils, .nils], [.nils, .str ⟨#[]⟩, .bool false, .nils, .nils, .nils], [.nils, .str ⟨#[]⟩, .bool false, .nils, .nils, .nils], [], [.nilp], [], [.nilp], [], [], [], [], [], [], [], [.nils], [], [.nilp], [.nilp], [], [], [.nils], [], [.int .i64 0, .int .i64 0], [.int .i64 0, .int .i64 0], [], [], [], [], [], [], [], [], [.int .i64 0, .int .i64 0, .nils, .nils], [.int .i64 0, .int .i64 0, .nils, .nils], [], [], [], [], [], [], [], [], [], [.nils], [], [.nils], [], [], [], [.int .i64 0, .int .i64 0, .int .i64 0, .str ⟨#[]⟩], [], [], [.nils], [.str ⟨#[]⟩, .str ⟨#[]⟩, .nils, .nils], [.str ⟨#[]⟩, .str ⟨#[]⟩, .nils, .nils], [], [], [], [], [], [], [], [.int .u64 0], [], [], [], [], [], [], [], [], [], [], [], [.int .u32 0], [], [], [.int .u64 0], [], [], [], [], [], [], [], [], [.int .u8 0, .int .u8 0], [.int .u8 0, .int .u8 0], [.int .u8 0, .int .u8 0, .int .u8 0, .int .u8 0, .int .u8 0, .int .u8 0, .int .u8 0, .int .u8 0, .int .u8 0, .int .u8 0, .int .u8 0, .int .u8 0, .int .u8 0, .int .u8 0, .int .u8 0, .int .u8 0, .int .u8 0, .int .u8 0, .int .u8 0, .int .u8 0, .int .u8 0, .int .u8 0, .int .u8 0, .int .u8 0, .int .u8 0, .int .u8 0, .int .u8 0, .int .u8 0, .int .u8 0, .int .u8 0, .int .u8 0, .int .u8 0], [], [], [.nilp, .nilp, .nilp, .str ⟨#[]⟩], [.nilp, .nilp, .nilp, .str ⟨#[]⟩], [], [], [], [.int .u8 0], [.int .u8 0], [], [.nilp], [.int .i32 0], [.int .i32 0], [], [], [.int .i64 0, .str ⟨#[]⟩, .int .i64 0, .nils, .nils], [.int .i64 0, .str ⟨#[]⟩, .int .i64 0, .nils, .nils], [.nilp]]
def zT (t : Nat) : List TV := adN.getD t []
def adS : List (Option IntKind) := [none, none, some .i64, some .i64, none, some .u8, some .u8, none, none, none, none, none, some .u64, none, none, none, none, none, none, none, none, some .i32, none, none, none, none, none, none, none, none, none, none, none, none, none, none, none, none, none, none, none, none, none, none, none, none, none, none, none, none, none, none, none, none, none, none, none, none, none, none, none, none, none, none, none, none, none, none, none, none, none, none, none, none, none, none, none, none, none, none, none, none, none, none, none, none, none, none, none, none, none, none, none, none, none, none, none, none, none, none, none, none, none, none, none, none, none, none, none, none, none, none, none, none, none, none, none, none, none, none, none, none, none, none, none, none, none, none, none, none, none, none, none, none, none, none, none, none, none, none, none, none, none, none, none, none, none, none, none, none, none, none, none, none, none, none, none, none, none, none, none, none, none, none, none, none, none, none, none, none, none, none, none, none, none, none, none, none, none, none, none, none, none, none, none, none, none, none, none, none, none, none, none, none, none, none, none, none, none, none, none, none, none, none, none, none, none, none, none, none, none, none, none, none, none, none, none, none, none, none, none, none, none, none, none, none, none, none, none, none, none, none, none, none, none, none, none, none, none, none, none, none, none, none, none, none, none, none, none, none, none, none, none, none, none, none, none, none, none, none, none, none, none, none, none, none, none, none, none, none, none, none, none, none, none, none, none, none, none, none, none, none, none, none, none, none, none, none, none, none, none, none, none, none, none, none, none, none, none, none, none, none, none, none, none, none, none, none, none, none, none, none, none, none, none, none, none, none, none, none, none, some .u64, none, none, none, none, none, none, none, none, none, none, none, some .u32, none, none, some .u64, none, none, none, none, none, none, none, none, none, none, none, none, none, none, none, none, none, none, some .u8, some .u8, none, none, some .i32, some .i32, none, none, none, none, none]
def kdT (t : Nat) : Option IntKind := adS.getD t none
def adC : List (Option Nat) := [none, none, none, none, none, none, none, none, none, none, none, none, none, none, none, none, none, none, none, none, none, none, some 3, some 4, some 4, none, none, none, some 3, some 4, some 4, none, none, some 4, some 1, none, none, some 6, some 14, some 2, some 1, none, none, none, none, none, none, none, none, none, none, none, none, some 4, none, none, some 6, some 14, some 2, none, none, none, none, none, none, none, none, none, none, none, none, none, none, none, none, none, none, none, none, none, none, none, none, none, none, none, none, none, none, none, none, none, none, none, none, none, none, none, none, none, none, none, none, none, none, none, none, none, none, none, none, none, none, none, some 1, some 3, none, none, none, none, none, none, none, none, none, none, none, none, none, none, none, none, none, none, none, none, none, none, none, none, none, none, none, none, none, none, none, none, none, none, none, none, none, none, none, none, none, none, none, none, none, some 4, none, none, none, none, none, none, none, none, none, none, none, none, none, none, none, none, none, none, none, none, none, some 4, none, none, none, none, none, none, none, none, none, none, none, none, none, none, none, none, none, none, none, none, none, none, none, none, none, none, none, none, none, none, none, none, none, none, none, none, some 3, none, none, none, none, none, none, none, none, none, none, none, none, none, none, none, none, none, none, none, none, none, none, none, none, none, some 1, none, none, none, none, none, none, none, none, none, some 4, some 5, none, none, none, none, none, none, none, none, none, none, none, none, none, none, none, some 1, none, none, none, none, none, some 2, none, none, none, none, none, none, none, none, none, none, none, none, none, none, none, none, none, none, none, none, none, none, some 1, none, some 1, none, none, none, none, none, none, some 5, none, none, none, none, none, none, none, none, none, none, none, none, none, none, none, none, none, none, none, none, none, none, none, none, none, none, none, none, none, none, none, none, none, none, none, none, none, none, none, none, none, none, none, none, none, none, none, none, none, none, none, none, none, none]
def esT (t : Nat) : Option Nat := adC.getD t none
def adP : List Bool := [false, false, false, false, false, false, false, true, true, false, false, false, false, true, true, false, false, false, true, true, false, false, false, false, false, true, true, false, false, false, false, true, true, false, false, true, true, false, false, false, false, true, true, true, true, false, false, false, false, false, false, false, false, false, true, true, false, false, false, true, true, true, false, false, false, false, false, false, false, false, false, false, false, false, false, false, false, false, false, false, false, false, false, false, false, false, false, false, false, false, false, false, false, false, false, false, false, false, false, false, false, false, false, false, false, false, false, false, false, false, false, false, false, false, false, false, true, true, false, false, false, false, false, false, false, false, false, false, false, true, true, true, true, false, false, false, false, false, false, false, false, true, true, true, true, false, false, false, false, true, true, false, true, true, false, false, false, false, true, true, false, false, true, true, false, false, true, true, false, false, false, false, false, true, true, false, false, false, false, false, false, true, false, false, true, true, false, true, false, false, false, false, false, false, false, false, false, false, false, false, false, true, true, false, false, false, false, false, false, false, false, false, false, false, false, false, false, true, true, false, false, true, true, false, false, false, false, false, false, false, false, false, false, false, false, false, false, false, false, false, true, false, false, false, false, false, false, false, false, false, false, false, false, false, false, false, false, false, true, true, true, true, false, false, false, false, false, false, false, false, false, false, false, false, false, false, false, false, false, false, false, true, true, false, false, false, false, false, false, false, false, true, true, false, false, false, false, false, false, false, false, false, false, false, false, false, false, false, true, false, false, false, true, true, false, false, false, false, false, false, false, false, false, false, false, false, false, false, false, false, false, false, false, false, false, false, false, false, false, false, false, false, false, false, true, true, true, true, false, false, true, true, true, true, true, false, false, false, false, false, false, true, true, true, true, false]
def agT (t : Nat) : Bool := adP.getD t false
def adw : List (List TV) := [[], [], [], [], [], [], [], [], [], [], [], [], [], [], [], [], [], [], [], [], [], [], [.str ⟨#[]⟩, .int .i64 0, .nils], [.bool false, .int .i64 0, .int .i64 0, .nils], [.int .i64 0, .bool false, .str ⟨#[]⟩, .int .i64 0], [], [], [], [.str ⟨#[]⟩, .int .i64 0, .nils], [.bool false, .int .i64 0, .int .i64 0, .nils], [.int .i64 0, .bool false, .str ⟨#[]⟩, .int .i64 0], [], [], [.int .i64 0, .int .i64 0, .nils, .nils], [.str ⟨#[]⟩], [], [], [.int .i64 0, .int .i64 0, .int .i64 0, .int .i64 0, .int .i64 0, .str ⟨#[]⟩], [.int .i64 0, .int .i64 0, .int .i64 0, .int .i64 0, .int .i64 0, .int .i64 0, .int .i64 0, .int .i64 0, .str ⟨#[]⟩, .nils, .nils, .nils, .int .i64 0, .bool false], [.int .i64 0, .bool false], [.int .i64 0], [], [], [], [], [], [], [], [], [], [], [], [], [.int .i64 0, .int .i64 0, .nils, .nils], [], [], [.int .i64 0, .int .i64 0, .int .i64 0, .int .i64 0, .int .i64 0, .str ⟨#[]⟩], [.int .i64 0, .int .i64 0, .int .i64 0, .int .i64 0, .int .i64 0, .int .i64 0, .int .i64 0, .int .i64 0, .str ⟨#[]⟩, .nils, .nils, .nils, .int .i64 0, .bool false], [.int .i64 0, .bool false], [], [], [], [], [], [], [], [], [], [], [], [], [], [], [], [], [], [], [], [], [], [], [], [], [], [], [], [], [], [], [], [], [], [], [], [], [], [], [], [], [], [], [], [], [], [], [], [], [], [], [], [], [], [], [], [.bool false], [.int .i64 0, .int .i64 0, .str ⟨#[]⟩], [], [], [], [], [], [], [], [], [], [], [], [], [], [], [], [], [], [], [], [], [], [], [], [], [], [], [], [], [], [], [], [], [], [], [], [], [], [], [], [], [], [], [], [], [], [.int .i64 0, .int .i64 0, .int .i64 0, .str ⟨#[]⟩], [], [], [], [], [], [], [], [], [], [], [], [], [], [], [], [], [], [], [], [], [], [.int .i64 0, .int .i64 0, .int .i64 0, .str ⟨#[]⟩], [], [], [], [], [], [], [], [], [], [], [], [], [], [], [], [], [], [], [], [], [], [], [], [], [], [], [], [], [], [], [], [], [], [], [], [], [.int .i64 0, .int .i64 0, .str ⟨#[]⟩], [], [], [], [], [], [], [], [], [], [], [], [], [], [], [], [], [], [], [], [], [], [], [], [], [], [.int .u8 0], [], [], [], [], [], [], [], [], [], [.str ⟨#[]⟩, .str ⟨#[]⟩, .nils, .nils], [.int .i64 0, .str ⟨#[]⟩, .int .i64 0, .nils, .nils], [], [], [], [], [], [], [], [], [], [], [], [], [], [], [], [.nilp], [], [], [], [], [], [.int .i64 0, .int .i64 0], [], [], [], [], [], [], [], [], [], [], [], [], [], [], [], [], [], [], [], [], [], [], [.nils], [], [.nils], [], [], [], [], [], [], [.str ⟨#[]⟩, .bool false, .nils, .nils, .nils], [], [], [], [], [], [], [], [], [], [], [], [], [], [], [], [], [], [], [], [], [], [], [], [], [], [], [], [], [], [], [], [], [], [], [], [], [], [], [], [], [], [], [], [], [], [], [], [], [], [], [], [], [], []]
def ezT (t : Nat) : List TV := adw.getD t []

def tv1 : Value → Option TV
  | .int k n => some (.int k n)
  | .bool b => some (.bool b)
  | .string s => some (.str s)
  | .slice none 0 0 => some .nils
  | .pointer none => some .nilp
  | _ => none
def tvL : List Value → Option (List TV)
  | [] => some []
  | v :: r => match tv1 v, tvL r with
    | some t, some l => some (t :: l)
    | _, _ => none
def adn : Value → Option TV
  | .agg vs => (tvL vs.toList).map .agg
  | v => tv1 v
def ev (env : Env) : Operand → Option TV
  | .tmp t => lk t env
  | .const v => adn v
  | .func f => some (.fn f [])
  | .global _ => none

theorem xG {w : World} {objs : aI} {v : Value} {t : TV} (h : tv1 v = some t) : Rep w objs t v := by
  unfold tv1 at h
  split at h <;> first | (cases h; done) | skip
  all_goals simp only [Option.some.injEq] at h
  all_goals subst h
  · exact .int _ _
  · exact .bool _
  · exact .str _
  · exact .nils
  · exact .nilp
theorem zF {v : Value} {t : TV} (h : tv1 v = some t) : t.isCell = true := by
  unfold tv1 at h
  split at h <;> first | (cases h; done) | (simp only [Option.some.injEq] at h; subst h; rfl)
theorem kt {w : World} {objs : aI} : ∀ {vs : List Value} {l : List TV}, tvL vs = some l → (l.length = vs.length ∧ ∀ t ∈ l, t.isCell = true) ∧ ∀ (i : Nat) (t : TV) (v : Value), l[i]? = some t → vs[i]? = some v → Rep w objs t v
  | [], l, h => by simp only [tvL, Option.some.injEq] at h; subst h; simp
  | v :: r, l, h => by
    unfold tvL at h
    split at h
    · rename_i t l' h1 h2
      simp only [Option.some.injEq] at h
      subst h
      obtain ⟨h3, h4⟩ := kt (w := w) (objs := objs) (vs := r) h2
      refine ⟨⟨by simp [h3.1], fun x hx => by
        rcases List.mem_cons.1 hx with rfl | hx
        · exact zF h1
        · exact h3.2 x hx⟩, fun i t' v' ht hv => ?_⟩
      cases i with
      | zero => simp at ht hv; subst ht; subst hv; exact xG h1
      | succ i => exact h4 i t' v' (by simpa using ht) (by simpa using hv)
    · cases h
theorem j6 {w : World} {objs : aI} {v : Value} {t : TV} (h : adn v = some t) : Rep w objs t v := by
  unfold adn at h
  split at h
  · rename_i vs
    rw [Option.map_eq_some_iff] at h
    obtain ⟨l, h1, rfl⟩ := h
    obtain ⟨h2, h3⟩ := kt (w := w) (objs := objs) h1
    exact .agg l vs h2.2 (by simpa using h2.1) (fun i t v ht hv => h3 i t v ht (by simpa using hv))
  · exact xG h

def aS (P : Program) (w0 : World) (env : Env) (objs : aI) (o : Oper) (tv : TV) : Prop :=
  ∀ (a : Act) (w : World) (K : Act → World → Prop) (Q : Exit → Act → World → Prop), du w0 objs w →
    (∀ x ∈ o.op.operands.toList, ∀ v, ev env x = some v → Rep w objs v (a.eval x)) →
    (∀ v w', Rep w' objs tv v → du w0 objs w' → jz w objs w' objs → K (a.put o.dst v) w') → o.wp P a w K Q

theorem cy {P : Program} {s : Sem Value} {v : Value} {w w' : World} (h : s.run P w = .ok v w') : (do pure (Next.value (← s)) : Sem Next).run P w = .ok (.value v) w' := by
  show (Sem.bind s fun v => Sem.pure (Next.value v)).run P w = _
  have := Sem.run_bind P w s (fun v => (Pure.pure (Next.value v) : Sem Next))
  rw [h] at this
  exact this

section
variable {P : Program} {w0 : World} {N : Nat} {Q : Exit → Act → World → Prop} {env : Env} {objs : aI} {o : Oper}

theorem aL {tv : TV} (h : ∀ (a : Act) (w : World), du w0 objs w → (∀ x ∈ o.op.operands.toList, ∀ v, ev env x = some v → Rep w objs v (a.eval x)) →
    ∃ v, (execOp a.eval o).run P w = .ok (.value v) w ∧ Rep w objs tv v) : aS P w0 env objs o tv := fun a w K Q hw hop hK => by
  obtain ⟨v, h1, h2⟩ := h a w hw hop
  unfold Oper.wp
  rw [h1]
  exact hK v w h2 hw ⟨fun _ _ _ => rfl, fun _ _ h => h, fun _ _ _ rows _ _ h => ⟨⟨rows, h⟩, rfl⟩, Nat.le_refl _, id⟩

theorem eR {a : Act} {w : World} (hs : Sim w0 N env objs a w) {x : Operand} {v : TV} (h : ev env x = some v) : Rep w objs v (a.eval x) := by
  cases x with
  | tmp t => exact hs.env t v h
  | const u => exact j6 h
  | func f => simp only [ev, Option.some.injEq] at h; subst h; exact .fn f [] #[] rfl (by simp)
  | global g => cases h

theorem fu {l : Array Value} {d t : Nat} {v : Value} (hd : d < l.size) : (l.setIfInBounds d v).getD t undef = if d = t then v else l.getD t undef := by
  by_cases h : d = t
  · subst h; simp [hd]
  · simp [h]
theorem Sim.put {a : Act} {w w' : World} (hs : Sim w0 N env objs a w) {d : Nat} (hd : Nat.blt d N = true) {tv : TV} {v : Value} (hr : Rep w' objs tv v) (hw : du w0 objs w') (hst : jz w objs w' objs) : Sim w0 N ((d, tv) :: env) objs (a.put (some d) v) w' := by
  have hlt : d < a.tmps.size := by rw [hs.size]; exact Nat.blt_eq ▸ hd
  refine ⟨hs.defers, by simp [Act.put, hs.size], hw, fun t u hu => ?_⟩
  rw [bI] at hu
  show Rep w' objs u ((a.tmps.setIfInBounds d v).getD t undef)
  rw [fu hlt]
  split at hu
  · rename_i e; subst e; simp only [Option.some.injEq] at hu; subst hu; simp only [if_true]; exact hr
  · rename_i e; rw [if_neg e]; exact (hs.env t u hu).step hst
theorem Sim.putUndef {a : Act} {w : World} (hs : Sim w0 N env objs a w) {d : Nat} (hd : Nat.blt d N = true) : Sim w0 N ((d, .tup []) :: env) objs (a.put (some d) undef) w :=
  hs.put hd (.tup [] #[] rfl (by simp)) hs.mem ⟨fun _ _ _ => rfl, fun _ _ h => h, fun _ _ _ rows _ _ h => ⟨⟨rows, h⟩, rfl⟩, Nat.le_refl _, id⟩

theorem ch {ops : Array Oper} {rest : List Oper} (hg : o.guard = none) (h : AO P w0 N ops Q o rest env objs) : AL P w0 N ops Q (o :: rest) env objs := ⟨fun a w hs => wpList_plain hg fun K hK => h.run a w K hs hK⟩
theorem uM {ops : Array Oper} {rest : List Oper} {d : Nat} {tv : TV} (hd : o.dst = some d) (hN : Nat.blt d N = true) (hy : aS P w0 env objs o tv) (h : AL P w0 N ops Q rest ((d, tv) :: env) objs) : AO P w0 N ops Q o rest env objs :=
  ⟨fun a w K hs hK => hy a w K Q hs.mem (fun x _ v hv => eR hs hv) fun v w' hr hw hst => hK _ _ (by rw [hd]; exact h.run _ _ (hs.put hN hr hw hst))⟩
theorem fP {ops : Array Oper} {a : Act} {j d : Nat} {b : Bool} (hj : (ops[j]?).bind (·.dst) = some d) (hv : a.tmps.getD d undef = .bool b) : yielded ops a.tmps j = some b := by
  simp only [yielded, hj]
  simp [Array.getD_eq_getD_getElem?] at hv
  cases h : a.tmps[d]? with
  | none => rw [h] at hv; simp [undef] at hv
  | some x => rw [h] at hv; simp at hv; subst hv; simp [h]
theorem ff {ops : Array Oper} {rest : List Oper} {dj j : Nat} {b : Bool} {v : TV} (hg : o.guard = some (j, b)) (hj : (ops[j]?).bind (·.dst) = some dj) (hb : lk dj env = some v) (hv : v = .bool b) (h : AO P w0 N ops Q o rest env objs) : AL P w0 N ops Q (o :: rest) env objs := ⟨fun a w hs =>
  wpList_step fun K hK => by
    subst hv
    have hw : Region.wanted o (yielded ops a.tmps) = true := by simp [Region.wanted, hg, fP hj (hs.env _ _ hb).bool_inv]
    rw [if_pos hw]
    exact h.run a w K hs hK⟩
theorem dH {ops : Array Oper} {rest : List Oper} {d dj j : Nat} {b c : Bool} {v : TV} (hg : o.guard = some (j, c)) (hj : (ops[j]?).bind (·.dst) = some dj) (hb : lk dj env = some v) (hv : v = .bool b) (hc : c = !b) (hd : o.dst = some d) (hN : Nat.blt d N = true)
    (h : AL P w0 N ops Q rest ((d, .tup []) :: env) objs) : AL P w0 N ops Q (o :: rest) env objs := ⟨fun a w hs =>
  wpList_step fun K hK => by
    subst hv; subst hc
    have hw : Region.wanted o (yielded ops a.tmps) = false := by cases b <;> simp [Region.wanted, hg, fP hj (hs.env _ _ hb).bool_inv]
    rw [hw]
    exact hK _ _ (by rw [hd]; exact h.run _ _ (hs.putUndef hN))⟩

theorem Rep.undef_inv {w : World} {v : Value} (h : Rep w objs (.tup []) v) : v = undef := by
  cases h with
  | tup l vs h h2 =>
    have : vs = #[] := Array.eq_empty_of_size_eq_zero (by simpa using h.symm)
    subst this; rfl
theorem eU {ops : Array Oper} {a : Act} {j d : Nat} (hj : (ops[j]?).bind (·.dst) = some d) (hv : a.tmps.getD d undef = undef) : yielded ops a.tmps j = none := by
  simp only [yielded, hj]
  simp [Array.getD_eq_getD_getElem?] at hv
  cases h : a.tmps[d]? with
  | none => simp [h]
  | some x => rw [h] at hv; simp [undef] at hv; subst hv; simp [h]
theorem cT {ops : Array Oper} {rest : List Oper} {d dj j : Nat} {c : Bool} {v : TV} (hg : o.guard = some (j, c)) (hj : (ops[j]?).bind (·.dst) = some dj) (hb : lk dj env = some v) (hv : v = .tup []) (hd : o.dst = some d) (hN : Nat.blt d N = true)
    (h : AL P w0 N ops Q rest ((d, .tup []) :: env) objs) : AL P w0 N ops Q (o :: rest) env objs := ⟨fun a w hs =>
  wpList_step fun K hK => by
    subst hv
    have hw : Region.wanted o (yielded ops a.tmps) = false := by simp [Region.wanted, hg, eU hj (hs.env _ _ hb).undef_inv]
    rw [hw]
    exact hK _ _ (by rw [hd]; exact h.run _ _ (hs.putUndef hN))⟩

theorem Sim.know {a : Act} {w : World} (hs : Sim w0 N env objs a w) {t : Nat} {v : TV} (hv : lk t env = some v) {v' : TV} (h : v = v') : Sim w0 N ((t, v') :: env) objs a w :=
  ⟨hs.defers, hs.size, hs.mem, fun t' u hu => by
    rw [bI] at hu
    split at hu
    · rename_i e; subst e; simp only [Option.some.injEq] at hu; subst hu; subst h; exact hs.env _ _ hv
    · exact hs.env _ _ hu⟩
theorem zN {ops : Array Oper} {rest : List Oper} {t : Nat} {p : Prop} {i : Decidable p} (hv : lk t env = some (.bool (@decide p i))) (ht : p → AL P w0 N ops Q rest ((t, .bool true) :: env) objs) (hf : ¬ p → AL P w0 N ops Q rest ((t, .bool false) :: env) objs) :
    AL P w0 N ops Q rest env objs := ⟨fun a w hs => by
  by_cases h : p
  · exact (ht h).run a w (hs.know hv (by simp [h]))
  · exact (hf h).run a w (hs.know hv (by simp [h]))⟩
theorem dy {ops : Array Oper} {rest : List Oper} {j d : Nat} {b : Bool} {p : Prop} {i : Decidable p} {v : TV} (_hg : o.guard = some (j, b)) (_hj : (ops[j]?).bind (·.dst) = some d) (hv : lk d env = some v) (he : v = .bool (@decide p i))
    (ht : p → AL P w0 N ops Q (o :: rest) ((d, .bool true) :: env) objs) (hf : ¬ p → AL P w0 N ops Q (o :: rest) ((d, .bool false) :: env) objs) : AL P w0 N ops Q (o :: rest) env objs := zN (he ▸ hv) ht hf
theorem wN {ops : Array Oper} {rest : List Oper} {t : Nat} {b : Bool} (hv : lk t env = some (.bool b)) (ht : b = true → AL P w0 N ops Q rest ((t, .bool true) :: env) objs) (hf : b = false → AL P w0 N ops Q rest ((t, .bool false) :: env) objs) :
    AL P w0 N ops Q rest env objs := ⟨fun a w hs => by
  cases b
  · exact (hf rfl).run a w (hs.know hv rfl)
  · exact (ht rfl).run a w (hs.know hv rfl)⟩

theorem jo {ops : Array Oper} {rest : List Oper} {j d : Nat} {b : Bool} {p : Prop} {i : Decidable p} {v : TV} (hg : o.guard = some (j, b)) (hj : (ops[j]?).bind (·.dst) = some d) (hv : lk d env = some v) (he : v = .bool (@decide p i)) (hp : p)
    (ht : AL P w0 N ops Q (o :: rest) ((d, .bool true) :: env) objs) : AL P w0 N ops Q (o :: rest) env objs := dy hg hj hv he (fun _ => ht) (fun h => absurd hp h)
theorem jd {ops : Array Oper} {rest : List Oper} {j d : Nat} {b : Bool} {p : Prop} {i : Decidable p} {v : TV} (hg : o.guard = some (j, b)) (hj : (ops[j]?).bind (·.dst) = some d) (hv : lk d env = some v) (he : v = .bool (@decide p i)) (hp : ¬ p)
    (hf : AL P w0 N ops Q (o :: rest) ((d, .bool false) :: env) objs) : AL P w0 N ops Q (o :: rest) env objs := dy hg hj hv he (fun h => absurd h hp) (fun _ => hf)
theorem dn {ops : Array Oper} {rest : List Oper} {j d : Nat} {b c : Bool} {v : TV} (_hg : o.guard = some (j, b)) (_hj : (ops[j]?).bind (·.dst) = some d) (hv : lk d env = some v) (he : v = .bool c)
    (ht : c = true → AL P w0 N ops Q (o :: rest) ((d, .bool true) :: env) objs) (hf : c = false → AL P w0 N ops Q (o :: rest) ((d, .bool false) :: env) objs) : AL P w0 N ops Q (o :: rest) env objs := wN (he ▸ hv) ht hf

theorem ac1 {α : Type} [BEq α] [LawfulBEq α] [DecidableEq α] (a b : α) : (a == b) = decide (a = b) := by rw [Bool.eq_iff_iff]; simp
/- The operations. -/
theorem aa0 {x : Operand} {tv : TV} (ho : o.op = .move x) (hx : ev env x = some tv) : aS P w0 env objs o tv := aL fun a w _ hop =>
  ⟨a.eval x, by simp [execOp, ho, Sem.run_pure], hop x (by simp [ho, Op.operands]) _ hx⟩
theorem vr {x : Operand} {tv : TV} (ho : o.op = .assign x) (hx : ev env x = some tv) : aS P w0 env objs o tv := aL fun a w _ hop =>
  ⟨a.eval x, by simp [execOp, ho, Sem.run_pure], hop x (by simp [ho, Op.operands]) _ hx⟩
theorem aaC {c x y : Operand} {tv cv : TV} (ho : o.op = .pick c x y) (hc : ev env c = some cv) (he : cv = .bool true) (hx : ev env x = some tv) : aS P w0 env objs o tv := aL fun a w _ hop => by
  subst he
  have h1 := (hop c (by simp [ho, Op.operands]) _ hc).bool_inv
  exact ⟨a.eval x, by simp [execOp, ho, h1, asBool, Sem.run_pure], hop x (by simp [ho, Op.operands]) _ hx⟩
theorem aau {c x y : Operand} {tv cv : TV} (ho : o.op = .pick c x y) (hc : ev env c = some cv) (he : cv = .bool false) (hx : ev env y = some tv) : aS P w0 env objs o tv := aL fun a w _ hop => by
  subst he
  have h1 := (hop c (by simp [ho, Op.operands]) _ hc).bool_inv
  exact ⟨a.eval y, by simp [execOp, ho, h1, asBool, Sem.run_pure], hop y (by simp [ho, Op.operands]) _ hx⟩

theorem ir {op : BinOp} {t : TypeId} {x y : Operand} {k : IntKind} {m : Int} {v : Value} {w : World} : (eqGuard op t x y (.int k m) v).run P w = .ok () w := by
  unfold eqGuard
  split <;> simp_all [Sem.run_pure]
theorem gJ {op : BinOp} {t : TypeId} {x y : Operand} {b : Bool} {v : Value} {w : World} : (eqGuard op t x y (.bool b) v).run P w = .ok () w := by
  unfold eqGuard
  split <;> simp_all [Sem.run_pure]
theorem mo {op : BinOp} {t : TypeId} {x y : Operand} {b : ByteArray} {v : Value} {w : World} : (eqGuard op t x y (.string b) v).run P w = .ok () w := by
  unfold eqGuard
  split <;> simp_all [Sem.run_pure]

theorem cG {op : BinOp} {t t2 : TypeId} {x y : Operand} {k : IntKind} {m n : Int} {tv : TV} (ho : o.op = .binOp op t x y t2) (hx : ev env x = some (.int k m)) (hy : ev env y = some (.int k n))
    (hr : ∀ w : World, ∃ v, (binOp op t (.int k m) (.int k n)).run P w = .ok v w ∧ Rep w objs tv v) : aS P w0 env objs o tv := aL fun a w _ hop => by
  have h1 := (hop x (by simp [ho, Op.operands]) _ hx).int_inv
  have h2 := (hop y (by simp [ho, Op.operands]) _ hy).int_inv
  obtain ⟨v, h3, h4⟩ := hr w
  exact ⟨v, by simp [execOp, ho, h1, h2, Sem.run_bind, ir, h3], h4⟩
section
variable {t t2 : TypeId} {x y : Operand} {k : IntKind} {m n : Int}
theorem ade {c : Int} (ho : o.op = .binOp .add t x y t2) (hx : ev env x = some (.int k m)) (hy : ev env y = some (.int k n)) (hc : k.wrap (m + n) = c) : aS P w0 env objs o (.int k c) :=
  cG ho hx hy fun w => ⟨_, by simp [binOp, Op.intArith, Sem.run_pure]; rfl, by rw [hc]; exact .int k c⟩
theorem adr {c : Int} (ho : o.op = .binOp .sub t x y t2) (hx : ev env x = some (.int k m)) (hy : ev env y = some (.int k n)) (hc : k.wrap (m - n) = c) : aS P w0 env objs o (.int k c) :=
  cG ho hx hy fun w => ⟨_, by simp [binOp, Op.intArith, Sem.run_pure]; rfl, by rw [hc]; exact .int k c⟩
theorem adz {c : Int} (ho : o.op = .binOp .mul t x y t2) (hx : ev env x = some (.int k m)) (hy : ev env y = some (.int k n)) (hc : k.wrap (m * n) = c) : aS P w0 env objs o (.int k c) :=
  cG ho hx hy fun w => ⟨_, by simp [binOp, Op.intArith, Sem.run_pure]; rfl, by rw [hc]; exact .int k c⟩
theorem adB {c : Int} (ho : o.op = .binOp .quo t x y t2) (hx : ev env x = some (.int k m)) (hy : ev env y = some (.int k n)) (hn : n ≠ 0) (hc : k.wrap (m.tdiv n) = c) : aS P w0 env objs o (.int k c) :=
  cG ho hx hy fun w => ⟨_, by simp [binOp, Op.intDiv, Sem.run_pure, hn]; rfl, by rw [hc]; exact .int k c⟩
theorem adv {c : Int} (ho : o.op = .binOp .rem t x y t2) (hx : ev env x = some (.int k m)) (hy : ev env y = some (.int k n)) (hn : n ≠ 0) (hc : m.tmod n = c) : aS P w0 env objs o (.int k c) :=
  cG ho hx hy fun w => ⟨_, by simp [binOp, Op.intDiv, Sem.run_pure, hn]; rfl, by rw [hc]; exact .int k c⟩
def orI (k : IntKind) (m n : Int) : Int := k.wrap ((BitVec.ofInt k.bits m ||| BitVec.ofInt k.bits n).toNat : Int)
def adJ (k : IntKind) (m n : Int) : Int := k.wrap ((BitVec.ofInt k.bits m &&& BitVec.ofInt k.bits n).toNat : Int)
def acS (k : IntKind) (m n : Int) : Int := k.wrap (m * 2 ^ (min n.toNat k.bits))
theorem adO (ho : o.op = .binOp .or t x y t2) (hx : ev env x = some (.int k m)) (hy : ev env y = some (.int k n)) : aS P w0 env objs o (.int k (orI k m n)) :=
  cG ho hx hy fun w => ⟨_, by simp [binOp, Op.intBits, Sem.run_pure]; rfl, .int k _⟩
theorem ac8 (ho : o.op = .binOp .and t x y t2) (hx : ev env x = some (.int k m)) (hy : ev env y = some (.int k n)) : aS P w0 env objs o (.int k (adJ k m n)) :=
  cG ho hx hy fun w => ⟨_, by simp [binOp, Op.intBits, Sem.run_pure]; rfl, .int k _⟩
theorem adc {k2 : IntKind} (ho : o.op = .binOp .shl t x y t2) (hx : ev env x = some (.int k m)) (hy : ev env y = some (.int k2 n)) (hn : 0 ≤ n) : aS P w0 env objs o (.int k (acS k m n)) := aL fun a w _ hop => by
  have h1 := (hop x (by simp [ho, Op.operands]) _ hx).int_inv
  have h2 := (hop y (by simp [ho, Op.operands]) _ hy).int_inv
  refine ⟨.int k (acS k m n), ?_, .int k _⟩
  have h3 : ¬ n < 0 := by omega
  simp [execOp, ho, h1, h2, ir, binOp, Op.shift, h3, acS]
theorem ac5 (ho : o.op = .binOp .eql t x y t2) (hx : ev env x = some (.int k m)) (hy : ev env y = some (.int k n)) : aS P w0 env objs o (.bool (decide (m = n))) :=
  cG ho hx hy fun w => ⟨.bool (m == n), by simp [binOp, Op.intCmp, Sem.run_pure], by rw [ac1]; exact .bool _⟩
theorem acZ (ho : o.op = .binOp .neq t x y t2) (hx : ev env x = some (.int k m)) (hy : ev env y = some (.int k n)) : aS P w0 env objs o (.bool (decide (m ≠ n))) :=
  cG ho hx hy fun w => ⟨.bool (m != n), by simp [binOp, Op.intCmp, Sem.run_pure], by
    have : (m != n) = decide (m ≠ n) := by rw [bne, ac1]; simp
    rw [this]; exact .bool _⟩
theorem acX (ho : o.op = .binOp .lss t x y t2) (hx : ev env x = some (.int k m)) (hy : ev env y = some (.int k n)) : aS P w0 env objs o (.bool (decide (m < n))) :=
  cG ho hx hy fun w => ⟨_, by simp only [binOp, Op.intCmp, ne_eq, not_true_eq_false, if_false]; rfl, .bool _⟩
theorem adb (ho : o.op = .binOp .leq t x y t2) (hx : ev env x = some (.int k m)) (hy : ev env y = some (.int k n)) : aS P w0 env objs o (.bool (decide (m ≤ n))) :=
  cG ho hx hy fun w => ⟨_, by simp only [binOp, Op.intCmp, ne_eq, not_true_eq_false, if_false]; rfl, .bool _⟩
theorem adf (ho : o.op = .binOp .gtr t x y t2) (hx : ev env x = some (.int k m)) (hy : ev env y = some (.int k n)) : aS P w0 env objs o (.bool (decide (n < m))) :=
  cG ho hx hy fun w => ⟨_, by simp only [binOp, Op.intCmp, ne_eq, not_true_eq_false, if_false]; rfl, .bool _⟩
theorem adq (ho : o.op = .binOp .geq t x y t2) (hx : ev env x = some (.int k m)) (hy : ev env y = some (.int k n)) : aS P w0 env objs o (.bool (decide (n ≤ m))) :=
  cG ho hx hy fun w => ⟨_, by simp only [binOp, Op.intCmp, ne_eq, not_true_eq_false, if_false]; rfl, .bool _⟩
theorem vM {src dst : TypeId} {k2 : IntKind} {c : Int} (ho : o.op = .convert src dst x) (hx : ev env x = some (.int k m)) (_hk : kdT dst = some k2) (hs : (P.underlying src).isSome = true) (hd : P.underlying dst = some (.int k2)) (hc : k2.wrap m = c) : aS P w0 env objs o (.int k2 c) :=
  aL fun a w _ hop => by
    have h1 := (hop x (by simp [ho, Op.operands]) _ hx).int_inv
    refine ⟨.int k2 c, ?_, .int k2 c⟩
    obtain ⟨d, hs⟩ := Option.isSome_iff_exists.1 hs
    subst hc
    simp only [execOp, ho, h1]
    refine cy ?_
    simp only [convert, Sem.run_bind, run_underlying hs, run_underlying hd, Result.andThen_ok]
    simp [Conv.intToInt, Sem.run_pure]
end
section
variable {t t2 : TypeId} {x y : Operand}
theorem abD {b c : Bool} (ho : o.op = .binOp .eql t x y t2) (hx : ev env x = some (.bool b)) (hy : ev env y = some (.bool c)) (hu : P.underlying t = some .bool) : aS P w0 env objs o (.bool (b == c)) := aL fun a w _ hop => by
  have h1 := (hop x (by simp [ho, Op.operands]) _ hx).bool_inv
  have h2 := (hop y (by simp [ho, Op.operands]) _ hy).bool_inv
  exact ⟨.bool (b == c), by simp [execOp, ho, h1, h2, Sem.run_bind, gJ, binOp, run_equal_bool _ t b c hu], .bool _⟩
theorem abZ {b c : Bool} (ho : o.op = .binOp .neq t x y t2) (hx : ev env x = some (.bool b)) (hy : ev env y = some (.bool c)) (hu : P.underlying t = some .bool) : aS P w0 env objs o (.bool (b != c)) := aL fun a w _ hop => by
  have h1 := (hop x (by simp [ho, Op.operands]) _ hx).bool_inv
  have h2 := (hop y (by simp [ho, Op.operands]) _ hy).bool_inv
  exact ⟨.bool (b != c), by simp [execOp, ho, h1, h2, Sem.run_bind, gJ, binOp, run_equal_bool _ t b c hu, bne], .bool _⟩
theorem ng (s u : ByteArray) : (s.toList == u.toList) = decide (s = u) := by
  by_cases h : s = u
  · subst h; simp
  · have : ¬ s.toList = u.toList := fun e => h (WideShapes.bytes_inj (by rw [← Lib.toList_data, ← Lib.toList_data]; exact e))
    simp [h, this]
theorem mO {op : BinOp} {s u : ByteArray} {tv : TV} (ho : o.op = .binOp op t x y t2) (hx : ev env x = some (.str s)) (hy : ev env y = some (.str u))
    (hr : ∀ w : World, ∃ v, (Op.stringOp op s u).run P w = .ok v w ∧ Rep w objs tv v) (hs : op ≠ .shl := by decide) (hs2 : op ≠ .shr := by decide) : aS P w0 env objs o tv := aL fun a w _ hop => by
  have h1 := (hop x (by simp [ho, Op.operands]) _ hx).str_inv
  have h2 := (hop y (by simp [ho, Op.operands]) _ hy).str_inv
  obtain ⟨v, h3, h4⟩ := hr w
  refine ⟨v, ?_, h4⟩
  have h5 : binOp op t (.string s) (.string u) = Op.stringOp op s u := by cases op <;> rfl
  simp [execOp, ho, h1, h2, Sem.run_bind, mo, h5, h3]
theorem aba {s u : ByteArray} (ho : o.op = .binOp .eql t x y t2) (hx : ev env x = some (.str s)) (hy : ev env y = some (.str u)) : aS P w0 env objs o (.bool (decide (s = u))) :=
  mO ho hx hy fun w => ⟨.bool (s.toList == u.toList), by simp [Op.stringOp, Sem.run_pure], by rw [ng]; exact .bool _⟩
theorem abc {s u : ByteArray} (ho : o.op = .binOp .neq t x y t2) (hx : ev env x = some (.str s)) (hy : ev env y = some (.str u)) : aS P w0 env objs o (.bool (decide (s ≠ u))) :=
  mO ho hx hy fun w => ⟨.bool (!(s.toList == u.toList)), by simp [Op.stringOp, Sem.run_pure], by
    have : (!(s.toList == u.toList)) = decide (s ≠ u) := by rw [ng]; simp
    rw [this]; exact .bool _⟩
theorem tB (w : World) (s u : ByteArray) (hl : s.size + u.size ≤ 9223372036854775807) : (Op.stringOp .add s u).run P w = .ok (.string (s ++ u)) w := by
  have h9 : IntKind.max .i64 = 9223372036854775807 := by decide
  have h10 : ¬ (((s.size + u.size : Nat) : Int) > IntKind.max .i64) := by rw [h9]; omega
  unfold Op.stringOp
  simp only [h10, if_false]; rfl
theorem abp {s u : ByteArray} (ho : o.op = .binOp .add t x y t2) (hx : ev env x = some (.str s)) (hy : ev env y = some (.str u)) (hl : s.size + u.size ≤ 9223372036854775807) : aS P w0 env objs o (.str (s ++ u)) :=
  mO ho hx hy fun w => ⟨.string (s ++ u), tB w s u hl, .str _⟩
theorem ado {p : Prop} {i : Decidable p} (ho : o.op = .unOp .not t x) (hx : ev env x = some (.bool (@decide p i))) : aS P w0 env objs o (.bool (decide (¬ p))) := aL fun a w _ hop => by
  have h1 := (hop x (by simp [ho, Op.operands]) _ hx).bool_inv
  refine ⟨.bool (!(decide p)), by simp [execOp, ho, h1, Op.unary, Sem.run_pure], ?_⟩
  have : (!(decide p)) = decide (¬ p) := by simp
  rw [this]; exact .bool _
theorem uy {b : Bool} (ho : o.op = .unOp .not t x) (hx : ev env x = some (.bool b)) : aS P w0 env objs o (.bool (!b)) := aL fun a w _ hop => by
  have h1 := (hop x (by simp [ho, Op.operands]) _ hx).bool_inv
  exact ⟨.bool (!b), by simp [execOp, ho, h1, Op.unary, Sem.run_pure], .bool _⟩
end
end

theorem Tryz.infoInt : (Tryz.prog.info? 3).map (fun i => (i.zero, i.size, i.bytes)) = some (some (.int .i64 0), 1, 8) := by kernel_rfl

def ab2 (zs : List Int) : List PT := zs.map (PT.int .i64)
def nF (k n : Nat) : List Int := (List.range n).map fun i => ((k + i : Nat) : Int)
end Go.Proofs.YtiihihgjiklnoaaGreatDoor
