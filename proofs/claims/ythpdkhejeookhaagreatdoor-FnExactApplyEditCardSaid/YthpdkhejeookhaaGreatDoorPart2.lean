/- Part 2 of the proof: the texts Mem, Types, Row, EngA, Tab, EngB. -/
import Derived.Test.YthpdkhejeookhaaGreatDoorPart1
import Derived.Test.YthpdkhejeookhaaGreatDoorRows
import Derived.Shelf.Vars
import Derived.Lib.LaidU8
import Derived.Lib.LaidTab
import Derived.Lay
import Derived.MakeChecks
import Derived.ProofKit
import Derived.OpenShut
import Derived.ShutString
import Derived.ChangeOld
import Derived.Handed
import Derived.Orders
import Derived.IntWalk
import Derived.Lib.Strings
import Derived.WideShapes
/- Blocks that are filled one cell behind the other; lists of elements in memory; what a call owns, part by part. -/
namespace Go.Proofs.YthpdkhejeookhaaGreatDoor
open Go Go.RowKit

/-- A block of N cells whose first cells are xs. -/
def Fill (w : World) (g : Nat) (e : TypeId) (N : Nat) (xs : List Value) : Prop :=
  ∃ cur, w.heap[g]? = some (.cells cur e (0, 0)) ∧ cur.size = N ∧ xs.length ≤ N ∧ cur.toList.take xs.length = xs

section
variable {w w' : World} {g : Nat} {e : TypeId} {N : Nat} {xs : List Value}
theorem Fill.lt (h : Fill w g e N xs) : g < w.heap.size := by
  obtain ⟨cur, h1, _⟩ := h
  exact (Array.getElem?_eq_some_iff.1 h1).1
theorem Fill.cell (h : Fill w g e N xs) {i : Nat} (hi : i < N) : ∃ u, w.cell? ⟨g, i, none⟩ = some u := by
  obtain ⟨cur, h1, h2, _⟩ := h
  exact ⟨_, by rw [cell_of_row w g i cur e (0, 0) h1]; exact Array.getElem?_eq_getElem (by omega)⟩
theorem Fill.frozen (h : Fill w g e N xs) (i : Nat) : w.frozen? ⟨g, i, none⟩ = false := by
  obtain ⟨cur, h1, _⟩ := h
  simp [World.frozen?, h1]
theorem Fill.made (w : World) (z : Value) (n : Nat) (e : TypeId) : Fill (w.alloc (.cells (madeCells #[z] n) e)) w.heap.size e n [] :=
  ⟨_, heap_alloc_new w _, by simp [madeCells], by simp, by simp⟩
theorem Fill.same (h : Fill w g e N xs) (hb : w'.heap[g]? = w.heap[g]?) : Fill w' g e N xs := by
  obtain ⟨cur, h1, h2⟩ := h
  exact ⟨cur, hb.trans h1, h2⟩
theorem Fill.below {B : Nat} (h : Fill w g e N xs) (hb : Below B w w') (hg : g < B) : Fill w' g e N xs := h.same (hb.block g hg)
theorem Fill.alloc (h : Fill w g e N xs) (o : Obj) : Fill (w.alloc o) g e N xs := h.same (Below.heap_alloc w o g h.lt)
theorem Fill.far (h : Fill w g e N xs) {p : Addr} (hp : g ≠ p.block) (u : Value) : Fill (w.setCell p u) g e N xs := h.same (Below.heap_setCell w p u g hp)
theorem Fill.drew (h : Fill w g e N xs) : Fill w.drew g e N xs := h
theorem Fill.push (h : Fill w g e N xs) {i : Nat} (hi : i = xs.length) (hN : i < N) (u : Value) : Fill (w.setCell ⟨g, i, none⟩ u) g e N (xs ++ [u]) := by
  obtain ⟨cur, h1, h2, h3, h4⟩ := h
  subst hi
  refine ⟨cur.setIfInBounds xs.length u, by simp [World.setCell, Array.getElem?_modify, h1], by simpa using h2, by simp; omega, ?_⟩
  rw [Array.toList_setIfInBounds, List.length_append, List.length_singleton, List.take_add_one, List.take_set]
  rw [List.set_eq_of_length_le (by simp; omega), h4]
  simp [h2, hN]
theorem Fill.own {l : List PT} {c m : Nat} (h : Fill w g e (c * m) (PT.cellsL l)) (hm : ∀ t ∈ l, t.cells.length = m) (hl : l.length ≤ c) (hc : c ≤ maxLen) (ho : OwnL w l) : Own w (.sl (some ⟨g, 0, none⟩) c m l) := by
  obtain ⟨cur, h1, h2, h3, h4⟩ := h
  have hL := PT.length_cellsL hm
  exact own_of_block hm hL h1 hl hc h2 (by rw [← hL]; exact h4) ho
end


/-- make, with n a variable. -/
theorem run_make_n {P : Program} (t e : TypeId) (z : Value) (m bytes : Nat) (ht : P.underlying t = some (.slice e)) (hinfo : (P.info? e).map (fun i => (i.zero, i.size, i.bytes)) = some (some z, m, bytes))
    (kl kc : IntKind) (n : Nat) (hbytes : bytes * n ≤ 281474976710656) (h63 : n ≤ 9223372036854775807) (w : World) :
    (Instr.makeSlice t (.int kl (n : Int)) (.int kc (n : Int))).run P w = .ok (.slice (some ⟨w.heap.size, 0, none⟩) n n) (w.alloc (.cells (madeCells z.cells (n * m)) e)) := by
  obtain ⟨i, hi, hzz⟩ := Option.map_eq_some_iff.1 hinfo
  simp only [Prod.mk.injEq] at hzz
  obtain ⟨hz, hs, hb⟩ := hzz
  have hb' : (i.bytes : Int) * (n : Int) ≤ 281474976710656 := by
    have h : ((i.bytes * n : Nat) : Int) ≤ 281474976710656 := by rw [hb]; omega
    rwa [Int.natCast_mul] at h
  have hr := run_make (P := P) w t e i z ht hi hz kl kc n n (by omega) (Int.le_refl _) hb' (by omega)
  simp only [Int.toNat_natCast, hs] at hr
  exact hr
/-- Elements of m cells without slices of their own. -/
structure Flat {α : Type} (f : α → PT) (m : Nat) : Prop where
  cells : ∀ x, (f x).cells.length = m
  blocks : ∀ x, (f x).blocks = []
  own : ∀ x w, Own w (f x)
  seen : ∀ x w S, Seen w S (f x)
section
variable {α : Type} {f : α → PT} {m : Nat} {w : World} {S : Nat → Prop}
theorem Flat.cellsL (h : Flat f m) (l : List α) : ∀ t ∈ l.map f, t.cells.length = m := fun t ht => by
  obtain ⟨x, _, rfl⟩ := List.mem_map.1 ht; exact h.cells x
theorem Flat.blocksL (h : Flat f m) (l : List α) : PT.blocksL (l.map f) = [] := by
  induction l with
  | nil => rfl
  | cons z r ih => simp only [List.map_cons, PT.blocksL, h.blocks, ih, List.append_nil]
theorem Flat.ownL (h : Flat f m) (l : List α) : OwnL w (l.map f) := OwnL.of_get fun t ht => by
  obtain ⟨x, _, rfl⟩ := List.mem_map.1 ht; exact h.own x w
theorem Flat.length (h : Flat f m) (l : List α) : (PT.cellsL (l.map f)).length = l.length * m := by
  rw [PT.length_cellsL (h.cellsL l), List.length_map]
theorem Flat.owned (h : Flat f m) {g c : Nat} {e : TypeId} {l : List α} (hf : Fill w g e (c * m) (PT.cellsL (l.map f))) (hl : l.length ≤ c) (hc : c ≤ maxLen) (hS : S g) : Owned w S (.sl (some ⟨g, 0, none⟩) c m (l.map f)) :=
  ⟨Fill.own hf (h.cellsL l) (by simpa using hl) hc (h.ownL l), by simp [PT.blocks, h.blocksL, PT.rowOf], by simpa [PT.blocks, h.blocksL, PT.rowOf] using hS⟩
theorem Flat.none (_h : Flat f m) : Seen w S (.sl none 0 m (([] : List α).map f)) := ⟨by simp, by simp, Sees.nil _ _ _, by simp, trivial⟩
end
/-- Trees that stand for the elements of a list, one by one. -/
def AtL {α : Type} (R : PT → α → Prop) (l : List PT) (xs : List α) : Prop := l.length = xs.length ∧ ∀ (i : Nat) (t : PT) (x : α), l[i]? = some t → xs[i]? = some x → R t x
section
variable {α : Type} {R : PT → α → Prop} {l : List PT} {xs : List α}
theorem AtL.get (h : AtL R l xs) {k : Nat} (hk : k < l.length) : R l[k] (xs[k]'(by have := h.1; omega)) := h.2 k _ _ (List.getElem?_eq_getElem hk) (List.getElem?_eq_getElem _)
theorem AtL.nil : AtL R [] ([] : List α) := ⟨rfl, by simp⟩
theorem AtL.cells {m : Nat} (h : AtL R l xs) (hm : ∀ t x, R t x → t.cells.length = m) : ∀ t ∈ l, t.cells.length = m := fun t ht => by
  obtain ⟨i, hi, rfl⟩ := List.getElem_of_mem ht
  exact hm _ _ (h.get hi)
end
/-- A list of trees that each stand for something is a list that stands for a list. -/
theorem atL_of {α : Type} {R : PT → α → Prop} {l : List PT} (h : ∀ t ∈ l, ∃ x, R t x) : ∃ xs, AtL R l xs := by
  induction l with
  | nil => exact ⟨[], AtL.nil⟩
  | cons t r ih =>
    obtain ⟨x, hx⟩ := h t (by simp)
    obtain ⟨xs, hxs⟩ := ih fun u hu => h u (by simp [hu])
    refine ⟨x :: xs, by simp [hxs.1], fun i u y hu hy => ?_⟩
    cases i with
    | zero => simp at hu hy; subst hu; subst hy; exact hx
    | succ i => exact hxs.2 i u y (by simpa using hu) (by simpa using hy)
theorem map_of {α : Type} {f : α → PT} {l : List PT} (h : ∀ t ∈ l, ∃ x, t = f x) : ∃ xs : List α, l = xs.map f := by
  induction l with
  | nil => exact ⟨[], rfl⟩
  | cons t r ih =>
    obtain ⟨x, hx⟩ := h t (by simp)
    obtain ⟨xs, hxs⟩ := ih fun u hu => h u (by simp [hu])
    exact ⟨x :: xs, by simp [hx, hxs]⟩

/-- Owned part by part, all in blocks from lo on, below hi. -/
def OwnedS (w : World) (lo hi : Nat) (ts : List PT) : Prop := OwnL w ts ∧ (PT.blocksL ts).Nodup ∧ ∀ b ∈ PT.blocksL ts, Rng lo hi b
section
variable {w w' : World} {lo mid hi : Nat}
theorem OwnedS.nil : OwnedS w lo hi [] := ⟨trivial, by simp [PT.blocksL], by simp [PT.blocksL]⟩
theorem OwnedS.cons {ts : List PT} {t : PT} (ht : Owned w (Rng lo mid) t) (h : OwnedS w mid hi ts) (hl : lo ≤ mid) (hm : mid ≤ hi) : OwnedS w lo hi (t :: ts) := by
  refine ⟨⟨ht.1, h.1⟩, ?_, fun b hb => ?_⟩
  · simp only [PT.blocksL, List.nodup_append]
    refine ⟨ht.2.1, h.2.1, fun a ha b hb => ?_⟩
    have h1 := (ht.2.2 a ha).2
    have h2 := (h.2.2 b hb).1
    omega
  · simp only [PT.blocksL, List.mem_append] at hb
    rcases hb with hb | hb
    · have := ht.2.2 b hb; exact ⟨this.1, Nat.lt_of_lt_of_le this.2 hm⟩
    · have := h.2.2 b hb; exact ⟨Nat.le_trans hl this.1, this.2⟩
theorem OwnedS.flat {ts : List PT} {t : PT} (hb : t.blocks = []) (ho : Own w t) (h : OwnedS w lo hi ts) : OwnedS w lo hi (t :: ts) :=
  ⟨⟨ho, h.1⟩, by simpa [PT.blocksL, hb] using h.2.1, by simpa [PT.blocksL, hb] using h.2.2⟩
theorem OwnedS.agg {ts : List PT} {S : Nat → Prop} (h : OwnedS w lo hi ts) (hS : ∀ b, Rng lo hi b → S b) : Owned w S (.agg ts) := ⟨h.1, h.2.1, fun b hb => hS b (h.2.2 b hb)⟩
theorem OwnedS.keep {ts : List PT} (h : OwnedS w lo hi ts) (hk : ∀ b, Rng lo hi b → b < w.heap.size → w'.heap[b]? = w.heap[b]?) : OwnedS w' lo hi ts :=
  ⟨own_keep.2 ts h.1 fun b hb => hk b (h.2.2 b hb) (own_lt.2 ts h.1 b hb), h.2.1, h.2.2⟩
theorem OwnedS.below {ts : List PT} (h : OwnedS w lo hi ts) (hb : Below w.heap.size w w') : OwnedS w' lo hi ts := h.keep fun b _ hlt => hb.block b hlt
theorem OwnedS.far {ts : List PT} (h : OwnedS w lo hi ts) {p : Addr} (hp : p.block < lo) (u : Value) : OwnedS (w.setCell p u) lo hi ts :=
  h.keep fun b hb _ => Below.heap_setCell _ _ _ _ (by have := hb.1; omega)
theorem Owned.far {S : Nat → Prop} {t : PT} (h : Owned w S t) {p : Addr} (hp : ¬ S p.block) (u : Value) : Owned (w.setCell p u) S t :=
  h.keep fun _b hb _ => Below.heap_setCell _ _ _ _ (fun e => hp (e ▸ hb))
/-- A filled block whose elements are owned: a slice of the call's own. -/
theorem OwnedS.slice {ts : List PT} {g c m : Nat} {e : TypeId} {S : Nat → Prop} (h : OwnedS w lo hi ts) (hf : Fill w g e (c * m) (PT.cellsL ts)) (hm : ∀ t ∈ ts, t.cells.length = m) (hl : ts.length ≤ c) (hc : c ≤ maxLen) (hg : g < lo) (hS : ∀ b, g ≤ b → S b) :
    Owned w S (.sl (some ⟨g, 0, none⟩) c m ts) := by
  refine ⟨Fill.own hf hm hl hc h.1, ?_, fun b hb => ?_⟩
  · simp only [PT.blocks, PT.rowOf, List.singleton_append, List.nodup_cons]
    exact ⟨fun hb => by have := (h.2.2 g hb).1; omega, h.2.1⟩
  · simp only [PT.blocks, PT.rowOf, List.mem_append, List.mem_singleton] at hb
    rcases hb with rfl | hb
    · exact hS b (Nat.le_refl _)
    · exact hS b (by have := (h.2.2 b hb).1; omega)
end

/-- An int of 64 bits. -/
def i64 (n : Int) : Prop := -9223372036854775808 ≤ n ∧ n ≤ 9223372036854775807
theorem i64_of {n : Int} (h : (Lit.int .i64 n).wf = true) : i64 n := bounds_i64 h

end Go.Proofs.YthpdkhejeookhaaGreatDoor
/- The program's struct types as plain structures, and what they are in memory. Written by gen_types.py. -/
namespace Go.Proofs.YthpdkhejeookhaaGreatDoor
open Go Go.RowKit

/-- How many values a list holds: its length and what its elements hold. -/
def bl {α : Type} (f : α → Nat) (l : List α) : Nat := l.length + (l.map f).sum
theorem sane_list {α : Type} {R : PT → α → Prop} {P : α → Prop} {l : List PT} {xs : List α} (h : AtL R l xs) (hs : PT.saneL l) (hp : ∀ t x, R t x → t.sane → P x) : ∀ x ∈ xs, P x := fun x hx => by
  obtain ⟨i, hi, rfl⟩ := List.getElem_of_mem hx
  have hi' : i < l.length := by rw [h.1]; exact hi
  exact hp _ _ (h.get hi') (PT.saneL_mem hs (List.getElem_mem hi'))

structure TValue where
  kind : Int
  number : Int
  text : ByteArray

def TValue.ty : Ty := .agg [.int .i64, .int .i64, .str]

def TValue.sane (x : TValue) : Prop := i64 x.kind ∧ i64 x.number ∧ x.text.size ≤ maxLen

def TValue.pt (x : TValue) : PT := .agg [.int .i64 x.kind, .int .i64 x.number, .str x.text]

theorem TValue.flat : Flat TValue.pt 3 := ⟨fun _ => rfl, fun _ => rfl, fun _ _ => by simp [TValue.pt, Own, OwnL], fun _ _ _ => by simp [TValue.pt, Seen, SeenL]⟩

theorem TValue.of_ty {t : PT} (h : HasTy TValue.ty t) : ∃ x : TValue, t = x.pt := by
  simp only [TValue.ty, HasTy, HasTys] at h
  obtain ⟨_, rfl, h⟩ := h
  obtain ⟨u0, _, rfl, h0, h⟩ := h
  obtain ⟨v0, rfl⟩ := h0
  obtain ⟨u1, _, rfl, h1, h⟩ := h
  obtain ⟨v1, rfl⟩ := h1
  obtain ⟨u2, _, rfl, h2, h⟩ := h
  obtain ⟨v2, rfl⟩ := h2
  subst h
  exact ⟨⟨v0, v1, v2⟩, rfl⟩

theorem TValue.sane_of {x : TValue} (h : x.pt.sane) : x.sane := by
  simp only [TValue.pt, PT.sane, PT.saneL] at h
  exact ⟨i64_of h.1, i64_of h.2.1, h.2.2.1⟩

structure TInstr where
  op : Int
  a : Int
  b : Int
  text : ByteArray

def TInstr.ty : Ty := .agg [.int .i64, .int .i64, .int .i64, .str]

def TInstr.sane (x : TInstr) : Prop := i64 x.op ∧ i64 x.a ∧ i64 x.b ∧ x.text.size ≤ maxLen

def TInstr.pt (x : TInstr) : PT := .agg [.int .i64 x.op, .int .i64 x.a, .int .i64 x.b, .str x.text]

theorem TInstr.flat : Flat TInstr.pt 4 := ⟨fun _ => rfl, fun _ => rfl, fun _ _ => by simp [TInstr.pt, Own, OwnL], fun _ _ _ => by simp [TInstr.pt, Seen, SeenL]⟩

theorem TInstr.of_ty {t : PT} (h : HasTy TInstr.ty t) : ∃ x : TInstr, t = x.pt := by
  simp only [TInstr.ty, HasTy, HasTys] at h
  obtain ⟨_, rfl, h⟩ := h
  obtain ⟨u0, _, rfl, h0, h⟩ := h
  obtain ⟨v0, rfl⟩ := h0
  obtain ⟨u1, _, rfl, h1, h⟩ := h
  obtain ⟨v1, rfl⟩ := h1
  obtain ⟨u2, _, rfl, h2, h⟩ := h
  obtain ⟨v2, rfl⟩ := h2
  obtain ⟨u3, _, rfl, h3, h⟩ := h
  obtain ⟨v3, rfl⟩ := h3
  subst h
  exact ⟨⟨v0, v1, v2, v3⟩, rfl⟩

theorem TInstr.sane_of {x : TInstr} (h : x.pt.sane) : x.sane := by
  simp only [TInstr.pt, PT.sane, PT.saneL] at h
  exact ⟨i64_of h.1, i64_of h.2.1, i64_of h.2.2.1, h.2.2.2.1⟩

structure TCode where
  block : Bool
  params : Int
  slots : Int
  instrs : List TInstr

def TCode.ty : Ty := .agg [.bool, .int .i64, .int .i64, .sl 4 TInstr.ty]

def TCode.sane (x : TCode) : Prop := i64 x.params ∧ i64 x.slots ∧ (∀ y ∈ x.instrs, y.sane)

def TCodeAt (t : PT) (x : TCode) : Prop := ∃ (A3 : Option Addr) (c3 : Nat), t = .agg [.bool x.block, .int .i64 x.params, .int .i64 x.slots, .sl A3 c3 4 ((x.instrs).map TInstr.pt)]

theorem TCodeAt.cells {t : PT} {x : TCode} (h : TCodeAt t x) : t.cells.length = 4 := by
  obtain ⟨A3, c3, rfl⟩ := h
  rfl

theorem TCode.of_ty {t : PT} (h : HasTy TCode.ty t) : ∃ x : TCode, TCodeAt t x := by
  simp only [TCode.ty, HasTy, HasTys] at h
  obtain ⟨_, rfl, h⟩ := h
  obtain ⟨u0, _, rfl, h0, h⟩ := h
  obtain ⟨v0, rfl⟩ := h0
  obtain ⟨u1, _, rfl, h1, h⟩ := h
  obtain ⟨v1, rfl⟩ := h1
  obtain ⟨u2, _, rfl, h2, h⟩ := h
  obtain ⟨v2, rfl⟩ := h2
  obtain ⟨u3, _, rfl, h3, h⟩ := h
  obtain ⟨A3, c3, l3, rfl, h3⟩ := h3
  obtain ⟨v3, rfl⟩ := map_of fun t ht => TInstr.of_ty (h3 t ht)
  subst h
  exact ⟨⟨v0, v1, v2, v3⟩, _, _, rfl⟩

theorem TCode.sane_of {t : PT} {x : TCode} (ha : TCodeAt t x) (h : t.sane) : x.sane := by
  obtain ⟨A3, c3, rfl⟩ := ha
  simp only [PT.sane, PT.saneL] at h
  exact ⟨i64_of h.2.1, i64_of h.2.2.1, fun y hy => TInstr.sane_of (PT.saneL_mem h.2.2.2.1 (List.mem_map_of_mem (f := TInstr.pt) hy))⟩

structure TEntry where
  owner : Int
  class_ : Bool
  selector : ByteArray
  code : Int

def TEntry.ty : Ty := .agg [.int .i64, .bool, .str, .int .i64]

def TEntry.sane (x : TEntry) : Prop := i64 x.owner ∧ x.selector.size ≤ maxLen ∧ i64 x.code

def TEntry.pt (x : TEntry) : PT := .agg [.int .i64 x.owner, .bool x.class_, .str x.selector, .int .i64 x.code]

theorem TEntry.flat : Flat TEntry.pt 4 := ⟨fun _ => rfl, fun _ => rfl, fun _ _ => by simp [TEntry.pt, Own, OwnL], fun _ _ _ => by simp [TEntry.pt, Seen, SeenL]⟩

theorem TEntry.of_ty {t : PT} (h : HasTy TEntry.ty t) : ∃ x : TEntry, t = x.pt := by
  simp only [TEntry.ty, HasTy, HasTys] at h
  obtain ⟨_, rfl, h⟩ := h
  obtain ⟨u0, _, rfl, h0, h⟩ := h
  obtain ⟨v0, rfl⟩ := h0
  obtain ⟨u1, _, rfl, h1, h⟩ := h
  obtain ⟨v1, rfl⟩ := h1
  obtain ⟨u2, _, rfl, h2, h⟩ := h
  obtain ⟨v2, rfl⟩ := h2
  obtain ⟨u3, _, rfl, h3, h⟩ := h
  obtain ⟨v3, rfl⟩ := h3
  subst h
  exact ⟨⟨v0, v1, v2, v3⟩, rfl⟩

theorem TEntry.sane_of {x : TEntry} (h : x.pt.sane) : x.sane := by
  simp only [TEntry.pt, PT.sane, PT.saneL] at h
  exact ⟨i64_of h.1, h.2.2.1, i64_of h.2.2.2.1⟩

structure TClassInfo where
  name : ByteArray
  parent : Int
  fields : List ByteArray

def TClassInfo.ty : Ty := .agg [.str, .int .i64, .sl 1 (.str)]

def TClassInfo.sane (x : TClassInfo) : Prop := x.name.size ≤ maxLen ∧ i64 x.parent ∧ (∀ s ∈ x.fields, s.size ≤ maxLen)

def TClassInfoAt (t : PT) (x : TClassInfo) : Prop := ∃ (A2 : Option Addr) (c2 : Nat), t = .agg [.str x.name, .int .i64 x.parent, .sl A2 c2 1 ((x.fields).map PT.str)]

theorem TClassInfoAt.cells {t : PT} {x : TClassInfo} (h : TClassInfoAt t x) : t.cells.length = 3 := by
  obtain ⟨A2, c2, rfl⟩ := h
  rfl

theorem TClassInfo.of_ty {t : PT} (h : HasTy TClassInfo.ty t) : ∃ x : TClassInfo, TClassInfoAt t x := by
  simp only [TClassInfo.ty, HasTy, HasTys] at h
  obtain ⟨_, rfl, h⟩ := h
  obtain ⟨u0, _, rfl, h0, h⟩ := h
  obtain ⟨v0, rfl⟩ := h0
  obtain ⟨u1, _, rfl, h1, h⟩ := h
  obtain ⟨v1, rfl⟩ := h1
  obtain ⟨u2, _, rfl, h2, h⟩ := h
  obtain ⟨A2, c2, l2, rfl, h2⟩ := h2
  obtain ⟨v2, rfl⟩ := map_of fun t ht => h2 t ht
  subst h
  exact ⟨⟨v0, v1, v2⟩, _, _, rfl⟩

theorem TClassInfo.sane_of {t : PT} {x : TClassInfo} (ha : TClassInfoAt t x) (h : t.sane) : x.sane := by
  obtain ⟨A2, c2, rfl⟩ := ha
  simp only [PT.sane, PT.saneL] at h
  exact ⟨h.1, i64_of h.2.1, fun s hs => PT.saneL_mem h.2.2.1 (List.mem_map_of_mem (f := PT.str) hs)⟩

structure TCodeBase where
  classes : List TClassInfo
  codes : List TCode
  entries : List TEntry
  main : Int

def TCodeBase.ty : Ty := .agg [.sl 3 TClassInfo.ty, .sl 4 TCode.ty, .sl 4 TEntry.ty, .int .i64]

def TCodeBase.sane (x : TCodeBase) : Prop := (∀ y ∈ x.classes, y.sane) ∧ (∀ y ∈ x.codes, y.sane) ∧ (∀ y ∈ x.entries, y.sane) ∧ i64 x.main

def TCodeBaseAt (t : PT) (x : TCodeBase) : Prop := ∃ (A0 : Option Addr) (c0 : Nat) (l0 : List PT) (A1 : Option Addr) (c1 : Nat) (l1 : List PT) (A2 : Option Addr) (c2 : Nat), AtL TClassInfoAt l0 (x.classes) ∧ AtL TCodeAt l1 (x.codes) ∧ t = .agg [.sl A0 c0 3 l0, .sl A1 c1 4 l1, .sl A2 c2 4 ((x.entries).map TEntry.pt), .int .i64 x.main]

theorem TCodeBaseAt.cells {t : PT} {x : TCodeBase} (h : TCodeBaseAt t x) : t.cells.length = 4 := by
  obtain ⟨A0, c0, l0, A1, c1, l1, A2, c2, h0, h1, rfl⟩ := h
  rfl

theorem TCodeBase.of_ty {t : PT} (h : HasTy TCodeBase.ty t) : ∃ x : TCodeBase, TCodeBaseAt t x := by
  simp only [TCodeBase.ty, HasTy, HasTys] at h
  obtain ⟨_, rfl, h⟩ := h
  obtain ⟨u0, _, rfl, h0, h⟩ := h
  obtain ⟨A0, c0, l0, rfl, h0⟩ := h0
  obtain ⟨v0, k0⟩ := atL_of fun t ht => TClassInfo.of_ty (h0 t ht)
  obtain ⟨u1, _, rfl, h1, h⟩ := h
  obtain ⟨A1, c1, l1, rfl, h1⟩ := h1
  obtain ⟨v1, k1⟩ := atL_of fun t ht => TCode.of_ty (h1 t ht)
  obtain ⟨u2, _, rfl, h2, h⟩ := h
  obtain ⟨A2, c2, l2, rfl, h2⟩ := h2
  obtain ⟨v2, rfl⟩ := map_of fun t ht => TEntry.of_ty (h2 t ht)
  obtain ⟨u3, _, rfl, h3, h⟩ := h
  obtain ⟨v3, rfl⟩ := h3
  subst h
  exact ⟨⟨v0, v1, v2, v3⟩, _, _, _, _, _, _, _, _, k0, k1, rfl⟩

theorem TCodeBase.sane_of {t : PT} {x : TCodeBase} (ha : TCodeBaseAt t x) (h : t.sane) : x.sane := by
  obtain ⟨A0, c0, l0, A1, c1, l1, A2, c2, h0, h1, rfl⟩ := ha
  simp only [PT.sane, PT.saneL] at h
  exact ⟨sane_list h0 h.1 fun _ _ a b => TClassInfo.sane_of a b, sane_list h1 h.2.1 fun _ _ a b => TCode.sane_of a b, fun y hy => TEntry.sane_of (PT.saneL_mem h.2.2.1 (List.mem_map_of_mem (f := TEntry.pt) hy)), i64_of h.2.2.2.1⟩

structure TObject where
  kind : Int
  class_ : Int
  fields : List TValue
  numbers : List Int

def TObject.ty : Ty := .agg [.int .i64, .int .i64, .sl 3 TValue.ty, .sl 1 (.int .i64)]

def TObject.sane (x : TObject) : Prop := i64 x.kind ∧ i64 x.class_ ∧ (∀ y ∈ x.fields, y.sane) ∧ (∀ n ∈ x.numbers, i64 n)

def TObjectAt (t : PT) (x : TObject) : Prop := ∃ (A2 : Option Addr) (c2 : Nat) (A3 : Option Addr) (c3 : Nat), t = .agg [.int .i64 x.kind, .int .i64 x.class_, .sl A2 c2 3 ((x.fields).map TValue.pt), .sl A3 c3 1 ((x.numbers).map (PT.int .i64))]

theorem TObjectAt.cells {t : PT} {x : TObject} (h : TObjectAt t x) : t.cells.length = 4 := by
  obtain ⟨A2, c2, A3, c3, rfl⟩ := h
  rfl

theorem TObject.of_ty {t : PT} (h : HasTy TObject.ty t) : ∃ x : TObject, TObjectAt t x := by
  simp only [TObject.ty, HasTy, HasTys] at h
  obtain ⟨_, rfl, h⟩ := h
  obtain ⟨u0, _, rfl, h0, h⟩ := h
  obtain ⟨v0, rfl⟩ := h0
  obtain ⟨u1, _, rfl, h1, h⟩ := h
  obtain ⟨v1, rfl⟩ := h1
  obtain ⟨u2, _, rfl, h2, h⟩ := h
  obtain ⟨A2, c2, l2, rfl, h2⟩ := h2
  obtain ⟨v2, rfl⟩ := map_of fun t ht => TValue.of_ty (h2 t ht)
  obtain ⟨u3, _, rfl, h3, h⟩ := h
  obtain ⟨A3, c3, l3, rfl, h3⟩ := h3
  obtain ⟨v3, rfl⟩ := map_of fun t ht => h3 t ht
  subst h
  exact ⟨⟨v0, v1, v2, v3⟩, _, _, _, _, rfl⟩

theorem TObject.sane_of {t : PT} {x : TObject} (ha : TObjectAt t x) (h : t.sane) : x.sane := by
  obtain ⟨A2, c2, A3, c3, rfl⟩ := ha
  simp only [PT.sane, PT.saneL] at h
  exact ⟨i64_of h.1, i64_of h.2.1, fun y hy => TValue.sane_of (PT.saneL_mem h.2.2.1 (List.mem_map_of_mem (f := TValue.pt) hy)), fun n hn => i64_of (PT.saneL_mem h.2.2.2.1 (List.mem_map_of_mem (f := PT.int .i64) hn))⟩

structure TStore where
  classes : List TClassInfo
  objects : List TObject
  output : List ByteArray
  ticks : Int
  budget : Int
  made : Int

def TStore.ty : Ty := .agg [.sl 3 TClassInfo.ty, .sl 4 TObject.ty, .sl 1 (.str), .int .i64, .int .i64, .int .i64]

def TStore.sane (x : TStore) : Prop := (∀ y ∈ x.classes, y.sane) ∧ (∀ y ∈ x.objects, y.sane) ∧ (∀ s ∈ x.output, s.size ≤ maxLen) ∧ i64 x.ticks ∧ i64 x.budget ∧ i64 x.made

def TStoreAt (t : PT) (x : TStore) : Prop := ∃ (A0 : Option Addr) (c0 : Nat) (l0 : List PT) (A1 : Option Addr) (c1 : Nat) (l1 : List PT) (A2 : Option Addr) (c2 : Nat), AtL TClassInfoAt l0 (x.classes) ∧ AtL TObjectAt l1 (x.objects) ∧ t = .agg [.sl A0 c0 3 l0, .sl A1 c1 4 l1, .sl A2 c2 1 ((x.output).map PT.str), .int .i64 x.ticks, .int .i64 x.budget, .int .i64 x.made]

theorem TStoreAt.cells {t : PT} {x : TStore} (h : TStoreAt t x) : t.cells.length = 6 := by
  obtain ⟨A0, c0, l0, A1, c1, l1, A2, c2, h0, h1, rfl⟩ := h
  rfl

theorem TStore.of_ty {t : PT} (h : HasTy TStore.ty t) : ∃ x : TStore, TStoreAt t x := by
  simp only [TStore.ty, HasTy, HasTys] at h
  obtain ⟨_, rfl, h⟩ := h
  obtain ⟨u0, _, rfl, h0, h⟩ := h
  obtain ⟨A0, c0, l0, rfl, h0⟩ := h0
  obtain ⟨v0, k0⟩ := atL_of fun t ht => TClassInfo.of_ty (h0 t ht)
  obtain ⟨u1, _, rfl, h1, h⟩ := h
  obtain ⟨A1, c1, l1, rfl, h1⟩ := h1
  obtain ⟨v1, k1⟩ := atL_of fun t ht => TObject.of_ty (h1 t ht)
  obtain ⟨u2, _, rfl, h2, h⟩ := h
  obtain ⟨A2, c2, l2, rfl, h2⟩ := h2
  obtain ⟨v2, rfl⟩ := map_of fun t ht => h2 t ht
  obtain ⟨u3, _, rfl, h3, h⟩ := h
  obtain ⟨v3, rfl⟩ := h3
  obtain ⟨u4, _, rfl, h4, h⟩ := h
  obtain ⟨v4, rfl⟩ := h4
  obtain ⟨u5, _, rfl, h5, h⟩ := h
  obtain ⟨v5, rfl⟩ := h5
  subst h
  exact ⟨⟨v0, v1, v2, v3, v4, v5⟩, _, _, _, _, _, _, _, _, k0, k1, rfl⟩

theorem TStore.sane_of {t : PT} {x : TStore} (ha : TStoreAt t x) (h : t.sane) : x.sane := by
  obtain ⟨A0, c0, l0, A1, c1, l1, A2, c2, h0, h1, rfl⟩ := ha
  simp only [PT.sane, PT.saneL] at h
  exact ⟨sane_list h0 h.1 fun _ _ a b => TClassInfo.sane_of a b, sane_list h1 h.2.1 fun _ _ a b => TObject.sane_of a b, fun s hs => PT.saneL_mem h.2.2.1 (List.mem_map_of_mem (f := PT.str) hs), i64_of h.2.2.2.1, i64_of h.2.2.2.2.1, i64_of h.2.2.2.2.2.1⟩

structure TClosure where
  code : Int
  outer : Int
  home : Int
  self : TValue

def TClosure.ty : Ty := .agg [.int .i64, .int .i64, .int .i64, TValue.ty]

def TClosure.sane (x : TClosure) : Prop := i64 x.code ∧ i64 x.outer ∧ i64 x.home ∧ x.self.sane

def TClosure.pt (x : TClosure) : PT := .agg [.int .i64 x.code, .int .i64 x.outer, .int .i64 x.home, x.self.pt]

theorem TClosure.flat : Flat TClosure.pt 6 := ⟨fun _ => rfl, fun _ => rfl, fun _ _ => by simp [TClosure.pt, Own, OwnL, TValue.pt], fun _ _ _ => by simp [TClosure.pt, Seen, SeenL, TValue.pt]⟩

theorem TClosure.of_ty {t : PT} (h : HasTy TClosure.ty t) : ∃ x : TClosure, t = x.pt := by
  simp only [TClosure.ty, HasTy, HasTys] at h
  obtain ⟨_, rfl, h⟩ := h
  obtain ⟨u0, _, rfl, h0, h⟩ := h
  obtain ⟨v0, rfl⟩ := h0
  obtain ⟨u1, _, rfl, h1, h⟩ := h
  obtain ⟨v1, rfl⟩ := h1
  obtain ⟨u2, _, rfl, h2, h⟩ := h
  obtain ⟨v2, rfl⟩ := h2
  obtain ⟨u3, _, rfl, h3, h⟩ := h
  obtain ⟨v3, rfl⟩ := TValue.of_ty h3
  subst h
  exact ⟨⟨v0, v1, v2, v3⟩, rfl⟩

theorem TClosure.sane_of {x : TClosure} (h : x.pt.sane) : x.sane := by
  simp only [TClosure.pt, PT.sane, PT.saneL] at h
  exact ⟨i64_of h.1, i64_of h.2.1, i64_of h.2.2.1, TValue.sane_of h.2.2.2.1⟩

structure TContext where
  mark : Int
  code : Int
  pc : Int
  sender : Int
  outer : Int
  home : Int
  self : TValue
  slots : List TValue
  stack : List TValue
  values : List TValue
  other : Int
  retry : Bool

def TContext.ty : Ty := .agg [.int .i64, .int .i64, .int .i64, .int .i64, .int .i64, .int .i64, TValue.ty, .sl 3 TValue.ty, .sl 3 TValue.ty, .sl 3 TValue.ty, .int .i64, .bool]

def TContext.sane (x : TContext) : Prop := i64 x.mark ∧ i64 x.code ∧ i64 x.pc ∧ i64 x.sender ∧ i64 x.outer ∧ i64 x.home ∧ x.self.sane ∧ (∀ y ∈ x.slots, y.sane) ∧ (∀ y ∈ x.stack, y.sane) ∧ (∀ y ∈ x.values, y.sane) ∧ i64 x.other

def TContextAt (t : PT) (x : TContext) : Prop := ∃ (A7 : Option Addr) (c7 : Nat) (A8 : Option Addr) (c8 : Nat) (A9 : Option Addr) (c9 : Nat), t = .agg [.int .i64 x.mark, .int .i64 x.code, .int .i64 x.pc, .int .i64 x.sender, .int .i64 x.outer, .int .i64 x.home, x.self.pt, .sl A7 c7 3 ((x.slots).map TValue.pt), .sl A8 c8 3 ((x.stack).map TValue.pt), .sl A9 c9 3 ((x.values).map TValue.pt), .int .i64 x.other, .bool x.retry]

theorem TContextAt.cells {t : PT} {x : TContext} (h : TContextAt t x) : t.cells.length = 14 := by
  obtain ⟨A7, c7, A8, c8, A9, c9, rfl⟩ := h
  rfl

theorem TContext.of_ty {t : PT} (h : HasTy TContext.ty t) : ∃ x : TContext, TContextAt t x := by
  simp only [TContext.ty, HasTy, HasTys] at h
  obtain ⟨_, rfl, h⟩ := h
  obtain ⟨u0, _, rfl, h0, h⟩ := h
  obtain ⟨v0, rfl⟩ := h0
  obtain ⟨u1, _, rfl, h1, h⟩ := h
  obtain ⟨v1, rfl⟩ := h1
  obtain ⟨u2, _, rfl, h2, h⟩ := h
  obtain ⟨v2, rfl⟩ := h2
  obtain ⟨u3, _, rfl, h3, h⟩ := h
  obtain ⟨v3, rfl⟩ := h3
  obtain ⟨u4, _, rfl, h4, h⟩ := h
  obtain ⟨v4, rfl⟩ := h4
  obtain ⟨u5, _, rfl, h5, h⟩ := h
  obtain ⟨v5, rfl⟩ := h5
  obtain ⟨u6, _, rfl, h6, h⟩ := h
  obtain ⟨v6, rfl⟩ := TValue.of_ty h6
  obtain ⟨u7, _, rfl, h7, h⟩ := h
  obtain ⟨A7, c7, l7, rfl, h7⟩ := h7
  obtain ⟨v7, rfl⟩ := map_of fun t ht => TValue.of_ty (h7 t ht)
  obtain ⟨u8, _, rfl, h8, h⟩ := h
  obtain ⟨A8, c8, l8, rfl, h8⟩ := h8
  obtain ⟨v8, rfl⟩ := map_of fun t ht => TValue.of_ty (h8 t ht)
  obtain ⟨u9, _, rfl, h9, h⟩ := h
  obtain ⟨A9, c9, l9, rfl, h9⟩ := h9
  obtain ⟨v9, rfl⟩ := map_of fun t ht => TValue.of_ty (h9 t ht)
  obtain ⟨u10, _, rfl, h10, h⟩ := h
  obtain ⟨v10, rfl⟩ := h10
  obtain ⟨u11, _, rfl, h11, h⟩ := h
  obtain ⟨v11, rfl⟩ := h11
  subst h
  exact ⟨⟨v0, v1, v2, v3, v4, v5, v6, v7, v8, v9, v10, v11⟩, _, _, _, _, _, _, rfl⟩

theorem TContext.sane_of {t : PT} {x : TContext} (ha : TContextAt t x) (h : t.sane) : x.sane := by
  obtain ⟨A7, c7, A8, c8, A9, c9, rfl⟩ := ha
  simp only [PT.sane, PT.saneL] at h
  exact ⟨i64_of h.1, i64_of h.2.1, i64_of h.2.2.1, i64_of h.2.2.2.1, i64_of h.2.2.2.2.1, i64_of h.2.2.2.2.2.1, TValue.sane_of h.2.2.2.2.2.2.1, fun y hy => TValue.sane_of (PT.saneL_mem h.2.2.2.2.2.2.2.1 (List.mem_map_of_mem (f := TValue.pt) hy)), fun y hy => TValue.sane_of (PT.saneL_mem h.2.2.2.2.2.2.2.2.1 (List.mem_map_of_mem (f := TValue.pt) hy)), fun y hy => TValue.sane_of (PT.saneL_mem h.2.2.2.2.2.2.2.2.2.1 (List.mem_map_of_mem (f := TValue.pt) hy)), i64_of h.2.2.2.2.2.2.2.2.2.2.1⟩

structure TProcess where
  at_ : Int
  main : Bool

def TProcess.ty : Ty := .agg [.int .i64, .bool]

def TProcess.sane (x : TProcess) : Prop := i64 x.at_

def TProcess.pt (x : TProcess) : PT := .agg [.int .i64 x.at_, .bool x.main]

theorem TProcess.flat : Flat TProcess.pt 2 := ⟨fun _ => rfl, fun _ => rfl, fun _ _ => by simp [TProcess.pt, Own, OwnL], fun _ _ _ => by simp [TProcess.pt, Seen, SeenL]⟩

theorem TProcess.of_ty {t : PT} (h : HasTy TProcess.ty t) : ∃ x : TProcess, t = x.pt := by
  simp only [TProcess.ty, HasTy, HasTys] at h
  obtain ⟨_, rfl, h⟩ := h
  obtain ⟨u0, _, rfl, h0, h⟩ := h
  obtain ⟨v0, rfl⟩ := h0
  obtain ⟨u1, _, rfl, h1, h⟩ := h
  obtain ⟨v1, rfl⟩ := h1
  subst h
  exact ⟨⟨v0, v1⟩, rfl⟩

theorem TProcess.sane_of {x : TProcess} (h : x.pt.sane) : x.sane := by
  simp only [TProcess.pt, PT.sane, PT.saneL] at h
  exact i64_of h.1

structure TImage where
  base : TCodeBase
  store : TStore
  blocks : List TClosure
  contexts : List TContext
  processes : List TProcess
  ready : List Int
  now : Int
  status : Int
  value : TValue
  fault : ByteArray

def TImage.ty : Ty := .agg [TCodeBase.ty, TStore.ty, .sl 6 TClosure.ty, .sl 14 TContext.ty, .sl 2 TProcess.ty, .sl 1 (.int .i64), .int .i64, .int .i64, TValue.ty, .str]

def TImage.sane (x : TImage) : Prop := x.base.sane ∧ x.store.sane ∧ (∀ y ∈ x.blocks, y.sane) ∧ (∀ y ∈ x.contexts, y.sane) ∧ (∀ y ∈ x.processes, y.sane) ∧ (∀ n ∈ x.ready, i64 n) ∧ i64 x.now ∧ i64 x.status ∧ x.value.sane ∧ x.fault.size ≤ maxLen

def TImageAt (t : PT) (x : TImage) : Prop := ∃ (t0 : PT) (t1 : PT) (A2 : Option Addr) (c2 : Nat) (A3 : Option Addr) (c3 : Nat) (l3 : List PT) (A4 : Option Addr) (c4 : Nat) (A5 : Option Addr) (c5 : Nat), TCodeBaseAt t0 x.base ∧ TStoreAt t1 x.store ∧ AtL TContextAt l3 (x.contexts) ∧ t = .agg [t0, t1, .sl A2 c2 6 ((x.blocks).map TClosure.pt), .sl A3 c3 14 l3, .sl A4 c4 2 ((x.processes).map TProcess.pt), .sl A5 c5 1 ((x.ready).map (PT.int .i64)), .int .i64 x.now, .int .i64 x.status, x.value.pt, .str x.fault]

theorem TImageAt.cells {t : PT} {x : TImage} (h : TImageAt t x) : t.cells.length = 20 := by
  obtain ⟨t0, t1, A2, c2, A3, c3, l3, A4, c4, A5, c5, h0, h1, h2, rfl⟩ := h
  have e0 := TCodeBaseAt.cells h0
  have e1 := TStoreAt.cells h1
  simp [PT.cells, PT.cellsL, List.length_append, List.length_cons, List.length_nil, TValue.pt, e0, e1]

theorem TImage.of_ty {t : PT} (h : HasTy TImage.ty t) : ∃ x : TImage, TImageAt t x := by
  simp only [TImage.ty, HasTy, HasTys] at h
  obtain ⟨_, rfl, h⟩ := h
  obtain ⟨u0, _, rfl, h0, h⟩ := h
  obtain ⟨v0, k0⟩ := TCodeBase.of_ty h0
  obtain ⟨u1, _, rfl, h1, h⟩ := h
  obtain ⟨v1, k1⟩ := TStore.of_ty h1
  obtain ⟨u2, _, rfl, h2, h⟩ := h
  obtain ⟨A2, c2, l2, rfl, h2⟩ := h2
  obtain ⟨v2, rfl⟩ := map_of fun t ht => TClosure.of_ty (h2 t ht)
  obtain ⟨u3, _, rfl, h3, h⟩ := h
  obtain ⟨A3, c3, l3, rfl, h3⟩ := h3
  obtain ⟨v3, k3⟩ := atL_of fun t ht => TContext.of_ty (h3 t ht)
  obtain ⟨u4, _, rfl, h4, h⟩ := h
  obtain ⟨A4, c4, l4, rfl, h4⟩ := h4
  obtain ⟨v4, rfl⟩ := map_of fun t ht => TProcess.of_ty (h4 t ht)
  obtain ⟨u5, _, rfl, h5, h⟩ := h
  obtain ⟨A5, c5, l5, rfl, h5⟩ := h5
  obtain ⟨v5, rfl⟩ := map_of fun t ht => h5 t ht
  obtain ⟨u6, _, rfl, h6, h⟩ := h
  obtain ⟨v6, rfl⟩ := h6
  obtain ⟨u7, _, rfl, h7, h⟩ := h
  obtain ⟨v7, rfl⟩ := h7
  obtain ⟨u8, _, rfl, h8, h⟩ := h
  obtain ⟨v8, rfl⟩ := TValue.of_ty h8
  obtain ⟨u9, _, rfl, h9, h⟩ := h
  obtain ⟨v9, rfl⟩ := h9
  subst h
  exact ⟨⟨v0, v1, v2, v3, v4, v5, v6, v7, v8, v9⟩, _, _, _, _, _, _, _, _, _, _, _, k0, k1, k3, rfl⟩

theorem TImage.sane_of {t : PT} {x : TImage} (ha : TImageAt t x) (h : t.sane) : x.sane := by
  obtain ⟨t0, t1, A2, c2, A3, c3, l3, A4, c4, A5, c5, h0, h1, h2, rfl⟩ := ha
  simp only [PT.sane, PT.saneL] at h
  exact ⟨TCodeBase.sane_of h0 h.1, TStore.sane_of h1 h.2.1, fun y hy => TClosure.sane_of (PT.saneL_mem h.2.2.1 (List.mem_map_of_mem (f := TClosure.pt) hy)), sane_list h2 h.2.2.2.1 fun _ _ a b => TContext.sane_of a b, fun y hy => TProcess.sane_of (PT.saneL_mem h.2.2.2.2.1 (List.mem_map_of_mem (f := TProcess.pt) hy)), fun n hn => i64_of (PT.saneL_mem h.2.2.2.2.2.1 (List.mem_map_of_mem (f := PT.int .i64) hn)), i64_of h.2.2.2.2.2.2.1, i64_of h.2.2.2.2.2.2.2.1, TValue.sane_of h.2.2.2.2.2.2.2.2.1, h.2.2.2.2.2.2.2.2.2.1⟩

structure TEdit where
  code : Int
  at_ : Int
  kind : Int

def TEdit.ty : Ty := .agg [.int .i64, .int .i64, .int .i64]

def TEdit.sane (x : TEdit) : Prop := i64 x.code ∧ i64 x.at_ ∧ i64 x.kind

def TEdit.pt (x : TEdit) : PT := .agg [.int .i64 x.code, .int .i64 x.at_, .int .i64 x.kind]

theorem TEdit.flat : Flat TEdit.pt 3 := ⟨fun _ => rfl, fun _ => rfl, fun _ _ => by simp [TEdit.pt, Own, OwnL], fun _ _ _ => by simp [TEdit.pt, Seen, SeenL]⟩

theorem TEdit.of_ty {t : PT} (h : HasTy TEdit.ty t) : ∃ x : TEdit, t = x.pt := by
  simp only [TEdit.ty, HasTy, HasTys] at h
  obtain ⟨_, rfl, h⟩ := h
  obtain ⟨u0, _, rfl, h0, h⟩ := h
  obtain ⟨v0, rfl⟩ := h0
  obtain ⟨u1, _, rfl, h1, h⟩ := h
  obtain ⟨v1, rfl⟩ := h1
  obtain ⟨u2, _, rfl, h2, h⟩ := h
  obtain ⟨v2, rfl⟩ := h2
  subst h
  exact ⟨⟨v0, v1, v2⟩, rfl⟩

theorem TEdit.sane_of {x : TEdit} (h : x.pt.sane) : x.sane := by
  simp only [TEdit.pt, PT.sane, PT.saneL] at h
  exact ⟨i64_of h.1, i64_of h.2.1, i64_of h.2.2.1⟩

end Go.Proofs.YthpdkhejeookhaaGreatDoor
/- A row's frame: the wrap that hands the walk both what the row lists and the world's shape. -/
namespace Go.Proofs.YthpdkhejeookhaaGreatDoor
open Go Go.RowKit

theorem returnsInHanded_both {H : Type} {enc : TypeId × Value → H} {a : Assume} {C : Checked} {os : Os} {f : FuncId} {fn : Func} {s : ChangeSpec} {conds : List PathCond} {apart fresh handsOn again : Bool} {X : World → Array Value → Prop}
    (hX : ∀ (w w' : World) (args : Array Value), w.heap = w'.heap → X w args → X w' args)
    (own : ownKnob C.prog.godebug = none) (started : os.Started) (noInit : C.prog.inits.idxOf? f = none) (hfn : C.prog.funcs[f]? = some fn)
    (witness : ∃ (w : World) (tape : Tape) (i : Input), w.os = os ∧ (w.forCall tape i).Shaped C.prog ∧ i.vars = [] ∧ Input.okWide C.prog (w.forCall tape i) .any w.heap.size f i ∧
      ((s.pre enc C.prog fn conds apart (w.forCall tape i).memory i.args ∧ X (w.forCall tape i).memory i.args) ∧ sizedMet enc C.prog fn (OpenSpec.ofChange s) apart (w.forCall tape i).memory i.args) ∧ a.holds C.prog (lone (Frame.enter C.prog f i.args .normal) [] (w.forCall tape i)))
    (contract : ∀ (W : World) (base : Nat) (args : Array Value) (ds gs : List (DataW H)) (before : List MemPlace),
      (∀ (j : Nat) t v, fn.params[j]? = some t → args[j]? = some v → Value.okWide C.prog W .any base t v) →
      DataW.Whole enc C.prog fn.params.toList s.vars apart W args.toList ds gs before →
      conds.all (PathCond.test C.prog ⟨fn.params.toList, ds, s.plain.varTypes C.prog, gs⟩) = true →
      (DataW.weightsEach C.prog (fn.params.toList ++ s.plain.varTypes C.prog) (ds ++ gs)).all (· ≤ reachBytes) = true → X W args → W.ShapedOpen C.prog →
      a.holds C.prog (lone (Frame.enter C.prog f args .normal) [] W) →
      Calls C.prog f args W fun e W' => ∃ v, e = .returned v ∧ s.post enc C.prog fn apart fresh handsOn again W args v W') :
    ReturnsInHanded a C os f .any (fun w args => (s.pre enc C.prog fn conds apart w args ∧ X w args) ∧ sizedMet enc C.prog fn (OpenSpec.ofChange s) apart w args) (s.post enc C.prog fn apart fresh handsOn again) := by
  refine returnsInHanded_of_calls own started noInit witness ?_
  intro w tape i _ hsh _ hok hpre hholds
  obtain ⟨_, _, _, fn', hfn', _, _, _, _, hval⟩ := hok
  have e : fn' = fn := Option.some.inj (hfn'.symm.trans hfn)
  subst e
  obtain ⟨⟨⟨ds, gs, before, hw, hc⟩, hx⟩, hz⟩ := hpre
  have hw' := DataW.Whole.of_heap (w' := w.forCall tape i) (by rfl) hw
  refine (contract (w.forCall tape i) w.heap.size i.args ds gs before hval hw' hc (hz.weights hw) (hX _ _ _ (by rfl) hx) hsh hholds).mono fun e W' ⟨v, he, hp⟩ => ?_
  subst he
  exact ChangeSpec.post_blind hp

theorem maxL_of {W : World} (h : W.ShapedOpen Tryz.prog) : MaxL W :=
  cell_of_shapedOpen_int (zero := #[.int .i64 0]) h (of_decide_eq_true (by kernel_rfl)) (by kernel_rfl) (by kernel_rfl) (by kernel_rfl) (by kernel_rfl) Tryz.underlying3
end Go.Proofs.YthpdkhejeookhaaGreatDoor
/- The abstract walk, part 1: values without addresses, what they stand for in memory, the state of a walk, and the rules of control. -/
namespace Go.Proofs.YthpdkhejeookhaaGreatDoor
open Go Go.RowKit

/-- A value of the walk. 'sl', 'cp': what nobody writes any more (the flag: it was made by this call); 'ms', 'mp', 'me': into a block that this call owns. -/
inductive TV where
  | int (k : IntKind) (n : Int)
  | bool (b : Bool)
  | str (s : ByteArray)
  | agg (l : List TV)
  | sl (f : Nat) (m : Nat) (rows : List (List TV))
  | cp (f : Nat) (l : List TV)
  | nilp
  | nils
  | ms (s b off len : Nat)
  | mp (s b off : Nat)
  | me (s b m k j : Nat)
  | tup (l : List TV)
  | fn (f : FuncId) (l : List TV)
  | top
  | gh (l : List (TV × Value))

/-- What can stand in one cell of memory. -/
def TV.isCell : TV → Bool
  | .agg _ => false
  | .tup _ => false
  | .top => false
  | .gh _ => false
  | _ => true

/-- What the call owns: a row that grows, or a variable. -/
inductive TObj where
  | row (m : Nat) (rows : List (List TV))
  | box (cells : List TV)
  | void
  | iter (s : ByteArray) (pos : Nat)

abbrev Objs := List (Nat × Nat × TObj)
abbrev Env := List (Nat × TV)

def lk (t : Nat) : Env → Option TV
  | [] => none
  | (s, v) :: r => bif Nat.beq s t then some v else lk t r
theorem beq_f {s t : Nat} (h : s ≠ t) : Nat.beq s t = false := by
  cases hb : Nat.beq s t
  · rfl
  · exact absurd (Nat.eq_of_beq_eq_true hb) h
theorem ne_of_beq_f {s t : Nat} (h : Nat.beq s t = false) : s ≠ t := Nat.ne_of_beq_eq_false h
theorem lk_cons (t s : Nat) (v : TV) (r : Env) : lk t ((s, v) :: r) = if s = t then some v else lk t r := by
  show (bif Nat.beq s t then some v else lk t r) = _
  by_cases h : s = t
  · subst h; simp
  · rw [beq_f h, if_neg h]; rfl

/-- A block that the call owns. -/
def alive (objs : Objs) (b : Nat) : Prop := b ≠ 0 ∧ ∃ s o, (s, b, o) ∈ objs
def ZZ (objs : Objs) (lo : Nat) (b : Nat) : Prop := lo ≤ b ∧ ¬ alive objs b

/-- What tells that nothing is owned that a value could point into. -/
def marker : Nat × Nat × TObj := (0, 0, .row 0 [])
def MsOk (w : World) (objs : Objs) (s b off len : Nat) (v : Value) : Prop :=
  (b < w.heap.size ∧ marker ∉ objs ∧ ∃ A c, v = Value.slice A len c) ∧ (b = 0 → off = 0 ∧ len = 0 ∧ v = .slice none 0 0) ∧ ∀ m rows, b ≠ 0 → (s, b, TObj.row m rows) ∈ objs →
    ∃ o c e n, v = .slice (some ⟨b, o, none⟩) len c ∧ len ≤ c ∧ w.shape? b = some (e, n) ∧ n = (off + c) * m ∧ (0 < c ∨ off = 0 → o = off * m)
theorem MsOk.or {w : World} {objs : Objs} {s b off len : Nat} {v : Value} (h : MsOk w objs s b off len v) (m : Nat) (rows : List (List TV)) (hm : (s, b, TObj.row m rows) ∈ objs) :
    (b = 0 ∧ off = 0 ∧ len = 0 ∧ v = .slice none 0 0) ∨
    (b ≠ 0 ∧ ∃ o c e n, v = .slice (some ⟨b, o, none⟩) len c ∧ len ≤ c ∧ w.shape? b = some (e, n) ∧ n = (off + c) * m ∧ (0 < c ∨ off = 0 → o = off * m)) := by
  by_cases hb : b = 0
  · exact .inl ⟨hb, h.2.1 hb⟩
  · exact .inr ⟨hb, h.2.2 m rows hb hm⟩
theorem MsOk.mk {w : World} {objs : Objs} {s b off len : Nat} {v : Value} (h1 : b < w.heap.size ∧ marker ∉ objs ∧ ∃ A c, v = Value.slice A len c) (h2 : ∀ (m : Nat) (rows : List (List TV)), (s, b, TObj.row m rows) ∈ objs →
    (b = 0 ∧ off = 0 ∧ len = 0 ∧ v = .slice none 0 0) ∨
    (b ≠ 0 ∧ ∃ o c e n, v = .slice (some ⟨b, o, none⟩) len c ∧ len ≤ c ∧ w.shape? b = some (e, n) ∧ n = (off + c) * m ∧ (0 < c ∨ off = 0 → o = off * m))) (h3 : b = 0 → off = 0 ∧ len = 0 ∧ v = .slice none 0 0) : MsOk w objs s b off len v :=
  ⟨h1, h3, fun m rows hb hm => (h2 m rows hm).elim (fun h => absurd h.1 hb) (fun h => h.2)⟩

inductive Rep (w : World) (objs : Objs) : TV → Value → Prop
  | int (k : IntKind) (n : Int) : Rep w objs (.int k n) (.int k n)
  | bool (b : Bool) : Rep w objs (.bool b) (.bool b)
  | str (s : ByteArray) : Rep w objs (.str s) (.string s)
  | agg (l : List TV) (vs : Array Value) (hi : ∀ t ∈ l, t.isCell = true) (h : l.length = vs.size) (h2 : ∀ (i : Nat) (t : TV) (v : Value), l[i]? = some t → vs[i]? = some v → Rep w objs t v) : Rep w objs (.agg l) (.agg vs)
  | sl (f : Nat) (m : Nat) (rows : List (List TV)) (A : Option Addr) (c : Nat) (h1 : rows.length ≤ c) (h2 : c ≤ maxLen) (hm : ∀ r ∈ rows, r.length = m) (hi : ∀ t ∈ rows.flatten, t.isCell = true) (g : Nat → Value)
      (hc : ∀ (j : Nat) (t : TV), rows.flatten[j]? = some t → ∃ b o, A = some ⟨b, o, none⟩ ∧ ZZ objs f b ∧ w.cell? ⟨b, o + j, none⟩ = some (g j))
      (hr : ∀ (j : Nat) (t : TV), rows.flatten[j]? = some t → Rep w objs t (g j)) : Rep w objs (.sl f m rows) (.slice A rows.length c)
  | cp (f : Nat) (l : List TV) (hi : ∀ t ∈ l, t.isCell = true) (b o : Nat) (g : Nat → Value) (hZ : ZZ objs f b) (hb : b < w.heap.size) (hc : ∀ (j : Nat) (t : TV), l[j]? = some t → w.cell? ⟨b, o + j, none⟩ = some (g j))
      (hr : ∀ (j : Nat) (t : TV), l[j]? = some t → Rep w objs t (g j)) : Rep w objs (.cp f l) (.pointer (some ⟨b, o, none⟩))
  | nilp : Rep w objs .nilp (.pointer none)
  | nils : Rep w objs .nils (.slice none 0 0)
  | ms (s b off len : Nat) (v : Value) (h : MsOk w objs s b off len v) : Rep w objs (.ms s b off len) v
  | mp (s b off : Nat) (h : b < w.heap.size ∧ marker ∉ objs) : Rep w objs (.mp s b off) (.pointer (some ⟨b, off, none⟩))
  | me (s b m k j : Nat) (h : b < w.heap.size ∧ marker ∉ objs) : Rep w objs (.me s b m k j) (.pointer (some ⟨b, k * m + j, none⟩))
  | tup (l : List TV) (vs : Array Value) (h : l.length = vs.size) (h2 : ∀ (i : Nat) (t : TV) (v : Value), l[i]? = some t → vs[i]? = some v → Rep w objs t v) : Rep w objs (.tup l) (.tuple vs)
  | fn (f : FuncId) (l : List TV) (vs : Array Value) (h : l.length = vs.size) (h2 : ∀ (i : Nat) (t : TV) (v : Value), l[i]? = some t → vs[i]? = some v → Rep w objs t v) : Rep w objs (.fn f l) (.func (.func f) #[] vs)
  | top (v : Value) : Rep w objs .top v
  | gh (l : List (TV × Value)) (v : Value) (h : ∀ (i : Nat) (t : TV) (u : Value), l[i]? = some (t, u) → Rep w objs t u) : Rep w objs (.gh l) v

def ObjOk (w : World) (B : Nat) (objs : Objs) (b : Nat) : TObj → Prop
  | .void => b = 0
  | .iter s pos => B ≤ b ∧ w.heap[b]? = some (.stringIter s pos)
  | .row m rows => (0 < m ∧ ∀ t ∈ rows.flatten, t.isCell = true) ∧ (∀ r ∈ rows, r.length = m) ∧ ((b = 0 ∧ rows = []) ∨ (B ≤ b ∧ ∃ cur e cap, w.heap[b]? = some (.cells cur e (0, 0)) ∧ cur.size = cap * m ∧ rows.length ≤ cap ∧ cap ≤ maxLen ∧
      ∀ (j : Nat) (t : TV), rows.flatten[j]? = some t → ∃ v, cur[j]? = some v ∧ Rep w objs t v))
  | .box cells => (B ≤ b ∧ ∀ t ∈ cells, t.isCell = true) ∧ ∃ cur e, w.heap[b]? = some (.cells cur e (0, 0)) ∧ cur.size = cells.length ∧ ∀ (j : Nat) (t : TV), cells[j]? = some t → ∃ v, cur[j]? = some v ∧ Rep w objs t v

/-- What must hold of two worlds and two lists of what is owned, that values go on standing for what they stood for. -/
structure Step (w : World) (objs : Objs) (w' : World) (objs' : Objs) : Prop where
  blk : ∀ b, b < w.heap.size → ¬ alive objs b → w'.heap[b]? = w.heap[b]?
  al : ∀ b, b < w.heap.size → alive objs' b → alive objs b
  ms : ∀ s b m rows, b < w.heap.size → b ≠ 0 → (s, b, TObj.row m rows) ∈ objs' → (∃ rows0, (s, b, TObj.row m rows0) ∈ objs) ∧ w'.shape? b = w.shape? b
  size : w.heap.size ≤ w'.heap.size
  mark : marker ∈ objs' → marker ∈ objs

theorem lt_of_cell {w : World} {a : Addr} {v : Value} (h : w.cell? a = some v) : a.block < w.heap.size := World.block_lt_of_cell? w a h

theorem Rep.step {w w' : World} {objs objs' : Objs} (hs : Step w objs w' objs') {t : TV} {v : Value} (h : Rep w objs t v) : Rep w' objs' t v := by
  have hcell : ∀ (f : Nat) b o v, ZZ objs f b → w.cell? ⟨b, o, none⟩ = some v → ZZ objs' f b ∧ w'.cell? ⟨b, o, none⟩ = some v := fun f b o v hz hc => by
    have hb := lt_of_cell hc
    exact ⟨⟨hz.1, fun ha => hz.2 (hs.al b hb ha)⟩, (World.cell?_of_block (w := w) (w' := w') (a := ⟨b, o, none⟩) (hs.blk b hb hz.2)).trans hc⟩
  induction h with
  | int k n => exact .int k n
  | bool b => exact .bool b
  | str s => exact .str s
  | agg l vs hi h h2 ih => exact .agg l vs hi h ih
  | sl f m rows A c h1 h2 hm hi g hc hr ih =>
    refine .sl f m rows A c h1 h2 hm hi g (fun j t hj => ?_) ih
    obtain ⟨b, o, hA, hz, hcc⟩ := hc j t hj
    obtain ⟨h3, h4⟩ := hcell f b (o + j) _ hz hcc
    exact ⟨b, o, hA, h3, h4⟩
  | cp f l hi b o g hZ hb hc hr ih =>
    exact .cp f l hi b o g ⟨hZ.1, fun ha => hZ.2 (hs.al b hb ha)⟩ (Nat.lt_of_lt_of_le hb hs.size) (fun j t hj => (hcell f b (o + j) _ hZ (hc j t hj)).2) ih
  | nilp => exact .nilp
  | nils => exact .nils
  | ms s b off len v h =>
    refine .ms s b off len v ⟨⟨Nat.lt_of_lt_of_le h.1.1 hs.size, fun hk => h.1.2.1 (hs.mark hk), h.1.2.2⟩, h.2.1, fun m rows hb hm => ?_⟩
    obtain ⟨⟨rows0, h0⟩, hsh⟩ := hs.ms s b m rows h.1.1 hb hm
    obtain ⟨o, c, e, n, h3, h4, h5, h6⟩ := h.2.2 m rows0 hb h0
    exact ⟨o, c, e, n, h3, h4, hsh.trans h5, h6⟩
  | mp s b off h => exact .mp s b off ⟨Nat.lt_of_lt_of_le h.1 hs.size, fun hk => h.2 (hs.mark hk)⟩
  | me s b m k j h => exact .me s b m k j ⟨Nat.lt_of_lt_of_le h.1 hs.size, fun hk => h.2 (hs.mark hk)⟩
  | tup l vs h h2 ih => exact .tup l vs h ih
  | fn f l vs h h2 ih => exact .fn f l vs h ih
  | top v => exact .top v
  | gh l v h ih => exact .gh l v ih

abbrev SiteRel : Nat × Nat × TObj → Nat × Nat × TObj → Prop := fun x y => x.1 ≠ y.1 ∧ (x.2.1 ≠ y.2.1 ∨ x.2.1 = 0)
/-- The memory of a walk: w0 is the world when the call began. -/
structure SimW (w0 : World) (objs : Objs) (w : World) : Prop where
  below : Below w0.heap.size w0 w
  pos : 0 < w0.heap.size
  obj : ∀ s b o, (s, b, o) ∈ objs → ObjOk w w0.heap.size objs b o
  sites : List.Pairwise SiteRel objs

theorem SimW.noMark {w0 w : World} {objs : Objs} (h : SimW w0 objs w) : marker ∉ objs := fun hm => absurd (h.obj 0 0 _ hm).1.1 (Nat.lt_irrefl _)

/-- The state of a walk: the frame's slots as the environment says. -/
structure Sim (w0 : World) (N : Nat) (env : Env) (objs : Objs) (a : Act) (w : World) : Prop where
  defers : a.defers = []
  size : a.tmps.size = N
  mem : SimW w0 objs w
  env : ∀ t v, lk t env = some v → Rep w objs v (a.tmps.getD t undef)

structure AW (P : Program) (w0 : World) (N : Nat) (c : Code) (Q : Exit → Act → World → Prop) (env : Env) (objs : Objs) : Prop where
  run : ∀ a w, Sim w0 N env objs a w → c.wp P Q a w
structure AL (P : Program) (w0 : World) (N : Nat) (ops : Array Oper) (Q : Exit → Act → World → Prop) (rest : List Oper) (env : Env) (objs : Objs) : Prop where
  run : ∀ a w, Sim w0 N env objs a w → wpList P ops Q rest a w
/-- The next operation is carried out. -/
structure AO (P : Program) (w0 : World) (N : Nat) (ops : Array Oper) (Q : Exit → Act → World → Prop) (o : Oper) (rest : List Oper) (env : Env) (objs : Objs) : Prop where
  run : ∀ a w (K : Act → World → Prop), Sim w0 N env objs a w → (∀ a w, wpList P ops Q rest a w → K a w) → o.wp P a w K Q
structure AQ (w0 : World) (N : Nat) (Q : Exit → Act → World → Prop) (x : Exit) (env : Env) (objs : Objs) : Prop where
  run : ∀ a w, Sim w0 N env objs a w → Q x a w

section
variable {P : Program} {w0 : World} {N : Nat} {Q : Exit → Act → World → Prop} {env : Env} {objs : Objs}

theorem aw_seq {x y : Code} (h : AW P w0 N x (Exit.then (y.wp P Q) Q) env objs) : AW P w0 N (.seq x y) Q env objs := ⟨fun a w hs => wp_seq (h.run a w hs)⟩
theorem aw_skip (h : AQ w0 N Q .normal env objs) : AW P w0 N .skip Q env objs := ⟨fun a w hs => wp_skip (h.run a w hs)⟩
theorem aw_exit {id : Nat} (h : AQ w0 N Q (.exit id) env objs) : AW P w0 N (.exit id) Q env objs := ⟨fun a w hs => wp_exit (h.run a w hs)⟩
theorem aw_ret (h : AQ w0 N Q .ret env objs) : AW P w0 N .ret Q env objs := ⟨fun a w hs => wp_ret (h.run a w hs)⟩
theorem aw_block {id : Nat} {c : Code} (h : AW P w0 N c (Exit.inBlock id Q) env objs) : AW P w0 N (.block id c) Q env objs := ⟨fun a w hs => wp_block (h.run a w hs)⟩
theorem aw_region {id : Nat} {l : List Oper} (h : AL P w0 N l.toArray Q l env objs) : AW P w0 N (.region id l.toArray false) Q env objs := ⟨fun a w hs => wp_region_lit (h.run a w hs)⟩
theorem al_nil {ops : Array Oper} (h : AQ w0 N Q .normal env objs) : AL P w0 N ops Q [] env objs := ⟨fun a w hs => wpList_nil (h.run a w hs)⟩

theorem aq_then {y : Code} (h : AW P w0 N y Q env objs) : AQ w0 N (Exit.then (y.wp P Q) Q) .normal env objs := ⟨h.run⟩
theorem aq_then_exit {K : Act → World → Prop} {id : Nat} (h : AQ w0 N Q (.exit id) env objs) : AQ w0 N (Exit.then K Q) (.exit id) env objs := ⟨h.run⟩
theorem aq_then_ret {K : Act → World → Prop} (h : AQ w0 N Q .ret env objs) : AQ w0 N (Exit.then K Q) .ret env objs := ⟨h.run⟩
theorem aq_block {id : Nat} (h : AQ w0 N Q .normal env objs) : AQ w0 N (Exit.inBlock id Q) .normal env objs := ⟨h.run⟩
theorem aq_block_ret {id : Nat} (h : AQ w0 N Q .ret env objs) : AQ w0 N (Exit.inBlock id Q) .ret env objs := ⟨h.run⟩
theorem aq_block_hit {id : Nat} (h : AQ w0 N Q .normal env objs) : AQ w0 N (Exit.inBlock id Q) (.exit id) env objs := ⟨fun a w hs => by
  show (if id = id then _ else _)
  rw [if_pos rfl]; exact h.run a w hs⟩
theorem aq_block_miss {id id' : Nat} (hn : Nat.beq id' id = false) (h : AQ w0 N Q (.exit id') env objs) : AQ w0 N (Exit.inBlock id Q) (.exit id') env objs := ⟨fun a w hs => by
  show (if id' = id then _ else _)
  rw [if_neg (ne_of_beq_f hn)]; exact h.run a w hs⟩

theorem Rep.bool_inv {w : World} {b : Bool} {v : Value} (h : Rep w objs (.bool b) v) : v = .bool b := by cases h; rfl
theorem Rep.int_inv {w : World} {k : IntKind} {n : Int} {v : Value} (h : Rep w objs (.int k n) v) : v = .int k n := by cases h; rfl
theorem Rep.str_inv {w : World} {s : ByteArray} {v : Value} (h : Rep w objs (.str s) v) : v = .string s := by cases h; rfl

theorem aw_cond {t : Nat} {v : TV} {p : Prop} {i : Decidable p} {x y : Code} (hl : lk t env = some v) (he : v = .bool (@decide p i)) (ht : p → AW P w0 N x Q env objs) (hf : ¬ p → AW P w0 N y Q env objs) : AW P w0 N (.cond (.tmp t) x y) Q env objs := ⟨fun a w hs => by
  have hv : a.eval (.tmp t) = .bool (decide p) := (hs.env t _ (he ▸ hl)).bool_inv
  by_cases h : p
  · exact wp_cond_true (by rw [hv]; simp [h]) ((ht h).run a w hs)
  · exact wp_cond_false (by rw [hv]; simp [h]) ((hf h).run a w hs)⟩
theorem aw_cond_b {t : Nat} {v : TV} {b : Bool} {x y : Code} (hl : lk t env = some v) (he : v = .bool b) (ht : b = true → AW P w0 N x Q env objs) (hf : b = false → AW P w0 N y Q env objs) : AW P w0 N (.cond (.tmp t) x y) Q env objs := ⟨fun a w hs => by
  have hv : a.eval (.tmp t) = .bool b := (hs.env t _ (he ▸ hl)).bool_inv
  exact wp_cond_split hv (fun h => (ht h).run a w hs) (fun h => (hf h).run a w hs)⟩
theorem aw_cond_t {t : Nat} {v : TV} {x y : Code} (hl : lk t env = some v) (he : v = .bool true) (ht : AW P w0 N x Q env objs) : AW P w0 N (.cond (.tmp t) x y) Q env objs := ⟨fun a w hs => wp_cond_true (hs.env t _ (he ▸ hl)).bool_inv (ht.run a w hs)⟩
theorem aw_cond_f {t : Nat} {v : TV} {x y : Code} (hl : lk t env = some v) (he : v = .bool false) (hf : AW P w0 N y Q env objs) : AW P w0 N (.cond (.tmp t) x y) Q env objs := ⟨fun a w hs => wp_cond_false (hs.env t _ (he ▸ hl)).bool_inv (hf.run a w hs)⟩
theorem aw_cond_dt {t : Nat} {v : TV} {p : Prop} {i : Decidable p} {x y : Code} (hl : lk t env = some v) (he : v = .bool (@decide p i)) (hp : p) (ht : AW P w0 N x Q env objs) : AW P w0 N (.cond (.tmp t) x y) Q env objs := aw_cond hl he (fun _ => ht) (fun h => absurd hp h)
theorem aw_cond_df {t : Nat} {v : TV} {p : Prop} {i : Decidable p} {x y : Code} (hl : lk t env = some v) (he : v = .bool (@decide p i)) (hp : ¬ p) (hf : AW P w0 N y Q env objs) : AW P w0 N (.cond (.tmp t) x y) Q env objs := aw_cond hl he (fun h => absurd h hp) (fun _ => hf)

/-- What is owned, listed in another order or in part. -/
structure Pick (objs' objs : Objs) : Prop where
  mem : ∀ x ∈ objs', x ∈ objs
  sites : List.Pairwise SiteRel objs → List.Pairwise SiteRel objs'
theorem Pick.refl (l : Objs) : Pick l l := ⟨fun _ h => h, id⟩
theorem Pick.trans {a b c : Objs} (h : Pick a b) (k : Pick b c) : Pick a c := ⟨fun x hx => k.mem x (h.mem x hx), fun hp => h.sites (k.sites hp)⟩
theorem Pick.sub {a b : Objs} (h : List.Sublist a b) : Pick a b := ⟨fun _ hx => h.subset hx, fun hp => hp.sublist h⟩
theorem SiteRel.symm {x y : Nat × Nat × TObj} (h : SiteRel x y) : SiteRel y x := ⟨h.1.symm, by
  by_cases e : x.2.1 = y.2.1
  · rcases h.2 with h2 | h2
    · exact absurd e h2
    · exact .inr (e ▸ h2)
  · exact .inl (Ne.symm e)⟩
theorem Pick.perm {a b : Objs} (h : a.Perm b) : Pick a b := ⟨fun _ hx => h.subset hx, fun hp => h.symm.pairwise hp (fun h => SiteRel.symm h)⟩
theorem Pick.nil (l : Objs) : Pick [] l := .sub (List.nil_sublist l)
inductive Del (x : Nat × Nat × TObj) : Objs → Objs → Prop
  | head (l : Objs) : Del x (x :: l) l
  | tail (y : Nat × Nat × TObj) (l l' : Objs) (h : Del x l l') : Del x (y :: l) (y :: l')
theorem Del.perm {x : Nat × Nat × TObj} {l l' : Objs} (h : Del x l l') : (x :: l').Perm l := by
  induction h with
  | head l => exact .refl _
  | tail y l l' h ih => exact (List.Perm.swap y x l').trans (ih.cons y)
theorem Pick.cons {x : Nat × Nat × TObj} {l' l l1 : Objs} (hd : Del x l l1) (h : Pick l' l1) : Pick (x :: l') l := by
  refine Pick.trans ?_ (.perm hd.perm)
  refine ⟨fun y hy => ?_, fun hp => ?_⟩
  · rcases List.mem_cons.1 hy with rfl | hy
    · exact List.mem_cons_self
    · exact List.mem_cons_of_mem _ (h.mem y hy)
  · obtain ⟨h1, h2⟩ := List.pairwise_cons.1 hp
    exact List.pairwise_cons.2 ⟨fun y hy => h1 y (h.mem y hy), h.sites h2⟩
theorem Pick.drop {x : Nat × Nat × TObj} {l' l : Objs} (h : Pick l' l) : Pick l' (x :: l) := h.trans (.sub (List.sublist_cons_self x l))

/-- A state that says less. -/
structure Weak (env : Env) (objs : Objs) (env' : Env) (objs' : Objs) : Prop where
  env : ∀ t v, lk t env' = some v → lk t env = some v
  objs : Pick objs' objs
theorem Weak.envNil : ∀ t v, lk t [] = some v → lk t env = some v := fun t v h => by simp [lk] at h
theorem Weak.envCons {t : Nat} {v : TV} {env' : Env} (h : lk t env = some v) (hr : ∀ t v, lk t env' = some v → lk t env = some v) : ∀ t' v', lk t' ((t, v) :: env') = some v' → lk t' env = some v' := fun t' v' h' => by
  rw [lk_cons] at h'
  split at h'
  · rename_i e; subst e; rw [h, h']
  · exact hr _ _ h'

theorem alive_sub {objs' : Objs} (h : Pick objs' objs) {b : Nat} (ha : alive objs' b) : alive objs b := ⟨ha.1, let ⟨s, o, hm⟩ := ha.2; ⟨s, o, h.mem _ hm⟩⟩
theorem step_sub {objs' : Objs} (h : Pick objs' objs) (w : World) : Step w objs w objs' :=
  ⟨fun _ _ _ => rfl, fun _ _ ha => alive_sub h ha, fun _ _ _ rows _ _ hm => ⟨⟨rows, h.mem _ hm⟩, rfl⟩, Nat.le_refl _, fun hk => h.mem _ hk⟩
theorem ObjOk.step {w w' : World} {B b : Nat} {objs' : Objs} {o : TObj} (hs : Step w objs w' objs') (hb : w'.heap[b]? = w.heap[b]?) (h : ObjOk w B objs b o) : ObjOk w' B objs' b o := by
  cases o with
  | void => exact h
  | iter s pos => exact ⟨h.1, hb.trans h.2⟩
  | row m rows =>
    refine ⟨h.1, h.2.1, h.2.2.imp id fun ⟨h1, cur, e, cap, h2, h3, h4, h5, h6⟩ => ⟨h1, cur, e, cap, hb.trans h2, h3, h4, h5, fun j t hj => ?_⟩⟩
    obtain ⟨v, h7, h8⟩ := h6 j t hj
    exact ⟨v, h7, h8.step hs⟩
  | box cells =>
    obtain ⟨h1, cur, e, h2, h3, h6⟩ := h
    refine ⟨h1, cur, e, hb.trans h2, h3, fun j t hj => ?_⟩
    obtain ⟨v, h7, h8⟩ := h6 j t hj
    exact ⟨v, h7, h8.step hs⟩
theorem SimW.sub {w : World} {objs' : Objs} (h : SimW w0 objs w) (hsub : Pick objs' objs) : SimW w0 objs' w :=
  ⟨h.below, h.pos, fun s b o hm => (h.obj s b o (hsub.mem _ hm)).step (step_sub hsub w) rfl, hsub.sites h.sites⟩
theorem Sim.weak {a : Act} {w : World} {env' : Env} {objs' : Objs} (h : Sim w0 N env objs a w) (k : Weak env objs env' objs') : Sim w0 N env' objs' a w :=
  ⟨h.defers, h.size, h.mem.sub k.objs, fun t v ht => (h.env t v (k.env t v ht)).step (step_sub k.objs w)⟩

/-- A loop: the state at its head is (E x, O x) for some x that meets I. -/
def AInv {X : Type} (w0 : World) (N : Nat) (E : X → Env) (O : X → Objs) (I : X → Prop) (μ : X → Nat) (n : Nat) (a : Act) (w : World) : Prop := ∃ x, I x ∧ μ x < n ∧ Sim w0 N (E x) (O x) a w
theorem aw_loop {X : Type} {body : Code} (E : X → Env) (O : X → Objs) (I : X → Prop) (μ : X → Nat) (x0 : X) (h0 : I x0) (hw : Weak env objs (E x0) (O x0))
    (round : ∀ x, I x → AW P w0 N body (Exit.then (AInv w0 N E O I μ (μ x)) Q) (E x) (O x)) : AW P w0 N (.loop body) Q env objs := ⟨fun a w hs => by
  refine wp_loop_ghost (fun n a w => ∃ x, I x ∧ μ x = n ∧ Sim w0 N (E x) (O x) a w) (μ x0) ⟨x0, h0, rfl, hs.weak hw⟩ ?_
  rintro n a w ⟨x, hI, rfl, hs⟩
  refine wp_mono ((round x hI).run a w hs) fun e a' w' hq => ?_
  cases e with
  | normal =>
    obtain ⟨y, hy, hlt, hs'⟩ := hq
    exact ⟨μ y, hlt, y, hy, rfl, hs'⟩
  | exit id => exact hq
  | goto l => exact hq
  | ret => exact hq
  | panic c => exact hq
  | outgrown => exact hq⟩
theorem aq_round {X : Type} {E : X → Env} {O : X → Objs} {I : X → Prop} {μ : X → Nat} {n : Nat} (y : X) (hI : I y) (hlt : μ y < n) (k : Weak env objs (E y) (O y)) : AQ w0 N (Exit.then (AInv w0 N E O I μ n) Q) .normal env objs :=
  ⟨fun _ _ hs => ⟨y, hI, hlt, hs.weak k⟩⟩
/-- Ways that meet again: behind the first part the state is (E y, O y) for some y that meets I. -/
def AMid {X : Type} (w0 : World) (N : Nat) (E : X → Env) (O : X → Objs) (I : X → Prop) (a : Act) (w : World) : Prop := ∃ y, I y ∧ Sim w0 N (E y) (O y) a w
theorem aq_mid {X : Type} {E : X → Env} {O : X → Objs} {I : X → Prop} (y : X) (hI : I y) (k : Weak env objs (E y) (O y)) : AQ w0 N (Exit.then (AMid w0 N E O I) Q) .normal env objs := ⟨fun _ _ hs => ⟨y, hI, hs.weak k⟩⟩
end

end Go.Proofs.YthpdkhejeookhaaGreatDoor
/- The sizes of the seat's types and the places of their fields, by program. -/
namespace Go.Proofs.YthpdkhejeookhaaGreatDoor
open Go
def tabSz : List Nat := [1, 1, 1, 1, 1, 1, 1, 4, 4, 1, 1, 1, 1, 2, 2, 1, 1, 1, 1, 1, 1, 1, 1, 1, 1, 4, 4, 1, 1, 1, 1, 4, 4, 1, 1, 1, 1, 1, 1, 3, 3, 1, 3, 1, 1, 1, 1, 1, 1, 1, 6, 6, 1, 1, 1, 1, 3, 3, 20, 20, 1, 1, 1, 1, 1, 6, 6, 1, 1, 1, 3, 20, 20, 1, 1, 1, 1, 1, 1, 1, 1, 1, 1, 4, 4, 1, 1, 1, 4, 4, 1, 1, 1, 1, 1, 1, 1, 1, 1, 1, 1, 1, 1, 1, 1, 1, 1, 1, 4, 4, 1, 1, 1, 1, 1, 4, 4, 1, 1, 1, 1, 1, 1, 1, 1, 1, 1, 1, 1, 1, 1, 1, 1, 1, 1, 1, 1, 1, 1, 1, 1, 1, 1, 1, 1, 1, 1, 1, 1, 1, 1, 6, 6, 1, 14, 14, 1, 4, 4, 1, 1, 3, 3, 1, 1, 4, 4, 1, 4, 1, 1, 1, 1, 1, 1, 1, 1, 3, 1, 1, 1, 1, 1, 1, 1, 1, 1, 1, 1, 1, 1, 1, 1, 1, 1, 1, 1, 1, 1, 1, 1, 1, 1, 1, 2, 2, 1, 1, 2, 2, 1, 1, 1, 1, 1, 1, 1, 1, 1, 6, 6, 1, 1, 14, 14, 1, 1, 1, 1, 1, 1, 1, 1, 1, 1, 1, 1, 1, 1, 2, 1, 1, 1, 1, 1, 1, 1, 1, 1, 1, 5, 5, 6, 6, 1, 1, 1, 1, 1, 1, 1, 1, 1, 1, 1, 1, 1, 1, 1, 1, 1, 1, 1, 4, 4, 1, 1, 1, 1, 1, 1, 1, 1, 1, 4, 1, 1, 1, 4, 4, 1, 1, 1, 1, 1, 1, 1, 1, 1, 1, 1, 1, 1, 1, 1, 1, 1, 1, 1, 1, 1, 1, 1, 256, 2, 2, 32, 1, 1, 4, 4, 0, 0, 0, 1, 1, 1, 1, 1, 1, 1, 11, 11, 5, 5, 1]
def tabOf : List (List Nat) := [[], [], [], [], [], [], [], [0, 1, 2, 3], [0, 1, 2, 3], [], [], [], [], [0, 1], [0, 1], [], [], [], [0], [0], [], [], [], [], [], [0, 1, 2, 3], [0, 1, 2, 3], [], [], [], [], [0, 1, 2, 3], [0, 1, 2, 3], [], [], [], [], [], [], [0, 1, 2], [0, 1, 2], [], [0, 1, 2], [], [], [], [], [], [], [], [0, 1, 2, 3, 4, 5], [0, 1, 2, 3, 4, 5], [], [], [], [], [0, 1, 2], [0, 1, 2], [0, 4, 10, 11, 12, 13, 14, 15, 16, 19], [0, 4, 10, 11, 12, 13, 14, 15, 16, 19], [], [], [], [], [], [0, 1, 2, 3, 4, 5], [0, 1, 2, 3, 4, 5], [], [], [], [0, 1, 2], [0, 4, 10, 11, 12, 13, 14, 15, 16, 19], [0, 4, 10, 11, 12, 13, 14, 15, 16, 19], [], [], [], [], [], [], [], [], [], [], [0, 1, 2, 3], [0, 1, 2, 3], [], [], [], [0, 1, 2, 3], [0, 1, 2, 3], [], [], [], [], [], [], [], [], [], [], [], [], [], [], [], [], [], [], [0, 1, 2, 3], [0, 1, 2, 3], [], [], [], [], [], [0, 1, 2, 3], [0, 1, 2, 3], [], [], [], [], [], [], [], [], [], [], [], [], [], [], [], [], [], [], [], [], [], [], [], [], [], [], [], [], [], [], [], [], [], [], [0, 1, 2, 3], [0, 1, 2, 3], [], [0, 1, 2, 3, 4, 5, 6, 9, 10, 11, 12, 13], [0, 1, 2, 3, 4, 5, 6, 9, 10, 11, 12, 13], [], [0, 1, 2, 3], [0, 1, 2, 3], [], [], [0, 1, 2], [0, 1, 2], [], [], [0, 1, 2, 3], [0, 1, 2, 3], [], [0, 1, 2, 3], [], [], [], [], [], [], [], [], [0, 1, 2], [], [], [], [], [], [], [], [], [], [], [], [], [], [], [], [], [], [], [], [], [], [], [], [], [], [], [0, 1], [0, 1], [], [], [0, 1], [0, 1], [], [], [], [], [], [], [], [], [], [0, 1, 2, 3], [0, 1, 2, 3], [], [], [0, 1, 2, 3, 4, 5, 6, 9, 10, 11, 12, 13], [0, 1, 2, 3, 4, 5, 6, 9, 10, 11, 12, 13], [], [], [], [], [], [], [], [], [], [], [], [], [], [], [0, 1], [], [], [], [], [], [], [], [], [], [], [0, 1, 2, 3, 4], [0, 1, 2, 3, 4], [0, 1], [0, 1], [], [], [], [], [], [], [], [], [], [], [], [], [], [], [], [], [], [], [], [0, 1, 2, 3], [0, 1, 2, 3], [], [], [], [], [], [], [], [], [], [0, 1, 2, 3], [], [], [], [0, 1, 2, 3], [0, 1, 2, 3], [], [], [], [], [], [], [], [], [], [], [], [], [], [], [], [], [], [], [], [], [], [], [], [], [0, 1], [0, 1], [], [], [], [0, 1, 2, 3], [0, 1, 2, 3], [], [0], [0], [], [], [], [], [], [], [], [0, 1, 2, 3, 4, 5, 6, 7, 8, 9, 10], [0, 1, 2, 3, 4, 5, 6, 7, 8, 9, 10], [0, 1, 2, 3, 4], [0, 1, 2, 3, 4], []]
def szT (t : Nat) : Nat := tabSz.getD t 0
def ofT (t k : Nat) : Nat := (tabOf.getD t []).getD k 0
def tabZ : List (List TV) := [[], [], [.int .i64 0], [.int .i64 0], [.bool false], [.int .u8 0], [.int .u8 0], [.int .i64 0, .int .i64 0, .bool false, .int .u8 0], [.int .i64 0, .int .i64 0, .bool false, .int .u8 0], [.str ⟨#[]⟩], [.str ⟨#[]⟩], [.str ⟨#[]⟩], [.int .u64 0], [.str ⟨#[]⟩, .int .u64 0], [.str ⟨#[]⟩, .int .u64 0], [.nilp], [.nilp], [.nilp], [.nilp], [.nilp], [], [.int .i32 0], [.nils], [.nils], [.nils], [.nils, .nils, .nils, .int .i64 0], [.nils, .nils, .nils, .int .i64 0], [], [.nils], [.nils], [.nils], [.nils, .nils, .nils, .int .i64 0], [.nils, .nils, .nils, .int .i64 0], [], [], [], [], [], [], [.int .i64 0, .int .i64 0, .int .i64 0], [.int .i64 0, .int .i64 0, .int .i64 0], [], [.int .i64 0, .int .i64 0, .int .i64 0], [], [], [], [], [], [.nils], [.nils], [.nils, .nils, .nils, .int .i64 0, .int .i64 0, .int .i64 0], [.nils, .nils, .nils, .int .i64 0, .int .i64 0, .int .i64 0], [.nils], [.nils], [.nils], [.nils], [.int .i64 0, .int .i64 0, .str ⟨#[]⟩], [.int .i64 0, .int .i64 0, .str ⟨#[]⟩], [.nils, .nils, .nils, .int .i64 0, .nils, .nils, .nils, .int .i64 0, .int .i64 0, .int .i64 0, .nils, .nils, .nils, .nils, .int .i64 0, .int .i64 0, .int .i64 0, .int .i64 0, .str ⟨#[]⟩, .str ⟨#[]⟩], [.nils, .nils, .nils, .int .i64 0, .nils, .nils, .nils, .int .i64 0, .int .i64 0, .int .i64 0, .nils, .nils, .nils, .nils, .int .i64 0, .int .i64 0, .int .i64 0, .int .i64 0, .str ⟨#[]⟩, .str ⟨#[]⟩], [], [], [], [], [.nils], [.nils, .nils, .nils, .int .i64 0, .int .i64 0, .int .i64 0], [.nils, .nils, .nils, .int .i64 0, .int .i64 0, .int .i64 0], [.nils], [.nils], [.nils], [.int .i64 0, .int .i64 0, .str ⟨#[]⟩], [.nils, .nils, .nils, .int .i64 0, .nils, .nils, .nils, .int .i64 0, .int .i64 0, .int .i64 0, .nils, .nils, .nils, .nils, .int .i64 0, .int .i64 0, .int .i64 0, .int .i64 0, .str ⟨#[]⟩, .str ⟨#[]⟩], [.nils, .nils, .nils, .int .i64 0, .nils, .nils, .nils, .int .i64 0, .int .i64 0, .int .i64 0, .nils, .nils, .nils, .nils, .int .i64 0, .int .i64 0, .int .i64 0, .int .i64 0, .str ⟨#[]⟩, .str ⟨#[]⟩], [], [], [], [], [], [], [], [], [.nilp], [.nils], [.nils, .nils, .bool false, .nils], [.nils, .nils, .bool false, .nils], [], [], [], [.int .i64 0, .bool false, .str ⟨#[]⟩, .int .i64 0], [.int .i64 0, .bool false, .str ⟨#[]⟩, .int .i64 0], [], [], [], [], [], [], [], [], [], [], [], [], [], [], [], [], [.nilp], [.nils], [.bool false, .int .i64 0, .int .i64 0, .nils], [.bool false, .int .i64 0, .int .i64 0, .nils], [], [], [], [], [], [.int .i64 0, .int .i64 0, .int .i64 0, .str ⟨#[]⟩], [.int .i64 0, .int .i64 0, .int .i64 0, .str ⟨#[]⟩], [], [], [.nils], [], [], [], [], [], [], [], [], [], [], [], [], [], [], [], [], [], [], [], [], [.nilp], [], [], [], [], [], [], [], [], [], [], [.int .i64 0, .int .i64 0, .int .i64 0, .int .i64 0, .int .i64 0, .str ⟨#[]⟩], [.int .i64 0, .int .i64 0, .int .i64 0, .int .i64 0, .int .i64 0, .str ⟨#[]⟩], [.nils], [.int .i64 0, .int .i64 0, .int .i64 0, .int .i64 0, .int .i64 0, .int .i64 0, .int .i64 0, .int .i64 0, .str ⟨#[]⟩, .nils, .nils, .nils, .int .i64 0, .bool false], [.int .i64 0, .int .i64 0, .int .i64 0, .int .i64 0, .int .i64 0, .int .i64 0, .int .i64 0, .int .i64 0, .str ⟨#[]⟩, .nils, .nils, .nils, .int .i64 0, .bool false], [], [.int .i64 0, .int .i64 0, .nils, .nils], [.int .i64 0, .int .i64 0, .nils, .nils], [], [], [.str ⟨#[]⟩, .int .i64 0, .nils], [.str ⟨#[]⟩, .int .i64 0, .nils], [], [.nils], [.bool false, .int .i64 0, .int .i64 0, .nils], [.bool false, .int .i64 0, .int .i64 0, .nils], [], [.int .i64 0, .bool false, .str ⟨#[]⟩, .int .i64 0], [], [], [], [], [.nilp], [], [], [], [.str ⟨#[]⟩, .int .i64 0, .nils], [], [], [], [], [], [], [], [], [], [], [], [], [], [], [], [], [], [.nils], [], [.nilp], [.nilp], [], [], [], [.nils], [], [.int .i64 0, .int .i64 0], [.int .i64 0, .int .i64 0], [], [], [.int .i64 0, .bool false], [.int .i64 0, .bool false], [], [], [], [], [], [], [], [], [], [.int .i64 0, .int .i64 0, .int .i64 0, .int .i64 0, .int .i64 0, .str ⟨#[]⟩], [.int .i64 0, .int .i64 0, .int .i64 0, .int .i64 0, .int .i64 0, .str ⟨#[]⟩], [], [.nils], [.int .i64 0, .int .i64 0, .int .i64 0, .int .i64 0, .int .i64 0, .int .i64 0, .int .i64 0, .int .i64 0, .str ⟨#[]⟩, .nils, .nils, .nils, .int .i64 0, .bool false], [.int .i64 0, .int .i64 0, .int .i64 0, .int .i64 0, .int .i64 0, .int .i64 0, .int .i64 0, .int .i64 0, .str ⟨#[]⟩, .nils, .nils, .nils, .int .i64 0, .bool false], [], [.nilp], [], [], [], [], [], [], [], [], [], [], [], [], [.int .i64 0, .bool false], [], [.nils], [], [.nils], [], [], [], [], [.nils], [.nils], [.str ⟨#[]⟩, .bool false, .nils, .nils, .nils], [.str ⟨#[]⟩, .bool false, .nils, .nils, .nils], [.nils, .str ⟨#[]⟩, .bool false, .nils, .nils, .nils], [.nils, .str ⟨#[]⟩, .bool false, .nils, .nils, .nils], [], [.nilp], [], [], [], [], [], [], [], [], [], [.nils], [], [.int .u64 0], [], [], [], [], [], [.int .i64 0, .int .i64 0, .nils, .nils], [.int .i64 0, .int .i64 0, .nils, .nils], [], [], [], [], [], [], [], [], [], [.int .i64 0, .int .i64 0, .int .i64 0, .str ⟨#[]⟩], [], [], [.nils], [.str ⟨#[]⟩, .str ⟨#[]⟩, .nils, .nils], [.str ⟨#[]⟩, .str ⟨#[]⟩, .nils, .nils], [], [], [], [], [], [], [], [.int .u32 0], [], [], [.int .u64 0], [], [], [], [], [], [], [], [], [], [], [], [], [], [.int .u8 0, .int .u8 0], [.int .u8 0, .int .u8 0], [.int .u8 0, .int .u8 0, .int .u8 0, .int .u8 0, .int .u8 0, .int .u8 0, .int .u8 0, .int .u8 0, .int .u8 0, .int .u8 0, .int .u8 0, .int .u8 0, .int .u8 0, .int .u8 0, .int .u8 0, .int .u8 0, .int .u8 0, .int .u8 0, .int .u8 0, .int .u8 0, .int .u8 0, .int .u8 0, .int .u8 0, .int .u8 0, .int .u8 0, .int .u8 0, .int .u8 0, .int .u8 0, .int .u8 0, .int .u8 0, .int .u8 0, .int .u8 0], [], [], [.nilp, .nilp, .nilp, .str ⟨#[]⟩], [.nilp, .nilp, .nilp, .str ⟨#[]⟩], [], [], [], [], [.int .u8 0], [.int .u8 0], [], [.nilp], [.int .i32 0], [.int .i32 0], [], [], [.int .i64 0, .str ⟨#[]⟩, .int .i64 0, .nils, .nils], [.int .i64 0, .str ⟨#[]⟩, .int .i64 0, .nils, .nils], [.nilp]]
def zT (t : Nat) : List TV := tabZ.getD t []
def tabK : List (Option IntKind) := [none, none, some .i64, some .i64, none, some .u8, some .u8, none, none, none, none, none, some .u64, none, none, none, none, none, none, none, none, some .i32, none, none, none, none, none, none, none, none, none, none, none, none, none, none, none, none, none, none, none, none, none, none, none, none, none, none, none, none, none, none, none, none, none, none, none, none, none, none, none, none, none, none, none, none, none, none, none, none, none, none, none, none, none, none, none, none, none, none, none, none, none, none, none, none, none, none, none, none, none, none, none, none, none, none, none, none, none, none, none, none, none, none, none, none, none, none, none, none, none, none, none, none, none, none, none, none, none, none, none, none, none, none, none, none, none, none, none, none, none, none, none, none, none, none, none, none, none, none, none, none, none, none, none, none, none, none, none, none, none, none, none, none, none, none, none, none, none, none, none, none, none, none, none, none, none, none, none, none, none, none, none, none, none, none, none, none, none, none, none, none, none, none, none, none, none, none, none, none, none, none, none, none, none, none, none, none, none, none, none, none, none, none, none, none, none, none, none, none, none, none, none, none, none, none, none, none, none, none, none, none, none, none, none, none, none, none, none, none, none, none, none, none, none, none, none, none, none, none, none, none, none, none, none, none, none, none, none, none, none, none, none, none, none, none, none, none, none, none, none, none, none, none, none, none, none, some .u64, none, none, none, none, none, none, none, none, none, none, none, none, none, none, none, none, none, none, none, none, none, none, none, none, none, none, none, none, none, some .u32, none, none, some .u64, none, none, none, none, none, none, none, none, none, none, none, none, none, none, none, none, none, none, none, none, none, none, none, none, some .u8, some .u8, none, none, some .i32, some .i32, none, none, none, none, none]
def kdT (t : Nat) : Option IntKind := tabK.getD t none
def tabES : List (Option Nat) := [none, none, none, none, none, none, none, none, none, none, none, none, none, none, none, none, none, none, none, none, none, none, some 3, some 4, some 4, none, none, none, some 3, some 4, some 4, none, none, none, none, none, none, none, none, none, none, none, none, none, none, none, none, none, some 4, some 1, none, none, some 6, some 14, some 2, some 1, none, none, none, none, none, none, none, none, some 4, none, none, some 6, some 14, some 2, none, none, none, none, none, none, none, none, none, none, none, none, some 1, none, none, none, none, none, none, none, none, none, none, none, none, none, none, none, none, none, none, none, none, none, none, none, none, some 4, none, none, none, none, none, none, none, none, none, none, none, some 3, none, none, none, none, none, none, none, none, none, none, none, none, none, none, none, none, none, none, none, none, none, none, none, none, none, none, none, none, none, none, none, none, none, some 3, none, none, none, none, none, none, none, none, none, none, some 4, none, none, none, none, none, none, none, none, none, none, none, none, none, none, none, none, none, none, none, none, none, none, none, none, none, none, none, none, none, none, some 1, none, none, none, none, none, none, some 2, none, none, none, none, none, none, none, none, none, none, none, none, none, none, none, none, none, none, none, some 3, none, none, none, none, none, none, none, none, none, none, none, none, none, none, none, none, none, none, some 1, none, some 1, none, none, none, none, some 4, some 5, none, none, none, none, none, none, none, none, none, none, none, none, none, none, none, some 1, none, none, none, none, none, none, none, none, none, none, none, none, none, none, none, none, none, none, none, none, none, some 5, none, none, none, none, none, none, none, none, none, none, none, none, none, none, none, none, none, none, none, none, none, none, none, none, none, none, none, none, none, none, none, none, none, none, none, none, none, none, none, none, none, none, none, none, none, none, none, none]
def esT (t : Nat) : Option Nat := tabES.getD t none
def tabA : List Bool := [false, false, false, false, false, false, false, true, true, false, false, false, false, true, true, false, false, false, true, true, false, false, false, false, false, true, true, false, false, false, false, true, true, false, false, false, false, false, false, true, true, false, true, false, false, false, false, false, false, false, true, true, false, false, false, false, true, true, true, true, false, false, false, false, false, true, true, false, false, false, true, true, true, false, false, false, false, false, false, false, false, false, false, true, true, false, false, false, true, true, false, false, false, false, false, false, false, false, false, false, false, false, false, false, false, false, false, false, true, true, false, false, false, false, false, true, true, false, false, false, false, false, false, false, false, false, false, false, false, false, false, false, false, false, false, false, false, false, false, false, false, false, false, false, false, false, false, false, false, false, false, true, true, false, true, true, false, true, true, false, false, true, true, false, false, true, true, false, true, false, false, false, false, false, false, false, false, true, false, false, false, false, false, false, false, false, false, false, false, false, false, false, false, false, false, false, false, false, false, false, false, false, false, false, true, true, false, false, true, true, false, false, false, false, false, false, false, false, false, true, true, false, false, true, true, false, false, false, false, false, false, false, false, false, false, false, false, false, false, true, false, false, false, false, false, false, false, false, false, false, true, true, true, true, false, false, false, false, false, false, false, false, false, false, false, false, false, false, false, false, false, false, false, true, true, false, false, false, false, false, false, false, false, false, true, false, false, false, true, true, false, false, false, false, false, false, false, false, false, false, false, false, false, false, false, false, false, false, false, false, false, false, false, true, true, true, true, false, false, true, true, true, true, true, false, false, false, false, false, false, false, true, true, true, true, false]
def agT (t : Nat) : Bool := tabA.getD t false
def tabEZ : List (List TV) := [[], [], [], [], [], [], [], [], [], [], [], [], [], [], [], [], [], [], [], [], [], [], [.str ⟨#[]⟩, .int .i64 0, .nils], [.bool false, .int .i64 0, .int .i64 0, .nils], [.int .i64 0, .bool false, .str ⟨#[]⟩, .int .i64 0], [], [], [], [.str ⟨#[]⟩, .int .i64 0, .nils], [.bool false, .int .i64 0, .int .i64 0, .nils], [.int .i64 0, .bool false, .str ⟨#[]⟩, .int .i64 0], [], [], [], [], [], [], [], [], [], [], [], [], [], [], [], [], [], [.int .i64 0, .int .i64 0, .nils, .nils], [.str ⟨#[]⟩], [], [], [.int .i64 0, .int .i64 0, .int .i64 0, .int .i64 0, .int .i64 0, .str ⟨#[]⟩], [.int .i64 0, .int .i64 0, .int .i64 0, .int .i64 0, .int .i64 0, .int .i64 0, .int .i64 0, .int .i64 0, .str ⟨#[]⟩, .nils, .nils, .nils, .int .i64 0, .bool false], [.int .i64 0, .bool false], [.int .i64 0], [], [], [], [], [], [], [], [], [.int .i64 0, .int .i64 0, .nils, .nils], [], [], [.int .i64 0, .int .i64 0, .int .i64 0, .int .i64 0, .int .i64 0, .str ⟨#[]⟩], [.int .i64 0, .int .i64 0, .int .i64 0, .int .i64 0, .int .i64 0, .int .i64 0, .int .i64 0, .int .i64 0, .str ⟨#[]⟩, .nils, .nils, .nils, .int .i64 0, .bool false], [.int .i64 0, .bool false], [], [], [], [], [], [], [], [], [], [], [], [], [.bool false], [], [], [], [], [], [], [], [], [], [], [], [], [], [], [], [], [], [], [], [], [], [], [], [], [.int .i64 0, .int .i64 0, .int .i64 0, .str ⟨#[]⟩], [], [], [], [], [], [], [], [], [], [], [], [.int .i64 0, .int .i64 0, .int .i64 0], [], [], [], [], [], [], [], [], [], [], [], [], [], [], [], [], [], [], [], [], [], [], [], [], [], [], [], [], [], [], [], [], [], [.int .i64 0, .int .i64 0, .str ⟨#[]⟩], [], [], [], [], [], [], [], [], [], [], [.int .i64 0, .int .i64 0, .int .i64 0, .str ⟨#[]⟩], [], [], [], [], [], [], [], [], [], [], [], [], [], [], [], [], [], [], [], [], [], [], [], [], [], [], [], [], [], [], [.nilp], [], [], [], [], [], [], [.int .i64 0, .int .i64 0], [], [], [], [], [], [], [], [], [], [], [], [], [], [], [], [], [], [], [], [.int .i64 0, .int .i64 0, .str ⟨#[]⟩], [], [], [], [], [], [], [], [], [], [], [], [], [], [], [], [], [], [], [.nils], [], [.nils], [], [], [], [], [.str ⟨#[]⟩, .str ⟨#[]⟩, .nils, .nils], [.int .i64 0, .str ⟨#[]⟩, .int .i64 0, .nils, .nils], [], [], [], [], [], [], [], [], [], [], [], [], [], [], [], [.int .u8 0], [], [], [], [], [], [], [], [], [], [], [], [], [], [], [], [], [], [], [], [], [], [.str ⟨#[]⟩, .bool false, .nils, .nils, .nils], [], [], [], [], [], [], [], [], [], [], [], [], [], [], [], [], [], [], [], [], [], [], [], [], [], [], [], [], [], [], [], [], [], [], [], [], [], [], [], [], [], [], [], [], [], [], [], []]
def ezT (t : Nat) : List TV := tabEZ.getD t []
end Go.Proofs.YthpdkhejeookhaaGreatDoor
/- The abstract walk, part 2: the operations that write nothing. -/
namespace Go.Proofs.YthpdkhejeookhaaGreatDoor
open Go Go.RowKit

def tv1 : Value → Option TV
  | .int k n => some (.int k n)
  | .bool b => some (.bool b)
  | .string s => some (.str s)
  | .slice none 0 0 => some .nils
  | .pointer none => some .nilp
  | _ => none
def tvL : List Value → Option (List TV)
  | [] => some []
  | v :: r => match tv1 v, tvL r with
    | some t, some l => some (t :: l)
    | _, _ => none
def tvOf : Value → Option TV
  | .agg vs => (tvL vs.toList).map .agg
  | v => tv1 v
def ev (env : Env) : Operand → Option TV
  | .tmp t => lk t env
  | .const v => tvOf v
  | .func f => some (.fn f [])
  | .global _ => none

theorem tv1_rep {w : World} {objs : Objs} {v : Value} {t : TV} (h : tv1 v = some t) : Rep w objs t v := by
  unfold tv1 at h
  split at h <;> first | (cases h; done) | skip
  all_goals simp only [Option.some.injEq] at h
  all_goals subst h
  · exact .int _ _
  · exact .bool _
  · exact .str _
  · exact .nils
  · exact .nilp
theorem tv1_cell {v : Value} {t : TV} (h : tv1 v = some t) : t.isCell = true := by
  unfold tv1 at h
  split at h <;> first | (cases h; done) | (simp only [Option.some.injEq] at h; subst h; rfl)
theorem tvL_rep {w : World} {objs : Objs} : ∀ {vs : List Value} {l : List TV}, tvL vs = some l → (l.length = vs.length ∧ ∀ t ∈ l, t.isCell = true) ∧ ∀ (i : Nat) (t : TV) (v : Value), l[i]? = some t → vs[i]? = some v → Rep w objs t v
  | [], l, h => by simp only [tvL, Option.some.injEq] at h; subst h; simp
  | v :: r, l, h => by
    unfold tvL at h
    split at h
    · rename_i t l' h1 h2
      simp only [Option.some.injEq] at h
      subst h
      obtain ⟨h3, h4⟩ := tvL_rep (w := w) (objs := objs) (vs := r) h2
      refine ⟨⟨by simp [h3.1], fun x hx => by
        rcases List.mem_cons.1 hx with rfl | hx
        · exact tv1_cell h1
        · exact h3.2 x hx⟩, fun i t' v' ht hv => ?_⟩
      cases i with
      | zero => simp at ht hv; subst ht; subst hv; exact tv1_rep h1
      | succ i => exact h4 i t' v' (by simpa using ht) (by simpa using hv)
    · cases h
theorem tvOf_rep {w : World} {objs : Objs} {v : Value} {t : TV} (h : tvOf v = some t) : Rep w objs t v := by
  unfold tvOf at h
  split at h
  · rename_i vs
    rw [Option.map_eq_some_iff] at h
    obtain ⟨l, h1, rfl⟩ := h
    obtain ⟨h2, h3⟩ := tvL_rep (w := w) (objs := objs) h1
    exact .agg l vs h2.2 (by simpa using h2.1) (fun i t v ht hv => h3 i t v ht (by simpa using hv))
  · exact tv1_rep h

/-- An operation that yields a value and turns nothing that is there. -/
def Yields (P : Program) (w0 : World) (env : Env) (objs : Objs) (o : Oper) (tv : TV) : Prop :=
  ∀ (a : Act) (w : World) (K : Act → World → Prop) (Q : Exit → Act → World → Prop), SimW w0 objs w →
    (∀ x ∈ o.op.operands.toList, ∀ v, ev env x = some v → Rep w objs v (a.eval x)) →
    (∀ v w', Rep w' objs tv v → SimW w0 objs w' → Step w objs w' objs → K (a.put o.dst v) w') → o.wp P a w K Q

theorem exec_v {P : Program} {s : Sem Value} {v : Value} {w w' : World} (h : s.run P w = .ok v w') : (do pure (Next.value (← s)) : Sem Next).run P w = .ok (.value v) w' := by
  show (Sem.bind s fun v => Sem.pure (Next.value v)).run P w = _
  have := Sem.run_bind P w s (fun v => (Pure.pure (Next.value v) : Sem Next))
  rw [h] at this
  exact this

section
variable {P : Program} {w0 : World} {N : Nat} {Q : Exit → Act → World → Prop} {env : Env} {objs : Objs} {o : Oper}

theorem yields_same {tv : TV} (h : ∀ (a : Act) (w : World), SimW w0 objs w → (∀ x ∈ o.op.operands.toList, ∀ v, ev env x = some v → Rep w objs v (a.eval x)) →
    ∃ v, (execOp a.eval o).run P w = .ok (.value v) w ∧ Rep w objs tv v) : Yields P w0 env objs o tv := fun a w K Q hw hop hK => by
  obtain ⟨v, h1, h2⟩ := h a w hw hop
  unfold Oper.wp
  rw [h1]
  exact hK v w h2 hw ⟨fun _ _ _ => rfl, fun _ _ h => h, fun _ _ _ rows _ _ h => ⟨⟨rows, h⟩, rfl⟩, Nat.le_refl _, id⟩

theorem ev_sim {a : Act} {w : World} (hs : Sim w0 N env objs a w) {x : Operand} {v : TV} (h : ev env x = some v) : Rep w objs v (a.eval x) := by
  cases x with
  | tmp t => exact hs.env t v h
  | const u => exact tvOf_rep h
  | func f => simp only [ev, Option.some.injEq] at h; subst h; exact .fn f [] #[] rfl (by simp)
  | global g => cases h

theorem getD_set {l : Array Value} {d t : Nat} {v : Value} (hd : d < l.size) : (l.setIfInBounds d v).getD t undef = if d = t then v else l.getD t undef := by
  by_cases h : d = t
  · subst h; simp [hd]
  · simp [h]
theorem Sim.put {a : Act} {w w' : World} (hs : Sim w0 N env objs a w) {d : Nat} (hd : Nat.blt d N = true) {tv : TV} {v : Value} (hr : Rep w' objs tv v) (hw : SimW w0 objs w') (hst : Step w objs w' objs) : Sim w0 N ((d, tv) :: env) objs (a.put (some d) v) w' := by
  have hlt : d < a.tmps.size := by rw [hs.size]; exact Nat.blt_eq ▸ hd
  refine ⟨hs.defers, by simp [Act.put, hs.size], hw, fun t u hu => ?_⟩
  rw [lk_cons] at hu
  show Rep w' objs u ((a.tmps.setIfInBounds d v).getD t undef)
  rw [getD_set hlt]
  split at hu
  · rename_i e; subst e; simp only [Option.some.injEq] at hu; subst hu; simp only [if_true]; exact hr
  · rename_i e; rw [if_neg e]; exact (hs.env t u hu).step hst
/-- A slot is overwritten by what nobody looks at. -/
theorem Sim.putUndef {a : Act} {w : World} (hs : Sim w0 N env objs a w) {d : Nat} (hd : Nat.blt d N = true) : Sim w0 N ((d, .tup []) :: env) objs (a.put (some d) undef) w :=
  hs.put hd (.tup [] #[] rfl (by simp)) hs.mem ⟨fun _ _ _ => rfl, fun _ _ h => h, fun _ _ _ rows _ _ h => ⟨⟨rows, h⟩, rfl⟩, Nat.le_refl _, id⟩

theorem al_none {ops : Array Oper} {rest : List Oper} (hg : o.guard = none) (h : AO P w0 N ops Q o rest env objs) : AL P w0 N ops Q (o :: rest) env objs := ⟨fun a w hs => wpList_plain hg fun K hK => h.run a w K hs hK⟩
theorem ao_q {ops : Array Oper} {rest : List Oper} {d : Nat} {tv : TV} (hd : o.dst = some d) (hN : Nat.blt d N = true) (hy : Yields P w0 env objs o tv) (h : AL P w0 N ops Q rest ((d, tv) :: env) objs) : AO P w0 N ops Q o rest env objs :=
  ⟨fun a w K hs hK => hy a w K Q hs.mem (fun x _ v hv => ev_sim hs hv) fun v w' hr hw hst => hK _ _ (by rw [hd]; exact h.run _ _ (hs.put hN hr hw hst))⟩
theorem yielded_eq {ops : Array Oper} {a : Act} {j d : Nat} {b : Bool} (hj : (ops[j]?).bind (·.dst) = some d) (hv : a.tmps.getD d undef = .bool b) : yielded ops a.tmps j = some b := by
  simp only [yielded, hj]
  simp [Array.getD_eq_getD_getElem?] at hv
  cases h : a.tmps[d]? with
  | none => rw [h] at hv; simp [undef] at hv
  | some x => rw [h] at hv; simp at hv; subst hv; simp [h]
theorem al_run {ops : Array Oper} {rest : List Oper} {dj j : Nat} {b : Bool} {v : TV} (hg : o.guard = some (j, b)) (hj : (ops[j]?).bind (·.dst) = some dj) (hb : lk dj env = some v) (hv : v = .bool b) (h : AO P w0 N ops Q o rest env objs) : AL P w0 N ops Q (o :: rest) env objs := ⟨fun a w hs =>
  wpList_step fun K hK => by
    subst hv
    have hw : Region.wanted o (yielded ops a.tmps) = true := by simp [Region.wanted, hg, yielded_eq hj (hs.env _ _ hb).bool_inv]
    rw [if_pos hw]
    exact h.run a w K hs hK⟩
theorem al_skip {ops : Array Oper} {rest : List Oper} {d dj j : Nat} {b c : Bool} {v : TV} (hg : o.guard = some (j, c)) (hj : (ops[j]?).bind (·.dst) = some dj) (hb : lk dj env = some v) (hv : v = .bool b) (hc : c = !b) (hd : o.dst = some d) (hN : Nat.blt d N = true)
    (h : AL P w0 N ops Q rest ((d, .tup []) :: env) objs) : AL P w0 N ops Q (o :: rest) env objs := ⟨fun a w hs =>
  wpList_step fun K hK => by
    subst hv; subst hc
    have hw : Region.wanted o (yielded ops a.tmps) = false := by cases b <;> simp [Region.wanted, hg, yielded_eq hj (hs.env _ _ hb).bool_inv]
    rw [hw]
    exact hK _ _ (by rw [hd]; exact h.run _ _ (hs.putUndef hN))⟩

theorem Rep.undef_inv {w : World} {v : Value} (h : Rep w objs (.tup []) v) : v = undef := by
  cases h with
  | tup l vs h h2 =>
    have : vs = #[] := Array.eq_empty_of_size_eq_zero (by simpa using h.symm)
    subst this; rfl
theorem yielded_undef {ops : Array Oper} {a : Act} {j d : Nat} (hj : (ops[j]?).bind (·.dst) = some d) (hv : a.tmps.getD d undef = undef) : yielded ops a.tmps j = none := by
  simp only [yielded, hj]
  simp [Array.getD_eq_getD_getElem?] at hv
  cases h : a.tmps[d]? with
  | none => simp [h]
  | some x => rw [h] at hv; simp [undef] at hv; subst hv; simp [h]
/-- What asks for a slot that was passed over is passed over too. -/
theorem al_skip2 {ops : Array Oper} {rest : List Oper} {d dj j : Nat} {c : Bool} {v : TV} (hg : o.guard = some (j, c)) (hj : (ops[j]?).bind (·.dst) = some dj) (hb : lk dj env = some v) (hv : v = .tup []) (hd : o.dst = some d) (hN : Nat.blt d N = true)
    (h : AL P w0 N ops Q rest ((d, .tup []) :: env) objs) : AL P w0 N ops Q (o :: rest) env objs := ⟨fun a w hs =>
  wpList_step fun K hK => by
    subst hv
    have hw : Region.wanted o (yielded ops a.tmps) = false := by simp [Region.wanted, hg, yielded_undef hj (hs.env _ _ hb).undef_inv]
    rw [hw]
    exact hK _ _ (by rw [hd]; exact h.run _ _ (hs.putUndef hN))⟩

/-- What a slot holds is known from here on. -/
theorem Sim.know {a : Act} {w : World} (hs : Sim w0 N env objs a w) {t : Nat} {v : TV} (hv : lk t env = some v) {v' : TV} (h : v = v') : Sim w0 N ((t, v') :: env) objs a w :=
  ⟨hs.defers, hs.size, hs.mem, fun t' u hu => by
    rw [lk_cons] at hu
    split at hu
    · rename_i e; subst e; simp only [Option.some.injEq] at hu; subst hu; subst h; exact hs.env _ _ hv
    · exact hs.env _ _ hu⟩
theorem al_split {ops : Array Oper} {rest : List Oper} {t : Nat} {p : Prop} {i : Decidable p} (hv : lk t env = some (.bool (@decide p i))) (ht : p → AL P w0 N ops Q rest ((t, .bool true) :: env) objs) (hf : ¬ p → AL P w0 N ops Q rest ((t, .bool false) :: env) objs) :
    AL P w0 N ops Q rest env objs := ⟨fun a w hs => by
  by_cases h : p
  · exact (ht h).run a w (hs.know hv (by simp [h]))
  · exact (hf h).run a w (hs.know hv (by simp [h]))⟩
theorem al_gsplit {ops : Array Oper} {rest : List Oper} {j d : Nat} {b : Bool} {p : Prop} {i : Decidable p} {v : TV} (_hg : o.guard = some (j, b)) (_hj : (ops[j]?).bind (·.dst) = some d) (hv : lk d env = some v) (he : v = .bool (@decide p i))
    (ht : p → AL P w0 N ops Q (o :: rest) ((d, .bool true) :: env) objs) (hf : ¬ p → AL P w0 N ops Q (o :: rest) ((d, .bool false) :: env) objs) : AL P w0 N ops Q (o :: rest) env objs := al_split (he ▸ hv) ht hf
theorem al_split_b {ops : Array Oper} {rest : List Oper} {t : Nat} {b : Bool} (hv : lk t env = some (.bool b)) (ht : b = true → AL P w0 N ops Q rest ((t, .bool true) :: env) objs) (hf : b = false → AL P w0 N ops Q rest ((t, .bool false) :: env) objs) :
    AL P w0 N ops Q rest env objs := ⟨fun a w hs => by
  cases b
  · exact (hf rfl).run a w (hs.know hv rfl)
  · exact (ht rfl).run a w (hs.know hv rfl)⟩

theorem al_gt {ops : Array Oper} {rest : List Oper} {j d : Nat} {b : Bool} {p : Prop} {i : Decidable p} {v : TV} (hg : o.guard = some (j, b)) (hj : (ops[j]?).bind (·.dst) = some d) (hv : lk d env = some v) (he : v = .bool (@decide p i)) (hp : p)
    (ht : AL P w0 N ops Q (o :: rest) ((d, .bool true) :: env) objs) : AL P w0 N ops Q (o :: rest) env objs := al_gsplit hg hj hv he (fun _ => ht) (fun h => absurd hp h)
theorem al_gf {ops : Array Oper} {rest : List Oper} {j d : Nat} {b : Bool} {p : Prop} {i : Decidable p} {v : TV} (hg : o.guard = some (j, b)) (hj : (ops[j]?).bind (·.dst) = some d) (hv : lk d env = some v) (he : v = .bool (@decide p i)) (hp : ¬ p)
    (hf : AL P w0 N ops Q (o :: rest) ((d, .bool false) :: env) objs) : AL P w0 N ops Q (o :: rest) env objs := al_gsplit hg hj hv he (fun h => absurd h hp) (fun _ => hf)
theorem al_gsplit_b {ops : Array Oper} {rest : List Oper} {j d : Nat} {b c : Bool} {v : TV} (_hg : o.guard = some (j, b)) (_hj : (ops[j]?).bind (·.dst) = some d) (hv : lk d env = some v) (he : v = .bool c)
    (ht : c = true → AL P w0 N ops Q (o :: rest) ((d, .bool true) :: env) objs) (hf : c = false → AL P w0 N ops Q (o :: rest) ((d, .bool false) :: env) objs) : AL P w0 N ops Q (o :: rest) env objs := al_split_b (he ▸ hv) ht hf

theorem beqd {α : Type} [BEq α] [LawfulBEq α] [DecidableEq α] (a b : α) : (a == b) = decide (a = b) := by rw [Bool.eq_iff_iff]; simp
/- The operations. -/
theorem y_move {x : Operand} {tv : TV} (ho : o.op = .move x) (hx : ev env x = some tv) : Yields P w0 env objs o tv := yields_same fun a w _ hop =>
  ⟨a.eval x, by simp [execOp, ho, Sem.run_pure], hop x (by simp [ho, Op.operands]) _ hx⟩
theorem y_assign {x : Operand} {tv : TV} (ho : o.op = .assign x) (hx : ev env x = some tv) : Yields P w0 env objs o tv := yields_same fun a w _ hop =>
  ⟨a.eval x, by simp [execOp, ho, Sem.run_pure], hop x (by simp [ho, Op.operands]) _ hx⟩
theorem y_pick_t {c x y : Operand} {tv cv : TV} (ho : o.op = .pick c x y) (hc : ev env c = some cv) (he : cv = .bool true) (hx : ev env x = some tv) : Yields P w0 env objs o tv := yields_same fun a w _ hop => by
  subst he
  have h1 := (hop c (by simp [ho, Op.operands]) _ hc).bool_inv
  exact ⟨a.eval x, by simp [execOp, ho, h1, asBool, Sem.run_pure], hop x (by simp [ho, Op.operands]) _ hx⟩
theorem y_pick_f {c x y : Operand} {tv cv : TV} (ho : o.op = .pick c x y) (hc : ev env c = some cv) (he : cv = .bool false) (hx : ev env y = some tv) : Yields P w0 env objs o tv := yields_same fun a w _ hop => by
  subst he
  have h1 := (hop c (by simp [ho, Op.operands]) _ hc).bool_inv
  exact ⟨a.eval y, by simp [execOp, ho, h1, asBool, Sem.run_pure], hop y (by simp [ho, Op.operands]) _ hx⟩

theorem run_eqGuard_int {op : BinOp} {t : TypeId} {x y : Operand} {k : IntKind} {m : Int} {v : Value} {w : World} : (eqGuard op t x y (.int k m) v).run P w = .ok () w := by
  unfold eqGuard
  split <;> simp_all [Sem.run_pure]
theorem run_eqGuard_bool {op : BinOp} {t : TypeId} {x y : Operand} {b : Bool} {v : Value} {w : World} : (eqGuard op t x y (.bool b) v).run P w = .ok () w := by
  unfold eqGuard
  split <;> simp_all [Sem.run_pure]
theorem run_eqGuard_str {op : BinOp} {t : TypeId} {x y : Operand} {b : ByteArray} {v : Value} {w : World} : (eqGuard op t x y (.string b) v).run P w = .ok () w := by
  unfold eqGuard
  split <;> simp_all [Sem.run_pure]

theorem y_bin_int {op : BinOp} {t t2 : TypeId} {x y : Operand} {k : IntKind} {m n : Int} {tv : TV} (ho : o.op = .binOp op t x y t2) (hx : ev env x = some (.int k m)) (hy : ev env y = some (.int k n))
    (hr : ∀ w : World, ∃ v, (binOp op t (.int k m) (.int k n)).run P w = .ok v w ∧ Rep w objs tv v) : Yields P w0 env objs o tv := yields_same fun a w _ hop => by
  have h1 := (hop x (by simp [ho, Op.operands]) _ hx).int_inv
  have h2 := (hop y (by simp [ho, Op.operands]) _ hy).int_inv
  obtain ⟨v, h3, h4⟩ := hr w
  exact ⟨v, by simp [execOp, ho, h1, h2, Sem.run_bind, run_eqGuard_int, h3], h4⟩
section
variable {t t2 : TypeId} {x y : Operand} {k : IntKind} {m n : Int}
theorem y_add {c : Int} (ho : o.op = .binOp .add t x y t2) (hx : ev env x = some (.int k m)) (hy : ev env y = some (.int k n)) (hc : k.wrap (m + n) = c) : Yields P w0 env objs o (.int k c) :=
  y_bin_int ho hx hy fun w => ⟨_, by simp [binOp, Op.intArith, Sem.run_pure]; rfl, by rw [hc]; exact .int k c⟩
theorem y_sub {c : Int} (ho : o.op = .binOp .sub t x y t2) (hx : ev env x = some (.int k m)) (hy : ev env y = some (.int k n)) (hc : k.wrap (m - n) = c) : Yields P w0 env objs o (.int k c) :=
  y_bin_int ho hx hy fun w => ⟨_, by simp [binOp, Op.intArith, Sem.run_pure]; rfl, by rw [hc]; exact .int k c⟩
theorem y_mul {c : Int} (ho : o.op = .binOp .mul t x y t2) (hx : ev env x = some (.int k m)) (hy : ev env y = some (.int k n)) (hc : k.wrap (m * n) = c) : Yields P w0 env objs o (.int k c) :=
  y_bin_int ho hx hy fun w => ⟨_, by simp [binOp, Op.intArith, Sem.run_pure]; rfl, by rw [hc]; exact .int k c⟩
theorem y_quo {c : Int} (ho : o.op = .binOp .quo t x y t2) (hx : ev env x = some (.int k m)) (hy : ev env y = some (.int k n)) (hn : n ≠ 0) (hc : k.wrap (m.tdiv n) = c) : Yields P w0 env objs o (.int k c) :=
  y_bin_int ho hx hy fun w => ⟨_, by simp [binOp, Op.intDiv, Sem.run_pure, hn]; rfl, by rw [hc]; exact .int k c⟩
theorem y_rem {c : Int} (ho : o.op = .binOp .rem t x y t2) (hx : ev env x = some (.int k m)) (hy : ev env y = some (.int k n)) (hn : n ≠ 0) (hc : m.tmod n = c) : Yields P w0 env objs o (.int k c) :=
  y_bin_int ho hx hy fun w => ⟨_, by simp [binOp, Op.intDiv, Sem.run_pure, hn]; rfl, by rw [hc]; exact .int k c⟩
def orI (k : IntKind) (m n : Int) : Int := k.wrap ((BitVec.ofInt k.bits m ||| BitVec.ofInt k.bits n).toNat : Int)
def andI (k : IntKind) (m n : Int) : Int := k.wrap ((BitVec.ofInt k.bits m &&& BitVec.ofInt k.bits n).toNat : Int)
def shlI (k : IntKind) (m n : Int) : Int := k.wrap (m * 2 ^ (min n.toNat k.bits))
theorem y_or (ho : o.op = .binOp .or t x y t2) (hx : ev env x = some (.int k m)) (hy : ev env y = some (.int k n)) : Yields P w0 env objs o (.int k (orI k m n)) :=
  y_bin_int ho hx hy fun w => ⟨_, by simp [binOp, Op.intBits, Sem.run_pure]; rfl, .int k _⟩
theorem y_and (ho : o.op = .binOp .and t x y t2) (hx : ev env x = some (.int k m)) (hy : ev env y = some (.int k n)) : Yields P w0 env objs o (.int k (andI k m n)) :=
  y_bin_int ho hx hy fun w => ⟨_, by simp [binOp, Op.intBits, Sem.run_pure]; rfl, .int k _⟩
theorem y_shl {k2 : IntKind} (ho : o.op = .binOp .shl t x y t2) (hx : ev env x = some (.int k m)) (hy : ev env y = some (.int k2 n)) (hn : 0 ≤ n) : Yields P w0 env objs o (.int k (shlI k m n)) := yields_same fun a w _ hop => by
  have h1 := (hop x (by simp [ho, Op.operands]) _ hx).int_inv
  have h2 := (hop y (by simp [ho, Op.operands]) _ hy).int_inv
  refine ⟨.int k (shlI k m n), ?_, .int k _⟩
  have h3 : ¬ n < 0 := by omega
  simp [execOp, ho, h1, h2, run_eqGuard_int, binOp, Op.shift, h3, shlI]
theorem y_eql (ho : o.op = .binOp .eql t x y t2) (hx : ev env x = some (.int k m)) (hy : ev env y = some (.int k n)) : Yields P w0 env objs o (.bool (decide (m = n))) :=
  y_bin_int ho hx hy fun w => ⟨.bool (m == n), by simp [binOp, Op.intCmp, Sem.run_pure], by rw [beqd]; exact .bool _⟩
theorem y_neq (ho : o.op = .binOp .neq t x y t2) (hx : ev env x = some (.int k m)) (hy : ev env y = some (.int k n)) : Yields P w0 env objs o (.bool (decide (m ≠ n))) :=
  y_bin_int ho hx hy fun w => ⟨.bool (m != n), by simp [binOp, Op.intCmp, Sem.run_pure], by
    have : (m != n) = decide (m ≠ n) := by rw [bne, beqd]; simp
    rw [this]; exact .bool _⟩
theorem y_lss (ho : o.op = .binOp .lss t x y t2) (hx : ev env x = some (.int k m)) (hy : ev env y = some (.int k n)) : Yields P w0 env objs o (.bool (decide (m < n))) :=
  y_bin_int ho hx hy fun w => ⟨_, by simp only [binOp, Op.intCmp, ne_eq, not_true_eq_false, if_false]; rfl, .bool _⟩
theorem y_leq (ho : o.op = .binOp .leq t x y t2) (hx : ev env x = some (.int k m)) (hy : ev env y = some (.int k n)) : Yields P w0 env objs o (.bool (decide (m ≤ n))) :=
  y_bin_int ho hx hy fun w => ⟨_, by simp only [binOp, Op.intCmp, ne_eq, not_true_eq_false, if_false]; rfl, .bool _⟩
theorem y_gtr (ho : o.op = .binOp .gtr t x y t2) (hx : ev env x = some (.int k m)) (hy : ev env y = some (.int k n)) : Yields P w0 env objs o (.bool (decide (n < m))) :=
  y_bin_int ho hx hy fun w => ⟨_, by simp only [binOp, Op.intCmp, ne_eq, not_true_eq_false, if_false]; rfl, .bool _⟩
theorem y_geq (ho : o.op = .binOp .geq t x y t2) (hx : ev env x = some (.int k m)) (hy : ev env y = some (.int k n)) : Yields P w0 env objs o (.bool (decide (n ≤ m))) :=
  y_bin_int ho hx hy fun w => ⟨_, by simp only [binOp, Op.intCmp, ne_eq, not_true_eq_false, if_false]; rfl, .bool _⟩
theorem y_conv_int {src dst : TypeId} {k2 : IntKind} {c : Int} (ho : o.op = .convert src dst x) (hx : ev env x = some (.int k m)) (_hk : kdT dst = some k2) (hs : (P.underlying src).isSome = true) (hd : P.underlying dst = some (.int k2)) (hc : k2.wrap m = c) : Yields P w0 env objs o (.int k2 c) :=
  yields_same fun a w _ hop => by
    have h1 := (hop x (by simp [ho, Op.operands]) _ hx).int_inv
    refine ⟨.int k2 c, ?_, .int k2 c⟩
    obtain ⟨d, hs⟩ := Option.isSome_iff_exists.1 hs
    subst hc
    simp only [execOp, ho, h1]
    refine exec_v ?_
    simp only [convert, Sem.run_bind, run_underlying hs, run_underlying hd, Result.andThen_ok]
    simp [Conv.intToInt, Sem.run_pure]
end
section
variable {t t2 : TypeId} {x y : Operand}
theorem y_eql_b {b c : Bool} (ho : o.op = .binOp .eql t x y t2) (hx : ev env x = some (.bool b)) (hy : ev env y = some (.bool c)) (hu : P.underlying t = some .bool) : Yields P w0 env objs o (.bool (b == c)) := yields_same fun a w _ hop => by
  have h1 := (hop x (by simp [ho, Op.operands]) _ hx).bool_inv
  have h2 := (hop y (by simp [ho, Op.operands]) _ hy).bool_inv
  exact ⟨.bool (b == c), by simp [execOp, ho, h1, h2, Sem.run_bind, run_eqGuard_bool, binOp, run_equal_bool _ t b c hu], .bool _⟩
theorem y_neq_b {b c : Bool} (ho : o.op = .binOp .neq t x y t2) (hx : ev env x = some (.bool b)) (hy : ev env y = some (.bool c)) (hu : P.underlying t = some .bool) : Yields P w0 env objs o (.bool (b != c)) := yields_same fun a w _ hop => by
  have h1 := (hop x (by simp [ho, Op.operands]) _ hx).bool_inv
  have h2 := (hop y (by simp [ho, Op.operands]) _ hy).bool_inv
  exact ⟨.bool (b != c), by simp [execOp, ho, h1, h2, Sem.run_bind, run_eqGuard_bool, binOp, run_equal_bool _ t b c hu, bne], .bool _⟩
theorem toList_eq (s u : ByteArray) : (s.toList == u.toList) = decide (s = u) := by
  by_cases h : s = u
  · subst h; simp
  · have : ¬ s.toList = u.toList := fun e => h (WideShapes.bytes_inj (by rw [← Lib.toList_data, ← Lib.toList_data]; exact e))
    simp [h, this]
theorem y_bin_str {op : BinOp} {s u : ByteArray} {tv : TV} (ho : o.op = .binOp op t x y t2) (hx : ev env x = some (.str s)) (hy : ev env y = some (.str u))
    (hr : ∀ w : World, ∃ v, (Op.stringOp op s u).run P w = .ok v w ∧ Rep w objs tv v) (hs : op ≠ .shl := by decide) (hs2 : op ≠ .shr := by decide) : Yields P w0 env objs o tv := yields_same fun a w _ hop => by
  have h1 := (hop x (by simp [ho, Op.operands]) _ hx).str_inv
  have h2 := (hop y (by simp [ho, Op.operands]) _ hy).str_inv
  obtain ⟨v, h3, h4⟩ := hr w
  refine ⟨v, ?_, h4⟩
  have h5 : binOp op t (.string s) (.string u) = Op.stringOp op s u := by cases op <;> rfl
  simp [execOp, ho, h1, h2, Sem.run_bind, run_eqGuard_str, h5, h3]
theorem y_eql_s {s u : ByteArray} (ho : o.op = .binOp .eql t x y t2) (hx : ev env x = some (.str s)) (hy : ev env y = some (.str u)) : Yields P w0 env objs o (.bool (decide (s = u))) :=
  y_bin_str ho hx hy fun w => ⟨.bool (s.toList == u.toList), by simp [Op.stringOp, Sem.run_pure], by rw [toList_eq]; exact .bool _⟩
theorem y_neq_s {s u : ByteArray} (ho : o.op = .binOp .neq t x y t2) (hx : ev env x = some (.str s)) (hy : ev env y = some (.str u)) : Yields P w0 env objs o (.bool (decide (s ≠ u))) :=
  y_bin_str ho hx hy fun w => ⟨.bool (!(s.toList == u.toList)), by simp [Op.stringOp, Sem.run_pure], by
    have : (!(s.toList == u.toList)) = decide (s ≠ u) := by rw [toList_eq]; simp
    rw [this]; exact .bool _⟩
theorem run_str_add (w : World) (s u : ByteArray) (hl : s.size + u.size ≤ 9223372036854775807) : (Op.stringOp .add s u).run P w = .ok (.string (s ++ u)) w := by
  have h9 : IntKind.max .i64 = 9223372036854775807 := by decide
  have h10 : ¬ (((s.size + u.size : Nat) : Int) > IntKind.max .i64) := by rw [h9]; omega
  unfold Op.stringOp
  simp only [h10, if_false]; rfl
theorem y_add_s {s u : ByteArray} (ho : o.op = .binOp .add t x y t2) (hx : ev env x = some (.str s)) (hy : ev env y = some (.str u)) (hl : s.size + u.size ≤ 9223372036854775807) : Yields P w0 env objs o (.str (s ++ u)) :=
  y_bin_str ho hx hy fun w => ⟨.string (s ++ u), run_str_add w s u hl, .str _⟩
theorem y_not {p : Prop} {i : Decidable p} (ho : o.op = .unOp .not t x) (hx : ev env x = some (.bool (@decide p i))) : Yields P w0 env objs o (.bool (decide (¬ p))) := yields_same fun a w _ hop => by
  have h1 := (hop x (by simp [ho, Op.operands]) _ hx).bool_inv
  refine ⟨.bool (!(decide p)), by simp [execOp, ho, h1, Op.unary, Sem.run_pure], ?_⟩
  have : (!(decide p)) = decide (¬ p) := by simp
  rw [this]; exact .bool _
theorem y_not_b {b : Bool} (ho : o.op = .unOp .not t x) (hx : ev env x = some (.bool b)) : Yields P w0 env objs o (.bool (!b)) := yields_same fun a w _ hop => by
  have h1 := (hop x (by simp [ho, Op.operands]) _ hx).bool_inv
  exact ⟨.bool (!b), by simp [execOp, ho, h1, Op.unary, Sem.run_pure], .bool _⟩
end
end
end Go.Proofs.YthpdkhejeookhaaGreatDoor
