/- Part 4 of the proof: the texts Mem, Types. -/
import Derived.Test.YtiihihgjiklnoaaGreatDoorPart3
/- Blocks that are filled one cell behind the other; lists of elements in memory; what a call owns, part by part. -/
namespace Go.Proofs.YtiihihgjiklnoaaGreatDoor
open Go Go.RowKit

/-- A block of N cells whose first cells are xs. -/
def Fill (w : World) (g : Nat) (e : TypeId) (N : Nat) (xs : List Value) : Prop :=
  ∃ cur, w.heap[g]? = some (.cells cur e (0, 0)) ∧ cur.size = N ∧ xs.length ≤ N ∧ cur.toList.take xs.length = xs

section
variable {w w' : World} {g : Nat} {e : TypeId} {N : Nat} {xs : List Value}
theorem Fill.lt (h : Fill w g e N xs) : g < w.heap.size := by
  obtain ⟨cur, h1, _⟩ := h
  exact (Array.getElem?_eq_some_iff.1 h1).1
theorem Fill.cell (h : Fill w g e N xs) {i : Nat} (hi : i < N) : ∃ u, w.cell? ⟨g, i, none⟩ = some u := by
  obtain ⟨cur, h1, h2, _⟩ := h
  exact ⟨_, by rw [cell_of_row w g i cur e (0, 0) h1]; exact Array.getElem?_eq_getElem (by omega)⟩
theorem Fill.frozen (h : Fill w g e N xs) (i : Nat) : w.frozen? ⟨g, i, none⟩ = false := by
  obtain ⟨cur, h1, _⟩ := h
  simp [World.frozen?, h1]
theorem Fill.made (w : World) (z : Value) (n : Nat) (e : TypeId) : Fill (w.alloc (.cells (madeCells #[z] n) e)) w.heap.size e n [] :=
  ⟨_, heap_alloc_new w _, by simp [madeCells], by simp, by simp⟩
theorem Fill.same (h : Fill w g e N xs) (hb : w'.heap[g]? = w.heap[g]?) : Fill w' g e N xs := by
  obtain ⟨cur, h1, h2⟩ := h
  exact ⟨cur, hb.trans h1, h2⟩
theorem Fill.below {B : Nat} (h : Fill w g e N xs) (hb : Below B w w') (hg : g < B) : Fill w' g e N xs := h.same (hb.block g hg)
theorem Fill.alloc (h : Fill w g e N xs) (o : Obj) : Fill (w.alloc o) g e N xs := h.same (Below.heap_alloc w o g h.lt)
theorem Fill.far (h : Fill w g e N xs) {p : Addr} (hp : g ≠ p.block) (u : Value) : Fill (w.setCell p u) g e N xs := h.same (Below.heap_setCell w p u g hp)
theorem Fill.drew (h : Fill w g e N xs) : Fill w.drew g e N xs := h
theorem Fill.push (h : Fill w g e N xs) {i : Nat} (hi : i = xs.length) (hN : i < N) (u : Value) : Fill (w.setCell ⟨g, i, none⟩ u) g e N (xs ++ [u]) := by
  obtain ⟨cur, h1, h2, h3, h4⟩ := h
  subst hi
  refine ⟨cur.setIfInBounds xs.length u, by simp [World.setCell, Array.getElem?_modify, h1], by simpa using h2, by simp; omega, ?_⟩
  rw [Array.toList_setIfInBounds, List.length_append, List.length_singleton, List.take_add_one, List.take_set]
  rw [List.set_eq_of_length_le (by simp; omega), h4]
  simp [h2, hN]
theorem Fill.own {l : List PT} {c m : Nat} (h : Fill w g e (c * m) (PT.cellsL l)) (hm : ∀ t ∈ l, t.cells.length = m) (hl : l.length ≤ c) (hc : c ≤ maxLen) (ho : OwnL w l) : Own w (.sl (some ⟨g, 0, none⟩) c m l) := by
  obtain ⟨cur, h1, h2, h3, h4⟩ := h
  have hL := PT.length_cellsL hm
  exact own_of_block hm hL h1 hl hc h2 (by rw [← hL]; exact h4) ho
end


/-- make, with n a variable. -/
theorem run_make_n {P : Program} (t e : TypeId) (z : Value) (m bytes : Nat) (ht : P.underlying t = some (.slice e)) (hinfo : (P.info? e).map (fun i => (i.zero, i.size, i.bytes)) = some (some z, m, bytes))
    (kl kc : IntKind) (n : Nat) (hbytes : bytes * n ≤ 281474976710656) (h63 : n ≤ 9223372036854775807) (w : World) :
    (Instr.makeSlice t (.int kl (n : Int)) (.int kc (n : Int))).run P w = .ok (.slice (some ⟨w.heap.size, 0, none⟩) n n) (w.alloc (.cells (madeCells z.cells (n * m)) e)) := by
  obtain ⟨i, hi, hzz⟩ := Option.map_eq_some_iff.1 hinfo
  simp only [Prod.mk.injEq] at hzz
  obtain ⟨hz, hs, hb⟩ := hzz
  have hb' : (i.bytes : Int) * (n : Int) ≤ 281474976710656 := by
    have h : ((i.bytes * n : Nat) : Int) ≤ 281474976710656 := by rw [hb]; omega
    rwa [Int.natCast_mul] at h
  have hr := run_make (P := P) w t e i z ht hi hz kl kc n n (by omega) (Int.le_refl _) hb' (by omega)
  simp only [Int.toNat_natCast, hs] at hr
  exact hr
/-- Elements of m cells without slices of their own. -/
structure Flat {α : Type} (f : α → PT) (m : Nat) : Prop where
  cells : ∀ x, (f x).cells.length = m
  blocks : ∀ x, (f x).blocks = []
  own : ∀ x w, Own w (f x)
  seen : ∀ x w S, Seen w S (f x)
section
variable {α : Type} {f : α → PT} {m : Nat} {w : World} {S : Nat → Prop}
theorem Flat.cellsL (h : Flat f m) (l : List α) : ∀ t ∈ l.map f, t.cells.length = m := fun t ht => by
  obtain ⟨x, _, rfl⟩ := List.mem_map.1 ht; exact h.cells x
theorem Flat.blocksL (h : Flat f m) (l : List α) : PT.blocksL (l.map f) = [] := by
  induction l with
  | nil => rfl
  | cons z r ih => simp only [List.map_cons, PT.blocksL, h.blocks, ih, List.append_nil]
theorem Flat.ownL (h : Flat f m) (l : List α) : OwnL w (l.map f) := OwnL.of_get fun t ht => by
  obtain ⟨x, _, rfl⟩ := List.mem_map.1 ht; exact h.own x w
theorem Flat.length (h : Flat f m) (l : List α) : (PT.cellsL (l.map f)).length = l.length * m := by
  rw [PT.length_cellsL (h.cellsL l), List.length_map]
theorem Flat.owned (h : Flat f m) {g c : Nat} {e : TypeId} {l : List α} (hf : Fill w g e (c * m) (PT.cellsL (l.map f))) (hl : l.length ≤ c) (hc : c ≤ maxLen) (hS : S g) : Owned w S (.sl (some ⟨g, 0, none⟩) c m (l.map f)) :=
  ⟨Fill.own hf (h.cellsL l) (by simpa using hl) hc (h.ownL l), by simp [PT.blocks, h.blocksL, PT.rowOf], by simpa [PT.blocks, h.blocksL, PT.rowOf] using hS⟩
theorem Flat.none (_h : Flat f m) : Seen w S (.sl none 0 m (([] : List α).map f)) := ⟨by simp, by simp, Sees.nil _ _ _, by simp, trivial⟩
end
/-- Trees that stand for the elements of a list, one by one. -/
def AtL {α : Type} (R : PT → α → Prop) (l : List PT) (xs : List α) : Prop := l.length = xs.length ∧ ∀ (i : Nat) (t : PT) (x : α), l[i]? = some t → xs[i]? = some x → R t x
section
variable {α : Type} {R : PT → α → Prop} {l : List PT} {xs : List α}
theorem AtL.get (h : AtL R l xs) {k : Nat} (hk : k < l.length) : R l[k] (xs[k]'(by have := h.1; omega)) := h.2 k _ _ (List.getElem?_eq_getElem hk) (List.getElem?_eq_getElem _)
theorem AtL.nil : AtL R [] ([] : List α) := ⟨rfl, by simp⟩
theorem AtL.cells {m : Nat} (h : AtL R l xs) (hm : ∀ t x, R t x → t.cells.length = m) : ∀ t ∈ l, t.cells.length = m := fun t ht => by
  obtain ⟨i, hi, rfl⟩ := List.getElem_of_mem ht
  exact hm _ _ (h.get hi)
end
/-- A list of trees that each stand for something is a list that stands for a list. -/
theorem atL_of {α : Type} {R : PT → α → Prop} {l : List PT} (h : ∀ t ∈ l, ∃ x, R t x) : ∃ xs, AtL R l xs := by
  induction l with
  | nil => exact ⟨[], AtL.nil⟩
  | cons t r ih =>
    obtain ⟨x, hx⟩ := h t (by simp)
    obtain ⟨xs, hxs⟩ := ih fun u hu => h u (by simp [hu])
    refine ⟨x :: xs, by simp [hxs.1], fun i u y hu hy => ?_⟩
    cases i with
    | zero => simp at hu hy; subst hu; subst hy; exact hx
    | succ i => exact hxs.2 i u y (by simpa using hu) (by simpa using hy)
theorem map_of {α : Type} {f : α → PT} {l : List PT} (h : ∀ t ∈ l, ∃ x, t = f x) : ∃ xs : List α, l = xs.map f := by
  induction l with
  | nil => exact ⟨[], rfl⟩
  | cons t r ih =>
    obtain ⟨x, hx⟩ := h t (by simp)
    obtain ⟨xs, hxs⟩ := ih fun u hu => h u (by simp [hu])
    exact ⟨x :: xs, by simp [hx, hxs]⟩

/-- Owned part by part, all in blocks from lo on, below hi. -/
def OwnedS (w : World) (lo hi : Nat) (ts : List PT) : Prop := OwnL w ts ∧ (PT.blocksL ts).Nodup ∧ ∀ b ∈ PT.blocksL ts, Rng lo hi b
section
variable {w w' : World} {lo mid hi : Nat}
theorem OwnedS.nil : OwnedS w lo hi [] := ⟨trivial, by simp [PT.blocksL], by simp [PT.blocksL]⟩
theorem OwnedS.cons {ts : List PT} {t : PT} (ht : Owned w (Rng lo mid) t) (h : OwnedS w mid hi ts) (hl : lo ≤ mid) (hm : mid ≤ hi) : OwnedS w lo hi (t :: ts) := by
  refine ⟨⟨ht.1, h.1⟩, ?_, fun b hb => ?_⟩
  · simp only [PT.blocksL, List.nodup_append]
    refine ⟨ht.2.1, h.2.1, fun a ha b hb => ?_⟩
    have h1 := (ht.2.2 a ha).2
    have h2 := (h.2.2 b hb).1
    omega
  · simp only [PT.blocksL, List.mem_append] at hb
    rcases hb with hb | hb
    · have := ht.2.2 b hb; exact ⟨this.1, Nat.lt_of_lt_of_le this.2 hm⟩
    · have := h.2.2 b hb; exact ⟨Nat.le_trans hl this.1, this.2⟩
theorem OwnedS.flat {ts : List PT} {t : PT} (hb : t.blocks = []) (ho : Own w t) (h : OwnedS w lo hi ts) : OwnedS w lo hi (t :: ts) :=
  ⟨⟨ho, h.1⟩, by simpa [PT.blocksL, hb] using h.2.1, by simpa [PT.blocksL, hb] using h.2.2⟩
theorem OwnedS.agg {ts : List PT} {S : Nat → Prop} (h : OwnedS w lo hi ts) (hS : ∀ b, Rng lo hi b → S b) : Owned w S (.agg ts) := ⟨h.1, h.2.1, fun b hb => hS b (h.2.2 b hb)⟩
theorem OwnedS.keep {ts : List PT} (h : OwnedS w lo hi ts) (hk : ∀ b, Rng lo hi b → b < w.heap.size → w'.heap[b]? = w.heap[b]?) : OwnedS w' lo hi ts :=
  ⟨own_keep.2 ts h.1 fun b hb => hk b (h.2.2 b hb) (own_lt.2 ts h.1 b hb), h.2.1, h.2.2⟩
theorem OwnedS.below {ts : List PT} (h : OwnedS w lo hi ts) (hb : Below w.heap.size w w') : OwnedS w' lo hi ts := h.keep fun b _ hlt => hb.block b hlt
theorem OwnedS.far {ts : List PT} (h : OwnedS w lo hi ts) {p : Addr} (hp : p.block < lo) (u : Value) : OwnedS (w.setCell p u) lo hi ts :=
  h.keep fun b hb _ => Below.heap_setCell _ _ _ _ (by have := hb.1; omega)
theorem Owned.far {S : Nat → Prop} {t : PT} (h : Owned w S t) {p : Addr} (hp : ¬ S p.block) (u : Value) : Owned (w.setCell p u) S t :=
  h.keep fun _b hb _ => Below.heap_setCell _ _ _ _ (fun e => hp (e ▸ hb))
/-- A filled block whose elements are owned: a slice of the call's own. -/
theorem OwnedS.slice {ts : List PT} {g c m : Nat} {e : TypeId} {S : Nat → Prop} (h : OwnedS w lo hi ts) (hf : Fill w g e (c * m) (PT.cellsL ts)) (hm : ∀ t ∈ ts, t.cells.length = m) (hl : ts.length ≤ c) (hc : c ≤ maxLen) (hg : g < lo) (hS : ∀ b, g ≤ b → S b) :
    Owned w S (.sl (some ⟨g, 0, none⟩) c m ts) := by
  refine ⟨Fill.own hf hm hl hc h.1, ?_, fun b hb => ?_⟩
  · simp only [PT.blocks, PT.rowOf, List.singleton_append, List.nodup_cons]
    exact ⟨fun hb => by have := (h.2.2 g hb).1; omega, h.2.1⟩
  · simp only [PT.blocks, PT.rowOf, List.mem_append, List.mem_singleton] at hb
    rcases hb with rfl | hb
    · exact hS b (Nat.le_refl _)
    · exact hS b (by have := (h.2.2 b hb).1; omega)
end

/-- An int of 64 bits. -/
def i64 (n : Int) : Prop := -9223372036854775808 ≤ n ∧ n ≤ 9223372036854775807
theorem i64_of {n : Int} (h : (Lit.int .i64 n).wf = true) : i64 n := bounds_i64 h

end Go.Proofs.YtiihihgjiklnoaaGreatDoor
/- The program's struct types as plain structures, and what they are in memory. Written by gen_types.py. -/
namespace Go.Proofs.YtiihihgjiklnoaaGreatDoor
open Go Go.RowKit

/-- How many values a list holds: its length and what its elements hold. -/
def bl {α : Type} (f : α → Nat) (l : List α) : Nat := l.length + (l.map f).sum
theorem sane_list {α : Type} {R : PT → α → Prop} {P : α → Prop} {l : List PT} {xs : List α} (h : AtL R l xs) (hs : PT.saneL l) (hp : ∀ t x, R t x → t.sane → P x) : ∀ x ∈ xs, P x := fun x hx => by
  obtain ⟨i, hi, rfl⟩ := List.getElem_of_mem hx
  have hi' : i < l.length := by rw [h.1]; exact hi
  exact hp _ _ (h.get hi') (PT.saneL_mem hs (List.getElem_mem hi'))

structure TValue where
  kind : Int
  number : Int
  text : ByteArray

def TValue.ty : Ty := .agg [.int .i64, .int .i64, .str]

def TValue.sane (x : TValue) : Prop := i64 x.kind ∧ i64 x.number ∧ x.text.size ≤ maxLen

def TValue.pt (x : TValue) : PT := .agg [.int .i64 x.kind, .int .i64 x.number, .str x.text]

theorem TValue.flat : Flat TValue.pt 3 := ⟨fun _ => rfl, fun _ => rfl, fun _ _ => by simp [TValue.pt, Own, OwnL], fun _ _ _ => by simp [TValue.pt, Seen, SeenL]⟩

theorem TValue.of_ty {t : PT} (h : HasTy TValue.ty t) : ∃ x : TValue, t = x.pt := by
  simp only [TValue.ty, HasTy, HasTys] at h
  obtain ⟨_, rfl, h⟩ := h
  obtain ⟨u0, _, rfl, h0, h⟩ := h
  obtain ⟨v0, rfl⟩ := h0
  obtain ⟨u1, _, rfl, h1, h⟩ := h
  obtain ⟨v1, rfl⟩ := h1
  obtain ⟨u2, _, rfl, h2, h⟩ := h
  obtain ⟨v2, rfl⟩ := h2
  subst h
  exact ⟨⟨v0, v1, v2⟩, rfl⟩

theorem TValue.sane_of {x : TValue} (h : x.pt.sane) : x.sane := by
  simp only [TValue.pt, PT.sane, PT.saneL] at h
  exact ⟨i64_of h.1, i64_of h.2.1, h.2.2.1⟩

structure TInstr where
  op : Int
  a : Int
  b : Int
  text : ByteArray

def TInstr.ty : Ty := .agg [.int .i64, .int .i64, .int .i64, .str]

def TInstr.sane (x : TInstr) : Prop := i64 x.op ∧ i64 x.a ∧ i64 x.b ∧ x.text.size ≤ maxLen

def TInstr.pt (x : TInstr) : PT := .agg [.int .i64 x.op, .int .i64 x.a, .int .i64 x.b, .str x.text]

theorem TInstr.flat : Flat TInstr.pt 4 := ⟨fun _ => rfl, fun _ => rfl, fun _ _ => by simp [TInstr.pt, Own, OwnL], fun _ _ _ => by simp [TInstr.pt, Seen, SeenL]⟩

theorem TInstr.of_ty {t : PT} (h : HasTy TInstr.ty t) : ∃ x : TInstr, t = x.pt := by
  simp only [TInstr.ty, HasTy, HasTys] at h
  obtain ⟨_, rfl, h⟩ := h
  obtain ⟨u0, _, rfl, h0, h⟩ := h
  obtain ⟨v0, rfl⟩ := h0
  obtain ⟨u1, _, rfl, h1, h⟩ := h
  obtain ⟨v1, rfl⟩ := h1
  obtain ⟨u2, _, rfl, h2, h⟩ := h
  obtain ⟨v2, rfl⟩ := h2
  obtain ⟨u3, _, rfl, h3, h⟩ := h
  obtain ⟨v3, rfl⟩ := h3
  subst h
  exact ⟨⟨v0, v1, v2, v3⟩, rfl⟩

theorem TInstr.sane_of {x : TInstr} (h : x.pt.sane) : x.sane := by
  simp only [TInstr.pt, PT.sane, PT.saneL] at h
  exact ⟨i64_of h.1, i64_of h.2.1, i64_of h.2.2.1, h.2.2.2.1⟩

structure TCode where
  block : Bool
  params : Int
  slots : Int
  instrs : List TInstr

def TCode.ty : Ty := .agg [.bool, .int .i64, .int .i64, .sl 4 TInstr.ty]

def TCode.sane (x : TCode) : Prop := i64 x.params ∧ i64 x.slots ∧ (∀ y ∈ x.instrs, y.sane)

def TCodeAt (t : PT) (x : TCode) : Prop := ∃ (A3 : Option Addr) (c3 : Nat), t = .agg [.bool x.block, .int .i64 x.params, .int .i64 x.slots, .sl A3 c3 4 ((x.instrs).map TInstr.pt)]

theorem TCodeAt.cells {t : PT} {x : TCode} (h : TCodeAt t x) : t.cells.length = 4 := by
  obtain ⟨A3, c3, rfl⟩ := h
  rfl

theorem TCode.of_ty {t : PT} (h : HasTy TCode.ty t) : ∃ x : TCode, TCodeAt t x := by
  simp only [TCode.ty, HasTy, HasTys] at h
  obtain ⟨_, rfl, h⟩ := h
  obtain ⟨u0, _, rfl, h0, h⟩ := h
  obtain ⟨v0, rfl⟩ := h0
  obtain ⟨u1, _, rfl, h1, h⟩ := h
  obtain ⟨v1, rfl⟩ := h1
  obtain ⟨u2, _, rfl, h2, h⟩ := h
  obtain ⟨v2, rfl⟩ := h2
  obtain ⟨u3, _, rfl, h3, h⟩ := h
  obtain ⟨A3, c3, l3, rfl, h3⟩ := h3
  obtain ⟨v3, rfl⟩ := map_of fun t ht => TInstr.of_ty (h3 t ht)
  subst h
  exact ⟨⟨v0, v1, v2, v3⟩, _, _, rfl⟩

theorem TCode.sane_of {t : PT} {x : TCode} (ha : TCodeAt t x) (h : t.sane) : x.sane := by
  obtain ⟨A3, c3, rfl⟩ := ha
  simp only [PT.sane, PT.saneL] at h
  exact ⟨i64_of h.2.1, i64_of h.2.2.1, fun y hy => TInstr.sane_of (PT.saneL_mem h.2.2.2.1 (List.mem_map_of_mem (f := TInstr.pt) hy))⟩

structure TEntry where
  owner : Int
  class_ : Bool
  selector : ByteArray
  code : Int

def TEntry.ty : Ty := .agg [.int .i64, .bool, .str, .int .i64]

def TEntry.sane (x : TEntry) : Prop := i64 x.owner ∧ x.selector.size ≤ maxLen ∧ i64 x.code

def TEntry.pt (x : TEntry) : PT := .agg [.int .i64 x.owner, .bool x.class_, .str x.selector, .int .i64 x.code]

theorem TEntry.flat : Flat TEntry.pt 4 := ⟨fun _ => rfl, fun _ => rfl, fun _ _ => by simp [TEntry.pt, Own, OwnL], fun _ _ _ => by simp [TEntry.pt, Seen, SeenL]⟩

theorem TEntry.of_ty {t : PT} (h : HasTy TEntry.ty t) : ∃ x : TEntry, t = x.pt := by
  simp only [TEntry.ty, HasTy, HasTys] at h
  obtain ⟨_, rfl, h⟩ := h
  obtain ⟨u0, _, rfl, h0, h⟩ := h
  obtain ⟨v0, rfl⟩ := h0
  obtain ⟨u1, _, rfl, h1, h⟩ := h
  obtain ⟨v1, rfl⟩ := h1
  obtain ⟨u2, _, rfl, h2, h⟩ := h
  obtain ⟨v2, rfl⟩ := h2
  obtain ⟨u3, _, rfl, h3, h⟩ := h
  obtain ⟨v3, rfl⟩ := h3
  subst h
  exact ⟨⟨v0, v1, v2, v3⟩, rfl⟩

theorem TEntry.sane_of {x : TEntry} (h : x.pt.sane) : x.sane := by
  simp only [TEntry.pt, PT.sane, PT.saneL] at h
  exact ⟨i64_of h.1, h.2.2.1, i64_of h.2.2.2.1⟩

structure TClassInfo where
  name : ByteArray
  parent : Int
  fields : List ByteArray

def TClassInfo.ty : Ty := .agg [.str, .int .i64, .sl 1 (.str)]

def TClassInfo.sane (x : TClassInfo) : Prop := x.name.size ≤ maxLen ∧ i64 x.parent ∧ (∀ s ∈ x.fields, s.size ≤ maxLen)

def TClassInfoAt (t : PT) (x : TClassInfo) : Prop := ∃ (A2 : Option Addr) (c2 : Nat), t = .agg [.str x.name, .int .i64 x.parent, .sl A2 c2 1 ((x.fields).map PT.str)]

theorem TClassInfoAt.cells {t : PT} {x : TClassInfo} (h : TClassInfoAt t x) : t.cells.length = 3 := by
  obtain ⟨A2, c2, rfl⟩ := h
  rfl

theorem TClassInfo.of_ty {t : PT} (h : HasTy TClassInfo.ty t) : ∃ x : TClassInfo, TClassInfoAt t x := by
  simp only [TClassInfo.ty, HasTy, HasTys] at h
  obtain ⟨_, rfl, h⟩ := h
  obtain ⟨u0, _, rfl, h0, h⟩ := h
  obtain ⟨v0, rfl⟩ := h0
  obtain ⟨u1, _, rfl, h1, h⟩ := h
  obtain ⟨v1, rfl⟩ := h1
  obtain ⟨u2, _, rfl, h2, h⟩ := h
  obtain ⟨A2, c2, l2, rfl, h2⟩ := h2
  obtain ⟨v2, rfl⟩ := map_of fun t ht => h2 t ht
  subst h
  exact ⟨⟨v0, v1, v2⟩, _, _, rfl⟩

theorem TClassInfo.sane_of {t : PT} {x : TClassInfo} (ha : TClassInfoAt t x) (h : t.sane) : x.sane := by
  obtain ⟨A2, c2, rfl⟩ := ha
  simp only [PT.sane, PT.saneL] at h
  exact ⟨h.1, i64_of h.2.1, fun s hs => PT.saneL_mem h.2.2.1 (List.mem_map_of_mem (f := PT.str) hs)⟩

structure TCodeBase where
  classes : List TClassInfo
  codes : List TCode
  entries : List TEntry
  main : Int

def TCodeBase.ty : Ty := .agg [.sl 3 TClassInfo.ty, .sl 4 TCode.ty, .sl 4 TEntry.ty, .int .i64]

def TCodeBase.sane (x : TCodeBase) : Prop := (∀ y ∈ x.classes, y.sane) ∧ (∀ y ∈ x.codes, y.sane) ∧ (∀ y ∈ x.entries, y.sane) ∧ i64 x.main

def TCodeBaseAt (t : PT) (x : TCodeBase) : Prop := ∃ (A0 : Option Addr) (c0 : Nat) (l0 : List PT) (A1 : Option Addr) (c1 : Nat) (l1 : List PT) (A2 : Option Addr) (c2 : Nat), AtL TClassInfoAt l0 (x.classes) ∧ AtL TCodeAt l1 (x.codes) ∧ t = .agg [.sl A0 c0 3 l0, .sl A1 c1 4 l1, .sl A2 c2 4 ((x.entries).map TEntry.pt), .int .i64 x.main]

theorem TCodeBaseAt.cells {t : PT} {x : TCodeBase} (h : TCodeBaseAt t x) : t.cells.length = 4 := by
  obtain ⟨A0, c0, l0, A1, c1, l1, A2, c2, h0, h1, rfl⟩ := h
  rfl

theorem TCodeBase.of_ty {t : PT} (h : HasTy TCodeBase.ty t) : ∃ x : TCodeBase, TCodeBaseAt t x := by
  simp only [TCodeBase.ty, HasTy, HasTys] at h
  obtain ⟨_, rfl, h⟩ := h
  obtain ⟨u0, _, rfl, h0, h⟩ := h
  obtain ⟨A0, c0, l0, rfl, h0⟩ := h0
  obtain ⟨v0, k0⟩ := atL_of fun t ht => TClassInfo.of_ty (h0 t ht)
  obtain ⟨u1, _, rfl, h1, h⟩ := h
  obtain ⟨A1, c1, l1, rfl, h1⟩ := h1
  obtain ⟨v1, k1⟩ := atL_of fun t ht => TCode.of_ty (h1 t ht)
  obtain ⟨u2, _, rfl, h2, h⟩ := h
  obtain ⟨A2, c2, l2, rfl, h2⟩ := h2
  obtain ⟨v2, rfl⟩ := map_of fun t ht => TEntry.of_ty (h2 t ht)
  obtain ⟨u3, _, rfl, h3, h⟩ := h
  obtain ⟨v3, rfl⟩ := h3
  subst h
  exact ⟨⟨v0, v1, v2, v3⟩, _, _, _, _, _, _, _, _, k0, k1, rfl⟩

theorem TCodeBase.sane_of {t : PT} {x : TCodeBase} (ha : TCodeBaseAt t x) (h : t.sane) : x.sane := by
  obtain ⟨A0, c0, l0, A1, c1, l1, A2, c2, h0, h1, rfl⟩ := ha
  simp only [PT.sane, PT.saneL] at h
  exact ⟨sane_list h0 h.1 fun _ _ a b => TClassInfo.sane_of a b, sane_list h1 h.2.1 fun _ _ a b => TCode.sane_of a b, fun y hy => TEntry.sane_of (PT.saneL_mem h.2.2.1 (List.mem_map_of_mem (f := TEntry.pt) hy)), i64_of h.2.2.2.1⟩

structure TObject where
  kind : Int
  class_ : Int
  fields : List TValue
  numbers : List Int

def TObject.ty : Ty := .agg [.int .i64, .int .i64, .sl 3 TValue.ty, .sl 1 (.int .i64)]

def TObject.sane (x : TObject) : Prop := i64 x.kind ∧ i64 x.class_ ∧ (∀ y ∈ x.fields, y.sane) ∧ (∀ n ∈ x.numbers, i64 n)

def TObjectAt (t : PT) (x : TObject) : Prop := ∃ (A2 : Option Addr) (c2 : Nat) (A3 : Option Addr) (c3 : Nat), t = .agg [.int .i64 x.kind, .int .i64 x.class_, .sl A2 c2 3 ((x.fields).map TValue.pt), .sl A3 c3 1 ((x.numbers).map (PT.int .i64))]

theorem TObjectAt.cells {t : PT} {x : TObject} (h : TObjectAt t x) : t.cells.length = 4 := by
  obtain ⟨A2, c2, A3, c3, rfl⟩ := h
  rfl

theorem TObject.of_ty {t : PT} (h : HasTy TObject.ty t) : ∃ x : TObject, TObjectAt t x := by
  simp only [TObject.ty, HasTy, HasTys] at h
  obtain ⟨_, rfl, h⟩ := h
  obtain ⟨u0, _, rfl, h0, h⟩ := h
  obtain ⟨v0, rfl⟩ := h0
  obtain ⟨u1, _, rfl, h1, h⟩ := h
  obtain ⟨v1, rfl⟩ := h1
  obtain ⟨u2, _, rfl, h2, h⟩ := h
  obtain ⟨A2, c2, l2, rfl, h2⟩ := h2
  obtain ⟨v2, rfl⟩ := map_of fun t ht => TValue.of_ty (h2 t ht)
  obtain ⟨u3, _, rfl, h3, h⟩ := h
  obtain ⟨A3, c3, l3, rfl, h3⟩ := h3
  obtain ⟨v3, rfl⟩ := map_of fun t ht => h3 t ht
  subst h
  exact ⟨⟨v0, v1, v2, v3⟩, _, _, _, _, rfl⟩

theorem TObject.sane_of {t : PT} {x : TObject} (ha : TObjectAt t x) (h : t.sane) : x.sane := by
  obtain ⟨A2, c2, A3, c3, rfl⟩ := ha
  simp only [PT.sane, PT.saneL] at h
  exact ⟨i64_of h.1, i64_of h.2.1, fun y hy => TValue.sane_of (PT.saneL_mem h.2.2.1 (List.mem_map_of_mem (f := TValue.pt) hy)), fun n hn => i64_of (PT.saneL_mem h.2.2.2.1 (List.mem_map_of_mem (f := PT.int .i64) hn))⟩

structure TStore where
  classes : List TClassInfo
  objects : List TObject
  output : List ByteArray
  ticks : Int
  budget : Int
  made : Int

def TStore.ty : Ty := .agg [.sl 3 TClassInfo.ty, .sl 4 TObject.ty, .sl 1 (.str), .int .i64, .int .i64, .int .i64]

def TStore.sane (x : TStore) : Prop := (∀ y ∈ x.classes, y.sane) ∧ (∀ y ∈ x.objects, y.sane) ∧ (∀ s ∈ x.output, s.size ≤ maxLen) ∧ i64 x.ticks ∧ i64 x.budget ∧ i64 x.made

def TStoreAt (t : PT) (x : TStore) : Prop := ∃ (A0 : Option Addr) (c0 : Nat) (l0 : List PT) (A1 : Option Addr) (c1 : Nat) (l1 : List PT) (A2 : Option Addr) (c2 : Nat), AtL TClassInfoAt l0 (x.classes) ∧ AtL TObjectAt l1 (x.objects) ∧ t = .agg [.sl A0 c0 3 l0, .sl A1 c1 4 l1, .sl A2 c2 1 ((x.output).map PT.str), .int .i64 x.ticks, .int .i64 x.budget, .int .i64 x.made]

theorem TStoreAt.cells {t : PT} {x : TStore} (h : TStoreAt t x) : t.cells.length = 6 := by
  obtain ⟨A0, c0, l0, A1, c1, l1, A2, c2, h0, h1, rfl⟩ := h
  rfl

theorem TStore.of_ty {t : PT} (h : HasTy TStore.ty t) : ∃ x : TStore, TStoreAt t x := by
  simp only [TStore.ty, HasTy, HasTys] at h
  obtain ⟨_, rfl, h⟩ := h
  obtain ⟨u0, _, rfl, h0, h⟩ := h
  obtain ⟨A0, c0, l0, rfl, h0⟩ := h0
  obtain ⟨v0, k0⟩ := atL_of fun t ht => TClassInfo.of_ty (h0 t ht)
  obtain ⟨u1, _, rfl, h1, h⟩ := h
  obtain ⟨A1, c1, l1, rfl, h1⟩ := h1
  obtain ⟨v1, k1⟩ := atL_of fun t ht => TObject.of_ty (h1 t ht)
  obtain ⟨u2, _, rfl, h2, h⟩ := h
  obtain ⟨A2, c2, l2, rfl, h2⟩ := h2
  obtain ⟨v2, rfl⟩ := map_of fun t ht => h2 t ht
  obtain ⟨u3, _, rfl, h3, h⟩ := h
  obtain ⟨v3, rfl⟩ := h3
  obtain ⟨u4, _, rfl, h4, h⟩ := h
  obtain ⟨v4, rfl⟩ := h4
  obtain ⟨u5, _, rfl, h5, h⟩ := h
  obtain ⟨v5, rfl⟩ := h5
  subst h
  exact ⟨⟨v0, v1, v2, v3, v4, v5⟩, _, _, _, _, _, _, _, _, k0, k1, rfl⟩

theorem TStore.sane_of {t : PT} {x : TStore} (ha : TStoreAt t x) (h : t.sane) : x.sane := by
  obtain ⟨A0, c0, l0, A1, c1, l1, A2, c2, h0, h1, rfl⟩ := ha
  simp only [PT.sane, PT.saneL] at h
  exact ⟨sane_list h0 h.1 fun _ _ a b => TClassInfo.sane_of a b, sane_list h1 h.2.1 fun _ _ a b => TObject.sane_of a b, fun s hs => PT.saneL_mem h.2.2.1 (List.mem_map_of_mem (f := PT.str) hs), i64_of h.2.2.2.1, i64_of h.2.2.2.2.1, i64_of h.2.2.2.2.2.1⟩

structure TClosure where
  code : Int
  outer : Int
  home : Int
  self : TValue

def TClosure.ty : Ty := .agg [.int .i64, .int .i64, .int .i64, TValue.ty]

def TClosure.sane (x : TClosure) : Prop := i64 x.code ∧ i64 x.outer ∧ i64 x.home ∧ x.self.sane

def TClosure.pt (x : TClosure) : PT := .agg [.int .i64 x.code, .int .i64 x.outer, .int .i64 x.home, x.self.pt]

theorem TClosure.flat : Flat TClosure.pt 6 := ⟨fun _ => rfl, fun _ => rfl, fun _ _ => by simp [TClosure.pt, Own, OwnL, TValue.pt], fun _ _ _ => by simp [TClosure.pt, Seen, SeenL, TValue.pt]⟩

theorem TClosure.of_ty {t : PT} (h : HasTy TClosure.ty t) : ∃ x : TClosure, t = x.pt := by
  simp only [TClosure.ty, HasTy, HasTys] at h
  obtain ⟨_, rfl, h⟩ := h
  obtain ⟨u0, _, rfl, h0, h⟩ := h
  obtain ⟨v0, rfl⟩ := h0
  obtain ⟨u1, _, rfl, h1, h⟩ := h
  obtain ⟨v1, rfl⟩ := h1
  obtain ⟨u2, _, rfl, h2, h⟩ := h
  obtain ⟨v2, rfl⟩ := h2
  obtain ⟨u3, _, rfl, h3, h⟩ := h
  obtain ⟨v3, rfl⟩ := TValue.of_ty h3
  subst h
  exact ⟨⟨v0, v1, v2, v3⟩, rfl⟩

theorem TClosure.sane_of {x : TClosure} (h : x.pt.sane) : x.sane := by
  simp only [TClosure.pt, PT.sane, PT.saneL] at h
  exact ⟨i64_of h.1, i64_of h.2.1, i64_of h.2.2.1, TValue.sane_of h.2.2.2.1⟩

structure TContext where
  mark : Int
  code : Int
  pc : Int
  sender : Int
  outer : Int
  home : Int
  self : TValue
  slots : List TValue
  stack : List TValue
  values : List TValue
  other : Int
  retry : Bool

def TContext.ty : Ty := .agg [.int .i64, .int .i64, .int .i64, .int .i64, .int .i64, .int .i64, TValue.ty, .sl 3 TValue.ty, .sl 3 TValue.ty, .sl 3 TValue.ty, .int .i64, .bool]

def TContext.sane (x : TContext) : Prop := i64 x.mark ∧ i64 x.code ∧ i64 x.pc ∧ i64 x.sender ∧ i64 x.outer ∧ i64 x.home ∧ x.self.sane ∧ (∀ y ∈ x.slots, y.sane) ∧ (∀ y ∈ x.stack, y.sane) ∧ (∀ y ∈ x.values, y.sane) ∧ i64 x.other

def TContextAt (t : PT) (x : TContext) : Prop := ∃ (A7 : Option Addr) (c7 : Nat) (A8 : Option Addr) (c8 : Nat) (A9 : Option Addr) (c9 : Nat), t = .agg [.int .i64 x.mark, .int .i64 x.code, .int .i64 x.pc, .int .i64 x.sender, .int .i64 x.outer, .int .i64 x.home, x.self.pt, .sl A7 c7 3 ((x.slots).map TValue.pt), .sl A8 c8 3 ((x.stack).map TValue.pt), .sl A9 c9 3 ((x.values).map TValue.pt), .int .i64 x.other, .bool x.retry]

theorem TContextAt.cells {t : PT} {x : TContext} (h : TContextAt t x) : t.cells.length = 14 := by
  obtain ⟨A7, c7, A8, c8, A9, c9, rfl⟩ := h
  rfl

theorem TContext.of_ty {t : PT} (h : HasTy TContext.ty t) : ∃ x : TContext, TContextAt t x := by
  simp only [TContext.ty, HasTy, HasTys] at h
  obtain ⟨_, rfl, h⟩ := h
  obtain ⟨u0, _, rfl, h0, h⟩ := h
  obtain ⟨v0, rfl⟩ := h0
  obtain ⟨u1, _, rfl, h1, h⟩ := h
  obtain ⟨v1, rfl⟩ := h1
  obtain ⟨u2, _, rfl, h2, h⟩ := h
  obtain ⟨v2, rfl⟩ := h2
  obtain ⟨u3, _, rfl, h3, h⟩ := h
  obtain ⟨v3, rfl⟩ := h3
  obtain ⟨u4, _, rfl, h4, h⟩ := h
  obtain ⟨v4, rfl⟩ := h4
  obtain ⟨u5, _, rfl, h5, h⟩ := h
  obtain ⟨v5, rfl⟩ := h5
  obtain ⟨u6, _, rfl, h6, h⟩ := h
  obtain ⟨v6, rfl⟩ := TValue.of_ty h6
  obtain ⟨u7, _, rfl, h7, h⟩ := h
  obtain ⟨A7, c7, l7, rfl, h7⟩ := h7
  obtain ⟨v7, rfl⟩ := map_of fun t ht => TValue.of_ty (h7 t ht)
  obtain ⟨u8, _, rfl, h8, h⟩ := h
  obtain ⟨A8, c8, l8, rfl, h8⟩ := h8
  obtain ⟨v8, rfl⟩ := map_of fun t ht => TValue.of_ty (h8 t ht)
  obtain ⟨u9, _, rfl, h9, h⟩ := h
  obtain ⟨A9, c9, l9, rfl, h9⟩ := h9
  obtain ⟨v9, rfl⟩ := map_of fun t ht => TValue.of_ty (h9 t ht)
  obtain ⟨u10, _, rfl, h10, h⟩ := h
  obtain ⟨v10, rfl⟩ := h10
  obtain ⟨u11, _, rfl, h11, h⟩ := h
  obtain ⟨v11, rfl⟩ := h11
  subst h
  exact ⟨⟨v0, v1, v2, v3, v4, v5, v6, v7, v8, v9, v10, v11⟩, _, _, _, _, _, _, rfl⟩

theorem TContext.sane_of {t : PT} {x : TContext} (ha : TContextAt t x) (h : t.sane) : x.sane := by
  obtain ⟨A7, c7, A8, c8, A9, c9, rfl⟩ := ha
  simp only [PT.sane, PT.saneL] at h
  exact ⟨i64_of h.1, i64_of h.2.1, i64_of h.2.2.1, i64_of h.2.2.2.1, i64_of h.2.2.2.2.1, i64_of h.2.2.2.2.2.1, TValue.sane_of h.2.2.2.2.2.2.1, fun y hy => TValue.sane_of (PT.saneL_mem h.2.2.2.2.2.2.2.1 (List.mem_map_of_mem (f := TValue.pt) hy)), fun y hy => TValue.sane_of (PT.saneL_mem h.2.2.2.2.2.2.2.2.1 (List.mem_map_of_mem (f := TValue.pt) hy)), fun y hy => TValue.sane_of (PT.saneL_mem h.2.2.2.2.2.2.2.2.2.1 (List.mem_map_of_mem (f := TValue.pt) hy)), i64_of h.2.2.2.2.2.2.2.2.2.2.1⟩

structure TProcess where
  at_ : Int
  main : Bool

def TProcess.ty : Ty := .agg [.int .i64, .bool]

def TProcess.sane (x : TProcess) : Prop := i64 x.at_

def TProcess.pt (x : TProcess) : PT := .agg [.int .i64 x.at_, .bool x.main]

theorem TProcess.flat : Flat TProcess.pt 2 := ⟨fun _ => rfl, fun _ => rfl, fun _ _ => by simp [TProcess.pt, Own, OwnL], fun _ _ _ => by simp [TProcess.pt, Seen, SeenL]⟩

theorem TProcess.of_ty {t : PT} (h : HasTy TProcess.ty t) : ∃ x : TProcess, t = x.pt := by
  simp only [TProcess.ty, HasTy, HasTys] at h
  obtain ⟨_, rfl, h⟩ := h
  obtain ⟨u0, _, rfl, h0, h⟩ := h
  obtain ⟨v0, rfl⟩ := h0
  obtain ⟨u1, _, rfl, h1, h⟩ := h
  obtain ⟨v1, rfl⟩ := h1
  subst h
  exact ⟨⟨v0, v1⟩, rfl⟩

theorem TProcess.sane_of {x : TProcess} (h : x.pt.sane) : x.sane := by
  simp only [TProcess.pt, PT.sane, PT.saneL] at h
  exact i64_of h.1

structure TImage where
  base : TCodeBase
  store : TStore
  blocks : List TClosure
  contexts : List TContext
  processes : List TProcess
  ready : List Int
  now : Int
  status : Int
  value : TValue
  fault : ByteArray

def TImage.ty : Ty := .agg [TCodeBase.ty, TStore.ty, .sl 6 TClosure.ty, .sl 14 TContext.ty, .sl 2 TProcess.ty, .sl 1 (.int .i64), .int .i64, .int .i64, TValue.ty, .str]

def TImage.sane (x : TImage) : Prop := x.base.sane ∧ x.store.sane ∧ (∀ y ∈ x.blocks, y.sane) ∧ (∀ y ∈ x.contexts, y.sane) ∧ (∀ y ∈ x.processes, y.sane) ∧ (∀ n ∈ x.ready, i64 n) ∧ i64 x.now ∧ i64 x.status ∧ x.value.sane ∧ x.fault.size ≤ maxLen

def TImageAt (t : PT) (x : TImage) : Prop := ∃ (t0 : PT) (t1 : PT) (A2 : Option Addr) (c2 : Nat) (A3 : Option Addr) (c3 : Nat) (l3 : List PT) (A4 : Option Addr) (c4 : Nat) (A5 : Option Addr) (c5 : Nat), TCodeBaseAt t0 x.base ∧ TStoreAt t1 x.store ∧ AtL TContextAt l3 (x.contexts) ∧ t = .agg [t0, t1, .sl A2 c2 6 ((x.blocks).map TClosure.pt), .sl A3 c3 14 l3, .sl A4 c4 2 ((x.processes).map TProcess.pt), .sl A5 c5 1 ((x.ready).map (PT.int .i64)), .int .i64 x.now, .int .i64 x.status, x.value.pt, .str x.fault]

theorem TImageAt.cells {t : PT} {x : TImage} (h : TImageAt t x) : t.cells.length = 20 := by
  obtain ⟨t0, t1, A2, c2, A3, c3, l3, A4, c4, A5, c5, h0, h1, h2, rfl⟩ := h
  have e0 := TCodeBaseAt.cells h0
  have e1 := TStoreAt.cells h1
  simp [PT.cells, PT.cellsL, List.length_append, List.length_cons, List.length_nil, TValue.pt, e0, e1]

theorem TImage.of_ty {t : PT} (h : HasTy TImage.ty t) : ∃ x : TImage, TImageAt t x := by
  simp only [TImage.ty, HasTy, HasTys] at h
  obtain ⟨_, rfl, h⟩ := h
  obtain ⟨u0, _, rfl, h0, h⟩ := h
  obtain ⟨v0, k0⟩ := TCodeBase.of_ty h0
  obtain ⟨u1, _, rfl, h1, h⟩ := h
  obtain ⟨v1, k1⟩ := TStore.of_ty h1
  obtain ⟨u2, _, rfl, h2, h⟩ := h
  obtain ⟨A2, c2, l2, rfl, h2⟩ := h2
  obtain ⟨v2, rfl⟩ := map_of fun t ht => TClosure.of_ty (h2 t ht)
  obtain ⟨u3, _, rfl, h3, h⟩ := h
  obtain ⟨A3, c3, l3, rfl, h3⟩ := h3
  obtain ⟨v3, k3⟩ := atL_of fun t ht => TContext.of_ty (h3 t ht)
  obtain ⟨u4, _, rfl, h4, h⟩ := h
  obtain ⟨A4, c4, l4, rfl, h4⟩ := h4
  obtain ⟨v4, rfl⟩ := map_of fun t ht => TProcess.of_ty (h4 t ht)
  obtain ⟨u5, _, rfl, h5, h⟩ := h
  obtain ⟨A5, c5, l5, rfl, h5⟩ := h5
  obtain ⟨v5, rfl⟩ := map_of fun t ht => h5 t ht
  obtain ⟨u6, _, rfl, h6, h⟩ := h
  obtain ⟨v6, rfl⟩ := h6
  obtain ⟨u7, _, rfl, h7, h⟩ := h
  obtain ⟨v7, rfl⟩ := h7
  obtain ⟨u8, _, rfl, h8, h⟩ := h
  obtain ⟨v8, rfl⟩ := TValue.of_ty h8
  obtain ⟨u9, _, rfl, h9, h⟩ := h
  obtain ⟨v9, rfl⟩ := h9
  subst h
  exact ⟨⟨v0, v1, v2, v3, v4, v5, v6, v7, v8, v9⟩, _, _, _, _, _, _, _, _, _, _, _, k0, k1, k3, rfl⟩

theorem TImage.sane_of {t : PT} {x : TImage} (ha : TImageAt t x) (h : t.sane) : x.sane := by
  obtain ⟨t0, t1, A2, c2, A3, c3, l3, A4, c4, A5, c5, h0, h1, h2, rfl⟩ := ha
  simp only [PT.sane, PT.saneL] at h
  exact ⟨TCodeBase.sane_of h0 h.1, TStore.sane_of h1 h.2.1, fun y hy => TClosure.sane_of (PT.saneL_mem h.2.2.1 (List.mem_map_of_mem (f := TClosure.pt) hy)), sane_list h2 h.2.2.2.1 fun _ _ a b => TContext.sane_of a b, fun y hy => TProcess.sane_of (PT.saneL_mem h.2.2.2.2.1 (List.mem_map_of_mem (f := TProcess.pt) hy)), fun n hn => i64_of (PT.saneL_mem h.2.2.2.2.2.1 (List.mem_map_of_mem (f := PT.int .i64) hn)), i64_of h.2.2.2.2.2.2.1, i64_of h.2.2.2.2.2.2.2.1, TValue.sane_of h.2.2.2.2.2.2.2.2.1, h.2.2.2.2.2.2.2.2.2.1⟩

structure TEdit where
  code : Int
  at_ : Int
  kind : Int

def TEdit.ty : Ty := .agg [.int .i64, .int .i64, .int .i64]

def TEdit.sane (x : TEdit) : Prop := i64 x.code ∧ i64 x.at_ ∧ i64 x.kind

def TEdit.pt (x : TEdit) : PT := .agg [.int .i64 x.code, .int .i64 x.at_, .int .i64 x.kind]

theorem TEdit.flat : Flat TEdit.pt 3 := ⟨fun _ => rfl, fun _ => rfl, fun _ _ => by simp [TEdit.pt, Own, OwnL], fun _ _ _ => by simp [TEdit.pt, Seen, SeenL]⟩

theorem TEdit.of_ty {t : PT} (h : HasTy TEdit.ty t) : ∃ x : TEdit, t = x.pt := by
  simp only [TEdit.ty, HasTy, HasTys] at h
  obtain ⟨_, rfl, h⟩ := h
  obtain ⟨u0, _, rfl, h0, h⟩ := h
  obtain ⟨v0, rfl⟩ := h0
  obtain ⟨u1, _, rfl, h1, h⟩ := h
  obtain ⟨v1, rfl⟩ := h1
  obtain ⟨u2, _, rfl, h2, h⟩ := h
  obtain ⟨v2, rfl⟩ := h2
  subst h
  exact ⟨⟨v0, v1, v2⟩, rfl⟩

theorem TEdit.sane_of {x : TEdit} (h : x.pt.sane) : x.sane := by
  simp only [TEdit.pt, PT.sane, PT.saneL] at h
  exact ⟨i64_of h.1, i64_of h.2.1, i64_of h.2.2.1⟩

end Go.Proofs.YtiihihgjiklnoaaGreatDoor
