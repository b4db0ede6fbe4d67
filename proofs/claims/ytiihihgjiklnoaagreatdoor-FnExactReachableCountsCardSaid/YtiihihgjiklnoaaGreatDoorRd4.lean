/- Part 4 of the proof. -/
import Derived.Test.YtiihihgjiklnoaaGreatDoorRd1
namespace Go.Proofs.YtiihihgjiklnoaaGreatDoor
open Go Go.RowKit
def bl {α : Type} (f : α -> Nat) (l : List α) : Nat := l.length + (l.map f).sum
theorem gc {α : Type} {R : PT -> α -> Prop} {P : α -> Prop} {l : List PT} {xs : List α} (h : AtL R l xs) (hs : PT.saneL l) (hp : ∀ t x, R t x -> t.sane -> P x) : ∀ x ∈ xs, P x := fun x hx => by
 obtain ⟨i, hi, rfl⟩ := List.getElem_of_mem hx
 have hi' : i < l.length := by rw [h.1]; exact hi
 exact hp _ _ (h.get hi') (PT.saneL_mem hs (List.getElem_mem hi'))
structure ab where
 kind : Int
 number : Int
 text : ByteArray
def ab.ty : Ty := .agg [.int .i64, .int .i64, .str]
def ab.sane (x : ab) : Prop := i64 x.kind /\ i64 x.number /\ x.text.size <= maxLen
def ab.pt (x : ab) : PT := .agg [.int .i64 x.kind, .int .i64 x.number, .str x.text]
theorem ab.flat : o5 ab.pt 3 := ⟨fun _ => rfl, fun _ => rfl, fun _ _ => by simp [ab.pt, Own, gC], fun _ _ _ => by simp [ab.pt, de, bU]⟩
theorem ab.of_ty {t : PT} (h : cf ab.ty t) : ∃ x : ab, t = x.pt := by
 simp only [ab.ty, cf, cY] at h
 obtain ⟨_, rfl, h⟩ := h
 obtain ⟨u0, _, rfl, h0, h⟩ := h
 obtain ⟨v0, rfl⟩ := h0
 obtain ⟨u1, _, rfl, h1, h⟩ := h
 obtain ⟨v1, rfl⟩ := h1
 obtain ⟨u2, _, rfl, h2, h⟩ := h
 obtain ⟨v2, rfl⟩ := h2
 subst h
 exact ⟨⟨v0, v1, v2⟩, rfl⟩
theorem ab.sane_of {x : ab} (h : x.pt.sane) : x.sane := by
 simp only [ab.pt, PT.sane, PT.saneL] at h
 exact ⟨bK h.1, bK h.2.1, h.2.2.1⟩
structure ai where
 op : Int
 a : Int
 b : Int
 text : ByteArray
def ai.ty : Ty := .agg [.int .i64, .int .i64, .int .i64, .str]
def ai.sane (x : ai) : Prop := i64 x.op /\ i64 x.a /\ i64 x.b /\ x.text.size <= maxLen
def ai.pt (x : ai) : PT := .agg [.int .i64 x.op, .int .i64 x.a, .int .i64 x.b, .str x.text]
theorem ai.flat : o5 ai.pt 4 := ⟨fun _ => rfl, fun _ => rfl, fun _ _ => by simp [ai.pt, Own, gC], fun _ _ _ => by simp [ai.pt, de, bU]⟩
theorem ai.of_ty {t : PT} (h : cf ai.ty t) : ∃ x : ai, t = x.pt := by
 simp only [ai.ty, cf, cY] at h
 obtain ⟨_, rfl, h⟩ := h
 obtain ⟨u0, _, rfl, h0, h⟩ := h
 obtain ⟨v0, rfl⟩ := h0
 obtain ⟨u1, _, rfl, h1, h⟩ := h
 obtain ⟨v1, rfl⟩ := h1
 obtain ⟨u2, _, rfl, h2, h⟩ := h
 obtain ⟨v2, rfl⟩ := h2
 obtain ⟨u3, _, rfl, h3, h⟩ := h
 obtain ⟨v3, rfl⟩ := h3
 subst h
 exact ⟨⟨v0, v1, v2, v3⟩, rfl⟩
theorem ai.sane_of {x : ai} (h : x.pt.sane) : x.sane := by
 simp only [ai.pt, PT.sane, PT.saneL] at h
 exact ⟨bK h.1, bK h.2.1, bK h.2.2.1, h.2.2.2.1⟩
structure au where
 block : Bool
 params : Int
 slots : Int
 instrs : List ai
def au.ty : Ty := .agg [.bool, .int .i64, .int .i64, .sl 4 ai.ty]
def au.sane (x : au) : Prop := i64 x.params /\ i64 x.slots /\ (∀ y ∈ x.instrs, y.sane)
def ij (t : PT) (x : au) : Prop := ∃ (A3 : Option Addr) (c3 : Nat), t = .agg [.bool x.block, .int .i64 x.params, .int .i64 x.slots, .sl A3 c3 4 ((x.instrs).map ai.pt)]
theorem ij.cells {t : PT} {x : au} (h : ij t x) : t.cells.length = 4 := by
 obtain ⟨A3, c3, rfl⟩ := h
 rfl
theorem au.of_ty {t : PT} (h : cf au.ty t) : ∃ x : au, ij t x := by
 simp only [au.ty, cf, cY] at h
 obtain ⟨_, rfl, h⟩ := h
 obtain ⟨u0, _, rfl, h0, h⟩ := h
 obtain ⟨v0, rfl⟩ := h0
 obtain ⟨u1, _, rfl, h1, h⟩ := h
 obtain ⟨v1, rfl⟩ := h1
 obtain ⟨u2, _, rfl, h2, h⟩ := h
 obtain ⟨v2, rfl⟩ := h2
 obtain ⟨u3, _, rfl, h3, h⟩ := h
 obtain ⟨A3, c3, l3, rfl, h3⟩ := h3
 obtain ⟨v3, rfl⟩ := fV fun t ht => ai.of_ty (h3 t ht)
 subst h
 exact ⟨⟨v0, v1, v2, v3⟩, _, _, rfl⟩
theorem au.sane_of {t : PT} {x : au} (ha : ij t x) (h : t.sane) : x.sane := by
 obtain ⟨A3, c3, rfl⟩ := ha
 simp only [PT.sane, PT.saneL] at h
 exact ⟨bK h.2.1, bK h.2.2.1, fun y hy => ai.sane_of (PT.saneL_mem h.2.2.2.1 (List.mem_map_of_mem (f := ai.pt) hy))⟩
structure aB where
 owner : Int
 class_ : Bool
 selector : ByteArray
 code : Int
def aB.ty : Ty := .agg [.int .i64, .bool, .str, .int .i64]
def aB.sane (x : aB) : Prop := i64 x.owner /\ x.selector.size <= maxLen /\ i64 x.code
def aB.pt (x : aB) : PT := .agg [.int .i64 x.owner, .bool x.class_, .str x.selector, .int .i64 x.code]
theorem aB.flat : o5 aB.pt 4 := ⟨fun _ => rfl, fun _ => rfl, fun _ _ => by simp [aB.pt, Own, gC], fun _ _ _ => by simp [aB.pt, de, bU]⟩
theorem aB.of_ty {t : PT} (h : cf aB.ty t) : ∃ x : aB, t = x.pt := by
 simp only [aB.ty, cf, cY] at h
 obtain ⟨_, rfl, h⟩ := h
 obtain ⟨u0, _, rfl, h0, h⟩ := h
 obtain ⟨v0, rfl⟩ := h0
 obtain ⟨u1, _, rfl, h1, h⟩ := h
 obtain ⟨v1, rfl⟩ := h1
 obtain ⟨u2, _, rfl, h2, h⟩ := h
 obtain ⟨v2, rfl⟩ := h2
 obtain ⟨u3, _, rfl, h3, h⟩ := h
 obtain ⟨v3, rfl⟩ := h3
 subst h
 exact ⟨⟨v0, v1, v2, v3⟩, rfl⟩
theorem aB.sane_of {x : aB} (h : x.pt.sane) : x.sane := by
 simp only [aB.pt, PT.sane, PT.saneL] at h
 exact ⟨bK h.1, h.2.2.1, bK h.2.2.2.1⟩
structure aa where
 name : ByteArray
 parent : Int
 fields : List ByteArray
def aa.ty : Ty := .agg [.str, .int .i64, .sl 1 (.str)]
def aa.sane (x : aa) : Prop := x.name.size <= maxLen /\ i64 x.parent /\ (∀ s ∈ x.fields, s.size <= maxLen)
def cn (t : PT) (x : aa) : Prop := ∃ (A2 : Option Addr) (c2 : Nat), t = .agg [.str x.name, .int .i64 x.parent, .sl A2 c2 1 ((x.fields).map PT.str)]
theorem cn.cells {t : PT} {x : aa} (h : cn t x) : t.cells.length = 3 := by
 obtain ⟨A2, c2, rfl⟩ := h
 rfl
theorem aa.of_ty {t : PT} (h : cf aa.ty t) : ∃ x : aa, cn t x := by
 simp only [aa.ty, cf, cY] at h
 obtain ⟨_, rfl, h⟩ := h
 obtain ⟨u0, _, rfl, h0, h⟩ := h
 obtain ⟨v0, rfl⟩ := h0
 obtain ⟨u1, _, rfl, h1, h⟩ := h
 obtain ⟨v1, rfl⟩ := h1
 obtain ⟨u2, _, rfl, h2, h⟩ := h
 obtain ⟨A2, c2, l2, rfl, h2⟩ := h2
 obtain ⟨v2, rfl⟩ := fV fun t ht => h2 t ht
 subst h
 exact ⟨⟨v0, v1, v2⟩, _, _, rfl⟩
theorem aa.sane_of {t : PT} {x : aa} (ha : cn t x) (h : t.sane) : x.sane := by
 obtain ⟨A2, c2, rfl⟩ := ha
 simp only [PT.sane, PT.saneL] at h
 exact ⟨h.1, bK h.2.1, fun s hs => PT.saneL_mem h.2.2.1 (List.mem_map_of_mem (f := PT.str) hs)⟩
structure aC where
 classes : List aa
 codes : List au
 entries : List aB
 main : Int
def aC.ty : Ty := .agg [.sl 3 aa.ty, .sl 4 au.ty, .sl 4 aB.ty, .int .i64]
def aC.sane (x : aC) : Prop := (∀ y ∈ x.classes, y.sane) /\ (∀ y ∈ x.codes, y.sane) /\ (∀ y ∈ x.entries, y.sane) /\ i64 x.main
def cM (t : PT) (x : aC) : Prop := ∃ (A0 : Option Addr) (c0 : Nat) (l0 : List PT) (A1 : Option Addr) (c1 : Nat) (l1 : List PT) (A2 : Option Addr) (c2 : Nat), AtL cn l0 (x.classes) /\ AtL ij l1 (x.codes) /\ t = .agg [.sl A0 c0 3 l0, .sl A1 c1 4 l1, .sl A2 c2 4 ((x.entries).map aB.pt), .int .i64 x.main]
theorem cM.cells {t : PT} {x : aC} (h : cM t x) : t.cells.length = 4 := by
 obtain ⟨A0, c0, l0, A1, c1, l1, A2, c2, h0, h1, rfl⟩ := h
 rfl
theorem aC.of_ty {t : PT} (h : cf aC.ty t) : ∃ x : aC, cM t x := by
 simp only [aC.ty, cf, cY] at h
 obtain ⟨_, rfl, h⟩ := h
 obtain ⟨u0, _, rfl, h0, h⟩ := h
 obtain ⟨A0, c0, l0, rfl, h0⟩ := h0
 obtain ⟨v0, k0⟩ := pD fun t ht => aa.of_ty (h0 t ht)
 obtain ⟨u1, _, rfl, h1, h⟩ := h
 obtain ⟨A1, c1, l1, rfl, h1⟩ := h1
 obtain ⟨v1, k1⟩ := pD fun t ht => au.of_ty (h1 t ht)
 obtain ⟨u2, _, rfl, h2, h⟩ := h
 obtain ⟨A2, c2, l2, rfl, h2⟩ := h2
 obtain ⟨v2, rfl⟩ := fV fun t ht => aB.of_ty (h2 t ht)
 obtain ⟨u3, _, rfl, h3, h⟩ := h
 obtain ⟨v3, rfl⟩ := h3
 subst h
 exact ⟨⟨v0, v1, v2, v3⟩, _, _, _, _, _, _, _, _, k0, k1, rfl⟩
theorem aC.sane_of {t : PT} {x : aC} (ha : cM t x) (h : t.sane) : x.sane := by
 obtain ⟨A0, c0, l0, A1, c1, l1, A2, c2, h0, h1, rfl⟩ := ha
 simp only [PT.sane, PT.saneL] at h
 exact ⟨gc h0 h.1 fun _ _ a b => aa.sane_of a b, gc h1 h.2.1 fun _ _ a b => au.sane_of a b, fun y hy => aB.sane_of (PT.saneL_mem h.2.2.1 (List.mem_map_of_mem (f := aB.pt) hy)), bK h.2.2.2.1⟩
structure ar where
 kind : Int
 class_ : Int
 fields : List ab
 numbers : List Int
def ar.ty : Ty := .agg [.int .i64, .int .i64, .sl 3 ab.ty, .sl 1 (.int .i64)]
def ar.sane (x : ar) : Prop := i64 x.kind /\ i64 x.class_ /\ (∀ y ∈ x.fields, y.sane) /\ (∀ n ∈ x.numbers, i64 n)
def eI (t : PT) (x : ar) : Prop := ∃ (A2 : Option Addr) (c2 : Nat) (A3 : Option Addr) (c3 : Nat), t = .agg [.int .i64 x.kind, .int .i64 x.class_, .sl A2 c2 3 ((x.fields).map ab.pt), .sl A3 c3 1 ((x.numbers).map (PT.int .i64))]
theorem eI.cells {t : PT} {x : ar} (h : eI t x) : t.cells.length = 4 := by
 obtain ⟨A2, c2, A3, c3, rfl⟩ := h
 rfl
theorem ar.of_ty {t : PT} (h : cf ar.ty t) : ∃ x : ar, eI t x := by
 simp only [ar.ty, cf, cY] at h
 obtain ⟨_, rfl, h⟩ := h
 obtain ⟨u0, _, rfl, h0, h⟩ := h
 obtain ⟨v0, rfl⟩ := h0
 obtain ⟨u1, _, rfl, h1, h⟩ := h
 obtain ⟨v1, rfl⟩ := h1
 obtain ⟨u2, _, rfl, h2, h⟩ := h
 obtain ⟨A2, c2, l2, rfl, h2⟩ := h2
 obtain ⟨v2, rfl⟩ := fV fun t ht => ab.of_ty (h2 t ht)
 obtain ⟨u3, _, rfl, h3, h⟩ := h
 obtain ⟨A3, c3, l3, rfl, h3⟩ := h3
 obtain ⟨v3, rfl⟩ := fV fun t ht => h3 t ht
 subst h
 exact ⟨⟨v0, v1, v2, v3⟩, _, _, _, _, rfl⟩
theorem ar.sane_of {t : PT} {x : ar} (ha : eI t x) (h : t.sane) : x.sane := by
 obtain ⟨A2, c2, A3, c3, rfl⟩ := ha
 simp only [PT.sane, PT.saneL] at h
 exact ⟨bK h.1, bK h.2.1, fun y hy => ab.sane_of (PT.saneL_mem h.2.2.1 (List.mem_map_of_mem (f := ab.pt) hy)), fun n hn => bK (PT.saneL_mem h.2.2.2.1 (List.mem_map_of_mem (f := PT.int .i64) hn))⟩
structure aL where
 classes : List aa
 objects : List ar
 output : List ByteArray
 ticks : Int
 budget : Int
 made : Int
def aL.ty : Ty := .agg [.sl 3 aa.ty, .sl 4 ar.ty, .sl 1 (.str), .int .i64, .int .i64, .int .i64]
def aL.sane (x : aL) : Prop := (∀ y ∈ x.classes, y.sane) /\ (∀ y ∈ x.objects, y.sane) /\ (∀ s ∈ x.output, s.size <= maxLen) /\ i64 x.ticks /\ i64 x.budget /\ i64 x.made
def eS (t : PT) (x : aL) : Prop := ∃ (A0 : Option Addr) (c0 : Nat) (l0 : List PT) (A1 : Option Addr) (c1 : Nat) (l1 : List PT) (A2 : Option Addr) (c2 : Nat), AtL cn l0 (x.classes) /\ AtL eI l1 (x.objects) /\ t = .agg [.sl A0 c0 3 l0, .sl A1 c1 4 l1, .sl A2 c2 1 ((x.output).map PT.str), .int .i64 x.ticks, .int .i64 x.budget, .int .i64 x.made]
theorem eS.cells {t : PT} {x : aL} (h : eS t x) : t.cells.length = 6 := by
 obtain ⟨A0, c0, l0, A1, c1, l1, A2, c2, h0, h1, rfl⟩ := h
 rfl
theorem aL.of_ty {t : PT} (h : cf aL.ty t) : ∃ x : aL, eS t x := by
 simp only [aL.ty, cf, cY] at h
 obtain ⟨_, rfl, h⟩ := h
 obtain ⟨u0, _, rfl, h0, h⟩ := h
 obtain ⟨A0, c0, l0, rfl, h0⟩ := h0
 obtain ⟨v0, k0⟩ := pD fun t ht => aa.of_ty (h0 t ht)
 obtain ⟨u1, _, rfl, h1, h⟩ := h
 obtain ⟨A1, c1, l1, rfl, h1⟩ := h1
 obtain ⟨v1, k1⟩ := pD fun t ht => ar.of_ty (h1 t ht)
 obtain ⟨u2, _, rfl, h2, h⟩ := h
 obtain ⟨A2, c2, l2, rfl, h2⟩ := h2
 obtain ⟨v2, rfl⟩ := fV fun t ht => h2 t ht
 obtain ⟨u3, _, rfl, h3, h⟩ := h
 obtain ⟨v3, rfl⟩ := h3
 obtain ⟨u4, _, rfl, h4, h⟩ := h
 obtain ⟨v4, rfl⟩ := h4
 obtain ⟨u5, _, rfl, h5, h⟩ := h
 obtain ⟨v5, rfl⟩ := h5
 subst h
 exact ⟨⟨v0, v1, v2, v3, v4, v5⟩, _, _, _, _, _, _, _, _, k0, k1, rfl⟩
theorem aL.sane_of {t : PT} {x : aL} (ha : eS t x) (h : t.sane) : x.sane := by
 obtain ⟨A0, c0, l0, A1, c1, l1, A2, c2, h0, h1, rfl⟩ := ha
 simp only [PT.sane, PT.saneL] at h
 exact ⟨gc h0 h.1 fun _ _ a b => aa.sane_of a b, gc h1 h.2.1 fun _ _ a b => ar.sane_of a b, fun s hs => PT.saneL_mem h.2.2.1 (List.mem_map_of_mem (f := PT.str) hs), bK h.2.2.2.1, bK h.2.2.2.2.1, bK h.2.2.2.2.2.1⟩
structure aq where
 code : Int
 outer : Int
 home : Int
 self : ab
def aq.ty : Ty := .agg [.int .i64, .int .i64, .int .i64, ab.ty]
def aq.sane (x : aq) : Prop := i64 x.code /\ i64 x.outer /\ i64 x.home /\ x.self.sane
def aq.pt (x : aq) : PT := .agg [.int .i64 x.code, .int .i64 x.outer, .int .i64 x.home, x.self.pt]
theorem aq.flat : o5 aq.pt 6 := ⟨fun _ => rfl, fun _ => rfl, fun _ _ => by simp [aq.pt, Own, gC, ab.pt], fun _ _ _ => by simp [aq.pt, de, bU, ab.pt]⟩
theorem aq.of_ty {t : PT} (h : cf aq.ty t) : ∃ x : aq, t = x.pt := by
 simp only [aq.ty, cf, cY] at h
 obtain ⟨_, rfl, h⟩ := h
 obtain ⟨u0, _, rfl, h0, h⟩ := h
 obtain ⟨v0, rfl⟩ := h0
 obtain ⟨u1, _, rfl, h1, h⟩ := h
 obtain ⟨v1, rfl⟩ := h1
 obtain ⟨u2, _, rfl, h2, h⟩ := h
 obtain ⟨v2, rfl⟩ := h2
 obtain ⟨u3, _, rfl, h3, h⟩ := h
 obtain ⟨v3, rfl⟩ := ab.of_ty h3
 subst h
 exact ⟨⟨v0, v1, v2, v3⟩, rfl⟩
theorem aq.sane_of {x : aq} (h : x.pt.sane) : x.sane := by
 simp only [aq.pt, PT.sane, PT.saneL] at h
 exact ⟨bK h.1, bK h.2.1, bK h.2.2.1, ab.sane_of h.2.2.2.1⟩
structure ao where
 mark : Int
 code : Int
 pc : Int
 sender : Int
 outer : Int
 home : Int
 self : ab
 slots : List ab
 stack : List ab
 values : List ab
 other : Int
 retry : Bool
def ao.ty : Ty := .agg [.int .i64, .int .i64, .int .i64, .int .i64, .int .i64, .int .i64, ab.ty, .sl 3 ab.ty, .sl 3 ab.ty, .sl 3 ab.ty, .int .i64, .bool]
def ao.sane (x : ao) : Prop := i64 x.mark /\ i64 x.code /\ i64 x.pc /\ i64 x.sender /\ i64 x.outer /\ i64 x.home /\ x.self.sane /\ (∀ y ∈ x.slots, y.sane) /\ (∀ y ∈ x.stack, y.sane) /\ (∀ y ∈ x.values, y.sane) /\ i64 x.other
def dI (t : PT) (x : ao) : Prop := ∃ (A7 : Option Addr) (c7 : Nat) (A8 : Option Addr) (c8 : Nat) (A9 : Option Addr) (c9 : Nat), t = .agg [.int .i64 x.mark, .int .i64 x.code, .int .i64 x.pc, .int .i64 x.sender, .int .i64 x.outer, .int .i64 x.home, x.self.pt, .sl A7 c7 3 ((x.slots).map ab.pt), .sl A8 c8 3 ((x.stack).map ab.pt), .sl A9 c9 3 ((x.values).map ab.pt), .int .i64 x.other, .bool x.retry]
theorem dI.cells {t : PT} {x : ao} (h : dI t x) : t.cells.length = 14 := by
 obtain ⟨A7, c7, A8, c8, A9, c9, rfl⟩ := h
 rfl
theorem ao.of_ty {t : PT} (h : cf ao.ty t) : ∃ x : ao, dI t x := by
 simp only [ao.ty, cf, cY] at h
 obtain ⟨_, rfl, h⟩ := h
 obtain ⟨u0, _, rfl, h0, h⟩ := h
 obtain ⟨v0, rfl⟩ := h0
 obtain ⟨u1, _, rfl, h1, h⟩ := h
 obtain ⟨v1, rfl⟩ := h1
 obtain ⟨u2, _, rfl, h2, h⟩ := h
 obtain ⟨v2, rfl⟩ := h2
 obtain ⟨u3, _, rfl, h3, h⟩ := h
 obtain ⟨v3, rfl⟩ := h3
 obtain ⟨u4, _, rfl, h4, h⟩ := h
 obtain ⟨v4, rfl⟩ := h4
 obtain ⟨u5, _, rfl, h5, h⟩ := h
 obtain ⟨v5, rfl⟩ := h5
 obtain ⟨u6, _, rfl, h6, h⟩ := h
 obtain ⟨v6, rfl⟩ := ab.of_ty h6
 obtain ⟨u7, _, rfl, h7, h⟩ := h
 obtain ⟨A7, c7, l7, rfl, h7⟩ := h7
 obtain ⟨v7, rfl⟩ := fV fun t ht => ab.of_ty (h7 t ht)
 obtain ⟨u8, _, rfl, h8, h⟩ := h
 obtain ⟨A8, c8, l8, rfl, h8⟩ := h8
 obtain ⟨v8, rfl⟩ := fV fun t ht => ab.of_ty (h8 t ht)
 obtain ⟨u9, _, rfl, h9, h⟩ := h
 obtain ⟨A9, c9, l9, rfl, h9⟩ := h9
 obtain ⟨v9, rfl⟩ := fV fun t ht => ab.of_ty (h9 t ht)
 obtain ⟨u10, _, rfl, h10, h⟩ := h
 obtain ⟨v10, rfl⟩ := h10
 obtain ⟨u11, _, rfl, h11, h⟩ := h
 obtain ⟨v11, rfl⟩ := h11
 subst h
 exact ⟨⟨v0, v1, v2, v3, v4, v5, v6, v7, v8, v9, v10, v11⟩, _, _, _, _, _, _, rfl⟩
theorem ao.sane_of {t : PT} {x : ao} (ha : dI t x) (h : t.sane) : x.sane := by
 obtain ⟨A7, c7, A8, c8, A9, c9, rfl⟩ := ha
 simp only [PT.sane, PT.saneL] at h
 exact ⟨bK h.1, bK h.2.1, bK h.2.2.1, bK h.2.2.2.1, bK h.2.2.2.2.1, bK h.2.2.2.2.2.1, ab.sane_of h.2.2.2.2.2.2.1, fun y hy => ab.sane_of (PT.saneL_mem h.2.2.2.2.2.2.2.1 (List.mem_map_of_mem (f := ab.pt) hy)), fun y hy => ab.sane_of (PT.saneL_mem h.2.2.2.2.2.2.2.2.1 (List.mem_map_of_mem (f := ab.pt) hy)), fun y hy => ab.sane_of (PT.saneL_mem h.2.2.2.2.2.2.2.2.2.1 (List.mem_map_of_mem (f := ab.pt) hy)), bK h.2.2.2.2.2.2.2.2.2.2.1⟩
structure av where
 at_ : Int
 main : Bool
def av.ty : Ty := .agg [.int .i64, .bool]
def av.sane (x : av) : Prop := i64 x.at_
def av.pt (x : av) : PT := .agg [.int .i64 x.at_, .bool x.main]
theorem av.flat : o5 av.pt 2 := ⟨fun _ => rfl, fun _ => rfl, fun _ _ => by simp [av.pt, Own, gC], fun _ _ _ => by simp [av.pt, de, bU]⟩
theorem av.of_ty {t : PT} (h : cf av.ty t) : ∃ x : av, t = x.pt := by
 simp only [av.ty, cf, cY] at h
 obtain ⟨_, rfl, h⟩ := h
 obtain ⟨u0, _, rfl, h0, h⟩ := h
 obtain ⟨v0, rfl⟩ := h0
 obtain ⟨u1, _, rfl, h1, h⟩ := h
 obtain ⟨v1, rfl⟩ := h1
 subst h
 exact ⟨⟨v0, v1⟩, rfl⟩
theorem av.sane_of {x : av} (h : x.pt.sane) : x.sane := by
 simp only [av.pt, PT.sane, PT.saneL] at h
 exact bK h.1
structure ag where
 base : aC
 store : aL
 blocks : List aq
 contexts : List ao
 processes : List av
 ready : List Int
 now : Int
 status : Int
 value : ab
 fault : ByteArray
def ag.ty : Ty := .agg [aC.ty, aL.ty, .sl 6 aq.ty, .sl 14 ao.ty, .sl 2 av.ty, .sl 1 (.int .i64), .int .i64, .int .i64, ab.ty, .str]
def ag.sane (x : ag) : Prop := x.base.sane /\ x.store.sane /\ (∀ y ∈ x.blocks, y.sane) /\ (∀ y ∈ x.contexts, y.sane) /\ (∀ y ∈ x.processes, y.sane) /\ (∀ n ∈ x.ready, i64 n) /\ i64 x.now /\ i64 x.status /\ x.value.sane /\ x.fault.size <= maxLen
def eU (t : PT) (x : ag) : Prop := ∃ (t0 : PT) (t1 : PT) (A2 : Option Addr) (c2 : Nat) (A3 : Option Addr) (c3 : Nat) (l3 : List PT) (A4 : Option Addr) (c4 : Nat) (A5 : Option Addr) (c5 : Nat), cM t0 x.base /\ eS t1 x.store /\ AtL dI l3 (x.contexts) /\ t = .agg [t0, t1, .sl A2 c2 6 ((x.blocks).map aq.pt), .sl A3 c3 14 l3, .sl A4 c4 2 ((x.processes).map av.pt), .sl A5 c5 1 ((x.ready).map (PT.int .i64)), .int .i64 x.now, .int .i64 x.status, x.value.pt, .str x.fault]
theorem eU.cells {t : PT} {x : ag} (h : eU t x) : t.cells.length = 20 := by
 obtain ⟨t0, t1, A2, c2, A3, c3, l3, A4, c4, A5, c5, h0, h1, h2, rfl⟩ := h
 have e0 := cM.cells h0
 have e1 := eS.cells h1
 simp [PT.cells, PT.cellsL, List.length_append, List.length_cons, List.length_nil, ab.pt, e0, e1]
theorem ag.of_ty {t : PT} (h : cf ag.ty t) : ∃ x : ag, eU t x := by
 simp only [ag.ty, cf, cY] at h
 obtain ⟨_, rfl, h⟩ := h
 obtain ⟨u0, _, rfl, h0, h⟩ := h
 obtain ⟨v0, k0⟩ := aC.of_ty h0
 obtain ⟨u1, _, rfl, h1, h⟩ := h
 obtain ⟨v1, k1⟩ := aL.of_ty h1
 obtain ⟨u2, _, rfl, h2, h⟩ := h
 obtain ⟨A2, c2, l2, rfl, h2⟩ := h2
 obtain ⟨v2, rfl⟩ := fV fun t ht => aq.of_ty (h2 t ht)
 obtain ⟨u3, _, rfl, h3, h⟩ := h
 obtain ⟨A3, c3, l3, rfl, h3⟩ := h3
 obtain ⟨v3, k3⟩ := pD fun t ht => ao.of_ty (h3 t ht)
 obtain ⟨u4, _, rfl, h4, h⟩ := h
 obtain ⟨A4, c4, l4, rfl, h4⟩ := h4
 obtain ⟨v4, rfl⟩ := fV fun t ht => av.of_ty (h4 t ht)
 obtain ⟨u5, _, rfl, h5, h⟩ := h
 obtain ⟨A5, c5, l5, rfl, h5⟩ := h5
 obtain ⟨v5, rfl⟩ := fV fun t ht => h5 t ht
 obtain ⟨u6, _, rfl, h6, h⟩ := h
 obtain ⟨v6, rfl⟩ := h6
 obtain ⟨u7, _, rfl, h7, h⟩ := h
 obtain ⟨v7, rfl⟩ := h7
 obtain ⟨u8, _, rfl, h8, h⟩ := h
 obtain ⟨v8, rfl⟩ := ab.of_ty h8
 obtain ⟨u9, _, rfl, h9, h⟩ := h
 obtain ⟨v9, rfl⟩ := h9
 subst h
 exact ⟨⟨v0, v1, v2, v3, v4, v5, v6, v7, v8, v9⟩, _, _, _, _, _, _, _, _, _, _, _, k0, k1, k3, rfl⟩
theorem ag.sane_of {t : PT} {x : ag} (ha : eU t x) (h : t.sane) : x.sane := by
 obtain ⟨t0, t1, A2, c2, A3, c3, l3, A4, c4, A5, c5, h0, h1, h2, rfl⟩ := ha
 simp only [PT.sane, PT.saneL] at h
 exact ⟨aC.sane_of h0 h.1, aL.sane_of h1 h.2.1, fun y hy => aq.sane_of (PT.saneL_mem h.2.2.1 (List.mem_map_of_mem (f := aq.pt) hy)), gc h2 h.2.2.2.1 fun _ _ a b => ao.sane_of a b, fun y hy => av.sane_of (PT.saneL_mem h.2.2.2.2.1 (List.mem_map_of_mem (f := av.pt) hy)), fun n hn => bK (PT.saneL_mem h.2.2.2.2.2.1 (List.mem_map_of_mem (f := PT.int .i64) hn)), bK h.2.2.2.2.2.2.1, bK h.2.2.2.2.2.2.2.1, ab.sane_of h.2.2.2.2.2.2.2.2.1, h.2.2.2.2.2.2.2.2.2.1⟩
structure ed where
 code : Int
 at_ : Int
 kind : Int
def ed.ty : Ty := .agg [.int .i64, .int .i64, .int .i64]
def ed.sane (x : ed) : Prop := i64 x.code /\ i64 x.at_ /\ i64 x.kind
def ed.pt (x : ed) : PT := .agg [.int .i64 x.code, .int .i64 x.at_, .int .i64 x.kind]
theorem ed.flat : o5 ed.pt 3 := ⟨fun _ => rfl, fun _ => rfl, fun _ _ => by simp [ed.pt, Own, gC], fun _ _ _ => by simp [ed.pt, de, bU]⟩
theorem ed.of_ty {t : PT} (h : cf ed.ty t) : ∃ x : ed, t = x.pt := by
 simp only [ed.ty, cf, cY] at h
 obtain ⟨_, rfl, h⟩ := h
 obtain ⟨u0, _, rfl, h0, h⟩ := h
 obtain ⟨v0, rfl⟩ := h0
 obtain ⟨u1, _, rfl, h1, h⟩ := h
 obtain ⟨v1, rfl⟩ := h1
 obtain ⟨u2, _, rfl, h2, h⟩ := h
 obtain ⟨v2, rfl⟩ := h2
 subst h
 exact ⟨⟨v0, v1, v2⟩, rfl⟩
theorem ed.sane_of {x : ed} (h : x.pt.sane) : x.sane := by
 simp only [ed.pt, PT.sane, PT.saneL] at h
 exact ⟨bK h.1, bK h.2.1, bK h.2.2.1⟩
def ai.eff (i : ai) : Int × Int :=
 if i.op = 9 \/ i.op = 11 \/ i.op = 18 then (1, 1)
 else if i.op = 13 then (bG i.text.data.toList + 1, 1)
 else if i.op = 14 then (bG i.text.data.toList, 1)
 else if i.op = 16 \/ i.op = 19 \/ i.op = 21 \/ i.op = 22 then (1, 0)
 else if i.op = 17 then (1, 2)
 else if i.op = 24 \/ i.op = 25 then (2, 2)
 else if i.op = 26 then (2, 1)
 else if i.op = 20 \/ i.op = 23 then (0, 0)
 else (0, 1)
def ai.labs (i : ai) : List Int :=
 if i.op = 20 then [i.a] else if i.op = 21 \/ i.op = 22 then [i.a, i.b] else if i.op = 24 \/ i.op = 25 \/ i.op = 26 then [i.b] else []
def ai.nexts (i : ai) (at_ d : Int) : List (Int × Int) :=
 if i.op = 19 then []
 else if i.op = 20 then [(i.a, d - i.eff.1 + i.eff.2)]
 else if i.op = 21 \/ i.op = 22 then [(at_ + 1, d - i.eff.1 + i.eff.2), (i.a, d - i.eff.1 + i.eff.2), (i.b, d - i.eff.1 + i.eff.2 + 1)]
 else if i.op = 24 \/ i.op = 25 then [(at_ + 1, d - i.eff.1 + i.eff.2), (i.b, d - 1)]
 else if i.op = 26 then [(at_ + 1, d - i.eff.1 + i.eff.2), (i.b, d)]
 else [(at_ + 1, d - i.eff.1 + i.eff.2)]
theorem lN (k : Int) : k = 9 \/ k = 11 \/ k = 13 \/ k = 14 \/ k = 16 \/ k = 17 \/ k = 18 \/ k = 19 \/ k = 20 \/ k = 21 \/ k = 22 \/ k = 23 \/ k = 24 \/ k = 25 \/ k = 26 \/ (¬ k = 9 /\ ¬ k = 11 /\ ¬ k = 13 /\ ¬ k = 14 /\ ¬ k = 16 /\ ¬ k = 17 /\ ¬ k = 18 /\ ¬ k = 19 /\ ¬ k = 20 /\ ¬ k = 21 /\ ¬ k = 22 /\ ¬ k = 23 /\ ¬ k = 24 /\ ¬ k = 25 /\ ¬ k = 26) := by omega
theorem xJ (l : List UInt8) : bY l = decide (0 <= bG l) := by
 unfold bY bG
 cases jD l
 ·cases bT l
  ·cases kwL l <;> simp
  ·simp
 ·simp
theorem oW (l : List UInt8) : -1 <= bG l := by
 unfold bG
 split
 ·omega
 ·split
  ·omega
  ·split <;> omega
theorem xd {l : List UInt8} {ps : List (List UInt8)} (h : kwL l = some ps) : ps.length <= 4 := by
 unfold kwL at h
 split at h
 ·split at h
  ·rename_i h2
   simp only [Bool.and_eq_true, decide_eq_true_eq] at h2
   cases h; exact h2.2
  ·cases h
 ·cases h
theorem oQ (l : List UInt8) : bG l <= 4 := by
 unfold bG
 split
 ·omega
 ·split
  ·omega
  ·split
   ·rename_i ps h
    have := xd h
    omega
   ·omega
theorem gw (i : ai) : -1 <= i.eff.1 /\ i.eff.1 <= 5 /\ 0 <= i.eff.2 /\ i.eff.2 <= 2 := by
 have h1 := oW i.text.data.toList
 have h2 := oQ i.text.data.toList
 unfold ai.eff
 repeat' split
 all_goals (refine ⟨?_, ?_, ?_, ?_⟩ <;> simp <;> omega)
def gd (ds : List Int) (p : Int) : Int := ds.getD p.toNat 0
def aaF (is : List ai) (p : Int) : Int := ((is[p.toNat]?).map ai.op).getD 0
def cS (n : Nat) (i : ai) : Bool := inR i.op 1 26 && (!(decide (i.op = 13) || decide (i.op = 14)) || decide (0 <= bG i.text.data.toList)) && i.labs.all fun l => inR l 0 ((n : Int) - 1)
def ip (is : List ai) : Bool := is.all (cS is.length)
abbrev Dst := List Int × List Nat
def qP (n : Nat) (ds : List Int) (p d : Int) : Bool := !inR p 0 ((n : Int) - 1) || decide (250 < d) || (decide (0 <= gd ds p) && !decide (gd ds p = d))
def fp (n : Nat) : List (Int × Int) -> Dst -> Option Dst
 | [], s => some s
 | (p, d) :: r, (ds, q) => if qP n ds p d then none else if gd ds p < 0 then fp n r (ds.set p.toNat d, q ++ [p.toNat]) else fp n r (ds, q)
def fo (is : List ai) (at_ : Int) (op l : Int) : Bool := !decide (op = 26) && decide (l <= at_) && !decide (aaF is l = 23)
def jF (is : List ai) (i : ai) (at_ : Nat) (ds : List Int) : Option Dst :=
 if gd ds at_ < i.eff.1 then none
 else if i.labs.any (fo is at_ i.op) then none
 else fp is.length (i.nexts at_ (gd ds at_)) (ds, [])
def uG (is : List ai) (at_ : Int) (op p : Int) : Bool := decide ((is.length : Int) <= p) || fo is at_ op p
def gT (is : List ai) (at_ op : Int) : List (Int × Int) -> Dst -> Option Dst
 | [], s => some s
 | (p, d) :: r, (ds, q) => if uG is at_ op p then none else if gd ds p = -1 then gT is at_ op r (ds.set p.toNat d, q ++ [p.toNat]) else if gd ds p = d then gT is at_ op r (ds, q) else none
def qc (is : List ai) (i : ai) (at_ : Nat) (ds : List Int) : Option Dst :=
 if gd ds at_ - i.eff.1 < 0 \/ 250 < gd ds at_ - i.eff.1 + i.eff.2 then none
 else gT is at_ i.op (i.nexts at_ (gd ds at_)) (ds, [])
def km : List (Int × Int) -> Dst -> Option Dst
 | [], s => some s
 | (p, d) :: r, (ds, q) => if gd ds p < 0 then km r (ds.set p.toNat d, q ++ [p.toNat]) else if gd ds p = d then km r (ds, q) else none
def okP (n : Nat) (x : Int × Int) : Bool := inR x.1 0 ((n : Int) - 1) && decide (x.2 <= 250)
theorem sC (n : Nat) : ∀ (l : List (Int × Int)) (s : Dst), fp n l s = if l.all (okP n) then km l s else none
 | [], s => by simp [fp, km]
 | (p, d) :: r, (ds, q) => by
   have ih := sC n r
   by_cases hr : inR p 0 ((n : Int) - 1) = true
   ·by_cases hd : d <= 250
    ·have hd' : ¬ 250 < d := by omega
     by_cases hg : gd ds p < 0
     ·have hg' : ¬ 0 <= gd ds p := by omega
      simp only [fp, qP, km, okP, List.all_cons, hr, hd, hd', hg, hg', ih, decide_true, decide_false, Bool.not_true, Bool.or_false, Bool.false_and, Bool.true_and, if_true, Bool.false_eq_true, if_false]
     ·have hg' : 0 <= gd ds p := by omega
      by_cases he : gd ds p = d
      ·have h1 : ¬ d < 0 := he ▸ hg
       have h2 : 0 <= d := he ▸ hg'
       simp only [fp, qP, km, okP, List.all_cons, hr, hd, hd', he, h1, h2, ih, decide_true, decide_false, Bool.not_true, Bool.or_false, Bool.true_and, if_true, Bool.false_eq_true, if_false]
      ·simp [fp, qP, km, okP, hr, hd, hd', hg, hg', he]
       exact (ite_self _).symm
    ·have hd' : 250 < d := by omega
     simp [fp, qP, okP, hr, hd, hd']
   ·simp [fp, qP, okP, hr]
def yM (ds : List Int) : Prop := ∀ x ∈ ds, -1 <= x /\ x <= 250
theorem yM.gd {ds : List Int} (h : yM ds) (p : Int) : -1 <= gd ds p /\ gd ds p <= 250 := by
 unfold Proofs.YtiihihgjiklnoaaGreatDoor.gd
 rw [List.getD_eq_getElem?_getD]
 cases hp : ds[p.toNat]? with
 | none => simp
 | some x => exact h x (List.mem_of_getElem? hp)
theorem yM.set {ds : List Int} (h : yM ds) {d : Int} (h0 : -1 <= d) (h1 : d <= 250) (p : Nat) : yM (ds.set p d) := fun x hx => by
 rcases List.mem_or_eq_of_mem_set hx with hx | rfl
 ·exact h x hx
 ·exact ⟨h0, h1⟩
theorem te (is : List ai) (at_ op : Int) : ∀ (l : List (Int × Int)) (s : Dst), yM s.1 -> (∀ x ∈ l, 0 <= x.2 /\ x.2 <= 250) -> gT is at_ op l s = if l.all (fun x => !uG is at_ op x.1) then km l s else none
 | [], s, _, _ => by simp [gT, km]
 | (p, d) :: r, (ds, q), hI, hl => by
   have ih := te is at_ op r
   have hd := hl (p, d) (by simp)
   have hl' : ∀ x ∈ r, 0 <= x.2 /\ x.2 <= 250 := fun x hx => hl x (by simp [hx])
   have hg := hI.gd p
   by_cases hb : uG is at_ op p = true
   ·simp [gT, hb]
   ·by_cases h1 : gd ds p = -1
    ·have h2 : gd ds p < 0 := by omega
     have := ih (ds.set p.toNat d, q ++ [p.toNat]) (hI.set (by omega) hd.2 _) hl'
     simp only [gT, km, List.all_cons, hb, h1, if_true, Bool.false_eq_true, if_false, Bool.not_false, Bool.true_and, this, show ((-1 : Int) < 0) from by omega]
    ·have h2 : ¬ gd ds p < 0 := by simp only at hg; omega
     by_cases he : gd ds p = d
     ·have h3 : ¬ d < 0 := he ▸ h2
      have h4 : ¬ d = -1 := he ▸ h1
      have := ih (ds, q) hI hl'
      simp only [gT, km, List.all_cons, hb, he, h3, h4, if_true, Bool.false_eq_true, if_false, Bool.not_false, Bool.true_and, this]
     ·simp [gT, km, hb, h1, h2, he]
      exact (ite_self _).symm
theorem xV (i : ai) (at_ : Nat) (g : Int) (h0 : 0 <= g) (h1 : g <= 250) (h : 250 < g - i.eff.1 + i.eff.2) (_hl : ∀ _l : Int, True) : ∃ x ∈ i.nexts at_ g, 250 < x.2 := by
 rcases lN i.op with h' | h' | h' | h' | h' | h' | h' | h' | h' | h' | h' | h' | h' | h' | h' | h'
 all_goals first
   | (refine ⟨((at_ : Int) + 1, g - i.eff.1 + i.eff.2), ?_, h⟩; simp [ai.nexts, h']; done)
   | (refine ⟨(i.a, g - i.eff.1 + i.eff.2), ?_, h⟩; simp [ai.nexts, h']; done)
   | (exfalso; simp [ai.eff, h'] at h; omega)
theorem sb (i : ai) (at_ : Nat) (g : Int) (h0 : 0 <= g) (h1 : g <= 250) (ht : ¬ g < i.eff.1) (h : ¬ 250 < g - i.eff.1 + i.eff.2) (_hsel : i.op = 14 -> 0 <= i.eff.1) : ∀ x ∈ i.nexts at_ g, 0 <= x.2 /\ x.2 <= 250 := by
 have he := gw i
 intro x hx
 rcases lN i.op with h' | h' | h' | h' | h' | h' | h' | h' | h' | h' | h' | h' | h' | h' | h' | h'
 all_goals first
     | (simp [ai.nexts, h'] at hx; done)
     | skip
 all_goals
   simp [ai.nexts, h'] at hx
   try simp [ai.eff, h'] at ht h he _hsel hx
   first
     | (subst hx; simp; omega)
     | (rcases hx with rfl | rfl <;> simp <;> omega)
     | (rcases hx with rfl | rfl | rfl <;> simp <;> omega)
theorem zG (n : Nat) (l : Int) : inR l 0 ((n : Int) - 1) = (decide (0 <= l) && !decide ((n : Int) <= l)) := by
 simp only [inR]; rw [Bool.eq_iff_iff]; simp; omega
theorem xe (is : List ai) (i : ai) (at_ : Nat) (g : Int) (_h0 : 0 <= g) (h1 : g <= 250) (_ht : ¬ g < i.eff.1) (h : ¬ 250 < g - i.eff.1 + i.eff.2) (hlab : (i.labs.all fun l => inR l 0 ((is.length : Int) - 1)) = true) :
   (!i.labs.any (fo is at_ i.op) && (i.nexts at_ g).all (okP is.length)) = (i.nexts at_ g).all (fun x => !uG is at_ i.op x.1) := by
 have hb1 : ∀ op, fo is at_ op ((at_ : Int) + 1) = false := fun op => by
   simp only [fo]
   rw [show decide ((at_ : Int) + 1 <= at_) = false from decide_eq_false (by omega)]; simp
 have hin1 : inR ((at_ : Int) + 1) 0 ((is.length : Int) - 1) = !decide ((is.length : Int) <= (at_ : Int) + 1) := by
   rw [zG, show decide (0 <= (at_ : Int) + 1) = true from decide_eq_true (by omega)]; rfl
 have hl2 : ∀ l ∈ i.labs, inR l 0 ((is.length : Int) - 1) = true /\ decide ((is.length : Int) <= l) = false := fun l hl => by
   have := List.all_eq_true.1 hlab l hl
   refine ⟨this, ?_⟩
   simp only [inR, decide_eq_true_eq] at this
   exact decide_eq_false (by omega)
 rcases lN i.op with h' | h' | h' | h' | h' | h' | h' | h' | h' | h' | h' | h' | h' | h' | h' | h'
 all_goals
   simp only [ai.labs, ai.eff, h'] at hl2 _ht h
   simp [ai.nexts, ai.labs, ai.eff, h', okP, uG, hb1, hin1]
   try simp at hl2 _ht h
 all_goals first
   | (intros; omega)
   | grind
theorem xm (is : List ai) (i : ai) (at_ : Nat) (ds : List Int) (hI : yM ds) (hp : cS is.length i = true) (hg : 0 <= gd ds at_) : jF is i at_ ds = qc is i at_ ds := by
 have hr := hI.gd at_
 unfold jF qc
 by_cases ht : gd ds at_ < i.eff.1
 ·rw [if_pos ht, if_pos (by omega)]
 rw [if_neg ht]
 simp only [cS, Bool.and_eq_true] at hp
 obtain ⟨⟨hop, hsel⟩, hlab⟩ := hp
 have hsel' : i.op = 14 -> 0 <= i.eff.1 := fun h => by
   simp [h] at hsel
   simp [ai.eff, h]; exact hsel
 rw [sC]
 by_cases h250 : 250 < gd ds at_ - i.eff.1 + i.eff.2
 ·rw [if_pos (Or.inr h250)]
  obtain ⟨x, hx, hx2⟩ := xV i at_ _ hg hr.2 h250 fun _ => trivial
  have hno : (i.nexts at_ (gd ds at_)).all (okP is.length) = false := by
    rw [List.all_eq_false]
    exact ⟨x, hx, by simp [okP]; intro _; omega⟩
  rw [hno]; simp
 ·rw [if_neg (c := gd ds at_ - i.eff.1 < 0 \/ 250 < gd ds at_ - i.eff.1 + i.eff.2) (by omega), te _ _ _ _ _ hI (sb i at_ _ hg hr.2 ht h250 hsel')]
  have key := xe is i at_ _ hg hr.2 ht h250 hlab
  by_cases hA : i.labs.any (fo is at_ i.op) = true
  ·rw [hA] at key
   rw [if_pos hA, <- key]; rfl
  ·rw [if_neg hA]
   rw [Bool.not_eq_true] at hA
   rw [hA] at key
   rw [<- key]; rfl
structure DSt (n : Nat) (ds : List Int) (q : List Nat) (k : Nat) : Prop where
 len : ds.length = n
 inv : yM ds
 ok : ∀ p ∈ q, p < n /\ 0 <= gd ds p
 mu : q.length + ds.countP (· < 0) <= k
theorem abe {ds : List Int} {p : Int} (hp : p.toNat < ds.length) (d : Int) (x : Nat) : gd (ds.set p.toNat d) (x : Int) = if p.toNat = x then d else gd ds x := by
 unfold gd
 simp only [Int.toNat_natCast, List.getD_eq_getElem?_getD, List.getElem?_set]
 split
 ·rename_i h; subst h; simp
 ·rfl
theorem mJ {ds : List Int} {p : Nat} (hp : p < ds.length) : gd ds (p : Int) = ds[p] := by
 unfold gd; simp [hp]
theorem DSt.push {n : Nat} {ds : List Int} {q : List Nat} {k : Nat} (h : DSt n ds q k) {p d : Int} (hp : inR p 0 ((n : Int) - 1) = true) (h0 : 0 <= d) (h1 : d <= 250) (hg : gd ds p < 0) : DSt n (ds.set p.toNat d) (q ++ [p.toNat]) k := by
 simp only [inR, decide_eq_true_eq] at hp
 have hl := h.len
 have hpl : p.toNat < ds.length := by omega
 refine ⟨by simp [hl], h.inv.set (by omega) h1 _, fun x hx => ?_, ?_⟩
 ·rw [abe hpl]
  rcases List.mem_append.1 hx with hx | hx
  ·refine ⟨(h.ok x hx).1, ?_⟩
   split
   ·exact h0
   ·exact (h.ok x hx).2
  ·simp at hx; subst hx
   exact ⟨by omega, by rw [if_pos rfl]; exact h0⟩
 ·have hn : ds[p.toNat] < 0 := by
    have := mJ hpl
    have hpp : ((p.toNat : Nat) : Int) = p := by omega
    rw [hpp] at this; omega
  have hc := List.countP_set (p := fun x : Int => decide (x < 0)) (l := ds) (a := d) hpl
  have hpos : 0 < ds.countP (fun x : Int => decide (x < 0)) := List.countP_pos_iff.2 ⟨_, List.getElem_mem hpl, by simpa using hn⟩
  have hm := h.mu
  simp only [hn, decide_true, if_true, show decide (d < 0) = false from decide_eq_false (by omega), Bool.false_eq_true, if_false] at hc
  rw [List.length_append, List.length_singleton, hc]
  omega
theorem DSt.pop {n : Nat} {ds : List Int} {p : Nat} {q : List Nat} {k : Nat} (h : DSt n ds (p :: q) k) : ∃ j, k = j + 1 /\ DSt n ds q j /\ p < n /\ 0 <= gd ds p := by
 have hm := h.mu
 rw [List.length_cons] at hm
 exact ⟨k - 1, by omega, ⟨h.len, h.inv, fun x hx => h.ok x (by simp [hx]), by omega⟩, h.ok p (by simp)⟩
def og (is : List ai) (step : ai -> Nat -> List Int -> Option Dst) : Nat -> List Int -> List Nat -> Option (List Int)
 | _, ds, [] => some ds
 | 0, _, _ :: _ => none
 | f + 1, ds, p :: q => match is[p]? with
   | none => none
   | some i => match step i p ds with
     | none => none
     | some (ds', new) => og is step f ds' (q ++ new)
theorem fZ (is : List ai) (step : ai -> Nat -> List Int -> Option Dst) (f : Nat) (ds : List Int) {p : Nat} (q : List Nat) (hp : p < is.length) : og is step (f + 1) ds (p :: q) = match step is[p] p ds with
     | none => none
     | some (ds', new) => og is step f ds' (q ++ new) := by
 simp only [og, List.getElem?_eq_getElem hp]
theorem eV (i : ai) (at_ : Nat) (g : Int) (h0 : 0 <= g) (ht : ¬ g < i.eff.1) (_hsel : i.op = 14 -> 0 <= i.eff.1) : ∀ x ∈ i.nexts at_ g, 0 <= x.2 := by
 have he := gw i
 intro x hx
 rcases lN i.op with h' | h' | h' | h' | h' | h' | h' | h' | h' | h' | h' | h' | h' | h' | h' | h'
 all_goals first
     | (simp [ai.nexts, h'] at hx; done)
     | skip
 all_goals
   simp [ai.nexts, h'] at hx
   try simp [ai.eff, h'] at ht he _hsel hx
   first
     | (subst hx; simp; omega)
     | (rcases hx with rfl | rfl <;> simp <;> omega)
     | (rcases hx with rfl | rfl | rfl <;> simp <;> omega)
theorem gJ {n k : Nat} : ∀ (l : List (Int × Int)) (ds : List Int) (q0 new : List Nat) (s : Dst), (∀ x ∈ l, 0 <= x.2) -> DSt n ds (q0 ++ new) k -> fp n l (ds, new) = some s -> DSt n s.1 (q0 ++ s.2) k
 | [], ds, q0, new, s, _, h, e => by simp only [fp, Option.some.injEq] at e; subst e; exact h
 | (p, d) :: r, ds, q0, new, s, hl, h, e => by
   have h0 := hl (p, d) (by simp)
   have hr : ∀ x ∈ r, 0 <= x.2 := fun x hx => hl x (by simp [hx])
   simp only [fp] at e
   by_cases hb : qP n ds p d = true
   ·rw [if_pos hb] at e; cases e
   ·rw [if_neg hb] at e
    simp only [qP, Bool.or_eq_true, not_or, Bool.not_eq_true, Bool.not_eq_false', decide_eq_false_iff_not] at hb
    by_cases hg : gd ds p < 0
    ·rw [if_pos hg] at e
     exact gJ r _ q0 _ s hr (by rw [<- List.append_assoc]; exact h.push hb.1.1 h0 (by omega) hg) e
    ·rw [if_neg hg] at e
     exact gJ r _ q0 _ s hr h e
theorem vo (is : List ai) (hp : ip is = true) : ∀ (f : Nat) (ds : List Int) (q : List Nat), DSt is.length ds q f -> og is (jF is) f ds q = og is (qc is) f ds q
 | _, _, [], _ => by simp [og]
 | 0, _, _ :: _, _ => by simp [og]
 | f + 1, ds, p :: q, h => by
   obtain ⟨j, hj, hst, hpl, hg⟩ := h.pop
   obtain rfl : f = j := by omega
   rw [fZ _ _ _ _ _ hpl, fZ _ _ _ _ _ hpl]
   have hpi : cS is.length is[p] = true := List.all_eq_true.1 hp _ (List.getElem_mem _)
   have hse := xm is is[p] p ds h.inv hpi hg
   rw [<- hse]
   cases hs : jF is is[p] p ds with
   | none => rfl
   | some s =>
     have hsel : is[p].op = 14 -> 0 <= is[p].eff.1 := fun h14 => by
       simp only [cS, Bool.and_eq_true] at hpi
       have := hpi.1.2
       simp [h14] at this
       simp [ai.eff, h14]; exact this
     unfold jF at hs
     by_cases ht : gd ds p < is[p].eff.1
     ·rw [if_pos ht] at hs; cases hs
     ·rw [if_neg ht] at hs
      by_cases hA : (is[p].labs.any (fo is p is[p].op)) = true
      ·rw [if_pos hA] at hs; cases hs
      ·rw [if_neg hA] at hs
       have hst' := gJ _ ds q [] s (eV _ p _ hg ht hsel) (by rw [List.append_nil]; exact hst) hs
       exact vo is hp f s.1 (q ++ s.2) hst'
def bF (is : List ai) : Option (List Int) :=
 if is.length = 0 then none else if ip is then og is (jF is) is.length (0 :: List.replicate (is.length - 1) (-1)) [0] else none
theorem ku {n : Nat} (hn : 1 <= n) : DSt n (0 :: List.replicate (n - 1) (-1)) [0] n := by
 refine ⟨by simp; omega, fun x hx => ?_, fun p hp => ?_, ?_⟩
 ·rcases List.mem_cons.1 hx with rfl | hx
  ·omega
  ·rw [List.eq_of_mem_replicate hx]; omega
 ·simp at hp; subst hp; exact ⟨by omega, by simp [gd]⟩
 ·simp [List.countP_replicate]; omega
def xu (ds : List Int) : Array Value := (ds.map (Value.int .i64)).toArray
theorem xB (ds : List Int) (p : Nat) (d : Int) : (xu ds).setIfInBounds p (.int .i64 d) = xu (ds.set p d) := by
 unfold xu
 rw [List.setIfInBounds_toArray, List.map_set]
def nts (q : List Nat) : List Int := q.map Int.ofNat
theorem uH (a b : List Nat) : nts (a ++ b) = nts a ++ nts b := by simp [nts]
theorem fY.blk {w : World} {g : Nat} {e : TypeId} {xs : List Value} (h : fY w g e xs.length xs) : Blk w g e xs.toArray := by
 obtain ⟨cur, h1, h2, _, h4⟩ := h
 have : cur = xs.toArray := by
   rw [List.take_of_length_le (by simp [h2])] at h4
   rw [<- h4]
 rw [<- this]; exact h1
theorem Blk.owned_ints {w : World} {g : Nat} {ds : List Int} {S : Nat -> Prop} (h : Blk w g 3 (xu ds)) (hl : ds.length <= maxLen) (hS : S g) : bQ w S (.sl (some ⟨g, 0, none⟩) ds.length 1 (nf ds)) :=
 Proofs.YtiihihgjiklnoaaGreatDoor.owned_ints (zs := ds) (c := ds.length) ⟨_, h, by simp [xu], by simp, by rw [xu, List.length_map, List.take_of_length_le (by simp)]⟩ (Nat.le_refl _) hl hS
def yJ (x : ai) : Array Value := #[.int .i64 x.op, .int .i64 x.a, .int .i64 x.b, .string x.text]
structure jO (w wi : World) (g B B2 gb : Nat) (x : ai) (L : List (Int × Int)) (A13 : Option Addr) (c13 : Nat) (A14 : Option Addr) (c14 : Nat) (r14 : List Int) (ds : List Int) (tl : List Nat) (A : Option Addr) (c : Nat) : Prop where
 own : bQ wi (fun b => g < b /\ (b < B \/ B2 <= b)) (.sl A c 1 (nf (nts tl)))
 dep : Blk wi g 3 (xu ds)
 s13 : de wi (Rng B B2) (.sl A13 c13 1 (nf (L.map Prod.fst)))
 s14 : de wi (Rng B B2) (.sl A14 c14 1 (nf (L.map Prod.snd ++ r14)))
 box : Blk wi gb 202 (yJ x)
 old : Below w.heap.size w wi
 sz : B2 <= wi.heap.size
 hg : g < B
 hg0 : w.heap.size <= g
 hB : B <= B2
 hgb : B <= gb
 hgb2 : gb < B2
section
variable {w wi : World} {g B B2 gb : Nat} {x : ai} {L : List (Int × Int)} {A13 : Option Addr} {c13 : Nat} {A14 : Option Addr} {c14 : Nat} {r14 : List Int} {ds : List Int} {tl : List Nat} {A : Option Addr} {c : Nat}
theorem jO.set (h : jO w wi g B B2 gb x L A13 c13 A14 c14 r14 ds tl A c) (p : Nat) (d : Int) : jO w (wi.setCell ⟨g, p, none⟩ (.int .i64 d)) g B B2 gb x L A13 c13 A14 c14 r14 (ds.set p d) tl A c :=
 ⟨h.own.far (p := ⟨g, p, none⟩) (fun hh => by have := hh.1; simp at this) _, by rw [<- xB]; exact h.dep.set_ p _,
  h.s13.keep (fun b hb => Below.heap_setCell _ _ _ _ (by have := hb.1; have := h.hg; simp only; omega)) (fun _ hb _ => hb),
  h.s14.keep (fun b hb => Below.heap_setCell _ _ _ _ (by have := hb.1; have := h.hg; simp only; omega)) (fun _ hb _ => hb),
  h.box.far (p := ⟨g, p, none⟩) (by have := h.hg; have := h.hgb; simp only; omega) _, h.old.setCell h.hg0 _, by have := h.sz; simpa [World.setCell] using this, h.hg, h.hg0, h.hB, h.hgb, h.hgb2⟩
theorem jO.drewN (h : jO w wi g B B2 gb x L A13 c13 A14 c14 r14 ds tl A c) (n : Nat) : jO w (wi.drewN n) g B B2 gb x L A13 c13 A14 c14 r14 ds tl A c :=
 ⟨h.own.keep fun _ _ _ => rfl, h.dep, h.s13.keep (fun _ _ => rfl) fun _ hb _ => hb, h.s14.keep (fun _ _ => rfl) fun _ hb _ => hb, h.box, aQ h.old n, h.sz, h.hg, h.hg0, h.hB, h.hgb, h.hgb2⟩
theorem jO.push (h : jO w wi g B B2 gb x L A13 c13 A14 c14 r14 ds tl A c) {w2 : World} {A' : Option Addr} {c' p : Nat} (ho : bQ w2 (fun b => g < b /\ (b < B \/ B2 <= b)) (.sl A' c' 1 (nf (nts tl ++ [(p : Int)])))) (ht : cW (· ∈ PT.rowOf A) wi w2) : jO w w2 g B B2 gb x L A13 c13 A14 c14 r14 ds (tl ++ [p]) A' c' := by
 have hA : ∀ b, b ∈ PT.rowOf A -> g < b /\ (b < B \/ B2 <= b) := fun b hb => h.own.2.2 b (by simp [PT.blocks, hb])
 refine ⟨by rw [uH]; exact ho, h.dep.touch ht fun hb => by have := (hA g hb).1; omega, h.s13.touch ht fun b hb _ hm => ?_, h.s14.touch ht fun b hb _ hm => ?_, h.box.touch ht fun hb => ?_, h.old.trans (ht.below h.old.size fun b hb => by have := (hA b hb).1; have := h.hg0; omega), Nat.le_trans h.sz ht.size, h.hg, h.hg0, h.hB, h.hgb, h.hgb2⟩
 ·have h1 := hA b hm; have h2 := hb.1; have h3 := hb.2; omega
 ·have h1 := hA b hm; have h2 := hb.1; have h3 := hb.2; omega
 ·have h1 := hA gb hb; have h2 := h.hgb; have h3 := h.hgb2; omega
end
structure lz (w wx : World) (g : Nat) (ds : List Int) (tl : List Nat) (A : Option Addr) (c : Nat) : Prop where
 own : bQ wx (g < ·) (.sl A c 1 (nf (nts tl)))
 dep : Blk wx g 3 (xu ds)
 old : Below w.heap.size w wx
 hg0 : w.heap.size <= g
theorem lz.below {w wx w' : World} {g : Nat} {ds : List Int} {tl : List Nat} {A : Option Addr} {c : Nat} (h : lz w wx g ds tl A c) (hb : Below wx.heap.size wx w') : lz w w' g ds tl A c :=
 ⟨h.own.below hb, h.dep.below hb h.dep.lt, h.old.trans (hb.mono h.old.size), h.hg0⟩
theorem lz.start {w wr : World} {n : Nat} (h0 : n ≠ 0) (hb : Below w.heap.size w wr) (hf : Blk wr w.heap.size 3 (List.replicate n (Value.int .i64 (-1))).toArray) : lz w ((wr.alloc (.cells #[.int .i64 0] 3)).setCell ⟨w.heap.size, 0, none⟩ (.int .i64 0)) w.heap.size (0 :: List.replicate (n - 1) (-1)) [0] (some ⟨wr.heap.size, 0, none⟩) 1 := by
 have hlt := hf.lt
 have hz := hb.size
 refine ⟨?_, ?_, (hb.alloc hz _).setCell (Nat.le_refl _) _, Nat.le_refl _⟩
 ·refine bQ.far (p := ⟨w.heap.size, 0, none⟩) ?_ (by simp) _
  exact Blk.owned_ints (ds := [0]) (g := wr.heap.size) (Blk.new wr _ _) (by simp [maxLen]) hlt
 ·have := (hf.alloc (.cells #[.int .i64 0] 3)).set_ 0 (.int .i64 0)
  obtain ⟨m, rfl⟩ : ∃ m, n = m + 1 := ⟨n - 1, by omega⟩
  rw [show xu (0 :: List.replicate (m + 1 - 1) (-1)) = (List.replicate (m + 1) (Value.int .i64 (-1))).toArray.setIfInBounds 0 (.int .i64 0) by
    unfold xu; rw [List.setIfInBounds_toArray]; simp [List.replicate_succ]]
  exact this
theorem jO.start {w wr wc : World} {g : Nat} {x : ai} {L : List (Int × Int)} {A13 : Option Addr} {c13 : Nat} {A14 : Option Addr} {c14 : Nat} {r14 : List Int} {ds : List Int} {tl : List Nat} {A : Option Addr} {c : Nat} (h : lz w wr g ds tl A c) (hcB : Below wr.heap.size wr wc) (hcx : Blk wc wr.heap.size 202 (yJ x))
   (s13 : de wc (wr.heap.size <= ·) (.sl A13 c13 1 (nf (L.map Prod.fst)))) (s14 : de wc (wr.heap.size <= ·) (.sl A14 c14 1 (nf (L.map Prod.snd ++ r14)))) : jO w wc g wr.heap.size wc.heap.size wr.heap.size x L A13 c13 A14 c14 r14 ds tl A c :=
 ⟨(h.own.mono fun _b hb hlt => ⟨hb, Or.inl hlt⟩).below hcB, h.dep.below hcB h.dep.lt, s13.mono fun _b hb hlt => ⟨hb, hlt⟩, s14.mono fun _b hb hlt => ⟨hb, hlt⟩, hcx, h.old.trans (hcB.mono h.old.size), Nat.le_refl _, h.dep.lt, h.hg0, hcB.size, Nat.le_refl _, hcx.lt⟩
theorem jO.out {w wi : World} {g B B2 gb : Nat} {x : ai} {L : List (Int × Int)} {A13 : Option Addr} {c13 : Nat} {A14 : Option Addr} {c14 : Nat} {r14 : List Int} {ds : List Int} {tl : List Nat} {A : Option Addr} {c : Nat} (h : jO w wi g B B2 gb x L A13 c13 A14 c14 r14 ds tl A c) : lz w wi g ds tl A c :=
 ⟨h.own.mono fun _b hb _ => hb.1, h.dep, h.old, h.hg0⟩
theorem yB {is : List ai} {i : ai} {at_ : Nat} {ds ds' : List Int} {new q : List Nat} {k : Nat} (hpi : cS is.length i = true) (hD : DSt is.length ds q k) (hg : 0 <= gd ds at_) (h : qc is i at_ ds = some (ds', new)) : DSt is.length ds' (q ++ new) k := by
 rw [<- xm is i at_ ds hD.inv hpi hg] at h
 have hsel : i.op = 14 -> 0 <= i.eff.1 := fun h14 => by
   simp only [cS, Bool.and_eq_true] at hpi
   have := hpi.1.2
   simp [h14] at this
   simp [ai.eff, h14]; exact this
 unfold jF at h
 by_cases ht : gd ds at_ < i.eff.1
 ·rw [if_pos ht] at h; cases h
 ·rw [if_neg ht] at h
  by_cases hA : (i.labs.any (fo is at_ i.op)) = true
  ·rw [if_pos hA] at h; cases h
  ·rw [if_neg hA] at h
   exact gJ _ ds q [] _ (eV _ at_ _ hg ht hsel) (by rw [List.append_nil]; exact hD) h
theorem uh (is : List ai) (at_ op p d : Int) (r : List (Int × Int)) (ds : List Int) (q : List Nat) : gT is at_ op ((p, d) :: r) (ds, q) = if uG is at_ op p then none else if gd ds p = -1 then gT is at_ op r (ds.set p.toNat d, q ++ [p.toNat]) else if gd ds p = d then gT is at_ op r (ds, q) else none := rfl
def cz (is : List ai) : Option (List Int) := if is.length = 0 then none else og is (qc is) is.length (0 :: List.replicate (is.length - 1) (-1)) [0]
theorem mO (is : List ai) (hp : ip is = true) : bF is = cz is := by
 unfold bF cz
 rw [if_pos hp]
 split
 ·rfl
 ·rename_i h
  exact vo is hp _ _ _ (ku (by omega))
theorem wQ {n : Nat} (i : ai) (at_ : Nat) (d : Int) (h : cS n i = true) : ∀ x ∈ i.nexts at_ d, 0 <= x.1 := by
 simp only [cS, Bool.and_eq_true] at h
 have hl := h.2
 simp only [List.all_eq_true, inR, decide_eq_true_eq] at hl
 intro x hx
 rcases lN i.op with h' | h' | h' | h' | h' | h' | h' | h' | h' | h' | h' | h' | h' | h' | h' | h'
 all_goals
   simp only [ai.labs, h'] at hl
   simp [ai.nexts, h'] at hx
   try simp at hl
   try first
     | (subst hx; simp; omega)
     | (rcases hx with rfl | rfl <;> simp <;> omega)
     | (rcases hx with rfl | rfl | rfl <;> simp <;> omega)
theorem pY (i : ai) (a d : Int) : (i.nexts a d).length <= 3 := by
 unfold ai.nexts
 repeat' split
 all_goals simp
end Go.Proofs.YtiihihgjiklnoaaGreatDoor
