/- Part 5 of the proof: the texts Types. -/
import Derived.Test.YtigipcbnfeoliaaGreatDoorRf1
set_option linter.all false
namespace Go.Proofs.YtigipcbnfeoliaaGreatDoor
open Go Go.RowKit
def bl {α : Type} (f : α -> Nat) (l : List α) : Nat := l.length + (l.map f).sum
theorem ip {α : Type} {R : PT -> α -> Prop} {P : α -> Prop} {l : List PT} {xs : List α} (h : AtL R l xs) (hs : PT.saneL l) (hp : ∀ t x, R t x -> t.sane -> P x) : ∀ x ∈ xs, P x := fun x hx => by
 obtain ⟨i, hi, rfl⟩ := List.getElem_of_mem hx
 have hi' : i < l.length := by rw [h.1]; exact hi
 exact hp _ _ (h.get hi') (PT.saneL_mem hs (List.getElem_mem hi'))
structure ab where
 kind : Int
 number : Int
 text : ByteArray
def ab.ty : Ty := .agg [.int .i64, .int .i64, .str]
def ab.sane (x : ab) : Prop := i64 x.kind /\ i64 x.number /\ x.text.size <= maxLen
def ab.pt (x : ab) : PT := .agg [.int .i64 x.kind, .int .i64 x.number, .str x.text]
theorem ab.flat : aev ab.pt 3 := ⟨fun _ => rfl, fun _ => rfl, fun _ _ => by simp [ab.pt, Own, kW], fun _ _ _ => by simp [ab.pt, gG, dY]⟩
theorem ab.of_ty {t : PT} (h : cU ab.ty t) : ∃ x : ab, t = x.pt := by
 simp only [ab.ty, cU, d8] at h
 obtain ⟨_, rfl, h⟩ := h
 obtain ⟨u0, _, rfl, h0, h⟩ := h
 obtain ⟨v0, rfl⟩ := h0
 obtain ⟨u1, _, rfl, h1, h⟩ := h
 obtain ⟨v1, rfl⟩ := h1
 obtain ⟨u2, _, rfl, h2, h⟩ := h
 obtain ⟨v2, rfl⟩ := h2
 subst h
 exact ⟨⟨v0, v1, v2⟩, rfl⟩
theorem ab.sane_of {x : ab} (h : x.pt.sane) : x.sane := by
 simp only [ab.pt, PT.sane, PT.saneL] at h
 exact ⟨cu h.1, cu h.2.1, h.2.2.1⟩
structure ai where
 op : Int
 a : Int
 b : Int
 text : ByteArray
def ai.ty : Ty := .agg [.int .i64, .int .i64, .int .i64, .str]
def ai.sane (x : ai) : Prop := i64 x.op /\ i64 x.a /\ i64 x.b /\ x.text.size <= maxLen
def ai.pt (x : ai) : PT := .agg [.int .i64 x.op, .int .i64 x.a, .int .i64 x.b, .str x.text]
theorem ai.flat : aev ai.pt 4 := ⟨fun _ => rfl, fun _ => rfl, fun _ _ => by simp [ai.pt, Own, kW], fun _ _ _ => by simp [ai.pt, gG, dY]⟩
theorem ai.of_ty {t : PT} (h : cU ai.ty t) : ∃ x : ai, t = x.pt := by
 simp only [ai.ty, cU, d8] at h
 obtain ⟨_, rfl, h⟩ := h
 obtain ⟨u0, _, rfl, h0, h⟩ := h
 obtain ⟨v0, rfl⟩ := h0
 obtain ⟨u1, _, rfl, h1, h⟩ := h
 obtain ⟨v1, rfl⟩ := h1
 obtain ⟨u2, _, rfl, h2, h⟩ := h
 obtain ⟨v2, rfl⟩ := h2
 obtain ⟨u3, _, rfl, h3, h⟩ := h
 obtain ⟨v3, rfl⟩ := h3
 subst h
 exact ⟨⟨v0, v1, v2, v3⟩, rfl⟩
theorem ai.sane_of {x : ai} (h : x.pt.sane) : x.sane := by
 simp only [ai.pt, PT.sane, PT.saneL] at h
 exact ⟨cu h.1, cu h.2.1, cu h.2.2.1, h.2.2.2.1⟩
structure aC where
 block : Bool
 params : Int
 slots : Int
 instrs : List ai
def aC.ty : Ty := .agg [.bool, .int .i64, .int .i64, .sl 4 ai.ty]
def aC.sane (x : aC) : Prop := i64 x.params /\ i64 x.slots /\ (∀ y ∈ x.instrs, y.sane)
def jx (t : PT) (x : aC) : Prop := ∃ (A3 : Option Addr) (c3 : Nat), t = .agg [.bool x.block, .int .i64 x.params, .int .i64 x.slots, .sl A3 c3 4 ((x.instrs).map ai.pt)]
theorem jx.cells {t : PT} {x : aC} (h : jx t x) : t.cells.length = 4 := by
 obtain ⟨A3, c3, rfl⟩ := h
 rfl
theorem aC.of_ty {t : PT} (h : cU aC.ty t) : ∃ x : aC, jx t x := by
 simp only [aC.ty, cU, d8] at h
 obtain ⟨_, rfl, h⟩ := h
 obtain ⟨u0, _, rfl, h0, h⟩ := h
 obtain ⟨v0, rfl⟩ := h0
 obtain ⟨u1, _, rfl, h1, h⟩ := h
 obtain ⟨v1, rfl⟩ := h1
 obtain ⟨u2, _, rfl, h2, h⟩ := h
 obtain ⟨v2, rfl⟩ := h2
 obtain ⟨u3, _, rfl, h3, h⟩ := h
 obtain ⟨A3, c3, l3, rfl, h3⟩ := h3
 obtain ⟨v3, rfl⟩ := ij fun t ht => ai.of_ty (h3 t ht)
 subst h
 exact ⟨⟨v0, v1, v2, v3⟩, _, _, rfl⟩
theorem aC.sane_of {t : PT} {x : aC} (ha : jx t x) (h : t.sane) : x.sane := by
 obtain ⟨A3, c3, rfl⟩ := ha
 simp only [PT.sane, PT.saneL] at h
 exact ⟨cu h.2.1, cu h.2.2.1, fun y hy => ai.sane_of (PT.saneL_mem h.2.2.2.1 (List.mem_map_of_mem (f := ai.pt) hy))⟩
structure aB where
 owner : Int
 class_ : Bool
 selector : ByteArray
 code : Int
def aB.ty : Ty := .agg [.int .i64, .bool, .str, .int .i64]
def aB.sane (x : aB) : Prop := i64 x.owner /\ x.selector.size <= maxLen /\ i64 x.code
def aB.pt (x : aB) : PT := .agg [.int .i64 x.owner, .bool x.class_, .str x.selector, .int .i64 x.code]
theorem aB.flat : aev aB.pt 4 := ⟨fun _ => rfl, fun _ => rfl, fun _ _ => by simp [aB.pt, Own, kW], fun _ _ _ => by simp [aB.pt, gG, dY]⟩
theorem aB.of_ty {t : PT} (h : cU aB.ty t) : ∃ x : aB, t = x.pt := by
 simp only [aB.ty, cU, d8] at h
 obtain ⟨_, rfl, h⟩ := h
 obtain ⟨u0, _, rfl, h0, h⟩ := h
 obtain ⟨v0, rfl⟩ := h0
 obtain ⟨u1, _, rfl, h1, h⟩ := h
 obtain ⟨v1, rfl⟩ := h1
 obtain ⟨u2, _, rfl, h2, h⟩ := h
 obtain ⟨v2, rfl⟩ := h2
 obtain ⟨u3, _, rfl, h3, h⟩ := h
 obtain ⟨v3, rfl⟩ := h3
 subst h
 exact ⟨⟨v0, v1, v2, v3⟩, rfl⟩
theorem aB.sane_of {x : aB} (h : x.pt.sane) : x.sane := by
 simp only [aB.pt, PT.sane, PT.saneL] at h
 exact ⟨cu h.1, h.2.2.1, cu h.2.2.2.1⟩
structure aa where
 name : ByteArray
 parent : Int
 fields : List ByteArray
def aa.ty : Ty := .agg [.str, .int .i64, .sl 1 (.str)]
def aa.sane (x : aa) : Prop := x.name.size <= maxLen /\ i64 x.parent /\ (∀ s ∈ x.fields, s.size <= maxLen)
def cX (t : PT) (x : aa) : Prop := ∃ (A2 : Option Addr) (c2 : Nat), t = .agg [.str x.name, .int .i64 x.parent, .sl A2 c2 1 ((x.fields).map PT.str)]
theorem cX.cells {t : PT} {x : aa} (h : cX t x) : t.cells.length = 3 := by
 obtain ⟨A2, c2, rfl⟩ := h
 rfl
theorem aa.of_ty {t : PT} (h : cU aa.ty t) : ∃ x : aa, cX t x := by
 simp only [aa.ty, cU, d8] at h
 obtain ⟨_, rfl, h⟩ := h
 obtain ⟨u0, _, rfl, h0, h⟩ := h
 obtain ⟨v0, rfl⟩ := h0
 obtain ⟨u1, _, rfl, h1, h⟩ := h
 obtain ⟨v1, rfl⟩ := h1
 obtain ⟨u2, _, rfl, h2, h⟩ := h
 obtain ⟨A2, c2, l2, rfl, h2⟩ := h2
 obtain ⟨v2, rfl⟩ := ij fun t ht => h2 t ht
 subst h
 exact ⟨⟨v0, v1, v2⟩, _, _, rfl⟩
theorem aa.sane_of {t : PT} {x : aa} (ha : cX t x) (h : t.sane) : x.sane := by
 obtain ⟨A2, c2, rfl⟩ := ha
 simp only [PT.sane, PT.saneL] at h
 exact ⟨h.1, cu h.2.1, fun s hs => PT.saneL_mem h.2.2.1 (List.mem_map_of_mem (f := PT.str) hs)⟩
structure aD where
 classes : List aa
 codes : List aC
 entries : List aB
 main : Int
def aD.ty : Ty := .agg [.sl 3 aa.ty, .sl 4 aC.ty, .sl 4 aB.ty, .int .i64]
def aD.sane (x : aD) : Prop := (∀ y ∈ x.classes, y.sane) /\ (∀ y ∈ x.codes, y.sane) /\ (∀ y ∈ x.entries, y.sane) /\ i64 x.main
def dw (t : PT) (x : aD) : Prop := ∃ (A0 : Option Addr) (c0 : Nat) (l0 : List PT) (A1 : Option Addr) (c1 : Nat) (l1 : List PT) (A2 : Option Addr) (c2 : Nat), AtL cX l0 (x.classes) /\ AtL jx l1 (x.codes) /\ t = .agg [.sl A0 c0 3 l0, .sl A1 c1 4 l1, .sl A2 c2 4 ((x.entries).map aB.pt), .int .i64 x.main]
theorem dw.cells {t : PT} {x : aD} (h : dw t x) : t.cells.length = 4 := by
 obtain ⟨A0, c0, l0, A1, c1, l1, A2, c2, h0, h1, rfl⟩ := h
 rfl
theorem aD.of_ty {t : PT} (h : cU aD.ty t) : ∃ x : aD, dw t x := by
 simp only [aD.ty, cU, d8] at h
 obtain ⟨_, rfl, h⟩ := h
 obtain ⟨u0, _, rfl, h0, h⟩ := h
 obtain ⟨A0, c0, l0, rfl, h0⟩ := h0
 obtain ⟨v0, k0⟩ := sP fun t ht => aa.of_ty (h0 t ht)
 obtain ⟨u1, _, rfl, h1, h⟩ := h
 obtain ⟨A1, c1, l1, rfl, h1⟩ := h1
 obtain ⟨v1, k1⟩ := sP fun t ht => aC.of_ty (h1 t ht)
 obtain ⟨u2, _, rfl, h2, h⟩ := h
 obtain ⟨A2, c2, l2, rfl, h2⟩ := h2
 obtain ⟨v2, rfl⟩ := ij fun t ht => aB.of_ty (h2 t ht)
 obtain ⟨u3, _, rfl, h3, h⟩ := h
 obtain ⟨v3, rfl⟩ := h3
 subst h
 exact ⟨⟨v0, v1, v2, v3⟩, _, _, _, _, _, _, _, _, k0, k1, rfl⟩
theorem aD.sane_of {t : PT} {x : aD} (ha : dw t x) (h : t.sane) : x.sane := by
 obtain ⟨A0, c0, l0, A1, c1, l1, A2, c2, h0, h1, rfl⟩ := ha
 simp only [PT.sane, PT.saneL] at h
 exact ⟨ip h0 h.1 fun _ _ a b => aa.sane_of a b, ip h1 h.2.1 fun _ _ a b => aC.sane_of a b, fun y hy => aB.sane_of (PT.saneL_mem h.2.2.1 (List.mem_map_of_mem (f := aB.pt) hy)), cu h.2.2.2.1⟩
structure au where
 kind : Int
 class_ : Int
 fields : List ab
 numbers : List Int
def au.ty : Ty := .agg [.int .i64, .int .i64, .sl 3 ab.ty, .sl 1 (.int .i64)]
def au.sane (x : au) : Prop := i64 x.kind /\ i64 x.class_ /\ (∀ y ∈ x.fields, y.sane) /\ (∀ n ∈ x.numbers, i64 n)
def fy (t : PT) (x : au) : Prop := ∃ (A2 : Option Addr) (c2 : Nat) (A3 : Option Addr) (c3 : Nat), t = .agg [.int .i64 x.kind, .int .i64 x.class_, .sl A2 c2 3 ((x.fields).map ab.pt), .sl A3 c3 1 ((x.numbers).map (PT.int .i64))]
theorem fy.cells {t : PT} {x : au} (h : fy t x) : t.cells.length = 4 := by
 obtain ⟨A2, c2, A3, c3, rfl⟩ := h
 rfl
theorem au.of_ty {t : PT} (h : cU au.ty t) : ∃ x : au, fy t x := by
 simp only [au.ty, cU, d8] at h
 obtain ⟨_, rfl, h⟩ := h
 obtain ⟨u0, _, rfl, h0, h⟩ := h
 obtain ⟨v0, rfl⟩ := h0
 obtain ⟨u1, _, rfl, h1, h⟩ := h
 obtain ⟨v1, rfl⟩ := h1
 obtain ⟨u2, _, rfl, h2, h⟩ := h
 obtain ⟨A2, c2, l2, rfl, h2⟩ := h2
 obtain ⟨v2, rfl⟩ := ij fun t ht => ab.of_ty (h2 t ht)
 obtain ⟨u3, _, rfl, h3, h⟩ := h
 obtain ⟨A3, c3, l3, rfl, h3⟩ := h3
 obtain ⟨v3, rfl⟩ := ij fun t ht => h3 t ht
 subst h
 exact ⟨⟨v0, v1, v2, v3⟩, _, _, _, _, rfl⟩
theorem au.sane_of {t : PT} {x : au} (ha : fy t x) (h : t.sane) : x.sane := by
 obtain ⟨A2, c2, A3, c3, rfl⟩ := ha
 simp only [PT.sane, PT.saneL] at h
 exact ⟨cu h.1, cu h.2.1, fun y hy => ab.sane_of (PT.saneL_mem h.2.2.1 (List.mem_map_of_mem (f := ab.pt) hy)), fun n hn => cu (PT.saneL_mem h.2.2.2.1 (List.mem_map_of_mem (f := PT.int .i64) hn))⟩
structure aP where
 classes : List aa
 objects : List au
 output : List ByteArray
 ticks : Int
 budget : Int
 made : Int
def aP.ty : Ty := .agg [.sl 3 aa.ty, .sl 4 au.ty, .sl 1 (.str), .int .i64, .int .i64, .int .i64]
def aP.sane (x : aP) : Prop := (∀ y ∈ x.classes, y.sane) /\ (∀ y ∈ x.objects, y.sane) /\ (∀ s ∈ x.output, s.size <= maxLen) /\ i64 x.ticks /\ i64 x.budget /\ i64 x.made
def fT (t : PT) (x : aP) : Prop := ∃ (A0 : Option Addr) (c0 : Nat) (l0 : List PT) (A1 : Option Addr) (c1 : Nat) (l1 : List PT) (A2 : Option Addr) (c2 : Nat), AtL cX l0 (x.classes) /\ AtL fy l1 (x.objects) /\ t = .agg [.sl A0 c0 3 l0, .sl A1 c1 4 l1, .sl A2 c2 1 ((x.output).map PT.str), .int .i64 x.ticks, .int .i64 x.budget, .int .i64 x.made]
theorem fT.cells {t : PT} {x : aP} (h : fT t x) : t.cells.length = 6 := by
 obtain ⟨A0, c0, l0, A1, c1, l1, A2, c2, h0, h1, rfl⟩ := h
 rfl
theorem aP.of_ty {t : PT} (h : cU aP.ty t) : ∃ x : aP, fT t x := by
 simp only [aP.ty, cU, d8] at h
 obtain ⟨_, rfl, h⟩ := h
 obtain ⟨u0, _, rfl, h0, h⟩ := h
 obtain ⟨A0, c0, l0, rfl, h0⟩ := h0
 obtain ⟨v0, k0⟩ := sP fun t ht => aa.of_ty (h0 t ht)
 obtain ⟨u1, _, rfl, h1, h⟩ := h
 obtain ⟨A1, c1, l1, rfl, h1⟩ := h1
 obtain ⟨v1, k1⟩ := sP fun t ht => au.of_ty (h1 t ht)
 obtain ⟨u2, _, rfl, h2, h⟩ := h
 obtain ⟨A2, c2, l2, rfl, h2⟩ := h2
 obtain ⟨v2, rfl⟩ := ij fun t ht => h2 t ht
 obtain ⟨u3, _, rfl, h3, h⟩ := h
 obtain ⟨v3, rfl⟩ := h3
 obtain ⟨u4, _, rfl, h4, h⟩ := h
 obtain ⟨v4, rfl⟩ := h4
 obtain ⟨u5, _, rfl, h5, h⟩ := h
 obtain ⟨v5, rfl⟩ := h5
 subst h
 exact ⟨⟨v0, v1, v2, v3, v4, v5⟩, _, _, _, _, _, _, _, _, k0, k1, rfl⟩
theorem aP.sane_of {t : PT} {x : aP} (ha : fT t x) (h : t.sane) : x.sane := by
 obtain ⟨A0, c0, l0, A1, c1, l1, A2, c2, h0, h1, rfl⟩ := ha
 simp only [PT.sane, PT.saneL] at h
 exact ⟨ip h0 h.1 fun _ _ a b => aa.sane_of a b, ip h1 h.2.1 fun _ _ a b => au.sane_of a b, fun s hs => PT.saneL_mem h.2.2.1 (List.mem_map_of_mem (f := PT.str) hs), cu h.2.2.2.1, cu h.2.2.2.2.1, cu h.2.2.2.2.2.1⟩
structure ar where
 code : Int
 outer : Int
 home : Int
 self : ab
def ar.ty : Ty := .agg [.int .i64, .int .i64, .int .i64, ab.ty]
def ar.sane (x : ar) : Prop := i64 x.code /\ i64 x.outer /\ i64 x.home /\ x.self.sane
def ar.pt (x : ar) : PT := .agg [.int .i64 x.code, .int .i64 x.outer, .int .i64 x.home, x.self.pt]
theorem ar.flat : aev ar.pt 6 := ⟨fun _ => rfl, fun _ => rfl, fun _ _ => by simp [ar.pt, Own, kW, ab.pt], fun _ _ _ => by simp [ar.pt, gG, dY, ab.pt]⟩
theorem ar.of_ty {t : PT} (h : cU ar.ty t) : ∃ x : ar, t = x.pt := by
 simp only [ar.ty, cU, d8] at h
 obtain ⟨_, rfl, h⟩ := h
 obtain ⟨u0, _, rfl, h0, h⟩ := h
 obtain ⟨v0, rfl⟩ := h0
 obtain ⟨u1, _, rfl, h1, h⟩ := h
 obtain ⟨v1, rfl⟩ := h1
 obtain ⟨u2, _, rfl, h2, h⟩ := h
 obtain ⟨v2, rfl⟩ := h2
 obtain ⟨u3, _, rfl, h3, h⟩ := h
 obtain ⟨v3, rfl⟩ := ab.of_ty h3
 subst h
 exact ⟨⟨v0, v1, v2, v3⟩, rfl⟩
theorem ar.sane_of {x : ar} (h : x.pt.sane) : x.sane := by
 simp only [ar.pt, PT.sane, PT.saneL] at h
 exact ⟨cu h.1, cu h.2.1, cu h.2.2.1, ab.sane_of h.2.2.2.1⟩
structure ap where
 mark : Int
 code : Int
 pc : Int
 sender : Int
 outer : Int
 home : Int
 self : ab
 slots : List ab
 stack : List ab
 values : List ab
 other : Int
 retry : Bool
def ap.ty : Ty := .agg [.int .i64, .int .i64, .int .i64, .int .i64, .int .i64, .int .i64, ab.ty, .sl 3 ab.ty, .sl 3 ab.ty, .sl 3 ab.ty, .int .i64, .bool]
def ap.sane (x : ap) : Prop := i64 x.mark /\ i64 x.code /\ i64 x.pc /\ i64 x.sender /\ i64 x.outer /\ i64 x.home /\ x.self.sane /\ (∀ y ∈ x.slots, y.sane) /\ (∀ y ∈ x.stack, y.sane) /\ (∀ y ∈ x.values, y.sane) /\ i64 x.other
def eJ (t : PT) (x : ap) : Prop := ∃ (A7 : Option Addr) (c7 : Nat) (A8 : Option Addr) (c8 : Nat) (A9 : Option Addr) (c9 : Nat), t = .agg [.int .i64 x.mark, .int .i64 x.code, .int .i64 x.pc, .int .i64 x.sender, .int .i64 x.outer, .int .i64 x.home, x.self.pt, .sl A7 c7 3 ((x.slots).map ab.pt), .sl A8 c8 3 ((x.stack).map ab.pt), .sl A9 c9 3 ((x.values).map ab.pt), .int .i64 x.other, .bool x.retry]
theorem eJ.cells {t : PT} {x : ap} (h : eJ t x) : t.cells.length = 14 := by
 obtain ⟨A7, c7, A8, c8, A9, c9, rfl⟩ := h
 rfl
theorem ap.of_ty {t : PT} (h : cU ap.ty t) : ∃ x : ap, eJ t x := by
 simp only [ap.ty, cU, d8] at h
 obtain ⟨_, rfl, h⟩ := h
 obtain ⟨u0, _, rfl, h0, h⟩ := h
 obtain ⟨v0, rfl⟩ := h0
 obtain ⟨u1, _, rfl, h1, h⟩ := h
 obtain ⟨v1, rfl⟩ := h1
 obtain ⟨u2, _, rfl, h2, h⟩ := h
 obtain ⟨v2, rfl⟩ := h2
 obtain ⟨u3, _, rfl, h3, h⟩ := h
 obtain ⟨v3, rfl⟩ := h3
 obtain ⟨u4, _, rfl, h4, h⟩ := h
 obtain ⟨v4, rfl⟩ := h4
 obtain ⟨u5, _, rfl, h5, h⟩ := h
 obtain ⟨v5, rfl⟩ := h5
 obtain ⟨u6, _, rfl, h6, h⟩ := h
 obtain ⟨v6, rfl⟩ := ab.of_ty h6
 obtain ⟨u7, _, rfl, h7, h⟩ := h
 obtain ⟨A7, c7, l7, rfl, h7⟩ := h7
 obtain ⟨v7, rfl⟩ := ij fun t ht => ab.of_ty (h7 t ht)
 obtain ⟨u8, _, rfl, h8, h⟩ := h
 obtain ⟨A8, c8, l8, rfl, h8⟩ := h8
 obtain ⟨v8, rfl⟩ := ij fun t ht => ab.of_ty (h8 t ht)
 obtain ⟨u9, _, rfl, h9, h⟩ := h
 obtain ⟨A9, c9, l9, rfl, h9⟩ := h9
 obtain ⟨v9, rfl⟩ := ij fun t ht => ab.of_ty (h9 t ht)
 obtain ⟨u10, _, rfl, h10, h⟩ := h
 obtain ⟨v10, rfl⟩ := h10
 obtain ⟨u11, _, rfl, h11, h⟩ := h
 obtain ⟨v11, rfl⟩ := h11
 subst h
 exact ⟨⟨v0, v1, v2, v3, v4, v5, v6, v7, v8, v9, v10, v11⟩, _, _, _, _, _, _, rfl⟩
theorem ap.sane_of {t : PT} {x : ap} (ha : eJ t x) (h : t.sane) : x.sane := by
 obtain ⟨A7, c7, A8, c8, A9, c9, rfl⟩ := ha
 simp only [PT.sane, PT.saneL] at h
 exact ⟨cu h.1, cu h.2.1, cu h.2.2.1, cu h.2.2.2.1, cu h.2.2.2.2.1, cu h.2.2.2.2.2.1, ab.sane_of h.2.2.2.2.2.2.1, fun y hy => ab.sane_of (PT.saneL_mem h.2.2.2.2.2.2.2.1 (List.mem_map_of_mem (f := ab.pt) hy)), fun y hy => ab.sane_of (PT.saneL_mem h.2.2.2.2.2.2.2.2.1 (List.mem_map_of_mem (f := ab.pt) hy)), fun y hy => ab.sane_of (PT.saneL_mem h.2.2.2.2.2.2.2.2.2.1 (List.mem_map_of_mem (f := ab.pt) hy)), cu h.2.2.2.2.2.2.2.2.2.2.1⟩
structure ao where
 at_ : Int
 main : Bool
def ao.ty : Ty := .agg [.int .i64, .bool]
def ao.sane (x : ao) : Prop := i64 x.at_
def ao.pt (x : ao) : PT := .agg [.int .i64 x.at_, .bool x.main]
theorem ao.flat : aev ao.pt 2 := ⟨fun _ => rfl, fun _ => rfl, fun _ _ => by simp [ao.pt, Own, kW], fun _ _ _ => by simp [ao.pt, gG, dY]⟩
theorem ao.of_ty {t : PT} (h : cU ao.ty t) : ∃ x : ao, t = x.pt := by
 simp only [ao.ty, cU, d8] at h
 obtain ⟨_, rfl, h⟩ := h
 obtain ⟨u0, _, rfl, h0, h⟩ := h
 obtain ⟨v0, rfl⟩ := h0
 obtain ⟨u1, _, rfl, h1, h⟩ := h
 obtain ⟨v1, rfl⟩ := h1
 subst h
 exact ⟨⟨v0, v1⟩, rfl⟩
theorem ao.sane_of {x : ao} (h : x.pt.sane) : x.sane := by
 simp only [ao.pt, PT.sane, PT.saneL] at h
 exact cu h.1
structure ah where
 base : aD
 store : aP
 blocks : List ar
 contexts : List ap
 processes : List ao
 ready : List Int
 now : Int
 status : Int
 value : ab
 fault : ByteArray
def ah.ty : Ty := .agg [aD.ty, aP.ty, .sl 6 ar.ty, .sl 14 ap.ty, .sl 2 ao.ty, .sl 1 (.int .i64), .int .i64, .int .i64, ab.ty, .str]
def ah.sane (x : ah) : Prop := x.base.sane /\ x.store.sane /\ (∀ y ∈ x.blocks, y.sane) /\ (∀ y ∈ x.contexts, y.sane) /\ (∀ y ∈ x.processes, y.sane) /\ (∀ n ∈ x.ready, i64 n) /\ i64 x.now /\ i64 x.status /\ x.value.sane /\ x.fault.size <= maxLen
def fU (t : PT) (x : ah) : Prop := ∃ (t0 : PT) (t1 : PT) (A2 : Option Addr) (c2 : Nat) (A3 : Option Addr) (c3 : Nat) (l3 : List PT) (A4 : Option Addr) (c4 : Nat) (A5 : Option Addr) (c5 : Nat), dw t0 x.base /\ fT t1 x.store /\ AtL eJ l3 (x.contexts) /\ t = .agg [t0, t1, .sl A2 c2 6 ((x.blocks).map ar.pt), .sl A3 c3 14 l3, .sl A4 c4 2 ((x.processes).map ao.pt), .sl A5 c5 1 ((x.ready).map (PT.int .i64)), .int .i64 x.now, .int .i64 x.status, x.value.pt, .str x.fault]
theorem fU.cells {t : PT} {x : ah} (h : fU t x) : t.cells.length = 20 := by
 obtain ⟨t0, t1, A2, c2, A3, c3, l3, A4, c4, A5, c5, h0, h1, h2, rfl⟩ := h
 have e0 := dw.cells h0
 have e1 := fT.cells h1
 simp [PT.cells, PT.cellsL, List.length_append, List.length_cons, List.length_nil, ab.pt, e0, e1]
theorem ah.of_ty {t : PT} (h : cU ah.ty t) : ∃ x : ah, fU t x := by
 simp only [ah.ty, cU, d8] at h
 obtain ⟨_, rfl, h⟩ := h
 obtain ⟨u0, _, rfl, h0, h⟩ := h
 obtain ⟨v0, k0⟩ := aD.of_ty h0
 obtain ⟨u1, _, rfl, h1, h⟩ := h
 obtain ⟨v1, k1⟩ := aP.of_ty h1
 obtain ⟨u2, _, rfl, h2, h⟩ := h
 obtain ⟨A2, c2, l2, rfl, h2⟩ := h2
 obtain ⟨v2, rfl⟩ := ij fun t ht => ar.of_ty (h2 t ht)
 obtain ⟨u3, _, rfl, h3, h⟩ := h
 obtain ⟨A3, c3, l3, rfl, h3⟩ := h3
 obtain ⟨v3, k3⟩ := sP fun t ht => ap.of_ty (h3 t ht)
 obtain ⟨u4, _, rfl, h4, h⟩ := h
 obtain ⟨A4, c4, l4, rfl, h4⟩ := h4
 obtain ⟨v4, rfl⟩ := ij fun t ht => ao.of_ty (h4 t ht)
 obtain ⟨u5, _, rfl, h5, h⟩ := h
 obtain ⟨A5, c5, l5, rfl, h5⟩ := h5
 obtain ⟨v5, rfl⟩ := ij fun t ht => h5 t ht
 obtain ⟨u6, _, rfl, h6, h⟩ := h
 obtain ⟨v6, rfl⟩ := h6
 obtain ⟨u7, _, rfl, h7, h⟩ := h
 obtain ⟨v7, rfl⟩ := h7
 obtain ⟨u8, _, rfl, h8, h⟩ := h
 obtain ⟨v8, rfl⟩ := ab.of_ty h8
 obtain ⟨u9, _, rfl, h9, h⟩ := h
 obtain ⟨v9, rfl⟩ := h9
 subst h
 exact ⟨⟨v0, v1, v2, v3, v4, v5, v6, v7, v8, v9⟩, _, _, _, _, _, _, _, _, _, _, _, k0, k1, k3, rfl⟩
theorem ah.sane_of {t : PT} {x : ah} (ha : fU t x) (h : t.sane) : x.sane := by
 obtain ⟨t0, t1, A2, c2, A3, c3, l3, A4, c4, A5, c5, h0, h1, h2, rfl⟩ := ha
 simp only [PT.sane, PT.saneL] at h
 exact ⟨aD.sane_of h0 h.1, aP.sane_of h1 h.2.1, fun y hy => ar.sane_of (PT.saneL_mem h.2.2.1 (List.mem_map_of_mem (f := ar.pt) hy)), ip h2 h.2.2.2.1 fun _ _ a b => ap.sane_of a b, fun y hy => ao.sane_of (PT.saneL_mem h.2.2.2.2.1 (List.mem_map_of_mem (f := ao.pt) hy)), fun n hn => cu (PT.saneL_mem h.2.2.2.2.2.1 (List.mem_map_of_mem (f := PT.int .i64) hn)), cu h.2.2.2.2.2.2.1, cu h.2.2.2.2.2.2.2.1, ab.sane_of h.2.2.2.2.2.2.2.2.1, h.2.2.2.2.2.2.2.2.2.1⟩
structure afC where
 code : Int
 at_ : Int
 kind : Int
end Go.Proofs.YtigipcbnfeoliaaGreatDoor
