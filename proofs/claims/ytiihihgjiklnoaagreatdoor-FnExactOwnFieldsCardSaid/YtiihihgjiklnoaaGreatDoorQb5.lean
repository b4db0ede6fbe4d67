/- Part 5 of the proof: the texts Types. -/
import Derived.Test.YtiihihgjiklnoaaGreatDoorQb1
/- The program's struct types as plain structures, and what they are in memory. Written by gen_types.py. -/
namespace Go.Proofs.YtiihihgjiklnoaaGreatDoor
open Go Go.RowKit

def bl {α : Type} (f : α → Nat) (l : List α) : Nat := l.length + (l.map f).sum
theorem iz {α : Type} {R : PT → α → Prop} {P : α → Prop} {l : List PT} {xs : List α} (h : AtL R l xs) (hs : PT.saneL l) (hp : ∀ t x, R t x → t.sane → P x) : ∀ x ∈ xs, P x := fun x hx => by
  obtain ⟨i, hi, rfl⟩ := List.getElem_of_mem hx
  have hi' : i < l.length := by rw [h.1]; exact hi
  exact hp _ _ (h.get hi') (PT.saneL_mem hs (List.getElem_mem hi'))

structure ae where
  kind : Int
  number : Int
  text : ByteArray

def ae.ty : Ty := .agg [.int .i64, .int .i64, .str]

def ae.sane (x : ae) : Prop := i64 x.kind ∧ i64 x.number ∧ x.text.size ≤ maxLen

def ae.pt (x : ae) : PT := .agg [.int .i64 x.kind, .int .i64 x.number, .str x.text]

theorem ae.flat : qQ ae.pt 3 := ⟨fun _ => rfl, fun _ => rfl, fun _ _ => by simp [ae.pt, Own, iP], fun _ _ _ => by simp [ae.pt, dK, cm]⟩

theorem ae.of_ty {t : PT} (h : cx ae.ty t) : ∃ x : ae, t = x.pt := by
  simp only [ae.ty, cx, dx] at h
  obtain ⟨_, rfl, h⟩ := h
  obtain ⟨u0, _, rfl, h0, h⟩ := h
  obtain ⟨v0, rfl⟩ := h0
  obtain ⟨u1, _, rfl, h1, h⟩ := h
  obtain ⟨v1, rfl⟩ := h1
  obtain ⟨u2, _, rfl, h2, h⟩ := h
  obtain ⟨v2, rfl⟩ := h2
  subst h
  exact ⟨⟨v0, v1, v2⟩, rfl⟩

theorem ae.sane_of {x : ae} (h : x.pt.sane) : x.sane := by
  simp only [ae.pt, PT.sane, PT.saneL] at h
  exact ⟨bU h.1, bU h.2.1, h.2.2.1⟩

structure ag where
  op : Int
  a : Int
  b : Int
  text : ByteArray

def ag.ty : Ty := .agg [.int .i64, .int .i64, .int .i64, .str]

def ag.sane (x : ag) : Prop := i64 x.op ∧ i64 x.a ∧ i64 x.b ∧ x.text.size ≤ maxLen

def ag.pt (x : ag) : PT := .agg [.int .i64 x.op, .int .i64 x.a, .int .i64 x.b, .str x.text]

theorem ag.flat : qQ ag.pt 4 := ⟨fun _ => rfl, fun _ => rfl, fun _ _ => by simp [ag.pt, Own, iP], fun _ _ _ => by simp [ag.pt, dK, cm]⟩

theorem ag.of_ty {t : PT} (h : cx ag.ty t) : ∃ x : ag, t = x.pt := by
  simp only [ag.ty, cx, dx] at h
  obtain ⟨_, rfl, h⟩ := h
  obtain ⟨u0, _, rfl, h0, h⟩ := h
  obtain ⟨v0, rfl⟩ := h0
  obtain ⟨u1, _, rfl, h1, h⟩ := h
  obtain ⟨v1, rfl⟩ := h1
  obtain ⟨u2, _, rfl, h2, h⟩ := h
  obtain ⟨v2, rfl⟩ := h2
  obtain ⟨u3, _, rfl, h3, h⟩ := h
  obtain ⟨v3, rfl⟩ := h3
  subst h
  exact ⟨⟨v0, v1, v2, v3⟩, rfl⟩

theorem ag.sane_of {x : ag} (h : x.pt.sane) : x.sane := by
  simp only [ag.pt, PT.sane, PT.saneL] at h
  exact ⟨bU h.1, bU h.2.1, bU h.2.2.1, h.2.2.2.1⟩

structure ay where
  block : Bool
  params : Int
  slots : Int
  instrs : List ag

def ay.ty : Ty := .agg [.bool, .int .i64, .int .i64, .sl 4 ag.ty]

def ay.sane (x : ay) : Prop := i64 x.params ∧ i64 x.slots ∧ (∀ y ∈ x.instrs, y.sane)

def ju (t : PT) (x : ay) : Prop := ∃ (A3 : Option Addr) (c3 : Nat), t = .agg [.bool x.block, .int .i64 x.params, .int .i64 x.slots, .sl A3 c3 4 ((x.instrs).map ag.pt)]

theorem ju.cells {t : PT} {x : ay} (h : ju t x) : t.cells.length = 4 := by
  obtain ⟨A3, c3, rfl⟩ := h
  rfl

theorem ay.of_ty {t : PT} (h : cx ay.ty t) : ∃ x : ay, ju t x := by
  simp only [ay.ty, cx, dx] at h
  obtain ⟨_, rfl, h⟩ := h
  obtain ⟨u0, _, rfl, h0, h⟩ := h
  obtain ⟨v0, rfl⟩ := h0
  obtain ⟨u1, _, rfl, h1, h⟩ := h
  obtain ⟨v1, rfl⟩ := h1
  obtain ⟨u2, _, rfl, h2, h⟩ := h
  obtain ⟨v2, rfl⟩ := h2
  obtain ⟨u3, _, rfl, h3, h⟩ := h
  obtain ⟨A3, c3, l3, rfl, h3⟩ := h3
  obtain ⟨v3, rfl⟩ := gM fun t ht => ag.of_ty (h3 t ht)
  subst h
  exact ⟨⟨v0, v1, v2, v3⟩, _, _, rfl⟩

theorem ay.sane_of {t : PT} {x : ay} (ha : ju t x) (h : t.sane) : x.sane := by
  obtain ⟨A3, c3, rfl⟩ := ha
  simp only [PT.sane, PT.saneL] at h
  exact ⟨bU h.2.1, bU h.2.2.1, fun y hy => ag.sane_of (PT.saneL_mem h.2.2.2.1 (List.mem_map_of_mem (f := ag.pt) hy))⟩

structure aw where
  owner : Int
  class_ : Bool
  selector : ByteArray
  code : Int

def aw.ty : Ty := .agg [.int .i64, .bool, .str, .int .i64]

def aw.sane (x : aw) : Prop := i64 x.owner ∧ x.selector.size ≤ maxLen ∧ i64 x.code

def aw.pt (x : aw) : PT := .agg [.int .i64 x.owner, .bool x.class_, .str x.selector, .int .i64 x.code]

theorem aw.flat : qQ aw.pt 4 := ⟨fun _ => rfl, fun _ => rfl, fun _ _ => by simp [aw.pt, Own, iP], fun _ _ _ => by simp [aw.pt, dK, cm]⟩

theorem aw.of_ty {t : PT} (h : cx aw.ty t) : ∃ x : aw, t = x.pt := by
  simp only [aw.ty, cx, dx] at h
  obtain ⟨_, rfl, h⟩ := h
  obtain ⟨u0, _, rfl, h0, h⟩ := h
  obtain ⟨v0, rfl⟩ := h0
  obtain ⟨u1, _, rfl, h1, h⟩ := h
  obtain ⟨v1, rfl⟩ := h1
  obtain ⟨u2, _, rfl, h2, h⟩ := h
  obtain ⟨v2, rfl⟩ := h2
  obtain ⟨u3, _, rfl, h3, h⟩ := h
  obtain ⟨v3, rfl⟩ := h3
  subst h
  exact ⟨⟨v0, v1, v2, v3⟩, rfl⟩

theorem aw.sane_of {x : aw} (h : x.pt.sane) : x.sane := by
  simp only [aw.pt, PT.sane, PT.saneL] at h
  exact ⟨bU h.1, h.2.2.1, bU h.2.2.2.1⟩

structure aa where
  name : ByteArray
  parent : Int
  fields : List ByteArray

def aa.ty : Ty := .agg [.str, .int .i64, .sl 1 (.str)]

def aa.sane (x : aa) : Prop := x.name.size ≤ maxLen ∧ i64 x.parent ∧ (∀ s ∈ x.fields, s.size ≤ maxLen)

def cK (t : PT) (x : aa) : Prop := ∃ (A2 : Option Addr) (c2 : Nat), t = .agg [.str x.name, .int .i64 x.parent, .sl A2 c2 1 ((x.fields).map PT.str)]

theorem cK.cells {t : PT} {x : aa} (h : cK t x) : t.cells.length = 3 := by
  obtain ⟨A2, c2, rfl⟩ := h
  rfl

theorem aa.of_ty {t : PT} (h : cx aa.ty t) : ∃ x : aa, cK t x := by
  simp only [aa.ty, cx, dx] at h
  obtain ⟨_, rfl, h⟩ := h
  obtain ⟨u0, _, rfl, h0, h⟩ := h
  obtain ⟨v0, rfl⟩ := h0
  obtain ⟨u1, _, rfl, h1, h⟩ := h
  obtain ⟨v1, rfl⟩ := h1
  obtain ⟨u2, _, rfl, h2, h⟩ := h
  obtain ⟨A2, c2, l2, rfl, h2⟩ := h2
  obtain ⟨v2, rfl⟩ := gM fun t ht => h2 t ht
  subst h
  exact ⟨⟨v0, v1, v2⟩, _, _, rfl⟩

theorem aa.sane_of {t : PT} {x : aa} (ha : cK t x) (h : t.sane) : x.sane := by
  obtain ⟨A2, c2, rfl⟩ := ha
  simp only [PT.sane, PT.saneL] at h
  exact ⟨h.1, bU h.2.1, fun s hs => PT.saneL_mem h.2.2.1 (List.mem_map_of_mem (f := PT.str) hs)⟩

structure aA where
  classes : List aa
  codes : List ay
  entries : List aw
  main : Int

def aA.ty : Ty := .agg [.sl 3 aa.ty, .sl 4 ay.ty, .sl 4 aw.ty, .int .i64]

def aA.sane (x : aA) : Prop := (∀ y ∈ x.classes, y.sane) ∧ (∀ y ∈ x.codes, y.sane) ∧ (∀ y ∈ x.entries, y.sane) ∧ i64 x.main

def dl (t : PT) (x : aA) : Prop := ∃ (A0 : Option Addr) (c0 : Nat) (l0 : List PT) (A1 : Option Addr) (c1 : Nat) (l1 : List PT) (A2 : Option Addr) (c2 : Nat), AtL cK l0 (x.classes) ∧ AtL ju l1 (x.codes) ∧ t = .agg [.sl A0 c0 3 l0, .sl A1 c1 4 l1, .sl A2 c2 4 ((x.entries).map aw.pt), .int .i64 x.main]

theorem dl.cells {t : PT} {x : aA} (h : dl t x) : t.cells.length = 4 := by
  obtain ⟨A0, c0, l0, A1, c1, l1, A2, c2, h0, h1, rfl⟩ := h
  rfl

theorem aA.of_ty {t : PT} (h : cx aA.ty t) : ∃ x : aA, dl t x := by
  simp only [aA.ty, cx, dx] at h
  obtain ⟨_, rfl, h⟩ := h
  obtain ⟨u0, _, rfl, h0, h⟩ := h
  obtain ⟨A0, c0, l0, rfl, h0⟩ := h0
  obtain ⟨v0, k0⟩ := rj fun t ht => aa.of_ty (h0 t ht)
  obtain ⟨u1, _, rfl, h1, h⟩ := h
  obtain ⟨A1, c1, l1, rfl, h1⟩ := h1
  obtain ⟨v1, k1⟩ := rj fun t ht => ay.of_ty (h1 t ht)
  obtain ⟨u2, _, rfl, h2, h⟩ := h
  obtain ⟨A2, c2, l2, rfl, h2⟩ := h2
  obtain ⟨v2, rfl⟩ := gM fun t ht => aw.of_ty (h2 t ht)
  obtain ⟨u3, _, rfl, h3, h⟩ := h
  obtain ⟨v3, rfl⟩ := h3
  subst h
  exact ⟨⟨v0, v1, v2, v3⟩, _, _, _, _, _, _, _, _, k0, k1, rfl⟩

theorem aA.sane_of {t : PT} {x : aA} (ha : dl t x) (h : t.sane) : x.sane := by
  obtain ⟨A0, c0, l0, A1, c1, l1, A2, c2, h0, h1, rfl⟩ := ha
  simp only [PT.sane, PT.saneL] at h
  exact ⟨iz h0 h.1 fun _ _ a b => aa.sane_of a b, iz h1 h.2.1 fun _ _ a b => ay.sane_of a b, fun y hy => aw.sane_of (PT.saneL_mem h.2.2.1 (List.mem_map_of_mem (f := aw.pt) hy)), bU h.2.2.2.1⟩

structure au where
  kind : Int
  class_ : Int
  fields : List ae
  numbers : List Int

def au.ty : Ty := .agg [.int .i64, .int .i64, .sl 3 ae.ty, .sl 1 (.int .i64)]

def au.sane (x : au) : Prop := i64 x.kind ∧ i64 x.class_ ∧ (∀ y ∈ x.fields, y.sane) ∧ (∀ n ∈ x.numbers, i64 n)

def fb (t : PT) (x : au) : Prop := ∃ (A2 : Option Addr) (c2 : Nat) (A3 : Option Addr) (c3 : Nat), t = .agg [.int .i64 x.kind, .int .i64 x.class_, .sl A2 c2 3 ((x.fields).map ae.pt), .sl A3 c3 1 ((x.numbers).map (PT.int .i64))]

theorem fb.cells {t : PT} {x : au} (h : fb t x) : t.cells.length = 4 := by
  obtain ⟨A2, c2, A3, c3, rfl⟩ := h
  rfl

theorem au.of_ty {t : PT} (h : cx au.ty t) : ∃ x : au, fb t x := by
  simp only [au.ty, cx, dx] at h
  obtain ⟨_, rfl, h⟩ := h
  obtain ⟨u0, _, rfl, h0, h⟩ := h
  obtain ⟨v0, rfl⟩ := h0
  obtain ⟨u1, _, rfl, h1, h⟩ := h
  obtain ⟨v1, rfl⟩ := h1
  obtain ⟨u2, _, rfl, h2, h⟩ := h
  obtain ⟨A2, c2, l2, rfl, h2⟩ := h2
  obtain ⟨v2, rfl⟩ := gM fun t ht => ae.of_ty (h2 t ht)
  obtain ⟨u3, _, rfl, h3, h⟩ := h
  obtain ⟨A3, c3, l3, rfl, h3⟩ := h3
  obtain ⟨v3, rfl⟩ := gM fun t ht => h3 t ht
  subst h
  exact ⟨⟨v0, v1, v2, v3⟩, _, _, _, _, rfl⟩

theorem au.sane_of {t : PT} {x : au} (ha : fb t x) (h : t.sane) : x.sane := by
  obtain ⟨A2, c2, A3, c3, rfl⟩ := ha
  simp only [PT.sane, PT.saneL] at h
  exact ⟨bU h.1, bU h.2.1, fun y hy => ae.sane_of (PT.saneL_mem h.2.2.1 (List.mem_map_of_mem (f := ae.pt) hy)), fun n hn => bU (PT.saneL_mem h.2.2.2.1 (List.mem_map_of_mem (f := PT.int .i64) hn))⟩

structure aM where
  classes : List aa
  objects : List au
  output : List ByteArray
  ticks : Int
  budget : Int
  made : Int

def aM.ty : Ty := .agg [.sl 3 aa.ty, .sl 4 au.ty, .sl 1 (.str), .int .i64, .int .i64, .int .i64]

def aM.sane (x : aM) : Prop := (∀ y ∈ x.classes, y.sane) ∧ (∀ y ∈ x.objects, y.sane) ∧ (∀ s ∈ x.output, s.size ≤ maxLen) ∧ i64 x.ticks ∧ i64 x.budget ∧ i64 x.made

def ft (t : PT) (x : aM) : Prop := ∃ (A0 : Option Addr) (c0 : Nat) (l0 : List PT) (A1 : Option Addr) (c1 : Nat) (l1 : List PT) (A2 : Option Addr) (c2 : Nat), AtL cK l0 (x.classes) ∧ AtL fb l1 (x.objects) ∧ t = .agg [.sl A0 c0 3 l0, .sl A1 c1 4 l1, .sl A2 c2 1 ((x.output).map PT.str), .int .i64 x.ticks, .int .i64 x.budget, .int .i64 x.made]

theorem ft.cells {t : PT} {x : aM} (h : ft t x) : t.cells.length = 6 := by
  obtain ⟨A0, c0, l0, A1, c1, l1, A2, c2, h0, h1, rfl⟩ := h
  rfl

theorem aM.of_ty {t : PT} (h : cx aM.ty t) : ∃ x : aM, ft t x := by
  simp only [aM.ty, cx, dx] at h
  obtain ⟨_, rfl, h⟩ := h
  obtain ⟨u0, _, rfl, h0, h⟩ := h
  obtain ⟨A0, c0, l0, rfl, h0⟩ := h0
  obtain ⟨v0, k0⟩ := rj fun t ht => aa.of_ty (h0 t ht)
  obtain ⟨u1, _, rfl, h1, h⟩ := h
  obtain ⟨A1, c1, l1, rfl, h1⟩ := h1
  obtain ⟨v1, k1⟩ := rj fun t ht => au.of_ty (h1 t ht)
  obtain ⟨u2, _, rfl, h2, h⟩ := h
  obtain ⟨A2, c2, l2, rfl, h2⟩ := h2
  obtain ⟨v2, rfl⟩ := gM fun t ht => h2 t ht
  obtain ⟨u3, _, rfl, h3, h⟩ := h
  obtain ⟨v3, rfl⟩ := h3
  obtain ⟨u4, _, rfl, h4, h⟩ := h
  obtain ⟨v4, rfl⟩ := h4
  obtain ⟨u5, _, rfl, h5, h⟩ := h
  obtain ⟨v5, rfl⟩ := h5
  subst h
  exact ⟨⟨v0, v1, v2, v3, v4, v5⟩, _, _, _, _, _, _, _, _, k0, k1, rfl⟩

theorem aM.sane_of {t : PT} {x : aM} (ha : ft t x) (h : t.sane) : x.sane := by
  obtain ⟨A0, c0, l0, A1, c1, l1, A2, c2, h0, h1, rfl⟩ := ha
  simp only [PT.sane, PT.saneL] at h
  exact ⟨iz h0 h.1 fun _ _ a b => aa.sane_of a b, iz h1 h.2.1 fun _ _ a b => au.sane_of a b, fun s hs => PT.saneL_mem h.2.2.1 (List.mem_map_of_mem (f := PT.str) hs), bU h.2.2.2.1, bU h.2.2.2.2.1, bU h.2.2.2.2.2.1⟩

structure ap where
  code : Int
  outer : Int
  home : Int
  self : ae

def ap.ty : Ty := .agg [.int .i64, .int .i64, .int .i64, ae.ty]

def ap.sane (x : ap) : Prop := i64 x.code ∧ i64 x.outer ∧ i64 x.home ∧ x.self.sane

def ap.pt (x : ap) : PT := .agg [.int .i64 x.code, .int .i64 x.outer, .int .i64 x.home, x.self.pt]

theorem ap.flat : qQ ap.pt 6 := ⟨fun _ => rfl, fun _ => rfl, fun _ _ => by simp [ap.pt, Own, iP, ae.pt], fun _ _ _ => by simp [ap.pt, dK, cm, ae.pt]⟩

theorem ap.of_ty {t : PT} (h : cx ap.ty t) : ∃ x : ap, t = x.pt := by
  simp only [ap.ty, cx, dx] at h
  obtain ⟨_, rfl, h⟩ := h
  obtain ⟨u0, _, rfl, h0, h⟩ := h
  obtain ⟨v0, rfl⟩ := h0
  obtain ⟨u1, _, rfl, h1, h⟩ := h
  obtain ⟨v1, rfl⟩ := h1
  obtain ⟨u2, _, rfl, h2, h⟩ := h
  obtain ⟨v2, rfl⟩ := h2
  obtain ⟨u3, _, rfl, h3, h⟩ := h
  obtain ⟨v3, rfl⟩ := ae.of_ty h3
  subst h
  exact ⟨⟨v0, v1, v2, v3⟩, rfl⟩

theorem ap.sane_of {x : ap} (h : x.pt.sane) : x.sane := by
  simp only [ap.pt, PT.sane, PT.saneL] at h
  exact ⟨bU h.1, bU h.2.1, bU h.2.2.1, ae.sane_of h.2.2.2.1⟩

structure am where
  mark : Int
  code : Int
  pc : Int
  sender : Int
  outer : Int
  home : Int
  self : ae
  slots : List ae
  stack : List ae
  values : List ae
  other : Int
  retry : Bool

def am.ty : Ty := .agg [.int .i64, .int .i64, .int .i64, .int .i64, .int .i64, .int .i64, ae.ty, .sl 3 ae.ty, .sl 3 ae.ty, .sl 3 ae.ty, .int .i64, .bool]

def am.sane (x : am) : Prop := i64 x.mark ∧ i64 x.code ∧ i64 x.pc ∧ i64 x.sender ∧ i64 x.outer ∧ i64 x.home ∧ x.self.sane ∧ (∀ y ∈ x.slots, y.sane) ∧ (∀ y ∈ x.stack, y.sane) ∧ (∀ y ∈ x.values, y.sane) ∧ i64 x.other

def ep (t : PT) (x : am) : Prop := ∃ (A7 : Option Addr) (c7 : Nat) (A8 : Option Addr) (c8 : Nat) (A9 : Option Addr) (c9 : Nat), t = .agg [.int .i64 x.mark, .int .i64 x.code, .int .i64 x.pc, .int .i64 x.sender, .int .i64 x.outer, .int .i64 x.home, x.self.pt, .sl A7 c7 3 ((x.slots).map ae.pt), .sl A8 c8 3 ((x.stack).map ae.pt), .sl A9 c9 3 ((x.values).map ae.pt), .int .i64 x.other, .bool x.retry]

theorem ep.cells {t : PT} {x : am} (h : ep t x) : t.cells.length = 14 := by
  obtain ⟨A7, c7, A8, c8, A9, c9, rfl⟩ := h
  rfl

theorem am.of_ty {t : PT} (h : cx am.ty t) : ∃ x : am, ep t x := by
  simp only [am.ty, cx, dx] at h
  obtain ⟨_, rfl, h⟩ := h
  obtain ⟨u0, _, rfl, h0, h⟩ := h
  obtain ⟨v0, rfl⟩ := h0
  obtain ⟨u1, _, rfl, h1, h⟩ := h
  obtain ⟨v1, rfl⟩ := h1
  obtain ⟨u2, _, rfl, h2, h⟩ := h
  obtain ⟨v2, rfl⟩ := h2
  obtain ⟨u3, _, rfl, h3, h⟩ := h
  obtain ⟨v3, rfl⟩ := h3
  obtain ⟨u4, _, rfl, h4, h⟩ := h
  obtain ⟨v4, rfl⟩ := h4
  obtain ⟨u5, _, rfl, h5, h⟩ := h
  obtain ⟨v5, rfl⟩ := h5
  obtain ⟨u6, _, rfl, h6, h⟩ := h
  obtain ⟨v6, rfl⟩ := ae.of_ty h6
  obtain ⟨u7, _, rfl, h7, h⟩ := h
  obtain ⟨A7, c7, l7, rfl, h7⟩ := h7
  obtain ⟨v7, rfl⟩ := gM fun t ht => ae.of_ty (h7 t ht)
  obtain ⟨u8, _, rfl, h8, h⟩ := h
  obtain ⟨A8, c8, l8, rfl, h8⟩ := h8
  obtain ⟨v8, rfl⟩ := gM fun t ht => ae.of_ty (h8 t ht)
  obtain ⟨u9, _, rfl, h9, h⟩ := h
  obtain ⟨A9, c9, l9, rfl, h9⟩ := h9
  obtain ⟨v9, rfl⟩ := gM fun t ht => ae.of_ty (h9 t ht)
  obtain ⟨u10, _, rfl, h10, h⟩ := h
  obtain ⟨v10, rfl⟩ := h10
  obtain ⟨u11, _, rfl, h11, h⟩ := h
  obtain ⟨v11, rfl⟩ := h11
  subst h
  exact ⟨⟨v0, v1, v2, v3, v4, v5, v6, v7, v8, v9, v10, v11⟩, _, _, _, _, _, _, rfl⟩

theorem am.sane_of {t : PT} {x : am} (ha : ep t x) (h : t.sane) : x.sane := by
  obtain ⟨A7, c7, A8, c8, A9, c9, rfl⟩ := ha
  simp only [PT.sane, PT.saneL] at h
  exact ⟨bU h.1, bU h.2.1, bU h.2.2.1, bU h.2.2.2.1, bU h.2.2.2.2.1, bU h.2.2.2.2.2.1, ae.sane_of h.2.2.2.2.2.2.1, fun y hy => ae.sane_of (PT.saneL_mem h.2.2.2.2.2.2.2.1 (List.mem_map_of_mem (f := ae.pt) hy)), fun y hy => ae.sane_of (PT.saneL_mem h.2.2.2.2.2.2.2.2.1 (List.mem_map_of_mem (f := ae.pt) hy)), fun y hy => ae.sane_of (PT.saneL_mem h.2.2.2.2.2.2.2.2.2.1 (List.mem_map_of_mem (f := ae.pt) hy)), bU h.2.2.2.2.2.2.2.2.2.2.1⟩

structure ar where
  at_ : Int
  main : Bool

def ar.ty : Ty := .agg [.int .i64, .bool]

def ar.sane (x : ar) : Prop := i64 x.at_

def ar.pt (x : ar) : PT := .agg [.int .i64 x.at_, .bool x.main]

theorem ar.flat : qQ ar.pt 2 := ⟨fun _ => rfl, fun _ => rfl, fun _ _ => by simp [ar.pt, Own, iP], fun _ _ _ => by simp [ar.pt, dK, cm]⟩

theorem ar.of_ty {t : PT} (h : cx ar.ty t) : ∃ x : ar, t = x.pt := by
  simp only [ar.ty, cx, dx] at h
  obtain ⟨_, rfl, h⟩ := h
  obtain ⟨u0, _, rfl, h0, h⟩ := h
  obtain ⟨v0, rfl⟩ := h0
  obtain ⟨u1, _, rfl, h1, h⟩ := h
  obtain ⟨v1, rfl⟩ := h1
  subst h
  exact ⟨⟨v0, v1⟩, rfl⟩

theorem ar.sane_of {x : ar} (h : x.pt.sane) : x.sane := by
  simp only [ar.pt, PT.sane, PT.saneL] at h
  exact bU h.1

structure ak where
  base : aA
  store : aM
  blocks : List ap
  contexts : List am
  processes : List ar
  ready : List Int
  now : Int
  status : Int
  value : ae
  fault : ByteArray

def ak.ty : Ty := .agg [aA.ty, aM.ty, .sl 6 ap.ty, .sl 14 am.ty, .sl 2 ar.ty, .sl 1 (.int .i64), .int .i64, .int .i64, ae.ty, .str]

def ak.sane (x : ak) : Prop := x.base.sane ∧ x.store.sane ∧ (∀ y ∈ x.blocks, y.sane) ∧ (∀ y ∈ x.contexts, y.sane) ∧ (∀ y ∈ x.processes, y.sane) ∧ (∀ n ∈ x.ready, i64 n) ∧ i64 x.now ∧ i64 x.status ∧ x.value.sane ∧ x.fault.size ≤ maxLen

def ez (t : PT) (x : ak) : Prop := ∃ (t0 : PT) (t1 : PT) (A2 : Option Addr) (c2 : Nat) (A3 : Option Addr) (c3 : Nat) (l3 : List PT) (A4 : Option Addr) (c4 : Nat) (A5 : Option Addr) (c5 : Nat), dl t0 x.base ∧ ft t1 x.store ∧ AtL ep l3 (x.contexts) ∧ t = .agg [t0, t1, .sl A2 c2 6 ((x.blocks).map ap.pt), .sl A3 c3 14 l3, .sl A4 c4 2 ((x.processes).map ar.pt), .sl A5 c5 1 ((x.ready).map (PT.int .i64)), .int .i64 x.now, .int .i64 x.status, x.value.pt, .str x.fault]

theorem ez.cells {t : PT} {x : ak} (h : ez t x) : t.cells.length = 20 := by
  obtain ⟨t0, t1, A2, c2, A3, c3, l3, A4, c4, A5, c5, h0, h1, h2, rfl⟩ := h
  have e0 := dl.cells h0
  have e1 := ft.cells h1
  simp [PT.cells, PT.cellsL, List.length_append, List.length_cons, List.length_nil, ae.pt, e0, e1]

theorem ak.of_ty {t : PT} (h : cx ak.ty t) : ∃ x : ak, ez t x := by
  simp only [ak.ty, cx, dx] at h
  obtain ⟨_, rfl, h⟩ := h
  obtain ⟨u0, _, rfl, h0, h⟩ := h
  obtain ⟨v0, k0⟩ := aA.of_ty h0
  obtain ⟨u1, _, rfl, h1, h⟩ := h
  obtain ⟨v1, k1⟩ := aM.of_ty h1
  obtain ⟨u2, _, rfl, h2, h⟩ := h
  obtain ⟨A2, c2, l2, rfl, h2⟩ := h2
  obtain ⟨v2, rfl⟩ := gM fun t ht => ap.of_ty (h2 t ht)
  obtain ⟨u3, _, rfl, h3, h⟩ := h
  obtain ⟨A3, c3, l3, rfl, h3⟩ := h3
  obtain ⟨v3, k3⟩ := rj fun t ht => am.of_ty (h3 t ht)
  obtain ⟨u4, _, rfl, h4, h⟩ := h
  obtain ⟨A4, c4, l4, rfl, h4⟩ := h4
  obtain ⟨v4, rfl⟩ := gM fun t ht => ar.of_ty (h4 t ht)
  obtain ⟨u5, _, rfl, h5, h⟩ := h
  obtain ⟨A5, c5, l5, rfl, h5⟩ := h5
  obtain ⟨v5, rfl⟩ := gM fun t ht => h5 t ht
  obtain ⟨u6, _, rfl, h6, h⟩ := h
  obtain ⟨v6, rfl⟩ := h6
  obtain ⟨u7, _, rfl, h7, h⟩ := h
  obtain ⟨v7, rfl⟩ := h7
  obtain ⟨u8, _, rfl, h8, h⟩ := h
  obtain ⟨v8, rfl⟩ := ae.of_ty h8
  obtain ⟨u9, _, rfl, h9, h⟩ := h
  obtain ⟨v9, rfl⟩ := h9
  subst h
  exact ⟨⟨v0, v1, v2, v3, v4, v5, v6, v7, v8, v9⟩, _, _, _, _, _, _, _, _, _, _, _, k0, k1, k3, rfl⟩

theorem ak.sane_of {t : PT} {x : ak} (ha : ez t x) (h : t.sane) : x.sane := by
  obtain ⟨t0, t1, A2, c2, A3, c3, l3, A4, c4, A5, c5, h0, h1, h2, rfl⟩ := ha
  simp only [PT.sane, PT.saneL] at h
  exact ⟨aA.sane_of h0 h.1, aM.sane_of h1 h.2.1, fun y hy => ap.sane_of (PT.saneL_mem h.2.2.1 (List.mem_map_of_mem (f := ap.pt) hy)), iz h2 h.2.2.2.1 fun _ _ a b => am.sane_of a b, fun y hy => ar.sane_of (PT.saneL_mem h.2.2.2.2.1 (List.mem_map_of_mem (f := ar.pt) hy)), fun n hn => bU (PT.saneL_mem h.2.2.2.2.2.1 (List.mem_map_of_mem (f := PT.int .i64) hn)), bU h.2.2.2.2.2.2.1, bU h.2.2.2.2.2.2.2.1, ae.sane_of h.2.2.2.2.2.2.2.2.1, h.2.2.2.2.2.2.2.2.2.1⟩

structure eH where
  code : Int
  at_ : Int
  kind : Int

def eH.ty : Ty := .agg [.int .i64, .int .i64, .int .i64]

def eH.sane (x : eH) : Prop := i64 x.code ∧ i64 x.at_ ∧ i64 x.kind

def eH.pt (x : eH) : PT := .agg [.int .i64 x.code, .int .i64 x.at_, .int .i64 x.kind]

theorem eH.flat : qQ eH.pt 3 := ⟨fun _ => rfl, fun _ => rfl, fun _ _ => by simp [eH.pt, Own, iP], fun _ _ _ => by simp [eH.pt, dK, cm]⟩

theorem eH.of_ty {t : PT} (h : cx eH.ty t) : ∃ x : eH, t = x.pt := by
  simp only [eH.ty, cx, dx] at h
  obtain ⟨_, rfl, h⟩ := h
  obtain ⟨u0, _, rfl, h0, h⟩ := h
  obtain ⟨v0, rfl⟩ := h0
  obtain ⟨u1, _, rfl, h1, h⟩ := h
  obtain ⟨v1, rfl⟩ := h1
  obtain ⟨u2, _, rfl, h2, h⟩ := h
  obtain ⟨v2, rfl⟩ := h2
  subst h
  exact ⟨⟨v0, v1, v2⟩, rfl⟩

theorem eH.sane_of {x : eH} (h : x.pt.sane) : x.sane := by
  simp only [eH.pt, PT.sane, PT.saneL] at h
  exact ⟨bU h.1, bU h.2.1, bU h.2.2.1⟩

end Go.Proofs.YtiihihgjiklnoaaGreatDoor
