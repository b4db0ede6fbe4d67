/- Part 2 of the proof: the texts Types, Row, EngA, Tab, EngB. -/
import Derived.Test.YthpdkhejeookhaaGreatDoorPart1
import Derived.Test.YthpdkhejeookhaaGreatDoorRows
import Derived.Shelf.Vars
import Derived.Lib.LaidU8
import Derived.Lib.LaidTab
import Derived.Lay
import Derived.MakeChecks
import Derived.ProofKit
import Derived.OpenShut
import Derived.ShutString
import Derived.ChangeOld
import Derived.Handed
import Derived.Orders
import Derived.IntWalk
import Derived.Lib.Strings
import Derived.WideShapes
/- The program's struct types as plain structures, and what they are in memory. Written by gen_types.py. -/
namespace Go.Proofs.YthpdkhejeookhaaGreatDoor
open Go Go.RowKit

def bl {α : Type} (f : α → Nat) (l : List α) : Nat := l.length + (l.map f).sum
theorem fz {α : Type} {R : PT → α → Prop} {P : α → Prop} {l : List PT} {xs : List α} (h : AtL R l xs) (hs : PT.saneL l) (hp : ∀ t x, R t x → t.sane → P x) : ∀ x ∈ xs, P x := fun x hx => by
  obtain ⟨i, hi, rfl⟩ := List.getElem_of_mem hx
  have hi' : i < l.length := by rw [h.1]; exact hi
  exact hp _ _ (h.get hi') (PT.saneL_mem hs (List.getElem_mem hi'))

structure aC where
  kind : Int
  number : Int
  text : ByteArray

def aC.ty : Ty := .agg [.int .i64, .int .i64, .str]

def aC.sane (x : aC) : Prop := i64 x.kind ∧ i64 x.number ∧ x.text.size ≤ maxLen

def aC.pt (x : aC) : PT := .agg [.int .i64 x.kind, .int .i64 x.number, .str x.text]

theorem aC.flat : nw aC.pt 3 := ⟨fun _ => rfl, fun _ => rfl, fun _ _ => by simp [aC.pt, Own, gq], fun _ _ _ => by simp [aC.pt, dl, cg]⟩

theorem aC.of_ty {t : PT} (h : cu aC.ty t) : ∃ x : aC, t = x.pt := by
  simp only [aC.ty, cu, cY] at h
  obtain ⟨_, rfl, h⟩ := h
  obtain ⟨u0, _, rfl, h0, h⟩ := h
  obtain ⟨v0, rfl⟩ := h0
  obtain ⟨u1, _, rfl, h1, h⟩ := h
  obtain ⟨v1, rfl⟩ := h1
  obtain ⟨u2, _, rfl, h2, h⟩ := h
  obtain ⟨v2, rfl⟩ := h2
  subst h
  exact ⟨⟨v0, v1, v2⟩, rfl⟩

theorem aC.sane_of {x : aC} (h : x.pt.sane) : x.sane := by
  simp only [aC.pt, PT.sane, PT.saneL] at h
  exact ⟨bU h.1, bU h.2.1, h.2.2.1⟩

structure aD where
  op : Int
  a : Int
  b : Int
  text : ByteArray

def aD.ty : Ty := .agg [.int .i64, .int .i64, .int .i64, .str]

def aD.sane (x : aD) : Prop := i64 x.op ∧ i64 x.a ∧ i64 x.b ∧ x.text.size ≤ maxLen

def aD.pt (x : aD) : PT := .agg [.int .i64 x.op, .int .i64 x.a, .int .i64 x.b, .str x.text]

theorem aD.flat : nw aD.pt 4 := ⟨fun _ => rfl, fun _ => rfl, fun _ _ => by simp [aD.pt, Own, gq], fun _ _ _ => by simp [aD.pt, dl, cg]⟩

theorem aD.of_ty {t : PT} (h : cu aD.ty t) : ∃ x : aD, t = x.pt := by
  simp only [aD.ty, cu, cY] at h
  obtain ⟨_, rfl, h⟩ := h
  obtain ⟨u0, _, rfl, h0, h⟩ := h
  obtain ⟨v0, rfl⟩ := h0
  obtain ⟨u1, _, rfl, h1, h⟩ := h
  obtain ⟨v1, rfl⟩ := h1
  obtain ⟨u2, _, rfl, h2, h⟩ := h
  obtain ⟨v2, rfl⟩ := h2
  obtain ⟨u3, _, rfl, h3, h⟩ := h
  obtain ⟨v3, rfl⟩ := h3
  subst h
  exact ⟨⟨v0, v1, v2, v3⟩, rfl⟩

theorem aD.sane_of {x : aD} (h : x.pt.sane) : x.sane := by
  simp only [aD.pt, PT.sane, PT.saneL] at h
  exact ⟨bU h.1, bU h.2.1, bU h.2.2.1, h.2.2.2.1⟩

structure aT where
  block : Bool
  params : Int
  slots : Int
  instrs : List aD

def aT.ty : Ty := .agg [.bool, .int .i64, .int .i64, .sl 4 aD.ty]

def aT.sane (x : aT) : Prop := i64 x.params ∧ i64 x.slots ∧ (∀ y ∈ x.instrs, y.sane)

def gE (t : PT) (x : aT) : Prop := ∃ (A3 : Option Addr) (c3 : Nat), t = .agg [.bool x.block, .int .i64 x.params, .int .i64 x.slots, .sl A3 c3 4 ((x.instrs).map aD.pt)]

theorem gE.cells {t : PT} {x : aT} (h : gE t x) : t.cells.length = 4 := by
  obtain ⟨A3, c3, rfl⟩ := h
  rfl

theorem aT.of_ty {t : PT} (h : cu aT.ty t) : ∃ x : aT, gE t x := by
  simp only [aT.ty, cu, cY] at h
  obtain ⟨_, rfl, h⟩ := h
  obtain ⟨u0, _, rfl, h0, h⟩ := h
  obtain ⟨v0, rfl⟩ := h0
  obtain ⟨u1, _, rfl, h1, h⟩ := h
  obtain ⟨v1, rfl⟩ := h1
  obtain ⟨u2, _, rfl, h2, h⟩ := h
  obtain ⟨v2, rfl⟩ := h2
  obtain ⟨u3, _, rfl, h3, h⟩ := h
  obtain ⟨A3, c3, l3, rfl, h3⟩ := h3
  obtain ⟨v3, rfl⟩ := fx fun t ht => aD.of_ty (h3 t ht)
  subst h
  exact ⟨⟨v0, v1, v2, v3⟩, _, _, rfl⟩

theorem aT.sane_of {t : PT} {x : aT} (ha : gE t x) (h : t.sane) : x.sane := by
  obtain ⟨A3, c3, rfl⟩ := ha
  simp only [PT.sane, PT.saneL] at h
  exact ⟨bU h.2.1, bU h.2.2.1, fun y hy => aD.sane_of (PT.saneL_mem h.2.2.2.1 (List.mem_map_of_mem (f := aD.pt) hy))⟩

structure aW where
  owner : Int
  class_ : Bool
  selector : ByteArray
  code : Int

def aW.ty : Ty := .agg [.int .i64, .bool, .str, .int .i64]

def aW.sane (x : aW) : Prop := i64 x.owner ∧ x.selector.size ≤ maxLen ∧ i64 x.code

def aW.pt (x : aW) : PT := .agg [.int .i64 x.owner, .bool x.class_, .str x.selector, .int .i64 x.code]

theorem aW.flat : nw aW.pt 4 := ⟨fun _ => rfl, fun _ => rfl, fun _ _ => by simp [aW.pt, Own, gq], fun _ _ _ => by simp [aW.pt, dl, cg]⟩

theorem aW.of_ty {t : PT} (h : cu aW.ty t) : ∃ x : aW, t = x.pt := by
  simp only [aW.ty, cu, cY] at h
  obtain ⟨_, rfl, h⟩ := h
  obtain ⟨u0, _, rfl, h0, h⟩ := h
  obtain ⟨v0, rfl⟩ := h0
  obtain ⟨u1, _, rfl, h1, h⟩ := h
  obtain ⟨v1, rfl⟩ := h1
  obtain ⟨u2, _, rfl, h2, h⟩ := h
  obtain ⟨v2, rfl⟩ := h2
  obtain ⟨u3, _, rfl, h3, h⟩ := h
  obtain ⟨v3, rfl⟩ := h3
  subst h
  exact ⟨⟨v0, v1, v2, v3⟩, rfl⟩

theorem aW.sane_of {x : aW} (h : x.pt.sane) : x.sane := by
  simp only [aW.pt, PT.sane, PT.saneL] at h
  exact ⟨bU h.1, h.2.2.1, bU h.2.2.2.1⟩

structure am where
  name : ByteArray
  parent : Int
  fields : List ByteArray

def am.ty : Ty := .agg [.str, .int .i64, .sl 1 (.str)]

def am.sane (x : am) : Prop := x.name.size ≤ maxLen ∧ i64 x.parent ∧ (∀ s ∈ x.fields, s.size ≤ maxLen)

def cD (t : PT) (x : am) : Prop := ∃ (A2 : Option Addr) (c2 : Nat), t = .agg [.str x.name, .int .i64 x.parent, .sl A2 c2 1 ((x.fields).map PT.str)]

theorem cD.cells {t : PT} {x : am} (h : cD t x) : t.cells.length = 3 := by
  obtain ⟨A2, c2, rfl⟩ := h
  rfl

theorem am.of_ty {t : PT} (h : cu am.ty t) : ∃ x : am, cD t x := by
  simp only [am.ty, cu, cY] at h
  obtain ⟨_, rfl, h⟩ := h
  obtain ⟨u0, _, rfl, h0, h⟩ := h
  obtain ⟨v0, rfl⟩ := h0
  obtain ⟨u1, _, rfl, h1, h⟩ := h
  obtain ⟨v1, rfl⟩ := h1
  obtain ⟨u2, _, rfl, h2, h⟩ := h
  obtain ⟨A2, c2, l2, rfl, h2⟩ := h2
  obtain ⟨v2, rfl⟩ := fx fun t ht => h2 t ht
  subst h
  exact ⟨⟨v0, v1, v2⟩, _, _, rfl⟩

theorem am.sane_of {t : PT} {x : am} (ha : cD t x) (h : t.sane) : x.sane := by
  obtain ⟨A2, c2, rfl⟩ := ha
  simp only [PT.sane, PT.saneL] at h
  exact ⟨h.1, bU h.2.1, fun s hs => PT.saneL_mem h.2.2.1 (List.mem_map_of_mem (f := PT.str) hs)⟩

structure ba where
  classes : List am
  codes : List aT
  entries : List aW
  main : Int

def ba.ty : Ty := .agg [.sl 3 am.ty, .sl 4 aT.ty, .sl 4 aW.ty, .int .i64]

def ba.sane (x : ba) : Prop := (∀ y ∈ x.classes, y.sane) ∧ (∀ y ∈ x.codes, y.sane) ∧ (∀ y ∈ x.entries, y.sane) ∧ i64 x.main

def cM (t : PT) (x : ba) : Prop := ∃ (A0 : Option Addr) (c0 : Nat) (l0 : List PT) (A1 : Option Addr) (c1 : Nat) (l1 : List PT) (A2 : Option Addr) (c2 : Nat), AtL cD l0 (x.classes) ∧ AtL gE l1 (x.codes) ∧ t = .agg [.sl A0 c0 3 l0, .sl A1 c1 4 l1, .sl A2 c2 4 ((x.entries).map aW.pt), .int .i64 x.main]

theorem cM.cells {t : PT} {x : ba} (h : cM t x) : t.cells.length = 4 := by
  obtain ⟨A0, c0, l0, A1, c1, l1, A2, c2, h0, h1, rfl⟩ := h
  rfl

theorem ba.of_ty {t : PT} (h : cu ba.ty t) : ∃ x : ba, cM t x := by
  simp only [ba.ty, cu, cY] at h
  obtain ⟨_, rfl, h⟩ := h
  obtain ⟨u0, _, rfl, h0, h⟩ := h
  obtain ⟨A0, c0, l0, rfl, h0⟩ := h0
  obtain ⟨v0, k0⟩ := om fun t ht => am.of_ty (h0 t ht)
  obtain ⟨u1, _, rfl, h1, h⟩ := h
  obtain ⟨A1, c1, l1, rfl, h1⟩ := h1
  obtain ⟨v1, k1⟩ := om fun t ht => aT.of_ty (h1 t ht)
  obtain ⟨u2, _, rfl, h2, h⟩ := h
  obtain ⟨A2, c2, l2, rfl, h2⟩ := h2
  obtain ⟨v2, rfl⟩ := fx fun t ht => aW.of_ty (h2 t ht)
  obtain ⟨u3, _, rfl, h3, h⟩ := h
  obtain ⟨v3, rfl⟩ := h3
  subst h
  exact ⟨⟨v0, v1, v2, v3⟩, _, _, _, _, _, _, _, _, k0, k1, rfl⟩

theorem ba.sane_of {t : PT} {x : ba} (ha : cM t x) (h : t.sane) : x.sane := by
  obtain ⟨A0, c0, l0, A1, c1, l1, A2, c2, h0, h1, rfl⟩ := ha
  simp only [PT.sane, PT.saneL] at h
  exact ⟨fz h0 h.1 fun _ _ a b => am.sane_of a b, fz h1 h.2.1 fun _ _ a b => aT.sane_of a b, fun y hy => aW.sane_of (PT.saneL_mem h.2.2.1 (List.mem_map_of_mem (f := aW.pt) hy)), bU h.2.2.2.1⟩

structure aR where
  kind : Int
  class_ : Int
  fields : List aC
  numbers : List Int

def aR.ty : Ty := .agg [.int .i64, .int .i64, .sl 3 aC.ty, .sl 1 (.int .i64)]

def aR.sane (x : aR) : Prop := i64 x.kind ∧ i64 x.class_ ∧ (∀ y ∈ x.fields, y.sane) ∧ (∀ n ∈ x.numbers, i64 n)

def em (t : PT) (x : aR) : Prop := ∃ (A2 : Option Addr) (c2 : Nat) (A3 : Option Addr) (c3 : Nat), t = .agg [.int .i64 x.kind, .int .i64 x.class_, .sl A2 c2 3 ((x.fields).map aC.pt), .sl A3 c3 1 ((x.numbers).map (PT.int .i64))]

theorem em.cells {t : PT} {x : aR} (h : em t x) : t.cells.length = 4 := by
  obtain ⟨A2, c2, A3, c3, rfl⟩ := h
  rfl

theorem aR.of_ty {t : PT} (h : cu aR.ty t) : ∃ x : aR, em t x := by
  simp only [aR.ty, cu, cY] at h
  obtain ⟨_, rfl, h⟩ := h
  obtain ⟨u0, _, rfl, h0, h⟩ := h
  obtain ⟨v0, rfl⟩ := h0
  obtain ⟨u1, _, rfl, h1, h⟩ := h
  obtain ⟨v1, rfl⟩ := h1
  obtain ⟨u2, _, rfl, h2, h⟩ := h
  obtain ⟨A2, c2, l2, rfl, h2⟩ := h2
  obtain ⟨v2, rfl⟩ := fx fun t ht => aC.of_ty (h2 t ht)
  obtain ⟨u3, _, rfl, h3, h⟩ := h
  obtain ⟨A3, c3, l3, rfl, h3⟩ := h3
  obtain ⟨v3, rfl⟩ := fx fun t ht => h3 t ht
  subst h
  exact ⟨⟨v0, v1, v2, v3⟩, _, _, _, _, rfl⟩

theorem aR.sane_of {t : PT} {x : aR} (ha : em t x) (h : t.sane) : x.sane := by
  obtain ⟨A2, c2, A3, c3, rfl⟩ := ha
  simp only [PT.sane, PT.saneL] at h
  exact ⟨bU h.1, bU h.2.1, fun y hy => aC.sane_of (PT.saneL_mem h.2.2.1 (List.mem_map_of_mem (f := aC.pt) hy)), fun n hn => bU (PT.saneL_mem h.2.2.2.1 (List.mem_map_of_mem (f := PT.int .i64) hn))⟩

structure br where
  classes : List am
  objects : List aR
  output : List ByteArray
  ticks : Int
  budget : Int
  made : Int

def br.ty : Ty := .agg [.sl 3 am.ty, .sl 4 aR.ty, .sl 1 (.str), .int .i64, .int .i64, .int .i64]

def br.sane (x : br) : Prop := (∀ y ∈ x.classes, y.sane) ∧ (∀ y ∈ x.objects, y.sane) ∧ (∀ s ∈ x.output, s.size ≤ maxLen) ∧ i64 x.ticks ∧ i64 x.budget ∧ i64 x.made

def eG (t : PT) (x : br) : Prop := ∃ (A0 : Option Addr) (c0 : Nat) (l0 : List PT) (A1 : Option Addr) (c1 : Nat) (l1 : List PT) (A2 : Option Addr) (c2 : Nat), AtL cD l0 (x.classes) ∧ AtL em l1 (x.objects) ∧ t = .agg [.sl A0 c0 3 l0, .sl A1 c1 4 l1, .sl A2 c2 1 ((x.output).map PT.str), .int .i64 x.ticks, .int .i64 x.budget, .int .i64 x.made]

theorem eG.cells {t : PT} {x : br} (h : eG t x) : t.cells.length = 6 := by
  obtain ⟨A0, c0, l0, A1, c1, l1, A2, c2, h0, h1, rfl⟩ := h
  rfl

theorem br.of_ty {t : PT} (h : cu br.ty t) : ∃ x : br, eG t x := by
  simp only [br.ty, cu, cY] at h
  obtain ⟨_, rfl, h⟩ := h
  obtain ⟨u0, _, rfl, h0, h⟩ := h
  obtain ⟨A0, c0, l0, rfl, h0⟩ := h0
  obtain ⟨v0, k0⟩ := om fun t ht => am.of_ty (h0 t ht)
  obtain ⟨u1, _, rfl, h1, h⟩ := h
  obtain ⟨A1, c1, l1, rfl, h1⟩ := h1
  obtain ⟨v1, k1⟩ := om fun t ht => aR.of_ty (h1 t ht)
  obtain ⟨u2, _, rfl, h2, h⟩ := h
  obtain ⟨A2, c2, l2, rfl, h2⟩ := h2
  obtain ⟨v2, rfl⟩ := fx fun t ht => h2 t ht
  obtain ⟨u3, _, rfl, h3, h⟩ := h
  obtain ⟨v3, rfl⟩ := h3
  obtain ⟨u4, _, rfl, h4, h⟩ := h
  obtain ⟨v4, rfl⟩ := h4
  obtain ⟨u5, _, rfl, h5, h⟩ := h
  obtain ⟨v5, rfl⟩ := h5
  subst h
  exact ⟨⟨v0, v1, v2, v3, v4, v5⟩, _, _, _, _, _, _, _, _, k0, k1, rfl⟩

theorem br.sane_of {t : PT} {x : br} (ha : eG t x) (h : t.sane) : x.sane := by
  obtain ⟨A0, c0, l0, A1, c1, l1, A2, c2, h0, h1, rfl⟩ := ha
  simp only [PT.sane, PT.saneL] at h
  exact ⟨fz h0 h.1 fun _ _ a b => am.sane_of a b, fz h1 h.2.1 fun _ _ a b => aR.sane_of a b, fun s hs => PT.saneL_mem h.2.2.1 (List.mem_map_of_mem (f := PT.str) hs), bU h.2.2.2.1, bU h.2.2.2.2.1, bU h.2.2.2.2.2.1⟩

structure aQ where
  code : Int
  outer : Int
  home : Int
  self : aC

def aQ.ty : Ty := .agg [.int .i64, .int .i64, .int .i64, aC.ty]

def aQ.sane (x : aQ) : Prop := i64 x.code ∧ i64 x.outer ∧ i64 x.home ∧ x.self.sane

def aQ.pt (x : aQ) : PT := .agg [.int .i64 x.code, .int .i64 x.outer, .int .i64 x.home, x.self.pt]

theorem aQ.flat : nw aQ.pt 6 := ⟨fun _ => rfl, fun _ => rfl, fun _ _ => by simp [aQ.pt, Own, gq, aC.pt], fun _ _ _ => by simp [aQ.pt, dl, cg, aC.pt]⟩

theorem aQ.of_ty {t : PT} (h : cu aQ.ty t) : ∃ x : aQ, t = x.pt := by
  simp only [aQ.ty, cu, cY] at h
  obtain ⟨_, rfl, h⟩ := h
  obtain ⟨u0, _, rfl, h0, h⟩ := h
  obtain ⟨v0, rfl⟩ := h0
  obtain ⟨u1, _, rfl, h1, h⟩ := h
  obtain ⟨v1, rfl⟩ := h1
  obtain ⟨u2, _, rfl, h2, h⟩ := h
  obtain ⟨v2, rfl⟩ := h2
  obtain ⟨u3, _, rfl, h3, h⟩ := h
  obtain ⟨v3, rfl⟩ := aC.of_ty h3
  subst h
  exact ⟨⟨v0, v1, v2, v3⟩, rfl⟩

theorem aQ.sane_of {x : aQ} (h : x.pt.sane) : x.sane := by
  simp only [aQ.pt, PT.sane, PT.saneL] at h
  exact ⟨bU h.1, bU h.2.1, bU h.2.2.1, aC.sane_of h.2.2.2.1⟩

structure aL where
  mark : Int
  code : Int
  pc : Int
  sender : Int
  outer : Int
  home : Int
  self : aC
  slots : List aC
  stack : List aC
  values : List aC
  other : Int
  retry : Bool

def aL.ty : Ty := .agg [.int .i64, .int .i64, .int .i64, .int .i64, .int .i64, .int .i64, aC.ty, .sl 3 aC.ty, .sl 3 aC.ty, .sl 3 aC.ty, .int .i64, .bool]

def aL.sane (x : aL) : Prop := i64 x.mark ∧ i64 x.code ∧ i64 x.pc ∧ i64 x.sender ∧ i64 x.outer ∧ i64 x.home ∧ x.self.sane ∧ (∀ y ∈ x.slots, y.sane) ∧ (∀ y ∈ x.stack, y.sane) ∧ (∀ y ∈ x.values, y.sane) ∧ i64 x.other

def dJ (t : PT) (x : aL) : Prop := ∃ (A7 : Option Addr) (c7 : Nat) (A8 : Option Addr) (c8 : Nat) (A9 : Option Addr) (c9 : Nat), t = .agg [.int .i64 x.mark, .int .i64 x.code, .int .i64 x.pc, .int .i64 x.sender, .int .i64 x.outer, .int .i64 x.home, x.self.pt, .sl A7 c7 3 ((x.slots).map aC.pt), .sl A8 c8 3 ((x.stack).map aC.pt), .sl A9 c9 3 ((x.values).map aC.pt), .int .i64 x.other, .bool x.retry]

theorem dJ.cells {t : PT} {x : aL} (h : dJ t x) : t.cells.length = 14 := by
  obtain ⟨A7, c7, A8, c8, A9, c9, rfl⟩ := h
  rfl

theorem aL.of_ty {t : PT} (h : cu aL.ty t) : ∃ x : aL, dJ t x := by
  simp only [aL.ty, cu, cY] at h
  obtain ⟨_, rfl, h⟩ := h
  obtain ⟨u0, _, rfl, h0, h⟩ := h
  obtain ⟨v0, rfl⟩ := h0
  obtain ⟨u1, _, rfl, h1, h⟩ := h
  obtain ⟨v1, rfl⟩ := h1
  obtain ⟨u2, _, rfl, h2, h⟩ := h
  obtain ⟨v2, rfl⟩ := h2
  obtain ⟨u3, _, rfl, h3, h⟩ := h
  obtain ⟨v3, rfl⟩ := h3
  obtain ⟨u4, _, rfl, h4, h⟩ := h
  obtain ⟨v4, rfl⟩ := h4
  obtain ⟨u5, _, rfl, h5, h⟩ := h
  obtain ⟨v5, rfl⟩ := h5
  obtain ⟨u6, _, rfl, h6, h⟩ := h
  obtain ⟨v6, rfl⟩ := aC.of_ty h6
  obtain ⟨u7, _, rfl, h7, h⟩ := h
  obtain ⟨A7, c7, l7, rfl, h7⟩ := h7
  obtain ⟨v7, rfl⟩ := fx fun t ht => aC.of_ty (h7 t ht)
  obtain ⟨u8, _, rfl, h8, h⟩ := h
  obtain ⟨A8, c8, l8, rfl, h8⟩ := h8
  obtain ⟨v8, rfl⟩ := fx fun t ht => aC.of_ty (h8 t ht)
  obtain ⟨u9, _, rfl, h9, h⟩ := h
  obtain ⟨A9, c9, l9, rfl, h9⟩ := h9
  obtain ⟨v9, rfl⟩ := fx fun t ht => aC.of_ty (h9 t ht)
  obtain ⟨u10, _, rfl, h10, h⟩ := h
  obtain ⟨v10, rfl⟩ := h10
  obtain ⟨u11, _, rfl, h11, h⟩ := h
  obtain ⟨v11, rfl⟩ := h11
  subst h
  exact ⟨⟨v0, v1, v2, v3, v4, v5, v6, v7, v8, v9, v10, v11⟩, _, _, _, _, _, _, rfl⟩

theorem aL.sane_of {t : PT} {x : aL} (ha : dJ t x) (h : t.sane) : x.sane := by
  obtain ⟨A7, c7, A8, c8, A9, c9, rfl⟩ := ha
  simp only [PT.sane, PT.saneL] at h
  exact ⟨bU h.1, bU h.2.1, bU h.2.2.1, bU h.2.2.2.1, bU h.2.2.2.2.1, bU h.2.2.2.2.2.1, aC.sane_of h.2.2.2.2.2.2.1, fun y hy => aC.sane_of (PT.saneL_mem h.2.2.2.2.2.2.2.1 (List.mem_map_of_mem (f := aC.pt) hy)), fun y hy => aC.sane_of (PT.saneL_mem h.2.2.2.2.2.2.2.2.1 (List.mem_map_of_mem (f := aC.pt) hy)), fun y hy => aC.sane_of (PT.saneL_mem h.2.2.2.2.2.2.2.2.2.1 (List.mem_map_of_mem (f := aC.pt) hy)), bU h.2.2.2.2.2.2.2.2.2.2.1⟩

structure aU where
  at_ : Int
  main : Bool

def aU.ty : Ty := .agg [.int .i64, .bool]

def aU.sane (x : aU) : Prop := i64 x.at_

def aU.pt (x : aU) : PT := .agg [.int .i64 x.at_, .bool x.main]

theorem aU.flat : nw aU.pt 2 := ⟨fun _ => rfl, fun _ => rfl, fun _ _ => by simp [aU.pt, Own, gq], fun _ _ _ => by simp [aU.pt, dl, cg]⟩

theorem aU.of_ty {t : PT} (h : cu aU.ty t) : ∃ x : aU, t = x.pt := by
  simp only [aU.ty, cu, cY] at h
  obtain ⟨_, rfl, h⟩ := h
  obtain ⟨u0, _, rfl, h0, h⟩ := h
  obtain ⟨v0, rfl⟩ := h0
  obtain ⟨u1, _, rfl, h1, h⟩ := h
  obtain ⟨v1, rfl⟩ := h1
  subst h
  exact ⟨⟨v0, v1⟩, rfl⟩

theorem aU.sane_of {x : aU} (h : x.pt.sane) : x.sane := by
  simp only [aU.pt, PT.sane, PT.saneL] at h
  exact bU h.1

structure aM where
  base : ba
  store : br
  blocks : List aQ
  contexts : List aL
  processes : List aU
  ready : List Int
  now : Int
  status : Int
  value : aC
  fault : ByteArray

def aM.ty : Ty := .agg [ba.ty, br.ty, .sl 6 aQ.ty, .sl 14 aL.ty, .sl 2 aU.ty, .sl 1 (.int .i64), .int .i64, .int .i64, aC.ty, .str]

def aM.sane (x : aM) : Prop := x.base.sane ∧ x.store.sane ∧ (∀ y ∈ x.blocks, y.sane) ∧ (∀ y ∈ x.contexts, y.sane) ∧ (∀ y ∈ x.processes, y.sane) ∧ (∀ n ∈ x.ready, i64 n) ∧ i64 x.now ∧ i64 x.status ∧ x.value.sane ∧ x.fault.size ≤ maxLen

def eD (t : PT) (x : aM) : Prop := ∃ (t0 : PT) (t1 : PT) (A2 : Option Addr) (c2 : Nat) (A3 : Option Addr) (c3 : Nat) (l3 : List PT) (A4 : Option Addr) (c4 : Nat) (A5 : Option Addr) (c5 : Nat), cM t0 x.base ∧ eG t1 x.store ∧ AtL dJ l3 (x.contexts) ∧ t = .agg [t0, t1, .sl A2 c2 6 ((x.blocks).map aQ.pt), .sl A3 c3 14 l3, .sl A4 c4 2 ((x.processes).map aU.pt), .sl A5 c5 1 ((x.ready).map (PT.int .i64)), .int .i64 x.now, .int .i64 x.status, x.value.pt, .str x.fault]

theorem eD.cells {t : PT} {x : aM} (h : eD t x) : t.cells.length = 20 := by
  obtain ⟨t0, t1, A2, c2, A3, c3, l3, A4, c4, A5, c5, h0, h1, h2, rfl⟩ := h
  have e0 := cM.cells h0
  have e1 := eG.cells h1
  simp [PT.cells, PT.cellsL, List.length_append, List.length_cons, List.length_nil, aC.pt, e0, e1]

theorem aM.of_ty {t : PT} (h : cu aM.ty t) : ∃ x : aM, eD t x := by
  simp only [aM.ty, cu, cY] at h
  obtain ⟨_, rfl, h⟩ := h
  obtain ⟨u0, _, rfl, h0, h⟩ := h
  obtain ⟨v0, k0⟩ := ba.of_ty h0
  obtain ⟨u1, _, rfl, h1, h⟩ := h
  obtain ⟨v1, k1⟩ := br.of_ty h1
  obtain ⟨u2, _, rfl, h2, h⟩ := h
  obtain ⟨A2, c2, l2, rfl, h2⟩ := h2
  obtain ⟨v2, rfl⟩ := fx fun t ht => aQ.of_ty (h2 t ht)
  obtain ⟨u3, _, rfl, h3, h⟩ := h
  obtain ⟨A3, c3, l3, rfl, h3⟩ := h3
  obtain ⟨v3, k3⟩ := om fun t ht => aL.of_ty (h3 t ht)
  obtain ⟨u4, _, rfl, h4, h⟩ := h
  obtain ⟨A4, c4, l4, rfl, h4⟩ := h4
  obtain ⟨v4, rfl⟩ := fx fun t ht => aU.of_ty (h4 t ht)
  obtain ⟨u5, _, rfl, h5, h⟩ := h
  obtain ⟨A5, c5, l5, rfl, h5⟩ := h5
  obtain ⟨v5, rfl⟩ := fx fun t ht => h5 t ht
  obtain ⟨u6, _, rfl, h6, h⟩ := h
  obtain ⟨v6, rfl⟩ := h6
  obtain ⟨u7, _, rfl, h7, h⟩ := h
  obtain ⟨v7, rfl⟩ := h7
  obtain ⟨u8, _, rfl, h8, h⟩ := h
  obtain ⟨v8, rfl⟩ := aC.of_ty h8
  obtain ⟨u9, _, rfl, h9, h⟩ := h
  obtain ⟨v9, rfl⟩ := h9
  subst h
  exact ⟨⟨v0, v1, v2, v3, v4, v5, v6, v7, v8, v9⟩, _, _, _, _, _, _, _, _, _, _, _, k0, k1, k3, rfl⟩

theorem aM.sane_of {t : PT} {x : aM} (ha : eD t x) (h : t.sane) : x.sane := by
  obtain ⟨t0, t1, A2, c2, A3, c3, l3, A4, c4, A5, c5, h0, h1, h2, rfl⟩ := ha
  simp only [PT.sane, PT.saneL] at h
  exact ⟨ba.sane_of h0 h.1, br.sane_of h1 h.2.1, fun y hy => aQ.sane_of (PT.saneL_mem h.2.2.1 (List.mem_map_of_mem (f := aQ.pt) hy)), fz h2 h.2.2.2.1 fun _ _ a b => aL.sane_of a b, fun y hy => aU.sane_of (PT.saneL_mem h.2.2.2.2.1 (List.mem_map_of_mem (f := aU.pt) hy)), fun n hn => bU (PT.saneL_mem h.2.2.2.2.2.1 (List.mem_map_of_mem (f := PT.int .i64) hn)), bU h.2.2.2.2.2.2.1, bU h.2.2.2.2.2.2.2.1, aC.sane_of h.2.2.2.2.2.2.2.2.1, h.2.2.2.2.2.2.2.2.2.1⟩

structure dM where
  code : Int
  at_ : Int
  kind : Int

def dM.ty : Ty := .agg [.int .i64, .int .i64, .int .i64]

def dM.sane (x : dM) : Prop := i64 x.code ∧ i64 x.at_ ∧ i64 x.kind

def dM.pt (x : dM) : PT := .agg [.int .i64 x.code, .int .i64 x.at_, .int .i64 x.kind]

theorem dM.flat : nw dM.pt 3 := ⟨fun _ => rfl, fun _ => rfl, fun _ _ => by simp [dM.pt, Own, gq], fun _ _ _ => by simp [dM.pt, dl, cg]⟩

theorem dM.of_ty {t : PT} (h : cu dM.ty t) : ∃ x : dM, t = x.pt := by
  simp only [dM.ty, cu, cY] at h
  obtain ⟨_, rfl, h⟩ := h
  obtain ⟨u0, _, rfl, h0, h⟩ := h
  obtain ⟨v0, rfl⟩ := h0
  obtain ⟨u1, _, rfl, h1, h⟩ := h
  obtain ⟨v1, rfl⟩ := h1
  obtain ⟨u2, _, rfl, h2, h⟩ := h
  obtain ⟨v2, rfl⟩ := h2
  subst h
  exact ⟨⟨v0, v1, v2⟩, rfl⟩

theorem dM.sane_of {x : dM} (h : x.pt.sane) : x.sane := by
  simp only [dM.pt, PT.sane, PT.saneL] at h
  exact ⟨bU h.1, bU h.2.1, bU h.2.2.1⟩


theorem gr {H : Type} {enc : TypeId × Value → H} {a : Assume} {C : Checked} {os : Os} {f : FuncId} {fn : Func} {s : ChangeSpec} {conds : List PathCond} {apart fresh handsOn again : Bool} {X : World → Array Value → Prop}
    (hX : ∀ (w w' : World) (args : Array Value), w.heap = w'.heap → X w args → X w' args)
    (own : ownKnob C.prog.godebug = none) (started : os.Started) (noInit : C.prog.inits.idxOf? f = none) (hfn : C.prog.funcs[f]? = some fn)
    (witness : ∃ (w : World) (tape : Tape) (i : Input), w.os = os ∧ (w.forCall tape i).Shaped C.prog ∧ i.vars = [] ∧ Input.okWide C.prog (w.forCall tape i) .any w.heap.size f i ∧
      ((s.pre enc C.prog fn conds apart (w.forCall tape i).memory i.args ∧ X (w.forCall tape i).memory i.args) ∧ sizedMet enc C.prog fn (OpenSpec.ofChange s) apart (w.forCall tape i).memory i.args) ∧ a.holds C.prog (lone (Frame.enter C.prog f i.args .normal) [] (w.forCall tape i)))
    (contract : ∀ (W : World) (base : Nat) (args : Array Value) (ds gs : List (DataW H)) (before : List MemPlace),
      (∀ (j : Nat) t v, fn.params[j]? = some t → args[j]? = some v → Value.okWide C.prog W .any base t v) →
      DataW.Whole enc C.prog fn.params.toList s.vars apart W args.toList ds gs before →
      conds.all (PathCond.test C.prog ⟨fn.params.toList, ds, s.plain.varTypes C.prog, gs⟩) = true →
      (DataW.weightsEach C.prog (fn.params.toList ++ s.plain.varTypes C.prog) (ds ++ gs)).all (· ≤ reachBytes) = true → X W args → W.ShapedOpen C.prog →
      a.holds C.prog (lone (Frame.enter C.prog f args .normal) [] W) →
      Calls C.prog f args W fun e W' => ∃ v, e = .returned v ∧ s.post enc C.prog fn apart fresh handsOn again W args v W') :
    ReturnsInHanded a C os f .any (fun w args => (s.pre enc C.prog fn conds apart w args ∧ X w args) ∧ sizedMet enc C.prog fn (OpenSpec.ofChange s) apart w args) (s.post enc C.prog fn apart fresh handsOn again) := by
  refine returnsInHanded_of_calls own started noInit witness ?_
  intro w tape i _ hsh _ hok hpre hholds
  obtain ⟨_, _, _, fn', hfn', _, _, _, _, hval⟩ := hok
  have e : fn' = fn := Option.some.inj (hfn'.symm.trans hfn)
  subst e
  obtain ⟨⟨⟨ds, gs, before, hw, hc⟩, hx⟩, hz⟩ := hpre
  have hw' := DataW.Whole.of_heap (w' := w.forCall tape i) (by rfl) hw
  refine (contract (w.forCall tape i) w.heap.size i.args ds gs before hval hw' hc (hz.weights hw) (hX _ _ _ (by rfl) hx) hsh hholds).mono fun e W' ⟨v, he, hp⟩ => ?_
  subst he
  exact ChangeSpec.post_blind hp

theorem xH {W : World} (h : W.ShapedOpen Tryz.prog) : oB W :=
  cell_of_shapedOpen_int (zero := #[.int .i64 0]) h (of_decide_eq_true (by kernel_rfl)) (by kernel_rfl) (by kernel_rfl) (by kernel_rfl) (by kernel_rfl) Tryz.underlying3

inductive TV where
  | int (k : IntKind) (n : Int)
  | bool (b : Bool)
  | str (s : ByteArray)
  | agg (l : List TV)
  | sl (f : Nat) (m : Nat) (rows : List (List TV))
  | cp (f : Nat) (l : List TV)
  | nilp
  | nils
  | ms (s b off len : Nat)
  | mp (s b off : Nat)
  | me (s b m k j : Nat)
  | tup (l : List TV)
  | fn (f : FuncId) (l : List TV)
  | top
  | gh (l : List (TV × Value))

def TV.isCell : TV → Bool
  | .agg _ => false
  | .tup _ => false
  | .top => false
  | .gh _ => false
  | _ => true

inductive ca where
  | row (m : Nat) (rows : List (List TV))
  | box (cells : List TV)
  | void
  | iter (s : ByteArray) (pos : Nat)

abbrev bp := List (Nat × Nat × ca)
abbrev Env := List (Nat × TV)

def lk (t : Nat) : Env → Option TV
  | [] => none
  | (s, v) :: r => bif Nat.beq s t then some v else lk t r
theorem sI {s t : Nat} (h : s ≠ t) : Nat.beq s t = false := by
  cases hb : Nat.beq s t
  · rfl
  · exact absurd (Nat.eq_of_beq_eq_true hb) h
theorem bL (t s : Nat) (v : TV) (r : Env) : lk t ((s, v) :: r) = if s = t then some v else lk t r := by
  show (bif Nat.beq s t then some v else lk t r) = _
  by_cases h : s = t
  · subst h; simp
  · rw [sI h, if_neg h]; rfl

def kW (objs : bp) (b : Nat) : Prop := b ≠ 0 ∧ ∃ s o, (s, b, o) ∈ objs
def ZZ (objs : bp) (lo : Nat) (b : Nat) : Prop := lo ≤ b ∧ ¬ kW objs b

def dg : Nat × Nat × ca := (0, 0, .row 0 [])
def xZ (w : World) (objs : bp) (s b off len : Nat) (v : Value) : Prop :=
  (b < w.heap.size ∧ dg ∉ objs ∧ ∃ A c, v = Value.slice A len c) ∧ (b = 0 → off = 0 ∧ len = 0 ∧ v = .slice none 0 0) ∧ ∀ m rows, b ≠ 0 → (s, b, ca.row m rows) ∈ objs →
    ∃ o c e n, v = .slice (some ⟨b, o, none⟩) len c ∧ len ≤ c ∧ w.shape? b = some (e, n) ∧ n = (off + c) * m ∧ (0 < c ∨ off = 0 → o = off * m)
theorem xZ.or {w : World} {objs : bp} {s b off len : Nat} {v : Value} (h : xZ w objs s b off len v) (m : Nat) (rows : List (List TV)) (hm : (s, b, ca.row m rows) ∈ objs) :
    (b = 0 ∧ off = 0 ∧ len = 0 ∧ v = .slice none 0 0) ∨
    (b ≠ 0 ∧ ∃ o c e n, v = .slice (some ⟨b, o, none⟩) len c ∧ len ≤ c ∧ w.shape? b = some (e, n) ∧ n = (off + c) * m ∧ (0 < c ∨ off = 0 → o = off * m)) := by
  by_cases hb : b = 0
  · exact .inl ⟨hb, h.2.1 hb⟩
  · exact .inr ⟨hb, h.2.2 m rows hb hm⟩
theorem xZ.mk {w : World} {objs : bp} {s b off len : Nat} {v : Value} (h1 : b < w.heap.size ∧ dg ∉ objs ∧ ∃ A c, v = Value.slice A len c) (h2 : ∀ (m : Nat) (rows : List (List TV)), (s, b, ca.row m rows) ∈ objs →
    (b = 0 ∧ off = 0 ∧ len = 0 ∧ v = .slice none 0 0) ∨
    (b ≠ 0 ∧ ∃ o c e n, v = .slice (some ⟨b, o, none⟩) len c ∧ len ≤ c ∧ w.shape? b = some (e, n) ∧ n = (off + c) * m ∧ (0 < c ∨ off = 0 → o = off * m))) (h3 : b = 0 → off = 0 ∧ len = 0 ∧ v = .slice none 0 0) : xZ w objs s b off len v :=
  ⟨h1, h3, fun m rows hb hm => (h2 m rows hm).elim (fun h => absurd h.1 hb) (fun h => h.2)⟩

inductive Rep (w : World) (objs : bp) : TV → Value → Prop
  | int (k : IntKind) (n : Int) : Rep w objs (.int k n) (.int k n)
  | bool (b : Bool) : Rep w objs (.bool b) (.bool b)
  | str (s : ByteArray) : Rep w objs (.str s) (.string s)
  | agg (l : List TV) (vs : Array Value) (hi : ∀ t ∈ l, t.isCell = true) (h : l.length = vs.size) (h2 : ∀ (i : Nat) (t : TV) (v : Value), l[i]? = some t → vs[i]? = some v → Rep w objs t v) : Rep w objs (.agg l) (.agg vs)
  | sl (f : Nat) (m : Nat) (rows : List (List TV)) (A : Option Addr) (c : Nat) (h1 : rows.length ≤ c) (h2 : c ≤ maxLen) (hm : ∀ r ∈ rows, r.length = m) (hi : ∀ t ∈ rows.flatten, t.isCell = true) (g : Nat → Value)
      (hc : ∀ (j : Nat) (t : TV), rows.flatten[j]? = some t → ∃ b o, A = some ⟨b, o, none⟩ ∧ ZZ objs f b ∧ w.cell? ⟨b, o + j, none⟩ = some (g j))
      (hr : ∀ (j : Nat) (t : TV), rows.flatten[j]? = some t → Rep w objs t (g j)) : Rep w objs (.sl f m rows) (.slice A rows.length c)
  | cp (f : Nat) (l : List TV) (hi : ∀ t ∈ l, t.isCell = true) (b o : Nat) (g : Nat → Value) (hZ : ZZ objs f b) (hb : b < w.heap.size) (hc : ∀ (j : Nat) (t : TV), l[j]? = some t → w.cell? ⟨b, o + j, none⟩ = some (g j))
      (hr : ∀ (j : Nat) (t : TV), l[j]? = some t → Rep w objs t (g j)) : Rep w objs (.cp f l) (.pointer (some ⟨b, o, none⟩))
  | nilp : Rep w objs .nilp (.pointer none)
  | nils : Rep w objs .nils (.slice none 0 0)
  | ms (s b off len : Nat) (v : Value) (h : xZ w objs s b off len v) : Rep w objs (.ms s b off len) v
  | mp (s b off : Nat) (h : b < w.heap.size ∧ dg ∉ objs) : Rep w objs (.mp s b off) (.pointer (some ⟨b, off, none⟩))
  | me (s b m k j : Nat) (h : b < w.heap.size ∧ dg ∉ objs) : Rep w objs (.me s b m k j) (.pointer (some ⟨b, k * m + j, none⟩))
  | tup (l : List TV) (vs : Array Value) (h : l.length = vs.size) (h2 : ∀ (i : Nat) (t : TV) (v : Value), l[i]? = some t → vs[i]? = some v → Rep w objs t v) : Rep w objs (.tup l) (.tuple vs)
  | fn (f : FuncId) (l : List TV) (vs : Array Value) (h : l.length = vs.size) (h2 : ∀ (i : Nat) (t : TV) (v : Value), l[i]? = some t → vs[i]? = some v → Rep w objs t v) : Rep w objs (.fn f l) (.func (.func f) #[] vs)
  | top (v : Value) : Rep w objs .top v
  | gh (l : List (TV × Value)) (v : Value) (h : ∀ (i : Nat) (t : TV) (u : Value), l[i]? = some (t, u) → Rep w objs t u) : Rep w objs (.gh l) v

def oK (w : World) (B : Nat) (objs : bp) (b : Nat) : ca → Prop
  | .void => b = 0
  | .iter s pos => B ≤ b ∧ w.heap[b]? = some (.stringIter s pos)
  | .row m rows => (0 < m ∧ ∀ t ∈ rows.flatten, t.isCell = true) ∧ (∀ r ∈ rows, r.length = m) ∧ ((b = 0 ∧ rows = []) ∨ (B ≤ b ∧ ∃ cur e cap, w.heap[b]? = some (.cells cur e (0, 0)) ∧ cur.size = cap * m ∧ rows.length ≤ cap ∧ cap ≤ maxLen ∧
      ∀ (j : Nat) (t : TV), rows.flatten[j]? = some t → ∃ v, cur[j]? = some v ∧ Rep w objs t v))
  | .box cells => (B ≤ b ∧ ∀ t ∈ cells, t.isCell = true) ∧ ∃ cur e, w.heap[b]? = some (.cells cur e (0, 0)) ∧ cur.size = cells.length ∧ ∀ (j : Nat) (t : TV), cells[j]? = some t → ∃ v, cur[j]? = some v ∧ Rep w objs t v

structure gT (w : World) (objs : bp) (w' : World) (objs' : bp) : Prop where
  blk : ∀ b, b < w.heap.size → ¬ kW objs b → w'.heap[b]? = w.heap[b]?
  al : ∀ b, b < w.heap.size → kW objs' b → kW objs b
  ms : ∀ s b m rows, b < w.heap.size → b ≠ 0 → (s, b, ca.row m rows) ∈ objs' → (∃ rows0, (s, b, ca.row m rows0) ∈ objs) ∧ w'.shape? b = w.shape? b
  size : w.heap.size ≤ w'.heap.size
  mark : dg ∈ objs' → dg ∈ objs

theorem lJ {w : World} {a : Addr} {v : Value} (h : w.cell? a = some v) : a.block < w.heap.size := World.block_lt_of_cell? w a h

theorem Rep.step {w w' : World} {objs objs' : bp} (hs : gT w objs w' objs') {t : TV} {v : Value} (h : Rep w objs t v) : Rep w' objs' t v := by
  have hcell : ∀ (f : Nat) b o v, ZZ objs f b → w.cell? ⟨b, o, none⟩ = some v → ZZ objs' f b ∧ w'.cell? ⟨b, o, none⟩ = some v := fun f b o v hz hc => by
    have hb := lJ hc
    exact ⟨⟨hz.1, fun ha => hz.2 (hs.al b hb ha)⟩, (World.cell?_of_block (w := w) (w' := w') (a := ⟨b, o, none⟩) (hs.blk b hb hz.2)).trans hc⟩
  induction h with
  | int k n => exact .int k n
  | bool b => exact .bool b
  | str s => exact .str s
  | agg l vs hi h h2 ih => exact .agg l vs hi h ih
  | sl f m rows A c h1 h2 hm hi g hc hr ih =>
    refine .sl f m rows A c h1 h2 hm hi g (fun j t hj => ?_) ih
    obtain ⟨b, o, hA, hz, hcc⟩ := hc j t hj
    obtain ⟨h3, h4⟩ := hcell f b (o + j) _ hz hcc
    exact ⟨b, o, hA, h3, h4⟩
  | cp f l hi b o g hZ hb hc hr ih =>
    exact .cp f l hi b o g ⟨hZ.1, fun ha => hZ.2 (hs.al b hb ha)⟩ (Nat.lt_of_lt_of_le hb hs.size) (fun j t hj => (hcell f b (o + j) _ hZ (hc j t hj)).2) ih
  | nilp => exact .nilp
  | nils => exact .nils
  | ms s b off len v h =>
    refine .ms s b off len v ⟨⟨Nat.lt_of_lt_of_le h.1.1 hs.size, fun hk => h.1.2.1 (hs.mark hk), h.1.2.2⟩, h.2.1, fun m rows hb hm => ?_⟩
    obtain ⟨⟨rows0, h0⟩, hsh⟩ := hs.ms s b m rows h.1.1 hb hm
    obtain ⟨o, c, e, n, h3, h4, h5, h6⟩ := h.2.2 m rows0 hb h0
    exact ⟨o, c, e, n, h3, h4, hsh.trans h5, h6⟩
  | mp s b off h => exact .mp s b off ⟨Nat.lt_of_lt_of_le h.1 hs.size, fun hk => h.2 (hs.mark hk)⟩
  | me s b m k j h => exact .me s b m k j ⟨Nat.lt_of_lt_of_le h.1 hs.size, fun hk => h.2 (hs.mark hk)⟩
  | tup l vs h h2 ih => exact .tup l vs h ih
  | fn f l vs h h2 ih => exact .fn f l vs h ih
  | top v => exact .top v
  | gh l v h ih => exact .gh l v ih

abbrev dH : Nat × Nat × ca → Nat × Nat × ca → Prop := fun x y => x.1 ≠ y.1 ∧ (x.2.1 ≠ y.2.1 ∨ x.2.1 = 0)
structure cV (w0 : World) (objs : bp) (w : World) : Prop where
  below : Below w0.heap.size w0 w
  pos : 0 < w0.heap.size
  obj : ∀ s b o, (s, b, o) ∈ objs → oK w w0.heap.size objs b o
  sites : List.Pairwise dH objs

theorem cV.noMark {w0 w : World} {objs : bp} (h : cV w0 objs w) : dg ∉ objs := fun hm => absurd (h.obj 0 0 _ hm).1.1 (Nat.lt_irrefl _)

structure Sim (w0 : World) (N : Nat) (env : Env) (objs : bp) (a : Act) (w : World) : Prop where
  defers : a.defers = []
  size : a.tmps.size = N
  mem : cV w0 objs w
  env : ∀ t v, lk t env = some v → Rep w objs v (a.tmps.getD t undef)

structure AW (P : Program) (w0 : World) (N : Nat) (c : Code) (Q : Exit → Act → World → Prop) (env : Env) (objs : bp) : Prop where
  run : ∀ a w, Sim w0 N env objs a w → c.wp P Q a w
structure AL (P : Program) (w0 : World) (N : Nat) (ops : Array Oper) (Q : Exit → Act → World → Prop) (rest : List Oper) (env : Env) (objs : bp) : Prop where
  run : ∀ a w, Sim w0 N env objs a w → wpList P ops Q rest a w
structure AO (P : Program) (w0 : World) (N : Nat) (ops : Array Oper) (Q : Exit → Act → World → Prop) (o : Oper) (rest : List Oper) (env : Env) (objs : bp) : Prop where
  run : ∀ a w (K : Act → World → Prop), Sim w0 N env objs a w → (∀ a w, wpList P ops Q rest a w → K a w) → o.wp P a w K Q
structure AQ (w0 : World) (N : Nat) (Q : Exit → Act → World → Prop) (x : Exit) (env : Env) (objs : bp) : Prop where
  run : ∀ a w, Sim w0 N env objs a w → Q x a w

section
variable {P : Program} {w0 : World} {N : Nat} {Q : Exit → Act → World → Prop} {env : Env} {objs : bp}

theorem ag {x y : Code} (h : AW P w0 N x (Exit.then (y.wp P Q) Q) env objs) : AW P w0 N (.seq x y) Q env objs := ⟨fun a w hs => wp_seq (h.run a w hs)⟩
theorem ap (h : AQ w0 N Q .normal env objs) : AW P w0 N .skip Q env objs := ⟨fun a w hs => wp_skip (h.run a w hs)⟩
theorem aH {id : Nat} (h : AQ w0 N Q (.exit id) env objs) : AW P w0 N (.exit id) Q env objs := ⟨fun a w hs => wp_exit (h.run a w hs)⟩
theorem au (h : AQ w0 N Q .ret env objs) : AW P w0 N .ret Q env objs := ⟨fun a w hs => wp_ret (h.run a w hs)⟩
theorem ai {id : Nat} {c : Code} (h : AW P w0 N c (Exit.inBlock id Q) env objs) : AW P w0 N (.block id c) Q env objs := ⟨fun a w hs => wp_block (h.run a w hs)⟩
theorem aa {id : Nat} {l : List Oper} (h : AL P w0 N l.toArray Q l env objs) : AW P w0 N (.region id l.toArray false) Q env objs := ⟨fun a w hs => wp_region_lit (h.run a w hs)⟩
theorem ah {ops : Array Oper} (h : AQ w0 N Q .normal env objs) : AL P w0 N ops Q [] env objs := ⟨fun a w hs => wpList_nil (h.run a w hs)⟩

theorem ac {y : Code} (h : AW P w0 N y Q env objs) : AQ w0 N (Exit.then (y.wp P Q) Q) .normal env objs := ⟨h.run⟩
theorem aq {K : Act → World → Prop} {id : Nat} (h : AQ w0 N Q (.exit id) env objs) : AQ w0 N (Exit.then K Q) (.exit id) env objs := ⟨h.run⟩
theorem ad {K : Act → World → Prop} (h : AQ w0 N Q .ret env objs) : AQ w0 N (Exit.then K Q) .ret env objs := ⟨h.run⟩
theorem aB {id : Nat} (h : AQ w0 N Q .normal env objs) : AQ w0 N (Exit.inBlock id Q) .normal env objs := ⟨h.run⟩
theorem ak {id : Nat} (h : AQ w0 N Q .ret env objs) : AQ w0 N (Exit.inBlock id Q) .ret env objs := ⟨h.run⟩
theorem ar {id : Nat} (h : AQ w0 N Q .normal env objs) : AQ w0 N (Exit.inBlock id Q) (.exit id) env objs := ⟨fun a w hs => by
  show (if id = id then _ else _)
  rw [if_pos rfl]; exact h.run a w hs⟩
theorem Rep.bool_inv {w : World} {b : Bool} {v : Value} (h : Rep w objs (.bool b) v) : v = .bool b := by cases h; rfl
theorem Rep.int_inv {w : World} {k : IntKind} {n : Int} {v : Value} (h : Rep w objs (.int k n) v) : v = .int k n := by cases h; rfl
theorem Rep.str_inv {w : World} {s : ByteArray} {v : Value} (h : Rep w objs (.str s) v) : v = .string s := by cases h; rfl

theorem bD {t : Nat} {v : TV} {p : Prop} {i : Decidable p} {x y : Code} (hl : lk t env = some v) (he : v = .bool (@decide p i)) (ht : p → AW P w0 N x Q env objs) (hf : ¬ p → AW P w0 N y Q env objs) : AW P w0 N (.cond (.tmp t) x y) Q env objs := ⟨fun a w hs => by
  have hv : a.eval (.tmp t) = .bool (decide p) := (hs.env t _ (he ▸ hl)).bool_inv
  by_cases h : p
  · exact wp_cond_true (by rw [hv]; simp [h]) ((ht h).run a w hs)
  · exact wp_cond_false (by rw [hv]; simp [h]) ((hf h).run a w hs)⟩
theorem cf {t : Nat} {v : TV} {b : Bool} {x y : Code} (hl : lk t env = some v) (he : v = .bool b) (ht : b = true → AW P w0 N x Q env objs) (hf : b = false → AW P w0 N y Q env objs) : AW P w0 N (.cond (.tmp t) x y) Q env objs := ⟨fun a w hs => by
  have hv : a.eval (.tmp t) = .bool b := (hs.env t _ (he ▸ hl)).bool_inv
  exact wp_cond_split hv (fun h => (ht h).run a w hs) (fun h => (hf h).run a w hs)⟩
theorem av {t : Nat} {v : TV} {x y : Code} (hl : lk t env = some v) (he : v = .bool true) (ht : AW P w0 N x Q env objs) : AW P w0 N (.cond (.tmp t) x y) Q env objs := ⟨fun a w hs => wp_cond_true (hs.env t _ (he ▸ hl)).bool_inv (ht.run a w hs)⟩
theorem az {t : Nat} {v : TV} {x y : Code} (hl : lk t env = some v) (he : v = .bool false) (hf : AW P w0 N y Q env objs) : AW P w0 N (.cond (.tmp t) x y) Q env objs := ⟨fun a w hs => wp_cond_false (hs.env t _ (he ▸ hl)).bool_inv (hf.run a w hs)⟩
theorem ae {t : Nat} {v : TV} {p : Prop} {i : Decidable p} {x y : Code} (hl : lk t env = some v) (he : v = .bool (@decide p i)) (hp : p) (ht : AW P w0 N x Q env objs) : AW P w0 N (.cond (.tmp t) x y) Q env objs := bD hl he (fun _ => ht) (fun h => absurd hp h)
theorem aj {t : Nat} {v : TV} {p : Prop} {i : Decidable p} {x y : Code} (hl : lk t env = some v) (he : v = .bool (@decide p i)) (hp : ¬ p) (hf : AW P w0 N y Q env objs) : AW P w0 N (.cond (.tmp t) x y) Q env objs := bD hl he (fun h => absurd h hp) (fun _ => hf)

structure dV (objs' objs : bp) : Prop where
  mem : ∀ x ∈ objs', x ∈ objs
  sites : List.Pairwise dH objs → List.Pairwise dH objs'
theorem dV.refl (l : bp) : dV l l := ⟨fun _ h => h, id⟩
theorem dV.trans {a b c : bp} (h : dV a b) (k : dV b c) : dV a c := ⟨fun x hx => k.mem x (h.mem x hx), fun hp => h.sites (k.sites hp)⟩
theorem dV.sub {a b : bp} (h : List.Sublist a b) : dV a b := ⟨fun _ hx => h.subset hx, fun hp => hp.sublist h⟩
theorem dH.symm {x y : Nat × Nat × ca} (h : dH x y) : dH y x := ⟨h.1.symm, by
  by_cases e : x.2.1 = y.2.1
  · rcases h.2 with h2 | h2
    · exact absurd e h2
    · exact .inr (e ▸ h2)
  · exact .inl (Ne.symm e)⟩
theorem dV.perm {a b : bp} (h : a.Perm b) : dV a b := ⟨fun _ hx => h.subset hx, fun hp => h.symm.pairwise hp (fun h => dH.symm h)⟩
theorem dV.nil (l : bp) : dV [] l := .sub (List.nil_sublist l)
inductive Del (x : Nat × Nat × ca) : bp → bp → Prop
  | head (l : bp) : Del x (x :: l) l
  | tail (y : Nat × Nat × ca) (l l' : bp) (h : Del x l l') : Del x (y :: l) (y :: l')
theorem Del.perm {x : Nat × Nat × ca} {l l' : bp} (h : Del x l l') : (x :: l').Perm l := by
  induction h with
  | head l => exact .refl _
  | tail y l l' h ih => exact (List.Perm.swap y x l').trans (ih.cons y)
theorem dV.cons {x : Nat × Nat × ca} {l' l l1 : bp} (hd : Del x l l1) (h : dV l' l1) : dV (x :: l') l := by
  refine dV.trans ?_ (.perm hd.perm)
  refine ⟨fun y hy => ?_, fun hp => ?_⟩
  · rcases List.mem_cons.1 hy with rfl | hy
    · exact List.mem_cons_self
    · exact List.mem_cons_of_mem _ (h.mem y hy)
  · obtain ⟨h1, h2⟩ := List.pairwise_cons.1 hp
    exact List.pairwise_cons.2 ⟨fun y hy => h1 y (h.mem y hy), h.sites h2⟩
theorem dV.drop {x : Nat × Nat × ca} {l' l : bp} (h : dV l' l) : dV l' (x :: l) := h.trans (.sub (List.sublist_cons_self x l))

structure bj (env : Env) (objs : bp) (env' : Env) (objs' : bp) : Prop where
  env : ∀ t v, lk t env' = some v → lk t env = some v
  objs : dV objs' objs
theorem bj.envNil : ∀ t v, lk t [] = some v → lk t env = some v := fun t v h => by simp [lk] at h
theorem bj.envCons {t : Nat} {v : TV} {env' : Env} (h : lk t env = some v) (hr : ∀ t v, lk t env' = some v → lk t env = some v) : ∀ t' v', lk t' ((t, v) :: env') = some v' → lk t' env = some v' := fun t' v' h' => by
  rw [bL] at h'
  split at h'
  · rename_i e; subst e; rw [h, h']
  · exact hr _ _ h'

theorem tr {objs' : bp} (h : dV objs' objs) {b : Nat} (ha : kW objs' b) : kW objs b := ⟨ha.1, let ⟨s, o, hm⟩ := ha.2; ⟨s, o, h.mem _ hm⟩⟩
theorem fo {objs' : bp} (h : dV objs' objs) (w : World) : gT w objs w objs' :=
  ⟨fun _ _ _ => rfl, fun _ _ ha => tr h ha, fun _ _ _ rows _ _ hm => ⟨⟨rows, h.mem _ hm⟩, rfl⟩, Nat.le_refl _, fun hk => h.mem _ hk⟩
theorem oK.step {w w' : World} {B b : Nat} {objs' : bp} {o : ca} (hs : gT w objs w' objs') (hb : w'.heap[b]? = w.heap[b]?) (h : oK w B objs b o) : oK w' B objs' b o := by
  cases o with
  | void => exact h
  | iter s pos => exact ⟨h.1, hb.trans h.2⟩
  | row m rows =>
    refine ⟨h.1, h.2.1, h.2.2.imp id fun ⟨h1, cur, e, cap, h2, h3, h4, h5, h6⟩ => ⟨h1, cur, e, cap, hb.trans h2, h3, h4, h5, fun j t hj => ?_⟩⟩
    obtain ⟨v, h7, h8⟩ := h6 j t hj
    exact ⟨v, h7, h8.step hs⟩
  | box cells =>
    obtain ⟨h1, cur, e, h2, h3, h6⟩ := h
    refine ⟨h1, cur, e, hb.trans h2, h3, fun j t hj => ?_⟩
    obtain ⟨v, h7, h8⟩ := h6 j t hj
    exact ⟨v, h7, h8.step hs⟩
theorem cV.sub {w : World} {objs' : bp} (h : cV w0 objs w) (hsub : dV objs' objs) : cV w0 objs' w :=
  ⟨h.below, h.pos, fun s b o hm => (h.obj s b o (hsub.mem _ hm)).step (fo hsub w) rfl, hsub.sites h.sites⟩
theorem Sim.weak {a : Act} {w : World} {env' : Env} {objs' : bp} (h : Sim w0 N env objs a w) (k : bj env objs env' objs') : Sim w0 N env' objs' a w :=
  ⟨h.defers, h.size, h.mem.sub k.objs, fun t v ht => (h.env t v (k.env t v ht)).step (fo k.objs w)⟩

def zb {X : Type} (w0 : World) (N : Nat) (E : X → Env) (O : X → bp) (I : X → Prop) (μ : X → Nat) (n : Nat) (a : Act) (w : World) : Prop := ∃ x, I x ∧ μ x < n ∧ Sim w0 N (E x) (O x) a w
theorem xY {X : Type} {body : Code} (E : X → Env) (O : X → bp) (I : X → Prop) (μ : X → Nat) (x0 : X) (h0 : I x0) (hw : bj env objs (E x0) (O x0))
    (round : ∀ x, I x → AW P w0 N body (Exit.then (zb w0 N E O I μ (μ x)) Q) (E x) (O x)) : AW P w0 N (.loop body) Q env objs := ⟨fun a w hs => by
  refine wp_loop_ghost (fun n a w => ∃ x, I x ∧ μ x = n ∧ Sim w0 N (E x) (O x) a w) (μ x0) ⟨x0, h0, rfl, hs.weak hw⟩ ?_
  rintro n a w ⟨x, hI, rfl, hs⟩
  refine wp_mono ((round x hI).run a w hs) fun e a' w' hq => ?_
  cases e with
  | normal =>
    obtain ⟨y, hy, hlt, hs'⟩ := hq
    exact ⟨μ y, hlt, y, hy, rfl, hs'⟩
  | exit id => exact hq
  | goto l => exact hq
  | ret => exact hq
  | panic c => exact hq
  | outgrown => exact hq⟩
theorem aG {X : Type} {E : X → Env} {O : X → bp} {I : X → Prop} {μ : X → Nat} {n : Nat} (y : X) (hI : I y) (hlt : μ y < n) (k : bj env objs (E y) (O y)) : AQ w0 N (Exit.then (zb w0 N E O I μ n) Q) .normal env objs :=
  ⟨fun _ _ hs => ⟨y, hI, hlt, hs.weak k⟩⟩
def zG {X : Type} (w0 : World) (N : Nat) (E : X → Env) (O : X → bp) (I : X → Prop) (a : Act) (w : World) : Prop := ∃ y, I y ∧ Sim w0 N (E y) (O y) a w
theorem dh {X : Type} {E : X → Env} {O : X → bp} {I : X → Prop} (y : X) (hI : I y) (k : bj env objs (E y) (O y)) : AQ w0 N (Exit.then (zG w0 N E O I) Q) .normal env objs := ⟨fun _ _ hs => ⟨y, hI, hs.weak k⟩⟩
end

open Go
def yZ : List Nat := [1, 1, 1, 1, 1, 1, 1, 4, 4, 1, 1, 1, 1, 2, 2, 1, 1, 1, 1, 1, 1, 1, 1, 1, 1, 4, 4, 1, 1, 1, 1, 4, 4, 1, 1, 1, 1, 1, 1, 3, 3, 1, 3, 1, 1, 1, 1, 1, 1, 1, 6, 6, 1, 1, 1, 1, 3, 3, 20, 20, 1, 1, 1, 1, 1, 6, 6, 1, 1, 1, 3, 20, 20, 1, 1, 1, 1, 1, 1, 1, 1, 1, 1, 4, 4, 1, 1, 1, 4, 4, 1, 1, 1, 1, 1, 1, 1, 1, 1, 1, 1, 1, 1, 1, 1, 1, 1, 1, 4, 4, 1, 1, 1, 1, 1, 4, 4, 1, 1, 1, 1, 1, 1, 1, 1, 1, 1, 1, 1, 1, 1, 1, 1, 1, 1, 1, 1, 1, 1, 1, 1, 1, 1, 1, 1, 1, 1, 1, 1, 1, 1, 6, 6, 1, 14, 14, 1, 4, 4, 1, 1, 3, 3, 1, 1, 4, 4, 1, 4, 1, 1, 1, 1, 1, 1, 1, 1, 3, 1, 1, 1, 1, 1, 1, 1, 1, 1, 1, 1, 1, 1, 1, 1, 1, 1, 1, 1, 1, 1, 1, 1, 1, 1, 1, 2, 2, 1, 1, 2, 2, 1, 1, 1, 1, 1, 1, 1, 1, 1, 6, 6, 1, 1, 14, 14, 1, 1, 1, 1, 1, 1, 1, 1, 1, 1, 1, 1, 1, 1, 2, 1, 1, 1, 1, 1, 1, 1, 1, 1, 1, 5, 5, 6, 6, 1, 1, 1, 1, 1, 1, 1, 1, 1, 1, 1, 1, 1, 1, 1, 1, 1, 1, 1, 4, 4, 1, 1, 1, 1, 1, 1, 1, 1, 1, 4, 1, 1, 1, 4, 4, 1, 1, 1, 1, 1, 1, 1, 1, 1, 1, 1, 1, 1, 1, 1, 1, 1, 1, 1, 1, 1, 1, 1, 256, 2, 2, 32, 1, 1, 4, 4, 0, 0, 0, 1, 1, 1, 1, 1, 1, 1, 11, 11, 5, 5, 1]
def zg : List (List Nat) := [[], [], [], [], [], [], [], [0, 1, 2, 3], [0, 1, 2, 3], [], [], [], [], [0, 1], [0, 1], [], [], [], [0], [0], [], [], [], [], [], [0, 1, 2, 3], [0, 1, 2, 3], [], [], [], [], [0, 1, 2, 3], [0, 1, 2, 3], [], [], [], [], [], [], [0, 1, 2], [0, 1, 2], [], [0, 1, 2], [], [], [], [], [], [], [], [0, 1, 2, 3, 4, 5], [0, 1, 2, 3, 4, 5], [], [], [], [], [0, 1, 2], [0, 1, 2], [0, 4, 10, 11, 12, 13, 14, 15, 16, 19], [0, 4, 10, 11, 12, 13, 14, 15, 16, 19], [], [], [], [], [], [0, 1, 2, 3, 4, 5], [0, 1, 2, 3, 4, 5], [], [], [], [0, 1, 2], [0, 4, 10, 11, 12, 13, 14, 15, 16, 19], [0, 4, 10, 11, 12, 13, 14, 15, 16, 19], [], [], [], [], [], [], [], [], [], [], [0, 1, 2, 3], [0, 1, 2, 3], [], [], [], [0, 1, 2, 3], [0, 1, 2, 3], [], [], [], [], [], [], [], [], [], [], [], [], [], [], [], [], [], [], [0, 1, 2, 3], [0, 1, 2, 3], [], [], [], [], [], [0, 1, 2, 3], [0, 1, 2, 3], [], [], [], [], [], [], [], [], [], [], [], [], [], [], [], [], [], [], [], [], [], [], [], [], [], [], [], [], [], [], [], [], [], [], [0, 1, 2, 3], [0, 1, 2, 3], [], [0, 1, 2, 3, 4, 5, 6, 9, 10, 11, 12, 13], [0, 1, 2, 3, 4, 5, 6, 9, 10, 11, 12, 13], [], [0, 1, 2, 3], [0, 1, 2, 3], [], [], [0, 1, 2], [0, 1, 2], [], [], [0, 1, 2, 3], [0, 1, 2, 3], [], [0, 1, 2, 3], [], [], [], [], [], [], [], [], [0, 1, 2], [], [], [], [], [], [], [], [], [], [], [], [], [], [], [], [], [], [], [], [], [], [], [], [], [], [], [0, 1], [0, 1], [], [], [0, 1], [0, 1], [], [], [], [], [], [], [], [], [], [0, 1, 2, 3], [0, 1, 2, 3], [], [], [0, 1, 2, 3, 4, 5, 6, 9, 10, 11, 12, 13], [0, 1, 2, 3, 4, 5, 6, 9, 10, 11, 12, 13], [], [], [], [], [], [], [], [], [], [], [], [], [], [], [0, 1], [], [], [], [], [], [], [], [], [], [], [0, 1, 2, 3, 4], [0, 1, 2, 3, 4], [0, 1], [0, 1], [], [], [], [], [], [], [], [], [], [], [], [], [], [], [], [], [], [], [], [0, 1, 2, 3], [0, 1, 2, 3], [], [], [], [], [], [], [], [], [], [0, 1, 2, 3], [], [], [], [0, 1, 2, 3], [0, 1, 2, 3], [], [], [], [], [], [], [], [], [], [], [], [], [], [], [], [], [], [], [], [], [], [], [], [], [0, 1], [0, 1], [], [], [], [0, 1, 2, 3], [0, 1, 2, 3], [], [0], [0], [], [], [], [], [], [], [], [0, 1, 2, 3, 4, 5, 6, 7, 8, 9, 10], [0, 1, 2, 3, 4, 5, 6, 7, 8, 9, 10], [0, 1, 2, 3, 4], [0, 1, 2, 3, 4], []]
def szT (t : Nat) : Nat := yZ.getD t 0
def ofT (t k : Nat) : Nat := (zg.getD t []).getD k 0
def zO : List (List TV) := [[], [], [.int .i64 0], [.int .i64 0], [.bool false], [.int .u8 0], [.int .u8 0], [.int .i64 0, .int .i64 0, .bool false, .int .u8 0], [.int .i64 0, .int .i64 0, .bool false, .int .u8 0], [.str ⟨#[]⟩], [.str ⟨#[]⟩], [.str ⟨#[]⟩], [.int .u64 0], [.str ⟨#[]⟩, .int .u64 0], [.str ⟨#[]⟩, .int .u64 0], [.nilp], [.nilp], [.nilp], [.nilp], [.nilp], [], [.int .i32 0], [.nils], [.nils], [.nils], [.nils, .nils, .nils, .int .i64 0], [.nils, .nils, .nils, .int .i64 0], [], [.nils], [.nils], [.nils], [.nils, .nils, .nils, .int .i64 0], [.nils, .nils, .nils, .int .i64 0], [], [], [], [], [], [], [.int .i64 0, .int .i64 0, .int .i64 0], [.int .i64 0, .int .i64 0, .int .i64 0], [], [.int .i64 0, .int .i64 0, .int .i64 0], [], [], [], [], [], [.nils], [.nils], [.nils, .nils, .nils, .int .i64 0, .int .i64 0, .int .i64 0], [.nils, .nils, .nils, .int .i64 0, .int .i64 0, .int .i64 0], [.nils], [.nils], [.nils], [.nils], [.int .i64 0, .int .i64 0, .str ⟨#[]⟩], [.int .i64 0, .int .i64 0, .str ⟨#[]⟩], [.nils, .nils, .nils, .int .i64 0, .nils, .nils, .nils, .int .i64 0, .int .i64 0, .int .i64 0, .nils, .nils, .nils, .nils, .int .i64 0, .int .i64 0, .int .i64 0, .int .i64 0, .str ⟨#[]⟩, .str ⟨#[]⟩], [.nils, .nils, .nils, .int .i64 0, .nils, .nils, .nils, .int .i64 0, .int .i64 0, .int .i64 0, .nils, .nils, .nils, .nils, .int .i64 0, .int .i64 0, .int .i64 0, .int .i64 0, .str ⟨#[]⟩, .str ⟨#[]⟩], [], [], [], [], [.nils], [.nils, .nils, .nils, .int .i64 0, .int .i64 0, .int .i64 0], [.nils, .nils, .nils, .int .i64 0, .int .i64 0, .int .i64 0], [.nils], [.nils], [.nils], [.int .i64 0, .int .i64 0, .str ⟨#[]⟩], [.nils, .nils, .nils, .int .i64 0, .nils, .nils, .nils, .int .i64 0, .int .i64 0, .int .i64 0, .nils, .nils, .nils, .nils, .int .i64 0, .int .i64 0, .int .i64 0, .int .i64 0, .str ⟨#[]⟩, .str ⟨#[]⟩], [.nils, .nils, .nils, .int .i64 0, .nils, .nils, .nils, .int .i64 0, .int .i64 0, .int .i64 0, .nils, .nils, .nils, .nils, .int .i64 0, .int .i64 0, .int .i64 0, .int .i64 0, .str ⟨#[]⟩, .str ⟨#[]⟩], [], [], [], [], [], [], [], [], [.nilp], [.nils], [.nils, .nils, .bool false, .nils], [.nils, .nils, .bool false, .nils], [], [], [], [.int .i64 0, .bool false, .str ⟨#[]⟩, .int .i64 0], [.int .i64 0, .bool false, .str ⟨#[]⟩, .int .i64 0], [], [], [], [], [], [], [], [], [], [], [], [], [], [], [], [], [.nilp], [.nils], [.bool false, .int .i64 0, .int .i64 0, .nils], [.bool false, .int .i64 0, .int .i64 0, .nils], [], [], [], [], [], [.int .i64 0, .int .i64 0, .int .i64 0, .str ⟨#[]⟩], [.int .i64 0, .int .i64 0, .int .i64 0, .str ⟨#[]⟩], [], [], [.nils], [], [], [], [], [], [], [], [], [], [], [], [], [], [], [], [], [], [], [], [], [.nilp], [], [], [], [], [], [], [], [], [], [], [.int .i64 0, .int .i64 0, .int .i64 0, .int .i64 0, .int .i64 0, .str ⟨#[]⟩], [.int .i64 0, .int .i64 0, .int .i64 0, .int .i64 0, .int .i64 0, .str ⟨#[]⟩], [.nils], [.int .i64 0, .int .i64 0, .int .i64 0, .int .i64 0, .int .i64 0, .int .i64 0, .int .i64 0, .int .i64 0, .str ⟨#[]⟩, .nils, .nils, .nils, .int .i64 0, .bool false], [.int .i64 0, .int .i64 0, .int .i64 0, .int .i64 0, .int .i64 0, .int .i64 0, .int .i64 0, .int .i64 0, .str ⟨#[]⟩, .nils, .nils, .nils, .int .i64 0, .bool false], [], [.int .i64 0, .int .i64 0, .nils, .nils], [.int .i64 0, .int .i64 0, .nils, .nils], [], [], [.str ⟨#[]⟩, .int .i64 0, .nils], [.str ⟨#[]⟩, .int .i64 0, .nils], [], [.nils], [.bool false, .int .i64 0, .int .i64 0, .nils], [.bool false, .int .i64 0, .int .i64 0, .nils], [], [.int .i64 0, .bool false, .str ⟨#[]⟩, .int .i64 0], [], [], [], [], [.nilp], [], [], [], [.str ⟨#[]⟩, .int .i64 0, .nils], [], [], [], [], [], [], [], [], [], [], [], [], [], [], [], [], [], [.nils], [], [.nilp], [.nilp], [], [], [], [.nils], [], [.int .i64 0, .int .i64 0], [.int .i64 0, .int .i64 0], [], [], [.int .i64 0, .bool false], [.int .i64 0, .bool false], [], [], [], [], [], [], [], [], [], [.int .i64 0, .int .i64 0, .int .i64 0, .int .i64 0, .int .i64 0, .str ⟨#[]⟩], [.int .i64 0, .int .i64 0, .int .i64 0, .int .i64 0, .int .i64 0, .str ⟨#[]⟩], [], [.nils], [.int .i64 0, .int .i64 0, .int .i64 0, .int .i64 0, .int .i64 0, .int .i64 0, .int .i64 0, .int .i64 0, .str ⟨#[]⟩, .nils, .nils, .nils, .int .i64 0, .bool false], [.int .i64 0, .int .i64 0, .int .i64 0, .int .i64 0, .int .i64 0, .int .i64 0, .int .i64 0, .int .i64 0, .str ⟨#[]⟩, .nils, .nils, .nils, .int .i64 0, .bool false], [], [.nilp], [], [], [], [], [], [], [], [], [], [], [], [], [.int .i64 0, .bool false], [], [.nils], [], [.nils], [], [], [], [], [.nils], [.nils], [.str ⟨#[]⟩, .bool false, .nils, .nils, .nils], [.str ⟨#[]⟩, .bool false, .nils, .nils, .nils], [.nils, .str ⟨#[]⟩, .bool false, .nils, .nils, .nils], [.nils, .str ⟨#[]⟩, .bool false, .nils, .nils, .nils], [], [.nilp], [], [], [], [], [], [], [], [], [], [.nils], [], [.int .u64 0], [], [], [], [], [], [.int .i64 0, .int .i64 0, .nils, .nils], [.int .i64 0, .int .i64 0, .nils, .nils], [], [], [], [], [], [], [], [], [], [.int .i64 0, .int .i64 0, .int .i64 0, .str ⟨#[]⟩], [], [], [.nils], [.str ⟨#[]⟩, .str ⟨#[]⟩, .nils, .nils], [.str ⟨#[]⟩, .str ⟨#[]⟩, .nils, .nils], [], [], [], [], [], [], [], [.int .u32 0], [], [], [.int .u64 0], [], [], [], [], [], [], [], [], [], [], [], [], [], [.int .u8 0, .int .u8 0], [.int .u8 0, .int .u8 0], [.int .u8 0, .int .u8 0, .int .u8 0, .int .u8 0, .int .u8 0, .int .u8 0, .int .u8 0, .int .u8 0, .int .u8 0, .int .u8 0, .int .u8 0, .int .u8 0, .int .u8 0, .int .u8 0, .int .u8 0, .int .u8 0, .int .u8 0, .int .u8 0, .int .u8 0, .int .u8 0, .int .u8 0, .int .u8 0, .int .u8 0, .int .u8 0, .int .u8 0, .int .u8 0, .int .u8 0, .int .u8 0, .int .u8 0, .int .u8 0, .int .u8 0, .int .u8 0], [], [], [.nilp, .nilp, .nilp, .str ⟨#[]⟩], [.nilp, .nilp, .nilp, .str ⟨#[]⟩], [], [], [], [], [.int .u8 0], [.int .u8 0], [], [.nilp], [.int .i32 0], [.int .i32 0], [], [], [.int .i64 0, .str ⟨#[]⟩, .int .i64 0, .nils, .nils], [.int .i64 0, .str ⟨#[]⟩, .int .i64 0, .nils, .nils], [.nilp]]
def zT (t : Nat) : List TV := zO.getD t []
def zP : List (Option IntKind) := [none, none, some .i64, some .i64, none, some .u8, some .u8, none, none, none, none, none, some .u64, none, none, none, none, none, none, none, none, some .i32, none, none, none, none, none, none, none, none, none, none, none, none, none, none, none, none, none, none, none, none, none, none, none, none, none, none, none, none, none, none, none, none, none, none, none, none, none, none, none, none, none, none, none, none, none, none, none, none, none, none, none, none, none, none, none, none, none, none, none, none, none, none, none, none, none, none, none, none, none, none, none, none, none, none, none, none, none, none, none, none, none, none, none, none, none, none, none, none, none, none, none, none, none, none, none, none, none, none, none, none, none, none, none, none, none, none, none, none, none, none, none, none, none, none, none, none, none, none, none, none, none, none, none, none, none, none, none, none, none, none, none, none, none, none, none, none, none, none, none, none, none, none, none, none, none, none, none, none, none, none, none, none, none, none, none, none, none, none, none, none, none, none, none, none, none, none, none, none, none, none, none, none, none, none, none, none, none, none, none, none, none, none, none, none, none, none, none, none, none, none, none, none, none, none, none, none, none, none, none, none, none, none, none, none, none, none, none, none, none, none, none, none, none, none, none, none, none, none, none, none, none, none, none, none, none, none, none, none, none, none, none, none, none, none, none, none, none, none, none, none, none, none, none, none, none, some .u64, none, none, none, none, none, none, none, none, none, none, none, none, none, none, none, none, none, none, none, none, none, none, none, none, none, none, none, none, none, some .u32, none, none, some .u64, none, none, none, none, none, none, none, none, none, none, none, none, none, none, none, none, none, none, none, none, none, none, none, none, some .u8, some .u8, none, none, some .i32, some .i32, none, none, none, none, none]
def kdT (t : Nat) : Option IntKind := zP.getD t none
def zw : List (Option Nat) := [none, none, none, none, none, none, none, none, none, none, none, none, none, none, none, none, none, none, none, none, none, none, some 3, some 4, some 4, none, none, none, some 3, some 4, some 4, none, none, none, none, none, none, none, none, none, none, none, none, none, none, none, none, none, some 4, some 1, none, none, some 6, some 14, some 2, some 1, none, none, none, none, none, none, none, none, some 4, none, none, some 6, some 14, some 2, none, none, none, none, none, none, none, none, none, none, none, none, some 1, none, none, none, none, none, none, none, none, none, none, none, none, none, none, none, none, none, none, none, none, none, none, none, none, some 4, none, none, none, none, none, none, none, none, none, none, none, some 3, none, none, none, none, none, none, none, none, none, none, none, none, none, none, none, none, none, none, none, none, none, none, none, none, none, none, none, none, none, none, none, none, none, some 3, none, none, none, none, none, none, none, none, none, none, some 4, none, none, none, none, none, none, none, none, none, none, none, none, none, none, none, none, none, none, none, none, none, none, none, none, none, none, none, none, none, none, some 1, none, none, none, none, none, none, some 2, none, none, none, none, none, none, none, none, none, none, none, none, none, none, none, none, none, none, none, some 3, none, none, none, none, none, none, none, none, none, none, none, none, none, none, none, none, none, none, some 1, none, some 1, none, none, none, none, some 4, some 5, none, none, none, none, none, none, none, none, none, none, none, none, none, none, none, some 1, none, none, none, none, none, none, none, none, none, none, none, none, none, none, none, none, none, none, none, none, none, some 5, none, none, none, none, none, none, none, none, none, none, none, none, none, none, none, none, none, none, none, none, none, none, none, none, none, none, none, none, none, none, none, none, none, none, none, none, none, none, none, none, none, none, none, none, none, none, none, none]
def esT (t : Nat) : Option Nat := zw.getD t none
def zN : List Bool := [false, false, false, false, false, false, false, true, true, false, false, false, false, true, true, false, false, false, true, true, false, false, false, false, false, true, true, false, false, false, false, true, true, false, false, false, false, false, false, true, true, false, true, false, false, false, false, false, false, false, true, true, false, false, false, false, true, true, true, true, false, false, false, false, false, true, true, false, false, false, true, true, true, false, false, false, false, false, false, false, false, false, false, true, true, false, false, false, true, true, false, false, false, false, false, false, false, false, false, false, false, false, false, false, false, false, false, false, true, true, false, false, false, false, false, true, true, false, false, false, false, false, false, false, false, false, false, false, false, false, false, false, false, false, false, false, false, false, false, false, false, false, false, false, false, false, false, false, false, false, false, true, true, false, true, true, false, true, true, false, false, true, true, false, false, true, true, false, true, false, false, false, false, false, false, false, false, true, false, false, false, false, false, false, false, false, false, false, false, false, false, false, false, false, false, false, false, false, false, false, false, false, false, false, true, true, false, false, true, true, false, false, false, false, false, false, false, false, false, true, true, false, false, true, true, false, false, false, false, false, false, false, false, false, false, false, false, false, false, true, false, false, false, false, false, false, false, false, false, false, true, true, true, true, false, false, false, false, false, false, false, false, false, false, false, false, false, false, false, false, false, false, false, true, true, false, false, false, false, false, false, false, false, false, true, false, false, false, true, true, false, false, false, false, false, false, false, false, false, false, false, false, false, false, false, false, false, false, false, false, false, false, false, true, true, true, true, false, false, true, true, true, true, true, false, false, false, false, false, false, false, true, true, true, true, false]
def agT (t : Nat) : Bool := zN.getD t false
def yR : List (List TV) := [[], [], [], [], [], [], [], [], [], [], [], [], [], [], [], [], [], [], [], [], [], [], [.str ⟨#[]⟩, .int .i64 0, .nils], [.bool false, .int .i64 0, .int .i64 0, .nils], [.int .i64 0, .bool false, .str ⟨#[]⟩, .int .i64 0], [], [], [], [.str ⟨#[]⟩, .int .i64 0, .nils], [.bool false, .int .i64 0, .int .i64 0, .nils], [.int .i64 0, .bool false, .str ⟨#[]⟩, .int .i64 0], [], [], [], [], [], [], [], [], [], [], [], [], [], [], [], [], [], [.int .i64 0, .int .i64 0, .nils, .nils], [.str ⟨#[]⟩], [], [], [.int .i64 0, .int .i64 0, .int .i64 0, .int .i64 0, .int .i64 0, .str ⟨#[]⟩], [.int .i64 0, .int .i64 0, .int .i64 0, .int .i64 0, .int .i64 0, .int .i64 0, .int .i64 0, .int .i64 0, .str ⟨#[]⟩, .nils, .nils, .nils, .int .i64 0, .bool false], [.int .i64 0, .bool false], [.int .i64 0], [], [], [], [], [], [], [], [], [.int .i64 0, .int .i64 0, .nils, .nils], [], [], [.int .i64 0, .int .i64 0, .int .i64 0, .int .i64 0, .int .i64 0, .str ⟨#[]⟩], [.int .i64 0, .int .i64 0, .int .i64 0, .int .i64 0, .int .i64 0, .int .i64 0, .int .i64 0, .int .i64 0, .str ⟨#[]⟩, .nils, .nils, .nils, .int .i64 0, .bool false], [.int .i64 0, .bool false], [], [], [], [], [], [], [], [], [], [], [], [], [.bool false], [], [], [], [], [], [], [], [], [], [], [], [], [], [], [], [], [], [], [], [], [], [], [], [], [.int .i64 0, .int .i64 0, .int .i64 0, .str ⟨#[]⟩], [], [], [], [], [], [], [], [], [], [], [], [.int .i64 0, .int .i64 0, .int .i64 0], [], [], [], [], [], [], [], [], [], [], [], [], [], [], [], [], [], [], [], [], [], [], [], [], [], [], [], [], [], [], [], [], [], [.int .i64 0, .int .i64 0, .str ⟨#[]⟩], [], [], [], [], [], [], [], [], [], [], [.int .i64 0, .int .i64 0, .int .i64 0, .str ⟨#[]⟩], [], [], [], [], [], [], [], [], [], [], [], [], [], [], [], [], [], [], [], [], [], [], [], [], [], [], [], [], [], [], [.nilp], [], [], [], [], [], [], [.int .i64 0, .int .i64 0], [], [], [], [], [], [], [], [], [], [], [], [], [], [], [], [], [], [], [], [.int .i64 0, .int .i64 0, .str ⟨#[]⟩], [], [], [], [], [], [], [], [], [], [], [], [], [], [], [], [], [], [], [.nils], [], [.nils], [], [], [], [], [.str ⟨#[]⟩, .str ⟨#[]⟩, .nils, .nils], [.int .i64 0, .str ⟨#[]⟩, .int .i64 0, .nils, .nils], [], [], [], [], [], [], [], [], [], [], [], [], [], [], [], [.int .u8 0], [], [], [], [], [], [], [], [], [], [], [], [], [], [], [], [], [], [], [], [], [], [.str ⟨#[]⟩, .bool false, .nils, .nils, .nils], [], [], [], [], [], [], [], [], [], [], [], [], [], [], [], [], [], [], [], [], [], [], [], [], [], [], [], [], [], [], [], [], [], [], [], [], [], [], [], [], [], [], [], [], [], [], [], []]
def ezT (t : Nat) : List TV := yR.getD t []

def tv1 : Value → Option TV
  | .int k n => some (.int k n)
  | .bool b => some (.bool b)
  | .string s => some (.str s)
  | .slice none 0 0 => some .nils
  | .pointer none => some .nilp
  | _ => none
def tvL : List Value → Option (List TV)
  | [] => some []
  | v :: r => match tv1 v, tvL r with
    | some t, some l => some (t :: l)
    | _, _ => none
def zx : Value → Option TV
  | .agg vs => (tvL vs.toList).map .agg
  | v => tv1 v
def ev (env : Env) : Operand → Option TV
  | .tmp t => lk t env
  | .const v => zx v
  | .func f => some (.fn f [])
  | .global _ => none

theorem tK {w : World} {objs : bp} {v : Value} {t : TV} (h : tv1 v = some t) : Rep w objs t v := by
  unfold tv1 at h
  split at h <;> first | (cases h; done) | skip
  all_goals simp only [Option.some.injEq] at h
  all_goals subst h
  · exact .int _ _
  · exact .bool _
  · exact .str _
  · exact .nils
  · exact .nilp
theorem wg {v : Value} {t : TV} (h : tv1 v = some t) : t.isCell = true := by
  unfold tv1 at h
  split at h <;> first | (cases h; done) | (simp only [Option.some.injEq] at h; subst h; rfl)
theorem ja {w : World} {objs : bp} : ∀ {vs : List Value} {l : List TV}, tvL vs = some l → (l.length = vs.length ∧ ∀ t ∈ l, t.isCell = true) ∧ ∀ (i : Nat) (t : TV) (v : Value), l[i]? = some t → vs[i]? = some v → Rep w objs t v
  | [], l, h => by simp only [tvL, Option.some.injEq] at h; subst h; simp
  | v :: r, l, h => by
    unfold tvL at h
    split at h
    · rename_i t l' h1 h2
      simp only [Option.some.injEq] at h
      subst h
      obtain ⟨h3, h4⟩ := ja (w := w) (objs := objs) (vs := r) h2
      refine ⟨⟨by simp [h3.1], fun x hx => by
        rcases List.mem_cons.1 hx with rfl | hx
        · exact wg h1
        · exact h3.2 x hx⟩, fun i t' v' ht hv => ?_⟩
      cases i with
      | zero => simp at ht hv; subst ht; subst hv; exact tK h1
      | succ i => exact h4 i t' v' (by simpa using ht) (by simpa using hv)
    · cases h
theorem iN {w : World} {objs : bp} {v : Value} {t : TV} (h : zx v = some t) : Rep w objs t v := by
  unfold zx at h
  split at h
  · rename_i vs
    rw [Option.map_eq_some_iff] at h
    obtain ⟨l, h1, rfl⟩ := h
    obtain ⟨h2, h3⟩ := ja (w := w) (objs := objs) h1
    exact .agg l vs h2.2 (by simpa using h2.1) (fun i t v ht hv => h3 i t v ht (by simpa using hv))
  · exact tK h

def bs (P : Program) (w0 : World) (env : Env) (objs : bp) (o : Oper) (tv : TV) : Prop :=
  ∀ (a : Act) (w : World) (K : Act → World → Prop) (Q : Exit → Act → World → Prop), cV w0 objs w →
    (∀ x ∈ o.op.operands.toList, ∀ v, ev env x = some v → Rep w objs v (a.eval x)) →
    (∀ v w', Rep w' objs tv v → cV w0 objs w' → gT w objs w' objs → K (a.put o.dst v) w') → o.wp P a w K Q

theorem cq {P : Program} {s : Sem Value} {v : Value} {w w' : World} (h : s.run P w = .ok v w') : (do pure (Next.value (← s)) : Sem Next).run P w = .ok (.value v) w' := by
  show (Sem.bind s fun v => Sem.pure (Next.value v)).run P w = _
  have := Sem.run_bind P w s (fun v => (Pure.pure (Next.value v) : Sem Next))
  rw [h] at this
  exact this

section
variable {P : Program} {w0 : World} {N : Nat} {Q : Exit → Act → World → Prop} {env : Env} {objs : bp} {o : Oper}

theorem a6 {tv : TV} (h : ∀ (a : Act) (w : World), cV w0 objs w → (∀ x ∈ o.op.operands.toList, ∀ v, ev env x = some v → Rep w objs v (a.eval x)) →
    ∃ v, (execOp a.eval o).run P w = .ok (.value v) w ∧ Rep w objs tv v) : bs P w0 env objs o tv := fun a w K Q hw hop hK => by
  obtain ⟨v, h1, h2⟩ := h a w hw hop
  unfold Oper.wp
  rw [h1]
  exact hK v w h2 hw ⟨fun _ _ _ => rfl, fun _ _ h => h, fun _ _ _ rows _ _ h => ⟨⟨rows, h⟩, rfl⟩, Nat.le_refl _, id⟩

theorem dY {a : Act} {w : World} (hs : Sim w0 N env objs a w) {x : Operand} {v : TV} (h : ev env x = some v) : Rep w objs v (a.eval x) := by
  cases x with
  | tmp t => exact hs.env t v h
  | const u => exact iN h
  | func f => simp only [ev, Option.some.injEq] at h; subst h; exact .fn f [] #[] rfl (by simp)
  | global g => cases h

theorem eF {l : Array Value} {d t : Nat} {v : Value} (hd : d < l.size) : (l.setIfInBounds d v).getD t undef = if d = t then v else l.getD t undef := by
  by_cases h : d = t
  · subst h; simp [hd]
  · simp [h]
theorem Sim.put {a : Act} {w w' : World} (hs : Sim w0 N env objs a w) {d : Nat} (hd : Nat.blt d N = true) {tv : TV} {v : Value} (hr : Rep w' objs tv v) (hw : cV w0 objs w') (hst : gT w objs w' objs) : Sim w0 N ((d, tv) :: env) objs (a.put (some d) v) w' := by
  have hlt : d < a.tmps.size := by rw [hs.size]; exact Nat.blt_eq ▸ hd
  refine ⟨hs.defers, by simp [Act.put, hs.size], hw, fun t u hu => ?_⟩
  rw [bL] at hu
  show Rep w' objs u ((a.tmps.setIfInBounds d v).getD t undef)
  rw [eF hlt]
  split at hu
  · rename_i e; subst e; simp only [Option.some.injEq] at hu; subst hu; simp only [if_true]; exact hr
  · rename_i e; rw [if_neg e]; exact (hs.env t u hu).step hst
theorem Sim.putUndef {a : Act} {w : World} (hs : Sim w0 N env objs a w) {d : Nat} (hd : Nat.blt d N = true) : Sim w0 N ((d, .tup []) :: env) objs (a.put (some d) undef) w :=
  hs.put hd (.tup [] #[] rfl (by simp)) hs.mem ⟨fun _ _ _ => rfl, fun _ _ h => h, fun _ _ _ rows _ _ h => ⟨⟨rows, h⟩, rfl⟩, Nat.le_refl _, id⟩

theorem ab {ops : Array Oper} {rest : List Oper} (hg : o.guard = none) (h : AO P w0 N ops Q o rest env objs) : AL P w0 N ops Q (o :: rest) env objs := ⟨fun a w hs => wpList_plain hg fun K hK => h.run a w K hs hK⟩
theorem sf {ops : Array Oper} {rest : List Oper} {d : Nat} {tv : TV} (hd : o.dst = some d) (hN : Nat.blt d N = true) (hy : bs P w0 env objs o tv) (h : AL P w0 N ops Q rest ((d, tv) :: env) objs) : AO P w0 N ops Q o rest env objs :=
  ⟨fun a w K hs hK => hy a w K Q hs.mem (fun x _ v hv => dY hs hv) fun v w' hr hw hst => hK _ _ (by rw [hd]; exact h.run _ _ (hs.put hN hr hw hst))⟩
theorem eW {ops : Array Oper} {a : Act} {j d : Nat} {b : Bool} (hj : (ops[j]?).bind (·.dst) = some d) (hv : a.tmps.getD d undef = .bool b) : yielded ops a.tmps j = some b := by
  simp only [yielded, hj]
  simp [Array.getD_eq_getD_getElem?] at hv
  cases h : a.tmps[d]? with
  | none => rw [h] at hv; simp [undef] at hv
  | some x => rw [h] at hv; simp at hv; subst hv; simp [h]
theorem aP {ops : Array Oper} {rest : List Oper} {dj j : Nat} {b : Bool} {v : TV} (hg : o.guard = some (j, b)) (hj : (ops[j]?).bind (·.dst) = some dj) (hb : lk dj env = some v) (hv : v = .bool b) (h : AO P w0 N ops Q o rest env objs) : AL P w0 N ops Q (o :: rest) env objs := ⟨fun a w hs =>
  wpList_step fun K hK => by
    subst hv
    have hw : Region.wanted o (yielded ops a.tmps) = true := by simp [Region.wanted, hg, eW hj (hs.env _ _ hb).bool_inv]
    rw [if_pos hw]
    exact h.run a w K hs hK⟩
theorem aO {ops : Array Oper} {rest : List Oper} {d dj j : Nat} {b c : Bool} {v : TV} (hg : o.guard = some (j, c)) (hj : (ops[j]?).bind (·.dst) = some dj) (hb : lk dj env = some v) (hv : v = .bool b) (hc : c = !b) (hd : o.dst = some d) (hN : Nat.blt d N = true)
    (h : AL P w0 N ops Q rest ((d, .tup []) :: env) objs) : AL P w0 N ops Q (o :: rest) env objs := ⟨fun a w hs =>
  wpList_step fun K hK => by
    subst hv; subst hc
    have hw : Region.wanted o (yielded ops a.tmps) = false := by cases b <;> simp [Region.wanted, hg, eW hj (hs.env _ _ hb).bool_inv]
    rw [hw]
    exact hK _ _ (by rw [hd]; exact h.run _ _ (hs.putUndef hN))⟩

theorem Rep.undef_inv {w : World} {v : Value} (h : Rep w objs (.tup []) v) : v = undef := by
  cases h with
  | tup l vs h h2 =>
    have : vs = #[] := Array.eq_empty_of_size_eq_zero (by simpa using h.symm)
    subst this; rfl
theorem dZ {ops : Array Oper} {a : Act} {j d : Nat} (hj : (ops[j]?).bind (·.dst) = some d) (hv : a.tmps.getD d undef = undef) : yielded ops a.tmps j = none := by
  simp only [yielded, hj]
  simp [Array.getD_eq_getD_getElem?] at hv
  cases h : a.tmps[d]? with
  | none => simp [h]
  | some x => rw [h] at hv; simp [undef] at hv; subst hv; simp [h]
theorem dK {ops : Array Oper} {rest : List Oper} {d dj j : Nat} {c : Bool} {v : TV} (hg : o.guard = some (j, c)) (hj : (ops[j]?).bind (·.dst) = some dj) (hb : lk dj env = some v) (hv : v = .tup []) (hd : o.dst = some d) (hN : Nat.blt d N = true)
    (h : AL P w0 N ops Q rest ((d, .tup []) :: env) objs) : AL P w0 N ops Q (o :: rest) env objs := ⟨fun a w hs =>
  wpList_step fun K hK => by
    subst hv
    have hw : Region.wanted o (yielded ops a.tmps) = false := by simp [Region.wanted, hg, dZ hj (hs.env _ _ hb).undef_inv]
    rw [hw]
    exact hK _ _ (by rw [hd]; exact h.run _ _ (hs.putUndef hN))⟩

theorem Sim.know {a : Act} {w : World} (hs : Sim w0 N env objs a w) {t : Nat} {v : TV} (hv : lk t env = some v) {v' : TV} (h : v = v') : Sim w0 N ((t, v') :: env) objs a w :=
  ⟨hs.defers, hs.size, hs.mem, fun t' u hu => by
    rw [bL] at hu
    split at hu
    · rename_i e; subst e; simp only [Option.some.injEq] at hu; subst hu; subst h; exact hs.env _ _ hv
    · exact hs.env _ _ hu⟩
theorem vV {ops : Array Oper} {rest : List Oper} {t : Nat} {p : Prop} {i : Decidable p} (hv : lk t env = some (.bool (@decide p i))) (ht : p → AL P w0 N ops Q rest ((t, .bool true) :: env) objs) (hf : ¬ p → AL P w0 N ops Q rest ((t, .bool false) :: env) objs) :
    AL P w0 N ops Q rest env objs := ⟨fun a w hs => by
  by_cases h : p
  · exact (ht h).run a w (hs.know hv (by simp [h]))
  · exact (hf h).run a w (hs.know hv (by simp [h]))⟩
theorem bm {ops : Array Oper} {rest : List Oper} {j d : Nat} {b : Bool} {p : Prop} {i : Decidable p} {v : TV} (_hg : o.guard = some (j, b)) (_hj : (ops[j]?).bind (·.dst) = some d) (hv : lk d env = some v) (he : v = .bool (@decide p i))
    (ht : p → AL P w0 N ops Q (o :: rest) ((d, .bool true) :: env) objs) (hf : ¬ p → AL P w0 N ops Q (o :: rest) ((d, .bool false) :: env) objs) : AL P w0 N ops Q (o :: rest) env objs := vV (he ▸ hv) ht hf
theorem sV {ops : Array Oper} {rest : List Oper} {t : Nat} {b : Bool} (hv : lk t env = some (.bool b)) (ht : b = true → AL P w0 N ops Q rest ((t, .bool true) :: env) objs) (hf : b = false → AL P w0 N ops Q rest ((t, .bool false) :: env) objs) :
    AL P w0 N ops Q rest env objs := ⟨fun a w hs => by
  cases b
  · exact (hf rfl).run a w (hs.know hv rfl)
  · exact (ht rfl).run a w (hs.know hv rfl)⟩

theorem bQ {ops : Array Oper} {rest : List Oper} {j d : Nat} {b : Bool} {p : Prop} {i : Decidable p} {v : TV} (hg : o.guard = some (j, b)) (hj : (ops[j]?).bind (·.dst) = some d) (hv : lk d env = some v) (he : v = .bool (@decide p i)) (hp : p)
    (ht : AL P w0 N ops Q (o :: rest) ((d, .bool true) :: env) objs) : AL P w0 N ops Q (o :: rest) env objs := bm hg hj hv he (fun _ => ht) (fun h => absurd hp h)
theorem bC {ops : Array Oper} {rest : List Oper} {j d : Nat} {b : Bool} {p : Prop} {i : Decidable p} {v : TV} (hg : o.guard = some (j, b)) (hj : (ops[j]?).bind (·.dst) = some d) (hv : lk d env = some v) (he : v = .bool (@decide p i)) (hp : ¬ p)
    (hf : AL P w0 N ops Q (o :: rest) ((d, .bool false) :: env) objs) : AL P w0 N ops Q (o :: rest) env objs := bm hg hj hv he (fun h => absurd h hp) (fun _ => hf)
theorem bV {ops : Array Oper} {rest : List Oper} {j d : Nat} {b c : Bool} {v : TV} (_hg : o.guard = some (j, b)) (_hj : (ops[j]?).bind (·.dst) = some d) (hv : lk d env = some v) (he : v = .bool c)
    (ht : c = true → AL P w0 N ops Q (o :: rest) ((d, .bool true) :: env) objs) (hf : c = false → AL P w0 N ops Q (o :: rest) ((d, .bool false) :: env) objs) : AL P w0 N ops Q (o :: rest) env objs := sV (he ▸ hv) ht hf

theorem zC {α : Type} [BEq α] [LawfulBEq α] [DecidableEq α] (a b : α) : (a == b) = decide (a = b) := by rw [Bool.eq_iff_iff]; simp
/- The operations. -/
theorem yj {x : Operand} {tv : TV} (ho : o.op = .move x) (hx : ev env x = some tv) : bs P w0 env objs o tv := a6 fun a w _ hop =>
  ⟨a.eval x, by simp [execOp, ho, Sem.run_pure], hop x (by simp [ho, Op.operands]) _ hx⟩
theorem rj {x : Operand} {tv : TV} (ho : o.op = .assign x) (hx : ev env x = some tv) : bs P w0 env objs o tv := a6 fun a w _ hop =>
  ⟨a.eval x, by simp [execOp, ho, Sem.run_pure], hop x (by simp [ho, Op.operands]) _ hx⟩
theorem vH {c x y : Operand} {tv cv : TV} (ho : o.op = .pick c x y) (hc : ev env c = some cv) (he : cv = .bool true) (hx : ev env x = some tv) : bs P w0 env objs o tv := a6 fun a w _ hop => by
  subst he
  have h1 := (hop c (by simp [ho, Op.operands]) _ hc).bool_inv
  exact ⟨a.eval x, by simp [execOp, ho, h1, asBool, Sem.run_pure], hop x (by simp [ho, Op.operands]) _ hx⟩
theorem vN {c x y : Operand} {tv cv : TV} (ho : o.op = .pick c x y) (hc : ev env c = some cv) (he : cv = .bool false) (hx : ev env y = some tv) : bs P w0 env objs o tv := a6 fun a w _ hop => by
  subst he
  have h1 := (hop c (by simp [ho, Op.operands]) _ hc).bool_inv
  exact ⟨a.eval y, by simp [execOp, ho, h1, asBool, Sem.run_pure], hop y (by simp [ho, Op.operands]) _ hx⟩

theorem fE {op : BinOp} {t : TypeId} {x y : Operand} {k : IntKind} {m : Int} {v : Value} {w : World} : (eqGuard op t x y (.int k m) v).run P w = .ok () w := by
  unfold eqGuard
  split <;> simp_all [Sem.run_pure]
theorem fy {op : BinOp} {t : TypeId} {x y : Operand} {b : Bool} {v : Value} {w : World} : (eqGuard op t x y (.bool b) v).run P w = .ok () w := by
  unfold eqGuard
  split <;> simp_all [Sem.run_pure]
theorem kK {op : BinOp} {t : TypeId} {x y : Operand} {b : ByteArray} {v : Value} {w : World} : (eqGuard op t x y (.string b) v).run P w = .ok () w := by
  unfold eqGuard
  split <;> simp_all [Sem.run_pure]

theorem cy {op : BinOp} {t t2 : TypeId} {x y : Operand} {k : IntKind} {m n : Int} {tv : TV} (ho : o.op = .binOp op t x y t2) (hx : ev env x = some (.int k m)) (hy : ev env y = some (.int k n))
    (hr : ∀ w : World, ∃ v, (binOp op t (.int k m) (.int k n)).run P w = .ok v w ∧ Rep w objs tv v) : bs P w0 env objs o tv := a6 fun a w _ hop => by
  have h1 := (hop x (by simp [ho, Op.operands]) _ hx).int_inv
  have h2 := (hop y (by simp [ho, Op.operands]) _ hy).int_inv
  obtain ⟨v, h3, h4⟩ := hr w
  exact ⟨v, by simp [execOp, ho, h1, h2, Sem.run_bind, fE, h3], h4⟩
section
variable {t t2 : TypeId} {x y : Operand} {k : IntKind} {m n : Int}
theorem zi {c : Int} (ho : o.op = .binOp .add t x y t2) (hx : ev env x = some (.int k m)) (hy : ev env y = some (.int k n)) (hc : k.wrap (m + n) = c) : bs P w0 env objs o (.int k c) :=
  cy ho hx hy fun w => ⟨_, by simp [binOp, Op.intArith, Sem.run_pure]; rfl, by rw [hc]; exact .int k c⟩
theorem yN {c : Int} (ho : o.op = .binOp .sub t x y t2) (hx : ev env x = some (.int k m)) (hy : ev env y = some (.int k n)) (hc : k.wrap (m - n) = c) : bs P w0 env objs o (.int k c) :=
  cy ho hx hy fun w => ⟨_, by simp [binOp, Op.intArith, Sem.run_pure]; rfl, by rw [hc]; exact .int k c⟩
theorem yP {c : Int} (ho : o.op = .binOp .mul t x y t2) (hx : ev env x = some (.int k m)) (hy : ev env y = some (.int k n)) (hc : k.wrap (m * n) = c) : bs P w0 env objs o (.int k c) :=
  cy ho hx hy fun w => ⟨_, by simp [binOp, Op.intArith, Sem.run_pure]; rfl, by rw [hc]; exact .int k c⟩
theorem zh {c : Int} (ho : o.op = .binOp .quo t x y t2) (hx : ev env x = some (.int k m)) (hy : ev env y = some (.int k n)) (hn : n ≠ 0) (hc : k.wrap (m.tdiv n) = c) : bs P w0 env objs o (.int k c) :=
  cy ho hx hy fun w => ⟨_, by simp [binOp, Op.intDiv, Sem.run_pure, hn]; rfl, by rw [hc]; exact .int k c⟩
theorem yV {c : Int} (ho : o.op = .binOp .rem t x y t2) (hx : ev env x = some (.int k m)) (hy : ev env y = some (.int k n)) (hn : n ≠ 0) (hc : m.tmod n = c) : bs P w0 env objs o (.int k c) :=
  cy ho hx hy fun w => ⟨_, by simp [binOp, Op.intDiv, Sem.run_pure, hn]; rfl, by rw [hc]; exact .int k c⟩
def orI (k : IntKind) (m n : Int) : Int := k.wrap ((BitVec.ofInt k.bits m ||| BitVec.ofInt k.bits n).toNat : Int)
def zI (k : IntKind) (m n : Int) : Int := k.wrap ((BitVec.ofInt k.bits m &&& BitVec.ofInt k.bits n).toNat : Int)
def yK (k : IntKind) (m n : Int) : Int := k.wrap (m * 2 ^ (min n.toNat k.bits))
theorem zM (ho : o.op = .binOp .or t x y t2) (hx : ev env x = some (.int k m)) (hy : ev env y = some (.int k n)) : bs P w0 env objs o (.int k (orI k m n)) :=
  cy ho hx hy fun w => ⟨_, by simp [binOp, Op.intBits, Sem.run_pure]; rfl, .int k _⟩
theorem yX (ho : o.op = .binOp .and t x y t2) (hx : ev env x = some (.int k m)) (hy : ev env y = some (.int k n)) : bs P w0 env objs o (.int k (zI k m n)) :=
  cy ho hx hy fun w => ⟨_, by simp [binOp, Op.intBits, Sem.run_pure]; rfl, .int k _⟩
theorem yS {k2 : IntKind} (ho : o.op = .binOp .shl t x y t2) (hx : ev env x = some (.int k m)) (hy : ev env y = some (.int k2 n)) (hn : 0 ≤ n) : bs P w0 env objs o (.int k (yK k m n)) := a6 fun a w _ hop => by
  have h1 := (hop x (by simp [ho, Op.operands]) _ hx).int_inv
  have h2 := (hop y (by simp [ho, Op.operands]) _ hy).int_inv
  refine ⟨.int k (yK k m n), ?_, .int k _⟩
  have h3 : ¬ n < 0 := by omega
  simp [execOp, ho, h1, h2, fE, binOp, Op.shift, h3, yK]
theorem yY (ho : o.op = .binOp .eql t x y t2) (hx : ev env x = some (.int k m)) (hy : ev env y = some (.int k n)) : bs P w0 env objs o (.bool (decide (m = n))) :=
  cy ho hx hy fun w => ⟨.bool (m == n), by simp [binOp, Op.intCmp, Sem.run_pure], by rw [zC]; exact .bool _⟩
theorem zl (ho : o.op = .binOp .neq t x y t2) (hx : ev env x = some (.int k m)) (hy : ev env y = some (.int k n)) : bs P w0 env objs o (.bool (decide (m ≠ n))) :=
  cy ho hx hy fun w => ⟨.bool (m != n), by simp [binOp, Op.intCmp, Sem.run_pure], by
    have : (m != n) = decide (m ≠ n) := by rw [bne, zC]; simp
    rw [this]; exact .bool _⟩
theorem yM (ho : o.op = .binOp .lss t x y t2) (hx : ev env x = some (.int k m)) (hy : ev env y = some (.int k n)) : bs P w0 env objs o (.bool (decide (m < n))) :=
  cy ho hx hy fun w => ⟨_, by simp only [binOp, Op.intCmp, ne_eq, not_true_eq_false, if_false]; rfl, .bool _⟩
theorem zk (ho : o.op = .binOp .leq t x y t2) (hx : ev env x = some (.int k m)) (hy : ev env y = some (.int k n)) : bs P w0 env objs o (.bool (decide (m ≤ n))) :=
  cy ho hx hy fun w => ⟨_, by simp only [binOp, Op.intCmp, ne_eq, not_true_eq_false, if_false]; rfl, .bool _⟩
theorem zz (ho : o.op = .binOp .gtr t x y t2) (hx : ev env x = some (.int k m)) (hy : ev env y = some (.int k n)) : bs P w0 env objs o (.bool (decide (n < m))) :=
  cy ho hx hy fun w => ⟨_, by simp only [binOp, Op.intCmp, ne_eq, not_true_eq_false, if_false]; rfl, .bool _⟩
theorem zy (ho : o.op = .binOp .geq t x y t2) (hx : ev env x = some (.int k m)) (hy : ev env y = some (.int k n)) : bs P w0 env objs o (.bool (decide (n ≤ m))) :=
  cy ho hx hy fun w => ⟨_, by simp only [binOp, Op.intCmp, ne_eq, not_true_eq_false, if_false]; rfl, .bool _⟩
theorem sg {src dst : TypeId} {k2 : IntKind} {c : Int} (ho : o.op = .convert src dst x) (hx : ev env x = some (.int k m)) (hk : kdT dst = some k2) (hs : (P.underlying src).isSome = true) (hd : P.underlying dst = some (.int k2)) (hc : k2.wrap m = c) : bs P w0 env objs o (.int k2 c) :=
  a6 fun a w _ hop => by
    have h1 := (hop x (by simp [ho, Op.operands]) _ hx).int_inv
    refine ⟨.int k2 c, ?_, .int k2 c⟩
    obtain ⟨d, hs⟩ := Option.isSome_iff_exists.1 hs
    subst hc
    simp only [execOp, ho, h1]
    refine cq ?_
    simp only [convert, Sem.run_bind, run_underlying hs, run_underlying hd, Result.andThen_ok]
    simp [Conv.intToInt, Sem.run_pure]
end
section
variable {t t2 : TypeId} {x y : Operand}
theorem wZ {b c : Bool} (ho : o.op = .binOp .eql t x y t2) (hx : ev env x = some (.bool b)) (hy : ev env y = some (.bool c)) (hu : P.underlying t = some .bool) : bs P w0 env objs o (.bool (b == c)) := a6 fun a w _ hop => by
  have h1 := (hop x (by simp [ho, Op.operands]) _ hx).bool_inv
  have h2 := (hop y (by simp [ho, Op.operands]) _ hy).bool_inv
  exact ⟨.bool (b == c), by simp [execOp, ho, h1, h2, Sem.run_bind, fy, binOp, run_equal_bool _ t b c hu], .bool _⟩
theorem wU {b c : Bool} (ho : o.op = .binOp .neq t x y t2) (hx : ev env x = some (.bool b)) (hy : ev env y = some (.bool c)) (hu : P.underlying t = some .bool) : bs P w0 env objs o (.bool (b != c)) := a6 fun a w _ hop => by
  have h1 := (hop x (by simp [ho, Op.operands]) _ hx).bool_inv
  have h2 := (hop y (by simp [ho, Op.operands]) _ hy).bool_inv
  exact ⟨.bool (b != c), by simp [execOp, ho, h1, h2, Sem.run_bind, fy, binOp, run_equal_bool _ t b c hu, bne], .bool _⟩
theorem kx (s u : ByteArray) : (s.toList == u.toList) = decide (s = u) := by
  by_cases h : s = u
  · subst h; simp
  · have : ¬ s.toList = u.toList := fun e => h (WideShapes.bytes_inj (by rw [← Lib.toList_data, ← Lib.toList_data]; exact e))
    simp [h, this]
theorem jX {op : BinOp} {s u : ByteArray} {tv : TV} (ho : o.op = .binOp op t x y t2) (hx : ev env x = some (.str s)) (hy : ev env y = some (.str u))
    (hr : ∀ w : World, ∃ v, (Op.stringOp op s u).run P w = .ok v w ∧ Rep w objs tv v) (hs : op ≠ .shl := by decide) (hs2 : op ≠ .shr := by decide) : bs P w0 env objs o tv := a6 fun a w _ hop => by
  have h1 := (hop x (by simp [ho, Op.operands]) _ hx).str_inv
  have h2 := (hop y (by simp [ho, Op.operands]) _ hy).str_inv
  obtain ⟨v, h3, h4⟩ := hr w
  refine ⟨v, ?_, h4⟩
  have h5 : binOp op t (.string s) (.string u) = Op.stringOp op s u := by cases op <;> rfl
  simp [execOp, ho, h1, h2, Sem.run_bind, kK, h5, h3]
theorem xK {s u : ByteArray} (ho : o.op = .binOp .eql t x y t2) (hx : ev env x = some (.str s)) (hy : ev env y = some (.str u)) : bs P w0 env objs o (.bool (decide (s = u))) :=
  jX ho hx hy fun w => ⟨.bool (s.toList == u.toList), by simp [Op.stringOp, Sem.run_pure], by rw [kx]; exact .bool _⟩
theorem xl {s u : ByteArray} (ho : o.op = .binOp .neq t x y t2) (hx : ev env x = some (.str s)) (hy : ev env y = some (.str u)) : bs P w0 env objs o (.bool (decide (s ≠ u))) :=
  jX ho hx hy fun w => ⟨.bool (!(s.toList == u.toList)), by simp [Op.stringOp, Sem.run_pure], by
    have : (!(s.toList == u.toList)) = decide (s ≠ u) := by rw [kx]; simp
    rw [this]; exact .bool _⟩
theorem qF (w : World) (s u : ByteArray) (hl : s.size + u.size ≤ 9223372036854775807) : (Op.stringOp .add s u).run P w = .ok (.string (s ++ u)) w := by
  have h9 : IntKind.max .i64 = 9223372036854775807 := by decide
  have h10 : ¬ (((s.size + u.size : Nat) : Int) > IntKind.max .i64) := by rw [h9]; omega
  unfold Op.stringOp
  simp only [h10, if_false]; rfl
theorem xS {s u : ByteArray} (ho : o.op = .binOp .add t x y t2) (hx : ev env x = some (.str s)) (hy : ev env y = some (.str u)) (hl : s.size + u.size ≤ 9223372036854775807) : bs P w0 env objs o (.str (s ++ u)) :=
  jX ho hx hy fun w => ⟨.string (s ++ u), qF w s u hl, .str _⟩
theorem yQ {p : Prop} {i : Decidable p} (ho : o.op = .unOp .not t x) (hx : ev env x = some (.bool (@decide p i))) : bs P w0 env objs o (.bool (decide (¬ p))) := a6 fun a w _ hop => by
  have h1 := (hop x (by simp [ho, Op.operands]) _ hx).bool_inv
  refine ⟨.bool (!(decide p)), by simp [execOp, ho, h1, Op.unary, Sem.run_pure], ?_⟩
  have : (!(decide p)) = decide (¬ p) := by simp
  rw [this]; exact .bool _
theorem pA {b : Bool} (ho : o.op = .unOp .not t x) (hx : ev env x = some (.bool b)) : bs P w0 env objs o (.bool (!b)) := a6 fun a w _ hop => by
  have h1 := (hop x (by simp [ho, Op.operands]) _ hx).bool_inv
  exact ⟨.bool (!b), by simp [execOp, ho, h1, Op.unary, Sem.run_pure], .bool _⟩
end
end
end Go.Proofs.YthpdkhejeookhaaGreatDoor
