/- Part 5 of the proof: the texts Num, Types. -/
import Derived.Test.YtiihihgjiklnoaaGreatDoorSr1
import Derived.Test.YtiihihgjiklnoaaGreatDoorSr2
import Derived.Lib.AppendIntMem
set_option linter.all false
namespace Go.Proofs.YtiihihgjiklnoaaGreatDoor
open Go Go.RowKit
def aff (w : World) : Prop := Lib.TabIs Tryz.prog w "internal/strconv.uint64pow10" .u64 Lib.pow10Tab
theorem aff.below {w w' : World} (h : aff w) (hb : Below w.heap.size w w') : aff w' := Lib.tabBelow_of_tabIs h w' hb
def afC (n : Int) : ByteArray := ⟨(Lib.itoa n).toArray⟩
theorem qw : ∀ (k u : Nat), u < 10 ^ (k + 1) -> Lib.nDigits u <= k + 1
 | 0, u, h => by rw [Lib.nDigits_small (by simpa using h)]; omega
 | k + 1, u, h => by
   by_cases h1 : u < 10
   ·rw [Lib.nDigits_small h1]; omega
   ·rw [Lib.nDigits_big h1]
    have := qw k (u / 10) (by rw [Nat.pow_succ] at h; omega)
    omega
def pre (u : Nat) : List UInt8 := if u = 0 then [] else Lib.decDigits u
theorem abG {u : Nat} (h : u ≠ 0) : pre u = pre (u / 10) ++ [UInt8.ofNat (48 + u % 10)] := by
 unfold pre
 rw [if_neg h, Lib.decDigits]
 by_cases h1 : u < 10
 ·rw [dif_pos h1, if_pos (by omega), Nat.mod_eq_of_lt h1]; rfl
 ·rw [dif_neg h1, if_neg (by omega)]
theorem yg {u : Nat} (h : u < 10000000000000000000) : (pre u).length <= 19 := by
 unfold pre
 split
 ·simp
 ·rw [Lib.decDigits_length]; exact qw 18 u (by simpa using h)
theorem ab2 {n : Int} (hz : n ≠ 0) : afC n = if n < 0 then ⟨(45 :: pre n.natAbs).toArray⟩ else ⟨(pre n.natAbs).toArray⟩ := by
 have h1 : pre n.natAbs = Lib.decDigits n.natAbs := by unfold pre; rw [if_neg (by omega)]
 rw [h1]
 unfold afC Lib.itoa
 by_cases h : n < 0
 ·rw [if_pos h, if_pos h]
 ·rw [if_neg h, if_neg h, show n.toNat = n.natAbs by omega]
theorem abP (src : TypeId) (e : TypeId) (w : World) (d : Nat) (hd : d < 256) (v : Int) (hv : v = d) (hs : Tryz.prog.underlying src = some (.slice e)) (he : Tryz.prog.underlying e = some (.int .u8)) :
   (convert src 9 (.slice (some ⟨w.heap.size, 0, none⟩) 1 1)).run Tryz.prog (w.alloc (.cells #[.int .u8 v] e)) = .ok (.string ⟨#[UInt8.ofNat d]⟩) (w.alloc (.cells #[.int .u8 v] e)) := by
 subst hv
 refine run_convert_bytes_back (P := Tryz.prog) _ src 9 e ⟨w.heap.size, 0, none⟩ 1 [UInt8.ofNat d] hs he Tryz.underlying9 fun j hj => ?_
 have hj0 : j = 0 := by simp at hj; omega
 subst hj0
 have h := Blk.cell (Blk.new w e #[.int .u8 (d : Int)]) 0
 rw [show (⟨w.heap.size, 0, none⟩ : Addr).add 0 = ⟨w.heap.size, 0, none⟩ from rfl, h]
 show some (Value.int .u8 (d : Int)) = some (.int .u8 ((UInt8.ofNat d).toNat : Int))
 rw [UInt8.toNat_ofNat', Nat.mod_eq_of_lt hd]
def bl {α : Type} (f : α -> Nat) (l : List α) : Nat := l.length + (l.map f).sum
theorem iZ {α : Type} {R : PT -> α -> Prop} {P : α -> Prop} {l : List PT} {xs : List α} (h : AtL R l xs) (hs : PT.saneL l) (hp : ∀ t x, R t x -> t.sane -> P x) : ∀ x ∈ xs, P x := fun x hx => by
 obtain ⟨i, hi, rfl⟩ := List.getElem_of_mem hx
 have hi' : i < l.length := by rw [h.1]; exact hi
 exact hp _ _ (h.get hi') (PT.saneL_mem hs (List.getElem_mem hi'))
structure ab where
 kind : Int
 number : Int
 text : ByteArray
def ab.ty : Ty := .agg [.int .i64, .int .i64, .str]
def ab.sane (x : ab) : Prop := i64 x.kind /\ i64 x.number /\ x.text.size <= maxLen
def ab.pt (x : ab) : PT := .agg [.int .i64 x.kind, .int .i64 x.number, .str x.text]
theorem ab.flat : sh ab.pt 3 := ⟨fun _ => rfl, fun _ => rfl, fun _ _ => by simp [ab.pt, Own, jE], fun _ _ _ => by simp [ab.pt, en, cF]⟩
theorem ab.of_ty {t : PT} (h : cM ab.ty t) : ∃ x : ab, t = x.pt := by
 simp only [ab.ty, cM, dY] at h
 obtain ⟨_, rfl, h⟩ := h
 obtain ⟨u0, _, rfl, h0, h⟩ := h
 obtain ⟨v0, rfl⟩ := h0
 obtain ⟨u1, _, rfl, h1, h⟩ := h
 obtain ⟨v1, rfl⟩ := h1
 obtain ⟨u2, _, rfl, h2, h⟩ := h
 obtain ⟨v2, rfl⟩ := h2
 subst h
 exact ⟨⟨v0, v1, v2⟩, rfl⟩
theorem ab.sane_of {x : ab} (h : x.pt.sane) : x.sane := by
 simp only [ab.pt, PT.sane, PT.saneL] at h
 exact ⟨cg h.1, cg h.2.1, h.2.2.1⟩
structure ah where
 op : Int
 a : Int
 b : Int
 text : ByteArray
def ah.ty : Ty := .agg [.int .i64, .int .i64, .int .i64, .str]
def ah.sane (x : ah) : Prop := i64 x.op /\ i64 x.a /\ i64 x.b /\ x.text.size <= maxLen
def ah.pt (x : ah) : PT := .agg [.int .i64 x.op, .int .i64 x.a, .int .i64 x.b, .str x.text]
theorem ah.flat : sh ah.pt 4 := ⟨fun _ => rfl, fun _ => rfl, fun _ _ => by simp [ah.pt, Own, jE], fun _ _ _ => by simp [ah.pt, en, cF]⟩
theorem ah.of_ty {t : PT} (h : cM ah.ty t) : ∃ x : ah, t = x.pt := by
 simp only [ah.ty, cM, dY] at h
 obtain ⟨_, rfl, h⟩ := h
 obtain ⟨u0, _, rfl, h0, h⟩ := h
 obtain ⟨v0, rfl⟩ := h0
 obtain ⟨u1, _, rfl, h1, h⟩ := h
 obtain ⟨v1, rfl⟩ := h1
 obtain ⟨u2, _, rfl, h2, h⟩ := h
 obtain ⟨v2, rfl⟩ := h2
 obtain ⟨u3, _, rfl, h3, h⟩ := h
 obtain ⟨v3, rfl⟩ := h3
 subst h
 exact ⟨⟨v0, v1, v2, v3⟩, rfl⟩
theorem ah.sane_of {x : ah} (h : x.pt.sane) : x.sane := by
 simp only [ah.pt, PT.sane, PT.saneL] at h
 exact ⟨cg h.1, cg h.2.1, cg h.2.2.1, h.2.2.2.1⟩
structure aC where
 block : Bool
 params : Int
 slots : Int
 instrs : List ah
def aC.ty : Ty := .agg [.bool, .int .i64, .int .i64, .sl 4 ah.ty]
def aC.sane (x : aC) : Prop := i64 x.params /\ i64 x.slots /\ (∀ y ∈ x.instrs, y.sane)
def j4 (t : PT) (x : aC) : Prop := ∃ (A3 : Option Addr) (c3 : Nat), t = .agg [.bool x.block, .int .i64 x.params, .int .i64 x.slots, .sl A3 c3 4 ((x.instrs).map ah.pt)]
theorem j4.cells {t : PT} {x : aC} (h : j4 t x) : t.cells.length = 4 := by
 obtain ⟨A3, c3, rfl⟩ := h
 rfl
theorem aC.of_ty {t : PT} (h : cM aC.ty t) : ∃ x : aC, j4 t x := by
 simp only [aC.ty, cM, dY] at h
 obtain ⟨_, rfl, h⟩ := h
 obtain ⟨u0, _, rfl, h0, h⟩ := h
 obtain ⟨v0, rfl⟩ := h0
 obtain ⟨u1, _, rfl, h1, h⟩ := h
 obtain ⟨v1, rfl⟩ := h1
 obtain ⟨u2, _, rfl, h2, h⟩ := h
 obtain ⟨v2, rfl⟩ := h2
 obtain ⟨u3, _, rfl, h3, h⟩ := h
 obtain ⟨A3, c3, l3, rfl, h3⟩ := h3
 obtain ⟨v3, rfl⟩ := iI fun t ht => ah.of_ty (h3 t ht)
 subst h
 exact ⟨⟨v0, v1, v2, v3⟩, _, _, rfl⟩
theorem aC.sane_of {t : PT} {x : aC} (ha : j4 t x) (h : t.sane) : x.sane := by
 obtain ⟨A3, c3, rfl⟩ := ha
 simp only [PT.sane, PT.saneL] at h
 exact ⟨cg h.2.1, cg h.2.2.1, fun y hy => ah.sane_of (PT.saneL_mem h.2.2.2.1 (List.mem_map_of_mem (f := ah.pt) hy))⟩
structure aA where
 owner : Int
 class_ : Bool
 selector : ByteArray
 code : Int
def aA.ty : Ty := .agg [.int .i64, .bool, .str, .int .i64]
def aA.sane (x : aA) : Prop := i64 x.owner /\ x.selector.size <= maxLen /\ i64 x.code
def aA.pt (x : aA) : PT := .agg [.int .i64 x.owner, .bool x.class_, .str x.selector, .int .i64 x.code]
theorem aA.flat : sh aA.pt 4 := ⟨fun _ => rfl, fun _ => rfl, fun _ _ => by simp [aA.pt, Own, jE], fun _ _ _ => by simp [aA.pt, en, cF]⟩
theorem aA.of_ty {t : PT} (h : cM aA.ty t) : ∃ x : aA, t = x.pt := by
 simp only [aA.ty, cM, dY] at h
 obtain ⟨_, rfl, h⟩ := h
 obtain ⟨u0, _, rfl, h0, h⟩ := h
 obtain ⟨v0, rfl⟩ := h0
 obtain ⟨u1, _, rfl, h1, h⟩ := h
 obtain ⟨v1, rfl⟩ := h1
 obtain ⟨u2, _, rfl, h2, h⟩ := h
 obtain ⟨v2, rfl⟩ := h2
 obtain ⟨u3, _, rfl, h3, h⟩ := h
 obtain ⟨v3, rfl⟩ := h3
 subst h
 exact ⟨⟨v0, v1, v2, v3⟩, rfl⟩
theorem aA.sane_of {x : aA} (h : x.pt.sane) : x.sane := by
 simp only [aA.pt, PT.sane, PT.saneL] at h
 exact ⟨cg h.1, h.2.2.1, cg h.2.2.2.1⟩
structure aa where
 name : ByteArray
 parent : Int
 fields : List ByteArray
def aa.ty : Ty := .agg [.str, .int .i64, .sl 1 (.str)]
def aa.sane (x : aa) : Prop := x.name.size <= maxLen /\ i64 x.parent /\ (∀ s ∈ x.fields, s.size <= maxLen)
def df (t : PT) (x : aa) : Prop := ∃ (A2 : Option Addr) (c2 : Nat), t = .agg [.str x.name, .int .i64 x.parent, .sl A2 c2 1 ((x.fields).map PT.str)]
theorem df.cells {t : PT} {x : aa} (h : df t x) : t.cells.length = 3 := by
 obtain ⟨A2, c2, rfl⟩ := h
 rfl
theorem aa.of_ty {t : PT} (h : cM aa.ty t) : ∃ x : aa, df t x := by
 simp only [aa.ty, cM, dY] at h
 obtain ⟨_, rfl, h⟩ := h
 obtain ⟨u0, _, rfl, h0, h⟩ := h
 obtain ⟨v0, rfl⟩ := h0
 obtain ⟨u1, _, rfl, h1, h⟩ := h
 obtain ⟨v1, rfl⟩ := h1
 obtain ⟨u2, _, rfl, h2, h⟩ := h
 obtain ⟨A2, c2, l2, rfl, h2⟩ := h2
 obtain ⟨v2, rfl⟩ := iI fun t ht => h2 t ht
 subst h
 exact ⟨⟨v0, v1, v2⟩, _, _, rfl⟩
theorem aa.sane_of {t : PT} {x : aa} (ha : df t x) (h : t.sane) : x.sane := by
 obtain ⟨A2, c2, rfl⟩ := ha
 simp only [PT.sane, PT.saneL] at h
 exact ⟨h.1, cg h.2.1, fun s hs => PT.saneL_mem h.2.2.1 (List.mem_map_of_mem (f := PT.str) hs)⟩
structure aD where
 classes : List aa
 codes : List aC
 entries : List aA
 main : Int
def aD.ty : Ty := .agg [.sl 3 aa.ty, .sl 4 aC.ty, .sl 4 aA.ty, .int .i64]
def aD.sane (x : aD) : Prop := (∀ y ∈ x.classes, y.sane) /\ (∀ y ∈ x.codes, y.sane) /\ (∀ y ∈ x.entries, y.sane) /\ i64 x.main
def dI (t : PT) (x : aD) : Prop := ∃ (A0 : Option Addr) (c0 : Nat) (l0 : List PT) (A1 : Option Addr) (c1 : Nat) (l1 : List PT) (A2 : Option Addr) (c2 : Nat), AtL df l0 (x.classes) /\ AtL j4 l1 (x.codes) /\ t = .agg [.sl A0 c0 3 l0, .sl A1 c1 4 l1, .sl A2 c2 4 ((x.entries).map aA.pt), .int .i64 x.main]
theorem dI.cells {t : PT} {x : aD} (h : dI t x) : t.cells.length = 4 := by
 obtain ⟨A0, c0, l0, A1, c1, l1, A2, c2, h0, h1, rfl⟩ := h
 rfl
theorem aD.of_ty {t : PT} (h : cM aD.ty t) : ∃ x : aD, dI t x := by
 simp only [aD.ty, cM, dY] at h
 obtain ⟨_, rfl, h⟩ := h
 obtain ⟨u0, _, rfl, h0, h⟩ := h
 obtain ⟨A0, c0, l0, rfl, h0⟩ := h0
 obtain ⟨v0, k0⟩ := ui fun t ht => aa.of_ty (h0 t ht)
 obtain ⟨u1, _, rfl, h1, h⟩ := h
 obtain ⟨A1, c1, l1, rfl, h1⟩ := h1
 obtain ⟨v1, k1⟩ := ui fun t ht => aC.of_ty (h1 t ht)
 obtain ⟨u2, _, rfl, h2, h⟩ := h
 obtain ⟨A2, c2, l2, rfl, h2⟩ := h2
 obtain ⟨v2, rfl⟩ := iI fun t ht => aA.of_ty (h2 t ht)
 obtain ⟨u3, _, rfl, h3, h⟩ := h
 obtain ⟨v3, rfl⟩ := h3
 subst h
 exact ⟨⟨v0, v1, v2, v3⟩, _, _, _, _, _, _, _, _, k0, k1, rfl⟩
theorem aD.sane_of {t : PT} {x : aD} (ha : dI t x) (h : t.sane) : x.sane := by
 obtain ⟨A0, c0, l0, A1, c1, l1, A2, c2, h0, h1, rfl⟩ := ha
 simp only [PT.sane, PT.saneL] at h
 exact ⟨iZ h0 h.1 fun _ _ a b => aa.sane_of a b, iZ h1 h.2.1 fun _ _ a b => aC.sane_of a b, fun y hy => aA.sane_of (PT.saneL_mem h.2.2.1 (List.mem_map_of_mem (f := aA.pt) hy)), cg h.2.2.2.1⟩
structure au where
 kind : Int
 class_ : Int
 fields : List ab
 numbers : List Int
def au.ty : Ty := .agg [.int .i64, .int .i64, .sl 3 ab.ty, .sl 1 (.int .i64)]
def au.sane (x : au) : Prop := i64 x.kind /\ i64 x.class_ /\ (∀ y ∈ x.fields, y.sane) /\ (∀ n ∈ x.numbers, i64 n)
def fP (t : PT) (x : au) : Prop := ∃ (A2 : Option Addr) (c2 : Nat) (A3 : Option Addr) (c3 : Nat), t = .agg [.int .i64 x.kind, .int .i64 x.class_, .sl A2 c2 3 ((x.fields).map ab.pt), .sl A3 c3 1 ((x.numbers).map (PT.int .i64))]
theorem fP.cells {t : PT} {x : au} (h : fP t x) : t.cells.length = 4 := by
 obtain ⟨A2, c2, A3, c3, rfl⟩ := h
 rfl
theorem au.of_ty {t : PT} (h : cM au.ty t) : ∃ x : au, fP t x := by
 simp only [au.ty, cM, dY] at h
 obtain ⟨_, rfl, h⟩ := h
 obtain ⟨u0, _, rfl, h0, h⟩ := h
 obtain ⟨v0, rfl⟩ := h0
 obtain ⟨u1, _, rfl, h1, h⟩ := h
 obtain ⟨v1, rfl⟩ := h1
 obtain ⟨u2, _, rfl, h2, h⟩ := h
 obtain ⟨A2, c2, l2, rfl, h2⟩ := h2
 obtain ⟨v2, rfl⟩ := iI fun t ht => ab.of_ty (h2 t ht)
 obtain ⟨u3, _, rfl, h3, h⟩ := h
 obtain ⟨A3, c3, l3, rfl, h3⟩ := h3
 obtain ⟨v3, rfl⟩ := iI fun t ht => h3 t ht
 subst h
 exact ⟨⟨v0, v1, v2, v3⟩, _, _, _, _, rfl⟩
theorem au.sane_of {t : PT} {x : au} (ha : fP t x) (h : t.sane) : x.sane := by
 obtain ⟨A2, c2, A3, c3, rfl⟩ := ha
 simp only [PT.sane, PT.saneL] at h
 exact ⟨cg h.1, cg h.2.1, fun y hy => ab.sane_of (PT.saneL_mem h.2.2.1 (List.mem_map_of_mem (f := ab.pt) hy)), fun n hn => cg (PT.saneL_mem h.2.2.2.1 (List.mem_map_of_mem (f := PT.int .i64) hn))⟩
structure aR where
 classes : List aa
 objects : List au
 output : List ByteArray
 ticks : Int
 budget : Int
 made : Int
def aR.ty : Ty := .agg [.sl 3 aa.ty, .sl 4 au.ty, .sl 1 (.str), .int .i64, .int .i64, .int .i64]
def aR.sane (x : aR) : Prop := (∀ y ∈ x.classes, y.sane) /\ (∀ y ∈ x.objects, y.sane) /\ (∀ s ∈ x.output, s.size <= maxLen) /\ i64 x.ticks /\ i64 x.budget /\ i64 x.made
def gn (t : PT) (x : aR) : Prop := ∃ (A0 : Option Addr) (c0 : Nat) (l0 : List PT) (A1 : Option Addr) (c1 : Nat) (l1 : List PT) (A2 : Option Addr) (c2 : Nat), AtL df l0 (x.classes) /\ AtL fP l1 (x.objects) /\ t = .agg [.sl A0 c0 3 l0, .sl A1 c1 4 l1, .sl A2 c2 1 ((x.output).map PT.str), .int .i64 x.ticks, .int .i64 x.budget, .int .i64 x.made]
theorem gn.cells {t : PT} {x : aR} (h : gn t x) : t.cells.length = 6 := by
 obtain ⟨A0, c0, l0, A1, c1, l1, A2, c2, h0, h1, rfl⟩ := h
 rfl
theorem aR.of_ty {t : PT} (h : cM aR.ty t) : ∃ x : aR, gn t x := by
 simp only [aR.ty, cM, dY] at h
 obtain ⟨_, rfl, h⟩ := h
 obtain ⟨u0, _, rfl, h0, h⟩ := h
 obtain ⟨A0, c0, l0, rfl, h0⟩ := h0
 obtain ⟨v0, k0⟩ := ui fun t ht => aa.of_ty (h0 t ht)
 obtain ⟨u1, _, rfl, h1, h⟩ := h
 obtain ⟨A1, c1, l1, rfl, h1⟩ := h1
 obtain ⟨v1, k1⟩ := ui fun t ht => au.of_ty (h1 t ht)
 obtain ⟨u2, _, rfl, h2, h⟩ := h
 obtain ⟨A2, c2, l2, rfl, h2⟩ := h2
 obtain ⟨v2, rfl⟩ := iI fun t ht => h2 t ht
 obtain ⟨u3, _, rfl, h3, h⟩ := h
 obtain ⟨v3, rfl⟩ := h3
 obtain ⟨u4, _, rfl, h4, h⟩ := h
 obtain ⟨v4, rfl⟩ := h4
 obtain ⟨u5, _, rfl, h5, h⟩ := h
 obtain ⟨v5, rfl⟩ := h5
 subst h
 exact ⟨⟨v0, v1, v2, v3, v4, v5⟩, _, _, _, _, _, _, _, _, k0, k1, rfl⟩
theorem aR.sane_of {t : PT} {x : aR} (ha : gn t x) (h : t.sane) : x.sane := by
 obtain ⟨A0, c0, l0, A1, c1, l1, A2, c2, h0, h1, rfl⟩ := ha
 simp only [PT.sane, PT.saneL] at h
 exact ⟨iZ h0 h.1 fun _ _ a b => aa.sane_of a b, iZ h1 h.2.1 fun _ _ a b => au.sane_of a b, fun s hs => PT.saneL_mem h.2.2.1 (List.mem_map_of_mem (f := PT.str) hs), cg h.2.2.2.1, cg h.2.2.2.2.1, cg h.2.2.2.2.2.1⟩
structure aj where
 code : Int
 outer : Int
 home : Int
 self : ab
def aj.ty : Ty := .agg [.int .i64, .int .i64, .int .i64, ab.ty]
def aj.sane (x : aj) : Prop := i64 x.code /\ i64 x.outer /\ i64 x.home /\ x.self.sane
def aj.pt (x : aj) : PT := .agg [.int .i64 x.code, .int .i64 x.outer, .int .i64 x.home, x.self.pt]
theorem aj.flat : sh aj.pt 6 := ⟨fun _ => rfl, fun _ => rfl, fun _ _ => by simp [aj.pt, Own, jE, ab.pt], fun _ _ _ => by simp [aj.pt, en, cF, ab.pt]⟩
theorem aj.of_ty {t : PT} (h : cM aj.ty t) : ∃ x : aj, t = x.pt := by
 simp only [aj.ty, cM, dY] at h
 obtain ⟨_, rfl, h⟩ := h
 obtain ⟨u0, _, rfl, h0, h⟩ := h
 obtain ⟨v0, rfl⟩ := h0
 obtain ⟨u1, _, rfl, h1, h⟩ := h
 obtain ⟨v1, rfl⟩ := h1
 obtain ⟨u2, _, rfl, h2, h⟩ := h
 obtain ⟨v2, rfl⟩ := h2
 obtain ⟨u3, _, rfl, h3, h⟩ := h
 obtain ⟨v3, rfl⟩ := ab.of_ty h3
 subst h
 exact ⟨⟨v0, v1, v2, v3⟩, rfl⟩
theorem aj.sane_of {x : aj} (h : x.pt.sane) : x.sane := by
 simp only [aj.pt, PT.sane, PT.saneL] at h
 exact ⟨cg h.1, cg h.2.1, cg h.2.2.1, ab.sane_of h.2.2.2.1⟩
structure ap where
 mark : Int
 code : Int
 pc : Int
 sender : Int
 outer : Int
 home : Int
 self : ab
 slots : List ab
 stack : List ab
 values : List ab
 other : Int
 retry : Bool
def ap.ty : Ty := .agg [.int .i64, .int .i64, .int .i64, .int .i64, .int .i64, .int .i64, ab.ty, .sl 3 ab.ty, .sl 3 ab.ty, .sl 3 ab.ty, .int .i64, .bool]
def ap.sane (x : ap) : Prop := i64 x.mark /\ i64 x.code /\ i64 x.pc /\ i64 x.sender /\ i64 x.outer /\ i64 x.home /\ x.self.sane /\ (∀ y ∈ x.slots, y.sane) /\ (∀ y ∈ x.stack, y.sane) /\ (∀ y ∈ x.values, y.sane) /\ i64 x.other
def fa (t : PT) (x : ap) : Prop := ∃ (A7 : Option Addr) (c7 : Nat) (A8 : Option Addr) (c8 : Nat) (A9 : Option Addr) (c9 : Nat), t = .agg [.int .i64 x.mark, .int .i64 x.code, .int .i64 x.pc, .int .i64 x.sender, .int .i64 x.outer, .int .i64 x.home, x.self.pt, .sl A7 c7 3 ((x.slots).map ab.pt), .sl A8 c8 3 ((x.stack).map ab.pt), .sl A9 c9 3 ((x.values).map ab.pt), .int .i64 x.other, .bool x.retry]
theorem fa.cells {t : PT} {x : ap} (h : fa t x) : t.cells.length = 14 := by
 obtain ⟨A7, c7, A8, c8, A9, c9, rfl⟩ := h
 rfl
theorem ap.of_ty {t : PT} (h : cM ap.ty t) : ∃ x : ap, fa t x := by
 simp only [ap.ty, cM, dY] at h
 obtain ⟨_, rfl, h⟩ := h
 obtain ⟨u0, _, rfl, h0, h⟩ := h
 obtain ⟨v0, rfl⟩ := h0
 obtain ⟨u1, _, rfl, h1, h⟩ := h
 obtain ⟨v1, rfl⟩ := h1
 obtain ⟨u2, _, rfl, h2, h⟩ := h
 obtain ⟨v2, rfl⟩ := h2
 obtain ⟨u3, _, rfl, h3, h⟩ := h
 obtain ⟨v3, rfl⟩ := h3
 obtain ⟨u4, _, rfl, h4, h⟩ := h
 obtain ⟨v4, rfl⟩ := h4
 obtain ⟨u5, _, rfl, h5, h⟩ := h
 obtain ⟨v5, rfl⟩ := h5
 obtain ⟨u6, _, rfl, h6, h⟩ := h
 obtain ⟨v6, rfl⟩ := ab.of_ty h6
 obtain ⟨u7, _, rfl, h7, h⟩ := h
 obtain ⟨A7, c7, l7, rfl, h7⟩ := h7
 obtain ⟨v7, rfl⟩ := iI fun t ht => ab.of_ty (h7 t ht)
 obtain ⟨u8, _, rfl, h8, h⟩ := h
 obtain ⟨A8, c8, l8, rfl, h8⟩ := h8
 obtain ⟨v8, rfl⟩ := iI fun t ht => ab.of_ty (h8 t ht)
 obtain ⟨u9, _, rfl, h9, h⟩ := h
 obtain ⟨A9, c9, l9, rfl, h9⟩ := h9
 obtain ⟨v9, rfl⟩ := iI fun t ht => ab.of_ty (h9 t ht)
 obtain ⟨u10, _, rfl, h10, h⟩ := h
 obtain ⟨v10, rfl⟩ := h10
 obtain ⟨u11, _, rfl, h11, h⟩ := h
 obtain ⟨v11, rfl⟩ := h11
 subst h
 exact ⟨⟨v0, v1, v2, v3, v4, v5, v6, v7, v8, v9, v10, v11⟩, _, _, _, _, _, _, rfl⟩
theorem ap.sane_of {t : PT} {x : ap} (ha : fa t x) (h : t.sane) : x.sane := by
 obtain ⟨A7, c7, A8, c8, A9, c9, rfl⟩ := ha
 simp only [PT.sane, PT.saneL] at h
 exact ⟨cg h.1, cg h.2.1, cg h.2.2.1, cg h.2.2.2.1, cg h.2.2.2.2.1, cg h.2.2.2.2.2.1, ab.sane_of h.2.2.2.2.2.2.1, fun y hy => ab.sane_of (PT.saneL_mem h.2.2.2.2.2.2.2.1 (List.mem_map_of_mem (f := ab.pt) hy)), fun y hy => ab.sane_of (PT.saneL_mem h.2.2.2.2.2.2.2.2.1 (List.mem_map_of_mem (f := ab.pt) hy)), fun y hy => ab.sane_of (PT.saneL_mem h.2.2.2.2.2.2.2.2.2.1 (List.mem_map_of_mem (f := ab.pt) hy)), cg h.2.2.2.2.2.2.2.2.2.2.1⟩
structure ar where
 at_ : Int
 main : Bool
def ar.ty : Ty := .agg [.int .i64, .bool]
def ar.sane (x : ar) : Prop := i64 x.at_
def ar.pt (x : ar) : PT := .agg [.int .i64 x.at_, .bool x.main]
theorem ar.flat : sh ar.pt 2 := ⟨fun _ => rfl, fun _ => rfl, fun _ _ => by simp [ar.pt, Own, jE], fun _ _ _ => by simp [ar.pt, en, cF]⟩
theorem ar.of_ty {t : PT} (h : cM ar.ty t) : ∃ x : ar, t = x.pt := by
 simp only [ar.ty, cM, dY] at h
 obtain ⟨_, rfl, h⟩ := h
 obtain ⟨u0, _, rfl, h0, h⟩ := h
 obtain ⟨v0, rfl⟩ := h0
 obtain ⟨u1, _, rfl, h1, h⟩ := h
 obtain ⟨v1, rfl⟩ := h1
 subst h
 exact ⟨⟨v0, v1⟩, rfl⟩
theorem ar.sane_of {x : ar} (h : x.pt.sane) : x.sane := by
 simp only [ar.pt, PT.sane, PT.saneL] at h
 exact cg h.1
structure ao where
 base : aD
 store : aR
 blocks : List aj
 contexts : List ap
 processes : List ar
 ready : List Int
 now : Int
 status : Int
 value : ab
 fault : ByteArray
def ao.ty : Ty := .agg [aD.ty, aR.ty, .sl 6 aj.ty, .sl 14 ap.ty, .sl 2 ar.ty, .sl 1 (.int .i64), .int .i64, .int .i64, ab.ty, .str]
def ao.sane (x : ao) : Prop := x.base.sane /\ x.store.sane /\ (∀ y ∈ x.blocks, y.sane) /\ (∀ y ∈ x.contexts, y.sane) /\ (∀ y ∈ x.processes, y.sane) /\ (∀ n ∈ x.ready, i64 n) /\ i64 x.now /\ i64 x.status /\ x.value.sane /\ x.fault.size <= maxLen
def gw (t : PT) (x : ao) : Prop := ∃ (t0 : PT) (t1 : PT) (A2 : Option Addr) (c2 : Nat) (A3 : Option Addr) (c3 : Nat) (l3 : List PT) (A4 : Option Addr) (c4 : Nat) (A5 : Option Addr) (c5 : Nat), dI t0 x.base /\ gn t1 x.store /\ AtL fa l3 (x.contexts) /\ t = .agg [t0, t1, .sl A2 c2 6 ((x.blocks).map aj.pt), .sl A3 c3 14 l3, .sl A4 c4 2 ((x.processes).map ar.pt), .sl A5 c5 1 ((x.ready).map (PT.int .i64)), .int .i64 x.now, .int .i64 x.status, x.value.pt, .str x.fault]
theorem gw.cells {t : PT} {x : ao} (h : gw t x) : t.cells.length = 20 := by
 obtain ⟨t0, t1, A2, c2, A3, c3, l3, A4, c4, A5, c5, h0, h1, h2, rfl⟩ := h
 have e0 := dI.cells h0
 have e1 := gn.cells h1
 simp [PT.cells, PT.cellsL, List.length_append, List.length_cons, List.length_nil, ab.pt, e0, e1]
theorem ao.of_ty {t : PT} (h : cM ao.ty t) : ∃ x : ao, gw t x := by
 simp only [ao.ty, cM, dY] at h
 obtain ⟨_, rfl, h⟩ := h
 obtain ⟨u0, _, rfl, h0, h⟩ := h
 obtain ⟨v0, k0⟩ := aD.of_ty h0
 obtain ⟨u1, _, rfl, h1, h⟩ := h
 obtain ⟨v1, k1⟩ := aR.of_ty h1
 obtain ⟨u2, _, rfl, h2, h⟩ := h
 obtain ⟨A2, c2, l2, rfl, h2⟩ := h2
 obtain ⟨v2, rfl⟩ := iI fun t ht => aj.of_ty (h2 t ht)
 obtain ⟨u3, _, rfl, h3, h⟩ := h
 obtain ⟨A3, c3, l3, rfl, h3⟩ := h3
 obtain ⟨v3, k3⟩ := ui fun t ht => ap.of_ty (h3 t ht)
 obtain ⟨u4, _, rfl, h4, h⟩ := h
 obtain ⟨A4, c4, l4, rfl, h4⟩ := h4
 obtain ⟨v4, rfl⟩ := iI fun t ht => ar.of_ty (h4 t ht)
 obtain ⟨u5, _, rfl, h5, h⟩ := h
 obtain ⟨A5, c5, l5, rfl, h5⟩ := h5
 obtain ⟨v5, rfl⟩ := iI fun t ht => h5 t ht
 obtain ⟨u6, _, rfl, h6, h⟩ := h
 obtain ⟨v6, rfl⟩ := h6
 obtain ⟨u7, _, rfl, h7, h⟩ := h
 obtain ⟨v7, rfl⟩ := h7
 obtain ⟨u8, _, rfl, h8, h⟩ := h
 obtain ⟨v8, rfl⟩ := ab.of_ty h8
 obtain ⟨u9, _, rfl, h9, h⟩ := h
 obtain ⟨v9, rfl⟩ := h9
 subst h
 exact ⟨⟨v0, v1, v2, v3, v4, v5, v6, v7, v8, v9⟩, _, _, _, _, _, _, _, _, _, _, _, k0, k1, k3, rfl⟩
theorem ao.sane_of {t : PT} {x : ao} (ha : gw t x) (h : t.sane) : x.sane := by
 obtain ⟨t0, t1, A2, c2, A3, c3, l3, A4, c4, A5, c5, h0, h1, h2, rfl⟩ := ha
 simp only [PT.sane, PT.saneL] at h
 exact ⟨aD.sane_of h0 h.1, aR.sane_of h1 h.2.1, fun y hy => aj.sane_of (PT.saneL_mem h.2.2.1 (List.mem_map_of_mem (f := aj.pt) hy)), iZ h2 h.2.2.2.1 fun _ _ a b => ap.sane_of a b, fun y hy => ar.sane_of (PT.saneL_mem h.2.2.2.2.1 (List.mem_map_of_mem (f := ar.pt) hy)), fun n hn => cg (PT.saneL_mem h.2.2.2.2.2.1 (List.mem_map_of_mem (f := PT.int .i64) hn)), cg h.2.2.2.2.2.2.1, cg h.2.2.2.2.2.2.2.1, ab.sane_of h.2.2.2.2.2.2.2.2.1, h.2.2.2.2.2.2.2.2.2.1⟩
structure fr where
 code : Int
 at_ : Int
 kind : Int
def fr.ty : Ty := .agg [.int .i64, .int .i64, .int .i64]
def fr.sane (x : fr) : Prop := i64 x.code /\ i64 x.at_ /\ i64 x.kind
def fr.pt (x : fr) : PT := .agg [.int .i64 x.code, .int .i64 x.at_, .int .i64 x.kind]
theorem fr.flat : sh fr.pt 3 := ⟨fun _ => rfl, fun _ => rfl, fun _ _ => by simp [fr.pt, Own, jE], fun _ _ _ => by simp [fr.pt, en, cF]⟩
theorem fr.of_ty {t : PT} (h : cM fr.ty t) : ∃ x : fr, t = x.pt := by
 simp only [fr.ty, cM, dY] at h
 obtain ⟨_, rfl, h⟩ := h
 obtain ⟨u0, _, rfl, h0, h⟩ := h
 obtain ⟨v0, rfl⟩ := h0
 obtain ⟨u1, _, rfl, h1, h⟩ := h
 obtain ⟨v1, rfl⟩ := h1
 obtain ⟨u2, _, rfl, h2, h⟩ := h
 obtain ⟨v2, rfl⟩ := h2
 subst h
 exact ⟨⟨v0, v1, v2⟩, rfl⟩
theorem fr.sane_of {x : fr} (h : x.pt.sane) : x.sane := by
 simp only [fr.pt, PT.sane, PT.saneL] at h
 exact ⟨cg h.1, cg h.2.1, cg h.2.2.1⟩
end Go.Proofs.YtiihihgjiklnoaaGreatDoor
