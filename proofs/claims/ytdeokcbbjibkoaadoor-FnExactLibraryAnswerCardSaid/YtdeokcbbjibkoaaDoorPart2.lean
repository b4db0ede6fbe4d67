/- Part 2 of the proof: the texts EngA, Tab, EngB, EngC, EngD, EngE. -/
import Derived.Test.YtdeokcbbjibkoaaDoorPart1
import Derived.Orders
import Derived.IntWalk
import Derived.Lib.Strings
import Derived.WideShapes
import Derived.Great.BuildSlice
import Derived.Deep.AppendLies
/- The abstract walk, part 1: values without addresses, what they stand for in memory, the state of a walk, and the rules of control. -/
namespace Go.Proofs.YtdeokcbbjibkoaaDoor
open Go Go.RowKit

/-- A value of the walk. 'sl', 'cp': what nobody writes any more (the flag: it was made by this call); 'ms', 'mp', 'me': into a block that this call owns. -/
inductive TV where
  | int (k : IntKind) (n : Int)
  | bool (b : Bool)
  | str (s : ByteArray)
  | agg (l : List TV)
  | sl (f : Nat) (m : Nat) (rows : List (List TV))
  | cp (f : Nat) (l : List TV)
  | nilp
  | nils
  | ms (s b off len : Nat)
  | mp (s b off : Nat)
  | me (s b m k j : Nat)
  | tup (l : List TV)
  | fn (f : FuncId) (l : List TV)
  | top
  | gh (l : List (TV × Value))

/-- What can stand in one cell of memory. -/
def TV.isCell : TV → Bool
  | .agg _ => false
  | .tup _ => false
  | .top => false
  | .gh _ => false
  | _ => true

/-- What the call owns: a row that grows, or a variable. -/
inductive TObj where
  | row (m : Nat) (rows : List (List TV))
  | box (cells : List TV)
  | void
  | iter (s : ByteArray) (pos : Nat)

abbrev Objs := List (Nat × Nat × TObj)
abbrev Env := List (Nat × TV)

def lk (t : Nat) : Env → Option TV
  | [] => none
  | (s, v) :: r => bif Nat.beq s t then some v else lk t r
theorem beq_f {s t : Nat} (h : s ≠ t) : Nat.beq s t = false := by
  cases hb : Nat.beq s t
  · rfl
  · exact absurd (Nat.eq_of_beq_eq_true hb) h
theorem lk_cons (t s : Nat) (v : TV) (r : Env) : lk t ((s, v) :: r) = if s = t then some v else lk t r := by
  show (bif Nat.beq s t then some v else lk t r) = _
  by_cases h : s = t
  · subst h; simp
  · rw [beq_f h, if_neg h]; rfl

/-- A block that the call owns. -/
def alive (objs : Objs) (b : Nat) : Prop := b ≠ 0 ∧ ∃ s o, (s, b, o) ∈ objs
def ZZ (objs : Objs) (lo : Nat) (b : Nat) : Prop := lo ≤ b ∧ ¬ alive objs b

/-- What tells that nothing is owned that a value could point into. -/
def marker : Nat × Nat × TObj := (0, 0, .row 0 [])
def MsOk (w : World) (objs : Objs) (s b off len : Nat) (v : Value) : Prop :=
  (b < w.heap.size ∧ marker ∉ objs ∧ ∃ A c, v = Value.slice A len c) ∧ (b = 0 → off = 0 ∧ len = 0 ∧ v = .slice none 0 0) ∧ ∀ m rows, b ≠ 0 → (s, b, TObj.row m rows) ∈ objs →
    ∃ o c e n, v = .slice (some ⟨b, o, none⟩) len c ∧ len ≤ c ∧ w.shape? b = some (e, n) ∧ n = (off + c) * m ∧ (0 < c ∨ off = 0 → o = off * m)
theorem MsOk.or {w : World} {objs : Objs} {s b off len : Nat} {v : Value} (h : MsOk w objs s b off len v) (m : Nat) (rows : List (List TV)) (hm : (s, b, TObj.row m rows) ∈ objs) :
    (b = 0 ∧ off = 0 ∧ len = 0 ∧ v = .slice none 0 0) ∨
    (b ≠ 0 ∧ ∃ o c e n, v = .slice (some ⟨b, o, none⟩) len c ∧ len ≤ c ∧ w.shape? b = some (e, n) ∧ n = (off + c) * m ∧ (0 < c ∨ off = 0 → o = off * m)) := by
  by_cases hb : b = 0
  · exact .inl ⟨hb, h.2.1 hb⟩
  · exact .inr ⟨hb, h.2.2 m rows hb hm⟩
theorem MsOk.mk {w : World} {objs : Objs} {s b off len : Nat} {v : Value} (h1 : b < w.heap.size ∧ marker ∉ objs ∧ ∃ A c, v = Value.slice A len c) (h2 : ∀ (m : Nat) (rows : List (List TV)), (s, b, TObj.row m rows) ∈ objs →
    (b = 0 ∧ off = 0 ∧ len = 0 ∧ v = .slice none 0 0) ∨
    (b ≠ 0 ∧ ∃ o c e n, v = .slice (some ⟨b, o, none⟩) len c ∧ len ≤ c ∧ w.shape? b = some (e, n) ∧ n = (off + c) * m ∧ (0 < c ∨ off = 0 → o = off * m))) (h3 : b = 0 → off = 0 ∧ len = 0 ∧ v = .slice none 0 0) : MsOk w objs s b off len v :=
  ⟨h1, h3, fun m rows hb hm => (h2 m rows hm).elim (fun h => absurd h.1 hb) (fun h => h.2)⟩

inductive Rep (w : World) (objs : Objs) : TV → Value → Prop
  | int (k : IntKind) (n : Int) : Rep w objs (.int k n) (.int k n)
  | bool (b : Bool) : Rep w objs (.bool b) (.bool b)
  | str (s : ByteArray) : Rep w objs (.str s) (.string s)
  | agg (l : List TV) (vs : Array Value) (hi : ∀ t ∈ l, t.isCell = true) (h : l.length = vs.size) (h2 : ∀ (i : Nat) (t : TV) (v : Value), l[i]? = some t → vs[i]? = some v → Rep w objs t v) : Rep w objs (.agg l) (.agg vs)
  | sl (f : Nat) (m : Nat) (rows : List (List TV)) (A : Option Addr) (c : Nat) (h1 : rows.length ≤ c) (h2 : c ≤ maxLen) (hm : ∀ r ∈ rows, r.length = m) (hi : ∀ t ∈ rows.flatten, t.isCell = true) (g : Nat → Value)
      (hc : ∀ (j : Nat) (t : TV), rows.flatten[j]? = some t → ∃ b o, A = some ⟨b, o, none⟩ ∧ ZZ objs f b ∧ w.cell? ⟨b, o + j, none⟩ = some (g j))
      (hr : ∀ (j : Nat) (t : TV), rows.flatten[j]? = some t → Rep w objs t (g j)) : Rep w objs (.sl f m rows) (.slice A rows.length c)
  | cp (f : Nat) (l : List TV) (hi : ∀ t ∈ l, t.isCell = true) (b o : Nat) (g : Nat → Value) (hZ : ZZ objs f b) (hb : b < w.heap.size) (hc : ∀ (j : Nat) (t : TV), l[j]? = some t → w.cell? ⟨b, o + j, none⟩ = some (g j))
      (hr : ∀ (j : Nat) (t : TV), l[j]? = some t → Rep w objs t (g j)) : Rep w objs (.cp f l) (.pointer (some ⟨b, o, none⟩))
  | nilp : Rep w objs .nilp (.pointer none)
  | nils : Rep w objs .nils (.slice none 0 0)
  | ms (s b off len : Nat) (v : Value) (h : MsOk w objs s b off len v) : Rep w objs (.ms s b off len) v
  | mp (s b off : Nat) (h : b < w.heap.size ∧ marker ∉ objs) : Rep w objs (.mp s b off) (.pointer (some ⟨b, off, none⟩))
  | me (s b m k j : Nat) (h : b < w.heap.size ∧ marker ∉ objs) : Rep w objs (.me s b m k j) (.pointer (some ⟨b, k * m + j, none⟩))
  | tup (l : List TV) (vs : Array Value) (h : l.length = vs.size) (h2 : ∀ (i : Nat) (t : TV) (v : Value), l[i]? = some t → vs[i]? = some v → Rep w objs t v) : Rep w objs (.tup l) (.tuple vs)
  | fn (f : FuncId) (l : List TV) (vs : Array Value) (h : l.length = vs.size) (h2 : ∀ (i : Nat) (t : TV) (v : Value), l[i]? = some t → vs[i]? = some v → Rep w objs t v) : Rep w objs (.fn f l) (.func (.func f) #[] vs)
  | top (v : Value) : Rep w objs .top v
  | gh (l : List (TV × Value)) (v : Value) (h : ∀ (i : Nat) (t : TV) (u : Value), l[i]? = some (t, u) → Rep w objs t u) : Rep w objs (.gh l) v

def ObjOk (w : World) (B : Nat) (objs : Objs) (b : Nat) : TObj → Prop
  | .void => b = 0
  | .iter s pos => B ≤ b ∧ w.heap[b]? = some (.stringIter s pos)
  | .row m rows => (0 < m ∧ ∀ t ∈ rows.flatten, t.isCell = true) ∧ (∀ r ∈ rows, r.length = m) ∧ ((b = 0 ∧ rows = []) ∨ (B ≤ b ∧ ∃ cur e cap, w.heap[b]? = some (.cells cur e (0, 0)) ∧ cur.size = cap * m ∧ rows.length ≤ cap ∧ cap ≤ maxLen ∧
      ∀ (j : Nat) (t : TV), rows.flatten[j]? = some t → ∃ v, cur[j]? = some v ∧ Rep w objs t v))
  | .box cells => (B ≤ b ∧ ∀ t ∈ cells, t.isCell = true) ∧ ∃ cur e, w.heap[b]? = some (.cells cur e (0, 0)) ∧ cur.size = cells.length ∧ ∀ (j : Nat) (t : TV), cells[j]? = some t → ∃ v, cur[j]? = some v ∧ Rep w objs t v

/-- What must hold of two worlds and two lists of what is owned, that values go on standing for what they stood for. -/
structure Step (w : World) (objs : Objs) (w' : World) (objs' : Objs) : Prop where
  blk : ∀ b, b < w.heap.size → ¬ alive objs b → w'.heap[b]? = w.heap[b]?
  al : ∀ b, b < w.heap.size → alive objs' b → alive objs b
  ms : ∀ s b m rows, b < w.heap.size → b ≠ 0 → (s, b, TObj.row m rows) ∈ objs' → (∃ rows0, (s, b, TObj.row m rows0) ∈ objs) ∧ w'.shape? b = w.shape? b
  size : w.heap.size ≤ w'.heap.size
  mark : marker ∈ objs' → marker ∈ objs

theorem lt_of_cell {w : World} {a : Addr} {v : Value} (h : w.cell? a = some v) : a.block < w.heap.size := World.block_lt_of_cell? w a h

theorem Rep.step {w w' : World} {objs objs' : Objs} (hs : Step w objs w' objs') {t : TV} {v : Value} (h : Rep w objs t v) : Rep w' objs' t v := by
  have hcell : ∀ (f : Nat) b o v, ZZ objs f b → w.cell? ⟨b, o, none⟩ = some v → ZZ objs' f b ∧ w'.cell? ⟨b, o, none⟩ = some v := fun f b o v hz hc => by
    have hb := lt_of_cell hc
    exact ⟨⟨hz.1, fun ha => hz.2 (hs.al b hb ha)⟩, (World.cell?_of_block (w := w) (w' := w') (a := ⟨b, o, none⟩) (hs.blk b hb hz.2)).trans hc⟩
  induction h with
  | int k n => exact .int k n
  | bool b => exact .bool b
  | str s => exact .str s
  | agg l vs hi h h2 ih => exact .agg l vs hi h ih
  | sl f m rows A c h1 h2 hm hi g hc hr ih =>
    refine .sl f m rows A c h1 h2 hm hi g (fun j t hj => ?_) ih
    obtain ⟨b, o, hA, hz, hcc⟩ := hc j t hj
    obtain ⟨h3, h4⟩ := hcell f b (o + j) _ hz hcc
    exact ⟨b, o, hA, h3, h4⟩
  | cp f l hi b o g hZ hb hc hr ih =>
    exact .cp f l hi b o g ⟨hZ.1, fun ha => hZ.2 (hs.al b hb ha)⟩ (Nat.lt_of_lt_of_le hb hs.size) (fun j t hj => (hcell f b (o + j) _ hZ (hc j t hj)).2) ih
  | nilp => exact .nilp
  | nils => exact .nils
  | ms s b off len v h =>
    refine .ms s b off len v ⟨⟨Nat.lt_of_lt_of_le h.1.1 hs.size, fun hk => h.1.2.1 (hs.mark hk), h.1.2.2⟩, h.2.1, fun m rows hb hm => ?_⟩
    obtain ⟨⟨rows0, h0⟩, hsh⟩ := hs.ms s b m rows h.1.1 hb hm
    obtain ⟨o, c, e, n, h3, h4, h5, h6⟩ := h.2.2 m rows0 hb h0
    exact ⟨o, c, e, n, h3, h4, hsh.trans h5, h6⟩
  | mp s b off h => exact .mp s b off ⟨Nat.lt_of_lt_of_le h.1 hs.size, fun hk => h.2 (hs.mark hk)⟩
  | me s b m k j h => exact .me s b m k j ⟨Nat.lt_of_lt_of_le h.1 hs.size, fun hk => h.2 (hs.mark hk)⟩
  | tup l vs h h2 ih => exact .tup l vs h ih
  | fn f l vs h h2 ih => exact .fn f l vs h ih
  | top v => exact .top v
  | gh l v h ih => exact .gh l v ih

abbrev SiteRel : Nat × Nat × TObj → Nat × Nat × TObj → Prop := fun x y => x.1 ≠ y.1 ∧ (x.2.1 ≠ y.2.1 ∨ x.2.1 = 0)
/-- The memory of a walk: w0 is the world when the call began. -/
structure SimW (w0 : World) (objs : Objs) (w : World) : Prop where
  below : Below w0.heap.size w0 w
  pos : 0 < w0.heap.size
  obj : ∀ s b o, (s, b, o) ∈ objs → ObjOk w w0.heap.size objs b o
  sites : List.Pairwise SiteRel objs

theorem SimW.noMark {w0 w : World} {objs : Objs} (h : SimW w0 objs w) : marker ∉ objs := fun hm => absurd (h.obj 0 0 _ hm).1.1 (Nat.lt_irrefl _)

/-- The state of a walk: the frame's slots as the environment says. -/
structure Sim (w0 : World) (N : Nat) (env : Env) (objs : Objs) (a : Act) (w : World) : Prop where
  defers : a.defers = []
  size : a.tmps.size = N
  mem : SimW w0 objs w
  env : ∀ t v, lk t env = some v → Rep w objs v (a.tmps.getD t undef)

structure AW (P : Program) (w0 : World) (N : Nat) (c : Code) (Q : Exit → Act → World → Prop) (env : Env) (objs : Objs) : Prop where
  run : ∀ a w, Sim w0 N env objs a w → c.wp P Q a w
structure AL (P : Program) (w0 : World) (N : Nat) (ops : Array Oper) (Q : Exit → Act → World → Prop) (rest : List Oper) (env : Env) (objs : Objs) : Prop where
  run : ∀ a w, Sim w0 N env objs a w → wpList P ops Q rest a w
/-- The next operation is carried out. -/
structure AO (P : Program) (w0 : World) (N : Nat) (ops : Array Oper) (Q : Exit → Act → World → Prop) (o : Oper) (rest : List Oper) (env : Env) (objs : Objs) : Prop where
  run : ∀ a w (K : Act → World → Prop), Sim w0 N env objs a w → (∀ a w, wpList P ops Q rest a w → K a w) → o.wp P a w K Q
structure AQ (w0 : World) (N : Nat) (Q : Exit → Act → World → Prop) (x : Exit) (env : Env) (objs : Objs) : Prop where
  run : ∀ a w, Sim w0 N env objs a w → Q x a w

section
variable {P : Program} {w0 : World} {N : Nat} {Q : Exit → Act → World → Prop} {env : Env} {objs : Objs}

theorem aw_seq {x y : Code} (h : AW P w0 N x (Exit.then (y.wp P Q) Q) env objs) : AW P w0 N (.seq x y) Q env objs := ⟨fun a w hs => wp_seq (h.run a w hs)⟩
theorem aw_skip (h : AQ w0 N Q .normal env objs) : AW P w0 N .skip Q env objs := ⟨fun a w hs => wp_skip (h.run a w hs)⟩
theorem aw_exit {id : Nat} (h : AQ w0 N Q (.exit id) env objs) : AW P w0 N (.exit id) Q env objs := ⟨fun a w hs => wp_exit (h.run a w hs)⟩
theorem aw_ret (h : AQ w0 N Q .ret env objs) : AW P w0 N .ret Q env objs := ⟨fun a w hs => wp_ret (h.run a w hs)⟩
theorem aw_block {id : Nat} {c : Code} (h : AW P w0 N c (Exit.inBlock id Q) env objs) : AW P w0 N (.block id c) Q env objs := ⟨fun a w hs => wp_block (h.run a w hs)⟩
theorem aw_region {id : Nat} {l : List Oper} (h : AL P w0 N l.toArray Q l env objs) : AW P w0 N (.region id l.toArray false) Q env objs := ⟨fun a w hs => wp_region_lit (h.run a w hs)⟩
theorem al_nil {ops : Array Oper} (h : AQ w0 N Q .normal env objs) : AL P w0 N ops Q [] env objs := ⟨fun a w hs => wpList_nil (h.run a w hs)⟩

theorem aq_then {y : Code} (h : AW P w0 N y Q env objs) : AQ w0 N (Exit.then (y.wp P Q) Q) .normal env objs := ⟨h.run⟩
theorem aq_then_exit {K : Act → World → Prop} {id : Nat} (h : AQ w0 N Q (.exit id) env objs) : AQ w0 N (Exit.then K Q) (.exit id) env objs := ⟨h.run⟩
theorem aq_then_ret {K : Act → World → Prop} (h : AQ w0 N Q .ret env objs) : AQ w0 N (Exit.then K Q) .ret env objs := ⟨h.run⟩
theorem aq_block {id : Nat} (h : AQ w0 N Q .normal env objs) : AQ w0 N (Exit.inBlock id Q) .normal env objs := ⟨h.run⟩
theorem aq_block_ret {id : Nat} (h : AQ w0 N Q .ret env objs) : AQ w0 N (Exit.inBlock id Q) .ret env objs := ⟨h.run⟩
theorem aq_block_hit {id : Nat} (h : AQ w0 N Q .normal env objs) : AQ w0 N (Exit.inBlock id Q) (.exit id) env objs := ⟨fun a w hs => by
  show (if id = id then _ else _)
  rw [if_pos rfl]; exact h.run a w hs⟩
theorem Rep.bool_inv {w : World} {b : Bool} {v : Value} (h : Rep w objs (.bool b) v) : v = .bool b := by cases h; rfl
theorem Rep.int_inv {w : World} {k : IntKind} {n : Int} {v : Value} (h : Rep w objs (.int k n) v) : v = .int k n := by cases h; rfl
theorem Rep.str_inv {w : World} {s : ByteArray} {v : Value} (h : Rep w objs (.str s) v) : v = .string s := by cases h; rfl

theorem aw_cond {t : Nat} {v : TV} {p : Prop} {i : Decidable p} {x y : Code} (hl : lk t env = some v) (he : v = .bool (@decide p i)) (ht : p → AW P w0 N x Q env objs) (hf : ¬ p → AW P w0 N y Q env objs) : AW P w0 N (.cond (.tmp t) x y) Q env objs := ⟨fun a w hs => by
  have hv : a.eval (.tmp t) = .bool (decide p) := (hs.env t _ (he ▸ hl)).bool_inv
  by_cases h : p
  · exact wp_cond_true (by rw [hv]; simp [h]) ((ht h).run a w hs)
  · exact wp_cond_false (by rw [hv]; simp [h]) ((hf h).run a w hs)⟩
theorem aw_cond_b {t : Nat} {v : TV} {b : Bool} {x y : Code} (hl : lk t env = some v) (he : v = .bool b) (ht : b = true → AW P w0 N x Q env objs) (hf : b = false → AW P w0 N y Q env objs) : AW P w0 N (.cond (.tmp t) x y) Q env objs := ⟨fun a w hs => by
  have hv : a.eval (.tmp t) = .bool b := (hs.env t _ (he ▸ hl)).bool_inv
  exact wp_cond_split hv (fun h => (ht h).run a w hs) (fun h => (hf h).run a w hs)⟩
theorem aw_cond_t {t : Nat} {v : TV} {x y : Code} (hl : lk t env = some v) (he : v = .bool true) (ht : AW P w0 N x Q env objs) : AW P w0 N (.cond (.tmp t) x y) Q env objs := ⟨fun a w hs => wp_cond_true (hs.env t _ (he ▸ hl)).bool_inv (ht.run a w hs)⟩
theorem aw_cond_f {t : Nat} {v : TV} {x y : Code} (hl : lk t env = some v) (he : v = .bool false) (hf : AW P w0 N y Q env objs) : AW P w0 N (.cond (.tmp t) x y) Q env objs := ⟨fun a w hs => wp_cond_false (hs.env t _ (he ▸ hl)).bool_inv (hf.run a w hs)⟩
theorem aw_cond_dt {t : Nat} {v : TV} {p : Prop} {i : Decidable p} {x y : Code} (hl : lk t env = some v) (he : v = .bool (@decide p i)) (hp : p) (ht : AW P w0 N x Q env objs) : AW P w0 N (.cond (.tmp t) x y) Q env objs := aw_cond hl he (fun _ => ht) (fun h => absurd hp h)
theorem aw_cond_df {t : Nat} {v : TV} {p : Prop} {i : Decidable p} {x y : Code} (hl : lk t env = some v) (he : v = .bool (@decide p i)) (hp : ¬ p) (hf : AW P w0 N y Q env objs) : AW P w0 N (.cond (.tmp t) x y) Q env objs := aw_cond hl he (fun h => absurd h hp) (fun _ => hf)

/-- What is owned, listed in another order or in part. -/
structure Pick (objs' objs : Objs) : Prop where
  mem : ∀ x ∈ objs', x ∈ objs
  sites : List.Pairwise SiteRel objs → List.Pairwise SiteRel objs'
theorem Pick.refl (l : Objs) : Pick l l := ⟨fun _ h => h, id⟩
theorem Pick.trans {a b c : Objs} (h : Pick a b) (k : Pick b c) : Pick a c := ⟨fun x hx => k.mem x (h.mem x hx), fun hp => h.sites (k.sites hp)⟩
theorem Pick.sub {a b : Objs} (h : List.Sublist a b) : Pick a b := ⟨fun _ hx => h.subset hx, fun hp => hp.sublist h⟩
theorem SiteRel.symm {x y : Nat × Nat × TObj} (h : SiteRel x y) : SiteRel y x := ⟨h.1.symm, by
  by_cases e : x.2.1 = y.2.1
  · rcases h.2 with h2 | h2
    · exact absurd e h2
    · exact .inr (e ▸ h2)
  · exact .inl (Ne.symm e)⟩
theorem Pick.perm {a b : Objs} (h : a.Perm b) : Pick a b := ⟨fun _ hx => h.subset hx, fun hp => h.symm.pairwise hp (fun h => SiteRel.symm h)⟩
theorem Pick.nil (l : Objs) : Pick [] l := .sub (List.nil_sublist l)
inductive Del (x : Nat × Nat × TObj) : Objs → Objs → Prop
  | head (l : Objs) : Del x (x :: l) l
  | tail (y : Nat × Nat × TObj) (l l' : Objs) (h : Del x l l') : Del x (y :: l) (y :: l')
theorem Del.perm {x : Nat × Nat × TObj} {l l' : Objs} (h : Del x l l') : (x :: l').Perm l := by
  induction h with
  | head l => exact .refl _
  | tail y l l' h ih => exact (List.Perm.swap y x l').trans (ih.cons y)
theorem Pick.cons {x : Nat × Nat × TObj} {l' l l1 : Objs} (hd : Del x l l1) (h : Pick l' l1) : Pick (x :: l') l := by
  refine Pick.trans ?_ (.perm hd.perm)
  refine ⟨fun y hy => ?_, fun hp => ?_⟩
  · rcases List.mem_cons.1 hy with rfl | hy
    · exact List.mem_cons_self
    · exact List.mem_cons_of_mem _ (h.mem y hy)
  · obtain ⟨h1, h2⟩ := List.pairwise_cons.1 hp
    exact List.pairwise_cons.2 ⟨fun y hy => h1 y (h.mem y hy), h.sites h2⟩
theorem Pick.drop {x : Nat × Nat × TObj} {l' l : Objs} (h : Pick l' l) : Pick l' (x :: l) := h.trans (.sub (List.sublist_cons_self x l))

/-- A state that says less. -/
structure Weak (env : Env) (objs : Objs) (env' : Env) (objs' : Objs) : Prop where
  env : ∀ t v, lk t env' = some v → lk t env = some v
  objs : Pick objs' objs
theorem Weak.envNil : ∀ t v, lk t [] = some v → lk t env = some v := fun t v h => by simp [lk] at h
theorem Weak.envCons {t : Nat} {v : TV} {env' : Env} (h : lk t env = some v) (hr : ∀ t v, lk t env' = some v → lk t env = some v) : ∀ t' v', lk t' ((t, v) :: env') = some v' → lk t' env = some v' := fun t' v' h' => by
  rw [lk_cons] at h'
  split at h'
  · rename_i e; subst e; rw [h, h']
  · exact hr _ _ h'

theorem alive_sub {objs' : Objs} (h : Pick objs' objs) {b : Nat} (ha : alive objs' b) : alive objs b := ⟨ha.1, let ⟨s, o, hm⟩ := ha.2; ⟨s, o, h.mem _ hm⟩⟩
theorem step_sub {objs' : Objs} (h : Pick objs' objs) (w : World) : Step w objs w objs' :=
  ⟨fun _ _ _ => rfl, fun _ _ ha => alive_sub h ha, fun _ _ _ rows _ _ hm => ⟨⟨rows, h.mem _ hm⟩, rfl⟩, Nat.le_refl _, fun hk => h.mem _ hk⟩
theorem ObjOk.step {w w' : World} {B b : Nat} {objs' : Objs} {o : TObj} (hs : Step w objs w' objs') (hb : w'.heap[b]? = w.heap[b]?) (h : ObjOk w B objs b o) : ObjOk w' B objs' b o := by
  cases o with
  | void => exact h
  | iter s pos => exact ⟨h.1, hb.trans h.2⟩
  | row m rows =>
    refine ⟨h.1, h.2.1, h.2.2.imp id fun ⟨h1, cur, e, cap, h2, h3, h4, h5, h6⟩ => ⟨h1, cur, e, cap, hb.trans h2, h3, h4, h5, fun j t hj => ?_⟩⟩
    obtain ⟨v, h7, h8⟩ := h6 j t hj
    exact ⟨v, h7, h8.step hs⟩
  | box cells =>
    obtain ⟨h1, cur, e, h2, h3, h6⟩ := h
    refine ⟨h1, cur, e, hb.trans h2, h3, fun j t hj => ?_⟩
    obtain ⟨v, h7, h8⟩ := h6 j t hj
    exact ⟨v, h7, h8.step hs⟩
theorem SimW.sub {w : World} {objs' : Objs} (h : SimW w0 objs w) (hsub : Pick objs' objs) : SimW w0 objs' w :=
  ⟨h.below, h.pos, fun s b o hm => (h.obj s b o (hsub.mem _ hm)).step (step_sub hsub w) rfl, hsub.sites h.sites⟩
theorem Sim.weak {a : Act} {w : World} {env' : Env} {objs' : Objs} (h : Sim w0 N env objs a w) (k : Weak env objs env' objs') : Sim w0 N env' objs' a w :=
  ⟨h.defers, h.size, h.mem.sub k.objs, fun t v ht => (h.env t v (k.env t v ht)).step (step_sub k.objs w)⟩

/-- A loop: the state at its head is (E x, O x) for some x that meets I. -/
def AInv {X : Type} (w0 : World) (N : Nat) (E : X → Env) (O : X → Objs) (I : X → Prop) (μ : X → Nat) (n : Nat) (a : Act) (w : World) : Prop := ∃ x, I x ∧ μ x < n ∧ Sim w0 N (E x) (O x) a w
theorem aw_loop {X : Type} {body : Code} (E : X → Env) (O : X → Objs) (I : X → Prop) (μ : X → Nat) (x0 : X) (h0 : I x0) (hw : Weak env objs (E x0) (O x0))
    (round : ∀ x, I x → AW P w0 N body (Exit.then (AInv w0 N E O I μ (μ x)) Q) (E x) (O x)) : AW P w0 N (.loop body) Q env objs := ⟨fun a w hs => by
  refine wp_loop_ghost (fun n a w => ∃ x, I x ∧ μ x = n ∧ Sim w0 N (E x) (O x) a w) (μ x0) ⟨x0, h0, rfl, hs.weak hw⟩ ?_
  rintro n a w ⟨x, hI, rfl, hs⟩
  refine wp_mono ((round x hI).run a w hs) fun e a' w' hq => ?_
  cases e with
  | normal =>
    obtain ⟨y, hy, hlt, hs'⟩ := hq
    exact ⟨μ y, hlt, y, hy, rfl, hs'⟩
  | exit id => exact hq
  | goto l => exact hq
  | ret => exact hq
  | panic c => exact hq
  | outgrown => exact hq⟩
theorem aq_round {X : Type} {E : X → Env} {O : X → Objs} {I : X → Prop} {μ : X → Nat} {n : Nat} (y : X) (hI : I y) (hlt : μ y < n) (k : Weak env objs (E y) (O y)) : AQ w0 N (Exit.then (AInv w0 N E O I μ n) Q) .normal env objs :=
  ⟨fun _ _ hs => ⟨y, hI, hlt, hs.weak k⟩⟩
end

end Go.Proofs.YtdeokcbbjibkoaaDoor
/- The sizes of the seat's types and the places of their fields, by program. -/
namespace Go.Proofs.YtdeokcbbjibkoaaDoor
open Go
def tabSz : List Nat := [1, 1, 1, 1, 1, 1, 1, 4, 4, 1, 1, 1, 1, 2, 2, 1, 1, 1, 1, 1, 1, 1, 1, 4, 4, 1, 1, 1, 1, 1, 4, 4, 1, 1, 1, 1, 1, 1, 1, 1, 1, 1, 1, 1, 1, 4, 4, 1, 1, 1, 1, 1, 1, 1, 1, 1, 1, 1, 1, 1, 1, 1, 1, 1, 2, 2, 1, 1, 1, 1, 1, 1, 1, 1, 1, 1, 1, 4, 1, 1, 1, 1, 1, 1, 1, 1, 1, 1, 1, 1, 1, 2, 2, 1, 1, 1, 1, 1, 1, 1, 1, 1, 1, 1, 1, 1, 1, 1, 1, 1, 1, 1, 1, 1, 1, 1, 1, 1, 1, 1, 1, 1, 1, 1, 1, 1, 1, 1, 1, 1, 1, 1, 1, 1, 1, 1, 24, 1, 1, 1, 1, 1, 1, 1, 1, 1, 1, 20, 65, 256, 2, 2, 32, 1, 32, 64, 4, 4, 0, 0, 0, 1, 1, 1, 1, 1, 1, 11, 11]
def tabOf : List (List Nat) := [[], [], [], [], [], [], [], [0, 1, 2, 3], [0, 1, 2, 3], [], [], [], [], [0, 1], [0, 1], [], [], [], [0], [0], [], [], [], [0, 1, 2, 3], [0, 1, 2, 3], [], [], [], [], [], [0, 1, 2, 3], [0, 1, 2, 3], [], [], [], [], [], [], [], [], [], [], [], [], [], [0, 1, 2, 3], [0, 1, 2, 3], [], [], [], [], [], [], [], [], [], [], [], [], [], [], [], [], [], [0, 1], [0, 1], [], [], [], [], [], [], [], [], [], [], [], [0, 1, 2, 3], [], [], [], [], [], [], [], [], [], [], [], [], [], [0, 1], [0, 1], [], [], [], [], [], [], [], [], [], [], [], [], [], [], [], [], [], [], [], [], [], [], [], [], [], [], [], [], [], [], [], [], [], [], [], [], [], [], [], [], [], [], [], [], [], [], [], [], [], [], [], [], [], [], [], [], [], [0, 1], [0, 1], [], [], [], [], [0, 1, 2, 3], [0, 1, 2, 3], [], [0], [0], [], [], [], [], [], [], [0, 1, 2, 3, 4, 5, 6, 7, 8, 9, 10], [0, 1, 2, 3, 4, 5, 6, 7, 8, 9, 10]]
def szT (t : Nat) : Nat := tabSz.getD t 0
def ofT (t k : Nat) : Nat := (tabOf.getD t []).getD k 0
def tabZ : List (List TV) := [[], [], [.int .i64 0], [.int .i64 0], [.bool false], [.int .u8 0], [.int .u8 0], [.int .i64 0, .int .i64 0, .bool false, .int .u8 0], [.int .i64 0, .int .i64 0, .bool false, .int .u8 0], [.str ⟨#[]⟩], [.str ⟨#[]⟩], [.str ⟨#[]⟩], [.int .u64 0], [.str ⟨#[]⟩, .int .u64 0], [.str ⟨#[]⟩, .int .u64 0], [.nilp], [.nilp], [.nilp], [.nilp], [.nilp], [], [.int .i32 0], [.nils], [.bool false, .int .i64 0, .int .i64 0, .nils], [.bool false, .int .i64 0, .int .i64 0, .nils], [], [.nils], [], [], [.nils], [.bool false, .int .i64 0, .int .i64 0, .nils], [.bool false, .int .i64 0, .int .i64 0, .nils], [], [], [], [], [], [], [.nils], [], [], [], [], [], [], [.int .i64 0, .int .i64 0, .int .i64 0, .str ⟨#[]⟩], [.int .i64 0, .int .i64 0, .int .i64 0, .str ⟨#[]⟩], [], [], [], [], [], [.nilp], [], [], [.nils], [], [.nilp], [.nilp], [], [], [], [.nils], [], [.int .i64 0, .int .i64 0], [.int .i64 0, .int .i64 0], [], [], [], [], [], [], [], [], [], [], [], [.int .i64 0, .int .i64 0, .int .i64 0, .str ⟨#[]⟩], [], [], [], [], [], [.int .u64 0], [], [], [], [], [], [.nilp], [.nils], [.nilp, .nils], [.nilp, .nils], [], [], [], [], [], [], [], [], [], [], [.int .u32 0], [], [], [.int .u64 0], [], [], [], [], [.nilp], [], [], [], [.int .i64 0], [], [], [], [], [], [], [], [], [], [], [.nilp], [], [], [], [], [.int .u64 0], [], [], [], [], [.int .u8 0, .int .u8 0, .int .u8 0, .int .u8 0, .int .u8 0, .int .u8 0, .int .u8 0, .int .u8 0, .int .u8 0, .int .u8 0, .int .u8 0, .int .u8 0, .int .u8 0, .int .u8 0, .int .u8 0, .int .u8 0, .int .u8 0, .int .u8 0, .int .u8 0, .int .u8 0, .int .u8 0, .int .u8 0, .int .u8 0, .int .u8 0], [], [], [], [], [], [], [.nilp], [], [], [], [.int .u64 0, .int .u64 0, .int .u64 0, .int .u64 0, .int .u64 0, .int .u64 0, .int .u64 0, .int .u64 0, .int .u64 0, .int .u64 0, .int .u64 0, .int .u64 0, .int .u64 0, .int .u64 0, .int .u64 0, .int .u64 0, .int .u64 0, .int .u64 0, .int .u64 0, .int .u64 0], [], [], [.int .u8 0, .int .u8 0], [.int .u8 0, .int .u8 0], [.int .u8 0, .int .u8 0, .int .u8 0, .int .u8 0, .int .u8 0, .int .u8 0, .int .u8 0, .int .u8 0, .int .u8 0, .int .u8 0, .int .u8 0, .int .u8 0, .int .u8 0, .int .u8 0, .int .u8 0, .int .u8 0, .int .u8 0, .int .u8 0, .int .u8 0, .int .u8 0, .int .u8 0, .int .u8 0, .int .u8 0, .int .u8 0, .int .u8 0, .int .u8 0, .int .u8 0, .int .u8 0, .int .u8 0, .int .u8 0, .int .u8 0, .int .u8 0], [], [.int .u8 0, .int .u8 0, .int .u8 0, .int .u8 0, .int .u8 0, .int .u8 0, .int .u8 0, .int .u8 0, .int .u8 0, .int .u8 0, .int .u8 0, .int .u8 0, .int .u8 0, .int .u8 0, .int .u8 0, .int .u8 0, .int .u8 0, .int .u8 0, .int .u8 0, .int .u8 0, .int .u8 0, .int .u8 0, .int .u8 0, .int .u8 0, .int .u8 0, .int .u8 0, .int .u8 0, .int .u8 0, .int .u8 0, .int .u8 0, .int .u8 0, .int .u8 0], [], [.nilp, .nilp, .nilp, .str ⟨#[]⟩], [.nilp, .nilp, .nilp, .str ⟨#[]⟩], [], [], [], [], [.int .u8 0], [.int .u8 0], [], [.int .i32 0], [.int .i32 0], [], []]
def zT (t : Nat) : List TV := tabZ.getD t []
def tabK : List (Option IntKind) := [none, none, some .i64, some .i64, none, some .u8, some .u8, none, none, none, none, none, some .u64, none, none, none, none, none, none, none, none, some .i32, none, none, none, none, none, none, none, none, none, none, none, none, none, none, none, none, none, none, none, none, none, none, none, none, none, none, none, none, none, none, none, none, none, none, none, none, none, none, none, none, none, none, none, none, none, none, none, none, none, none, none, none, none, none, none, none, none, none, none, none, none, some .u64, none, none, none, none, none, none, none, none, none, none, none, none, none, none, none, none, none, none, none, some .u32, none, none, some .u64, none, none, none, none, none, none, none, none, some .i64, none, none, none, none, none, none, none, none, none, none, none, none, none, none, none, some .u64, none, none, none, none, none, none, none, none, none, none, none, none, none, none, none, none, none, none, none, none, none, none, none, none, none, none, none, none, none, none, some .u8, some .u8, none, some .i32, some .i32, none, none]
def kdT (t : Nat) : Option IntKind := tabK.getD t none
def tabES : List (Option Nat) := [none, none, none, none, none, none, none, none, none, none, none, none, none, none, none, none, none, none, none, none, none, none, some 4, none, none, none, some 1, none, none, some 4, none, none, none, none, none, none, none, none, some 1, none, none, none, none, none, none, none, none, none, none, none, none, none, none, none, none, some 1, none, none, none, none, none, none, some 2, none, none, none, none, none, none, none, none, none, none, none, none, none, none, none, none, none, none, none, none, none, none, none, none, none, none, none, some 1, none, none, none, none, none, none, none, none, none, none, none, none, none, none, none, none, none, none, none, none, none, none, none, none, none, none, none, none, none, none, none, none, none, none, none, none, none, none, none, none, none, none, none, none, none, none, none, none, none, none, none, none, none, none, none, none, none, none, none, none, none, none, none, none, none, none, none, none, none, none, none, none, none, none, none, none, none, none]
def esT (t : Nat) : Option Nat := tabES.getD t none
def tabA : List Bool := [false, false, false, false, false, false, false, true, true, false, false, false, false, true, true, false, false, false, true, true, false, false, false, true, true, false, false, false, false, false, true, true, false, false, false, false, false, false, false, false, false, false, false, false, false, true, true, false, false, false, false, false, false, false, false, false, false, false, false, false, false, false, false, false, true, true, false, false, false, false, false, false, false, false, false, false, false, true, false, false, false, false, false, false, false, false, false, false, false, false, false, true, true, false, false, false, false, false, false, false, false, false, false, false, false, false, false, false, false, false, false, false, false, false, false, false, false, false, false, false, false, false, false, false, false, false, false, false, false, false, false, false, false, false, false, false, true, false, false, false, false, false, false, false, false, false, false, true, true, true, true, true, true, false, true, true, true, true, true, true, true, false, false, false, false, false, false, true, true]
def agT (t : Nat) : Bool := tabA.getD t false
def tabEZ : List (List TV) := [[], [], [], [], [], [], [], [], [], [], [], [], [], [], [], [], [], [], [], [], [], [], [.int .i64 0, .int .i64 0, .int .i64 0, .str ⟨#[]⟩], [], [], [], [.int .i64 0], [], [], [.int .i64 0, .int .i64 0, .int .i64 0, .str ⟨#[]⟩], [], [], [], [], [], [], [], [], [.str ⟨#[]⟩], [], [], [], [], [], [], [], [], [], [], [], [], [], [], [], [], [.nilp], [], [], [], [], [], [], [.int .i64 0, .int .i64 0], [], [], [], [], [], [], [], [], [], [], [], [], [], [], [], [], [], [], [], [], [], [], [], [], [], [], [], [.int .u8 0], [], [], [], [], [], [], [], [], [], [], [], [], [], [], [], [], [], [], [], [], [], [], [], [], [], [], [], [], [], [], [], [], [], [], [], [], [], [], [], [], [], [], [], [], [], [], [], [], [], [], [], [], [], [], [], [], [], [], [], [], [], [], [], [], [], [], [], [], [], [], [], [], [], [], [], [], [], []]
def ezT (t : Nat) : List TV := tabEZ.getD t []
end Go.Proofs.YtdeokcbbjibkoaaDoor
/- The abstract walk, part 2: the operations that write nothing. -/
namespace Go.Proofs.YtdeokcbbjibkoaaDoor
open Go Go.RowKit

def tv1 : Value → Option TV
  | .int k n => some (.int k n)
  | .bool b => some (.bool b)
  | .string s => some (.str s)
  | .slice none 0 0 => some .nils
  | .pointer none => some .nilp
  | _ => none
def tvL : List Value → Option (List TV)
  | [] => some []
  | v :: r => match tv1 v, tvL r with
    | some t, some l => some (t :: l)
    | _, _ => none
def tvOf : Value → Option TV
  | .agg vs => (tvL vs.toList).map .agg
  | v => tv1 v
def ev (env : Env) : Operand → Option TV
  | .tmp t => lk t env
  | .const v => tvOf v
  | .func f => some (.fn f [])
  | .global _ => none

theorem tv1_rep {w : World} {objs : Objs} {v : Value} {t : TV} (h : tv1 v = some t) : Rep w objs t v := by
  unfold tv1 at h
  split at h <;> first | (cases h; done) | skip
  all_goals simp only [Option.some.injEq] at h
  all_goals subst h
  · exact .int _ _
  · exact .bool _
  · exact .str _
  · exact .nils
  · exact .nilp
theorem tv1_cell {v : Value} {t : TV} (h : tv1 v = some t) : t.isCell = true := by
  unfold tv1 at h
  split at h <;> first | (cases h; done) | (simp only [Option.some.injEq] at h; subst h; rfl)
theorem tvL_rep {w : World} {objs : Objs} : ∀ {vs : List Value} {l : List TV}, tvL vs = some l → (l.length = vs.length ∧ ∀ t ∈ l, t.isCell = true) ∧ ∀ (i : Nat) (t : TV) (v : Value), l[i]? = some t → vs[i]? = some v → Rep w objs t v
  | [], l, h => by simp only [tvL, Option.some.injEq] at h; subst h; simp
  | v :: r, l, h => by
    unfold tvL at h
    split at h
    · rename_i t l' h1 h2
      simp only [Option.some.injEq] at h
      subst h
      obtain ⟨h3, h4⟩ := tvL_rep (w := w) (objs := objs) (vs := r) h2
      refine ⟨⟨by simp [h3.1], fun x hx => by
        rcases List.mem_cons.1 hx with rfl | hx
        · exact tv1_cell h1
        · exact h3.2 x hx⟩, fun i t' v' ht hv => ?_⟩
      cases i with
      | zero => simp at ht hv; subst ht; subst hv; exact tv1_rep h1
      | succ i => exact h4 i t' v' (by simpa using ht) (by simpa using hv)
    · cases h
theorem tvOf_rep {w : World} {objs : Objs} {v : Value} {t : TV} (h : tvOf v = some t) : Rep w objs t v := by
  unfold tvOf at h
  split at h
  · rename_i vs
    rw [Option.map_eq_some_iff] at h
    obtain ⟨l, h1, rfl⟩ := h
    obtain ⟨h2, h3⟩ := tvL_rep (w := w) (objs := objs) h1
    exact .agg l vs h2.2 (by simpa using h2.1) (fun i t v ht hv => h3 i t v ht (by simpa using hv))
  · exact tv1_rep h

/-- An operation that yields a value and turns nothing that is there. -/
def Yields (P : Program) (w0 : World) (env : Env) (objs : Objs) (o : Oper) (tv : TV) : Prop :=
  ∀ (a : Act) (w : World) (K : Act → World → Prop) (Q : Exit → Act → World → Prop), SimW w0 objs w →
    (∀ x ∈ o.op.operands.toList, ∀ v, ev env x = some v → Rep w objs v (a.eval x)) →
    (∀ v w', Rep w' objs tv v → SimW w0 objs w' → Step w objs w' objs → K (a.put o.dst v) w') → o.wp P a w K Q

theorem exec_v {P : Program} {s : Sem Value} {v : Value} {w w' : World} (h : s.run P w = .ok v w') : (do pure (Next.value (← s)) : Sem Next).run P w = .ok (.value v) w' := by
  show (Sem.bind s fun v => Sem.pure (Next.value v)).run P w = _
  have := Sem.run_bind P w s (fun v => (Pure.pure (Next.value v) : Sem Next))
  rw [h] at this
  exact this

section
variable {P : Program} {w0 : World} {N : Nat} {Q : Exit → Act → World → Prop} {env : Env} {objs : Objs} {o : Oper}

theorem yields_same {tv : TV} (h : ∀ (a : Act) (w : World), SimW w0 objs w → (∀ x ∈ o.op.operands.toList, ∀ v, ev env x = some v → Rep w objs v (a.eval x)) →
    ∃ v, (execOp a.eval o).run P w = .ok (.value v) w ∧ Rep w objs tv v) : Yields P w0 env objs o tv := fun a w K Q hw hop hK => by
  obtain ⟨v, h1, h2⟩ := h a w hw hop
  unfold Oper.wp
  rw [h1]
  exact hK v w h2 hw ⟨fun _ _ _ => rfl, fun _ _ h => h, fun _ _ _ rows _ _ h => ⟨⟨rows, h⟩, rfl⟩, Nat.le_refl _, id⟩

theorem ev_sim {a : Act} {w : World} (hs : Sim w0 N env objs a w) {x : Operand} {v : TV} (h : ev env x = some v) : Rep w objs v (a.eval x) := by
  cases x with
  | tmp t => exact hs.env t v h
  | const u => exact tvOf_rep h
  | func f => simp only [ev, Option.some.injEq] at h; subst h; exact .fn f [] #[] rfl (by simp)
  | global g => cases h

theorem getD_set {l : Array Value} {d t : Nat} {v : Value} (hd : d < l.size) : (l.setIfInBounds d v).getD t undef = if d = t then v else l.getD t undef := by
  by_cases h : d = t
  · subst h; simp [hd]
  · simp [Array.getElem?_setIfInBounds, h]
theorem Sim.put {a : Act} {w w' : World} (hs : Sim w0 N env objs a w) {d : Nat} (hd : Nat.blt d N = true) {tv : TV} {v : Value} (hr : Rep w' objs tv v) (hw : SimW w0 objs w') (hst : Step w objs w' objs) : Sim w0 N ((d, tv) :: env) objs (a.put (some d) v) w' := by
  have hlt : d < a.tmps.size := by rw [hs.size]; exact Nat.blt_eq ▸ hd
  refine ⟨hs.defers, by simp [Act.put, hs.size], hw, fun t u hu => ?_⟩
  rw [lk_cons] at hu
  show Rep w' objs u ((a.tmps.setIfInBounds d v).getD t undef)
  rw [getD_set hlt]
  split at hu
  · rename_i e; subst e; simp only [Option.some.injEq] at hu; subst hu; simp only [if_true]; exact hr
  · rename_i e; rw [if_neg e]; exact (hs.env t u hu).step hst
/-- A slot is overwritten by what nobody looks at. -/
theorem Sim.putUndef {a : Act} {w : World} (hs : Sim w0 N env objs a w) {d : Nat} (hd : Nat.blt d N = true) : Sim w0 N ((d, .tup []) :: env) objs (a.put (some d) undef) w :=
  hs.put hd (.tup [] #[] rfl (by simp)) hs.mem ⟨fun _ _ _ => rfl, fun _ _ h => h, fun _ _ _ rows _ _ h => ⟨⟨rows, h⟩, rfl⟩, Nat.le_refl _, id⟩

theorem al_none {ops : Array Oper} {rest : List Oper} (hg : o.guard = none) (h : AO P w0 N ops Q o rest env objs) : AL P w0 N ops Q (o :: rest) env objs := ⟨fun a w hs => wpList_plain hg fun K hK => h.run a w K hs hK⟩
theorem ao_q {ops : Array Oper} {rest : List Oper} {d : Nat} {tv : TV} (hd : o.dst = some d) (hN : Nat.blt d N = true) (hy : Yields P w0 env objs o tv) (h : AL P w0 N ops Q rest ((d, tv) :: env) objs) : AO P w0 N ops Q o rest env objs :=
  ⟨fun a w K hs hK => hy a w K Q hs.mem (fun x _ v hv => ev_sim hs hv) fun v w' hr hw hst => hK _ _ (by rw [hd]; exact h.run _ _ (hs.put hN hr hw hst))⟩
theorem yielded_eq {ops : Array Oper} {a : Act} {j d : Nat} {b : Bool} (hj : (ops[j]?).bind (·.dst) = some d) (hv : a.tmps.getD d undef = .bool b) : yielded ops a.tmps j = some b := by
  simp only [yielded, hj]
  simp [Array.getD_eq_getD_getElem?] at hv
  cases h : a.tmps[d]? with
  | none => rw [h] at hv; simp [undef] at hv
  | some x => rw [h] at hv; simp at hv; subst hv; simp [h]
theorem al_run {ops : Array Oper} {rest : List Oper} {dj j : Nat} {b : Bool} {v : TV} (hg : o.guard = some (j, b)) (hj : (ops[j]?).bind (·.dst) = some dj) (hb : lk dj env = some v) (hv : v = .bool b) (h : AO P w0 N ops Q o rest env objs) : AL P w0 N ops Q (o :: rest) env objs := ⟨fun a w hs =>
  wpList_step fun K hK => by
    subst hv
    have hw : Region.wanted o (yielded ops a.tmps) = true := by simp [Region.wanted, hg, yielded_eq hj (hs.env _ _ hb).bool_inv]
    rw [if_pos hw]
    exact h.run a w K hs hK⟩
theorem al_skip {ops : Array Oper} {rest : List Oper} {d dj j : Nat} {b c : Bool} {v : TV} (hg : o.guard = some (j, c)) (hj : (ops[j]?).bind (·.dst) = some dj) (hb : lk dj env = some v) (hv : v = .bool b) (hc : c = !b) (hd : o.dst = some d) (hN : Nat.blt d N = true)
    (h : AL P w0 N ops Q rest ((d, .tup []) :: env) objs) : AL P w0 N ops Q (o :: rest) env objs := ⟨fun a w hs =>
  wpList_step fun K hK => by
    subst hv; subst hc
    have hw : Region.wanted o (yielded ops a.tmps) = false := by cases b <;> simp [Region.wanted, hg, yielded_eq hj (hs.env _ _ hb).bool_inv]
    rw [hw]
    exact hK _ _ (by rw [hd]; exact h.run _ _ (hs.putUndef hN))⟩

theorem Rep.undef_inv {w : World} {v : Value} (h : Rep w objs (.tup []) v) : v = undef := by
  cases h with
  | tup l vs h h2 =>
    have : vs = #[] := Array.eq_empty_of_size_eq_zero (by simpa using h.symm)
    subst this; rfl
theorem yielded_undef {ops : Array Oper} {a : Act} {j d : Nat} (hj : (ops[j]?).bind (·.dst) = some d) (hv : a.tmps.getD d undef = undef) : yielded ops a.tmps j = none := by
  simp only [yielded, hj]
  simp [Array.getD_eq_getD_getElem?] at hv
  cases h : a.tmps[d]? with
  | none => simp [h]
  | some x => rw [h] at hv; simp [undef] at hv; subst hv; simp [h]
/-- What a slot holds is known from here on. -/
theorem Sim.know {a : Act} {w : World} (hs : Sim w0 N env objs a w) {t : Nat} {v : TV} (hv : lk t env = some v) {v' : TV} (h : v = v') : Sim w0 N ((t, v') :: env) objs a w :=
  ⟨hs.defers, hs.size, hs.mem, fun t' u hu => by
    rw [lk_cons] at hu
    split at hu
    · rename_i e; subst e; simp only [Option.some.injEq] at hu; subst hu; subst h; exact hs.env _ _ hv
    · exact hs.env _ _ hu⟩
theorem al_split {ops : Array Oper} {rest : List Oper} {t : Nat} {p : Prop} {i : Decidable p} (hv : lk t env = some (.bool (@decide p i))) (ht : p → AL P w0 N ops Q rest ((t, .bool true) :: env) objs) (hf : ¬ p → AL P w0 N ops Q rest ((t, .bool false) :: env) objs) :
    AL P w0 N ops Q rest env objs := ⟨fun a w hs => by
  by_cases h : p
  · exact (ht h).run a w (hs.know hv (by simp [h]))
  · exact (hf h).run a w (hs.know hv (by simp [h]))⟩
theorem al_gsplit {ops : Array Oper} {rest : List Oper} {j d : Nat} {b : Bool} {p : Prop} {i : Decidable p} {v : TV} (hg : o.guard = some (j, b)) (hj : (ops[j]?).bind (·.dst) = some d) (hv : lk d env = some v) (he : v = .bool (@decide p i))
    (ht : p → AL P w0 N ops Q (o :: rest) ((d, .bool true) :: env) objs) (hf : ¬ p → AL P w0 N ops Q (o :: rest) ((d, .bool false) :: env) objs) : AL P w0 N ops Q (o :: rest) env objs := al_split (he ▸ hv) ht hf
theorem al_gf {ops : Array Oper} {rest : List Oper} {j d : Nat} {b : Bool} {p : Prop} {i : Decidable p} {v : TV} (hg : o.guard = some (j, b)) (hj : (ops[j]?).bind (·.dst) = some d) (hv : lk d env = some v) (he : v = .bool (@decide p i)) (hp : ¬ p)
    (hf : AL P w0 N ops Q (o :: rest) ((d, .bool false) :: env) objs) : AL P w0 N ops Q (o :: rest) env objs := al_gsplit hg hj hv he (fun h => absurd h hp) (fun _ => hf)
theorem beqd {α : Type} [BEq α] [LawfulBEq α] [DecidableEq α] (a b : α) : (a == b) = decide (a = b) := by rw [Bool.eq_iff_iff]; simp
/- The operations. -/
theorem y_move {x : Operand} {tv : TV} (ho : o.op = .move x) (hx : ev env x = some tv) : Yields P w0 env objs o tv := yields_same fun a w _ hop =>
  ⟨a.eval x, by simp [execOp, ho, Sem.run_pure], hop x (by simp [ho, Op.operands]) _ hx⟩
theorem y_assign {x : Operand} {tv : TV} (ho : o.op = .assign x) (hx : ev env x = some tv) : Yields P w0 env objs o tv := yields_same fun a w _ hop =>
  ⟨a.eval x, by simp [execOp, ho, Sem.run_pure], hop x (by simp [ho, Op.operands]) _ hx⟩
theorem y_pick_t {c x y : Operand} {tv cv : TV} (ho : o.op = .pick c x y) (hc : ev env c = some cv) (he : cv = .bool true) (hx : ev env x = some tv) : Yields P w0 env objs o tv := yields_same fun a w _ hop => by
  subst he
  have h1 := (hop c (by simp [ho, Op.operands]) _ hc).bool_inv
  exact ⟨a.eval x, by simp [execOp, ho, h1, asBool, Sem.run_bind, Sem.run_pure], hop x (by simp [ho, Op.operands]) _ hx⟩
theorem y_pick_f {c x y : Operand} {tv cv : TV} (ho : o.op = .pick c x y) (hc : ev env c = some cv) (he : cv = .bool false) (hx : ev env y = some tv) : Yields P w0 env objs o tv := yields_same fun a w _ hop => by
  subst he
  have h1 := (hop c (by simp [ho, Op.operands]) _ hc).bool_inv
  exact ⟨a.eval y, by simp [execOp, ho, h1, asBool, Sem.run_bind, Sem.run_pure], hop y (by simp [ho, Op.operands]) _ hx⟩

theorem run_eqGuard_int {op : BinOp} {t : TypeId} {x y : Operand} {k : IntKind} {m : Int} {v : Value} {w : World} : (eqGuard op t x y (.int k m) v).run P w = .ok () w := by
  unfold eqGuard
  split <;> simp_all [Sem.run_pure]
theorem run_eqGuard_bool {op : BinOp} {t : TypeId} {x y : Operand} {b : Bool} {v : Value} {w : World} : (eqGuard op t x y (.bool b) v).run P w = .ok () w := by
  unfold eqGuard
  split <;> simp_all [Sem.run_pure]
theorem run_eqGuard_str {op : BinOp} {t : TypeId} {x y : Operand} {b : ByteArray} {v : Value} {w : World} : (eqGuard op t x y (.string b) v).run P w = .ok () w := by
  unfold eqGuard
  split <;> simp_all [Sem.run_pure]

theorem y_bin_int {op : BinOp} {t t2 : TypeId} {x y : Operand} {k : IntKind} {m n : Int} {tv : TV} (ho : o.op = .binOp op t x y t2) (hx : ev env x = some (.int k m)) (hy : ev env y = some (.int k n))
    (hr : ∀ w : World, ∃ v, (binOp op t (.int k m) (.int k n)).run P w = .ok v w ∧ Rep w objs tv v) : Yields P w0 env objs o tv := yields_same fun a w _ hop => by
  have h1 := (hop x (by simp [ho, Op.operands]) _ hx).int_inv
  have h2 := (hop y (by simp [ho, Op.operands]) _ hy).int_inv
  obtain ⟨v, h3, h4⟩ := hr w
  exact ⟨v, by simp [execOp, ho, h1, h2, Sem.run_bind, run_eqGuard_int, h3, Sem.run_pure], h4⟩
section
variable {t t2 : TypeId} {x y : Operand} {k : IntKind} {m n : Int}
theorem y_add {c : Int} (ho : o.op = .binOp .add t x y t2) (hx : ev env x = some (.int k m)) (hy : ev env y = some (.int k n)) (hc : k.wrap (m + n) = c) : Yields P w0 env objs o (.int k c) :=
  y_bin_int ho hx hy fun w => ⟨_, by simp [binOp, Op.intArith, Sem.run_pure]; rfl, by rw [hc]; exact .int k c⟩
theorem y_sub {c : Int} (ho : o.op = .binOp .sub t x y t2) (hx : ev env x = some (.int k m)) (hy : ev env y = some (.int k n)) (hc : k.wrap (m - n) = c) : Yields P w0 env objs o (.int k c) :=
  y_bin_int ho hx hy fun w => ⟨_, by simp [binOp, Op.intArith, Sem.run_pure]; rfl, by rw [hc]; exact .int k c⟩
theorem y_mul {c : Int} (ho : o.op = .binOp .mul t x y t2) (hx : ev env x = some (.int k m)) (hy : ev env y = some (.int k n)) (hc : k.wrap (m * n) = c) : Yields P w0 env objs o (.int k c) :=
  y_bin_int ho hx hy fun w => ⟨_, by simp [binOp, Op.intArith, Sem.run_pure]; rfl, by rw [hc]; exact .int k c⟩
theorem y_quo {c : Int} (ho : o.op = .binOp .quo t x y t2) (hx : ev env x = some (.int k m)) (hy : ev env y = some (.int k n)) (hn : n ≠ 0) (hc : k.wrap (m.tdiv n) = c) : Yields P w0 env objs o (.int k c) :=
  y_bin_int ho hx hy fun w => ⟨_, by simp [binOp, Op.intDiv, Sem.run_pure, hn]; rfl, by rw [hc]; exact .int k c⟩
theorem y_eql (ho : o.op = .binOp .eql t x y t2) (hx : ev env x = some (.int k m)) (hy : ev env y = some (.int k n)) : Yields P w0 env objs o (.bool (decide (m = n))) :=
  y_bin_int ho hx hy fun w => ⟨.bool (m == n), by simp [binOp, Op.intCmp, Sem.run_pure], by rw [beqd]; exact .bool _⟩
theorem y_neq (ho : o.op = .binOp .neq t x y t2) (hx : ev env x = some (.int k m)) (hy : ev env y = some (.int k n)) : Yields P w0 env objs o (.bool (decide (m ≠ n))) :=
  y_bin_int ho hx hy fun w => ⟨.bool (m != n), by simp [binOp, Op.intCmp, Sem.run_pure], by
    have : (m != n) = decide (m ≠ n) := by rw [bne, beqd]; simp
    rw [this]; exact .bool _⟩
theorem y_lss (ho : o.op = .binOp .lss t x y t2) (hx : ev env x = some (.int k m)) (hy : ev env y = some (.int k n)) : Yields P w0 env objs o (.bool (decide (m < n))) :=
  y_bin_int ho hx hy fun w => ⟨_, by simp only [binOp, Op.intCmp, ne_eq, not_true_eq_false, if_false]; rfl, .bool _⟩
theorem y_leq (ho : o.op = .binOp .leq t x y t2) (hx : ev env x = some (.int k m)) (hy : ev env y = some (.int k n)) : Yields P w0 env objs o (.bool (decide (m ≤ n))) :=
  y_bin_int ho hx hy fun w => ⟨_, by simp only [binOp, Op.intCmp, ne_eq, not_true_eq_false, if_false]; rfl, .bool _⟩
theorem y_gtr (ho : o.op = .binOp .gtr t x y t2) (hx : ev env x = some (.int k m)) (hy : ev env y = some (.int k n)) : Yields P w0 env objs o (.bool (decide (n < m))) :=
  y_bin_int ho hx hy fun w => ⟨_, by simp only [binOp, Op.intCmp, ne_eq, not_true_eq_false, if_false]; rfl, .bool _⟩
theorem y_geq (ho : o.op = .binOp .geq t x y t2) (hx : ev env x = some (.int k m)) (hy : ev env y = some (.int k n)) : Yields P w0 env objs o (.bool (decide (n ≤ m))) :=
  y_bin_int ho hx hy fun w => ⟨_, by simp only [binOp, Op.intCmp, ne_eq, not_true_eq_false, if_false]; rfl, .bool _⟩
theorem y_conv_int {src dst : TypeId} {k2 : IntKind} {c : Int} (ho : o.op = .convert src dst x) (hx : ev env x = some (.int k m)) (hk : kdT dst = some k2) (hs : (P.underlying src).isSome = true) (hd : P.underlying dst = some (.int k2)) (hc : k2.wrap m = c) : Yields P w0 env objs o (.int k2 c) :=
  yields_same fun a w _ hop => by
    have h1 := (hop x (by simp [ho, Op.operands]) _ hx).int_inv
    refine ⟨.int k2 c, ?_, .int k2 c⟩
    obtain ⟨d, hs⟩ := Option.isSome_iff_exists.1 hs
    subst hc
    simp only [execOp, ho, h1]
    refine exec_v ?_
    simp only [convert, Sem.run_bind, run_underlying hs, run_underlying hd, Result.andThen_ok]
    simp [Conv.intToInt, Sem.run_pure]
end
section
variable {t t2 : TypeId} {x y : Operand}
theorem y_neq_b {b c : Bool} (ho : o.op = .binOp .neq t x y t2) (hx : ev env x = some (.bool b)) (hy : ev env y = some (.bool c)) (hu : P.underlying t = some .bool) : Yields P w0 env objs o (.bool (b != c)) := yields_same fun a w _ hop => by
  have h1 := (hop x (by simp [ho, Op.operands]) _ hx).bool_inv
  have h2 := (hop y (by simp [ho, Op.operands]) _ hy).bool_inv
  exact ⟨.bool (b != c), by simp [execOp, ho, h1, h2, Sem.run_bind, run_eqGuard_bool, binOp, run_equal_bool _ t b c hu, Sem.run_pure, bne], .bool _⟩
theorem toList_eq (s u : ByteArray) : (s.toList == u.toList) = decide (s = u) := by
  by_cases h : s = u
  · subst h; simp
  · have : ¬ s.toList = u.toList := fun e => h (WideShapes.bytes_inj (by rw [← Lib.toList_data, ← Lib.toList_data]; exact e))
    simp [h, this]
theorem y_bin_str {op : BinOp} {s u : ByteArray} {tv : TV} (ho : o.op = .binOp op t x y t2) (hx : ev env x = some (.str s)) (hy : ev env y = some (.str u))
    (hr : ∀ w : World, ∃ v, (Op.stringOp op s u).run P w = .ok v w ∧ Rep w objs tv v) (hs : op ≠ .shl := by decide) (hs2 : op ≠ .shr := by decide) : Yields P w0 env objs o tv := yields_same fun a w _ hop => by
  have h1 := (hop x (by simp [ho, Op.operands]) _ hx).str_inv
  have h2 := (hop y (by simp [ho, Op.operands]) _ hy).str_inv
  obtain ⟨v, h3, h4⟩ := hr w
  refine ⟨v, ?_, h4⟩
  have h5 : binOp op t (.string s) (.string u) = Op.stringOp op s u := by cases op <;> rfl
  simp [execOp, ho, h1, h2, Sem.run_bind, run_eqGuard_str, h5, h3, Sem.run_pure]
theorem y_neq_s {s u : ByteArray} (ho : o.op = .binOp .neq t x y t2) (hx : ev env x = some (.str s)) (hy : ev env y = some (.str u)) : Yields P w0 env objs o (.bool (decide (s ≠ u))) :=
  y_bin_str ho hx hy fun w => ⟨.bool (!(s.toList == u.toList)), by simp [Op.stringOp, Sem.run_pure], by
    have : (!(s.toList == u.toList)) = decide (s ≠ u) := by rw [toList_eq]; simp
    rw [this]; exact .bool _⟩
theorem run_str_add (w : World) (s u : ByteArray) (hl : s.size + u.size ≤ 9223372036854775807) : (Op.stringOp .add s u).run P w = .ok (.string (s ++ u)) w := by
  have h9 : IntKind.max .i64 = 9223372036854775807 := by decide
  have h10 : ¬ (((s.size + u.size : Nat) : Int) > IntKind.max .i64) := by rw [h9]; omega
  unfold Op.stringOp
  simp only [h10, if_false]; rfl
theorem y_add_s {s u : ByteArray} (ho : o.op = .binOp .add t x y t2) (hx : ev env x = some (.str s)) (hy : ev env y = some (.str u)) (hl : s.size + u.size ≤ 9223372036854775807) : Yields P w0 env objs o (.str (s ++ u)) :=
  y_bin_str ho hx hy fun w => ⟨.string (s ++ u), run_str_add w s u hl, .str _⟩
theorem y_not_b {b : Bool} (ho : o.op = .unOp .not t x) (hx : ev env x = some (.bool b)) : Yields P w0 env objs o (.bool (!b)) := yields_same fun a w _ hop => by
  have h1 := (hop x (by simp [ho, Op.operands]) _ hx).bool_inv
  exact ⟨.bool (!b), by simp [execOp, ho, h1, Op.unary, Sem.run_pure, Sem.run_bind], .bool _⟩
end
end
end Go.Proofs.YtdeokcbbjibkoaaDoor
/- The abstract walk, part 3: addresses, loads, indices, lengths, parts of strings, structs by value. -/
namespace Go.Proofs.YtdeokcbbjibkoaaDoor
open Go Go.RowKit

section
variable {P : Program} {w0 : World} {N : Nat} {Q : Exit → Act → World → Prop} {env : Env} {objs : Objs} {o : Oper}

def isScal (P : Program) (t : TypeId) : Bool := match P.underlying t with
  | some (.struct _) | some (.array _ _) | none => false
  | _ => true
def isAggB (P : Program) (t : TypeId) : Bool := match P.underlying t with
  | some (.struct _) => true
  | _ => false
theorem run_isAgg_f {t : TypeId} {w : World} (h : isScal P t = true) : (isAgg t).run P w = .ok false w := by
  unfold isScal at h
  unfold isAgg
  cases hu : P.underlying t with
  | none => rw [hu] at h; cases h
  | some d =>
    simp only [Sem.run_bind, run_underlying hu, Result.andThen_ok]
    rw [hu] at h
    cases d <;> first | rfl | cases h
theorem run_isAgg_t {t : TypeId} {w : World} (h : isAggB P t = true) : (isAgg t).run P w = .ok true w := by
  unfold isAggB at h
  unfold isAgg
  cases hu : P.underlying t with
  | none => rw [hu] at h; cases h
  | some d =>
    simp only [Sem.run_bind, run_underlying hu, Result.andThen_ok]
    rw [hu] at h
    cases d <;> first | rfl | cases h
/-- What can be read at a pointer. -/
inductive Place (w : World) (objs : Objs) : TV → List TV → Prop
  | cp (f : Nat) (l : List TV) : Place w objs (.cp f l) l
  | mp (s b off : Nat) (cells : List TV) (hm : (s, b, TObj.box cells) ∈ objs) : Place w objs (.mp s b off) (cells.drop off)
  | me (s b m k j : Nat) (rows : List (List TV)) (r : List TV) (hm : (s, b, TObj.row m rows) ∈ objs) (hr : rows[k]? = some r) : Place w objs (.me s b m k j) (r.drop j)

theorem flatten_at {m : Nat} : ∀ {rows : List (List TV)}, (∀ r ∈ rows, r.length = m) → ∀ {k j : Nat} {r : List TV}, rows[k]? = some r → j < m → rows.flatten[k * m + j]? = r[j]?
  | [], _, k, j, r, hk, _ => by simp at hk
  | x :: rest, hm, k, j, r, hk, hj => by
    have hx := hm x (by simp)
    rw [List.flatten_cons]
    cases k with
    | zero =>
      simp at hk; subst hk
      rw [Nat.zero_mul, Nat.zero_add, List.getElem?_append_left (by omega)]
    | succ k =>
      have e : (k + 1) * m + j = x.length + (k * m + j) := by rw [hx, Nat.add_mul, Nat.one_mul]; omega
      rw [e, List.getElem?_append_right (by omega), Nat.add_sub_cancel_left]
      exact flatten_at (fun r hr => hm r (by simp [hr])) (by simpa using hk) hj
theorem length_flatten {m : Nat} : ∀ {rows : List (List TV)}, (∀ r ∈ rows, r.length = m) → rows.flatten.length = rows.length * m
  | [], _ => by simp
  | x :: rest, hm => by
    rw [List.flatten_cons, List.length_append, hm x (by simp), length_flatten (rows := rest) (fun r hr => hm r (by simp [hr])), List.length_cons, Nat.add_mul, Nat.one_mul]; omega

theorem place_cells {w : World} (hw : SimW w0 objs w) {tv : TV} {l : List TV} {v : Value} (hp : Place w objs tv l) (hr : Rep w objs tv v) :
    ∃ b o, v = .pointer (some ⟨b, o, none⟩) ∧ (∀ t ∈ l, t.isCell = true) ∧ ∀ (j : Nat) (t : TV), l[j]? = some t → ∃ u, w.cell? ⟨b, o + j, none⟩ = some u ∧ Rep w objs t u := by
  cases hp with
  | cp f l =>
    cases hr with
    | cp f l hi b o g hZ hb hc hr => exact ⟨b, o, rfl, hi, fun j t hj => ⟨g j, hc j t hj, hr j t hj⟩⟩
  | mp s b off cells hm =>
    cases hr with
    | mp s b off h =>
      obtain ⟨hc0, cur, e, h2, h3, h4⟩ := hw.obj s b _ hm
      refine ⟨b, off, rfl, fun t ht => hc0.2 t (List.mem_of_mem_drop ht), fun j t hj => ?_⟩
      rw [List.getElem?_drop] at hj
      obtain ⟨u, h5, h6⟩ := h4 _ t hj
      exact ⟨u, by rw [cell_of_row w b _ cur e (0, 0) h2]; exact h5, h6⟩
  | me s b m k j rows r hm hk =>
    cases hr with
    | me s b m k j h =>
      obtain ⟨h1, h2, h3⟩ := hw.obj s b _ hm
      rcases h3 with ⟨_, h3⟩ | ⟨_, cur, e, cap, h4, h5, h6, h7, h8⟩
      · subst h3; simp at hk
      · refine ⟨b, k * m + j, rfl, fun t ht => h1.2 t (List.mem_flatten.2 ⟨r, List.mem_of_getElem? hk, List.mem_of_mem_drop ht⟩), fun i t hi => ?_⟩
        rw [List.getElem?_drop] at hi
        have hlt : j + i < r.length := (List.getElem?_eq_some_iff.1 hi).1
        have hrm : r.length = m := h2 r (List.mem_of_getElem? hk)
        have hfl := flatten_at h2 hk (j := j + i) (by omega)
        obtain ⟨u, h9, h10⟩ := h8 _ t (hfl.trans hi)
        exact ⟨u, by rw [cell_of_row w b _ cur e (0, 0) h4, Nat.add_assoc]; exact h9, h10⟩

/-- A load of one cell. -/
theorem y_load {T : TypeId} {x : Operand} {tv c : TV} {l r : List TV} (ho : o.op = .load T x) (hT : isScal P T = true) (hx : ev env x = some tv) (hp : ∀ w, Place w objs tv l) (hl : l = c :: r) : Yields P w0 env objs o c := yields_same fun a w hw hop => by
  have h0 := hop x (by simp [ho, Op.operands]) _ hx
  obtain ⟨b, q, h1, hci, h2⟩ := place_cells hw (hp w) h0
  subst hl
  obtain ⟨u, h3, h4⟩ := h2 0 c rfl
  refine ⟨u, ?_, h4⟩
  simp only [execOp, ho, h1]
  refine exec_v ?_
  simp only [Instr.loadAt, Instr.sureAddr, loadVar, Sem.run_bind, Sem.run_pure, Result.andThen_ok, run_isAgg_f hT]
  show Sem.run P (load ⟨b, q, none⟩) w = _
  rw [run_load, show w.cell? ⟨b, q, none⟩ = some u from h3]
/-- A load of a struct. -/
inductive Taken : Nat → List TV → List TV → Prop
  | zero (l : List TV) : Taken 0 l []
  | succ (n : Nat) (x : TV) (l o : List TV) (h : Taken n l o) : Taken (n + 1) (x :: l) (x :: o)
theorem Taken.eq {n : Nat} {l o : List TV} (h : Taken n l o) : n ≤ l.length ∧ o = l.take n := by
  induction h with
  | zero l => simp
  | succ n x l o h ih => simp [ih.1, ih.2]
/-- The element of a slice that nobody writes. -/
theorem y_indexAddr {T : TypeId} {x i : Operand} {f : Nat} {m : Nat} {rows : List (List TV)} {kk : IntKind} {n : Int} {k : Nat} {r : List TV} (ho : o.op = .indexAddr T x i) (hx : ev env x = some (.sl f m rows)) (hi : ev env i = some (.int kk n))
    (hT : P.underlying T = some (.slice (P.elem T))) (hI : (P.info? (P.elem T)).isSome = true) (hm : P.cellsOf (P.elem T) = m) (hm0 : Nat.blt 0 m = true) (hn : n = (k : Int)) (hr : rows[k]? = some r) : Yields P w0 env objs o (.cp f r) := yields_same fun a w hw hop => by
  have h0 := hop x (by simp [ho, Op.operands]) _ hx
  have h1 := (hop i (by simp [ho, Op.operands]) _ hi).int_inv
  have hm0 : 0 < m := Nat.blt_eq ▸ hm0
  generalize hv : a.eval x = v at h0
  cases h0 with
  | sl f m rows A c g1 g2 g3 gi g g4 g5 =>
    have hk : k < rows.length := (List.getElem?_eq_some_iff.1 hr).1
    have hrm : r.length = m := g3 r (List.mem_of_getElem? hr)
    have hfl : ∀ j, j < m → rows.flatten[k * m + j]? = r[j]? := fun j hj => flatten_at g3 hr hj
    obtain ⟨b, q, hA, hZ, hc0⟩ := g4 (k * m + 0) r[0] ((hfl 0 hm0).trans (List.getElem?_eq_getElem (by omega)))
    subst hA
    cases hie : P.info? (P.elem T) with
    | none => rw [hie] at hI; cases hI
    | some ie =>
    have hb := lt_of_cell hc0
    have hcells : ∀ (j : Nat) (t : TV), r[j]? = some t → w.cell? ⟨b, q + k * m + j, none⟩ = some (g (k * m + j)) ∧ Rep w objs t (g (k * m + j)) := fun j t hj => by
      have hjm : j < m := by rw [← hrm]; exact (List.getElem?_eq_some_iff.1 hj).1
      have h6 := (hfl j hjm).trans hj
      obtain ⟨b', q', h7, _, h8⟩ := g4 _ t h6
      simp only [Option.some.injEq, Addr.mk.injEq, and_true] at h7
      obtain ⟨rfl, rfl⟩ := h7
      exact ⟨by rw [Nat.add_assoc]; exact h8, g5 _ t h6⟩
    refine ⟨.pointer (some ⟨b, q + k * m, none⟩), ?_, .cp f r (fun t ht => gi t (List.mem_flatten.2 ⟨r, List.mem_of_getElem? hr, ht⟩)) b (q + k * m) (fun j => g (k * m + j)) hZ hb (fun j t hj => (hcells j t hj).1) (fun j t hj => (hcells j t hj).2)⟩
    simp only [execOp, ho, h1, hv]
    refine exec_v ?_
    rw [run_indexAt_slice w T _ _ _ _ _ hT, if_pos ⟨by omega, by omega⟩, run_sizeOf w hie, hm]
    simp [Result.andThen_ok, hn, Addr.add_lit]

/-- The element of a row that the call owns. -/
theorem y_indexAddr_ms {T : TypeId} {x i : Operand} {s b off len m : Nat} {rows : List (List TV)} {kk : IntKind} {n : Int} {k : Nat} (ho : o.op = .indexAddr T x i) (hx : ev env x = some (.ms s b off len)) (hi : ev env i = some (.int kk n))
    (hobj : (s, b, TObj.row m rows) ∈ objs) (hT : P.underlying T = some (.slice (P.elem T))) (hI : (P.info? (P.elem T)).isSome = true) (hm : P.cellsOf (P.elem T) = m) (hn : n = (k : Int)) (hk : k < len) :
    Yields P w0 env objs o (.me s b m (off + k) 0) := yields_same fun a w hw hop => by
  have h0 := hop x (by simp [ho, Op.operands]) _ hx
  have h1 := (hop i (by simp [ho, Op.operands]) _ hi).int_inv
  generalize hv : a.eval x = v at h0
  cases h0 with
  | ms s b off len v h =>
    have hor := h.or
    obtain ⟨⟨hb, hmk, _⟩, _⟩ := h
    rcases hor m rows hobj with ⟨_, _, h2, _⟩ | ⟨_, q, c, e, nn, h2, h3, h4, h5, h6⟩
    · omega
    · have hq := h6 (.inl (by omega))
      subst hq
      subst h2
      cases hie : P.info? (P.elem T) with
      | none => rw [hie] at hI; cases hI
      | some ie =>
      refine ⟨.pointer (some ⟨b, (off + k) * m + 0, none⟩), ?_, .me s b m (off + k) 0 ⟨hb, hmk⟩⟩
      simp only [execOp, ho, h1, hv]
      refine exec_v ?_
      rw [run_indexAt_slice w T _ _ _ _ _ hT, if_pos ⟨by omega, by omega⟩, run_sizeOf w hie, hm]
      simp [Result.andThen_ok, hn, Addr.add_lit, Nat.add_mul]

/-- The byte at a place. -/
def bat (s : ByteArray) (j : Nat) : Int := ((s.data.toList.getD j 0).toNat : Int)
theorem bat_eq (s : ByteArray) {j : Nat} (h : j < s.size) : bat s j = (s[j].toNat : Int) := by
  unfold bat
  have h1 : j < s.data.toList.length := by rw [Array.length_toList]; exact h
  rw [List.getD_eq_getElem?_getD, List.getElem?_eq_getElem h1]; rfl
theorem exec_len {x : Operand} {t : TypeId} (ho : o.op = .call { callee := .builtin .len, args := #[x], argTypes := #[t] }) {a : Act} {w : World} {v : Value} (h : (Builtin.len_ #[t] o.type #[a.eval x]).run P w = .ok v w) :
    (execOp a.eval o).run P w = .ok (.value v) w := by
  simp only [execOp, ho, resolve, Sem.run_bind, Sem.run_pure, Result.andThen_ok, invoke, builtin, List.map_toArray, List.map_cons, List.map_nil]
  rw [h]; rfl
theorem len_opnd {x : Operand} {t : TypeId} (ho : o.op = .call { callee := .builtin .len, args := #[x], argTypes := #[t] }) : x ∈ o.op.operands.toList := by simp [ho, Op.operands, Call.operands]
theorem y_len_s {x : Operand} {t : TypeId} {s : ByteArray} (ho : o.op = .call { callee := .builtin .len, args := #[x], argTypes := #[t] }) (hx : ev env x = some (.str s)) (hT : P.underlying t = some .string) : Yields P w0 env objs o (.int .i64 (s.size : Int)) := yields_same fun a w hw hop => by
  have h0 := (hop x (len_opnd ho) _ hx).str_inv
  refine ⟨.int .i64 (s.size : Int), exec_len ho ?_, .int _ _⟩
  rw [h0]
  simp only [Builtin.len_, Sem.run_bind]
  simp [run_underlying hT, Sem.run_pure, goInt]
theorem y_len_sl {x : Operand} {t : TypeId} {f : Nat} {m n : Nat} {rows : List (List TV)} (ho : o.op = .call { callee := .builtin .len, args := #[x], argTypes := #[t] }) (hx : ev env x = some (.sl f m rows)) (hT : P.underlying t = some (.slice (P.elem t))) (hn : rows.length = n) : Yields P w0 env objs o (.int .i64 (n : Int)) := yields_same fun a w hw hop => by
  have h0 := hop x (len_opnd ho) _ hx
  generalize hv : a.eval x = v at h0
  cases h0 with
  | sl f m rows A c g1 g2 g3 gi g g4 g5 =>
    refine ⟨.int .i64 (n : Int), exec_len ho ?_, .int _ _⟩
    rw [hv, run_len_slice w t _ _ _ _ hT, hn]; rfl
theorem y_len_ms {x : Operand} {t : TypeId} {s b off len : Nat} (ho : o.op = .call { callee := .builtin .len, args := #[x], argTypes := #[t] }) (hx : ev env x = some (.ms s b off len)) (hT : P.underlying t = some (.slice (P.elem t))) :
    Yields P w0 env objs o (.int .i64 (len : Int)) := yields_same fun a w hw hop => by
  have h0 := hop x (len_opnd ho) _ hx
  generalize hv : a.eval x = v at h0
  cases h0 with
  | ms s b off len v h =>
    refine ⟨.int .i64 (len : Int), exec_len ho ?_, .int _ _⟩
    obtain ⟨A, c, h2⟩ := h.1.2.2
    rw [hv, h2, run_len_slice w t _ _ _ _ hT]; rfl

theorem y_extract {x : Operand} {k : Nat} {l : List TV} {t : TV} (ho : o.op = .extract x k) (hx : ev env x = some (.tup l)) (ht : l[k]? = some t) : Yields P w0 env objs o t := yields_same fun a w hw hop => by
  have h0 := hop x (by simp [ho, Op.operands]) _ hx
  generalize hv : a.eval x = v at h0
  cases h0 with
  | tup l vs h1 h2 =>
    have hk : k < vs.size := by rw [← h1]; exact (List.getElem?_eq_some_iff.1 ht).1
    refine ⟨vs[k], ?_, h2 k t _ ht (by simp [hk])⟩
    simp only [execOp, ho, hv]
    refine exec_v ?_
    simp [Instr.extract, hk, Sem.run_pure]

section
variable {T : TypeId} {x : Operand} {s : ByteArray}
end
end
end Go.Proofs.YtdeokcbbjibkoaaDoor
/- The abstract walk, part 4: what makes memory and what writes it. -/
namespace Go.Proofs.YtdeokcbbjibkoaaDoor
open Go Go.RowKit

/-- A site that is not taken. -/
theorem site_new (objs : Objs) : ∃ d, ∀ x ∈ objs, x.1 ≠ d := by
  have : ∃ d, ∀ x ∈ objs, x.1 < d := by
    induction objs with
    | nil => exact ⟨0, by simp⟩
    | cons y l ih =>
      obtain ⟨d, hd⟩ := ih
      refine ⟨d + y.1 + 1, fun x hx => ?_⟩
      rcases List.mem_cons.1 hx with rfl | hx
      · omega
      · have := hd x hx; omega
  obtain ⟨d, hd⟩ := this
  exact ⟨d, fun x hx => by have := hd x hx; omega⟩

section
variable {P : Program} {w0 : World} {N : Nat} {Q : Exit → Act → World → Prop} {env : Env} {objs : Objs} {o : Oper}

theorem step_refl (w : World) (objs : Objs) : Step w objs w objs := ⟨fun _ _ _ => rfl, fun _ _ h => h, fun _ _ _ rows _ _ h => ⟨⟨rows, h⟩, rfl⟩, Nat.le_refl _, id⟩
theorem shape_same {w w' : World} {b : Nat} (h : w'.heap[b]? = w.heap[b]?) : w'.shape? b = w.shape? b := by unfold World.shape?; rw [h]
theorem step_grow {w w' : World} (objs : Objs) (hsz : w.heap.size ≤ w'.heap.size) (hb : ∀ b, b < w.heap.size → w'.heap[b]? = w.heap[b]?) : Step w objs w' objs :=
  ⟨fun b h _ => hb b h, fun _ _ h => h, fun _ _ _ rows h _ hm => ⟨⟨rows, hm⟩, shape_same (hb _ h)⟩, hsz, id⟩
theorem objs_lt {w : World} (hw : SimW w0 objs w) {s b : Nat} {ob : TObj} (hm : (s, b, ob) ∈ objs) : b < w.heap.size := by
  have hpos : 0 < w.heap.size := Nat.lt_of_lt_of_le hw.pos hw.below.size
  cases ob with
  | void => rw [show b = 0 from hw.obj s b _ hm]; exact hpos
  | iter x pos => exact (Array.getElem?_eq_some_iff.1 (hw.obj s b _ hm).2).1
  | row m rows =>
    rcases (hw.obj s b _ hm).2.2 with ⟨h, _⟩ | ⟨_, cur, e, cap, h, _⟩
    · omega
    · exact (Array.getElem?_eq_some_iff.1 h).1
  | box cells =>
    obtain ⟨_, cur, e, h, _⟩ := hw.obj s b _ hm
    exact (Array.getElem?_eq_some_iff.1 h).1
theorem SimW.grow {w w' : World} (hw : SimW w0 objs w) (hb : Below w0.heap.size w0 w') (hsz : w.heap.size ≤ w'.heap.size) (hk : ∀ b, b < w.heap.size → w'.heap[b]? = w.heap[b]?) : SimW w0 objs w' :=
  ⟨hb, hw.pos, fun s b ob hm => (hw.obj s b ob hm).step (step_grow objs hsz hk) (hk b (objs_lt hw hm)), hw.sites⟩
theorem SimW.alloc {w : World} (hw : SimW w0 objs w) (ob : Obj) : SimW w0 objs (w.alloc ob) ∧ Step w objs (w.alloc ob) objs :=
  have hk : ∀ b, b < w.heap.size → (w.alloc ob).heap[b]? = w.heap[b]? := fun b hb => Below.heap_alloc w ob b hb
  ⟨hw.grow (hw.below.alloc hw.below.size ob) (by simp) hk, step_grow objs (by simp) hk⟩

/-- A new block that the call owns. -/
theorem step_new {w : World} (hw : SimW w0 objs w) (cs : Array Value) (e : TypeId) (d : Nat) (ob : TObj) : Step w objs (w.alloc (.cells cs e)) ((d, w.heap.size, ob) :: objs) := by
  have hk : ∀ b, b < w.heap.size → (w.alloc (.cells cs e)).heap[b]? = w.heap[b]? := fun b hb => Below.heap_alloc w _ b hb
  have hpos : 0 < w.heap.size := Nat.lt_of_lt_of_le hw.pos hw.below.size
  refine ⟨fun b h _ => hk b h, fun b h ha => ⟨ha.1, ?_⟩, fun s b m rows h _ hm => ?_, by simp, fun hm => ?_⟩
  · obtain ⟨s, o, hm⟩ := ha.2
    rcases List.mem_cons.1 hm with he | hm
    · simp only [Prod.mk.injEq] at he; omega
    · exact ⟨s, o, hm⟩
  · rcases List.mem_cons.1 hm with he | hm
    · simp only [Prod.mk.injEq] at he; omega
    · exact ⟨⟨rows, hm⟩, shape_same (hk b h)⟩
  · rcases List.mem_cons.1 hm with he | hm
    · simp only [marker, Prod.mk.injEq] at he; omega
    · exact hm
theorem noMark_new {w : World} (hw : SimW w0 objs w) (cs : Array Value) (e : TypeId) (d : Nat) (ob : TObj) : marker ∉ (d, w.heap.size, ob) :: objs := fun hm => hw.noMark ((step_new hw cs e d ob).mark hm)
theorem SimW.newObj {w : World} (hw : SimW w0 objs w) {cs : Array Value} {e : TypeId} {d : Nat} {ob : TObj} (hd : ∀ x ∈ objs, x.1 ≠ d)
    (ho : ObjOk (w.alloc (.cells cs e)) w0.heap.size ((d, w.heap.size, ob) :: objs) w.heap.size ob) : SimW w0 ((d, w.heap.size, ob) :: objs) (w.alloc (.cells cs e)) :=
  ⟨hw.below.alloc hw.below.size _, hw.pos, fun s b o hm => by
    rcases List.mem_cons.1 hm with he | hm
    · simp only [Prod.mk.injEq] at he; obtain ⟨rfl, rfl, rfl⟩ := he; exact ho
    · exact (hw.obj s b o hm).step (step_new hw cs e d ob) (Below.heap_alloc w _ b (objs_lt hw hm)),
  List.pairwise_cons.2 ⟨fun y hy => ⟨fun e => hd y hy e.symm, .inl (Nat.ne_of_gt (objs_lt (s := y.1) (ob := y.2.2) hw hy))⟩, hw.sites⟩⟩

theorem Sim.putNew {a : Act} {w w' : World} {objs' : Objs} (hs : Sim w0 N env objs a w) {d : Nat} (hd : Nat.blt d N = true) {tv : TV} {v : Value} (hr : Rep w' objs' tv v) (hw : SimW w0 objs' w') (hst : Step w objs w' objs') : Sim w0 N ((d, tv) :: env) objs' (a.put (some d) v) w' := by
  have hlt : d < a.tmps.size := by rw [hs.size]; exact Nat.blt_eq ▸ hd
  refine ⟨hs.defers, by simp [Act.put, hs.size], hw, fun t u hu => ?_⟩
  rw [lk_cons] at hu
  show Rep w' objs' u ((a.tmps.setIfInBounds d v).getD t undef)
  rw [getD_set hlt]
  split at hu
  · rename_i e; subst e; simp only [Option.some.injEq] at hu; subst hu; simp only [if_true]; exact hr
  · rename_i e; rw [if_neg e]; exact (hs.env t u hu).step hst
theorem Sim.same {a : Act} {w w' : World} {objs' : Objs} (hs : Sim w0 N env objs a w) (hw : SimW w0 objs' w') (hst : Step w objs w' objs') : Sim w0 N env objs' a w' :=
  ⟨hs.defers, hs.size, hw, fun t u hu => (hs.env t u hu).step hst⟩

/-- The cells of a value. -/
def tvCells : TV → Option (List TV)
  | .agg l => some l
  | .tup _ => none
  | .top => none
  | .gh _ => none
  | t => some [t]
theorem Rep.one {w : World} {tv : TV} {v : Value} (h : Rep w objs tv v) (hi : tv.isCell = true) : v.oneCell' = true ∧ v.cells = #[v] := by
  cases h with
  | agg => cases hi
  | tup => cases hi
  | top => cases hi
  | gh => cases hi
  | ms s b off len v h => obtain ⟨⟨_, _, A, c, rfl⟩, _⟩ := h; exact ⟨rfl, rfl⟩
  | _ => exact ⟨rfl, rfl⟩
theorem rep_cells {w : World} {tv : TV} {v : Value} {l : List TV} (h : Rep w objs tv v) (hl : tvCells tv = some l) : v.cells.size = l.length ∧ (∀ (i : Nat) (t : TV) (u : Value), l[i]? = some t → v.cells[i]? = some u → Rep w objs t u) ∧ ∀ t ∈ l, t.isCell = true := by
  by_cases hc : tv.isCell = true
  · have hl' : l = [tv] := by cases tv <;> first | (cases hc; done) | (simp only [tvCells, Option.some.injEq] at hl; exact hl.symm)
    subst hl'
    obtain ⟨_, h2⟩ := h.one hc
    rw [h2]
    refine ⟨rfl, fun i t' u hi hu => ?_, by simpa using hc⟩
    cases i with
    | zero => simp at hi hu; subst hi; subst hu; exact h
    | succ i => simp at hi
  · cases h with
    | agg l' vs hi h1 h2 => simp only [tvCells, Option.some.injEq] at hl; subst hl; exact ⟨h1.symm, h2, hi⟩
    | tup => cases hl
    | top => cases hl
    | gh => cases hl
    | _ => exact absurd rfl hc
/-- A variable's zero value. -/
def zeroOk (P : Program) (T : Nat) : Option (List TV) := (P.info? T).bind fun i => i.zero.bind fun z => tvL z.cells.toList
theorem zero_spec {T : Nat} {l : List TV} (h : zeroOk P T = some l) (w : World) : ∃ z, (zeroValue T).run P w = .ok z w ∧ (z.cells.size = l.length ∧ ∀ t ∈ l, t.isCell = true) ∧ ∀ (w : World) (objs : Objs) (i : Nat) (t : TV) (u : Value), l[i]? = some t → z.cells[i]? = some u → Rep w objs t u := by
  unfold zeroOk at h
  cases hi : P.info? T with
  | none => rw [hi] at h; cases h
  | some i =>
    rw [hi] at h
    simp only [Option.bind_some] at h
    cases hz : i.zero with
    | none => rw [hz] at h; cases h
    | some z =>
      rw [hz] at h
      simp only [Option.bind_some] at h
      refine ⟨z, by simp [zeroValue, Sem.run_bind, run_typeInfo w hi, hz, Sem.run_pure], by have := (tvL_rep (w := w) (objs := []) h).1; exact ⟨by simpa using this.1.symm, this.2⟩, fun w objs i t u ht hu => (tvL_rep (w := w) (objs := objs) h).2 i t u ht (by simpa using hu)⟩

theorem ao_alloc {ops : Array Oper} {rest : List Oper} {d : Nat} {T : TypeId} {zs : List TV} (ho : o.op = .alloc T) (hd : o.dst = some d) (hN : Nat.blt d N = true) (hz : zeroOk P T = some zs)
    (h : ∀ ss b, AL P w0 N ops Q rest ((d, .mp ss b 0) :: env) ((ss, b, .box zs) :: objs)) : AO P w0 N ops Q o rest env objs := ⟨fun a w K hs hK => by
    obtain ⟨ss, hf⟩ := site_new objs
    obtain ⟨z, h1, h2, h3⟩ := zero_spec hz w
    have hst := step_new hs.mem z.cells T ss (.box zs)
    have hrun : (execOp a.eval o).run P w = .ok (.value (.pointer (some ⟨w.heap.size, 0, none⟩))) (w.alloc (.cells z.cells T)) := by
      simp only [execOp, ho]
      refine exec_v ?_
      simp [Instr.alloc, Sem.run_bind, h1, newVar, newRow, run_newObj_alloc, Sem.run_pure]
    unfold Oper.wp
    rw [hrun]
    refine hK _ _ ?_
    rw [hd]
    refine (h ss w.heap.size).run _ _ (hs.putNew hN (.mp ss _ 0 ⟨by simp, noMark_new hs.mem #[] 0 ss _⟩) (hs.mem.newObj hf ⟨⟨hs.mem.below.size, h2.2⟩, z.cells, T, heap_alloc_new w _, h2.1, fun j t hj => ?_⟩) hst)
    have hlt : j < z.cells.size := by rw [h2.1]; exact (List.getElem?_eq_some_iff.1 hj).1
    exact ⟨z.cells[j], by simp [hlt], h3 _ _ j t _ hj (by simp [hlt])⟩⟩

/- A slice written out. -/
def evL (env : Env) : List (Nat × Operand) → Nat → Option (List (List TV))
  | [], _ => some []
  | (i, x) :: r, n => bif Nat.beq i n then (match (ev env x).bind tvCells, evL env r (n + 1) with
    | some l, some ls => some (l :: ls)
    | _, _ => none) else none
theorem evL_spec {w : World} (a : Act) : ∀ {ps : List (Nat × Operand)} {n : Nat} {rows : List (List TV)}, evL env ps n = some rows → (∀ p ∈ ps, ∀ v, ev env p.2 = some v → Rep w objs v (a.eval p.2)) →
    (ps.map fun p => (p.1, a.eval p.2)) = (((ps.map fun p => a.eval p.2)).zipIdx n).map (fun x => (x.2, x.1)) ∧ (rows.length = ps.length ∧ ∀ t ∈ rows.flatten, t.isCell = true) ∧
      ∀ (k : Nat) (r : List TV), rows[k]? = some r → ∃ v, (ps.map fun p => a.eval p.2)[k]? = some v ∧ v.cells.size = r.length ∧ ∀ (i : Nat) (t : TV) (u : Value), r[i]? = some t → v.cells[i]? = some u → Rep w objs t u
  | [], n, rows, h, _ => by simp only [evL, Option.some.injEq] at h; subst h; simp
  | (i, x) :: ps, n, rows, h, hop => by
    unfold evL at h
    cases hb : Nat.beq i n with
    | false => rw [hb] at h; cases h
    | true =>
      rw [hb] at h
      have hi : i = n := Nat.eq_of_beq_eq_true hb
      simp only [cond_true] at h
      split at h
      · rename_i l ls h1 h2
        simp only [Option.some.injEq] at h
        subst h; subst hi
        obtain ⟨e1, e2, e3⟩ := evL_spec a h2 (fun p hp => hop p (by simp [hp]))
        obtain ⟨tv, h3, h4⟩ := Option.bind_eq_some_iff.1 h1
        obtain ⟨g1, g2, g3⟩ := rep_cells (hop (i, x) (by simp) tv h3) h4
        refine ⟨by simp only [List.map_cons, List.zipIdx_cons]; rw [e1], ⟨by simp [e2.1], fun t ht => by
          rw [List.flatten_cons, List.mem_append] at ht
          rcases ht with ht | ht
          · exact g3 t ht
          · exact e2.2 t ht⟩, fun k r hk => ?_⟩
        cases k with
        | zero => simp at hk; subst hk; exact ⟨a.eval x, by simp, g1, g2⟩
        | succ k => simpa using e3 k r (by simpa using hk)
      · cases h

theorem run_lit {T : TypeId} {n m : Nat} {ps : List (Nat × Operand)} {rows : List (List TV)} (ho : o.op = .buildSlice T n ps.toArray) (hT : P.underlying T = some (.slice (P.elem T))) (hI : (zeroOk P (P.elem T)).isSome = true) (hm : P.cellsOf (P.elem T) = m) (hm0 : Nat.blt 0 m = true)
    (hn : rows.length = n) (hbig : Nat.ble (n * m) 16777216 = true) {w : World} (a : Act) (hev : evL env ps 0 = some rows) (hall : ∀ r ∈ rows, r.length = m) (hop : ∀ p ∈ ps, ∀ v, ev env p.2 = some v → Rep w objs v (a.eval p.2)) :
    ∃ cs : Array Value, (execOp a.eval o).run P w = .ok (.value (.slice (some ⟨w.heap.size, 0, none⟩) n n)) (w.alloc (.cells cs (P.elem T))) ∧ (cs.size = n * m ∧ ∀ t ∈ rows.flatten, t.isCell = true) ∧ ∀ (j : Nat) (t : TV), rows.flatten[j]? = some t → ∃ v, cs[j]? = some v ∧ Rep w objs t v := by
  have hm0 : 0 < m := Nat.blt_eq ▸ hm0
  have hbig := Nat.le_of_ble_eq_true hbig
  obtain ⟨e1, e2, e3⟩ := evL_spec a hev hop
  obtain ⟨zs, hz⟩ := Option.isSome_iff_exists.1 hI
  obtain ⟨z, hz1, _, _⟩ := zero_spec hz w
  unfold zeroOk at hz
  cases hie : P.info? (P.elem T) with
  | none => rw [hie] at hz; cases hz
  | some ie =>
  rw [hie] at hz
  simp only [Option.bind_some] at hz
  cases hzz : ie.zero with
  | none => rw [hzz] at hz; cases hz
  | some zv =>
  have hsz : ie.size = m := by rw [← hm]; simp [Program.cellsOf, hie]
  have hlen : ps.length = n := by rw [← e2.1]; exact hn
  have hvs : ∀ v ∈ (ps.map fun p => a.eval p.2), v.cells.size = m := fun v hv => by
    obtain ⟨k, hk, rfl⟩ := List.getElem_of_mem hv
    have hk' : k < rows.length := by rw [e2.1]; simpa using hk
    obtain ⟨v, h1, h2, _⟩ := e3 k rows[k] (List.getElem?_eq_getElem hk')
    rw [List.getElem?_eq_getElem hk] at h1
    simp only [Option.some.injEq] at h1
    rw [h1, h2]
    exact hall _ (List.getElem_mem hk')
  by_cases hn0 : n = 0
  · subst hn0
    have hps : ps = [] := List.eq_nil_of_length_eq_zero hlen
    subst hps
    have hr0 : rows = [] := List.eq_nil_of_length_eq_zero hn
    subst hr0
    refine ⟨(Array.range 0).map fun _ => default, ?_, by simp, by simp⟩
    simp only [execOp, ho]
    refine exec_v ?_
    simp [Instr.buildSlice, Sem.run_bind, run_underlying hT, run_sizeOf w hie, Instr.fill, newRow, run_newObj_alloc, Sem.run_pure]
  · have hpos : ¬ n * m = 0 := by
      intro h; rcases Nat.mul_eq_zero.1 h with h | h <;> omega
    obtain ⟨cs, h1, h2, h3⟩ := Great.fill_dense (s := m) hm0 (ps.map fun p => a.eval p.2) 0 ((Array.range (n * m)).map (zv.cells[· % zv.cells.size]!)) hvs (by simp [hlen])
    refine ⟨cs, ?_, ⟨by rw [h2]; simp, e2.2⟩, fun j t hj => ?_⟩
    · simp only [execOp, ho]
      refine exec_v ?_
      refine run_buildSlice w T _ n _ cs ie zv hT hie hzz (by rw [hsz]; omega) (by rw [hsz]; exact hpos) ?_
      rw [hsz]
      simp only [List.map_toArray]
      show Instr.fill _ _ (ps.map fun p => (p.1, a.eval p.2)) = _
      rw [e1]; exact h1
    · have hjl : j < rows.length * m := by rw [← length_flatten hall]; exact (List.getElem?_eq_some_iff.1 hj).1
      have hq : j / m < rows.length := Nat.div_lt_of_lt_mul (by rw [Nat.mul_comm]; exact hjl)
      have hr : j % m < m := Nat.mod_lt _ hm0
      have hje : j = (j / m) * m + j % m := by rw [Nat.mul_comm]; exact (Nat.div_add_mod j m).symm
      have h5 := flatten_at hall (List.getElem?_eq_getElem hq) hr
      rw [← hje, hj] at h5
      obtain ⟨v, g1, g2, g3⟩ := e3 _ _ (List.getElem?_eq_getElem hq)
      have h6 := h3 j
      rw [if_pos ⟨by omega, by rw [Nat.zero_add, List.length_map, hlen, ← hn]; exact hjl⟩, Nat.sub_zero, g1, Option.bind_some] at h6
      have hlt : j % m < v.cells.size := by rw [g2, hall _ (List.getElem_mem hq)]; exact hr
      exact ⟨v.cells[j % m], h6.trans (by simp [hlt]), g3 _ t _ h5.symm (by simp [hlt])⟩

theorem lit_opnds {T : TypeId} {n : Nat} {ps : List (Nat × Operand)} (ho : o.op = .buildSlice T n ps.toArray) {p : Nat × Operand} (hp : p ∈ ps) : p.2 ∈ o.op.operands.toList := by
  simp only [ho, Op.operands, List.toList_toArray]; exact List.mem_map.2 ⟨p, hp, rfl⟩
/-- A slice written out that nobody writes again. -/
theorem y_lit {T : TypeId} {n m : Nat} {ps : List (Nat × Operand)} {rows : List (List TV)} (ho : o.op = .buildSlice T n ps.toArray) (hT : P.underlying T = some (.slice (P.elem T))) (hI : (zeroOk P (P.elem T)).isSome = true) (hm : P.cellsOf (P.elem T) = m) (hm0 : Nat.blt 0 m = true)
    (hev : evL env ps 0 = some rows) (hn : rows.length = n) (hbig : Nat.ble (n * m) 16777216 = true) (hall : (rows.all fun r => Nat.beq r.length m) = true) : Yields P w0 env objs o (.sl w0.heap.size m rows) := fun a w K Q hw hop hK => by
  have hm0' : 0 < m := Nat.blt_eq ▸ hm0
  have hall' : ∀ r ∈ rows, r.length = m := fun r hr => Nat.eq_of_beq_eq_true (List.all_eq_true.1 hall r hr)
  obtain ⟨cs, h1, h2, h3⟩ := run_lit ho hT hI hm hm0 hn hbig a hev hall' (fun p hp v hv => hop _ (lit_opnds ho hp) v hv)
  obtain ⟨g1, g2⟩ := hw.alloc (.cells cs (P.elem T))
  unfold Oper.wp
  rw [h1]
  have hnm : n ≤ maxLen := by
    have := Nat.le_of_ble_eq_true hbig
    have h4 : n * 1 ≤ n * m := Nat.mul_le_mul_left _ hm0'
    simp only [maxLen]; omega
  refine hK _ _ ?_ g1 g2
  have hsl := Rep.sl (w := w.alloc (.cells cs (P.elem T))) (objs := objs) w0.heap.size m rows (some ⟨w.heap.size, 0, none⟩) n (by omega) hnm hall' h2.2 (fun j => cs.getD j undef) (fun j t hj => ⟨_, _, rfl, ⟨hw.below.size, fun ha => by
      obtain ⟨_, s, ob, hm⟩ := ha; exact Nat.lt_irrefl _ (objs_lt hw hm)⟩, by
      obtain ⟨v, h4, _⟩ := h3 j t hj
      rw [Nat.zero_add, World.cell?_alloc_new, h4]; simp [Array.getD_eq_getD_getElem?, h4]⟩) (fun j t hj => by
      obtain ⟨v, h4, h5⟩ := h3 j t hj
      simp only [Array.getD_eq_getD_getElem?, h4, Option.getD_some]
      exact h5.step g2)
  rw [hn] at hsl
  exact hsl
/-- A slice written out that the call goes on writing. -/
theorem ao_lit {ops : Array Oper} {rest : List Oper} {d : Nat} {T : TypeId} {n m : Nat} {ps : List (Nat × Operand)} {rows : List (List TV)} (ho : o.op = .buildSlice T n ps.toArray) (hd : o.dst = some d) (hN : Nat.blt d N = true) (hT : P.underlying T = some (.slice (P.elem T))) (hI : (zeroOk P (P.elem T)).isSome = true) (hm : P.cellsOf (P.elem T) = m) (hm0 : Nat.blt 0 m = true)
    (hev : evL env ps 0 = some rows) (hn : rows.length = n) (hbig : Nat.ble (n * m) 16777216 = true) (hall : (rows.all fun r => Nat.beq r.length m) = true)
    (h : ∀ ss b, AL P w0 N ops Q rest ((d, .ms ss b 0 n) :: env) ((ss, b, .row m rows) :: objs)) : AO P w0 N ops Q o rest env objs := ⟨fun a w K hs hK => by
    obtain ⟨ss, hf⟩ := site_new objs
    have hm0' : 0 < m := Nat.blt_eq ▸ hm0
    have hall' : ∀ r ∈ rows, r.length = m := fun r hr => Nat.eq_of_beq_eq_true (List.all_eq_true.1 hall r hr)
    have hst := fun cs => step_new hs.mem cs (P.elem T) ss (.row m rows)
    obtain ⟨cs, h1, h2, h3⟩ := run_lit ho hT hI hm hm0 hn hbig a hev hall' (fun p hp v hv => ev_sim hs hv)
    unfold Oper.wp
    rw [h1]
    refine hK _ _ ?_
    rw [hd]
    have hnm : n ≤ maxLen := by
      have := Nat.le_of_ble_eq_true hbig
      have h4 : n * 1 ≤ n * m := Nat.mul_le_mul_left _ hm0'
      simp only [maxLen]; omega
    have hb0 : w.heap.size ≠ 0 := Nat.ne_of_gt (Nat.lt_of_lt_of_le hs.mem.pos hs.mem.below.size)
    refine (h ss w.heap.size).run _ _ (hs.putNew hN (.ms _ _ _ _ _ (.mk ⟨by simp, noMark_new hs.mem #[] 0 ss _, _, _, rfl⟩ (fun m' rows' hm' => .inr ⟨hb0, 0, n, P.elem T, n * m, rfl, Nat.le_refl _, by unfold World.shape?; rw [heap_alloc_new]; simp [h2.1], ?_, fun _ => by simp⟩) (fun h0 => absurd h0 hb0))) (hs.mem.newObj hf ⟨⟨hm0', h2.2⟩, hall', .inr ⟨hs.mem.below.size, cs, P.elem T, n, heap_alloc_new w _, h2.1, by omega, hnm, fun j t hj => ?_⟩⟩) (hst cs))
    · rcases List.mem_cons.1 hm' with he | hm'
      · simp only [Prod.mk.injEq, TObj.row.injEq] at he; rw [he.2.2.1]; simp
      · exact absurd (objs_lt hs.mem hm') (Nat.lt_irrefl _)
    · obtain ⟨v, h4, h5⟩ := h3 j t hj
      exact ⟨v, h4, h5.step (hst cs)⟩⟩
end
end Go.Proofs.YtdeokcbbjibkoaaDoor
/- The abstract walk, part 5: stores, appends, make, what is given back, calls. -/
namespace Go.Proofs.YtdeokcbbjibkoaaDoor
open Go Go.RowKit

/-- One of the owned things is replaced by another. -/
inductive Upd (x x' : Nat × Nat × TObj) : Objs → Objs → Prop
  | head (l : Objs) : Upd x x' (x :: l) (x' :: l)
  | tail (y : Nat × Nat × TObj) (l l' : Objs) (h : Upd x x' l l') : Upd x x' (y :: l) (y :: l')
theorem Upd.mem {x x' : Nat × Nat × TObj} {l l' : Objs} (h : Upd x x' l l') : x ∈ l := by
  induction h with
  | head l => exact List.mem_cons_self
  | tail y l l' h ih => exact List.mem_cons_of_mem _ ih
theorem Upd.other {x x' : Nat × Nat × TObj} {l l' : Objs} (h : Upd x x' l l') (hp : List.Pairwise SiteRel l) : ∀ y ∈ l', y = x' ∨ (y ∈ l ∧ y.1 ≠ x.1 ∧ (y.2.1 ≠ x.2.1 ∨ x.2.1 = 0)) := by
  induction h with
  | head l =>
    intro y hy
    rcases List.mem_cons.1 hy with rfl | hy
    · exact .inl rfl
    · obtain ⟨h1, h2⟩ := (List.pairwise_cons.1 hp).1 y hy
      exact .inr ⟨List.mem_cons_of_mem _ hy, h1.symm, h2.imp Ne.symm id⟩
  | tail z l l' h ih =>
    intro y hy
    rcases List.mem_cons.1 hy with rfl | hy
    · obtain ⟨h1, h2⟩ := (List.pairwise_cons.1 hp).1 x h.mem
      refine .inr ⟨List.mem_cons_self, h1, ?_⟩
      rcases h2 with h2 | h2
      · exact .inl h2
      · by_cases e : y.2.1 = x.2.1
        · exact .inr (e ▸ h2)
        · exact .inl e
    · exact (ih (List.pairwise_cons.1 hp).2 y hy).imp id fun ⟨h1, h2⟩ => ⟨List.mem_cons_of_mem _ h1, h2⟩
theorem Upd.sites {x x' : Nat × Nat × TObj} {l l' : Objs} (h : Upd x x' l l') (hs : x'.1 = x.1) (hp : List.Pairwise SiteRel l) (hb : ∀ y ∈ l, y.1 ≠ x.1 → x'.2.1 ≠ y.2.1 ∨ x'.2.1 = 0) : List.Pairwise SiteRel l' := by
  induction h with
  | head l =>
    obtain ⟨h1, h2⟩ := List.pairwise_cons.1 hp
    exact List.pairwise_cons.2 ⟨fun y hy => ⟨by rw [hs]; exact (h1 y hy).1, hb y (List.mem_cons_of_mem _ hy) (h1 y hy).1.symm⟩, h2⟩
  | tail z l l' h ih =>
    obtain ⟨h1, h2⟩ := List.pairwise_cons.1 hp
    refine List.pairwise_cons.2 ⟨fun y hy => ?_, ih h2 fun y hy => hb y (List.mem_cons_of_mem _ hy)⟩
    rcases h.other h2 y hy with rfl | ⟨hy, _, _⟩
    · have hz := h1 x h.mem
      refine ⟨by rw [hs]; exact hz.1, ?_⟩
      rcases hb z List.mem_cons_self hz.1 with h3 | h3
      · exact .inl h3.symm
      · by_cases e : z.2.1 = 0
        · exact .inr e
        · exact .inl (by rw [h3]; exact e)
    · exact h1 y hy

section
variable {P : Program} {w0 : World} {N : Nat} {Q : Exit → Act → World → Prop} {env : Env} {objs objs' : Objs} {o : Oper}

/-- One owned block has turned, or has been left for a new one. -/
theorem step_upd {w w' : World} (hw : SimW w0 objs w) {s b b' m : Nat} {ob ob' : TObj} (hu : Upd (s, b, ob) (s, b', ob') objs objs') (hsz : w.heap.size ≤ w'.heap.size)
    (hk : ∀ k, k < w.heap.size → k ≠ b ∨ b = 0 → w'.heap[k]? = w.heap[k]?) (hb' : b' = b ∨ w.heap.size ≤ b') (hkind : ∀ rows', ob' = .row m rows' → ∃ rows, ob = .row m rows) (hm : ∀ m' rows', ob' = .row m' rows' → m' = m) (hsh : b' = b → b ≠ 0 → w'.shape? b = w.shape? b) (hmk : marker ≠ (s, b', ob')) : Step w objs w' objs' := by
  have hoth := hu.other hw.sites
  refine ⟨fun k hlt hna => hk k hlt ?_, fun k hlt ha => ?_, fun s1 b1 m1 rows1 hlt hb1 hm1 => ?_, hsz, fun hm => (hoth _ hm).elim (fun e => absurd e hmk) (fun e => e.1)⟩
  · by_cases e : k = b
    · subst e
      by_cases e0 : k = 0
      · exact .inr e0
      · exact absurd ⟨e0, s, ob, hu.mem⟩ hna
    · exact .inl e
  · obtain ⟨h0, s1, o1, h1⟩ := ha
    rcases hoth _ h1 with he | ⟨h2, _⟩
    · simp only [Prod.mk.injEq] at he
      obtain ⟨_, rfl, _⟩ := he
      rcases hb' with rfl | hb'
      · exact ⟨h0, s, ob, hu.mem⟩
      · omega
    · exact ⟨h0, s1, o1, h2⟩
  · rcases hoth _ hm1 with he | ⟨h2, _, h3⟩
    · simp only [Prod.mk.injEq] at he
      obtain ⟨rfl, rfl, rfl⟩ := he
      have hmm := hm m1 rows1 rfl
      subst hmm
      obtain ⟨rows, hr⟩ := hkind rows1 rfl
      rcases hb' with rfl | hb'
      · exact ⟨⟨rows, hr ▸ hu.mem⟩, hsh rfl hb1⟩
      · omega
    · refine ⟨⟨rows1, h2⟩, shape_same (hk b1 hlt ?_)⟩
      exact h3
theorem SimW.upd {w w' : World} (hw : SimW w0 objs w) {s b b' : Nat} {ob ob' : TObj} (hu : Upd (s, b, ob) (s, b', ob') objs objs') (hbel : Below w0.heap.size w0 w')
    (hk : ∀ k, k < w.heap.size → k ≠ b ∨ b = 0 → w'.heap[k]? = w.heap[k]?) (hb' : b' = b ∨ w.heap.size ≤ b') (hst : Step w objs w' objs') (hob : ObjOk w' w0.heap.size objs' b' ob') : SimW w0 objs' w' := by
  refine ⟨hbel, hw.pos, fun s1 b1 o1 hm1 => ?_, hu.sites rfl hw.sites fun y hy hne => ?_⟩
  · rcases hu.other hw.sites _ hm1 with he | ⟨h2, _, h3⟩
    · simp only [Prod.mk.injEq] at he
      obtain ⟨rfl, rfl, rfl⟩ := he
      exact hob
    · exact (hw.obj s1 b1 o1 h2).step hst (hk b1 (objs_lt hw h2) h3)
  · rcases hb' with rfl | hb'
    · have hx := hu.mem
      by_cases e0 : b' = 0
      · exact .inr e0
      · refine .inl fun e => ?_
        -- two owned things of one block
        have key : ∀ (l : Objs), List.Pairwise SiteRel l → (s, b', ob) ∈ l → y ∈ l → y.1 ≠ s → y.2.1 = b' → False := fun l => by
          induction l with
          | nil => intro _ h; simp at h
          | cons z l ih =>
            intro hp h1 h2 h3 h4
            obtain ⟨g1, g2⟩ := List.pairwise_cons.1 hp
            rcases List.mem_cons.1 h1 with rfl | h1'
            · rcases List.mem_cons.1 h2 with rfl | h2'
              · exact h3 rfl
              · rcases (g1 y h2').2 with h | h
                · exact h h4.symm
                · exact e0 h
            · rcases List.mem_cons.1 h2 with rfl | h2'
              · rcases (g1 _ h1').2 with h | h
                · exact h h4
                · exact e0 (h4 ▸ h)
              · exact ih g2 h1' h2' h3 h4
        exact key objs hw.sites hx hy hne e.symm
    · exact .inl (Nat.ne_of_gt (Nat.lt_of_lt_of_le (objs_lt (s := y.1) (ob := y.2.2) hw hy) hb'))

/-- Cells put into a list of cells. -/
inductive Splice : List TV → Nat → List TV → List TV → Prop
  | nil (l : List TV) : Splice l 0 [] l
  | put (x v : TV) (l vs l' : List TV) (h : Splice l 0 vs l') : Splice (x :: l) 0 (v :: vs) (v :: l')
  | skip (x : TV) (l : List TV) (n : Nat) (vs l' : List TV) (h : Splice l n vs l') : Splice (x :: l) (n + 1) vs (x :: l')
theorem Splice.spec {l : List TV} {n : Nat} {vs l' : List TV} (h : Splice l n vs l') : n + vs.length ≤ l.length ∧ l'.length = l.length ∧ ∀ j, l'[j]? = if n ≤ j ∧ j < n + vs.length then vs[j - n]? else l[j]? := by
  induction h with
  | nil l => exact ⟨by simp, rfl, fun j => by rw [if_neg (by simp)]⟩
  | put x v l vs l' h ih =>
    obtain ⟨h1, h2, h3⟩ := ih
    refine ⟨by simp at h1 ⊢; omega, by simp [h2], fun j => ?_⟩
    cases j with
    | zero => simp
    | succ j =>
      have := h3 j
      simp only [List.getElem?_cons_succ, this, List.length_cons, Nat.zero_le, true_and, Nat.sub_zero]
      by_cases hj : j < 0 + vs.length
      · rw [if_pos hj, if_pos (by omega)]
      · rw [if_neg hj, if_neg (by omega)]
  | skip x l n vs l' h ih =>
    obtain ⟨h1, h2, h3⟩ := ih
    refine ⟨by simp at h1 ⊢; omega, by simp [h2], fun j => ?_⟩
    cases j with
    | zero => rw [if_neg (by omega)]; simp
    | succ j =>
      have := h3 j
      simp only [List.getElem?_cons_succ, this]
      by_cases hj : n ≤ j ∧ j < n + vs.length
      · rw [if_pos hj, if_pos (by omega), show j + 1 - (n + 1) = j - n by omega]
      · rw [if_neg hj, if_neg (by omega)]

theorem exec_store {T : TypeId} {x v : Operand} {a : Act} {w : World} {g q : Nat} {cur : Array Value} {e : TypeId} (ho : o.op = .store T x v) (ha : a.eval x = .pointer (some ⟨g, q, none⟩)) (hi : (P.info? T).isSome = true) (hsz : P.cellsOf T = (a.eval v).cells.size)
    (hg : w.heap[g]? = some (.cells cur e (0, 0))) (hfit : q + (a.eval v).cells.size ≤ cur.size) (h1 : ∀ u ∈ (a.eval v).cells.toList, u.oneCell' = true) :
    (execOp a.eval o).run P w = .ok .skip (w.setRow g (cur.toList.take q ++ (a.eval v).cells.toList ++ cur.toList.drop (q + (a.eval v).cells.size)).toArray) := by
  cases hie : P.info? T with
  | none => rw [hie] at hi; cases hi
  | some i =>
  have hr := run_storeCells_at P g q e (a.eval v).cells.toList 0 cur w hg (by simpa using hfit) h1
  have hne : ¬ (a.eval v).cells.size ≠ P.cellsOf T := by omega
  simp only [execOp, ho, ha, Instr.storeAt, Instr.sureAddr, storeVar, Sem.run_bind, Sem.run_pure, Result.andThen_ok, run_sizeOf w hie, if_neg hne]
  rw [hr]
  simp [Result.andThen_ok, Sem.run_pure]

theorem setRow_below {w0 w : World} (h : Below w0.heap.size w0 w) {g : Nat} (hg : w0.heap.size ≤ g) (cs : Array Value) : Below w0.heap.size w0 (w.setRow g cs) :=
  h.trans ⟨rfl, rfl, rfl, by simp, fun k hk => setRow_other w g k cs (by omega)⟩
/-- A store into a variable that the call owns. -/
theorem ao_store_mp {ops : Array Oper} {rest : List Oper} {T : TypeId} {x v : Operand} {s b off : Nat} {tv : TV} {cells vs cells' : List TV} (ho : o.op = .store T x v) (hd : o.dst = none) (hx : ev env x = some (.mp s b off)) (hv : ev env v = some tv) (hc : tvCells tv = some vs)
    (hi : (P.info? T).isSome = true) (hsz : P.cellsOf T = vs.length) (hu : Upd (s, b, .box cells) (s, b, .box cells') objs objs') (hsp : Splice cells off vs cells') (h : AL P w0 N ops Q rest env objs') : AO P w0 N ops Q o rest env objs := ⟨fun a w K hs hK => by
    obtain ⟨⟨hB, hci⟩, cur, e, h2, h3, h4⟩ := hs.mem.obj s b _ hu.mem
    obtain ⟨g1, g2, g3⟩ := rep_cells (ev_sim hs hv) hc
    obtain ⟨p1, p2, p3⟩ := hsp.spec
    have hxa := ev_sim hs hx
    generalize hax : a.eval x = ax at hxa
    cases hxa with
    | mp s b off hb =>
    have hone : ∀ u ∈ (a.eval v).cells.toList, u.oneCell' = true := fun u hu => by
      obtain ⟨k, hk, rfl⟩ := List.getElem_of_mem hu
      have hk' : k < vs.length := by rw [← g1]; simpa using hk
      exact ((g2 k vs[k] _ (List.getElem?_eq_getElem hk') (by rw [← Array.getElem?_toList]; exact List.getElem?_eq_getElem hk)).one (g3 _ (List.getElem_mem hk'))).1
    have hrun := exec_store (P := P) (o := o) (cur := cur) (e := e) (w := w) ho hax hi (by rw [hsz, g1]) h2 (by rw [g1, h3]; exact p1) hone
    unfold Oper.wp
    rw [hrun]
    refine hK _ _ ?_
    rw [hd]
    have hb0 : b ≠ 0 := by have := hs.mem.pos; omega
    have hkk : ∀ k, k < w.heap.size → k ≠ b ∨ b = 0 → (w.setRow b (cur.toList.take off ++ (a.eval v).cells.toList ++ cur.toList.drop (off + (a.eval v).cells.size)).toArray).heap[k]? = w.heap[k]? := fun k _ hk => setRow_other w b k _ (hk.resolve_right hb0)
    have hst := step_upd (m := 0) hs.mem hu (w' := w.setRow b (cur.toList.take off ++ (a.eval v).cells.toList ++ cur.toList.drop (off + (a.eval v).cells.size)).toArray) (by simp) hkk (.inl rfl) (by simp) (by simp) (fun _ _ => by
      unfold World.shape?; rw [setRow_heap w b cur _ e _ h2, h2]; simp; omega) (by simp [marker])
    refine h.run _ _ (hs.same (hs.mem.upd hu (setRow_below hs.mem.below hB _) hkk (.inl rfl) hst ⟨⟨hB, fun t ht => ?_⟩, _, e, setRow_heap w b cur _ e _ h2, ?_, fun j t hj => ?_⟩) hst)
    · obtain ⟨k, hk, rfl⟩ := List.getElem_of_mem ht
      have h5 := p3 k
      rw [List.getElem?_eq_getElem hk] at h5
      split at h5
      · exact g3 _ (List.mem_of_getElem? h5.symm)
      · exact hci _ (List.mem_of_getElem? h5.symm)
    · simp; omega
    · rw [p3] at hj
      have hcur : ∀ i : Nat, cur.toList[i]? = cur[i]? := fun i => by simp
      simp only [List.getElem?_toArray]
      split at hj
      · rename_i hin
        have hlt : j - off < (a.eval v).cells.size := by omega
        refine ⟨(a.eval v).cells[j - off], ?_, (g2 _ t _ hj (by simp [hlt])).step hst⟩
        rw [List.getElem?_append_left (by simp; omega), List.getElem?_append_right (by simp; omega)]
        simp only [List.length_take, Array.length_toList]
        rw [show j - min off cur.size = j - off by omega]
        simp [hlt]
      · rename_i hin
        obtain ⟨u, h5, h6⟩ := h4 j t hj
        refine ⟨u, ?_, h6.step hst⟩
        have hjl : j < cur.size := (Array.getElem?_eq_some_iff.1 h5).1
        by_cases hjo : j < off
        · rw [List.getElem?_append_left (by simp; omega), List.getElem?_append_left (by simp; omega), List.getElem?_take, if_pos hjo, hcur]; exact h5
        · rw [List.getElem?_append_right (by simp; omega)]
          simp only [List.length_append, List.length_take, Array.length_toList, List.getElem?_drop]
          rw [show off + (a.eval v).cells.size + (j - (min off cur.size + (a.eval v).cells.size)) = j by omega, hcur]; exact h5⟩
end
end Go.Proofs.YtdeokcbbjibkoaaDoor
