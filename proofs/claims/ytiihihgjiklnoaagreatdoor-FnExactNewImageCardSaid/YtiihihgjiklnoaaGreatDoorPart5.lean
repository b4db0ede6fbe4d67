/- Part 5 of the proof: the texts Row, EngA. -/
import Derived.Test.YtiihihgjiklnoaaGreatDoorRows
import Derived.Test.YtiihihgjiklnoaaGreatDoorPart2
import Derived.Test.YtiihihgjiklnoaaGreatDoorPart3
import Derived.Test.YtiihihgjiklnoaaGreatDoorPart4
import Derived.Shelf.Vars
import Derived.Lib.LaidU8
import Derived.Lib.LaidTab
import Derived.Lay
import Derived.MakeChecks
import Derived.ProofKit
import Derived.OpenShut
import Derived.ShutString
import Derived.ChangeOld
import Derived.Handed
import Derived.Orders
/- A row's frame: the wrap that hands the walk both what the row lists and the world's shape. -/
namespace Go.Proofs.YtiihihgjiklnoaaGreatDoor
open Go Go.RowKit

theorem returnsInHanded_both {H : Type} {enc : TypeId × Value → H} {a : Assume} {C : Checked} {os : Os} {f : FuncId} {fn : Func} {s : ChangeSpec} {conds : List PathCond} {apart fresh handsOn again : Bool} {X : World → Array Value → Prop}
    (hX : ∀ (w w' : World) (args : Array Value), w.heap = w'.heap → X w args → X w' args)
    (own : ownKnob C.prog.godebug = none) (started : os.Started) (noInit : C.prog.inits.idxOf? f = none) (hfn : C.prog.funcs[f]? = some fn)
    (witness : ∃ (w : World) (tape : Tape) (i : Input), w.os = os ∧ (w.forCall tape i).Shaped C.prog ∧ i.vars = [] ∧ Input.okWide C.prog (w.forCall tape i) .any w.heap.size f i ∧
      ((s.pre enc C.prog fn conds apart (w.forCall tape i).memory i.args ∧ X (w.forCall tape i).memory i.args) ∧ sizedMet enc C.prog fn (OpenSpec.ofChange s) apart (w.forCall tape i).memory i.args) ∧ a.holds C.prog (lone (Frame.enter C.prog f i.args .normal) [] (w.forCall tape i)))
    (contract : ∀ (W : World) (base : Nat) (args : Array Value) (ds gs : List (DataW H)) (before : List MemPlace),
      (∀ (j : Nat) t v, fn.params[j]? = some t → args[j]? = some v → Value.okWide C.prog W .any base t v) →
      DataW.Whole enc C.prog fn.params.toList s.vars apart W args.toList ds gs before →
      conds.all (PathCond.test C.prog ⟨fn.params.toList, ds, s.plain.varTypes C.prog, gs⟩) = true →
      (DataW.weightsEach C.prog (fn.params.toList ++ s.plain.varTypes C.prog) (ds ++ gs)).all (· ≤ reachBytes) = true → X W args → W.ShapedOpen C.prog →
      a.holds C.prog (lone (Frame.enter C.prog f args .normal) [] W) →
      Calls C.prog f args W fun e W' => ∃ v, e = .returned v ∧ s.post enc C.prog fn apart fresh handsOn again W args v W') :
    ReturnsInHanded a C os f .any (fun w args => (s.pre enc C.prog fn conds apart w args ∧ X w args) ∧ sizedMet enc C.prog fn (OpenSpec.ofChange s) apart w args) (s.post enc C.prog fn apart fresh handsOn again) := by
  refine returnsInHanded_of_calls own started noInit witness ?_
  intro w tape i _ hsh _ hok hpre hholds
  obtain ⟨_, _, _, fn', hfn', _, _, _, _, hval⟩ := hok
  have e : fn' = fn := Option.some.inj (hfn'.symm.trans hfn)
  subst e
  obtain ⟨⟨⟨ds, gs, before, hw, hc⟩, hx⟩, hz⟩ := hpre
  have hw' := DataW.Whole.of_heap (w' := w.forCall tape i) (by rfl) hw
  refine (contract (w.forCall tape i) w.heap.size i.args ds gs before hval hw' hc (hz.weights hw) (hX _ _ _ (by rfl) hx) hsh hholds).mono fun e W' ⟨v, he, hp⟩ => ?_
  subst he
  exact ChangeSpec.post_blind hp

theorem maxL_of {W : World} (h : W.ShapedOpen Tryz.prog) : MaxL W :=
  cell_of_shapedOpen_int (zero := #[.int .i64 0]) h (of_decide_eq_true (by kernel_rfl)) (by kernel_rfl) (by kernel_rfl) (by kernel_rfl) (by kernel_rfl) Tryz.underlying3
end Go.Proofs.YtiihihgjiklnoaaGreatDoor
/- The abstract walk, part 1: values without addresses, what they stand for in memory, the state of a walk, and the rules of control. -/
namespace Go.Proofs.YtiihihgjiklnoaaGreatDoor
open Go Go.RowKit

/-- A value of the walk. 'sl', 'cp': what nobody writes any more (the flag: it was made by this call); 'ms', 'mp', 'me': into a block that this call owns. -/
inductive TV where
  | int (k : IntKind) (n : Int)
  | bool (b : Bool)
  | str (s : ByteArray)
  | agg (l : List TV)
  | sl (f : Nat) (m : Nat) (rows : List (List TV))
  | cp (f : Nat) (l : List TV)
  | nilp
  | nils
  | ms (s b off len : Nat)
  | mp (s b off : Nat)
  | me (s b m k j : Nat)
  | tup (l : List TV)
  | fn (f : FuncId) (l : List TV)
  | top
  | gh (l : List (TV × Value))

/-- What can stand in one cell of memory. -/
def TV.isCell : TV → Bool
  | .agg _ => false
  | .tup _ => false
  | .top => false
  | .gh _ => false
  | _ => true

/-- What the call owns: a row that grows, or a variable. -/
inductive TObj where
  | row (m : Nat) (rows : List (List TV))
  | box (cells : List TV)
  | void
  | iter (s : ByteArray) (pos : Nat)

abbrev Objs := List (Nat × Nat × TObj)
abbrev Env := List (Nat × TV)

def lk (t : Nat) : Env → Option TV
  | [] => none
  | (s, v) :: r => bif Nat.beq s t then some v else lk t r
theorem beq_f {s t : Nat} (h : s ≠ t) : Nat.beq s t = false := by
  cases hb : Nat.beq s t
  · rfl
  · exact absurd (Nat.eq_of_beq_eq_true hb) h
theorem ne_of_beq_f {s t : Nat} (h : Nat.beq s t = false) : s ≠ t := Nat.ne_of_beq_eq_false h
theorem lk_cons (t s : Nat) (v : TV) (r : Env) : lk t ((s, v) :: r) = if s = t then some v else lk t r := by
  show (bif Nat.beq s t then some v else lk t r) = _
  by_cases h : s = t
  · subst h; simp
  · rw [beq_f h, if_neg h]; rfl

/-- A block that the call owns. -/
def alive (objs : Objs) (b : Nat) : Prop := b ≠ 0 ∧ ∃ s o, (s, b, o) ∈ objs
def ZZ (objs : Objs) (lo : Nat) (b : Nat) : Prop := lo ≤ b ∧ ¬ alive objs b

/-- What tells that nothing is owned that a value could point into. -/
def marker : Nat × Nat × TObj := (0, 0, .row 0 [])
def MsOk (w : World) (objs : Objs) (s b off len : Nat) (v : Value) : Prop :=
  (b < w.heap.size ∧ marker ∉ objs ∧ ∃ A c, v = Value.slice A len c) ∧ (b = 0 → off = 0 ∧ len = 0 ∧ v = .slice none 0 0) ∧ ∀ m rows, b ≠ 0 → (s, b, TObj.row m rows) ∈ objs →
    ∃ o c e n, v = .slice (some ⟨b, o, none⟩) len c ∧ len ≤ c ∧ w.shape? b = some (e, n) ∧ n = (off + c) * m ∧ (0 < c ∨ off = 0 → o = off * m)
theorem MsOk.or {w : World} {objs : Objs} {s b off len : Nat} {v : Value} (h : MsOk w objs s b off len v) (m : Nat) (rows : List (List TV)) (hm : (s, b, TObj.row m rows) ∈ objs) :
    (b = 0 ∧ off = 0 ∧ len = 0 ∧ v = .slice none 0 0) ∨
    (b ≠ 0 ∧ ∃ o c e n, v = .slice (some ⟨b, o, none⟩) len c ∧ len ≤ c ∧ w.shape? b = some (e, n) ∧ n = (off + c) * m ∧ (0 < c ∨ off = 0 → o = off * m)) := by
  by_cases hb : b = 0
  · exact .inl ⟨hb, h.2.1 hb⟩
  · exact .inr ⟨hb, h.2.2 m rows hb hm⟩
theorem MsOk.mk {w : World} {objs : Objs} {s b off len : Nat} {v : Value} (h1 : b < w.heap.size ∧ marker ∉ objs ∧ ∃ A c, v = Value.slice A len c) (h2 : ∀ (m : Nat) (rows : List (List TV)), (s, b, TObj.row m rows) ∈ objs →
    (b = 0 ∧ off = 0 ∧ len = 0 ∧ v = .slice none 0 0) ∨
    (b ≠ 0 ∧ ∃ o c e n, v = .slice (some ⟨b, o, none⟩) len c ∧ len ≤ c ∧ w.shape? b = some (e, n) ∧ n = (off + c) * m ∧ (0 < c ∨ off = 0 → o = off * m))) (h3 : b = 0 → off = 0 ∧ len = 0 ∧ v = .slice none 0 0) : MsOk w objs s b off len v :=
  ⟨h1, h3, fun m rows hb hm => (h2 m rows hm).elim (fun h => absurd h.1 hb) (fun h => h.2)⟩

inductive Rep (w : World) (objs : Objs) : TV → Value → Prop
  | int (k : IntKind) (n : Int) : Rep w objs (.int k n) (.int k n)
  | bool (b : Bool) : Rep w objs (.bool b) (.bool b)
  | str (s : ByteArray) : Rep w objs (.str s) (.string s)
  | agg (l : List TV) (vs : Array Value) (hi : ∀ t ∈ l, t.isCell = true) (h : l.length = vs.size) (h2 : ∀ (i : Nat) (t : TV) (v : Value), l[i]? = some t → vs[i]? = some v → Rep w objs t v) : Rep w objs (.agg l) (.agg vs)
  | sl (f : Nat) (m : Nat) (rows : List (List TV)) (A : Option Addr) (c : Nat) (h1 : rows.length ≤ c) (h2 : c ≤ maxLen) (hm : ∀ r ∈ rows, r.length = m) (hi : ∀ t ∈ rows.flatten, t.isCell = true) (g : Nat → Value)
      (hc : ∀ (j : Nat) (t : TV), rows.flatten[j]? = some t → ∃ b o, A = some ⟨b, o, none⟩ ∧ ZZ objs f b ∧ w.cell? ⟨b, o + j, none⟩ = some (g j))
      (hr : ∀ (j : Nat) (t : TV), rows.flatten[j]? = some t → Rep w objs t (g j)) : Rep w objs (.sl f m rows) (.slice A rows.length c)
  | cp (f : Nat) (l : List TV) (hi : ∀ t ∈ l, t.isCell = true) (b o : Nat) (g : Nat → Value) (hZ : ZZ objs f b) (hb : b < w.heap.size) (hc : ∀ (j : Nat) (t : TV), l[j]? = some t → w.cell? ⟨b, o + j, none⟩ = some (g j))
      (hr : ∀ (j : Nat) (t : TV), l[j]? = some t → Rep w objs t (g j)) : Rep w objs (.cp f l) (.pointer (some ⟨b, o, none⟩))
  | nilp : Rep w objs .nilp (.pointer none)
  | nils : Rep w objs .nils (.slice none 0 0)
  | ms (s b off len : Nat) (v : Value) (h : MsOk w objs s b off len v) : Rep w objs (.ms s b off len) v
  | mp (s b off : Nat) (h : b < w.heap.size ∧ marker ∉ objs) : Rep w objs (.mp s b off) (.pointer (some ⟨b, off, none⟩))
  | me (s b m k j : Nat) (h : b < w.heap.size ∧ marker ∉ objs) : Rep w objs (.me s b m k j) (.pointer (some ⟨b, k * m + j, none⟩))
  | tup (l : List TV) (vs : Array Value) (h : l.length = vs.size) (h2 : ∀ (i : Nat) (t : TV) (v : Value), l[i]? = some t → vs[i]? = some v → Rep w objs t v) : Rep w objs (.tup l) (.tuple vs)
  | fn (f : FuncId) (l : List TV) (vs : Array Value) (h : l.length = vs.size) (h2 : ∀ (i : Nat) (t : TV) (v : Value), l[i]? = some t → vs[i]? = some v → Rep w objs t v) : Rep w objs (.fn f l) (.func (.func f) #[] vs)
  | top (v : Value) : Rep w objs .top v
  | gh (l : List (TV × Value)) (v : Value) (h : ∀ (i : Nat) (t : TV) (u : Value), l[i]? = some (t, u) → Rep w objs t u) : Rep w objs (.gh l) v

def ObjOk (w : World) (B : Nat) (objs : Objs) (b : Nat) : TObj → Prop
  | .void => b = 0
  | .iter s pos => B ≤ b ∧ w.heap[b]? = some (.stringIter s pos)
  | .row m rows => (0 < m ∧ ∀ t ∈ rows.flatten, t.isCell = true) ∧ (∀ r ∈ rows, r.length = m) ∧ ((b = 0 ∧ rows = []) ∨ (B ≤ b ∧ ∃ cur e cap, w.heap[b]? = some (.cells cur e (0, 0)) ∧ cur.size = cap * m ∧ rows.length ≤ cap ∧ cap ≤ maxLen ∧
      ∀ (j : Nat) (t : TV), rows.flatten[j]? = some t → ∃ v, cur[j]? = some v ∧ Rep w objs t v))
  | .box cells => (B ≤ b ∧ ∀ t ∈ cells, t.isCell = true) ∧ ∃ cur e, w.heap[b]? = some (.cells cur e (0, 0)) ∧ cur.size = cells.length ∧ ∀ (j : Nat) (t : TV), cells[j]? = some t → ∃ v, cur[j]? = some v ∧ Rep w objs t v

/-- What must hold of two worlds and two lists of what is owned, that values go on standing for what they stood for. -/
structure Step (w : World) (objs : Objs) (w' : World) (objs' : Objs) : Prop where
  blk : ∀ b, b < w.heap.size → ¬ alive objs b → w'.heap[b]? = w.heap[b]?
  al : ∀ b, b < w.heap.size → alive objs' b → alive objs b
  ms : ∀ s b m rows, b < w.heap.size → b ≠ 0 → (s, b, TObj.row m rows) ∈ objs' → (∃ rows0, (s, b, TObj.row m rows0) ∈ objs) ∧ w'.shape? b = w.shape? b
  size : w.heap.size ≤ w'.heap.size
  mark : marker ∈ objs' → marker ∈ objs

theorem lt_of_cell {w : World} {a : Addr} {v : Value} (h : w.cell? a = some v) : a.block < w.heap.size := World.block_lt_of_cell? w a h

theorem Rep.step {w w' : World} {objs objs' : Objs} (hs : Step w objs w' objs') {t : TV} {v : Value} (h : Rep w objs t v) : Rep w' objs' t v := by
  have hcell : ∀ (f : Nat) b o v, ZZ objs f b → w.cell? ⟨b, o, none⟩ = some v → ZZ objs' f b ∧ w'.cell? ⟨b, o, none⟩ = some v := fun f b o v hz hc => by
    have hb := lt_of_cell hc
    exact ⟨⟨hz.1, fun ha => hz.2 (hs.al b hb ha)⟩, (World.cell?_of_block (w := w) (w' := w') (a := ⟨b, o, none⟩) (hs.blk b hb hz.2)).trans hc⟩
  induction h with
  | int k n => exact .int k n
  | bool b => exact .bool b
  | str s => exact .str s
  | agg l vs hi h h2 ih => exact .agg l vs hi h ih
  | sl f m rows A c h1 h2 hm hi g hc hr ih =>
    refine .sl f m rows A c h1 h2 hm hi g (fun j t hj => ?_) ih
    obtain ⟨b, o, hA, hz, hcc⟩ := hc j t hj
    obtain ⟨h3, h4⟩ := hcell f b (o + j) _ hz hcc
    exact ⟨b, o, hA, h3, h4⟩
  | cp f l hi b o g hZ hb hc hr ih =>
    exact .cp f l hi b o g ⟨hZ.1, fun ha => hZ.2 (hs.al b hb ha)⟩ (Nat.lt_of_lt_of_le hb hs.size) (fun j t hj => (hcell f b (o + j) _ hZ (hc j t hj)).2) ih
  | nilp => exact .nilp
  | nils => exact .nils
  | ms s b off len v h =>
    refine .ms s b off len v ⟨⟨Nat.lt_of_lt_of_le h.1.1 hs.size, fun hk => h.1.2.1 (hs.mark hk), h.1.2.2⟩, h.2.1, fun m rows hb hm => ?_⟩
    obtain ⟨⟨rows0, h0⟩, hsh⟩ := hs.ms s b m rows h.1.1 hb hm
    obtain ⟨o, c, e, n, h3, h4, h5, h6⟩ := h.2.2 m rows0 hb h0
    exact ⟨o, c, e, n, h3, h4, hsh.trans h5, h6⟩
  | mp s b off h => exact .mp s b off ⟨Nat.lt_of_lt_of_le h.1 hs.size, fun hk => h.2 (hs.mark hk)⟩
  | me s b m k j h => exact .me s b m k j ⟨Nat.lt_of_lt_of_le h.1 hs.size, fun hk => h.2 (hs.mark hk)⟩
  | tup l vs h h2 ih => exact .tup l vs h ih
  | fn f l vs h h2 ih => exact .fn f l vs h ih
  | top v => exact .top v
  | gh l v h ih => exact .gh l v ih

abbrev SiteRel : Nat × Nat × TObj → Nat × Nat × TObj → Prop := fun x y => x.1 ≠ y.1 ∧ (x.2.1 ≠ y.2.1 ∨ x.2.1 = 0)
/-- The memory of a walk: w0 is the world when the call began. -/
structure SimW (w0 : World) (objs : Objs) (w : World) : Prop where
  below : Below w0.heap.size w0 w
  pos : 0 < w0.heap.size
  obj : ∀ s b o, (s, b, o) ∈ objs → ObjOk w w0.heap.size objs b o
  sites : List.Pairwise SiteRel objs

theorem SimW.noMark {w0 w : World} {objs : Objs} (h : SimW w0 objs w) : marker ∉ objs := fun hm => absurd (h.obj 0 0 _ hm).1.1 (Nat.lt_irrefl _)

/-- The state of a walk: the frame's slots as the environment says. -/
structure Sim (w0 : World) (N : Nat) (env : Env) (objs : Objs) (a : Act) (w : World) : Prop where
  defers : a.defers = []
  size : a.tmps.size = N
  mem : SimW w0 objs w
  env : ∀ t v, lk t env = some v → Rep w objs v (a.tmps.getD t undef)

structure AW (P : Program) (w0 : World) (N : Nat) (c : Code) (Q : Exit → Act → World → Prop) (env : Env) (objs : Objs) : Prop where
  run : ∀ a w, Sim w0 N env objs a w → c.wp P Q a w
structure AL (P : Program) (w0 : World) (N : Nat) (ops : Array Oper) (Q : Exit → Act → World → Prop) (rest : List Oper) (env : Env) (objs : Objs) : Prop where
  run : ∀ a w, Sim w0 N env objs a w → wpList P ops Q rest a w
/-- The next operation is carried out. -/
structure AO (P : Program) (w0 : World) (N : Nat) (ops : Array Oper) (Q : Exit → Act → World → Prop) (o : Oper) (rest : List Oper) (env : Env) (objs : Objs) : Prop where
  run : ∀ a w (K : Act → World → Prop), Sim w0 N env objs a w → (∀ a w, wpList P ops Q rest a w → K a w) → o.wp P a w K Q
structure AQ (w0 : World) (N : Nat) (Q : Exit → Act → World → Prop) (x : Exit) (env : Env) (objs : Objs) : Prop where
  run : ∀ a w, Sim w0 N env objs a w → Q x a w

section
variable {P : Program} {w0 : World} {N : Nat} {Q : Exit → Act → World → Prop} {env : Env} {objs : Objs}

theorem aw_seq {x y : Code} (h : AW P w0 N x (Exit.then (y.wp P Q) Q) env objs) : AW P w0 N (.seq x y) Q env objs := ⟨fun a w hs => wp_seq (h.run a w hs)⟩
theorem aw_skip (h : AQ w0 N Q .normal env objs) : AW P w0 N .skip Q env objs := ⟨fun a w hs => wp_skip (h.run a w hs)⟩
theorem aw_exit {id : Nat} (h : AQ w0 N Q (.exit id) env objs) : AW P w0 N (.exit id) Q env objs := ⟨fun a w hs => wp_exit (h.run a w hs)⟩
theorem aw_ret (h : AQ w0 N Q .ret env objs) : AW P w0 N .ret Q env objs := ⟨fun a w hs => wp_ret (h.run a w hs)⟩
theorem aw_block {id : Nat} {c : Code} (h : AW P w0 N c (Exit.inBlock id Q) env objs) : AW P w0 N (.block id c) Q env objs := ⟨fun a w hs => wp_block (h.run a w hs)⟩
theorem aw_region {id : Nat} {l : List Oper} (h : AL P w0 N l.toArray Q l env objs) : AW P w0 N (.region id l.toArray false) Q env objs := ⟨fun a w hs => wp_region_lit (h.run a w hs)⟩
theorem al_nil {ops : Array Oper} (h : AQ w0 N Q .normal env objs) : AL P w0 N ops Q [] env objs := ⟨fun a w hs => wpList_nil (h.run a w hs)⟩

theorem aq_then {y : Code} (h : AW P w0 N y Q env objs) : AQ w0 N (Exit.then (y.wp P Q) Q) .normal env objs := ⟨h.run⟩
theorem aq_then_exit {K : Act → World → Prop} {id : Nat} (h : AQ w0 N Q (.exit id) env objs) : AQ w0 N (Exit.then K Q) (.exit id) env objs := ⟨h.run⟩
theorem aq_then_ret {K : Act → World → Prop} (h : AQ w0 N Q .ret env objs) : AQ w0 N (Exit.then K Q) .ret env objs := ⟨h.run⟩
theorem aq_block {id : Nat} (h : AQ w0 N Q .normal env objs) : AQ w0 N (Exit.inBlock id Q) .normal env objs := ⟨h.run⟩
theorem aq_block_ret {id : Nat} (h : AQ w0 N Q .ret env objs) : AQ w0 N (Exit.inBlock id Q) .ret env objs := ⟨h.run⟩
theorem aq_block_hit {id : Nat} (h : AQ w0 N Q .normal env objs) : AQ w0 N (Exit.inBlock id Q) (.exit id) env objs := ⟨fun a w hs => by
  show (if id = id then _ else _)
  rw [if_pos rfl]; exact h.run a w hs⟩
theorem aq_block_miss {id id' : Nat} (hn : Nat.beq id' id = false) (h : AQ w0 N Q (.exit id') env objs) : AQ w0 N (Exit.inBlock id Q) (.exit id') env objs := ⟨fun a w hs => by
  show (if id' = id then _ else _)
  rw [if_neg (ne_of_beq_f hn)]; exact h.run a w hs⟩

theorem Rep.bool_inv {w : World} {b : Bool} {v : Value} (h : Rep w objs (.bool b) v) : v = .bool b := by cases h; rfl
theorem Rep.int_inv {w : World} {k : IntKind} {n : Int} {v : Value} (h : Rep w objs (.int k n) v) : v = .int k n := by cases h; rfl
theorem Rep.str_inv {w : World} {s : ByteArray} {v : Value} (h : Rep w objs (.str s) v) : v = .string s := by cases h; rfl

theorem aw_cond {t : Nat} {v : TV} {p : Prop} {i : Decidable p} {x y : Code} (hl : lk t env = some v) (he : v = .bool (@decide p i)) (ht : p → AW P w0 N x Q env objs) (hf : ¬ p → AW P w0 N y Q env objs) : AW P w0 N (.cond (.tmp t) x y) Q env objs := ⟨fun a w hs => by
  have hv : a.eval (.tmp t) = .bool (decide p) := (hs.env t _ (he ▸ hl)).bool_inv
  by_cases h : p
  · exact wp_cond_true (by rw [hv]; simp [h]) ((ht h).run a w hs)
  · exact wp_cond_false (by rw [hv]; simp [h]) ((hf h).run a w hs)⟩
theorem aw_cond_b {t : Nat} {v : TV} {b : Bool} {x y : Code} (hl : lk t env = some v) (he : v = .bool b) (ht : b = true → AW P w0 N x Q env objs) (hf : b = false → AW P w0 N y Q env objs) : AW P w0 N (.cond (.tmp t) x y) Q env objs := ⟨fun a w hs => by
  have hv : a.eval (.tmp t) = .bool b := (hs.env t _ (he ▸ hl)).bool_inv
  exact wp_cond_split hv (fun h => (ht h).run a w hs) (fun h => (hf h).run a w hs)⟩
theorem aw_cond_t {t : Nat} {v : TV} {x y : Code} (hl : lk t env = some v) (he : v = .bool true) (ht : AW P w0 N x Q env objs) : AW P w0 N (.cond (.tmp t) x y) Q env objs := ⟨fun a w hs => wp_cond_true (hs.env t _ (he ▸ hl)).bool_inv (ht.run a w hs)⟩
theorem aw_cond_f {t : Nat} {v : TV} {x y : Code} (hl : lk t env = some v) (he : v = .bool false) (hf : AW P w0 N y Q env objs) : AW P w0 N (.cond (.tmp t) x y) Q env objs := ⟨fun a w hs => wp_cond_false (hs.env t _ (he ▸ hl)).bool_inv (hf.run a w hs)⟩
theorem aw_cond_dt {t : Nat} {v : TV} {p : Prop} {i : Decidable p} {x y : Code} (hl : lk t env = some v) (he : v = .bool (@decide p i)) (hp : p) (ht : AW P w0 N x Q env objs) : AW P w0 N (.cond (.tmp t) x y) Q env objs := aw_cond hl he (fun _ => ht) (fun h => absurd hp h)
theorem aw_cond_df {t : Nat} {v : TV} {p : Prop} {i : Decidable p} {x y : Code} (hl : lk t env = some v) (he : v = .bool (@decide p i)) (hp : ¬ p) (hf : AW P w0 N y Q env objs) : AW P w0 N (.cond (.tmp t) x y) Q env objs := aw_cond hl he (fun h => absurd h hp) (fun _ => hf)

/-- What is owned, listed in another order or in part. -/
structure Pick (objs' objs : Objs) : Prop where
  mem : ∀ x ∈ objs', x ∈ objs
  sites : List.Pairwise SiteRel objs → List.Pairwise SiteRel objs'
theorem Pick.refl (l : Objs) : Pick l l := ⟨fun _ h => h, id⟩
theorem Pick.trans {a b c : Objs} (h : Pick a b) (k : Pick b c) : Pick a c := ⟨fun x hx => k.mem x (h.mem x hx), fun hp => h.sites (k.sites hp)⟩
theorem Pick.sub {a b : Objs} (h : List.Sublist a b) : Pick a b := ⟨fun _ hx => h.subset hx, fun hp => hp.sublist h⟩
theorem SiteRel.symm {x y : Nat × Nat × TObj} (h : SiteRel x y) : SiteRel y x := ⟨h.1.symm, by
  by_cases e : x.2.1 = y.2.1
  · rcases h.2 with h2 | h2
    · exact absurd e h2
    · exact .inr (e ▸ h2)
  · exact .inl (Ne.symm e)⟩
theorem Pick.perm {a b : Objs} (h : a.Perm b) : Pick a b := ⟨fun _ hx => h.subset hx, fun hp => h.symm.pairwise hp (fun h => SiteRel.symm h)⟩
theorem Pick.nil (l : Objs) : Pick [] l := .sub (List.nil_sublist l)
inductive Del (x : Nat × Nat × TObj) : Objs → Objs → Prop
  | head (l : Objs) : Del x (x :: l) l
  | tail (y : Nat × Nat × TObj) (l l' : Objs) (h : Del x l l') : Del x (y :: l) (y :: l')
theorem Del.perm {x : Nat × Nat × TObj} {l l' : Objs} (h : Del x l l') : (x :: l').Perm l := by
  induction h with
  | head l => exact .refl _
  | tail y l l' h ih => exact (List.Perm.swap y x l').trans (ih.cons y)
theorem Pick.cons {x : Nat × Nat × TObj} {l' l l1 : Objs} (hd : Del x l l1) (h : Pick l' l1) : Pick (x :: l') l := by
  refine Pick.trans ?_ (.perm hd.perm)
  refine ⟨fun y hy => ?_, fun hp => ?_⟩
  · rcases List.mem_cons.1 hy with rfl | hy
    · exact List.mem_cons_self
    · exact List.mem_cons_of_mem _ (h.mem y hy)
  · obtain ⟨h1, h2⟩ := List.pairwise_cons.1 hp
    exact List.pairwise_cons.2 ⟨fun y hy => h1 y (h.mem y hy), h.sites h2⟩
theorem Pick.drop {x : Nat × Nat × TObj} {l' l : Objs} (h : Pick l' l) : Pick l' (x :: l) := h.trans (.sub (List.sublist_cons_self x l))

/-- A state that says less. -/
structure Weak (env : Env) (objs : Objs) (env' : Env) (objs' : Objs) : Prop where
  env : ∀ t v, lk t env' = some v → lk t env = some v
  objs : Pick objs' objs
theorem Weak.envNil : ∀ t v, lk t [] = some v → lk t env = some v := fun t v h => by simp [lk] at h
theorem Weak.envCons {t : Nat} {v : TV} {env' : Env} (h : lk t env = some v) (hr : ∀ t v, lk t env' = some v → lk t env = some v) : ∀ t' v', lk t' ((t, v) :: env') = some v' → lk t' env = some v' := fun t' v' h' => by
  rw [lk_cons] at h'
  split at h'
  · rename_i e; subst e; rw [h, h']
  · exact hr _ _ h'

theorem alive_sub {objs' : Objs} (h : Pick objs' objs) {b : Nat} (ha : alive objs' b) : alive objs b := ⟨ha.1, let ⟨s, o, hm⟩ := ha.2; ⟨s, o, h.mem _ hm⟩⟩
theorem step_sub {objs' : Objs} (h : Pick objs' objs) (w : World) : Step w objs w objs' :=
  ⟨fun _ _ _ => rfl, fun _ _ ha => alive_sub h ha, fun _ _ _ rows _ _ hm => ⟨⟨rows, h.mem _ hm⟩, rfl⟩, Nat.le_refl _, fun hk => h.mem _ hk⟩
theorem ObjOk.step {w w' : World} {B b : Nat} {objs' : Objs} {o : TObj} (hs : Step w objs w' objs') (hb : w'.heap[b]? = w.heap[b]?) (h : ObjOk w B objs b o) : ObjOk w' B objs' b o := by
  cases o with
  | void => exact h
  | iter s pos => exact ⟨h.1, hb.trans h.2⟩
  | row m rows =>
    refine ⟨h.1, h.2.1, h.2.2.imp id fun ⟨h1, cur, e, cap, h2, h3, h4, h5, h6⟩ => ⟨h1, cur, e, cap, hb.trans h2, h3, h4, h5, fun j t hj => ?_⟩⟩
    obtain ⟨v, h7, h8⟩ := h6 j t hj
    exact ⟨v, h7, h8.step hs⟩
  | box cells =>
    obtain ⟨h1, cur, e, h2, h3, h6⟩ := h
    refine ⟨h1, cur, e, hb.trans h2, h3, fun j t hj => ?_⟩
    obtain ⟨v, h7, h8⟩ := h6 j t hj
    exact ⟨v, h7, h8.step hs⟩
theorem SimW.sub {w : World} {objs' : Objs} (h : SimW w0 objs w) (hsub : Pick objs' objs) : SimW w0 objs' w :=
  ⟨h.below, h.pos, fun s b o hm => (h.obj s b o (hsub.mem _ hm)).step (step_sub hsub w) rfl, hsub.sites h.sites⟩
theorem Sim.weak {a : Act} {w : World} {env' : Env} {objs' : Objs} (h : Sim w0 N env objs a w) (k : Weak env objs env' objs') : Sim w0 N env' objs' a w :=
  ⟨h.defers, h.size, h.mem.sub k.objs, fun t v ht => (h.env t v (k.env t v ht)).step (step_sub k.objs w)⟩

/-- A loop: the state at its head is (E x, O x) for some x that meets I. -/
def AInv {X : Type} (w0 : World) (N : Nat) (E : X → Env) (O : X → Objs) (I : X → Prop) (μ : X → Nat) (n : Nat) (a : Act) (w : World) : Prop := ∃ x, I x ∧ μ x < n ∧ Sim w0 N (E x) (O x) a w
theorem aw_loop {X : Type} {body : Code} (E : X → Env) (O : X → Objs) (I : X → Prop) (μ : X → Nat) (x0 : X) (h0 : I x0) (hw : Weak env objs (E x0) (O x0))
    (round : ∀ x, I x → AW P w0 N body (Exit.then (AInv w0 N E O I μ (μ x)) Q) (E x) (O x)) : AW P w0 N (.loop body) Q env objs := ⟨fun a w hs => by
  refine wp_loop_ghost (fun n a w => ∃ x, I x ∧ μ x = n ∧ Sim w0 N (E x) (O x) a w) (μ x0) ⟨x0, h0, rfl, hs.weak hw⟩ ?_
  rintro n a w ⟨x, hI, rfl, hs⟩
  refine wp_mono ((round x hI).run a w hs) fun e a' w' hq => ?_
  cases e with
  | normal =>
    obtain ⟨y, hy, hlt, hs'⟩ := hq
    exact ⟨μ y, hlt, y, hy, rfl, hs'⟩
  | exit id => exact hq
  | goto l => exact hq
  | ret => exact hq
  | panic c => exact hq
  | outgrown => exact hq⟩
theorem aq_round {X : Type} {E : X → Env} {O : X → Objs} {I : X → Prop} {μ : X → Nat} {n : Nat} (y : X) (hI : I y) (hlt : μ y < n) (k : Weak env objs (E y) (O y)) : AQ w0 N (Exit.then (AInv w0 N E O I μ n) Q) .normal env objs :=
  ⟨fun _ _ hs => ⟨y, hI, hlt, hs.weak k⟩⟩
/-- Ways that meet again: behind the first part the state is (E y, O y) for some y that meets I. -/
def AMid {X : Type} (w0 : World) (N : Nat) (E : X → Env) (O : X → Objs) (I : X → Prop) (a : Act) (w : World) : Prop := ∃ y, I y ∧ Sim w0 N (E y) (O y) a w
theorem aq_mid {X : Type} {E : X → Env} {O : X → Objs} {I : X → Prop} (y : X) (hI : I y) (k : Weak env objs (E y) (O y)) : AQ w0 N (Exit.then (AMid w0 N E O I) Q) .normal env objs := ⟨fun _ _ hs => ⟨y, hI, hs.weak k⟩⟩
end

end Go.Proofs.YtiihihgjiklnoaaGreatDoor
