/- Part 4 of the proof: the texts EngU, EngV, EngW, EngX, EngY, EngZ, EngK, EngL, EngN, EngQ, EngP, TvA, LwT, MkT, Ints, Dig, LibT, LibS. -/
import Derived.Test.YtdeokcbbjibkoaaDoorPart3
import Derived.Laws.MakeOwn
import Derived.Laws.RangeString
import Derived.Test.YtdeokcbbjibkoaaDoorPart1
import Derived.Lib.AppendStr
import Derived.Deep.RegionHeld3
import Derived.Test.YtdeokcbbjibkoaaDoorChecked
import Derived.Deep.QuietTactic
import Derived.BigQuiet
import Derived.Lib.OthersKept
import Derived.Deep.RegionWith
import Derived.Deep.RegionLaw
import Derived.IntWalk
/- The abstract walk, part 12: the rules for a region whose order is open, and those that make or write memory, by program. -/
namespace Go.Proofs.YtdeokcbbjibkoaaDoor
open Go Go.RowKit
section
variable {P : Program} {w0 : World} {N : Nat} {Q : Exit → Act → World → Prop} {env : Env} {objs : Objs} {ops : Array Oper} {rest : List Oper} {d T0 : Nat} {pos : String} {af : Array Edge} {g : Option (Nat × Bool)} {K : Env → Prop}
theorem dr_nil (h : AQ w0 N Q .normal env objs) : DR P w0 N ops objs (fun env2 => AQ w0 N Q .normal env2 objs) [] env := .nil env h
/-- The next operation of an open region is carried out. -/
structure DO (P : Program) (w0 : World) (N : Nat) (ops : Array Oper) (objs : Objs) (K : Env → Prop) (o : Oper) (rest : List Oper) (env : Env) : Prop where
  run : GRun ops env o → DR P w0 N ops objs K (o :: rest) env
theorem dr_none {o : Oper} (hg : o.guard = none) (h : DO P w0 N ops objs K o rest env) : DR P w0 N ops objs K (o :: rest) env := h.run (.inl hg)
theorem d_move {x : Operand} {tv : TV} (hN : Nat.blt d N = true) (hx : ev env x = some tv) (h : DR P w0 N ops objs K rest ((d, tv) :: env)) : DO P w0 N ops objs K ⟨some d, .move x, T0, pos, af, g⟩ rest env := ⟨fun hgr => .run _ _ _ _ _ rfl hN hgr (y_move rfl hx) h⟩
theorem d_neq_s {t t2 : TypeId} {x y : Operand} {s u : ByteArray} (hN : Nat.blt d N = true) (hx : ev env x = some (.str s)) (hy : ev env y = some (.str u)) (h : DR P w0 N ops objs K rest ((d, .bool (decide (s ≠ u))) :: env)) : DO P w0 N ops objs K ⟨some d, .binOp .neq t x y t2, T0, pos, af, g⟩ rest env := ⟨fun hgr => .run _ _ _ _ _ rfl hN hgr (y_neq_s rfl hx hy) h⟩
theorem d_load_cp {T : TypeId} {x : Operand} {c : TV} {rr : List TV} {f : Nat} {l : List TV} (hN : Nat.blt d N = true) (hA : agT T = false) (hT : isScal P T = true) (hx : ev env x = some (.cp f l)) (hl : l = c :: rr) (h : DR P w0 N ops objs K rest ((d, c) :: env)) : DO P w0 N ops objs K ⟨some d, .load T x, T0, pos, af, g⟩ rest env := ⟨fun hgr => .run _ _ _ _ _ rfl hN hgr (y_load rfl hT hx (fun _ => .cp f l) hl) h⟩
theorem d_indexAddr {T : TypeId} {x i : Operand} {f m : Nat} {rows : List (List TV)} {kk : IntKind} {n : Int} {j : Nat} {r : List TV} (hN : Nat.blt d N = true) (hx : ev env x = some (.sl f m rows)) (hi : ev env i = some (.int kk n)) (hT : P.underlying T = some (.slice (P.elem T))) (hI : (P.info? (P.elem T)).isSome = true) (hm : P.cellsOf (P.elem T) = m) (hm0 : Nat.blt 0 m = true) (hn : n = (j : Int)) (hr : rows[j]? = some r) (h : DR P w0 N ops objs K rest ((d, .cp f r) :: env)) : DO P w0 N ops objs K ⟨some d, .indexAddr T x i, T0, pos, af, g⟩ rest env := ⟨fun hgr => .run _ _ _ _ _ rfl hN hgr (y_indexAddr rfl hx hi hT hI hm hm0 hn hr) h⟩
theorem d_call {G : World → Prop} {f : Nat} {xs : List Operand} {ts : Array TypeId} {args : List TV} {r : Nat → TV} (hN : Nat.blt d N = true) (hc : callB P f = true) (hargs : Args env objs xs args) (hG : G w0) (hst : Stable G) (hct : Ct P G f args r) (h : DR P w0 N ops objs K rest ((d, r w0.heap.size) :: env)) : DO P w0 N ops objs K ⟨some d, .call { callee := .value (.func f), args := xs.toArray, argTypes := ts }, T0, pos, af, g⟩ rest env := ⟨fun hgr => .run _ _ _ _ _ rfl hN hgr (y_call rfl hc hargs hct hG hst) h⟩
theorem o_alloc {T : TypeId} {zs : List TV} (hN : Nat.blt d N = true) (he : zT T = zs) (hz : zeroOk P T = some zs) (h : ∀ ss b, AL P w0 N ops Q rest ((d, .mp ss b 0) :: env) ((ss, b, .box zs) :: objs)) : AO P w0 N ops Q ⟨some d, .alloc T, T0, pos, af, g⟩ rest env objs := ao_alloc rfl rfl hN hz h
theorem o_own {T : TypeId} {n m : Nat} {ps : List (Nat × Operand)} {rows : List (List TV)} (hN : Nat.blt d N = true) (hev : evL env ps 0 = some rows) (hT : P.underlying T = some (.slice (P.elem T))) (hI : (zeroOk P (P.elem T)).isSome = true) (hs : esT T = some m) (hm : P.cellsOf (P.elem T) = m) (hm0 : Nat.blt 0 m = true) (hn : rows.length = n) (hbig : Nat.ble (n * m) 16777216 = true) (hall : (rows.all fun r => Nat.beq r.length m) = true) (h : ∀ ss b, AL P w0 N ops Q rest ((d, .ms ss b 0 n) :: env) ((ss, b, .row m rows) :: objs)) : AO P w0 N ops Q ⟨some d, .buildSlice T n ps.toArray, T0, pos, af, g⟩ rest env objs := ao_lit rfl rfl hN hT hI hm hm0 hev hn hbig hall h
theorem o_store_mp {T : TypeId} {x v : Operand} {s b off : Nat} {tv : TV} {cells vs cells2 : List TV} {objs2 : Objs} (hx : ev env x = some (.mp s b off)) (hv : ev env v = some tv) (hc : tvCells tv = some vs) (hi : (P.info? T).isSome = true) (hm : (s, b, TObj.box cells) ∈ objs) (hsp : Splice cells off vs cells2) (hu : Upd (s, b, .box cells) (s, b, .box cells2) objs objs2) (hsz : P.cellsOf T = vs.length) (h : AL P w0 N ops Q rest env objs2) : AO P w0 N ops Q ⟨none, .store T x v, T0, pos, af, g⟩ rest env objs := ao_store_mp rfl rfl hx hv hc hi hsz hu hsp h
theorem o_store_me {T : TypeId} {x v : Operand} {s b m j off : Nat} {tv : TV} {vs r r2 : List TV} {rows rows2 : List (List TV)} {objs2 : Objs} (hx : ev env x = some (.me s b m j off)) (hv : ev env v = some tv) (hc : tvCells tv = some vs) (hi : (P.info? T).isSome = true) (hm : (s, b, TObj.row m rows) ∈ objs) (hr : rows[j]? = some r) (hsp : Splice r off vs r2) (hsz : P.cellsOf T = vs.length) (hrows : rows.set j r2 = rows2) (hu : Upd (s, b, .row m rows) (s, b, .row m rows2) objs objs2) (h : AL P w0 N ops Q rest env objs2) : AO P w0 N ops Q ⟨none, .store T x v, T0, pos, af, g⟩ rest env objs := ao_store_me rfl rfl hx hv hc hi hsz hu hr hsp hrows h
theorem o_append {objsOf : Nat → Objs} {T s b len n m : Nat} {x y : Operand} {f : Nat} {rows rows2 news : List (List TV)} (hN : Nat.blt d N = true) (hx : ev env x = some (.ms s b 0 len)) (hy : ev env y = some (.sl f m news)) (hT : appOk P T m = true) (hm : (s, b, TObj.row m rows) ∈ objs) (hl : rows.length = len) (hn : news.length = n) (hbig : len + n ≤ 1000000000) (hrows : rows ++ news = rows2) (hu : ∀ b2, Upd (s, b, .row m rows) (s, b2, .row m rows2) objs (objsOf b2)) (h : ∀ b2, AL P w0 N ops Q rest ((d, .ms s b2 0 (len + n)) :: env) (objsOf b2)) : AO P w0 N ops Q ⟨some d, .call { callee := .builtin .append, args := #[x, y], argTypes := #[T, T] }, T0, pos, af, g⟩ rest env objs := ao_append rfl rfl hN hx hy hT (by omega) hn hbig (by rw [← hl, List.take_length]; exact hrows) hu h
theorem o_conv_bytes {src dst : TypeId} {x : Operand} {s b len : Nat} {l : List UInt8} (hN : Nat.blt d N = true) (hx : ev env x = some (.ms s b 0 len)) (hobj : (s, b, TObj.row 1 (bytR l)) ∈ objs) (hl : l.length = len) (hs : P.underlying src = some (.slice (P.elem src))) (he : P.underlying (P.elem src) = some (.int .u8)) (hd : P.underlying dst = some .string) (h : AL P w0 N ops Q rest ((d, .str ⟨l.toArray⟩) :: env) objs) : AO P w0 N ops Q ⟨some d, .convert src dst x, T0, pos, af, g⟩ rest env objs := ao_q rfl hN (y_conv_bytes rfl hx hobj hl hs he hd) h
end
end Go.Proofs.YtdeokcbbjibkoaaDoor
/- The abstract walk, part 13: a struct written out. -/
namespace Go.Proofs.YtdeokcbbjibkoaaDoor
open Go Go.RowKit
section
variable {P : Program} {w0 : World} {N : Nat} {Q : Exit → Act → World → Prop} {env : Env} {objs : Objs} {o : Oper}
def placesOf (P : Program) (T : Nat) : Option (List (Nat × Nat)) := match P.underlying T with
  | some (.struct fields) => fields.toList.mapM fun f => (P.info? f.type).map fun i => (f.offset, i.size)
  | _ => none
inductive TB (P : Program) (env : Env) (T : Nat) : List (Nat × Operand) → List TV → List TV → Prop
  | nil (l : List TV) : TB P env T [] l l
  | cons (i : Nat) (x : Operand) (r : List (Nat × Operand)) (l l1 l2 : List TV) (tv : TV) (vs : List TV) (hx : ev env x = some tv) (hc : tvCells tv = some vs) (hs : Splice l (ofT T i) vs l1) (hF : (placesOf P T).bind (·[i]?) = some (ofT T i, vs.length)) (hr : TB P env T r l1 l2) : TB P env T ((i, x) :: r) l l2
variable {ops : Array Oper} {rest : List Oper} {d T0 : Nat} {pos : String} {af : Array Edge} {g : Option (Nat × Bool)}
end
end Go.Proofs.YtdeokcbbjibkoaaDoor
/- The abstract walk, part 14: the rest of an owned row, make. -/
namespace Go.Proofs.YtdeokcbbjibkoaaDoor
open Go Go.RowKit
section
variable {P : Program} {w0 : World} {N : Nat} {Q : Exit → Act → World → Prop} {env : Env} {objs : Objs} {o : Oper}
end
end Go.Proofs.YtdeokcbbjibkoaaDoor
/- The abstract walk, part 15: a state that says less, a loop whose fixed slots are named, a nil slice that is to grow. -/
namespace Go.Proofs.YtdeokcbbjibkoaaDoor
open Go Go.RowKit
section
variable {P : Program} {w0 : World} {N : Nat} {Q : Exit → Act → World → Prop} {env : Env} {objs objs' : Objs}
theorem Sim.pick {a : Act} {w : World} (h : Sim w0 N env objs a w) (k : Pick objs' objs) : Sim w0 N env objs' a w := h.weak ⟨fun _ _ h => h, k⟩
/-- Where the walk is to stand still. -/
structure Held (p : Prop) : Prop where
  go : p
theorem aw_hold_r {id : Nat} {ops : Array Oper} {b : Bool} {y : Code} (h : Held (AW P w0 N (.seq (.region id ops b) y) Q env objs)) : AW P w0 N (.seq (.region id ops b) y) Q env objs := h.go
theorem al_app1 {ops : Array Oper} {rest : List Oper} {x : Nat × Nat × TObj} {l : Objs} (h : AL P w0 N ops Q rest env (x :: l)) : AL P w0 N ops Q rest env ([x] ++ l) := h
/-- The slots that are kept. -/
inductive Kept (env : Env) : List Nat → Env → Prop
  | nil : Kept env [] []
  | cons (t : Nat) (v : TV) (l : List Nat) (e : Env) (h : lk t env = some v) (hr : Kept env l e) : Kept env (t :: l) ((t, v) :: e)
theorem Kept.weak {l : List Nat} {e : Env} (h : Kept env l e) : ∀ t v, lk t e = some v → lk t env = some v := by
  induction h with
  | nil => exact Weak.envNil
  | cons t v l e h hr ih => exact Weak.envCons h ih
theorem lk_app {t : Nat} : ∀ {e1 e2 : Env} {v : TV}, lk t (e1 ++ e2) = some v → lk t e1 = some v ∨ lk t e2 = some v
  | [], _, _, h => .inr h
  | (s, u) :: r, e2, v, h => by
    rw [List.cons_append, lk_cons] at h
    rw [lk_cons]
    split at h
    · rename_i e; rw [if_pos e]; exact .inl h
    · rename_i e; rw [if_neg e]; exact lk_app h
theorem Weak.of (new : Env) {e1 : Env} (h1 : ∀ t v, lk t new = some v → lk t env = some v) (h2 : ∀ t v, lk t e1 = some v → lk t env = some v) (hp : Pick objs' objs) : Weak env objs (new ++ e1) objs' :=
  ⟨fun t v h => (lk_app h).elim (h1 t v) (h2 t v), hp⟩
/-- A loop: the slots of 'keep' stay, those of 'new' are as the state says. -/
theorem aw_loopk {X : Type} {body : Code} (keep : List Nat) (new : X → Env) (O : X → Objs) (I : X → Prop) (μ : X → Nat) (x0 : X) (h0 : I x0) {e1 : Env} (hk : Kept env keep e1) (hw : ∀ t v, lk t (new x0) = some v → lk t env = some v) (hp : Pick (O x0) objs)
    (round : ∀ x, I x → AW P w0 N body (Exit.then (AInv w0 N (fun x => new x ++ e1) O I μ (μ x)) Q) (new x ++ e1) (O x)) : AW P w0 N (.loop body) Q env objs :=
  aw_loop (fun x => new x ++ e1) O I μ x0 h0 (.of _ hw hk.weak hp) round
theorem lk_ms {t : Nat} {env : Env} {s b off m n : Nat} (h : lk t env = some (.ms s b off m)) (e : m = n) : lk t env = some (.ms s b off n) := e ▸ h
inductive DelS (s b : Nat) (o : TObj) : Objs → Objs → Prop
  | head (l : Objs) : DelS s b o ((s, b, o) :: l) l
  | tail (s' b' : Nat) (o' : TObj) (l l' : Objs) (h : DelS s b o l l') : DelS s b o ((s', b', o') :: l) ((s', b', o') :: l')
theorem DelS.del {s b : Nat} {o : TObj} {l l' : Objs} (h : DelS s b o l l') : Del (s, b, o) l l' := by
  induction h with
  | head l => exact .head l
  | tail s' b' o' l l' h ih => exact .tail _ _ _ ih
theorem Pick.consE {s b : Nat} {o o' : TObj} {l l1 objs : Objs} (hd : DelS s b o' objs l1) (h : o = o') (k : Pick l l1) : Pick ((s, b, o) :: l) objs := h ▸ .cons hd.del k

/-- A nil slice is a row of nothing that the call owns. -/
theorem step_nil (w : World) (ss m : Nat) (hm : 0 < m) : Step w objs w ((ss, 0, .row m []) :: objs) :=
  ⟨fun _ _ _ => rfl, fun b _ ha => ⟨ha.1, by
    obtain ⟨h0, s, o, hm⟩ := ha
    rcases List.mem_cons.1 hm with he | hm
    · simp only [Prod.mk.injEq] at he; omega
    · exact ⟨s, o, hm⟩⟩, fun s b m' rows _ hb hm' => by
    rcases List.mem_cons.1 hm' with he | hm'
    · simp only [Prod.mk.injEq] at he; omega
    · exact ⟨⟨rows, hm'⟩, rfl⟩, Nat.le_refl _, fun hk => by
    rcases List.mem_cons.1 hk with he | hk
    · simp only [marker, Prod.mk.injEq, TObj.row.injEq] at he; omega
    · exact hk⟩
theorem SimW.nil {w : World} (hw : SimW w0 objs w) {ss m : Nat} (hm : 0 < m) (hs : ∀ x ∈ objs, x.1 ≠ ss) : SimW w0 ((ss, 0, .row m []) :: objs) w :=
  ⟨hw.below, hw.pos, fun s b o h => by
    rcases List.mem_cons.1 h with he | h
    · simp only [Prod.mk.injEq] at he
      obtain ⟨rfl, rfl, rfl⟩ := he
      exact ⟨⟨hm, by simp⟩, by simp, .inl ⟨rfl, rfl⟩⟩
    · exact (hw.obj s b o h).step (step_nil w ss m hm) rfl, List.pairwise_cons.2 ⟨fun y hy => ⟨(hs y hy).symm, .inr rfl⟩, hw.sites⟩⟩
theorem Sim.nil {a : Act} {w : World} (h : Sim w0 N env objs a w) {t : Nat} (m : Nat) (hm : 0 < m) (ht : lk t env = some .nils) : ∃ ss, Sim w0 N ((t, .ms ss 0 0 0) :: env) ((ss, 0, .row m []) :: objs) a w := by
  obtain ⟨ss, hss⟩ := site_new objs
  have hpos : 0 < w.heap.size := Nat.lt_of_lt_of_le h.mem.pos h.mem.below.size
  have hw := h.mem.nil hm hss
  refine ⟨ss, h.defers, h.size, hw, fun t' v hv => ?_⟩
  rw [lk_cons] at hv
  split at hv
  · rename_i e
    subst e
    simp only [Option.some.injEq] at hv
    subst hv
    have h1 := h.env _ _ ht
    generalize a.tmps.getD t undef = u at h1
    cases h1
    exact .ms ss 0 0 0 _ (.mk ⟨hpos, hw.noMark, none, 0, rfl⟩ (fun _ _ _ => .inl ⟨rfl, rfl, rfl, rfl⟩) fun _ => ⟨rfl, rfl, rfl⟩)
  · exact (h.env t' v hv).step (step_nil w ss m hm)
theorem aq_nils {x : Exit} (t m : Nat) (hm : 0 < m) (ht : lk t env = some .nils) (h : ∀ ss, AQ w0 N Q x ((t, .ms ss 0 0 0) :: env) ((ss, 0, .row m []) :: objs)) : AQ w0 N Q x env objs := ⟨fun a w hs => by
  obtain ⟨ss, h1⟩ := hs.nil m hm ht
  exact (h ss).run a w h1⟩
end
end Go.Proofs.YtdeokcbbjibkoaaDoor
/- The abstract walk, part 16: contracts of functions that turn what their caller owns, or give back what is owned. -/
namespace Go.Proofs.YtdeokcbbjibkoaaDoor
open Go Go.RowKit

/-- A contract: from what is listed in objs the call makes what O lists, whatever else the caller owns (R), and all values (gs) go on standing for what they stood for. -/
def CtM (P : Program) (G : World → Prop) (f : FuncId) (args : List TV) (objs : Objs) {Y : Type} (I : Y → Prop) (O : Y → Objs) (r : Y → TV) : Prop :=
  ∀ (w0 w : World) (R : Objs) (gs : List (TV × Value)) (vs : Array Value), G w0 → SimW w0 (objs ++ R) w → Rep w (objs ++ R) (.gh gs) undef → vs.size = args.length → (∀ (i : Nat) (t : TV) (v : Value), args[i]? = some t → vs[i]? = some v → Rep w (objs ++ R) t v) →
    Calls P f vs w fun e w' => ∃ v y, e = .returned v ∧ I y ∧ SimW w0 (O y ++ R) w' ∧ Rep w' (O y ++ R) (.gh gs) undef ∧ Rep w' (O y ++ R) (r y) v
inductive AppO : Objs → Objs → Objs → Prop
  | nil (R : Objs) : AppO [] R R
  | cons (x : Nat × Nat × TObj) (l R l' : Objs) (h : AppO l R l') : AppO (x :: l) R (x :: l')
  | app (l R : Objs) : AppO l R (l ++ R)
theorem AppO.eq {l R l' : Objs} (h : AppO l R l') : l ++ R = l' := by
  induction h with
  | nil R => rfl
  | cons x l R l' h ih => rw [List.cons_append, ih]
  | app l R => rfl
theorem AppO.inv0 {R l : Objs} (h : AppO [] R l) : R = l := h.eq
theorem AppO.inv1 {x : Nat × Nat × TObj} {R l : Objs} (h : AppO [x] R l) : l = x :: R := h.eq.symm
def RetM (w0 : World) (R : Objs) (gs : List (TV × Value)) {Y : Type} (I : Y → Prop) (O : Y → Objs) (r : Y → TV) : Ending → World → Prop := fun e w' =>
  ∃ v y, e = .returned v ∧ I y ∧ SimW w0 (O y ++ R) w' ∧ Rep w' (O y ++ R) (.gh gs) undef ∧ Rep w' (O y ++ R) (r y) v
theorem ctm_enter {P : Program} {G : World → Prop} {f : FuncId} {fn : Func} {c : Code} {args : List TV} {objs : Objs} {Y : Type} {I : Y → Prop} {O : Y → Objs} {r : Y → TV} {N : Nat} {env : Env} (hf : P.funcs[f]? = some fn) (hb : fn.body = some c) (hn : fn.ntmps = N) (hN : Nat.ble args.length N = true) (hN2 : Nat.ble N 1000000 = true) (he : argEnv 0 args = env)
    (h : ∀ w0 R gs objsR, G w0 → AppO objs R objsR → AW P w0 N c (bodyPost P fn (RetM w0 R gs I O r)) (env ++ [(1000000, .gh gs)]) objsR) : CtM P G f args objs I O r := fun w0 w R gs vs hG hw hgs hsz hrep => by
  have hN := Nat.le_of_ble_eq_true hN
  have hN2 := Nat.le_of_ble_eq_true hN2
  subst he
  refine calls_of_wp hf hb ((h w0 R gs (objs ++ R) hG (.app _ _)).run _ w ⟨rfl, ?_, hw, fun t v hv => ?_⟩)
  · simp [hn, hsz]; omega
  · rcases lk_app hv with hv | hv
    · obtain ⟨_, h2⟩ := lk_argEnv hv
      rw [Nat.sub_zero] at h2
      have hlt : t < vs.size := by rw [hsz]; exact (List.getElem?_eq_some_iff.1 h2).1
      have : (vs ++ Array.replicate (fn.ntmps - vs.size) undef).getD t undef = vs[t] := by simp [Array.getElem?_append_left hlt, hlt]
      rw [this]
      exact hrep t v _ h2 (by simp [hlt])
    · rw [lk_cons] at hv
      split at hv
      · simp only [Option.some.injEq] at hv
        subst hv
        cases hgs with
        | gh l v h => exact .gh gs _ h
      · simp [lk] at hv

section
variable {P : Program} {w0 : World} {N : Nat} {Q : Exit → Act → World → Prop} {env : Env} {objs objs' : Objs} {o : Oper}

theorem retm_end {fn : Func} {R : Objs} {gs : List (TV × Value)} {Y : Type} {I : Y → Prop} {O : Y → Objs} {r : Y → TV} {x : Exit} (hx : x = .normal ∨ x = .ret) {a : Act} {w : World} (hs : Sim w0 N env objs a w) (y : Y) (hI : I y) (hg : lk 1000000 env = some (.gh gs)) (hp : Pick (O y ++ R) objs) {v : Value} (hr : (results fn a.tmps).run P w = .ok v w) (hv : Rep w objs (r y) v) : bodyPost P fn (RetM w0 R gs I O r) x a w := by
  have h1 : RetM w0 R gs I O r (.returned v) w := by
    have h2 := hs.env _ _ hg
    refine ⟨v, y, rfl, hI, hs.mem.sub hp, ?_, hv.step (step_sub hp w)⟩
    generalize a.tmps.getD 1000000 undef = u at h2
    cases h2 with
    | gh l v h => exact .gh gs _ fun i t u hi => (h i t u hi).step (step_sub hp w)
  rcases hx with rfl | rfl
  · exact ⟨hs.defers, v, hr, h1⟩
  · exact ⟨hs.defers, v, hr, h1⟩
section
variable {fn : Func} {R : Objs} {gs : List (TV × Value)} {Y : Type} {I : Y → Prop} {O : Y → Objs} {r : Y → TV} {x : Exit}
theorem aq_retm1 {r1 : ResultVar} {t1 : TV} (hx : x = .normal ∨ x = .ret) (hres : fn.results = #[r1]) (y : Y) (hI : I y) (hg : lk 1000000 env = some (.gh gs)) {l : Objs} (ho : AppO (O y) R l) (hp : Pick l objs) (h1 : RV P env objs r1 t1) (hr : r y = t1) : AQ w0 N (bodyPost P fn (RetM w0 R gs I O r)) x env objs := ⟨fun a w hs => by
  obtain ⟨v1, e1, g1⟩ := rv_run hs h1
  refine retm_end hx hs y hI hg (ho.eq ▸ hp) (v := v1) ?_ (by rw [hr]; exact g1)
  have : results fn a.tmps = (#[r1].mapM (rvRun a.tmps)) >>= fun vs => pure (if h : vs.size = 1 then vs[0] else .tuple vs) := by rw [← hres]; rfl
  rw [this]
  simp [Sem.run_bind, e1, Sem.run_pure]⟩
theorem aq_retm3 {r1 r2 r3 : ResultVar} {t1 t2 t3 : TV} (hx : x = .normal ∨ x = .ret) (hres : fn.results = #[r1, r2, r3]) (y : Y) (hI : I y) (hg : lk 1000000 env = some (.gh gs)) {l : Objs} (ho : AppO (O y) R l) (hp : Pick l objs) (h1 : RV P env objs r1 t1) (h2 : RV P env objs r2 t2) (h3 : RV P env objs r3 t3) (hr : r y = .tup [t1, t2, t3]) : AQ w0 N (bodyPost P fn (RetM w0 R gs I O r)) x env objs := ⟨fun a w hs => by
  obtain ⟨v1, e1, g1⟩ := rv_run hs h1
  obtain ⟨v2, e2, g2⟩ := rv_run hs h2
  obtain ⟨v3, e3, g3⟩ := rv_run hs h3
  refine retm_end hx hs y hI hg (ho.eq ▸ hp) (v := .tuple #[v1, v2, v3]) ?_ (by rw [hr]; exact rep_tup3 g1 g2 g3)
  have : results fn a.tmps = (#[r1, r2, r3].mapM (rvRun a.tmps)) >>= fun vs => pure (if h : vs.size = 1 then vs[0] else .tuple vs) := by rw [← hres]; rfl
  rw [this]
  simp [Sem.run_bind, e1, e2, e3, Sem.run_pure]⟩
end

inductive ArgsM (env : Env) : List Operand → List TV → Prop
  | nil : ArgsM env [] []
  | cons (x : Operand) (xs : List Operand) (t : TV) (ts : List TV) (h : ev env x = some t) (hr : ArgsM env xs ts) : ArgsM env (x :: xs) (t :: ts)
theorem argsM_rep {w : World} {a : Act} {xs : List Operand} {ts : List TV} (h : ArgsM env xs ts) (hop : ∀ x ∈ xs, ∀ v, ev env x = some v → Rep w objs v (a.eval x)) : (xs.map a.eval).length = ts.length ∧ ∀ (i : Nat) (t : TV) (v : Value), ts[i]? = some t → (xs.map a.eval)[i]? = some v → Rep w objs t v := by
  induction h with
  | nil => simp
  | cons x xs t ts h hr ih =>
    obtain ⟨h1, h2⟩ := ih (fun y hy => hop y (by simp [hy]))
    refine ⟨by simpa using h1, fun i u v hu hv' => ?_⟩
    cases i with
    | zero => simp at hu hv'; subst hu; subst hv'; exact hop x (by simp) t h
    | succ i => exact h2 i u v (by simpa using hu) (by simpa using hv')

/-- All that the frame's slots hold, as a list. -/
def ghosts (env : Env) (a : Act) : List (TV × Value) := env.map fun p => ((lk p.1 env).getD .top, a.tmps.getD p.1 undef)
theorem lk_mem {t : Nat} : ∀ {env : Env} {v : TV}, lk t env = some v → ∃ u, (t, u) ∈ env
  | [], _, h => by simp [lk] at h
  | (s, u) :: r, v, h => by
    rw [lk_cons] at h
    split at h
    · rename_i e; subst e; exact ⟨u, List.mem_cons_self⟩
    · obtain ⟨u', h'⟩ := lk_mem h; exact ⟨u', List.mem_cons_of_mem _ h'⟩
theorem mem_lk {t : Nat} : ∀ {env : Env} {u : TV}, (t, u) ∈ env → ∃ v, lk t env = some v
  | [], _, h => by simp at h
  | (s, u) :: r, u', h => by
    rw [lk_cons]
    by_cases e : s = t
    · exact ⟨u, by rw [if_pos e]⟩
    · rw [if_neg e]
      rcases List.mem_cons.1 h with he | h
      · simp only [Prod.mk.injEq] at he; exact absurd he.1.symm e
      · exact mem_lk h
theorem ghosts_rep {a : Act} {w : World} (hs : Sim w0 N env objs a w) : Rep w objs (.gh (ghosts env a)) undef := .gh _ _ fun i t u hi => by
  unfold ghosts at hi
  rw [List.getElem?_map] at hi
  obtain ⟨p, hp, he⟩ := Option.map_eq_some_iff.1 hi
  simp only [Prod.mk.injEq] at he
  obtain ⟨v, hv⟩ := mem_lk (List.mem_of_getElem? hp)
  rw [hv, Option.getD_some] at he
  rw [← he.1, ← he.2]
  exact hs.env _ _ hv
theorem ghosts_env {a : Act} {w' : World} (h : Rep w' objs' (.gh (ghosts env a)) undef) : ∀ t v, lk t env = some v → Rep w' objs' v (a.tmps.getD t undef) := fun t v hv => by
  obtain ⟨u, hu⟩ := lk_mem hv
  obtain ⟨i, hi, he⟩ := List.getElem_of_mem hu
  cases h with
  | gh l v' h =>
    refine h i v _ ?_
    unfold ghosts
    rw [List.getElem?_map, List.getElem?_eq_getElem hi, Option.map_some, he]
    simp [hv]
/-- A call that turns what the caller owns. -/
theorem ao_callM {G : World → Prop} {ops : Array Oper} {rest : List Oper} {f : Nat} {xs : List Operand} {ts : Array TypeId} {args : List TV} {objsC R : Objs} {Y : Type} {I : Y → Prop} {O : Y → Objs} {r : Y → TV} (ho : o.op = .call { callee := .value (.func f), args := xs.toArray, argTypes := ts }) (hc : callB P f = true) (hargs : ArgsM env xs args)
    (hct : CtM P G f args objsC I O r) (hG : G w0) (hap : AppO objsC R objs) (hpk : ∀ y, I y → ∀ v w' a, Sim w0 N env (O y ++ R) a w' → Rep w' (O y ++ R) (r y) v → wpList P ops Q rest (a.put o.dst v) w') : AO P w0 N ops Q o rest env objs := ⟨fun a w K hs hK => by
  have heq := hap.eq
  subst heq
  obtain ⟨h1, h2⟩ := argsM_rep (objs := objsC ++ R) (w := w) (a := a) hargs (fun x _ v hv => ev_sim hs hv)
  unfold Oper.wp
  rw [exec_call ho hc]
  refine (hct w0 w R (ghosts env a) (xs.map a.eval).toArray hG hs.mem (ghosts_rep hs) (by simpa using h1) (fun i t v ht hv => h2 i t v ht (by simpa using hv))).mono ?_
  rintro e w' ⟨v, y, rfl, hI, hw', hg, hr⟩
  exact hK _ _ (hpk y hI v w' a ⟨hs.defers, hs.size, hw', ghosts_env hg⟩ hr)⟩
theorem sim_put {a : Act} {w' : World} (hs : Sim w0 N env objs a w') {d : Nat} (hd : Nat.blt d N = true) {tv : TV} {v : Value} (hr : Rep w' objs tv v) : Sim w0 N ((d, tv) :: env) objs (a.put (some d) v) w' := hs.putNew hd hr hs.mem (step_refl _ _)
theorem o_callM {G : World → Prop} {ops : Array Oper} {rest : List Oper} {d T0 : Nat} {pos : String} {af : Array Edge} {g : Option (Nat × Bool)} {f : Nat} {xs : List Operand} {ts : Array TypeId} {args : List TV} {objsC R : Objs} {Y : Type} {I : Y → Prop} {O : Y → Objs} {r : Y → TV} (hN : Nat.blt d N = true) (hc : callB P f = true) (hargs : ArgsM env xs args)
    (hG : G w0) (hct : CtM P G f args objsC I O r) (hap : AppO objsC R objs) (h : ∀ y, I y → AL P w0 N ops Q rest ((d, r y) :: env) (O y ++ R)) : AO P w0 N ops Q ⟨some d, .call { callee := .value (.func f), args := xs.toArray, argTypes := ts }, T0, pos, af, g⟩ rest env objs :=
  ao_callM rfl hc hargs hct hG hap fun y hI v w' a hs hr => (h y hI).run _ _ (sim_put hs hN hr)
end
end Go.Proofs.YtdeokcbbjibkoaaDoor
/- The abstract walk, part 17: a call that gives back new memory that the caller owns from then on. -/
namespace Go.Proofs.YtdeokcbbjibkoaaDoor
open Go Go.RowKit

/-- What lies in new memory alone. -/
inductive NewOk (objs : Objs) : TV → Prop
  | flat (t : TV) (h : t.flat = true) : NewOk objs t
  | nils : NewOk objs .nils
  | ms (s b off len m : Nat) (rows : List (List TV)) (hm : (s, b, TObj.row m rows) ∈ objs) : NewOk objs (.ms s b off len)
  | agg (l : List TV) (h : ∀ t ∈ l, NewOk objs t) : NewOk objs (.agg l)
  | tup (l : List TV) (h : ∀ t ∈ l, NewOk objs t) : NewOk objs (.tup l)
def ObjNew (objs : Objs) : TObj → Prop
  | .row _ rows => ∀ t ∈ rows.flatten, NewOk objs t
  | .box cells => ∀ t ∈ cells, NewOk objs t
  | .void => False
  | .iter _ _ => False
def voids (objs : Objs) : Objs := objs.map fun x => (x.1, 0, TObj.void)
theorem mem_voids {objs : Objs} {x : Nat × Nat × TObj} (h : x ∈ voids objs) : ∃ y ∈ objs, x = (y.1, 0, TObj.void) := by
  obtain ⟨y, hy, rfl⟩ := List.mem_map.1 h
  exact ⟨y, hy, rfl⟩
theorem voids_sites {objs : Objs} (h : List.Pairwise SiteRel objs) : List.Pairwise SiteRel (voids objs) := by
  unfold voids
  rw [List.pairwise_map]
  exact h.imp fun h => ⟨h.1, .inr rfl⟩
section
variable {P : Program} {w0 : World} {N : Nat} {Q : Exit → Act → World → Prop} {env : Env} {objs objs' : Objs} {o : Oper}
theorem step_voids (w : World) (l : Objs) : Step w [] w (voids l) :=
  ⟨fun _ _ _ => rfl, fun b _ ha => by
    obtain ⟨h0, s, o, hm⟩ := ha
    obtain ⟨y, _, he⟩ := mem_voids hm
    simp only [Prod.mk.injEq] at he
    exact absurd he.2.1 h0, fun s b m rows _ hb hm => by
    obtain ⟨y, _, he⟩ := mem_voids hm
    simp only [Prod.mk.injEq] at he
    exact absurd he.2.1 hb, Nat.le_refl _, fun hk => by
    obtain ⟨y, _, he⟩ := mem_voids hk
    simp [marker] at he⟩
theorem simW_voids {w : World} (hw : SimW w0 objs w) : SimW w (voids objs) w :=
  ⟨Below.refl _ _, Nat.lt_of_lt_of_le hw.pos hw.below.size, fun s b o hm => by
    obtain ⟨y, _, he⟩ := mem_voids hm
    simp only [Prod.mk.injEq] at he
    obtain ⟨rfl, rfl, rfl⟩ := he
    rfl, voids_sites hw.sites⟩

theorem flat_any {w : World} {objs objs' : Objs} {t : TV} {v : Value} (hf : t.flat = true) (h : Rep w objs t v) : Rep w objs' t v := by
  cases h with
  | int k n => exact .int k n
  | bool b => exact .bool b
  | str s => exact .str s
  | nilp => exact .nilp
  | _ => cases hf
/-- A block of what is new is new. -/
theorem new_block {w w' : World} {O : Objs} (hD : SimW w (O ++ voids objs) w') (hO : ∀ s b o, (s, b, o) ∈ O → ObjNew O o) {s b : Nat} {o : TObj} (hm : (s, b, o) ∈ O) : b = 0 ∨ w.heap.size ≤ b := by
  have h1 := hD.obj s b o (List.mem_append_left _ hm)
  have h2 := hO s b o hm
  cases o with
  | row m rows => exact h1.2.2.imp (fun h => h.1) (fun h => h.1)
  | box cells => exact .inr h1.1.1
  | void => exact absurd h2 id
  | iter _ _ => exact absurd h2 id
theorem new_rep {w w' : World} {O : Objs} (hw : SimW w0 objs w) (hD : SimW w (O ++ voids objs) w') (hO : ∀ s b o, (s, b, o) ∈ O → ObjNew O o) {t : TV} {v : Value} (hn : NewOk O t) (h : Rep w' (O ++ voids objs) t v) : Rep w' (O ++ objs) t v := by
  induction hn generalizing v with
  | flat t hf => exact flat_any hf h
  | nils => cases h; exact .nils
  | ms s b off len m rows hm =>
    cases h with
    | ms _ _ _ _ _ h =>
      obtain ⟨⟨h1, h2, h3⟩, h4, h5⟩ := h
      refine .ms _ _ _ _ _ ⟨⟨h1, fun hk => ?_, h3⟩, h4, fun m' rows' hb hm' => ?_⟩
      · rcases List.mem_append.1 hk with hk | hk
        · exact h2 (List.mem_append_left _ hk)
        · exact hw.noMark hk
      · rcases List.mem_append.1 hm' with hm' | hm'
        · exact h5 m' rows' hb (List.mem_append_left _ hm')
        · have := objs_lt hw hm'
          rcases new_block hD hO hm with e | e
          · exact absurd e hb
          · omega
  | agg l hl ih =>
    cases h with
    | agg l vs hi h1 h2 => exact .agg l vs hi h1 fun i t v ht hv => ih t (List.mem_of_getElem? ht) (h2 i t v ht hv)
  | tup l hl ih =>
    cases h with
    | tup l vs h1 h2 => exact .tup l vs h1 fun i t v ht hv => ih t (List.mem_of_getElem? ht) (h2 i t v ht hv)
theorem new_step {w w' : World} {O : Objs} (hw : SimW w0 objs w) (hD : SimW w (O ++ voids objs) w') (hO : ∀ s b o, (s, b, o) ∈ O → ObjNew O o) : Step w objs w' (O ++ objs) :=
  ⟨fun b hb _ => hD.below.block b hb, fun b hb ha => by
    obtain ⟨h0, s, o, hm⟩ := ha
    rcases List.mem_append.1 hm with hm | hm
    · rcases new_block hD hO hm with e | e
      · exact absurd e h0
      · omega
    · exact ⟨h0, s, o, hm⟩, fun s b m rows hb h0 hm => by
    rcases List.mem_append.1 hm with hm | hm
    · rcases new_block hD hO hm with e | e
      · exact absurd e h0
      · omega
    · exact ⟨⟨rows, hm⟩, shape_same (hD.below.block b hb)⟩, hD.below.size, fun hk => by
    rcases List.mem_append.1 hk with hk | hk
    · exact absurd (List.mem_append_left _ hk) hD.noMark
    · exact hk⟩
theorem new_simW {w w' : World} {O : Objs} (hw : SimW w0 objs w) (hD : SimW w (O ++ voids objs) w') (hO : ∀ s b o, (s, b, o) ∈ O → ObjNew O o) : SimW w0 (O ++ objs) w' := by
  have hst := new_step hw hD hO
  have hle := hw.below.size
  refine ⟨hw.below.trans (hD.below.mono hle), hw.pos, fun s b o hm => ?_, ?_⟩
  · rcases List.mem_append.1 hm with hm | hm
    · have h1 := hD.obj s b o (List.mem_append_left _ hm)
      have h2 := hO s b o hm
      cases o with
      | row m rows =>
        refine ⟨h1.1, h1.2.1, h1.2.2.imp id fun ⟨g1, cur, e, cap, g2, g3, g4, g5, g6⟩ => ⟨Nat.le_trans hle g1, cur, e, cap, g2, g3, g4, g5, fun j t hj => ?_⟩⟩
        obtain ⟨v, g7, g8⟩ := g6 j t hj
        exact ⟨v, g7, new_rep hw hD hO (h2 t (List.mem_of_getElem? hj)) g8⟩
      | box cells =>
        obtain ⟨⟨g1, g0⟩, cur, e, g2, g3, g6⟩ := h1
        refine ⟨⟨Nat.le_trans hle g1, g0⟩, cur, e, g2, g3, fun j t hj => ?_⟩
        obtain ⟨v, g7, g8⟩ := g6 j t hj
        exact ⟨v, g7, new_rep hw hD hO (h2 t (List.mem_of_getElem? hj)) g8⟩
      | void => exact absurd h2 id
      | iter _ _ => exact absurd h2 id
    · exact (hw.obj s b o hm).step hst (hD.below.block b (objs_lt hw hm))
  · obtain ⟨p1, _, p3⟩ := List.pairwise_append.1 hD.sites
    refine List.pairwise_append.2 ⟨p1, hw.sites, fun x hx y hy => ?_⟩
    refine ⟨(p3 x hx (y.1, 0, .void) (List.mem_map.2 ⟨y, hy, rfl⟩)).1, ?_⟩
    rcases new_block hD hO (s := x.1) (b := x.2.1) (o := x.2.2) hx with e | e
    · exact .inr e
    · have := objs_lt (s := y.1) (b := y.2.1) (ob := y.2.2) hw hy
      exact .inl (by omega)
/-- A call that gives back new memory: the arguments are only looked at. -/
theorem ao_callO {G : World → Prop} {ops : Array Oper} {rest : List Oper} {f : Nat} {xs : List Operand} {ts : Array TypeId} {args : List TV} {Y : Type} {I : Y → Prop} {O : Y → Objs} {r : Y → TV} (ho : o.op = .call { callee := .value (.func f), args := xs.toArray, argTypes := ts }) (hc : callB P f = true) (hargs : Args env objs xs args)
    (hct : CtM P G f args [] I O r) (hG : G w0) (hst : Stable G) (hnew : ∀ y, I y → (∀ s b o, (s, b, o) ∈ O y → ObjNew (O y) o) ∧ NewOk (O y) (r y)) (h : ∀ y, I y → ∀ v w' a, Sim w0 N env (O y ++ objs) a w' → Rep w' (O y ++ objs) (r y) v → wpList P ops Q rest (a.put o.dst v) w') : AO P w0 N ops Q o rest env objs := ⟨fun a w K hs hK => by
  obtain ⟨h1, h2⟩ := args_rep hs.mem (a := a) hargs (fun x _ v hv => ev_sim hs hv)
  unfold Oper.wp
  rw [exec_call ho hc]
  have hw := simW_voids hs.mem
  refine (hct w w (voids objs) [] (xs.map a.eval).toArray (hst.below _ _ hG hs.mem.below) (by simpa using hw) (.gh _ _ (by simp)) (by simpa using h1) (fun i t v ht hv => ?_)).mono ?_
  · exact (h2 i t v ht (by simpa using hv)).step (by simpa using step_voids w objs)
  · rintro e w' ⟨v, y, rfl, hI, hw', _, hr⟩
    obtain ⟨n1, n2⟩ := hnew y hI
    have hst' := new_step hs.mem hw' n1
    exact hK _ _ (h y hI v w' a ⟨hs.defers, hs.size, new_simW hs.mem hw' n1, fun t u hu => (hs.env t u hu).step hst'⟩ (new_rep hs.mem hw' n1 n2 hr))⟩
theorem o_callV {G : World → Prop} {ops : Array Oper} {rest : List Oper} {d T0 : Nat} {pos : String} {af : Array Edge} {g : Option (Nat × Bool)} {f : Nat} {xs : List Operand} {ts : Array TypeId} {args : List TV} {r : Nat → TV} (hN : Nat.blt d N = true) (hc : callB P f = true) (hG : G w0) (hst : Stable G) (hct : Ct P G f args r) (hargs : Args env objs xs args)
    (h : AL P w0 N ops Q rest ((d, r w0.heap.size) :: env) objs) : AO P w0 N ops Q ⟨some d, .call { callee := .value (.func f), args := xs.toArray, argTypes := ts }, T0, pos, af, g⟩ rest env objs := ao_q rfl hN (y_call rfl hc hargs hct hG hst) h
theorem o_callOV {G : World → Prop} {ops : Array Oper} {rest : List Oper} {d T0 : Nat} {pos : String} {af : Array Edge} {g : Option (Nat × Bool)} {f : Nat} {xs : List Operand} {ts : Array TypeId} {args : List TV} {Y : Type} {I : Y → Prop} {O : Y → Objs} {r : Y → TV} (hN : Nat.blt d N = true) (hc : callB P f = true)
    (hG : G w0) (hst : Stable G) (hct : CtM P G f args [] I O r) (hargs : Args env objs xs args) (hnew : ∀ y, I y → (∀ s b o, (s, b, o) ∈ O y → ObjNew (O y) o) ∧ NewOk (O y) (r y)) (h : ∀ y, I y → AL P w0 N ops Q rest ((d, r y) :: env) (O y ++ objs)) : AO P w0 N ops Q ⟨some d, .call { callee := .value (.func f), args := xs.toArray, argTypes := ts }, T0, pos, af, g⟩ rest env objs :=
  ao_callO rfl hc hargs hct hG hst hnew fun y hI v w' a hs hr => (h y hI).run _ _ (sim_put hs hN hr)
theorem View.msAll {s b len m : Nat} {rows : List (List TV)} (hm : (s, b, TObj.row m rows) ∈ objs) (hl : rows.length = len) : View objs (.ms s b 0 len) (.sl 0 m rows) := by
  subst hl
  exact .msSame hm (by omega) (by simp)
theorem flat_new {objs : Objs} {rows : List (List TV)} (h : ∀ t ∈ rows.flatten, t.flat = true) : ∀ t ∈ rows.flatten, NewOk objs t := fun t ht => .flat t (h t ht)

end
end Go.Proofs.YtdeokcbbjibkoaaDoor
/- The abstract walk, part 18: a struct literal in a region that draws its order; a row that is frozen. -/
namespace Go.Proofs.YtdeokcbbjibkoaaDoor
open Go Go.RowKit
section
variable {P : Program} {w0 : World} {N : Nat} {Q : Exit → Act → World → Prop} {env : Env} {objs objs' : Objs} {o : Oper}
end
end Go.Proofs.YtdeokcbbjibkoaaDoor
/- The abstract walk, part 19: function literals that capture values, calls of function values. -/
namespace Go.Proofs.YtdeokcbbjibkoaaDoor
open Go Go.RowKit
section
variable {P : Program} {w0 : World} {N : Nat} {Q : Exit → Act → World → Prop} {env : Env} {objs objs' : Objs} {o : Oper}
inductive Evs (env : Env) : List Operand → List TV → Prop
  | nil : Evs env [] []
  | cons (x : Operand) (xs : List Operand) (t : TV) (ts : List TV) (h : ev env x = some t) (hr : Evs env xs ts) : Evs env (x :: xs) (t :: ts)
theorem evs_rep {w : World} {a : Act} {xs : List Operand} {l : List TV} (h : Evs env xs l) (hop : ∀ x ∈ xs, ∀ v, ev env x = some v → Rep w objs v (a.eval x)) : l.length = xs.length ∧ ∀ (i : Nat) (t : TV) (v : Value), l[i]? = some t → (xs.map a.eval)[i]? = some v → Rep w objs t v := by
  induction h with
  | nil => simp
  | cons x xs t ts h hr ih =>
    obtain ⟨h1, h2⟩ := ih (fun y hy => hop y (by simp [hy]))
    refine ⟨by simpa using h1, fun i u v hu hv => ?_⟩
    cases i with
    | zero => simp at hu hv; subst hu; subst hv; exact hop x (by simp) t h
    | succ i => exact h2 i u v (by simpa using hu) (by simpa using hv)
theorem y_makeFunc {f : Nat} {xs : List Operand} {l : List TV} (ho : o.op = .makeFunc (.func f) #[] xs.toArray) (hx : Evs env xs l) : Yields P w0 env objs o (.fn f l) := yields_same fun a w hw hop => by
  obtain ⟨h1, h2⟩ := evs_rep (objs := objs) (w := w) (a := a) hx (fun x hx v hv => hop x (by simp [ho, Op.operands, hx]) v hv)
  refine ⟨.func (.func f) #[] (xs.map a.eval).toArray, ?_, .fn f l _ (by simpa using h1) (fun i t v ht hv => h2 i t v ht (by simpa using hv))⟩
  simp only [execOp, ho]
  refine exec_v ?_
  simp [Instr.makeFunc, Sem.run_pure, List.map_toArray]
/-- Captured values, as the function that captured them sees them. -/
inductive Views (objs : Objs) : List TV → List TV → Prop
  | nil : Views objs [] []
  | cons (t t' : TV) (l l' : List TV) (h : View objs t t') (hr : Views objs l l') : Views objs (t :: l) (t' :: l')
theorem views_get {l l' : List TV} (h : Views objs l l') : l'.length = l.length ∧ ∀ (i : Nat) (t t' : TV), l[i]? = some t → l'[i]? = some t' → View objs t t' := by
  induction h with
  | nil => simp
  | cons t t' l l' h hr ih =>
    refine ⟨by simpa using ih.1, fun i u u' hu hu' => ?_⟩
    cases i with
    | zero => simp at hu hu'; subst hu; subst hu'; exact h
    | succ i => exact ih.2 i u u' (by simpa using hu) (by simpa using hu')
theorem exec_callF {f : Nat} {x : Operand} {xs : List Operand} {vs : Array Value} {ts : Array TypeId} (ho : o.op = .call { callee := .value x, args := xs.toArray, argTypes := ts }) (hc : callB P f = true) (a : Act) (w : World) (hx : a.eval x = .func (.func f) #[] vs) : (execOp a.eval o).run P w = .ok (.enter f ((xs.map a.eval).toArray ++ vs)) w := by
  simp only [execOp, ho, resolve, hx, Sem.run_bind, Sem.run_pure, Result.andThen_ok, Deferred.ofValue, invoke]
  simp [run_callFunc hc, Sem.run_pure, Result.andThen_ok, List.map_toArray]
theorem y_callF {G : World → Prop} {f : Nat} {x : Operand} {xs : List Operand} {ts : Array TypeId} {l l' args : List TV} {r : Nat → TV} (ho : o.op = .call { callee := .value x, args := xs.toArray, argTypes := ts }) (hx : ev env x = some (.fn f l)) (hc : callB P f = true) (hargs : Args env objs xs args) (hl : Views objs l l')
    (hct : Ct P G f (args ++ l') r) (hG : G w0) (hst : Stable G) : Yields P w0 env objs o (r w0.heap.size) := fun a w K Q hw hop hK => by
  obtain ⟨h1, h2⟩ := args_rep hw (a := a) hargs (fun x hx v hv => hop x (by simp [ho, Op.operands, Call.operands, hx]) v hv)
  have hfn := hop x (by simp [ho, Op.operands, Call.operands]) _ hx
  generalize hv : a.eval x = v at hfn
  cases hfn with
  | fn f l vs g1 g2 =>
    obtain ⟨g3, g4⟩ := views_get hl
    unfold Oper.wp
    rw [exec_callF ho hc a w hv]
    refine (hct w _ (Nat.lt_of_lt_of_le hw.pos hw.below.size) (hst.below _ _ hG hw.below) (by simp at h1; simp; omega) (fun i t v ht hv' => ?_)).mono ?_
    · rw [List.length_map] at h1
      by_cases hi : i < args.length
      · rw [List.getElem?_append_left hi] at ht
        rw [Array.getElem?_append_left (by simp; omega)] at hv'
        exact h2 i t v ht (by simpa using hv')
      · rw [List.getElem?_append_right (by omega)] at ht
        rw [Array.getElem?_append_right (by simp; omega)] at hv'
        simp only [List.size_toArray, List.length_map] at hv'
        rw [h1] at hv'
        obtain ⟨t0, h5⟩ := get_of_len g3 ht
        exact view_rep hw (g4 _ _ _ h5 ht) (g2 _ _ _ h5 hv')
    · rintro e w' ⟨v, rfl, hb, hr⟩
      have hk : ∀ b, b < w.heap.size → w'.heap[b]? = w.heap[b]? := fun b hlt => hb.block b hlt
      have hbel : Below w0.heap.size w0 w' := hw.below.trans (hb.mono hw.below.size)
      exact hK v w' (Rep.ofOld (fun b ha => by obtain ⟨_, s, ob, hm⟩ := ha; exact objs_lt hw hm) (hr _ hw.below.size)) (hw.grow hbel hb.size hk) (step_grow objs hb.size hk)
variable {ops : Array Oper} {rest : List Oper} {d T0 : Nat} {pos : String} {af : Array Edge} {g : Option (Nat × Bool)} {K : Env → Prop}
theorem o_makeFunc {f : Nat} {xs : List Operand} {l : List TV} (hN : Nat.blt d N = true) (hx : Evs env xs l) (h : AL P w0 N ops Q rest ((d, .fn f l) :: env) objs) : AO P w0 N ops Q ⟨some d, .makeFunc (.func f) #[] xs.toArray, T0, pos, af, g⟩ rest env objs := ao_q rfl hN (y_makeFunc rfl hx) h
theorem o_callF {G : World → Prop} {t f : Nat} {xs : List Operand} {ts : Array TypeId} {l l' args all : List TV} {r : Nat → TV} (hN : Nat.blt d N = true) (hx : lk t env = some (.fn f l)) (hc : callB P f = true) (hG : G w0) (hst : Stable G) (hargs : Args env objs xs args) (hl : Views objs l l') (ha : args ++ l' = all) (hct : Ct P G f all r)
    (h : AL P w0 N ops Q rest ((d, r w0.heap.size) :: env) objs) : AO P w0 N ops Q ⟨some d, .call { callee := .value (.tmp t), args := xs.toArray, argTypes := ts }, T0, pos, af, g⟩ rest env objs := ao_q rfl hN (y_callF (x := .tmp t) rfl hx hc hargs hl (ha ▸ hct) hG hst) h
end
end Go.Proofs.YtdeokcbbjibkoaaDoor
/- The abstract walk, part 20: a region that draws its order in which one variable is made, anywhere, and is set at the end. -/
namespace Go.Proofs.YtdeokcbbjibkoaaDoor
open Go Go.RowKit
/-- Quiet operations, whatever the call owns. -/
inductive DU (P : Program) (w0 : World) (N : Nat) (K : Env → Prop) : List Oper → Env → Prop
  | nil (env : Env) (h : K env) : DU P w0 N K [] env
  | run (o : Oper) (rest : List Oper) (env : Env) (d : Nat) (tv : TV) (hd : o.dst = some d) (hN : Nat.blt d N = true) (hg : o.guard = none) (hy : ∀ objs, Yields P w0 env objs o tv) (h : DU P w0 N K rest ((d, tv) :: env)) : DU P w0 N K (o :: rest) env
section
variable {P : Program} {w0 : World} {N : Nat} {Q : Exit → Act → World → Prop} {objs : Objs} {ops : Array Oper} {env : Env}
/-- What holds when X of the first k operations has been carried out, the making of the variable among them or not. -/
def JZ (w0 : World) (N : Nat) (ops : Array Oper) (objs : Objs) (σ : Nat → Env) (k ia d : Nat) (zs : List TV) (X : Nat → Prop) (a : Act) (w : World) : Prop :=
  (¬ X ia ∧ JY w0 N ops objs σ k X a w) ∨ (X ia ∧ ∃ ss b, JY w0 N ops ((ss, b, .box zs) :: objs) σ k X a w ∧ Rep w ((ss, b, .box zs) :: objs) (.mp ss b 0) (a.tmps.getD d undef))
theorem JZ.congr {σ : Nat → Env} {k ia d : Nat} {zs : List TV} {X Y : Nat → Prop} {a : Act} {w : World} (h : JZ w0 N ops objs σ k ia d zs X a w) (hXY : ∀ i, Y i ↔ X i) : JZ w0 N ops objs σ k ia d zs Y a w := by
  have : Y = X := funext fun i => propext (hXY i)
  rw [this]; exact h
variable {K : Env → Prop} {rest : List Oper} {d T0 : Nat} {pos : String} {af : Array Edge}
end
end Go.Proofs.YtdeokcbbjibkoaaDoor
/- The abstract walk, part 21: the range over a string of plain bytes; a variable that is written no more. -/
namespace Go.Proofs.YtdeokcbbjibkoaaDoor
open Go Go.RowKit
section
variable {P : Program} {w0 : World} {N : Nat} {Q : Exit → Act → World → Prop} {objs objs' : Objs} {ops : Array Oper} {env : Env} {o : Oper}
theorem step_newO {w : World} (hw : SimW w0 objs w) (x : Obj) (d : Nat) (ob : TObj) : Step w objs (w.alloc x) ((d, w.heap.size, ob) :: objs) := by
  have hk : ∀ b, b < w.heap.size → (w.alloc x).heap[b]? = w.heap[b]? := fun b hb => Below.heap_alloc w _ b hb
  have hpos : 0 < w.heap.size := Nat.lt_of_lt_of_le hw.pos hw.below.size
  refine ⟨fun b h _ => hk b h, fun b h ha => ⟨ha.1, ?_⟩, fun s b m rows h _ hm => ?_, by simp, fun hm => ?_⟩
  · obtain ⟨s, o, hm⟩ := ha.2
    rcases List.mem_cons.1 hm with he | hm
    · simp only [Prod.mk.injEq] at he; omega
    · exact ⟨s, o, hm⟩
  · rcases List.mem_cons.1 hm with he | hm
    · simp only [Prod.mk.injEq] at he; omega
    · exact ⟨⟨rows, hm⟩, shape_same (hk b h)⟩
  · rcases List.mem_cons.1 hm with he | hm
    · simp only [marker, Prod.mk.injEq] at he; omega
    · exact hm
theorem SimW.newObjO {w : World} (hw : SimW w0 objs w) {x : Obj} {d : Nat} {ob : TObj} (hd : ∀ x ∈ objs, x.1 ≠ d)
    (ho : ObjOk (w.alloc x) w0.heap.size ((d, w.heap.size, ob) :: objs) w.heap.size ob) : SimW w0 ((d, w.heap.size, ob) :: objs) (w.alloc x) :=
  ⟨hw.below.alloc hw.below.size _, hw.pos, fun s b o hm => by
    rcases List.mem_cons.1 hm with he | hm
    · simp only [Prod.mk.injEq] at he; obtain ⟨rfl, rfl, rfl⟩ := he; exact ho
    · exact (hw.obj s b o hm).step (step_newO hw x d ob) (Below.heap_alloc w _ b (objs_lt hw hm)),
  List.pairwise_cons.2 ⟨fun y hy => ⟨fun e => hd y hy e.symm, .inl (Nat.ne_of_gt (objs_lt (s := y.1) (ob := y.2.2) hw hy))⟩, hw.sites⟩⟩
theorem ao_range {rest : List Oper} {d : Nat} {T : TypeId} {x : Operand} {s : ByteArray} (ho : o.op = .range T x) (hd : o.dst = some d) (hN : Nat.blt d N = true) (hx : ev env x = some (.str s)) (hT : P.underlying T = some .string)
    (h : ∀ ss b, AL P w0 N ops Q rest ((d, .mp ss b 0) :: env) ((ss, b, .iter s 0) :: objs)) : AO P w0 N ops Q o rest env objs := ⟨fun a w K hs hK => by
    obtain ⟨ss, hf⟩ := site_new objs
    have hxs := (ev_sim hs hx).str_inv
    have hst := step_newO hs.mem (.stringIter s 0) ss (.iter s 0)
    have hrun : (execOp a.eval o).run P w = .ok (.value (.pointer (some ⟨w.heap.size, 0, none⟩))) (w.alloc (.stringIter s 0)) := by
      simp only [execOp, ho, hxs]
      refine exec_v ?_
      rw [run_range_string w T s hT]; rfl
    unfold Oper.wp
    rw [hrun]
    refine hK _ _ ?_
    rw [hd]
    exact (h ss w.heap.size).run _ _ (hs.putNew hN (.mp ss _ 0 ⟨by simp, noMark_new hs.mem #[] 0 ss _⟩) (hs.mem.newObjO hf ⟨hs.mem.below.size, World.iter_heap w s 0⟩) hst)⟩
theorem run_next_a {w : World} {b : Nat} {s : ByteArray} {pos : Nat} {ty : TypeId} (hb : w.heap[b]? = some (.stringIter s pos)) (h : pos < s.size) (ha : (s[pos]'h).toNat < 128) :
    (Instr.next (.pointer (some ⟨b, 0, none⟩)) true ty).run P w = .ok (.tuple #[.bool true, .int .i64 pos, .int .i32 (s[pos]'h).toNat]) { w with heap := w.heap.setIfInBounds b (.stringIter s (pos + 1)) } := by
  simp only [Instr.next, getObj, setObj, Sem.run_bind, Sem.run, hb, Result.andThen, h, if_true, decode_ascii s pos h ha]
  simp [goInt, Sem.run, hb]
theorem run_next_z {w : World} {b : Nat} {s : ByteArray} {pos : Nat} {ty : TypeId} (hb : w.heap[b]? = some (.stringIter s pos)) (h : ¬ pos < s.size) :
    (Instr.next (.pointer (some ⟨b, 0, none⟩)) true ty).run P w = .ok (.tuple #[.bool false]) w := by
  simp [Instr.next, getObj, Sem.run, hb, h]
theorem ao_next_e {rest : List Oper} {d : Nat} {x : Operand} {ss b pos : Nat} {s : ByteArray} (ho : o.op = .next x true) (hd : o.dst = some d) (hN : Nat.blt d N = true) (hx : ev env x = some (.mp ss b 0)) (hm : (ss, b, TObj.iter s pos) ∈ objs) (hp : ¬ pos < s.size)
    (h : AL P w0 N ops Q rest ((d, .tup [.bool false]) :: env) objs) : AO P w0 N ops Q o rest env objs := ⟨fun a w K hs hK => by
    have hob := hs.mem.obj ss b _ hm
    have hxa := ev_sim hs hx
    generalize hax : a.eval x = ax at hxa
    cases hxa with
    | mp s b off hb =>
    have hrun : (execOp a.eval o).run P w = .ok (.value (.tuple #[.bool false])) w := by
      simp only [execOp, ho, hax]
      refine exec_v ?_
      exact run_next_z hob.2 hp
    unfold Oper.wp
    rw [hrun]
    refine hK _ _ ?_
    rw [hd]
    exact h.run _ _ (hs.putNew hN (.tup _ _ rfl fun i t v ht hv => by
      match i, ht, hv with
      | 0, ht, hv => cases ht; cases hv; exact .bool _) hs.mem (step_refl _ _))⟩
theorem ao_next_t {rest : List Oper} {d : Nat} {x : Operand} {ss b pos : Nat} {s : ByteArray} {n : Int} (ho : o.op = .next x true) (hd : o.dst = some d) (hN : Nat.blt d N = true) (hx : ev env x = some (.mp ss b 0)) (hu : Upd (ss, b, .iter s pos) (ss, b, .iter s (pos + 1)) objs objs') (hp : pos < s.size) (ha : (s[pos]'hp).toNat < 128) (hn : ((s[pos]'hp).toNat : Int) = n)
    (h : AL P w0 N ops Q rest ((d, .tup [.bool true, .int .i64 (pos : Int), .int .i32 n]) :: env) objs') : AO P w0 N ops Q o rest env objs := ⟨fun a w K hs hK => by
    subst hn
    obtain ⟨hB, hb⟩ := hs.mem.obj ss b _ hu.mem
    have hxa := ev_sim hs hx
    generalize hax : a.eval x = ax at hxa
    cases hxa with
    | mp ss b off hbb =>
    have hrun : (execOp a.eval o).run P w = .ok (.value (.tuple #[.bool true, .int .i64 pos, .int .i32 (s[pos]'hp).toNat])) { w with heap := w.heap.setIfInBounds b (.stringIter s (pos + 1)) } := by
      simp only [execOp, ho, hax]
      refine exec_v ?_
      exact run_next_a hb hp ha
    unfold Oper.wp
    rw [hrun]
    refine hK _ _ ?_
    rw [hd]
    have hb0 : b ≠ 0 := by have := hs.mem.pos; omega
    have hlt : b < w.heap.size := hbb.1
    have hkk : ∀ k, k < w.heap.size → k ≠ b ∨ b = 0 → ({ w with heap := w.heap.setIfInBounds b (.stringIter s (pos + 1)) } : World).heap[k]? = w.heap[k]? := fun k _ hk => by
      have hkb := hk.resolve_right hb0
      show (w.heap.setIfInBounds b _)[k]? = _
      rw [Array.getElem?_setIfInBounds, if_neg (Ne.symm hkb)]
    have hnew : ({ w with heap := w.heap.setIfInBounds b (.stringIter s (pos + 1)) } : World).heap[b]? = some (.stringIter s (pos + 1)) := by
      show (w.heap.setIfInBounds b _)[b]? = _
      simp [hlt]
    have hsh : ({ w with heap := w.heap.setIfInBounds b (.stringIter s (pos + 1)) } : World).shape? b = w.shape? b := by
      unfold World.shape?; rw [hnew, hb]
    have hst := step_upd (m := 0) hs.mem hu (w' := { w with heap := w.heap.setIfInBounds b (.stringIter s (pos + 1)) }) (by simp) hkk (.inl rfl) (by simp) (by simp) (fun _ _ => hsh) (by simp [marker])
    have hbel : Below w0.heap.size w0 { w with heap := w.heap.setIfInBounds b (.stringIter s (pos + 1)) } := hs.mem.below.trans ⟨rfl, rfl, rfl, by simp, fun k hk => hkk k (by have := hs.mem.below.size; omega) (.inl (by omega))⟩
    exact h.run _ _ (hs.putNew hN (.tup _ _ rfl fun i t v ht hv => by
      match i, ht, hv with
      | 0, ht, hv => cases ht; cases hv; exact .bool _
      | 1, ht, hv => cases ht; cases hv; exact .int _ _
      | 2, ht, hv => cases ht; cases hv; exact .int _ _) (hs.mem.upd hu hbel hkk (.inl rfl) hst ⟨hB, hnew⟩) hst)⟩
/-- A variable that the call owned is written no more. -/
theorem Sim.freezeB {a : Act} {w : World} (hs : Sim w0 N env objs a w) {t s b : Nat} {cells : List TV} (hx : lk t env = some (.mp s b 0)) (hd : DelS s b (.box cells) objs objs') : Sim w0 N ((t, .cp w0.heap.size cells) :: env) objs' a w := by
  have hdel : Pick ((s, b, .box cells) :: objs') objs := .perm hd.del.perm
  have hp : Pick objs' objs := (Pick.drop (.refl _)).trans hdel
  have hmem : (s, b, TObj.box cells) ∈ objs := hdel.mem _ List.mem_cons_self
  have hpw := hdel.sites hs.mem.sites
  have hna : ¬ alive objs' b := fun ha => by
    obtain ⟨h0, s', o', hm'⟩ := ha
    have := (List.pairwise_cons.1 hpw).1 _ hm'
    rcases this.2 with h | h
    · exact h rfl
    · exact h0 h
  have hs' := hs.pick hp
  refine ⟨hs'.defers, hs'.size, hs'.mem, fun t' v hv => ?_⟩
  rw [lk_cons] at hv
  split at hv
  · rename_i he
    subst he
    cases hv
    obtain ⟨⟨hB, hci⟩, cur, e, h3, h4, h5⟩ := hs.mem.obj s b _ hmem
    have hr := hs.env t _ hx
    generalize a.tmps.getD t undef = v at hr
    cases hr with
    | mp s b off hb =>
    have key : ∀ j, ∃ u, ∀ t', cells[j]? = some t' → w.cell? ⟨b, 0 + j, none⟩ = some u ∧ Rep w objs' t' u := fun j => by
      cases hj : cells[j]? with
      | none => exact ⟨undef, fun t' ht => by cases ht⟩
      | some t0 =>
        obtain ⟨u, p1, p2⟩ := h5 j t0 hj
        exact ⟨u, fun t' ht => by cases ht; exact ⟨by rw [cell_of_row w b _ cur e (0, 0) h3, Nat.zero_add]; exact p1, p2.step (step_sub hp w)⟩⟩
    exact .cp _ cells hci b 0 (fun j => Classical.choose (key j)) ⟨hB, hna⟩ hb.1 (fun j t hj => (Classical.choose_spec (key j) t hj).1) (fun j t hj => (Classical.choose_spec (key j) t hj).2)
  · exact hs'.env t' v hv
theorem aw_freezeB {c : Code} {t s b : Nat} {cells : List TV} (hx : lk t env = some (.mp s b 0)) (hd : DelS s b (.box cells) objs objs') (h : AW P w0 N c Q ((t, .cp w0.heap.size cells) :: env) objs') : AW P w0 N c Q env objs := ⟨fun a w hs => h.run a w (hs.freezeB hx hd)⟩
variable {rest : List Oper} {d T0 : Nat} {pos : String} {af : Array Edge} {g : Option (Nat × Bool)}
theorem o_range {T : TypeId} {x : Operand} {s : ByteArray} (hN : Nat.blt d N = true) (hx : ev env x = some (.str s)) (hT : P.underlying T = some .string) (h : ∀ ss b, AL P w0 N ops Q rest ((d, .mp ss b 0) :: env) ((ss, b, .iter s 0) :: objs)) : AO P w0 N ops Q ⟨some d, .range T x, T0, pos, af, g⟩ rest env objs := ao_range rfl rfl hN hx hT h
theorem o_next_e {x : Operand} {ss b p : Nat} {s : ByteArray} (hN : Nat.blt d N = true) (hx : ev env x = some (.mp ss b 0)) (hm : (ss, b, TObj.iter s p) ∈ objs) (hp : ¬ p < s.size) (h : AL P w0 N ops Q rest ((d, .tup [.bool false]) :: env) objs) : AO P w0 N ops Q ⟨some d, .next x true, T0, pos, af, g⟩ rest env objs := ao_next_e rfl rfl hN hx hm hp h
theorem o_next_t {x : Operand} {ss b p : Nat} {s : ByteArray} {n : Int} (hN : Nat.blt d N = true) (hx : ev env x = some (.mp ss b 0)) (hu : Upd (ss, b, .iter s p) (ss, b, .iter s (p + 1)) objs objs') (hp : p < s.size) (ha : bat s p < 128) (hn : bat s p = n) (h : AL P w0 N ops Q rest ((d, .tup [.bool true, .int .i64 (p : Int), .int .i32 n]) :: env) objs') : AO P w0 N ops Q ⟨some d, .next x true, T0, pos, af, g⟩ rest env objs := ao_next_t rfl rfl hN hx hu hp (by rw [bat_eq s hp] at ha; omega) (by rw [← bat_eq s hp]; exact hn) h
end
end Go.Proofs.YtdeokcbbjibkoaaDoor
/- The abstract walk, part 22: append of a string's bytes. -/
namespace Go.Proofs.YtdeokcbbjibkoaaDoor
open Go Go.RowKit
section
variable {P : Program} {w0 : World} {N : Nat} {Q : Exit → Act → World → Prop} {objs objs' : Objs} {ops : Array Oper} {env : Env} {o : Oper}
theorem run_append_room_str_at {w : World} (t u ty e e' : TypeId) (i : TypeInfo) (ht : P.underlying t = some (.slice e)) (hu : P.underlying u = some .string) (hi : P.info? e = some i)
    (g q sLen sCap : Nat) (cur : Array Value) (hg : w.heap[g]? = some (.cells cur e' (0, 0))) (s : ByteArray)
    (hroom : sLen + s.size ≤ sCap) (hfit : q + sLen * i.size + (Lib.strCells s).length ≤ cur.size) :
    (Builtin.append_ #[t, u] ty #[.slice (some ⟨g, q, none⟩) sLen sCap, .string s]).run P w =
      .ok (.slice (some ⟨g, q, none⟩) (sLen + s.size) sCap) (w.setRow g (cur.toList.take (q + sLen * i.size) ++ Lib.strCells s ++ cur.toList.drop (q + sLen * i.size + (Lib.strCells s).length)).toArray) := by
  have hf := Lib.run_firstCells_string (P := P) w i.size s
  have hst := run_storeCells_at P g (q + sLen * i.size) e' (Lib.strCells s) 0 cur w hg (by simpa using hfit) (Lib.strCells_oneCell s)
  simp only [Nat.add_zero] at hst
  simp [Builtin.append_, run_underlying ht, run_underlying hu, sizeOf, typeInfo, hi, Builtin.lenOf, hroom, hf, Addr.add_lit, hst]
theorem app_core_s {w : World} (hw : SimW w0 objs w) {T U ty s b off len m : Nat} {rows : List (List TV)} {t : ByteArray} (hm1 : m = 1) (hmem : (s, b, TObj.row m rows) ∈ objs) {v1 : Value} (h1 : Rep w objs (.ms s b off len) v1) (hU : P.underlying U = some .string)
    (hT : appOk P T m = true) (hl : off + len ≤ rows.length) (hbig : len + t.size ≤ 1000000000) :
    ∃ b' off' pre v' w', (Builtin.append_ #[T, U] ty #[v1, .string t]).run P w = .ok v' w' ∧ AppEnd w0 w objs s b off len m (bytR t.data.toList).length rows (bytR t.data.toList) b' off' pre v' w' := by
  obtain ⟨e, i, z, hu, hie, hz, hisz, hzs, hby⟩ := appOk_spec hT
  obtain ⟨⟨hm0, hci⟩, hm, hor⟩ := hw.obj s b _ hmem
  have ht : t.size = (bytR t.data.toList).length := by rw [bytR_length]; exact (size_toList t).symm
  have g3 : ∀ r ∈ bytR t.data.toList, r.length = m := fun r hr => by
    rw [hm1]
    simp only [bytR, List.mem_map] at hr
    obtain ⟨x, _, rfl⟩ := hr; rfl
  have g4 : ∀ u ∈ (bytR t.data.toList).flatten, u.isCell = true := fun u hu => by
    rw [bytR_flatten] at hu
    obtain ⟨x, _, rfl⟩ := List.mem_map.1 hu; rfl
  obtain ⟨nv, hnv⟩ : ∃ nv, nv = Lib.strCells t := ⟨_, rfl⟩
  have n2 := Lib.strCells_oneCell t
  have n1 : nv.length = (bytR t.data.toList).length := by rw [hnv, Lib.strCells_length, ht]
  have n4 : ∀ (j : Nat) (u : TV), (bytR t.data.toList).flatten[j]? = some u → ∃ x, nv[j]? = some x ∧ Rep w objs u x := fun j u hj => by
    rw [bytR_flatten, List.getElem?_map] at hj
    rw [hnv, Lib.strCells, List.getElem?_map]
    cases hx : t.data.toList[j]? with
    | none => rw [hx] at hj; cases hj
    | some x => rw [hx] at hj; cases hj; exact ⟨_, rfl, .int _ _⟩
  rw [← hnv] at n2
  generalize bytR t.data.toList = news at ht g3 g4 n1 n4 ⊢
  have hms := (rep_ms h1).or m rows hmem
  have hpos : 0 < w.heap.size := Nat.lt_of_lt_of_le hw.pos hw.below.size
  have hblt := (rep_ms h1).1.1
  rw [ht] at hbig
  by_cases hn0 : news = []
  · -- nothing is appended
    subst hn0
    refine ⟨b, off, rows.take off, v1, w, ?_, ?_⟩
    · have hf := Lib.run_firstCells_string (P := P) w i.size t
      have hnv0 : nv = [] := List.eq_nil_of_length_eq_zero (by rw [n1]; rfl)
      rw [← hnv, hnv0] at hf
      have ht0 : t.size = 0 := ht
      rw [ht0] at hf
      rcases hms with ⟨_, _, _, rfl⟩ | ⟨_, o, c, e', k, rfl, hlc, _⟩
      · simp [Builtin.append_, run_underlying hu, run_underlying hU, sizeOf, typeInfo, hie, Builtin.lenOf, ht0, hf]
      · simp [Builtin.append_, run_underlying hu, run_underlying hU, sizeOf, typeInfo, hie, Builtin.lenOf, ht0, hf, hlc, storeCells]
    · refine ⟨by simp; omega, fun r hr => hm r (List.mem_of_mem_take hr), fun t ht => by
          obtain ⟨r, hr, htr⟩ := List.mem_flatten.1 ht
          exact hci t (List.mem_flatten.2 ⟨r, List.mem_of_mem_take hr, htr⟩), id, .inl rfl, hw.below, Nat.le_refl _, fun _ _ _ => rfl, fun _ _ => rfl, ?_, ?_, hblt⟩
      · simpa using hms
      · rw [List.append_nil, take_rows]
        rcases hor with ⟨h3, rfl⟩ | ⟨hB, cur, e', cap, h3, h4, h5, h6, h7⟩
        · exact .inl ⟨h3, by simp⟩
        · refine .inr ⟨hB, cur, e', cap, h3, h4, by simp; omega, h6, fun j t hj => h7 j t ?_⟩
          rw [flatten_take hm, List.getElem?_take] at hj
          split at hj
          · exact hj
          · cases hj
  · have hnpos : 0 < news.length := List.length_pos_iff.2 hn0
    have hfl := length_flatten g3
    have n1f : nv.length = news.length * m := by rw [n1, hm1, Nat.mul_one]
    have n1' : nv.length = news.length * i.size := by rw [n1f, hisz]
    clear n1
    have n1 := n1f
    -- what a new block holds
    have fresh : ∀ (old : Nat) (olds : List Value) (live : List (List TV)), live.length = len → (∀ r ∈ live, r.length = m) → olds.length = len * m → (∀ (j : Nat) (t : TV), live.flatten[j]? = some t → ∃ u, olds[j]? = some u ∧ Rep w objs t u) → live = (rows.drop off).take len →
        AppEnd w0 w objs s b off len m news.length rows news w.heap.size 0 [] (.slice (some ⟨w.heap.size, 0, none⟩) (len + news.length) (grownCap w (len + news.length) old e))
          (w.drew.alloc (.cells (olds.toArray ++ nv.toArray ++ Builtin.zeroCells z.cells (grownCap w (len + news.length) old e - (len + news.length))) e)) := by
      intro old olds live l1 l2 l3 l4 l5
      have hge := grownCap_ge w (len + news.length) old e
      have hcm : grownCap w (len + news.length) old e ≤ maxLen := grownCap_le_maxLen w (len + news.length) old e (by simp only [maxLen]; omega)
      have hkeep : ∀ k, k < w.heap.size → ∀ ob, (w.drew.alloc ob).heap[k]? = w.heap[k]? := fun k hk ob => Below.heap_alloc w.drew ob k hk
      have hsize : (olds.toArray ++ nv.toArray ++ Builtin.zeroCells z.cells (grownCap w (len + news.length) old e - (len + news.length))).size = grownCap w (len + news.length) old e * m := by
        simp only [Array.size_append, List.size_toArray, size_zeroCells, hzs, l3, n1, ← Nat.add_mul]
        congr 1; omega
      have hb0 : w.heap.size ≠ 0 := by omega
      have hshp : (w.drew.alloc (.cells (olds.toArray ++ nv.toArray ++ Builtin.zeroCells z.cells (grownCap w (len + news.length) old e - (len + news.length))) e)).shape? w.heap.size = some (e, grownCap w (len + news.length) old e * m) := by
        unfold World.shape?
        rw [show (w.drew.alloc (.cells (olds.toArray ++ nv.toArray ++ Builtin.zeroCells z.cells (grownCap w (len + news.length) old e - (len + news.length))) e)).heap[w.heap.size]? = some (.cells _ e (0, 0)) from heap_alloc_new w.drew _]
        simp only [hsize]
      refine ⟨rfl, by simp, by simp, fun _ => rfl, .inr (Nat.le_refl _), hw.below.trans ⟨rfl, rfl, rfl, by simp, fun k hk => hkeep k (Nat.lt_of_lt_of_le hk hw.below.size) _⟩, by simp, fun k hk _ => hkeep k hk _, fun h _ => absurd (h ▸ hblt) (Nat.lt_irrefl _), .inr ⟨hb0, 0, _, e, _, rfl, hge, hshp, by rw [Nat.zero_add], fun _ => by simp⟩, .inr ⟨hw.below.size, _, e, _, heap_alloc_new w.drew _, hsize, ?_, hcm, fun j t hj => ?_⟩, by simp⟩
      · rw [List.nil_append, ← l5, List.length_append, l1]; exact hge
      · rw [List.nil_append, ← l5, List.flatten_append] at hj
        have hlf : live.flatten.length = len * m := by rw [length_flatten l2, l1]
        by_cases hjl : j < len * m
        · rw [List.getElem?_append_left (by omega)] at hj
          obtain ⟨u, h5, h6⟩ := l4 j t hj
          exact ⟨u, by rw [Array.getElem?_append_left (by simp; omega), Array.getElem?_append_left (by simp; omega)]; simpa using h5, h6⟩
        · rw [List.getElem?_append_right (by omega), hlf] at hj
          obtain ⟨u, h5, h6⟩ := n4 _ t hj
          have : j - len * m < nv.length := (List.getElem?_eq_some_iff.1 h5).1
          exact ⟨u, by rw [Array.getElem?_append_left (by simp; omega), Array.getElem?_append_right (by simp; omega)]; simpa [l3] using h5, h6⟩
    have hlive : ((rows.drop off).take len).length = len := by simp; omega
    have hlivem : ∀ r ∈ (rows.drop off).take len, r.length = m := fun r hr => hm r (List.mem_of_mem_drop (List.mem_of_mem_take hr))
    rcases hms with ⟨hb, hoff, hlen, rfl⟩ | ⟨hb0, o, c, e', k, rfl, hlc, hsh, hk, ho⟩
    · -- onto nil
      subst hlen
      have hr := run_append_nil_string (P := P) w T U ty e i z hu hU hie hz t (by omega) (by omega) (by have : t.size * i.bytes ≤ 1000000000 * 4096 := Nat.mul_le_mul (by omega) hby; omega)
      have e1 : (t.data.map fun b => Value.int .u8 b.toNat) = nv.toArray := by
        rw [hnv]
        apply Array.ext'
        simp [Lib.strCells]
      rw [e1, ht] at hr
      have hf := fresh 0 [] ((rows.drop off).take 0) hlive hlivem (by simp) (by simp) rfl
      simp only [Nat.zero_add, Array.empty_append] at hf
      refine ⟨w.heap.size, 0, [], _, _, hr, ?_⟩
      simpa using hf
    · rcases hor with ⟨h0, _⟩ | ⟨hB, cur, e'', cap, h3, h4, h5, h6, h7⟩
      · exact absurd h0 hb0
      have hshape : (e'', cur.size) = (e', k) := by
        have : w.shape? b = some (e'', cur.size) := by unfold World.shape?; rw [h3]
        rw [this] at hsh; simpa using hsh
      have hkc : cur.size = (off + c) * m := by have := congrArg Prod.snd hshape; simp only at this; omega
      by_cases hroom : len + news.length ≤ c
      · -- there is room
        have hoe := ho (.inl (by omega))
        subst hoe
        have hmul : (off + (len + news.length)) * m ≤ (off + c) * m := Nat.mul_le_mul_right _ (by omega)
        rw [Nat.add_mul, Nat.add_mul] at hmul
        have hfit : off * m + len * i.size + nv.length ≤ cur.size := by rw [hisz, n1, hkc]; omega
        have hr := run_append_room_str_at (P := P) (w := w) T U ty e e'' i hu hU hie b (off * m) len c cur h3 t (by omega) (by rw [← hnv]; exact hfit)
        rw [← hnv, ht] at hr
        rw [hisz] at hr hfit
        have hnewsize : (cur.toList.take (off * m + len * m) ++ nv ++ cur.toList.drop (off * m + len * m + nv.length)).toArray.size = cur.size := by simp; omega
        refine ⟨b, off, rows.take off, _, _, hr, by simp; omega, fun r hr => hm r (List.mem_of_mem_take hr), fun t ht => by
          obtain ⟨r, hr, htr⟩ := List.mem_flatten.1 ht
          exact hci t (List.mem_flatten.2 ⟨r, List.mem_of_mem_take hr, htr⟩), id, .inl rfl, setRow_below hw.below hB _, by simp, fun k _ hk => setRow_other w b k _ (hk.resolve_right hb0), fun _ _ => ?_, .inr ⟨hb0, off * m, c, e'', cur.size, rfl, hroom, ?_, hkc, fun _ => rfl⟩, .inr ⟨hB, _, e'', cap, setRow_heap w b cur _ e'' _ h3, by rw [hnewsize]; exact h4, ?_, h6, fun j t hj => ?_⟩, by simpa using hblt⟩
        · unfold World.shape?; rw [setRow_heap w b cur _ e'' _ h3, h3]; simp only [hnewsize]
        · unfold World.shape?; rw [setRow_heap w b cur _ e'' _ h3]; simp only [hnewsize]
        · have hcap : cap = off + c := by
            have : cap * m = (off + c) * m := by omega
            exact Nat.eq_of_mul_eq_mul_right hm0 this
          rw [← List.append_assoc, take_rows]; simp; omega
        · rw [← List.append_assoc, take_rows, List.flatten_append, flatten_take hm] at hj
          have hcur : ∀ i : Nat, cur.toList[i]? = cur[i]? := fun i => by simp
          have hlf : (rows.flatten.take ((off + len) * m)).length = off * m + len * m := by
            rw [List.length_take, length_flatten hm, ← Nat.add_mul]
            exact Nat.min_eq_left (Nat.mul_le_mul_right _ hl)
          simp only [List.getElem?_toArray]
          by_cases hjl : j < off * m + len * m
          · rw [List.getElem?_append_left (by omega), List.getElem?_take, if_pos (by rw [Nat.add_mul]; exact hjl)] at hj
            obtain ⟨u, p1, p2⟩ := h7 j t hj
            exact ⟨u, by rw [List.getElem?_append_left (by simp; omega), List.getElem?_append_left (by simp; omega), List.getElem?_take, if_pos hjl, hcur]; exact p1, p2⟩
          · rw [List.getElem?_append_right (by omega), hlf] at hj
            obtain ⟨u, p1, p2⟩ := n4 _ t hj
            have : j - (off * m + len * m) < nv.length := (List.getElem?_eq_some_iff.1 p1).1
            refine ⟨u, ?_, p2⟩
            rw [List.getElem?_append_left (by simp; omega), List.getElem?_append_right (by simp; omega)]
            simp only [List.length_take, Array.length_toList]
            rw [show min (off * m + len * m) cur.size = off * m + len * m by omega]; exact p1
      · -- a new block
        have holds : ∃ olds : List Value, olds.length = len * m ∧ (∀ (j : Nat) (u : Value), olds[j]? = some u → w.cell? ((⟨b, o, none⟩ : Addr).add j) = some u) ∧ ∀ (j : Nat) (t : TV), ((rows.drop off).take len).flatten[j]? = some t → ∃ u, olds[j]? = some u ∧ Rep w objs t u := by
          by_cases hlen : len = 0
          · subst hlen; exact ⟨[], by simp, by simp, by simp⟩
          · have hoe := ho (.inl (by omega))
            subst hoe
            obtain ⟨nv', m1, m2, _, m4⟩ := cells_list (w := w) (b := b) (q := off * m) (objs := objs) (l := ((rows.drop off).take len).flatten) (n := len * m) (by rw [length_flatten hlivem, hlive]) (fun t ht => by
                obtain ⟨r, hr, htr⟩ := List.mem_flatten.1 ht
                exact hci t (List.mem_flatten.2 ⟨r, List.mem_of_mem_drop (List.mem_of_mem_take hr), htr⟩)) (fun j t hj => by
                rw [flatten_take (fun r hr => hm r (List.mem_of_mem_drop hr)), flatten_drop hm, List.getElem?_take] at hj
                split at hj
                · rw [List.getElem?_drop] at hj
                  obtain ⟨u, p1, p2⟩ := h7 _ t hj
                  exact ⟨u, by rw [cell_of_row w b _ cur e'' (0, 0) h3]; exact p1, p2⟩
                · cases hj)
            exact ⟨nv', m1, m2, m4⟩
        obtain ⟨olds, o1, o2, o3⟩ := holds
        have hr := Lib.run_append_grow_string (P := P) w T U ty e i z hu hU hie hz ⟨b, o, none⟩ len c olds (by rw [o1, hisz]) o2 t (by omega) (by omega) (growslice_fits (by omega) (by have : (len + t.size) * i.bytes ≤ 1000000000 * 4096 := Nat.mul_le_mul (by omega) hby; omega))
        rw [← hnv, ht] at hr
        exact ⟨w.heap.size, 0, [], _, _, hr, fresh c olds _ hlive hlivem o1 o3 rfl⟩

theorem exec_append_s {x y : Operand} {T U : TypeId} {s : ByteArray} (ho : o.op = .call { callee := .builtin .append, args := #[x, y], argTypes := #[T, U] }) {a : Act} {w w' : World} {v : Value} (hy : a.eval y = .string s) (h : (Builtin.append_ #[T, U] o.type #[a.eval x, .string s]).run P w = .ok v w') :
    (execOp a.eval o).run P w = .ok (.value v) w' := by
  simp only [execOp, ho, resolve, Sem.run_bind, Sem.run_pure, Result.andThen_ok, invoke, builtin, List.map_toArray, List.map_cons, List.map_nil, hy]
  rw [h]; rfl
theorem ao_append_s {objsOf : Nat → Objs} {ops : Array Oper} {rest : List Oper} {d T U s b len n : Nat} {x y : Operand} {t : ByteArray} {rows rows' : List (List TV)} (ho : o.op = .call { callee := .builtin .append, args := #[x, y], argTypes := #[T, U] }) (hd : o.dst = some d) (hN : Nat.blt d N = true)
    (hx : ev env x = some (.ms s b 0 len)) (hy : ev env y = some (.str t)) (hT : appOk P T 1 = true) (hU : P.underlying U = some .string) (hl : len ≤ rows.length) (hn : t.size = n) (hbig : len + n ≤ 1000000000) (hrows : rows.take len ++ bytR t.data.toList = rows')
    (hu : ∀ b', Upd (s, b, .row 1 rows) (s, b', .row 1 rows') objs (objsOf b')) (h : ∀ b', AL P w0 N ops Q rest ((d, .ms s b' 0 (len + n)) :: env) (objsOf b')) : AO P w0 N ops Q o rest env objs := ⟨fun a w K hs hK => by
    subst hrows
    subst hn
    have hmem := (hu 0).mem
    obtain ⟨b', off', pre, v', w', hr, hE⟩ := app_core_s (P := P) (U := U) (t := t) (ty := o.type) hs.mem rfl hmem (ev_sim hs hx) hU hT (by omega) hbig
    have hpre : pre = [] := List.eq_nil_of_length_eq_zero (by rw [hE.prelen]; exact hE.zero rfl)
    have hoff : off' = 0 := hE.zero rfl
    subst hpre; subst hoff
    obtain ⟨⟨hm0, hci⟩, hm, _⟩ := hs.mem.obj s b _ hmem
    have hyv := (ev_sim hs hy).str_inv
    have ht : t.size = (bytR t.data.toList).length := by rw [bytR_length]; exact (size_toList t).symm
    have g3 : ∀ r ∈ bytR t.data.toList, r.length = 1 := fun r hr => by
      simp only [bytR, List.mem_map] at hr
      obtain ⟨x, _, rfl⟩ := hr; rfl
    have g4 : ∀ u ∈ (bytR t.data.toList).flatten, u.isCell = true := fun u hu => by
      rw [bytR_flatten] at hu
      obtain ⟨x, _, rfl⟩ := List.mem_map.1 hu; rfl
    rw [← ht] at hE
    unfold Oper.wp
    rw [exec_append_s ho hyv hr]
    refine hK _ _ ?_
    rw [hd]
    have hst := step_upd (m := 1) hs.mem (hu b') hE.size hE.keep hE.blk (fun rows' _ => ⟨rows, rfl⟩) (fun m' rows' he => by simp only [TObj.row.injEq] at he; exact he.1.symm) hE.shape (by simp only [marker, ne_eq, Prod.mk.injEq, TObj.row.injEq]; omega)
    have hobj := hE.obj
    simp only [List.nil_append, List.drop_zero] at hobj
    refine (h b').run _ _ (hs.putNew hN (.ms s b' _ _ _ (.mk ⟨hE.lt, fun hm' => hs.mem.noMark (hst.mark hm'), ?_⟩ (fun m' rows' hm' => ?_) (fun h0 => ?_))) (hs.mem.upd (hu b') hE.below hE.keep hE.blk hst ⟨⟨hm0, fun t ht => ?_⟩, fun r hr => ?_, hobj.imp id fun ⟨h1, cur, e, cap, h2, h3, h4, h5, h6⟩ => ⟨h1, cur, e, cap, h2, h3, h4, h5, fun j t hj => ?_⟩⟩) hst)
    · rcases hE.val with ⟨_, _, h0, h1⟩ | ⟨_, q, c, e, k, h1, _⟩
      · exact ⟨none, 0, by rw [h0]; exact h1⟩
      · exact ⟨_, _, h1⟩
    · rcases (hu b').other hs.mem.sites _ hm' with he | ⟨_, hne, _⟩
      · simp only [Prod.mk.injEq, TObj.row.injEq] at he
        obtain ⟨_, _, rfl, _⟩ := he
        exact hE.val
      · exact absurd rfl hne
    · rcases hE.val with ⟨_, h1, h2, h3⟩ | ⟨h1, _⟩
      · exact ⟨h1, h2, h3⟩
      · exact absurd h0 h1
    · simp only [List.flatten_append, List.mem_append] at ht
      rcases ht with ht | ht
      · obtain ⟨r, hr, htr⟩ := List.mem_flatten.1 ht
        exact hci t (List.mem_flatten.2 ⟨r, List.mem_of_mem_take hr, htr⟩)
      · exact g4 t ht
    · simp only [List.mem_append] at hr
      rcases hr with hr | hr
      · exact hm r (List.mem_of_mem_take hr)
      · exact g3 r hr
    · obtain ⟨u, p1, p2⟩ := h6 j t hj
      exact ⟨u, p1, p2.step hst⟩⟩
theorem o_append_s {rest : List Oper} {d T0 : Nat} {pos : String} {af : Array Edge} {g : Option (Nat × Bool)} {objsOf : Nat → Objs} {T U s b len n : Nat} {x y : Operand} {t : ByteArray} {l : List UInt8} (hN : Nat.blt d N = true) (hx : ev env x = some (.ms s b 0 len)) (hy : ev env y = some (.str t)) (hT : appOk P T 1 = true) (hU : P.underlying U = some .string) (hm : (s, b, TObj.row 1 (bytR l)) ∈ objs) (hl : l.length = len) (hn : t.size = n) (hbig : len + n ≤ 1000000000) (hu : ∀ b2, Upd (s, b, .row 1 (bytR l)) (s, b2, .row 1 (bytR (l ++ t.data.toList))) objs (objsOf b2)) (h : ∀ b2, AL P w0 N ops Q rest ((d, .ms s b2 0 (len + n)) :: env) (objsOf b2)) : AO P w0 N ops Q ⟨some d, .call { callee := .builtin .append, args := #[x, y], argTypes := #[T, U] }, T0, pos, af, g⟩ rest env objs := by
  have hll := bytR_length l
  exact ao_append_s (rows := bytR l) rfl rfl hN hx hy hT hU (by omega) hn hbig (by rw [List.take_of_length_le (by omega)]; simp [bytR]) hu h
end
end Go.Proofs.YtdeokcbbjibkoaaDoor
/- What the arguments of a law are to the walk. -/
namespace Go.Proofs.YtdeokcbbjibkoaaDoor
open Go Go.RowKit
mutual
def PT.tvs : PT → List TV
  | .int k n => [.int k n]
  | .bool b => [.bool b]
  | .str s => [.str s]
  | .agg l => PT.tvsL l
  | .sl _ _ m l => [.sl 0 m (PT.rowsL l)]
def PT.tvsL : List PT → List TV
  | [] => []
  | t :: r => PT.tvs t ++ PT.tvsL r
def PT.rowsL : List PT → List (List TV)
  | [] => []
  | t :: r => PT.tvs t :: PT.rowsL r
end
theorem PT.rowsL_map (l : List PT) : PT.rowsL l = l.map PT.tvs := by
  induction l with
  | nil => rfl
  | cons t r ih => simp [PT.rowsL, ih]
theorem PT.rows_flat (l : List PT) : (PT.rowsL l).flatten = PT.tvsL l := by
  induction l with
  | nil => rfl
  | cons t r ih => simp [PT.rowsL, PT.tvsL, ih]
def TvOk (w : World) (ts : List TV) (vs : List Value) : Prop := ts.length = vs.length ∧ (∀ t ∈ ts, t.isCell = true) ∧ ∀ (i : Nat) (t : TV) (v : Value), ts[i]? = some t → vs[i]? = some v → Rep w [] t v
theorem TvOk.append {w : World} {a b : List TV} {x y : List Value} (h : TvOk w a x) (k : TvOk w b y) : TvOk w (a ++ b) (x ++ y) := by
  refine ⟨by simp [h.1, k.1], fun t ht => ?_, fun i t v ht hv => ?_⟩
  · rcases List.mem_append.1 ht with ht | ht
    · exact h.2.1 t ht
    · exact k.2.1 t ht
  · by_cases hi : i < a.length
    · rw [List.getElem?_append_left hi] at ht
      rw [List.getElem?_append_left (by rw [← h.1]; exact hi)] at hv
      exact h.2.2 i t v ht hv
    · rw [List.getElem?_append_right (by omega)] at ht
      rw [List.getElem?_append_right (by rw [← h.1]; omega)] at hv
      rw [← h.1] at hv
      exact k.2.2 _ t v ht hv
theorem TvOk.one {w : World} {t : TV} {v : Value} (h : Rep w [] t v) (hc : t.isCell = true) : TvOk w [t] [v] := ⟨rfl, by simpa using hc, fun i u x hu hx => by
  cases i with
  | zero => simp at hu hx; subst hu; subst hx; exact h
  | succ i => simp at hu⟩
mutual
theorem tv_ok (w : World) (S : Nat → Prop) : ∀ t : PT, Seen w S t → TvOk w t.tvs t.cells
  | .int k n, _ => .one (.int k n) rfl
  | .bool b, _ => .one (.bool b) rfl
  | .str s, _ => .one (.str s) rfl
  | .agg l, h => by
    simp only [PT.tvs, PT.cells]
    simp only [Seen] at h
    exact tvL_ok w S l h
  | .sl A c m l, h => by
    simp only [PT.tvs, PT.cells]
    simp only [Seen] at h
    obtain ⟨h1, h2, h3, h4, h5⟩ := h
    have h6 := tvL_ok w S l h5
    have hlen : (PT.rowsL l).length = l.length := by rw [PT.rowsL_map]; simp
    refine .one ?_ rfl
    have key : ∀ j, ∃ u, ∀ t, (PT.tvsL l)[j]? = some t → ∃ b o, A = some ⟨b, o, none⟩ ∧ w.cell? ⟨b, o + j, none⟩ = some u ∧ Rep w [] t u := fun j => by
      cases hj : (PT.cellsL l)[j]? with
      | none =>
        refine ⟨undef, fun t ht => ?_⟩
        have : j < (PT.tvsL l).length := (List.getElem?_eq_some_iff.1 ht).1
        rw [h6.1] at this
        rw [List.getElem?_eq_getElem this] at hj; cases hj
      | some u =>
        refine ⟨u, fun t ht => ?_⟩
        obtain ⟨b, o, e1, _, e2⟩ := h3 j u hj
        exact ⟨b, o, e1, e2, h6.2.2 j t u ht hj⟩
    have hr := Rep.sl (w := w) (objs := []) 0 m (PT.rowsL l) A c (by omega) h2 (fun r hr => by
        rw [PT.rowsL_map] at hr
        obtain ⟨t, ht, rfl⟩ := List.mem_map.1 hr
        rw [← h4 t ht]
        exact (seenL_mem w S l h5 t ht).1) (fun t ht => by rw [PT.rows_flat] at ht; exact h6.2.1 t ht) (fun j => Classical.choose (key j))
      (fun j t hj => by
        rw [PT.rows_flat] at hj
        obtain ⟨b, o, e1, e2, _⟩ := Classical.choose_spec (key j) t hj
        exact ⟨b, o, e1, zz_nil b, e2⟩)
      (fun j t hj => by
        rw [PT.rows_flat] at hj
        obtain ⟨b, o, _, _, e3⟩ := Classical.choose_spec (key j) t hj
        exact e3)
    rw [hlen] at hr
    exact hr
theorem tvL_ok (w : World) (S : Nat → Prop) : ∀ l : List PT, SeenL w S l → TvOk w (PT.tvsL l) (PT.cellsL l)
  | [], _ => ⟨rfl, by simp [PT.tvsL], by simp [PT.tvsL]⟩
  | t :: r, h => by
    simp only [PT.tvsL, PT.cellsL]
    simp only [SeenL] at h
    exact (tv_ok w S t h.1).append (tvL_ok w S r h.2)
theorem seenL_mem (w : World) (S : Nat → Prop) : ∀ l : List PT, SeenL w S l → ∀ t ∈ l, TvOk w t.tvs t.cells
  | [], _, t, ht => by simp at ht
  | x :: r, h, t, ht => by
    simp only [SeenL] at h
    rcases List.mem_cons.1 ht with e | ht
    · rw [e]; exact tv_ok w S x h.1
    · exact seenL_mem w S r h.2 t ht
end
end Go.Proofs.YtdeokcbbjibkoaaDoor
/- The laws' own helpers sz, to, eq, walked (frozen copies). Written by gen_lw.py. -/
namespace Go.Proofs.YtdeokcbbjibkoaaDoor
open Go Go.RowKit
/-- Cells that end as others, one by one. -/
def FinL (B : Nat) (objs : Objs) (K : Nat) (l l' : List TV) : Prop := l'.length = l.length ∧ ∀ (j : Nat) (t t' : TV), l[j]? = some t → l'[j]? = some t' → Fin B objs K t t'
theorem FinL.nil {B : Nat} {objs : Objs} {K : Nat} : FinL B objs K [] [] := ⟨rfl, by simp⟩
theorem FinL.cons {B : Nat} {objs : Objs} {K : Nat} {t t' : TV} {l l' : List TV} (h : Fin B objs K t t') (hr : FinL B objs K l l') : FinL B objs K (t :: l) (t' :: l') := ⟨by simp [hr.1], fun j u u' h1 h2 => by
  cases j with
  | zero => simp at h1 h2; subst h1; subst h2; exact h
  | succ j => exact hr.2 j u u' (by simpa using h1) (by simpa using h2)⟩
theorem FinL.append {B : Nat} {objs : Objs} {K : Nat} {a a' b b' : List TV} (h : FinL B objs K a a') (k : FinL B objs K b b') : FinL B objs K (a ++ b) (a' ++ b') := ⟨by simp [h.1, k.1], fun j u u' h1 h2 => by
  by_cases hj : j < a.length
  · rw [List.getElem?_append_left hj] at h1
    rw [List.getElem?_append_left (by rw [h.1]; exact hj)] at h2
    exact h.2 j u u' h1 h2
  · rw [List.getElem?_append_right (by omega)] at h1
    rw [List.getElem?_append_right (by rw [h.1]; omega)] at h2
    rw [h.1] at h2
    exact k.2 _ u u' h1 h2⟩
theorem FinL.rows {α : Type} {B : Nat} {objs : Objs} {K : Nat} {f f' : α → List TV} (h : ∀ x, FinL B objs K (f x) (f' x)) : ∀ l : List α, FinL B objs K (l.map f).flatten (l.map f').flatten
  | [] => .nil
  | x :: r => by simpa using (h x).append (FinL.rows h r)
theorem FinL.lens {α : Type} {f f' : α → List TV} (h : ∀ x, (f' x).length = (f x).length) (l : List α) : (l.map f').map List.length = (l.map f).map List.length := by
  induction l with
  | nil => rfl
  | cons x r ih => simpa [h x] using ih
/-- A frozen slice ends as a frozen slice. -/
theorem fin_sl {α : Type} {B : Nat} {objs : Objs} {K m : Nat} {f f' : α → List TV} (h : ∀ x, FinL B objs K (f x) (f' x)) (l : List α) : Fin B objs K (.sl B m (l.map f)) (.sl K m (l.map f')) :=
  .sl B m _ _ (Nat.le_refl _) (FinL.lens (fun x => (h x).1) l) (FinL.rows h l).2
theorem strR_row {l : List ByteArray} {i : Nat} (h : i < l.length) : (strR l)[i]? = some [.str l[i]] := row_map h
theorem strR_len (l : List ByteArray) : (strR l).length = l.length := by simp [strR]
section
variable {G : World → Prop}
theorem eqStringS_ct (l1 l2 : Nat) (l : List ByteArray) (hn : l.length ≤ 1048576) : Ct Tryd.prog G 16 [.sl l1 1 (strR l), .sl l2 1 (strR l)] (fun _ => .bool true) := by
  refine ct_enter Tryd.func16 rfl Tryd.ntmps16 rfl rfl fun w0 _ hG => ?_
  have hlen := strR_len l
  repeat' (first | with_reducible refine al_none rfl ?_ | ((with_reducible first | apply o_move | apply o_assign); rfl; rfl) | ((with_reducible apply o_len_sl); rfl; rfl; kernel_rfl; (exact List.length_map _)) | ((with_reducible apply o_neq); rfl; rfl; rfl) | with_reducible refine aw_seq ?_ | with_reducible refine aw_region ?_ | with_reducible refine al_nil ?_ | with_reducible refine aq_then ?_ | with_reducible refine aw_block ?_ | with_reducible refine aw_skip ?_ | (refine aw_cond_df rfl (by with_reducible rfl) (by omega) ?_))
  apply aw_loopk (X := Nat) [0, 1] (fun i => [(5, .int .i64 (i : Int))]) (fun _ => []) (fun i => i ≤ l.length) (fun i => l.length - i) 0 (Nat.zero_le _)
  (repeat (first | exact Kept.nil | (apply Kept.cons; rfl))); (repeat (first | exact Weak.envNil | refine Weak.envCons (by rfl) ?_))
  · exact .refl _
  intro i hi
  try dsimp only
  by_cases hlt : i < l.length
  · have hrow := strR_row hlt
    generalize l[i] = x at hrow
    have hx : ¬ x ≠ x := fun h => h rfl
    repeat' (first | with_reducible refine al_none rfl ?_ | ((with_reducible first | apply o_move | apply o_assign); rfl; rfl) | ((with_reducible apply o_len_sl); rfl; rfl; kernel_rfl; (exact List.length_map _)) | ((with_reducible apply o_lss); rfl; rfl; rfl) | ((with_reducible apply o_add); rfl; rfl; rfl; (((with_reducible refine w_n1 ?_); omega))) | with_reducible refine aw_draw (by kernel_rfl) (by kernel_rfl) ?_ | with_reducible refine dr_nil ?_ | with_reducible refine dr_none rfl ?_ | ((with_reducible apply d_move); rfl; rfl) | ((with_reducible apply d_load_cp); rfl; rfl; kernel_rfl; rfl; rfl) | ((with_reducible apply d_indexAddr); rfl; rfl; rfl; kernel_rfl; kernel_rfl; kernel_rfl; rfl; ((with_reducible exact rfl)); ((with_reducible assumption))) | ((with_reducible apply d_neq_s); rfl; rfl; rfl) | with_reducible refine aw_seq ?_ | with_reducible refine aw_region ?_ | with_reducible refine al_nil ?_ | with_reducible refine aq_then ?_ | with_reducible refine aw_block ?_ | with_reducible refine aw_skip ?_ | with_reducible refine aq_block ?_ | (refine aw_cond_dt rfl (by with_reducible rfl) (by first | assumption | omega) ?_) | (refine aw_cond_df rfl (by with_reducible rfl) (by assumption) ?_))
    exact aq_round (i + 1) (by omega) (by omega) (.of _ (by repeat (first | exact Weak.envNil | refine Weak.envCons (by rfl) ?_)) (by repeat (first | exact Weak.envNil | refine Weak.envCons rfl ?_)) (by (try dsimp only); (repeat (with_reducible exact Pick.refl _))))
  · repeat' (first | with_reducible refine al_none rfl ?_ | ((with_reducible first | apply o_move | apply o_assign); rfl; rfl) | ((with_reducible apply o_len_sl); rfl; rfl; kernel_rfl; (exact List.length_map _)) | ((with_reducible apply o_lss); rfl; rfl; rfl) | with_reducible refine aw_seq ?_ | with_reducible refine aw_region ?_ | with_reducible refine al_nil ?_ | with_reducible refine aq_then ?_ | with_reducible refine aw_exit ?_ | with_reducible refine aw_ret ?_ | with_reducible refine aq_block_hit ?_ | with_reducible refine aq_then_exit ?_ | (refine aw_cond_df rfl (by with_reducible rfl) (by first | assumption | omega) ?_))
    refine aq_ret1 (by exact .inr rfl) rfl (.tmp _ _ rfl) (fun _ => ?_)
    exact Fin.flat rfl
end
def TValue.tw (lo : Nat) (x : TValue) : List TV := [.int .i64 x.kind, .int .i64 x.number, .str x.text]
def TValue.small (n : Nat) (x : TValue) : Prop := (x.text.size ≤ n)
theorem TValue.len (lo : Nat) (l : List TValue) : (l.map (TValue.tw lo)).length = l.length := by simp
section
variable {G : World → Prop}
end
def TInstr.tw (lo : Nat) (x : TInstr) : List TV := [.int .i64 x.op, .int .i64 x.a, .int .i64 x.b, .str x.text]
def TInstr.small (n : Nat) (x : TInstr) : Prop := (x.text.size ≤ n)
theorem TInstr.len (lo : Nat) (l : List TInstr) : (l.map (TInstr.tw lo)).length = l.length := by simp
section
variable {G : World → Prop}
end
def TCode.tw (lo : Nat) (x : TCode) : List TV := [.bool x.block, .int .i64 x.params, .int .i64 x.slots, .sl lo 4 (x.instrs.map (TInstr.tw lo))]
def TCode.small (n : Nat) (x : TCode) : Prop := (x.instrs.length ≤ n ∧ ∀ y ∈ x.instrs, TInstr.small n y)
theorem TCode.len (lo : Nat) (l : List TCode) : (l.map (TCode.tw lo)).length = l.length := by simp
section
variable {G : World → Prop}
end
def TEntry.tw (lo : Nat) (x : TEntry) : List TV := [.int .i64 x.owner, .bool x.class_, .str x.selector, .int .i64 x.code]
def TEntry.small (n : Nat) (x : TEntry) : Prop := (x.selector.size ≤ n)
theorem TEntry.len (lo : Nat) (l : List TEntry) : (l.map (TEntry.tw lo)).length = l.length := by simp
section
variable {G : World → Prop}
end
def TClassInfo.tw (lo : Nat) (x : TClassInfo) : List TV := [.str x.name, .int .i64 x.parent, .sl lo 1 (strR x.fields)]
def TClassInfo.small (n : Nat) (x : TClassInfo) : Prop := (x.name.size ≤ n) ∧ (x.fields.length ≤ n ∧ ∀ y ∈ x.fields, ByteArray.size y ≤ n)
theorem TClassInfo.len (lo : Nat) (l : List TClassInfo) : (l.map (TClassInfo.tw lo)).length = l.length := by simp
section
variable {G : World → Prop}
end
def TCodeBase.tw (lo : Nat) (x : TCodeBase) : List TV := [.sl lo 3 (x.classes.map (TClassInfo.tw lo)), .sl lo 4 (x.codes.map (TCode.tw lo)), .sl lo 4 (x.entries.map (TEntry.tw lo)), .int .i64 x.main]
def TCodeBase.small (n : Nat) (x : TCodeBase) : Prop := (x.classes.length ≤ n ∧ ∀ y ∈ x.classes, TClassInfo.small n y) ∧ (x.codes.length ≤ n ∧ ∀ y ∈ x.codes, TCode.small n y) ∧ (x.entries.length ≤ n ∧ ∀ y ∈ x.entries, TEntry.small n y)
theorem TCodeBase.len (lo : Nat) (l : List TCodeBase) : (l.map (TCodeBase.tw lo)).length = l.length := by simp
section
variable {G : World → Prop}
end
def TObject.tw (lo : Nat) (x : TObject) : List TV := [.int .i64 x.kind, .int .i64 x.class_, .sl lo 3 (x.fields.map (TValue.tw lo)), .sl lo 1 (intR x.numbers)]
def TObject.small (n : Nat) (x : TObject) : Prop := (x.fields.length ≤ n ∧ ∀ y ∈ x.fields, TValue.small n y) ∧ (x.numbers.length ≤ n)
theorem TObject.len (lo : Nat) (l : List TObject) : (l.map (TObject.tw lo)).length = l.length := by simp
section
variable {G : World → Prop}
end
def TStore.tw (lo : Nat) (x : TStore) : List TV := [.sl lo 3 (x.classes.map (TClassInfo.tw lo)), .sl lo 4 (x.objects.map (TObject.tw lo)), .sl lo 1 (strR x.output), .int .i64 x.ticks, .int .i64 x.budget, .int .i64 x.made]
def TStore.small (n : Nat) (x : TStore) : Prop := (x.classes.length ≤ n ∧ ∀ y ∈ x.classes, TClassInfo.small n y) ∧ (x.objects.length ≤ n ∧ ∀ y ∈ x.objects, TObject.small n y) ∧ (x.output.length ≤ n ∧ ∀ y ∈ x.output, ByteArray.size y ≤ n)
theorem TStore.len (lo : Nat) (l : List TStore) : (l.map (TStore.tw lo)).length = l.length := by simp
section
variable {G : World → Prop}
end
def TClosure.tw (lo : Nat) (x : TClosure) : List TV := [.int .i64 x.code, .int .i64 x.outer, .int .i64 x.home, .int .i64 x.self.kind, .int .i64 x.self.number, .str x.self.text]
def TClosure.small (n : Nat) (x : TClosure) : Prop := (TValue.small n x.self)
theorem TClosure.len (lo : Nat) (l : List TClosure) : (l.map (TClosure.tw lo)).length = l.length := by simp
section
variable {G : World → Prop}
end
def TContext.tw (lo : Nat) (x : TContext) : List TV := [.int .i64 x.mark, .int .i64 x.code, .int .i64 x.pc, .int .i64 x.sender, .int .i64 x.outer, .int .i64 x.home, .int .i64 x.self.kind, .int .i64 x.self.number, .str x.self.text, .sl lo 3 (x.slots.map (TValue.tw lo)), .sl lo 3 (x.stack.map (TValue.tw lo)), .sl lo 3 (x.values.map (TValue.tw lo)), .int .i64 x.other, .bool x.retry]
def TContext.small (n : Nat) (x : TContext) : Prop := (TValue.small n x.self) ∧ (x.slots.length ≤ n ∧ ∀ y ∈ x.slots, TValue.small n y) ∧ (x.stack.length ≤ n ∧ ∀ y ∈ x.stack, TValue.small n y) ∧ (x.values.length ≤ n ∧ ∀ y ∈ x.values, TValue.small n y)
theorem TContext.len (lo : Nat) (l : List TContext) : (l.map (TContext.tw lo)).length = l.length := by simp
section
variable {G : World → Prop}
end
def TProcess.tw (lo : Nat) (x : TProcess) : List TV := [.int .i64 x.at_, .bool x.main]
def TProcess.small (n : Nat) (x : TProcess) : Prop := True
theorem TProcess.len (lo : Nat) (l : List TProcess) : (l.map (TProcess.tw lo)).length = l.length := by simp
section
variable {G : World → Prop}
end
def TImage.tw (lo : Nat) (x : TImage) : List TV := [.sl lo 3 (x.base.classes.map (TClassInfo.tw lo)), .sl lo 4 (x.base.codes.map (TCode.tw lo)), .sl lo 4 (x.base.entries.map (TEntry.tw lo)), .int .i64 x.base.main, .sl lo 3 (x.store.classes.map (TClassInfo.tw lo)), .sl lo 4 (x.store.objects.map (TObject.tw lo)), .sl lo 1 (strR x.store.output), .int .i64 x.store.ticks, .int .i64 x.store.budget, .int .i64 x.store.made, .sl lo 6 (x.blocks.map (TClosure.tw lo)), .sl lo 14 (x.contexts.map (TContext.tw lo)), .sl lo 2 (x.processes.map (TProcess.tw lo)), .sl lo 1 (intR x.ready), .int .i64 x.now, .int .i64 x.status, .int .i64 x.value.kind, .int .i64 x.value.number, .str x.value.text, .str x.fault]
def TImage.small (n : Nat) (x : TImage) : Prop := (TCodeBase.small n x.base) ∧ (TStore.small n x.store) ∧ (x.blocks.length ≤ n ∧ ∀ y ∈ x.blocks, TClosure.small n y) ∧ (x.contexts.length ≤ n ∧ ∀ y ∈ x.contexts, TContext.small n y) ∧ (x.processes.length ≤ n ∧ ∀ y ∈ x.processes, TProcess.small n y) ∧ (x.ready.length ≤ n) ∧ (TValue.small n x.value) ∧ (x.fault.size ≤ n)
theorem TImage.len (lo : Nat) (l : List TImage) : (l.map (TImage.tw lo)).length = l.length := by simp
section
variable {G : World → Prop}
end
def TEdit.tw (lo : Nat) (x : TEdit) : List TV := [.int .i64 x.code, .int .i64 x.at_, .int .i64 x.kind]
def TEdit.small (n : Nat) (x : TEdit) : Prop := True
theorem TEdit.len (lo : Nat) (l : List TEdit) : (l.map (TEdit.tw lo)).length = l.length := by simp
section
variable {G : World → Prop}
end
end Go.Proofs.YtdeokcbbjibkoaaDoor
/- The law's own text for a mark. -/
namespace Go.Proofs.YtdeokcbbjibkoaaDoor
open Go Go.RowKit
/-- A mark's text. -/
def markB (n : Int) : ByteArray := ⟨(109 :: Lib.itoa n).toArray⟩
set_option maxHeartbeats 400000 in
set_option maxRecDepth 8000 in
theorem markText_any (n : Int) (w : World) (h0 : 0 ≤ n) (h1 : n ≤ 9000000000) : Calls Tryd.prog 41 #[.int .i64 n] w fun e w' => e = .returned (.string (markB n)) ∧ Below w.heap.size w w' := by
  by_cases hz : n = 0
  · subst hz
    go_enter Tryd.func41, Tryd.ntmps41
    go_wp2
    go_ret
    exact ⟨ret_str (by decide +kernel), Below.refl _ _⟩
  have Hlen := Lib.hid (pre_length (u := n.natAbs) (by omega))
  have HP := Lib.hid (numB_pre hz)
  have hpos : 0 < n := by omega
  have hle : ¬ n ≤ 0 := by omega
  go_enter Tryd.func41, Tryd.ntmps41
  go_wp2
  go_loopw [0, 3] (fun nv ov wr => ∃ (m : Nat) (s : ByteArray), nv = .int .i64 (m : Int) ∧ ov = .string s ∧ m ≤ 9000000000 ∧ pre m ++ s.data.toList = pre n.natAbs ∧ Below w.heap.size w wr) (fun nv _ _ => (intOf nv).natAbs)
  case atStart => exact ⟨n.natAbs, _, by rw [show ((n.natAbs : Nat) : Int) = n by omega], rfl, by omega, by simp, Below.refl _ _⟩
  case round =>
    obtain ⟨m, s, rfl, rfl, hm1, hr, hb⟩ := hrel
    have hsz : s.size ≤ 19 := by
      have := congrArg List.length hr
      rw [List.length_append, size_toList] at this
      have := Hlen.out
      omega
    have Hr := Lib.hid hr
    clear hr
    by_cases hm : m = 0
    · subst hm
      go_wp2
      go_ret
      refine ⟨ret_str ?_, hb⟩
      have h2 := Hr.out
      rw [show pre 0 = [] from rfl, List.nil_append] at h2
      refine bytes_eq ?_
      rw [ByteArray.data_append, Array.toList_append, h2]
      have h3 := HP.out
      rw [if_neg (by omega)] at h3
      have h4 : Lib.itoa n = pre n.natAbs := congrArg (fun b : ByteArray => b.data.toList) h3
      show _ = 109 :: Lib.itoa n
      rw [h4]; rfl
    · have hd9 : m % 10 ≤ 9 := by omega
      have hp := pre_step (u := m) hm
      generalize hd : m % 10 = d at hd9 hp
      have hdi : (m : Int) % 10 = (d : Int) := by omega
      have hdq : ((m / 10 : Nat) : Int) = (m : Int) / 10 := by omega
      obtain ⟨b, hbd⟩ : ∃ b, UInt8.ofNat (48 + d) = b := ⟨_, rfl⟩
      rw [hbd] at hp
      have Hp := Lib.hid hp
      have hcv := conv_one 90 5 wr (48 + d) (by omega) (48 + (d : Int)) (by omega) Tryd.underlying90 Tryd.underlying5
      rw [hbd] at hcv
      have Hdq := Lib.hid hdq
      clear hp hd hbd hdq
      have hnext : pre (m / 10) ++ ((⟨#[b]⟩ : ByteArray) ++ s).data.toList = pre n.natAbs := by
        rw [← Hr.out, Hp.out, ByteArray.data_append, Array.toList_append, List.append_assoc]
      have Hn := Lib.hid hnext
      clear hnext
      have hbel : ∀ o, Below w.heap.size w (wr.alloc o) := fun o => hb.trans (((Below.refl _ _).alloc (Nat.le_refl _) o).mono hb.size)
      have hm0 : (0 : Int) < (m : Int) := by omega
      clear hb
      go_wp2
      go_roundw
      case rel => exact ⟨m / 10, _, by rw [Hdq.out], rfl, by omega, Hn.out, hbel _⟩
      case measure => simp [intOf]; omega

theorem markText_ct {G : World → Prop} (n : Int) (h0 : 0 ≤ n) (h1 : n ≤ 9000000000) : Ct Tryd.prog G 41 [.int .i64 n] (fun _ => .str (markB n)) := ct_int_str fun w _ => markText_any n w h0 h1
end Go.Proofs.YtdeokcbbjibkoaaDoor
/- The contracts of the laws' own helpers on []int: copy, compare, mark, look at the marks. -/
namespace Go.Proofs.YtdeokcbbjibkoaaDoor
open Go Go.RowKit

theorem Tryd.infoInt : (Tryd.prog.info? 3).map (fun i => (i.zero, i.size, i.bytes)) = some (some (.int .i64 0), 1, 8) := by kernel_rfl

def ints (zs : List Int) : List PT := zs.map (PT.int .i64)
theorem ints_length (zs : List Int) : (ints zs).length = zs.length := by simp [ints]
theorem ints_append (a b : List Int) : ints (a ++ b) = ints a ++ ints b := by simp [ints]
theorem cellsL_ints (zs : List Int) : PT.cellsL (ints zs) = zs.map (Value.int .i64) := by
  induction zs with
  | nil => rfl
  | cons z r ih => simp only [ints, List.map_cons, PT.cellsL, PT.cells] at *; rw [ih]; rfl
theorem blocksL_ints (zs : List Int) : PT.blocksL (ints zs) = [] := by
  induction zs with
  | nil => rfl
  | cons z r ih => simp only [ints, List.map_cons, PT.blocksL, PT.blocks] at *; rw [ih]; rfl
theorem seenL_ints (w : World) (S : Nat → Prop) (zs : List Int) : SeenL w S (ints zs) := SeenL.of_get fun t ht => by
  simp only [ints, List.mem_map] at ht; obtain ⟨z, _, rfl⟩ := ht; trivial
theorem ownL_ints (w : World) (zs : List Int) : OwnL w (ints zs) := OwnL.of_get fun t ht => by
  simp only [ints, List.mem_map] at ht; obtain ⟨z, _, rfl⟩ := ht; trivial

theorem ints_cells (zs : List Int) : ∀ t ∈ ints zs, t.cells.length = 1 := fun t ht => by
  simp only [ints, List.mem_map] at ht; obtain ⟨z, _, rfl⟩ := ht; rfl

/-- What the walk asks of a slice of ints. -/
theorem Seen.int_at {w : World} {S : Nat → Prop} {A : Option Addr} {c : Nat} {zs : List Int} (h : Seen w S (.sl A c 1 (ints zs))) {k : Nat} (hk : k < zs.length) :
    ∃ b o, A = some ⟨b, o, none⟩ ∧ S b ∧ w.cell? ⟨b, o + k, none⟩ = some (.int .i64 (zs[k]'hk)) := by
  have h1 := h.2.2.1
  rw [cellsL_ints] at h1
  exact h1 k _ (by simp [hk])

/-- 'append(s, v)' onto a slice of ints of the call's own. -/
theorem wpList_append_int {ops : Array Oper} {rest : List Oper} {o : Oper} {a : Act} {Q : Exit → Act → World → Prop} {w : World} (hgd : o.guard = none) (s x : Operand)
    (ho : o.op = .call { callee := .builtin .append, args := #[s, x], argTypes := #[26, 26] }) {S : Nat → Prop} (A : Option Addr) (c n : Nat) (zs : List Int) (v : Int)
    (hs : a.eval s = .slice A n c) (hx : a.eval x = .slice (some ⟨w.heap.size, 0, none⟩) 1 1) (hown : Owned w S (.sl A c 1 (ints zs))) (hn : n = zs.length) (hS : S (w.heap.size + 1)) (hl : n ≤ 1000000000)
    (h : ∀ A' c' w', Owned w' S (.sl A' c' 1 (ints (zs ++ [v]))) → Touch (· ∈ PT.rowOf A) w w' → (∀ g, A = some ⟨g, 0, none⟩ → ∃ g', A' = some ⟨g', 0, none⟩) → wpList Tryd.prog ops Q rest (a.put o.dst (.slice A' (n + 1) c')) w') :
    wpList Tryd.prog ops Q (o :: rest) a (w.alloc (.cells #[.int .i64 v] 3)) := by
  obtain ⟨i0, hi0, hz0, hz1, hz2⟩ := info_parts Tryd.infoInt
  refine wpList_append_pt (w.alloc (.cells #[.int .i64 v] 3)) hgd s x _ ho 3 i0 _ 1 8 Tryd.underlying26 hi0 hz0 hz1 hz2 rfl (by omega) (S := S) A _ c 1 n 1 (ints zs) (ints [v]) hs hx (hown.ext (Ext.alloc1 w _)) (sees_new w _ _) (by simp [ints, hn]) rfl (ints_cells _) (ownL_ints _ _)
    (by cases A <;> simp [PT.blocks, PT.rowOf, blocksL_ints]) (by simp [blocksL_ints]) (by simpa using hS) (by simp only [maxLen]; omega) (by omega) fun A' c' w' h1 h2 h3 => ?_
  rw [← ints_append] at h1
  refine h A' c' w' h1 ((Touch.of_below ((Below.refl _ _).alloc (Nat.le_refl _) _) _).trans h2) fun g hg => ?_
  rcases h3 with rfl | rfl
  · exact ⟨g, hg⟩
  · exact ⟨_, rfl⟩

/-- The marks k, k + 1, .., n of them. -/
def marks (k n : Nat) : List Int := (List.range n).map fun i => ((k + i : Nat) : Int)
/-- A slice cut at its front: 's[k:]'. -/
theorem Seen.cut_ints {w : World} {S : Nat → Prop} {b o c : Nat} {zs : List Int} (h : Seen w S (.sl (some ⟨b, o, none⟩) c 1 (ints zs))) {k : Nat} :
    Sees w S (if c = k then some ⟨b, o, none⟩ else some ⟨b, o + k, none⟩) (PT.cellsL (ints (zs.drop k))) := by
  have h1 := h.2.2.1
  have hl : zs.length ≤ c := by simpa [ints] using h.1
  rw [cellsL_ints] at h1 ⊢
  intro j u hj
  rw [List.map_drop, List.getElem?_drop] at hj
  have hlt : k + j < zs.length := by have := (List.getElem?_eq_some_iff.1 hj).1; simpa using this
  rw [if_neg (by omega)]
  obtain ⟨b', o', hA, hS, hc⟩ := h1 (k + j) u hj
  simp only [Option.some.injEq, Addr.mk.injEq, and_true] at hA
  obtain ⟨rfl, rfl⟩ := hA
  exact ⟨b, o + k, rfl, hS, by rw [Nat.add_assoc]; exact hc⟩
/-- A slice cut at its back: 's[:k]'. -/
theorem Owned.take_ints {w : World} {S : Nat → Prop} {A : Option Addr} {c : Nat} {zs : List Int} (h : Owned w S (.sl A c 1 (ints zs))) {k : Nat} (hk : k ≤ zs.length) :
    Owned w S (.sl A c 1 (ints (zs.take k))) := by
  refine ⟨?_, by cases A <;> simp [PT.blocks, blocksL_ints, PT.rowOf], fun b hb => h.2.2 b (by simpa [PT.blocks, blocksL_ints] using hb)⟩
  rcases own_row h.1 with ⟨rfl, rfl, h1⟩ | ⟨g, cur, e, rfl, hg, hl, hc, hs, ht⟩
  · have : zs = [] := by simpa [ints] using h1
    subst this
    simp only [List.take_nil]
    exact own_nil w 1
  · rw [ints_length] at hl ht
    refine own_of_block (ints_cells _) (by rw [cellsL_ints]; simp [ints]) hg (by simp [ints]; omega) hc hs ?_ (ownL_ints _ _)
    rw [cellsL_ints] at ht ⊢
    rw [ints_length, Nat.mul_one] at *
    rw [List.map_take, ← ht, List.take_take, List.length_take]

end Go.Proofs.YtdeokcbbjibkoaaDoor
/- The library's programs: the digits. -/
namespace Go.Proofs.YtdeokcbbjibkoaaDoor
open Go Go.RowKit

theorem below_touch {w wr w' : World} {A : Option Addr} {c m : Nat} {l : List PT} (hb : Below w.heap.size w wr) (ho : Owned wr (w.heap.size ≤ ·) (.sl A c m l)) (ht : Touch (· ∈ PT.rowOf A) wr w') : Below w.heap.size w w' :=
  hb.trans (ht.below hb.size fun b hbm => ho.2.2 b (by simp [PT.blocks, hbm]))

/-- The digits of a text as numbers. -/
def digN (l : List UInt8) : List Int := l.map fun b => (b.toNat : Int) - 48
theorem digN_length (l : List UInt8) : (digN l).length = l.length := by simp [digN]
theorem digit_b {b : UInt8} (h : digit b = true) : 48 ≤ (b.toNat : Int) ∧ (b.toNat : Int) ≤ 57 := by simpa [digit] using h
theorem allD_drop (s : ByteArray) {k : Nat} (h : k < s.size) : (s.data.toList.drop k).all digit = (digit s[k] && (s.data.toList.drop (k + 1)).all digit) := by
  rw [drop_byte s h, List.all_cons]
theorem allD_end (s : ByteArray) {k : Nat} (h : ¬ k < s.size) : (s.data.toList.drop k).all digit = true := by
  rw [List.drop_eq_nil_of_le (by rw [size_toList]; omega)]; rfl
theorem allD_at {s : ByteArray} (h : s.data.toList.all digit = true) {k : Nat} (hk : k < s.size) : digit s[k] = true :=
  List.all_eq_true.1 h _ (by
    have : s[k] = s.data.toList[k]'(by rw [size_toList]; exact hk) := rfl
    rw [this]; exact List.getElem_mem _)

set_option maxHeartbeats 400000 in
theorem digitsOk_any (s : ByteArray) (w : World) (hs : s.size ≤ 1048576) : Calls Tryd.prog 35 #[.string s] w fun e w' => e = .returned (.bool (s.data.toList.all digit && inR s.size 1 10)) ∧ ∃ n, w' = w.drewN n := by
  go_enter Tryd.func35, Tryd.ntmps35
  go_wp2
  go_loopw [3] (fun i wr => ∃ k n : Nat, k ≤ s.size ∧ i = .int .i64 k ∧ wr = w.drewN n ∧ s.data.toList.all digit = (s.data.toList.drop k).all digit) (fun i _ => s.size - (intOf i).toNat)
  case atStart => exact ⟨0, 0, Nat.zero_le _, rfl, rfl, rfl⟩
  case round =>
    obtain ⟨k, n, hk, rfl, rfl, hr⟩ := hrel
    have Hr := Lib.hid hr
    clear hr
    by_cases hlt : k < s.size
    · have Hd := Lib.hid (allD_drop s hlt)
      cases hl : digit s[k]
      all_goals
        go_wp2_with (go_at_call 59; refine (isDigit_any _ _).mono ?_; rintro e w' ⟨rfl, rfl⟩)
        first
          | (
              go_roundw
              case rel => exact ⟨k + 1, n, by omega, by go_num, rfl, by rw [Hr.out, Hd.out, hl]; rfl⟩
              case measure => simp [intOf]; omega)
          | (
              go_ret
              exact ⟨ret_bool (by rw [Hr.out, Hd.out, hl]; rfl), n, rfl⟩)
    · go_wp2_with (go_at_call 25; refine (within_any _ _ _ _).mono ?_; rintro e w' ⟨rfl, rfl⟩)
      go_ret
      exact ⟨ret_bool (by rw [Hr.out, allD_end s hlt]; simp), n, rfl⟩

theorem digN_take (s : ByteArray) {k : Nat} (h : k < s.size) : digN (s.data.toList.take (k + 1)) = digN (s.data.toList.take k) ++ [(s[k].toNat : Int) - 48] := by
  rw [List.take_add_one, List.getElem?_eq_getElem (by rw [size_toList]; exact h)]
  simp [digN]; rfl

/-- What the digits of a text leave. -/
def DigPost (s : ByteArray) (w : World) (e : Ending) (w' : World) : Prop :=
  (if s.data.toList.all digit then ∃ A c, e = .returned (.tuple #[.slice A s.size c, .bool (decide (s.size ≤ 10))]) ∧ Owned w' (w.heap.size ≤ ·) (.sl A c 1 (ints (digN s.data.toList))) else e = .returned (.tuple #[.slice none 0 0, .bool false])) ∧ Below w.heap.size w w'

set_option maxRecDepth 8000 in
set_option maxHeartbeats 800000 in
theorem l29Digits_any (s : ByteArray) (w : World) (hs : s.size ≤ 1048576) : Calls Tryd.prog 33 #[.string s] w fun e w' => DigPost s w e w' := by
  have hsl := size_toList s
  have Hsl := Lib.hid hsl
  clear hsl
  go_enter Tryd.func33, Tryd.ntmps33
  go_wp2
  go_loopw [4, 5] (fun o i wr => ∃ (k : Nat) (A : Option Addr) (c : Nat), k ≤ s.size ∧ i = .int .i64 k ∧ o = .slice A k c ∧ Owned wr (w.heap.size ≤ ·) (.sl A c 1 (ints (digN (s.data.toList.take k)))) ∧ Below w.heap.size w wr ∧ s.data.toList.all digit = (s.data.toList.drop k).all digit) (fun _ i _ => s.size - (intOf i).toNat)
  case atStart => exact ⟨0, _, 0, Nat.zero_le _, rfl, rfl, owned_made _ _ (Nat.le_refl _), (Below.refl _ _).alloc (Nat.le_refl _) _, rfl⟩
  case round =>
    obtain ⟨k, A, c, hk, rfl, rfl, hown, hb, hr⟩ := hrel
    have Hr := Lib.hid hr
    have hz := hb.size
    clear hr
    by_cases hlt : k < s.size
    · have Hd := Lib.hid (allD_drop s hlt)
      have Ht := Lib.hid (digN_take s hlt)
      have hub : ((s[k]).toNat : Int) ≤ 255 := by have := (s[k]).toNat_lt; omega
      cases hl : digit s[k]
      · go_wp2_with (go_at_call 55; refine (l2Digit_any _ _).mono ?_; rintro e w' ⟨rfl, rfl⟩)
        go_ret2
        exact ⟨by rw [Hr.out, Hd.out, hl]; rfl, hb⟩
      · have hd := digit_b hl
        have hnl : k = (digN (s.data.toList.take k)).length := by simp [digN, Hsl.out]; omega
        have Hnl := Lib.hid hnl
        clear hnl
        go_wp2_with (first
          | (go_at_call 55; refine (l2Digit_any _ _).mono ?_; rintro e w' ⟨rfl, rfl⟩)
          | (at_builtin; go_loud (refine wpList_append_int rfl _ _ rfl A c k _ ((s[k].toNat : Int) - 48) rfl rfl hown Hnl.out (Nat.le_succ_of_le hz) (by omega) ?_); intro A' c' w' hown' ht' _))
        rw [← Ht.out] at hown'
        have hb' := below_touch hb hown ht'
        go_roundw
        case rel => exact ⟨k + 1, A', c', by omega, by go_num, by go_num, hown', hb', by rw [Hr.out, Hd.out, hl]; rfl⟩
        case measure => simp [intOf]; omega
    · obtain rfl : k = s.size := by omega
      have htk : s.data.toList.take s.size = s.data.toList := List.take_of_length_le (by rw [Hsl.out]; exact Nat.le_refl _)
      rw [htk] at hown
      clear htk
      by_cases h10 : s.size ≤ 10
      all_goals
        go_wp2
        go_ret2
        refine ⟨?_, hb⟩
        rw [if_pos (by rw [Hr.out, allD_end s hlt])]
        exact ⟨A, c, by simp [h10] <;> omega, hown⟩
end Go.Proofs.YtdeokcbbjibkoaaDoor
/- The library's programs: the texts that put digits into an array. -/
namespace Go.Proofs.YtdeokcbbjibkoaaDoor
open Go Go.RowKit

end Go.Proofs.YtdeokcbbjibkoaaDoor
/- LibrarySource: the program's and the reference's. Written by gen_lib.py. -/
namespace Go.Proofs.YtdeokcbbjibkoaaDoor
open Go Go.RowKit

def okLib (k : Int) (s : ByteArray) : Bool := inR k 1 5 && (s.data.toList.all digit && inR s.size 1 10)
theorem okLib_ways {k : Int} {s : ByteArray} (h : okLib k s = true) : (k = 1 ∨ k = 2 ∨ k = 3 ∨ k = 4 ∨ k = 5) ∧ s.data.toList.all digit = true ∧ 1 ≤ s.size ∧ s.size ≤ 10 := by
  simp only [okLib, inR, Bool.and_eq_true, decide_eq_true_eq] at h
  refine ⟨by omega, h.2.1, by omega, by omega⟩
theorem digitsOk_is (s : ByteArray) (b : Bool) (hb : (s.data.toList.all digit && inR s.size 1 10) = b) (w : World) (hs : s.size ≤ 1048576) : Calls Tryd.prog 35 #[.string s] w fun e w' => e = .returned (.bool b) ∧ ∃ n, w' = w.drewN n := by
  subst hb; exact digitsOk_any s w hs
end Go.Proofs.YtdeokcbbjibkoaaDoor
