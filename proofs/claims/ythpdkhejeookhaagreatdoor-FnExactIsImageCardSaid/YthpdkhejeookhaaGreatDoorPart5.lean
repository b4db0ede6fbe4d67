/- Part 5 of the proof: the texts EngX, EngY, EngZ, EngK, EngL, EngN, EngQ, EngP, EngM, EngAE. -/
import Derived.Test.YthpdkhejeookhaaGreatDoorPart4
import Derived.Laws.RangeString
import Derived.Test.YthpdkhejeookhaaGreatDoorPart1
import Derived.Lib.AppendStr
import Derived.Laws.StructEq
/- The abstract walk, part 15: a state that says less, a loop whose fixed slots are named, a nil slice that is to grow. -/
namespace Go.Proofs.YthpdkhejeookhaaGreatDoor
open Go Go.RowKit
section
variable {P : Program} {w0 : World} {N : Nat} {Q : Exit → Act → World → Prop} {env : Env} {objs objs' : bp}
theorem Sim.pick {a : Act} {w : World} (h : Sim w0 N env objs a w) (k : dV objs' objs) : Sim w0 N env objs' a w := h.weak ⟨fun _ _ h => h, k⟩
theorem wI {ops : Array Oper} {rest : List Oper} (k : objs = objs') (h : AL P w0 N ops Q rest env objs') : AL P w0 N ops Q rest env objs := k ▸ h

structure zL (p : Prop) : Prop where
  go : p
theorem bx {id : Nat} {ops : Array Oper} {b : Bool} {y : Code} (h : zL (AW P w0 N (.seq (.region id ops b) y) Q env objs)) : AW P w0 N (.seq (.region id ops b) y) Q env objs := h.go
theorem bI {ops : Array Oper} {rest : List Oper} {l : bp} (h : AL P w0 N ops Q rest env l) : AL P w0 N ops Q rest env ([] ++ l) := h
theorem eb {ops : Array Oper} {rest : List Oper} {x : Nat × Nat × ca} {l : bp} (h : AL P w0 N ops Q rest env (x :: l)) : AL P w0 N ops Q rest env ([x] ++ l) := h
theorem uy {ops : Array Oper} {rest : List Oper} {x y : Nat × Nat × ca} {l : bp} (h : AL P w0 N ops Q rest env (x :: y :: l)) : AL P w0 N ops Q rest env ([x, y] ++ l) := h
theorem r4 {objsOf : Nat → List (List TV) → bp} {ops : Array Oper} {rest : List Oper} {d T0 : Nat} {pos : String} {af : Array Edge} {g : Option (Nat × Bool)} {T s b off len n m : Nat} {x y : Operand} {f : Nat} {rows live news : List (List TV)} (hN : Nat.blt d N = true) (hx : ev env x = some (.ms s b off len)) (hy : ev env y = some (.sl f m news)) (hT : nY P T m = true) (_hm : (s, b, ca.row m rows) ∈ objs)
    (hlive : (rows.drop off).take len = live) (hl : off + len ≤ rows.length) (hn : news.length = n) (hbig : len + n ≤ 1000000000) (hu : ∀ b2 pre, Upd (s, b, .row m rows) (s, b2, .row m (pre ++ (live ++ news))) objs (objsOf b2 pre)) (h : ∀ b2 pre, AL P w0 N ops Q rest ((d, .ms s b2 pre.length (len + n)) :: env) (objsOf b2 pre)) :
    AO P w0 N ops Q ⟨some d, .call { callee := .builtin .append, args := #[x, y], argTypes := #[T, T] }, T0, pos, af, g⟩ rest env objs := qc rfl rfl hN hx hy hT hl hn hbig hlive hu fun b2 pre _ => h b2 pre
inductive gn (env : Env) : List Nat → Env → Prop
  | nil : gn env [] []
  | cons (t : Nat) (v : TV) (l : List Nat) (e : Env) (h : lk t env = some v) (hr : gn env l e) : gn env (t :: l) ((t, v) :: e)
theorem gn.weak {l : List Nat} {e : Env} (h : gn env l e) : ∀ t v, lk t e = some v → lk t env = some v := by
  induction h with
  | nil => exact bj.envNil
  | cons t v l e h hr ih => exact bj.envCons h ih
theorem tQ {t : Nat} : ∀ {e1 e2 : Env} {v : TV}, lk t (e1 ++ e2) = some v → lk t e1 = some v ∨ lk t e2 = some v
  | [], _, _, h => .inr h
  | (s, u) :: r, e2, v, h => by
    rw [List.cons_append, bL] at h
    rw [bL]
    split at h
    · rename_i e; rw [if_pos e]; exact .inl h
    · rename_i e; rw [if_neg e]; exact tQ h
theorem bj.of (new : Env) {e1 : Env} (h1 : ∀ t v, lk t new = some v → lk t env = some v) (h2 : ∀ t v, lk t e1 = some v → lk t env = some v) (hp : dV objs' objs) : bj env objs (new ++ e1) objs' :=
  ⟨fun t v h => (tQ h).elim (h1 t v) (h2 t v), hp⟩
theorem aK {X : Type} {body : Code} (keep : List Nat) (new : X → Env) (O : X → bp) (I : X → Prop) (μ : X → Nat) (x0 : X) (h0 : I x0) {e1 : Env} (hk : gn env keep e1) (hw : ∀ t v, lk t (new x0) = some v → lk t env = some v) (hp : dV (O x0) objs)
    (round : ∀ x, I x → AW P w0 N body (Exit.then (zb w0 N (fun x => new x ++ e1) O I μ (μ x)) Q) (new x ++ e1) (O x)) : AW P w0 N (.loop body) Q env objs :=
  xY (fun x => new x ++ e1) O I μ x0 h0 (.of _ hw hk.weak hp) round
theorem oS {id : Nat} {c : Code} (h : zL (AW P w0 N (.block id c) Q env objs)) : AW P w0 N (.block id c) Q env objs := h.go
theorem en {X : Type} {x z : Code} (keep : List Nat) (new : X → Env) (O : X → bp) (I : X → Prop) {e1 : Env} (hk : gn env keep e1) (h1 : AW P w0 N x (Exit.then (zG w0 N (fun x => new x ++ e1) O I) Q) env objs) (h2 : ∀ y, I y → AW P w0 N z Q (new y ++ e1) (O y)) : AW P w0 N x (Exit.then (z.wp P Q) Q) env objs := ⟨fun a w hs => by
  refine wp_mono (h1.run a w hs) fun e a' w' hq => ?_
  cases e with
  | normal =>
    obtain ⟨y, hy, hs'⟩ := hq
    exact (h2 y hy).run a' w' hs'
  | exit id => exact hq
  | goto l => exact hq
  | ret => exact hq
  | panic c => exact hq
  | outgrown => exact hq⟩

theorem x9 {t : Nat} {env : Env} {s b off m n : Nat} (h : lk t env = some (.ms s b off m)) (e : m = n) : lk t env = some (.ms s b off n) := e ▸ h
theorem yv {t : Nat} {env : Env} {s b off m off' n : Nat} (h : lk t env = some (.ms s b off m)) (e0 : off = off') (e : m = n) : lk t env = some (.ms s b off' n) := e0 ▸ e ▸ h
inductive tg (s b : Nat) (o : ca) : bp → bp → Prop
  | head (l : bp) : tg s b o ((s, b, o) :: l) l
  | tail (s' b' : Nat) (o' : ca) (l l' : bp) (h : tg s b o l l') : tg s b o ((s', b', o') :: l) ((s', b', o') :: l')
theorem tg.del {s b : Nat} {o : ca} {l l' : bp} (h : tg s b o l l') : Del (s, b, o) l l' := by
  induction h with
  | head l => exact .head l
  | tail s' b' o' l l' h ih => exact .tail _ _ _ ih
theorem dV.consE {s b : Nat} {o o' : ca} {l l1 objs : bp} (hd : tg s b o' objs l1) (h : o = o') (k : dV l l1) : dV ((s, b, o) :: l) objs := h ▸ .cons hd.del k

theorem rv (w : World) (ss m : Nat) (hm : 0 < m) : gT w objs w ((ss, 0, .row m []) :: objs) :=
  ⟨fun _ _ _ => rfl, fun b _ ha => ⟨ha.1, by
    obtain ⟨h0, s, o, hm⟩ := ha
    rcases List.mem_cons.1 hm with he | hm
    · simp only [Prod.mk.injEq] at he; omega
    · exact ⟨s, o, hm⟩⟩, fun s b m' rows _ hb hm' => by
    rcases List.mem_cons.1 hm' with he | hm'
    · simp only [Prod.mk.injEq] at he; omega
    · exact ⟨⟨rows, hm'⟩, rfl⟩, Nat.le_refl _, fun hk => by
    rcases List.mem_cons.1 hk with he | hk
    · simp only [dg, Prod.mk.injEq, ca.row.injEq] at he; omega
    · exact hk⟩
theorem cV.nil {w : World} (hw : cV w0 objs w) {ss m : Nat} (hm : 0 < m) (hs : ∀ x ∈ objs, x.1 ≠ ss) : cV w0 ((ss, 0, .row m []) :: objs) w :=
  ⟨hw.below, hw.pos, fun s b o h => by
    rcases List.mem_cons.1 h with he | h
    · simp only [Prod.mk.injEq] at he
      obtain ⟨rfl, rfl, rfl⟩ := he
      exact ⟨⟨hm, by simp⟩, by simp, .inl ⟨rfl, rfl⟩⟩
    · exact (hw.obj s b o h).step (rv w ss m hm) rfl, List.pairwise_cons.2 ⟨fun y hy => ⟨(hs y hy).symm, .inr rfl⟩, hw.sites⟩⟩
theorem Sim.nil {a : Act} {w : World} (h : Sim w0 N env objs a w) {t : Nat} (m : Nat) (hm : 0 < m) (ht : lk t env = some .nils) : ∃ ss, Sim w0 N ((t, .ms ss 0 0 0) :: env) ((ss, 0, .row m []) :: objs) a w := by
  obtain ⟨ss, hss⟩ := fp objs
  have hpos : 0 < w.heap.size := Nat.lt_of_lt_of_le h.mem.pos h.mem.below.size
  have hw := h.mem.nil hm hss
  refine ⟨ss, h.defers, h.size, hw, fun t' v hv => ?_⟩
  rw [bL] at hv
  split at hv
  · rename_i e
    subst e
    simp only [Option.some.injEq] at hv
    subst hv
    have h1 := h.env _ _ ht
    generalize a.tmps.getD t undef = u at h1
    cases h1
    exact .ms ss 0 0 0 _ (.mk ⟨hpos, hw.noMark, none, 0, rfl⟩ (fun _ _ _ => .inl ⟨rfl, rfl, rfl, rfl⟩) fun _ => ⟨rfl, rfl, rfl⟩)
  · exact (h.env t' v hv).step (rv w ss m hm)
theorem dG {x : Exit} (t m : Nat) (hm : 0 < m) (ht : lk t env = some .nils) (h : ∀ ss, AQ w0 N Q x ((t, .ms ss 0 0 0) :: env) ((ss, 0, .row m []) :: objs)) : AQ w0 N Q x env objs := ⟨fun a w hs => by
  obtain ⟨ss, h1⟩ := hs.nil m hm ht
  exact (h ss).run a w h1⟩
end

def CtM (P : Program) (G : World → Prop) (f : FuncId) (args : List TV) (objs : bp) {Y : Type} (I : Y → Prop) (O : Y → bp) (r : Y → TV) : Prop :=
  ∀ (w0 w : World) (R : bp) (gs : List (TV × Value)) (vs : Array Value), G w0 → cV w0 (objs ++ R) w → Rep w (objs ++ R) (.gh gs) undef → vs.size = args.length → (∀ (i : Nat) (t : TV) (v : Value), args[i]? = some t → vs[i]? = some v → Rep w (objs ++ R) t v) →
    Calls P f vs w fun e w' => ∃ v y, e = .returned v ∧ I y ∧ cV w0 (O y ++ R) w' ∧ Rep w' (O y ++ R) (.gh gs) undef ∧ Rep w' (O y ++ R) (r y) v
inductive qv : bp → bp → bp → Prop
  | nil (R : bp) : qv [] R R
  | cons (x : Nat × Nat × ca) (l R l' : bp) (h : qv l R l') : qv (x :: l) R (x :: l')
  | app (l R : bp) : qv l R (l ++ R)
theorem qv.eq {l R l' : bp} (h : qv l R l') : l ++ R = l' := by
  induction h with
  | nil R => rfl
  | cons x l R l' h ih => rw [List.cons_append, ih]
  | app l R => rfl
theorem qv.inv0 {R l : bp} (h : qv [] R l) : R = l := h.eq
theorem qv.inv1 {x : Nat × Nat × ca} {R l : bp} (h : qv [x] R l) : l = x :: R := h.eq.symm
def yy (w0 : World) (R : bp) (gs : List (TV × Value)) {Y : Type} (I : Y → Prop) (O : Y → bp) (r : Y → TV) : Ending → World → Prop := fun e w' =>
  ∃ v y, e = .returned v ∧ I y ∧ cV w0 (O y ++ R) w' ∧ Rep w' (O y ++ R) (.gh gs) undef ∧ Rep w' (O y ++ R) (r y) v
theorem bB {P : Program} {G : World → Prop} {f : FuncId} {fn : Func} {c : Code} {args : List TV} {objs : bp} {Y : Type} {I : Y → Prop} {O : Y → bp} {r : Y → TV} {N : Nat} {env : Env} (hf : P.funcs[f]? = some fn) (hb : fn.body = some c) (hn : fn.ntmps = N) (hN : Nat.ble args.length N = true) (hN2 : Nat.ble N 1000000 = true) (he : lZ 0 args = env)
    (h : ∀ w0 R gs objsR, G w0 → qv objs R objsR → AW P w0 N c (bodyPost P fn (yy w0 R gs I O r)) (env ++ [(1000000, .gh gs)]) objsR) : CtM P G f args objs I O r := fun w0 w R gs vs hG hw hgs hsz hrep => by
  have hN := Nat.le_of_ble_eq_true hN
  have hN2 := Nat.le_of_ble_eq_true hN2
  subst he
  refine calls_of_wp hf hb ((h w0 R gs (objs ++ R) hG (.app _ _)).run _ w ⟨rfl, ?_, hw, fun t v hv => ?_⟩)
  · simp [hn, hsz]; omega
  · rcases tQ hv with hv | hv
    · obtain ⟨_, h2⟩ := j7 hv
      rw [Nat.sub_zero] at h2
      have hlt : t < vs.size := by rw [hsz]; exact (List.getElem?_eq_some_iff.1 h2).1
      have : (vs ++ Array.replicate (fn.ntmps - vs.size) undef).getD t undef = vs[t] := by simp [Array.getElem?_append_left hlt, hlt]
      rw [this]
      exact hrep t v _ h2 (by simp [hlt])
    · rw [bL] at hv
      split at hv
      · simp only [Option.some.injEq] at hv
        subst hv
        cases hgs with
        | gh l v h => exact .gh gs _ h
      · simp [lk] at hv

section
variable {P : Program} {w0 : World} {N : Nat} {Q : Exit → Act → World → Prop} {env : Env} {objs objs' : bp} {o : Oper}

theorem qQ {fn : Func} {R : bp} {gs : List (TV × Value)} {Y : Type} {I : Y → Prop} {O : Y → bp} {r : Y → TV} {x : Exit} (hx : x = .normal ∨ x = .ret) {a : Act} {w : World} (hs : Sim w0 N env objs a w) (y : Y) (hI : I y) (hg : lk 1000000 env = some (.gh gs)) (hp : dV (O y ++ R) objs) {v : Value} (hr : (results fn a.tmps).run P w = .ok v w) (hv : Rep w objs (r y) v) : bodyPost P fn (yy w0 R gs I O r) x a w := by
  have h1 : yy w0 R gs I O r (.returned v) w := by
    have h2 := hs.env _ _ hg
    refine ⟨v, y, rfl, hI, hs.mem.sub hp, ?_, hv.step (fo hp w)⟩
    generalize a.tmps.getD 1000000 undef = u at h2
    cases h2 with
    | gh l v h => exact .gh gs _ fun i t u hi => (h i t u hi).step (fo hp w)
  rcases hx with rfl | rfl
  · exact ⟨hs.defers, v, hr, h1⟩
  · exact ⟨hs.defers, v, hr, h1⟩
section
variable {fn : Func} {R : bp} {gs : List (TV × Value)} {Y : Type} {I : Y → Prop} {O : Y → bp} {r : Y → TV} {x : Exit}
theorem a8 {r1 : ResultVar} {t1 : TV} (hx : x = .normal ∨ x = .ret) (hres : fn.results = #[r1]) (y : Y) (hI : I y) (hg : lk 1000000 env = some (.gh gs)) {l : bp} (ho : qv (O y) R l) (hp : dV l objs) (h1 : RV P env objs r1 t1) (hr : r y = t1) : AQ w0 N (bodyPost P fn (yy w0 R gs I O r)) x env objs := ⟨fun a w hs => by
  obtain ⟨v1, e1, g1⟩ := gU hs h1
  refine qQ hx hs y hI hg (ho.eq ▸ hp) (v := v1) ?_ (by rw [hr]; exact g1)
  have : results fn a.tmps = (#[r1].mapM (oA a.tmps)) >>= fun vs => pure (if h : vs.size = 1 then vs[0] else .tuple vs) := by rw [← hres]; rfl
  rw [this]
  simp [e1]⟩
theorem cT {r1 r2 : ResultVar} {t1 t2 : TV} (hx : x = .normal ∨ x = .ret) (hres : fn.results = #[r1, r2]) (y : Y) (hI : I y) (hg : lk 1000000 env = some (.gh gs)) {l : bp} (ho : qv (O y) R l) (hp : dV l objs) (h1 : RV P env objs r1 t1) (h2 : RV P env objs r2 t2) (hr : r y = .tup [t1, t2]) : AQ w0 N (bodyPost P fn (yy w0 R gs I O r)) x env objs := ⟨fun a w hs => by
  obtain ⟨v1, e1, g1⟩ := gU hs h1
  obtain ⟨v2, e2, g2⟩ := gU hs h2
  refine qQ hx hs y hI hg (ho.eq ▸ hp) (v := .tuple #[v1, v2]) ?_ (by rw [hr]; exact q9 g1 g2)
  have : results fn a.tmps = (#[r1, r2].mapM (oA a.tmps)) >>= fun vs => pure (if h : vs.size = 1 then vs[0] else .tuple vs) := by rw [← hres]; rfl
  rw [this]
  simp [Sem.run_bind, e1, e2]⟩
end

inductive bA (env : Env) : List Operand → List TV → Prop
  | nil : bA env [] []
  | cons (x : Operand) (xs : List Operand) (t : TV) (ts : List TV) (h : ev env x = some t) (hr : bA env xs ts) : bA env (x :: xs) (t :: ts)
theorem tY {w : World} {a : Act} {xs : List Operand} {ts : List TV} (h : bA env xs ts) (hop : ∀ x ∈ xs, ∀ v, ev env x = some v → Rep w objs v (a.eval x)) : (xs.map a.eval).length = ts.length ∧ ∀ (i : Nat) (t : TV) (v : Value), ts[i]? = some t → (xs.map a.eval)[i]? = some v → Rep w objs t v := by
  induction h with
  | nil => simp
  | cons x xs t ts h hr ih =>
    obtain ⟨h1, h2⟩ := ih (fun y hy => hop y (by simp [hy]))
    refine ⟨by simpa using h1, fun i u v hu hv' => ?_⟩
    cases i with
    | zero => simp at hu hv'; subst hu; subst hv'; exact hop x (by simp) t h
    | succ i => exact h2 i u v (by simpa using hu) (by simpa using hv')

def oq (env : Env) (a : Act) : List (TV × Value) := env.map fun p => ((lk p.1 env).getD .top, a.tmps.getD p.1 undef)
theorem wy {t : Nat} : ∀ {env : Env} {v : TV}, lk t env = some v → ∃ u, (t, u) ∈ env
  | [], _, h => by simp [lk] at h
  | (s, u) :: r, v, h => by
    rw [bL] at h
    split at h
    · rename_i e; subst e; exact ⟨u, List.mem_cons_self⟩
    · obtain ⟨u', h'⟩ := wy h; exact ⟨u', List.mem_cons_of_mem _ h'⟩
theorem wo {t : Nat} : ∀ {env : Env} {u : TV}, (t, u) ∈ env → ∃ v, lk t env = some v
  | [], _, h => by simp at h
  | (s, u) :: r, u', h => by
    rw [bL]
    by_cases e : s = t
    · exact ⟨u, by rw [if_pos e]⟩
    · rw [if_neg e]
      rcases List.mem_cons.1 h with he | h
      · simp only [Prod.mk.injEq] at he; exact absurd he.1.symm e
      · exact wo h
theorem sA {a : Act} {w : World} (hs : Sim w0 N env objs a w) : Rep w objs (.gh (oq env a)) undef := .gh _ _ fun i t u hi => by
  unfold oq at hi
  rw [List.getElem?_map] at hi
  obtain ⟨p, hp, he⟩ := Option.map_eq_some_iff.1 hi
  simp only [Prod.mk.injEq] at he
  obtain ⟨v, hv⟩ := wo (List.mem_of_getElem? hp)
  rw [hv, Option.getD_some] at he
  rw [← he.1, ← he.2]
  exact hs.env _ _ hv
theorem sm {a : Act} {w' : World} (h : Rep w' objs' (.gh (oq env a)) undef) : ∀ t v, lk t env = some v → Rep w' objs' v (a.tmps.getD t undef) := fun t v hv => by
  obtain ⟨u, hu⟩ := wy hv
  obtain ⟨i, hi, he⟩ := List.getElem_of_mem hu
  cases h with
  | gh l v' h =>
    refine h i v _ ?_
    unfold oq
    rw [List.getElem?_map, List.getElem?_eq_getElem hi, Option.map_some, he]
    simp [hv]
theorem vB {G : World → Prop} {ops : Array Oper} {rest : List Oper} {f : Nat} {xs : List Operand} {ts : Array TypeId} {args : List TV} {objsC R : bp} {Y : Type} {I : Y → Prop} {O : Y → bp} {r : Y → TV} (ho : o.op = .call { callee := .value (.func f), args := xs.toArray, argTypes := ts }) (hc : fD P f = true) (hargs : bA env xs args)
    (hct : CtM P G f args objsC I O r) (hG : G w0) (hap : qv objsC R objs) (hpk : ∀ y, I y → ∀ v w' a, Sim w0 N env (O y ++ R) a w' → Rep w' (O y ++ R) (r y) v → wpList P ops Q rest (a.put o.dst v) w') : AO P w0 N ops Q o rest env objs := ⟨fun a w K hs hK => by
  have heq := hap.eq
  subst heq
  obtain ⟨h1, h2⟩ := tY (objs := objsC ++ R) (w := w) (a := a) hargs (fun x _ v hv => dY hs hv)
  unfold Oper.wp
  rw [ki ho hc]
  refine (hct w0 w R (oq env a) (xs.map a.eval).toArray hG hs.mem (sA hs) (by simpa using h1) (fun i t v ht hv => h2 i t v ht (by simpa using hv))).mono ?_
  rintro e w' ⟨v, y, rfl, hI, hw', hg, hr⟩
  exact hK _ _ (hpk y hI v w' a ⟨hs.defers, hs.size, hw', sm hg⟩ hr)⟩
theorem vd {a : Act} {w' : World} (hs : Sim w0 N env objs a w') {d : Nat} (hd : Nat.blt d N = true) {tv : TV} {v : Value} (hr : Rep w' objs tv v) : Sim w0 N ((d, tv) :: env) objs (a.put (some d) v) w' := hs.putNew hd hr hs.mem (fA _ _)
theorem bE {G : World → Prop} {ops : Array Oper} {rest : List Oper} {d T0 : Nat} {pos : String} {af : Array Edge} {g : Option (Nat × Bool)} {f : Nat} {xs : List Operand} {ts : Array TypeId} {args : List TV} {objsC R : bp} {Y : Type} {I : Y → Prop} {O : Y → bp} {r : Y → TV} (hN : Nat.blt d N = true) (hc : fD P f = true) (hargs : bA env xs args)
    (hG : G w0) (hct : CtM P G f args objsC I O r) (hap : qv objsC R objs) (h : ∀ y, I y → AL P w0 N ops Q rest ((d, r y) :: env) (O y ++ R)) : AO P w0 N ops Q ⟨some d, .call { callee := .value (.func f), args := xs.toArray, argTypes := ts }, T0, pos, af, g⟩ rest env objs :=
  vB rfl hc hargs hct hG hap fun y hI _v _w' _a hs hr => (h y hI).run _ _ (vd hs hN hr)
end

inductive iI (objs : bp) : TV → Prop
  | flat (t : TV) (h : t.flat = true) : iI objs t
  | nils : iI objs .nils
  | ms (s b off len m : Nat) (rows : List (List TV)) (hm : (s, b, ca.row m rows) ∈ objs) : iI objs (.ms s b off len)
  | agg (l : List TV) (h : ∀ t ∈ l, iI objs t) : iI objs (.agg l)
  | tup (l : List TV) (h : ∀ t ∈ l, iI objs t) : iI objs (.tup l)
def j9 (objs : bp) : ca → Prop
  | .row _ rows => ∀ t ∈ rows.flatten, iI objs t
  | .box cells => ∀ t ∈ cells, iI objs t
  | .void => False
  | .iter _ _ => False
def kp (objs : bp) : bp := objs.map fun x => (x.1, 0, ca.void)
theorem ij {objs : bp} {x : Nat × Nat × ca} (h : x ∈ kp objs) : ∃ y ∈ objs, x = (y.1, 0, ca.void) := by
  obtain ⟨y, hy, rfl⟩ := List.mem_map.1 h
  exact ⟨y, hy, rfl⟩
theorem qL {objs : bp} (h : List.Pairwise dH objs) : List.Pairwise dH (kp objs) := by
  unfold kp
  rw [List.pairwise_map]
  exact h.imp fun h => ⟨h.1, .inr rfl⟩
section
variable {P : Program} {w0 : World} {N : Nat} {Q : Exit → Act → World → Prop} {env : Env} {objs objs' : bp} {o : Oper}
theorem sx (w : World) (l : bp) : gT w [] w (kp l) :=
  ⟨fun _ _ _ => rfl, fun b _ ha => by
    obtain ⟨h0, s, o, hm⟩ := ha
    obtain ⟨y, _, he⟩ := ij hm
    simp only [Prod.mk.injEq] at he
    exact absurd he.2.1 h0, fun s b m rows _ hb hm => by
    obtain ⟨y, _, he⟩ := ij hm
    simp only [Prod.mk.injEq] at he
    exact absurd he.2.1 hb, Nat.le_refl _, fun hk => by
    obtain ⟨y, _, he⟩ := ij hk
    simp [dg] at he⟩
theorem sP {w : World} (hw : cV w0 objs w) : cV w (kp objs) w :=
  ⟨Below.refl _ _, Nat.lt_of_lt_of_le hw.pos hw.below.size, fun s b o hm => by
    obtain ⟨y, _, he⟩ := ij hm
    simp only [Prod.mk.injEq] at he
    obtain ⟨rfl, rfl, rfl⟩ := he
    rfl, qL hw.sites⟩

theorem wj {w : World} {objs objs' : bp} {t : TV} {v : Value} (hf : t.flat = true) (h : Rep w objs t v) : Rep w objs' t v := by
  cases h with
  | int k n => exact .int k n
  | bool b => exact .bool b
  | str s => exact .str s
  | nilp => exact .nilp
  | _ => cases hf
theorem gX {w w' : World} {O : bp} (hD : cV w (O ++ kp objs) w') (hO : ∀ s b o, (s, b, o) ∈ O → j9 O o) {s b : Nat} {o : ca} (hm : (s, b, o) ∈ O) : b = 0 ∨ w.heap.size ≤ b := by
  have h1 := hD.obj s b o (List.mem_append_left _ hm)
  have h2 := hO s b o hm
  cases o with
  | row m rows => exact h1.2.2.imp (fun h => h.1) (fun h => h.1)
  | box cells => exact .inr h1.1.1
  | void => exact absurd h2 id
  | iter _ _ => exact absurd h2 id
theorem p5 {w w' : World} {O : bp} (hw : cV w0 objs w) (hD : cV w (O ++ kp objs) w') (hO : ∀ s b o, (s, b, o) ∈ O → j9 O o) {t : TV} {v : Value} (hn : iI O t) (h : Rep w' (O ++ kp objs) t v) : Rep w' (O ++ objs) t v := by
  induction hn generalizing v with
  | flat t hf => exact wj hf h
  | nils => cases h; exact .nils
  | ms s b off len m rows hm =>
    cases h with
    | ms _ _ _ _ _ h =>
      obtain ⟨⟨h1, h2, h3⟩, h4, h5⟩ := h
      refine .ms _ _ _ _ _ ⟨⟨h1, fun hk => ?_, h3⟩, h4, fun m' rows' hb hm' => ?_⟩
      · rcases List.mem_append.1 hk with hk | hk
        · exact h2 (List.mem_append_left _ hk)
        · exact hw.noMark hk
      · rcases List.mem_append.1 hm' with hm' | hm'
        · exact h5 m' rows' hb (List.mem_append_left _ hm')
        · have := cK hw hm'
          rcases gX hD hO hm with e | e
          · exact absurd e hb
          · omega
  | agg l hl ih =>
    cases h with
    | agg l vs hi h1 h2 => exact .agg l vs hi h1 fun i t v ht hv => ih t (List.mem_of_getElem? ht) (h2 i t v ht hv)
  | tup l hl ih =>
    cases h with
    | tup l vs h1 h2 => exact .tup l vs h1 fun i t v ht hv => ih t (List.mem_of_getElem? ht) (h2 i t v ht hv)
theorem rc {w w' : World} {O : bp} (_hw : cV w0 objs w) (hD : cV w (O ++ kp objs) w') (hO : ∀ s b o, (s, b, o) ∈ O → j9 O o) : gT w objs w' (O ++ objs) :=
  ⟨fun b hb _ => hD.below.block b hb, fun b hb ha => by
    obtain ⟨h0, s, o, hm⟩ := ha
    rcases List.mem_append.1 hm with hm | hm
    · rcases gX hD hO hm with e | e
      · exact absurd e h0
      · omega
    · exact ⟨h0, s, o, hm⟩, fun s b m rows hb h0 hm => by
    rcases List.mem_append.1 hm with hm | hm
    · rcases gX hD hO hm with e | e
      · exact absurd e h0
      · omega
    · exact ⟨⟨rows, hm⟩, eS (hD.below.block b hb)⟩, hD.below.size, fun hk => by
    rcases List.mem_append.1 hk with hk | hk
    · exact absurd (List.mem_append_left _ hk) hD.noMark
    · exact hk⟩
theorem vI {w w' : World} {O : bp} (hw : cV w0 objs w) (hD : cV w (O ++ kp objs) w') (hO : ∀ s b o, (s, b, o) ∈ O → j9 O o) : cV w0 (O ++ objs) w' := by
  have hst := rc hw hD hO
  have hle := hw.below.size
  refine ⟨hw.below.trans (hD.below.mono hle), hw.pos, fun s b o hm => ?_, ?_⟩
  · rcases List.mem_append.1 hm with hm | hm
    · have h1 := hD.obj s b o (List.mem_append_left _ hm)
      have h2 := hO s b o hm
      cases o with
      | row m rows =>
        refine ⟨h1.1, h1.2.1, h1.2.2.imp id fun ⟨g1, cur, e, cap, g2, g3, g4, g5, g6⟩ => ⟨Nat.le_trans hle g1, cur, e, cap, g2, g3, g4, g5, fun j t hj => ?_⟩⟩
        obtain ⟨v, g7, g8⟩ := g6 j t hj
        exact ⟨v, g7, p5 hw hD hO (h2 t (List.mem_of_getElem? hj)) g8⟩
      | box cells =>
        obtain ⟨⟨g1, g0⟩, cur, e, g2, g3, g6⟩ := h1
        refine ⟨⟨Nat.le_trans hle g1, g0⟩, cur, e, g2, g3, fun j t hj => ?_⟩
        obtain ⟨v, g7, g8⟩ := g6 j t hj
        exact ⟨v, g7, p5 hw hD hO (h2 t (List.mem_of_getElem? hj)) g8⟩
      | void => exact absurd h2 id
      | iter _ _ => exact absurd h2 id
    · exact (hw.obj s b o hm).step hst (hD.below.block b (cK hw hm))
  · obtain ⟨p1, _, p3⟩ := List.pairwise_append.1 hD.sites
    refine List.pairwise_append.2 ⟨p1, hw.sites, fun x hx y hy => ?_⟩
    refine ⟨(p3 x hx (y.1, 0, .void) (List.mem_map.2 ⟨y, hy, rfl⟩)).1, ?_⟩
    rcases gX hD hO (s := x.1) (b := x.2.1) (o := x.2.2) hx with e | e
    · exact .inr e
    · have := cK (s := y.1) (b := y.2.1) (ob := y.2.2) hw hy
      exact .inl (by omega)
theorem wa {G : World → Prop} {ops : Array Oper} {rest : List Oper} {f : Nat} {xs : List Operand} {ts : Array TypeId} {args : List TV} {Y : Type} {I : Y → Prop} {O : Y → bp} {r : Y → TV} (ho : o.op = .call { callee := .value (.func f), args := xs.toArray, argTypes := ts }) (hc : fD P f = true) (hargs : dU env objs xs args)
    (hct : CtM P G f args [] I O r) (hG : G w0) (hst : aY G) (hnew : ∀ y, I y → (∀ s b o, (s, b, o) ∈ O y → j9 (O y) o) ∧ iI (O y) (r y)) (h : ∀ y, I y → ∀ v w' a, Sim w0 N env (O y ++ objs) a w' → Rep w' (O y ++ objs) (r y) v → wpList P ops Q rest (a.put o.dst v) w') : AO P w0 N ops Q o rest env objs := ⟨fun a w K hs hK => by
  obtain ⟨h1, h2⟩ := na hs.mem (a := a) hargs (fun x _ v hv => dY hs hv)
  unfold Oper.wp
  rw [ki ho hc]
  have hw := sP hs.mem
  refine (hct w w (kp objs) [] (xs.map a.eval).toArray (hst.below _ _ hG hs.mem.below) (by simpa using hw) (.gh _ _ (by simp)) (by simpa using h1) (fun i t v ht hv => ?_)).mono ?_
  · exact (h2 i t v ht (by simpa using hv)).step (by simpa using sx w objs)
  · rintro e w' ⟨v, y, rfl, hI, hw', _, hr⟩
    obtain ⟨n1, n2⟩ := hnew y hI
    have hst' := rc hs.mem hw' n1
    exact hK _ _ (h y hI v w' a ⟨hs.defers, hs.size, vI hs.mem hw' n1, fun t u hu => (hs.env t u hu).step hst'⟩ (p5 hs.mem hw' n1 n2 hr))⟩
theorem w8 {G : World → Prop} {ops : Array Oper} {rest : List Oper} {d T0 : Nat} {pos : String} {af : Array Edge} {g : Option (Nat × Bool)} {f : Nat} {xs : List Operand} {ts : Array TypeId} {args : List TV} {r : Nat → TV} (hN : Nat.blt d N = true) (hc : fD P f = true) (hG : G w0) (hst : aY G) (hct : Ct P G f args r) (hargs : dU env objs xs args)
    (h : AL P w0 N ops Q rest ((d, r w0.heap.size) :: env) objs) : AO P w0 N ops Q ⟨some d, .call { callee := .value (.func f), args := xs.toArray, argTypes := ts }, T0, pos, af, g⟩ rest env objs := sf rfl hN (tn rfl hc hargs hct hG hst) h
theorem e7 {G : World → Prop} {ops : Array Oper} {rest : List Oper} {d T0 : Nat} {pos : String} {af : Array Edge} {g : Option (Nat × Bool)} {f : Nat} {xs : List Operand} {ts : Array TypeId} {args : List TV} {Y : Type} {I : Y → Prop} {O : Y → bp} {r : Y → TV} (hN : Nat.blt d N = true) (hc : fD P f = true)
    (hG : G w0) (hst : aY G) (hct : CtM P G f args [] I O r) (hargs : dU env objs xs args) (hnew : ∀ y, I y → (∀ s b o, (s, b, o) ∈ O y → j9 (O y) o) ∧ iI (O y) (r y)) (h : ∀ y, I y → AL P w0 N ops Q rest ((d, r y) :: env) (O y ++ objs)) : AO P w0 N ops Q ⟨some d, .call { callee := .value (.func f), args := xs.toArray, argTypes := ts }, T0, pos, af, g⟩ rest env objs :=
  wa rfl hc hargs hct hG hst hnew fun y hI _v _w' _a hs hr => (h y hI).run _ _ (vd hs hN hr)
theorem d7.msAll {s b len m : Nat} {rows : List (List TV)} (hm : (s, b, ca.row m rows) ∈ objs) (hl : rows.length = len) : d7 objs (.ms s b 0 len) (.sl 0 m rows) := by
  subst hl
  exact .msSame hm (by omega) (by simp)
theorem vr {objs : bp} {rows : List (List TV)} (h : ∀ t ∈ rows.flatten, t.flat = true) : ∀ t ∈ rows.flatten, iI objs t := fun t ht => .flat t (h t ht)

end
section
variable {P : Program} {w0 : World} {N : Nat} {Q : Exit → Act → World → Prop} {env : Env} {objs objs' : bp} {o : Oper}
theorem xh {K : Env → Prop} {ops : Array Oper} {rest : List Oper} {d T0 : Nat} {pos : String} {af : Array Edge} {g : Option (Nat × Bool)} {T : TypeId} {ps : List (Nat × Operand)} {zs l : List TV} (hN : Nat.blt d N = true) (he : zT T = zs) (hb : TB P env T ps zs l) (hz : cJ P T = some (zT T)) (hp : (gj P T).isSome = true)
    (h : DR P w0 N ops objs K rest ((d, .agg l) :: env)) : DO P w0 N ops objs K ⟨some d, .build T ps.toArray, T0, pos, af, g⟩ rest env := ⟨fun hgr => .run _ _ _ _ _ rfl hN hgr (tL rfl hz hp (he ▸ hb)) h⟩
end
section
variable {P : Program} {w0 : World} {N : Nat} {Q : Exit → Act → World → Prop} {env : Env} {objs objs' : bp} {o : Oper}
inductive Evs (env : Env) : List Operand → List TV → Prop
  | nil : Evs env [] []
  | cons (x : Operand) (xs : List Operand) (t : TV) (ts : List TV) (h : ev env x = some t) (hr : Evs env xs ts) : Evs env (x :: xs) (t :: ts)
theorem wR {w : World} {a : Act} {xs : List Operand} {l : List TV} (h : Evs env xs l) (hop : ∀ x ∈ xs, ∀ v, ev env x = some v → Rep w objs v (a.eval x)) : l.length = xs.length ∧ ∀ (i : Nat) (t : TV) (v : Value), l[i]? = some t → (xs.map a.eval)[i]? = some v → Rep w objs t v := by
  induction h with
  | nil => simp
  | cons x xs t ts h hr ih =>
    obtain ⟨h1, h2⟩ := ih (fun y hy => hop y (by simp [hy]))
    refine ⟨by simpa using h1, fun i u v hu hv => ?_⟩
    cases i with
    | zero => simp at hu hv; subst hu; subst hv; exact hop x (by simp) t h
    | succ i => exact h2 i u v (by simpa using hu) (by simpa using hv)
theorem sy {f : Nat} {xs : List Operand} {l : List TV} (ho : o.op = .makeFunc (.func f) #[] xs.toArray) (hx : Evs env xs l) : bs P w0 env objs o (.fn f l) := a6 fun a w hw hop => by
  obtain ⟨h1, h2⟩ := wR (objs := objs) (w := w) (a := a) hx (fun x hx v hv => hop x (by simp [ho, Op.operands, hx]) v hv)
  refine ⟨.func (.func f) #[] (xs.map a.eval).toArray, ?_, .fn f l _ (by simpa using h1) (fun i t v ht hv => h2 i t v ht (by simpa using hv))⟩
  simp only [execOp, ho]
  refine cq ?_
  simp [Instr.makeFunc, Sem.run_pure, List.map_toArray]
inductive im (objs : bp) : List TV → List TV → Prop
  | nil : im objs [] []
  | cons (t t' : TV) (l l' : List TV) (h : d7 objs t t') (hr : im objs l l') : im objs (t :: l) (t' :: l')
theorem tj {l l' : List TV} (h : im objs l l') : l'.length = l.length ∧ ∀ (i : Nat) (t t' : TV), l[i]? = some t → l'[i]? = some t' → d7 objs t t' := by
  induction h with
  | nil => simp
  | cons t t' l l' h hr ih =>
    refine ⟨by simpa using ih.1, fun i u u' hu hu' => ?_⟩
    cases i with
    | zero => simp at hu hu'; subst hu; subst hu'; exact h
    | succ i => exact ih.2 i u u' (by simpa using hu) (by simpa using hu')
theorem rQ {f : Nat} {x : Operand} {xs : List Operand} {vs : Array Value} {ts : Array TypeId} (ho : o.op = .call { callee := .value x, args := xs.toArray, argTypes := ts }) (hc : fD P f = true) (a : Act) (w : World) (hx : a.eval x = .func (.func f) #[] vs) : (execOp a.eval o).run P w = .ok (.enter f ((xs.map a.eval).toArray ++ vs)) w := by
  simp only [execOp, ho, resolve, hx, Sem.run_bind, Sem.run_pure, Result.andThen_ok, Deferred.ofValue, invoke]
  simp [ji hc, List.map_toArray]
theorem uG {G : World → Prop} {f : Nat} {x : Operand} {xs : List Operand} {ts : Array TypeId} {l l' args : List TV} {r : Nat → TV} (ho : o.op = .call { callee := .value x, args := xs.toArray, argTypes := ts }) (hx : ev env x = some (.fn f l)) (hc : fD P f = true) (hargs : dU env objs xs args) (hl : im objs l l')
    (hct : Ct P G f (args ++ l') r) (hG : G w0) (hst : aY G) : bs P w0 env objs o (r w0.heap.size) := fun a w K Q hw hop hK => by
  obtain ⟨h1, h2⟩ := na hw (a := a) hargs (fun x hx v hv => hop x (by simp [ho, Op.operands, Call.operands, hx]) v hv)
  have hfn := hop x (by simp [ho, Op.operands, Call.operands]) _ hx
  generalize hv : a.eval x = v at hfn
  cases hfn with
  | fn f l vs g1 g2 =>
    obtain ⟨g3, g4⟩ := tj hl
    unfold Oper.wp
    rw [rQ ho hc a w hv]
    refine (hct w _ (Nat.lt_of_lt_of_le hw.pos hw.below.size) (hst.below _ _ hG hw.below) (by simp at h1; simp; omega) (fun i t v ht hv' => ?_)).mono ?_
    · rw [List.length_map] at h1
      by_cases hi : i < args.length
      · rw [List.getElem?_append_left hi] at ht
        rw [Array.getElem?_append_left (by simp; omega)] at hv'
        exact h2 i t v ht (by simpa using hv')
      · rw [List.getElem?_append_right (by omega)] at ht
        rw [Array.getElem?_append_right (by simp; omega)] at hv'
        simp only [List.size_toArray, List.length_map] at hv'
        rw [h1] at hv'
        obtain ⟨t0, h5⟩ := cR g3 ht
        exact rd hw (g4 _ _ _ h5 ht) (g2 _ _ _ h5 hv')
    · rintro e w' ⟨v, rfl, hb, hr⟩
      have hk : ∀ b, b < w.heap.size → w'.heap[b]? = w.heap[b]? := fun b hlt => hb.block b hlt
      have hbel : Below w0.heap.size w0 w' := hw.below.trans (hb.mono hw.below.size)
      exact hK v w' (Rep.ofOld (fun b ha => by obtain ⟨_, s, ob, hm⟩ := ha; exact cK hw hm) (hr _ hw.below.size)) (hw.grow hbel hb.size hk) (iB objs hb.size hk)
theorem ta {w : World} (hw : cV w0 objs w) {s b m : Nat} {rows : List (List TV)} (hm : (s, b, ca.row m rows) ∈ objs) {v : Value} (hr : Rep w objs (.ms s b 0 rows.length) v) (hp : dV objs' objs) (hna : ¬ kW objs' b) : Rep w objs' (.sl w0.heap.size m rows) v := by
  obtain ⟨⟨hm0, hci⟩, hmm, hor⟩ := hw.obj s b _ hm
  rcases (ot hr).or m rows hm with ⟨_, _, hlen, rfl⟩ | ⟨hb0, q, c, e, k, rfl, hlc, hsh, hk, ho⟩
  · have : rows = [] := List.eq_nil_of_length_eq_zero hlen
    subst this
    exact .sl _ m [] none 0 (Nat.le_refl _) (by simp) (by simp) (by simp) (fun _ => undef) (by simp) (by simp)
  · rcases hor with ⟨h0, _⟩ | ⟨hB, cur, e', cap, h3, h4, h5, h6, h7⟩
    · exact absurd h0 hb0
    have hcm : c ≤ maxLen := by
      have h8 : w.shape? b = some (e', cur.size) := by unfold World.shape?; rw [h3]
      rw [h8] at hsh
      simp only [Option.some.injEq, Prod.mk.injEq] at hsh
      have h9 : cap * m = (0 + c) * m := by omega
      have := Nat.eq_of_mul_eq_mul_right hm0 h9
      omega
    have hq : q = 0 := by simpa using ho (.inr rfl)
    subst hq
    have key : ∀ j, ∃ u, ∀ t', rows.flatten[j]? = some t' → w.cell? ⟨b, 0 + j, none⟩ = some u ∧ Rep w objs' t' u := fun j => by
      cases hj : rows.flatten[j]? with
      | none => exact ⟨undef, fun t' ht => by cases ht⟩
      | some t =>
        obtain ⟨u, p1, p2⟩ := h7 _ t hj
        exact ⟨u, fun t' ht => by cases ht; exact ⟨by rw [cell_of_row w b _ cur e' (0, 0) h3, Nat.zero_add]; exact p1, p2.step (fo hp w)⟩⟩
    exact .sl _ m rows (some ⟨b, 0, none⟩) c hlc hcm hmm hci (fun j => Classical.choose (key j)) (fun j t hj => ⟨b, 0, rfl, ⟨hB, hna⟩, (Classical.choose_spec (key j) t hj).1⟩) (fun j t hj => (Classical.choose_spec (key j) t hj).2)
theorem Sim.freeze {a : Act} {w : World} (hs : Sim w0 N env objs a w) {t s b m n : Nat} {rows : List (List TV)} (hx : lk t env = some (.ms s b 0 n)) (hn : rows.length = n) (hd : tg s b (.row m rows) objs objs') : Sim w0 N ((t, .sl w0.heap.size m rows) :: env) objs' a w := by
  subst hn
  have hdel : dV ((s, b, .row m rows) :: objs') objs := .perm hd.del.perm
  have hp : dV objs' objs := (dV.drop (.refl _)).trans hdel
  have hmem : (s, b, ca.row m rows) ∈ objs := hdel.mem _ List.mem_cons_self
  have hpw := hdel.sites hs.mem.sites
  have hna : ¬ kW objs' b := fun ha => by
    obtain ⟨h0, s', o', hm'⟩ := ha
    have := (List.pairwise_cons.1 hpw).1 _ hm'
    rcases this.2 with h | h
    · exact h rfl
    · exact h0 h
  have hs' := hs.pick hp
  refine ⟨hs'.defers, hs'.size, hs'.mem, fun t' v hv => ?_⟩
  rw [bL] at hv
  split at hv
  · rename_i he
    subst he
    cases hv
    exact ta hs.mem hmem (hs.env t _ hx) hp hna
  · exact hs'.env t' v hv
theorem uV {x : Exit} {t s b m n : Nat} {rows : List (List TV)} (hx : lk t env = some (.ms s b 0 n)) (hn : rows.length = n) (hd : tg s b (.row m rows) objs objs') (h : AQ w0 N Q x ((t, .sl w0.heap.size m rows) :: env) objs') : AQ w0 N Q x env objs := ⟨fun a w hs => h.run a w (hs.freeze hx hn hd)⟩
theorem j5 {c : Code} {t s b m n : Nat} {rows : List (List TV)} (hx : lk t env = some (.ms s b 0 n)) (hn : rows.length = n) (hd : tg s b (.row m rows) objs objs') (h : AW P w0 N c Q ((t, .sl w0.heap.size m rows) :: env) objs') : AW P w0 N c Q env objs := ⟨fun a w hs => h.run a w (hs.freeze hx hn hd)⟩
theorem cn {m n : Nat} (h : n ≤ m) : ((m : Int) - (n : Int)) = ((m - n : Nat) : Int) := by omega
theorem jA {T : TypeId} {x hi : Operand} {f m : Nat} {rows : List (List TV)} {k1 : IntKind} {n : Int} {j : Nat} (ho : o.op = .slice T x none (some hi) none) (hx : ev env x = some (.sl f m rows)) (hhi : ev env hi = some (.int k1 n))
    (hT : P.underlying T = some (.slice (P.elem T))) (hI : (P.info? (P.elem T)).isSome = true) (hn : n = (j : Int)) (hj : j ≤ rows.length) : bs P w0 env objs o (.sl f m (rows.take j)) := a6 fun a w hw hop => by
  have h0 := hop x (ea ho) _ hx
  have h1 := (hop hi (by simp [ho, Op.operands]) _ hhi).int_inv
  generalize hv : a.eval x = v at h0
  obtain ⟨A, c, rfl, g1, g2, g3, g4, g5⟩ := jr h0
  have hlen : (rows.take j).length = j := by simp; omega
  cases hie : P.info? (P.elem T) with
  | none => rw [hie] at hI; cases hI
  | some ie =>
  have hfl : ∀ (q : Nat) (t : TV), (rows.take j).flatten[q]? = some t → rows.flatten[q]? = some t := fun q t hq => by
    rw [dc g3, List.getElem?_take] at hq
    split at hq
    · exact hq
    · cases hq
  have key : ∀ q, ∃ u, ∀ t, (rows.take j).flatten[q]? = some t → (∃ b o, A = some ⟨b, o, none⟩ ∧ ZZ objs f b ∧ w.cell? ⟨b, o + q, none⟩ = some u) ∧ Rep w objs t u := fun q => by
    cases hq : (rows.take j).flatten[q]? with
    | none => exact ⟨undef, fun t ht => by cases ht⟩
    | some t =>
      obtain ⟨b, o, u, p1, p2, p3, p4⟩ := g5 q t (hfl q t hq)
      exact ⟨u, fun t' ht => by cases ht; exact ⟨⟨b, o, p1, p2, p3⟩, p4⟩⟩
  have hr := Rep.sl (w := w) (objs := objs) f m (rows.take j) A c (by omega) g2 (fun r hr => g3 r (List.mem_of_mem_take hr)) (fun t ht => by
      obtain ⟨r, h2, h3⟩ := List.mem_flatten.1 ht
      exact g4 t (List.mem_flatten.2 ⟨r, List.mem_of_mem_take h2, h3⟩)) (fun q => Classical.choose (key q)) (fun q t hq => ((Classical.choose_spec (key q)) t hq).1) (fun q t hq => ((Classical.choose_spec (key q)) t hq).2)
  rw [hlen] at hr
  refine ⟨.slice A j c, ?_, hr⟩
  simp only [execOp, ho, h1, hv, Option.map_some, Option.map_none]
  refine cq ?_
  rw [run_sliceAt_slice w T _ _ _ _ hT, run_slice_h w T _ rows.length c hT k1 n (by omega) (by omega), run_sizeOf w hie]
  subst hn
  cases A <;> simp [Result.andThen_ok, sliced, Addr.add]
theorem nx {T : TypeId} {x lo : Operand} {f m : Nat} {rows : List (List TV)} {k1 : IntKind} {n : Int} {j : Nat} (ho : o.op = .slice T x (some lo) none none) (hx : ev env x = some (.sl f m rows)) (hlo : ev env lo = some (.int k1 n))
    (hT : P.underlying T = some (.slice (P.elem T))) (hI : (P.info? (P.elem T)).isSome = true) (hm : P.cellsOf (P.elem T) = m) (hn : n = (j : Int)) (hj : j ≤ rows.length) : bs P w0 env objs o (.sl f m (rows.drop j)) := a6 fun a w hw hop => by
  have h0 := hop x (ea ho) _ hx
  have h1 := (hop lo (by simp [ho, Op.operands]) _ hlo).int_inv
  generalize hv : a.eval x = v at h0
  obtain ⟨A, c, rfl, g1, g2, g3, g4, g5⟩ := jr h0
  have hlen : (rows.drop j).length = rows.length - j := by simp
  cases hie : P.info? (P.elem T) with
  | none => rw [hie] at hI; cases hI
  | some ie =>
  have hfl : ∀ (q : Nat) (t : TV), (rows.drop j).flatten[q]? = some t → rows.flatten[j * m + q]? = some t := fun q t hq => by
    rw [ey g3, List.getElem?_drop] at hq
    exact hq
  have key : ∀ q, ∃ u, ∀ t, (rows.drop j).flatten[q]? = some t → (∃ b o, (if c = j then A else A.map (·.add (j * m))) = some ⟨b, o, none⟩ ∧ ZZ objs f b ∧ w.cell? ⟨b, o + q, none⟩ = some u) ∧ Rep w objs t u := fun q => by
    cases hq : (rows.drop j).flatten[q]? with
    | none => exact ⟨undef, fun t ht => by cases ht⟩
    | some t =>
      obtain ⟨b, o, u, p1, p2, p3, p4⟩ := g5 _ t (hfl q t hq)
      refine ⟨u, fun t' ht => by
        cases ht
        refine ⟨⟨b, o + j * m, ?_, p2, by rw [Nat.add_assoc]; exact p3⟩, p4⟩
        have hcj : c ≠ j := fun hc => by
          rw [List.drop_of_length_le (by omega)] at hq
          simp at hq
        rw [if_neg hcj, p1]
        simp [Addr.add_lit]⟩
  have hr := Rep.sl (w := w) (objs := objs) f m (rows.drop j) (if c = j then A else A.map (·.add (j * m))) (c - j) (by omega) (by omega) (fun r hr => g3 r (List.mem_of_mem_drop hr)) (fun t ht => by
      obtain ⟨r, h2, h3⟩ := List.mem_flatten.1 ht
      exact g4 t (List.mem_flatten.2 ⟨r, List.mem_of_mem_drop h2, h3⟩)) (fun q => Classical.choose (key q)) (fun q t hq => ((Classical.choose_spec (key q)) t hq).1) (fun q t hq => ((Classical.choose_spec (key q)) t hq).2)
  rw [hlen] at hr
  refine ⟨_, ?_, hr⟩
  simp only [execOp, ho, h1, hv, Option.map_some, Option.map_none]
  refine cq ?_
  rw [run_sliceAt_slice w T _ _ _ _ hT, run_slice_l w T _ rows.length c hT k1 n (by omega) (by omega), run_sizeOf w hie, hm]
  subst hn
  simp [Result.andThen_ok, sliced]
variable {ops : Array Oper} {rest : List Oper} {d T0 : Nat} {pos : String} {af : Array Edge} {g : Option (Nat × Bool)} {K : Env → Prop}
theorem sK {f : Nat} {xs : List Operand} {l : List TV} (hN : Nat.blt d N = true) (hx : Evs env xs l) (h : AL P w0 N ops Q rest ((d, .fn f l) :: env) objs) : AO P w0 N ops Q ⟨some d, .makeFunc (.func f) #[] xs.toArray, T0, pos, af, g⟩ rest env objs := sf rfl hN (sy rfl hx) h
theorem pO {G : World → Prop} {t f : Nat} {xs : List Operand} {ts : Array TypeId} {l l' args all : List TV} {r : Nat → TV} (hN : Nat.blt d N = true) (hx : lk t env = some (.fn f l)) (hc : fD P f = true) (hG : G w0) (hst : aY G) (hargs : dU env objs xs args) (hl : im objs l l') (ha : args ++ l' = all) (hct : Ct P G f all r)
    (h : AL P w0 N ops Q rest ((d, r w0.heap.size) :: env) objs) : AO P w0 N ops Q ⟨some d, .call { callee := .value (.tmp t), args := xs.toArray, argTypes := ts }, T0, pos, af, g⟩ rest env objs := sf rfl hN (uG (x := .tmp t) rfl hx hc hargs hl (ha ▸ hct) hG hst) h
theorem xR {G : World → Prop} {t f : Nat} {xs : List Operand} {ts : Array TypeId} {l l' args all : List TV} {r : Nat → TV} (hN : Nat.blt d N = true) (hx : lk t env = some (.fn f l)) (hc : fD P f = true) (hG : G w0) (hst : aY G) (hargs : dU env objs xs args) (hl : im objs l l') (ha : args ++ l' = all) (hct : Ct P G f all r)
    (h : DR P w0 N ops objs K rest ((d, r w0.heap.size) :: env)) : DO P w0 N ops objs K ⟨some d, .call { callee := .value (.tmp t), args := xs.toArray, argTypes := ts }, T0, pos, af, g⟩ rest env := ⟨fun hgr => .run _ _ _ _ _ rfl hN hgr (uG (x := .tmp t) rfl hx hc hargs hl (ha ▸ hct) hG hst) h⟩
theorem pe {T : TypeId} {x hi : Operand} {f m : Nat} {rows rows2 : List (List TV)} {k1 : IntKind} {n : Int} {j : Nat} (hN : Nat.blt d N = true) (hx : ev env x = some (.sl f m rows)) (hhi : ev env hi = some (.int k1 n)) (hT : P.underlying T = some (.slice (P.elem T))) (hI : (P.info? (P.elem T)).isSome = true) (hn : n = (j : Int)) (hj : j ≤ rows.length) (he : rows.take j = rows2) (h : AL P w0 N ops Q rest ((d, .sl f m rows2) :: env) objs) : AO P w0 N ops Q ⟨some d, .slice T x none (some hi) none, T0, pos, af, g⟩ rest env objs := sf rfl hN (he ▸ jA rfl hx hhi hT hI hn hj) h
theorem nH {T : TypeId} {x hi : Operand} {f m : Nat} {rows rows2 : List (List TV)} {k1 : IntKind} {n : Int} {j : Nat} (hN : Nat.blt d N = true) (hx : ev env x = some (.sl f m rows)) (hhi : ev env hi = some (.int k1 n)) (hT : P.underlying T = some (.slice (P.elem T))) (hI : (P.info? (P.elem T)).isSome = true) (hn : n = (j : Int)) (hj : j ≤ rows.length) (he : rows.take j = rows2) (h : DR P w0 N ops objs K rest ((d, .sl f m rows2) :: env)) : DO P w0 N ops objs K ⟨some d, .slice T x none (some hi) none, T0, pos, af, g⟩ rest env := ⟨fun hgr => .run _ _ _ _ _ rfl hN hgr (he ▸ jA rfl hx hhi hT hI hn hj) h⟩
theorem oG {T : TypeId} {x lo : Operand} {f m : Nat} {rows rows2 : List (List TV)} {k1 : IntKind} {n : Int} {j : Nat} (hN : Nat.blt d N = true) (hx : ev env x = some (.sl f m rows)) (hlo : ev env lo = some (.int k1 n)) (hT : P.underlying T = some (.slice (P.elem T))) (hI : (P.info? (P.elem T)).isSome = true) (hm : P.cellsOf (P.elem T) = m) (hn : n = (j : Int)) (hj : j ≤ rows.length) (he : rows.drop j = rows2) (h : AL P w0 N ops Q rest ((d, .sl f m rows2) :: env) objs) : AO P w0 N ops Q ⟨some d, .slice T x (some lo) none none, T0, pos, af, g⟩ rest env objs := sf rfl hN (he ▸ nx rfl hx hlo hT hI hm hn hj) h
end
inductive DU (P : Program) (w0 : World) (N : Nat) (K : Env → Prop) : List Oper → Env → Prop
  | nil (env : Env) (h : K env) : DU P w0 N K [] env
  | run (o : Oper) (rest : List Oper) (env : Env) (d : Nat) (tv : TV) (hd : o.dst = some d) (hN : Nat.blt d N = true) (hg : o.guard = none) (hy : ∀ objs, bs P w0 env objs o tv) (h : DU P w0 N K rest ((d, tv) :: env)) : DU P w0 N K (o :: rest) env
section
variable {P : Program} {w0 : World} {N : Nat} {Q : Exit → Act → World → Prop} {objs : bp} {ops : Array Oper} {env : Env}
theorem vQ {K : Env → Prop} {l : List Oper} {env : Env} (h : DU P w0 N K l env) : ∃ σ : Nat → Env, (∀ t, lk t (σ 0) = lk t env) ∧ K (σ l.length) ∧ ∀ k o, l[k]? = some o → ∀ objs, gw P w0 N ops objs o (σ k) (σ (k + 1)) := by
  induction h with
  | nil env h => exact ⟨fun _ => env, fun _ => rfl, h, by simp⟩
  | run o rest env d tv hd hN hg hy h ih =>
    obtain ⟨σ, h1, h2, h3⟩ := ih
    refine ⟨fun k => match k with | 0 => env | k + 1 => σ k, fun _ => rfl, h2, fun k o' hk objs => ?_⟩
    cases k with
    | zero => simp at hk; subst hk; exact ⟨d, tv, hd, Nat.blt_eq ▸ hN, h1, .inl ⟨.inl hg, hy objs⟩⟩
    | succ k => exact h3 k o' (by simpa using hk) objs
theorem vK {objs' : bp} (hok : cC ops = true) {k : Nat} (hk : k ≤ ops.size) {σ : Nat → Env} {X : Nat → Prop} {a : Act} {w w' : World} (hJ : JY w0 N ops objs σ k X a w) (hX : co ops X) (_hXk : ∀ i, X i → i < k) {i d : Nat} {o : Oper} {tv : TV} {v : Value} (hi : ops[i]? = some o) (hik : i < k) (hni : ¬ X i) (hd : o.dst = some d) (hdN : d < N)
    (hσ : ∀ i o, i < k → ops[i]? = some o → gw P w0 N ops objs o (σ i) (σ (i + 1))) (hσi : ∀ t, lk t (σ (i + 1)) = lk t ((d, tv) :: σ i)) (hr : Rep w' objs' tv v) (hw : cV w0 objs' w') (hst : gT w objs w' objs') : JY w0 N ops objs' σ k (fun k => k = i ∨ X k) (a.put (some d) v) w' := by
  refine ⟨hJ.defers, by simp [Act.put, hJ.size], hw, fun t c hc h1 h2 u hu => ?_⟩
  show Rep w' objs' u ((a.tmps.setIfInBounds d v).getD t undef)
  rw [eF (by rw [hJ.size]; exact hdN)]
  by_cases hdt : d = t
  · subst hdt
    rw [if_pos rfl]
    have hwi : bY ops i d := by unfold bY; rw [hi]; exact hd
    have hic : i < c := Nat.lt_of_not_le fun h => h2 i h hik hwi (.inl rfl)
    have hlast : ∀ m, i + 1 ≤ m → m ≤ c → lk d (σ m) = some tv := fun m => by
      induction m with
      | zero => intro h; omega
      | succ m ih =>
        intro hm1 hm2
        rcases Nat.eq_or_lt_of_le hm1 with h | h
        · have : m = i := by omega
          subst this; rw [hσi, bL, if_pos rfl]
        · have hm : m < ops.size := by omega
          have hom : ops[m]? = some ops[m] := by simp [hm]
          obtain ⟨dm, tm, e1, _, e2, _⟩ := hσ m _ (by omega) hom
          rw [e2, bL, if_neg]
          · exact ih (by omega) (by omega)
          · intro e
            subst e
            have hwm : bY ops m dm := by unfold bY; rw [hom]; exact e1
            rcases h1 m (by omega) hwm with h3 | h3
            · omega
            · exact hni (eu hok hi hom (by omega) (dL hd e1) hX h3)
    rw [hlast c hic (Nat.le_refl _)] at hu
    simp only [Option.some.injEq] at hu
    subst hu; exact hr
  · rw [if_neg hdt]
    refine (hJ.cut t c hc (fun m hm hwm => ?_) (fun m hm hmk hwm hx => h2 m hm hmk hwm (.inr hx)) u hu).step hst
    rcases h1 m hm hwm with h3 | h3
    · subst h3
      unfold bY at hwm
      rw [hi] at hwm
      simp only [Option.bind_some, hd, Option.some.injEq] at hwm
      exact absurd hwm hdt
    · exact h3
theorem qf {o : Oper} {T : TypeId} {zs : List TV} (ho : o.op = .alloc T) (hz : cJ P T = some zs) : bs P w0 env objs o .top := fun a w K Q hw hop hK => by
  obtain ⟨ss, hf⟩ := fp objs
  obtain ⟨z, h1, h2, h3⟩ := iM hz w
  have hrun : (execOp a.eval o).run P w = .ok (.value (.pointer (some ⟨w.heap.size, 0, none⟩))) (w.alloc (.cells z.cells T)) := by
    simp only [execOp, ho]
    refine cq ?_
    simp [Instr.alloc, Sem.run_bind, h1, newVar, newRow]
  unfold Oper.wp
  rw [hrun]
  obtain ⟨g1, g2⟩ := hw.alloc (.cells z.cells T)
  exact hK _ _ (.top _) g1 g2
theorem qY {o : Oper} {T : TypeId} {zs : List TV} (ho : o.op = .alloc T) (hz : cJ P T = some zs) {a : Act} {w : World} (hw : cV w0 objs w) {K : Act → World → Prop} (hK : ∀ ss b v w', Rep w' ((ss, b, .box zs) :: objs) (.mp ss b 0) v → cV w0 ((ss, b, .box zs) :: objs) w' → gT w objs w' ((ss, b, .box zs) :: objs) → K (a.put o.dst v) w') : o.wp P a w K Q := by
  obtain ⟨ss, hf⟩ := fp objs
  obtain ⟨z, h1, h2, h3⟩ := iM hz w
  have hst := f4 hw z.cells T ss (.box zs)
  have hrun : (execOp a.eval o).run P w = .ok (.value (.pointer (some ⟨w.heap.size, 0, none⟩))) (w.alloc (.cells z.cells T)) := by
    simp only [execOp, ho]
    refine cq ?_
    simp [Instr.alloc, Sem.run_bind, h1, newVar, newRow]
  unfold Oper.wp
  rw [hrun]
  refine hK ss w.heap.size _ _ (.mp ss _ 0 ⟨by simp, fY hw #[] 0 ss _⟩) (hw.newObj hf ⟨⟨hw.below.size, h2.2⟩, z.cells, T, heap_alloc_new w _, h2.1, fun j t hj => ?_⟩) hst
  have hlt : j < z.cells.size := by rw [h2.1]; exact (List.getElem?_eq_some_iff.1 hj).1
  exact ⟨z.cells[j], by simp [hlt], h3 _ _ j t _ hj (by simp [hlt])⟩
theorem yI (hok : cC ops = true) {k : Nat} (hk : k ≤ ops.size) {σ : Nat → Env} {X : Nat → Prop} {a : Act} {w : World} (hJ : JY w0 N ops objs σ k X a w) (hX : co ops X) (hXk : ∀ i, X i → i < k) {i : Nat} {o : Oper} (ho : ops[i]? = some o) (hik : i < k) (hni : ¬ X i) (hX' : co ops fun k => k = i ∨ X k)
    (hσ : ∀ i o, i < k → ops[i]? = some o → gw P w0 N ops objs o (σ i) (σ (i + 1))) {K : Act → World → Prop} (hnext : ∀ d v w', o.dst = some d → d < N → gT w objs w' objs → JY w0 N ops objs σ k (fun k => k = i ∨ X k) (a.put (some d) v) w' → K (a.put (some d) v) w') : wpOp P ops Q i K a w := by
  obtain ⟨d, tv, hd, hdN, hσi, hcase⟩ := hσ i o hik ho
  have hguard : ∀ j b c dj, o.guard = some (j, b) → (ops[j]?).bind (·.dst) = some dj → lk dj (σ i) = some (.bool c) → yielded ops a.tmps j = some c := fun j b c dj h1 h2 h3 => by
    have hl : dj ∈ o.looksAt ops := by unfold Oper.looksAt; rw [h1]; simp [h2]
    exact eW h2 (gN hok hk hJ hX hXk ho hik hni hX' hl h3).bool_inv
  unfold wpOp
  rw [ho]
  rcases hcase with ⟨hg, hy⟩ | ⟨hg, rfl⟩
  · have hw : Region.wanted o (yielded ops a.tmps) = true := by
      rcases hg with hg | ⟨j, b, dj, h1, h2, h3⟩
      · simp [Region.wanted, hg]
      · simp [Region.wanted, h1, hguard j b b dj h1 h2 h3]
    simp only [hw, if_true]
    refine .inl (hy a w _ Q hJ.mem (fun x hx v hv => ?_) fun v w' hr hsw hst => ?_)
    · cases x with
      | tmp t =>
        have hl : t ∈ o.looksAt ops := by
          unfold Oper.looksAt
          exact List.mem_append_left _ (List.mem_filterMap.2 ⟨.tmp t, hx, rfl⟩)
        exact gN hok hk hJ hX hXk ho hik hni hX' hl hv
      | const u => exact iN hv
      | func f => simp only [ev, Option.some.injEq] at hv; subst hv; exact .fn f [] #[] rfl (by simp)
      | global g => cases hv
    · rw [hd]
      exact hnext d v w' hd hdN hst (np hok hk hJ hX hXk ho hik hni hd hdN hσ hσi hr hsw hst)
  · have hw : Region.wanted o (yielded ops a.tmps) = false := by
      rcases hg with ⟨j, b, dj, h1, h2, h3⟩ | ⟨j, c, dj, h1, h2, h3⟩
      · cases b <;> simp [Region.wanted, h1, hguard j _ _ dj h1 h2 h3]
      · have hl : dj ∈ o.looksAt ops := by unfold Oper.looksAt; rw [h1]; simp [h2]
        simp [Region.wanted, h1, dZ h2 (gN hok hk hJ hX hXk ho hik hni hX' hl h3).undef_inv]
    simp only [hw, Bool.false_eq_true, if_false]
    rw [hd]
    exact hnext d _ w hd hdN (fA _ _) (np hok hk hJ hX hXk ho hik hni hd hdN hσ hσi (.tup [] #[] rfl (by simp)) hJ.mem (fA _ _))
def JZ (w0 : World) (N : Nat) (ops : Array Oper) (objs : bp) (σ : Nat → Env) (k ia d : Nat) (zs : List TV) (X : Nat → Prop) (a : Act) (w : World) : Prop :=
  (¬ X ia ∧ JY w0 N ops objs σ k X a w) ∨ (X ia ∧ ∃ ss b, JY w0 N ops ((ss, b, .box zs) :: objs) σ k X a w ∧ Rep w ((ss, b, .box zs) :: objs) (.mp ss b 0) (a.tmps.getD d undef))
theorem JZ.congr {σ : Nat → Env} {k ia d : Nat} {zs : List TV} {X Y : Nat → Prop} {a : Act} {w : World} (h : JZ w0 N ops objs σ k ia d zs X a w) (hXY : ∀ i, Y i ↔ X i) : JZ w0 N ops objs σ k ia d zs Y a w := by
  have : Y = X := funext fun i => propext (hXY i)
  rw [this]; exact h
theorem ru (hok : cC ops = true) {k : Nat} (hk : k ≤ ops.size) (htl : eU ops k = true) {σ : Nat → Env} {ia d : Nat} {zs : List TV} (hia : ia < k) (hQ : ∀ ss b, AL P w0 N ops Q (ops.toList.drop k) ((d, .mp ss b 0) :: σ k) ((ss, b, .box zs) :: objs)) {fuel : Nat} {listed : Array Bool} {a : Act} {w : World} (hsz : listed.size = ops.size) (hun : bK listed ≤ fuel) (hXk : ∀ i, listed.getD i false = true → i < k)
    (hall : ∀ j, j < k → listed.getD j false = true) (hJ : JZ w0 N ops objs σ k ia d zs (fun i => listed.getD i false = true) a w) : wpAny P .any ops Q fuel listed a w := by
  rcases hJ with ⟨hn, _⟩ | ⟨_, ss, b, hJ, hr⟩
  · exact absurd (hall ia hia) hn
  · refine ib (σ := fun c => if c = k then (d, .mp ss b 0) :: σ k else σ c) hok hk htl (by rw [if_pos rfl]; exact hQ ss b) hsz hun hXk hall ⟨hJ.defers, hJ.size, hJ.mem, fun t c hc h1 h2 v hv => ?_⟩
    split at hv
    · rename_i hck
      subst hck
      rw [bL] at hv
      split at hv
      · rename_i hdt
        subst hdt
        cases hv
        exact hr
      · exact hJ.cut t c hc h1 h2 v hv
    · exact hJ.cut t c hc h1 h2 v hv
theorem rL (hok : cC ops = true) {k : Nat} (hk : k ≤ ops.size) (htl : eU ops k = true) {σ : Nat → Env} {ia d : Nat} {T : TypeId} {zs : List TV} {oa : Oper} (hia : ia < k) (hoa : ops[ia]? = some oa) (hop : oa.op = .alloc T) (hda : oa.dst = some d) (hdN : d < N) (hz : cJ P T = some zs) (hga : oa.guard = none)
    (hother : ∀ j o, j < k → ops[j]? = some o → j ≠ ia → o.dst ≠ some d) (hσ : ∀ i o, i < k → ops[i]? = some o → ∀ objs, gw P w0 N ops objs o (σ i) (σ (i + 1))) (hσa : ∀ t, lk t (σ (ia + 1)) = lk t ((d, .top) :: σ ia)) (hQ : ∀ ss b, AL P w0 N ops Q (ops.toList.drop k) ((d, .mp ss b 0) :: σ k) ((ss, b, .box zs) :: objs)) :
    ∀ (fuel : Nat) (listed : Array Bool) (a : Act) (w : World), listed.size = ops.size → bK listed ≤ fuel → (∀ i, listed.getD i false = true → i < k) → co ops (fun i => listed.getD i false = true) → JZ w0 N ops objs σ k ia d zs (fun i => listed.getD i false = true) a w → wpAny P .any ops Q fuel listed a w := by
  intro fuel
  induction fuel with
  | zero =>
    intro listed a w hsz hun hXk hX hJ
    by_cases hall : ∀ j, j < k → listed.getD j false = true
    · exact ru hok hk htl hia hQ hsz hun hXk hall hJ
    · exfalso
      apply hall
      intro j hj
      cases hb : listed.getD j false with
      | true => rfl
      | false =>
        exfalso
        have hjl : j < listed.size := by omega
        have : listed[j] ∈ listed.toList.filter (! ·) := List.mem_filter.2 ⟨by simp, by
          simp only [Array.getD_eq_getD_getElem?, Array.getElem?_eq_getElem hjl, Option.getD_some] at hb; simp [hb]⟩
        have := List.length_pos_of_mem this
        unfold bK at hun; omega
  | succ fuel ih =>
    intro listed a w hsz hun hXk hX hJ
    by_cases hall : ∀ j, j < k → listed.getD j false = true
    · exact ru hok hk htl hia hQ hsz hun hXk hall hJ
    have hsome : ∃ j, j < k ∧ ¬ listed.getD j false = true := by
      refine Classical.byContradiction fun hn => hall fun j hj => Classical.byContradiction fun h => hn ⟨j, hj, h⟩
    refine ⟨fun hr => ?_, fun i hi => ?_⟩
    · exfalso
      have hall2 : ∀ j, j < ops.size → listed.getD j false = true := by
        intro j
        induction j using Nat.strongRecOn with
        | _ j ih =>
          intro hj
          cases hb : listed.getD j false with
          | true => rfl
          | false =>
            have hoj : ops[j]? = some ops[j] := by simp [hj]
            have hmem : j ∈ Region.ready .any ops listed := mem_ready.2 ⟨by
              have hjl : j < listed.size := by omega
              simp only [Array.getD_eq_getD_getElem?, Array.getElem?_eq_getElem hjl, Option.getD_some] at hb ⊢; exact hb, _, hoj, fun e he hbd => ih e.on ((bR hok hoj).1 e he hbd) (Nat.lt_trans ((bR hok hoj).1 e he hbd) hj)⟩
            rw [hr] at hmem; cases hmem
      obtain ⟨j, hj, hnj⟩ := hsome
      exact hnj (hall2 j (by omega))
    · obtain ⟨h0, o, ho, hed⟩ := mem_ready.1 hi
      have hisz : i < ops.size := (Array.getElem?_eq_some_iff.1 ho).1
      have hil : i < listed.size := by rw [hsz]; exact hisz
      have h0' : listed[i] = false := by simpa [Array.getD_eq_getD_getElem?, hil] using h0
      have hni : ¬ listed.getD i false = true := by simp [hil, h0']
      have hXeq : ∀ k, (listed.setIfInBounds i true).getD k false = true ↔ (k = i ∨ listed.getD k false = true) := fun k => by
        by_cases hk : k = i
        · subst hk; simp [hil]
        · rw [getD_set_ne false (Ne.symm hk)]; simp [hk]
      have hX' : co ops fun k => k = i ∨ listed.getD k false = true := fun j oj hj hx e he hb => by
        rcases hx with rfl | hx
        · rw [hj] at ho; cases ho; exact .inr (hed e he hb)
        · exact .inr (hX j oj hj hx e he hb)
      have hik : i < k := Nat.lt_of_not_le fun hge => by
        obtain ⟨j, hj, hnj⟩ := hsome
        have := cQ hok hX' i hisz (.inl rfl) j (by omega) (fj htl hisz hge (by omega))
        rcases this with h | h
        · omega
        · exact hnj h
      have hXs : co ops fun k => (listed.setIfInBounds i true).getD k false = true := fun j oj hj hx e he hb => (hXeq _).2 (hX' j oj hj ((hXeq _).1 hx) e he hb)
      have hun' : bK (listed.setIfInBounds i true) ≤ fuel := by
        have key : ∀ (l : List Bool) (i : Nat), l[i]? = some false → ((l.set i true).filter (! ·)).length + 1 = (l.filter (! ·)).length := fun l => by
          induction l with
          | nil => intro i h; simp at h
          | cons x l ih =>
            intro i h
            cases i with
            | zero => simp at h; subst h; simp
            | succ i =>
              have := ih i (by simpa using h)
              cases x <;> simp at this ⊢ <;> omega
        have := key listed.toList i (by simp [hil, h0'])
        unfold bK at hun ⊢
        simp only [Array.toList_setIfInBounds]
        omega
      have hnext : ∀ a' w', JZ w0 N ops objs σ k ia d zs (fun k => k = i ∨ listed.getD k false = true) a' w' → wpAny P .any ops Q fuel (listed.setIfInBounds i true) a' w' := fun a' w' hJ' =>
        ih _ a' w' (by simpa using hsz) hun' (fun j hj => ((hXeq j).1 hj).elim (fun e => e ▸ hik) (hXk j)) hXs (hJ'.congr hXeq)
      rcases hJ with ⟨hn, hJ⟩ | ⟨hy, ss, b, hJ, hrep⟩
      · by_cases hii : i = ia
        · subst hii
          rw [hoa] at ho
          cases ho
          unfold wpOp
          rw [hoa]
          have hw : Region.wanted oa (yielded ops a.tmps) = true := by simp [Region.wanted, hga]
          simp only [hw, if_true]
          refine .inl (qY hop hz hJ.mem fun ss b v w' hr hsw hst => ?_)
          rw [hda]
          refine hnext _ _ (.inr ⟨.inl rfl, ss, b, vK hok hk hJ hX hXk hoa hik hni hda hdN (fun i o h1 h2 => hσ i o h1 h2 objs) hσa (.top v) hsw hst, ?_⟩)
          show Rep w' _ _ ((a.tmps.setIfInBounds d v).getD d undef)
          rw [eF (by rw [hJ.size]; exact hdN), if_pos rfl]
          exact hr
        · refine yI hok hk hJ hX hXk ho hik hni hX' (fun i o h1 h2 => hσ i o h1 h2 objs) fun d' v w' _ _ hst hJ' => hnext _ _ (.inl ⟨fun h => ?_, hJ'⟩)
          rcases h with h | h
          · exact hii h.symm
          · exact hn h
      · have hii : i ≠ ia := fun h => hni (h ▸ hy)
        refine yI hok hk hJ hX hXk ho hik hni hX' (fun i o h1 h2 => hσ i o h1 h2 _) fun d' v w' hd' hd'N hst hJ' => hnext _ _ (.inr ⟨.inr hy, ss, b, hJ', ?_⟩)
        show Rep w' _ _ ((a.tmps.setIfInBounds d' v).getD d undef)
        rw [eF (by rw [hJ.size]; exact hd'N), if_neg (fun h => hother i o hik ho hii (by rw [hd', h]))]
        exact hrep.step hst

theorem qR (k : Nat) {id d : Nat} {l l1 l2 : List Oper} {oa : Oper} {T : TypeId} {zs : List TV} {env : Env} (hm : P.follows .mixedOrders = true) (hok : cC l.toArray = true) (htl : eU l.toArray (k + 1) = true) (hc : Cut k l l1 (oa :: l2)) (hop : oa.op = .alloc T) (hda : oa.dst = some d) (hga : oa.guard = none) (hdN : Nat.blt d N = true) (_he : zT T = zs) (hz : cJ P T = some zs)
    (hno : (l1.all fun o => !(o.dst == some d)) = true) (h : DU P w0 N (fun env' => ∀ ss b, AL P w0 N l.toArray Q l2 ((d, .mp ss b 0) :: env') ((ss, b, .box zs) :: objs)) l1 env) : AW P w0 N (.region id l.toArray true) Q env objs := ⟨fun a w hs => by
  obtain ⟨e1, e2, hkl⟩ := hc.eq
  have hkl2 : k < l.length := Nat.lt_of_not_le fun hge => by rw [List.drop_of_length_le hge] at e2; cases e2
  have hd2 : l.drop (k + 1) = l2 := by
    rw [List.drop_eq_getElem_cons hkl2] at e2
    exact (List.cons.inj e2).2.symm
  have hoa : l[k]? = some oa := by
    rw [List.drop_eq_getElem_cons hkl2] at e2
    rw [List.getElem?_eq_getElem hkl2, (List.cons.inj e2).1]
  obtain ⟨σ0, h1, h2, h3⟩ := vQ (ops := l.toArray) h
  have hl1 : l1.length = k := by rw [e1, List.length_take]; omega
  rw [hl1] at h2
  have hdN' : d < N := Nat.blt_eq ▸ hdN
  -- the chain, with the variable's slot unknown behind its making
  have hσ : ∃ σ : Nat → Env, (∀ c, c ≤ k → σ c = σ0 c) ∧ σ (k + 1) = (d, .top) :: σ0 k := ⟨fun c => if c ≤ k then σ0 c else (d, .top) :: σ0 k, fun c hc => by simp [hc], if_neg (by omega)⟩
  obtain ⟨σ, hs1, hs2⟩ := hσ
  have hst : ∀ i o, i < k + 1 → l[i]? = some o → ∀ objs, gw P w0 N l.toArray objs o (σ i) (σ (i + 1)) := fun i o hi ho objs => by
    by_cases hik : i < k
    · rw [hs1 i (by omega), hs1 (i + 1) (by omega)]
      exact h3 i o (by rw [e1, List.getElem?_take, if_pos hik]; exact ho) objs
    · obtain rfl : i = k := by omega
      rw [hoa] at ho; cases ho
      rw [hs1 i (Nat.le_refl _), hs2]
      exact ⟨d, .top, hda, hdN', fun _ => rfl, .inl ⟨.inl hga, qf hop hz⟩⟩
  have hrep : ∀ i, (Array.replicate l.toArray.size false).getD i false = false := fun i => by
    rcases Nat.lt_or_ge i l.toArray.size with h | h
    · simp at h; simp [h]
    · simp at h; simp [Array.getD_eq_getD_getElem?, h]
  refine wp_region_any hm (rL (objs := objs) hok (k := k + 1) (by simp; omega) htl (σ := σ) (ia := k) (d := d) (T := T) (zs := zs) (oa := oa) (Nat.lt_succ_self k) (by simpa using hoa) hop hda hdN' hz hga (fun j o hj ho hne hd => ?_) (fun i o hi ho => hst i o hi (by simpa using ho)) (fun t => by rw [hs2, hs1 k (Nat.le_refl _)]) (fun ss b => ?_) _ _ _ _ (by simp) (by simp [bK]) (fun i hi => by rw [hrep] at hi; cases hi) (fun j oj _ hx => nomatch (hrep j).symm.trans hx) (.inl ⟨(fun h => nomatch (hrep k).symm.trans h), hs.defers, hs.size, ?_, fun t c hc h4 h5 v hv => ?_⟩))
  · have hmem : o ∈ l1 := by
      have : l1[j]? = some o := by rw [e1, List.getElem?_take, if_pos (by omega)]; simpa using ho
      exact List.mem_of_getElem? this
    have := List.all_eq_true.1 hno o hmem
    rw [hd] at this
    simp at this
  · rw [hs2]
    have : (l.toArray.toList.drop (k + 1)) = l2 := by simpa using hd2
    rw [this]
    refine ⟨fun a w hs => (h2 ss b).run a w ⟨hs.defers, hs.size, hs.mem, fun t v hv => hs.env t v ?_⟩⟩
    rw [bL] at hv ⊢
    split
    · rename_i hdt; rw [if_pos hdt] at hv; exact hv
    · rename_i hdt
      rw [if_neg hdt] at hv
      rw [bL, if_neg hdt]; exact hv
  · exact hs.mem.grow ⟨hs.mem.below.os, hs.mem.below.tape, hs.mem.below.output, hs.mem.below.size, hs.mem.below.block⟩ (Nat.le_refl _) (fun _ _ => rfl)
  · have hk0 : ∀ m, m ≤ c → lk t (σ m) = lk t (σ 0) := fun m => by
      induction m with
      | zero => intro _; rfl
      | succ m ih =>
        intro hm2
        have hml : m < l.length := by omega
        obtain ⟨d, tv, e1, _, e2, _⟩ := hst m l[m] (by omega) (List.getElem?_eq_getElem hml) objs
        rw [e2, bL, if_neg]
        · exact ih (by omega)
        · intro e
          have := h4 m (by omega) (by unfold bY; simp [hml, e1, e])
          rw [hrep] at this; cases this
    rw [hk0 c (Nat.le_refl _), hs1 0 (Nat.zero_le _), h1 t] at hv
    have hst : gT w objs { w with drawn := w.drawn + 1 } objs := ⟨fun _ _ _ => rfl, fun _ _ h => h, fun _ _ _ rows _ _ h => ⟨⟨rows, h⟩, rfl⟩, Nat.le_refl _, fun h => h⟩
    exact (hs.env t v hv).step hst⟩
variable {K : Env → Prop} {rest : List Oper} {d T0 : Nat} {pos : String} {af : Array Edge}
theorem wv (h : K env) : DU P w0 N K [] env := .nil _ h
end
section
variable {P : Program} {w0 : World} {N : Nat} {Q : Exit → Act → World → Prop} {objs objs' : bp} {ops : Array Oper} {env : Env} {o : Oper}
variable {rest : List Oper} {d T0 : Nat} {pos : String} {af : Array Edge} {g : Option (Nat × Bool)}
end
section
variable {P : Program} {w0 : World} {N : Nat} {Q : Exit → Act → World → Prop} {objs objs' : bp} {ops : Array Oper} {env : Env} {o : Oper}
end
section
variable {P : Program} {w0 : World} {N : Nat} {Q : Exit → Act → World → Prop} {env : Env} {objs objs' : bp}
end
def eqC : TV → TV → Bool
  | .int _ m, .int _ n => decide (m = n)
  | .str s, .str u => decide (s = u)
  | .bool b, .bool c => b == c
  | _, _ => false
def eqL : List TV → List TV → Bool
  | t :: ts, u :: us => eqC t u && eqL ts us
  | _, _ => true
def zD (P : Program) (f : Field) (i : Nat) (t u : TV) : Bool :=
  Nat.beq f.offset i && (f.name != "_") && fT P f.type && (match t, u, P.underlying f.type with
    | .int k _, .int k' _, some (.int _) => decide (k = k')
    | .str _, .str _, some .string => true
    | .bool _, .bool _, some .bool => true
    | _, _, _ => false)
def wn (P : Program) : Nat → List Field → List TV → List TV → Bool
  | _, [], [], [] => true
  | i, f :: fs, t :: ts, u :: us => zD P f i t u && wn P (i + 1) fs ts us
  | _, _, _, _ => false
theorem hH {P : Program} {w : World} {t : TypeId} {xs : Array Value} {i : Nat} {v : Value} (h : fT P t = true) (hv : xs[i]? = some v) : (part t xs i).run P w = .ok v w := by
  have hi : i < xs.size := (Array.getElem?_eq_some_iff.1 hv).1
  have he : xs[i] = v := (Array.getElem?_eq_some_iff.1 hv).2
  simp only [part, Sem.run_bind, ft h, Result.andThen_ok]
  simp [hi, he, Sem.run_pure]
theorem jl {P : Program} {w : World} {objs : bp} (d : Nat) (xs ys : Array Value) : ∀ (fs : List Field) (i : Nat) (ts us : List TV), wn P i fs ts us = true →
    (∀ j t, ts[j]? = some t → ∃ v, xs[i + j]? = some v ∧ Rep w objs t v) → (∀ j t, us[j]? = some t → ∃ v, ys[i + j]? = some v ∧ Rep w objs t v) →
    (Op.eqFields (d + 1) xs ys fs).run P w = .ok (eqL ts us) w
  | [], i, [], [], _, _, _ => rfl
  | f :: fs, i, t :: ts, u :: us, h, hx, hy => by
    simp only [wn, zD, Bool.and_eq_true] at h
    obtain ⟨⟨⟨⟨h1, h2⟩, h3⟩, h4⟩, h5⟩ := h
    have h1 := Nat.eq_of_beq_eq_true h1
    obtain ⟨v, hv, hr⟩ := hx 0 t rfl
    obtain ⟨v', hv', hr'⟩ := hy 0 u rfl
    have ih := jl (P := P) (w := w) (objs := objs) d xs ys fs (i + 1) ts us h5 (fun j t' hj => by
      have := hx (j + 1) t' (by simpa using hj)
      rwa [show i + (j + 1) = i + 1 + j by omega] at this) (fun j t' hj => by
      have := hy (j + 1) t' (by simpa using hj)
      rwa [show i + (j + 1) = i + 1 + j by omega] at this)
    rw [Nat.add_zero] at hv hv'
    have hn : f.name ≠ "_" := by simpa using h2
    have he : (Op.equalIn (d + 1) f.type v v').run P w = .ok (eqC t u) w := by
      split at h4
      · rename_i k m k' n hk hu
        have hkk : k = k' := of_decide_eq_true h4
        subst hkk
        rw [hr.int_inv, hr'.int_inv, run_equalIn_int w d f.type k _ m n hu]
        rw [show eqC (.int k m) (.int k n) = decide (m = n) from rfl, zC]
      · rename_i s s' hu
        rw [hr.str_inv, hr'.str_inv, run_equalIn_string w d f.type s s' hu, kx]; rfl
      · rename_i b c hu
        rw [hr.bool_inv, hr'.bool_inv, run_equalIn_bool' w d f.type b c hu]; rfl
      · cases h4
    simp only [Op.eqFields, if_pos hn, Sem.run_bind, h1, hH h3 hv, hH h3 hv', Result.andThen_ok, he, eqL]
    cases hq : eqC t u
    · simp [Sem.run_pure]
    · simp [ih]
  | [], i, _ :: _, _, h, _, _ => by simp [wn] at h
  | [], i, [], _ :: _, h, _, _ => by simp [wn] at h
  | _ :: _, i, [], _, h, _, _ => by simp [wn] at h
  | _ :: _, i, _ :: _, [], h, _, _ => by simp [wn] at h
def wH (P : Program) (T : TypeId) (l l' : List TV) : Bool :=
  (match P.underlying T with | some (.struct _) => true | _ => false) && !P.stoodInHeld T && !P.eqGuardType P.depth T && wn P 0 (P.fieldsOf T).toList l l'
section
variable {P : Program} {w0 : World} {N : Nat} {env : Env} {objs : bp} {o : Oper}
theorem lT {w : World} {T : TypeId} {l l' : List TV} {vs vs' : Array Value} (hT : wH P T l l' = true) (h1 : Rep w objs (.agg l) (.agg vs)) (h2 : Rep w objs (.agg l') (.agg vs')) : (Op.equalIn 10000 T (.agg vs) (.agg vs')).run P w = .ok (eqL l l') w := by
  simp only [wH, Bool.and_eq_true, Bool.not_eq_true'] at hT
  obtain ⟨⟨⟨g1, g2⟩, _⟩, g4⟩ := hT
  have hu : P.underlying T = some (.struct (P.fieldsOf T)) := by
    unfold Program.fieldsOf
    split at g1
    · rename_i fs hf; rw [hf]
    · cases g1
  rw [show (10000 : Nat) = 9998 + 1 + 1 from rfl, run_equalIn_agg w (9998 + 1) T _ _ hu g2]
  have key : ∀ {l : List TV} {vs : Array Value}, Rep w objs (.agg l) (.agg vs) → ∀ j t, l[j]? = some t → ∃ v, vs[0 + j]? = some v ∧ Rep w objs t v := fun h j t hj => by
    cases h with
    | agg _ _ hi hl hr =>
      have hjl := (List.getElem?_eq_some_iff.1 hj).1
      rw [hl] at hjl
      exact ⟨_, by rw [Nat.zero_add]; exact Array.getElem?_eq_getElem hjl, hr j t _ hj (Array.getElem?_eq_getElem hjl)⟩
  exact jl 9998 _ _ _ 0 l l' g4 (key h1) (key h2)
theorem my {w : World} {l : List TV} {v : Value} (h : Rep w objs (.agg l) v) : ∃ vs, v = .agg vs := by cases h; exact ⟨_, rfl⟩
section
variable {T t2 : TypeId} {x y : Operand} {l l' : List TV}
theorem xa (ho : o.op = .binOp .eql T x y t2) (hx : ev env x = some (.agg l)) (hy : ev env y = some (.agg l')) (hT : wH P T l l' = true) : bs P w0 env objs o (.bool (eqL l l')) := a6 fun a w _ hop => by
  have h1 := hop x (by simp [ho, Op.operands]) _ hx
  have h2 := hop y (by simp [ho, Op.operands]) _ hy
  obtain ⟨vs, hv⟩ := my h1
  obtain ⟨vs', hv'⟩ := my h2
  rw [hv] at h1
  rw [hv'] at h2
  have hg : P.eqGuardType P.depth T = false := by
    simp only [wH, Bool.and_eq_true, Bool.not_eq_true'] at hT
    exact hT.1.2
  refine ⟨.bool (eqL l l'), ?_, .bool _⟩
  simp only [execOp, ho, hv, hv']
  refine cq ?_
  simp only [Sem.run_bind, run_eqGuard_agg w _ T x y vs vs' hg, Result.andThen_ok, run_eql_struct, lT hT h1 h2]
theorem xy (ho : o.op = .binOp .neq T x y t2) (hx : ev env x = some (.agg l)) (hy : ev env y = some (.agg l')) (hT : wH P T l l' = true) : bs P w0 env objs o (.bool (!(eqL l l'))) := a6 fun a w _ hop => by
  have h1 := hop x (by simp [ho, Op.operands]) _ hx
  have h2 := hop y (by simp [ho, Op.operands]) _ hy
  obtain ⟨vs, hv⟩ := my h1
  obtain ⟨vs', hv'⟩ := my h2
  rw [hv] at h1
  rw [hv'] at h2
  have hg : P.eqGuardType P.depth T = false := by
    simp only [wH, Bool.and_eq_true, Bool.not_eq_true'] at hT
    exact hT.1.2
  refine ⟨.bool (!(eqL l l')), ?_, .bool _⟩
  simp only [execOp, ho, hv, hv']
  refine cq ?_
  simp only [Sem.run_bind, run_eqGuard_agg w _ T x y vs vs' hg, Result.andThen_ok, run_neq_struct, lT hT h1 h2]
end
section
variable {Q : Exit → Act → World → Prop} {ops : Array Oper} {rest : List Oper} {d T0 : Nat} {pos : String} {af : Array Edge} {g : Option (Nat × Bool)} {T t2 : TypeId} {x y : Operand} {l l' : List TV}
variable {K : Env → Prop}
end
end
end Go.Proofs.YthpdkhejeookhaaGreatDoor
