/- The abstract walk, part 16: contracts of functions that turn what their caller owns, or give back what is owned. -/
import Derived.Test.YtdeokcbbjibkoaaDoorEngX
namespace Go.Proofs.YtdeokcbbjibkoaaDoor
open Go Go.RowKit

/-- A contract: from what is listed in objs the call makes what O lists, whatever else the caller owns (R), and all values (gs) go on standing for what they stood for. -/
def CtM (P : Program) (G : World → Prop) (f : FuncId) (args : List TV) (objs : Objs) {Y : Type} (I : Y → Prop) (O : Y → Objs) (r : Y → TV) : Prop :=
  ∀ (w0 w : World) (R : Objs) (gs : List (TV × Value)) (vs : Array Value), G w0 → SimW w0 (objs ++ R) w → Rep w (objs ++ R) (.gh gs) undef → vs.size = args.length → (∀ (i : Nat) (t : TV) (v : Value), args[i]? = some t → vs[i]? = some v → Rep w (objs ++ R) t v) →
    Calls P f vs w fun e w' => ∃ v y, e = .returned v ∧ I y ∧ SimW w0 (O y ++ R) w' ∧ Rep w' (O y ++ R) (.gh gs) undef ∧ Rep w' (O y ++ R) (r y) v
inductive AppO : Objs → Objs → Objs → Prop
  | nil (R : Objs) : AppO [] R R
  | cons (x : Nat × Nat × TObj) (l R l' : Objs) (h : AppO l R l') : AppO (x :: l) R (x :: l')
  | app (l R : Objs) : AppO l R (l ++ R)
theorem AppO.eq {l R l' : Objs} (h : AppO l R l') : l ++ R = l' := by
  induction h with
  | nil R => rfl
  | cons x l R l' h ih => rw [List.cons_append, ih]
  | app l R => rfl
theorem AppO.inv0 {R l : Objs} (h : AppO [] R l) : R = l := h.eq
theorem AppO.inv1 {x : Nat × Nat × TObj} {R l : Objs} (h : AppO [x] R l) : l = x :: R := h.eq.symm
def RetM (w0 : World) (R : Objs) (gs : List (TV × Value)) {Y : Type} (I : Y → Prop) (O : Y → Objs) (r : Y → TV) : Ending → World → Prop := fun e w' =>
  ∃ v y, e = .returned v ∧ I y ∧ SimW w0 (O y ++ R) w' ∧ Rep w' (O y ++ R) (.gh gs) undef ∧ Rep w' (O y ++ R) (r y) v
theorem ctm_enter {P : Program} {G : World → Prop} {f : FuncId} {fn : Func} {c : Code} {args : List TV} {objs : Objs} {Y : Type} {I : Y → Prop} {O : Y → Objs} {r : Y → TV} {N : Nat} {env : Env} (hf : P.funcs[f]? = some fn) (hb : fn.body = some c) (hn : fn.ntmps = N) (hN : Nat.ble args.length N = true) (hN2 : Nat.ble N 1000000 = true) (he : argEnv 0 args = env)
    (h : ∀ w0 R gs objsR, G w0 → AppO objs R objsR → AW P w0 N c (bodyPost P fn (RetM w0 R gs I O r)) (env ++ [(1000000, .gh gs)]) objsR) : CtM P G f args objs I O r := fun w0 w R gs vs hG hw hgs hsz hrep => by
  have hN := Nat.le_of_ble_eq_true hN
  have hN2 := Nat.le_of_ble_eq_true hN2
  subst he
  refine calls_of_wp hf hb ((h w0 R gs (objs ++ R) hG (.app _ _)).run _ w ⟨rfl, ?_, hw, fun t v hv => ?_⟩)
  · simp [hn, hsz]; omega
  · rcases lk_app hv with hv | hv
    · obtain ⟨_, h2⟩ := lk_argEnv hv
      rw [Nat.sub_zero] at h2
      have hlt : t < vs.size := by rw [hsz]; exact (List.getElem?_eq_some_iff.1 h2).1
      have : (vs ++ Array.replicate (fn.ntmps - vs.size) undef).getD t undef = vs[t] := by simp [Array.getElem?_append_left hlt, hlt]
      rw [this]
      exact hrep t v _ h2 (by simp [hlt])
    · rw [lk_cons] at hv
      split at hv
      · simp only [Option.some.injEq] at hv
        subst hv
        cases hgs with
        | gh l v h => exact .gh gs _ h
      · simp [lk] at hv

section
variable {P : Program} {w0 : World} {N : Nat} {Q : Exit → Act → World → Prop} {env : Env} {objs objs' : Objs} {o : Oper}

theorem retm_end {fn : Func} {R : Objs} {gs : List (TV × Value)} {Y : Type} {I : Y → Prop} {O : Y → Objs} {r : Y → TV} {x : Exit} (hx : x = .normal ∨ x = .ret) {a : Act} {w : World} (hs : Sim w0 N env objs a w) (y : Y) (hI : I y) (hg : lk 1000000 env = some (.gh gs)) (hp : Pick (O y ++ R) objs) {v : Value} (hr : (results fn a.tmps).run P w = .ok v w) (hv : Rep w objs (r y) v) : bodyPost P fn (RetM w0 R gs I O r) x a w := by
  have h1 : RetM w0 R gs I O r (.returned v) w := by
    have h2 := hs.env _ _ hg
    refine ⟨v, y, rfl, hI, hs.mem.sub hp, ?_, hv.step (step_sub hp w)⟩
    generalize a.tmps.getD 1000000 undef = u at h2
    cases h2 with
    | gh l v h => exact .gh gs _ fun i t u hi => (h i t u hi).step (step_sub hp w)
  rcases hx with rfl | rfl
  · exact ⟨hs.defers, v, hr, h1⟩
  · exact ⟨hs.defers, v, hr, h1⟩
section
variable {fn : Func} {R : Objs} {gs : List (TV × Value)} {Y : Type} {I : Y → Prop} {O : Y → Objs} {r : Y → TV} {x : Exit}
theorem aq_retm1 {r1 : ResultVar} {t1 : TV} (hx : x = .normal ∨ x = .ret) (hres : fn.results = #[r1]) (y : Y) (hI : I y) (hg : lk 1000000 env = some (.gh gs)) {l : Objs} (ho : AppO (O y) R l) (hp : Pick l objs) (h1 : RV P env objs r1 t1) (hr : r y = t1) : AQ w0 N (bodyPost P fn (RetM w0 R gs I O r)) x env objs := ⟨fun a w hs => by
  obtain ⟨v1, e1, g1⟩ := rv_run hs h1
  refine retm_end hx hs y hI hg (ho.eq ▸ hp) (v := v1) ?_ (by rw [hr]; exact g1)
  have : results fn a.tmps = (#[r1].mapM (rvRun a.tmps)) >>= fun vs => pure (if h : vs.size = 1 then vs[0] else .tuple vs) := by rw [← hres]; rfl
  rw [this]
  simp [Sem.run_bind, e1, Sem.run_pure]⟩
theorem aq_retm2 {r1 r2 : ResultVar} {t1 t2 : TV} (hx : x = .normal ∨ x = .ret) (hres : fn.results = #[r1, r2]) (y : Y) (hI : I y) (hg : lk 1000000 env = some (.gh gs)) {l : Objs} (ho : AppO (O y) R l) (hp : Pick l objs) (h1 : RV P env objs r1 t1) (h2 : RV P env objs r2 t2) (hr : r y = .tup [t1, t2]) : AQ w0 N (bodyPost P fn (RetM w0 R gs I O r)) x env objs := ⟨fun a w hs => by
  obtain ⟨v1, e1, g1⟩ := rv_run hs h1
  obtain ⟨v2, e2, g2⟩ := rv_run hs h2
  refine retm_end hx hs y hI hg (ho.eq ▸ hp) (v := .tuple #[v1, v2]) ?_ (by rw [hr]; exact rep_tup2 g1 g2)
  have : results fn a.tmps = (#[r1, r2].mapM (rvRun a.tmps)) >>= fun vs => pure (if h : vs.size = 1 then vs[0] else .tuple vs) := by rw [← hres]; rfl
  rw [this]
  simp [Sem.run_bind, e1, e2, Sem.run_pure]⟩
end

inductive ArgsM (env : Env) : List Operand → List TV → Prop
  | nil : ArgsM env [] []
  | cons (x : Operand) (xs : List Operand) (t : TV) (ts : List TV) (h : ev env x = some t) (hr : ArgsM env xs ts) : ArgsM env (x :: xs) (t :: ts)
theorem argsM_rep {w : World} {a : Act} {xs : List Operand} {ts : List TV} (h : ArgsM env xs ts) (hop : ∀ x ∈ xs, ∀ v, ev env x = some v → Rep w objs v (a.eval x)) : (xs.map a.eval).length = ts.length ∧ ∀ (i : Nat) (t : TV) (v : Value), ts[i]? = some t → (xs.map a.eval)[i]? = some v → Rep w objs t v := by
  induction h with
  | nil => simp
  | cons x xs t ts h hr ih =>
    obtain ⟨h1, h2⟩ := ih (fun y hy => hop y (by simp [hy]))
    refine ⟨by simpa using h1, fun i u v hu hv' => ?_⟩
    cases i with
    | zero => simp at hu hv'; subst hu; subst hv'; exact hop x (by simp) t h
    | succ i => exact h2 i u v (by simpa using hu) (by simpa using hv')

/-- All that the frame's slots hold, as a list. -/
def ghosts (env : Env) (a : Act) : List (TV × Value) := env.map fun p => ((lk p.1 env).getD .top, a.tmps.getD p.1 undef)
theorem lk_mem {t : Nat} : ∀ {env : Env} {v : TV}, lk t env = some v → ∃ u, (t, u) ∈ env
  | [], _, h => by simp [lk] at h
  | (s, u) :: r, v, h => by
    rw [lk_cons] at h
    split at h
    · rename_i e; subst e; exact ⟨u, List.mem_cons_self⟩
    · obtain ⟨u', h'⟩ := lk_mem h; exact ⟨u', List.mem_cons_of_mem _ h'⟩
theorem mem_lk {t : Nat} : ∀ {env : Env} {u : TV}, (t, u) ∈ env → ∃ v, lk t env = some v
  | [], _, h => by simp at h
  | (s, u) :: r, u', h => by
    rw [lk_cons]
    by_cases e : s = t
    · exact ⟨u, by rw [if_pos e]⟩
    · rw [if_neg e]
      rcases List.mem_cons.1 h with he | h
      · simp only [Prod.mk.injEq] at he; exact absurd he.1.symm e
      · exact mem_lk h
theorem ghosts_rep {a : Act} {w : World} (hs : Sim w0 N env objs a w) : Rep w objs (.gh (ghosts env a)) undef := .gh _ _ fun i t u hi => by
  unfold ghosts at hi
  rw [List.getElem?_map] at hi
  obtain ⟨p, hp, he⟩ := Option.map_eq_some_iff.1 hi
  simp only [Prod.mk.injEq] at he
  obtain ⟨v, hv⟩ := mem_lk (List.mem_of_getElem? hp)
  rw [hv, Option.getD_some] at he
  rw [← he.1, ← he.2]
  exact hs.env _ _ hv
theorem ghosts_env {a : Act} {w' : World} (h : Rep w' objs' (.gh (ghosts env a)) undef) : ∀ t v, lk t env = some v → Rep w' objs' v (a.tmps.getD t undef) := fun t v hv => by
  obtain ⟨u, hu⟩ := lk_mem hv
  obtain ⟨i, hi, he⟩ := List.getElem_of_mem hu
  cases h with
  | gh l v' h =>
    refine h i v _ ?_
    unfold ghosts
    rw [List.getElem?_map, List.getElem?_eq_getElem hi, Option.map_some, he]
    simp [hv]
/-- A call that turns what the caller owns. -/
theorem ao_callM {G : World → Prop} {ops : Array Oper} {rest : List Oper} {f : Nat} {xs : List Operand} {ts : Array TypeId} {args : List TV} {objsC R : Objs} {Y : Type} {I : Y → Prop} {O : Y → Objs} {r : Y → TV} (ho : o.op = .call { callee := .value (.func f), args := xs.toArray, argTypes := ts }) (hc : callB P f = true) (hargs : ArgsM env xs args)
    (hct : CtM P G f args objsC I O r) (hG : G w0) (hap : AppO objsC R objs) (hpk : ∀ y, I y → ∀ v w' a, Sim w0 N env (O y ++ R) a w' → Rep w' (O y ++ R) (r y) v → wpList P ops Q rest (a.put o.dst v) w') : AO P w0 N ops Q o rest env objs := ⟨fun a w K hs hK => by
  have heq := hap.eq
  subst heq
  obtain ⟨h1, h2⟩ := argsM_rep (objs := objsC ++ R) (w := w) (a := a) hargs (fun x _ v hv => ev_sim hs hv)
  unfold Oper.wp
  rw [exec_call ho hc]
  refine (hct w0 w R (ghosts env a) (xs.map a.eval).toArray hG hs.mem (ghosts_rep hs) (by simpa using h1) (fun i t v ht hv => h2 i t v ht (by simpa using hv))).mono ?_
  rintro e w' ⟨v, y, rfl, hI, hw', hg, hr⟩
  exact hK _ _ (hpk y hI v w' a ⟨hs.defers, hs.size, hw', ghosts_env hg⟩ hr)⟩
theorem sim_put {a : Act} {w' : World} (hs : Sim w0 N env objs a w') {d : Nat} (hd : Nat.blt d N = true) {tv : TV} {v : Value} (hr : Rep w' objs tv v) : Sim w0 N ((d, tv) :: env) objs (a.put (some d) v) w' := hs.putNew hd hr hs.mem (step_refl _ _)
theorem o_callM {G : World → Prop} {ops : Array Oper} {rest : List Oper} {d T0 : Nat} {pos : String} {af : Array Edge} {g : Option (Nat × Bool)} {f : Nat} {xs : List Operand} {ts : Array TypeId} {args : List TV} {objsC R : Objs} {Y : Type} {I : Y → Prop} {O : Y → Objs} {r : Y → TV} (hN : Nat.blt d N = true) (hc : callB P f = true) (hargs : ArgsM env xs args)
    (hG : G w0) (hct : CtM P G f args objsC I O r) (hap : AppO objsC R objs) (h : ∀ y, I y → AL P w0 N ops Q rest ((d, r y) :: env) (O y ++ R)) : AO P w0 N ops Q ⟨some d, .call { callee := .value (.func f), args := xs.toArray, argTypes := ts }, T0, pos, af, g⟩ rest env objs :=
  ao_callM rfl hc hargs hct hG hap fun y hI v w' a hs hr => (h y hI).run _ _ (sim_put hs hN hr)
end
end Go.Proofs.YtdeokcbbjibkoaaDoor
