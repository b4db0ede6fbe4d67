/- The abstract walk, part 15: a state that says less, a loop whose fixed slots are named, a nil slice that is to grow. -/
import Derived.Test.YtdeokcbbjibkoaaDoorEngW
namespace Go.Proofs.YtdeokcbbjibkoaaDoor
open Go Go.RowKit
section
variable {P : Program} {w0 : World} {N : Nat} {Q : Exit → Act → World → Prop} {env : Env} {objs objs' : Objs}
theorem Sim.pick {a : Act} {w : World} (h : Sim w0 N env objs a w) (k : Pick objs' objs) : Sim w0 N env objs' a w := h.weak ⟨fun _ _ h => h, k⟩
theorem aw_pick {c : Code} (k : Pick objs' objs) (h : AW P w0 N c Q env objs') : AW P w0 N c Q env objs := ⟨fun a w hs => h.run a w (hs.pick k)⟩
/-- Where the walk is to stand still. -/
structure Held (p : Prop) : Prop where
  go : p
theorem aw_hold_r {id : Nat} {ops : Array Oper} {b : Bool} {y : Code} (h : Held (AW P w0 N (.seq (.region id ops b) y) Q env objs)) : AW P w0 N (.seq (.region id ops b) y) Q env objs := h.go
theorem al_app1 {ops : Array Oper} {rest : List Oper} {x : Nat × Nat × TObj} {l : Objs} (h : AL P w0 N ops Q rest env (x :: l)) : AL P w0 N ops Q rest env ([x] ++ l) := h
theorem al_app2 {ops : Array Oper} {rest : List Oper} {x y : Nat × Nat × TObj} {l : Objs} (h : AL P w0 N ops Q rest env (x :: y :: l)) : AL P w0 N ops Q rest env ([x, y] ++ l) := h
theorem o_append_q {objsOf : Nat → List (List TV) → Objs} {ops : Array Oper} {rest : List Oper} {d T0 : Nat} {pos : String} {af : Array Edge} {g : Option (Nat × Bool)} {T s b off len n m : Nat} {x y : Operand} {f : Nat} {rows live news : List (List TV)} (hN : Nat.blt d N = true) (hx : ev env x = some (.ms s b off len)) (hy : ev env y = some (.sl f m news)) (hT : appOk P T m = true) (hm : (s, b, TObj.row m rows) ∈ objs)
    (hlive : (rows.drop off).take len = live) (hl : off + len ≤ rows.length) (hn : news.length = n) (hbig : len + n ≤ 1000000000) (hu : ∀ b2 pre, Upd (s, b, .row m rows) (s, b2, .row m (pre ++ (live ++ news))) objs (objsOf b2 pre)) (h : ∀ b2 pre, AL P w0 N ops Q rest ((d, .ms s b2 pre.length (len + n)) :: env) (objsOf b2 pre)) :
    AO P w0 N ops Q ⟨some d, .call { callee := .builtin .append, args := #[x, y], argTypes := #[T, T] }, T0, pos, af, g⟩ rest env objs := ao_append_q rfl rfl hN hx hy hT hl hn hbig hlive hu fun b2 pre _ => h b2 pre
/-- The slots that are kept. -/
inductive Kept (env : Env) : List Nat → Env → Prop
  | nil : Kept env [] []
  | cons (t : Nat) (v : TV) (l : List Nat) (e : Env) (h : lk t env = some v) (hr : Kept env l e) : Kept env (t :: l) ((t, v) :: e)
theorem Kept.weak {l : List Nat} {e : Env} (h : Kept env l e) : ∀ t v, lk t e = some v → lk t env = some v := by
  induction h with
  | nil => exact Weak.envNil
  | cons t v l e h hr ih => exact Weak.envCons h ih
theorem lk_app {t : Nat} : ∀ {e1 e2 : Env} {v : TV}, lk t (e1 ++ e2) = some v → lk t e1 = some v ∨ lk t e2 = some v
  | [], _, _, h => .inr h
  | (s, u) :: r, e2, v, h => by
    rw [List.cons_append, lk_cons] at h
    rw [lk_cons]
    split at h
    · rename_i e; rw [if_pos e]; exact .inl h
    · rename_i e; rw [if_neg e]; exact lk_app h
theorem Weak.of (new : Env) {e1 : Env} (h1 : ∀ t v, lk t new = some v → lk t env = some v) (h2 : ∀ t v, lk t e1 = some v → lk t env = some v) (hp : Pick objs' objs) : Weak env objs (new ++ e1) objs' :=
  ⟨fun t v h => (lk_app h).elim (h1 t v) (h2 t v), hp⟩
/-- A loop: the slots of 'keep' stay, those of 'new' are as the state says. -/
theorem aw_loopk {X : Type} {body : Code} (keep : List Nat) (new : X → Env) (O : X → Objs) (I : X → Prop) (μ : X → Nat) (x0 : X) (h0 : I x0) {e1 : Env} (hk : Kept env keep e1) (hw : ∀ t v, lk t (new x0) = some v → lk t env = some v) (hp : Pick (O x0) objs)
    (round : ∀ x, I x → AW P w0 N body (Exit.then (AInv w0 N (fun x => new x ++ e1) O I μ (μ x)) Q) (new x ++ e1) (O x)) : AW P w0 N (.loop body) Q env objs :=
  aw_loop (fun x => new x ++ e1) O I μ x0 h0 (.of _ hw hk.weak hp) round
theorem aw_hold_b {id : Nat} {c : Code} (h : Held (AW P w0 N (.block id c) Q env objs)) : AW P w0 N (.block id c) Q env objs := h.go
/-- Ways that meet again behind x. -/
theorem aw_join {X : Type} {x z : Code} (keep : List Nat) (new : X → Env) (O : X → Objs) (I : X → Prop) {e1 : Env} (hk : Kept env keep e1) (h1 : AW P w0 N x (Exit.then (AMid w0 N (fun x => new x ++ e1) O I) Q) env objs) (h2 : ∀ y, I y → AW P w0 N z Q (new y ++ e1) (O y)) : AW P w0 N x (Exit.then (z.wp P Q) Q) env objs := ⟨fun a w hs => by
  refine wp_mono (h1.run a w hs) fun e a' w' hq => ?_
  cases e with
  | normal =>
    obtain ⟨y, hy, hs'⟩ := hq
    exact (h2 y hy).run a' w' hs'
  | exit id => exact hq
  | goto l => exact hq
  | ret => exact hq
  | panic c => exact hq
  | outgrown => exact hq⟩

theorem lk_ms {t : Nat} {env : Env} {s b off m n : Nat} (h : lk t env = some (.ms s b off m)) (e : m = n) : lk t env = some (.ms s b off n) := e ▸ h
theorem lk_ms2 {t : Nat} {env : Env} {s b off m off' n : Nat} (h : lk t env = some (.ms s b off m)) (e0 : off = off') (e : m = n) : lk t env = some (.ms s b off' n) := e0 ▸ e ▸ h
inductive DelS (s b : Nat) (o : TObj) : Objs → Objs → Prop
  | head (l : Objs) : DelS s b o ((s, b, o) :: l) l
  | tail (s' b' : Nat) (o' : TObj) (l l' : Objs) (h : DelS s b o l l') : DelS s b o ((s', b', o') :: l) ((s', b', o') :: l')
theorem DelS.del {s b : Nat} {o : TObj} {l l' : Objs} (h : DelS s b o l l') : Del (s, b, o) l l' := by
  induction h with
  | head l => exact .head l
  | tail s' b' o' l l' h ih => exact .tail _ _ _ ih
theorem Pick.consE {s b : Nat} {o o' : TObj} {l l1 objs : Objs} (hd : DelS s b o' objs l1) (h : o = o') (k : Pick l l1) : Pick ((s, b, o) :: l) objs := h ▸ .cons hd.del k

/-- A nil slice is a row of nothing that the call owns. -/
theorem step_nil (w : World) (ss m : Nat) (hm : 0 < m) : Step w objs w ((ss, 0, .row m []) :: objs) :=
  ⟨fun _ _ _ => rfl, fun b _ ha => ⟨ha.1, by
    obtain ⟨h0, s, o, hm⟩ := ha
    rcases List.mem_cons.1 hm with he | hm
    · simp only [Prod.mk.injEq] at he; omega
    · exact ⟨s, o, hm⟩⟩, fun s b m' rows _ hb hm' => by
    rcases List.mem_cons.1 hm' with he | hm'
    · simp only [Prod.mk.injEq] at he; omega
    · exact ⟨⟨rows, hm'⟩, rfl⟩, Nat.le_refl _, fun hk => by
    rcases List.mem_cons.1 hk with he | hk
    · simp only [marker, Prod.mk.injEq, TObj.row.injEq] at he; omega
    · exact hk⟩
theorem SimW.nil {w : World} (hw : SimW w0 objs w) {ss m : Nat} (hm : 0 < m) (hs : ∀ x ∈ objs, x.1 ≠ ss) : SimW w0 ((ss, 0, .row m []) :: objs) w :=
  ⟨hw.below, hw.pos, fun s b o h => by
    rcases List.mem_cons.1 h with he | h
    · simp only [Prod.mk.injEq] at he
      obtain ⟨rfl, rfl, rfl⟩ := he
      exact ⟨⟨hm, by simp⟩, by simp, .inl ⟨rfl, rfl⟩⟩
    · exact (hw.obj s b o h).step (step_nil w ss m hm) rfl, List.pairwise_cons.2 ⟨fun y hy => ⟨(hs y hy).symm, .inr rfl⟩, hw.sites⟩⟩
theorem Sim.nil {a : Act} {w : World} (h : Sim w0 N env objs a w) {t : Nat} (m : Nat) (hm : 0 < m) (ht : lk t env = some .nils) : ∃ ss, Sim w0 N ((t, .ms ss 0 0 0) :: env) ((ss, 0, .row m []) :: objs) a w := by
  obtain ⟨ss, hss⟩ := site_new objs
  have hpos : 0 < w.heap.size := Nat.lt_of_lt_of_le h.mem.pos h.mem.below.size
  have hw := h.mem.nil hm hss
  refine ⟨ss, h.defers, h.size, hw, fun t' v hv => ?_⟩
  rw [lk_cons] at hv
  split at hv
  · rename_i e
    subst e
    simp only [Option.some.injEq] at hv
    subst hv
    have h1 := h.env _ _ ht
    generalize a.tmps.getD t undef = u at h1
    cases h1
    exact .ms ss 0 0 0 _ (.mk ⟨hpos, hw.noMark, none, 0, rfl⟩ (fun _ _ _ => .inl ⟨rfl, rfl, rfl, rfl⟩) fun _ => ⟨rfl, rfl, rfl⟩)
  · exact (h.env t' v hv).step (step_nil w ss m hm)
theorem aq_nils {x : Exit} (t m : Nat) (hm : 0 < m) (ht : lk t env = some .nils) (h : ∀ ss, AQ w0 N Q x ((t, .ms ss 0 0 0) :: env) ((ss, 0, .row m []) :: objs)) : AQ w0 N Q x env objs := ⟨fun a w hs => by
  obtain ⟨ss, h1⟩ := hs.nil m hm ht
  exact (h ss).run a w h1⟩
end
end Go.Proofs.YtdeokcbbjibkoaaDoor
