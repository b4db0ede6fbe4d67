/- Part 15 of the proof: the texts EngZ, EngK, EngL. -/
import Derived.Test.YtiihihgjiklnoaaGreatDoorPart14
/- The abstract walk, part 17: a call that gives back new memory that the caller owns from then on. -/
namespace Go.Proofs.YtiihihgjiklnoaaGreatDoor
open Go Go.RowKit

/-- What lies in new memory alone. -/
inductive NewOk (objs : Objs) : TV → Prop
  | flat (t : TV) (h : t.flat = true) : NewOk objs t
  | nils : NewOk objs .nils
  | ms (s b off len m : Nat) (rows : List (List TV)) (hm : (s, b, TObj.row m rows) ∈ objs) : NewOk objs (.ms s b off len)
  | agg (l : List TV) (h : ∀ t ∈ l, NewOk objs t) : NewOk objs (.agg l)
  | tup (l : List TV) (h : ∀ t ∈ l, NewOk objs t) : NewOk objs (.tup l)
def ObjNew (objs : Objs) : TObj → Prop
  | .row _ rows => ∀ t ∈ rows.flatten, NewOk objs t
  | .box cells => ∀ t ∈ cells, NewOk objs t
  | .void => False
  | .iter _ _ => False
def voids (objs : Objs) : Objs := objs.map fun x => (x.1, 0, TObj.void)
theorem mem_voids {objs : Objs} {x : Nat × Nat × TObj} (h : x ∈ voids objs) : ∃ y ∈ objs, x = (y.1, 0, TObj.void) := by
  obtain ⟨y, hy, rfl⟩ := List.mem_map.1 h
  exact ⟨y, hy, rfl⟩
theorem voids_sites {objs : Objs} (h : List.Pairwise SiteRel objs) : List.Pairwise SiteRel (voids objs) := by
  unfold voids
  rw [List.pairwise_map]
  exact h.imp fun h => ⟨h.1, .inr rfl⟩
section
variable {P : Program} {w0 : World} {N : Nat} {Q : Exit → Act → World → Prop} {env : Env} {objs objs' : Objs} {o : Oper}
theorem step_voids (w : World) (l : Objs) : Step w [] w (voids l) :=
  ⟨fun _ _ _ => rfl, fun b _ ha => by
    obtain ⟨h0, s, o, hm⟩ := ha
    obtain ⟨y, _, he⟩ := mem_voids hm
    simp only [Prod.mk.injEq] at he
    exact absurd he.2.1 h0, fun s b m rows _ hb hm => by
    obtain ⟨y, _, he⟩ := mem_voids hm
    simp only [Prod.mk.injEq] at he
    exact absurd he.2.1 hb, Nat.le_refl _, fun hk => by
    obtain ⟨y, _, he⟩ := mem_voids hk
    simp [marker] at he⟩
theorem simW_voids {w : World} (hw : SimW w0 objs w) : SimW w (voids objs) w :=
  ⟨Below.refl _ _, Nat.lt_of_lt_of_le hw.pos hw.below.size, fun s b o hm => by
    obtain ⟨y, _, he⟩ := mem_voids hm
    simp only [Prod.mk.injEq] at he
    obtain ⟨rfl, rfl, rfl⟩ := he
    rfl, voids_sites hw.sites⟩

theorem flat_any {w : World} {objs objs' : Objs} {t : TV} {v : Value} (hf : t.flat = true) (h : Rep w objs t v) : Rep w objs' t v := by
  cases h with
  | int k n => exact .int k n
  | bool b => exact .bool b
  | str s => exact .str s
  | nilp => exact .nilp
  | _ => cases hf
/-- A block of what is new is new. -/
theorem new_block {w w' : World} {O : Objs} (hD : SimW w (O ++ voids objs) w') (hO : ∀ s b o, (s, b, o) ∈ O → ObjNew O o) {s b : Nat} {o : TObj} (hm : (s, b, o) ∈ O) : b = 0 ∨ w.heap.size ≤ b := by
  have h1 := hD.obj s b o (List.mem_append_left _ hm)
  have h2 := hO s b o hm
  cases o with
  | row m rows => exact h1.2.2.imp (fun h => h.1) (fun h => h.1)
  | box cells => exact .inr h1.1.1
  | void => exact absurd h2 id
  | iter _ _ => exact absurd h2 id
theorem new_rep {w w' : World} {O : Objs} (hw : SimW w0 objs w) (hD : SimW w (O ++ voids objs) w') (hO : ∀ s b o, (s, b, o) ∈ O → ObjNew O o) {t : TV} {v : Value} (hn : NewOk O t) (h : Rep w' (O ++ voids objs) t v) : Rep w' (O ++ objs) t v := by
  induction hn generalizing v with
  | flat t hf => exact flat_any hf h
  | nils => cases h; exact .nils
  | ms s b off len m rows hm =>
    cases h with
    | ms _ _ _ _ _ h =>
      obtain ⟨⟨h1, h2, h3⟩, h4, h5⟩ := h
      refine .ms _ _ _ _ _ ⟨⟨h1, fun hk => ?_, h3⟩, h4, fun m' rows' hb hm' => ?_⟩
      · rcases List.mem_append.1 hk with hk | hk
        · exact h2 (List.mem_append_left _ hk)
        · exact hw.noMark hk
      · rcases List.mem_append.1 hm' with hm' | hm'
        · exact h5 m' rows' hb (List.mem_append_left _ hm')
        · have := objs_lt hw hm'
          rcases new_block hD hO hm with e | e
          · exact absurd e hb
          · omega
  | agg l hl ih =>
    cases h with
    | agg l vs hi h1 h2 => exact .agg l vs hi h1 fun i t v ht hv => ih t (List.mem_of_getElem? ht) (h2 i t v ht hv)
  | tup l hl ih =>
    cases h with
    | tup l vs h1 h2 => exact .tup l vs h1 fun i t v ht hv => ih t (List.mem_of_getElem? ht) (h2 i t v ht hv)
theorem new_step {w w' : World} {O : Objs} (_hw : SimW w0 objs w) (hD : SimW w (O ++ voids objs) w') (hO : ∀ s b o, (s, b, o) ∈ O → ObjNew O o) : Step w objs w' (O ++ objs) :=
  ⟨fun b hb _ => hD.below.block b hb, fun b hb ha => by
    obtain ⟨h0, s, o, hm⟩ := ha
    rcases List.mem_append.1 hm with hm | hm
    · rcases new_block hD hO hm with e | e
      · exact absurd e h0
      · omega
    · exact ⟨h0, s, o, hm⟩, fun s b m rows hb h0 hm => by
    rcases List.mem_append.1 hm with hm | hm
    · rcases new_block hD hO hm with e | e
      · exact absurd e h0
      · omega
    · exact ⟨⟨rows, hm⟩, shape_same (hD.below.block b hb)⟩, hD.below.size, fun hk => by
    rcases List.mem_append.1 hk with hk | hk
    · exact absurd (List.mem_append_left _ hk) hD.noMark
    · exact hk⟩
theorem new_simW {w w' : World} {O : Objs} (hw : SimW w0 objs w) (hD : SimW w (O ++ voids objs) w') (hO : ∀ s b o, (s, b, o) ∈ O → ObjNew O o) : SimW w0 (O ++ objs) w' := by
  have hst := new_step hw hD hO
  have hle := hw.below.size
  refine ⟨hw.below.trans (hD.below.mono hle), hw.pos, fun s b o hm => ?_, ?_⟩
  · rcases List.mem_append.1 hm with hm | hm
    · have h1 := hD.obj s b o (List.mem_append_left _ hm)
      have h2 := hO s b o hm
      cases o with
      | row m rows =>
        refine ⟨h1.1, h1.2.1, h1.2.2.imp id fun ⟨g1, cur, e, cap, g2, g3, g4, g5, g6⟩ => ⟨Nat.le_trans hle g1, cur, e, cap, g2, g3, g4, g5, fun j t hj => ?_⟩⟩
        obtain ⟨v, g7, g8⟩ := g6 j t hj
        exact ⟨v, g7, new_rep hw hD hO (h2 t (List.mem_of_getElem? hj)) g8⟩
      | box cells =>
        obtain ⟨⟨g1, g0⟩, cur, e, g2, g3, g6⟩ := h1
        refine ⟨⟨Nat.le_trans hle g1, g0⟩, cur, e, g2, g3, fun j t hj => ?_⟩
        obtain ⟨v, g7, g8⟩ := g6 j t hj
        exact ⟨v, g7, new_rep hw hD hO (h2 t (List.mem_of_getElem? hj)) g8⟩
      | void => exact absurd h2 id
      | iter _ _ => exact absurd h2 id
    · exact (hw.obj s b o hm).step hst (hD.below.block b (objs_lt hw hm))
  · obtain ⟨p1, _, p3⟩ := List.pairwise_append.1 hD.sites
    refine List.pairwise_append.2 ⟨p1, hw.sites, fun x hx y hy => ?_⟩
    refine ⟨(p3 x hx (y.1, 0, .void) (List.mem_map.2 ⟨y, hy, rfl⟩)).1, ?_⟩
    rcases new_block hD hO (s := x.1) (b := x.2.1) (o := x.2.2) hx with e | e
    · exact .inr e
    · have := objs_lt (s := y.1) (b := y.2.1) (ob := y.2.2) hw hy
      exact .inl (by omega)
/-- A call that gives back new memory: the arguments are only looked at. -/
theorem ao_callO {G : World → Prop} {ops : Array Oper} {rest : List Oper} {f : Nat} {xs : List Operand} {ts : Array TypeId} {args : List TV} {Y : Type} {I : Y → Prop} {O : Y → Objs} {r : Y → TV} (ho : o.op = .call { callee := .value (.func f), args := xs.toArray, argTypes := ts }) (hc : callB P f = true) (hargs : Args env objs xs args)
    (hct : CtM P G f args [] I O r) (hG : G w0) (hst : Stable G) (hnew : ∀ y, I y → (∀ s b o, (s, b, o) ∈ O y → ObjNew (O y) o) ∧ NewOk (O y) (r y)) (h : ∀ y, I y → ∀ v w' a, Sim w0 N env (O y ++ objs) a w' → Rep w' (O y ++ objs) (r y) v → wpList P ops Q rest (a.put o.dst v) w') : AO P w0 N ops Q o rest env objs := ⟨fun a w K hs hK => by
  obtain ⟨h1, h2⟩ := args_rep hs.mem (a := a) hargs (fun x _ v hv => ev_sim hs hv)
  unfold Oper.wp
  rw [exec_call ho hc]
  have hw := simW_voids hs.mem
  refine (hct w w (voids objs) [] (xs.map a.eval).toArray (hst.below _ _ hG hs.mem.below) (by simpa using hw) (.gh _ _ (by simp)) (by simpa using h1) (fun i t v ht hv => ?_)).mono ?_
  · exact (h2 i t v ht (by simpa using hv)).step (by simpa using step_voids w objs)
  · rintro e w' ⟨v, y, rfl, hI, hw', _, hr⟩
    obtain ⟨n1, n2⟩ := hnew y hI
    have hst' := new_step hs.mem hw' n1
    exact hK _ _ (h y hI v w' a ⟨hs.defers, hs.size, new_simW hs.mem hw' n1, fun t u hu => (hs.env t u hu).step hst'⟩ (new_rep hs.mem hw' n1 n2 hr))⟩
theorem o_callV {G : World → Prop} {ops : Array Oper} {rest : List Oper} {d T0 : Nat} {pos : String} {af : Array Edge} {g : Option (Nat × Bool)} {f : Nat} {xs : List Operand} {ts : Array TypeId} {args : List TV} {r : Nat → TV} (hN : Nat.blt d N = true) (hc : callB P f = true) (hG : G w0) (hst : Stable G) (hct : Ct P G f args r) (hargs : Args env objs xs args)
    (h : AL P w0 N ops Q rest ((d, r w0.heap.size) :: env) objs) : AO P w0 N ops Q ⟨some d, .call { callee := .value (.func f), args := xs.toArray, argTypes := ts }, T0, pos, af, g⟩ rest env objs := ao_q rfl hN (y_call rfl hc hargs hct hG hst) h
theorem o_callOV {G : World → Prop} {ops : Array Oper} {rest : List Oper} {d T0 : Nat} {pos : String} {af : Array Edge} {g : Option (Nat × Bool)} {f : Nat} {xs : List Operand} {ts : Array TypeId} {args : List TV} {Y : Type} {I : Y → Prop} {O : Y → Objs} {r : Y → TV} (hN : Nat.blt d N = true) (hc : callB P f = true)
    (hG : G w0) (hst : Stable G) (hct : CtM P G f args [] I O r) (hargs : Args env objs xs args) (hnew : ∀ y, I y → (∀ s b o, (s, b, o) ∈ O y → ObjNew (O y) o) ∧ NewOk (O y) (r y)) (h : ∀ y, I y → AL P w0 N ops Q rest ((d, r y) :: env) (O y ++ objs)) : AO P w0 N ops Q ⟨some d, .call { callee := .value (.func f), args := xs.toArray, argTypes := ts }, T0, pos, af, g⟩ rest env objs :=
  ao_callO rfl hc hargs hct hG hst hnew fun y hI _v _w' _a hs hr => (h y hI).run _ _ (sim_put hs hN hr)
theorem d_callV {G : World → Prop} {K : Env → Prop} {ops : Array Oper} {rest : List Oper} {d T0 : Nat} {pos : String} {af : Array Edge} {g : Option (Nat × Bool)} {f : Nat} {xs : List Operand} {ts : Array TypeId} {args : List TV} {r : Nat → TV} (hN : Nat.blt d N = true) (hc : callB P f = true) (hG : G w0) (hst : Stable G) (hct : Ct P G f args r) (hargs : Args env objs xs args)
    (h : DR P w0 N ops objs K rest ((d, r w0.heap.size) :: env)) : DO P w0 N ops objs K ⟨some d, .call { callee := .value (.func f), args := xs.toArray, argTypes := ts }, T0, pos, af, g⟩ rest env := ⟨fun hgr => .run _ _ _ _ _ rfl hN hgr (y_call rfl hc hargs hct hG hst) h⟩
theorem View.msAll {s b len m : Nat} {rows : List (List TV)} (hm : (s, b, TObj.row m rows) ∈ objs) (hl : rows.length = len) : View objs (.ms s b 0 len) (.sl 0 m rows) := by
  subst hl
  exact .msSame hm (by omega) (by simp)
theorem flat_new {objs : Objs} {rows : List (List TV)} (h : ∀ t ∈ rows.flatten, t.flat = true) : ∀ t ∈ rows.flatten, NewOk objs t := fun t ht => .flat t (h t ht)

end
end Go.Proofs.YtiihihgjiklnoaaGreatDoor
/- The abstract walk, part 18: a struct literal in a region that draws its order; a row that is frozen. -/
namespace Go.Proofs.YtiihihgjiklnoaaGreatDoor
open Go Go.RowKit
section
variable {P : Program} {w0 : World} {N : Nat} {Q : Exit → Act → World → Prop} {env : Env} {objs objs' : Objs} {o : Oper}
theorem d_build {K : Env → Prop} {ops : Array Oper} {rest : List Oper} {d T0 : Nat} {pos : String} {af : Array Edge} {g : Option (Nat × Bool)} {T : TypeId} {ps : List (Nat × Operand)} {zs l : List TV} (hN : Nat.blt d N = true) (he : zT T = zs) (hb : TB P env T ps zs l) (hz : zeroOk P T = some (zT T)) (hp : (placesOf P T).isSome = true)
    (h : DR P w0 N ops objs K rest ((d, .agg l) :: env)) : DO P w0 N ops objs K ⟨some d, .build T ps.toArray, T0, pos, af, g⟩ rest env := ⟨fun hgr => .run _ _ _ _ _ rfl hN hgr (y_build rfl hz hp (he ▸ hb)) h⟩
end
end Go.Proofs.YtiihihgjiklnoaaGreatDoor
/- The abstract walk, part 19: function literals that capture values, calls of function values. -/
namespace Go.Proofs.YtiihihgjiklnoaaGreatDoor
open Go Go.RowKit
section
variable {P : Program} {w0 : World} {N : Nat} {Q : Exit → Act → World → Prop} {env : Env} {objs objs' : Objs} {o : Oper}
inductive Evs (env : Env) : List Operand → List TV → Prop
  | nil : Evs env [] []
  | cons (x : Operand) (xs : List Operand) (t : TV) (ts : List TV) (h : ev env x = some t) (hr : Evs env xs ts) : Evs env (x :: xs) (t :: ts)
theorem evs_rep {w : World} {a : Act} {xs : List Operand} {l : List TV} (h : Evs env xs l) (hop : ∀ x ∈ xs, ∀ v, ev env x = some v → Rep w objs v (a.eval x)) : l.length = xs.length ∧ ∀ (i : Nat) (t : TV) (v : Value), l[i]? = some t → (xs.map a.eval)[i]? = some v → Rep w objs t v := by
  induction h with
  | nil => simp
  | cons x xs t ts h hr ih =>
    obtain ⟨h1, h2⟩ := ih (fun y hy => hop y (by simp [hy]))
    refine ⟨by simpa using h1, fun i u v hu hv => ?_⟩
    cases i with
    | zero => simp at hu hv; subst hu; subst hv; exact hop x (by simp) t h
    | succ i => exact h2 i u v (by simpa using hu) (by simpa using hv)
theorem y_makeFunc {f : Nat} {xs : List Operand} {l : List TV} (ho : o.op = .makeFunc (.func f) #[] xs.toArray) (hx : Evs env xs l) : Yields P w0 env objs o (.fn f l) := yields_same fun a w hw hop => by
  obtain ⟨h1, h2⟩ := evs_rep (objs := objs) (w := w) (a := a) hx (fun x hx v hv => hop x (by simp [ho, Op.operands, hx]) v hv)
  refine ⟨.func (.func f) #[] (xs.map a.eval).toArray, ?_, .fn f l _ (by simpa using h1) (fun i t v ht hv => h2 i t v ht (by simpa using hv))⟩
  simp only [execOp, ho]
  refine exec_v ?_
  simp [Instr.makeFunc, Sem.run_pure, List.map_toArray]
/-- Captured values, as the function that captured them sees them. -/
inductive Views (objs : Objs) : List TV → List TV → Prop
  | nil : Views objs [] []
  | cons (t t' : TV) (l l' : List TV) (h : View objs t t') (hr : Views objs l l') : Views objs (t :: l) (t' :: l')
theorem views_get {l l' : List TV} (h : Views objs l l') : l'.length = l.length ∧ ∀ (i : Nat) (t t' : TV), l[i]? = some t → l'[i]? = some t' → View objs t t' := by
  induction h with
  | nil => simp
  | cons t t' l l' h hr ih =>
    refine ⟨by simpa using ih.1, fun i u u' hu hu' => ?_⟩
    cases i with
    | zero => simp at hu hu'; subst hu; subst hu'; exact h
    | succ i => exact ih.2 i u u' (by simpa using hu) (by simpa using hu')
theorem exec_callF {f : Nat} {x : Operand} {xs : List Operand} {vs : Array Value} {ts : Array TypeId} (ho : o.op = .call { callee := .value x, args := xs.toArray, argTypes := ts }) (hc : callB P f = true) (a : Act) (w : World) (hx : a.eval x = .func (.func f) #[] vs) : (execOp a.eval o).run P w = .ok (.enter f ((xs.map a.eval).toArray ++ vs)) w := by
  simp only [execOp, ho, resolve, hx, Sem.run_bind, Sem.run_pure, Result.andThen_ok, Deferred.ofValue, invoke]
  simp [run_callFunc hc, List.map_toArray]
theorem y_callF {G : World → Prop} {f : Nat} {x : Operand} {xs : List Operand} {ts : Array TypeId} {l l' args : List TV} {r : Nat → TV} (ho : o.op = .call { callee := .value x, args := xs.toArray, argTypes := ts }) (hx : ev env x = some (.fn f l)) (hc : callB P f = true) (hargs : Args env objs xs args) (hl : Views objs l l')
    (hct : Ct P G f (args ++ l') r) (hG : G w0) (hst : Stable G) : Yields P w0 env objs o (r w0.heap.size) := fun a w K Q hw hop hK => by
  obtain ⟨h1, h2⟩ := args_rep hw (a := a) hargs (fun x hx v hv => hop x (by simp [ho, Op.operands, Call.operands, hx]) v hv)
  have hfn := hop x (by simp [ho, Op.operands, Call.operands]) _ hx
  generalize hv : a.eval x = v at hfn
  cases hfn with
  | fn f l vs g1 g2 =>
    obtain ⟨g3, g4⟩ := views_get hl
    unfold Oper.wp
    rw [exec_callF ho hc a w hv]
    refine (hct w _ (Nat.lt_of_lt_of_le hw.pos hw.below.size) (hst.below _ _ hG hw.below) (by simp at h1; simp; omega) (fun i t v ht hv' => ?_)).mono ?_
    · rw [List.length_map] at h1
      by_cases hi : i < args.length
      · rw [List.getElem?_append_left hi] at ht
        rw [Array.getElem?_append_left (by simp; omega)] at hv'
        exact h2 i t v ht (by simpa using hv')
      · rw [List.getElem?_append_right (by omega)] at ht
        rw [Array.getElem?_append_right (by simp; omega)] at hv'
        simp only [List.size_toArray, List.length_map] at hv'
        rw [h1] at hv'
        obtain ⟨t0, h5⟩ := get_of_len g3 ht
        exact view_rep hw (g4 _ _ _ h5 ht) (g2 _ _ _ h5 hv')
    · rintro e w' ⟨v, rfl, hb, hr⟩
      have hk : ∀ b, b < w.heap.size → w'.heap[b]? = w.heap[b]? := fun b hlt => hb.block b hlt
      have hbel : Below w0.heap.size w0 w' := hw.below.trans (hb.mono hw.below.size)
      exact hK v w' (Rep.ofOld (fun b ha => by obtain ⟨_, s, ob, hm⟩ := ha; exact objs_lt hw hm) (hr _ hw.below.size)) (hw.grow hbel hb.size hk) (step_grow objs hb.size hk)
/-- A row that the call owned is written no more. -/
theorem rep_freeze {w : World} (hw : SimW w0 objs w) {s b m : Nat} {rows : List (List TV)} (hm : (s, b, TObj.row m rows) ∈ objs) {v : Value} (hr : Rep w objs (.ms s b 0 rows.length) v) (hp : Pick objs' objs) (hna : ¬ alive objs' b) : Rep w objs' (.sl w0.heap.size m rows) v := by
  obtain ⟨⟨hm0, hci⟩, hmm, hor⟩ := hw.obj s b _ hm
  rcases (rep_ms hr).or m rows hm with ⟨_, _, hlen, rfl⟩ | ⟨hb0, q, c, e, k, rfl, hlc, hsh, hk, ho⟩
  · have : rows = [] := List.eq_nil_of_length_eq_zero hlen
    subst this
    exact .sl _ m [] none 0 (Nat.le_refl _) (by simp) (by simp) (by simp) (fun _ => undef) (by simp) (by simp)
  · rcases hor with ⟨h0, _⟩ | ⟨hB, cur, e', cap, h3, h4, h5, h6, h7⟩
    · exact absurd h0 hb0
    have hcm : c ≤ maxLen := by
      have h8 : w.shape? b = some (e', cur.size) := by unfold World.shape?; rw [h3]
      rw [h8] at hsh
      simp only [Option.some.injEq, Prod.mk.injEq] at hsh
      have h9 : cap * m = (0 + c) * m := by omega
      have := Nat.eq_of_mul_eq_mul_right hm0 h9
      omega
    have hq : q = 0 := by simpa using ho (.inr rfl)
    subst hq
    have key : ∀ j, ∃ u, ∀ t', rows.flatten[j]? = some t' → w.cell? ⟨b, 0 + j, none⟩ = some u ∧ Rep w objs' t' u := fun j => by
      cases hj : rows.flatten[j]? with
      | none => exact ⟨undef, fun t' ht => by cases ht⟩
      | some t =>
        obtain ⟨u, p1, p2⟩ := h7 _ t hj
        exact ⟨u, fun t' ht => by cases ht; exact ⟨by rw [cell_of_row w b _ cur e' (0, 0) h3, Nat.zero_add]; exact p1, p2.step (step_sub hp w)⟩⟩
    exact .sl _ m rows (some ⟨b, 0, none⟩) c hlc hcm hmm hci (fun j => Classical.choose (key j)) (fun j t hj => ⟨b, 0, rfl, ⟨hB, hna⟩, (Classical.choose_spec (key j) t hj).1⟩) (fun j t hj => (Classical.choose_spec (key j) t hj).2)
theorem Sim.freeze {a : Act} {w : World} (hs : Sim w0 N env objs a w) {t s b m n : Nat} {rows : List (List TV)} (hx : lk t env = some (.ms s b 0 n)) (hn : rows.length = n) (hd : DelS s b (.row m rows) objs objs') : Sim w0 N ((t, .sl w0.heap.size m rows) :: env) objs' a w := by
  subst hn
  have hdel : Pick ((s, b, .row m rows) :: objs') objs := .perm hd.del.perm
  have hp : Pick objs' objs := (Pick.drop (.refl _)).trans hdel
  have hmem : (s, b, TObj.row m rows) ∈ objs := hdel.mem _ List.mem_cons_self
  have hpw := hdel.sites hs.mem.sites
  have hna : ¬ alive objs' b := fun ha => by
    obtain ⟨h0, s', o', hm'⟩ := ha
    have := (List.pairwise_cons.1 hpw).1 _ hm'
    rcases this.2 with h | h
    · exact h rfl
    · exact h0 h
  have hs' := hs.pick hp
  refine ⟨hs'.defers, hs'.size, hs'.mem, fun t' v hv => ?_⟩
  rw [lk_cons] at hv
  split at hv
  · rename_i he
    subst he
    cases hv
    exact rep_freeze hs.mem hmem (hs.env t _ hx) hp hna
  · exact hs'.env t' v hv
theorem aq_freeze {x : Exit} {t s b m n : Nat} {rows : List (List TV)} (hx : lk t env = some (.ms s b 0 n)) (hn : rows.length = n) (hd : DelS s b (.row m rows) objs objs') (h : AQ w0 N Q x ((t, .sl w0.heap.size m rows) :: env) objs') : AQ w0 N Q x env objs := ⟨fun a w hs => h.run a w (hs.freeze hx hn hd)⟩
theorem nat_sub {m n : Nat} (h : n ≤ m) : ((m : Int) - (n : Int)) = ((m - n : Nat) : Int) := by omega
/-- A part of a row that nobody writes. -/
theorem y_slice_h_sl {T : TypeId} {x hi : Operand} {f m : Nat} {rows : List (List TV)} {k1 : IntKind} {n : Int} {j : Nat} (ho : o.op = .slice T x none (some hi) none) (hx : ev env x = some (.sl f m rows)) (hhi : ev env hi = some (.int k1 n))
    (hT : P.underlying T = some (.slice (P.elem T))) (hI : (P.info? (P.elem T)).isSome = true) (hn : n = (j : Int)) (hj : j ≤ rows.length) : Yields P w0 env objs o (.sl f m (rows.take j)) := yields_same fun a w hw hop => by
  have h0 := hop x (slice_opnd ho) _ hx
  have h1 := (hop hi (by simp [ho, Op.operands]) _ hhi).int_inv
  generalize hv : a.eval x = v at h0
  obtain ⟨A, c, rfl, g1, g2, g3, g4, g5⟩ := rep_sl h0
  have hlen : (rows.take j).length = j := by simp; omega
  cases hie : P.info? (P.elem T) with
  | none => rw [hie] at hI; cases hI
  | some ie =>
  have hfl : ∀ (q : Nat) (t : TV), (rows.take j).flatten[q]? = some t → rows.flatten[q]? = some t := fun q t hq => by
    rw [flatten_take g3, List.getElem?_take] at hq
    split at hq
    · exact hq
    · cases hq
  have key : ∀ q, ∃ u, ∀ t, (rows.take j).flatten[q]? = some t → (∃ b o, A = some ⟨b, o, none⟩ ∧ ZZ objs f b ∧ w.cell? ⟨b, o + q, none⟩ = some u) ∧ Rep w objs t u := fun q => by
    cases hq : (rows.take j).flatten[q]? with
    | none => exact ⟨undef, fun t ht => by cases ht⟩
    | some t =>
      obtain ⟨b, o, u, p1, p2, p3, p4⟩ := g5 q t (hfl q t hq)
      exact ⟨u, fun t' ht => by cases ht; exact ⟨⟨b, o, p1, p2, p3⟩, p4⟩⟩
  have hr := Rep.sl (w := w) (objs := objs) f m (rows.take j) A c (by omega) g2 (fun r hr => g3 r (List.mem_of_mem_take hr)) (fun t ht => by
      obtain ⟨r, h2, h3⟩ := List.mem_flatten.1 ht
      exact g4 t (List.mem_flatten.2 ⟨r, List.mem_of_mem_take h2, h3⟩)) (fun q => Classical.choose (key q)) (fun q t hq => ((Classical.choose_spec (key q)) t hq).1) (fun q t hq => ((Classical.choose_spec (key q)) t hq).2)
  rw [hlen] at hr
  refine ⟨.slice A j c, ?_, hr⟩
  simp only [execOp, ho, h1, hv, Option.map_some, Option.map_none]
  refine exec_v ?_
  rw [run_sliceAt_slice w T _ _ _ _ hT, run_slice_h w T _ rows.length c hT k1 n (by omega) (by omega), run_sizeOf w hie]
  subst hn
  cases A <;> simp [Result.andThen_ok, sliced, Addr.add]
variable {ops : Array Oper} {rest : List Oper} {d T0 : Nat} {pos : String} {af : Array Edge} {g : Option (Nat × Bool)} {K : Env → Prop}
theorem o_makeFunc {f : Nat} {xs : List Operand} {l : List TV} (hN : Nat.blt d N = true) (hx : Evs env xs l) (h : AL P w0 N ops Q rest ((d, .fn f l) :: env) objs) : AO P w0 N ops Q ⟨some d, .makeFunc (.func f) #[] xs.toArray, T0, pos, af, g⟩ rest env objs := ao_q rfl hN (y_makeFunc rfl hx) h
theorem o_callF {G : World → Prop} {t f : Nat} {xs : List Operand} {ts : Array TypeId} {l l' args all : List TV} {r : Nat → TV} (hN : Nat.blt d N = true) (hx : lk t env = some (.fn f l)) (hc : callB P f = true) (hG : G w0) (hst : Stable G) (hargs : Args env objs xs args) (hl : Views objs l l') (ha : args ++ l' = all) (hct : Ct P G f all r)
    (h : AL P w0 N ops Q rest ((d, r w0.heap.size) :: env) objs) : AO P w0 N ops Q ⟨some d, .call { callee := .value (.tmp t), args := xs.toArray, argTypes := ts }, T0, pos, af, g⟩ rest env objs := ao_q rfl hN (y_callF (x := .tmp t) rfl hx hc hargs hl (ha ▸ hct) hG hst) h
theorem d_callF {G : World → Prop} {t f : Nat} {xs : List Operand} {ts : Array TypeId} {l l' args all : List TV} {r : Nat → TV} (hN : Nat.blt d N = true) (hx : lk t env = some (.fn f l)) (hc : callB P f = true) (hG : G w0) (hst : Stable G) (hargs : Args env objs xs args) (hl : Views objs l l') (ha : args ++ l' = all) (hct : Ct P G f all r)
    (h : DR P w0 N ops objs K rest ((d, r w0.heap.size) :: env)) : DO P w0 N ops objs K ⟨some d, .call { callee := .value (.tmp t), args := xs.toArray, argTypes := ts }, T0, pos, af, g⟩ rest env := ⟨fun hgr => .run _ _ _ _ _ rfl hN hgr (y_callF (x := .tmp t) rfl hx hc hargs hl (ha ▸ hct) hG hst) h⟩
theorem o_slice_h_sl {T : TypeId} {x hi : Operand} {f m : Nat} {rows rows2 : List (List TV)} {k1 : IntKind} {n : Int} {j : Nat} (hN : Nat.blt d N = true) (hx : ev env x = some (.sl f m rows)) (hhi : ev env hi = some (.int k1 n)) (hT : P.underlying T = some (.slice (P.elem T))) (hI : (P.info? (P.elem T)).isSome = true) (hn : n = (j : Int)) (hj : j ≤ rows.length) (he : rows.take j = rows2) (h : AL P w0 N ops Q rest ((d, .sl f m rows2) :: env) objs) : AO P w0 N ops Q ⟨some d, .slice T x none (some hi) none, T0, pos, af, g⟩ rest env objs := ao_q rfl hN (he ▸ y_slice_h_sl rfl hx hhi hT hI hn hj) h
theorem d_slice_h_sl {T : TypeId} {x hi : Operand} {f m : Nat} {rows rows2 : List (List TV)} {k1 : IntKind} {n : Int} {j : Nat} (hN : Nat.blt d N = true) (hx : ev env x = some (.sl f m rows)) (hhi : ev env hi = some (.int k1 n)) (hT : P.underlying T = some (.slice (P.elem T))) (hI : (P.info? (P.elem T)).isSome = true) (hn : n = (j : Int)) (hj : j ≤ rows.length) (he : rows.take j = rows2) (h : DR P w0 N ops objs K rest ((d, .sl f m rows2) :: env)) : DO P w0 N ops objs K ⟨some d, .slice T x none (some hi) none, T0, pos, af, g⟩ rest env := ⟨fun hgr => .run _ _ _ _ _ rfl hN hgr (he ▸ y_slice_h_sl rfl hx hhi hT hI hn hj) h⟩
end
end Go.Proofs.YtiihihgjiklnoaaGreatDoor
