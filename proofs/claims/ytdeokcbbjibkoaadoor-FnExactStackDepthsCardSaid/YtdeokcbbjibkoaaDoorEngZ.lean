/- The abstract walk, part 17: a call that gives back new memory that the caller owns from then on. -/
import Derived.Test.YtdeokcbbjibkoaaDoorEngY
namespace Go.Proofs.YtdeokcbbjibkoaaDoor
open Go Go.RowKit

/-- What lies in new memory alone. -/
inductive NewOk (objs : Objs) : TV → Prop
  | flat (t : TV) (h : t.flat = true) : NewOk objs t
  | nils : NewOk objs .nils
  | ms (s b off len m : Nat) (rows : List (List TV)) (hm : (s, b, TObj.row m rows) ∈ objs) : NewOk objs (.ms s b off len)
  | agg (l : List TV) (h : ∀ t ∈ l, NewOk objs t) : NewOk objs (.agg l)
  | tup (l : List TV) (h : ∀ t ∈ l, NewOk objs t) : NewOk objs (.tup l)
def ObjNew (objs : Objs) : TObj → Prop
  | .row _ rows => ∀ t ∈ rows.flatten, NewOk objs t
  | .box cells => ∀ t ∈ cells, NewOk objs t
  | .void => False
def voids (objs : Objs) : Objs := objs.map fun x => (x.1, 0, TObj.void)
theorem mem_voids {objs : Objs} {x : Nat × Nat × TObj} (h : x ∈ voids objs) : ∃ y ∈ objs, x = (y.1, 0, TObj.void) := by
  obtain ⟨y, hy, rfl⟩ := List.mem_map.1 h
  exact ⟨y, hy, rfl⟩
theorem voids_sites {objs : Objs} (h : List.Pairwise SiteRel objs) : List.Pairwise SiteRel (voids objs) := by
  unfold voids
  rw [List.pairwise_map]
  exact h.imp fun h => ⟨h.1, .inr rfl⟩
section
variable {P : Program} {w0 : World} {N : Nat} {Q : Exit → Act → World → Prop} {env : Env} {objs objs' : Objs} {o : Oper}
theorem step_voids (w : World) (l : Objs) : Step w [] w (voids l) :=
  ⟨fun _ _ _ => rfl, fun b _ ha => by
    obtain ⟨h0, s, o, hm⟩ := ha
    obtain ⟨y, _, he⟩ := mem_voids hm
    simp only [Prod.mk.injEq] at he
    exact absurd he.2.1 h0, fun s b m rows _ hb hm => by
    obtain ⟨y, _, he⟩ := mem_voids hm
    simp only [Prod.mk.injEq] at he
    exact absurd he.2.1 hb, Nat.le_refl _, fun hk => by
    obtain ⟨y, _, he⟩ := mem_voids hk
    simp [marker] at he⟩
theorem simW_voids {w : World} (hw : SimW w0 objs w) : SimW w (voids objs) w :=
  ⟨Below.refl _ _, Nat.lt_of_lt_of_le hw.pos hw.below.size, fun s b o hm => by
    obtain ⟨y, _, he⟩ := mem_voids hm
    simp only [Prod.mk.injEq] at he
    obtain ⟨rfl, rfl, rfl⟩ := he
    rfl, voids_sites hw.sites⟩

theorem flat_any {w : World} {objs objs' : Objs} {t : TV} {v : Value} (hf : t.flat = true) (h : Rep w objs t v) : Rep w objs' t v := by
  cases h with
  | int k n => exact .int k n
  | bool b => exact .bool b
  | str s => exact .str s
  | nilp => exact .nilp
  | _ => cases hf
/-- A block of what is new is new. -/
theorem new_block {w w' : World} {O : Objs} (hD : SimW w (O ++ voids objs) w') (hO : ∀ s b o, (s, b, o) ∈ O → ObjNew O o) {s b : Nat} {o : TObj} (hm : (s, b, o) ∈ O) : b = 0 ∨ w.heap.size ≤ b := by
  have h1 := hD.obj s b o (List.mem_append_left _ hm)
  have h2 := hO s b o hm
  cases o with
  | row m rows => exact h1.2.2.imp (fun h => h.1) (fun h => h.1)
  | box cells => exact .inr h1.1.1
  | void => exact absurd h2 id
theorem new_rep {w w' : World} {O : Objs} (hw : SimW w0 objs w) (hD : SimW w (O ++ voids objs) w') (hO : ∀ s b o, (s, b, o) ∈ O → ObjNew O o) {t : TV} {v : Value} (hn : NewOk O t) (h : Rep w' (O ++ voids objs) t v) : Rep w' (O ++ objs) t v := by
  induction hn generalizing v with
  | flat t hf => exact flat_any hf h
  | nils => cases h; exact .nils
  | ms s b off len m rows hm =>
    cases h with
    | ms _ _ _ _ _ h =>
      obtain ⟨⟨h1, h2, h3⟩, h4, h5⟩ := h
      refine .ms _ _ _ _ _ ⟨⟨h1, fun hk => ?_, h3⟩, h4, fun m' rows' hb hm' => ?_⟩
      · rcases List.mem_append.1 hk with hk | hk
        · exact h2 (List.mem_append_left _ hk)
        · exact hw.noMark hk
      · rcases List.mem_append.1 hm' with hm' | hm'
        · exact h5 m' rows' hb (List.mem_append_left _ hm')
        · have := objs_lt hw hm'
          rcases new_block hD hO hm with e | e
          · exact absurd e hb
          · omega
  | agg l hl ih =>
    cases h with
    | agg l vs hi h1 h2 => exact .agg l vs hi h1 fun i t v ht hv => ih t (List.mem_of_getElem? ht) (h2 i t v ht hv)
  | tup l hl ih =>
    cases h with
    | tup l vs h1 h2 => exact .tup l vs h1 fun i t v ht hv => ih t (List.mem_of_getElem? ht) (h2 i t v ht hv)
theorem new_step {w w' : World} {O : Objs} (hw : SimW w0 objs w) (hD : SimW w (O ++ voids objs) w') (hO : ∀ s b o, (s, b, o) ∈ O → ObjNew O o) : Step w objs w' (O ++ objs) :=
  ⟨fun b hb _ => hD.below.block b hb, fun b hb ha => by
    obtain ⟨h0, s, o, hm⟩ := ha
    rcases List.mem_append.1 hm with hm | hm
    · rcases new_block hD hO hm with e | e
      · exact absurd e h0
      · omega
    · exact ⟨h0, s, o, hm⟩, fun s b m rows hb h0 hm => by
    rcases List.mem_append.1 hm with hm | hm
    · rcases new_block hD hO hm with e | e
      · exact absurd e h0
      · omega
    · exact ⟨⟨rows, hm⟩, shape_same (hD.below.block b hb)⟩, hD.below.size, fun hk => by
    rcases List.mem_append.1 hk with hk | hk
    · exact absurd (List.mem_append_left _ hk) hD.noMark
    · exact hk⟩
theorem new_simW {w w' : World} {O : Objs} (hw : SimW w0 objs w) (hD : SimW w (O ++ voids objs) w') (hO : ∀ s b o, (s, b, o) ∈ O → ObjNew O o) : SimW w0 (O ++ objs) w' := by
  have hst := new_step hw hD hO
  have hle := hw.below.size
  refine ⟨hw.below.trans (hD.below.mono hle), hw.pos, fun s b o hm => ?_, ?_⟩
  · rcases List.mem_append.1 hm with hm | hm
    · have h1 := hD.obj s b o (List.mem_append_left _ hm)
      have h2 := hO s b o hm
      cases o with
      | row m rows =>
        refine ⟨h1.1, h1.2.1, h1.2.2.imp id fun ⟨g1, cur, e, cap, g2, g3, g4, g5, g6⟩ => ⟨Nat.le_trans hle g1, cur, e, cap, g2, g3, g4, g5, fun j t hj => ?_⟩⟩
        obtain ⟨v, g7, g8⟩ := g6 j t hj
        exact ⟨v, g7, new_rep hw hD hO (h2 t (List.mem_of_getElem? hj)) g8⟩
      | box cells =>
        obtain ⟨⟨g1, g0⟩, cur, e, g2, g3, g6⟩ := h1
        refine ⟨⟨Nat.le_trans hle g1, g0⟩, cur, e, g2, g3, fun j t hj => ?_⟩
        obtain ⟨v, g7, g8⟩ := g6 j t hj
        exact ⟨v, g7, new_rep hw hD hO (h2 t (List.mem_of_getElem? hj)) g8⟩
      | void => exact absurd h2 id
    · exact (hw.obj s b o hm).step hst (hD.below.block b (objs_lt hw hm))
  · obtain ⟨p1, _, p3⟩ := List.pairwise_append.1 hD.sites
    refine List.pairwise_append.2 ⟨p1, hw.sites, fun x hx y hy => ?_⟩
    refine ⟨(p3 x hx (y.1, 0, .void) (List.mem_map.2 ⟨y, hy, rfl⟩)).1, ?_⟩
    rcases new_block hD hO (s := x.1) (b := x.2.1) (o := x.2.2) hx with e | e
    · exact .inr e
    · have := objs_lt (s := y.1) (b := y.2.1) (ob := y.2.2) hw hy
      exact .inl (by omega)
/-- A call that gives back new memory: the arguments are only looked at. -/
theorem ao_callO {G : World → Prop} {ops : Array Oper} {rest : List Oper} {f : Nat} {xs : List Operand} {ts : Array TypeId} {args : List TV} {Y : Type} {I : Y → Prop} {O : Y → Objs} {r : Y → TV} (ho : o.op = .call { callee := .value (.func f), args := xs.toArray, argTypes := ts }) (hc : callB P f = true) (hargs : Args env objs xs args)
    (hct : CtM P G f args [] I O r) (hG : G w0) (hst : Stable G) (hnew : ∀ y, I y → (∀ s b o, (s, b, o) ∈ O y → ObjNew (O y) o) ∧ NewOk (O y) (r y)) (h : ∀ y, I y → ∀ v w' a, Sim w0 N env (O y ++ objs) a w' → Rep w' (O y ++ objs) (r y) v → wpList P ops Q rest (a.put o.dst v) w') : AO P w0 N ops Q o rest env objs := ⟨fun a w K hs hK => by
  obtain ⟨h1, h2⟩ := args_rep hs.mem (a := a) hargs (fun x _ v hv => ev_sim hs hv)
  unfold Oper.wp
  rw [exec_call ho hc]
  have hw := simW_voids hs.mem
  refine (hct w w (voids objs) [] (xs.map a.eval).toArray (hst.below _ _ hG hs.mem.below) (by simpa using hw) (.gh _ _ (by simp)) (by simpa using h1) (fun i t v ht hv => ?_)).mono ?_
  · exact (h2 i t v ht (by simpa using hv)).step (by simpa using step_voids w objs)
  · rintro e w' ⟨v, y, rfl, hI, hw', _, hr⟩
    obtain ⟨n1, n2⟩ := hnew y hI
    have hst' := new_step hs.mem hw' n1
    exact hK _ _ (h y hI v w' a ⟨hs.defers, hs.size, new_simW hs.mem hw' n1, fun t u hu => (hs.env t u hu).step hst'⟩ (new_rep hs.mem hw' n1 n2 hr))⟩
theorem o_callO {G : World → Prop} {ops : Array Oper} {rest : List Oper} {d T0 : Nat} {pos : String} {af : Array Edge} {g : Option (Nat × Bool)} {f : Nat} {xs : List Operand} {ts : Array TypeId} {args : List TV} {Y : Type} {I : Y → Prop} {O : Y → Objs} {r : Y → TV} (hN : Nat.blt d N = true) (hc : callB P f = true) (hargs : Args env objs xs args)
    (hG : G w0) (hst : Stable G) (hct : CtM P G f args [] I O r) (hnew : ∀ y, I y → (∀ s b o, (s, b, o) ∈ O y → ObjNew (O y) o) ∧ NewOk (O y) (r y)) (h : ∀ y, I y → AL P w0 N ops Q rest ((d, r y) :: env) (O y ++ objs)) : AO P w0 N ops Q ⟨some d, .call { callee := .value (.func f), args := xs.toArray, argTypes := ts }, T0, pos, af, g⟩ rest env objs :=
  ao_callO rfl hc hargs hct hG hst hnew fun y hI v w' a hs hr => (h y hI).run _ _ (sim_put hs hN hr)
theorem o_callV {G : World → Prop} {ops : Array Oper} {rest : List Oper} {d T0 : Nat} {pos : String} {af : Array Edge} {g : Option (Nat × Bool)} {f : Nat} {xs : List Operand} {ts : Array TypeId} {args : List TV} {r : Nat → TV} (hN : Nat.blt d N = true) (hc : callB P f = true) (hG : G w0) (hst : Stable G) (hct : Ct P G f args r) (hargs : Args env objs xs args)
    (h : AL P w0 N ops Q rest ((d, r w0.heap.size) :: env) objs) : AO P w0 N ops Q ⟨some d, .call { callee := .value (.func f), args := xs.toArray, argTypes := ts }, T0, pos, af, g⟩ rest env objs := ao_q rfl hN (y_call rfl hc hargs hct hG hst) h
theorem o_callOV {G : World → Prop} {ops : Array Oper} {rest : List Oper} {d T0 : Nat} {pos : String} {af : Array Edge} {g : Option (Nat × Bool)} {f : Nat} {xs : List Operand} {ts : Array TypeId} {args : List TV} {Y : Type} {I : Y → Prop} {O : Y → Objs} {r : Y → TV} (hN : Nat.blt d N = true) (hc : callB P f = true)
    (hG : G w0) (hst : Stable G) (hct : CtM P G f args [] I O r) (hargs : Args env objs xs args) (hnew : ∀ y, I y → (∀ s b o, (s, b, o) ∈ O y → ObjNew (O y) o) ∧ NewOk (O y) (r y)) (h : ∀ y, I y → AL P w0 N ops Q rest ((d, r y) :: env) (O y ++ objs)) : AO P w0 N ops Q ⟨some d, .call { callee := .value (.func f), args := xs.toArray, argTypes := ts }, T0, pos, af, g⟩ rest env objs :=
  ao_callO rfl hc hargs hct hG hst hnew fun y hI v w' a hs hr => (h y hI).run _ _ (sim_put hs hN hr)
theorem d_callV {G : World → Prop} {K : Env → Prop} {ops : Array Oper} {rest : List Oper} {d T0 : Nat} {pos : String} {af : Array Edge} {g : Option (Nat × Bool)} {f : Nat} {xs : List Operand} {ts : Array TypeId} {args : List TV} {r : Nat → TV} (hN : Nat.blt d N = true) (hc : callB P f = true) (hG : G w0) (hst : Stable G) (hct : Ct P G f args r) (hargs : Args env objs xs args)
    (h : DR P w0 N ops objs K rest ((d, r w0.heap.size) :: env)) : DO P w0 N ops objs K ⟨some d, .call { callee := .value (.func f), args := xs.toArray, argTypes := ts }, T0, pos, af, g⟩ rest env := ⟨fun hgr => .run _ _ _ _ _ rfl hN hgr (y_call rfl hc hargs hct hG hst) h⟩
theorem View.msAll {s b len m : Nat} {rows : List (List TV)} (hm : (s, b, TObj.row m rows) ∈ objs) (hl : rows.length = len) : View objs (.ms s b 0 len) (.sl 0 m rows) := by
  subst hl
  exact .msSame hm (by omega) (by simp)
theorem flat_new {objs : Objs} {rows : List (List TV)} (h : ∀ t ∈ rows.flatten, t.flat = true) : ∀ t ∈ rows.flatten, NewOk objs t := fun t ht => .flat t (h t ht)

/-- A contract with new memory as a contract whose results nobody writes. -/
theorem ct_of_ctm {G : World → Prop} {f : FuncId} {args : List TV} {Y : Type} {I : Y → Prop} {O : Y → Objs} {r : Y → TV} {r' : Nat → TV} (hct : CtM P G f args [] I O r) (hf : ∀ y, I y → ∀ B L, Fin B (O y) L (r y) (r' L)) : Ct P G f args r' := fun w vs hpos hG hsz hrep => by
  have hw : SimW w [] w := ⟨Below.refl _ _, hpos, by simp, .nil⟩
  refine (hct w w [] [] vs hG (by simpa using hw) (.gh _ _ (by simp)) hsz (by simpa using hrep)).mono ?_
  rintro e w' ⟨v, y, rfl, hI, hw', _, hr⟩
  rw [List.append_nil] at hw' hr
  exact ⟨v, rfl, hw'.below, fun L hL => fin_rep hw' hL (hf y hI _ L) hr⟩
end
end Go.Proofs.YtdeokcbbjibkoaaDoor
