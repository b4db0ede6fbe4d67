/- Part 9 of the proof: the texts EngD, EngE. -/
import Derived.Test.YtiihihgjiklnoaaGreatDoorPart8
import Derived.Great.BuildSlice
import Derived.Deep.AppendLies
/- The abstract walk, part 4: what makes memory and what writes it. -/
namespace Go.Proofs.YtiihihgjiklnoaaGreatDoor
open Go Go.RowKit

/-- A site that is not taken. -/
theorem site_new (objs : Objs) : ∃ d, ∀ x ∈ objs, x.1 ≠ d := by
  have : ∃ d, ∀ x ∈ objs, x.1 < d := by
    induction objs with
    | nil => exact ⟨0, by simp⟩
    | cons y l ih =>
      obtain ⟨d, hd⟩ := ih
      refine ⟨d + y.1 + 1, fun x hx => ?_⟩
      rcases List.mem_cons.1 hx with rfl | hx
      · omega
      · have := hd x hx; omega
  obtain ⟨d, hd⟩ := this
  exact ⟨d, fun x hx => by have := hd x hx; omega⟩

section
variable {P : Program} {w0 : World} {N : Nat} {Q : Exit → Act → World → Prop} {env : Env} {objs : Objs} {o : Oper}

theorem step_refl (w : World) (objs : Objs) : Step w objs w objs := ⟨fun _ _ _ => rfl, fun _ _ h => h, fun _ _ _ rows _ _ h => ⟨⟨rows, h⟩, rfl⟩, Nat.le_refl _, id⟩
theorem shape_same {w w' : World} {b : Nat} (h : w'.heap[b]? = w.heap[b]?) : w'.shape? b = w.shape? b := by unfold World.shape?; rw [h]
theorem step_grow {w w' : World} (objs : Objs) (hsz : w.heap.size ≤ w'.heap.size) (hb : ∀ b, b < w.heap.size → w'.heap[b]? = w.heap[b]?) : Step w objs w' objs :=
  ⟨fun b h _ => hb b h, fun _ _ h => h, fun _ _ _ rows h _ hm => ⟨⟨rows, hm⟩, shape_same (hb _ h)⟩, hsz, id⟩
theorem objs_lt {w : World} (hw : SimW w0 objs w) {s b : Nat} {ob : TObj} (hm : (s, b, ob) ∈ objs) : b < w.heap.size := by
  have hpos : 0 < w.heap.size := Nat.lt_of_lt_of_le hw.pos hw.below.size
  cases ob with
  | void => rw [show b = 0 from hw.obj s b _ hm]; exact hpos
  | iter x pos => exact (Array.getElem?_eq_some_iff.1 (hw.obj s b _ hm).2).1
  | row m rows =>
    rcases (hw.obj s b _ hm).2.2 with ⟨h, _⟩ | ⟨_, cur, e, cap, h, _⟩
    · omega
    · exact (Array.getElem?_eq_some_iff.1 h).1
  | box cells =>
    obtain ⟨_, cur, e, h, _⟩ := hw.obj s b _ hm
    exact (Array.getElem?_eq_some_iff.1 h).1
theorem SimW.grow {w w' : World} (hw : SimW w0 objs w) (hb : Below w0.heap.size w0 w') (hsz : w.heap.size ≤ w'.heap.size) (hk : ∀ b, b < w.heap.size → w'.heap[b]? = w.heap[b]?) : SimW w0 objs w' :=
  ⟨hb, hw.pos, fun s b ob hm => (hw.obj s b ob hm).step (step_grow objs hsz hk) (hk b (objs_lt hw hm)), hw.sites⟩
theorem SimW.alloc {w : World} (hw : SimW w0 objs w) (ob : Obj) : SimW w0 objs (w.alloc ob) ∧ Step w objs (w.alloc ob) objs :=
  have hk : ∀ b, b < w.heap.size → (w.alloc ob).heap[b]? = w.heap[b]? := fun b hb => Below.heap_alloc w ob b hb
  ⟨hw.grow (hw.below.alloc hw.below.size ob) (by simp) hk, step_grow objs (by simp) hk⟩

/-- A new block that the call owns. -/
theorem step_new {w : World} (hw : SimW w0 objs w) (cs : Array Value) (e : TypeId) (d : Nat) (ob : TObj) : Step w objs (w.alloc (.cells cs e)) ((d, w.heap.size, ob) :: objs) := by
  have hk : ∀ b, b < w.heap.size → (w.alloc (.cells cs e)).heap[b]? = w.heap[b]? := fun b hb => Below.heap_alloc w _ b hb
  have hpos : 0 < w.heap.size := Nat.lt_of_lt_of_le hw.pos hw.below.size
  refine ⟨fun b h _ => hk b h, fun b h ha => ⟨ha.1, ?_⟩, fun s b m rows h _ hm => ?_, by simp, fun hm => ?_⟩
  · obtain ⟨s, o, hm⟩ := ha.2
    rcases List.mem_cons.1 hm with he | hm
    · simp only [Prod.mk.injEq] at he; omega
    · exact ⟨s, o, hm⟩
  · rcases List.mem_cons.1 hm with he | hm
    · simp only [Prod.mk.injEq] at he; omega
    · exact ⟨⟨rows, hm⟩, shape_same (hk b h)⟩
  · rcases List.mem_cons.1 hm with he | hm
    · simp only [marker, Prod.mk.injEq] at he; omega
    · exact hm
theorem noMark_new {w : World} (hw : SimW w0 objs w) (cs : Array Value) (e : TypeId) (d : Nat) (ob : TObj) : marker ∉ (d, w.heap.size, ob) :: objs := fun hm => hw.noMark ((step_new hw cs e d ob).mark hm)
theorem SimW.newObj {w : World} (hw : SimW w0 objs w) {cs : Array Value} {e : TypeId} {d : Nat} {ob : TObj} (hd : ∀ x ∈ objs, x.1 ≠ d)
    (ho : ObjOk (w.alloc (.cells cs e)) w0.heap.size ((d, w.heap.size, ob) :: objs) w.heap.size ob) : SimW w0 ((d, w.heap.size, ob) :: objs) (w.alloc (.cells cs e)) :=
  ⟨hw.below.alloc hw.below.size _, hw.pos, fun s b o hm => by
    rcases List.mem_cons.1 hm with he | hm
    · simp only [Prod.mk.injEq] at he; obtain ⟨rfl, rfl, rfl⟩ := he; exact ho
    · exact (hw.obj s b o hm).step (step_new hw cs e d ob) (Below.heap_alloc w _ b (objs_lt hw hm)),
  List.pairwise_cons.2 ⟨fun y hy => ⟨fun e => hd y hy e.symm, .inl (Nat.ne_of_gt (objs_lt (s := y.1) (ob := y.2.2) hw hy))⟩, hw.sites⟩⟩

theorem Sim.putNew {a : Act} {w w' : World} {objs' : Objs} (hs : Sim w0 N env objs a w) {d : Nat} (hd : Nat.blt d N = true) {tv : TV} {v : Value} (hr : Rep w' objs' tv v) (hw : SimW w0 objs' w') (hst : Step w objs w' objs') : Sim w0 N ((d, tv) :: env) objs' (a.put (some d) v) w' := by
  have hlt : d < a.tmps.size := by rw [hs.size]; exact Nat.blt_eq ▸ hd
  refine ⟨hs.defers, by simp [Act.put, hs.size], hw, fun t u hu => ?_⟩
  rw [lk_cons] at hu
  show Rep w' objs' u ((a.tmps.setIfInBounds d v).getD t undef)
  rw [getD_set hlt]
  split at hu
  · rename_i e; subst e; simp only [Option.some.injEq] at hu; subst hu; simp only [if_true]; exact hr
  · rename_i e; rw [if_neg e]; exact (hs.env t u hu).step hst
theorem Sim.same {a : Act} {w w' : World} {objs' : Objs} (hs : Sim w0 N env objs a w) (hw : SimW w0 objs' w') (hst : Step w objs w' objs') : Sim w0 N env objs' a w' :=
  ⟨hs.defers, hs.size, hw, fun t u hu => (hs.env t u hu).step hst⟩

/-- The cells of a value. -/
def tvCells : TV → Option (List TV)
  | .agg l => some l
  | .tup _ => none
  | .top => none
  | .gh _ => none
  | t => some [t]
theorem Rep.one {w : World} {tv : TV} {v : Value} (h : Rep w objs tv v) (hi : tv.isCell = true) : v.oneCell' = true ∧ v.cells = #[v] := by
  cases h with
  | agg => cases hi
  | tup => cases hi
  | top => cases hi
  | gh => cases hi
  | ms s b off len v h => obtain ⟨⟨_, _, A, c, rfl⟩, _⟩ := h; exact ⟨rfl, rfl⟩
  | _ => exact ⟨rfl, rfl⟩
theorem rep_cells {w : World} {tv : TV} {v : Value} {l : List TV} (h : Rep w objs tv v) (hl : tvCells tv = some l) : v.cells.size = l.length ∧ (∀ (i : Nat) (t : TV) (u : Value), l[i]? = some t → v.cells[i]? = some u → Rep w objs t u) ∧ ∀ t ∈ l, t.isCell = true := by
  by_cases hc : tv.isCell = true
  · have hl' : l = [tv] := by cases tv <;> first | (cases hc; done) | (simp only [tvCells, Option.some.injEq] at hl; exact hl.symm)
    subst hl'
    obtain ⟨_, h2⟩ := h.one hc
    rw [h2]
    refine ⟨rfl, fun i t' u hi hu => ?_, by simpa using hc⟩
    cases i with
    | zero => simp at hi hu; subst hi; subst hu; exact h
    | succ i => simp at hi
  · cases h with
    | agg l' vs hi h1 h2 => simp only [tvCells, Option.some.injEq] at hl; subst hl; exact ⟨h1.symm, h2, hi⟩
    | tup => cases hl
    | top => cases hl
    | gh => cases hl
    | _ => exact absurd rfl hc
/-- A variable's zero value. -/
def zeroOk (P : Program) (T : Nat) : Option (List TV) := (P.info? T).bind fun i => i.zero.bind fun z => tvL z.cells.toList
theorem zero_spec {T : Nat} {l : List TV} (h : zeroOk P T = some l) (w : World) : ∃ z, (zeroValue T).run P w = .ok z w ∧ (z.cells.size = l.length ∧ ∀ t ∈ l, t.isCell = true) ∧ ∀ (w : World) (objs : Objs) (i : Nat) (t : TV) (u : Value), l[i]? = some t → z.cells[i]? = some u → Rep w objs t u := by
  unfold zeroOk at h
  cases hi : P.info? T with
  | none => rw [hi] at h; cases h
  | some i =>
    rw [hi] at h
    simp only [Option.bind_some] at h
    cases hz : i.zero with
    | none => rw [hz] at h; cases h
    | some z =>
      rw [hz] at h
      simp only [Option.bind_some] at h
      refine ⟨z, by simp [zeroValue, Sem.run_bind, run_typeInfo w hi, hz, Sem.run_pure], by have := (tvL_rep (w := w) (objs := []) h).1; exact ⟨by simpa using this.1.symm, this.2⟩, fun w objs i t u ht hu => (tvL_rep (w := w) (objs := objs) h).2 i t u ht (by simpa using hu)⟩

theorem ao_alloc {ops : Array Oper} {rest : List Oper} {d : Nat} {T : TypeId} {zs : List TV} (ho : o.op = .alloc T) (hd : o.dst = some d) (hN : Nat.blt d N = true) (hz : zeroOk P T = some zs)
    (h : ∀ ss b, AL P w0 N ops Q rest ((d, .mp ss b 0) :: env) ((ss, b, .box zs) :: objs)) : AO P w0 N ops Q o rest env objs := ⟨fun a w K hs hK => by
    obtain ⟨ss, hf⟩ := site_new objs
    obtain ⟨z, h1, h2, h3⟩ := zero_spec hz w
    have hst := step_new hs.mem z.cells T ss (.box zs)
    have hrun : (execOp a.eval o).run P w = .ok (.value (.pointer (some ⟨w.heap.size, 0, none⟩))) (w.alloc (.cells z.cells T)) := by
      simp only [execOp, ho]
      refine exec_v ?_
      simp [Instr.alloc, Sem.run_bind, h1, newVar, newRow]
    unfold Oper.wp
    rw [hrun]
    refine hK _ _ ?_
    rw [hd]
    refine (h ss w.heap.size).run _ _ (hs.putNew hN (.mp ss _ 0 ⟨by simp, noMark_new hs.mem #[] 0 ss _⟩) (hs.mem.newObj hf ⟨⟨hs.mem.below.size, h2.2⟩, z.cells, T, heap_alloc_new w _, h2.1, fun j t hj => ?_⟩) hst)
    have hlt : j < z.cells.size := by rw [h2.1]; exact (List.getElem?_eq_some_iff.1 hj).1
    exact ⟨z.cells[j], by simp [hlt], h3 _ _ j t _ hj (by simp [hlt])⟩⟩

theorem run_box {T : TypeId} {x : Operand} (ho : o.op = .box T x) (a : Act) (w : World) : (execOp a.eval o).run P w = .ok (.value (.pointer (some ⟨w.heap.size, 0, none⟩))) (w.alloc (.cells (a.eval x).cells T)) := by
  simp only [execOp, ho]
  refine exec_v ?_
  simp [Instr.box, newVar, newRow]
/-- A variable that is never written again. -/
theorem y_box {T : TypeId} {x : Operand} {tv : TV} {l : List TV} (ho : o.op = .box T x) (hx : ev env x = some tv) (hl : tvCells tv = some l) : Yields P w0 env objs o (.cp w0.heap.size l) := fun a w K Q hw hop hK => by
  have h0 := hop x (by simp [ho, Op.operands]) _ hx
  obtain ⟨h1, h2⟩ := hw.alloc (.cells (a.eval x).cells T)
  obtain ⟨g1, g2, g3⟩ := rep_cells (h0.step h2) hl
  unfold Oper.wp
  rw [run_box ho]
  refine hK _ _ (.cp w0.heap.size l g3 w.heap.size 0 (fun j => (a.eval x).cells.getD j undef) ⟨hw.below.size, fun ha => ?_⟩ (by simp) (fun j t hj => ?_) (fun j t hj => ?_)) h1 h2
  · obtain ⟨_, s, ob, hm⟩ := ha
    exact Nat.lt_irrefl _ (objs_lt hw hm)
  · have hlt : j < (a.eval x).cells.size := by rw [g1]; exact (List.getElem?_eq_some_iff.1 hj).1
    rw [Nat.zero_add, World.cell?_alloc_new]; simp [hlt]
  · have hlt : j < (a.eval x).cells.size := by rw [g1]; exact (List.getElem?_eq_some_iff.1 hj).1
    exact g2 j t _ hj (by simp [hlt])
/- A slice written out. -/
def evL (env : Env) : List (Nat × Operand) → Nat → Option (List (List TV))
  | [], _ => some []
  | (i, x) :: r, n => bif Nat.beq i n then (match (ev env x).bind tvCells, evL env r (n + 1) with
    | some l, some ls => some (l :: ls)
    | _, _ => none) else none
theorem evL_spec {w : World} (a : Act) : ∀ {ps : List (Nat × Operand)} {n : Nat} {rows : List (List TV)}, evL env ps n = some rows → (∀ p ∈ ps, ∀ v, ev env p.2 = some v → Rep w objs v (a.eval p.2)) →
    (ps.map fun p => (p.1, a.eval p.2)) = (((ps.map fun p => a.eval p.2)).zipIdx n).map (fun x => (x.2, x.1)) ∧ (rows.length = ps.length ∧ ∀ t ∈ rows.flatten, t.isCell = true) ∧
      ∀ (k : Nat) (r : List TV), rows[k]? = some r → ∃ v, (ps.map fun p => a.eval p.2)[k]? = some v ∧ v.cells.size = r.length ∧ ∀ (i : Nat) (t : TV) (u : Value), r[i]? = some t → v.cells[i]? = some u → Rep w objs t u
  | [], n, rows, h, _ => by simp only [evL, Option.some.injEq] at h; subst h; simp
  | (i, x) :: ps, n, rows, h, hop => by
    unfold evL at h
    cases hb : Nat.beq i n with
    | false => rw [hb] at h; cases h
    | true =>
      rw [hb] at h
      have hi : i = n := Nat.eq_of_beq_eq_true hb
      simp only [cond_true] at h
      split at h
      · rename_i l ls h1 h2
        simp only [Option.some.injEq] at h
        subst h; subst hi
        obtain ⟨e1, e2, e3⟩ := evL_spec a h2 (fun p hp => hop p (by simp [hp]))
        obtain ⟨tv, h3, h4⟩ := Option.bind_eq_some_iff.1 h1
        obtain ⟨g1, g2, g3⟩ := rep_cells (hop (i, x) (by simp) tv h3) h4
        refine ⟨by simp only [List.map_cons, List.zipIdx_cons]; rw [e1], ⟨by simp [e2.1], fun t ht => by
          rw [List.flatten_cons, List.mem_append] at ht
          rcases ht with ht | ht
          · exact g3 t ht
          · exact e2.2 t ht⟩, fun k r hk => ?_⟩
        cases k with
        | zero => simp at hk; subst hk; exact ⟨a.eval x, by simp, g1, g2⟩
        | succ k => simpa using e3 k r (by simpa using hk)
      · cases h

theorem run_lit {T : TypeId} {n m : Nat} {ps : List (Nat × Operand)} {rows : List (List TV)} (ho : o.op = .buildSlice T n ps.toArray) (hT : P.underlying T = some (.slice (P.elem T))) (hI : (zeroOk P (P.elem T)).isSome = true) (hm : P.cellsOf (P.elem T) = m) (hm0 : Nat.blt 0 m = true)
    (hn : rows.length = n) (hbig : Nat.ble (n * m) 16777216 = true) {w : World} (a : Act) (hev : evL env ps 0 = some rows) (hall : ∀ r ∈ rows, r.length = m) (hop : ∀ p ∈ ps, ∀ v, ev env p.2 = some v → Rep w objs v (a.eval p.2)) :
    ∃ cs : Array Value, (execOp a.eval o).run P w = .ok (.value (.slice (some ⟨w.heap.size, 0, none⟩) n n)) (w.alloc (.cells cs (P.elem T))) ∧ (cs.size = n * m ∧ ∀ t ∈ rows.flatten, t.isCell = true) ∧ ∀ (j : Nat) (t : TV), rows.flatten[j]? = some t → ∃ v, cs[j]? = some v ∧ Rep w objs t v := by
  have hm0 : 0 < m := Nat.blt_eq ▸ hm0
  have hbig := Nat.le_of_ble_eq_true hbig
  obtain ⟨e1, e2, e3⟩ := evL_spec a hev hop
  obtain ⟨zs, hz⟩ := Option.isSome_iff_exists.1 hI
  obtain ⟨z, hz1, _, _⟩ := zero_spec hz w
  unfold zeroOk at hz
  cases hie : P.info? (P.elem T) with
  | none => rw [hie] at hz; cases hz
  | some ie =>
  rw [hie] at hz
  simp only [Option.bind_some] at hz
  cases hzz : ie.zero with
  | none => rw [hzz] at hz; cases hz
  | some zv =>
  have hsz : ie.size = m := by rw [← hm]; simp [Program.cellsOf, hie]
  have hlen : ps.length = n := by rw [← e2.1]; exact hn
  have hvs : ∀ v ∈ (ps.map fun p => a.eval p.2), v.cells.size = m := fun v hv => by
    obtain ⟨k, hk, rfl⟩ := List.getElem_of_mem hv
    have hk' : k < rows.length := by rw [e2.1]; simpa using hk
    obtain ⟨v, h1, h2, _⟩ := e3 k rows[k] (List.getElem?_eq_getElem hk')
    rw [List.getElem?_eq_getElem hk] at h1
    simp only [Option.some.injEq] at h1
    rw [h1, h2]
    exact hall _ (List.getElem_mem hk')
  by_cases hn0 : n = 0
  · subst hn0
    have hps : ps = [] := List.eq_nil_of_length_eq_zero hlen
    subst hps
    have hr0 : rows = [] := List.eq_nil_of_length_eq_zero hn
    subst hr0
    refine ⟨(Array.range 0).map fun _ => default, ?_, by simp, by simp⟩
    simp only [execOp, ho]
    refine exec_v ?_
    simp [Instr.buildSlice, Sem.run_bind, run_underlying hT, run_sizeOf w hie, Instr.fill, newRow]
  · have hpos : ¬ n * m = 0 := by
      intro h; rcases Nat.mul_eq_zero.1 h with h | h <;> omega
    obtain ⟨cs, h1, h2, h3⟩ := Great.fill_dense (s := m) hm0 (ps.map fun p => a.eval p.2) 0 ((Array.range (n * m)).map (zv.cells[· % zv.cells.size]!)) hvs (by simp [hlen])
    refine ⟨cs, ?_, ⟨by rw [h2]; simp, e2.2⟩, fun j t hj => ?_⟩
    · simp only [execOp, ho]
      refine exec_v ?_
      refine run_buildSlice w T _ n _ cs ie zv hT hie hzz (by rw [hsz]; omega) (by rw [hsz]; exact hpos) ?_
      rw [hsz]
      simp only [List.map_toArray]
      show Instr.fill _ _ (ps.map fun p => (p.1, a.eval p.2)) = _
      rw [e1]; exact h1
    · have hjl : j < rows.length * m := by rw [← length_flatten hall]; exact (List.getElem?_eq_some_iff.1 hj).1
      have hq : j / m < rows.length := Nat.div_lt_of_lt_mul (by rw [Nat.mul_comm]; exact hjl)
      have hr : j % m < m := Nat.mod_lt _ hm0
      have hje : j = (j / m) * m + j % m := by rw [Nat.mul_comm]; exact (Nat.div_add_mod j m).symm
      have h5 := flatten_at hall (List.getElem?_eq_getElem hq) hr
      rw [← hje, hj] at h5
      obtain ⟨v, g1, g2, g3⟩ := e3 _ _ (List.getElem?_eq_getElem hq)
      have h6 := h3 j
      rw [if_pos ⟨by omega, by rw [Nat.zero_add, List.length_map, hlen, ← hn]; exact hjl⟩, Nat.sub_zero, g1, Option.bind_some] at h6
      have hlt : j % m < v.cells.size := by rw [g2, hall _ (List.getElem_mem hq)]; exact hr
      exact ⟨v.cells[j % m], h6.trans (by simp [hlt]), g3 _ t _ h5.symm (by simp [hlt])⟩

theorem lit_opnds {T : TypeId} {n : Nat} {ps : List (Nat × Operand)} (ho : o.op = .buildSlice T n ps.toArray) {p : Nat × Operand} (hp : p ∈ ps) : p.2 ∈ o.op.operands.toList := by
  simp only [ho, Op.operands, List.toList_toArray]; exact List.mem_map.2 ⟨p, hp, rfl⟩
/-- A slice written out that nobody writes again. -/
theorem y_lit {T : TypeId} {n m : Nat} {ps : List (Nat × Operand)} {rows : List (List TV)} (ho : o.op = .buildSlice T n ps.toArray) (hT : P.underlying T = some (.slice (P.elem T))) (hI : (zeroOk P (P.elem T)).isSome = true) (hm : P.cellsOf (P.elem T) = m) (hm0 : Nat.blt 0 m = true)
    (hev : evL env ps 0 = some rows) (hn : rows.length = n) (hbig : Nat.ble (n * m) 16777216 = true) (hall : (rows.all fun r => Nat.beq r.length m) = true) : Yields P w0 env objs o (.sl w0.heap.size m rows) := fun a w K Q hw hop hK => by
  have hm0' : 0 < m := Nat.blt_eq ▸ hm0
  have hall' : ∀ r ∈ rows, r.length = m := fun r hr => Nat.eq_of_beq_eq_true (List.all_eq_true.1 hall r hr)
  obtain ⟨cs, h1, h2, h3⟩ := run_lit ho hT hI hm hm0 hn hbig a hev hall' (fun p hp v hv => hop _ (lit_opnds ho hp) v hv)
  obtain ⟨g1, g2⟩ := hw.alloc (.cells cs (P.elem T))
  unfold Oper.wp
  rw [h1]
  have hnm : n ≤ maxLen := by
    have := Nat.le_of_ble_eq_true hbig
    have h4 : n * 1 ≤ n * m := Nat.mul_le_mul_left _ hm0'
    simp only [maxLen]; omega
  refine hK _ _ ?_ g1 g2
  have hsl := Rep.sl (w := w.alloc (.cells cs (P.elem T))) (objs := objs) w0.heap.size m rows (some ⟨w.heap.size, 0, none⟩) n (by omega) hnm hall' h2.2 (fun j => cs.getD j undef) (fun j t hj => ⟨_, _, rfl, ⟨hw.below.size, fun ha => by
      obtain ⟨_, s, ob, hm⟩ := ha; exact Nat.lt_irrefl _ (objs_lt hw hm)⟩, by
      obtain ⟨v, h4, _⟩ := h3 j t hj
      rw [Nat.zero_add, World.cell?_alloc_new, h4]; simp [Array.getD_eq_getD_getElem?, h4]⟩) (fun j t hj => by
      obtain ⟨v, h4, h5⟩ := h3 j t hj
      simp only [Array.getD_eq_getD_getElem?, h4, Option.getD_some]
      exact h5.step g2)
  rw [hn] at hsl
  exact hsl
/-- A slice written out that the call goes on writing. -/
theorem ao_lit {ops : Array Oper} {rest : List Oper} {d : Nat} {T : TypeId} {n m : Nat} {ps : List (Nat × Operand)} {rows : List (List TV)} (ho : o.op = .buildSlice T n ps.toArray) (hd : o.dst = some d) (hN : Nat.blt d N = true) (hT : P.underlying T = some (.slice (P.elem T))) (hI : (zeroOk P (P.elem T)).isSome = true) (hm : P.cellsOf (P.elem T) = m) (hm0 : Nat.blt 0 m = true)
    (hev : evL env ps 0 = some rows) (hn : rows.length = n) (hbig : Nat.ble (n * m) 16777216 = true) (hall : (rows.all fun r => Nat.beq r.length m) = true)
    (h : ∀ ss b, AL P w0 N ops Q rest ((d, .ms ss b 0 n) :: env) ((ss, b, .row m rows) :: objs)) : AO P w0 N ops Q o rest env objs := ⟨fun a w K hs hK => by
    obtain ⟨ss, hf⟩ := site_new objs
    have hm0' : 0 < m := Nat.blt_eq ▸ hm0
    have hall' : ∀ r ∈ rows, r.length = m := fun r hr => Nat.eq_of_beq_eq_true (List.all_eq_true.1 hall r hr)
    have hst := fun cs => step_new hs.mem cs (P.elem T) ss (.row m rows)
    obtain ⟨cs, h1, h2, h3⟩ := run_lit ho hT hI hm hm0 hn hbig a hev hall' (fun p hp v hv => ev_sim hs hv)
    unfold Oper.wp
    rw [h1]
    refine hK _ _ ?_
    rw [hd]
    have hnm : n ≤ maxLen := by
      have := Nat.le_of_ble_eq_true hbig
      have h4 : n * 1 ≤ n * m := Nat.mul_le_mul_left _ hm0'
      simp only [maxLen]; omega
    have hb0 : w.heap.size ≠ 0 := Nat.ne_of_gt (Nat.lt_of_lt_of_le hs.mem.pos hs.mem.below.size)
    refine (h ss w.heap.size).run _ _ (hs.putNew hN (.ms _ _ _ _ _ (.mk ⟨by simp, noMark_new hs.mem #[] 0 ss _, _, _, rfl⟩ (fun m' rows' hm' => .inr ⟨hb0, 0, n, P.elem T, n * m, rfl, Nat.le_refl _, by unfold World.shape?; rw [heap_alloc_new]; simp [h2.1], ?_, fun _ => by simp⟩) (fun h0 => absurd h0 hb0))) (hs.mem.newObj hf ⟨⟨hm0', h2.2⟩, hall', .inr ⟨hs.mem.below.size, cs, P.elem T, n, heap_alloc_new w _, h2.1, by omega, hnm, fun j t hj => ?_⟩⟩) (hst cs))
    · rcases List.mem_cons.1 hm' with he | hm'
      · simp only [Prod.mk.injEq, TObj.row.injEq] at he; rw [he.2.2.1]; simp
      · exact absurd (objs_lt hs.mem hm') (Nat.lt_irrefl _)
    · obtain ⟨v, h4, h5⟩ := h3 j t hj
      exact ⟨v, h4, h5.step (hst cs)⟩⟩
end
end Go.Proofs.YtiihihgjiklnoaaGreatDoor
/- The abstract walk, part 5: stores, appends, make, what is given back, calls. -/
namespace Go.Proofs.YtiihihgjiklnoaaGreatDoor
open Go Go.RowKit

/-- One of the owned things is replaced by another. -/
inductive Upd (x x' : Nat × Nat × TObj) : Objs → Objs → Prop
  | head (l : Objs) : Upd x x' (x :: l) (x' :: l)
  | tail (y : Nat × Nat × TObj) (l l' : Objs) (h : Upd x x' l l') : Upd x x' (y :: l) (y :: l')
theorem Upd.mem {x x' : Nat × Nat × TObj} {l l' : Objs} (h : Upd x x' l l') : x ∈ l := by
  induction h with
  | head l => exact List.mem_cons_self
  | tail y l l' h ih => exact List.mem_cons_of_mem _ ih
theorem Upd.other {x x' : Nat × Nat × TObj} {l l' : Objs} (h : Upd x x' l l') (hp : List.Pairwise SiteRel l) : ∀ y ∈ l', y = x' ∨ (y ∈ l ∧ y.1 ≠ x.1 ∧ (y.2.1 ≠ x.2.1 ∨ x.2.1 = 0)) := by
  induction h with
  | head l =>
    intro y hy
    rcases List.mem_cons.1 hy with rfl | hy
    · exact .inl rfl
    · obtain ⟨h1, h2⟩ := (List.pairwise_cons.1 hp).1 y hy
      exact .inr ⟨List.mem_cons_of_mem _ hy, h1.symm, h2.imp Ne.symm id⟩
  | tail z l l' h ih =>
    intro y hy
    rcases List.mem_cons.1 hy with rfl | hy
    · obtain ⟨h1, h2⟩ := (List.pairwise_cons.1 hp).1 x h.mem
      refine .inr ⟨List.mem_cons_self, h1, ?_⟩
      rcases h2 with h2 | h2
      · exact .inl h2
      · by_cases e : y.2.1 = x.2.1
        · exact .inr (e ▸ h2)
        · exact .inl e
    · exact (ih (List.pairwise_cons.1 hp).2 y hy).imp id fun ⟨h1, h2⟩ => ⟨List.mem_cons_of_mem _ h1, h2⟩
theorem Upd.sites {x x' : Nat × Nat × TObj} {l l' : Objs} (h : Upd x x' l l') (hs : x'.1 = x.1) (hp : List.Pairwise SiteRel l) (hb : ∀ y ∈ l, y.1 ≠ x.1 → x'.2.1 ≠ y.2.1 ∨ x'.2.1 = 0) : List.Pairwise SiteRel l' := by
  induction h with
  | head l =>
    obtain ⟨h1, h2⟩ := List.pairwise_cons.1 hp
    exact List.pairwise_cons.2 ⟨fun y hy => ⟨by rw [hs]; exact (h1 y hy).1, hb y (List.mem_cons_of_mem _ hy) (h1 y hy).1.symm⟩, h2⟩
  | tail z l l' h ih =>
    obtain ⟨h1, h2⟩ := List.pairwise_cons.1 hp
    refine List.pairwise_cons.2 ⟨fun y hy => ?_, ih h2 fun y hy => hb y (List.mem_cons_of_mem _ hy)⟩
    rcases h.other h2 y hy with rfl | ⟨hy, _, _⟩
    · have hz := h1 x h.mem
      refine ⟨by rw [hs]; exact hz.1, ?_⟩
      rcases hb z List.mem_cons_self hz.1 with h3 | h3
      · exact .inl h3.symm
      · by_cases e : z.2.1 = 0
        · exact .inr e
        · exact .inl (by rw [h3]; exact e)
    · exact h1 y hy

section
variable {P : Program} {w0 : World} {N : Nat} {Q : Exit → Act → World → Prop} {env : Env} {objs objs' : Objs} {o : Oper}

/-- One owned block has turned, or has been left for a new one. -/
theorem step_upd {w w' : World} (hw : SimW w0 objs w) {s b b' m : Nat} {ob ob' : TObj} (hu : Upd (s, b, ob) (s, b', ob') objs objs') (hsz : w.heap.size ≤ w'.heap.size)
    (hk : ∀ k, k < w.heap.size → k ≠ b ∨ b = 0 → w'.heap[k]? = w.heap[k]?) (hb' : b' = b ∨ w.heap.size ≤ b') (hkind : ∀ rows', ob' = .row m rows' → ∃ rows, ob = .row m rows) (hm : ∀ m' rows', ob' = .row m' rows' → m' = m) (hsh : b' = b → b ≠ 0 → w'.shape? b = w.shape? b) (hmk : marker ≠ (s, b', ob')) : Step w objs w' objs' := by
  have hoth := hu.other hw.sites
  refine ⟨fun k hlt hna => hk k hlt ?_, fun k hlt ha => ?_, fun s1 b1 m1 rows1 hlt hb1 hm1 => ?_, hsz, fun hm => (hoth _ hm).elim (fun e => absurd e hmk) (fun e => e.1)⟩
  · by_cases e : k = b
    · subst e
      by_cases e0 : k = 0
      · exact .inr e0
      · exact absurd ⟨e0, s, ob, hu.mem⟩ hna
    · exact .inl e
  · obtain ⟨h0, s1, o1, h1⟩ := ha
    rcases hoth _ h1 with he | ⟨h2, _⟩
    · simp only [Prod.mk.injEq] at he
      obtain ⟨_, rfl, _⟩ := he
      rcases hb' with rfl | hb'
      · exact ⟨h0, s, ob, hu.mem⟩
      · omega
    · exact ⟨h0, s1, o1, h2⟩
  · rcases hoth _ hm1 with he | ⟨h2, _, h3⟩
    · simp only [Prod.mk.injEq] at he
      obtain ⟨rfl, rfl, rfl⟩ := he
      have hmm := hm m1 rows1 rfl
      subst hmm
      obtain ⟨rows, hr⟩ := hkind rows1 rfl
      rcases hb' with rfl | hb'
      · exact ⟨⟨rows, hr ▸ hu.mem⟩, hsh rfl hb1⟩
      · omega
    · refine ⟨⟨rows1, h2⟩, shape_same (hk b1 hlt ?_)⟩
      exact h3
theorem SimW.upd {w w' : World} (hw : SimW w0 objs w) {s b b' : Nat} {ob ob' : TObj} (hu : Upd (s, b, ob) (s, b', ob') objs objs') (hbel : Below w0.heap.size w0 w')
    (hk : ∀ k, k < w.heap.size → k ≠ b ∨ b = 0 → w'.heap[k]? = w.heap[k]?) (hb' : b' = b ∨ w.heap.size ≤ b') (hst : Step w objs w' objs') (hob : ObjOk w' w0.heap.size objs' b' ob') : SimW w0 objs' w' := by
  refine ⟨hbel, hw.pos, fun s1 b1 o1 hm1 => ?_, hu.sites rfl hw.sites fun y hy hne => ?_⟩
  · rcases hu.other hw.sites _ hm1 with he | ⟨h2, _, h3⟩
    · simp only [Prod.mk.injEq] at he
      obtain ⟨rfl, rfl, rfl⟩ := he
      exact hob
    · exact (hw.obj s1 b1 o1 h2).step hst (hk b1 (objs_lt hw h2) h3)
  · rcases hb' with rfl | hb'
    · have hx := hu.mem
      by_cases e0 : b' = 0
      · exact .inr e0
      · refine .inl fun e => ?_
        -- two owned things of one block
        have key : ∀ (l : Objs), List.Pairwise SiteRel l → (s, b', ob) ∈ l → y ∈ l → y.1 ≠ s → y.2.1 = b' → False := fun l => by
          induction l with
          | nil => intro _ h; simp at h
          | cons z l ih =>
            intro hp h1 h2 h3 h4
            obtain ⟨g1, g2⟩ := List.pairwise_cons.1 hp
            rcases List.mem_cons.1 h1 with rfl | h1'
            · rcases List.mem_cons.1 h2 with rfl | h2'
              · exact h3 rfl
              · rcases (g1 y h2').2 with h | h
                · exact h h4.symm
                · exact e0 h
            · rcases List.mem_cons.1 h2 with rfl | h2'
              · rcases (g1 _ h1').2 with h | h
                · exact h h4
                · exact e0 (h4 ▸ h)
              · exact ih g2 h1' h2' h3 h4
        exact key objs hw.sites hx hy hne e.symm
    · exact .inl (Nat.ne_of_gt (Nat.lt_of_lt_of_le (objs_lt (s := y.1) (ob := y.2.2) hw hy) hb'))

/-- Cells put into a list of cells. -/
inductive Splice : List TV → Nat → List TV → List TV → Prop
  | nil (l : List TV) : Splice l 0 [] l
  | put (x v : TV) (l vs l' : List TV) (h : Splice l 0 vs l') : Splice (x :: l) 0 (v :: vs) (v :: l')
  | skip (x : TV) (l : List TV) (n : Nat) (vs l' : List TV) (h : Splice l n vs l') : Splice (x :: l) (n + 1) vs (x :: l')
theorem Splice.spec {l : List TV} {n : Nat} {vs l' : List TV} (h : Splice l n vs l') : n + vs.length ≤ l.length ∧ l'.length = l.length ∧ ∀ j, l'[j]? = if n ≤ j ∧ j < n + vs.length then vs[j - n]? else l[j]? := by
  induction h with
  | nil l => exact ⟨by simp, rfl, fun j => by rw [if_neg (by simp)]⟩
  | put x v l vs l' h ih =>
    obtain ⟨h1, h2, h3⟩ := ih
    refine ⟨by simp at h1 ⊢; omega, by simp [h2], fun j => ?_⟩
    cases j with
    | zero => simp
    | succ j =>
      have := h3 j
      simp only [List.getElem?_cons_succ, this, List.length_cons, Nat.zero_le, true_and, Nat.sub_zero]
      by_cases hj : j < 0 + vs.length
      · rw [if_pos hj, if_pos (by omega)]
      · rw [if_neg hj, if_neg (by omega)]
  | skip x l n vs l' h ih =>
    obtain ⟨h1, h2, h3⟩ := ih
    refine ⟨by simp at h1 ⊢; omega, by simp [h2], fun j => ?_⟩
    cases j with
    | zero => rw [if_neg (by omega)]; simp
    | succ j =>
      have := h3 j
      simp only [List.getElem?_cons_succ, this]
      by_cases hj : n ≤ j ∧ j < n + vs.length
      · rw [if_pos hj, if_pos (by omega), show j + 1 - (n + 1) = j - n by omega]
      · rw [if_neg hj, if_neg (by omega)]

theorem exec_store {T : TypeId} {x v : Operand} {a : Act} {w : World} {g q : Nat} {cur : Array Value} {e : TypeId} (ho : o.op = .store T x v) (ha : a.eval x = .pointer (some ⟨g, q, none⟩)) (hi : (P.info? T).isSome = true) (hsz : P.cellsOf T = (a.eval v).cells.size)
    (hg : w.heap[g]? = some (.cells cur e (0, 0))) (hfit : q + (a.eval v).cells.size ≤ cur.size) (h1 : ∀ u ∈ (a.eval v).cells.toList, u.oneCell' = true) :
    (execOp a.eval o).run P w = .ok .skip (w.setRow g (cur.toList.take q ++ (a.eval v).cells.toList ++ cur.toList.drop (q + (a.eval v).cells.size)).toArray) := by
  cases hie : P.info? T with
  | none => rw [hie] at hi; cases hi
  | some i =>
  have hr := run_storeCells_at P g q e (a.eval v).cells.toList 0 cur w hg (by simpa using hfit) h1
  have hne : ¬ (a.eval v).cells.size ≠ P.cellsOf T := by omega
  simp only [execOp, ho, ha, Instr.storeAt, Instr.sureAddr, storeVar, Sem.run_bind, Sem.run_pure, Result.andThen_ok, run_sizeOf w hie, if_neg hne]
  rw [hr]
  simp [Result.andThen_ok]

theorem setRow_below {w0 w : World} (h : Below w0.heap.size w0 w) {g : Nat} (hg : w0.heap.size ≤ g) (cs : Array Value) : Below w0.heap.size w0 (w.setRow g cs) :=
  h.trans ⟨rfl, rfl, rfl, by simp, fun k hk => setRow_other w g k cs (by omega)⟩
/-- A store into a variable that the call owns. -/
theorem ao_store_mp {ops : Array Oper} {rest : List Oper} {T : TypeId} {x v : Operand} {s b off : Nat} {tv : TV} {cells vs cells' : List TV} (ho : o.op = .store T x v) (hd : o.dst = none) (hx : ev env x = some (.mp s b off)) (hv : ev env v = some tv) (hc : tvCells tv = some vs)
    (hi : (P.info? T).isSome = true) (hsz : P.cellsOf T = vs.length) (hu : Upd (s, b, .box cells) (s, b, .box cells') objs objs') (hsp : Splice cells off vs cells') (h : AL P w0 N ops Q rest env objs') : AO P w0 N ops Q o rest env objs := ⟨fun a w K hs hK => by
    obtain ⟨⟨hB, hci⟩, cur, e, h2, h3, h4⟩ := hs.mem.obj s b _ hu.mem
    obtain ⟨g1, g2, g3⟩ := rep_cells (ev_sim hs hv) hc
    obtain ⟨p1, p2, p3⟩ := hsp.spec
    have hxa := ev_sim hs hx
    generalize hax : a.eval x = ax at hxa
    cases hxa with
    | mp s b off hb =>
    have hone : ∀ u ∈ (a.eval v).cells.toList, u.oneCell' = true := fun u hu => by
      obtain ⟨k, hk, rfl⟩ := List.getElem_of_mem hu
      have hk' : k < vs.length := by rw [← g1]; simpa using hk
      exact ((g2 k vs[k] _ (List.getElem?_eq_getElem hk') (by rw [← Array.getElem?_toList]; exact List.getElem?_eq_getElem hk)).one (g3 _ (List.getElem_mem hk'))).1
    have hrun := exec_store (P := P) (o := o) (cur := cur) (e := e) (w := w) ho hax hi (by rw [hsz, g1]) h2 (by rw [g1, h3]; exact p1) hone
    unfold Oper.wp
    rw [hrun]
    refine hK _ _ ?_
    rw [hd]
    have hb0 : b ≠ 0 := by have := hs.mem.pos; omega
    have hkk : ∀ k, k < w.heap.size → k ≠ b ∨ b = 0 → (w.setRow b (cur.toList.take off ++ (a.eval v).cells.toList ++ cur.toList.drop (off + (a.eval v).cells.size)).toArray).heap[k]? = w.heap[k]? := fun k _ hk => setRow_other w b k _ (hk.resolve_right hb0)
    have hst := step_upd (m := 0) hs.mem hu (w' := w.setRow b (cur.toList.take off ++ (a.eval v).cells.toList ++ cur.toList.drop (off + (a.eval v).cells.size)).toArray) (by simp) hkk (.inl rfl) (by simp) (by simp) (fun _ _ => by
      unfold World.shape?; rw [setRow_heap w b cur _ e _ h2, h2]; simp; omega) (by simp [marker])
    refine h.run _ _ (hs.same (hs.mem.upd hu (setRow_below hs.mem.below hB _) hkk (.inl rfl) hst ⟨⟨hB, fun t ht => ?_⟩, _, e, setRow_heap w b cur _ e _ h2, ?_, fun j t hj => ?_⟩) hst)
    · obtain ⟨k, hk, rfl⟩ := List.getElem_of_mem ht
      have h5 := p3 k
      rw [List.getElem?_eq_getElem hk] at h5
      split at h5
      · exact g3 _ (List.mem_of_getElem? h5.symm)
      · exact hci _ (List.mem_of_getElem? h5.symm)
    · simp; omega
    · rw [p3] at hj
      have hcur : ∀ i : Nat, cur.toList[i]? = cur[i]? := fun i => by simp
      simp only [List.getElem?_toArray]
      split at hj
      · rename_i hin
        have hlt : j - off < (a.eval v).cells.size := by omega
        refine ⟨(a.eval v).cells[j - off], ?_, (g2 _ t _ hj (by simp [hlt])).step hst⟩
        rw [List.getElem?_append_left (by simp; omega), List.getElem?_append_right (by simp; omega)]
        simp only [List.length_take, Array.length_toList]
        rw [show j - min off cur.size = j - off by omega]
        simp [hlt]
      · rename_i hin
        obtain ⟨u, h5, h6⟩ := h4 j t hj
        refine ⟨u, ?_, h6.step hst⟩
        have hjl : j < cur.size := (Array.getElem?_eq_some_iff.1 h5).1
        by_cases hjo : j < off
        · rw [List.getElem?_append_left (by simp; omega), List.getElem?_append_left (by simp; omega), List.getElem?_take, if_pos hjo, hcur]; exact h5
        · rw [List.getElem?_append_right (by simp; omega)]
          simp only [List.length_append, List.length_take, Array.length_toList, List.getElem?_drop]
          rw [show off + (a.eval v).cells.size + (j - (min off cur.size + (a.eval v).cells.size)) = j by omega, hcur]; exact h5⟩
end
end Go.Proofs.YtiihihgjiklnoaaGreatDoor
