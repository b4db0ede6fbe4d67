/- Part 12 of the proof: the texts EngH, EngO, EngR, EngS. -/
import Derived.Test.YtiihihgjiklnoaaGreatDoorPart11
/- The abstract walk, part 8: operations under a guard; small laws of numbers. -/
namespace Go.Proofs.YtiihihgjiklnoaaGreatDoor
open Go Go.RowKit

theorem fin_int {B : Nat} {objs : Objs} {L : Nat} {k : IntKind} {m n : Int} (h : m = n) : Fin B objs L (.int k m) (.int k n) := h ▸ .int k m
theorem fin_bool {B : Nat} {objs : Objs} {L : Nat} {m n : Bool} (h : m = n) : Fin B objs L (.bool m) (.bool n) := h ▸ .bool m
theorem lk_int {t : Nat} {env : Env} {k : IntKind} {m n : Int} (h : lk t env = some (.int k m)) (e : m = n) : lk t env = some (.int k n) := e ▸ h
theorem lk_bool {t : Nat} {env : Env} {m n : Bool} (h : lk t env = some (.bool m)) (e : m = n) : lk t env = some (.bool n) := e ▸ h
theorem lk_str {t : Nat} {env : Env} {m n : ByteArray} (h : lk t env = some (.str m)) (e : m = n) : lk t env = some (.str n) := e ▸ h
theorem reps1 {w : World} {t : TV} {vs : Array Value} (hs : vs.size = [t].length) (h : ∀ (i : Nat) (u : TV) (v : Value), [t][i]? = some u → vs[i]? = some v → Rep w [] u v) : ∃ v, vs = #[v] ∧ Rep w [] t v := by
  match vs, hs with
  | ⟨[v]⟩, _ => exact ⟨v, rfl, h 0 t v rfl rfl⟩
/-- A contract in the elder form, of a function from a number to a text. -/
theorem ct_int_str {P : Program} {G : World → Prop} {f : FuncId} {k : IntKind} {n : Int} {s : ByteArray} (h : ∀ w, G w → Calls P f #[.int k n] w fun e w' => e = .returned (.string s) ∧ Below w.heap.size w w') : Ct P G f [.int k n] (fun _ => .str s) := fun w vs _ hG hs hr => by
  obtain ⟨v, rfl, h1⟩ := reps1 hs hr
  rw [h1.int_inv]
  refine (h w hG).mono ?_
  rintro e w' ⟨rfl, hb⟩
  exact ⟨_, rfl, hb, fun _ _ => .str _⟩
theorem ct_str_bool {P : Program} {G : World → Prop} {f : FuncId} {s : ByteArray} {b : Bool} (h : ∀ w, G w → Calls P f #[.string s] w fun e w' => e = .returned (.bool b) ∧ Below w.heap.size w w') : Ct P G f [.str s] (fun _ => .bool b) := fun w vs _ hG hs hr => by
  obtain ⟨v, rfl, h1⟩ := reps1 hs hr
  rw [h1.str_inv]
  refine (h w hG).mono ?_
  rintro e w' ⟨rfl, hb⟩
  exact ⟨_, rfl, hb, fun _ _ => .bool _⟩
theorem row_map {α : Type} {f : α → List TV} {l : List α} {k : Nat} (h : k < l.length) : (l.map f)[k]? = some (f (l[k]'h)) := by rw [List.getElem?_map, List.getElem?_eq_getElem h]; rfl
theorem mh {x : Nat × Nat × TObj} {l : Objs} : x ∈ x :: l := List.mem_cons_self
theorem mt {x y : Nat × Nat × TObj} {l : Objs} (h : x ∈ l) : x ∈ y :: l := List.mem_cons_of_mem _ h
theorem set_row {rows : List (List TV)} {r : List TV} {k : Nat} (h : k < rows.length) : (rows.set k r)[k]? = some r := List.getElem?_set_self h
theorem nat0 : (0 : Int) = ((0 : Nat) : Int) := rfl
theorem nat1 : (1 : Int) = ((1 : Nat) : Int) := rfl
theorem nat2 : (2 : Int) = ((2 : Nat) : Int) := rfl
theorem nat3 : (3 : Int) = ((3 : Nat) : Int) := rfl
theorem w_nn {a b : Nat} (h : a + b ≤ 9223372036854775807) : IntKind.i64.wrap ((a : Int) + (b : Int)) = ((a + b : Nat) : Int) := by rw [IntWalk.i64_in _ (by omega)]; simp
theorem w_n1 {a : Nat} (h : a + 1 ≤ 9223372036854775807) : IntKind.i64.wrap ((a : Int) + 1) = ((a + 1 : Nat) : Int) := by rw [IntWalk.i64_in _ (by omega)]; simp
theorem w_n2 {a : Nat} (h : a + 2 ≤ 9223372036854775807) : IntKind.i64.wrap ((a : Int) + 2) = ((a + 2 : Nat) : Int) := by rw [IntWalk.i64_in _ (by omega)]; simp
theorem w_nm1 {a : Nat} (h : 1 ≤ a ∧ a ≤ 9223372036854775807) : IntKind.i64.wrap ((a : Int) - 1) = ((a - 1 : Nat) : Int) := by rw [IntWalk.i64_in _ (by omega)]; omega
theorem w_u8 (n : Int) (h : 0 ≤ n ∧ n ≤ 255) : IntKind.u8.wrap n = n := by
  simp [IntKind.wrap, IntKind.bits, IntKind.signed]
  omega
end Go.Proofs.YtiihihgjiklnoaaGreatDoor
/- The abstract walk, part 9: the rules with the operation written in the conclusion, by program. -/
namespace Go.Proofs.YtiihihgjiklnoaaGreatDoor
open Go Go.RowKit
section
variable {P : Program} {w0 : World} {N : Nat} {Q : Exit → Act → World → Prop} {env : Env} {objs : Objs} {ops : Array Oper} {rest : List Oper} {d T0 : Nat} {pos : String} {af : Array Edge} {g : Option (Nat × Bool)}
theorem o_move {x : Operand} {tv : TV} (hN : Nat.blt d N = true) (hx : ev env x = some tv) (h : AL P w0 N ops Q rest ((d, tv) :: env) objs) : AO P w0 N ops Q ⟨some d, .move x, T0, pos, af, g⟩ rest env objs := ao_q rfl hN (y_move rfl hx) h
theorem o_assign {x : Operand} {tv : TV} (hN : Nat.blt d N = true) (hx : ev env x = some tv) (h : AL P w0 N ops Q rest ((d, tv) :: env) objs) : AO P w0 N ops Q ⟨some d, .assign x, T0, pos, af, g⟩ rest env objs := ao_q rfl hN (y_assign rfl hx) h
theorem o_load_agg_cp {T : TypeId} {x : Operand} {out : List TV} {f : Nat} {l : List TV} (hN : Nat.blt d N = true) (_hA : agT T = true) (hT : isAggB P T = true) (hi : (P.info? T).isSome = true) (hs : P.cellsOf T = szT T) (hx : ev env x = some (.cp f l)) (htk : Taken (szT T) (l) out) (h : AL P w0 N ops Q rest ((d, .agg out) :: env) objs) : AO P w0 N ops Q ⟨some d, .load T x, T0, pos, af, g⟩ rest env objs := ao_q rfl hN (y_load_agg rfl hT hi hs hx (fun _ => .cp f l) htk) h
theorem o_load_agg_mp {T : TypeId} {x : Operand} {out : List TV} {s b off : Nat} {cells : List TV} (hN : Nat.blt d N = true) (_hA : agT T = true) (hT : isAggB P T = true) (hi : (P.info? T).isSome = true) (hs : P.cellsOf T = szT T) (hx : ev env x = some (.mp s b off)) (hm : (s, b, TObj.box cells) ∈ objs) (htk : Taken (szT T) (cells.drop off) out) (h : AL P w0 N ops Q rest ((d, .agg out) :: env) objs) : AO P w0 N ops Q ⟨some d, .load T x, T0, pos, af, g⟩ rest env objs := ao_q rfl hN (y_load_agg rfl hT hi hs hx (fun _ => .mp s b off cells hm) htk) h
theorem o_load_agg_me {T : TypeId} {x : Operand} {out : List TV} {s b m j off : Nat} {rows : List (List TV)} {r0 : List TV} (hN : Nat.blt d N = true) (_hA : agT T = true) (hT : isAggB P T = true) (hi : (P.info? T).isSome = true) (hs : P.cellsOf T = szT T) (hx : ev env x = some (.me s b m j off)) (hm : (s, b, TObj.row m rows) ∈ objs) (hr : rows[j]? = some r0) (htk : Taken (szT T) (r0.drop off) out) (h : AL P w0 N ops Q rest ((d, .agg out) :: env) objs) : AO P w0 N ops Q ⟨some d, .load T x, T0, pos, af, g⟩ rest env objs := ao_q rfl hN (y_load_agg rfl hT hi hs hx (fun _ => .me s b m j off rows r0 hm hr) htk) h
theorem o_box {T : TypeId} {x : Operand} {tv : TV} {l : List TV} (hN : Nat.blt d N = true) (hx : ev env x = some tv) (hl : tvCells tv = some l) (h : AL P w0 N ops Q rest ((d, .cp w0.heap.size l) :: env) objs) : AO P w0 N ops Q ⟨some d, .box T x, T0, pos, af, g⟩ rest env objs := ao_q rfl hN (y_box rfl hx hl) h
theorem o_lit {T : TypeId} {n m : Nat} {ps : List (Nat × Operand)} {rows : List (List TV)} (hN : Nat.blt d N = true) (hev : evL env ps 0 = some rows) (hT : P.underlying T = some (.slice (P.elem T))) (hI : (zeroOk P (P.elem T)).isSome = true) (_hs : esT T = some m) (hm : P.cellsOf (P.elem T) = m) (hm0 : Nat.blt 0 m = true) (hn : rows.length = n) (hbig : Nat.ble (n * m) 16777216 = true) (hall : (rows.all fun r => Nat.beq r.length m) = true) (h : AL P w0 N ops Q rest ((d, .sl w0.heap.size m rows) :: env) objs) : AO P w0 N ops Q ⟨some d, .buildSlice T n ps.toArray, T0, pos, af, g⟩ rest env objs := ao_q rfl hN (y_lit rfl hT hI hm hm0 hev hn hbig hall) h
theorem o_call {G : World → Prop} {f : Nat} {xs : List Operand} {ts : Array TypeId} {args : List TV} {r : Nat → TV} (hN : Nat.blt d N = true) (hc : callB P f = true) (hargs : Args env objs xs args) (hG : G w0) (hst : Stable G) (hct : Ct P G f args r) (h : AL P w0 N ops Q rest ((d, r w0.heap.size) :: env) objs) : AO P w0 N ops Q ⟨some d, .call { callee := .value (.func f), args := xs.toArray, argTypes := ts }, T0, pos, af, g⟩ rest env objs := ao_q rfl hN (y_call rfl hc hargs hct hG hst) h
end
end Go.Proofs.YtiihihgjiklnoaaGreatDoor
/- The abstract walk, part 10: regions whose order is open. One walk in the order of the text serves for every order. -/
namespace Go.Proofs.YtiihihgjiklnoaaGreatDoor
open Go Go.RowKit

/-- Each binding edge leads back, and what 'before' says follows from the edges; operations that touch one slot, of which one writes it, are ordered. -/
def drawOk (ops : Array Oper) : Bool :=
  let B := Region.before ops
  (List.range ops.size).all fun j => match ops[j]? with
    | none => false
    | some oj => (oj.after.all fun e => !Region.binds .any e || Nat.blt e.on j) &&
      (List.range j).all fun i => match ops[i]? with
        | none => false
        | some oi =>
          (!(B.getD j 0).testBit i || oj.after.any fun e => Region.binds .any e && (Nat.beq e.on i || (Nat.blt i e.on && (B.getD e.on 0).testBit i))) &&
          (oi.apart ops oj || (B.getD j 0).testBit i)
section
variable {P : Program} {w0 : World} {N : Nat} {Q : Exit → Act → World → Prop} {objs : Objs} {ops : Array Oper}

theorem drawOk_spec (h : drawOk ops = true) {j : Nat} {oj : Oper} (hj : ops[j]? = some oj) : (∀ e ∈ oj.after, Region.binds .any e = true → e.on < j) ∧
    ∀ i oi, i < j → ops[i]? = some oi → (((Region.before ops).getD j 0).testBit i = true → ∃ e ∈ oj.after, Region.binds .any e = true ∧ (e.on = i ∨ (i < e.on ∧ ((Region.before ops).getD e.on 0).testBit i = true))) ∧ (oi.apart ops oj = true ∨ ((Region.before ops).getD j 0).testBit i = true) := by
  have hlt : j < ops.size := (Array.getElem?_eq_some_iff.1 hj).1
  unfold drawOk at h
  have h1 := List.all_eq_true.1 h j (List.mem_range.2 hlt)
  simp only [hj, Bool.and_eq_true] at h1
  obtain ⟨h2, h3⟩ := h1
  refine ⟨fun e he hb => ?_, fun i oi hij hi => ?_⟩
  · have := Array.all_eq_true_iff_forall_mem.1 h2 e he
    rw [hb] at this
    simpa [Nat.blt_eq] using this
  · have h4 := List.all_eq_true.1 h3 i (List.mem_range.2 hij)
    simp only [hi, Bool.and_eq_true, Bool.or_eq_true, Bool.not_eq_true'] at h4
    refine ⟨fun hb => ?_, h4.2⟩
    rcases h4.1 with h5 | h5
    · rw [h5] at hb; cases hb
    · obtain ⟨k, hk, h6⟩ := Array.any_eq_true.1 h5
      simp only [Bool.and_eq_true, Bool.or_eq_true] at h6
      exact ⟨_, Array.getElem_mem hk, h6.1, h6.2.imp Nat.eq_of_beq_eq_true fun h => ⟨by simpa [Nat.blt_eq] using h.1, h.2⟩⟩

/-- What is listed is closed under the edges. -/
def Closed (ops : Array Oper) (X : Nat → Prop) : Prop := ∀ j oj, ops[j]? = some oj → X j → ∀ e ∈ oj.after, Region.binds .any e = true → X e.on
theorem closed_reach (h : drawOk ops = true) {X : Nat → Prop} (hX : Closed ops X) : ∀ j, j < ops.size → X j → ∀ i, i < j → ((Region.before ops).getD j 0).testBit i = true → X i := by
  intro j
  induction j using Nat.strongRecOn with
  | _ j ih =>
    intro hj hx i hij hb
    have hoj : ops[j]? = some ops[j] := by simp [hj]
    have hoi : ops[i]? = some ops[i] := by simp [show i < ops.size by omega]
    obtain ⟨h1, h2⟩ := drawOk_spec h hoj
    obtain ⟨e, he, hb2, h3⟩ := (h2 i _ hij hoi).1 hb
    have hxe := hX j _ hoj hx e he hb2
    have hej := h1 e he hb2
    rcases h3 with rfl | ⟨h4, h3⟩
    · exact hxe
    · exact ih e.on hej (by omega) hxe i h4 h3

/-- The region walked in the order of the text. -/
def GRun (ops : Array Oper) (env : Env) (o : Oper) : Prop := o.guard = none ∨ ∃ j b d, o.guard = some (j, b) ∧ (ops[j]?).bind (·.dst) = some d ∧ lk d env = some (.bool b)
def GSkip (ops : Array Oper) (env : Env) (o : Oper) : Prop := (∃ j b d, o.guard = some (j, !b) ∧ (ops[j]?).bind (·.dst) = some d ∧ lk d env = some (.bool b)) ∨ ∃ j c d, o.guard = some (j, c) ∧ (ops[j]?).bind (·.dst) = some d ∧ lk d env = some (.tup [])
inductive DR (P : Program) (w0 : World) (N : Nat) (ops : Array Oper) (objs : Objs) (K : Env → Prop) : List Oper → Env → Prop
  | nil (env : Env) (h : K env) : DR P w0 N ops objs K [] env
  | run (o : Oper) (rest : List Oper) (env : Env) (d : Nat) (tv : TV) (hd : o.dst = some d) (hN : Nat.blt d N = true) (hg : GRun ops env o) (hy : Yields P w0 env objs o tv) (h : DR P w0 N ops objs K rest ((d, tv) :: env)) : DR P w0 N ops objs K (o :: rest) env
  | skip (o : Oper) (rest : List Oper) (env : Env) (d : Nat) (hd : o.dst = some d) (hN : Nat.blt d N = true) (hg : GSkip ops env o) (h : DR P w0 N ops objs K rest ((d, .tup []) :: env)) : DR P w0 N ops objs K (o :: rest) env
  | know (rest : List Oper) (env : Env) (t : Nat) (v v' : TV) (hv : lk t env = some v) (he : v = v') (h : DR P w0 N ops objs K rest ((t, v') :: env)) : DR P w0 N ops objs K rest env

/-- One operation's part in the walk. -/
def StepAt (P : Program) (w0 : World) (N : Nat) (ops : Array Oper) (objs : Objs) (o : Oper) (env env' : Env) : Prop :=
  ∃ d tv, o.dst = some d ∧ d < N ∧ (∀ t, lk t env' = lk t ((d, tv) :: env)) ∧ ((GRun ops env o ∧ Yields P w0 env objs o tv) ∨ (GSkip ops env o ∧ tv = .tup []))
theorem dr_steps {K : Env → Prop} {l : List Oper} {env : Env} (h : DR P w0 N ops objs K l env) : ∃ σ : Nat → Env, (∀ t, lk t (σ 0) = lk t env) ∧ K (σ l.length) ∧ ∀ k o, l[k]? = some o → StepAt P w0 N ops objs o (σ k) (σ (k + 1)) := by
  induction h with
  | nil env h => exact ⟨fun _ => env, fun _ => rfl, h, by simp⟩
  | run o rest env d tv hd hN hg hy h ih =>
    obtain ⟨σ, h1, h2, h3⟩ := ih
    refine ⟨fun k => match k with | 0 => env | k + 1 => σ k, fun _ => rfl, h2, fun k o' hk => ?_⟩
    cases k with
    | zero => simp at hk; subst hk; exact ⟨d, tv, hd, Nat.blt_eq ▸ hN, h1, .inl ⟨hg, hy⟩⟩
    | succ k => exact h3 k o' (by simpa using hk)
  | skip o rest env d hd hN hg h ih =>
    obtain ⟨σ, h1, h2, h3⟩ := ih
    refine ⟨fun k => match k with | 0 => env | k + 1 => σ k, fun _ => rfl, h2, fun k o' hk => ?_⟩
    cases k with
    | zero => simp at hk; subst hk; exact ⟨d, .tup [], hd, Nat.blt_eq ▸ hN, h1, .inr ⟨hg, rfl⟩⟩
    | succ k => exact h3 k o' (by simpa using hk)
  | know rest env t v v' hv he h ih =>
    obtain ⟨σ, h1, h2, h3⟩ := ih
    refine ⟨σ, fun x => ?_, h2, h3⟩
    rw [h1, lk_cons]
    split
    · rename_i e; subst e; rw [hv, he]
    · rfl

def Writes (ops : Array Oper) (i t : Nat) : Prop := (ops[i]?).bind (·.dst) = some t
/-- The state when X has been carried out. -/
structure JX (w0 : World) (N : Nat) (ops : Array Oper) (objs : Objs) (σ : Nat → Env) (X : Nat → Prop) (a : Act) (w : World) : Prop where
  defers : a.defers = []
  size : a.tmps.size = N
  mem : SimW w0 objs w
  cut : ∀ t k, k ≤ ops.size → (∀ i, i < k → Writes ops i t → X i) → (∀ i, k ≤ i → Writes ops i t → ¬ X i) → ∀ v, lk t (σ k) = some v → Rep w objs v (a.tmps.getD t undef)

theorem apart_or (hok : drawOk ops = true) {i j : Nat} {oi oj : Oper} (hi : ops[i]? = some oi) (hj : ops[j]? = some oj) (hij : i < j) (hna : ¬ oi.apart ops oj = true) {X : Nat → Prop} (hX : Closed ops X) (hx : X j) : X i := by
  have h := ((drawOk_spec hok hj).2 i oi hij hi).2
  exact closed_reach hok hX j (Array.getElem?_eq_some_iff.1 hj).1 hx i hij (h.resolve_left hna)
theorem not_apart_read {x y : Oper} {t : Nat} (hx : x.dst = some t) (hy : t ∈ y.looksAt ops) : ¬ x.apart ops y = true := fun h => by
  unfold Oper.apart at h
  rw [hx] at h
  simp only [Bool.and_eq_true, Bool.not_eq_true'] at h
  rw [List.contains_iff_mem.2 hy] at h
  simp at h
theorem not_apart_write {x y : Oper} {t : Nat} (hx : t ∈ x.looksAt ops) (hy : y.dst = some t) : ¬ x.apart ops y = true := fun h => by
  unfold Oper.apart at h
  rw [hy] at h
  simp only [Bool.and_eq_true, Bool.not_eq_true'] at h
  rw [List.contains_iff_mem.2 hx] at h
  simp at h
theorem not_apart_both {x y : Oper} {t : Nat} (hx : x.dst = some t) (hy : y.dst = some t) : ¬ x.apart ops y = true := fun h => by
  unfold Oper.apart at h
  rw [hx, hy] at h
  simp at h

/-- At an operation that comes up, its operands stand for what they stood for in the text's order. -/
theorem jx_read (hok : drawOk ops = true) {σ : Nat → Env} {X : Nat → Prop} {a : Act} {w : World} (hJ : JX w0 N ops objs σ X a w) (hX : Closed ops X) {i : Nat} {o : Oper} (hi : ops[i]? = some o) (hni : ¬ X i) (hX' : Closed ops fun k => k = i ∨ X k) {t : Nat} (ht : t ∈ o.looksAt ops) {v : TV} (hv : lk t (σ i) = some v) : Rep w objs v (a.tmps.getD t undef) := by
  refine hJ.cut t i (Nat.le_of_lt (Array.getElem?_eq_some_iff.1 hi).1) (fun k hk hw => ?_) (fun k hk hw hx => ?_) v hv
  · obtain ⟨ok, h1, h2⟩ := Option.bind_eq_some_iff.1 hw
    have := apart_or hok h1 hi hk (not_apart_read h2 ht) hX' (.inl rfl)
    rcases this with h | h
    · omega
    · exact h
  · obtain ⟨ok, h1, h2⟩ := Option.bind_eq_some_iff.1 hw
    rcases Nat.lt_or_ge i k with h | h
    · exact hni (apart_or hok hi h1 h (not_apart_write ht h2) hX hx)
    · exact hni ((Nat.le_antisymm h hk) ▸ hx)
/-- Behind it. -/
theorem jx_step (hok : drawOk ops = true) {σ : Nat → Env} {X : Nat → Prop} {a : Act} {w w' : World} (hJ : JX w0 N ops objs σ X a w) (hX : Closed ops X) {i d : Nat} {o : Oper} {tv : TV} {v : Value} (hi : ops[i]? = some o) (hni : ¬ X i) (hd : o.dst = some d) (hdN : d < N)
    (hσ : ∀ k o, ops[k]? = some o → ∃ d tv, o.dst = some d ∧ ∀ t, lk t (σ (k + 1)) = lk t ((d, tv) :: σ k)) (hσi : ∀ t, lk t (σ (i + 1)) = lk t ((d, tv) :: σ i)) (hr : Rep w' objs tv v) (hw : SimW w0 objs w') (hst : Step w objs w' objs) : JX w0 N ops objs σ (fun k => k = i ∨ X k) (a.put (some d) v) w' := by
  refine ⟨hJ.defers, by simp [Act.put, hJ.size], hw, fun t k hk h1 h2 u hu => ?_⟩
  show Rep w' objs u ((a.tmps.setIfInBounds d v).getD t undef)
  rw [getD_set (by rw [hJ.size]; exact hdN)]
  by_cases hdt : d = t
  · subst hdt
    rw [if_pos rfl]
    have hwi : Writes ops i d := by unfold Writes; rw [hi]; exact hd
    have hik : i < k := Nat.lt_of_not_le fun h => h2 i h hwi (.inl rfl)
    -- nobody else writes between
    have hlast : ∀ m, i + 1 ≤ m → m ≤ k → lk d (σ m) = some tv := fun m => by
      induction m with
      | zero => intro h; omega
      | succ m ih =>
        intro hm1 hm2
        rcases Nat.eq_or_lt_of_le hm1 with h | h
        · have : m = i := by omega
          subst this; rw [hσi, lk_cons, if_pos rfl]
        · have hm : m < ops.size := by omega
          have hom : ops[m]? = some ops[m] := by simp [hm]
          obtain ⟨dm, tm, e1, e2⟩ := hσ m _ hom
          rw [e2, lk_cons, if_neg]
          · exact ih (by omega) (by omega)
          · intro e
            subst e
            have hwm : Writes ops m dm := by unfold Writes; rw [hom]; exact e1
            rcases h1 m (by omega) hwm with h3 | h3
            · omega
            · exact hni (apart_or hok hi hom (by omega) (not_apart_both hd e1) hX h3)
    rw [hlast k hik (Nat.le_refl _)] at hu
    simp only [Option.some.injEq] at hu
    subst hu; exact hr
  · rw [if_neg hdt]
    refine (hJ.cut t k hk (fun m hm hwm => ?_) (fun m hm hwm hx => h2 m hm hwm (.inr hx)) u hu).step hst
    rcases h1 m hm hwm with h3 | h3
    · subst h3
      unfold Writes at hwm
      rw [hi] at hwm
      simp only [Option.bind_some, hd, Option.some.injEq] at hwm
      exact absurd hwm hdt
    · exact h3

def unlisted (listed : Array Bool) : Nat := (listed.toList.filter (! ·)).length
theorem any_of_jx (hok : drawOk ops = true) {σ : Nat → Env} (hσ : ∀ k o, ops[k]? = some o → StepAt P w0 N ops objs o (σ k) (σ (k + 1))) (hQ : AQ w0 N Q .normal (σ ops.size) objs) :
    ∀ (fuel : Nat) (listed : Array Bool) (a : Act) (w : World), listed.size = ops.size → unlisted listed ≤ fuel → Closed ops (fun i => listed.getD i false = true) → JX w0 N ops objs σ (fun i => listed.getD i false = true) a w → wpAny P .any ops Q fuel listed a w := by
  have hσ' : ∀ k o, ops[k]? = some o → ∃ d tv, o.dst = some d ∧ ∀ t, lk t (σ (k + 1)) = lk t ((d, tv) :: σ k) := fun k o hk => by
    obtain ⟨d, tv, h1, _, h2, _⟩ := hσ k o hk; exact ⟨d, tv, h1, h2⟩
  -- when nothing comes up, all has been carried out
  have hend : ∀ (listed : Array Bool) (a : Act) (w : World), listed.size = ops.size → JX w0 N ops objs σ (fun i => listed.getD i false = true) a w → Region.ready .any ops listed = [] → Q .normal a w := by
    intro listed a w hsz hJ hr
    have hall : ∀ j, j < ops.size → listed.getD j false = true := by
      intro j
      induction j using Nat.strongRecOn with
      | _ j ih =>
        intro hj
        cases hb : listed.getD j false with
        | true => rfl
        | false =>
          have hoj : ops[j]? = some ops[j] := by simp [hj]
          have hmem : j ∈ Region.ready .any ops listed := mem_ready.2 ⟨by
            have hjl : j < listed.size := by omega
            simp only [Array.getD_eq_getD_getElem?, Array.getElem?_eq_getElem hjl, Option.getD_some] at hb ⊢; exact hb, _, hoj, fun e he hbd => ih e.on ((drawOk_spec hok hoj).1 e he hbd) (Nat.lt_trans ((drawOk_spec hok hoj).1 e he hbd) hj)⟩
          rw [hr] at hmem; cases hmem
    refine hQ.run a w ⟨hJ.defers, hJ.size, hJ.mem, fun t v hv => hJ.cut t ops.size (Nat.le_refl _) (fun i hi _ => hall i hi) (fun i hi hw => ?_) v hv⟩
    unfold Writes at hw
    rw [Array.getElem?_eq_none hi] at hw
    cases hw
  intro fuel
  induction fuel with
  | zero =>
    intro listed a w hsz hun hX hJ
    have hr : Region.ready .any ops listed = [] := by
      cases hrd : Region.ready .any ops listed with
      | nil => rfl
      | cons j r =>
        exfalso
        have hj : j ∈ Region.ready .any ops listed := by rw [hrd]; exact List.mem_cons_self
        obtain ⟨h0, o, ho, _⟩ := mem_ready.1 hj
        have hjl : j < listed.size := by rw [hsz]; exact (Array.getElem?_eq_some_iff.1 ho).1
        have : listed[j] ∈ listed.toList.filter (! ·) := List.mem_filter.2 ⟨by simp, by
          simp only [Array.getD_eq_getD_getElem?, Array.getElem?_eq_getElem hjl, Option.getD_some] at h0; simp [h0]⟩
        have := List.length_pos_of_mem this
        unfold unlisted at hun; omega
    exact ⟨hr, hend listed a w hsz hJ hr⟩
  | succ fuel ih =>
    intro listed a w hsz hun hX hJ
    refine ⟨fun hr => hend listed a w hsz hJ hr, fun i hi => ?_⟩
    obtain ⟨h0, o, ho, hed⟩ := mem_ready.1 hi
    have hil : i < listed.size := by rw [hsz]; exact (Array.getElem?_eq_some_iff.1 ho).1
    have h0' : listed[i] = false := by simpa [Array.getD_eq_getD_getElem?, hil] using h0
    have hni : ¬ listed.getD i false = true := by simp [hil, h0']
    have hXeq : ∀ k, (listed.setIfInBounds i true).getD k false = true ↔ (k = i ∨ listed.getD k false = true) := fun k => by
      by_cases hk : k = i
      · subst hk; simp [hil]
      · rw [getD_set_ne false (Ne.symm hk)]; simp [hk]
    have hX' : Closed ops fun k => k = i ∨ listed.getD k false = true := fun j oj hj hx e he hb => by
      rcases hx with rfl | hx
      · rw [hj] at ho; cases ho; exact .inr (hed e he hb)
      · exact .inr (hX j oj hj hx e he hb)
    have hXs : Closed ops fun k => (listed.setIfInBounds i true).getD k false = true := fun j oj hj hx e he hb => (hXeq _).2 (hX' j oj hj ((hXeq _).1 hx) e he hb)
    have hun' : unlisted (listed.setIfInBounds i true) ≤ fuel := by
      have key : ∀ (l : List Bool) (i : Nat), l[i]? = some false → ((l.set i true).filter (! ·)).length + 1 = (l.filter (! ·)).length := fun l => by
        induction l with
        | nil => intro i h; simp at h
        | cons x l ih =>
          intro i h
          cases i with
          | zero => simp at h; subst h; simp
          | succ i =>
            have := ih i (by simpa using h)
            cases x <;> simp at this ⊢ <;> omega
      have := key listed.toList i (by simp [hil, h0'])
      unfold unlisted at hun ⊢
      simp only [Array.toList_setIfInBounds]
      omega
    have hnext : ∀ a' w', JX w0 N ops objs σ (fun k => k = i ∨ listed.getD k false = true) a' w' → wpAny P .any ops Q fuel (listed.setIfInBounds i true) a' w' := fun a' w' hJ' =>
      ih _ a' w' (by simpa using hsz) hun' hXs ⟨hJ'.defers, hJ'.size, hJ'.mem, fun t k hk h1 h2 v hv => hJ'.cut t k hk (fun m hm hw => (hXeq m).1 (h1 m hm hw)) (fun m hm hw hx => h2 m hm hw ((hXeq m).2 hx)) v hv⟩
    obtain ⟨d, tv, hd, hdN, hσi, hcase⟩ := hσ i o ho
    have hguard : ∀ j b c dj, o.guard = some (j, b) → (ops[j]?).bind (·.dst) = some dj → lk dj (σ i) = some (.bool c) → yielded ops a.tmps j = some c := fun j b c dj h1 h2 h3 => by
      have hl : dj ∈ o.looksAt ops := by unfold Oper.looksAt; rw [h1]; simp [h2]
      exact yielded_eq h2 (jx_read hok hJ hX ho hni hX' hl h3).bool_inv
    unfold wpOp
    rw [ho]
    rcases hcase with ⟨hg, hy⟩ | ⟨hg, rfl⟩
    · have hw : Region.wanted o (yielded ops a.tmps) = true := by
        rcases hg with hg | ⟨j, b, dj, h1, h2, h3⟩
        · simp [Region.wanted, hg]
        · simp [Region.wanted, h1, hguard j b b dj h1 h2 h3]
      simp only [hw, if_true]
      refine .inl (hy a w _ Q hJ.mem (fun x hx v hv => ?_) fun v w' hr hsw hst => ?_)
      · cases x with
        | tmp t =>
          have hl : t ∈ o.looksAt ops := by
            unfold Oper.looksAt
            exact List.mem_append_left _ (List.mem_filterMap.2 ⟨.tmp t, hx, rfl⟩)
          exact jx_read hok hJ hX ho hni hX' hl hv
        | const u => exact tvOf_rep hv
        | func f => simp only [ev, Option.some.injEq] at hv; subst hv; exact .fn f [] #[] rfl (by simp)
        | global g => cases hv
      · rw [hd]
        exact hnext _ _ (jx_step hok hJ hX ho hni hd hdN hσ' hσi hr hsw hst)
    · have hw : Region.wanted o (yielded ops a.tmps) = false := by
        rcases hg with ⟨j, b, dj, h1, h2, h3⟩ | ⟨j, c, dj, h1, h2, h3⟩
        · cases b <;> simp [Region.wanted, h1, hguard j _ _ dj h1 h2 h3]
        · have hl : dj ∈ o.looksAt ops := by unfold Oper.looksAt; rw [h1]; simp [h2]
          simp [Region.wanted, h1, yielded_undef h2 (jx_read hok hJ hX ho hni hX' hl h3).undef_inv]
      simp only [hw, Bool.false_eq_true, if_false]
      rw [hd]
      exact hnext _ _ (jx_step hok hJ hX ho hni hd hdN hσ' hσi (.tup [] #[] rfl (by simp)) hJ.mem (step_refl _ _))

theorem aw_draw {id : Nat} {l : List Oper} {env : Env} (hm : P.follows .mixedOrders = true) (hok : drawOk l.toArray = true) (h : DR P w0 N l.toArray objs (fun env' => AQ w0 N Q .normal env' objs) l env) : AW P w0 N (.region id l.toArray true) Q env objs := ⟨fun a w hs => by
  obtain ⟨σ, h1, h2, h3⟩ := dr_steps h
  have hrep : ∀ i, (Array.replicate l.toArray.size false).getD i false = false := fun i => by
    rcases Nat.lt_or_ge i l.toArray.size with h | h
    · simp at h; simp [h]
    · simp at h; simp [Array.getD_eq_getD_getElem?, h]
  refine wp_region_any hm (any_of_jx hok (σ := σ) (fun k o hk => h3 k o (by simpa using hk)) (by simpa using h2) _ _ _ _ (by simp) (by simp [unlisted]) (fun j oj _ hx => nomatch (hrep j).symm.trans hx) ⟨hs.defers, hs.size, ?_, fun t k hk h4 h5 v hv => ?_⟩)
  · exact hs.mem.grow ⟨hs.mem.below.os, hs.mem.below.tape, hs.mem.below.output, hs.mem.below.size, hs.mem.below.block⟩ (Nat.le_refl _) (fun _ _ => rfl)
  · -- no writer of t stands before the cut
    have hk0 : ∀ m, m ≤ k → lk t (σ m) = lk t (σ 0) := fun m => by
      induction m with
      | zero => intro _; rfl
      | succ m ih =>
        intro hm2
        have hml : m < l.length := by simp at hk; omega
        obtain ⟨d, tv, e1, _, e2, _⟩ := h3 m l[m] (List.getElem?_eq_getElem hml)
        rw [e2, lk_cons, if_neg]
        · exact ih (by omega)
        · intro e
          have := h4 m (by omega) (by unfold Writes; simp [hml, e1, e])
          rw [hrep] at this; cases this
    rw [hk0 k (Nat.le_refl _), h1 t] at hv
    have hst : Step w objs { w with drawn := w.drawn + 1 } objs := ⟨fun _ _ _ => rfl, fun _ _ h => h, fun _ _ _ rows _ _ h => ⟨⟨rows, h⟩, rfl⟩, Nat.le_refl _, fun h => h⟩
    exact (hs.env t v hv).step hst⟩
end
end Go.Proofs.YtiihihgjiklnoaaGreatDoor
/- The abstract walk, part 11: rows of bytes, of numbers, of texts; a text out of bytes. -/
namespace Go.Proofs.YtiihihgjiklnoaaGreatDoor
open Go Go.RowKit

def bytR (l : List UInt8) : List (List TV) := l.map fun b => [TV.int .u8 (b.toNat : Int)]
def intR (l : List Int) : List (List TV) := l.map fun n => [TV.int .i64 n]
def strR (l : List ByteArray) : List (List TV) := l.map fun s => [TV.str s]
theorem bytR_length (l : List UInt8) : (bytR l).length = l.length := by simp [bytR]
theorem intR_length (l : List Int) : (intR l).length = l.length := by simp [intR]
theorem strR_length (l : List ByteArray) : (strR l).length = l.length := by simp [strR]
theorem intR_set (l : List Int) (k : Nat) (n : Int) : (intR l).set k [TV.int .i64 n] = intR (l.set k n) := by simp [intR, List.map_set]
theorem intR_get {l : List Int} {k : Nat} (h : k < l.length) : (intR l)[k]? = some [TV.int .i64 (l[k]'h)] := row_map h
theorem intR_flatten (l : List Int) : (intR l).flatten = l.map (TV.int .i64) := by
  induction l with
  | nil => rfl
  | cons x l ih => simp only [intR, List.map_cons, List.flatten_cons] at *; rw [ih]; rfl
theorem strR_flatten (l : List ByteArray) : (strR l).flatten = l.map TV.str := by
  induction l with
  | nil => rfl
  | cons x l ih => simp only [strR, List.map_cons, List.flatten_cons] at *; rw [ih]; rfl
theorem intR_flat (l : List Int) : ∀ t ∈ (intR l).flatten, t.flat = true := by
  rw [intR_flatten]; intro t ht; obtain ⟨n, _, rfl⟩ := List.mem_map.1 ht; rfl
theorem strR_flat (l : List ByteArray) : ∀ t ∈ (strR l).flatten, t.flat = true := by
  rw [strR_flatten]; intro t ht; obtain ⟨n, _, rfl⟩ := List.mem_map.1 ht; rfl

section
variable {P : Program} {w0 : World} {N : Nat} {Q : Exit → Act → World → Prop} {env : Env} {objs : Objs} {o : Oper}
end
end Go.Proofs.YtiihihgjiklnoaaGreatDoor
