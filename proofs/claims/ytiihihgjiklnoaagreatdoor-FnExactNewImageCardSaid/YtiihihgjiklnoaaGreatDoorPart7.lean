/- Part 7 of the proof: the texts EngB. -/
import Derived.Test.YtiihihgjiklnoaaGreatDoorPart6
import Derived.IntWalk
import Derived.Lib.Strings
import Derived.WideShapes
/- The abstract walk, part 2: the operations that write nothing. -/
namespace Go.Proofs.YtiihihgjiklnoaaGreatDoor
open Go Go.RowKit

def tv1 : Value → Option TV
  | .int k n => some (.int k n)
  | .bool b => some (.bool b)
  | .string s => some (.str s)
  | .slice none 0 0 => some .nils
  | .pointer none => some .nilp
  | _ => none
def tvL : List Value → Option (List TV)
  | [] => some []
  | v :: r => match tv1 v, tvL r with
    | some t, some l => some (t :: l)
    | _, _ => none
def tvOf : Value → Option TV
  | .agg vs => (tvL vs.toList).map .agg
  | v => tv1 v
def ev (env : Env) : Operand → Option TV
  | .tmp t => lk t env
  | .const v => tvOf v
  | .func f => some (.fn f [])
  | .global _ => none

theorem tv1_rep {w : World} {objs : Objs} {v : Value} {t : TV} (h : tv1 v = some t) : Rep w objs t v := by
  unfold tv1 at h
  split at h <;> first | (cases h; done) | skip
  all_goals simp only [Option.some.injEq] at h
  all_goals subst h
  · exact .int _ _
  · exact .bool _
  · exact .str _
  · exact .nils
  · exact .nilp
theorem tv1_cell {v : Value} {t : TV} (h : tv1 v = some t) : t.isCell = true := by
  unfold tv1 at h
  split at h <;> first | (cases h; done) | (simp only [Option.some.injEq] at h; subst h; rfl)
theorem tvL_rep {w : World} {objs : Objs} : ∀ {vs : List Value} {l : List TV}, tvL vs = some l → (l.length = vs.length ∧ ∀ t ∈ l, t.isCell = true) ∧ ∀ (i : Nat) (t : TV) (v : Value), l[i]? = some t → vs[i]? = some v → Rep w objs t v
  | [], l, h => by simp only [tvL, Option.some.injEq] at h; subst h; simp
  | v :: r, l, h => by
    unfold tvL at h
    split at h
    · rename_i t l' h1 h2
      simp only [Option.some.injEq] at h
      subst h
      obtain ⟨h3, h4⟩ := tvL_rep (w := w) (objs := objs) (vs := r) h2
      refine ⟨⟨by simp [h3.1], fun x hx => by
        rcases List.mem_cons.1 hx with rfl | hx
        · exact tv1_cell h1
        · exact h3.2 x hx⟩, fun i t' v' ht hv => ?_⟩
      cases i with
      | zero => simp at ht hv; subst ht; subst hv; exact tv1_rep h1
      | succ i => exact h4 i t' v' (by simpa using ht) (by simpa using hv)
    · cases h
theorem tvOf_rep {w : World} {objs : Objs} {v : Value} {t : TV} (h : tvOf v = some t) : Rep w objs t v := by
  unfold tvOf at h
  split at h
  · rename_i vs
    rw [Option.map_eq_some_iff] at h
    obtain ⟨l, h1, rfl⟩ := h
    obtain ⟨h2, h3⟩ := tvL_rep (w := w) (objs := objs) h1
    exact .agg l vs h2.2 (by simpa using h2.1) (fun i t v ht hv => h3 i t v ht (by simpa using hv))
  · exact tv1_rep h

/-- An operation that yields a value and turns nothing that is there. -/
def Yields (P : Program) (w0 : World) (env : Env) (objs : Objs) (o : Oper) (tv : TV) : Prop :=
  ∀ (a : Act) (w : World) (K : Act → World → Prop) (Q : Exit → Act → World → Prop), SimW w0 objs w →
    (∀ x ∈ o.op.operands.toList, ∀ v, ev env x = some v → Rep w objs v (a.eval x)) →
    (∀ v w', Rep w' objs tv v → SimW w0 objs w' → Step w objs w' objs → K (a.put o.dst v) w') → o.wp P a w K Q

theorem exec_v {P : Program} {s : Sem Value} {v : Value} {w w' : World} (h : s.run P w = .ok v w') : (do pure (Next.value (← s)) : Sem Next).run P w = .ok (.value v) w' := by
  show (Sem.bind s fun v => Sem.pure (Next.value v)).run P w = _
  have := Sem.run_bind P w s (fun v => (Pure.pure (Next.value v) : Sem Next))
  rw [h] at this
  exact this

section
variable {P : Program} {w0 : World} {N : Nat} {Q : Exit → Act → World → Prop} {env : Env} {objs : Objs} {o : Oper}

theorem yields_same {tv : TV} (h : ∀ (a : Act) (w : World), SimW w0 objs w → (∀ x ∈ o.op.operands.toList, ∀ v, ev env x = some v → Rep w objs v (a.eval x)) →
    ∃ v, (execOp a.eval o).run P w = .ok (.value v) w ∧ Rep w objs tv v) : Yields P w0 env objs o tv := fun a w K Q hw hop hK => by
  obtain ⟨v, h1, h2⟩ := h a w hw hop
  unfold Oper.wp
  rw [h1]
  exact hK v w h2 hw ⟨fun _ _ _ => rfl, fun _ _ h => h, fun _ _ _ rows _ _ h => ⟨⟨rows, h⟩, rfl⟩, Nat.le_refl _, id⟩

theorem ev_sim {a : Act} {w : World} (hs : Sim w0 N env objs a w) {x : Operand} {v : TV} (h : ev env x = some v) : Rep w objs v (a.eval x) := by
  cases x with
  | tmp t => exact hs.env t v h
  | const u => exact tvOf_rep h
  | func f => simp only [ev, Option.some.injEq] at h; subst h; exact .fn f [] #[] rfl (by simp)
  | global g => cases h

theorem getD_set {l : Array Value} {d t : Nat} {v : Value} (hd : d < l.size) : (l.setIfInBounds d v).getD t undef = if d = t then v else l.getD t undef := by
  by_cases h : d = t
  · subst h; simp [hd]
  · simp [h]
theorem Sim.put {a : Act} {w w' : World} (hs : Sim w0 N env objs a w) {d : Nat} (hd : Nat.blt d N = true) {tv : TV} {v : Value} (hr : Rep w' objs tv v) (hw : SimW w0 objs w') (hst : Step w objs w' objs) : Sim w0 N ((d, tv) :: env) objs (a.put (some d) v) w' := by
  have hlt : d < a.tmps.size := by rw [hs.size]; exact Nat.blt_eq ▸ hd
  refine ⟨hs.defers, by simp [Act.put, hs.size], hw, fun t u hu => ?_⟩
  rw [lk_cons] at hu
  show Rep w' objs u ((a.tmps.setIfInBounds d v).getD t undef)
  rw [getD_set hlt]
  split at hu
  · rename_i e; subst e; simp only [Option.some.injEq] at hu; subst hu; simp only [if_true]; exact hr
  · rename_i e; rw [if_neg e]; exact (hs.env t u hu).step hst
/-- A slot is overwritten by what nobody looks at. -/
theorem Sim.putUndef {a : Act} {w : World} (hs : Sim w0 N env objs a w) {d : Nat} (hd : Nat.blt d N = true) : Sim w0 N ((d, .tup []) :: env) objs (a.put (some d) undef) w :=
  hs.put hd (.tup [] #[] rfl (by simp)) hs.mem ⟨fun _ _ _ => rfl, fun _ _ h => h, fun _ _ _ rows _ _ h => ⟨⟨rows, h⟩, rfl⟩, Nat.le_refl _, id⟩

theorem al_none {ops : Array Oper} {rest : List Oper} (hg : o.guard = none) (h : AO P w0 N ops Q o rest env objs) : AL P w0 N ops Q (o :: rest) env objs := ⟨fun a w hs => wpList_plain hg fun K hK => h.run a w K hs hK⟩
theorem ao_q {ops : Array Oper} {rest : List Oper} {d : Nat} {tv : TV} (hd : o.dst = some d) (hN : Nat.blt d N = true) (hy : Yields P w0 env objs o tv) (h : AL P w0 N ops Q rest ((d, tv) :: env) objs) : AO P w0 N ops Q o rest env objs :=
  ⟨fun a w K hs hK => hy a w K Q hs.mem (fun x _ v hv => ev_sim hs hv) fun v w' hr hw hst => hK _ _ (by rw [hd]; exact h.run _ _ (hs.put hN hr hw hst))⟩
theorem yielded_eq {ops : Array Oper} {a : Act} {j d : Nat} {b : Bool} (hj : (ops[j]?).bind (·.dst) = some d) (hv : a.tmps.getD d undef = .bool b) : yielded ops a.tmps j = some b := by
  simp only [yielded, hj]
  simp [Array.getD_eq_getD_getElem?] at hv
  cases h : a.tmps[d]? with
  | none => rw [h] at hv; simp [undef] at hv
  | some x => rw [h] at hv; simp at hv; subst hv; simp [h]
theorem al_run {ops : Array Oper} {rest : List Oper} {dj j : Nat} {b : Bool} {v : TV} (hg : o.guard = some (j, b)) (hj : (ops[j]?).bind (·.dst) = some dj) (hb : lk dj env = some v) (hv : v = .bool b) (h : AO P w0 N ops Q o rest env objs) : AL P w0 N ops Q (o :: rest) env objs := ⟨fun a w hs =>
  wpList_step fun K hK => by
    subst hv
    have hw : Region.wanted o (yielded ops a.tmps) = true := by simp [Region.wanted, hg, yielded_eq hj (hs.env _ _ hb).bool_inv]
    rw [if_pos hw]
    exact h.run a w K hs hK⟩
theorem al_skip {ops : Array Oper} {rest : List Oper} {d dj j : Nat} {b c : Bool} {v : TV} (hg : o.guard = some (j, c)) (hj : (ops[j]?).bind (·.dst) = some dj) (hb : lk dj env = some v) (hv : v = .bool b) (hc : c = !b) (hd : o.dst = some d) (hN : Nat.blt d N = true)
    (h : AL P w0 N ops Q rest ((d, .tup []) :: env) objs) : AL P w0 N ops Q (o :: rest) env objs := ⟨fun a w hs =>
  wpList_step fun K hK => by
    subst hv; subst hc
    have hw : Region.wanted o (yielded ops a.tmps) = false := by cases b <;> simp [Region.wanted, hg, yielded_eq hj (hs.env _ _ hb).bool_inv]
    rw [hw]
    exact hK _ _ (by rw [hd]; exact h.run _ _ (hs.putUndef hN))⟩

theorem Rep.undef_inv {w : World} {v : Value} (h : Rep w objs (.tup []) v) : v = undef := by
  cases h with
  | tup l vs h h2 =>
    have : vs = #[] := Array.eq_empty_of_size_eq_zero (by simpa using h.symm)
    subst this; rfl
theorem yielded_undef {ops : Array Oper} {a : Act} {j d : Nat} (hj : (ops[j]?).bind (·.dst) = some d) (hv : a.tmps.getD d undef = undef) : yielded ops a.tmps j = none := by
  simp only [yielded, hj]
  simp [Array.getD_eq_getD_getElem?] at hv
  cases h : a.tmps[d]? with
  | none => simp [h]
  | some x => rw [h] at hv; simp [undef] at hv; subst hv; simp [h]
/-- What asks for a slot that was passed over is passed over too. -/
theorem al_skip2 {ops : Array Oper} {rest : List Oper} {d dj j : Nat} {c : Bool} {v : TV} (hg : o.guard = some (j, c)) (hj : (ops[j]?).bind (·.dst) = some dj) (hb : lk dj env = some v) (hv : v = .tup []) (hd : o.dst = some d) (hN : Nat.blt d N = true)
    (h : AL P w0 N ops Q rest ((d, .tup []) :: env) objs) : AL P w0 N ops Q (o :: rest) env objs := ⟨fun a w hs =>
  wpList_step fun K hK => by
    subst hv
    have hw : Region.wanted o (yielded ops a.tmps) = false := by simp [Region.wanted, hg, yielded_undef hj (hs.env _ _ hb).undef_inv]
    rw [hw]
    exact hK _ _ (by rw [hd]; exact h.run _ _ (hs.putUndef hN))⟩

/-- What a slot holds is known from here on. -/
theorem Sim.know {a : Act} {w : World} (hs : Sim w0 N env objs a w) {t : Nat} {v : TV} (hv : lk t env = some v) {v' : TV} (h : v = v') : Sim w0 N ((t, v') :: env) objs a w :=
  ⟨hs.defers, hs.size, hs.mem, fun t' u hu => by
    rw [lk_cons] at hu
    split at hu
    · rename_i e; subst e; simp only [Option.some.injEq] at hu; subst hu; subst h; exact hs.env _ _ hv
    · exact hs.env _ _ hu⟩
theorem al_split {ops : Array Oper} {rest : List Oper} {t : Nat} {p : Prop} {i : Decidable p} (hv : lk t env = some (.bool (@decide p i))) (ht : p → AL P w0 N ops Q rest ((t, .bool true) :: env) objs) (hf : ¬ p → AL P w0 N ops Q rest ((t, .bool false) :: env) objs) :
    AL P w0 N ops Q rest env objs := ⟨fun a w hs => by
  by_cases h : p
  · exact (ht h).run a w (hs.know hv (by simp [h]))
  · exact (hf h).run a w (hs.know hv (by simp [h]))⟩
theorem al_gsplit {ops : Array Oper} {rest : List Oper} {j d : Nat} {b : Bool} {p : Prop} {i : Decidable p} {v : TV} (_hg : o.guard = some (j, b)) (_hj : (ops[j]?).bind (·.dst) = some d) (hv : lk d env = some v) (he : v = .bool (@decide p i))
    (ht : p → AL P w0 N ops Q (o :: rest) ((d, .bool true) :: env) objs) (hf : ¬ p → AL P w0 N ops Q (o :: rest) ((d, .bool false) :: env) objs) : AL P w0 N ops Q (o :: rest) env objs := al_split (he ▸ hv) ht hf
theorem al_split_b {ops : Array Oper} {rest : List Oper} {t : Nat} {b : Bool} (hv : lk t env = some (.bool b)) (ht : b = true → AL P w0 N ops Q rest ((t, .bool true) :: env) objs) (hf : b = false → AL P w0 N ops Q rest ((t, .bool false) :: env) objs) :
    AL P w0 N ops Q rest env objs := ⟨fun a w hs => by
  cases b
  · exact (hf rfl).run a w (hs.know hv rfl)
  · exact (ht rfl).run a w (hs.know hv rfl)⟩

theorem al_gt {ops : Array Oper} {rest : List Oper} {j d : Nat} {b : Bool} {p : Prop} {i : Decidable p} {v : TV} (hg : o.guard = some (j, b)) (hj : (ops[j]?).bind (·.dst) = some d) (hv : lk d env = some v) (he : v = .bool (@decide p i)) (hp : p)
    (ht : AL P w0 N ops Q (o :: rest) ((d, .bool true) :: env) objs) : AL P w0 N ops Q (o :: rest) env objs := al_gsplit hg hj hv he (fun _ => ht) (fun h => absurd hp h)
theorem al_gf {ops : Array Oper} {rest : List Oper} {j d : Nat} {b : Bool} {p : Prop} {i : Decidable p} {v : TV} (hg : o.guard = some (j, b)) (hj : (ops[j]?).bind (·.dst) = some d) (hv : lk d env = some v) (he : v = .bool (@decide p i)) (hp : ¬ p)
    (hf : AL P w0 N ops Q (o :: rest) ((d, .bool false) :: env) objs) : AL P w0 N ops Q (o :: rest) env objs := al_gsplit hg hj hv he (fun h => absurd h hp) (fun _ => hf)
theorem al_gsplit_b {ops : Array Oper} {rest : List Oper} {j d : Nat} {b c : Bool} {v : TV} (_hg : o.guard = some (j, b)) (_hj : (ops[j]?).bind (·.dst) = some d) (hv : lk d env = some v) (he : v = .bool c)
    (ht : c = true → AL P w0 N ops Q (o :: rest) ((d, .bool true) :: env) objs) (hf : c = false → AL P w0 N ops Q (o :: rest) ((d, .bool false) :: env) objs) : AL P w0 N ops Q (o :: rest) env objs := al_split_b (he ▸ hv) ht hf

theorem beqd {α : Type} [BEq α] [LawfulBEq α] [DecidableEq α] (a b : α) : (a == b) = decide (a = b) := by rw [Bool.eq_iff_iff]; simp
/- The operations. -/
theorem y_move {x : Operand} {tv : TV} (ho : o.op = .move x) (hx : ev env x = some tv) : Yields P w0 env objs o tv := yields_same fun a w _ hop =>
  ⟨a.eval x, by simp [execOp, ho, Sem.run_pure], hop x (by simp [ho, Op.operands]) _ hx⟩
theorem y_assign {x : Operand} {tv : TV} (ho : o.op = .assign x) (hx : ev env x = some tv) : Yields P w0 env objs o tv := yields_same fun a w _ hop =>
  ⟨a.eval x, by simp [execOp, ho, Sem.run_pure], hop x (by simp [ho, Op.operands]) _ hx⟩
theorem y_pick_t {c x y : Operand} {tv cv : TV} (ho : o.op = .pick c x y) (hc : ev env c = some cv) (he : cv = .bool true) (hx : ev env x = some tv) : Yields P w0 env objs o tv := yields_same fun a w _ hop => by
  subst he
  have h1 := (hop c (by simp [ho, Op.operands]) _ hc).bool_inv
  exact ⟨a.eval x, by simp [execOp, ho, h1, asBool, Sem.run_pure], hop x (by simp [ho, Op.operands]) _ hx⟩
theorem y_pick_f {c x y : Operand} {tv cv : TV} (ho : o.op = .pick c x y) (hc : ev env c = some cv) (he : cv = .bool false) (hx : ev env y = some tv) : Yields P w0 env objs o tv := yields_same fun a w _ hop => by
  subst he
  have h1 := (hop c (by simp [ho, Op.operands]) _ hc).bool_inv
  exact ⟨a.eval y, by simp [execOp, ho, h1, asBool, Sem.run_pure], hop y (by simp [ho, Op.operands]) _ hx⟩

theorem run_eqGuard_int {op : BinOp} {t : TypeId} {x y : Operand} {k : IntKind} {m : Int} {v : Value} {w : World} : (eqGuard op t x y (.int k m) v).run P w = .ok () w := by
  unfold eqGuard
  split <;> simp_all [Sem.run_pure]
theorem run_eqGuard_bool {op : BinOp} {t : TypeId} {x y : Operand} {b : Bool} {v : Value} {w : World} : (eqGuard op t x y (.bool b) v).run P w = .ok () w := by
  unfold eqGuard
  split <;> simp_all [Sem.run_pure]
theorem run_eqGuard_str {op : BinOp} {t : TypeId} {x y : Operand} {b : ByteArray} {v : Value} {w : World} : (eqGuard op t x y (.string b) v).run P w = .ok () w := by
  unfold eqGuard
  split <;> simp_all [Sem.run_pure]

theorem y_bin_int {op : BinOp} {t t2 : TypeId} {x y : Operand} {k : IntKind} {m n : Int} {tv : TV} (ho : o.op = .binOp op t x y t2) (hx : ev env x = some (.int k m)) (hy : ev env y = some (.int k n))
    (hr : ∀ w : World, ∃ v, (binOp op t (.int k m) (.int k n)).run P w = .ok v w ∧ Rep w objs tv v) : Yields P w0 env objs o tv := yields_same fun a w _ hop => by
  have h1 := (hop x (by simp [ho, Op.operands]) _ hx).int_inv
  have h2 := (hop y (by simp [ho, Op.operands]) _ hy).int_inv
  obtain ⟨v, h3, h4⟩ := hr w
  exact ⟨v, by simp [execOp, ho, h1, h2, Sem.run_bind, run_eqGuard_int, h3], h4⟩
section
variable {t t2 : TypeId} {x y : Operand} {k : IntKind} {m n : Int}
theorem y_add {c : Int} (ho : o.op = .binOp .add t x y t2) (hx : ev env x = some (.int k m)) (hy : ev env y = some (.int k n)) (hc : k.wrap (m + n) = c) : Yields P w0 env objs o (.int k c) :=
  y_bin_int ho hx hy fun w => ⟨_, by simp [binOp, Op.intArith, Sem.run_pure]; rfl, by rw [hc]; exact .int k c⟩
theorem y_sub {c : Int} (ho : o.op = .binOp .sub t x y t2) (hx : ev env x = some (.int k m)) (hy : ev env y = some (.int k n)) (hc : k.wrap (m - n) = c) : Yields P w0 env objs o (.int k c) :=
  y_bin_int ho hx hy fun w => ⟨_, by simp [binOp, Op.intArith, Sem.run_pure]; rfl, by rw [hc]; exact .int k c⟩
theorem y_mul {c : Int} (ho : o.op = .binOp .mul t x y t2) (hx : ev env x = some (.int k m)) (hy : ev env y = some (.int k n)) (hc : k.wrap (m * n) = c) : Yields P w0 env objs o (.int k c) :=
  y_bin_int ho hx hy fun w => ⟨_, by simp [binOp, Op.intArith, Sem.run_pure]; rfl, by rw [hc]; exact .int k c⟩
theorem y_quo {c : Int} (ho : o.op = .binOp .quo t x y t2) (hx : ev env x = some (.int k m)) (hy : ev env y = some (.int k n)) (hn : n ≠ 0) (hc : k.wrap (m.tdiv n) = c) : Yields P w0 env objs o (.int k c) :=
  y_bin_int ho hx hy fun w => ⟨_, by simp [binOp, Op.intDiv, Sem.run_pure, hn]; rfl, by rw [hc]; exact .int k c⟩
theorem y_rem {c : Int} (ho : o.op = .binOp .rem t x y t2) (hx : ev env x = some (.int k m)) (hy : ev env y = some (.int k n)) (hn : n ≠ 0) (hc : m.tmod n = c) : Yields P w0 env objs o (.int k c) :=
  y_bin_int ho hx hy fun w => ⟨_, by simp [binOp, Op.intDiv, Sem.run_pure, hn]; rfl, by rw [hc]; exact .int k c⟩
def orI (k : IntKind) (m n : Int) : Int := k.wrap ((BitVec.ofInt k.bits m ||| BitVec.ofInt k.bits n).toNat : Int)
def andI (k : IntKind) (m n : Int) : Int := k.wrap ((BitVec.ofInt k.bits m &&& BitVec.ofInt k.bits n).toNat : Int)
def shlI (k : IntKind) (m n : Int) : Int := k.wrap (m * 2 ^ (min n.toNat k.bits))
theorem y_or (ho : o.op = .binOp .or t x y t2) (hx : ev env x = some (.int k m)) (hy : ev env y = some (.int k n)) : Yields P w0 env objs o (.int k (orI k m n)) :=
  y_bin_int ho hx hy fun w => ⟨_, by simp [binOp, Op.intBits, Sem.run_pure]; rfl, .int k _⟩
theorem y_and (ho : o.op = .binOp .and t x y t2) (hx : ev env x = some (.int k m)) (hy : ev env y = some (.int k n)) : Yields P w0 env objs o (.int k (andI k m n)) :=
  y_bin_int ho hx hy fun w => ⟨_, by simp [binOp, Op.intBits, Sem.run_pure]; rfl, .int k _⟩
theorem y_shl {k2 : IntKind} (ho : o.op = .binOp .shl t x y t2) (hx : ev env x = some (.int k m)) (hy : ev env y = some (.int k2 n)) (hn : 0 ≤ n) : Yields P w0 env objs o (.int k (shlI k m n)) := yields_same fun a w _ hop => by
  have h1 := (hop x (by simp [ho, Op.operands]) _ hx).int_inv
  have h2 := (hop y (by simp [ho, Op.operands]) _ hy).int_inv
  refine ⟨.int k (shlI k m n), ?_, .int k _⟩
  have h3 : ¬ n < 0 := by omega
  simp [execOp, ho, h1, h2, run_eqGuard_int, binOp, Op.shift, h3, shlI]
theorem y_eql (ho : o.op = .binOp .eql t x y t2) (hx : ev env x = some (.int k m)) (hy : ev env y = some (.int k n)) : Yields P w0 env objs o (.bool (decide (m = n))) :=
  y_bin_int ho hx hy fun w => ⟨.bool (m == n), by simp [binOp, Op.intCmp, Sem.run_pure], by rw [beqd]; exact .bool _⟩
theorem y_neq (ho : o.op = .binOp .neq t x y t2) (hx : ev env x = some (.int k m)) (hy : ev env y = some (.int k n)) : Yields P w0 env objs o (.bool (decide (m ≠ n))) :=
  y_bin_int ho hx hy fun w => ⟨.bool (m != n), by simp [binOp, Op.intCmp, Sem.run_pure], by
    have : (m != n) = decide (m ≠ n) := by rw [bne, beqd]; simp
    rw [this]; exact .bool _⟩
theorem y_lss (ho : o.op = .binOp .lss t x y t2) (hx : ev env x = some (.int k m)) (hy : ev env y = some (.int k n)) : Yields P w0 env objs o (.bool (decide (m < n))) :=
  y_bin_int ho hx hy fun w => ⟨_, by simp only [binOp, Op.intCmp, ne_eq, not_true_eq_false, if_false]; rfl, .bool _⟩
theorem y_leq (ho : o.op = .binOp .leq t x y t2) (hx : ev env x = some (.int k m)) (hy : ev env y = some (.int k n)) : Yields P w0 env objs o (.bool (decide (m ≤ n))) :=
  y_bin_int ho hx hy fun w => ⟨_, by simp only [binOp, Op.intCmp, ne_eq, not_true_eq_false, if_false]; rfl, .bool _⟩
theorem y_gtr (ho : o.op = .binOp .gtr t x y t2) (hx : ev env x = some (.int k m)) (hy : ev env y = some (.int k n)) : Yields P w0 env objs o (.bool (decide (n < m))) :=
  y_bin_int ho hx hy fun w => ⟨_, by simp only [binOp, Op.intCmp, ne_eq, not_true_eq_false, if_false]; rfl, .bool _⟩
theorem y_geq (ho : o.op = .binOp .geq t x y t2) (hx : ev env x = some (.int k m)) (hy : ev env y = some (.int k n)) : Yields P w0 env objs o (.bool (decide (n ≤ m))) :=
  y_bin_int ho hx hy fun w => ⟨_, by simp only [binOp, Op.intCmp, ne_eq, not_true_eq_false, if_false]; rfl, .bool _⟩
theorem y_conv_int {src dst : TypeId} {k2 : IntKind} {c : Int} (ho : o.op = .convert src dst x) (hx : ev env x = some (.int k m)) (hk : kdT dst = some k2) (hs : (P.underlying src).isSome = true) (hd : P.underlying dst = some (.int k2)) (hc : k2.wrap m = c) : Yields P w0 env objs o (.int k2 c) :=
  yields_same fun a w _ hop => by
    have h1 := (hop x (by simp [ho, Op.operands]) _ hx).int_inv
    refine ⟨.int k2 c, ?_, .int k2 c⟩
    obtain ⟨d, hs⟩ := Option.isSome_iff_exists.1 hs
    subst hc
    simp only [execOp, ho, h1]
    refine exec_v ?_
    simp only [convert, Sem.run_bind, run_underlying hs, run_underlying hd, Result.andThen_ok]
    simp [Conv.intToInt, Sem.run_pure]
end
section
variable {t t2 : TypeId} {x y : Operand}
theorem y_eql_b {b c : Bool} (ho : o.op = .binOp .eql t x y t2) (hx : ev env x = some (.bool b)) (hy : ev env y = some (.bool c)) (hu : P.underlying t = some .bool) : Yields P w0 env objs o (.bool (b == c)) := yields_same fun a w _ hop => by
  have h1 := (hop x (by simp [ho, Op.operands]) _ hx).bool_inv
  have h2 := (hop y (by simp [ho, Op.operands]) _ hy).bool_inv
  exact ⟨.bool (b == c), by simp [execOp, ho, h1, h2, Sem.run_bind, run_eqGuard_bool, binOp, run_equal_bool _ t b c hu], .bool _⟩
theorem y_neq_b {b c : Bool} (ho : o.op = .binOp .neq t x y t2) (hx : ev env x = some (.bool b)) (hy : ev env y = some (.bool c)) (hu : P.underlying t = some .bool) : Yields P w0 env objs o (.bool (b != c)) := yields_same fun a w _ hop => by
  have h1 := (hop x (by simp [ho, Op.operands]) _ hx).bool_inv
  have h2 := (hop y (by simp [ho, Op.operands]) _ hy).bool_inv
  exact ⟨.bool (b != c), by simp [execOp, ho, h1, h2, Sem.run_bind, run_eqGuard_bool, binOp, run_equal_bool _ t b c hu, bne], .bool _⟩
theorem toList_eq (s u : ByteArray) : (s.toList == u.toList) = decide (s = u) := by
  by_cases h : s = u
  · subst h; simp
  · have : ¬ s.toList = u.toList := fun e => h (WideShapes.bytes_inj (by rw [← Lib.toList_data, ← Lib.toList_data]; exact e))
    simp [h, this]
theorem y_bin_str {op : BinOp} {s u : ByteArray} {tv : TV} (ho : o.op = .binOp op t x y t2) (hx : ev env x = some (.str s)) (hy : ev env y = some (.str u))
    (hr : ∀ w : World, ∃ v, (Op.stringOp op s u).run P w = .ok v w ∧ Rep w objs tv v) (hs : op ≠ .shl := by decide) (hs2 : op ≠ .shr := by decide) : Yields P w0 env objs o tv := yields_same fun a w _ hop => by
  have h1 := (hop x (by simp [ho, Op.operands]) _ hx).str_inv
  have h2 := (hop y (by simp [ho, Op.operands]) _ hy).str_inv
  obtain ⟨v, h3, h4⟩ := hr w
  refine ⟨v, ?_, h4⟩
  have h5 : binOp op t (.string s) (.string u) = Op.stringOp op s u := by cases op <;> rfl
  simp [execOp, ho, h1, h2, Sem.run_bind, run_eqGuard_str, h5, h3]
theorem y_eql_s {s u : ByteArray} (ho : o.op = .binOp .eql t x y t2) (hx : ev env x = some (.str s)) (hy : ev env y = some (.str u)) : Yields P w0 env objs o (.bool (decide (s = u))) :=
  y_bin_str ho hx hy fun w => ⟨.bool (s.toList == u.toList), by simp [Op.stringOp, Sem.run_pure], by rw [toList_eq]; exact .bool _⟩
theorem y_neq_s {s u : ByteArray} (ho : o.op = .binOp .neq t x y t2) (hx : ev env x = some (.str s)) (hy : ev env y = some (.str u)) : Yields P w0 env objs o (.bool (decide (s ≠ u))) :=
  y_bin_str ho hx hy fun w => ⟨.bool (!(s.toList == u.toList)), by simp [Op.stringOp, Sem.run_pure], by
    have : (!(s.toList == u.toList)) = decide (s ≠ u) := by rw [toList_eq]; simp
    rw [this]; exact .bool _⟩
theorem run_str_add (w : World) (s u : ByteArray) (hl : s.size + u.size ≤ 9223372036854775807) : (Op.stringOp .add s u).run P w = .ok (.string (s ++ u)) w := by
  have h9 : IntKind.max .i64 = 9223372036854775807 := by decide
  have h10 : ¬ (((s.size + u.size : Nat) : Int) > IntKind.max .i64) := by rw [h9]; omega
  unfold Op.stringOp
  simp only [h10, if_false]; rfl
theorem y_add_s {s u : ByteArray} (ho : o.op = .binOp .add t x y t2) (hx : ev env x = some (.str s)) (hy : ev env y = some (.str u)) (hl : s.size + u.size ≤ 9223372036854775807) : Yields P w0 env objs o (.str (s ++ u)) :=
  y_bin_str ho hx hy fun w => ⟨.string (s ++ u), run_str_add w s u hl, .str _⟩
theorem y_not {p : Prop} {i : Decidable p} (ho : o.op = .unOp .not t x) (hx : ev env x = some (.bool (@decide p i))) : Yields P w0 env objs o (.bool (decide (¬ p))) := yields_same fun a w _ hop => by
  have h1 := (hop x (by simp [ho, Op.operands]) _ hx).bool_inv
  refine ⟨.bool (!(decide p)), by simp [execOp, ho, h1, Op.unary, Sem.run_pure], ?_⟩
  have : (!(decide p)) = decide (¬ p) := by simp
  rw [this]; exact .bool _
theorem y_not_b {b : Bool} (ho : o.op = .unOp .not t x) (hx : ev env x = some (.bool b)) : Yields P w0 env objs o (.bool (!b)) := yields_same fun a w _ hop => by
  have h1 := (hop x (by simp [ho, Op.operands]) _ hx).bool_inv
  exact ⟨.bool (!b), by simp [execOp, ho, h1, Op.unary, Sem.run_pure], .bool _⟩
end
end
end Go.Proofs.YtiihihgjiklnoaaGreatDoor
