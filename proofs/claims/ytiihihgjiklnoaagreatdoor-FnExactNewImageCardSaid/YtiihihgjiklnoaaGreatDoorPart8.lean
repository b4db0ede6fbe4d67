/- Part 8 of the proof: the texts EngC. -/
import Derived.Test.YtiihihgjiklnoaaGreatDoorPart7
/- The abstract walk, part 3: addresses, loads, indices, lengths, parts of strings, structs by value. -/
namespace Go.Proofs.YtiihihgjiklnoaaGreatDoor
open Go Go.RowKit

section
variable {P : Program} {w0 : World} {N : Nat} {Q : Exit → Act → World → Prop} {env : Env} {objs : Objs} {o : Oper}

def isScal (P : Program) (t : TypeId) : Bool := match P.underlying t with
  | some (.struct _) | some (.array _ _) | none => false
  | _ => true
def isAggB (P : Program) (t : TypeId) : Bool := match P.underlying t with
  | some (.struct _) => true
  | _ => false
theorem run_isAgg_f {t : TypeId} {w : World} (h : isScal P t = true) : (isAgg t).run P w = .ok false w := by
  unfold isScal at h
  unfold isAgg
  cases hu : P.underlying t with
  | none => rw [hu] at h; cases h
  | some d =>
    simp only [Sem.run_bind, run_underlying hu, Result.andThen_ok]
    rw [hu] at h
    cases d <;> first | rfl | cases h
theorem run_isAgg_t {t : TypeId} {w : World} (h : isAggB P t = true) : (isAgg t).run P w = .ok true w := by
  unfold isAggB at h
  unfold isAgg
  cases hu : P.underlying t with
  | none => rw [hu] at h; cases h
  | some d =>
    simp only [Sem.run_bind, run_underlying hu, Result.andThen_ok]
    rw [hu] at h
    cases d <;> first | rfl | cases h
theorem run_size {t : TypeId} {w : World} (h : (P.info? t).isSome = true) (hs : P.cellsOf t = szT t) : (sizeOf t).run P w = .ok (szT t) w := by
  cases hi : P.info? t with
  | none => rw [hi] at h; cases h
  | some i => rw [run_sizeOf w hi, hs]

/-- What can be read at a pointer. -/
inductive Place (w : World) (objs : Objs) : TV → List TV → Prop
  | cp (f : Nat) (l : List TV) : Place w objs (.cp f l) l
  | mp (s b off : Nat) (cells : List TV) (hm : (s, b, TObj.box cells) ∈ objs) : Place w objs (.mp s b off) (cells.drop off)
  | me (s b m k j : Nat) (rows : List (List TV)) (r : List TV) (hm : (s, b, TObj.row m rows) ∈ objs) (hr : rows[k]? = some r) : Place w objs (.me s b m k j) (r.drop j)

theorem flatten_at {m : Nat} : ∀ {rows : List (List TV)}, (∀ r ∈ rows, r.length = m) → ∀ {k j : Nat} {r : List TV}, rows[k]? = some r → j < m → rows.flatten[k * m + j]? = r[j]?
  | [], _, k, j, r, hk, _ => by simp at hk
  | x :: rest, hm, k, j, r, hk, hj => by
    have hx := hm x (by simp)
    rw [List.flatten_cons]
    cases k with
    | zero =>
      simp at hk; subst hk
      rw [Nat.zero_mul, Nat.zero_add, List.getElem?_append_left (by omega)]
    | succ k =>
      have e : (k + 1) * m + j = x.length + (k * m + j) := by rw [hx, Nat.add_mul, Nat.one_mul]; omega
      rw [e, List.getElem?_append_right (by omega), Nat.add_sub_cancel_left]
      exact flatten_at (fun r hr => hm r (by simp [hr])) (by simpa using hk) hj
theorem length_flatten {m : Nat} : ∀ {rows : List (List TV)}, (∀ r ∈ rows, r.length = m) → rows.flatten.length = rows.length * m
  | [], _ => by simp
  | x :: rest, hm => by
    rw [List.flatten_cons, List.length_append, hm x (by simp), length_flatten (rows := rest) (fun r hr => hm r (by simp [hr])), List.length_cons, Nat.add_mul, Nat.one_mul]; omega

theorem place_cells {w : World} (hw : SimW w0 objs w) {tv : TV} {l : List TV} {v : Value} (hp : Place w objs tv l) (hr : Rep w objs tv v) :
    ∃ b o, v = .pointer (some ⟨b, o, none⟩) ∧ (∀ t ∈ l, t.isCell = true) ∧ ∀ (j : Nat) (t : TV), l[j]? = some t → ∃ u, w.cell? ⟨b, o + j, none⟩ = some u ∧ Rep w objs t u := by
  cases hp with
  | cp f l =>
    cases hr with
    | cp f l hi b o g hZ hb hc hr => exact ⟨b, o, rfl, hi, fun j t hj => ⟨g j, hc j t hj, hr j t hj⟩⟩
  | mp s b off cells hm =>
    cases hr with
    | mp s b off h =>
      obtain ⟨hc0, cur, e, h2, h3, h4⟩ := hw.obj s b _ hm
      refine ⟨b, off, rfl, fun t ht => hc0.2 t (List.mem_of_mem_drop ht), fun j t hj => ?_⟩
      rw [List.getElem?_drop] at hj
      obtain ⟨u, h5, h6⟩ := h4 _ t hj
      exact ⟨u, by rw [cell_of_row w b _ cur e (0, 0) h2]; exact h5, h6⟩
  | me s b m k j rows r hm hk =>
    cases hr with
    | me s b m k j h =>
      obtain ⟨h1, h2, h3⟩ := hw.obj s b _ hm
      rcases h3 with ⟨_, h3⟩ | ⟨_, cur, e, cap, h4, h5, h6, h7, h8⟩
      · subst h3; simp at hk
      · refine ⟨b, k * m + j, rfl, fun t ht => h1.2 t (List.mem_flatten.2 ⟨r, List.mem_of_getElem? hk, List.mem_of_mem_drop ht⟩), fun i t hi => ?_⟩
        rw [List.getElem?_drop] at hi
        have hlt : j + i < r.length := (List.getElem?_eq_some_iff.1 hi).1
        have hrm : r.length = m := h2 r (List.mem_of_getElem? hk)
        have hfl := flatten_at h2 hk (j := j + i) (by omega)
        obtain ⟨u, h9, h10⟩ := h8 _ t (hfl.trans hi)
        exact ⟨u, by rw [cell_of_row w b _ cur e (0, 0) h4, Nat.add_assoc]; exact h9, h10⟩

theorem y_nilCheck {x : Operand} {tv : TV} {l : List TV} (ho : o.op = .nilCheck x) (hx : ev env x = some tv) (hp : ∀ w, Place w objs tv l) : Yields P w0 env objs o tv := yields_same fun a w hw hop => by
  have h0 := hop x (by simp [ho, Op.operands]) _ hx
  obtain ⟨b, q, h1, _, _⟩ := place_cells hw (hp w) h0
  exact ⟨a.eval x, by simp [execOp, ho, h1, Sem.run_pure], h0⟩

/-- A load of one cell. -/
theorem y_load {T : TypeId} {x : Operand} {tv c : TV} {l r : List TV} (ho : o.op = .load T x) (hT : isScal P T = true) (hx : ev env x = some tv) (hp : ∀ w, Place w objs tv l) (hl : l = c :: r) : Yields P w0 env objs o c := yields_same fun a w hw hop => by
  have h0 := hop x (by simp [ho, Op.operands]) _ hx
  obtain ⟨b, q, h1, hci, h2⟩ := place_cells hw (hp w) h0
  subst hl
  obtain ⟨u, h3, h4⟩ := h2 0 c rfl
  refine ⟨u, ?_, h4⟩
  simp only [execOp, ho, h1]
  refine exec_v ?_
  simp only [Instr.loadAt, Instr.sureAddr, loadVar, Sem.run_bind, Sem.run_pure, Result.andThen_ok, run_isAgg_f hT]
  show Sem.run P (load ⟨b, q, none⟩) w = _
  rw [run_load, show w.cell? ⟨b, q, none⟩ = some u from h3]
/-- A load of a struct. -/
inductive Taken : Nat → List TV → List TV → Prop
  | zero (l : List TV) : Taken 0 l []
  | succ (n : Nat) (x : TV) (l o : List TV) (h : Taken n l o) : Taken (n + 1) (x :: l) (x :: o)
theorem Taken.eq {n : Nat} {l o : List TV} (h : Taken n l o) : n ≤ l.length ∧ o = l.take n := by
  induction h with
  | zero l => simp
  | succ n x l o h ih => simp [ih.1, ih.2]
theorem y_load_agg {T : TypeId} {x : Operand} {tv : TV} {l out : List TV} (ho : o.op = .load T x) (hT : isAggB P T = true) (hi : (P.info? T).isSome = true) (hs : P.cellsOf T = szT T) (hx : ev env x = some tv) (hp : ∀ w, Place w objs tv l) (htk : Taken (szT T) l out) :
    Yields P w0 env objs o (.agg out) := yields_same fun a w hw hop => by
  obtain ⟨hl, rfl⟩ := htk.eq
  have h0 := hop x (by simp [ho, Op.operands]) _ hx
  obtain ⟨b, q, h1, hci, h2⟩ := place_cells hw (hp w) h0
  have h3 : ∀ j, j < szT T → ∃ u, w.cell? ⟨b, q + j, none⟩ = some u ∧ ∀ t, l[j]? = some t → Rep w objs t u := fun j hj => by
    obtain ⟨u, h4, h5⟩ := h2 j l[j] (List.getElem?_eq_getElem (by omega))
    exact ⟨u, h4, fun t ht => by rw [List.getElem?_eq_getElem (by omega)] at ht; simp only [Option.some.injEq] at ht; subst ht; exact h5⟩
  have h4 : ∀ j, ∃ u, j < szT T → w.cell? ⟨b, q + j, none⟩ = some u ∧ ∀ t, l[j]? = some t → Rep w objs t u := fun j => by
    by_cases hj : j < szT T
    · obtain ⟨u, hu⟩ := h3 j hj; exact ⟨u, fun _ => hu⟩
    · exact ⟨undef, fun h => absurd h hj⟩
  let g : Nat → Value := fun j => Classical.choose (h4 j)
  have hg : ∀ j, j < szT T → w.cell? ⟨b, q + j, none⟩ = some (g j) ∧ ∀ t, l[j]? = some t → Rep w objs t (g j) := fun j => Classical.choose_spec (h4 j)
  refine ⟨.agg ((List.range (szT T)).map g).toArray, ?_, .agg _ _ (fun t ht => hci t (List.mem_of_mem_take ht)) (by simp; omega) fun i t v ht hv => ?_⟩
  · simp only [execOp, ho, h1]
    refine exec_v ?_
    simp only [Instr.loadAt, Instr.sureAddr, loadVar, Sem.run_bind, Sem.run_pure, Result.andThen_ok, run_isAgg_t hT, if_true, run_size hi hs]
    rw [run_loadCells w ⟨b, q, none⟩ (szT T) g (fun j hj => by rw [Addr.add_lit]; exact (hg j hj).1)]
    rfl
  · rw [List.getElem?_take] at ht
    split at ht
    · rename_i hlt
      simp only [List.getElem?_toArray, List.getElem?_map, List.getElem?_range hlt, Option.map_some, Option.some.injEq] at hv
      subst hv
      exact (hg i hlt).2 t ht
    · cases ht

/-- A field of a struct: its place and that it has a cell. -/
def fieldB (P : Program) (T k : Nat) : Bool := match P.underlying T with
  | some (.struct fs) => (match fs[k]? with
    | some f => f.offset == ofT T k && (match P.info? f.type with | some i => i.size != 0 | none => false)
    | none => false)
  | _ => false
theorem fieldB_spec {T k : Nat} (h : fieldB P T k = true) : ∃ fs f i, P.underlying T = some (.struct fs) ∧ fs[k]? = some f ∧ f.offset = ofT T k ∧ P.info? f.type = some i ∧ i.size ≠ 0 := by
  unfold fieldB at h
  split at h
  · rename_i fs hu
    split at h
    · rename_i f hf
      simp only [Bool.and_eq_true, beq_iff_eq] at h
      obtain ⟨h1, h2⟩ := h
      split at h2
      · rename_i i hi; exact ⟨fs, f, i, hu, hf, h1, hi, by simpa using h2⟩
      · cases h2
    · cases h
  · cases h
def tvOff (off : Nat) : TV → Option TV
  | .cp f l => some (.cp f (l.drop off))
  | .mp s b o => some (.mp s b (o + off))
  | .me s b m k j => some (.me s b m k (j + off))
  | _ => none
theorem run_fieldAt {T k : Nat} {w : World} {b q : Nat} (h : fieldB P T k = true) : (Instr.fieldAt T (.pointer (some ⟨b, q, none⟩)) k).run P w = .ok (.pointer (some ⟨b, q + ofT T k, none⟩)) w := by
  obtain ⟨fs, f, i, h1, h2, h3, h4, h5⟩ := fieldB_spec h
  have hc : P.cellsOf f.type = i.size := by simp [Program.cellsOf, h4]
  simp only [Instr.fieldAt, Sem.run_bind, run_underlying h1, Result.andThen_ok, h2, Instr.sureAddr, Sem.run_pure, fieldPlace, run_sizeOf w h4, hc, if_neg h5, Addr.add_lit, h3]
theorem y_fieldAddr {T : TypeId} {x : Operand} {tv tv' : TV} {k : Nat} (ho : o.op = .fieldAddr T x k) (hx : ev env x = some tv)
    (hF : fieldB P T k = true) (ht : tvOff (ofT T k) tv = some tv') : Yields P w0 env objs o tv' := yields_same fun a w hw hop => by
  have h0 := hop x (by simp [ho, Op.operands]) _ hx
  have key : ∀ b q, a.eval x = .pointer (some ⟨b, q, none⟩) → (execOp a.eval o).run P w = .ok (.value (.pointer (some ⟨b, q + ofT T k, none⟩))) w := fun b q h => by
    simp only [execOp, ho, h]
    exact exec_v (run_fieldAt hF)
  generalize a.eval x = v at h0 key
  cases h0 <;> simp only [tvOff, Option.some.injEq, reduceCtorEq] at ht
  all_goals subst ht
  · rename_i f l hi b q g hZ hb hc hr
    refine ⟨_, key _ _ rfl, .cp f _ (fun t ht => hi t (List.mem_of_mem_drop ht)) b _ (fun j => g (ofT T k + j)) hZ hb (fun j t hj => ?_) (fun j t hj => ?_)⟩
    · rw [List.getElem?_drop] at hj; rw [Nat.add_assoc]; exact hc _ t hj
    · rw [List.getElem?_drop] at hj; exact hr _ t hj
  · rename_i s b q h
    exact ⟨_, key _ _ rfl, .mp s b _ h⟩
  · rename_i s b m i j h
    exact ⟨_, key _ _ rfl, by rw [Nat.add_assoc]; exact .me s b m i _ h⟩

/-- The element of a slice that nobody writes. -/
theorem y_indexAddr {T : TypeId} {x i : Operand} {f : Nat} {m : Nat} {rows : List (List TV)} {kk : IntKind} {n : Int} {k : Nat} {r : List TV} (ho : o.op = .indexAddr T x i) (hx : ev env x = some (.sl f m rows)) (hi : ev env i = some (.int kk n))
    (hT : P.underlying T = some (.slice (P.elem T))) (hI : (P.info? (P.elem T)).isSome = true) (hm : P.cellsOf (P.elem T) = m) (hm0 : Nat.blt 0 m = true) (hn : n = (k : Int)) (hr : rows[k]? = some r) : Yields P w0 env objs o (.cp f r) := yields_same fun a w hw hop => by
  have h0 := hop x (by simp [ho, Op.operands]) _ hx
  have h1 := (hop i (by simp [ho, Op.operands]) _ hi).int_inv
  have hm0 : 0 < m := Nat.blt_eq ▸ hm0
  generalize hv : a.eval x = v at h0
  cases h0 with
  | sl f m rows A c g1 g2 g3 gi g g4 g5 =>
    have hk : k < rows.length := (List.getElem?_eq_some_iff.1 hr).1
    have hrm : r.length = m := g3 r (List.mem_of_getElem? hr)
    have hfl : ∀ j, j < m → rows.flatten[k * m + j]? = r[j]? := fun j hj => flatten_at g3 hr hj
    obtain ⟨b, q, hA, hZ, hc0⟩ := g4 (k * m + 0) r[0] ((hfl 0 hm0).trans (List.getElem?_eq_getElem (by omega)))
    subst hA
    cases hie : P.info? (P.elem T) with
    | none => rw [hie] at hI; cases hI
    | some ie =>
    have hb := lt_of_cell hc0
    have hcells : ∀ (j : Nat) (t : TV), r[j]? = some t → w.cell? ⟨b, q + k * m + j, none⟩ = some (g (k * m + j)) ∧ Rep w objs t (g (k * m + j)) := fun j t hj => by
      have hjm : j < m := by rw [← hrm]; exact (List.getElem?_eq_some_iff.1 hj).1
      have h6 := (hfl j hjm).trans hj
      obtain ⟨b', q', h7, _, h8⟩ := g4 _ t h6
      simp only [Option.some.injEq, Addr.mk.injEq, and_true] at h7
      obtain ⟨rfl, rfl⟩ := h7
      exact ⟨by rw [Nat.add_assoc]; exact h8, g5 _ t h6⟩
    refine ⟨.pointer (some ⟨b, q + k * m, none⟩), ?_, .cp f r (fun t ht => gi t (List.mem_flatten.2 ⟨r, List.mem_of_getElem? hr, ht⟩)) b (q + k * m) (fun j => g (k * m + j)) hZ hb (fun j t hj => (hcells j t hj).1) (fun j t hj => (hcells j t hj).2)⟩
    simp only [execOp, ho, h1, hv]
    refine exec_v ?_
    rw [run_indexAt_slice w T _ _ _ _ _ hT, if_pos ⟨by omega, by omega⟩, run_sizeOf w hie, hm]
    simp [Result.andThen_ok, hn, Addr.add_lit]

/-- The element of a row that the call owns. -/
theorem y_indexAddr_ms {T : TypeId} {x i : Operand} {s b off len m : Nat} {rows : List (List TV)} {kk : IntKind} {n : Int} {k : Nat} (ho : o.op = .indexAddr T x i) (hx : ev env x = some (.ms s b off len)) (hi : ev env i = some (.int kk n))
    (hobj : (s, b, TObj.row m rows) ∈ objs) (hT : P.underlying T = some (.slice (P.elem T))) (hI : (P.info? (P.elem T)).isSome = true) (hm : P.cellsOf (P.elem T) = m) (hn : n = (k : Int)) (hk : k < len) :
    Yields P w0 env objs o (.me s b m (off + k) 0) := yields_same fun a w hw hop => by
  have h0 := hop x (by simp [ho, Op.operands]) _ hx
  have h1 := (hop i (by simp [ho, Op.operands]) _ hi).int_inv
  generalize hv : a.eval x = v at h0
  cases h0 with
  | ms s b off len v h =>
    have hor := h.or
    obtain ⟨⟨hb, hmk, _⟩, _⟩ := h
    rcases hor m rows hobj with ⟨_, _, h2, _⟩ | ⟨_, q, c, e, nn, h2, h3, h4, h5, h6⟩
    · omega
    · have hq := h6 (.inl (by omega))
      subst hq
      subst h2
      cases hie : P.info? (P.elem T) with
      | none => rw [hie] at hI; cases hI
      | some ie =>
      refine ⟨.pointer (some ⟨b, (off + k) * m + 0, none⟩), ?_, .me s b m (off + k) 0 ⟨hb, hmk⟩⟩
      simp only [execOp, ho, h1, hv]
      refine exec_v ?_
      rw [run_indexAt_slice w T _ _ _ _ _ hT, if_pos ⟨by omega, by omega⟩, run_sizeOf w hie, hm]
      simp [Result.andThen_ok, hn, Addr.add_lit, Nat.add_mul]

/-- The byte at a place. -/
def bat (s : ByteArray) (j : Nat) : Int := ((s.data.toList.getD j 0).toNat : Int)
theorem bat_bd (s : ByteArray) (j : Nat) : 0 ≤ bat s j ∧ bat s j ≤ 255 := ⟨by unfold bat; omega, by unfold bat; have := (s.data.toList.getD j 0).toNat_lt; omega⟩
theorem bat_eq (s : ByteArray) {j : Nat} (h : j < s.size) : bat s j = (s[j].toNat : Int) := by
  unfold bat
  have h1 : j < s.data.toList.length := by rw [Array.length_toList]; exact h
  rw [List.getD_eq_getElem?_getD, List.getElem?_eq_getElem h1]; rfl
theorem y_index_s {T : TypeId} {x i : Operand} {s : ByteArray} {kk : IntKind} {n : Int} {k : Nat} (ho : o.op = .index T x i) (hx : ev env x = some (.str s)) (hi : ev env i = some (.int kk n)) (hT : P.underlying T = some .string) (hn : n = (k : Int)) (hk : k < s.size) :
    Yields P w0 env objs o (.int .u8 (bat s k)) := yields_same fun a w hw hop => by
  rw [bat_eq s hk]
  have h0 := (hop x (by simp [ho, Op.operands]) _ hx).str_inv
  have h1 := (hop i (by simp [ho, Op.operands]) _ hi).int_inv
  refine ⟨.int .u8 ((s[k]'hk).toNat : Int), ?_, .int _ _⟩
  simp only [execOp, ho, h0, h1]
  refine exec_v ?_
  subst hn
  rw [run_index_string w T s kk _ hT, dif_pos ⟨by omega, by omega⟩]
  simp

theorem exec_len {x : Operand} {t : TypeId} (ho : o.op = .call { callee := .builtin .len, args := #[x], argTypes := #[t] }) {a : Act} {w : World} {v : Value} (h : (Builtin.len_ #[t] o.type #[a.eval x]).run P w = .ok v w) :
    (execOp a.eval o).run P w = .ok (.value v) w := by
  simp only [execOp, ho, resolve, Sem.run_bind, Sem.run_pure, Result.andThen_ok, invoke, builtin, List.map_toArray, List.map_cons, List.map_nil]
  rw [h]; rfl
theorem len_opnd {x : Operand} {t : TypeId} (ho : o.op = .call { callee := .builtin .len, args := #[x], argTypes := #[t] }) : x ∈ o.op.operands.toList := by simp [ho, Op.operands, Call.operands]
theorem y_len_s {x : Operand} {t : TypeId} {s : ByteArray} (ho : o.op = .call { callee := .builtin .len, args := #[x], argTypes := #[t] }) (hx : ev env x = some (.str s)) (hT : P.underlying t = some .string) : Yields P w0 env objs o (.int .i64 (s.size : Int)) := yields_same fun a w hw hop => by
  have h0 := (hop x (len_opnd ho) _ hx).str_inv
  refine ⟨.int .i64 (s.size : Int), exec_len ho ?_, .int _ _⟩
  rw [h0]
  simp only [Builtin.len_]
  simp [run_underlying hT, Sem.run_pure, goInt]
theorem y_len_sl {x : Operand} {t : TypeId} {f : Nat} {m n : Nat} {rows : List (List TV)} (ho : o.op = .call { callee := .builtin .len, args := #[x], argTypes := #[t] }) (hx : ev env x = some (.sl f m rows)) (hT : P.underlying t = some (.slice (P.elem t))) (hn : rows.length = n) : Yields P w0 env objs o (.int .i64 (n : Int)) := yields_same fun a w hw hop => by
  have h0 := hop x (len_opnd ho) _ hx
  generalize hv : a.eval x = v at h0
  cases h0 with
  | sl f m rows A c g1 g2 g3 gi g g4 g5 =>
    refine ⟨.int .i64 (n : Int), exec_len ho ?_, .int _ _⟩
    rw [hv, run_len_slice w t _ _ _ _ hT, hn]; rfl
theorem y_len_ms {x : Operand} {t : TypeId} {s b off len : Nat} (ho : o.op = .call { callee := .builtin .len, args := #[x], argTypes := #[t] }) (hx : ev env x = some (.ms s b off len)) (hT : P.underlying t = some (.slice (P.elem t))) :
    Yields P w0 env objs o (.int .i64 (len : Int)) := yields_same fun a w hw hop => by
  have h0 := hop x (len_opnd ho) _ hx
  generalize hv : a.eval x = v at h0
  cases h0 with
  | ms s b off len v h =>
    refine ⟨.int .i64 (len : Int), exec_len ho ?_, .int _ _⟩
    obtain ⟨A, c, h2⟩ := h.1.2.2
    rw [hv, h2, run_len_slice w t _ _ _ _ hT]; rfl

theorem y_len_nils {x : Operand} {t : TypeId} (ho : o.op = .call { callee := .builtin .len, args := #[x], argTypes := #[t] }) (hx : ev env x = some .nils) (hT : P.underlying t = some (.slice (P.elem t))) : Yields P w0 env objs o (.int .i64 0) := yields_same fun a w hw hop => by
  have h0 := hop x (len_opnd ho) _ hx
  generalize hv : a.eval x = v at h0
  cases h0
  exact ⟨.int .i64 0, exec_len ho (by rw [hv, run_len_slice w t _ _ _ _ hT]; rfl), .int _ _⟩

theorem y_extract {x : Operand} {k : Nat} {l : List TV} {t : TV} (ho : o.op = .extract x k) (hx : ev env x = some (.tup l)) (ht : l[k]? = some t) : Yields P w0 env objs o t := yields_same fun a w hw hop => by
  have h0 := hop x (by simp [ho, Op.operands]) _ hx
  generalize hv : a.eval x = v at h0
  cases h0 with
  | tup l vs h1 h2 =>
    have hk : k < vs.size := by rw [← h1]; exact (List.getElem?_eq_some_iff.1 ht).1
    refine ⟨vs[k], ?_, h2 k t _ ht (by simp [hk])⟩
    simp only [execOp, ho, hv]
    refine exec_v ?_
    simp [Instr.extract, hk, Sem.run_pure]

theorem y_field {T : TypeId} {x : Operand} {k : Nat} {l : List TV} {t : TV} (ho : o.op = .field T x k) (hx : ev env x = some (.agg l)) (hF : fieldB P T k = true) (hS : isScal P ((P.fieldsOf T).getD k default).type = true) (ht : l[ofT T k]? = some t) : Yields P w0 env objs o t := yields_same fun a w hw hop => by
  have h0 := hop x (by simp [ho, Op.operands]) _ hx
  generalize hv : a.eval x = v at h0
  cases h0 with
  | agg l vs hi h1 h2 =>
    obtain ⟨fs, f, i, g1, g2, g3, g4, g5⟩ := fieldB_spec hF
    have hk : ofT T k < vs.size := by rw [← h1]; exact (List.getElem?_eq_some_iff.1 ht).1
    refine ⟨vs[ofT T k], ?_, h2 _ t _ ht (by simp [hk])⟩
    have g6 : P.fieldsOf T = fs := by simp [Program.fieldsOf, g1]
    have g7 : ((P.fieldsOf T).getD k default).type = f.type := by rw [g6]; simp [Array.getD_eq_getD_getElem?, g2]
    rw [g7] at hS
    simp only [execOp, ho, hv]
    refine exec_v ?_
    simp only [Instr.field, Sem.run_bind, run_underlying g1, Result.andThen_ok, g2, asAgg, Sem.run_pure, part, run_isAgg_f hS]
    simp [g3, hk, Sem.run_pure]
section
variable {T : TypeId} {x : Operand} {s : ByteArray}
theorem slice_opnd {lo hi mx : Option Operand} (ho : o.op = .slice T x lo hi mx) : x ∈ o.op.operands.toList := by simp [ho, Op.operands]
theorem run_sliceAt_str {w : World} (hT : P.underlying T = some .string) (lo hi mx : Option Value) : (Instr.sliceAt T (.string s) lo hi mx).run P w = (Instr.slice T (.string s) lo hi mx).run P w := by
  simp only [Instr.sliceAt, Sem.run_bind, run_underlying hT, Result.andThen_ok]
theorem y_slice_lh {lo hi : Operand} {k1 k2 : IntKind} {i j : Nat} {m n : Int} (ho : o.op = .slice T x (some lo) (some hi) none) (hx : ev env x = some (.str s)) (hlo : ev env lo = some (.int k1 m)) (hhi : ev env hi = some (.int k2 n)) (hT : P.underlying T = some .string)
    (hm : m = (i : Int)) (hn : n = (j : Int)) (h1 : i ≤ j) (h2 : j ≤ s.size) : Yields P w0 env objs o (.str (s.extract i j)) := yields_same fun a w hw hop => by
  have h0 := (hop x (slice_opnd ho) _ hx).str_inv
  have g1 := (hop lo (by simp [ho, Op.operands]) _ hlo).int_inv
  have g2 := (hop hi (by simp [ho, Op.operands]) _ hhi).int_inv
  refine ⟨.string (s.extract i j), ?_, .str _⟩
  simp only [execOp, ho, h0, g1, g2, Option.map_some, Option.map_none]
  refine exec_v ?_
  rw [run_sliceAt_str hT, run_slice_string w T s k1 k2 _ _ hT (by omega) (by omega) (by omega)]
  subst hm; subst hn; simp
theorem y_slice_l {lo : Operand} {k1 : IntKind} {i : Nat} {m : Int} (ho : o.op = .slice T x (some lo) none none) (hx : ev env x = some (.str s)) (hlo : ev env lo = some (.int k1 m)) (hT : P.underlying T = some .string)
    (hm : m = (i : Int)) (h1 : i ≤ s.size) : Yields P w0 env objs o (.str (s.extract i s.size)) := yields_same fun a w hw hop => by
  have h0 := (hop x (slice_opnd ho) _ hx).str_inv
  have g1 := (hop lo (by simp [ho, Op.operands]) _ hlo).int_inv
  refine ⟨.string (s.extract i s.size), ?_, .str _⟩
  simp only [execOp, ho, h0, g1, Option.map_some, Option.map_none]
  refine exec_v ?_
  rw [run_sliceAt_str hT, run_slice_string_l w T s hT k1 _ (by omega) (by omega)]
  subst hm; simp
theorem y_slice_h {hi : Operand} {k2 : IntKind} {j : Nat} {n : Int} (ho : o.op = .slice T x none (some hi) none) (hx : ev env x = some (.str s)) (hhi : ev env hi = some (.int k2 n)) (hT : P.underlying T = some .string)
    (hn : n = (j : Int)) (h2 : j ≤ s.size) : Yields P w0 env objs o (.str (s.extract 0 j)) := yields_same fun a w hw hop => by
  have h0 := (hop x (slice_opnd ho) _ hx).str_inv
  have g2 := (hop hi (by simp [ho, Op.operands]) _ hhi).int_inv
  refine ⟨.string (s.extract 0 j), ?_, .str _⟩
  simp only [execOp, ho, h0, g2, Option.map_some, Option.map_none]
  refine exec_v ?_
  rw [run_sliceAt_str hT, run_slice_string_h w T s hT k2 _ (by omega) (by omega)]
  subst hn; simp
end
end
end Go.Proofs.YtiihihgjiklnoaaGreatDoor
