/- Part 3 of the proof: the texts EngC, EngD, EngE, EngF. -/
import Derived.Test.YthpdkhejeookhaaGreatDoorPart2
import Derived.Great.BuildSlice
import Derived.Deep.AppendLies
/- The abstract walk, part 3: addresses, loads, indices, lengths, parts of strings, structs by value. -/
namespace Go.Proofs.YthpdkhejeookhaaGreatDoor
open Go Go.RowKit

section
variable {P : Program} {w0 : World} {N : Nat} {Q : Exit → Act → World → Prop} {env : Env} {objs : bp} {o : Oper}

def fT (P : Program) (t : TypeId) : Bool := match P.underlying t with
  | some (.struct _) | some (.array _ _) | none => false
  | _ => true
def iy (P : Program) (t : TypeId) : Bool := match P.underlying t with
  | some (.struct _) => true
  | _ => false
theorem ft {t : TypeId} {w : World} (h : fT P t = true) : (isAgg t).run P w = .ok false w := by
  unfold fT at h
  unfold isAgg
  cases hu : P.underlying t with
  | none => rw [hu] at h; cases h
  | some d =>
    simp only [Sem.run_bind, run_underlying hu, Result.andThen_ok]
    rw [hu] at h
    cases d <;> first | rfl | cases h
theorem kE {t : TypeId} {w : World} (h : iy P t = true) : (isAgg t).run P w = .ok true w := by
  unfold iy at h
  unfold isAgg
  cases hu : P.underlying t with
  | none => rw [hu] at h; cases h
  | some d =>
    simp only [Sem.run_bind, run_underlying hu, Result.andThen_ok]
    rw [hu] at h
    cases d <;> first | rfl | cases h
theorem wc {t : TypeId} {w : World} (h : (P.info? t).isSome = true) (hs : P.cellsOf t = szT t) : (sizeOf t).run P w = .ok (szT t) w := by
  cases hi : P.info? t with
  | none => rw [hi] at h; cases h
  | some i => rw [run_sizeOf w hi, hs]

inductive oE (w : World) (objs : bp) : TV → List TV → Prop
  | cp (f : Nat) (l : List TV) : oE w objs (.cp f l) l
  | mp (s b off : Nat) (cells : List TV) (hm : (s, b, ca.box cells) ∈ objs) : oE w objs (.mp s b off) (cells.drop off)
  | me (s b m k j : Nat) (rows : List (List TV)) (r : List TV) (hm : (s, b, ca.row m rows) ∈ objs) (hr : rows[k]? = some r) : oE w objs (.me s b m k j) (r.drop j)

theorem di {m : Nat} : ∀ {rows : List (List TV)}, (∀ r ∈ rows, r.length = m) → ∀ {k j : Nat} {r : List TV}, rows[k]? = some r → j < m → rows.flatten[k * m + j]? = r[j]?
  | [], _, k, j, r, hk, _ => by simp at hk
  | x :: rest, hm, k, j, r, hk, hj => by
    have hx := hm x (by simp)
    rw [List.flatten_cons]
    cases k with
    | zero =>
      simp at hk; subst hk
      rw [Nat.zero_mul, Nat.zero_add, List.getElem?_append_left (by omega)]
    | succ k =>
      have e : (k + 1) * m + j = x.length + (k * m + j) := by rw [hx, Nat.add_mul, Nat.one_mul]; omega
      rw [e, List.getElem?_append_right (by omega), Nat.add_sub_cancel_left]
      exact di (fun r hr => hm r (by simp [hr])) (by simpa using hk) hj
theorem length_flatten {m : Nat} : ∀ {rows : List (List TV)}, (∀ r ∈ rows, r.length = m) → rows.flatten.length = rows.length * m
  | [], _ => by simp
  | x :: rest, hm => by
    rw [List.flatten_cons, List.length_append, hm x (by simp), length_flatten (rows := rest) (fun r hr => hm r (by simp [hr])), List.length_cons, Nat.add_mul, Nat.one_mul]; omega

theorem fk {w : World} (hw : cV w0 objs w) {tv : TV} {l : List TV} {v : Value} (hp : oE w objs tv l) (hr : Rep w objs tv v) :
    ∃ b o, v = .pointer (some ⟨b, o, none⟩) ∧ (∀ t ∈ l, t.isCell = true) ∧ ∀ (j : Nat) (t : TV), l[j]? = some t → ∃ u, w.cell? ⟨b, o + j, none⟩ = some u ∧ Rep w objs t u := by
  cases hp with
  | cp f l =>
    cases hr with
    | cp f l hi b o g hZ hb hc hr => exact ⟨b, o, rfl, hi, fun j t hj => ⟨g j, hc j t hj, hr j t hj⟩⟩
  | mp s b off cells hm =>
    cases hr with
    | mp s b off h =>
      obtain ⟨hc0, cur, e, h2, h3, h4⟩ := hw.obj s b _ hm
      refine ⟨b, off, rfl, fun t ht => hc0.2 t (List.mem_of_mem_drop ht), fun j t hj => ?_⟩
      rw [List.getElem?_drop] at hj
      obtain ⟨u, h5, h6⟩ := h4 _ t hj
      exact ⟨u, by rw [cell_of_row w b _ cur e (0, 0) h2]; exact h5, h6⟩
  | me s b m k j rows r hm hk =>
    cases hr with
    | me s b m k j h =>
      obtain ⟨h1, h2, h3⟩ := hw.obj s b _ hm
      rcases h3 with ⟨_, h3⟩ | ⟨_, cur, e, cap, h4, h5, h6, h7, h8⟩
      · subst h3; simp at hk
      · refine ⟨b, k * m + j, rfl, fun t ht => h1.2 t (List.mem_flatten.2 ⟨r, List.mem_of_getElem? hk, List.mem_of_mem_drop ht⟩), fun i t hi => ?_⟩
        rw [List.getElem?_drop] at hi
        have hlt : j + i < r.length := (List.getElem?_eq_some_iff.1 hi).1
        have hrm : r.length = m := h2 r (List.mem_of_getElem? hk)
        have hfl := di h2 hk (j := j + i) (by omega)
        obtain ⟨u, h9, h10⟩ := h8 _ t (hfl.trans hi)
        exact ⟨u, by rw [cell_of_row w b _ cur e (0, 0) h4, Nat.add_assoc]; exact h9, h10⟩

theorem i9 {x : Operand} {tv : TV} {l : List TV} (ho : o.op = .nilCheck x) (hx : ev env x = some tv) (hp : ∀ w, oE w objs tv l) : bs P w0 env objs o tv := a6 fun a w hw hop => by
  have h0 := hop x (by simp [ho, Op.operands]) _ hx
  obtain ⟨b, q, h1, _, _⟩ := fk hw (hp w) h0
  exact ⟨a.eval x, by simp [execOp, ho, h1, Sem.run_pure], h0⟩

theorem uw {T : TypeId} {x : Operand} {tv c : TV} {l r : List TV} (ho : o.op = .load T x) (hT : fT P T = true) (hx : ev env x = some tv) (hp : ∀ w, oE w objs tv l) (hl : l = c :: r) : bs P w0 env objs o c := a6 fun a w hw hop => by
  have h0 := hop x (by simp [ho, Op.operands]) _ hx
  obtain ⟨b, q, h1, hci, h2⟩ := fk hw (hp w) h0
  subst hl
  obtain ⟨u, h3, h4⟩ := h2 0 c rfl
  refine ⟨u, ?_, h4⟩
  simp only [execOp, ho, h1]
  refine cq ?_
  simp only [Instr.loadAt, Instr.sureAddr, loadVar, Sem.run_bind, Sem.run_pure, Result.andThen_ok, ft hT]
  show Sem.run P (load ⟨b, q, none⟩) w = _
  rw [run_load, show w.cell? ⟨b, q, none⟩ = some u from h3]
inductive er : Nat → List TV → List TV → Prop
  | zero (l : List TV) : er 0 l []
  | succ (n : Nat) (x : TV) (l o : List TV) (h : er n l o) : er (n + 1) (x :: l) (x :: o)
theorem er.eq {n : Nat} {l o : List TV} (h : er n l o) : n ≤ l.length ∧ o = l.take n := by
  induction h with
  | zero l => simp
  | succ n x l o h ih => simp [ih.1, ih.2]
theorem eL {T : TypeId} {x : Operand} {tv : TV} {l out : List TV} (ho : o.op = .load T x) (hT : iy P T = true) (hi : (P.info? T).isSome = true) (hs : P.cellsOf T = szT T) (hx : ev env x = some tv) (hp : ∀ w, oE w objs tv l) (htk : er (szT T) l out) :
    bs P w0 env objs o (.agg out) := a6 fun a w hw hop => by
  obtain ⟨hl, rfl⟩ := htk.eq
  have h0 := hop x (by simp [ho, Op.operands]) _ hx
  obtain ⟨b, q, h1, hci, h2⟩ := fk hw (hp w) h0
  have h3 : ∀ j, j < szT T → ∃ u, w.cell? ⟨b, q + j, none⟩ = some u ∧ ∀ t, l[j]? = some t → Rep w objs t u := fun j hj => by
    obtain ⟨u, h4, h5⟩ := h2 j l[j] (List.getElem?_eq_getElem (by omega))
    exact ⟨u, h4, fun t ht => by rw [List.getElem?_eq_getElem (by omega)] at ht; simp only [Option.some.injEq] at ht; subst ht; exact h5⟩
  have h4 : ∀ j, ∃ u, j < szT T → w.cell? ⟨b, q + j, none⟩ = some u ∧ ∀ t, l[j]? = some t → Rep w objs t u := fun j => by
    by_cases hj : j < szT T
    · obtain ⟨u, hu⟩ := h3 j hj; exact ⟨u, fun _ => hu⟩
    · exact ⟨undef, fun h => absurd h hj⟩
  let g : Nat → Value := fun j => Classical.choose (h4 j)
  have hg : ∀ j, j < szT T → w.cell? ⟨b, q + j, none⟩ = some (g j) ∧ ∀ t, l[j]? = some t → Rep w objs t (g j) := fun j => Classical.choose_spec (h4 j)
  refine ⟨.agg ((List.range (szT T)).map g).toArray, ?_, .agg _ _ (fun t ht => hci t (List.mem_of_mem_take ht)) (by simp; omega) fun i t v ht hv => ?_⟩
  · simp only [execOp, ho, h1]
    refine cq ?_
    simp only [Instr.loadAt, Instr.sureAddr, loadVar, Sem.run_bind, Sem.run_pure, Result.andThen_ok, kE hT, if_true, wc hi hs]
    rw [run_loadCells w ⟨b, q, none⟩ (szT T) g (fun j hj => by rw [Addr.add_lit]; exact (hg j hj).1)]
    rfl
  · rw [List.getElem?_take] at ht
    split at ht
    · rename_i hlt
      simp only [List.getElem?_toArray, List.getElem?_map, List.getElem?_range hlt, Option.map_some, Option.some.injEq] at hv
      subst hv
      exact (hg i hlt).2 t ht
    · cases ht

def j3 (P : Program) (T k : Nat) : Bool := match P.underlying T with
  | some (.struct fs) => (match fs[k]? with
    | some f => f.offset == ofT T k && (match P.info? f.type with | some i => i.size != 0 | none => false)
    | none => false)
  | _ => false
theorem kH {T k : Nat} (h : j3 P T k = true) : ∃ fs f i, P.underlying T = some (.struct fs) ∧ fs[k]? = some f ∧ f.offset = ofT T k ∧ P.info? f.type = some i ∧ i.size ≠ 0 := by
  unfold j3 at h
  split at h
  · rename_i fs hu
    split at h
    · rename_i f hf
      simp only [Bool.and_eq_true, beq_iff_eq] at h
      obtain ⟨h1, h2⟩ := h
      split at h2
      · rename_i i hi; exact ⟨fs, f, i, hu, hf, h1, hi, by simpa using h2⟩
      · cases h2
    · cases h
  · cases h
def xL (off : Nat) : TV → Option TV
  | .cp f l => some (.cp f (l.drop off))
  | .mp s b o => some (.mp s b (o + off))
  | .me s b m k j => some (.me s b m k (j + off))
  | _ => none
theorem pY {T k : Nat} {w : World} {b q : Nat} (h : j3 P T k = true) : (Instr.fieldAt T (.pointer (some ⟨b, q, none⟩)) k).run P w = .ok (.pointer (some ⟨b, q + ofT T k, none⟩)) w := by
  obtain ⟨fs, f, i, h1, h2, h3, h4, h5⟩ := kH h
  have hc : P.cellsOf f.type = i.size := by simp [Program.cellsOf, h4]
  simp only [Instr.fieldAt, Sem.run_bind, run_underlying h1, Result.andThen_ok, h2, Instr.sureAddr, Sem.run_pure, fieldPlace, run_sizeOf w h4, hc, if_neg h5, Addr.add_lit, h3]
theorem qt {T : TypeId} {x : Operand} {tv tv' : TV} {k : Nat} (ho : o.op = .fieldAddr T x k) (hx : ev env x = some tv)
    (hF : j3 P T k = true) (ht : xL (ofT T k) tv = some tv') : bs P w0 env objs o tv' := a6 fun a w hw hop => by
  have h0 := hop x (by simp [ho, Op.operands]) _ hx
  have key : ∀ b q, a.eval x = .pointer (some ⟨b, q, none⟩) → (execOp a.eval o).run P w = .ok (.value (.pointer (some ⟨b, q + ofT T k, none⟩))) w := fun b q h => by
    simp only [execOp, ho, h]
    exact cq (pY hF)
  generalize a.eval x = v at h0 key
  cases h0 <;> simp only [xL, Option.some.injEq, reduceCtorEq] at ht
  all_goals subst ht
  · rename_i f l hi b q g hZ hb hc hr
    refine ⟨_, key _ _ rfl, .cp f _ (fun t ht => hi t (List.mem_of_mem_drop ht)) b _ (fun j => g (ofT T k + j)) hZ hb (fun j t hj => ?_) (fun j t hj => ?_)⟩
    · rw [List.getElem?_drop] at hj; rw [Nat.add_assoc]; exact hc _ t hj
    · rw [List.getElem?_drop] at hj; exact hr _ t hj
  · rename_i s b q h
    exact ⟨_, key _ _ rfl, .mp s b _ h⟩
  · rename_i s b m i j h
    exact ⟨_, key _ _ rfl, by rw [Nat.add_assoc]; exact .me s b m i _ h⟩

theorem pR {T : TypeId} {x i : Operand} {f : Nat} {m : Nat} {rows : List (List TV)} {kk : IntKind} {n : Int} {k : Nat} {r : List TV} (ho : o.op = .indexAddr T x i) (hx : ev env x = some (.sl f m rows)) (hi : ev env i = some (.int kk n))
    (hT : P.underlying T = some (.slice (P.elem T))) (hI : (P.info? (P.elem T)).isSome = true) (hm : P.cellsOf (P.elem T) = m) (hm0 : Nat.blt 0 m = true) (hn : n = (k : Int)) (hr : rows[k]? = some r) : bs P w0 env objs o (.cp f r) := a6 fun a w hw hop => by
  have h0 := hop x (by simp [ho, Op.operands]) _ hx
  have h1 := (hop i (by simp [ho, Op.operands]) _ hi).int_inv
  have hm0 : 0 < m := Nat.blt_eq ▸ hm0
  generalize hv : a.eval x = v at h0
  cases h0 with
  | sl f m rows A c g1 g2 g3 gi g g4 g5 =>
    have hk : k < rows.length := (List.getElem?_eq_some_iff.1 hr).1
    have hrm : r.length = m := g3 r (List.mem_of_getElem? hr)
    have hfl : ∀ j, j < m → rows.flatten[k * m + j]? = r[j]? := fun j hj => di g3 hr hj
    obtain ⟨b, q, hA, hZ, hc0⟩ := g4 (k * m + 0) r[0] ((hfl 0 hm0).trans (List.getElem?_eq_getElem (by omega)))
    subst hA
    cases hie : P.info? (P.elem T) with
    | none => rw [hie] at hI; cases hI
    | some ie =>
    have hb := lJ hc0
    have hcells : ∀ (j : Nat) (t : TV), r[j]? = some t → w.cell? ⟨b, q + k * m + j, none⟩ = some (g (k * m + j)) ∧ Rep w objs t (g (k * m + j)) := fun j t hj => by
      have hjm : j < m := by rw [← hrm]; exact (List.getElem?_eq_some_iff.1 hj).1
      have h6 := (hfl j hjm).trans hj
      obtain ⟨b', q', h7, _, h8⟩ := g4 _ t h6
      simp only [Option.some.injEq, Addr.mk.injEq, and_true] at h7
      obtain ⟨rfl, rfl⟩ := h7
      exact ⟨by rw [Nat.add_assoc]; exact h8, g5 _ t h6⟩
    refine ⟨.pointer (some ⟨b, q + k * m, none⟩), ?_, .cp f r (fun t ht => gi t (List.mem_flatten.2 ⟨r, List.mem_of_getElem? hr, ht⟩)) b (q + k * m) (fun j => g (k * m + j)) hZ hb (fun j t hj => (hcells j t hj).1) (fun j t hj => (hcells j t hj).2)⟩
    simp only [execOp, ho, h1, hv]
    refine cq ?_
    rw [run_indexAt_slice w T _ _ _ _ _ hT, if_pos ⟨by omega, by omega⟩, run_sizeOf w hie, hm]
    simp [Result.andThen_ok, hn, Addr.add_lit]

theorem kR {T : TypeId} {x i : Operand} {s b off len m : Nat} {rows : List (List TV)} {kk : IntKind} {n : Int} {k : Nat} (ho : o.op = .indexAddr T x i) (hx : ev env x = some (.ms s b off len)) (hi : ev env i = some (.int kk n))
    (hobj : (s, b, ca.row m rows) ∈ objs) (hT : P.underlying T = some (.slice (P.elem T))) (hI : (P.info? (P.elem T)).isSome = true) (hm : P.cellsOf (P.elem T) = m) (hn : n = (k : Int)) (hk : k < len) :
    bs P w0 env objs o (.me s b m (off + k) 0) := a6 fun a w hw hop => by
  have h0 := hop x (by simp [ho, Op.operands]) _ hx
  have h1 := (hop i (by simp [ho, Op.operands]) _ hi).int_inv
  generalize hv : a.eval x = v at h0
  cases h0 with
  | ms s b off len v h =>
    have hor := h.or
    obtain ⟨⟨hb, hmk, _⟩, _⟩ := h
    rcases hor m rows hobj with ⟨_, _, h2, _⟩ | ⟨_, q, c, e, nn, h2, h3, h4, h5, h6⟩
    · omega
    · have hq := h6 (.inl (by omega))
      subst hq
      subst h2
      cases hie : P.info? (P.elem T) with
      | none => rw [hie] at hI; cases hI
      | some ie =>
      refine ⟨.pointer (some ⟨b, (off + k) * m + 0, none⟩), ?_, .me s b m (off + k) 0 ⟨hb, hmk⟩⟩
      simp only [execOp, ho, h1, hv]
      refine cq ?_
      rw [run_indexAt_slice w T _ _ _ _ _ hT, if_pos ⟨by omega, by omega⟩, run_sizeOf w hie, hm]
      simp [Result.andThen_ok, hn, Addr.add_lit, Nat.add_mul]

def bat (s : ByteArray) (j : Nat) : Int := ((s.data.toList.getD j 0).toNat : Int)
theorem q5 (s : ByteArray) (j : Nat) : 0 ≤ bat s j ∧ bat s j ≤ 255 := ⟨by unfold bat; omega, by unfold bat; have := (s.data.toList.getD j 0).toNat_lt; omega⟩
theorem ym (s : ByteArray) {j : Nat} (h : j < s.size) : bat s j = (s[j].toNat : Int) := by
  unfold bat
  have h1 : j < s.data.toList.length := by rw [Array.length_toList]; exact h
  rw [List.getD_eq_getElem?_getD, List.getElem?_eq_getElem h1]; rfl
theorem ux {T : TypeId} {x i : Operand} {s : ByteArray} {kk : IntKind} {n : Int} {k : Nat} (ho : o.op = .index T x i) (hx : ev env x = some (.str s)) (hi : ev env i = some (.int kk n)) (hT : P.underlying T = some .string) (hn : n = (k : Int)) (hk : k < s.size) :
    bs P w0 env objs o (.int .u8 (bat s k)) := a6 fun a w hw hop => by
  rw [ym s hk]
  have h0 := (hop x (by simp [ho, Op.operands]) _ hx).str_inv
  have h1 := (hop i (by simp [ho, Op.operands]) _ hi).int_inv
  refine ⟨.int .u8 ((s[k]'hk).toNat : Int), ?_, .int _ _⟩
  simp only [execOp, ho, h0, h1]
  refine cq ?_
  subst hn
  rw [run_index_string w T s kk _ hT, dif_pos ⟨by omega, by omega⟩]
  simp

theorem jS {x : Operand} {t : TypeId} (ho : o.op = .call { callee := .builtin .len, args := #[x], argTypes := #[t] }) {a : Act} {w : World} {v : Value} (h : (Builtin.len_ #[t] o.type #[a.eval x]).run P w = .ok v w) :
    (execOp a.eval o).run P w = .ok (.value v) w := by
  simp only [execOp, ho, resolve, Sem.run_bind, Sem.run_pure, Result.andThen_ok, invoke, builtin, List.map_toArray, List.map_cons, List.map_nil]
  rw [h]; rfl
theorem jH {x : Operand} {t : TypeId} (ho : o.op = .call { callee := .builtin .len, args := #[x], argTypes := #[t] }) : x ∈ o.op.operands.toList := by simp [ho, Op.operands, Call.operands]
theorem xt {x : Operand} {t : TypeId} {s : ByteArray} (ho : o.op = .call { callee := .builtin .len, args := #[x], argTypes := #[t] }) (hx : ev env x = some (.str s)) (hT : P.underlying t = some .string) : bs P w0 env objs o (.int .i64 (s.size : Int)) := a6 fun a w hw hop => by
  have h0 := (hop x (jH ho) _ hx).str_inv
  refine ⟨.int .i64 (s.size : Int), jS ho ?_, .int _ _⟩
  rw [h0]
  simp only [Builtin.len_]
  simp [run_underlying hT, Sem.run_pure, goInt]
theorem wk {x : Operand} {t : TypeId} {f : Nat} {m n : Nat} {rows : List (List TV)} (ho : o.op = .call { callee := .builtin .len, args := #[x], argTypes := #[t] }) (hx : ev env x = some (.sl f m rows)) (hT : P.underlying t = some (.slice (P.elem t))) (hn : rows.length = n) : bs P w0 env objs o (.int .i64 (n : Int)) := a6 fun a w hw hop => by
  have h0 := hop x (jH ho) _ hx
  generalize hv : a.eval x = v at h0
  cases h0 with
  | sl f m rows A c g1 g2 g3 gi g g4 g5 =>
    refine ⟨.int .i64 (n : Int), jS ho ?_, .int _ _⟩
    rw [hv, run_len_slice w t _ _ _ _ hT, hn]; rfl
theorem vM {x : Operand} {t : TypeId} {s b off len : Nat} (ho : o.op = .call { callee := .builtin .len, args := #[x], argTypes := #[t] }) (hx : ev env x = some (.ms s b off len)) (hT : P.underlying t = some (.slice (P.elem t))) :
    bs P w0 env objs o (.int .i64 (len : Int)) := a6 fun a w hw hop => by
  have h0 := hop x (jH ho) _ hx
  generalize hv : a.eval x = v at h0
  cases h0 with
  | ms s b off len v h =>
    refine ⟨.int .i64 (len : Int), jS ho ?_, .int _ _⟩
    obtain ⟨A, c, h2⟩ := h.1.2.2
    rw [hv, h2, run_len_slice w t _ _ _ _ hT]; rfl

theorem sa {x : Operand} {t : TypeId} (ho : o.op = .call { callee := .builtin .len, args := #[x], argTypes := #[t] }) (hx : ev env x = some .nils) (hT : P.underlying t = some (.slice (P.elem t))) : bs P w0 env objs o (.int .i64 0) := a6 fun a w hw hop => by
  have h0 := hop x (jH ho) _ hx
  generalize hv : a.eval x = v at h0
  cases h0
  exact ⟨.int .i64 0, jS ho (by rw [hv, run_len_slice w t _ _ _ _ hT]; rfl), .int _ _⟩

theorem tZ {x : Operand} {k : Nat} {l : List TV} {t : TV} (ho : o.op = .extract x k) (hx : ev env x = some (.tup l)) (ht : l[k]? = some t) : bs P w0 env objs o t := a6 fun a w hw hop => by
  have h0 := hop x (by simp [ho, Op.operands]) _ hx
  generalize hv : a.eval x = v at h0
  cases h0 with
  | tup l vs h1 h2 =>
    have hk : k < vs.size := by rw [← h1]; exact (List.getElem?_eq_some_iff.1 ht).1
    refine ⟨vs[k], ?_, h2 k t _ ht (by simp [hk])⟩
    simp only [execOp, ho, hv]
    refine cq ?_
    simp [Instr.extract, hk, Sem.run_pure]

theorem xv {T : TypeId} {x : Operand} {k : Nat} {l : List TV} {t : TV} (ho : o.op = .field T x k) (hx : ev env x = some (.agg l)) (hF : j3 P T k = true) (hS : fT P ((P.fieldsOf T).getD k default).type = true) (ht : l[ofT T k]? = some t) : bs P w0 env objs o t := a6 fun a w hw hop => by
  have h0 := hop x (by simp [ho, Op.operands]) _ hx
  generalize hv : a.eval x = v at h0
  cases h0 with
  | agg l vs hi h1 h2 =>
    obtain ⟨fs, f, i, g1, g2, g3, g4, g5⟩ := kH hF
    have hk : ofT T k < vs.size := by rw [← h1]; exact (List.getElem?_eq_some_iff.1 ht).1
    refine ⟨vs[ofT T k], ?_, h2 _ t _ ht (by simp [hk])⟩
    have g6 : P.fieldsOf T = fs := by simp [Program.fieldsOf, g1]
    have g7 : ((P.fieldsOf T).getD k default).type = f.type := by rw [g6]; simp [Array.getD_eq_getD_getElem?, g2]
    rw [g7] at hS
    simp only [execOp, ho, hv]
    refine cq ?_
    simp only [Instr.field, Sem.run_bind, run_underlying g1, Result.andThen_ok, g2, asAgg, Sem.run_pure, part, ft hS]
    simp [g3, hk, Sem.run_pure]
section
variable {T : TypeId} {x : Operand} {s : ByteArray}
theorem ea {lo hi mx : Option Operand} (ho : o.op = .slice T x lo hi mx) : x ∈ o.op.operands.toList := by simp [ho, Op.operands]
theorem eh {w : World} (hT : P.underlying T = some .string) (lo hi mx : Option Value) : (Instr.sliceAt T (.string s) lo hi mx).run P w = (Instr.slice T (.string s) lo hi mx).run P w := by
  simp only [Instr.sliceAt, Sem.run_bind, run_underlying hT, Result.andThen_ok]
theorem sW {lo hi : Operand} {k1 k2 : IntKind} {i j : Nat} {m n : Int} (ho : o.op = .slice T x (some lo) (some hi) none) (hx : ev env x = some (.str s)) (hlo : ev env lo = some (.int k1 m)) (hhi : ev env hi = some (.int k2 n)) (hT : P.underlying T = some .string)
    (hm : m = (i : Int)) (hn : n = (j : Int)) (h1 : i ≤ j) (h2 : j ≤ s.size) : bs P w0 env objs o (.str (s.extract i j)) := a6 fun a w hw hop => by
  have h0 := (hop x (ea ho) _ hx).str_inv
  have g1 := (hop lo (by simp [ho, Op.operands]) _ hlo).int_inv
  have g2 := (hop hi (by simp [ho, Op.operands]) _ hhi).int_inv
  refine ⟨.string (s.extract i j), ?_, .str _⟩
  simp only [execOp, ho, h0, g1, g2, Option.map_some, Option.map_none]
  refine cq ?_
  rw [eh hT, run_slice_string w T s k1 k2 _ _ hT (by omega) (by omega) (by omega)]
  subst hm; subst hn; simp
theorem ti {lo : Operand} {k1 : IntKind} {i : Nat} {m : Int} (ho : o.op = .slice T x (some lo) none none) (hx : ev env x = some (.str s)) (hlo : ev env lo = some (.int k1 m)) (hT : P.underlying T = some .string)
    (hm : m = (i : Int)) (h1 : i ≤ s.size) : bs P w0 env objs o (.str (s.extract i s.size)) := a6 fun a w hw hop => by
  have h0 := (hop x (ea ho) _ hx).str_inv
  have g1 := (hop lo (by simp [ho, Op.operands]) _ hlo).int_inv
  refine ⟨.string (s.extract i s.size), ?_, .str _⟩
  simp only [execOp, ho, h0, g1, Option.map_some, Option.map_none]
  refine cq ?_
  rw [eh hT, run_slice_string_l w T s hT k1 _ (by omega) (by omega)]
  subst hm; simp
theorem tB {hi : Operand} {k2 : IntKind} {j : Nat} {n : Int} (ho : o.op = .slice T x none (some hi) none) (hx : ev env x = some (.str s)) (hhi : ev env hi = some (.int k2 n)) (hT : P.underlying T = some .string)
    (hn : n = (j : Int)) (h2 : j ≤ s.size) : bs P w0 env objs o (.str (s.extract 0 j)) := a6 fun a w hw hop => by
  have h0 := (hop x (ea ho) _ hx).str_inv
  have g2 := (hop hi (by simp [ho, Op.operands]) _ hhi).int_inv
  refine ⟨.string (s.extract 0 j), ?_, .str _⟩
  simp only [execOp, ho, h0, g2, Option.map_some, Option.map_none]
  refine cq ?_
  rw [eh hT, run_slice_string_h w T s hT k2 _ (by omega) (by omega)]
  subst hn; simp
end
end

theorem fp (objs : bp) : ∃ d, ∀ x ∈ objs, x.1 ≠ d := by
  have : ∃ d, ∀ x ∈ objs, x.1 < d := by
    induction objs with
    | nil => exact ⟨0, by simp⟩
    | cons y l ih =>
      obtain ⟨d, hd⟩ := ih
      refine ⟨d + y.1 + 1, fun x hx => ?_⟩
      rcases List.mem_cons.1 hx with rfl | hx
      · omega
      · have := hd x hx; omega
  obtain ⟨d, hd⟩ := this
  exact ⟨d, fun x hx => by have := hd x hx; omega⟩

section
variable {P : Program} {w0 : World} {N : Nat} {Q : Exit → Act → World → Prop} {env : Env} {objs : bp} {o : Oper}

theorem fA (w : World) (objs : bp) : gT w objs w objs := ⟨fun _ _ _ => rfl, fun _ _ h => h, fun _ _ _ rows _ _ h => ⟨⟨rows, h⟩, rfl⟩, Nat.le_refl _, id⟩
theorem eS {w w' : World} {b : Nat} (h : w'.heap[b]? = w.heap[b]?) : w'.shape? b = w.shape? b := by unfold World.shape?; rw [h]
theorem iB {w w' : World} (objs : bp) (hsz : w.heap.size ≤ w'.heap.size) (hb : ∀ b, b < w.heap.size → w'.heap[b]? = w.heap[b]?) : gT w objs w' objs :=
  ⟨fun b h _ => hb b h, fun _ _ h => h, fun _ _ _ rows h _ hm => ⟨⟨rows, hm⟩, eS (hb _ h)⟩, hsz, id⟩
theorem cK {w : World} (hw : cV w0 objs w) {s b : Nat} {ob : ca} (hm : (s, b, ob) ∈ objs) : b < w.heap.size := by
  have hpos : 0 < w.heap.size := Nat.lt_of_lt_of_le hw.pos hw.below.size
  cases ob with
  | void => rw [show b = 0 from hw.obj s b _ hm]; exact hpos
  | iter x pos => exact (Array.getElem?_eq_some_iff.1 (hw.obj s b _ hm).2).1
  | row m rows =>
    rcases (hw.obj s b _ hm).2.2 with ⟨h, _⟩ | ⟨_, cur, e, cap, h, _⟩
    · omega
    · exact (Array.getElem?_eq_some_iff.1 h).1
  | box cells =>
    obtain ⟨_, cur, e, h, _⟩ := hw.obj s b _ hm
    exact (Array.getElem?_eq_some_iff.1 h).1
theorem cV.grow {w w' : World} (hw : cV w0 objs w) (hb : Below w0.heap.size w0 w') (hsz : w.heap.size ≤ w'.heap.size) (hk : ∀ b, b < w.heap.size → w'.heap[b]? = w.heap[b]?) : cV w0 objs w' :=
  ⟨hb, hw.pos, fun s b ob hm => (hw.obj s b ob hm).step (iB objs hsz hk) (hk b (cK hw hm)), hw.sites⟩
theorem cV.alloc {w : World} (hw : cV w0 objs w) (ob : Obj) : cV w0 objs (w.alloc ob) ∧ gT w objs (w.alloc ob) objs :=
  have hk : ∀ b, b < w.heap.size → (w.alloc ob).heap[b]? = w.heap[b]? := fun b hb => Below.heap_alloc w ob b hb
  ⟨hw.grow (hw.below.alloc hw.below.size ob) (by simp) hk, iB objs (by simp) hk⟩

theorem f4 {w : World} (hw : cV w0 objs w) (cs : Array Value) (e : TypeId) (d : Nat) (ob : ca) : gT w objs (w.alloc (.cells cs e)) ((d, w.heap.size, ob) :: objs) := by
  have hk : ∀ b, b < w.heap.size → (w.alloc (.cells cs e)).heap[b]? = w.heap[b]? := fun b hb => Below.heap_alloc w _ b hb
  have hpos : 0 < w.heap.size := Nat.lt_of_lt_of_le hw.pos hw.below.size
  refine ⟨fun b h _ => hk b h, fun b h ha => ⟨ha.1, ?_⟩, fun s b m rows h _ hm => ?_, by simp, fun hm => ?_⟩
  · obtain ⟨s, o, hm⟩ := ha.2
    rcases List.mem_cons.1 hm with he | hm
    · simp only [Prod.mk.injEq] at he; omega
    · exact ⟨s, o, hm⟩
  · rcases List.mem_cons.1 hm with he | hm
    · simp only [Prod.mk.injEq] at he; omega
    · exact ⟨⟨rows, hm⟩, eS (hk b h)⟩
  · rcases List.mem_cons.1 hm with he | hm
    · simp only [dg, Prod.mk.injEq] at he; omega
    · exact hm
theorem fY {w : World} (hw : cV w0 objs w) (cs : Array Value) (e : TypeId) (d : Nat) (ob : ca) : dg ∉ (d, w.heap.size, ob) :: objs := fun hm => hw.noMark ((f4 hw cs e d ob).mark hm)
theorem cV.newObj {w : World} (hw : cV w0 objs w) {cs : Array Value} {e : TypeId} {d : Nat} {ob : ca} (hd : ∀ x ∈ objs, x.1 ≠ d)
    (ho : oK (w.alloc (.cells cs e)) w0.heap.size ((d, w.heap.size, ob) :: objs) w.heap.size ob) : cV w0 ((d, w.heap.size, ob) :: objs) (w.alloc (.cells cs e)) :=
  ⟨hw.below.alloc hw.below.size _, hw.pos, fun s b o hm => by
    rcases List.mem_cons.1 hm with he | hm
    · simp only [Prod.mk.injEq] at he; obtain ⟨rfl, rfl, rfl⟩ := he; exact ho
    · exact (hw.obj s b o hm).step (f4 hw cs e d ob) (Below.heap_alloc w _ b (cK hw hm)),
  List.pairwise_cons.2 ⟨fun y hy => ⟨fun e => hd y hy e.symm, .inl (Nat.ne_of_gt (cK (s := y.1) (ob := y.2.2) hw hy))⟩, hw.sites⟩⟩

theorem Sim.putNew {a : Act} {w w' : World} {objs' : bp} (hs : Sim w0 N env objs a w) {d : Nat} (hd : Nat.blt d N = true) {tv : TV} {v : Value} (hr : Rep w' objs' tv v) (hw : cV w0 objs' w') (hst : gT w objs w' objs') : Sim w0 N ((d, tv) :: env) objs' (a.put (some d) v) w' := by
  have hlt : d < a.tmps.size := by rw [hs.size]; exact Nat.blt_eq ▸ hd
  refine ⟨hs.defers, by simp [Act.put, hs.size], hw, fun t u hu => ?_⟩
  rw [bL] at hu
  show Rep w' objs' u ((a.tmps.setIfInBounds d v).getD t undef)
  rw [eF hlt]
  split at hu
  · rename_i e; subst e; simp only [Option.some.injEq] at hu; subst hu; simp only [if_true]; exact hr
  · rename_i e; rw [if_neg e]; exact (hs.env t u hu).step hst
theorem Sim.same {a : Act} {w w' : World} {objs' : bp} (hs : Sim w0 N env objs a w) (hw : cV w0 objs' w') (hst : gT w objs w' objs') : Sim w0 N env objs' a w' :=
  ⟨hs.defers, hs.size, hw, fun t u hu => (hs.env t u hu).step hst⟩

def ed : TV → Option (List TV)
  | .agg l => some l
  | .tup _ => none
  | .top => none
  | .gh _ => none
  | t => some [t]
theorem Rep.one {w : World} {tv : TV} {v : Value} (h : Rep w objs tv v) (hi : tv.isCell = true) : v.oneCell' = true ∧ v.cells = #[v] := by
  cases h with
  | agg => cases hi
  | tup => cases hi
  | top => cases hi
  | gh => cases hi
  | ms s b off len v h => obtain ⟨⟨_, _, A, c, rfl⟩, _⟩ := h; exact ⟨rfl, rfl⟩
  | _ => exact ⟨rfl, rfl⟩
theorem fW {w : World} {tv : TV} {v : Value} {l : List TV} (h : Rep w objs tv v) (hl : ed tv = some l) : v.cells.size = l.length ∧ (∀ (i : Nat) (t : TV) (u : Value), l[i]? = some t → v.cells[i]? = some u → Rep w objs t u) ∧ ∀ t ∈ l, t.isCell = true := by
  by_cases hc : tv.isCell = true
  · have hl' : l = [tv] := by cases tv <;> first | (cases hc; done) | (simp only [ed, Option.some.injEq] at hl; exact hl.symm)
    subst hl'
    obtain ⟨_, h2⟩ := h.one hc
    rw [h2]
    refine ⟨rfl, fun i t' u hi hu => ?_, by simpa using hc⟩
    cases i with
    | zero => simp at hi hu; subst hi; subst hu; exact h
    | succ i => simp at hi
  · cases h with
    | agg l' vs hi h1 h2 => simp only [ed, Option.some.injEq] at hl; subst hl; exact ⟨h1.symm, h2, hi⟩
    | tup => cases hl
    | top => cases hl
    | gh => cases hl
    | _ => exact absurd rfl hc
def cJ (P : Program) (T : Nat) : Option (List TV) := (P.info? T).bind fun i => i.zero.bind fun z => tvL z.cells.toList
theorem iM {T : Nat} {l : List TV} (h : cJ P T = some l) (w : World) : ∃ z, (zeroValue T).run P w = .ok z w ∧ (z.cells.size = l.length ∧ ∀ t ∈ l, t.isCell = true) ∧ ∀ (w : World) (objs : bp) (i : Nat) (t : TV) (u : Value), l[i]? = some t → z.cells[i]? = some u → Rep w objs t u := by
  unfold cJ at h
  cases hi : P.info? T with
  | none => rw [hi] at h; cases h
  | some i =>
    rw [hi] at h
    simp only [Option.bind_some] at h
    cases hz : i.zero with
    | none => rw [hz] at h; cases h
    | some z =>
      rw [hz] at h
      simp only [Option.bind_some] at h
      refine ⟨z, by simp [zeroValue, Sem.run_bind, run_typeInfo w hi, hz, Sem.run_pure], by have := (ja (w := w) (objs := []) h).1; exact ⟨by simpa using this.1.symm, this.2⟩, fun w objs i t u ht hu => (ja (w := w) (objs := objs) h).2 i t u ht (by simpa using hu)⟩

theorem vS {ops : Array Oper} {rest : List Oper} {d : Nat} {T : TypeId} {zs : List TV} (ho : o.op = .alloc T) (hd : o.dst = some d) (hN : Nat.blt d N = true) (hz : cJ P T = some zs)
    (h : ∀ ss b, AL P w0 N ops Q rest ((d, .mp ss b 0) :: env) ((ss, b, .box zs) :: objs)) : AO P w0 N ops Q o rest env objs := ⟨fun a w K hs hK => by
    obtain ⟨ss, hf⟩ := fp objs
    obtain ⟨z, h1, h2, h3⟩ := iM hz w
    have hst := f4 hs.mem z.cells T ss (.box zs)
    have hrun : (execOp a.eval o).run P w = .ok (.value (.pointer (some ⟨w.heap.size, 0, none⟩))) (w.alloc (.cells z.cells T)) := by
      simp only [execOp, ho]
      refine cq ?_
      simp [Instr.alloc, Sem.run_bind, h1, newVar, newRow]
    unfold Oper.wp
    rw [hrun]
    refine hK _ _ ?_
    rw [hd]
    refine (h ss w.heap.size).run _ _ (hs.putNew hN (.mp ss _ 0 ⟨by simp, fY hs.mem #[] 0 ss _⟩) (hs.mem.newObj hf ⟨⟨hs.mem.below.size, h2.2⟩, z.cells, T, heap_alloc_new w _, h2.1, fun j t hj => ?_⟩) hst)
    have hlt : j < z.cells.size := by rw [h2.1]; exact (List.getElem?_eq_some_iff.1 hj).1
    exact ⟨z.cells[j], by simp [hlt], h3 _ _ j t _ hj (by simp [hlt])⟩⟩

theorem xI {T : TypeId} {x : Operand} (ho : o.op = .box T x) (a : Act) (w : World) : (execOp a.eval o).run P w = .ok (.value (.pointer (some ⟨w.heap.size, 0, none⟩))) (w.alloc (.cells (a.eval x).cells T)) := by
  simp only [execOp, ho]
  refine cq ?_
  simp [Instr.box, newVar, newRow]
theorem zu {T : TypeId} {x : Operand} {tv : TV} {l : List TV} (ho : o.op = .box T x) (hx : ev env x = some tv) (hl : ed tv = some l) : bs P w0 env objs o (.cp w0.heap.size l) := fun a w K Q hw hop hK => by
  have h0 := hop x (by simp [ho, Op.operands]) _ hx
  obtain ⟨h1, h2⟩ := hw.alloc (.cells (a.eval x).cells T)
  obtain ⟨g1, g2, g3⟩ := fW (h0.step h2) hl
  unfold Oper.wp
  rw [xI ho]
  refine hK _ _ (.cp w0.heap.size l g3 w.heap.size 0 (fun j => (a.eval x).cells.getD j undef) ⟨hw.below.size, fun ha => ?_⟩ (by simp) (fun j t hj => ?_) (fun j t hj => ?_)) h1 h2
  · obtain ⟨_, s, ob, hm⟩ := ha
    exact Nat.lt_irrefl _ (cK hw hm)
  · have hlt : j < (a.eval x).cells.size := by rw [g1]; exact (List.getElem?_eq_some_iff.1 hj).1
    rw [Nat.zero_add, World.cell?_alloc_new]; simp [hlt]
  · have hlt : j < (a.eval x).cells.size := by rw [g1]; exact (List.getElem?_eq_some_iff.1 hj).1
    exact g2 j t _ hj (by simp [hlt])
/- A slice written out. -/
def evL (env : Env) : List (Nat × Operand) → Nat → Option (List (List TV))
  | [], _ => some []
  | (i, x) :: r, n => bif Nat.beq i n then (match (ev env x).bind ed, evL env r (n + 1) with
    | some l, some ls => some (l :: ls)
    | _, _ => none) else none
theorem rG {w : World} (a : Act) : ∀ {ps : List (Nat × Operand)} {n : Nat} {rows : List (List TV)}, evL env ps n = some rows → (∀ p ∈ ps, ∀ v, ev env p.2 = some v → Rep w objs v (a.eval p.2)) →
    (ps.map fun p => (p.1, a.eval p.2)) = (((ps.map fun p => a.eval p.2)).zipIdx n).map (fun x => (x.2, x.1)) ∧ (rows.length = ps.length ∧ ∀ t ∈ rows.flatten, t.isCell = true) ∧
      ∀ (k : Nat) (r : List TV), rows[k]? = some r → ∃ v, (ps.map fun p => a.eval p.2)[k]? = some v ∧ v.cells.size = r.length ∧ ∀ (i : Nat) (t : TV) (u : Value), r[i]? = some t → v.cells[i]? = some u → Rep w objs t u
  | [], n, rows, h, _ => by simp only [evL, Option.some.injEq] at h; subst h; simp
  | (i, x) :: ps, n, rows, h, hop => by
    unfold evL at h
    cases hb : Nat.beq i n with
    | false => rw [hb] at h; cases h
    | true =>
      rw [hb] at h
      have hi : i = n := Nat.eq_of_beq_eq_true hb
      simp only [cond_true] at h
      split at h
      · rename_i l ls h1 h2
        simp only [Option.some.injEq] at h
        subst h; subst hi
        obtain ⟨e1, e2, e3⟩ := rG a h2 (fun p hp => hop p (by simp [hp]))
        obtain ⟨tv, h3, h4⟩ := Option.bind_eq_some_iff.1 h1
        obtain ⟨g1, g2, g3⟩ := fW (hop (i, x) (by simp) tv h3) h4
        refine ⟨by simp only [List.map_cons, List.zipIdx_cons]; rw [e1], ⟨by simp [e2.1], fun t ht => by
          rw [List.flatten_cons, List.mem_append] at ht
          rcases ht with ht | ht
          · exact g3 t ht
          · exact e2.2 t ht⟩, fun k r hk => ?_⟩
        cases k with
        | zero => simp at hk; subst hk; exact ⟨a.eval x, by simp, g1, g2⟩
        | succ k => simpa using e3 k r (by simpa using hk)
      · cases h

theorem tS {T : TypeId} {n m : Nat} {ps : List (Nat × Operand)} {rows : List (List TV)} (ho : o.op = .buildSlice T n ps.toArray) (hT : P.underlying T = some (.slice (P.elem T))) (hI : (cJ P (P.elem T)).isSome = true) (hm : P.cellsOf (P.elem T) = m) (hm0 : Nat.blt 0 m = true)
    (hn : rows.length = n) (hbig : Nat.ble (n * m) 16777216 = true) {w : World} (a : Act) (hev : evL env ps 0 = some rows) (hall : ∀ r ∈ rows, r.length = m) (hop : ∀ p ∈ ps, ∀ v, ev env p.2 = some v → Rep w objs v (a.eval p.2)) :
    ∃ cs : Array Value, (execOp a.eval o).run P w = .ok (.value (.slice (some ⟨w.heap.size, 0, none⟩) n n)) (w.alloc (.cells cs (P.elem T))) ∧ (cs.size = n * m ∧ ∀ t ∈ rows.flatten, t.isCell = true) ∧ ∀ (j : Nat) (t : TV), rows.flatten[j]? = some t → ∃ v, cs[j]? = some v ∧ Rep w objs t v := by
  have hm0 : 0 < m := Nat.blt_eq ▸ hm0
  have hbig := Nat.le_of_ble_eq_true hbig
  obtain ⟨e1, e2, e3⟩ := rG a hev hop
  obtain ⟨zs, hz⟩ := Option.isSome_iff_exists.1 hI
  obtain ⟨z, hz1, _, _⟩ := iM hz w
  unfold cJ at hz
  cases hie : P.info? (P.elem T) with
  | none => rw [hie] at hz; cases hz
  | some ie =>
  rw [hie] at hz
  simp only [Option.bind_some] at hz
  cases hzz : ie.zero with
  | none => rw [hzz] at hz; cases hz
  | some zv =>
  have hsz : ie.size = m := by rw [← hm]; simp [Program.cellsOf, hie]
  have hlen : ps.length = n := by rw [← e2.1]; exact hn
  have hvs : ∀ v ∈ (ps.map fun p => a.eval p.2), v.cells.size = m := fun v hv => by
    obtain ⟨k, hk, rfl⟩ := List.getElem_of_mem hv
    have hk' : k < rows.length := by rw [e2.1]; simpa using hk
    obtain ⟨v, h1, h2, _⟩ := e3 k rows[k] (List.getElem?_eq_getElem hk')
    rw [List.getElem?_eq_getElem hk] at h1
    simp only [Option.some.injEq] at h1
    rw [h1, h2]
    exact hall _ (List.getElem_mem hk')
  by_cases hn0 : n = 0
  · subst hn0
    have hps : ps = [] := List.eq_nil_of_length_eq_zero hlen
    subst hps
    have hr0 : rows = [] := List.eq_nil_of_length_eq_zero hn
    subst hr0
    refine ⟨(Array.range 0).map fun _ => default, ?_, by simp, by simp⟩
    simp only [execOp, ho]
    refine cq ?_
    simp [Instr.buildSlice, Sem.run_bind, run_underlying hT, run_sizeOf w hie, Instr.fill, newRow]
  · have hpos : ¬ n * m = 0 := by
      intro h; rcases Nat.mul_eq_zero.1 h with h | h <;> omega
    obtain ⟨cs, h1, h2, h3⟩ := Great.fill_dense (s := m) hm0 (ps.map fun p => a.eval p.2) 0 ((Array.range (n * m)).map (zv.cells[· % zv.cells.size]!)) hvs (by simp [hlen])
    refine ⟨cs, ?_, ⟨by rw [h2]; simp, e2.2⟩, fun j t hj => ?_⟩
    · simp only [execOp, ho]
      refine cq ?_
      refine run_buildSlice w T _ n _ cs ie zv hT hie hzz (by rw [hsz]; omega) (by rw [hsz]; exact hpos) ?_
      rw [hsz]
      simp only [List.map_toArray]
      show Instr.fill _ _ (ps.map fun p => (p.1, a.eval p.2)) = _
      rw [e1]; exact h1
    · have hjl : j < rows.length * m := by rw [← length_flatten hall]; exact (List.getElem?_eq_some_iff.1 hj).1
      have hq : j / m < rows.length := Nat.div_lt_of_lt_mul (by rw [Nat.mul_comm]; exact hjl)
      have hr : j % m < m := Nat.mod_lt _ hm0
      have hje : j = (j / m) * m + j % m := by rw [Nat.mul_comm]; exact (Nat.div_add_mod j m).symm
      have h5 := di hall (List.getElem?_eq_getElem hq) hr
      rw [← hje, hj] at h5
      obtain ⟨v, g1, g2, g3⟩ := e3 _ _ (List.getElem?_eq_getElem hq)
      have h6 := h3 j
      rw [if_pos ⟨by omega, by rw [Nat.zero_add, List.length_map, hlen, ← hn]; exact hjl⟩, Nat.sub_zero, g1, Option.bind_some] at h6
      have hlt : j % m < v.cells.size := by rw [g2, hall _ (List.getElem_mem hq)]; exact hr
      exact ⟨v.cells[j % m], h6.trans (by simp [hlt]), g3 _ t _ h5.symm (by simp [hlt])⟩

theorem tt {T : TypeId} {n : Nat} {ps : List (Nat × Operand)} (ho : o.op = .buildSlice T n ps.toArray) {p : Nat × Operand} (hp : p ∈ ps) : p.2 ∈ o.op.operands.toList := by
  simp only [ho, Op.operands, List.toList_toArray]; exact List.mem_map.2 ⟨p, hp, rfl⟩
theorem x2 {T : TypeId} {n m : Nat} {ps : List (Nat × Operand)} {rows : List (List TV)} (ho : o.op = .buildSlice T n ps.toArray) (hT : P.underlying T = some (.slice (P.elem T))) (hI : (cJ P (P.elem T)).isSome = true) (hm : P.cellsOf (P.elem T) = m) (hm0 : Nat.blt 0 m = true)
    (hev : evL env ps 0 = some rows) (hn : rows.length = n) (hbig : Nat.ble (n * m) 16777216 = true) (hall : (rows.all fun r => Nat.beq r.length m) = true) : bs P w0 env objs o (.sl w0.heap.size m rows) := fun a w K Q hw hop hK => by
  have hm0' : 0 < m := Nat.blt_eq ▸ hm0
  have hall' : ∀ r ∈ rows, r.length = m := fun r hr => Nat.eq_of_beq_eq_true (List.all_eq_true.1 hall r hr)
  obtain ⟨cs, h1, h2, h3⟩ := tS ho hT hI hm hm0 hn hbig a hev hall' (fun p hp v hv => hop _ (tt ho hp) v hv)
  obtain ⟨g1, g2⟩ := hw.alloc (.cells cs (P.elem T))
  unfold Oper.wp
  rw [h1]
  have hnm : n ≤ maxLen := by
    have := Nat.le_of_ble_eq_true hbig
    have h4 : n * 1 ≤ n * m := Nat.mul_le_mul_left _ hm0'
    simp only [maxLen]; omega
  refine hK _ _ ?_ g1 g2
  have hsl := Rep.sl (w := w.alloc (.cells cs (P.elem T))) (objs := objs) w0.heap.size m rows (some ⟨w.heap.size, 0, none⟩) n (by omega) hnm hall' h2.2 (fun j => cs.getD j undef) (fun j t hj => ⟨_, _, rfl, ⟨hw.below.size, fun ha => by
      obtain ⟨_, s, ob, hm⟩ := ha; exact Nat.lt_irrefl _ (cK hw hm)⟩, by
      obtain ⟨v, h4, _⟩ := h3 j t hj
      rw [Nat.zero_add, World.cell?_alloc_new, h4]; simp [Array.getD_eq_getD_getElem?, h4]⟩) (fun j t hj => by
      obtain ⟨v, h4, h5⟩ := h3 j t hj
      simp only [Array.getD_eq_getD_getElem?, h4, Option.getD_some]
      exact h5.step g2)
  rw [hn] at hsl
  exact hsl
theorem yn {ops : Array Oper} {rest : List Oper} {d : Nat} {T : TypeId} {n m : Nat} {ps : List (Nat × Operand)} {rows : List (List TV)} (ho : o.op = .buildSlice T n ps.toArray) (hd : o.dst = some d) (hN : Nat.blt d N = true) (hT : P.underlying T = some (.slice (P.elem T))) (hI : (cJ P (P.elem T)).isSome = true) (hm : P.cellsOf (P.elem T) = m) (hm0 : Nat.blt 0 m = true)
    (hev : evL env ps 0 = some rows) (hn : rows.length = n) (hbig : Nat.ble (n * m) 16777216 = true) (hall : (rows.all fun r => Nat.beq r.length m) = true)
    (h : ∀ ss b, AL P w0 N ops Q rest ((d, .ms ss b 0 n) :: env) ((ss, b, .row m rows) :: objs)) : AO P w0 N ops Q o rest env objs := ⟨fun a w K hs hK => by
    obtain ⟨ss, hf⟩ := fp objs
    have hm0' : 0 < m := Nat.blt_eq ▸ hm0
    have hall' : ∀ r ∈ rows, r.length = m := fun r hr => Nat.eq_of_beq_eq_true (List.all_eq_true.1 hall r hr)
    have hst := fun cs => f4 hs.mem cs (P.elem T) ss (.row m rows)
    obtain ⟨cs, h1, h2, h3⟩ := tS ho hT hI hm hm0 hn hbig a hev hall' (fun p hp v hv => dY hs hv)
    unfold Oper.wp
    rw [h1]
    refine hK _ _ ?_
    rw [hd]
    have hnm : n ≤ maxLen := by
      have := Nat.le_of_ble_eq_true hbig
      have h4 : n * 1 ≤ n * m := Nat.mul_le_mul_left _ hm0'
      simp only [maxLen]; omega
    have hb0 : w.heap.size ≠ 0 := Nat.ne_of_gt (Nat.lt_of_lt_of_le hs.mem.pos hs.mem.below.size)
    refine (h ss w.heap.size).run _ _ (hs.putNew hN (.ms _ _ _ _ _ (.mk ⟨by simp, fY hs.mem #[] 0 ss _, _, _, rfl⟩ (fun m' rows' hm' => .inr ⟨hb0, 0, n, P.elem T, n * m, rfl, Nat.le_refl _, by unfold World.shape?; rw [heap_alloc_new]; simp [h2.1], ?_, fun _ => by simp⟩) (fun h0 => absurd h0 hb0))) (hs.mem.newObj hf ⟨⟨hm0', h2.2⟩, hall', .inr ⟨hs.mem.below.size, cs, P.elem T, n, heap_alloc_new w _, h2.1, by omega, hnm, fun j t hj => ?_⟩⟩) (hst cs))
    · rcases List.mem_cons.1 hm' with he | hm'
      · simp only [Prod.mk.injEq, ca.row.injEq] at he; rw [he.2.2.1]; simp
      · exact absurd (cK hs.mem hm') (Nat.lt_irrefl _)
    · obtain ⟨v, h4, h5⟩ := h3 j t hj
      exact ⟨v, h4, h5.step (hst cs)⟩⟩
end

inductive Upd (x x' : Nat × Nat × ca) : bp → bp → Prop
  | head (l : bp) : Upd x x' (x :: l) (x' :: l)
  | tail (y : Nat × Nat × ca) (l l' : bp) (h : Upd x x' l l') : Upd x x' (y :: l) (y :: l')
theorem Upd.mem {x x' : Nat × Nat × ca} {l l' : bp} (h : Upd x x' l l') : x ∈ l := by
  induction h with
  | head l => exact List.mem_cons_self
  | tail y l l' h ih => exact List.mem_cons_of_mem _ ih
theorem Upd.other {x x' : Nat × Nat × ca} {l l' : bp} (h : Upd x x' l l') (hp : List.Pairwise dH l) : ∀ y ∈ l', y = x' ∨ (y ∈ l ∧ y.1 ≠ x.1 ∧ (y.2.1 ≠ x.2.1 ∨ x.2.1 = 0)) := by
  induction h with
  | head l =>
    intro y hy
    rcases List.mem_cons.1 hy with rfl | hy
    · exact .inl rfl
    · obtain ⟨h1, h2⟩ := (List.pairwise_cons.1 hp).1 y hy
      exact .inr ⟨List.mem_cons_of_mem _ hy, h1.symm, h2.imp Ne.symm id⟩
  | tail z l l' h ih =>
    intro y hy
    rcases List.mem_cons.1 hy with rfl | hy
    · obtain ⟨h1, h2⟩ := (List.pairwise_cons.1 hp).1 x h.mem
      refine .inr ⟨List.mem_cons_self, h1, ?_⟩
      rcases h2 with h2 | h2
      · exact .inl h2
      · by_cases e : y.2.1 = x.2.1
        · exact .inr (e ▸ h2)
        · exact .inl e
    · exact (ih (List.pairwise_cons.1 hp).2 y hy).imp id fun ⟨h1, h2⟩ => ⟨List.mem_cons_of_mem _ h1, h2⟩
theorem Upd.sites {x x' : Nat × Nat × ca} {l l' : bp} (h : Upd x x' l l') (hs : x'.1 = x.1) (hp : List.Pairwise dH l) (hb : ∀ y ∈ l, y.1 ≠ x.1 → x'.2.1 ≠ y.2.1 ∨ x'.2.1 = 0) : List.Pairwise dH l' := by
  induction h with
  | head l =>
    obtain ⟨h1, h2⟩ := List.pairwise_cons.1 hp
    exact List.pairwise_cons.2 ⟨fun y hy => ⟨by rw [hs]; exact (h1 y hy).1, hb y (List.mem_cons_of_mem _ hy) (h1 y hy).1.symm⟩, h2⟩
  | tail z l l' h ih =>
    obtain ⟨h1, h2⟩ := List.pairwise_cons.1 hp
    refine List.pairwise_cons.2 ⟨fun y hy => ?_, ih h2 fun y hy => hb y (List.mem_cons_of_mem _ hy)⟩
    rcases h.other h2 y hy with rfl | ⟨hy, _, _⟩
    · have hz := h1 x h.mem
      refine ⟨by rw [hs]; exact hz.1, ?_⟩
      rcases hb z List.mem_cons_self hz.1 with h3 | h3
      · exact .inl h3.symm
      · by_cases e : z.2.1 = 0
        · exact .inr e
        · exact .inl (by rw [h3]; exact e)
    · exact h1 y hy

section
variable {P : Program} {w0 : World} {N : Nat} {Q : Exit → Act → World → Prop} {env : Env} {objs objs' : bp} {o : Oper}

theorem jU {w w' : World} (hw : cV w0 objs w) {s b b' m : Nat} {ob ob' : ca} (hu : Upd (s, b, ob) (s, b', ob') objs objs') (hsz : w.heap.size ≤ w'.heap.size)
    (hk : ∀ k, k < w.heap.size → k ≠ b ∨ b = 0 → w'.heap[k]? = w.heap[k]?) (hb' : b' = b ∨ w.heap.size ≤ b') (hkind : ∀ rows', ob' = .row m rows' → ∃ rows, ob = .row m rows) (hm : ∀ m' rows', ob' = .row m' rows' → m' = m) (hsh : b' = b → b ≠ 0 → w'.shape? b = w.shape? b) (hmk : dg ≠ (s, b', ob')) : gT w objs w' objs' := by
  have hoth := hu.other hw.sites
  refine ⟨fun k hlt hna => hk k hlt ?_, fun k hlt ha => ?_, fun s1 b1 m1 rows1 hlt hb1 hm1 => ?_, hsz, fun hm => (hoth _ hm).elim (fun e => absurd e hmk) (fun e => e.1)⟩
  · by_cases e : k = b
    · subst e
      by_cases e0 : k = 0
      · exact .inr e0
      · exact absurd ⟨e0, s, ob, hu.mem⟩ hna
    · exact .inl e
  · obtain ⟨h0, s1, o1, h1⟩ := ha
    rcases hoth _ h1 with he | ⟨h2, _⟩
    · simp only [Prod.mk.injEq] at he
      obtain ⟨_, rfl, _⟩ := he
      rcases hb' with rfl | hb'
      · exact ⟨h0, s, ob, hu.mem⟩
      · omega
    · exact ⟨h0, s1, o1, h2⟩
  · rcases hoth _ hm1 with he | ⟨h2, _, h3⟩
    · simp only [Prod.mk.injEq] at he
      obtain ⟨rfl, rfl, rfl⟩ := he
      have hmm := hm m1 rows1 rfl
      subst hmm
      obtain ⟨rows, hr⟩ := hkind rows1 rfl
      rcases hb' with rfl | hb'
      · exact ⟨⟨rows, hr ▸ hu.mem⟩, hsh rfl hb1⟩
      · omega
    · refine ⟨⟨rows1, h2⟩, eS (hk b1 hlt ?_)⟩
      exact h3
theorem cV.upd {w w' : World} (hw : cV w0 objs w) {s b b' : Nat} {ob ob' : ca} (hu : Upd (s, b, ob) (s, b', ob') objs objs') (hbel : Below w0.heap.size w0 w')
    (hk : ∀ k, k < w.heap.size → k ≠ b ∨ b = 0 → w'.heap[k]? = w.heap[k]?) (hb' : b' = b ∨ w.heap.size ≤ b') (hst : gT w objs w' objs') (hob : oK w' w0.heap.size objs' b' ob') : cV w0 objs' w' := by
  refine ⟨hbel, hw.pos, fun s1 b1 o1 hm1 => ?_, hu.sites rfl hw.sites fun y hy hne => ?_⟩
  · rcases hu.other hw.sites _ hm1 with he | ⟨h2, _, h3⟩
    · simp only [Prod.mk.injEq] at he
      obtain ⟨rfl, rfl, rfl⟩ := he
      exact hob
    · exact (hw.obj s1 b1 o1 h2).step hst (hk b1 (cK hw h2) h3)
  · rcases hb' with rfl | hb'
    · have hx := hu.mem
      by_cases e0 : b' = 0
      · exact .inr e0
      · refine .inl fun e => ?_
        -- two owned things of one block
        have key : ∀ (l : bp), List.Pairwise dH l → (s, b', ob) ∈ l → y ∈ l → y.1 ≠ s → y.2.1 = b' → False := fun l => by
          induction l with
          | nil => intro _ h; simp at h
          | cons z l ih =>
            intro hp h1 h2 h3 h4
            obtain ⟨g1, g2⟩ := List.pairwise_cons.1 hp
            rcases List.mem_cons.1 h1 with rfl | h1'
            · rcases List.mem_cons.1 h2 with rfl | h2'
              · exact h3 rfl
              · rcases (g1 y h2').2 with h | h
                · exact h h4.symm
                · exact e0 h
            · rcases List.mem_cons.1 h2 with rfl | h2'
              · rcases (g1 _ h1').2 with h | h
                · exact h h4
                · exact e0 (h4 ▸ h)
              · exact ih g2 h1' h2' h3 h4
        exact key objs hw.sites hx hy hne e.symm
    · exact .inl (Nat.ne_of_gt (Nat.lt_of_lt_of_le (cK (s := y.1) (ob := y.2.2) hw hy) hb'))

inductive de : List TV → Nat → List TV → List TV → Prop
  | nil (l : List TV) : de l 0 [] l
  | put (x v : TV) (l vs l' : List TV) (h : de l 0 vs l') : de (x :: l) 0 (v :: vs) (v :: l')
  | skip (x : TV) (l : List TV) (n : Nat) (vs l' : List TV) (h : de l n vs l') : de (x :: l) (n + 1) vs (x :: l')
theorem de.spec {l : List TV} {n : Nat} {vs l' : List TV} (h : de l n vs l') : n + vs.length ≤ l.length ∧ l'.length = l.length ∧ ∀ j, l'[j]? = if n ≤ j ∧ j < n + vs.length then vs[j - n]? else l[j]? := by
  induction h with
  | nil l => exact ⟨by simp, rfl, fun j => by rw [if_neg (by simp)]⟩
  | put x v l vs l' h ih =>
    obtain ⟨h1, h2, h3⟩ := ih
    refine ⟨by simp at h1 ⊢; omega, by simp [h2], fun j => ?_⟩
    cases j with
    | zero => simp
    | succ j =>
      have := h3 j
      simp only [List.getElem?_cons_succ, this, List.length_cons, Nat.zero_le, true_and, Nat.sub_zero]
      by_cases hj : j < 0 + vs.length
      · rw [if_pos hj, if_pos (by omega)]
      · rw [if_neg hj, if_neg (by omega)]
  | skip x l n vs l' h ih =>
    obtain ⟨h1, h2, h3⟩ := ih
    refine ⟨by simp at h1 ⊢; omega, by simp [h2], fun j => ?_⟩
    cases j with
    | zero => rw [if_neg (by omega)]; simp
    | succ j =>
      have := h3 j
      simp only [List.getElem?_cons_succ, this]
      by_cases hj : n ≤ j ∧ j < n + vs.length
      · rw [if_pos hj, if_pos (by omega), show j + 1 - (n + 1) = j - n by omega]
      · rw [if_neg hj, if_neg (by omega)]

theorem lI {T : TypeId} {x v : Operand} {a : Act} {w : World} {g q : Nat} {cur : Array Value} {e : TypeId} (ho : o.op = .store T x v) (ha : a.eval x = .pointer (some ⟨g, q, none⟩)) (hi : (P.info? T).isSome = true) (hsz : P.cellsOf T = (a.eval v).cells.size)
    (hg : w.heap[g]? = some (.cells cur e (0, 0))) (hfit : q + (a.eval v).cells.size ≤ cur.size) (h1 : ∀ u ∈ (a.eval v).cells.toList, u.oneCell' = true) :
    (execOp a.eval o).run P w = .ok .skip (w.setRow g (cur.toList.take q ++ (a.eval v).cells.toList ++ cur.toList.drop (q + (a.eval v).cells.size)).toArray) := by
  cases hie : P.info? T with
  | none => rw [hie] at hi; cases hi
  | some i =>
  have hr := run_storeCells_at P g q e (a.eval v).cells.toList 0 cur w hg (by simpa using hfit) h1
  have hne : ¬ (a.eval v).cells.size ≠ P.cellsOf T := by omega
  simp only [execOp, ho, ha, Instr.storeAt, Instr.sureAddr, storeVar, Sem.run_bind, Sem.run_pure, Result.andThen_ok, run_sizeOf w hie, if_neg hne]
  rw [hr]
  simp [Result.andThen_ok]

theorem fQ {w0 w : World} (h : Below w0.heap.size w0 w) {g : Nat} (hg : w0.heap.size ≤ g) (cs : Array Value) : Below w0.heap.size w0 (w.setRow g cs) :=
  h.trans ⟨rfl, rfl, rfl, by simp, fun k hk => setRow_other w g k cs (by omega)⟩
theorem pJ {ops : Array Oper} {rest : List Oper} {T : TypeId} {x v : Operand} {s b off : Nat} {tv : TV} {cells vs cells' : List TV} (ho : o.op = .store T x v) (hd : o.dst = none) (hx : ev env x = some (.mp s b off)) (hv : ev env v = some tv) (hc : ed tv = some vs)
    (hi : (P.info? T).isSome = true) (hsz : P.cellsOf T = vs.length) (hu : Upd (s, b, .box cells) (s, b, .box cells') objs objs') (hsp : de cells off vs cells') (h : AL P w0 N ops Q rest env objs') : AO P w0 N ops Q o rest env objs := ⟨fun a w K hs hK => by
    obtain ⟨⟨hB, hci⟩, cur, e, h2, h3, h4⟩ := hs.mem.obj s b _ hu.mem
    obtain ⟨g1, g2, g3⟩ := fW (dY hs hv) hc
    obtain ⟨p1, p2, p3⟩ := hsp.spec
    have hxa := dY hs hx
    generalize hax : a.eval x = ax at hxa
    cases hxa with
    | mp s b off hb =>
    have hone : ∀ u ∈ (a.eval v).cells.toList, u.oneCell' = true := fun u hu => by
      obtain ⟨k, hk, rfl⟩ := List.getElem_of_mem hu
      have hk' : k < vs.length := by rw [← g1]; simpa using hk
      exact ((g2 k vs[k] _ (List.getElem?_eq_getElem hk') (by rw [← Array.getElem?_toList]; exact List.getElem?_eq_getElem hk)).one (g3 _ (List.getElem_mem hk'))).1
    have hrun := lI (P := P) (o := o) (cur := cur) (e := e) (w := w) ho hax hi (by rw [hsz, g1]) h2 (by rw [g1, h3]; exact p1) hone
    unfold Oper.wp
    rw [hrun]
    refine hK _ _ ?_
    rw [hd]
    have hb0 : b ≠ 0 := by have := hs.mem.pos; omega
    have hkk : ∀ k, k < w.heap.size → k ≠ b ∨ b = 0 → (w.setRow b (cur.toList.take off ++ (a.eval v).cells.toList ++ cur.toList.drop (off + (a.eval v).cells.size)).toArray).heap[k]? = w.heap[k]? := fun k _ hk => setRow_other w b k _ (hk.resolve_right hb0)
    have hst := jU (m := 0) hs.mem hu (w' := w.setRow b (cur.toList.take off ++ (a.eval v).cells.toList ++ cur.toList.drop (off + (a.eval v).cells.size)).toArray) (by simp) hkk (.inl rfl) (by simp) (by simp) (fun _ _ => by
      unfold World.shape?; rw [setRow_heap w b cur _ e _ h2, h2]; simp; omega) (by simp [dg])
    refine h.run _ _ (hs.same (hs.mem.upd hu (fQ hs.mem.below hB _) hkk (.inl rfl) hst ⟨⟨hB, fun t ht => ?_⟩, _, e, setRow_heap w b cur _ e _ h2, ?_, fun j t hj => ?_⟩) hst)
    · obtain ⟨k, hk, rfl⟩ := List.getElem_of_mem ht
      have h5 := p3 k
      rw [List.getElem?_eq_getElem hk] at h5
      split at h5
      · exact g3 _ (List.mem_of_getElem? h5.symm)
      · exact hci _ (List.mem_of_getElem? h5.symm)
    · simp; omega
    · rw [p3] at hj
      have hcur : ∀ i : Nat, cur.toList[i]? = cur[i]? := fun i => by simp
      simp only [List.getElem?_toArray]
      split at hj
      · rename_i hin
        have hlt : j - off < (a.eval v).cells.size := by omega
        refine ⟨(a.eval v).cells[j - off], ?_, (g2 _ t _ hj (by simp [hlt])).step hst⟩
        rw [List.getElem?_append_left (by simp; omega), List.getElem?_append_right (by simp; omega)]
        simp only [List.length_take, Array.length_toList]
        rw [show j - min off cur.size = j - off by omega]
        simp [hlt]
      · rename_i hin
        obtain ⟨u, h5, h6⟩ := h4 j t hj
        refine ⟨u, ?_, h6.step hst⟩
        have hjl : j < cur.size := (Array.getElem?_eq_some_iff.1 h5).1
        by_cases hjo : j < off
        · rw [List.getElem?_append_left (by simp; omega), List.getElem?_append_left (by simp; omega), List.getElem?_take, if_pos hjo, hcur]; exact h5
        · rw [List.getElem?_append_right (by simp; omega)]
          simp only [List.length_append, List.length_take, Array.length_toList, List.getElem?_drop]
          rw [show off + (a.eval v).cells.size + (j - (min off cur.size + (a.eval v).cells.size)) = j by omega, hcur]; exact h5⟩
end

section
variable {P : Program} {w0 : World} {N : Nat} {Q : Exit → Act → World → Prop} {env : Env} {objs objs' : bp} {o : Oper}

theorem pP {m : Nat} {rows : List (List TV)} (hm : ∀ r ∈ rows, r.length = m) (hm0 : 0 < m) {k : Nat} (hk : k < rows.length) {r' : List TV} (hr' : r'.length = m) (j : Nat) :
    (rows.set k r').flatten[j]? = if k * m ≤ j ∧ j < (k + 1) * m then r'[j - k * m]? else rows.flatten[j]? := by
  have hm' : ∀ r ∈ rows.set k r', r.length = m := fun r hr => by
    rcases List.mem_or_eq_of_mem_set hr with h | h
    · exact hm r h
    · exact h ▸ hr'
  have hL : (rows.set k r').flatten.length = rows.length * m := by rw [length_flatten hm', List.length_set]
  have hL2 := length_flatten hm
  by_cases hj : j < rows.length * m
  · have hq : j / m < rows.length := Nat.div_lt_of_lt_mul (by rw [Nat.mul_comm]; exact hj)
    have hmod : j % m < m := Nat.mod_lt _ hm0
    have hje : j = (j / m) * m + j % m := by rw [Nat.mul_comm]; exact (Nat.div_add_mod j m).symm
    by_cases hc : j / m = k
    · have h1 : (rows.set k r')[j / m]? = some r' := by rw [hc, List.getElem?_set_self hk]
      have h2 := di hm' h1 hmod
      rw [← hje] at h2
      rw [h2, if_pos ⟨by rw [← hc]; omega, by rw [← hc, Nat.add_mul, Nat.one_mul]; omega⟩, show j - k * m = j % m by rw [← hc]; omega]
    · have h1 : (rows.set k r')[j / m]? = some rows[j / m] := by rw [List.getElem?_set_ne (Ne.symm hc)]; exact List.getElem?_eq_getElem hq
      have h2 := di hm' h1 hmod
      have h3 := di hm (List.getElem?_eq_getElem hq) hmod
      rw [← hje] at h2 h3
      rw [h2, h3, if_neg]
      rintro ⟨g1, g2⟩
      apply hc
      refine Nat.le_antisymm ?_ ?_
      · exact Nat.le_of_lt_succ (Nat.div_lt_of_lt_mul (by rw [Nat.mul_comm]; exact g2))
      · exact (Nat.le_div_iff_mul_le hm0).2 g1
  · rw [List.getElem?_eq_none (by omega), if_neg (by
      rintro ⟨_, g2⟩
      have : (k + 1) * m ≤ rows.length * m := Nat.mul_le_mul_right _ hk
      omega), List.getElem?_eq_none (by omega)]

theorem nl {rows : List (List TV)} {k : Nat} {r' : List TV} (h : ∀ t ∈ rows.flatten, t.isCell = true) (h' : ∀ t ∈ r', t.isCell = true) : ∀ t ∈ (rows.set k r').flatten, t.isCell = true := fun t ht => by
  obtain ⟨r, hr, htr⟩ := List.mem_flatten.1 ht
  rcases List.mem_or_eq_of_mem_set hr with h1 | h1
  · exact h t (List.mem_flatten.2 ⟨r, h1, htr⟩)
  · exact h' t (h1 ▸ htr)

theorem pS {ops : Array Oper} {rest : List Oper} {T : TypeId} {x v : Operand} {s b m k j : Nat} {tv : TV} {vs r r' : List TV} {rows rows' : List (List TV)} (ho : o.op = .store T x v) (hd : o.dst = none) (hx : ev env x = some (.me s b m k j)) (hv : ev env v = some tv) (hc : ed tv = some vs)
    (hi : (P.info? T).isSome = true) (hsz : P.cellsOf T = vs.length) (hu : Upd (s, b, .row m rows) (s, b, .row m rows') objs objs') (hr : rows[k]? = some r) (hsp : de r j vs r') (hrows : rows.set k r' = rows') (h : AL P w0 N ops Q rest env objs') : AO P w0 N ops Q o rest env objs := ⟨fun a w K hs hK => by
    subst hrows
    obtain ⟨⟨hm0, hci⟩, hm, hor⟩ := hs.mem.obj s b _ hu.mem
    have hk : k < rows.length := (List.getElem?_eq_some_iff.1 hr).1
    have hrm : r.length = m := hm r (List.mem_of_getElem? hr)
    rcases hor with ⟨_, h0⟩ | ⟨hB, cur, e, cap, h2, h3, hcap, hmax, h4⟩
    · subst h0; simp at hk
    obtain ⟨g1, g2, g3⟩ := fW (dY hs hv) hc
    obtain ⟨p1, p2, p3⟩ := hsp.spec
    have hxa := dY hs hx
    generalize hax : a.eval x = ax at hxa
    cases hxa with
    | me s b m k j hb =>
    have hone : ∀ u ∈ (a.eval v).cells.toList, u.oneCell' = true := fun u hu => by
      obtain ⟨i, hi, rfl⟩ := List.getElem_of_mem hu
      have hi' : i < vs.length := by rw [← g1]; simpa using hi
      exact ((g2 i vs[i] _ (List.getElem?_eq_getElem hi') (by rw [← Array.getElem?_toList]; exact List.getElem?_eq_getElem hi)).one (g3 _ (List.getElem_mem hi'))).1
    have hkm : k * m + m ≤ cur.size := by
      have : (k + 1) * m ≤ cap * m := Nat.mul_le_mul_right _ (by omega)
      rw [Nat.add_mul, Nat.one_mul] at this; omega
    have hrun := lI (P := P) (o := o) (cur := cur) (e := e) (w := w) ho hax hi (by rw [hsz, g1]) h2 (by rw [g1]; omega) hone
    unfold Oper.wp
    rw [hrun]
    refine hK _ _ ?_
    rw [hd]
    have hb0 : b ≠ 0 := by have := hs.mem.pos; omega
    generalize hq : k * m + j = q at *
    have hkk : ∀ i, i < w.heap.size → i ≠ b ∨ b = 0 → (w.setRow b (cur.toList.take q ++ (a.eval v).cells.toList ++ cur.toList.drop (q + (a.eval v).cells.size)).toArray).heap[i]? = w.heap[i]? := fun i _ hi => setRow_other w b i _ (hi.resolve_right hb0)
    have hst := jU (m := m) hs.mem hu (w' := w.setRow b (cur.toList.take q ++ (a.eval v).cells.toList ++ cur.toList.drop (q + (a.eval v).cells.size)).toArray) (by simp) hkk (.inl rfl) (fun rows' he => ⟨rows, rfl⟩) (fun m' rows' he => by simp only [ca.row.injEq] at he; exact he.1.symm) (fun _ _ => by
      unfold World.shape?; rw [setRow_heap w b cur _ e _ h2, h2]; simp; omega) (by simp only [dg, ne_eq, Prod.mk.injEq, ca.row.injEq]; omega)
    have hr'c : ∀ t ∈ r', t.isCell = true := fun t ht => by
      obtain ⟨i, hi, rfl⟩ := List.getElem_of_mem ht
      have h5 := p3 i
      rw [List.getElem?_eq_getElem hi] at h5
      split at h5
      · exact g3 _ (List.mem_of_getElem? h5.symm)
      · exact hci _ (List.mem_flatten.2 ⟨r, List.mem_of_getElem? hr, List.mem_of_getElem? h5.symm⟩)
    have hr'm : r'.length = m := by omega
    refine h.run _ _ (hs.same (hs.mem.upd hu (fQ hs.mem.below hB _) hkk (.inl rfl) hst ⟨⟨hm0, nl hci hr'c⟩, fun r1 hr1 => ?_, .inr ⟨hB, _, e, cap, setRow_heap w b cur _ e _ h2, ?_, by simpa using hcap, hmax, fun i t hi => ?_⟩⟩) hst)
    · rcases List.mem_or_eq_of_mem_set hr1 with h5 | h5
      · exact hm r1 h5
      · exact h5 ▸ hr'm
    · simp; omega
    · have hcur : ∀ i : Nat, cur.toList[i]? = cur[i]? := fun i => by simp
      rw [pP hm hm0 hk hr'm] at hi
      simp only [List.getElem?_toArray]
      by_cases hin : q ≤ i ∧ i < q + vs.length
      · have e1 : k * m ≤ i ∧ i < (k + 1) * m := ⟨by omega, by rw [Nat.add_mul, Nat.one_mul]; omega⟩
        rw [if_pos e1, p3, if_pos (by omega), show i - k * m - j = i - q by omega] at hi
        have hlt : i - q < (a.eval v).cells.size := by omega
        refine ⟨(a.eval v).cells[i - q], ?_, (g2 _ t _ hi (by simp [hlt])).step hst⟩
        rw [List.getElem?_append_left (by simp; omega), List.getElem?_append_right (by simp; omega)]
        simp only [List.length_take, Array.length_toList]
        rw [show i - min q cur.size = i - q by omega]
        simp [hlt]
      · have hi2 : rows.flatten[i]? = some t := by
          split at hi
          · rename_i e1
            rw [p3, if_neg (by omega)] at hi
            have h6 := di hm hr (j := i - k * m) (by rw [Nat.add_mul, Nat.one_mul] at e1; omega)
            rw [show k * m + (i - k * m) = i by omega] at h6
            rw [h6]; exact hi
          · exact hi
        obtain ⟨u, h5, h6⟩ := h4 i t hi2
        refine ⟨u, ?_, h6.step hst⟩
        have hjl : i < cur.size := (Array.getElem?_eq_some_iff.1 h5).1
        by_cases hjo : i < q
        · rw [List.getElem?_append_left (by simp; omega), List.getElem?_append_left (by simp; omega), List.getElem?_take, if_pos hjo, hcur]; exact h5
        · rw [List.getElem?_append_right (by simp; omega)]
          simp only [List.length_append, List.length_take, Array.length_toList, List.getElem?_drop]
          rw [show q + (a.eval v).cells.size + (i - (min q cur.size + (a.eval v).cells.size)) = i by omega, hcur]; exact h5⟩

def nY (P : Program) (T m : Nat) : Bool := match P.underlying T with
  | some (.slice e) => (match P.info? e with
    | some i => i.size == m && (match i.zero with | some z => z.cells.size == m | none => false) && Nat.ble i.bytes 4096
    | none => false)
  | _ => false
theorem rP {T m : Nat} (h : nY P T m = true) : ∃ e i z, P.underlying T = some (.slice e) ∧ P.info? e = some i ∧ i.zero = some z ∧ i.size = m ∧ z.cells.size = m ∧ i.bytes ≤ 4096 := by
  unfold nY at h
  split at h
  · rename_i e hu
    split at h
    · rename_i i hi
      simp only [Bool.and_eq_true, beq_iff_eq] at h
      obtain ⟨⟨h1, h2⟩, h3⟩ := h
      split at h2
      · rename_i z hz; exact ⟨e, i, z, hu, hi, hz, h1, by simpa using h2, Nat.le_of_ble_eq_true h3⟩
      · cases h2
    · cases h
  · cases h

theorem ot {w : World} {s b off len : Nat} {v : Value} (h : Rep w objs (.ms s b off len) v) : xZ w objs s b off len v := by
  cases h with
  | ms _ _ _ _ _ h => exact h
theorem jr {w : World} {f : Nat} {m : Nat} {rows : List (List TV)} {v : Value} (h : Rep w objs (.sl f m rows) v) : ∃ A c, v = .slice A rows.length c ∧ rows.length ≤ c ∧ c ≤ maxLen ∧ (∀ r ∈ rows, r.length = m) ∧ (∀ t ∈ rows.flatten, t.isCell = true) ∧
    ∀ (j : Nat) (t : TV), rows.flatten[j]? = some t → ∃ b q u, A = some ⟨b, q, none⟩ ∧ ZZ objs f b ∧ w.cell? ⟨b, q + j, none⟩ = some u ∧ Rep w objs t u := by
  cases h with
  | sl f m rows A c h1 h2 hm hi g hc hr => exact ⟨A, c, rfl, h1, h2, hm, hi, fun j t hj => by obtain ⟨b, q, h3, h4, h5⟩ := hc j t hj; exact ⟨b, q, g j, h3, h4, h5, hr j t hj⟩⟩

theorem iJ {w : World} (t ty e e' : TypeId) (i : TypeInfo) (ht : P.underlying t = some (.slice e)) (hi : P.info? e = some i)
    (g q sLen sCap : Nat) (cur : Array Value) (hg : w.heap[g]? = some (.cells cur e' (0, 0)))
    (a : Addr) (m c : Nat) (news : List Value) (hl : news.length = m * i.size) (hnews : ∀ j u, news[j]? = some u → w.cell? (a.add j) = some u) (h1 : ∀ u ∈ news, u.oneCell' = true)
    (hroom : sLen + m ≤ sCap) (hfit : q + sLen * i.size + news.length ≤ cur.size) :
    (Builtin.append_ #[t, t] ty #[.slice (some ⟨g, q, none⟩) sLen sCap, .slice (some a) m c]).run P w =
      .ok (.slice (some ⟨g, q, none⟩) (sLen + m) sCap) (w.setRow g (cur.toList.take (q + sLen * i.size) ++ news ++ cur.toList.drop (q + sLen * i.size + news.length)).toArray) := by
  have hf := run_firstCells_some (P := P) w i.size m a m c news hl hnews
  have hst := run_storeCells_at P g (q + sLen * i.size) e' news 0 cur w hg (by simpa using hfit) h1
  simp only [Nat.add_zero] at hst
  simp [Builtin.append_, run_underlying ht, sizeOf, typeInfo, hi, Builtin.lenOf, hroom, hf, Addr.add_lit, hst]

theorem lD {w : World} {b q n : Nat} {l : List TV} (hl : l.length = n) (hi : ∀ t ∈ l, t.isCell = true) (h : ∀ (j : Nat) (t : TV), l[j]? = some t → ∃ u, w.cell? ⟨b, q + j, none⟩ = some u ∧ Rep w objs t u) :
    ∃ nv : List Value, nv.length = n ∧ (∀ (j : Nat) (u : Value), nv[j]? = some u → w.cell? ((⟨b, q, none⟩ : Addr).add j) = some u) ∧ (∀ u ∈ nv, u.oneCell' = true) ∧ ∀ (j : Nat) (t : TV), l[j]? = some t → ∃ u, nv[j]? = some u ∧ Rep w objs t u := by
  have key : ∀ j, j < n → ∃ u, w.cell? ⟨b, q + j, none⟩ = some u ∧ ∃ t, l[j]? = some t ∧ Rep w objs t u := fun j hj => by
    obtain ⟨u, h1, h2⟩ := h j l[j] (List.getElem?_eq_getElem (by omega))
    exact ⟨u, h1, l[j], List.getElem?_eq_getElem (by omega), h2⟩
  refine ⟨(List.range n).map fun j => (w.cell? ⟨b, q + j, none⟩).getD undef, by simp, fun j u hj => ?_, fun u hu => ?_, fun j t hj => ?_⟩
  · rw [List.getElem?_map] at hj
    have hlt : j < n := by
      rcases Nat.lt_or_ge j n with h | h
      · exact h
      · rw [List.getElem?_eq_none (by simpa using h)] at hj; cases hj
    obtain ⟨u', h1, _⟩ := key j hlt
    rw [List.getElem?_range hlt] at hj
    simp only [Option.map_some, h1, Option.getD_some, Option.some.injEq] at hj
    subst hj
    rw [Addr.add_lit]; exact h1
  · obtain ⟨j, hj, rfl⟩ := List.mem_map.1 hu
    obtain ⟨u', h1, t, h2, h3⟩ := key j (List.mem_range.1 hj)
    rw [h1]
    exact (h3.one (hi t (List.mem_of_getElem? h2))).1
  · obtain ⟨u, h1, h2⟩ := h j t hj
    have hlt : j < n := by rw [← hl]; exact (List.getElem?_eq_some_iff.1 hj).1
    exact ⟨u, by rw [List.getElem?_map, List.getElem?_range hlt, Option.map_some, h1]; rfl, h2⟩

structure wM (w0 : World) (w : World) (objs : bp) (s b off len m n : Nat) (rows news : List (List TV)) (b' off' : Nat) (pre : List (List TV)) (v' : Value) (w' : World) : Prop where
  prelen : pre.length = off'
  prem : ∀ r ∈ pre, r.length = m
  prec : ∀ t ∈ pre.flatten, t.isCell = true
  zero : off = 0 → off' = 0
  blk : b' = b ∨ w.heap.size ≤ b'
  below : Below w0.heap.size w0 w'
  size : w.heap.size ≤ w'.heap.size
  keep : ∀ k, k < w.heap.size → k ≠ b ∨ b = 0 → w'.heap[k]? = w.heap[k]?
  shape : b' = b → b ≠ 0 → w'.shape? b = w.shape? b
  val : (b' = 0 ∧ off' = 0 ∧ len + n = 0 ∧ v' = .slice none 0 0) ∨
    (b' ≠ 0 ∧ ∃ o c e k, v' = .slice (some ⟨b', o, none⟩) (len + n) c ∧ len + n ≤ c ∧ w'.shape? b' = some (e, k) ∧ k = (off' + c) * m ∧ (0 < c ∨ off' = 0 → o = off' * m))
  obj : (b' = 0 ∧ pre ++ ((rows.drop off).take len ++ news) = []) ∨ (w0.heap.size ≤ b' ∧ ∃ cur e cap, w'.heap[b']? = some (.cells cur e (0, 0)) ∧ cur.size = cap * m ∧ (pre ++ ((rows.drop off).take len ++ news)).length ≤ cap ∧ cap ≤ maxLen ∧
    ∀ (j : Nat) (t : TV), (pre ++ ((rows.drop off).take len ++ news)).flatten[j]? = some t → ∃ u, cur[j]? = some u ∧ Rep w objs t u)
  lt : b' < w'.heap.size

theorem kA {rows : List (List TV)} {off len : Nat} : rows.take off ++ (rows.drop off).take len = rows.take (off + len) := by
  rw [List.take_add]
theorem dc {m : Nat} {rows : List (List TV)} (hm : ∀ r ∈ rows, r.length = m) (k : Nat) : (rows.take k).flatten = rows.flatten.take (k * m) := by
  induction rows generalizing k with
  | nil => simp
  | cons x l ih =>
    cases k with
    | zero => simp
    | succ k =>
      have hx := hm x (by simp)
      rw [List.take_succ_cons, List.flatten_cons, List.flatten_cons, ih (fun r hr => hm r (by simp [hr])), List.take_append, Nat.add_mul, Nat.one_mul, hx, List.take_of_length_le (l := x) (by omega), show k * m + m - m = k * m by omega]
theorem ey {m : Nat} {rows : List (List TV)} (hm : ∀ r ∈ rows, r.length = m) (k : Nat) : (rows.drop k).flatten = rows.flatten.drop (k * m) := by
  induction rows generalizing k with
  | nil => simp
  | cons x l ih =>
    cases k with
    | zero => simp
    | succ k =>
      have hx := hm x (by simp)
      rw [List.drop_succ_cons, List.flatten_cons, ih (fun r hr => hm r (by simp [hr])), List.drop_append, Nat.add_mul, Nat.one_mul, hx, List.drop_of_length_le (l := x) (by omega), show k * m + m - m = k * m by omega, List.nil_append]

theorem rH {w : World} (hw : cV w0 objs w) {T ty s b off len m n : Nat} {f : Nat} {rows news : List (List TV)} (hmem : (s, b, ca.row m rows) ∈ objs) {v1 v2 : Value} (h1 : Rep w objs (.ms s b off len) v1) (h2 : Rep w objs (.sl f m news) v2)
    (hT : nY P T m = true) (hl : off + len ≤ rows.length) (hn : news.length = n) (hbig : len + n ≤ 1000000000) :
    ∃ b' off' pre v' w', (Builtin.append_ #[T, T] ty #[v1, v2]).run P w = .ok v' w' ∧ wM w0 w objs s b off len m n rows news b' off' pre v' w' := by
  obtain ⟨e, i, z, hu, hie, hz, hisz, hzs, hby⟩ := rP hT
  obtain ⟨⟨hm0, hci⟩, hm, hor⟩ := hw.obj s b _ hmem
  obtain ⟨A2, c2, rfl, g1, g2, g3, g4, g5⟩ := jr h2
  have hms := (ot h1).or m rows hmem
  have hpos : 0 < w.heap.size := Nat.lt_of_lt_of_le hw.pos hw.below.size
  have hblt := (ot h1).1.1
  subst hn
  by_cases hn0 : news = []
  · -- nothing is appended
    subst hn0
    refine ⟨b, off, rows.take off, v1, w, ?_, ?_⟩
    · rcases hms with ⟨_, _, _, rfl⟩ | ⟨_, o, c, e', k, rfl, hlc, _⟩
      · cases A2 <;> simp [Builtin.append_, run_underlying hu, sizeOf, typeInfo, hie, Builtin.lenOf, Builtin.firstCells, loadCells, loadCellsFrom]
      · cases A2 <;> simp [Builtin.append_, run_underlying hu, sizeOf, typeInfo, hie, Builtin.lenOf, Builtin.firstCells, hlc, storeCells, loadCells, loadCellsFrom]
    · refine ⟨by simp; omega, fun r hr => hm r (List.mem_of_mem_take hr), fun t ht => by
          obtain ⟨r, hr, htr⟩ := List.mem_flatten.1 ht
          exact hci t (List.mem_flatten.2 ⟨r, List.mem_of_mem_take hr, htr⟩), id, .inl rfl, hw.below, Nat.le_refl _, fun _ _ _ => rfl, fun _ _ => rfl, ?_, ?_, hblt⟩
      · simpa using hms
      · rw [List.append_nil, kA]
        rcases hor with ⟨h3, rfl⟩ | ⟨hB, cur, e', cap, h3, h4, h5, h6, h7⟩
        · exact .inl ⟨h3, by simp⟩
        · refine .inr ⟨hB, cur, e', cap, h3, h4, by simp; omega, h6, fun j t hj => h7 j t ?_⟩
          rw [dc hm, List.getElem?_take] at hj
          split at hj
          · exact hj
          · cases hj
  · have hnpos : 0 < news.length := List.length_pos_iff.2 hn0
    have hfl := length_flatten g3
    have hflpos : 0 < news.flatten.length := by rw [hfl]; exact Nat.mul_pos hnpos hm0
    obtain ⟨b2, q2, _, hA2, _, _, _⟩ := g5 0 _ (List.getElem?_eq_getElem hflpos)
    subst hA2
    obtain ⟨nv, n1, n2, n3, n4⟩ := lD (w := w) (b := b2) (q := q2) (objs := objs) hfl g4 (fun j t hj => by
      obtain ⟨b, q, u, h3, _, h4, h5⟩ := g5 j t hj
      simp only [Option.some.injEq, Addr.mk.injEq, and_true] at h3
      obtain ⟨rfl, rfl⟩ := h3
      exact ⟨u, h4, h5⟩)
    have n1' : nv.length = news.length * i.size := by rw [n1, hisz]
    -- what a new block holds
    have fresh : ∀ (old : Nat) (olds : List Value) (live : List (List TV)), live.length = len → (∀ r ∈ live, r.length = m) → olds.length = len * m → (∀ (j : Nat) (t : TV), live.flatten[j]? = some t → ∃ u, olds[j]? = some u ∧ Rep w objs t u) → live = (rows.drop off).take len →
        wM w0 w objs s b off len m news.length rows news w.heap.size 0 [] (.slice (some ⟨w.heap.size, 0, none⟩) (len + news.length) (grownCap w (len + news.length) old e))
          (w.drew.alloc (.cells (olds.toArray ++ nv.toArray ++ Builtin.zeroCells z.cells (grownCap w (len + news.length) old e - (len + news.length))) e)) := by
      intro old olds live l1 l2 l3 l4 l5
      have hge := grownCap_ge w (len + news.length) old e
      have hcm : grownCap w (len + news.length) old e ≤ maxLen := grownCap_le_maxLen w (len + news.length) old e (by simp only [maxLen]; omega)
      have hkeep : ∀ k, k < w.heap.size → ∀ ob, (w.drew.alloc ob).heap[k]? = w.heap[k]? := fun k hk ob => Below.heap_alloc w.drew ob k hk
      have hsize : (olds.toArray ++ nv.toArray ++ Builtin.zeroCells z.cells (grownCap w (len + news.length) old e - (len + news.length))).size = grownCap w (len + news.length) old e * m := by
        simp only [Array.size_append, List.size_toArray, size_zeroCells, hzs, l3, n1, ← Nat.add_mul]
        congr 1; omega
      have hb0 : w.heap.size ≠ 0 := by omega
      have hshp : (w.drew.alloc (.cells (olds.toArray ++ nv.toArray ++ Builtin.zeroCells z.cells (grownCap w (len + news.length) old e - (len + news.length))) e)).shape? w.heap.size = some (e, grownCap w (len + news.length) old e * m) := by
        unfold World.shape?
        rw [show (w.drew.alloc (.cells (olds.toArray ++ nv.toArray ++ Builtin.zeroCells z.cells (grownCap w (len + news.length) old e - (len + news.length))) e)).heap[w.heap.size]? = some (.cells _ e (0, 0)) from heap_alloc_new w.drew _]
        simp only [hsize]
      refine ⟨rfl, by simp, by simp, fun _ => rfl, .inr (Nat.le_refl _), hw.below.trans ⟨rfl, rfl, rfl, by simp, fun k hk => hkeep k (Nat.lt_of_lt_of_le hk hw.below.size) _⟩, by simp, fun k hk _ => hkeep k hk _, fun h _ => absurd (h ▸ hblt) (Nat.lt_irrefl _), .inr ⟨hb0, 0, _, e, _, rfl, hge, hshp, by rw [Nat.zero_add], fun _ => by simp⟩, .inr ⟨hw.below.size, _, e, _, heap_alloc_new w.drew _, hsize, ?_, hcm, fun j t hj => ?_⟩, by simp⟩
      · rw [List.nil_append, ← l5, List.length_append, l1]; exact hge
      · rw [List.nil_append, ← l5, List.flatten_append] at hj
        have hlf : live.flatten.length = len * m := by rw [length_flatten l2, l1]
        by_cases hjl : j < len * m
        · rw [List.getElem?_append_left (by omega)] at hj
          obtain ⟨u, h5, h6⟩ := l4 j t hj
          exact ⟨u, by rw [Array.getElem?_append_left (by simp; omega), Array.getElem?_append_left (by simp; omega)]; simpa using h5, h6⟩
        · rw [List.getElem?_append_right (by omega), hlf] at hj
          obtain ⟨u, h5, h6⟩ := n4 _ t hj
          have : j - len * m < nv.length := (List.getElem?_eq_some_iff.1 h5).1
          exact ⟨u, by rw [Array.getElem?_append_left (by simp; omega), Array.getElem?_append_right (by simp; omega)]; simpa [l3] using h5, h6⟩
    have hlive : ((rows.drop off).take len).length = len := by simp; omega
    have hlivem : ∀ r ∈ (rows.drop off).take len, r.length = m := fun r hr => hm r (List.mem_of_mem_drop (List.mem_of_mem_take hr))
    rcases hms with ⟨hb, hoff, hlen, rfl⟩ | ⟨hb0, o, c, e', k, rfl, hlc, hsh, hk, ho⟩
    · -- onto nil
      subst hlen
      have hr := run_append_nil (P := P) w T ty e i z hu hie hz ⟨b2, q2, none⟩ news.length c2 nv n1' n2 hnpos (by omega) (by have : news.length * i.bytes ≤ 1000000000 * 4096 := Nat.mul_le_mul (by omega) hby; omega)
      have hf := fresh 0 [] ((rows.drop off).take 0) hlive hlivem (by simp) (by simp) rfl
      simp only [Nat.zero_add, Array.empty_append] at hf
      refine ⟨w.heap.size, 0, [], _, _, hr, ?_⟩
      simpa using hf
    · rcases hor with ⟨h0, _⟩ | ⟨hB, cur, e'', cap, h3, h4, h5, h6, h7⟩
      · exact absurd h0 hb0
      have hshape : (e'', cur.size) = (e', k) := by
        have : w.shape? b = some (e'', cur.size) := by unfold World.shape?; rw [h3]
        rw [this] at hsh; simpa using hsh
      have hkc : cur.size = (off + c) * m := by have := congrArg Prod.snd hshape; simp only at this; omega
      by_cases hroom : len + news.length ≤ c
      · -- there is room
        have hoe := ho (.inl (by omega))
        subst hoe
        have hmul : (off + (len + news.length)) * m ≤ (off + c) * m := Nat.mul_le_mul_right _ (by omega)
        rw [Nat.add_mul, Nat.add_mul] at hmul
        have hfit : off * m + len * i.size + nv.length ≤ cur.size := by rw [hisz, n1, hkc]; omega
        have hr := iJ (P := P) (w := w) T ty e e'' i hu hie b (off * m) len c cur h3 ⟨b2, q2, none⟩ news.length c2 nv n1' n2 n3 hroom hfit
        rw [hisz] at hr hfit
        have hnewsize : (cur.toList.take (off * m + len * m) ++ nv ++ cur.toList.drop (off * m + len * m + nv.length)).toArray.size = cur.size := by simp; omega
        refine ⟨b, off, rows.take off, _, _, hr, by simp; omega, fun r hr => hm r (List.mem_of_mem_take hr), fun t ht => by
          obtain ⟨r, hr, htr⟩ := List.mem_flatten.1 ht
          exact hci t (List.mem_flatten.2 ⟨r, List.mem_of_mem_take hr, htr⟩), id, .inl rfl, fQ hw.below hB _, by simp, fun k _ hk => setRow_other w b k _ (hk.resolve_right hb0), fun _ _ => ?_, .inr ⟨hb0, off * m, c, e'', cur.size, rfl, hroom, ?_, hkc, fun _ => rfl⟩, .inr ⟨hB, _, e'', cap, setRow_heap w b cur _ e'' _ h3, by rw [hnewsize]; exact h4, ?_, h6, fun j t hj => ?_⟩, by simpa using hblt⟩
        · unfold World.shape?; rw [setRow_heap w b cur _ e'' _ h3, h3]; simp only [hnewsize]
        · unfold World.shape?; rw [setRow_heap w b cur _ e'' _ h3]; simp only [hnewsize]
        · have hcap : cap = off + c := by
            have : cap * m = (off + c) * m := by omega
            exact Nat.eq_of_mul_eq_mul_right hm0 this
          rw [← List.append_assoc, kA]; simp; omega
        · rw [← List.append_assoc, kA, List.flatten_append, dc hm] at hj
          have hcur : ∀ i : Nat, cur.toList[i]? = cur[i]? := fun i => by simp
          have hlf : (rows.flatten.take ((off + len) * m)).length = off * m + len * m := by
            rw [List.length_take, length_flatten hm, ← Nat.add_mul]
            exact Nat.min_eq_left (Nat.mul_le_mul_right _ hl)
          simp only [List.getElem?_toArray]
          by_cases hjl : j < off * m + len * m
          · rw [List.getElem?_append_left (by omega), List.getElem?_take, if_pos (by rw [Nat.add_mul]; exact hjl)] at hj
            obtain ⟨u, p1, p2⟩ := h7 j t hj
            exact ⟨u, by rw [List.getElem?_append_left (by simp; omega), List.getElem?_append_left (by simp; omega), List.getElem?_take, if_pos hjl, hcur]; exact p1, p2⟩
          · rw [List.getElem?_append_right (by omega), hlf] at hj
            obtain ⟨u, p1, p2⟩ := n4 _ t hj
            have : j - (off * m + len * m) < nv.length := (List.getElem?_eq_some_iff.1 p1).1
            refine ⟨u, ?_, p2⟩
            rw [List.getElem?_append_left (by simp; omega), List.getElem?_append_right (by simp; omega)]
            simp only [List.length_take, Array.length_toList]
            rw [show min (off * m + len * m) cur.size = off * m + len * m by omega]; exact p1
      · -- a new block
        have holds : ∃ olds : List Value, olds.length = len * m ∧ (∀ (j : Nat) (u : Value), olds[j]? = some u → w.cell? ((⟨b, o, none⟩ : Addr).add j) = some u) ∧ ∀ (j : Nat) (t : TV), ((rows.drop off).take len).flatten[j]? = some t → ∃ u, olds[j]? = some u ∧ Rep w objs t u := by
          by_cases hlen : len = 0
          · subst hlen; exact ⟨[], by simp, by simp, by simp⟩
          · have hoe := ho (.inl (by omega))
            subst hoe
            obtain ⟨nv', m1, m2, _, m4⟩ := lD (w := w) (b := b) (q := off * m) (objs := objs) (l := ((rows.drop off).take len).flatten) (n := len * m) (by rw [length_flatten hlivem, hlive]) (fun t ht => by
                obtain ⟨r, hr, htr⟩ := List.mem_flatten.1 ht
                exact hci t (List.mem_flatten.2 ⟨r, List.mem_of_mem_drop (List.mem_of_mem_take hr), htr⟩)) (fun j t hj => by
                rw [dc (fun r hr => hm r (List.mem_of_mem_drop hr)), ey hm, List.getElem?_take] at hj
                split at hj
                · rw [List.getElem?_drop] at hj
                  obtain ⟨u, p1, p2⟩ := h7 _ t hj
                  exact ⟨u, by rw [cell_of_row w b _ cur e'' (0, 0) h3]; exact p1, p2⟩
                · cases hj)
            exact ⟨nv', m1, m2, m4⟩
        obtain ⟨olds, o1, o2, o3⟩ := holds
        have hr := run_append_grow (P := P) w T ty e i z hu hie hz ⟨b, o, none⟩ len c olds (by rw [o1, hisz]) o2 ⟨b2, q2, none⟩ news.length c2 nv n1' n2 (by omega) (by omega) (growslice_fits (by omega) (by have : (len + news.length) * i.bytes ≤ 1000000000 * 4096 := Nat.mul_le_mul hbig hby; omega))
        exact ⟨w.heap.size, 0, [], _, _, hr, fresh c olds _ hlive hlivem o1 o3 rfl⟩

theorem ks {x y : Operand} {T : TypeId} (ho : o.op = .call { callee := .builtin .append, args := #[x, y], argTypes := #[T, T] }) {a : Act} {w w' : World} {v : Value} (h : (Builtin.append_ #[T, T] o.type #[a.eval x, a.eval y]).run P w = .ok v w') :
    (execOp a.eval o).run P w = .ok (.value v) w' := by
  simp only [execOp, ho, resolve, Sem.run_bind, Sem.run_pure, Result.andThen_ok, invoke, builtin, List.map_toArray, List.map_cons, List.map_nil]
  rw [h]; rfl

theorem qc {objsOf : Nat → List (List TV) → bp} {ops : Array Oper} {rest : List Oper} {d T s b off len n m : Nat} {x y : Operand} {f : Nat} {rows live news : List (List TV)} (ho : o.op = .call { callee := .builtin .append, args := #[x, y], argTypes := #[T, T] }) (hd : o.dst = some d) (hN : Nat.blt d N = true)
    (hx : ev env x = some (.ms s b off len)) (hy : ev env y = some (.sl f m news)) (hT : nY P T m = true) (hl : off + len ≤ rows.length) (hn : news.length = n) (hbig : len + n ≤ 1000000000) (hlive : (rows.drop off).take len = live)
    (hu : ∀ b' pre, Upd (s, b, .row m rows) (s, b', .row m (pre ++ (live ++ news))) objs (objsOf b' pre)) (h : ∀ b' pre, (off = 0 → pre = []) → AL P w0 N ops Q rest ((d, .ms s b' pre.length (len + n)) :: env) (objsOf b' pre)) : AO P w0 N ops Q o rest env objs := ⟨fun a w K hs hK => by
    subst hlive
    have hmem := (hu 0 []).mem
    obtain ⟨b', off', pre, v', w', hr, hE⟩ := rH (P := P) (ty := o.type) hs.mem hmem (dY hs hx) (dY hs hy) hT hl hn hbig
    obtain ⟨⟨hm0, hci⟩, hm, _⟩ := hs.mem.obj s b _ hmem
    obtain ⟨_, _, _, _, _, g3, g4, _⟩ := jr (dY hs hy)
    unfold Oper.wp
    rw [ks ho hr]
    refine hK _ _ ?_
    rw [hd]
    have hpre := hE.prelen
    subst hpre
    subst hn
    have hst := jU (m := m) hs.mem (hu b' pre) hE.size hE.keep hE.blk (fun rows' _ => ⟨rows, rfl⟩) (fun m' rows' he => by simp only [ca.row.injEq] at he; exact he.1.symm) hE.shape (by simp only [dg, ne_eq, Prod.mk.injEq, ca.row.injEq]; omega)
    have hlm : ∀ r ∈ (rows.drop off).take len, r ∈ rows := fun r hr => List.mem_of_mem_drop (List.mem_of_mem_take hr)
    refine (h b' pre (fun h0 => List.eq_nil_of_length_eq_zero (hE.zero h0))).run _ _ (hs.putNew hN (.ms s b' _ _ _ (.mk ⟨hE.lt, fun hm' => hs.mem.noMark (hst.mark hm'), ?_⟩ (fun m' rows' hm' => ?_) (fun h0 => ?_))) (hs.mem.upd (hu b' pre) hE.below hE.keep hE.blk hst ⟨⟨hm0, fun t ht => ?_⟩, fun r hr => ?_, hE.obj.imp id fun ⟨h1, cur, e, cap, h2, h3, h4, h5, h6⟩ => ⟨h1, cur, e, cap, h2, h3, h4, h5, fun j t hj => ?_⟩⟩) hst)
    · rcases hE.val with ⟨_, _, h0, h1⟩ | ⟨_, q, c, e, k, h1, _⟩
      · exact ⟨none, 0, by rw [h0]; exact h1⟩
      · exact ⟨_, _, h1⟩
    · rcases (hu b' pre).other hs.mem.sites _ hm' with he | ⟨_, hne, _⟩
      · simp only [Prod.mk.injEq, ca.row.injEq] at he
        obtain ⟨_, _, rfl, _⟩ := he
        exact hE.val
      · exact absurd rfl hne
    · rcases hE.val with ⟨_, h1, h2, h3⟩ | ⟨h1, _⟩
      · exact ⟨h1, h2, h3⟩
      · exact absurd h0 h1
    · simp only [List.flatten_append, List.mem_append] at ht
      rcases ht with ht | ht | ht
      · exact hE.prec t ht
      · obtain ⟨r, hr, htr⟩ := List.mem_flatten.1 ht
        exact hci t (List.mem_flatten.2 ⟨r, hlm r hr, htr⟩)
      · exact g4 t ht
    · simp only [List.mem_append] at hr
      rcases hr with hr | hr | hr
      · exact hE.prem r hr
      · exact hm r (hlm r hr)
      · exact g3 r hr
    · obtain ⟨u, p1, p2⟩ := h6 j t hj
      exact ⟨u, p1, p2.step hst⟩⟩
theorem uL {objsOf : Nat → bp} {ops : Array Oper} {rest : List Oper} {d T s b len n m : Nat} {x y : Operand} {f : Nat} {rows rows' news : List (List TV)} (ho : o.op = .call { callee := .builtin .append, args := #[x, y], argTypes := #[T, T] }) (hd : o.dst = some d) (hN : Nat.blt d N = true)
    (hx : ev env x = some (.ms s b 0 len)) (hy : ev env y = some (.sl f m news)) (hT : nY P T m = true) (hl : len ≤ rows.length) (hn : news.length = n) (hbig : len + n ≤ 1000000000) (hrows : rows.take len ++ news = rows')
    (hu : ∀ b', Upd (s, b, .row m rows) (s, b', .row m rows') objs (objsOf b')) (h : ∀ b', AL P w0 N ops Q rest ((d, .ms s b' 0 (len + n)) :: env) (objsOf b')) : AO P w0 N ops Q o rest env objs := ⟨fun a w K hs hK => by
    subst hrows
    subst hn
    have hmem := (hu 0).mem
    obtain ⟨b', off', pre, v', w', hr, hE⟩ := rH (P := P) (ty := o.type) hs.mem hmem (dY hs hx) (dY hs hy) hT (by omega) rfl hbig
    have hpre : pre = [] := List.eq_nil_of_length_eq_zero (by rw [hE.prelen]; exact hE.zero rfl)
    have hoff : off' = 0 := hE.zero rfl
    subst hpre; subst hoff
    obtain ⟨⟨hm0, hci⟩, hm, _⟩ := hs.mem.obj s b _ hmem
    obtain ⟨_, _, _, _, _, g3, g4, _⟩ := jr (dY hs hy)
    unfold Oper.wp
    rw [ks ho hr]
    refine hK _ _ ?_
    rw [hd]
    have hst := jU (m := m) hs.mem (hu b') hE.size hE.keep hE.blk (fun rows' _ => ⟨rows, rfl⟩) (fun m' rows' he => by simp only [ca.row.injEq] at he; exact he.1.symm) hE.shape (by simp only [dg, ne_eq, Prod.mk.injEq, ca.row.injEq]; omega)
    have hobj := hE.obj
    simp only [List.nil_append, List.drop_zero] at hobj
    refine (h b').run _ _ (hs.putNew hN (.ms s b' _ _ _ (.mk ⟨hE.lt, fun hm' => hs.mem.noMark (hst.mark hm'), ?_⟩ (fun m' rows' hm' => ?_) (fun h0 => ?_))) (hs.mem.upd (hu b') hE.below hE.keep hE.blk hst ⟨⟨hm0, fun t ht => ?_⟩, fun r hr => ?_, hobj.imp id fun ⟨h1, cur, e, cap, h2, h3, h4, h5, h6⟩ => ⟨h1, cur, e, cap, h2, h3, h4, h5, fun j t hj => ?_⟩⟩) hst)
    · rcases hE.val with ⟨_, _, h0, h1⟩ | ⟨_, q, c, e, k, h1, _⟩
      · exact ⟨none, 0, by rw [h0]; exact h1⟩
      · exact ⟨_, _, h1⟩
    · rcases (hu b').other hs.mem.sites _ hm' with he | ⟨_, hne, _⟩
      · simp only [Prod.mk.injEq, ca.row.injEq] at he
        obtain ⟨_, _, rfl, _⟩ := he
        exact hE.val
      · exact absurd rfl hne
    · rcases hE.val with ⟨_, h1, h2, h3⟩ | ⟨h1, _⟩
      · exact ⟨h1, h2, h3⟩
      · exact absurd h0 h1
    · simp only [List.flatten_append, List.mem_append] at ht
      rcases ht with ht | ht
      · obtain ⟨r, hr, htr⟩ := List.mem_flatten.1 ht
        exact hci t (List.mem_flatten.2 ⟨r, List.mem_of_mem_take hr, htr⟩)
      · exact g4 t ht
    · simp only [List.mem_append] at hr
      rcases hr with hr | hr
      · exact hm r (List.mem_of_mem_take hr)
      · exact g3 r hr
    · obtain ⟨u, p1, p2⟩ := h6 j t hj
      exact ⟨u, p1, p2.step hst⟩⟩
end
end Go.Proofs.YthpdkhejeookhaaGreatDoor
