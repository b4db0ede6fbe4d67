/- Part 3 of the proof: the texts EngC, EngD, EngE, EngF, EngG, EngH. -/
import Derived.Test.YtiihihgjiklnoaaGreatDoorQb1
import Derived.Great.BuildSlice
import Derived.Deep.AppendLies
/- The abstract walk, part 3: addresses, loads, indices, lengths, parts of strings, structs by value. -/
namespace Go.Proofs.YtiihihgjiklnoaaGreatDoor
open Go Go.RowKit

section
variable {P : Program} {w0 : World} {N : Nat} {Q : Exit → Act → World → Prop} {env : Env} {objs : aI} {o : Oper}

def gY (P : Program) (t : TypeId) : Bool := match P.underlying t with
  | some (.struct _) | some (.array _ _) | none => false
  | _ => true
def iY (P : Program) (t : TypeId) : Bool := match P.underlying t with
  | some (.struct _) => true
  | _ => false
theorem gn {t : TypeId} {w : World} (h : gY P t = true) : (isAgg t).run P w = .ok false w := by
  unfold gY at h
  unfold isAgg
  cases hu : P.underlying t with
  | none => rw [hu] at h; cases h
  | some d =>
    simp only [Sem.run_bind, run_underlying hu, Result.andThen_ok]
    rw [hu] at h
    cases d <;> first | rfl | cases h
theorem ma {t : TypeId} {w : World} (h : iY P t = true) : (isAgg t).run P w = .ok true w := by
  unfold iY at h
  unfold isAgg
  cases hu : P.underlying t with
  | none => rw [hu] at h; cases h
  | some d =>
    simp only [Sem.run_bind, run_underlying hu, Result.andThen_ok]
    rw [hu] at h
    cases d <;> first | rfl | cases h
theorem aao {t : TypeId} {w : World} (h : (P.info? t).isSome = true) (hs : P.cellsOf t = szT t) : (sizeOf t).run P w = .ok (szT t) w := by
  cases hi : P.info? t with
  | none => rw [hi] at h; cases h
  | some i => rw [run_sizeOf w hi, hs]

inductive rC (w : World) (objs : aI) : TV → List TV → Prop
  | cp (f : Nat) (l : List TV) : rC w objs (.cp f l) l
  | mp (s b off : Nat) (cells : List TV) (hm : (s, b, bu.box cells) ∈ objs) : rC w objs (.mp s b off) (cells.drop off)
  | me (s b m k j : Nat) (rows : List (List TV)) (r : List TV) (hm : (s, b, bu.row m rows) ∈ objs) (hr : rows[k]? = some r) : rC w objs (.me s b m k j) (r.drop j)

theorem dP {m : Nat} : ∀ {rows : List (List TV)}, (∀ r ∈ rows, r.length = m) → ∀ {k j : Nat} {r : List TV}, rows[k]? = some r → j < m → rows.flatten[k * m + j]? = r[j]?
  | [], _, k, j, r, hk, _ => by simp at hk
  | x :: rest, hm, k, j, r, hk, hj => by
    have hx := hm x (by simp)
    rw [List.flatten_cons]
    cases k with
    | zero =>
      simp at hk; subst hk
      rw [Nat.zero_mul, Nat.zero_add, List.getElem?_append_left (by omega)]
    | succ k =>
      have e : (k + 1) * m + j = x.length + (k * m + j) := by rw [hx, Nat.add_mul, Nat.one_mul]; omega
      rw [e, List.getElem?_append_right (by omega), Nat.add_sub_cancel_left]
      exact dP (fun r hr => hm r (by simp [hr])) (by simpa using hk) hj
theorem length_flatten {m : Nat} : ∀ {rows : List (List TV)}, (∀ r ∈ rows, r.length = m) → rows.flatten.length = rows.length * m
  | [], _ => by simp
  | x :: rest, hm => by
    rw [List.flatten_cons, List.length_append, hm x (by simp), length_flatten (rows := rest) (fun r hr => hm r (by simp [hr])), List.length_cons, Nat.add_mul, Nat.one_mul]; omega

theorem gq {w : World} (hw : du w0 objs w) {tv : TV} {l : List TV} {v : Value} (hp : rC w objs tv l) (hr : Rep w objs tv v) :
    ∃ b o, v = .pointer (some ⟨b, o, none⟩) ∧ (∀ t ∈ l, t.isCell = true) ∧ ∀ (j : Nat) (t : TV), l[j]? = some t → ∃ u, w.cell? ⟨b, o + j, none⟩ = some u ∧ Rep w objs t u := by
  cases hp with
  | cp f l =>
    cases hr with
    | cp f l hi b o g hZ hb hc hr => exact ⟨b, o, rfl, hi, fun j t hj => ⟨g j, hc j t hj, hr j t hj⟩⟩
  | mp s b off cells hm =>
    cases hr with
    | mp s b off h =>
      obtain ⟨hc0, cur, e, h2, h3, h4⟩ := hw.obj s b _ hm
      refine ⟨b, off, rfl, fun t ht => hc0.2 t (List.mem_of_mem_drop ht), fun j t hj => ?_⟩
      rw [List.getElem?_drop] at hj
      obtain ⟨u, h5, h6⟩ := h4 _ t hj
      exact ⟨u, by rw [cell_of_row w b _ cur e (0, 0) h2]; exact h5, h6⟩
  | me s b m k j rows r hm hk =>
    cases hr with
    | me s b m k j h =>
      obtain ⟨h1, h2, h3⟩ := hw.obj s b _ hm
      rcases h3 with ⟨_, h3⟩ | ⟨_, cur, e, cap, h4, h5, h6, h7, h8⟩
      · subst h3; simp at hk
      · refine ⟨b, k * m + j, rfl, fun t ht => h1.2 t (List.mem_flatten.2 ⟨r, List.mem_of_getElem? hk, List.mem_of_mem_drop ht⟩), fun i t hi => ?_⟩
        rw [List.getElem?_drop] at hi
        have hlt : j + i < r.length := (List.getElem?_eq_some_iff.1 hi).1
        have hrm : r.length = m := h2 r (List.mem_of_getElem? hk)
        have hfl := dP h2 hk (j := j + i) (by omega)
        obtain ⟨u, h9, h10⟩ := h8 _ t (hfl.trans hi)
        exact ⟨u, by rw [cell_of_row w b _ cur e (0, 0) h4, Nat.add_assoc]; exact h9, h10⟩

theorem kp {x : Operand} {tv : TV} {l : List TV} (ho : o.op = .nilCheck x) (hx : ev env x = some tv) (hp : ∀ w, rC w objs tv l) : aS P w0 env objs o tv := aL fun a w hw hop => by
  have h0 := hop x (by simp [ho, Op.operands]) _ hx
  obtain ⟨b, q, h1, _, _⟩ := gq hw (hp w) h0
  exact ⟨a.eval x, by simp [execOp, ho, h1, Sem.run_pure], h0⟩

theorem xy {T : TypeId} {x : Operand} {tv c : TV} {l r : List TV} (ho : o.op = .load T x) (hT : gY P T = true) (hx : ev env x = some tv) (hp : ∀ w, rC w objs tv l) (hl : l = c :: r) : aS P w0 env objs o c := aL fun a w hw hop => by
  have h0 := hop x (by simp [ho, Op.operands]) _ hx
  obtain ⟨b, q, h1, hci, h2⟩ := gq hw (hp w) h0
  subst hl
  obtain ⟨u, h3, h4⟩ := h2 0 c rfl
  refine ⟨u, ?_, h4⟩
  simp only [execOp, ho, h1]
  refine cy ?_
  simp only [Instr.loadAt, Instr.sureAddr, loadVar, Sem.run_bind, Sem.run_pure, Result.andThen_ok, gn hT]
  show Sem.run P (load ⟨b, q, none⟩) w = _
  rw [run_load, show w.cell? ⟨b, q, none⟩ = some u from h3]
inductive fr : Nat → List TV → List TV → Prop
  | zero (l : List TV) : fr 0 l []
  | succ (n : Nat) (x : TV) (l o : List TV) (h : fr n l o) : fr (n + 1) (x :: l) (x :: o)
theorem fr.eq {n : Nat} {l o : List TV} (h : fr n l o) : n ≤ l.length ∧ o = l.take n := by
  induction h with
  | zero l => simp
  | succ n x l o h ih => simp [ih.1, ih.2]
theorem eZ {T : TypeId} {x : Operand} {tv : TV} {l out : List TV} (ho : o.op = .load T x) (hT : iY P T = true) (hi : (P.info? T).isSome = true) (hs : P.cellsOf T = szT T) (hx : ev env x = some tv) (hp : ∀ w, rC w objs tv l) (htk : fr (szT T) l out) :
    aS P w0 env objs o (.agg out) := aL fun a w hw hop => by
  obtain ⟨hl, rfl⟩ := htk.eq
  have h0 := hop x (by simp [ho, Op.operands]) _ hx
  obtain ⟨b, q, h1, hci, h2⟩ := gq hw (hp w) h0
  have h3 : ∀ j, j < szT T → ∃ u, w.cell? ⟨b, q + j, none⟩ = some u ∧ ∀ t, l[j]? = some t → Rep w objs t u := fun j hj => by
    obtain ⟨u, h4, h5⟩ := h2 j l[j] (List.getElem?_eq_getElem (by omega))
    exact ⟨u, h4, fun t ht => by rw [List.getElem?_eq_getElem (by omega)] at ht; simp only [Option.some.injEq] at ht; subst ht; exact h5⟩
  have h4 : ∀ j, ∃ u, j < szT T → w.cell? ⟨b, q + j, none⟩ = some u ∧ ∀ t, l[j]? = some t → Rep w objs t u := fun j => by
    by_cases hj : j < szT T
    · obtain ⟨u, hu⟩ := h3 j hj; exact ⟨u, fun _ => hu⟩
    · exact ⟨undef, fun h => absurd h hj⟩
  let g : Nat → Value := fun j => Classical.choose (h4 j)
  have hg : ∀ j, j < szT T → w.cell? ⟨b, q + j, none⟩ = some (g j) ∧ ∀ t, l[j]? = some t → Rep w objs t (g j) := fun j => Classical.choose_spec (h4 j)
  refine ⟨.agg ((List.range (szT T)).map g).toArray, ?_, .agg _ _ (fun t ht => hci t (List.mem_of_mem_take ht)) (by simp; omega) fun i t v ht hv => ?_⟩
  · simp only [execOp, ho, h1]
    refine cy ?_
    simp only [Instr.loadAt, Instr.sureAddr, loadVar, Sem.run_bind, Sem.run_pure, Result.andThen_ok, ma hT, if_true, aao hi hs]
    rw [run_loadCells w ⟨b, q, none⟩ (szT T) g (fun j hj => by rw [Addr.add_lit]; exact (hg j hj).1)]
    rfl
  · rw [List.getElem?_take] at ht
    split at ht
    · rename_i hlt
      simp only [List.getElem?_toArray, List.getElem?_map, List.getElem?_range hlt, Option.map_some, Option.some.injEq] at hv
      subst hv
      exact (hg i hlt).2 t ht
    · cases ht

def mU (P : Program) (T k : Nat) : Bool := match P.underlying T with
  | some (.struct fs) => (match fs[k]? with
    | some f => f.offset == ofT T k && (match P.info? f.type with | some i => i.size != 0 | none => false)
    | none => false)
  | _ => false
theorem na {T k : Nat} (h : mU P T k = true) : ∃ fs f i, P.underlying T = some (.struct fs) ∧ fs[k]? = some f ∧ f.offset = ofT T k ∧ P.info? f.type = some i ∧ i.size ≠ 0 := by
  unfold mU at h
  split at h
  · rename_i fs hu
    split at h
    · rename_i f hf
      simp only [Bool.and_eq_true, beq_iff_eq] at h
      obtain ⟨h1, h2⟩ := h
      split at h2
      · rename_i i hi; exact ⟨fs, f, i, hu, hf, h1, hi, by simpa using h2⟩
      · cases h2
    · cases h
  · cases h
def abu (off : Nat) : TV → Option TV
  | .cp f l => some (.cp f (l.drop off))
  | .mp s b o => some (.mp s b (o + off))
  | .me s b m k j => some (.me s b m k (j + off))
  | _ => none
theorem tY {T k : Nat} {w : World} {b q : Nat} (h : mU P T k = true) : (Instr.fieldAt T (.pointer (some ⟨b, q, none⟩)) k).run P w = .ok (.pointer (some ⟨b, q + ofT T k, none⟩)) w := by
  obtain ⟨fs, f, i, h1, h2, h3, h4, h5⟩ := na h
  have hc : P.cellsOf f.type = i.size := by simp [Program.cellsOf, h4]
  simp only [Instr.fieldAt, Sem.run_bind, run_underlying h1, Result.andThen_ok, h2, Instr.sureAddr, Sem.run_pure, fieldPlace, run_sizeOf w h4, hc, if_neg h5, Addr.add_lit, h3]
theorem tp {T : TypeId} {x : Operand} {tv tv' : TV} {k : Nat} (ho : o.op = .fieldAddr T x k) (hx : ev env x = some tv)
    (hF : mU P T k = true) (ht : abu (ofT T k) tv = some tv') : aS P w0 env objs o tv' := aL fun a w hw hop => by
  have h0 := hop x (by simp [ho, Op.operands]) _ hx
  have key : ∀ b q, a.eval x = .pointer (some ⟨b, q, none⟩) → (execOp a.eval o).run P w = .ok (.value (.pointer (some ⟨b, q + ofT T k, none⟩))) w := fun b q h => by
    simp only [execOp, ho, h]
    exact cy (tY hF)
  generalize a.eval x = v at h0 key
  cases h0 <;> simp only [abu, Option.some.injEq, reduceCtorEq] at ht
  all_goals subst ht
  · rename_i f l hi b q g hZ hb hc hr
    refine ⟨_, key _ _ rfl, .cp f _ (fun t ht => hi t (List.mem_of_mem_drop ht)) b _ (fun j => g (ofT T k + j)) hZ hb (fun j t hj => ?_) (fun j t hj => ?_)⟩
    · rw [List.getElem?_drop] at hj; rw [Nat.add_assoc]; exact hc _ t hj
    · rw [List.getElem?_drop] at hj; exact hr _ t hj
  · rename_i s b q h
    exact ⟨_, key _ _ rfl, .mp s b _ h⟩
  · rename_i s b m i j h
    exact ⟨_, key _ _ rfl, by rw [Nat.add_assoc]; exact .me s b m i _ h⟩

theorem tK {T : TypeId} {x i : Operand} {f : Nat} {m : Nat} {rows : List (List TV)} {kk : IntKind} {n : Int} {k : Nat} {r : List TV} (ho : o.op = .indexAddr T x i) (hx : ev env x = some (.sl f m rows)) (hi : ev env i = some (.int kk n))
    (hT : P.underlying T = some (.slice (P.elem T))) (hI : (P.info? (P.elem T)).isSome = true) (hm : P.cellsOf (P.elem T) = m) (hm0 : Nat.blt 0 m = true) (hn : n = (k : Int)) (hr : rows[k]? = some r) : aS P w0 env objs o (.cp f r) := aL fun a w hw hop => by
  have h0 := hop x (by simp [ho, Op.operands]) _ hx
  have h1 := (hop i (by simp [ho, Op.operands]) _ hi).int_inv
  have hm0 : 0 < m := Nat.blt_eq ▸ hm0
  generalize hv : a.eval x = v at h0
  cases h0 with
  | sl f m rows A c g1 g2 g3 gi g g4 g5 =>
    have hk : k < rows.length := (List.getElem?_eq_some_iff.1 hr).1
    have hrm : r.length = m := g3 r (List.mem_of_getElem? hr)
    have hfl : ∀ j, j < m → rows.flatten[k * m + j]? = r[j]? := fun j hj => dP g3 hr hj
    obtain ⟨b, q, hA, hZ, hc0⟩ := g4 (k * m + 0) r[0] ((hfl 0 hm0).trans (List.getElem?_eq_getElem (by omega)))
    subst hA
    cases hie : P.info? (P.elem T) with
    | none => rw [hie] at hI; cases hI
    | some ie =>
    have hb := oS hc0
    have hcells : ∀ (j : Nat) (t : TV), r[j]? = some t → w.cell? ⟨b, q + k * m + j, none⟩ = some (g (k * m + j)) ∧ Rep w objs t (g (k * m + j)) := fun j t hj => by
      have hjm : j < m := by rw [← hrm]; exact (List.getElem?_eq_some_iff.1 hj).1
      have h6 := (hfl j hjm).trans hj
      obtain ⟨b', q', h7, _, h8⟩ := g4 _ t h6
      simp only [Option.some.injEq, Addr.mk.injEq, and_true] at h7
      obtain ⟨rfl, rfl⟩ := h7
      exact ⟨by rw [Nat.add_assoc]; exact h8, g5 _ t h6⟩
    refine ⟨.pointer (some ⟨b, q + k * m, none⟩), ?_, .cp f r (fun t ht => gi t (List.mem_flatten.2 ⟨r, List.mem_of_getElem? hr, ht⟩)) b (q + k * m) (fun j => g (k * m + j)) hZ hb (fun j t hj => (hcells j t hj).1) (fun j t hj => (hcells j t hj).2)⟩
    simp only [execOp, ho, h1, hv]
    refine cy ?_
    rw [run_indexAt_slice w T _ _ _ _ _ hT, if_pos ⟨by omega, by omega⟩, run_sizeOf w hie, hm]
    simp [Result.andThen_ok, hn, Addr.add_lit]

theorem nE {T : TypeId} {x i : Operand} {s b off len m : Nat} {rows : List (List TV)} {kk : IntKind} {n : Int} {k : Nat} (ho : o.op = .indexAddr T x i) (hx : ev env x = some (.ms s b off len)) (hi : ev env i = some (.int kk n))
    (hobj : (s, b, bu.row m rows) ∈ objs) (hT : P.underlying T = some (.slice (P.elem T))) (hI : (P.info? (P.elem T)).isSome = true) (hm : P.cellsOf (P.elem T) = m) (hn : n = (k : Int)) (hk : k < len) :
    aS P w0 env objs o (.me s b m (off + k) 0) := aL fun a w hw hop => by
  have h0 := hop x (by simp [ho, Op.operands]) _ hx
  have h1 := (hop i (by simp [ho, Op.operands]) _ hi).int_inv
  generalize hv : a.eval x = v at h0
  cases h0 with
  | ms s b off len v h =>
    have hor := h.or
    obtain ⟨⟨hb, hmk, _⟩, _⟩ := h
    rcases hor m rows hobj with ⟨_, _, h2, _⟩ | ⟨_, q, c, e, nn, h2, h3, h4, h5, h6⟩
    · omega
    · have hq := h6 (.inl (by omega))
      subst hq
      subst h2
      cases hie : P.info? (P.elem T) with
      | none => rw [hie] at hI; cases hI
      | some ie =>
      refine ⟨.pointer (some ⟨b, (off + k) * m + 0, none⟩), ?_, .me s b m (off + k) 0 ⟨hb, hmk⟩⟩
      simp only [execOp, ho, h1, hv]
      refine cy ?_
      rw [run_indexAt_slice w T _ _ _ _ _ hT, if_pos ⟨by omega, by omega⟩, run_sizeOf w hie, hm]
      simp [Result.andThen_ok, hn, Addr.add_lit, Nat.add_mul]

def bat (s : ByteArray) (j : Nat) : Int := ((s.data.toList.getD j 0).toNat : Int)
theorem uZ (s : ByteArray) (j : Nat) : 0 ≤ bat s j ∧ bat s j ≤ 255 := ⟨by unfold bat; omega, by unfold bat; have := (s.data.toList.getD j 0).toNat_lt; omega⟩
theorem acC (s : ByteArray) {j : Nat} (h : j < s.size) : bat s j = (s[j].toNat : Int) := by
  unfold bat
  have h1 : j < s.data.toList.length := by rw [Array.length_toList]; exact h
  rw [List.getD_eq_getElem?_getD, List.getElem?_eq_getElem h1]; rfl
theorem xU {T : TypeId} {x i : Operand} {s : ByteArray} {kk : IntKind} {n : Int} {k : Nat} (ho : o.op = .index T x i) (hx : ev env x = some (.str s)) (hi : ev env i = some (.int kk n)) (hT : P.underlying T = some .string) (hn : n = (k : Int)) (hk : k < s.size) :
    aS P w0 env objs o (.int .u8 (bat s k)) := aL fun a w hw hop => by
  rw [acC s hk]
  have h0 := (hop x (by simp [ho, Op.operands]) _ hx).str_inv
  have h1 := (hop i (by simp [ho, Op.operands]) _ hi).int_inv
  refine ⟨.int .u8 ((s[k]'hk).toNat : Int), ?_, .int _ _⟩
  simp only [execOp, ho, h0, h1]
  refine cy ?_
  subst hn
  rw [run_index_string w T s kk _ hT, dif_pos ⟨by omega, by omega⟩]
  simp

theorem lS {x : Operand} {t : TypeId} (ho : o.op = .call { callee := .builtin .len, args := #[x], argTypes := #[t] }) {a : Act} {w : World} {v : Value} (h : (Builtin.len_ #[t] o.type #[a.eval x]).run P w = .ok v w) :
    (execOp a.eval o).run P w = .ok (.value v) w := by
  simp only [execOp, ho, resolve, Sem.run_bind, Sem.run_pure, Result.andThen_ok, invoke, builtin, List.map_toArray, List.map_cons, List.map_nil]
  rw [h]; rfl
theorem lF {x : Operand} {t : TypeId} (ho : o.op = .call { callee := .builtin .len, args := #[x], argTypes := #[t] }) : x ∈ o.op.operands.toList := by simp [ho, Op.operands, Call.operands]
theorem abE {x : Operand} {t : TypeId} {s : ByteArray} (ho : o.op = .call { callee := .builtin .len, args := #[x], argTypes := #[t] }) (hx : ev env x = some (.str s)) (hT : P.underlying t = some .string) : aS P w0 env objs o (.int .i64 (s.size : Int)) := aL fun a w hw hop => by
  have h0 := (hop x (lF ho) _ hx).str_inv
  refine ⟨.int .i64 (s.size : Int), lS ho ?_, .int _ _⟩
  rw [h0]
  simp only [Builtin.len_]
  simp [run_underlying hT, Sem.run_pure, goInt]
theorem aam {x : Operand} {t : TypeId} {f : Nat} {m n : Nat} {rows : List (List TV)} (ho : o.op = .call { callee := .builtin .len, args := #[x], argTypes := #[t] }) (hx : ev env x = some (.sl f m rows)) (hT : P.underlying t = some (.slice (P.elem t))) (hn : rows.length = n) : aS P w0 env objs o (.int .i64 (n : Int)) := aL fun a w hw hop => by
  have h0 := hop x (lF ho) _ hx
  generalize hv : a.eval x = v at h0
  cases h0 with
  | sl f m rows A c g1 g2 g3 gi g g4 g5 =>
    refine ⟨.int .i64 (n : Int), lS ho ?_, .int _ _⟩
    rw [hv, run_len_slice w t _ _ _ _ hT, hn]; rfl
theorem zI {x : Operand} {t : TypeId} {s b off len : Nat} (ho : o.op = .call { callee := .builtin .len, args := #[x], argTypes := #[t] }) (hx : ev env x = some (.ms s b off len)) (hT : P.underlying t = some (.slice (P.elem t))) :
    aS P w0 env objs o (.int .i64 (len : Int)) := aL fun a w hw hop => by
  have h0 := hop x (lF ho) _ hx
  generalize hv : a.eval x = v at h0
  cases h0 with
  | ms s b off len v h =>
    refine ⟨.int .i64 (len : Int), lS ho ?_, .int _ _⟩
    obtain ⟨A, c, h2⟩ := h.1.2.2
    rw [hv, h2, run_len_slice w t _ _ _ _ hT]; rfl

theorem wQ {x : Operand} {t : TypeId} (ho : o.op = .call { callee := .builtin .len, args := #[x], argTypes := #[t] }) (hx : ev env x = some .nils) (hT : P.underlying t = some (.slice (P.elem t))) : aS P w0 env objs o (.int .i64 0) := aL fun a w hw hop => by
  have h0 := hop x (lF ho) _ hx
  generalize hv : a.eval x = v at h0
  cases h0
  exact ⟨.int .i64 0, lS ho (by rw [hv, run_len_slice w t _ _ _ _ hT]; rfl), .int _ _⟩

theorem xv {x : Operand} {k : Nat} {l : List TV} {t : TV} (ho : o.op = .extract x k) (hx : ev env x = some (.tup l)) (ht : l[k]? = some t) : aS P w0 env objs o t := aL fun a w hw hop => by
  have h0 := hop x (by simp [ho, Op.operands]) _ hx
  generalize hv : a.eval x = v at h0
  cases h0 with
  | tup l vs h1 h2 =>
    have hk : k < vs.size := by rw [← h1]; exact (List.getElem?_eq_some_iff.1 ht).1
    refine ⟨vs[k], ?_, h2 k t _ ht (by simp [hk])⟩
    simp only [execOp, ho, hv]
    refine cy ?_
    simp [Instr.extract, hk, Sem.run_pure]

theorem abN {T : TypeId} {x : Operand} {k : Nat} {l : List TV} {t : TV} (ho : o.op = .field T x k) (hx : ev env x = some (.agg l)) (hF : mU P T k = true) (hS : gY P ((P.fieldsOf T).getD k default).type = true) (ht : l[ofT T k]? = some t) : aS P w0 env objs o t := aL fun a w hw hop => by
  have h0 := hop x (by simp [ho, Op.operands]) _ hx
  generalize hv : a.eval x = v at h0
  cases h0 with
  | agg l vs hi h1 h2 =>
    obtain ⟨fs, f, i, g1, g2, g3, g4, g5⟩ := na hF
    have hk : ofT T k < vs.size := by rw [← h1]; exact (List.getElem?_eq_some_iff.1 ht).1
    refine ⟨vs[ofT T k], ?_, h2 _ t _ ht (by simp [hk])⟩
    have g6 : P.fieldsOf T = fs := by simp [Program.fieldsOf, g1]
    have g7 : ((P.fieldsOf T).getD k default).type = f.type := by rw [g6]; simp [Array.getD_eq_getD_getElem?, g2]
    rw [g7] at hS
    simp only [execOp, ho, hv]
    refine cy ?_
    simp only [Instr.field, Sem.run_bind, run_underlying g1, Result.andThen_ok, g2, asAgg, Sem.run_pure, part, gn hS]
    simp [g3, hk, Sem.run_pure]
section
variable {T : TypeId} {x : Operand} {s : ByteArray}
theorem e6 {lo hi mx : Option Operand} (ho : o.op = .slice T x lo hi mx) : x ∈ o.op.operands.toList := by simp [ho, Op.operands]
theorem fd {w : World} (hT : P.underlying T = some .string) (lo hi mx : Option Value) : (Instr.sliceAt T (.string s) lo hi mx).run P w = (Instr.slice T (.string s) lo hi mx).run P w := by
  simp only [Instr.sliceAt, Sem.run_bind, run_underlying hT, Result.andThen_ok]
theorem wc {lo hi : Operand} {k1 k2 : IntKind} {i j : Nat} {m n : Int} (ho : o.op = .slice T x (some lo) (some hi) none) (hx : ev env x = some (.str s)) (hlo : ev env lo = some (.int k1 m)) (hhi : ev env hi = some (.int k2 n)) (hT : P.underlying T = some .string)
    (hm : m = (i : Int)) (hn : n = (j : Int)) (h1 : i ≤ j) (h2 : j ≤ s.size) : aS P w0 env objs o (.str (s.extract i j)) := aL fun a w hw hop => by
  have h0 := (hop x (e6 ho) _ hx).str_inv
  have g1 := (hop lo (by simp [ho, Op.operands]) _ hlo).int_inv
  have g2 := (hop hi (by simp [ho, Op.operands]) _ hhi).int_inv
  refine ⟨.string (s.extract i j), ?_, .str _⟩
  simp only [execOp, ho, h0, g1, g2, Option.map_some, Option.map_none]
  refine cy ?_
  rw [fd hT, run_slice_string w T s k1 k2 _ _ hT (by omega) (by omega) (by omega)]
  subst hm; subst hn; simp
theorem xK {lo : Operand} {k1 : IntKind} {i : Nat} {m : Int} (ho : o.op = .slice T x (some lo) none none) (hx : ev env x = some (.str s)) (hlo : ev env lo = some (.int k1 m)) (hT : P.underlying T = some .string)
    (hm : m = (i : Int)) (h1 : i ≤ s.size) : aS P w0 env objs o (.str (s.extract i s.size)) := aL fun a w hw hop => by
  have h0 := (hop x (e6 ho) _ hx).str_inv
  have g1 := (hop lo (by simp [ho, Op.operands]) _ hlo).int_inv
  refine ⟨.string (s.extract i s.size), ?_, .str _⟩
  simp only [execOp, ho, h0, g1, Option.map_some, Option.map_none]
  refine cy ?_
  rw [fd hT, run_slice_string_l w T s hT k1 _ (by omega) (by omega)]
  subst hm; simp
theorem yx {hi : Operand} {k2 : IntKind} {j : Nat} {n : Int} (ho : o.op = .slice T x none (some hi) none) (hx : ev env x = some (.str s)) (hhi : ev env hi = some (.int k2 n)) (hT : P.underlying T = some .string)
    (hn : n = (j : Int)) (h2 : j ≤ s.size) : aS P w0 env objs o (.str (s.extract 0 j)) := aL fun a w hw hop => by
  have h0 := (hop x (e6 ho) _ hx).str_inv
  have g2 := (hop hi (by simp [ho, Op.operands]) _ hhi).int_inv
  refine ⟨.string (s.extract 0 j), ?_, .str _⟩
  simp only [execOp, ho, h0, g2, Option.map_some, Option.map_none]
  refine cy ?_
  rw [fd hT, run_slice_string_h w T s hT k2 _ (by omega) (by omega)]
  subst hn; simp
end
end

theorem fy (objs : aI) : ∃ d, ∀ x ∈ objs, x.1 ≠ d := by
  have : ∃ d, ∀ x ∈ objs, x.1 < d := by
    induction objs with
    | nil => exact ⟨0, by simp⟩
    | cons y l ih =>
      obtain ⟨d, hd⟩ := ih
      refine ⟨d + y.1 + 1, fun x hx => ?_⟩
      rcases List.mem_cons.1 hx with rfl | hx
      · omega
      · have := hd x hx; omega
  obtain ⟨d, hd⟩ := this
  exact ⟨d, fun x hx => by have := hd x hx; omega⟩

section
variable {P : Program} {w0 : World} {N : Nat} {Q : Exit → Act → World → Prop} {env : Env} {objs : aI} {o : Oper}

theorem gQ (w : World) (objs : aI) : jz w objs w objs := ⟨fun _ _ _ => rfl, fun _ _ h => h, fun _ _ _ rows _ _ h => ⟨⟨rows, h⟩, rfl⟩, Nat.le_refl _, id⟩
theorem fO {w w' : World} {b : Nat} (h : w'.heap[b]? = w.heap[b]?) : w'.shape? b = w.shape? b := by unfold World.shape?; rw [h]
theorem jP {w w' : World} (objs : aI) (hsz : w.heap.size ≤ w'.heap.size) (hb : ∀ b, b < w.heap.size → w'.heap[b]? = w.heap[b]?) : jz w objs w' objs :=
  ⟨fun b h _ => hb b h, fun _ _ h => h, fun _ _ _ rows h _ hm => ⟨⟨rows, hm⟩, fO (hb _ h)⟩, hsz, id⟩
theorem da {w : World} (hw : du w0 objs w) {s b : Nat} {ob : bu} (hm : (s, b, ob) ∈ objs) : b < w.heap.size := by
  have hpos : 0 < w.heap.size := Nat.lt_of_lt_of_le hw.pos hw.below.size
  cases ob with
  | void => rw [show b = 0 from hw.obj s b _ hm]; exact hpos
  | iter x pos => exact (Array.getElem?_eq_some_iff.1 (hw.obj s b _ hm).2).1
  | row m rows =>
    rcases (hw.obj s b _ hm).2.2 with ⟨h, _⟩ | ⟨_, cur, e, cap, h, _⟩
    · omega
    · exact (Array.getElem?_eq_some_iff.1 h).1
  | box cells =>
    obtain ⟨_, cur, e, h, _⟩ := hw.obj s b _ hm
    exact (Array.getElem?_eq_some_iff.1 h).1
theorem du.grow {w w' : World} (hw : du w0 objs w) (hb : Below w0.heap.size w0 w') (hsz : w.heap.size ≤ w'.heap.size) (hk : ∀ b, b < w.heap.size → w'.heap[b]? = w.heap[b]?) : du w0 objs w' :=
  ⟨hb, hw.pos, fun s b ob hm => (hw.obj s b ob hm).step (jP objs hsz hk) (hk b (da hw hm)), hw.sites⟩
theorem du.alloc {w : World} (hw : du w0 objs w) (ob : Obj) : du w0 objs (w.alloc ob) ∧ jz w objs (w.alloc ob) objs :=
  have hk : ∀ b, b < w.heap.size → (w.alloc ob).heap[b]? = w.heap[b]? := fun b hb => Below.heap_alloc w ob b hb
  ⟨hw.grow (hw.below.alloc hw.below.size ob) (by simp) hk, jP objs (by simp) hk⟩

theorem gc {w : World} (hw : du w0 objs w) (cs : Array Value) (e : TypeId) (d : Nat) (ob : bu) : jz w objs (w.alloc (.cells cs e)) ((d, w.heap.size, ob) :: objs) := by
  have hk : ∀ b, b < w.heap.size → (w.alloc (.cells cs e)).heap[b]? = w.heap[b]? := fun b hb => Below.heap_alloc w _ b hb
  have hpos : 0 < w.heap.size := Nat.lt_of_lt_of_le hw.pos hw.below.size
  refine ⟨fun b h _ => hk b h, fun b h ha => ⟨ha.1, ?_⟩, fun s b m rows h _ hm => ?_, by simp, fun hm => ?_⟩
  · obtain ⟨s, o, hm⟩ := ha.2
    rcases List.mem_cons.1 hm with he | hm
    · simp only [Prod.mk.injEq] at he; omega
    · exact ⟨s, o, hm⟩
  · rcases List.mem_cons.1 hm with he | hm
    · simp only [Prod.mk.injEq] at he; omega
    · exact ⟨⟨rows, hm⟩, fO (hk b h)⟩
  · rcases List.mem_cons.1 hm with he | hm
    · simp only [dz, Prod.mk.injEq] at he; omega
    · exact hm
theorem fL {w : World} (hw : du w0 objs w) (cs : Array Value) (e : TypeId) (d : Nat) (ob : bu) : dz ∉ (d, w.heap.size, ob) :: objs := fun hm => hw.noMark ((gc hw cs e d ob).mark hm)
theorem du.newObj {w : World} (hw : du w0 objs w) {cs : Array Value} {e : TypeId} {d : Nat} {ob : bu} (hd : ∀ x ∈ objs, x.1 ≠ d)
    (ho : sj (w.alloc (.cells cs e)) w0.heap.size ((d, w.heap.size, ob) :: objs) w.heap.size ob) : du w0 ((d, w.heap.size, ob) :: objs) (w.alloc (.cells cs e)) :=
  ⟨hw.below.alloc hw.below.size _, hw.pos, fun s b o hm => by
    rcases List.mem_cons.1 hm with he | hm
    · simp only [Prod.mk.injEq] at he; obtain ⟨rfl, rfl, rfl⟩ := he; exact ho
    · exact (hw.obj s b o hm).step (gc hw cs e d ob) (Below.heap_alloc w _ b (da hw hm)),
  List.pairwise_cons.2 ⟨fun y hy => ⟨fun e => hd y hy e.symm, .inl (Nat.ne_of_gt (da (s := y.1) (ob := y.2.2) hw hy))⟩, hw.sites⟩⟩

theorem Sim.putNew {a : Act} {w w' : World} {objs' : aI} (hs : Sim w0 N env objs a w) {d : Nat} (hd : Nat.blt d N = true) {tv : TV} {v : Value} (hr : Rep w' objs' tv v) (hw : du w0 objs' w') (hst : jz w objs w' objs') : Sim w0 N ((d, tv) :: env) objs' (a.put (some d) v) w' := by
  have hlt : d < a.tmps.size := by rw [hs.size]; exact Nat.blt_eq ▸ hd
  refine ⟨hs.defers, by simp [Act.put, hs.size], hw, fun t u hu => ?_⟩
  rw [bI] at hu
  show Rep w' objs' u ((a.tmps.setIfInBounds d v).getD t undef)
  rw [fu hlt]
  split at hu
  · rename_i e; subst e; simp only [Option.some.injEq] at hu; subst hu; simp only [if_true]; exact hr
  · rename_i e; rw [if_neg e]; exact (hs.env t u hu).step hst
theorem Sim.same {a : Act} {w w' : World} {objs' : aI} (hs : Sim w0 N env objs a w) (hw : du w0 objs' w') (hst : jz w objs w' objs') : Sim w0 N env objs' a w' :=
  ⟨hs.defers, hs.size, hw, fun t u hu => (hs.env t u hu).step hst⟩

def e9 : TV → Option (List TV)
  | .agg l => some l
  | .tup _ => none
  | .top => none
  | .gh _ => none
  | t => some [t]
theorem Rep.one {w : World} {tv : TV} {v : Value} (h : Rep w objs tv v) (hi : tv.isCell = true) : v.oneCell' = true ∧ v.cells = #[v] := by
  cases h with
  | agg => cases hi
  | tup => cases hi
  | top => cases hi
  | gh => cases hi
  | ms s b off len v h => obtain ⟨⟨_, _, A, c, rfl⟩, _⟩ := h; exact ⟨rfl, rfl⟩
  | _ => exact ⟨rfl, rfl⟩
theorem ik {w : World} {tv : TV} {v : Value} {l : List TV} (h : Rep w objs tv v) (hl : e9 tv = some l) : v.cells.size = l.length ∧ (∀ (i : Nat) (t : TV) (u : Value), l[i]? = some t → v.cells[i]? = some u → Rep w objs t u) ∧ ∀ t ∈ l, t.isCell = true := by
  by_cases hc : tv.isCell = true
  · have hl' : l = [tv] := by cases tv <;> first | (cases hc; done) | (simp only [e9, Option.some.injEq] at hl; exact hl.symm)
    subst hl'
    obtain ⟨_, h2⟩ := h.one hc
    rw [h2]
    refine ⟨rfl, fun i t' u hi hu => ?_, by simpa using hc⟩
    cases i with
    | zero => simp at hi hu; subst hi; subst hu; exact h
    | succ i => simp at hi
  · cases h with
    | agg l' vs hi h1 h2 => simp only [e9, Option.some.injEq] at hl; subst hl; exact ⟨h1.symm, h2, hi⟩
    | tup => cases hl
    | top => cases hl
    | gh => cases hl
    | _ => exact absurd rfl hc
def cF (P : Program) (T : Nat) : Option (List TV) := (P.info? T).bind fun i => i.zero.bind fun z => tvL z.cells.toList
theorem jF {T : Nat} {l : List TV} (h : cF P T = some l) (w : World) : ∃ z, (zeroValue T).run P w = .ok z w ∧ (z.cells.size = l.length ∧ ∀ t ∈ l, t.isCell = true) ∧ ∀ (w : World) (objs : aI) (i : Nat) (t : TV) (u : Value), l[i]? = some t → z.cells[i]? = some u → Rep w objs t u := by
  unfold cF at h
  cases hi : P.info? T with
  | none => rw [hi] at h; cases h
  | some i =>
    rw [hi] at h
    simp only [Option.bind_some] at h
    cases hz : i.zero with
    | none => rw [hz] at h; cases h
    | some z =>
      rw [hz] at h
      simp only [Option.bind_some] at h
      refine ⟨z, by simp [zeroValue, Sem.run_bind, run_typeInfo w hi, hz, Sem.run_pure], by have := (kt (w := w) (objs := []) h).1; exact ⟨by simpa using this.1.symm, this.2⟩, fun w objs i t u ht hu => (kt (w := w) (objs := objs) h).2 i t u ht (by simpa using hu)⟩

theorem z6 {ops : Array Oper} {rest : List Oper} {d : Nat} {T : TypeId} {zs : List TV} (ho : o.op = .alloc T) (hd : o.dst = some d) (hN : Nat.blt d N = true) (hz : cF P T = some zs)
    (h : ∀ ss b, AL P w0 N ops Q rest ((d, .mp ss b 0) :: env) ((ss, b, .box zs) :: objs)) : AO P w0 N ops Q o rest env objs := ⟨fun a w K hs hK => by
    obtain ⟨ss, hf⟩ := fy objs
    obtain ⟨z, h1, h2, h3⟩ := jF hz w
    have hst := gc hs.mem z.cells T ss (.box zs)
    have hrun : (execOp a.eval o).run P w = .ok (.value (.pointer (some ⟨w.heap.size, 0, none⟩))) (w.alloc (.cells z.cells T)) := by
      simp only [execOp, ho]
      refine cy ?_
      simp [Instr.alloc, Sem.run_bind, h1, newVar, newRow]
    unfold Oper.wp
    rw [hrun]
    refine hK _ _ ?_
    rw [hd]
    refine (h ss w.heap.size).run _ _ (hs.putNew hN (.mp ss _ 0 ⟨by simp, fL hs.mem #[] 0 ss _⟩) (hs.mem.newObj hf ⟨⟨hs.mem.below.size, h2.2⟩, z.cells, T, heap_alloc_new w _, h2.1, fun j t hj => ?_⟩) hst)
    have hlt : j < z.cells.size := by rw [h2.1]; exact (List.getElem?_eq_some_iff.1 hj).1
    exact ⟨z.cells[j], by simp [hlt], h3 _ _ j t _ hj (by simp [hlt])⟩⟩

theorem abj {T : TypeId} {x : Operand} (ho : o.op = .box T x) (a : Act) (w : World) : (execOp a.eval o).run P w = .ok (.value (.pointer (some ⟨w.heap.size, 0, none⟩))) (w.alloc (.cells (a.eval x).cells T)) := by
  simp only [execOp, ho]
  refine cy ?_
  simp [Instr.box, newVar, newRow]
theorem adp {T : TypeId} {x : Operand} {tv : TV} {l : List TV} (ho : o.op = .box T x) (hx : ev env x = some tv) (hl : e9 tv = some l) : aS P w0 env objs o (.cp w0.heap.size l) := fun a w K Q hw hop hK => by
  have h0 := hop x (by simp [ho, Op.operands]) _ hx
  obtain ⟨h1, h2⟩ := hw.alloc (.cells (a.eval x).cells T)
  obtain ⟨g1, g2, g3⟩ := ik (h0.step h2) hl
  unfold Oper.wp
  rw [abj ho]
  refine hK _ _ (.cp w0.heap.size l g3 w.heap.size 0 (fun j => (a.eval x).cells.getD j undef) ⟨hw.below.size, fun ha => ?_⟩ (by simp) (fun j t hj => ?_) (fun j t hj => ?_)) h1 h2
  · obtain ⟨_, s, ob, hm⟩ := ha
    exact Nat.lt_irrefl _ (da hw hm)
  · have hlt : j < (a.eval x).cells.size := by rw [g1]; exact (List.getElem?_eq_some_iff.1 hj).1
    rw [Nat.zero_add, World.cell?_alloc_new]; simp [hlt]
  · have hlt : j < (a.eval x).cells.size := by rw [g1]; exact (List.getElem?_eq_some_iff.1 hj).1
    exact g2 j t _ hj (by simp [hlt])
/- A slice written out. -/
def evL (env : Env) : List (Nat × Operand) → Nat → Option (List (List TV))
  | [], _ => some []
  | (i, x) :: r, n => bif Nat.beq i n then (match (ev env x).bind e9, evL env r (n + 1) with
    | some l, some ls => some (l :: ls)
    | _, _ => none) else none
theorem vg {w : World} (a : Act) : ∀ {ps : List (Nat × Operand)} {n : Nat} {rows : List (List TV)}, evL env ps n = some rows → (∀ p ∈ ps, ∀ v, ev env p.2 = some v → Rep w objs v (a.eval p.2)) →
    (ps.map fun p => (p.1, a.eval p.2)) = (((ps.map fun p => a.eval p.2)).zipIdx n).map (fun x => (x.2, x.1)) ∧ (rows.length = ps.length ∧ ∀ t ∈ rows.flatten, t.isCell = true) ∧
      ∀ (k : Nat) (r : List TV), rows[k]? = some r → ∃ v, (ps.map fun p => a.eval p.2)[k]? = some v ∧ v.cells.size = r.length ∧ ∀ (i : Nat) (t : TV) (u : Value), r[i]? = some t → v.cells[i]? = some u → Rep w objs t u
  | [], n, rows, h, _ => by simp only [evL, Option.some.injEq] at h; subst h; simp
  | (i, x) :: ps, n, rows, h, hop => by
    unfold evL at h
    cases hb : Nat.beq i n with
    | false => rw [hb] at h; cases h
    | true =>
      rw [hb] at h
      have hi : i = n := Nat.eq_of_beq_eq_true hb
      simp only [cond_true] at h
      split at h
      · rename_i l ls h1 h2
        simp only [Option.some.injEq] at h
        subst h; subst hi
        obtain ⟨e1, e2, e3⟩ := vg a h2 (fun p hp => hop p (by simp [hp]))
        obtain ⟨tv, h3, h4⟩ := Option.bind_eq_some_iff.1 h1
        obtain ⟨g1, g2, g3⟩ := ik (hop (i, x) (by simp) tv h3) h4
        refine ⟨by simp only [List.map_cons, List.zipIdx_cons]; rw [e1], ⟨by simp [e2.1], fun t ht => by
          rw [List.flatten_cons, List.mem_append] at ht
          rcases ht with ht | ht
          · exact g3 t ht
          · exact e2.2 t ht⟩, fun k r hk => ?_⟩
        cases k with
        | zero => simp at hk; subst hk; exact ⟨a.eval x, by simp, g1, g2⟩
        | succ k => simpa using e3 k r (by simpa using hk)
      · cases h

theorem sQ {T : TypeId} {n m : Nat} {ps : List (Nat × Operand)} {rows : List (List TV)} (ho : o.op = .buildSlice T n ps.toArray) (hT : P.underlying T = some (.slice (P.elem T))) (hI : (cF P (P.elem T)).isSome = true) (hm : P.cellsOf (P.elem T) = m) (hm0 : Nat.blt 0 m = true)
    (hn : rows.length = n) (hbig : Nat.ble (n * m) 16777216 = true) {w : World} (a : Act) (hev : evL env ps 0 = some rows) (hall : ∀ r ∈ rows, r.length = m) (hop : ∀ p ∈ ps, ∀ v, ev env p.2 = some v → Rep w objs v (a.eval p.2)) :
    ∃ cs : Array Value, (execOp a.eval o).run P w = .ok (.value (.slice (some ⟨w.heap.size, 0, none⟩) n n)) (w.alloc (.cells cs (P.elem T))) ∧ (cs.size = n * m ∧ ∀ t ∈ rows.flatten, t.isCell = true) ∧ ∀ (j : Nat) (t : TV), rows.flatten[j]? = some t → ∃ v, cs[j]? = some v ∧ Rep w objs t v := by
  have hm0 : 0 < m := Nat.blt_eq ▸ hm0
  have hbig := Nat.le_of_ble_eq_true hbig
  obtain ⟨e1, e2, e3⟩ := vg a hev hop
  obtain ⟨zs, hz⟩ := Option.isSome_iff_exists.1 hI
  obtain ⟨z, hz1, _, _⟩ := jF hz w
  unfold cF at hz
  cases hie : P.info? (P.elem T) with
  | none => rw [hie] at hz; cases hz
  | some ie =>
  rw [hie] at hz
  simp only [Option.bind_some] at hz
  cases hzz : ie.zero with
  | none => rw [hzz] at hz; cases hz
  | some zv =>
  have hsz : ie.size = m := by rw [← hm]; simp [Program.cellsOf, hie]
  have hlen : ps.length = n := by rw [← e2.1]; exact hn
  have hvs : ∀ v ∈ (ps.map fun p => a.eval p.2), v.cells.size = m := fun v hv => by
    obtain ⟨k, hk, rfl⟩ := List.getElem_of_mem hv
    have hk' : k < rows.length := by rw [e2.1]; simpa using hk
    obtain ⟨v, h1, h2, _⟩ := e3 k rows[k] (List.getElem?_eq_getElem hk')
    rw [List.getElem?_eq_getElem hk] at h1
    simp only [Option.some.injEq] at h1
    rw [h1, h2]
    exact hall _ (List.getElem_mem hk')
  by_cases hn0 : n = 0
  · subst hn0
    have hps : ps = [] := List.eq_nil_of_length_eq_zero hlen
    subst hps
    have hr0 : rows = [] := List.eq_nil_of_length_eq_zero hn
    subst hr0
    refine ⟨(Array.range 0).map fun _ => default, ?_, by simp, by simp⟩
    simp only [execOp, ho]
    refine cy ?_
    simp [Instr.buildSlice, Sem.run_bind, run_underlying hT, run_sizeOf w hie, Instr.fill, newRow]
  · have hpos : ¬ n * m = 0 := by
      intro h; rcases Nat.mul_eq_zero.1 h with h | h <;> omega
    obtain ⟨cs, h1, h2, h3⟩ := Great.fill_dense (s := m) hm0 (ps.map fun p => a.eval p.2) 0 ((Array.range (n * m)).map (zv.cells[· % zv.cells.size]!)) hvs (by simp [hlen])
    refine ⟨cs, ?_, ⟨by rw [h2]; simp, e2.2⟩, fun j t hj => ?_⟩
    · simp only [execOp, ho]
      refine cy ?_
      refine run_buildSlice w T _ n _ cs ie zv hT hie hzz (by rw [hsz]; omega) (by rw [hsz]; exact hpos) ?_
      rw [hsz]
      simp only [List.map_toArray]
      show Instr.fill _ _ (ps.map fun p => (p.1, a.eval p.2)) = _
      rw [e1]; exact h1
    · have hjl : j < rows.length * m := by rw [← length_flatten hall]; exact (List.getElem?_eq_some_iff.1 hj).1
      have hq : j / m < rows.length := Nat.div_lt_of_lt_mul (by rw [Nat.mul_comm]; exact hjl)
      have hr : j % m < m := Nat.mod_lt _ hm0
      have hje : j = (j / m) * m + j % m := by rw [Nat.mul_comm]; exact (Nat.div_add_mod j m).symm
      have h5 := dP hall (List.getElem?_eq_getElem hq) hr
      rw [← hje, hj] at h5
      obtain ⟨v, g1, g2, g3⟩ := e3 _ _ (List.getElem?_eq_getElem hq)
      have h6 := h3 j
      rw [if_pos ⟨by omega, by rw [Nat.zero_add, List.length_map, hlen, ← hn]; exact hjl⟩, Nat.sub_zero, g1, Option.bind_some] at h6
      have hlt : j % m < v.cells.size := by rw [g2, hall _ (List.getElem_mem hq)]; exact hr
      exact ⟨v.cells[j % m], h6.trans (by simp [hlt]), g3 _ t _ h5.symm (by simp [hlt])⟩

theorem x6 {T : TypeId} {n : Nat} {ps : List (Nat × Operand)} (ho : o.op = .buildSlice T n ps.toArray) {p : Nat × Operand} (hp : p ∈ ps) : p.2 ∈ o.op.operands.toList := by
  simp only [ho, Op.operands, List.toList_toArray]; exact List.mem_map.2 ⟨p, hp, rfl⟩
theorem acH {T : TypeId} {n m : Nat} {ps : List (Nat × Operand)} {rows : List (List TV)} (ho : o.op = .buildSlice T n ps.toArray) (hT : P.underlying T = some (.slice (P.elem T))) (hI : (cF P (P.elem T)).isSome = true) (hm : P.cellsOf (P.elem T) = m) (hm0 : Nat.blt 0 m = true)
    (hev : evL env ps 0 = some rows) (hn : rows.length = n) (hbig : Nat.ble (n * m) 16777216 = true) (hall : (rows.all fun r => Nat.beq r.length m) = true) : aS P w0 env objs o (.sl w0.heap.size m rows) := fun a w K Q hw hop hK => by
  have hm0' : 0 < m := Nat.blt_eq ▸ hm0
  have hall' : ∀ r ∈ rows, r.length = m := fun r hr => Nat.eq_of_beq_eq_true (List.all_eq_true.1 hall r hr)
  obtain ⟨cs, h1, h2, h3⟩ := sQ ho hT hI hm hm0 hn hbig a hev hall' (fun p hp v hv => hop _ (x6 ho hp) v hv)
  obtain ⟨g1, g2⟩ := hw.alloc (.cells cs (P.elem T))
  unfold Oper.wp
  rw [h1]
  have hnm : n ≤ maxLen := by
    have := Nat.le_of_ble_eq_true hbig
    have h4 : n * 1 ≤ n * m := Nat.mul_le_mul_left _ hm0'
    simp only [maxLen]; omega
  refine hK _ _ ?_ g1 g2
  have hsl := Rep.sl (w := w.alloc (.cells cs (P.elem T))) (objs := objs) w0.heap.size m rows (some ⟨w.heap.size, 0, none⟩) n (by omega) hnm hall' h2.2 (fun j => cs.getD j undef) (fun j t hj => ⟨_, _, rfl, ⟨hw.below.size, fun ha => by
      obtain ⟨_, s, ob, hm⟩ := ha; exact Nat.lt_irrefl _ (da hw hm)⟩, by
      obtain ⟨v, h4, _⟩ := h3 j t hj
      rw [Nat.zero_add, World.cell?_alloc_new, h4]; simp [Array.getD_eq_getD_getElem?, h4]⟩) (fun j t hj => by
      obtain ⟨v, h4, h5⟩ := h3 j t hj
      simp only [Array.getD_eq_getD_getElem?, h4, Option.getD_some]
      exact h5.step g2)
  rw [hn] at hsl
  exact hsl
theorem acE {ops : Array Oper} {rest : List Oper} {d : Nat} {T : TypeId} {n m : Nat} {ps : List (Nat × Operand)} {rows : List (List TV)} (ho : o.op = .buildSlice T n ps.toArray) (hd : o.dst = some d) (hN : Nat.blt d N = true) (hT : P.underlying T = some (.slice (P.elem T))) (hI : (cF P (P.elem T)).isSome = true) (hm : P.cellsOf (P.elem T) = m) (hm0 : Nat.blt 0 m = true)
    (hev : evL env ps 0 = some rows) (hn : rows.length = n) (hbig : Nat.ble (n * m) 16777216 = true) (hall : (rows.all fun r => Nat.beq r.length m) = true)
    (h : ∀ ss b, AL P w0 N ops Q rest ((d, .ms ss b 0 n) :: env) ((ss, b, .row m rows) :: objs)) : AO P w0 N ops Q o rest env objs := ⟨fun a w K hs hK => by
    obtain ⟨ss, hf⟩ := fy objs
    have hm0' : 0 < m := Nat.blt_eq ▸ hm0
    have hall' : ∀ r ∈ rows, r.length = m := fun r hr => Nat.eq_of_beq_eq_true (List.all_eq_true.1 hall r hr)
    have hst := fun cs => gc hs.mem cs (P.elem T) ss (.row m rows)
    obtain ⟨cs, h1, h2, h3⟩ := sQ ho hT hI hm hm0 hn hbig a hev hall' (fun p hp v hv => eR hs hv)
    unfold Oper.wp
    rw [h1]
    refine hK _ _ ?_
    rw [hd]
    have hnm : n ≤ maxLen := by
      have := Nat.le_of_ble_eq_true hbig
      have h4 : n * 1 ≤ n * m := Nat.mul_le_mul_left _ hm0'
      simp only [maxLen]; omega
    have hb0 : w.heap.size ≠ 0 := Nat.ne_of_gt (Nat.lt_of_lt_of_le hs.mem.pos hs.mem.below.size)
    refine (h ss w.heap.size).run _ _ (hs.putNew hN (.ms _ _ _ _ _ (.mk ⟨by simp, fL hs.mem #[] 0 ss _, _, _, rfl⟩ (fun m' rows' hm' => .inr ⟨hb0, 0, n, P.elem T, n * m, rfl, Nat.le_refl _, by unfold World.shape?; rw [heap_alloc_new]; simp [h2.1], ?_, fun _ => by simp⟩) (fun h0 => absurd h0 hb0))) (hs.mem.newObj hf ⟨⟨hm0', h2.2⟩, hall', .inr ⟨hs.mem.below.size, cs, P.elem T, n, heap_alloc_new w _, h2.1, by omega, hnm, fun j t hj => ?_⟩⟩) (hst cs))
    · rcases List.mem_cons.1 hm' with he | hm'
      · simp only [Prod.mk.injEq, bu.row.injEq] at he; rw [he.2.2.1]; simp
      · exact absurd (da hs.mem hm') (Nat.lt_irrefl _)
    · obtain ⟨v, h4, h5⟩ := h3 j t hj
      exact ⟨v, h4, h5.step (hst cs)⟩⟩
end

inductive Upd (x x' : Nat × Nat × bu) : aI → aI → Prop
  | head (l : aI) : Upd x x' (x :: l) (x' :: l)
  | tail (y : Nat × Nat × bu) (l l' : aI) (h : Upd x x' l l') : Upd x x' (y :: l) (y :: l')
theorem Upd.mem {x x' : Nat × Nat × bu} {l l' : aI} (h : Upd x x' l l') : x ∈ l := by
  induction h with
  | head l => exact List.mem_cons_self
  | tail y l l' h ih => exact List.mem_cons_of_mem _ ih
theorem Upd.other {x x' : Nat × Nat × bu} {l l' : aI} (h : Upd x x' l l') (hp : List.Pairwise em l) : ∀ y ∈ l', y = x' ∨ (y ∈ l ∧ y.1 ≠ x.1 ∧ (y.2.1 ≠ x.2.1 ∨ x.2.1 = 0)) := by
  induction h with
  | head l =>
    intro y hy
    rcases List.mem_cons.1 hy with rfl | hy
    · exact .inl rfl
    · obtain ⟨h1, h2⟩ := (List.pairwise_cons.1 hp).1 y hy
      exact .inr ⟨List.mem_cons_of_mem _ hy, h1.symm, h2.imp Ne.symm id⟩
  | tail z l l' h ih =>
    intro y hy
    rcases List.mem_cons.1 hy with rfl | hy
    · obtain ⟨h1, h2⟩ := (List.pairwise_cons.1 hp).1 x h.mem
      refine .inr ⟨List.mem_cons_self, h1, ?_⟩
      rcases h2 with h2 | h2
      · exact .inl h2
      · by_cases e : y.2.1 = x.2.1
        · exact .inr (e ▸ h2)
        · exact .inl e
    · exact (ih (List.pairwise_cons.1 hp).2 y hy).imp id fun ⟨h1, h2⟩ => ⟨List.mem_cons_of_mem _ h1, h2⟩
theorem Upd.sites {x x' : Nat × Nat × bu} {l l' : aI} (h : Upd x x' l l') (hs : x'.1 = x.1) (hp : List.Pairwise em l) (hb : ∀ y ∈ l, y.1 ≠ x.1 → x'.2.1 ≠ y.2.1 ∨ x'.2.1 = 0) : List.Pairwise em l' := by
  induction h with
  | head l =>
    obtain ⟨h1, h2⟩ := List.pairwise_cons.1 hp
    exact List.pairwise_cons.2 ⟨fun y hy => ⟨by rw [hs]; exact (h1 y hy).1, hb y (List.mem_cons_of_mem _ hy) (h1 y hy).1.symm⟩, h2⟩
  | tail z l l' h ih =>
    obtain ⟨h1, h2⟩ := List.pairwise_cons.1 hp
    refine List.pairwise_cons.2 ⟨fun y hy => ?_, ih h2 fun y hy => hb y (List.mem_cons_of_mem _ hy)⟩
    rcases h.other h2 y hy with rfl | ⟨hy, _, _⟩
    · have hz := h1 x h.mem
      refine ⟨by rw [hs]; exact hz.1, ?_⟩
      rcases hb z List.mem_cons_self hz.1 with h3 | h3
      · exact .inl h3.symm
      · by_cases e : z.2.1 = 0
        · exact .inr e
        · exact .inl (by rw [h3]; exact e)
    · exact h1 y hy

section
variable {P : Program} {w0 : World} {N : Nat} {Q : Exit → Act → World → Prop} {env : Env} {objs objs' : aI} {o : Oper}

theorem j3 {w w' : World} (hw : du w0 objs w) {s b b' m : Nat} {ob ob' : bu} (hu : Upd (s, b, ob) (s, b', ob') objs objs') (hsz : w.heap.size ≤ w'.heap.size)
    (hk : ∀ k, k < w.heap.size → k ≠ b ∨ b = 0 → w'.heap[k]? = w.heap[k]?) (hb' : b' = b ∨ w.heap.size ≤ b') (hkind : ∀ rows', ob' = .row m rows' → ∃ rows, ob = .row m rows) (hm : ∀ m' rows', ob' = .row m' rows' → m' = m) (hsh : b' = b → b ≠ 0 → w'.shape? b = w.shape? b) (hmk : dz ≠ (s, b', ob')) : jz w objs w' objs' := by
  have hoth := hu.other hw.sites
  refine ⟨fun k hlt hna => hk k hlt ?_, fun k hlt ha => ?_, fun s1 b1 m1 rows1 hlt hb1 hm1 => ?_, hsz, fun hm => (hoth _ hm).elim (fun e => absurd e hmk) (fun e => e.1)⟩
  · by_cases e : k = b
    · subst e
      by_cases e0 : k = 0
      · exact .inr e0
      · exact absurd ⟨e0, s, ob, hu.mem⟩ hna
    · exact .inl e
  · obtain ⟨h0, s1, o1, h1⟩ := ha
    rcases hoth _ h1 with he | ⟨h2, _⟩
    · simp only [Prod.mk.injEq] at he
      obtain ⟨_, rfl, _⟩ := he
      rcases hb' with rfl | hb'
      · exact ⟨h0, s, ob, hu.mem⟩
      · omega
    · exact ⟨h0, s1, o1, h2⟩
  · rcases hoth _ hm1 with he | ⟨h2, _, h3⟩
    · simp only [Prod.mk.injEq] at he
      obtain ⟨rfl, rfl, rfl⟩ := he
      have hmm := hm m1 rows1 rfl
      subst hmm
      obtain ⟨rows, hr⟩ := hkind rows1 rfl
      rcases hb' with rfl | hb'
      · exact ⟨⟨rows, hr ▸ hu.mem⟩, hsh rfl hb1⟩
      · omega
    · refine ⟨⟨rows1, h2⟩, fO (hk b1 hlt ?_)⟩
      exact h3
theorem du.upd {w w' : World} (hw : du w0 objs w) {s b b' : Nat} {ob ob' : bu} (hu : Upd (s, b, ob) (s, b', ob') objs objs') (hbel : Below w0.heap.size w0 w')
    (hk : ∀ k, k < w.heap.size → k ≠ b ∨ b = 0 → w'.heap[k]? = w.heap[k]?) (hb' : b' = b ∨ w.heap.size ≤ b') (hst : jz w objs w' objs') (hob : sj w' w0.heap.size objs' b' ob') : du w0 objs' w' := by
  refine ⟨hbel, hw.pos, fun s1 b1 o1 hm1 => ?_, hu.sites rfl hw.sites fun y hy hne => ?_⟩
  · rcases hu.other hw.sites _ hm1 with he | ⟨h2, _, h3⟩
    · simp only [Prod.mk.injEq] at he
      obtain ⟨rfl, rfl, rfl⟩ := he
      exact hob
    · exact (hw.obj s1 b1 o1 h2).step hst (hk b1 (da hw h2) h3)
  · rcases hb' with rfl | hb'
    · have hx := hu.mem
      by_cases e0 : b' = 0
      · exact .inr e0
      · refine .inl fun e => ?_
        -- two owned things of one block
        have key : ∀ (l : aI), List.Pairwise em l → (s, b', ob) ∈ l → y ∈ l → y.1 ≠ s → y.2.1 = b' → False := fun l => by
          induction l with
          | nil => intro _ h; simp at h
          | cons z l ih =>
            intro hp h1 h2 h3 h4
            obtain ⟨g1, g2⟩ := List.pairwise_cons.1 hp
            rcases List.mem_cons.1 h1 with rfl | h1'
            · rcases List.mem_cons.1 h2 with rfl | h2'
              · exact h3 rfl
              · rcases (g1 y h2').2 with h | h
                · exact h h4.symm
                · exact e0 h
            · rcases List.mem_cons.1 h2 with rfl | h2'
              · rcases (g1 _ h1').2 with h | h
                · exact h h4
                · exact e0 (h4 ▸ h)
              · exact ih g2 h1' h2' h3 h4
        exact key objs hw.sites hx hy hne e.symm
    · exact .inl (Nat.ne_of_gt (Nat.lt_of_lt_of_le (da (s := y.1) (ob := y.2.2) hw hy) hb'))

inductive cz : List TV → Nat → List TV → List TV → Prop
  | nil (l : List TV) : cz l 0 [] l
  | put (x v : TV) (l vs l' : List TV) (h : cz l 0 vs l') : cz (x :: l) 0 (v :: vs) (v :: l')
  | skip (x : TV) (l : List TV) (n : Nat) (vs l' : List TV) (h : cz l n vs l') : cz (x :: l) (n + 1) vs (x :: l')
theorem cz.spec {l : List TV} {n : Nat} {vs l' : List TV} (h : cz l n vs l') : n + vs.length ≤ l.length ∧ l'.length = l.length ∧ ∀ j, l'[j]? = if n ≤ j ∧ j < n + vs.length then vs[j - n]? else l[j]? := by
  induction h with
  | nil l => exact ⟨by simp, rfl, fun j => by rw [if_neg (by simp)]⟩
  | put x v l vs l' h ih =>
    obtain ⟨h1, h2, h3⟩ := ih
    refine ⟨by simp at h1 ⊢; omega, by simp [h2], fun j => ?_⟩
    cases j with
    | zero => simp
    | succ j =>
      have := h3 j
      simp only [List.getElem?_cons_succ, this, List.length_cons, Nat.zero_le, true_and, Nat.sub_zero]
      by_cases hj : j < 0 + vs.length
      · rw [if_pos hj, if_pos (by omega)]
      · rw [if_neg hj, if_neg (by omega)]
  | skip x l n vs l' h ih =>
    obtain ⟨h1, h2, h3⟩ := ih
    refine ⟨by simp at h1 ⊢; omega, by simp [h2], fun j => ?_⟩
    cases j with
    | zero => rw [if_neg (by omega)]; simp
    | succ j =>
      have := h3 j
      simp only [List.getElem?_cons_succ, this]
      by_cases hj : n ≤ j ∧ j < n + vs.length
      · rw [if_pos hj, if_pos (by omega), show j + 1 - (n + 1) = j - n by omega]
      · rw [if_neg hj, if_neg (by omega)]

theorem oA {T : TypeId} {x v : Operand} {a : Act} {w : World} {g q : Nat} {cur : Array Value} {e : TypeId} (ho : o.op = .store T x v) (ha : a.eval x = .pointer (some ⟨g, q, none⟩)) (hi : (P.info? T).isSome = true) (hsz : P.cellsOf T = (a.eval v).cells.size)
    (hg : w.heap[g]? = some (.cells cur e (0, 0))) (hfit : q + (a.eval v).cells.size ≤ cur.size) (h1 : ∀ u ∈ (a.eval v).cells.toList, u.oneCell' = true) :
    (execOp a.eval o).run P w = .ok .skip (w.setRow g (cur.toList.take q ++ (a.eval v).cells.toList ++ cur.toList.drop (q + (a.eval v).cells.size)).toArray) := by
  cases hie : P.info? T with
  | none => rw [hie] at hi; cases hi
  | some i =>
  have hr := run_storeCells_at P g q e (a.eval v).cells.toList 0 cur w hg (by simpa using hfit) h1
  have hne : ¬ (a.eval v).cells.size ≠ P.cellsOf T := by omega
  simp only [execOp, ho, ha, Instr.storeAt, Instr.sureAddr, storeVar, Sem.run_bind, Sem.run_pure, Result.andThen_ok, run_sizeOf w hie, if_neg hne]
  rw [hr]
  simp [Result.andThen_ok]

theorem gT {w0 w : World} (h : Below w0.heap.size w0 w) {g : Nat} (hg : w0.heap.size ≤ g) (cs : Array Value) : Below w0.heap.size w0 (w.setRow g cs) :=
  h.trans ⟨rfl, rfl, rfl, by simp, fun k hk => setRow_other w g k cs (by omega)⟩
theorem tI {ops : Array Oper} {rest : List Oper} {T : TypeId} {x v : Operand} {s b off : Nat} {tv : TV} {cells vs cells' : List TV} (ho : o.op = .store T x v) (hd : o.dst = none) (hx : ev env x = some (.mp s b off)) (hv : ev env v = some tv) (hc : e9 tv = some vs)
    (hi : (P.info? T).isSome = true) (hsz : P.cellsOf T = vs.length) (hu : Upd (s, b, .box cells) (s, b, .box cells') objs objs') (hsp : cz cells off vs cells') (h : AL P w0 N ops Q rest env objs') : AO P w0 N ops Q o rest env objs := ⟨fun a w K hs hK => by
    obtain ⟨⟨hB, hci⟩, cur, e, h2, h3, h4⟩ := hs.mem.obj s b _ hu.mem
    obtain ⟨g1, g2, g3⟩ := ik (eR hs hv) hc
    obtain ⟨p1, p2, p3⟩ := hsp.spec
    have hxa := eR hs hx
    generalize hax : a.eval x = ax at hxa
    cases hxa with
    | mp s b off hb =>
    have hone : ∀ u ∈ (a.eval v).cells.toList, u.oneCell' = true := fun u hu => by
      obtain ⟨k, hk, rfl⟩ := List.getElem_of_mem hu
      have hk' : k < vs.length := by rw [← g1]; simpa using hk
      exact ((g2 k vs[k] _ (List.getElem?_eq_getElem hk') (by rw [← Array.getElem?_toList]; exact List.getElem?_eq_getElem hk)).one (g3 _ (List.getElem_mem hk'))).1
    have hrun := oA (P := P) (o := o) (cur := cur) (e := e) (w := w) ho hax hi (by rw [hsz, g1]) h2 (by rw [g1, h3]; exact p1) hone
    unfold Oper.wp
    rw [hrun]
    refine hK _ _ ?_
    rw [hd]
    have hb0 : b ≠ 0 := by have := hs.mem.pos; omega
    have hkk : ∀ k, k < w.heap.size → k ≠ b ∨ b = 0 → (w.setRow b (cur.toList.take off ++ (a.eval v).cells.toList ++ cur.toList.drop (off + (a.eval v).cells.size)).toArray).heap[k]? = w.heap[k]? := fun k _ hk => setRow_other w b k _ (hk.resolve_right hb0)
    have hst := j3 (m := 0) hs.mem hu (w' := w.setRow b (cur.toList.take off ++ (a.eval v).cells.toList ++ cur.toList.drop (off + (a.eval v).cells.size)).toArray) (by simp) hkk (.inl rfl) (by simp) (by simp) (fun _ _ => by
      unfold World.shape?; rw [setRow_heap w b cur _ e _ h2, h2]; simp; omega) (by simp [dz])
    refine h.run _ _ (hs.same (hs.mem.upd hu (gT hs.mem.below hB _) hkk (.inl rfl) hst ⟨⟨hB, fun t ht => ?_⟩, _, e, setRow_heap w b cur _ e _ h2, ?_, fun j t hj => ?_⟩) hst)
    · obtain ⟨k, hk, rfl⟩ := List.getElem_of_mem ht
      have h5 := p3 k
      rw [List.getElem?_eq_getElem hk] at h5
      split at h5
      · exact g3 _ (List.mem_of_getElem? h5.symm)
      · exact hci _ (List.mem_of_getElem? h5.symm)
    · simp; omega
    · rw [p3] at hj
      have hcur : ∀ i : Nat, cur.toList[i]? = cur[i]? := fun i => by simp
      simp only [List.getElem?_toArray]
      split at hj
      · rename_i hin
        have hlt : j - off < (a.eval v).cells.size := by omega
        refine ⟨(a.eval v).cells[j - off], ?_, (g2 _ t _ hj (by simp [hlt])).step hst⟩
        rw [List.getElem?_append_left (by simp; omega), List.getElem?_append_right (by simp; omega)]
        simp only [List.length_take, Array.length_toList]
        rw [show j - min off cur.size = j - off by omega]
        simp [hlt]
      · rename_i hin
        obtain ⟨u, h5, h6⟩ := h4 j t hj
        refine ⟨u, ?_, h6.step hst⟩
        have hjl : j < cur.size := (Array.getElem?_eq_some_iff.1 h5).1
        by_cases hjo : j < off
        · rw [List.getElem?_append_left (by simp; omega), List.getElem?_append_left (by simp; omega), List.getElem?_take, if_pos hjo, hcur]; exact h5
        · rw [List.getElem?_append_right (by simp; omega)]
          simp only [List.length_append, List.length_take, Array.length_toList, List.getElem?_drop]
          rw [show off + (a.eval v).cells.size + (j - (min off cur.size + (a.eval v).cells.size)) = j by omega, hcur]; exact h5⟩
end

section
variable {P : Program} {w0 : World} {N : Nat} {Q : Exit → Act → World → Prop} {env : Env} {objs objs' : aI} {o : Oper}

theorem tJ {m : Nat} {rows : List (List TV)} (hm : ∀ r ∈ rows, r.length = m) (hm0 : 0 < m) {k : Nat} (hk : k < rows.length) {r' : List TV} (hr' : r'.length = m) (j : Nat) :
    (rows.set k r').flatten[j]? = if k * m ≤ j ∧ j < (k + 1) * m then r'[j - k * m]? else rows.flatten[j]? := by
  have hm' : ∀ r ∈ rows.set k r', r.length = m := fun r hr => by
    rcases List.mem_or_eq_of_mem_set hr with h | h
    · exact hm r h
    · exact h ▸ hr'
  have hL : (rows.set k r').flatten.length = rows.length * m := by rw [length_flatten hm', List.length_set]
  have hL2 := length_flatten hm
  by_cases hj : j < rows.length * m
  · have hq : j / m < rows.length := Nat.div_lt_of_lt_mul (by rw [Nat.mul_comm]; exact hj)
    have hmod : j % m < m := Nat.mod_lt _ hm0
    have hje : j = (j / m) * m + j % m := by rw [Nat.mul_comm]; exact (Nat.div_add_mod j m).symm
    by_cases hc : j / m = k
    · have h1 : (rows.set k r')[j / m]? = some r' := by rw [hc, List.getElem?_set_self hk]
      have h2 := dP hm' h1 hmod
      rw [← hje] at h2
      rw [h2, if_pos ⟨by rw [← hc]; omega, by rw [← hc, Nat.add_mul, Nat.one_mul]; omega⟩, show j - k * m = j % m by rw [← hc]; omega]
    · have h1 : (rows.set k r')[j / m]? = some rows[j / m] := by rw [List.getElem?_set_ne (Ne.symm hc)]; exact List.getElem?_eq_getElem hq
      have h2 := dP hm' h1 hmod
      have h3 := dP hm (List.getElem?_eq_getElem hq) hmod
      rw [← hje] at h2 h3
      rw [h2, h3, if_neg]
      rintro ⟨g1, g2⟩
      apply hc
      refine Nat.le_antisymm ?_ ?_
      · exact Nat.le_of_lt_succ (Nat.div_lt_of_lt_mul (by rw [Nat.mul_comm]; exact g2))
      · exact (Nat.le_div_iff_mul_le hm0).2 g1
  · rw [List.getElem?_eq_none (by omega), if_neg (by
      rintro ⟨_, g2⟩
      have : (k + 1) * m ≤ rows.length * m := Nat.mul_le_mul_right _ hk
      omega), List.getElem?_eq_none (by omega)]

theorem qp {rows : List (List TV)} {k : Nat} {r' : List TV} (h : ∀ t ∈ rows.flatten, t.isCell = true) (h' : ∀ t ∈ r', t.isCell = true) : ∀ t ∈ (rows.set k r').flatten, t.isCell = true := fun t ht => by
  obtain ⟨r, hr, htr⟩ := List.mem_flatten.1 ht
  rcases List.mem_or_eq_of_mem_set hr with h1 | h1
  · exact h t (List.mem_flatten.2 ⟨r, h1, htr⟩)
  · exact h' t (h1 ▸ htr)

theorem tx {ops : Array Oper} {rest : List Oper} {T : TypeId} {x v : Operand} {s b m k j : Nat} {tv : TV} {vs r r' : List TV} {rows rows' : List (List TV)} (ho : o.op = .store T x v) (hd : o.dst = none) (hx : ev env x = some (.me s b m k j)) (hv : ev env v = some tv) (hc : e9 tv = some vs)
    (hi : (P.info? T).isSome = true) (hsz : P.cellsOf T = vs.length) (hu : Upd (s, b, .row m rows) (s, b, .row m rows') objs objs') (hr : rows[k]? = some r) (hsp : cz r j vs r') (hrows : rows.set k r' = rows') (h : AL P w0 N ops Q rest env objs') : AO P w0 N ops Q o rest env objs := ⟨fun a w K hs hK => by
    subst hrows
    obtain ⟨⟨hm0, hci⟩, hm, hor⟩ := hs.mem.obj s b _ hu.mem
    have hk : k < rows.length := (List.getElem?_eq_some_iff.1 hr).1
    have hrm : r.length = m := hm r (List.mem_of_getElem? hr)
    rcases hor with ⟨_, h0⟩ | ⟨hB, cur, e, cap, h2, h3, hcap, hmax, h4⟩
    · subst h0; simp at hk
    obtain ⟨g1, g2, g3⟩ := ik (eR hs hv) hc
    obtain ⟨p1, p2, p3⟩ := hsp.spec
    have hxa := eR hs hx
    generalize hax : a.eval x = ax at hxa
    cases hxa with
    | me s b m k j hb =>
    have hone : ∀ u ∈ (a.eval v).cells.toList, u.oneCell' = true := fun u hu => by
      obtain ⟨i, hi, rfl⟩ := List.getElem_of_mem hu
      have hi' : i < vs.length := by rw [← g1]; simpa using hi
      exact ((g2 i vs[i] _ (List.getElem?_eq_getElem hi') (by rw [← Array.getElem?_toList]; exact List.getElem?_eq_getElem hi)).one (g3 _ (List.getElem_mem hi'))).1
    have hkm : k * m + m ≤ cur.size := by
      have : (k + 1) * m ≤ cap * m := Nat.mul_le_mul_right _ (by omega)
      rw [Nat.add_mul, Nat.one_mul] at this; omega
    have hrun := oA (P := P) (o := o) (cur := cur) (e := e) (w := w) ho hax hi (by rw [hsz, g1]) h2 (by rw [g1]; omega) hone
    unfold Oper.wp
    rw [hrun]
    refine hK _ _ ?_
    rw [hd]
    have hb0 : b ≠ 0 := by have := hs.mem.pos; omega
    generalize hq : k * m + j = q at *
    have hkk : ∀ i, i < w.heap.size → i ≠ b ∨ b = 0 → (w.setRow b (cur.toList.take q ++ (a.eval v).cells.toList ++ cur.toList.drop (q + (a.eval v).cells.size)).toArray).heap[i]? = w.heap[i]? := fun i _ hi => setRow_other w b i _ (hi.resolve_right hb0)
    have hst := j3 (m := m) hs.mem hu (w' := w.setRow b (cur.toList.take q ++ (a.eval v).cells.toList ++ cur.toList.drop (q + (a.eval v).cells.size)).toArray) (by simp) hkk (.inl rfl) (fun rows' he => ⟨rows, rfl⟩) (fun m' rows' he => by simp only [bu.row.injEq] at he; exact he.1.symm) (fun _ _ => by
      unfold World.shape?; rw [setRow_heap w b cur _ e _ h2, h2]; simp; omega) (by simp only [dz, ne_eq, Prod.mk.injEq, bu.row.injEq]; omega)
    have hr'c : ∀ t ∈ r', t.isCell = true := fun t ht => by
      obtain ⟨i, hi, rfl⟩ := List.getElem_of_mem ht
      have h5 := p3 i
      rw [List.getElem?_eq_getElem hi] at h5
      split at h5
      · exact g3 _ (List.mem_of_getElem? h5.symm)
      · exact hci _ (List.mem_flatten.2 ⟨r, List.mem_of_getElem? hr, List.mem_of_getElem? h5.symm⟩)
    have hr'm : r'.length = m := by omega
    refine h.run _ _ (hs.same (hs.mem.upd hu (gT hs.mem.below hB _) hkk (.inl rfl) hst ⟨⟨hm0, qp hci hr'c⟩, fun r1 hr1 => ?_, .inr ⟨hB, _, e, cap, setRow_heap w b cur _ e _ h2, ?_, by simpa using hcap, hmax, fun i t hi => ?_⟩⟩) hst)
    · rcases List.mem_or_eq_of_mem_set hr1 with h5 | h5
      · exact hm r1 h5
      · exact h5 ▸ hr'm
    · simp; omega
    · have hcur : ∀ i : Nat, cur.toList[i]? = cur[i]? := fun i => by simp
      rw [tJ hm hm0 hk hr'm] at hi
      simp only [List.getElem?_toArray]
      by_cases hin : q ≤ i ∧ i < q + vs.length
      · have e1 : k * m ≤ i ∧ i < (k + 1) * m := ⟨by omega, by rw [Nat.add_mul, Nat.one_mul]; omega⟩
        rw [if_pos e1, p3, if_pos (by omega), show i - k * m - j = i - q by omega] at hi
        have hlt : i - q < (a.eval v).cells.size := by omega
        refine ⟨(a.eval v).cells[i - q], ?_, (g2 _ t _ hi (by simp [hlt])).step hst⟩
        rw [List.getElem?_append_left (by simp; omega), List.getElem?_append_right (by simp; omega)]
        simp only [List.length_take, Array.length_toList]
        rw [show i - min q cur.size = i - q by omega]
        simp [hlt]
      · have hi2 : rows.flatten[i]? = some t := by
          split at hi
          · rename_i e1
            rw [p3, if_neg (by omega)] at hi
            have h6 := dP hm hr (j := i - k * m) (by rw [Nat.add_mul, Nat.one_mul] at e1; omega)
            rw [show k * m + (i - k * m) = i by omega] at h6
            rw [h6]; exact hi
          · exact hi
        obtain ⟨u, h5, h6⟩ := h4 i t hi2
        refine ⟨u, ?_, h6.step hst⟩
        have hjl : i < cur.size := (Array.getElem?_eq_some_iff.1 h5).1
        by_cases hjo : i < q
        · rw [List.getElem?_append_left (by simp; omega), List.getElem?_append_left (by simp; omega), List.getElem?_take, if_pos hjo, hcur]; exact h5
        · rw [List.getElem?_append_right (by simp; omega)]
          simp only [List.length_append, List.length_take, Array.length_toList, List.getElem?_drop]
          rw [show q + (a.eval v).cells.size + (i - (min q cur.size + (a.eval v).cells.size)) = i by omega, hcur]; exact h5⟩

def mq (P : Program) (T m : Nat) : Bool := match P.underlying T with
  | some (.slice e) => (match P.info? e with
    | some i => i.size == m && (match i.zero with | some z => z.cells.size == m | none => false) && Nat.ble i.bytes 4096
    | none => false)
  | _ => false
theorem wI {T m : Nat} (h : mq P T m = true) : ∃ e i z, P.underlying T = some (.slice e) ∧ P.info? e = some i ∧ i.zero = some z ∧ i.size = m ∧ z.cells.size = m ∧ i.bytes ≤ 4096 := by
  unfold mq at h
  split at h
  · rename_i e hu
    split at h
    · rename_i i hi
      simp only [Bool.and_eq_true, beq_iff_eq] at h
      obtain ⟨⟨h1, h2⟩, h3⟩ := h
      split at h2
      · rename_i z hz; exact ⟨e, i, z, hu, hi, hz, h1, by simpa using h2, Nat.le_of_ble_eq_true h3⟩
      · cases h2
    · cases h
  · cases h

theorem rN {w : World} {s b off len : Nat} {v : Value} (h : Rep w objs (.ms s b off len) v) : ab6 w objs s b off len v := by
  cases h with
  | ms _ _ _ _ _ h => exact h
theorem jD {w : World} {f : Nat} {m : Nat} {rows : List (List TV)} {v : Value} (h : Rep w objs (.sl f m rows) v) : ∃ A c, v = .slice A rows.length c ∧ rows.length ≤ c ∧ c ≤ maxLen ∧ (∀ r ∈ rows, r.length = m) ∧ (∀ t ∈ rows.flatten, t.isCell = true) ∧
    ∀ (j : Nat) (t : TV), rows.flatten[j]? = some t → ∃ b q u, A = some ⟨b, q, none⟩ ∧ ZZ objs f b ∧ w.cell? ⟨b, q + j, none⟩ = some u ∧ Rep w objs t u := by
  cases h with
  | sl f m rows A c h1 h2 hm hi g hc hr => exact ⟨A, c, rfl, h1, h2, hm, hi, fun j t hj => by obtain ⟨b, q, h3, h4, h5⟩ := hc j t hj; exact ⟨b, q, g j, h3, h4, h5, hr j t hj⟩⟩

theorem jZ {w : World} (t ty e e' : TypeId) (i : TypeInfo) (ht : P.underlying t = some (.slice e)) (hi : P.info? e = some i)
    (g q sLen sCap : Nat) (cur : Array Value) (hg : w.heap[g]? = some (.cells cur e' (0, 0)))
    (a : Addr) (m c : Nat) (news : List Value) (hl : news.length = m * i.size) (hnews : ∀ j u, news[j]? = some u → w.cell? (a.add j) = some u) (h1 : ∀ u ∈ news, u.oneCell' = true)
    (hroom : sLen + m ≤ sCap) (hfit : q + sLen * i.size + news.length ≤ cur.size) :
    (Builtin.append_ #[t, t] ty #[.slice (some ⟨g, q, none⟩) sLen sCap, .slice (some a) m c]).run P w =
      .ok (.slice (some ⟨g, q, none⟩) (sLen + m) sCap) (w.setRow g (cur.toList.take (q + sLen * i.size) ++ news ++ cur.toList.drop (q + sLen * i.size + news.length)).toArray) := by
  have hf := run_firstCells_some (P := P) w i.size m a m c news hl hnews
  have hst := run_storeCells_at P g (q + sLen * i.size) e' news 0 cur w hg (by simpa using hfit) h1
  simp only [Nat.add_zero] at hst
  simp [Builtin.append_, run_underlying ht, sizeOf, typeInfo, hi, Builtin.lenOf, hroom, hf, Addr.add_lit, hst]

theorem oX {w : World} {b q n : Nat} {l : List TV} (hl : l.length = n) (hi : ∀ t ∈ l, t.isCell = true) (h : ∀ (j : Nat) (t : TV), l[j]? = some t → ∃ u, w.cell? ⟨b, q + j, none⟩ = some u ∧ Rep w objs t u) :
    ∃ nv : List Value, nv.length = n ∧ (∀ (j : Nat) (u : Value), nv[j]? = some u → w.cell? ((⟨b, q, none⟩ : Addr).add j) = some u) ∧ (∀ u ∈ nv, u.oneCell' = true) ∧ ∀ (j : Nat) (t : TV), l[j]? = some t → ∃ u, nv[j]? = some u ∧ Rep w objs t u := by
  have key : ∀ j, j < n → ∃ u, w.cell? ⟨b, q + j, none⟩ = some u ∧ ∃ t, l[j]? = some t ∧ Rep w objs t u := fun j hj => by
    obtain ⟨u, h1, h2⟩ := h j l[j] (List.getElem?_eq_getElem (by omega))
    exact ⟨u, h1, l[j], List.getElem?_eq_getElem (by omega), h2⟩
  refine ⟨(List.range n).map fun j => (w.cell? ⟨b, q + j, none⟩).getD undef, by simp, fun j u hj => ?_, fun u hu => ?_, fun j t hj => ?_⟩
  · rw [List.getElem?_map] at hj
    have hlt : j < n := by
      rcases Nat.lt_or_ge j n with h | h
      · exact h
      · rw [List.getElem?_eq_none (by simpa using h)] at hj; cases hj
    obtain ⟨u', h1, _⟩ := key j hlt
    rw [List.getElem?_range hlt] at hj
    simp only [Option.map_some, h1, Option.getD_some, Option.some.injEq] at hj
    subst hj
    rw [Addr.add_lit]; exact h1
  · obtain ⟨j, hj, rfl⟩ := List.mem_map.1 hu
    obtain ⟨u', h1, t, h2, h3⟩ := key j (List.mem_range.1 hj)
    rw [h1]
    exact (h3.one (hi t (List.mem_of_getElem? h2))).1
  · obtain ⟨u, h1, h2⟩ := h j t hj
    have hlt : j < n := by rw [← hl]; exact (List.getElem?_eq_some_iff.1 hj).1
    exact ⟨u, by rw [List.getElem?_map, List.getElem?_range hlt, Option.map_some, h1]; rfl, h2⟩

structure aaN (w0 : World) (w : World) (objs : aI) (s b off len m n : Nat) (rows news : List (List TV)) (b' off' : Nat) (pre : List (List TV)) (v' : Value) (w' : World) : Prop where
  prelen : pre.length = off'
  prem : ∀ r ∈ pre, r.length = m
  prec : ∀ t ∈ pre.flatten, t.isCell = true
  zero : off = 0 → off' = 0
  blk : b' = b ∨ w.heap.size ≤ b'
  below : Below w0.heap.size w0 w'
  size : w.heap.size ≤ w'.heap.size
  keep : ∀ k, k < w.heap.size → k ≠ b ∨ b = 0 → w'.heap[k]? = w.heap[k]?
  shape : b' = b → b ≠ 0 → w'.shape? b = w.shape? b
  val : (b' = 0 ∧ off' = 0 ∧ len + n = 0 ∧ v' = .slice none 0 0) ∨
    (b' ≠ 0 ∧ ∃ o c e k, v' = .slice (some ⟨b', o, none⟩) (len + n) c ∧ len + n ≤ c ∧ w'.shape? b' = some (e, k) ∧ k = (off' + c) * m ∧ (0 < c ∨ off' = 0 → o = off' * m))
  obj : (b' = 0 ∧ pre ++ ((rows.drop off).take len ++ news) = []) ∨ (w0.heap.size ≤ b' ∧ ∃ cur e cap, w'.heap[b']? = some (.cells cur e (0, 0)) ∧ cur.size = cap * m ∧ (pre ++ ((rows.drop off).take len ++ news)).length ≤ cap ∧ cap ≤ maxLen ∧
    ∀ (j : Nat) (t : TV), (pre ++ ((rows.drop off).take len ++ news)).flatten[j]? = some t → ∃ u, cur[j]? = some u ∧ Rep w objs t u)
  lt : b' < w'.heap.size

theorem mA {rows : List (List TV)} {off len : Nat} : rows.take off ++ (rows.drop off).take len = rows.take (off + len) := by
  rw [List.take_add]
theorem dS {m : Nat} {rows : List (List TV)} (hm : ∀ r ∈ rows, r.length = m) (k : Nat) : (rows.take k).flatten = rows.flatten.take (k * m) := by
  induction rows generalizing k with
  | nil => simp
  | cons x l ih =>
    cases k with
    | zero => simp
    | succ k =>
      have hx := hm x (by simp)
      rw [List.take_succ_cons, List.flatten_cons, List.flatten_cons, ih (fun r hr => hm r (by simp [hr])), List.take_append, Nat.add_mul, Nat.one_mul, hx, List.take_of_length_le (l := x) (by omega), show k * m + m - m = k * m by omega]
theorem fC {m : Nat} {rows : List (List TV)} (hm : ∀ r ∈ rows, r.length = m) (k : Nat) : (rows.drop k).flatten = rows.flatten.drop (k * m) := by
  induction rows generalizing k with
  | nil => simp
  | cons x l ih =>
    cases k with
    | zero => simp
    | succ k =>
      have hx := hm x (by simp)
      rw [List.drop_succ_cons, List.flatten_cons, ih (fun r hr => hm r (by simp [hr])), List.drop_append, Nat.add_mul, Nat.one_mul, hx, List.drop_of_length_le (l := x) (by omega), show k * m + m - m = k * m by omega, List.nil_append]

theorem qv {w : World} (hw : du w0 objs w) {T ty s b off len m n : Nat} {f : Nat} {rows news : List (List TV)} (hmem : (s, b, bu.row m rows) ∈ objs) {v1 v2 : Value} (h1 : Rep w objs (.ms s b off len) v1) (h2 : Rep w objs (.sl f m news) v2)
    (hT : mq P T m = true) (hl : off + len ≤ rows.length) (hn : news.length = n) (hbig : len + n ≤ 1000000000) :
    ∃ b' off' pre v' w', (Builtin.append_ #[T, T] ty #[v1, v2]).run P w = .ok v' w' ∧ aaN w0 w objs s b off len m n rows news b' off' pre v' w' := by
  obtain ⟨e, i, z, hu, hie, hz, hisz, hzs, hby⟩ := wI hT
  obtain ⟨⟨hm0, hci⟩, hm, hor⟩ := hw.obj s b _ hmem
  obtain ⟨A2, c2, rfl, g1, g2, g3, g4, g5⟩ := jD h2
  have hms := (rN h1).or m rows hmem
  have hpos : 0 < w.heap.size := Nat.lt_of_lt_of_le hw.pos hw.below.size
  have hblt := (rN h1).1.1
  subst hn
  by_cases hn0 : news = []
  · -- nothing is appended
    subst hn0
    refine ⟨b, off, rows.take off, v1, w, ?_, ?_⟩
    · rcases hms with ⟨_, _, _, rfl⟩ | ⟨_, o, c, e', k, rfl, hlc, _⟩
      · cases A2 <;> simp [Builtin.append_, run_underlying hu, sizeOf, typeInfo, hie, Builtin.lenOf, Builtin.firstCells, loadCells, loadCellsFrom]
      · cases A2 <;> simp [Builtin.append_, run_underlying hu, sizeOf, typeInfo, hie, Builtin.lenOf, Builtin.firstCells, hlc, storeCells, loadCells, loadCellsFrom]
    · refine ⟨by simp; omega, fun r hr => hm r (List.mem_of_mem_take hr), fun t ht => by
          obtain ⟨r, hr, htr⟩ := List.mem_flatten.1 ht
          exact hci t (List.mem_flatten.2 ⟨r, List.mem_of_mem_take hr, htr⟩), id, .inl rfl, hw.below, Nat.le_refl _, fun _ _ _ => rfl, fun _ _ => rfl, ?_, ?_, hblt⟩
      · simpa using hms
      · rw [List.append_nil, mA]
        rcases hor with ⟨h3, rfl⟩ | ⟨hB, cur, e', cap, h3, h4, h5, h6, h7⟩
        · exact .inl ⟨h3, by simp⟩
        · refine .inr ⟨hB, cur, e', cap, h3, h4, by simp; omega, h6, fun j t hj => h7 j t ?_⟩
          rw [dS hm, List.getElem?_take] at hj
          split at hj
          · exact hj
          · cases hj
  · have hnpos : 0 < news.length := List.length_pos_iff.2 hn0
    have hfl := length_flatten g3
    have hflpos : 0 < news.flatten.length := by rw [hfl]; exact Nat.mul_pos hnpos hm0
    obtain ⟨b2, q2, _, hA2, _, _, _⟩ := g5 0 _ (List.getElem?_eq_getElem hflpos)
    subst hA2
    obtain ⟨nv, n1, n2, n3, n4⟩ := oX (w := w) (b := b2) (q := q2) (objs := objs) hfl g4 (fun j t hj => by
      obtain ⟨b, q, u, h3, _, h4, h5⟩ := g5 j t hj
      simp only [Option.some.injEq, Addr.mk.injEq, and_true] at h3
      obtain ⟨rfl, rfl⟩ := h3
      exact ⟨u, h4, h5⟩)
    have n1' : nv.length = news.length * i.size := by rw [n1, hisz]
    -- what a new block holds
    have fresh : ∀ (old : Nat) (olds : List Value) (live : List (List TV)), live.length = len → (∀ r ∈ live, r.length = m) → olds.length = len * m → (∀ (j : Nat) (t : TV), live.flatten[j]? = some t → ∃ u, olds[j]? = some u ∧ Rep w objs t u) → live = (rows.drop off).take len →
        aaN w0 w objs s b off len m news.length rows news w.heap.size 0 [] (.slice (some ⟨w.heap.size, 0, none⟩) (len + news.length) (grownCap w (len + news.length) old e))
          (w.drew.alloc (.cells (olds.toArray ++ nv.toArray ++ Builtin.zeroCells z.cells (grownCap w (len + news.length) old e - (len + news.length))) e)) := by
      intro old olds live l1 l2 l3 l4 l5
      have hge := grownCap_ge w (len + news.length) old e
      have hcm : grownCap w (len + news.length) old e ≤ maxLen := grownCap_le_maxLen w (len + news.length) old e (by simp only [maxLen]; omega)
      have hkeep : ∀ k, k < w.heap.size → ∀ ob, (w.drew.alloc ob).heap[k]? = w.heap[k]? := fun k hk ob => Below.heap_alloc w.drew ob k hk
      have hsize : (olds.toArray ++ nv.toArray ++ Builtin.zeroCells z.cells (grownCap w (len + news.length) old e - (len + news.length))).size = grownCap w (len + news.length) old e * m := by
        simp only [Array.size_append, List.size_toArray, size_zeroCells, hzs, l3, n1, ← Nat.add_mul]
        congr 1; omega
      have hb0 : w.heap.size ≠ 0 := by omega
      have hshp : (w.drew.alloc (.cells (olds.toArray ++ nv.toArray ++ Builtin.zeroCells z.cells (grownCap w (len + news.length) old e - (len + news.length))) e)).shape? w.heap.size = some (e, grownCap w (len + news.length) old e * m) := by
        unfold World.shape?
        rw [show (w.drew.alloc (.cells (olds.toArray ++ nv.toArray ++ Builtin.zeroCells z.cells (grownCap w (len + news.length) old e - (len + news.length))) e)).heap[w.heap.size]? = some (.cells _ e (0, 0)) from heap_alloc_new w.drew _]
        simp only [hsize]
      refine ⟨rfl, by simp, by simp, fun _ => rfl, .inr (Nat.le_refl _), hw.below.trans ⟨rfl, rfl, rfl, by simp, fun k hk => hkeep k (Nat.lt_of_lt_of_le hk hw.below.size) _⟩, by simp, fun k hk _ => hkeep k hk _, fun h _ => absurd (h ▸ hblt) (Nat.lt_irrefl _), .inr ⟨hb0, 0, _, e, _, rfl, hge, hshp, by rw [Nat.zero_add], fun _ => by simp⟩, .inr ⟨hw.below.size, _, e, _, heap_alloc_new w.drew _, hsize, ?_, hcm, fun j t hj => ?_⟩, by simp⟩
      · rw [List.nil_append, ← l5, List.length_append, l1]; exact hge
      · rw [List.nil_append, ← l5, List.flatten_append] at hj
        have hlf : live.flatten.length = len * m := by rw [length_flatten l2, l1]
        by_cases hjl : j < len * m
        · rw [List.getElem?_append_left (by omega)] at hj
          obtain ⟨u, h5, h6⟩ := l4 j t hj
          exact ⟨u, by rw [Array.getElem?_append_left (by simp; omega), Array.getElem?_append_left (by simp; omega)]; simpa using h5, h6⟩
        · rw [List.getElem?_append_right (by omega), hlf] at hj
          obtain ⟨u, h5, h6⟩ := n4 _ t hj
          have : j - len * m < nv.length := (List.getElem?_eq_some_iff.1 h5).1
          exact ⟨u, by rw [Array.getElem?_append_left (by simp; omega), Array.getElem?_append_right (by simp; omega)]; simpa [l3] using h5, h6⟩
    have hlive : ((rows.drop off).take len).length = len := by simp; omega
    have hlivem : ∀ r ∈ (rows.drop off).take len, r.length = m := fun r hr => hm r (List.mem_of_mem_drop (List.mem_of_mem_take hr))
    rcases hms with ⟨hb, hoff, hlen, rfl⟩ | ⟨hb0, o, c, e', k, rfl, hlc, hsh, hk, ho⟩
    · -- onto nil
      subst hlen
      have hr := run_append_nil (P := P) w T ty e i z hu hie hz ⟨b2, q2, none⟩ news.length c2 nv n1' n2 hnpos (by omega) (by have : news.length * i.bytes ≤ 1000000000 * 4096 := Nat.mul_le_mul (by omega) hby; omega)
      have hf := fresh 0 [] ((rows.drop off).take 0) hlive hlivem (by simp) (by simp) rfl
      simp only [Nat.zero_add, Array.empty_append] at hf
      refine ⟨w.heap.size, 0, [], _, _, hr, ?_⟩
      simpa using hf
    · rcases hor with ⟨h0, _⟩ | ⟨hB, cur, e'', cap, h3, h4, h5, h6, h7⟩
      · exact absurd h0 hb0
      have hshape : (e'', cur.size) = (e', k) := by
        have : w.shape? b = some (e'', cur.size) := by unfold World.shape?; rw [h3]
        rw [this] at hsh; simpa using hsh
      have hkc : cur.size = (off + c) * m := by have := congrArg Prod.snd hshape; simp only at this; omega
      by_cases hroom : len + news.length ≤ c
      · -- there is room
        have hoe := ho (.inl (by omega))
        subst hoe
        have hmul : (off + (len + news.length)) * m ≤ (off + c) * m := Nat.mul_le_mul_right _ (by omega)
        rw [Nat.add_mul, Nat.add_mul] at hmul
        have hfit : off * m + len * i.size + nv.length ≤ cur.size := by rw [hisz, n1, hkc]; omega
        have hr := jZ (P := P) (w := w) T ty e e'' i hu hie b (off * m) len c cur h3 ⟨b2, q2, none⟩ news.length c2 nv n1' n2 n3 hroom hfit
        rw [hisz] at hr hfit
        have hnewsize : (cur.toList.take (off * m + len * m) ++ nv ++ cur.toList.drop (off * m + len * m + nv.length)).toArray.size = cur.size := by simp; omega
        refine ⟨b, off, rows.take off, _, _, hr, by simp; omega, fun r hr => hm r (List.mem_of_mem_take hr), fun t ht => by
          obtain ⟨r, hr, htr⟩ := List.mem_flatten.1 ht
          exact hci t (List.mem_flatten.2 ⟨r, List.mem_of_mem_take hr, htr⟩), id, .inl rfl, gT hw.below hB _, by simp, fun k _ hk => setRow_other w b k _ (hk.resolve_right hb0), fun _ _ => ?_, .inr ⟨hb0, off * m, c, e'', cur.size, rfl, hroom, ?_, hkc, fun _ => rfl⟩, .inr ⟨hB, _, e'', cap, setRow_heap w b cur _ e'' _ h3, by rw [hnewsize]; exact h4, ?_, h6, fun j t hj => ?_⟩, by simpa using hblt⟩
        · unfold World.shape?; rw [setRow_heap w b cur _ e'' _ h3, h3]; simp only [hnewsize]
        · unfold World.shape?; rw [setRow_heap w b cur _ e'' _ h3]; simp only [hnewsize]
        · have hcap : cap = off + c := by
            have : cap * m = (off + c) * m := by omega
            exact Nat.eq_of_mul_eq_mul_right hm0 this
          rw [← List.append_assoc, mA]; simp; omega
        · rw [← List.append_assoc, mA, List.flatten_append, dS hm] at hj
          have hcur : ∀ i : Nat, cur.toList[i]? = cur[i]? := fun i => by simp
          have hlf : (rows.flatten.take ((off + len) * m)).length = off * m + len * m := by
            rw [List.length_take, length_flatten hm, ← Nat.add_mul]
            exact Nat.min_eq_left (Nat.mul_le_mul_right _ hl)
          simp only [List.getElem?_toArray]
          by_cases hjl : j < off * m + len * m
          · rw [List.getElem?_append_left (by omega), List.getElem?_take, if_pos (by rw [Nat.add_mul]; exact hjl)] at hj
            obtain ⟨u, p1, p2⟩ := h7 j t hj
            exact ⟨u, by rw [List.getElem?_append_left (by simp; omega), List.getElem?_append_left (by simp; omega), List.getElem?_take, if_pos hjl, hcur]; exact p1, p2⟩
          · rw [List.getElem?_append_right (by omega), hlf] at hj
            obtain ⟨u, p1, p2⟩ := n4 _ t hj
            have : j - (off * m + len * m) < nv.length := (List.getElem?_eq_some_iff.1 p1).1
            refine ⟨u, ?_, p2⟩
            rw [List.getElem?_append_left (by simp; omega), List.getElem?_append_right (by simp; omega)]
            simp only [List.length_take, Array.length_toList]
            rw [show min (off * m + len * m) cur.size = off * m + len * m by omega]; exact p1
      · -- a new block
        have holds : ∃ olds : List Value, olds.length = len * m ∧ (∀ (j : Nat) (u : Value), olds[j]? = some u → w.cell? ((⟨b, o, none⟩ : Addr).add j) = some u) ∧ ∀ (j : Nat) (t : TV), ((rows.drop off).take len).flatten[j]? = some t → ∃ u, olds[j]? = some u ∧ Rep w objs t u := by
          by_cases hlen : len = 0
          · subst hlen; exact ⟨[], by simp, by simp, by simp⟩
          · have hoe := ho (.inl (by omega))
            subst hoe
            obtain ⟨nv', m1, m2, _, m4⟩ := oX (w := w) (b := b) (q := off * m) (objs := objs) (l := ((rows.drop off).take len).flatten) (n := len * m) (by rw [length_flatten hlivem, hlive]) (fun t ht => by
                obtain ⟨r, hr, htr⟩ := List.mem_flatten.1 ht
                exact hci t (List.mem_flatten.2 ⟨r, List.mem_of_mem_drop (List.mem_of_mem_take hr), htr⟩)) (fun j t hj => by
                rw [dS (fun r hr => hm r (List.mem_of_mem_drop hr)), fC hm, List.getElem?_take] at hj
                split at hj
                · rw [List.getElem?_drop] at hj
                  obtain ⟨u, p1, p2⟩ := h7 _ t hj
                  exact ⟨u, by rw [cell_of_row w b _ cur e'' (0, 0) h3]; exact p1, p2⟩
                · cases hj)
            exact ⟨nv', m1, m2, m4⟩
        obtain ⟨olds, o1, o2, o3⟩ := holds
        have hr := run_append_grow (P := P) w T ty e i z hu hie hz ⟨b, o, none⟩ len c olds (by rw [o1, hisz]) o2 ⟨b2, q2, none⟩ news.length c2 nv n1' n2 (by omega) (by omega) (growslice_fits (by omega) (by have : (len + news.length) * i.bytes ≤ 1000000000 * 4096 := Nat.mul_le_mul hbig hby; omega))
        exact ⟨w.heap.size, 0, [], _, _, hr, fresh c olds _ hlive hlivem o1 o3 rfl⟩

theorem i9 {x y : Operand} {T : TypeId} (ho : o.op = .call { callee := .builtin .append, args := #[x, y], argTypes := #[T, T] }) {a : Act} {w w' : World} {v : Value} (h : (Builtin.append_ #[T, T] o.type #[a.eval x, a.eval y]).run P w = .ok v w') :
    (execOp a.eval o).run P w = .ok (.value v) w' := by
  simp only [execOp, ho, resolve, Sem.run_bind, Sem.run_pure, Result.andThen_ok, invoke, builtin, List.map_toArray, List.map_cons, List.map_nil]
  rw [h]; rfl

theorem tV {objsOf : Nat → List (List TV) → aI} {ops : Array Oper} {rest : List Oper} {d T s b off len n m : Nat} {x y : Operand} {f : Nat} {rows live news : List (List TV)} (ho : o.op = .call { callee := .builtin .append, args := #[x, y], argTypes := #[T, T] }) (hd : o.dst = some d) (hN : Nat.blt d N = true)
    (hx : ev env x = some (.ms s b off len)) (hy : ev env y = some (.sl f m news)) (hT : mq P T m = true) (hl : off + len ≤ rows.length) (hn : news.length = n) (hbig : len + n ≤ 1000000000) (hlive : (rows.drop off).take len = live)
    (hu : ∀ b' pre, Upd (s, b, .row m rows) (s, b', .row m (pre ++ (live ++ news))) objs (objsOf b' pre)) (h : ∀ b' pre, (off = 0 → pre = []) → AL P w0 N ops Q rest ((d, .ms s b' pre.length (len + n)) :: env) (objsOf b' pre)) : AO P w0 N ops Q o rest env objs := ⟨fun a w K hs hK => by
    subst hlive
    have hmem := (hu 0 []).mem
    obtain ⟨b', off', pre, v', w', hr, hE⟩ := qv (P := P) (ty := o.type) hs.mem hmem (eR hs hx) (eR hs hy) hT hl hn hbig
    obtain ⟨⟨hm0, hci⟩, hm, _⟩ := hs.mem.obj s b _ hmem
    obtain ⟨_, _, _, _, _, g3, g4, _⟩ := jD (eR hs hy)
    unfold Oper.wp
    rw [i9 ho hr]
    refine hK _ _ ?_
    rw [hd]
    have hpre := hE.prelen
    subst hpre
    subst hn
    have hst := j3 (m := m) hs.mem (hu b' pre) hE.size hE.keep hE.blk (fun rows' _ => ⟨rows, rfl⟩) (fun m' rows' he => by simp only [bu.row.injEq] at he; exact he.1.symm) hE.shape (by simp only [dz, ne_eq, Prod.mk.injEq, bu.row.injEq]; omega)
    have hlm : ∀ r ∈ (rows.drop off).take len, r ∈ rows := fun r hr => List.mem_of_mem_drop (List.mem_of_mem_take hr)
    refine (h b' pre (fun h0 => List.eq_nil_of_length_eq_zero (hE.zero h0))).run _ _ (hs.putNew hN (.ms s b' _ _ _ (.mk ⟨hE.lt, fun hm' => hs.mem.noMark (hst.mark hm'), ?_⟩ (fun m' rows' hm' => ?_) (fun h0 => ?_))) (hs.mem.upd (hu b' pre) hE.below hE.keep hE.blk hst ⟨⟨hm0, fun t ht => ?_⟩, fun r hr => ?_, hE.obj.imp id fun ⟨h1, cur, e, cap, h2, h3, h4, h5, h6⟩ => ⟨h1, cur, e, cap, h2, h3, h4, h5, fun j t hj => ?_⟩⟩) hst)
    · rcases hE.val with ⟨_, _, h0, h1⟩ | ⟨_, q, c, e, k, h1, _⟩
      · exact ⟨none, 0, by rw [h0]; exact h1⟩
      · exact ⟨_, _, h1⟩
    · rcases (hu b' pre).other hs.mem.sites _ hm' with he | ⟨_, hne, _⟩
      · simp only [Prod.mk.injEq, bu.row.injEq] at he
        obtain ⟨_, _, rfl, _⟩ := he
        exact hE.val
      · exact absurd rfl hne
    · rcases hE.val with ⟨_, h1, h2, h3⟩ | ⟨h1, _⟩
      · exact ⟨h1, h2, h3⟩
      · exact absurd h0 h1
    · simp only [List.flatten_append, List.mem_append] at ht
      rcases ht with ht | ht | ht
      · exact hE.prec t ht
      · obtain ⟨r, hr, htr⟩ := List.mem_flatten.1 ht
        exact hci t (List.mem_flatten.2 ⟨r, hlm r hr, htr⟩)
      · exact g4 t ht
    · simp only [List.mem_append] at hr
      rcases hr with hr | hr | hr
      · exact hE.prem r hr
      · exact hm r (hlm r hr)
      · exact g3 r hr
    · obtain ⟨u, p1, p2⟩ := h6 j t hj
      exact ⟨u, p1, p2.step hst⟩⟩
theorem xx {objsOf : Nat → aI} {ops : Array Oper} {rest : List Oper} {d T s b len n m : Nat} {x y : Operand} {f : Nat} {rows rows' news : List (List TV)} (ho : o.op = .call { callee := .builtin .append, args := #[x, y], argTypes := #[T, T] }) (hd : o.dst = some d) (hN : Nat.blt d N = true)
    (hx : ev env x = some (.ms s b 0 len)) (hy : ev env y = some (.sl f m news)) (hT : mq P T m = true) (hl : len ≤ rows.length) (hn : news.length = n) (hbig : len + n ≤ 1000000000) (hrows : rows.take len ++ news = rows')
    (hu : ∀ b', Upd (s, b, .row m rows) (s, b', .row m rows') objs (objsOf b')) (h : ∀ b', AL P w0 N ops Q rest ((d, .ms s b' 0 (len + n)) :: env) (objsOf b')) : AO P w0 N ops Q o rest env objs := ⟨fun a w K hs hK => by
    subst hrows
    subst hn
    have hmem := (hu 0).mem
    obtain ⟨b', off', pre, v', w', hr, hE⟩ := qv (P := P) (ty := o.type) hs.mem hmem (eR hs hx) (eR hs hy) hT (by omega) rfl hbig
    have hpre : pre = [] := List.eq_nil_of_length_eq_zero (by rw [hE.prelen]; exact hE.zero rfl)
    have hoff : off' = 0 := hE.zero rfl
    subst hpre; subst hoff
    obtain ⟨⟨hm0, hci⟩, hm, _⟩ := hs.mem.obj s b _ hmem
    obtain ⟨_, _, _, _, _, g3, g4, _⟩ := jD (eR hs hy)
    unfold Oper.wp
    rw [i9 ho hr]
    refine hK _ _ ?_
    rw [hd]
    have hst := j3 (m := m) hs.mem (hu b') hE.size hE.keep hE.blk (fun rows' _ => ⟨rows, rfl⟩) (fun m' rows' he => by simp only [bu.row.injEq] at he; exact he.1.symm) hE.shape (by simp only [dz, ne_eq, Prod.mk.injEq, bu.row.injEq]; omega)
    have hobj := hE.obj
    simp only [List.nil_append, List.drop_zero] at hobj
    refine (h b').run _ _ (hs.putNew hN (.ms s b' _ _ _ (.mk ⟨hE.lt, fun hm' => hs.mem.noMark (hst.mark hm'), ?_⟩ (fun m' rows' hm' => ?_) (fun h0 => ?_))) (hs.mem.upd (hu b') hE.below hE.keep hE.blk hst ⟨⟨hm0, fun t ht => ?_⟩, fun r hr => ?_, hobj.imp id fun ⟨h1, cur, e, cap, h2, h3, h4, h5, h6⟩ => ⟨h1, cur, e, cap, h2, h3, h4, h5, fun j t hj => ?_⟩⟩) hst)
    · rcases hE.val with ⟨_, _, h0, h1⟩ | ⟨_, q, c, e, k, h1, _⟩
      · exact ⟨none, 0, by rw [h0]; exact h1⟩
      · exact ⟨_, _, h1⟩
    · rcases (hu b').other hs.mem.sites _ hm' with he | ⟨_, hne, _⟩
      · simp only [Prod.mk.injEq, bu.row.injEq] at he
        obtain ⟨_, _, rfl, _⟩ := he
        exact hE.val
      · exact absurd rfl hne
    · rcases hE.val with ⟨_, h1, h2, h3⟩ | ⟨h1, _⟩
      · exact ⟨h1, h2, h3⟩
      · exact absurd h0 h1
    · simp only [List.flatten_append, List.mem_append] at ht
      rcases ht with ht | ht
      · obtain ⟨r, hr, htr⟩ := List.mem_flatten.1 ht
        exact hci t (List.mem_flatten.2 ⟨r, List.mem_of_mem_take hr, htr⟩)
      · exact g4 t ht
    · simp only [List.mem_append] at hr
      rcases hr with hr | hr
      · exact hm r (List.mem_of_mem_take hr)
      · exact g3 r hr
    · obtain ⟨u, p1, p2⟩ := h6 j t hj
      exact ⟨u, p1, p2.step hst⟩⟩
end

def eo (n : Nat) : aI := dz :: (List.range n).map fun b => (0, b, bu.box [])
theorem rn {n b : Nat} : nQ (eo n) b ↔ b ≠ 0 ∧ b < n := by
  constructor
  · rintro ⟨h0, s, o, hm⟩
    refine ⟨h0, ?_⟩
    rcases List.mem_cons.1 hm with he | hm
    · simp only [dz, Prod.mk.injEq] at he; omega
    · obtain ⟨b', hb, he⟩ := List.mem_map.1 hm
      simp only [Prod.mk.injEq] at he
      have := List.mem_range.1 hb
      omega
  · rintro ⟨h0, hlt⟩
    exact ⟨h0, 0, .box [], List.mem_cons_of_mem _ (List.mem_map.2 ⟨b, List.mem_range.2 hlt, rfl⟩)⟩
theorem Rep.ofOld {w : World} {objs : aI} {n : Nat} (hal : ∀ b, nQ objs b → b < n) {t : TV} {v : Value} (h : Rep w (eo n) t v) : Rep w objs t v := by
  have hz : ∀ lo b, ZZ (eo n) lo b → ZZ objs lo b := fun lo b hz => ⟨hz.1, fun ha => hz.2 (rn.2 ⟨ha.1, hal b ha⟩)⟩
  have hmk : dz ∈ eo n := List.mem_cons_self
  induction h with
  | int k n => exact .int k n
  | bool b => exact .bool b
  | str s => exact .str s
  | agg l vs hi h h2 ih => exact .agg l vs hi h ih
  | sl f m rows A c h1 h2 hm hi g hc hr ih =>
    refine .sl f m rows A c h1 h2 hm hi g (fun j t hj => ?_) ih
    obtain ⟨b, o, hA, hzz, hcc⟩ := hc j t hj
    exact ⟨b, o, hA, hz _ _ hzz, hcc⟩
  | cp f l hi b o g hZ hb hc hr ih => exact .cp f l hi b o g (hz _ _ hZ) hb hc ih
  | nilp => exact .nilp
  | nils => exact .nils
  | ms s b off len v h => exact absurd hmk h.1.2.1
  | mp s b off h => exact absurd hmk h.2
  | me s b m k j h => exact absurd hmk h.2
  | tup l vs h h2 ih => exact .tup l vs h ih
  | fn f l vs h h2 ih => exact .fn f l vs h ih
  | top v => exact .top v
  | gh l v h ih => exact .gh l v ih
theorem Rep.bare {w : World} {objs : aI} {t : TV} {v : Value} (h : Rep w objs t v) : Rep w [] t v := h.step (f3 (.nil objs) w)

def Ct (P : Program) (G : World → Prop) (f : FuncId) (args : List TV) (r : Nat → TV) : Prop :=
  ∀ (w : World) (vs : Array Value), 0 < w.heap.size → G w → vs.size = args.length → (∀ (i : Nat) (t : TV) (v : Value), args[i]? = some t → vs[i]? = some v → Rep w [] t v) →
    Calls P f vs w fun e w' => ∃ v, e = .returned v ∧ Below w.heap.size w w' ∧ ∀ L, L ≤ w.heap.size → Rep w' (eo w.heap.size) (r L) v
structure az (G : World → Prop) : Prop where
  below : ∀ w w', G w → Below w.heap.size w w' → G w'

def o5 : Nat → List TV → Env
  | _, [] => []
  | i, t :: r => (i, t) :: o5 (i + 1) r
theorem lV {t : Nat} {v : TV} : ∀ {l : List TV} {i : Nat}, lk t (o5 i l) = some v → i ≤ t ∧ l[t - i]? = some v
  | [], i, h => by simp [o5, lk] at h
  | x :: r, i, h => by
    rw [o5, bI] at h
    split at h
    · rename_i e; subst e; simp only [Option.some.injEq] at h; subst h; simp
    · obtain ⟨h1, h2⟩ := lV h
      refine ⟨by omega, ?_⟩
      rw [show t - i = t - (i + 1) + 1 by omega]; simpa using h2
def acL (w0 : World) (r : Nat → TV) : Ending → World → Prop := fun e w' => ∃ v, e = .returned v ∧ Below w0.heap.size w0 w' ∧ ∀ L, L ≤ w0.heap.size → Rep w' (eo w0.heap.size) (r L) v
theorem ao {P : Program} {G : World → Prop} {f : FuncId} {fn : Func} {c : Code} {args : List TV} {r : Nat → TV} {N : Nat} {env : Env} (hf : P.funcs[f]? = some fn) (hb : fn.body = some c) (hn : fn.ntmps = N) (hN : Nat.ble args.length N = true) (he : o5 0 args = env)
    (h : ∀ w0, 0 < w0.heap.size → G w0 → AW P w0 N c (bodyPost P fn (acL w0 r)) env []) : Ct P G f args r := fun w vs hpos hG hsz hrep => by
  have hN := Nat.le_of_ble_eq_true hN
  subst he
  refine calls_of_wp hf hb ((h w hpos hG).run _ w ⟨rfl, ?_, ⟨Below.refl _ _, hpos, by simp, .nil⟩, fun t v hv => ?_⟩)
  · simp [hn, hsz]; omega
  · obtain ⟨_, h2⟩ := lV hv
    rw [Nat.sub_zero] at h2
    have hlt : t < vs.size := by rw [hsz]; exact (List.getElem?_eq_some_iff.1 h2).1
    have : (vs ++ Array.replicate (fn.ntmps - vs.size) undef).getD t undef = vs[t] := by simp [Array.getElem?_append_left hlt, hlt]
    rw [this]
    exact hrep t v _ h2 (by simp [hlt])

inductive Fin (B : Nat) (objs : aI) (L : Nat) : TV → TV → Prop
  | int (k : IntKind) (n : Int) : Fin B objs L (.int k n) (.int k n)
  | bool (b : Bool) : Fin B objs L (.bool b) (.bool b)
  | str (s : ByteArray) : Fin B objs L (.str s) (.str s)
  | nilp : Fin B objs L .nilp .nilp
  | nils (m : Nat) : Fin B objs L .nils (.sl L m [])
  | sl (lo m : Nat) (rows rows' : List (List TV)) (hlo : B ≤ lo) (hl : rows'.map List.length = rows.map List.length) (h : ∀ (j : Nat) (t t' : TV), rows.flatten[j]? = some t → rows'.flatten[j]? = some t' → Fin B objs L t t') : Fin B objs L (.sl lo m rows) (.sl L m rows')
  | ms (s b off len m : Nat) (rows live rows' : List (List TV)) (hm : (s, b, bu.row m rows) ∈ objs) (hle : off + len ≤ rows.length) (hlive : (rows.drop off).take len = live) (hl : rows'.map List.length = live.map List.length)
      (h : ∀ (j : Nat) (t t' : TV), live.flatten[j]? = some t → rows'.flatten[j]? = some t' → Fin B objs L t t') : Fin B objs L (.ms s b off len) (.sl L m rows')
  | agg (l l' : List TV) (hl : l'.length = l.length) (h : ∀ (j : Nat) (t t' : TV), l[j]? = some t → l'[j]? = some t' → Fin B objs L t t') : Fin B objs L (.agg l) (.agg l')

section
variable {P : Program} {w0 : World} {N : Nat} {Q : Exit → Act → World → Prop} {env : Env} {objs objs' : aI} {o : Oper}

theorem Fin.cell {B L : Nat} {t t' : TV} (h : Fin B objs L t t') (hc : t.isCell = true) : t'.isCell = true := by
  cases h <;> first | rfl | cases hc
theorem lO {rows rows' : List (List TV)} (h : rows'.map List.length = rows.map List.length) : rows'.flatten.length = rows.flatten.length ∧ rows'.length = rows.length := by
  refine ⟨by rw [List.length_flatten, List.length_flatten, h], by simpa using congrArg List.length h⟩
theorem lL {m : Nat} {rows rows' : List (List TV)} (h : rows'.map List.length = rows.map List.length) (hm : ∀ r ∈ rows, r.length = m) : ∀ r ∈ rows', r.length = m := fun r hr => by
  have h1 : r.length ∈ rows'.map List.length := List.mem_map.2 ⟨r, hr, rfl⟩
  rw [h] at h1
  obtain ⟨r0, h2, h3⟩ := List.mem_map.1 h1
  rw [← h3]; exact hm r0 h2

theorem kB {w : World} (hw : du w0 objs w) {L : Nat} (hL : L ≤ w0.heap.size) {t t' : TV} {v : Value} (h : Fin w0.heap.size objs L t t') (hr : Rep w objs t v) : Rep w (eo w0.heap.size) t' v := by
  have hz : ∀ b, w0.heap.size ≤ b → ZZ (eo w0.heap.size) L b := fun b hb => ⟨Nat.le_trans hL hb, fun ha => by have := (rn.1 ha).2; omega⟩
  induction h generalizing v with
  | int k n => cases hr; exact .int k n
  | bool b => cases hr; exact .bool b
  | str s => cases hr; exact .str s
  | nilp => cases hr; exact .nilp
  | nils m => cases hr; exact .sl L m [] none 0 (Nat.le_refl _) (by simp) (by simp) (by simp) (fun _ => undef) (by simp) (by simp)
  | sl lo m rows rows' hlo hl h ih =>
    obtain ⟨A, c, rfl, g1, g2, g3, g4, g5⟩ := jD hr
    obtain ⟨e1, e2⟩ := lO hl
    have hget : ∀ (j : Nat) (t' : TV), rows'.flatten[j]? = some t' → ∃ t, rows.flatten[j]? = some t := fun j t' hj => by
      have : j < rows.flatten.length := by rw [← e1]; exact (List.getElem?_eq_some_iff.1 hj).1
      exact ⟨_, List.getElem?_eq_getElem this⟩
    have key : ∀ j, ∃ u, ∀ t', rows'.flatten[j]? = some t' → ∃ b q, A = some ⟨b, q, none⟩ ∧ ZZ (eo w0.heap.size) L b ∧ w.cell? ⟨b, q + j, none⟩ = some u ∧ Rep w (eo w0.heap.size) t' u := fun j => by
      cases hj : rows.flatten[j]? with
      | none => exact ⟨undef, fun t' ht => by obtain ⟨t, h1⟩ := hget j t' ht; rw [hj] at h1; cases h1⟩
      | some t =>
        obtain ⟨b, q, u, h1, h2, h3, h4⟩ := g5 j t hj
        exact ⟨u, fun t' ht => ⟨b, q, h1, hz b (Nat.le_trans hlo h2.1), h3, ih j t t' hj ht h4⟩⟩
    rw [← e2]
    refine .sl L m rows' A c (by omega) g2 (lL hl g3) (fun t' ht => ?_) (fun j => Classical.choose (key j)) (fun j t' hj => ?_) (fun j t' hj => ?_)
    · obtain ⟨j, hj, rfl⟩ := List.getElem_of_mem ht
      obtain ⟨t, h1⟩ := hget j _ (List.getElem?_eq_getElem hj)
      exact (h j t _ h1 (List.getElem?_eq_getElem hj)).cell (g4 t (List.mem_of_getElem? h1))
    · obtain ⟨b, q, h1, h2, h3, _⟩ := Classical.choose_spec (key j) t' hj
      exact ⟨b, q, h1, h2, h3⟩
    · obtain ⟨b, q, h1, h2, _, h4⟩ := Classical.choose_spec (key j) t' hj
      exact h4
  | ms s b off len m rows live rows' hm hle hlive hl h ih =>
    subst hlive
    obtain ⟨⟨hm0, hci⟩, hmm, hor⟩ := hw.obj s b _ hm
    obtain ⟨e1, e2⟩ := lO hl
    have hll : ((rows.drop off).take len).length = len := by simp; omega
    have hlm : ∀ r ∈ (rows.drop off).take len, r ∈ rows := fun r hr => List.mem_of_mem_drop (List.mem_of_mem_take hr)
    have hget : ∀ (j : Nat) (t' : TV), rows'.flatten[j]? = some t' → ∃ t, ((rows.drop off).take len).flatten[j]? = some t := fun j t' hj => by
      have : j < ((rows.drop off).take len).flatten.length := by rw [← e1]; exact (List.getElem?_eq_some_iff.1 hj).1
      exact ⟨_, List.getElem?_eq_getElem this⟩
    have hcell : ∀ t' ∈ rows'.flatten, t'.isCell = true := fun t' ht => by
      obtain ⟨j, hj, rfl⟩ := List.getElem_of_mem ht
      obtain ⟨t, h1⟩ := hget j _ (List.getElem?_eq_getElem hj)
      obtain ⟨r, hr, htr⟩ := List.mem_flatten.1 (List.mem_of_getElem? h1)
      exact (h j t _ h1 (List.getElem?_eq_getElem hj)).cell (hci t (List.mem_flatten.2 ⟨r, hlm r hr, htr⟩))
    rcases (rN hr).or m rows hm with ⟨_, _, hlen, rfl⟩ | ⟨hb0, q, c, e, k, rfl, hlc, hsh, hk, ho⟩
    · subst hlen
      have : rows' = [] := List.eq_nil_of_length_eq_zero (by rw [e2, hll])
      subst this
      exact .sl L m [] none 0 (Nat.le_refl _) (by simp) (by simp) (by simp) (fun _ => undef) (by simp) (by simp)
    · rcases hor with ⟨h0, _⟩ | ⟨hB, cur, e', cap, h3, h4, h5, h6, h7⟩
      · exact absurd h0 hb0
      have hcm : c ≤ maxLen := by
        have h8 : w.shape? b = some (e', cur.size) := by unfold World.shape?; rw [h3]
        rw [h8] at hsh
        simp only [Option.some.injEq, Prod.mk.injEq] at hsh
        have h9 : cap * m = (off + c) * m := by omega
        have := Nat.eq_of_mul_eq_mul_right hm0 h9
        omega
      have key : ∀ j, ∃ u, ∀ t', rows'.flatten[j]? = some t' → w.cell? ⟨b, q + j, none⟩ = some u ∧ Rep w (eo w0.heap.size) t' u := fun j => by
        cases hj : ((rows.drop off).take len).flatten[j]? with
        | none => exact ⟨undef, fun t' ht => by obtain ⟨t, h1⟩ := hget j t' ht; rw [hj] at h1; cases h1⟩
        | some t =>
          have hlpos : 0 < len := by
            rcases Nat.eq_zero_or_pos len with h | h
            · subst h; simp at hj
            · exact h
          have hq := ho (.inl (by omega))
          have hj2 := hj
          rw [dS (fun r hr => hmm r (List.mem_of_mem_drop hr)), fC hmm, List.getElem?_take] at hj2
          split at hj2
          · rw [List.getElem?_drop] at hj2
            obtain ⟨u, p1, p2⟩ := h7 _ t hj2
            exact ⟨u, fun t' ht => ⟨by rw [cell_of_row w b _ cur e' (0, 0) h3, hq]; exact p1, ih j t t' hj ht p2⟩⟩
          · cases hj2
      have hlen' : rows'.length = len := by rw [e2, hll]
      have hres := Rep.sl (w := w) (objs := eo w0.heap.size) L m rows' (some ⟨b, q, none⟩) c (by omega) hcm (lL hl fun r hr => hmm r (hlm r hr)) hcell (fun j => Classical.choose (key j))
        (fun j t' hj => ⟨b, q, rfl, hz b hB, (Classical.choose_spec (key j) t' hj).1⟩) (fun j t' hj => (Classical.choose_spec (key j) t' hj).2)
      rw [hlen'] at hres
      exact hres
  | agg l l' hl h ih =>
    cases hr with
    | agg l vs hi h1 h2 =>
      refine .agg l' vs (fun t' ht => ?_) (by omega) (fun i t' v ht hv => ?_)
      · obtain ⟨j, hj, rfl⟩ := List.getElem_of_mem ht
        exact (h j l[j] _ (List.getElem?_eq_getElem (by omega)) (List.getElem?_eq_getElem hj)).cell (hi _ (List.getElem_mem _))
      · have hil : i < l.length := by rw [← hl]; exact (List.getElem?_eq_some_iff.1 ht).1
        exact ih i l[i] t' (List.getElem?_eq_getElem hil) ht (h2 i _ v (List.getElem?_eq_getElem hil) hv)

def TV.flat : TV → Bool
  | .int _ _ | .bool _ | .str _ | .nilp => true
  | _ => false
theorem Fin.flat {B L : Nat} {t : TV} (h : t.flat = true) : Fin B objs L t t := by
  cases t <;> first | (cases h; done) | constructor
theorem Fin.slFlat {B L lo m : Nat} {rows : List (List TV)} (hlo : B ≤ lo) (h : ∀ t ∈ rows.flatten, t.flat = true) : Fin B objs L (.sl lo m rows) (.sl L m rows) :=
  .sl lo m rows rows hlo rfl fun j t t' h1 h2 => by rw [h1] at h2; cases h2; exact .flat (h t (List.mem_of_getElem? h1))
theorem Fin.msFlat {B L s b off len m : Nat} {rows live : List (List TV)} (hm : (s, b, bu.row m rows) ∈ objs) (hle : off + len ≤ rows.length) (hlive : (rows.drop off).take len = live) (h : ∀ t ∈ live.flatten, t.flat = true) : Fin B objs L (.ms s b off len) (.sl L m live) :=
  .ms s b off len m rows live live hm hle hlive rfl fun j t t' h1 h2 => by rw [h1] at h2; cases h2; exact .flat (h t (List.mem_of_getElem? h1))

/- What the results are. -/
inductive RV (P : Program) (env : Env) (objs : aI) : ResultVar → TV → Prop
  | tmp (t : Nat) (tv : TV) (h : lk t env = some tv) : RV P env objs (.tmp t) tv
  | cell (a T s b : Nat) (cells : List TV) (h : lk a env = some (.mp s b 0)) (hm : (s, b, bu.box cells) ∈ objs) (hT : iY P T = true) (hi : (P.info? T).isSome = true) (hs : P.cellsOf T = cells.length) : RV P env objs (.cell a T) (.agg cells)
  | cell1 (a T s b : Nat) (c : TV) (h : lk a env = some (.mp s b 0)) (hm : (s, b, bu.box [c]) ∈ objs) (hT : gY P T = true) : RV P env objs (.cell a T) c
def rT (tmps : Array Value) : ResultVar → Sem Value
  | .tmp t => pure (tmps.getD t undef)
  | .cell a t => do loadVar t (← asAddr (tmps.getD a undef))
theorem jQ {a : Act} {w : World} (hs : Sim w0 N env objs a w) {r : ResultVar} {tv : TV} (h : RV P env objs r tv) : ∃ v, (rT a.tmps r).run P w = .ok v w ∧ Rep w objs tv v := by
  cases h with
  | tmp t tv h => exact ⟨_, rfl, hs.env t _ h⟩
  | cell x T s b cells h hm hT hi hsz =>
    have h0 := hs.env x _ h
    obtain ⟨⟨_, hci⟩, cur, e, h2, h3, h4⟩ := hs.mem.obj s b _ hm
    generalize hv : a.tmps.getD x undef = v at h0
    cases h0 with
    | mp s b q hb =>
      cases hie : P.info? T with
      | none => rw [hie] at hi; cases hi
      | some i =>
      refine ⟨.agg cur, ?_, .agg cells cur hci h3.symm (fun j t v ht hv => by obtain ⟨u, h5, h6⟩ := h4 j t ht; rw [h5] at hv; cases hv; exact h6)⟩
      simp only [rT, hv, asAddr, Sem.run_bind, Sem.run_pure, Result.andThen_ok, loadVar, ma hT, if_true, run_sizeOf w hie, hsz]
      have hl := run_loadCells_list (P := P) w ⟨b, 0, none⟩ cur.toList (fun j v hj => by rw [Addr.add_lit, Nat.zero_add, cell_of_row w b j cur e (0, 0) h2]; simpa using hj)
      rw [Array.length_toList, h3] at hl
      rw [hl]; simp [Result.andThen_ok]
  | cell1 x T s b c h hm hT =>
    have h0 := hs.env x _ h
    obtain ⟨⟨_, hci⟩, cur, e, h2, h3, h4⟩ := hs.mem.obj s b _ hm
    generalize hv : a.tmps.getD x undef = v at h0
    cases h0 with
    | mp s b q hb =>
      obtain ⟨u, h5, h6⟩ := h4 0 tv rfl
      refine ⟨u, ?_, h6⟩
      simp only [rT, hv, asAddr, Sem.run_bind, Sem.run_pure, Result.andThen_ok, loadVar, gn hT]
      show Sem.run P (load ⟨b, 0, none⟩) w = _
      rw [run_load, cell_of_row w b 0 cur e (0, 0) h2, h5]

theorem tS {fn : Func} {r : Nat → TV} {x : Exit} (hx : x = .normal ∨ x = .ret) {a : Act} {w : World} (hs : Sim w0 N env objs a w) {v : Value} (hr : (results fn a.tmps).run P w = .ok v w) (hv : ∀ L, L ≤ w0.heap.size → Rep w (eo w0.heap.size) (r L) v) : bodyPost P fn (acL w0 r) x a w := by
  rcases hx with rfl | rfl
  · exact ⟨hs.defers, v, hr, v, rfl, hs.mem.below, hv⟩
  · exact ⟨hs.defers, v, hr, v, rfl, hs.mem.below, hv⟩
theorem aB {fn : Func} {r1 : ResultVar} {t1 : TV} {r : Nat → TV} {x : Exit} (hx : x = .normal ∨ x = .ret) (hres : fn.results = #[r1]) (h1 : RV P env objs r1 t1) (hf : ∀ L, Fin w0.heap.size objs L t1 (r L)) : AQ w0 N (bodyPost P fn (acL w0 r)) x env objs := ⟨fun a w hs => by
  obtain ⟨v1, e1, g1⟩ := jQ hs h1
  refine tS hx hs (v := v1) ?_ (fun L hL => kB hs.mem hL (hf L) g1)
  have : results fn a.tmps = (#[r1].mapM (rT a.tmps)) >>= fun vs => pure (if h : vs.size = 1 then vs[0] else .tuple vs) := by rw [← hres]; rfl
  rw [this]
  simp [e1]⟩
theorem uP {w : World} {objs : aI} {t1 t2 : TV} {v1 v2 : Value} (h1 : Rep w objs t1 v1) (h2 : Rep w objs t2 v2) : Rep w objs (.tup [t1, t2]) (.tuple #[v1, v2]) :=
  .tup _ _ rfl fun i t v ht hv => by
    match i with
    | 0 => simp at ht hv; subst ht; subst hv; exact h1
    | 1 => simp at ht hv; subst ht; subst hv; exact h2
    | i + 2 => simp at ht
theorem zy {w : World} {objs : aI} {t1 t2 t3 : TV} {v1 v2 v3 : Value} (h1 : Rep w objs t1 v1) (h2 : Rep w objs t2 v2) (h3 : Rep w objs t3 v3) : Rep w objs (.tup [t1, t2, t3]) (.tuple #[v1, v2, v3]) :=
  .tup _ _ rfl fun i t v ht hv => by
    match i with
    | 0 => simp at ht hv; subst ht; subst hv; exact h1
    | 1 => simp at ht hv; subst ht; subst hv; exact h2
    | 2 => simp at ht hv; subst ht; subst hv; exact h3
    | i + 3 => simp at ht
theorem d9 {fn : Func} {r1 r2 : ResultVar} {t1 t2 : TV} {s1 s2 : Nat → TV} {x : Exit} (hx : x = .normal ∨ x = .ret) (hres : fn.results = #[r1, r2]) (h1 : RV P env objs r1 t1) (h2 : RV P env objs r2 t2) (hf1 : ∀ L, Fin w0.heap.size objs L t1 (s1 L)) (hf2 : ∀ L, Fin w0.heap.size objs L t2 (s2 L)) :
    AQ w0 N (bodyPost P fn (acL w0 fun L => .tup [s1 L, s2 L])) x env objs := ⟨fun a w hs => by
  obtain ⟨v1, e1, g1⟩ := jQ hs h1
  obtain ⟨v2, e2, g2⟩ := jQ hs h2
  refine tS hx hs (v := .tuple #[v1, v2]) ?_ (fun L hL => uP (kB hs.mem hL (hf1 L) g1) (kB hs.mem hL (hf2 L) g2))
  have : results fn a.tmps = (#[r1, r2].mapM (rT a.tmps)) >>= fun vs => pure (if h : vs.size = 1 then vs[0] else .tuple vs) := by rw [← hres]; rfl
  rw [this]
  simp [Sem.run_bind, e1, e2]⟩
theorem xT {fn : Func} {r1 r2 r3 : ResultVar} {t1 t2 t3 : TV} {s1 s2 s3 : Nat → TV} {x : Exit} (hx : x = .normal ∨ x = .ret) (hres : fn.results = #[r1, r2, r3]) (h1 : RV P env objs r1 t1) (h2 : RV P env objs r2 t2) (h3 : RV P env objs r3 t3)
    (hf1 : ∀ L, Fin w0.heap.size objs L t1 (s1 L)) (hf2 : ∀ L, Fin w0.heap.size objs L t2 (s2 L)) (hf3 : ∀ L, Fin w0.heap.size objs L t3 (s3 L)) : AQ w0 N (bodyPost P fn (acL w0 fun L => .tup [s1 L, s2 L, s3 L])) x env objs := ⟨fun a w hs => by
  obtain ⟨v1, e1, g1⟩ := jQ hs h1
  obtain ⟨v2, e2, g2⟩ := jQ hs h2
  obtain ⟨v3, e3, g3⟩ := jQ hs h3
  refine tS hx hs (v := .tuple #[v1, v2, v3]) ?_ (fun L hL => zy (kB hs.mem hL (hf1 L) g1) (kB hs.mem hL (hf2 L) g2) (kB hs.mem hL (hf3 L) g3))
  have : results fn a.tmps = (#[r1, r2, r3].mapM (rT a.tmps)) >>= fun vs => pure (if h : vs.size = 1 then vs[0] else .tuple vs) := by rw [← hres]; rfl
  rw [this]
  simp [Sem.run_bind, e1, e2, e3]⟩

/- Calls. -/
inductive ci (objs : aI) : TV → TV → Prop
  | same (t : TV) : ci objs t t
  | ms (s b off len m : Nat) (rows live rows' : List (List TV)) (hm : (s, b, bu.row m rows) ∈ objs) (hle : off + len ≤ rows.length) (hlive : (rows.drop off).take len = live) (hl : rows'.map List.length = live.map List.length)
      (h : ∀ (j : Nat) (t t' : TV), live.flatten[j]? = some t → rows'.flatten[j]? = some t' → ci objs t t') : ci objs (.ms s b off len) (.sl 0 m rows')
  | mp (s b off : Nat) (cells l' : List TV) (hm : (s, b, bu.box cells) ∈ objs) (hl : l'.length = (cells.drop off).length) (h : ∀ (j : Nat) (t t' : TV), (cells.drop off)[j]? = some t → l'[j]? = some t' → ci objs t t') : ci objs (.mp s b off) (.cp 0 l')
  | me (s b m k j : Nat) (rows : List (List TV)) (r l' : List TV) (hm : (s, b, bu.row m rows) ∈ objs) (hr : rows[k]? = some r) (hl : l'.length = (r.drop j).length) (h : ∀ (i : Nat) (t t' : TV), (r.drop j)[i]? = some t → l'[i]? = some t' → ci objs t t') : ci objs (.me s b m k j) (.cp 0 l')
  | nils (m : Nat) : ci objs .nils (.sl 0 m [])
  | agg (l l' : List TV) (hl : l'.length = l.length) (h : ∀ (j : Nat) (t t' : TV), l[j]? = some t → l'[j]? = some t' → ci objs t t') : ci objs (.agg l) (.agg l')
  | sl (f m : Nat) (rows rows' : List (List TV)) (hl : rows'.map List.length = rows.map List.length) (h : ∀ (j : Nat) (t t' : TV), rows.flatten[j]? = some t → rows'.flatten[j]? = some t' → ci objs t t') : ci objs (.sl f m rows) (.sl 0 m rows')
  | cp0 (f : Nat) (l : List TV) : ci objs (.cp f l) (.cp 0 l)
  | cut (t : TV) (l l' : List TV) (h : ci objs t (.cp 0 l)) (hp : l.take l'.length = l') : ci objs t (.cp 0 l')
theorem ci.msSame {s b off len m : Nat} {rows live : List (List TV)} (hm : (s, b, bu.row m rows) ∈ objs) (hle : off + len ≤ rows.length) (hlive : (rows.drop off).take len = live) : ci objs (.ms s b off len) (.sl 0 m live) :=
  .ms s b off len m rows live live hm hle hlive rfl fun j t t' h1 h2 => by rw [h1] at h2; cases h2; exact .same t
theorem ci.mpSame {s b off : Nat} {cells : List TV} (hm : (s, b, bu.box cells) ∈ objs) : ci objs (.mp s b off) (.cp 0 (cells.drop off)) :=
  .mp s b off cells _ hm rfl fun j t t' h1 h2 => by rw [h1] at h2; cases h2; exact .same t
theorem ci.cell {t t' : TV} (h : ci objs t t') (hc : t.isCell = true) : t'.isCell = true := by
  cases h <;> first | exact hc | rfl | cases hc
theorem dq {α : Type} {l l' : List α} (h : l'.length = l.length) {j : Nat} {t' : α} (hj : l'[j]? = some t') : ∃ t, l[j]? = some t :=
  ⟨_, List.getElem?_eq_getElem (by rw [← h]; exact (List.getElem?_eq_some_iff.1 hj).1)⟩
theorem r5 (b : Nat) : ZZ [] 0 b := ⟨Nat.zero_le _, fun ha => by obtain ⟨_, s, o, hm⟩ := ha; simp at hm⟩
theorem yT {w : World} (hw : du w0 objs w) {tv : TV} {l l' : List TV} {v : Value} (hp : rC w objs tv l) (hr : Rep w objs tv v) (hb : ∀ b q, v = .pointer (some ⟨b, q, none⟩) → b < w.heap.size) (hl : l'.length = l.length)
    (hc : ∀ (j : Nat) (t t' : TV), l[j]? = some t → l'[j]? = some t' → t.isCell = true → t'.isCell = true) (h : ∀ (j : Nat) (t t' : TV) (u : Value), l[j]? = some t → l'[j]? = some t' → Rep w objs t u → Rep w [] t' u) : Rep w [] (.cp 0 l') v := by
  obtain ⟨b, q, rfl, h1, h2⟩ := gq hw hp hr
  have key : ∀ j, ∃ u, ∀ t', l'[j]? = some t' → w.cell? ⟨b, q + j, none⟩ = some u ∧ Rep w [] t' u := fun j => by
    cases hj : l[j]? with
    | none => exact ⟨undef, fun t' ht => by obtain ⟨t, h3⟩ := dq hl ht; rw [hj] at h3; cases h3⟩
    | some t => obtain ⟨u, h3, h4⟩ := h2 j t hj; exact ⟨u, fun t' ht => ⟨h3, h j t t' u hj ht h4⟩⟩
  refine .cp 0 l' (fun t' ht => ?_) b q (fun j => Classical.choose (key j)) (r5 b) (hb b q rfl) (fun j t hj => (Classical.choose_spec (key j) t hj).1) (fun j t hj => (Classical.choose_spec (key j) t hj).2)
  obtain ⟨j, hj, rfl⟩ := List.getElem_of_mem ht
  obtain ⟨t, h3⟩ := dq hl (List.getElem?_eq_getElem hj)
  exact hc j t _ h3 (List.getElem?_eq_getElem hj) (h1 t (List.mem_of_getElem? h3))
theorem abn {w : World} {f : Nat} {l : List TV} {v : Value} (h : Rep w [] (.cp f l) v) : Rep w [] (.cp 0 l) v := by
  cases h with
  | cp f l hi b o g hZ hb hc hr => exact .cp 0 l hi b o g (r5 b) hb hc hr
theorem abB {w : World} {l l' : List TV} {v : Value} (hp : l.take l'.length = l') (h : Rep w [] (.cp 0 l) v) : Rep w [] (.cp 0 l') v := by
  have hget : ∀ (j : Nat) (t : TV), l'[j]? = some t → l[j]? = some t := fun j t hj => by
    rw [← hp, List.getElem?_take] at hj
    split at hj
    · exact hj
    · cases hj
  cases h with
  | cp f l hi b o g hZ hb hc hr => exact .cp 0 l' (fun t ht => hi t (by rw [← hp] at ht; exact List.mem_of_mem_take ht)) b o g hZ hb (fun j t hj => hc j t (hget j t hj)) (fun j t hj => hr j t (hget j t hj))
theorem ve {w : World} (hw : du w0 objs w) {t t' : TV} {v : Value} (h : ci objs t t') (hr : Rep w objs t v) : Rep w [] t' v := by
  induction h generalizing v with
  | same t => exact hr.bare
  | cp0 f l => exact abn hr.bare
  | cut t l l' h hp ih => exact abB hp (ih hr)
  | nils m => cases hr; exact .sl 0 m [] none 0 (Nat.le_refl _) (by simp) (by simp) (by simp) (fun _ => undef) (by simp) (by simp)
  | mp s b off cells l' hm hl h ih =>
    refine yT hw (.mp s b off cells hm) hr (fun b' q hv => ?_) hl (fun j t t' h1 h2 h3 => (h j t t' h1 h2).cell h3) (fun j t t' u h1 h2 h3 => ih j t t' h1 h2 h3)
    subst hv
    cases hr with
    | mp s b off h => exact h.1
  | me s b m k j rows r l' hm hk hl h ih =>
    refine yT hw (.me s b m k j rows r hm hk) hr (fun b' q hv => ?_) hl (fun j t t' h1 h2 h3 => (h j t t' h1 h2).cell h3) (fun j t t' u h1 h2 h3 => ih j t t' h1 h2 h3)
    subst hv
    cases hr with
    | me s b m k j h => exact h.1
  | agg l l' hl h ih =>
    cases hr with
    | agg l vs hi h1 h2 =>
      refine .agg l' vs (fun t' ht => ?_) (by omega) (fun i t' v ht hv => ?_)
      · obtain ⟨j, hj, rfl⟩ := List.getElem_of_mem ht
        obtain ⟨t, h3⟩ := dq hl (List.getElem?_eq_getElem hj)
        exact (h j t _ h3 (List.getElem?_eq_getElem hj)).cell (hi t (List.mem_of_getElem? h3))
      · obtain ⟨t, h3⟩ := dq hl ht
        exact ih i t t' h3 ht (h2 i t v h3 hv)
  | sl f m rows rows' hl h ih =>
    obtain ⟨A, c, rfl, g1, g2, g3, g4, g5⟩ := jD hr
    obtain ⟨e1, e2⟩ := lO hl
    have key : ∀ j, ∃ u, ∀ t', rows'.flatten[j]? = some t' → ∃ b q, A = some ⟨b, q, none⟩ ∧ w.cell? ⟨b, q + j, none⟩ = some u ∧ Rep w [] t' u := fun j => by
      cases hj : rows.flatten[j]? with
      | none => exact ⟨undef, fun t' ht => by obtain ⟨t, h1⟩ := dq e1 ht; rw [hj] at h1; cases h1⟩
      | some t =>
        obtain ⟨b, q, u, h1, h2, h3, h4⟩ := g5 j t hj
        exact ⟨u, fun t' ht => ⟨b, q, h1, h3, ih j t t' hj ht h4⟩⟩
    rw [← e2]
    refine .sl 0 m rows' A c (by omega) g2 (lL hl g3) (fun t' ht => ?_) (fun j => Classical.choose (key j)) (fun j t' hj => ?_) (fun j t' hj => ?_)
    · obtain ⟨j, hj, rfl⟩ := List.getElem_of_mem ht
      obtain ⟨t, h1⟩ := dq e1 (List.getElem?_eq_getElem hj)
      exact (h j t _ h1 (List.getElem?_eq_getElem hj)).cell (g4 t (List.mem_of_getElem? h1))
    · obtain ⟨b, q, h1, h3, _⟩ := Classical.choose_spec (key j) t' hj
      exact ⟨b, q, h1, r5 b, h3⟩
    · obtain ⟨b, q, h1, _, h4⟩ := Classical.choose_spec (key j) t' hj
      exact h4
  | ms s b off len m rows live rows' hm hle hlive hl h ih =>
    subst hlive
    obtain ⟨⟨hm0, hci⟩, hmm, hor⟩ := hw.obj s b _ hm
    obtain ⟨e1, e2⟩ := lO hl
    have hll : ((rows.drop off).take len).length = len := by simp; omega
    have hlm : ∀ r ∈ (rows.drop off).take len, r ∈ rows := fun r hr => List.mem_of_mem_drop (List.mem_of_mem_take hr)
    have hcell : ∀ t' ∈ rows'.flatten, t'.isCell = true := fun t' ht => by
      obtain ⟨j, hj, rfl⟩ := List.getElem_of_mem ht
      obtain ⟨t, h1⟩ := dq e1 (List.getElem?_eq_getElem hj)
      obtain ⟨r, hr, htr⟩ := List.mem_flatten.1 (List.mem_of_getElem? h1)
      exact (h j t _ h1 (List.getElem?_eq_getElem hj)).cell (hci t (List.mem_flatten.2 ⟨r, hlm r hr, htr⟩))
    have hlen' : rows'.length = len := by rw [e2, hll]
    rcases (rN hr).or m rows hm with ⟨_, _, hlen, rfl⟩ | ⟨hb0, q, c, e, k, rfl, hlc, hsh, hk, ho⟩
    · subst hlen
      have : rows' = [] := List.eq_nil_of_length_eq_zero hlen'
      subst this
      exact .sl 0 m [] none 0 (Nat.le_refl _) (by simp) (by simp) (by simp) (fun _ => undef) (by simp) (by simp)
    · rcases hor with ⟨h0, _⟩ | ⟨hB, cur, e', cap, h3, h4, h5, h6, h7⟩
      · exact absurd h0 hb0
      have hcm : c ≤ maxLen := by
        have h8 : w.shape? b = some (e', cur.size) := by unfold World.shape?; rw [h3]
        rw [h8] at hsh
        simp only [Option.some.injEq, Prod.mk.injEq] at hsh
        have h9 : cap * m = (off + c) * m := by omega
        have := Nat.eq_of_mul_eq_mul_right hm0 h9
        omega
      have key : ∀ j, ∃ u, ∀ t', rows'.flatten[j]? = some t' → w.cell? ⟨b, q + j, none⟩ = some u ∧ Rep w [] t' u := fun j => by
        cases hj : ((rows.drop off).take len).flatten[j]? with
        | none => exact ⟨undef, fun t' ht => by obtain ⟨t, h1⟩ := dq e1 ht; rw [hj] at h1; cases h1⟩
        | some t =>
          have hlpos : 0 < len := by
            rcases Nat.eq_zero_or_pos len with h | h
            · subst h; simp at hj
            · exact h
          have hq := ho (.inl (by omega))
          have hj2 := hj
          rw [dS (fun r hr => hmm r (List.mem_of_mem_drop hr)), fC hmm, List.getElem?_take] at hj2
          split at hj2
          · rw [List.getElem?_drop] at hj2
            obtain ⟨u, p1, p2⟩ := h7 _ t hj2
            exact ⟨u, fun t' ht => ⟨by rw [cell_of_row w b _ cur e' (0, 0) h3, hq]; exact p1, ih j t t' hj ht p2⟩⟩
          · cases hj2
      have hres := Rep.sl (w := w) (objs := []) 0 m rows' (some ⟨b, q, none⟩) c (by omega) hcm (lL hl fun r hr => hmm r (hlm r hr)) hcell (fun j => Classical.choose (key j))
        (fun j t hj => ⟨b, q, rfl, r5 b, (Classical.choose_spec (key j) t hj).1⟩) (fun j t hj => (Classical.choose_spec (key j) t hj).2)
      rw [hlen'] at hres
      exact hres

inductive cf (env : Env) (objs : aI) : List Operand → List TV → Prop
  | nil : cf env objs [] []
  | cons (x : Operand) (xs : List Operand) (t t' : TV) (ts : List TV) (h : ev env x = some t) (hv : ci objs t t') (hr : cf env objs xs ts) : cf env objs (x :: xs) (t' :: ts)
theorem lK {w : World} (hw : du w0 objs w) {a : Act} {xs : List Operand} {ts : List TV} (h : cf env objs xs ts) (hop : ∀ x ∈ xs, ∀ v, ev env x = some v → Rep w objs v (a.eval x)) : (xs.map a.eval).length = ts.length ∧ ∀ (i : Nat) (t : TV) (v : Value), ts[i]? = some t → (xs.map a.eval)[i]? = some v → Rep w [] t v := by
  induction h with
  | nil => simp
  | cons x xs t t' ts h hv hr ih =>
    obtain ⟨h1, h2⟩ := ih (fun y hy => hop y (by simp [hy]))
    refine ⟨by simpa using h1, fun i u v hu hv' => ?_⟩
    cases i with
    | zero => simp at hu hv'; subst hu; subst hv'; exact ve hw hv (hop x (by simp) t h)
    | succ i => exact h2 i u v (by simpa using hu) (by simpa using hv')
def fW (P : Program) (f : Nat) : Bool := match P.funcs[f]? with
  | some fn => fn.name != "runtime.NumGoroutine" && fn.body.isSome
  | none => false
theorem kR {f : Nat} (h : fW P f = true) (args : Array Value) (w : World) : (callFunc f args).run P w = .ok (.enter f args) w := by
  unfold fW at h
  split at h
  · rename_i fn hf
    simp only [Bool.and_eq_true, bne_iff_ne, ne_eq] at h
    obtain ⟨h1, h2⟩ := h
    have h3 : fn.body.isNone = false := by cases hb : fn.body <;> simp_all
    simp [callFunc, Sem.run_bind, run_program, hf, h1, Sem.run_pure]
    intro hn; rw [hn] at h2; cases h2
  · cases h
theorem jV {f : Nat} {xs : List Operand} {ts : Array TypeId} (ho : o.op = .call { callee := .value (.func f), args := xs.toArray, argTypes := ts }) (hc : fW P f = true) (a : Act) (w : World) : (execOp a.eval o).run P w = .ok (.enter f (xs.map a.eval).toArray) w := by
  simp only [execOp, ho, resolve, Sem.run_bind, Sem.run_pure, Result.andThen_ok, Deferred.ofValue, Act.eval, invoke]
  simp [kR hc, List.map_toArray]
theorem vH {G : World → Prop} {f : Nat} {xs : List Operand} {ts : Array TypeId} {args : List TV} {r : Nat → TV} (ho : o.op = .call { callee := .value (.func f), args := xs.toArray, argTypes := ts }) (hc : fW P f = true) (hargs : cf env objs xs args) (hct : Ct P G f args r) (hG : G w0) (hst : az G) :
    aS P w0 env objs o (r w0.heap.size) := fun a w K Q hw hop hK => by
  obtain ⟨h1, h2⟩ := lK hw (a := a) hargs (fun x hx v hv => hop x (by simp [ho, Op.operands, Call.operands, hx]) v hv)
  unfold Oper.wp
  rw [jV ho hc]
  refine (hct w (xs.map a.eval).toArray (Nat.lt_of_lt_of_le hw.pos hw.below.size) (hst.below _ _ hG hw.below) (by simpa using h1) (fun i t v ht hv => h2 i t v ht (by simpa using hv))).mono ?_
  rintro e w' ⟨v, rfl, hb, hr⟩
  have hk : ∀ b, b < w.heap.size → w'.heap[b]? = w.heap[b]? := fun b hlt => hb.block b hlt
  have hbel : Below w0.heap.size w0 w' := hw.below.trans (hb.mono hw.below.size)
  exact hK v w' (Rep.ofOld (fun b ha => by obtain ⟨_, s, ob, hm⟩ := ha; exact da hw hm) (hr _ hw.below.size)) (hw.grow hbel hb.size hk) (jP objs hb.size hk)
end

theorem xh {B : Nat} {objs : aI} {L : Nat} {k : IntKind} {m n : Int} (h : m = n) : Fin B objs L (.int k m) (.int k n) := h ▸ .int k m
theorem aJ {B : Nat} {objs : aI} {L : Nat} {m n : Bool} (h : m = n) : Fin B objs L (.bool m) (.bool n) := h ▸ .bool m
theorem fw {t : Nat} {env : Env} {k : IntKind} {m n : Int} (h : lk t env = some (.int k m)) (e : m = n) : lk t env = some (.int k n) := e ▸ h
theorem i8 {t : Nat} {env : Env} {m n : Bool} (h : lk t env = some (.bool m)) (e : m = n) : lk t env = some (.bool n) := e ▸ h
theorem acz {t : Nat} {env : Env} {m n : ByteArray} (h : lk t env = some (.str m)) (e : m = n) : lk t env = some (.str n) := e ▸ h
theorem abm {w : World} {t : TV} {vs : Array Value} (hs : vs.size = [t].length) (h : ∀ (i : Nat) (u : TV) (v : Value), [t][i]? = some u → vs[i]? = some v → Rep w [] u v) : ∃ v, vs = #[v] ∧ Rep w [] t v := by
  match vs, hs with
  | ⟨[v]⟩, _ => exact ⟨v, rfl, h 0 t v rfl rfl⟩
theorem wO {P : Program} {G : World → Prop} {f : FuncId} {k : IntKind} {n : Int} {s : ByteArray} (h : ∀ w, G w → Calls P f #[.int k n] w fun e w' => e = .returned (.string s) ∧ Below w.heap.size w w') : Ct P G f [.int k n] (fun _ => .str s) := fun w vs _ hG hs hr => by
  obtain ⟨v, rfl, h1⟩ := abm hs hr
  rw [h1.int_inv]
  refine (h w hG).mono ?_
  rintro e w' ⟨rfl, hb⟩
  exact ⟨_, rfl, hb, fun _ _ => .str _⟩
theorem gy {P : Program} {G : World → Prop} {f : FuncId} {s : ByteArray} {b : Bool} (h : ∀ w, G w → Calls P f #[.string s] w fun e w' => e = .returned (.bool b) ∧ Below w.heap.size w w') : Ct P G f [.str s] (fun _ => .bool b) := fun w vs _ hG hs hr => by
  obtain ⟨v, rfl, h1⟩ := abm hs hr
  rw [h1.str_inv]
  refine (h w hG).mono ?_
  rintro e w' ⟨rfl, hb⟩
  exact ⟨_, rfl, hb, fun _ _ => .bool _⟩
theorem aH {α : Type} {f : α → List TV} {l : List α} {k : Nat} (h : k < l.length) : (l.map f)[k]? = some (f (l[k]'h)) := by rw [List.getElem?_map, List.getElem?_eq_getElem h]; rfl
theorem mh {x : Nat × Nat × bu} {l : aI} : x ∈ x :: l := List.mem_cons_self
theorem mt {x y : Nat × Nat × bu} {l : aI} (h : x ∈ l) : x ∈ y :: l := List.mem_cons_of_mem _ h
theorem fi {rows : List (List TV)} {r : List TV} {k : Nat} (h : k < rows.length) : (rows.set k r)[k]? = some r := List.getElem?_set_self h
theorem mC : (0 : Int) = ((0 : Nat) : Int) := rfl
theorem nw : (1 : Int) = ((1 : Nat) : Int) := rfl
theorem mr : (2 : Int) = ((2 : Nat) : Int) := rfl
theorem mF : (3 : Int) = ((3 : Nat) : Int) := rfl
theorem aa7 {a b : Nat} (h : a + b ≤ 9223372036854775807) : IntKind.i64.wrap ((a : Int) + (b : Int)) = ((a + b : Nat) : Int) := by rw [IntWalk.i64_in _ (by omega)]; simp
theorem aaR {a : Nat} (h : a + 1 ≤ 9223372036854775807) : IntKind.i64.wrap ((a : Int) + 1) = ((a + 1 : Nat) : Int) := by rw [IntWalk.i64_in _ (by omega)]; simp
theorem aa6 {a : Nat} (h : a + 2 ≤ 9223372036854775807) : IntKind.i64.wrap ((a : Int) + 2) = ((a + 2 : Nat) : Int) := by rw [IntWalk.i64_in _ (by omega)]; simp
theorem rJ {a : Nat} (h : 1 ≤ a ∧ a ≤ 9223372036854775807) : IntKind.i64.wrap ((a : Int) - 1) = ((a - 1 : Nat) : Int) := by rw [IntWalk.i64_in _ (by omega)]; omega
theorem aaM (n : Int) (h : 0 ≤ n ∧ n ≤ 255) : IntKind.u8.wrap n = n := by
  simp [IntKind.wrap, IntKind.bits, IntKind.signed]
  omega
end Go.Proofs.YtiihihgjiklnoaaGreatDoor
