/- Part 11 of the proof: the texts EngG. -/
import Derived.Test.YtiihihgjiklnoaaGreatDoorPart10
/- The abstract walk, part 7: contracts, calls, what is given back. -/
namespace Go.Proofs.YtiihihgjiklnoaaGreatDoor
open Go Go.RowKit

/-- As if the call owned all that was there before it: what stands for itself so lies in new memory alone. -/
def oldObjs (n : Nat) : Objs := marker :: (List.range n).map fun b => (0, b, TObj.box [])
theorem alive_old {n b : Nat} : alive (oldObjs n) b ↔ b ≠ 0 ∧ b < n := by
  constructor
  · rintro ⟨h0, s, o, hm⟩
    refine ⟨h0, ?_⟩
    rcases List.mem_cons.1 hm with he | hm
    · simp only [marker, Prod.mk.injEq] at he; omega
    · obtain ⟨b', hb, he⟩ := List.mem_map.1 hm
      simp only [Prod.mk.injEq] at he
      have := List.mem_range.1 hb
      omega
  · rintro ⟨h0, hlt⟩
    exact ⟨h0, 0, .box [], List.mem_cons_of_mem _ (List.mem_map.2 ⟨b, List.mem_range.2 hlt, rfl⟩)⟩
theorem Rep.ofOld {w : World} {objs : Objs} {n : Nat} (hal : ∀ b, alive objs b → b < n) {t : TV} {v : Value} (h : Rep w (oldObjs n) t v) : Rep w objs t v := by
  have hz : ∀ lo b, ZZ (oldObjs n) lo b → ZZ objs lo b := fun lo b hz => ⟨hz.1, fun ha => hz.2 (alive_old.2 ⟨ha.1, hal b ha⟩)⟩
  have hmk : marker ∈ oldObjs n := List.mem_cons_self
  induction h with
  | int k n => exact .int k n
  | bool b => exact .bool b
  | str s => exact .str s
  | agg l vs hi h h2 ih => exact .agg l vs hi h ih
  | sl f m rows A c h1 h2 hm hi g hc hr ih =>
    refine .sl f m rows A c h1 h2 hm hi g (fun j t hj => ?_) ih
    obtain ⟨b, o, hA, hzz, hcc⟩ := hc j t hj
    exact ⟨b, o, hA, hz _ _ hzz, hcc⟩
  | cp f l hi b o g hZ hb hc hr ih => exact .cp f l hi b o g (hz _ _ hZ) hb hc ih
  | nilp => exact .nilp
  | nils => exact .nils
  | ms s b off len v h => exact absurd hmk h.1.2.1
  | mp s b off h => exact absurd hmk h.2
  | me s b m k j h => exact absurd hmk h.2
  | tup l vs h h2 ih => exact .tup l vs h ih
  | fn f l vs h h2 ih => exact .fn f l vs h ih
  | top v => exact .top v
  | gh l v h ih => exact .gh l v ih
theorem Rep.bare {w : World} {objs : Objs} {t : TV} {v : Value} (h : Rep w objs t v) : Rep w [] t v := h.step (step_sub (.nil objs) w)

/-- A function's contract: it gives back r, in new memory, and leaves what there was as it is. -/
def Ct (P : Program) (G : World → Prop) (f : FuncId) (args : List TV) (r : Nat → TV) : Prop :=
  ∀ (w : World) (vs : Array Value), 0 < w.heap.size → G w → vs.size = args.length → (∀ (i : Nat) (t : TV) (v : Value), args[i]? = some t → vs[i]? = some v → Rep w [] t v) →
    Calls P f vs w fun e w' => ∃ v, e = .returned v ∧ Below w.heap.size w w' ∧ ∀ L, L ≤ w.heap.size → Rep w' (oldObjs w.heap.size) (r L) v
structure Stable (G : World → Prop) : Prop where
  below : ∀ w w', G w → Below w.heap.size w w' → G w'

def argEnv : Nat → List TV → Env
  | _, [] => []
  | i, t :: r => (i, t) :: argEnv (i + 1) r
theorem lk_argEnv {t : Nat} {v : TV} : ∀ {l : List TV} {i : Nat}, lk t (argEnv i l) = some v → i ≤ t ∧ l[t - i]? = some v
  | [], i, h => by simp [argEnv, lk] at h
  | x :: r, i, h => by
    rw [argEnv, lk_cons] at h
    split at h
    · rename_i e; subst e; simp only [Option.some.injEq] at h; subst h; simp
    · obtain ⟨h1, h2⟩ := lk_argEnv h
      refine ⟨by omega, ?_⟩
      rw [show t - i = t - (i + 1) + 1 by omega]; simpa using h2
def RetP (w0 : World) (r : Nat → TV) : Ending → World → Prop := fun e w' => ∃ v, e = .returned v ∧ Below w0.heap.size w0 w' ∧ ∀ L, L ≤ w0.heap.size → Rep w' (oldObjs w0.heap.size) (r L) v
theorem ct_enter {P : Program} {G : World → Prop} {f : FuncId} {fn : Func} {c : Code} {args : List TV} {r : Nat → TV} {N : Nat} {env : Env} (hf : P.funcs[f]? = some fn) (hb : fn.body = some c) (hn : fn.ntmps = N) (hN : Nat.ble args.length N = true) (he : argEnv 0 args = env)
    (h : ∀ w0, 0 < w0.heap.size → G w0 → AW P w0 N c (bodyPost P fn (RetP w0 r)) env []) : Ct P G f args r := fun w vs hpos hG hsz hrep => by
  have hN := Nat.le_of_ble_eq_true hN
  subst he
  refine calls_of_wp hf hb ((h w hpos hG).run _ w ⟨rfl, ?_, ⟨Below.refl _ _, hpos, by simp, .nil⟩, fun t v hv => ?_⟩)
  · simp [hn, hsz]; omega
  · obtain ⟨_, h2⟩ := lk_argEnv hv
    rw [Nat.sub_zero] at h2
    have hlt : t < vs.size := by rw [hsz]; exact (List.getElem?_eq_some_iff.1 h2).1
    have : (vs ++ Array.replicate (fn.ntmps - vs.size) undef).getD t undef = vs[t] := by simp [Array.getElem?_append_left hlt, hlt]
    rw [this]
    exact hrep t v _ h2 (by simp [hlt])

/-- What a value is when the call ends. -/
inductive Fin (B : Nat) (objs : Objs) (L : Nat) : TV → TV → Prop
  | int (k : IntKind) (n : Int) : Fin B objs L (.int k n) (.int k n)
  | bool (b : Bool) : Fin B objs L (.bool b) (.bool b)
  | str (s : ByteArray) : Fin B objs L (.str s) (.str s)
  | nilp : Fin B objs L .nilp .nilp
  | nils (m : Nat) : Fin B objs L .nils (.sl L m [])
  | sl (lo m : Nat) (rows rows' : List (List TV)) (hlo : B ≤ lo) (hl : rows'.map List.length = rows.map List.length) (h : ∀ (j : Nat) (t t' : TV), rows.flatten[j]? = some t → rows'.flatten[j]? = some t' → Fin B objs L t t') : Fin B objs L (.sl lo m rows) (.sl L m rows')
  | ms (s b off len m : Nat) (rows live rows' : List (List TV)) (hm : (s, b, TObj.row m rows) ∈ objs) (hle : off + len ≤ rows.length) (hlive : (rows.drop off).take len = live) (hl : rows'.map List.length = live.map List.length)
      (h : ∀ (j : Nat) (t t' : TV), live.flatten[j]? = some t → rows'.flatten[j]? = some t' → Fin B objs L t t') : Fin B objs L (.ms s b off len) (.sl L m rows')
  | agg (l l' : List TV) (hl : l'.length = l.length) (h : ∀ (j : Nat) (t t' : TV), l[j]? = some t → l'[j]? = some t' → Fin B objs L t t') : Fin B objs L (.agg l) (.agg l')

section
variable {P : Program} {w0 : World} {N : Nat} {Q : Exit → Act → World → Prop} {env : Env} {objs objs' : Objs} {o : Oper}

theorem Fin.cell {B L : Nat} {t t' : TV} (h : Fin B objs L t t') (hc : t.isCell = true) : t'.isCell = true := by
  cases h <;> first | rfl | cases hc
theorem flat_len {rows rows' : List (List TV)} (h : rows'.map List.length = rows.map List.length) : rows'.flatten.length = rows.flatten.length ∧ rows'.length = rows.length := by
  refine ⟨by rw [List.length_flatten, List.length_flatten, h], by simpa using congrArg List.length h⟩
theorem rows_len {m : Nat} {rows rows' : List (List TV)} (h : rows'.map List.length = rows.map List.length) (hm : ∀ r ∈ rows, r.length = m) : ∀ r ∈ rows', r.length = m := fun r hr => by
  have h1 : r.length ∈ rows'.map List.length := List.mem_map.2 ⟨r, hr, rfl⟩
  rw [h] at h1
  obtain ⟨r0, h2, h3⟩ := List.mem_map.1 h1
  rw [← h3]; exact hm r0 h2

theorem fin_rep {w : World} (hw : SimW w0 objs w) {L : Nat} (hL : L ≤ w0.heap.size) {t t' : TV} {v : Value} (h : Fin w0.heap.size objs L t t') (hr : Rep w objs t v) : Rep w (oldObjs w0.heap.size) t' v := by
  have hz : ∀ b, w0.heap.size ≤ b → ZZ (oldObjs w0.heap.size) L b := fun b hb => ⟨Nat.le_trans hL hb, fun ha => by have := (alive_old.1 ha).2; omega⟩
  induction h generalizing v with
  | int k n => cases hr; exact .int k n
  | bool b => cases hr; exact .bool b
  | str s => cases hr; exact .str s
  | nilp => cases hr; exact .nilp
  | nils m => cases hr; exact .sl L m [] none 0 (Nat.le_refl _) (by simp) (by simp) (by simp) (fun _ => undef) (by simp) (by simp)
  | sl lo m rows rows' hlo hl h ih =>
    obtain ⟨A, c, rfl, g1, g2, g3, g4, g5⟩ := rep_sl hr
    obtain ⟨e1, e2⟩ := flat_len hl
    have hget : ∀ (j : Nat) (t' : TV), rows'.flatten[j]? = some t' → ∃ t, rows.flatten[j]? = some t := fun j t' hj => by
      have : j < rows.flatten.length := by rw [← e1]; exact (List.getElem?_eq_some_iff.1 hj).1
      exact ⟨_, List.getElem?_eq_getElem this⟩
    have key : ∀ j, ∃ u, ∀ t', rows'.flatten[j]? = some t' → ∃ b q, A = some ⟨b, q, none⟩ ∧ ZZ (oldObjs w0.heap.size) L b ∧ w.cell? ⟨b, q + j, none⟩ = some u ∧ Rep w (oldObjs w0.heap.size) t' u := fun j => by
      cases hj : rows.flatten[j]? with
      | none => exact ⟨undef, fun t' ht => by obtain ⟨t, h1⟩ := hget j t' ht; rw [hj] at h1; cases h1⟩
      | some t =>
        obtain ⟨b, q, u, h1, h2, h3, h4⟩ := g5 j t hj
        exact ⟨u, fun t' ht => ⟨b, q, h1, hz b (Nat.le_trans hlo h2.1), h3, ih j t t' hj ht h4⟩⟩
    rw [← e2]
    refine .sl L m rows' A c (by omega) g2 (rows_len hl g3) (fun t' ht => ?_) (fun j => Classical.choose (key j)) (fun j t' hj => ?_) (fun j t' hj => ?_)
    · obtain ⟨j, hj, rfl⟩ := List.getElem_of_mem ht
      obtain ⟨t, h1⟩ := hget j _ (List.getElem?_eq_getElem hj)
      exact (h j t _ h1 (List.getElem?_eq_getElem hj)).cell (g4 t (List.mem_of_getElem? h1))
    · obtain ⟨b, q, h1, h2, h3, _⟩ := Classical.choose_spec (key j) t' hj
      exact ⟨b, q, h1, h2, h3⟩
    · obtain ⟨b, q, h1, h2, _, h4⟩ := Classical.choose_spec (key j) t' hj
      exact h4
  | ms s b off len m rows live rows' hm hle hlive hl h ih =>
    subst hlive
    obtain ⟨⟨hm0, hci⟩, hmm, hor⟩ := hw.obj s b _ hm
    obtain ⟨e1, e2⟩ := flat_len hl
    have hll : ((rows.drop off).take len).length = len := by simp; omega
    have hlm : ∀ r ∈ (rows.drop off).take len, r ∈ rows := fun r hr => List.mem_of_mem_drop (List.mem_of_mem_take hr)
    have hget : ∀ (j : Nat) (t' : TV), rows'.flatten[j]? = some t' → ∃ t, ((rows.drop off).take len).flatten[j]? = some t := fun j t' hj => by
      have : j < ((rows.drop off).take len).flatten.length := by rw [← e1]; exact (List.getElem?_eq_some_iff.1 hj).1
      exact ⟨_, List.getElem?_eq_getElem this⟩
    have hcell : ∀ t' ∈ rows'.flatten, t'.isCell = true := fun t' ht => by
      obtain ⟨j, hj, rfl⟩ := List.getElem_of_mem ht
      obtain ⟨t, h1⟩ := hget j _ (List.getElem?_eq_getElem hj)
      obtain ⟨r, hr, htr⟩ := List.mem_flatten.1 (List.mem_of_getElem? h1)
      exact (h j t _ h1 (List.getElem?_eq_getElem hj)).cell (hci t (List.mem_flatten.2 ⟨r, hlm r hr, htr⟩))
    rcases (rep_ms hr).or m rows hm with ⟨_, _, hlen, rfl⟩ | ⟨hb0, q, c, e, k, rfl, hlc, hsh, hk, ho⟩
    · subst hlen
      have : rows' = [] := List.eq_nil_of_length_eq_zero (by rw [e2, hll])
      subst this
      exact .sl L m [] none 0 (Nat.le_refl _) (by simp) (by simp) (by simp) (fun _ => undef) (by simp) (by simp)
    · rcases hor with ⟨h0, _⟩ | ⟨hB, cur, e', cap, h3, h4, h5, h6, h7⟩
      · exact absurd h0 hb0
      have hcm : c ≤ maxLen := by
        have h8 : w.shape? b = some (e', cur.size) := by unfold World.shape?; rw [h3]
        rw [h8] at hsh
        simp only [Option.some.injEq, Prod.mk.injEq] at hsh
        have h9 : cap * m = (off + c) * m := by omega
        have := Nat.eq_of_mul_eq_mul_right hm0 h9
        omega
      have key : ∀ j, ∃ u, ∀ t', rows'.flatten[j]? = some t' → w.cell? ⟨b, q + j, none⟩ = some u ∧ Rep w (oldObjs w0.heap.size) t' u := fun j => by
        cases hj : ((rows.drop off).take len).flatten[j]? with
        | none => exact ⟨undef, fun t' ht => by obtain ⟨t, h1⟩ := hget j t' ht; rw [hj] at h1; cases h1⟩
        | some t =>
          have hlpos : 0 < len := by
            rcases Nat.eq_zero_or_pos len with h | h
            · subst h; simp at hj
            · exact h
          have hq := ho (.inl (by omega))
          have hj2 := hj
          rw [flatten_take (fun r hr => hmm r (List.mem_of_mem_drop hr)), flatten_drop hmm, List.getElem?_take] at hj2
          split at hj2
          · rw [List.getElem?_drop] at hj2
            obtain ⟨u, p1, p2⟩ := h7 _ t hj2
            exact ⟨u, fun t' ht => ⟨by rw [cell_of_row w b _ cur e' (0, 0) h3, hq]; exact p1, ih j t t' hj ht p2⟩⟩
          · cases hj2
      have hlen' : rows'.length = len := by rw [e2, hll]
      have hres := Rep.sl (w := w) (objs := oldObjs w0.heap.size) L m rows' (some ⟨b, q, none⟩) c (by omega) hcm (rows_len hl fun r hr => hmm r (hlm r hr)) hcell (fun j => Classical.choose (key j))
        (fun j t' hj => ⟨b, q, rfl, hz b hB, (Classical.choose_spec (key j) t' hj).1⟩) (fun j t' hj => (Classical.choose_spec (key j) t' hj).2)
      rw [hlen'] at hres
      exact hres
  | agg l l' hl h ih =>
    cases hr with
    | agg l vs hi h1 h2 =>
      refine .agg l' vs (fun t' ht => ?_) (by omega) (fun i t' v ht hv => ?_)
      · obtain ⟨j, hj, rfl⟩ := List.getElem_of_mem ht
        exact (h j l[j] _ (List.getElem?_eq_getElem (by omega)) (List.getElem?_eq_getElem hj)).cell (hi _ (List.getElem_mem _))
      · have hil : i < l.length := by rw [← hl]; exact (List.getElem?_eq_some_iff.1 ht).1
        exact ih i l[i] t' (List.getElem?_eq_getElem hil) ht (h2 i _ v (List.getElem?_eq_getElem hil) hv)

/-- A slice of cells without addresses ends as it is. -/
def TV.flat : TV → Bool
  | .int _ _ | .bool _ | .str _ | .nilp => true
  | _ => false
theorem Fin.flat {B L : Nat} {t : TV} (h : t.flat = true) : Fin B objs L t t := by
  cases t <;> first | (cases h; done) | constructor
theorem Fin.slFlat {B L lo m : Nat} {rows : List (List TV)} (hlo : B ≤ lo) (h : ∀ t ∈ rows.flatten, t.flat = true) : Fin B objs L (.sl lo m rows) (.sl L m rows) :=
  .sl lo m rows rows hlo rfl fun j t t' h1 h2 => by rw [h1] at h2; cases h2; exact .flat (h t (List.mem_of_getElem? h1))
theorem Fin.msFlat {B L s b off len m : Nat} {rows live : List (List TV)} (hm : (s, b, TObj.row m rows) ∈ objs) (hle : off + len ≤ rows.length) (hlive : (rows.drop off).take len = live) (h : ∀ t ∈ live.flatten, t.flat = true) : Fin B objs L (.ms s b off len) (.sl L m live) :=
  .ms s b off len m rows live live hm hle hlive rfl fun j t t' h1 h2 => by rw [h1] at h2; cases h2; exact .flat (h t (List.mem_of_getElem? h1))

/- What the results are. -/
inductive RV (P : Program) (env : Env) (objs : Objs) : ResultVar → TV → Prop
  | tmp (t : Nat) (tv : TV) (h : lk t env = some tv) : RV P env objs (.tmp t) tv
  | cell (a T s b : Nat) (cells : List TV) (h : lk a env = some (.mp s b 0)) (hm : (s, b, TObj.box cells) ∈ objs) (hT : isAggB P T = true) (hi : (P.info? T).isSome = true) (hs : P.cellsOf T = cells.length) : RV P env objs (.cell a T) (.agg cells)
  | cell1 (a T s b : Nat) (c : TV) (h : lk a env = some (.mp s b 0)) (hm : (s, b, TObj.box [c]) ∈ objs) (hT : isScal P T = true) : RV P env objs (.cell a T) c
def rvRun (tmps : Array Value) : ResultVar → Sem Value
  | .tmp t => pure (tmps.getD t undef)
  | .cell a t => do loadVar t (← asAddr (tmps.getD a undef))
theorem rv_run {a : Act} {w : World} (hs : Sim w0 N env objs a w) {r : ResultVar} {tv : TV} (h : RV P env objs r tv) : ∃ v, (rvRun a.tmps r).run P w = .ok v w ∧ Rep w objs tv v := by
  cases h with
  | tmp t tv h => exact ⟨_, rfl, hs.env t _ h⟩
  | cell x T s b cells h hm hT hi hsz =>
    have h0 := hs.env x _ h
    obtain ⟨⟨_, hci⟩, cur, e, h2, h3, h4⟩ := hs.mem.obj s b _ hm
    generalize hv : a.tmps.getD x undef = v at h0
    cases h0 with
    | mp s b q hb =>
      cases hie : P.info? T with
      | none => rw [hie] at hi; cases hi
      | some i =>
      refine ⟨.agg cur, ?_, .agg cells cur hci h3.symm (fun j t v ht hv => by obtain ⟨u, h5, h6⟩ := h4 j t ht; rw [h5] at hv; cases hv; exact h6)⟩
      simp only [rvRun, hv, asAddr, Sem.run_bind, Sem.run_pure, Result.andThen_ok, loadVar, run_isAgg_t hT, if_true, run_sizeOf w hie, hsz]
      have hl := run_loadCells_list (P := P) w ⟨b, 0, none⟩ cur.toList (fun j v hj => by rw [Addr.add_lit, Nat.zero_add, cell_of_row w b j cur e (0, 0) h2]; simpa using hj)
      rw [Array.length_toList, h3] at hl
      rw [hl]; simp [Result.andThen_ok]
  | cell1 x T s b c h hm hT =>
    have h0 := hs.env x _ h
    obtain ⟨⟨_, hci⟩, cur, e, h2, h3, h4⟩ := hs.mem.obj s b _ hm
    generalize hv : a.tmps.getD x undef = v at h0
    cases h0 with
    | mp s b q hb =>
      obtain ⟨u, h5, h6⟩ := h4 0 tv rfl
      refine ⟨u, ?_, h6⟩
      simp only [rvRun, hv, asAddr, Sem.run_bind, Sem.run_pure, Result.andThen_ok, loadVar, run_isAgg_f hT]
      show Sem.run P (load ⟨b, 0, none⟩) w = _
      rw [run_load, cell_of_row w b 0 cur e (0, 0) h2, h5]

theorem ret_end {fn : Func} {r : Nat → TV} {x : Exit} (hx : x = .normal ∨ x = .ret) {a : Act} {w : World} (hs : Sim w0 N env objs a w) {v : Value} (hr : (results fn a.tmps).run P w = .ok v w) (hv : ∀ L, L ≤ w0.heap.size → Rep w (oldObjs w0.heap.size) (r L) v) : bodyPost P fn (RetP w0 r) x a w := by
  rcases hx with rfl | rfl
  · exact ⟨hs.defers, v, hr, v, rfl, hs.mem.below, hv⟩
  · exact ⟨hs.defers, v, hr, v, rfl, hs.mem.below, hv⟩
theorem aq_ret1 {fn : Func} {r1 : ResultVar} {t1 : TV} {r : Nat → TV} {x : Exit} (hx : x = .normal ∨ x = .ret) (hres : fn.results = #[r1]) (h1 : RV P env objs r1 t1) (hf : ∀ L, Fin w0.heap.size objs L t1 (r L)) : AQ w0 N (bodyPost P fn (RetP w0 r)) x env objs := ⟨fun a w hs => by
  obtain ⟨v1, e1, g1⟩ := rv_run hs h1
  refine ret_end hx hs (v := v1) ?_ (fun L hL => fin_rep hs.mem hL (hf L) g1)
  have : results fn a.tmps = (#[r1].mapM (rvRun a.tmps)) >>= fun vs => pure (if h : vs.size = 1 then vs[0] else .tuple vs) := by rw [← hres]; rfl
  rw [this]
  simp [e1]⟩
theorem rep_tup2 {w : World} {objs : Objs} {t1 t2 : TV} {v1 v2 : Value} (h1 : Rep w objs t1 v1) (h2 : Rep w objs t2 v2) : Rep w objs (.tup [t1, t2]) (.tuple #[v1, v2]) :=
  .tup _ _ rfl fun i t v ht hv => by
    match i with
    | 0 => simp at ht hv; subst ht; subst hv; exact h1
    | 1 => simp at ht hv; subst ht; subst hv; exact h2
    | i + 2 => simp at ht
theorem rep_tup3 {w : World} {objs : Objs} {t1 t2 t3 : TV} {v1 v2 v3 : Value} (h1 : Rep w objs t1 v1) (h2 : Rep w objs t2 v2) (h3 : Rep w objs t3 v3) : Rep w objs (.tup [t1, t2, t3]) (.tuple #[v1, v2, v3]) :=
  .tup _ _ rfl fun i t v ht hv => by
    match i with
    | 0 => simp at ht hv; subst ht; subst hv; exact h1
    | 1 => simp at ht hv; subst ht; subst hv; exact h2
    | 2 => simp at ht hv; subst ht; subst hv; exact h3
    | i + 3 => simp at ht
theorem aq_ret2 {fn : Func} {r1 r2 : ResultVar} {t1 t2 : TV} {s1 s2 : Nat → TV} {x : Exit} (hx : x = .normal ∨ x = .ret) (hres : fn.results = #[r1, r2]) (h1 : RV P env objs r1 t1) (h2 : RV P env objs r2 t2) (hf1 : ∀ L, Fin w0.heap.size objs L t1 (s1 L)) (hf2 : ∀ L, Fin w0.heap.size objs L t2 (s2 L)) :
    AQ w0 N (bodyPost P fn (RetP w0 fun L => .tup [s1 L, s2 L])) x env objs := ⟨fun a w hs => by
  obtain ⟨v1, e1, g1⟩ := rv_run hs h1
  obtain ⟨v2, e2, g2⟩ := rv_run hs h2
  refine ret_end hx hs (v := .tuple #[v1, v2]) ?_ (fun L hL => rep_tup2 (fin_rep hs.mem hL (hf1 L) g1) (fin_rep hs.mem hL (hf2 L) g2))
  have : results fn a.tmps = (#[r1, r2].mapM (rvRun a.tmps)) >>= fun vs => pure (if h : vs.size = 1 then vs[0] else .tuple vs) := by rw [← hres]; rfl
  rw [this]
  simp [Sem.run_bind, e1, e2]⟩
theorem aq_ret3 {fn : Func} {r1 r2 r3 : ResultVar} {t1 t2 t3 : TV} {s1 s2 s3 : Nat → TV} {x : Exit} (hx : x = .normal ∨ x = .ret) (hres : fn.results = #[r1, r2, r3]) (h1 : RV P env objs r1 t1) (h2 : RV P env objs r2 t2) (h3 : RV P env objs r3 t3)
    (hf1 : ∀ L, Fin w0.heap.size objs L t1 (s1 L)) (hf2 : ∀ L, Fin w0.heap.size objs L t2 (s2 L)) (hf3 : ∀ L, Fin w0.heap.size objs L t3 (s3 L)) : AQ w0 N (bodyPost P fn (RetP w0 fun L => .tup [s1 L, s2 L, s3 L])) x env objs := ⟨fun a w hs => by
  obtain ⟨v1, e1, g1⟩ := rv_run hs h1
  obtain ⟨v2, e2, g2⟩ := rv_run hs h2
  obtain ⟨v3, e3, g3⟩ := rv_run hs h3
  refine ret_end hx hs (v := .tuple #[v1, v2, v3]) ?_ (fun L hL => rep_tup3 (fin_rep hs.mem hL (hf1 L) g1) (fin_rep hs.mem hL (hf2 L) g2) (fin_rep hs.mem hL (hf3 L) g3))
  have : results fn a.tmps = (#[r1, r2, r3].mapM (rvRun a.tmps)) >>= fun vs => pure (if h : vs.size = 1 then vs[0] else .tuple vs) := by rw [← hres]; rfl
  rw [this]
  simp [Sem.run_bind, e1, e2, e3]⟩

/- Calls. -/
inductive View (objs : Objs) : TV → TV → Prop
  | same (t : TV) : View objs t t
  | ms (s b off len m : Nat) (rows live rows' : List (List TV)) (hm : (s, b, TObj.row m rows) ∈ objs) (hle : off + len ≤ rows.length) (hlive : (rows.drop off).take len = live) (hl : rows'.map List.length = live.map List.length)
      (h : ∀ (j : Nat) (t t' : TV), live.flatten[j]? = some t → rows'.flatten[j]? = some t' → View objs t t') : View objs (.ms s b off len) (.sl 0 m rows')
  | mp (s b off : Nat) (cells l' : List TV) (hm : (s, b, TObj.box cells) ∈ objs) (hl : l'.length = (cells.drop off).length) (h : ∀ (j : Nat) (t t' : TV), (cells.drop off)[j]? = some t → l'[j]? = some t' → View objs t t') : View objs (.mp s b off) (.cp 0 l')
  | me (s b m k j : Nat) (rows : List (List TV)) (r l' : List TV) (hm : (s, b, TObj.row m rows) ∈ objs) (hr : rows[k]? = some r) (hl : l'.length = (r.drop j).length) (h : ∀ (i : Nat) (t t' : TV), (r.drop j)[i]? = some t → l'[i]? = some t' → View objs t t') : View objs (.me s b m k j) (.cp 0 l')
  | nils (m : Nat) : View objs .nils (.sl 0 m [])
  | agg (l l' : List TV) (hl : l'.length = l.length) (h : ∀ (j : Nat) (t t' : TV), l[j]? = some t → l'[j]? = some t' → View objs t t') : View objs (.agg l) (.agg l')
  | sl (f m : Nat) (rows rows' : List (List TV)) (hl : rows'.map List.length = rows.map List.length) (h : ∀ (j : Nat) (t t' : TV), rows.flatten[j]? = some t → rows'.flatten[j]? = some t' → View objs t t') : View objs (.sl f m rows) (.sl 0 m rows')
  | cp0 (f : Nat) (l : List TV) : View objs (.cp f l) (.cp 0 l)
  | cut (t : TV) (l l' : List TV) (h : View objs t (.cp 0 l)) (hp : l.take l'.length = l') : View objs t (.cp 0 l')
theorem View.msSame {s b off len m : Nat} {rows live : List (List TV)} (hm : (s, b, TObj.row m rows) ∈ objs) (hle : off + len ≤ rows.length) (hlive : (rows.drop off).take len = live) : View objs (.ms s b off len) (.sl 0 m live) :=
  .ms s b off len m rows live live hm hle hlive rfl fun j t t' h1 h2 => by rw [h1] at h2; cases h2; exact .same t
theorem View.mpSame {s b off : Nat} {cells : List TV} (hm : (s, b, TObj.box cells) ∈ objs) : View objs (.mp s b off) (.cp 0 (cells.drop off)) :=
  .mp s b off cells _ hm rfl fun j t t' h1 h2 => by rw [h1] at h2; cases h2; exact .same t
theorem View.cell {t t' : TV} (h : View objs t t') (hc : t.isCell = true) : t'.isCell = true := by
  cases h <;> first | exact hc | rfl | cases hc
theorem get_of_len {α : Type} {l l' : List α} (h : l'.length = l.length) {j : Nat} {t' : α} (hj : l'[j]? = some t') : ∃ t, l[j]? = some t :=
  ⟨_, List.getElem?_eq_getElem (by rw [← h]; exact (List.getElem?_eq_some_iff.1 hj).1)⟩
theorem zz_nil (b : Nat) : ZZ [] 0 b := ⟨Nat.zero_le _, fun ha => by obtain ⟨_, s, o, hm⟩ := ha; simp at hm⟩
theorem view_cp {w : World} (hw : SimW w0 objs w) {tv : TV} {l l' : List TV} {v : Value} (hp : Place w objs tv l) (hr : Rep w objs tv v) (hb : ∀ b q, v = .pointer (some ⟨b, q, none⟩) → b < w.heap.size) (hl : l'.length = l.length)
    (hc : ∀ (j : Nat) (t t' : TV), l[j]? = some t → l'[j]? = some t' → t.isCell = true → t'.isCell = true) (h : ∀ (j : Nat) (t t' : TV) (u : Value), l[j]? = some t → l'[j]? = some t' → Rep w objs t u → Rep w [] t' u) : Rep w [] (.cp 0 l') v := by
  obtain ⟨b, q, rfl, h1, h2⟩ := place_cells hw hp hr
  have key : ∀ j, ∃ u, ∀ t', l'[j]? = some t' → w.cell? ⟨b, q + j, none⟩ = some u ∧ Rep w [] t' u := fun j => by
    cases hj : l[j]? with
    | none => exact ⟨undef, fun t' ht => by obtain ⟨t, h3⟩ := get_of_len hl ht; rw [hj] at h3; cases h3⟩
    | some t => obtain ⟨u, h3, h4⟩ := h2 j t hj; exact ⟨u, fun t' ht => ⟨h3, h j t t' u hj ht h4⟩⟩
  refine .cp 0 l' (fun t' ht => ?_) b q (fun j => Classical.choose (key j)) (zz_nil b) (hb b q rfl) (fun j t hj => (Classical.choose_spec (key j) t hj).1) (fun j t hj => (Classical.choose_spec (key j) t hj).2)
  obtain ⟨j, hj, rfl⟩ := List.getElem_of_mem ht
  obtain ⟨t, h3⟩ := get_of_len hl (List.getElem?_eq_getElem hj)
  exact hc j t _ h3 (List.getElem?_eq_getElem hj) (h1 t (List.mem_of_getElem? h3))
theorem rep_cp0 {w : World} {f : Nat} {l : List TV} {v : Value} (h : Rep w [] (.cp f l) v) : Rep w [] (.cp 0 l) v := by
  cases h with
  | cp f l hi b o g hZ hb hc hr => exact .cp 0 l hi b o g (zz_nil b) hb hc hr
theorem rep_cut {w : World} {l l' : List TV} {v : Value} (hp : l.take l'.length = l') (h : Rep w [] (.cp 0 l) v) : Rep w [] (.cp 0 l') v := by
  have hget : ∀ (j : Nat) (t : TV), l'[j]? = some t → l[j]? = some t := fun j t hj => by
    rw [← hp, List.getElem?_take] at hj
    split at hj
    · exact hj
    · cases hj
  cases h with
  | cp f l hi b o g hZ hb hc hr => exact .cp 0 l' (fun t ht => hi t (by rw [← hp] at ht; exact List.mem_of_mem_take ht)) b o g hZ hb (fun j t hj => hc j t (hget j t hj)) (fun j t hj => hr j t (hget j t hj))
theorem view_rep {w : World} (hw : SimW w0 objs w) {t t' : TV} {v : Value} (h : View objs t t') (hr : Rep w objs t v) : Rep w [] t' v := by
  induction h generalizing v with
  | same t => exact hr.bare
  | cp0 f l => exact rep_cp0 hr.bare
  | cut t l l' h hp ih => exact rep_cut hp (ih hr)
  | nils m => cases hr; exact .sl 0 m [] none 0 (Nat.le_refl _) (by simp) (by simp) (by simp) (fun _ => undef) (by simp) (by simp)
  | mp s b off cells l' hm hl h ih =>
    refine view_cp hw (.mp s b off cells hm) hr (fun b' q hv => ?_) hl (fun j t t' h1 h2 h3 => (h j t t' h1 h2).cell h3) (fun j t t' u h1 h2 h3 => ih j t t' h1 h2 h3)
    subst hv
    cases hr with
    | mp s b off h => exact h.1
  | me s b m k j rows r l' hm hk hl h ih =>
    refine view_cp hw (.me s b m k j rows r hm hk) hr (fun b' q hv => ?_) hl (fun j t t' h1 h2 h3 => (h j t t' h1 h2).cell h3) (fun j t t' u h1 h2 h3 => ih j t t' h1 h2 h3)
    subst hv
    cases hr with
    | me s b m k j h => exact h.1
  | agg l l' hl h ih =>
    cases hr with
    | agg l vs hi h1 h2 =>
      refine .agg l' vs (fun t' ht => ?_) (by omega) (fun i t' v ht hv => ?_)
      · obtain ⟨j, hj, rfl⟩ := List.getElem_of_mem ht
        obtain ⟨t, h3⟩ := get_of_len hl (List.getElem?_eq_getElem hj)
        exact (h j t _ h3 (List.getElem?_eq_getElem hj)).cell (hi t (List.mem_of_getElem? h3))
      · obtain ⟨t, h3⟩ := get_of_len hl ht
        exact ih i t t' h3 ht (h2 i t v h3 hv)
  | sl f m rows rows' hl h ih =>
    obtain ⟨A, c, rfl, g1, g2, g3, g4, g5⟩ := rep_sl hr
    obtain ⟨e1, e2⟩ := flat_len hl
    have key : ∀ j, ∃ u, ∀ t', rows'.flatten[j]? = some t' → ∃ b q, A = some ⟨b, q, none⟩ ∧ w.cell? ⟨b, q + j, none⟩ = some u ∧ Rep w [] t' u := fun j => by
      cases hj : rows.flatten[j]? with
      | none => exact ⟨undef, fun t' ht => by obtain ⟨t, h1⟩ := get_of_len e1 ht; rw [hj] at h1; cases h1⟩
      | some t =>
        obtain ⟨b, q, u, h1, h2, h3, h4⟩ := g5 j t hj
        exact ⟨u, fun t' ht => ⟨b, q, h1, h3, ih j t t' hj ht h4⟩⟩
    rw [← e2]
    refine .sl 0 m rows' A c (by omega) g2 (rows_len hl g3) (fun t' ht => ?_) (fun j => Classical.choose (key j)) (fun j t' hj => ?_) (fun j t' hj => ?_)
    · obtain ⟨j, hj, rfl⟩ := List.getElem_of_mem ht
      obtain ⟨t, h1⟩ := get_of_len e1 (List.getElem?_eq_getElem hj)
      exact (h j t _ h1 (List.getElem?_eq_getElem hj)).cell (g4 t (List.mem_of_getElem? h1))
    · obtain ⟨b, q, h1, h3, _⟩ := Classical.choose_spec (key j) t' hj
      exact ⟨b, q, h1, zz_nil b, h3⟩
    · obtain ⟨b, q, h1, _, h4⟩ := Classical.choose_spec (key j) t' hj
      exact h4
  | ms s b off len m rows live rows' hm hle hlive hl h ih =>
    subst hlive
    obtain ⟨⟨hm0, hci⟩, hmm, hor⟩ := hw.obj s b _ hm
    obtain ⟨e1, e2⟩ := flat_len hl
    have hll : ((rows.drop off).take len).length = len := by simp; omega
    have hlm : ∀ r ∈ (rows.drop off).take len, r ∈ rows := fun r hr => List.mem_of_mem_drop (List.mem_of_mem_take hr)
    have hcell : ∀ t' ∈ rows'.flatten, t'.isCell = true := fun t' ht => by
      obtain ⟨j, hj, rfl⟩ := List.getElem_of_mem ht
      obtain ⟨t, h1⟩ := get_of_len e1 (List.getElem?_eq_getElem hj)
      obtain ⟨r, hr, htr⟩ := List.mem_flatten.1 (List.mem_of_getElem? h1)
      exact (h j t _ h1 (List.getElem?_eq_getElem hj)).cell (hci t (List.mem_flatten.2 ⟨r, hlm r hr, htr⟩))
    have hlen' : rows'.length = len := by rw [e2, hll]
    rcases (rep_ms hr).or m rows hm with ⟨_, _, hlen, rfl⟩ | ⟨hb0, q, c, e, k, rfl, hlc, hsh, hk, ho⟩
    · subst hlen
      have : rows' = [] := List.eq_nil_of_length_eq_zero hlen'
      subst this
      exact .sl 0 m [] none 0 (Nat.le_refl _) (by simp) (by simp) (by simp) (fun _ => undef) (by simp) (by simp)
    · rcases hor with ⟨h0, _⟩ | ⟨hB, cur, e', cap, h3, h4, h5, h6, h7⟩
      · exact absurd h0 hb0
      have hcm : c ≤ maxLen := by
        have h8 : w.shape? b = some (e', cur.size) := by unfold World.shape?; rw [h3]
        rw [h8] at hsh
        simp only [Option.some.injEq, Prod.mk.injEq] at hsh
        have h9 : cap * m = (off + c) * m := by omega
        have := Nat.eq_of_mul_eq_mul_right hm0 h9
        omega
      have key : ∀ j, ∃ u, ∀ t', rows'.flatten[j]? = some t' → w.cell? ⟨b, q + j, none⟩ = some u ∧ Rep w [] t' u := fun j => by
        cases hj : ((rows.drop off).take len).flatten[j]? with
        | none => exact ⟨undef, fun t' ht => by obtain ⟨t, h1⟩ := get_of_len e1 ht; rw [hj] at h1; cases h1⟩
        | some t =>
          have hlpos : 0 < len := by
            rcases Nat.eq_zero_or_pos len with h | h
            · subst h; simp at hj
            · exact h
          have hq := ho (.inl (by omega))
          have hj2 := hj
          rw [flatten_take (fun r hr => hmm r (List.mem_of_mem_drop hr)), flatten_drop hmm, List.getElem?_take] at hj2
          split at hj2
          · rw [List.getElem?_drop] at hj2
            obtain ⟨u, p1, p2⟩ := h7 _ t hj2
            exact ⟨u, fun t' ht => ⟨by rw [cell_of_row w b _ cur e' (0, 0) h3, hq]; exact p1, ih j t t' hj ht p2⟩⟩
          · cases hj2
      have hres := Rep.sl (w := w) (objs := []) 0 m rows' (some ⟨b, q, none⟩) c (by omega) hcm (rows_len hl fun r hr => hmm r (hlm r hr)) hcell (fun j => Classical.choose (key j))
        (fun j t hj => ⟨b, q, rfl, zz_nil b, (Classical.choose_spec (key j) t hj).1⟩) (fun j t hj => (Classical.choose_spec (key j) t hj).2)
      rw [hlen'] at hres
      exact hres

inductive Args (env : Env) (objs : Objs) : List Operand → List TV → Prop
  | nil : Args env objs [] []
  | cons (x : Operand) (xs : List Operand) (t t' : TV) (ts : List TV) (h : ev env x = some t) (hv : View objs t t') (hr : Args env objs xs ts) : Args env objs (x :: xs) (t' :: ts)
theorem args_rep {w : World} (hw : SimW w0 objs w) {a : Act} {xs : List Operand} {ts : List TV} (h : Args env objs xs ts) (hop : ∀ x ∈ xs, ∀ v, ev env x = some v → Rep w objs v (a.eval x)) : (xs.map a.eval).length = ts.length ∧ ∀ (i : Nat) (t : TV) (v : Value), ts[i]? = some t → (xs.map a.eval)[i]? = some v → Rep w [] t v := by
  induction h with
  | nil => simp
  | cons x xs t t' ts h hv hr ih =>
    obtain ⟨h1, h2⟩ := ih (fun y hy => hop y (by simp [hy]))
    refine ⟨by simpa using h1, fun i u v hu hv' => ?_⟩
    cases i with
    | zero => simp at hu hv'; subst hu; subst hv'; exact view_rep hw hv (hop x (by simp) t h)
    | succ i => exact h2 i u v (by simpa using hu) (by simpa using hv')
def callB (P : Program) (f : Nat) : Bool := match P.funcs[f]? with
  | some fn => fn.name != "runtime.NumGoroutine" && fn.body.isSome
  | none => false
theorem run_callFunc {f : Nat} (h : callB P f = true) (args : Array Value) (w : World) : (callFunc f args).run P w = .ok (.enter f args) w := by
  unfold callB at h
  split at h
  · rename_i fn hf
    simp only [Bool.and_eq_true, bne_iff_ne, ne_eq] at h
    obtain ⟨h1, h2⟩ := h
    have h3 : fn.body.isNone = false := by cases hb : fn.body <;> simp_all
    simp [callFunc, Sem.run_bind, run_program, hf, h1, Sem.run_pure]
    intro hn; rw [hn] at h2; cases h2
  · cases h
theorem exec_call {f : Nat} {xs : List Operand} {ts : Array TypeId} (ho : o.op = .call { callee := .value (.func f), args := xs.toArray, argTypes := ts }) (hc : callB P f = true) (a : Act) (w : World) : (execOp a.eval o).run P w = .ok (.enter f (xs.map a.eval).toArray) w := by
  simp only [execOp, ho, resolve, Sem.run_bind, Sem.run_pure, Result.andThen_ok, Deferred.ofValue, Act.eval, invoke]
  simp [run_callFunc hc, List.map_toArray]
theorem y_call {G : World → Prop} {f : Nat} {xs : List Operand} {ts : Array TypeId} {args : List TV} {r : Nat → TV} (ho : o.op = .call { callee := .value (.func f), args := xs.toArray, argTypes := ts }) (hc : callB P f = true) (hargs : Args env objs xs args) (hct : Ct P G f args r) (hG : G w0) (hst : Stable G) :
    Yields P w0 env objs o (r w0.heap.size) := fun a w K Q hw hop hK => by
  obtain ⟨h1, h2⟩ := args_rep hw (a := a) hargs (fun x hx v hv => hop x (by simp [ho, Op.operands, Call.operands, hx]) v hv)
  unfold Oper.wp
  rw [exec_call ho hc]
  refine (hct w (xs.map a.eval).toArray (Nat.lt_of_lt_of_le hw.pos hw.below.size) (hst.below _ _ hG hw.below) (by simpa using h1) (fun i t v ht hv => h2 i t v ht (by simpa using hv))).mono ?_
  rintro e w' ⟨v, rfl, hb, hr⟩
  have hk : ∀ b, b < w.heap.size → w'.heap[b]? = w.heap[b]? := fun b hlt => hb.block b hlt
  have hbel : Below w0.heap.size w0 w' := hw.below.trans (hb.mono hw.below.size)
  exact hK v w' (Rep.ofOld (fun b ha => by obtain ⟨_, s, ob, hm⟩ := ha; exact objs_lt hw hm) (hr _ hw.below.size)) (hw.grow hbel hb.size hk) (step_grow objs hb.size hk)
end
end Go.Proofs.YtiihihgjiklnoaaGreatDoor
