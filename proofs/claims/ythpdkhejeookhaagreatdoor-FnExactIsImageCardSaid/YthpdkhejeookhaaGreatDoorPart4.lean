/- Part 4 of the proof: the texts EngG, EngH, EngO, EngR, EngS, EngR2, EngU, EngV, EngW. -/
import Derived.Test.YthpdkhejeookhaaGreatDoorPart3
import Derived.Laws.MakeOwn
/- The abstract walk, part 7: contracts, calls, what is given back. -/
namespace Go.Proofs.YthpdkhejeookhaaGreatDoor
open Go Go.RowKit

def dF (n : Nat) : bp := dg :: (List.range n).map fun b => (0, b, ca.box [])
theorem oo {n b : Nat} : kW (dF n) b ↔ b ≠ 0 ∧ b < n := by
  constructor
  · rintro ⟨h0, s, o, hm⟩
    refine ⟨h0, ?_⟩
    rcases List.mem_cons.1 hm with he | hm
    · simp only [dg, Prod.mk.injEq] at he; omega
    · obtain ⟨b', hb, he⟩ := List.mem_map.1 hm
      simp only [Prod.mk.injEq] at he
      have := List.mem_range.1 hb
      omega
  · rintro ⟨h0, hlt⟩
    exact ⟨h0, 0, .box [], List.mem_cons_of_mem _ (List.mem_map.2 ⟨b, List.mem_range.2 hlt, rfl⟩)⟩
theorem Rep.ofOld {w : World} {objs : bp} {n : Nat} (hal : ∀ b, kW objs b → b < n) {t : TV} {v : Value} (h : Rep w (dF n) t v) : Rep w objs t v := by
  have hz : ∀ lo b, ZZ (dF n) lo b → ZZ objs lo b := fun lo b hz => ⟨hz.1, fun ha => hz.2 (oo.2 ⟨ha.1, hal b ha⟩)⟩
  have hmk : dg ∈ dF n := List.mem_cons_self
  induction h with
  | int k n => exact .int k n
  | bool b => exact .bool b
  | str s => exact .str s
  | agg l vs hi h h2 ih => exact .agg l vs hi h ih
  | sl f m rows A c h1 h2 hm hi g hc hr ih =>
    refine .sl f m rows A c h1 h2 hm hi g (fun j t hj => ?_) ih
    obtain ⟨b, o, hA, hzz, hcc⟩ := hc j t hj
    exact ⟨b, o, hA, hz _ _ hzz, hcc⟩
  | cp f l hi b o g hZ hb hc hr ih => exact .cp f l hi b o g (hz _ _ hZ) hb hc ih
  | nilp => exact .nilp
  | nils => exact .nils
  | ms s b off len v h => exact absurd hmk h.1.2.1
  | mp s b off h => exact absurd hmk h.2
  | me s b m k j h => exact absurd hmk h.2
  | tup l vs h h2 ih => exact .tup l vs h ih
  | fn f l vs h h2 ih => exact .fn f l vs h ih
  | top v => exact .top v
  | gh l v h ih => exact .gh l v ih
theorem Rep.bare {w : World} {objs : bp} {t : TV} {v : Value} (h : Rep w objs t v) : Rep w [] t v := h.step (fo (.nil objs) w)

def Ct (P : Program) (G : World → Prop) (f : FuncId) (args : List TV) (r : Nat → TV) : Prop :=
  ∀ (w : World) (vs : Array Value), 0 < w.heap.size → G w → vs.size = args.length → (∀ (i : Nat) (t : TV) (v : Value), args[i]? = some t → vs[i]? = some v → Rep w [] t v) →
    Calls P f vs w fun e w' => ∃ v, e = .returned v ∧ Below w.heap.size w w' ∧ ∀ L, L ≤ w.heap.size → Rep w' (dF w.heap.size) (r L) v
structure aY (G : World → Prop) : Prop where
  below : ∀ w w', G w → Below w.heap.size w w' → G w'

def lZ : Nat → List TV → Env
  | _, [] => []
  | i, t :: r => (i, t) :: lZ (i + 1) r
theorem j7 {t : Nat} {v : TV} : ∀ {l : List TV} {i : Nat}, lk t (lZ i l) = some v → i ≤ t ∧ l[t - i]? = some v
  | [], i, h => by simp [lZ, lk] at h
  | x :: r, i, h => by
    rw [lZ, bL] at h
    split at h
    · rename_i e; subst e; simp only [Option.some.injEq] at h; subst h; simp
    · obtain ⟨h1, h2⟩ := j7 h
      refine ⟨by omega, ?_⟩
      rw [show t - i = t - (i + 1) + 1 by omega]; simpa using h2
def x6 (w0 : World) (r : Nat → TV) : Ending → World → Prop := fun e w' => ∃ v, e = .returned v ∧ Below w0.heap.size w0 w' ∧ ∀ L, L ≤ w0.heap.size → Rep w' (dF w0.heap.size) (r L) v
theorem aJ {P : Program} {G : World → Prop} {f : FuncId} {fn : Func} {c : Code} {args : List TV} {r : Nat → TV} {N : Nat} {env : Env} (hf : P.funcs[f]? = some fn) (hb : fn.body = some c) (hn : fn.ntmps = N) (hN : Nat.ble args.length N = true) (he : lZ 0 args = env)
    (h : ∀ w0, 0 < w0.heap.size → G w0 → AW P w0 N c (bodyPost P fn (x6 w0 r)) env []) : Ct P G f args r := fun w vs hpos hG hsz hrep => by
  have hN := Nat.le_of_ble_eq_true hN
  subst he
  refine calls_of_wp hf hb ((h w hpos hG).run _ w ⟨rfl, ?_, ⟨Below.refl _ _, hpos, by simp, .nil⟩, fun t v hv => ?_⟩)
  · simp [hn, hsz]; omega
  · obtain ⟨_, h2⟩ := j7 hv
    rw [Nat.sub_zero] at h2
    have hlt : t < vs.size := by rw [hsz]; exact (List.getElem?_eq_some_iff.1 h2).1
    have : (vs ++ Array.replicate (fn.ntmps - vs.size) undef).getD t undef = vs[t] := by simp [Array.getElem?_append_left hlt, hlt]
    rw [this]
    exact hrep t v _ h2 (by simp [hlt])

inductive Fin (B : Nat) (objs : bp) (L : Nat) : TV → TV → Prop
  | int (k : IntKind) (n : Int) : Fin B objs L (.int k n) (.int k n)
  | bool (b : Bool) : Fin B objs L (.bool b) (.bool b)
  | str (s : ByteArray) : Fin B objs L (.str s) (.str s)
  | nilp : Fin B objs L .nilp .nilp
  | nils (m : Nat) : Fin B objs L .nils (.sl L m [])
  | sl (lo m : Nat) (rows rows' : List (List TV)) (hlo : B ≤ lo) (hl : rows'.map List.length = rows.map List.length) (h : ∀ (j : Nat) (t t' : TV), rows.flatten[j]? = some t → rows'.flatten[j]? = some t' → Fin B objs L t t') : Fin B objs L (.sl lo m rows) (.sl L m rows')
  | ms (s b off len m : Nat) (rows live rows' : List (List TV)) (hm : (s, b, ca.row m rows) ∈ objs) (hle : off + len ≤ rows.length) (hlive : (rows.drop off).take len = live) (hl : rows'.map List.length = live.map List.length)
      (h : ∀ (j : Nat) (t t' : TV), live.flatten[j]? = some t → rows'.flatten[j]? = some t' → Fin B objs L t t') : Fin B objs L (.ms s b off len) (.sl L m rows')
  | agg (l l' : List TV) (hl : l'.length = l.length) (h : ∀ (j : Nat) (t t' : TV), l[j]? = some t → l'[j]? = some t' → Fin B objs L t t') : Fin B objs L (.agg l) (.agg l')

section
variable {P : Program} {w0 : World} {N : Nat} {Q : Exit → Act → World → Prop} {env : Env} {objs objs' : bp} {o : Oper}

theorem Fin.cell {B L : Nat} {t t' : TV} (h : Fin B objs L t t') (hc : t.isCell = true) : t'.isCell = true := by
  cases h <;> first | rfl | cases hc
theorem jN {rows rows' : List (List TV)} (h : rows'.map List.length = rows.map List.length) : rows'.flatten.length = rows.flatten.length ∧ rows'.length = rows.length := by
  refine ⟨by rw [List.length_flatten, List.length_flatten, h], by simpa using congrArg List.length h⟩
theorem jI {m : Nat} {rows rows' : List (List TV)} (h : rows'.map List.length = rows.map List.length) (hm : ∀ r ∈ rows, r.length = m) : ∀ r ∈ rows', r.length = m := fun r hr => by
  have h1 : r.length ∈ rows'.map List.length := List.mem_map.2 ⟨r, hr, rfl⟩
  rw [h] at h1
  obtain ⟨r0, h2, h3⟩ := List.mem_map.1 h1
  rw [← h3]; exact hm r0 h2

theorem jb {w : World} (hw : cV w0 objs w) {L : Nat} (hL : L ≤ w0.heap.size) {t t' : TV} {v : Value} (h : Fin w0.heap.size objs L t t') (hr : Rep w objs t v) : Rep w (dF w0.heap.size) t' v := by
  have hz : ∀ b, w0.heap.size ≤ b → ZZ (dF w0.heap.size) L b := fun b hb => ⟨Nat.le_trans hL hb, fun ha => by have := (oo.1 ha).2; omega⟩
  induction h generalizing v with
  | int k n => cases hr; exact .int k n
  | bool b => cases hr; exact .bool b
  | str s => cases hr; exact .str s
  | nilp => cases hr; exact .nilp
  | nils m => cases hr; exact .sl L m [] none 0 (Nat.le_refl _) (by simp) (by simp) (by simp) (fun _ => undef) (by simp) (by simp)
  | sl lo m rows rows' hlo hl h ih =>
    obtain ⟨A, c, rfl, g1, g2, g3, g4, g5⟩ := jr hr
    obtain ⟨e1, e2⟩ := jN hl
    have hget : ∀ (j : Nat) (t' : TV), rows'.flatten[j]? = some t' → ∃ t, rows.flatten[j]? = some t := fun j t' hj => by
      have : j < rows.flatten.length := by rw [← e1]; exact (List.getElem?_eq_some_iff.1 hj).1
      exact ⟨_, List.getElem?_eq_getElem this⟩
    have key : ∀ j, ∃ u, ∀ t', rows'.flatten[j]? = some t' → ∃ b q, A = some ⟨b, q, none⟩ ∧ ZZ (dF w0.heap.size) L b ∧ w.cell? ⟨b, q + j, none⟩ = some u ∧ Rep w (dF w0.heap.size) t' u := fun j => by
      cases hj : rows.flatten[j]? with
      | none => exact ⟨undef, fun t' ht => by obtain ⟨t, h1⟩ := hget j t' ht; rw [hj] at h1; cases h1⟩
      | some t =>
        obtain ⟨b, q, u, h1, h2, h3, h4⟩ := g5 j t hj
        exact ⟨u, fun t' ht => ⟨b, q, h1, hz b (Nat.le_trans hlo h2.1), h3, ih j t t' hj ht h4⟩⟩
    rw [← e2]
    refine .sl L m rows' A c (by omega) g2 (jI hl g3) (fun t' ht => ?_) (fun j => Classical.choose (key j)) (fun j t' hj => ?_) (fun j t' hj => ?_)
    · obtain ⟨j, hj, rfl⟩ := List.getElem_of_mem ht
      obtain ⟨t, h1⟩ := hget j _ (List.getElem?_eq_getElem hj)
      exact (h j t _ h1 (List.getElem?_eq_getElem hj)).cell (g4 t (List.mem_of_getElem? h1))
    · obtain ⟨b, q, h1, h2, h3, _⟩ := Classical.choose_spec (key j) t' hj
      exact ⟨b, q, h1, h2, h3⟩
    · obtain ⟨b, q, h1, h2, _, h4⟩ := Classical.choose_spec (key j) t' hj
      exact h4
  | ms s b off len m rows live rows' hm hle hlive hl h ih =>
    subst hlive
    obtain ⟨⟨hm0, hci⟩, hmm, hor⟩ := hw.obj s b _ hm
    obtain ⟨e1, e2⟩ := jN hl
    have hll : ((rows.drop off).take len).length = len := by simp; omega
    have hlm : ∀ r ∈ (rows.drop off).take len, r ∈ rows := fun r hr => List.mem_of_mem_drop (List.mem_of_mem_take hr)
    have hget : ∀ (j : Nat) (t' : TV), rows'.flatten[j]? = some t' → ∃ t, ((rows.drop off).take len).flatten[j]? = some t := fun j t' hj => by
      have : j < ((rows.drop off).take len).flatten.length := by rw [← e1]; exact (List.getElem?_eq_some_iff.1 hj).1
      exact ⟨_, List.getElem?_eq_getElem this⟩
    have hcell : ∀ t' ∈ rows'.flatten, t'.isCell = true := fun t' ht => by
      obtain ⟨j, hj, rfl⟩ := List.getElem_of_mem ht
      obtain ⟨t, h1⟩ := hget j _ (List.getElem?_eq_getElem hj)
      obtain ⟨r, hr, htr⟩ := List.mem_flatten.1 (List.mem_of_getElem? h1)
      exact (h j t _ h1 (List.getElem?_eq_getElem hj)).cell (hci t (List.mem_flatten.2 ⟨r, hlm r hr, htr⟩))
    rcases (ot hr).or m rows hm with ⟨_, _, hlen, rfl⟩ | ⟨hb0, q, c, e, k, rfl, hlc, hsh, hk, ho⟩
    · subst hlen
      have : rows' = [] := List.eq_nil_of_length_eq_zero (by rw [e2, hll])
      subst this
      exact .sl L m [] none 0 (Nat.le_refl _) (by simp) (by simp) (by simp) (fun _ => undef) (by simp) (by simp)
    · rcases hor with ⟨h0, _⟩ | ⟨hB, cur, e', cap, h3, h4, h5, h6, h7⟩
      · exact absurd h0 hb0
      have hcm : c ≤ maxLen := by
        have h8 : w.shape? b = some (e', cur.size) := by unfold World.shape?; rw [h3]
        rw [h8] at hsh
        simp only [Option.some.injEq, Prod.mk.injEq] at hsh
        have h9 : cap * m = (off + c) * m := by omega
        have := Nat.eq_of_mul_eq_mul_right hm0 h9
        omega
      have key : ∀ j, ∃ u, ∀ t', rows'.flatten[j]? = some t' → w.cell? ⟨b, q + j, none⟩ = some u ∧ Rep w (dF w0.heap.size) t' u := fun j => by
        cases hj : ((rows.drop off).take len).flatten[j]? with
        | none => exact ⟨undef, fun t' ht => by obtain ⟨t, h1⟩ := hget j t' ht; rw [hj] at h1; cases h1⟩
        | some t =>
          have hlpos : 0 < len := by
            rcases Nat.eq_zero_or_pos len with h | h
            · subst h; simp at hj
            · exact h
          have hq := ho (.inl (by omega))
          have hj2 := hj
          rw [dc (fun r hr => hmm r (List.mem_of_mem_drop hr)), ey hmm, List.getElem?_take] at hj2
          split at hj2
          · rw [List.getElem?_drop] at hj2
            obtain ⟨u, p1, p2⟩ := h7 _ t hj2
            exact ⟨u, fun t' ht => ⟨by rw [cell_of_row w b _ cur e' (0, 0) h3, hq]; exact p1, ih j t t' hj ht p2⟩⟩
          · cases hj2
      have hlen' : rows'.length = len := by rw [e2, hll]
      have hres := Rep.sl (w := w) (objs := dF w0.heap.size) L m rows' (some ⟨b, q, none⟩) c (by omega) hcm (jI hl fun r hr => hmm r (hlm r hr)) hcell (fun j => Classical.choose (key j))
        (fun j t' hj => ⟨b, q, rfl, hz b hB, (Classical.choose_spec (key j) t' hj).1⟩) (fun j t' hj => (Classical.choose_spec (key j) t' hj).2)
      rw [hlen'] at hres
      exact hres
  | agg l l' hl h ih =>
    cases hr with
    | agg l vs hi h1 h2 =>
      refine .agg l' vs (fun t' ht => ?_) (by omega) (fun i t' v ht hv => ?_)
      · obtain ⟨j, hj, rfl⟩ := List.getElem_of_mem ht
        exact (h j l[j] _ (List.getElem?_eq_getElem (by omega)) (List.getElem?_eq_getElem hj)).cell (hi _ (List.getElem_mem _))
      · have hil : i < l.length := by rw [← hl]; exact (List.getElem?_eq_some_iff.1 ht).1
        exact ih i l[i] t' (List.getElem?_eq_getElem hil) ht (h2 i _ v (List.getElem?_eq_getElem hil) hv)

def TV.flat : TV → Bool
  | .int _ _ | .bool _ | .str _ | .nilp => true
  | _ => false
theorem Fin.flat {B L : Nat} {t : TV} (h : t.flat = true) : Fin B objs L t t := by
  cases t <;> first | (cases h; done) | constructor
theorem Fin.slFlat {B L lo m : Nat} {rows : List (List TV)} (hlo : B ≤ lo) (h : ∀ t ∈ rows.flatten, t.flat = true) : Fin B objs L (.sl lo m rows) (.sl L m rows) :=
  .sl lo m rows rows hlo rfl fun j t t' h1 h2 => by rw [h1] at h2; cases h2; exact .flat (h t (List.mem_of_getElem? h1))
theorem Fin.msFlat {B L s b off len m : Nat} {rows live : List (List TV)} (hm : (s, b, ca.row m rows) ∈ objs) (hle : off + len ≤ rows.length) (hlive : (rows.drop off).take len = live) (h : ∀ t ∈ live.flatten, t.flat = true) : Fin B objs L (.ms s b off len) (.sl L m live) :=
  .ms s b off len m rows live live hm hle hlive rfl fun j t t' h1 h2 => by rw [h1] at h2; cases h2; exact .flat (h t (List.mem_of_getElem? h1))

/- What the results are. -/
inductive RV (P : Program) (env : Env) (objs : bp) : ResultVar → TV → Prop
  | tmp (t : Nat) (tv : TV) (h : lk t env = some tv) : RV P env objs (.tmp t) tv
  | cell (a T s b : Nat) (cells : List TV) (h : lk a env = some (.mp s b 0)) (hm : (s, b, ca.box cells) ∈ objs) (hT : iy P T = true) (hi : (P.info? T).isSome = true) (hs : P.cellsOf T = cells.length) : RV P env objs (.cell a T) (.agg cells)
  | cell1 (a T s b : Nat) (c : TV) (h : lk a env = some (.mp s b 0)) (hm : (s, b, ca.box [c]) ∈ objs) (hT : fT P T = true) : RV P env objs (.cell a T) c
def oA (tmps : Array Value) : ResultVar → Sem Value
  | .tmp t => pure (tmps.getD t undef)
  | .cell a t => do loadVar t (← asAddr (tmps.getD a undef))
theorem gU {a : Act} {w : World} (hs : Sim w0 N env objs a w) {r : ResultVar} {tv : TV} (h : RV P env objs r tv) : ∃ v, (oA a.tmps r).run P w = .ok v w ∧ Rep w objs tv v := by
  cases h with
  | tmp t tv h => exact ⟨_, rfl, hs.env t _ h⟩
  | cell x T s b cells h hm hT hi hsz =>
    have h0 := hs.env x _ h
    obtain ⟨⟨_, hci⟩, cur, e, h2, h3, h4⟩ := hs.mem.obj s b _ hm
    generalize hv : a.tmps.getD x undef = v at h0
    cases h0 with
    | mp s b q hb =>
      cases hie : P.info? T with
      | none => rw [hie] at hi; cases hi
      | some i =>
      refine ⟨.agg cur, ?_, .agg cells cur hci h3.symm (fun j t v ht hv => by obtain ⟨u, h5, h6⟩ := h4 j t ht; rw [h5] at hv; cases hv; exact h6)⟩
      simp only [oA, hv, asAddr, Sem.run_bind, Sem.run_pure, Result.andThen_ok, loadVar, kE hT, if_true, run_sizeOf w hie, hsz]
      have hl := run_loadCells_list (P := P) w ⟨b, 0, none⟩ cur.toList (fun j v hj => by rw [Addr.add_lit, Nat.zero_add, cell_of_row w b j cur e (0, 0) h2]; simpa using hj)
      rw [Array.length_toList, h3] at hl
      rw [hl]; simp [Result.andThen_ok]
  | cell1 x T s b c h hm hT =>
    have h0 := hs.env x _ h
    obtain ⟨⟨_, hci⟩, cur, e, h2, h3, h4⟩ := hs.mem.obj s b _ hm
    generalize hv : a.tmps.getD x undef = v at h0
    cases h0 with
    | mp s b q hb =>
      obtain ⟨u, h5, h6⟩ := h4 0 tv rfl
      refine ⟨u, ?_, h6⟩
      simp only [oA, hv, asAddr, Sem.run_bind, Sem.run_pure, Result.andThen_ok, loadVar, ft hT]
      show Sem.run P (load ⟨b, 0, none⟩) w = _
      rw [run_load, cell_of_row w b 0 cur e (0, 0) h2, h5]

theorem qE {fn : Func} {r : Nat → TV} {x : Exit} (hx : x = .normal ∨ x = .ret) {a : Act} {w : World} (hs : Sim w0 N env objs a w) {v : Value} (hr : (results fn a.tmps).run P w = .ok v w) (hv : ∀ L, L ≤ w0.heap.size → Rep w (dF w0.heap.size) (r L) v) : bodyPost P fn (x6 w0 r) x a w := by
  rcases hx with rfl | rfl
  · exact ⟨hs.defers, v, hr, v, rfl, hs.mem.below, hv⟩
  · exact ⟨hs.defers, v, hr, v, rfl, hs.mem.below, hv⟩
theorem ao {fn : Func} {r1 : ResultVar} {t1 : TV} {r : Nat → TV} {x : Exit} (hx : x = .normal ∨ x = .ret) (hres : fn.results = #[r1]) (h1 : RV P env objs r1 t1) (hf : ∀ L, Fin w0.heap.size objs L t1 (r L)) : AQ w0 N (bodyPost P fn (x6 w0 r)) x env objs := ⟨fun a w hs => by
  obtain ⟨v1, e1, g1⟩ := gU hs h1
  refine qE hx hs (v := v1) ?_ (fun L hL => jb hs.mem hL (hf L) g1)
  have : results fn a.tmps = (#[r1].mapM (oA a.tmps)) >>= fun vs => pure (if h : vs.size = 1 then vs[0] else .tuple vs) := by rw [← hres]; rfl
  rw [this]
  simp [e1]⟩
theorem q9 {w : World} {objs : bp} {t1 t2 : TV} {v1 v2 : Value} (h1 : Rep w objs t1 v1) (h2 : Rep w objs t2 v2) : Rep w objs (.tup [t1, t2]) (.tuple #[v1, v2]) :=
  .tup _ _ rfl fun i t v ht hv => by
    match i with
    | 0 => simp at ht hv; subst ht; subst hv; exact h1
    | 1 => simp at ht hv; subst ht; subst hv; exact h2
    | i + 2 => simp at ht
theorem vJ {w : World} {objs : bp} {t1 t2 t3 : TV} {v1 v2 v3 : Value} (h1 : Rep w objs t1 v1) (h2 : Rep w objs t2 v2) (h3 : Rep w objs t3 v3) : Rep w objs (.tup [t1, t2, t3]) (.tuple #[v1, v2, v3]) :=
  .tup _ _ rfl fun i t v ht hv => by
    match i with
    | 0 => simp at ht hv; subst ht; subst hv; exact h1
    | 1 => simp at ht hv; subst ht; subst hv; exact h2
    | 2 => simp at ht hv; subst ht; subst hv; exact h3
    | i + 3 => simp at ht
theorem dq {fn : Func} {r1 r2 : ResultVar} {t1 t2 : TV} {s1 s2 : Nat → TV} {x : Exit} (hx : x = .normal ∨ x = .ret) (hres : fn.results = #[r1, r2]) (h1 : RV P env objs r1 t1) (h2 : RV P env objs r2 t2) (hf1 : ∀ L, Fin w0.heap.size objs L t1 (s1 L)) (hf2 : ∀ L, Fin w0.heap.size objs L t2 (s2 L)) :
    AQ w0 N (bodyPost P fn (x6 w0 fun L => .tup [s1 L, s2 L])) x env objs := ⟨fun a w hs => by
  obtain ⟨v1, e1, g1⟩ := gU hs h1
  obtain ⟨v2, e2, g2⟩ := gU hs h2
  refine qE hx hs (v := .tuple #[v1, v2]) ?_ (fun L hL => q9 (jb hs.mem hL (hf1 L) g1) (jb hs.mem hL (hf2 L) g2))
  have : results fn a.tmps = (#[r1, r2].mapM (oA a.tmps)) >>= fun vs => pure (if h : vs.size = 1 then vs[0] else .tuple vs) := by rw [← hres]; rfl
  rw [this]
  simp [Sem.run_bind, e1, e2]⟩
theorem uu {fn : Func} {r1 r2 r3 : ResultVar} {t1 t2 t3 : TV} {s1 s2 s3 : Nat → TV} {x : Exit} (hx : x = .normal ∨ x = .ret) (hres : fn.results = #[r1, r2, r3]) (h1 : RV P env objs r1 t1) (h2 : RV P env objs r2 t2) (h3 : RV P env objs r3 t3)
    (hf1 : ∀ L, Fin w0.heap.size objs L t1 (s1 L)) (hf2 : ∀ L, Fin w0.heap.size objs L t2 (s2 L)) (hf3 : ∀ L, Fin w0.heap.size objs L t3 (s3 L)) : AQ w0 N (bodyPost P fn (x6 w0 fun L => .tup [s1 L, s2 L, s3 L])) x env objs := ⟨fun a w hs => by
  obtain ⟨v1, e1, g1⟩ := gU hs h1
  obtain ⟨v2, e2, g2⟩ := gU hs h2
  obtain ⟨v3, e3, g3⟩ := gU hs h3
  refine qE hx hs (v := .tuple #[v1, v2, v3]) ?_ (fun L hL => vJ (jb hs.mem hL (hf1 L) g1) (jb hs.mem hL (hf2 L) g2) (jb hs.mem hL (hf3 L) g3))
  have : results fn a.tmps = (#[r1, r2, r3].mapM (oA a.tmps)) >>= fun vs => pure (if h : vs.size = 1 then vs[0] else .tuple vs) := by rw [← hres]; rfl
  rw [this]
  simp [Sem.run_bind, e1, e2, e3]⟩

/- Calls. -/
inductive d7 (objs : bp) : TV → TV → Prop
  | same (t : TV) : d7 objs t t
  | ms (s b off len m : Nat) (rows live rows' : List (List TV)) (hm : (s, b, ca.row m rows) ∈ objs) (hle : off + len ≤ rows.length) (hlive : (rows.drop off).take len = live) (hl : rows'.map List.length = live.map List.length)
      (h : ∀ (j : Nat) (t t' : TV), live.flatten[j]? = some t → rows'.flatten[j]? = some t' → d7 objs t t') : d7 objs (.ms s b off len) (.sl 0 m rows')
  | mp (s b off : Nat) (cells l' : List TV) (hm : (s, b, ca.box cells) ∈ objs) (hl : l'.length = (cells.drop off).length) (h : ∀ (j : Nat) (t t' : TV), (cells.drop off)[j]? = some t → l'[j]? = some t' → d7 objs t t') : d7 objs (.mp s b off) (.cp 0 l')
  | me (s b m k j : Nat) (rows : List (List TV)) (r l' : List TV) (hm : (s, b, ca.row m rows) ∈ objs) (hr : rows[k]? = some r) (hl : l'.length = (r.drop j).length) (h : ∀ (i : Nat) (t t' : TV), (r.drop j)[i]? = some t → l'[i]? = some t' → d7 objs t t') : d7 objs (.me s b m k j) (.cp 0 l')
  | nils (m : Nat) : d7 objs .nils (.sl 0 m [])
  | agg (l l' : List TV) (hl : l'.length = l.length) (h : ∀ (j : Nat) (t t' : TV), l[j]? = some t → l'[j]? = some t' → d7 objs t t') : d7 objs (.agg l) (.agg l')
  | sl (f m : Nat) (rows rows' : List (List TV)) (hl : rows'.map List.length = rows.map List.length) (h : ∀ (j : Nat) (t t' : TV), rows.flatten[j]? = some t → rows'.flatten[j]? = some t' → d7 objs t t') : d7 objs (.sl f m rows) (.sl 0 m rows')
  | cp0 (f : Nat) (l : List TV) : d7 objs (.cp f l) (.cp 0 l)
  | cut (t : TV) (l l' : List TV) (h : d7 objs t (.cp 0 l)) (hp : l.take l'.length = l') : d7 objs t (.cp 0 l')
theorem d7.msSame {s b off len m : Nat} {rows live : List (List TV)} (hm : (s, b, ca.row m rows) ∈ objs) (hle : off + len ≤ rows.length) (hlive : (rows.drop off).take len = live) : d7 objs (.ms s b off len) (.sl 0 m live) :=
  .ms s b off len m rows live live hm hle hlive rfl fun j t t' h1 h2 => by rw [h1] at h2; cases h2; exact .same t
theorem d7.mpSame {s b off : Nat} {cells : List TV} (hm : (s, b, ca.box cells) ∈ objs) : d7 objs (.mp s b off) (.cp 0 (cells.drop off)) :=
  .mp s b off cells _ hm rfl fun j t t' h1 h2 => by rw [h1] at h2; cases h2; exact .same t
theorem d7.cell {t t' : TV} (h : d7 objs t t') (hc : t.isCell = true) : t'.isCell = true := by
  cases h <;> first | exact hc | rfl | cases hc
theorem cR {α : Type} {l l' : List α} (h : l'.length = l.length) {j : Nat} {t' : α} (hj : l'[j]? = some t') : ∃ t, l[j]? = some t :=
  ⟨_, List.getElem?_eq_getElem (by rw [← h]; exact (List.getElem?_eq_some_iff.1 hj).1)⟩
theorem oM (b : Nat) : ZZ [] 0 b := ⟨Nat.zero_le _, fun ha => by obtain ⟨_, s, o, hm⟩ := ha; simp at hm⟩
theorem uN {w : World} (hw : cV w0 objs w) {tv : TV} {l l' : List TV} {v : Value} (hp : oE w objs tv l) (hr : Rep w objs tv v) (hb : ∀ b q, v = .pointer (some ⟨b, q, none⟩) → b < w.heap.size) (hl : l'.length = l.length)
    (hc : ∀ (j : Nat) (t t' : TV), l[j]? = some t → l'[j]? = some t' → t.isCell = true → t'.isCell = true) (h : ∀ (j : Nat) (t t' : TV) (u : Value), l[j]? = some t → l'[j]? = some t' → Rep w objs t u → Rep w [] t' u) : Rep w [] (.cp 0 l') v := by
  obtain ⟨b, q, rfl, h1, h2⟩ := fk hw hp hr
  have key : ∀ j, ∃ u, ∀ t', l'[j]? = some t' → w.cell? ⟨b, q + j, none⟩ = some u ∧ Rep w [] t' u := fun j => by
    cases hj : l[j]? with
    | none => exact ⟨undef, fun t' ht => by obtain ⟨t, h3⟩ := cR hl ht; rw [hj] at h3; cases h3⟩
    | some t => obtain ⟨u, h3, h4⟩ := h2 j t hj; exact ⟨u, fun t' ht => ⟨h3, h j t t' u hj ht h4⟩⟩
  refine .cp 0 l' (fun t' ht => ?_) b q (fun j => Classical.choose (key j)) (oM b) (hb b q rfl) (fun j t hj => (Classical.choose_spec (key j) t hj).1) (fun j t hj => (Classical.choose_spec (key j) t hj).2)
  obtain ⟨j, hj, rfl⟩ := List.getElem_of_mem ht
  obtain ⟨t, h3⟩ := cR hl (List.getElem?_eq_getElem hj)
  exact hc j t _ h3 (List.getElem?_eq_getElem hj) (h1 t (List.mem_of_getElem? h3))
theorem xe {w : World} {f : Nat} {l : List TV} {v : Value} (h : Rep w [] (.cp f l) v) : Rep w [] (.cp 0 l) v := by
  cases h with
  | cp f l hi b o g hZ hb hc hr => exact .cp 0 l hi b o g (oM b) hb hc hr
theorem xB {w : World} {l l' : List TV} {v : Value} (hp : l.take l'.length = l') (h : Rep w [] (.cp 0 l) v) : Rep w [] (.cp 0 l') v := by
  have hget : ∀ (j : Nat) (t : TV), l'[j]? = some t → l[j]? = some t := fun j t hj => by
    rw [← hp, List.getElem?_take] at hj
    split at hj
    · exact hj
    · cases hj
  cases h with
  | cp f l hi b o g hZ hb hc hr => exact .cp 0 l' (fun t ht => hi t (by rw [← hp] at ht; exact List.mem_of_mem_take ht)) b o g hZ hb (fun j t hj => hc j t (hget j t hj)) (fun j t hj => hr j t (hget j t hj))
theorem rd {w : World} (hw : cV w0 objs w) {t t' : TV} {v : Value} (h : d7 objs t t') (hr : Rep w objs t v) : Rep w [] t' v := by
  induction h generalizing v with
  | same t => exact hr.bare
  | cp0 f l => exact xe hr.bare
  | cut t l l' h hp ih => exact xB hp (ih hr)
  | nils m => cases hr; exact .sl 0 m [] none 0 (Nat.le_refl _) (by simp) (by simp) (by simp) (fun _ => undef) (by simp) (by simp)
  | mp s b off cells l' hm hl h ih =>
    refine uN hw (.mp s b off cells hm) hr (fun b' q hv => ?_) hl (fun j t t' h1 h2 h3 => (h j t t' h1 h2).cell h3) (fun j t t' u h1 h2 h3 => ih j t t' h1 h2 h3)
    subst hv
    cases hr with
    | mp s b off h => exact h.1
  | me s b m k j rows r l' hm hk hl h ih =>
    refine uN hw (.me s b m k j rows r hm hk) hr (fun b' q hv => ?_) hl (fun j t t' h1 h2 h3 => (h j t t' h1 h2).cell h3) (fun j t t' u h1 h2 h3 => ih j t t' h1 h2 h3)
    subst hv
    cases hr with
    | me s b m k j h => exact h.1
  | agg l l' hl h ih =>
    cases hr with
    | agg l vs hi h1 h2 =>
      refine .agg l' vs (fun t' ht => ?_) (by omega) (fun i t' v ht hv => ?_)
      · obtain ⟨j, hj, rfl⟩ := List.getElem_of_mem ht
        obtain ⟨t, h3⟩ := cR hl (List.getElem?_eq_getElem hj)
        exact (h j t _ h3 (List.getElem?_eq_getElem hj)).cell (hi t (List.mem_of_getElem? h3))
      · obtain ⟨t, h3⟩ := cR hl ht
        exact ih i t t' h3 ht (h2 i t v h3 hv)
  | sl f m rows rows' hl h ih =>
    obtain ⟨A, c, rfl, g1, g2, g3, g4, g5⟩ := jr hr
    obtain ⟨e1, e2⟩ := jN hl
    have key : ∀ j, ∃ u, ∀ t', rows'.flatten[j]? = some t' → ∃ b q, A = some ⟨b, q, none⟩ ∧ w.cell? ⟨b, q + j, none⟩ = some u ∧ Rep w [] t' u := fun j => by
      cases hj : rows.flatten[j]? with
      | none => exact ⟨undef, fun t' ht => by obtain ⟨t, h1⟩ := cR e1 ht; rw [hj] at h1; cases h1⟩
      | some t =>
        obtain ⟨b, q, u, h1, h2, h3, h4⟩ := g5 j t hj
        exact ⟨u, fun t' ht => ⟨b, q, h1, h3, ih j t t' hj ht h4⟩⟩
    rw [← e2]
    refine .sl 0 m rows' A c (by omega) g2 (jI hl g3) (fun t' ht => ?_) (fun j => Classical.choose (key j)) (fun j t' hj => ?_) (fun j t' hj => ?_)
    · obtain ⟨j, hj, rfl⟩ := List.getElem_of_mem ht
      obtain ⟨t, h1⟩ := cR e1 (List.getElem?_eq_getElem hj)
      exact (h j t _ h1 (List.getElem?_eq_getElem hj)).cell (g4 t (List.mem_of_getElem? h1))
    · obtain ⟨b, q, h1, h3, _⟩ := Classical.choose_spec (key j) t' hj
      exact ⟨b, q, h1, oM b, h3⟩
    · obtain ⟨b, q, h1, _, h4⟩ := Classical.choose_spec (key j) t' hj
      exact h4
  | ms s b off len m rows live rows' hm hle hlive hl h ih =>
    subst hlive
    obtain ⟨⟨hm0, hci⟩, hmm, hor⟩ := hw.obj s b _ hm
    obtain ⟨e1, e2⟩ := jN hl
    have hll : ((rows.drop off).take len).length = len := by simp; omega
    have hlm : ∀ r ∈ (rows.drop off).take len, r ∈ rows := fun r hr => List.mem_of_mem_drop (List.mem_of_mem_take hr)
    have hcell : ∀ t' ∈ rows'.flatten, t'.isCell = true := fun t' ht => by
      obtain ⟨j, hj, rfl⟩ := List.getElem_of_mem ht
      obtain ⟨t, h1⟩ := cR e1 (List.getElem?_eq_getElem hj)
      obtain ⟨r, hr, htr⟩ := List.mem_flatten.1 (List.mem_of_getElem? h1)
      exact (h j t _ h1 (List.getElem?_eq_getElem hj)).cell (hci t (List.mem_flatten.2 ⟨r, hlm r hr, htr⟩))
    have hlen' : rows'.length = len := by rw [e2, hll]
    rcases (ot hr).or m rows hm with ⟨_, _, hlen, rfl⟩ | ⟨hb0, q, c, e, k, rfl, hlc, hsh, hk, ho⟩
    · subst hlen
      have : rows' = [] := List.eq_nil_of_length_eq_zero hlen'
      subst this
      exact .sl 0 m [] none 0 (Nat.le_refl _) (by simp) (by simp) (by simp) (fun _ => undef) (by simp) (by simp)
    · rcases hor with ⟨h0, _⟩ | ⟨hB, cur, e', cap, h3, h4, h5, h6, h7⟩
      · exact absurd h0 hb0
      have hcm : c ≤ maxLen := by
        have h8 : w.shape? b = some (e', cur.size) := by unfold World.shape?; rw [h3]
        rw [h8] at hsh
        simp only [Option.some.injEq, Prod.mk.injEq] at hsh
        have h9 : cap * m = (off + c) * m := by omega
        have := Nat.eq_of_mul_eq_mul_right hm0 h9
        omega
      have key : ∀ j, ∃ u, ∀ t', rows'.flatten[j]? = some t' → w.cell? ⟨b, q + j, none⟩ = some u ∧ Rep w [] t' u := fun j => by
        cases hj : ((rows.drop off).take len).flatten[j]? with
        | none => exact ⟨undef, fun t' ht => by obtain ⟨t, h1⟩ := cR e1 ht; rw [hj] at h1; cases h1⟩
        | some t =>
          have hlpos : 0 < len := by
            rcases Nat.eq_zero_or_pos len with h | h
            · subst h; simp at hj
            · exact h
          have hq := ho (.inl (by omega))
          have hj2 := hj
          rw [dc (fun r hr => hmm r (List.mem_of_mem_drop hr)), ey hmm, List.getElem?_take] at hj2
          split at hj2
          · rw [List.getElem?_drop] at hj2
            obtain ⟨u, p1, p2⟩ := h7 _ t hj2
            exact ⟨u, fun t' ht => ⟨by rw [cell_of_row w b _ cur e' (0, 0) h3, hq]; exact p1, ih j t t' hj ht p2⟩⟩
          · cases hj2
      have hres := Rep.sl (w := w) (objs := []) 0 m rows' (some ⟨b, q, none⟩) c (by omega) hcm (jI hl fun r hr => hmm r (hlm r hr)) hcell (fun j => Classical.choose (key j))
        (fun j t hj => ⟨b, q, rfl, oM b, (Classical.choose_spec (key j) t hj).1⟩) (fun j t hj => (Classical.choose_spec (key j) t hj).2)
      rw [hlen'] at hres
      exact hres

inductive dU (env : Env) (objs : bp) : List Operand → List TV → Prop
  | nil : dU env objs [] []
  | cons (x : Operand) (xs : List Operand) (t t' : TV) (ts : List TV) (h : ev env x = some t) (hv : d7 objs t t') (hr : dU env objs xs ts) : dU env objs (x :: xs) (t' :: ts)
theorem na {w : World} (hw : cV w0 objs w) {a : Act} {xs : List Operand} {ts : List TV} (h : dU env objs xs ts) (hop : ∀ x ∈ xs, ∀ v, ev env x = some v → Rep w objs v (a.eval x)) : (xs.map a.eval).length = ts.length ∧ ∀ (i : Nat) (t : TV) (v : Value), ts[i]? = some t → (xs.map a.eval)[i]? = some v → Rep w [] t v := by
  induction h with
  | nil => simp
  | cons x xs t t' ts h hv hr ih =>
    obtain ⟨h1, h2⟩ := ih (fun y hy => hop y (by simp [hy]))
    refine ⟨by simpa using h1, fun i u v hu hv' => ?_⟩
    cases i with
    | zero => simp at hu hv'; subst hu; subst hv'; exact rd hw hv (hop x (by simp) t h)
    | succ i => exact h2 i u v (by simpa using hu) (by simpa using hv')
def fD (P : Program) (f : Nat) : Bool := match P.funcs[f]? with
  | some fn => fn.name != "runtime.NumGoroutine" && fn.body.isSome
  | none => false
theorem ji {f : Nat} (h : fD P f = true) (args : Array Value) (w : World) : (callFunc f args).run P w = .ok (.enter f args) w := by
  unfold fD at h
  split at h
  · rename_i fn hf
    simp only [Bool.and_eq_true, bne_iff_ne, ne_eq] at h
    obtain ⟨h1, h2⟩ := h
    have h3 : fn.body.isNone = false := by cases hb : fn.body <;> simp_all
    simp [callFunc, Sem.run_bind, run_program, hf, h1, Sem.run_pure]
    intro hn; rw [hn] at h2; cases h2
  · cases h
theorem ki {f : Nat} {xs : List Operand} {ts : Array TypeId} (ho : o.op = .call { callee := .value (.func f), args := xs.toArray, argTypes := ts }) (hc : fD P f = true) (a : Act) (w : World) : (execOp a.eval o).run P w = .ok (.enter f (xs.map a.eval).toArray) w := by
  simp only [execOp, ho, resolve, Sem.run_bind, Sem.run_pure, Result.andThen_ok, Deferred.ofValue, Act.eval, invoke]
  simp [ji hc, List.map_toArray]
theorem tn {G : World → Prop} {f : Nat} {xs : List Operand} {ts : Array TypeId} {args : List TV} {r : Nat → TV} (ho : o.op = .call { callee := .value (.func f), args := xs.toArray, argTypes := ts }) (hc : fD P f = true) (hargs : dU env objs xs args) (hct : Ct P G f args r) (hG : G w0) (hst : aY G) :
    bs P w0 env objs o (r w0.heap.size) := fun a w K Q hw hop hK => by
  obtain ⟨h1, h2⟩ := na hw (a := a) hargs (fun x hx v hv => hop x (by simp [ho, Op.operands, Call.operands, hx]) v hv)
  unfold Oper.wp
  rw [ki ho hc]
  refine (hct w (xs.map a.eval).toArray (Nat.lt_of_lt_of_le hw.pos hw.below.size) (hst.below _ _ hG hw.below) (by simpa using h1) (fun i t v ht hv => h2 i t v ht (by simpa using hv))).mono ?_
  rintro e w' ⟨v, rfl, hb, hr⟩
  have hk : ∀ b, b < w.heap.size → w'.heap[b]? = w.heap[b]? := fun b hlt => hb.block b hlt
  have hbel : Below w0.heap.size w0 w' := hw.below.trans (hb.mono hw.below.size)
  exact hK v w' (Rep.ofOld (fun b ha => by obtain ⟨_, s, ob, hm⟩ := ha; exact cK hw hm) (hr _ hw.below.size)) (hw.grow hbel hb.size hk) (iB objs hb.size hk)
end

theorem uX {B : Nat} {objs : bp} {L : Nat} {k : IntKind} {m n : Int} (h : m = n) : Fin B objs L (.int k m) (.int k n) := h ▸ .int k m
theorem aZ {B : Nat} {objs : bp} {L : Nat} {m n : Bool} (h : m = n) : Fin B objs L (.bool m) (.bool n) := h ▸ .bool m
theorem wF {t : Nat} {env : Env} {k : IntKind} {m n : Int} (h : lk t env = some (.int k m)) (e : m = n) : lk t env = some (.int k n) := e ▸ h
theorem fN {t : Nat} {env : Env} {m n : Bool} (h : lk t env = some (.bool m)) (e : m = n) : lk t env = some (.bool n) := e ▸ h
theorem wA {t : Nat} {env : Env} {m n : ByteArray} (h : lk t env = some (.str m)) (e : m = n) : lk t env = some (.str n) := e ▸ h
theorem ya {w : World} {t : TV} {vs : Array Value} (hs : vs.size = [t].length) (h : ∀ (i : Nat) (u : TV) (v : Value), [t][i]? = some u → vs[i]? = some v → Rep w [] u v) : ∃ v, vs = #[v] ∧ Rep w [] t v := by
  match vs, hs with
  | ⟨[v]⟩, _ => exact ⟨v, rfl, h 0 t v rfl rfl⟩
theorem fc {P : Program} {G : World → Prop} {f : FuncId} {s : ByteArray} {b : Bool} (h : ∀ w, G w → Calls P f #[.string s] w fun e w' => e = .returned (.bool b) ∧ Below w.heap.size w w') : Ct P G f [.str s] (fun _ => .bool b) := fun w vs _ hG hs hr => by
  obtain ⟨v, rfl, h1⟩ := ya hs hr
  rw [h1.str_inv]
  refine (h w hG).mono ?_
  rintro e w' ⟨rfl, hb⟩
  exact ⟨_, rfl, hb, fun _ _ => .bool _⟩
theorem bg {α : Type} {f : α → List TV} {l : List α} {k : Nat} (h : k < l.length) : (l.map f)[k]? = some (f (l[k]'h)) := by rw [List.getElem?_map, List.getElem?_eq_getElem h]; rfl
theorem mh {x : Nat × Nat × ca} {l : bp} : x ∈ x :: l := List.mem_cons_self
theorem mt {x y : Nat × Nat × ca} {l : bp} (h : x ∈ l) : x ∈ y :: l := List.mem_cons_of_mem _ h
theorem eH {rows : List (List TV)} {r : List TV} {k : Nat} (h : k < rows.length) : (rows.set k r)[k]? = some r := List.getElem?_set_self h
theorem lb : (0 : Int) = ((0 : Nat) : Int) := rfl
theorem ll : (1 : Int) = ((1 : Nat) : Int) := rfl
theorem lp : (2 : Int) = ((2 : Nat) : Int) := rfl
theorem ld : (3 : Int) = ((3 : Nat) : Int) := rfl
theorem wJ {a b : Nat} (h : a + b ≤ 9223372036854775807) : IntKind.i64.wrap ((a : Int) + (b : Int)) = ((a + b : Nat) : Int) := by rw [IntWalk.i64_in _ (by omega)]; simp
theorem wB {a : Nat} (h : a + 1 ≤ 9223372036854775807) : IntKind.i64.wrap ((a : Int) + 1) = ((a + 1 : Nat) : Int) := by rw [IntWalk.i64_in _ (by omega)]; simp
theorem ws {a : Nat} (h : a + 2 ≤ 9223372036854775807) : IntKind.i64.wrap ((a : Int) + 2) = ((a + 2 : Nat) : Int) := by rw [IntWalk.i64_in _ (by omega)]; simp
theorem oy {a : Nat} (h : 1 ≤ a ∧ a ≤ 9223372036854775807) : IntKind.i64.wrap ((a : Int) - 1) = ((a - 1 : Nat) : Int) := by rw [IntWalk.i64_in _ (by omega)]; omega
theorem wC (n : Int) (h : 0 ≤ n ∧ n ≤ 255) : IntKind.u8.wrap n = n := by
  simp [IntKind.wrap, IntKind.bits, IntKind.signed]
  omega
section
variable {P : Program} {w0 : World} {N : Nat} {Q : Exit → Act → World → Prop} {env : Env} {objs : bp} {ops : Array Oper} {rest : List Oper} {d T0 : Nat} {pos : String} {af : Array Edge} {g : Option (Nat × Bool)}
theorem jR {x : Operand} {tv : TV} (hN : Nat.blt d N = true) (hx : ev env x = some tv) (h : AL P w0 N ops Q rest ((d, tv) :: env) objs) : AO P w0 N ops Q ⟨some d, .assign x, T0, pos, af, g⟩ rest env objs := sf rfl hN (rj rfl hx) h
theorem y0 {T : TypeId} {x : Operand} {tv : TV} {l : List TV} (hN : Nat.blt d N = true) (hx : ev env x = some tv) (hl : ed tv = some l) (h : AL P w0 N ops Q rest ((d, .cp w0.heap.size l) :: env) objs) : AO P w0 N ops Q ⟨some d, .box T x, T0, pos, af, g⟩ rest env objs := sf rfl hN (zu rfl hx hl) h
theorem zt {T : TypeId} {n m : Nat} {ps : List (Nat × Operand)} {rows : List (List TV)} (hN : Nat.blt d N = true) (hev : evL env ps 0 = some rows) (hT : P.underlying T = some (.slice (P.elem T))) (hI : (cJ P (P.elem T)).isSome = true) (_hs : esT T = some m) (hm : P.cellsOf (P.elem T) = m) (hm0 : Nat.blt 0 m = true) (hn : rows.length = n) (hbig : Nat.ble (n * m) 16777216 = true) (hall : (rows.all fun r => Nat.beq r.length m) = true) (h : AL P w0 N ops Q rest ((d, .sl w0.heap.size m rows) :: env) objs) : AO P w0 N ops Q ⟨some d, .buildSlice T n ps.toArray, T0, pos, af, g⟩ rest env objs := sf rfl hN (x2 rfl hT hI hm hm0 hev hn hbig hall) h
theorem yr {G : World → Prop} {f : Nat} {xs : List Operand} {ts : Array TypeId} {args : List TV} {r : Nat → TV} (hN : Nat.blt d N = true) (hc : fD P f = true) (hargs : dU env objs xs args) (hG : G w0) (hst : aY G) (hct : Ct P G f args r) (h : AL P w0 N ops Q rest ((d, r w0.heap.size) :: env) objs) : AO P w0 N ops Q ⟨some d, .call { callee := .value (.func f), args := xs.toArray, argTypes := ts }, T0, pos, af, g⟩ rest env objs := sf rfl hN (tn rfl hc hargs hct hG hst) h
end

def cC (ops : Array Oper) : Bool :=
  let B := Region.before ops
  (List.range ops.size).all fun j => match ops[j]? with
    | none => false
    | some oj => (oj.after.all fun e => !Region.binds .any e || Nat.blt e.on j) &&
      (List.range j).all fun i => match ops[i]? with
        | none => false
        | some oi =>
          (!(B.getD j 0).testBit i || oj.after.any fun e => Region.binds .any e && (Nat.beq e.on i || (Nat.blt i e.on && (B.getD e.on 0).testBit i))) &&
          (oi.apart ops oj || (B.getD j 0).testBit i)
section
variable {P : Program} {w0 : World} {N : Nat} {Q : Exit → Act → World → Prop} {objs : bp} {ops : Array Oper}

theorem bR (h : cC ops = true) {j : Nat} {oj : Oper} (hj : ops[j]? = some oj) : (∀ e ∈ oj.after, Region.binds .any e = true → e.on < j) ∧
    ∀ i oi, i < j → ops[i]? = some oi → (((Region.before ops).getD j 0).testBit i = true → ∃ e ∈ oj.after, Region.binds .any e = true ∧ (e.on = i ∨ (i < e.on ∧ ((Region.before ops).getD e.on 0).testBit i = true))) ∧ (oi.apart ops oj = true ∨ ((Region.before ops).getD j 0).testBit i = true) := by
  have hlt : j < ops.size := (Array.getElem?_eq_some_iff.1 hj).1
  unfold cC at h
  have h1 := List.all_eq_true.1 h j (List.mem_range.2 hlt)
  simp only [hj, Bool.and_eq_true] at h1
  obtain ⟨h2, h3⟩ := h1
  refine ⟨fun e he hb => ?_, fun i oi hij hi => ?_⟩
  · have := Array.all_eq_true_iff_forall_mem.1 h2 e he
    rw [hb] at this
    simpa [Nat.blt_eq] using this
  · have h4 := List.all_eq_true.1 h3 i (List.mem_range.2 hij)
    simp only [hi, Bool.and_eq_true, Bool.or_eq_true, Bool.not_eq_true'] at h4
    refine ⟨fun hb => ?_, h4.2⟩
    rcases h4.1 with h5 | h5
    · rw [h5] at hb; cases hb
    · obtain ⟨k, hk, h6⟩ := Array.any_eq_true.1 h5
      simp only [Bool.and_eq_true, Bool.or_eq_true] at h6
      exact ⟨_, Array.getElem_mem hk, h6.1, h6.2.imp Nat.eq_of_beq_eq_true fun h => ⟨by simpa [Nat.blt_eq] using h.1, h.2⟩⟩

def co (ops : Array Oper) (X : Nat → Prop) : Prop := ∀ j oj, ops[j]? = some oj → X j → ∀ e ∈ oj.after, Region.binds .any e = true → X e.on
theorem cQ (h : cC ops = true) {X : Nat → Prop} (hX : co ops X) : ∀ j, j < ops.size → X j → ∀ i, i < j → ((Region.before ops).getD j 0).testBit i = true → X i := by
  intro j
  induction j using Nat.strongRecOn with
  | _ j ih =>
    intro hj hx i hij hb
    have hoj : ops[j]? = some ops[j] := by simp [hj]
    have hoi : ops[i]? = some ops[i] := by simp [show i < ops.size by omega]
    obtain ⟨h1, h2⟩ := bR h hoj
    obtain ⟨e, he, hb2, h3⟩ := (h2 i _ hij hoi).1 hb
    have hxe := hX j _ hoj hx e he hb2
    have hej := h1 e he hb2
    rcases h3 with rfl | ⟨h4, h3⟩
    · exact hxe
    · exact ih e.on hej (by omega) hxe i h4 h3

def zm (ops : Array Oper) (env : Env) (o : Oper) : Prop := o.guard = none ∨ ∃ j b d, o.guard = some (j, b) ∧ (ops[j]?).bind (·.dst) = some d ∧ lk d env = some (.bool b)
def yo (ops : Array Oper) (env : Env) (o : Oper) : Prop := (∃ j b d, o.guard = some (j, !b) ∧ (ops[j]?).bind (·.dst) = some d ∧ lk d env = some (.bool b)) ∨ ∃ j c d, o.guard = some (j, c) ∧ (ops[j]?).bind (·.dst) = some d ∧ lk d env = some (.tup [])
inductive DR (P : Program) (w0 : World) (N : Nat) (ops : Array Oper) (objs : bp) (K : Env → Prop) : List Oper → Env → Prop
  | nil (env : Env) (h : K env) : DR P w0 N ops objs K [] env
  | run (o : Oper) (rest : List Oper) (env : Env) (d : Nat) (tv : TV) (hd : o.dst = some d) (hN : Nat.blt d N = true) (hg : zm ops env o) (hy : bs P w0 env objs o tv) (h : DR P w0 N ops objs K rest ((d, tv) :: env)) : DR P w0 N ops objs K (o :: rest) env
  | skip (o : Oper) (rest : List Oper) (env : Env) (d : Nat) (hd : o.dst = some d) (hN : Nat.blt d N = true) (hg : yo ops env o) (h : DR P w0 N ops objs K rest ((d, .tup []) :: env)) : DR P w0 N ops objs K (o :: rest) env
  | know (rest : List Oper) (env : Env) (t : Nat) (v v' : TV) (hv : lk t env = some v) (he : v = v') (h : DR P w0 N ops objs K rest ((t, v') :: env)) : DR P w0 N ops objs K rest env

def gw (P : Program) (w0 : World) (N : Nat) (ops : Array Oper) (objs : bp) (o : Oper) (env env' : Env) : Prop :=
  ∃ d tv, o.dst = some d ∧ d < N ∧ (∀ t, lk t env' = lk t ((d, tv) :: env)) ∧ ((zm ops env o ∧ bs P w0 env objs o tv) ∨ (yo ops env o ∧ tv = .tup []))
theorem rJ {K : Env → Prop} {l : List Oper} {env : Env} (h : DR P w0 N ops objs K l env) : ∃ σ : Nat → Env, (∀ t, lk t (σ 0) = lk t env) ∧ K (σ l.length) ∧ ∀ k o, l[k]? = some o → gw P w0 N ops objs o (σ k) (σ (k + 1)) := by
  induction h with
  | nil env h => exact ⟨fun _ => env, fun _ => rfl, h, by simp⟩
  | run o rest env d tv hd hN hg hy h ih =>
    obtain ⟨σ, h1, h2, h3⟩ := ih
    refine ⟨fun k => match k with | 0 => env | k + 1 => σ k, fun _ => rfl, h2, fun k o' hk => ?_⟩
    cases k with
    | zero => simp at hk; subst hk; exact ⟨d, tv, hd, Nat.blt_eq ▸ hN, h1, .inl ⟨hg, hy⟩⟩
    | succ k => exact h3 k o' (by simpa using hk)
  | skip o rest env d hd hN hg h ih =>
    obtain ⟨σ, h1, h2, h3⟩ := ih
    refine ⟨fun k => match k with | 0 => env | k + 1 => σ k, fun _ => rfl, h2, fun k o' hk => ?_⟩
    cases k with
    | zero => simp at hk; subst hk; exact ⟨d, .tup [], hd, Nat.blt_eq ▸ hN, h1, .inr ⟨hg, rfl⟩⟩
    | succ k => exact h3 k o' (by simpa using hk)
  | know rest env t v v' hv he h ih =>
    obtain ⟨σ, h1, h2, h3⟩ := ih
    refine ⟨σ, fun x => ?_, h2, h3⟩
    rw [h1, bL]
    split
    · rename_i e; subst e; rw [hv, he]
    · rfl

def bY (ops : Array Oper) (i t : Nat) : Prop := (ops[i]?).bind (·.dst) = some t
structure JX (w0 : World) (N : Nat) (ops : Array Oper) (objs : bp) (σ : Nat → Env) (X : Nat → Prop) (a : Act) (w : World) : Prop where
  defers : a.defers = []
  size : a.tmps.size = N
  mem : cV w0 objs w
  cut : ∀ t k, k ≤ ops.size → (∀ i, i < k → bY ops i t → X i) → (∀ i, k ≤ i → bY ops i t → ¬ X i) → ∀ v, lk t (σ k) = some v → Rep w objs v (a.tmps.getD t undef)

theorem eu (hok : cC ops = true) {i j : Nat} {oi oj : Oper} (hi : ops[i]? = some oi) (hj : ops[j]? = some oj) (hij : i < j) (hna : ¬ oi.apart ops oj = true) {X : Nat → Prop} (hX : co ops X) (hx : X j) : X i := by
  have h := ((bR hok hj).2 i oi hij hi).2
  exact cQ hok hX j (Array.getElem?_eq_some_iff.1 hj).1 hx i hij (h.resolve_left hna)
theorem gy {x y : Oper} {t : Nat} (hx : x.dst = some t) (hy : t ∈ y.looksAt ops) : ¬ x.apart ops y = true := fun h => by
  unfold Oper.apart at h
  rw [hx] at h
  simp only [Bool.and_eq_true, Bool.not_eq_true'] at h
  rw [List.contains_iff_mem.2 hy] at h
  simp at h
theorem fB {x y : Oper} {t : Nat} (hx : t ∈ x.looksAt ops) (hy : y.dst = some t) : ¬ x.apart ops y = true := fun h => by
  unfold Oper.apart at h
  rw [hy] at h
  simp only [Bool.and_eq_true, Bool.not_eq_true'] at h
  rw [List.contains_iff_mem.2 hx] at h
  simp at h
theorem dL {x y : Oper} {t : Nat} (hx : x.dst = some t) (hy : y.dst = some t) : ¬ x.apart ops y = true := fun h => by
  unfold Oper.apart at h
  rw [hx, hy] at h
  simp at h

theorem qy (hok : cC ops = true) {σ : Nat → Env} {X : Nat → Prop} {a : Act} {w : World} (hJ : JX w0 N ops objs σ X a w) (hX : co ops X) {i : Nat} {o : Oper} (hi : ops[i]? = some o) (hni : ¬ X i) (hX' : co ops fun k => k = i ∨ X k) {t : Nat} (ht : t ∈ o.looksAt ops) {v : TV} (hv : lk t (σ i) = some v) : Rep w objs v (a.tmps.getD t undef) := by
  refine hJ.cut t i (Nat.le_of_lt (Array.getElem?_eq_some_iff.1 hi).1) (fun k hk hw => ?_) (fun k hk hw hx => ?_) v hv
  · obtain ⟨ok, h1, h2⟩ := Option.bind_eq_some_iff.1 hw
    have := eu hok h1 hi hk (gy h2 ht) hX' (.inl rfl)
    rcases this with h | h
    · omega
    · exact h
  · obtain ⟨ok, h1, h2⟩ := Option.bind_eq_some_iff.1 hw
    rcases Nat.lt_or_ge i k with h | h
    · exact hni (eu hok hi h1 h (fB ht h2) hX hx)
    · exact hni ((Nat.le_antisymm h hk) ▸ hx)
theorem uY (hok : cC ops = true) {σ : Nat → Env} {X : Nat → Prop} {a : Act} {w w' : World} (hJ : JX w0 N ops objs σ X a w) (hX : co ops X) {i d : Nat} {o : Oper} {tv : TV} {v : Value} (hi : ops[i]? = some o) (hni : ¬ X i) (hd : o.dst = some d) (hdN : d < N)
    (hσ : ∀ k o, ops[k]? = some o → ∃ d tv, o.dst = some d ∧ ∀ t, lk t (σ (k + 1)) = lk t ((d, tv) :: σ k)) (hσi : ∀ t, lk t (σ (i + 1)) = lk t ((d, tv) :: σ i)) (hr : Rep w' objs tv v) (hw : cV w0 objs w') (hst : gT w objs w' objs) : JX w0 N ops objs σ (fun k => k = i ∨ X k) (a.put (some d) v) w' := by
  refine ⟨hJ.defers, by simp [Act.put, hJ.size], hw, fun t k hk h1 h2 u hu => ?_⟩
  show Rep w' objs u ((a.tmps.setIfInBounds d v).getD t undef)
  rw [eF (by rw [hJ.size]; exact hdN)]
  by_cases hdt : d = t
  · subst hdt
    rw [if_pos rfl]
    have hwi : bY ops i d := by unfold bY; rw [hi]; exact hd
    have hik : i < k := Nat.lt_of_not_le fun h => h2 i h hwi (.inl rfl)
    -- nobody else writes between
    have hlast : ∀ m, i + 1 ≤ m → m ≤ k → lk d (σ m) = some tv := fun m => by
      induction m with
      | zero => intro h; omega
      | succ m ih =>
        intro hm1 hm2
        rcases Nat.eq_or_lt_of_le hm1 with h | h
        · have : m = i := by omega
          subst this; rw [hσi, bL, if_pos rfl]
        · have hm : m < ops.size := by omega
          have hom : ops[m]? = some ops[m] := by simp [hm]
          obtain ⟨dm, tm, e1, e2⟩ := hσ m _ hom
          rw [e2, bL, if_neg]
          · exact ih (by omega) (by omega)
          · intro e
            subst e
            have hwm : bY ops m dm := by unfold bY; rw [hom]; exact e1
            rcases h1 m (by omega) hwm with h3 | h3
            · omega
            · exact hni (eu hok hi hom (by omega) (dL hd e1) hX h3)
    rw [hlast k hik (Nat.le_refl _)] at hu
    simp only [Option.some.injEq] at hu
    subst hu; exact hr
  · rw [if_neg hdt]
    refine (hJ.cut t k hk (fun m hm hwm => ?_) (fun m hm hwm hx => h2 m hm hwm (.inr hx)) u hu).step hst
    rcases h1 m hm hwm with h3 | h3
    · subst h3
      unfold bY at hwm
      rw [hi] at hwm
      simp only [Option.bind_some, hd, Option.some.injEq] at hwm
      exact absurd hwm hdt
    · exact h3

def bK (listed : Array Bool) : Nat := (listed.toList.filter (! ·)).length
theorem tC (hok : cC ops = true) {σ : Nat → Env} (hσ : ∀ k o, ops[k]? = some o → gw P w0 N ops objs o (σ k) (σ (k + 1))) (hQ : AQ w0 N Q .normal (σ ops.size) objs) :
    ∀ (fuel : Nat) (listed : Array Bool) (a : Act) (w : World), listed.size = ops.size → bK listed ≤ fuel → co ops (fun i => listed.getD i false = true) → JX w0 N ops objs σ (fun i => listed.getD i false = true) a w → wpAny P .any ops Q fuel listed a w := by
  have hσ' : ∀ k o, ops[k]? = some o → ∃ d tv, o.dst = some d ∧ ∀ t, lk t (σ (k + 1)) = lk t ((d, tv) :: σ k) := fun k o hk => by
    obtain ⟨d, tv, h1, _, h2, _⟩ := hσ k o hk; exact ⟨d, tv, h1, h2⟩
  -- when nothing comes up, all has been carried out
  have hend : ∀ (listed : Array Bool) (a : Act) (w : World), listed.size = ops.size → JX w0 N ops objs σ (fun i => listed.getD i false = true) a w → Region.ready .any ops listed = [] → Q .normal a w := by
    intro listed a w hsz hJ hr
    have hall : ∀ j, j < ops.size → listed.getD j false = true := by
      intro j
      induction j using Nat.strongRecOn with
      | _ j ih =>
        intro hj
        cases hb : listed.getD j false with
        | true => rfl
        | false =>
          have hoj : ops[j]? = some ops[j] := by simp [hj]
          have hmem : j ∈ Region.ready .any ops listed := mem_ready.2 ⟨by
            have hjl : j < listed.size := by omega
            simp only [Array.getD_eq_getD_getElem?, Array.getElem?_eq_getElem hjl, Option.getD_some] at hb ⊢; exact hb, _, hoj, fun e he hbd => ih e.on ((bR hok hoj).1 e he hbd) (Nat.lt_trans ((bR hok hoj).1 e he hbd) hj)⟩
          rw [hr] at hmem; cases hmem
    refine hQ.run a w ⟨hJ.defers, hJ.size, hJ.mem, fun t v hv => hJ.cut t ops.size (Nat.le_refl _) (fun i hi _ => hall i hi) (fun i hi hw => ?_) v hv⟩
    unfold bY at hw
    rw [Array.getElem?_eq_none hi] at hw
    cases hw
  intro fuel
  induction fuel with
  | zero =>
    intro listed a w hsz hun hX hJ
    have hr : Region.ready .any ops listed = [] := by
      cases hrd : Region.ready .any ops listed with
      | nil => rfl
      | cons j r =>
        exfalso
        have hj : j ∈ Region.ready .any ops listed := by rw [hrd]; exact List.mem_cons_self
        obtain ⟨h0, o, ho, _⟩ := mem_ready.1 hj
        have hjl : j < listed.size := by rw [hsz]; exact (Array.getElem?_eq_some_iff.1 ho).1
        have : listed[j] ∈ listed.toList.filter (! ·) := List.mem_filter.2 ⟨by simp, by
          simp only [Array.getD_eq_getD_getElem?, Array.getElem?_eq_getElem hjl, Option.getD_some] at h0; simp [h0]⟩
        have := List.length_pos_of_mem this
        unfold bK at hun; omega
    exact ⟨hr, hend listed a w hsz hJ hr⟩
  | succ fuel ih =>
    intro listed a w hsz hun hX hJ
    refine ⟨fun hr => hend listed a w hsz hJ hr, fun i hi => ?_⟩
    obtain ⟨h0, o, ho, hed⟩ := mem_ready.1 hi
    have hil : i < listed.size := by rw [hsz]; exact (Array.getElem?_eq_some_iff.1 ho).1
    have h0' : listed[i] = false := by simpa [Array.getD_eq_getD_getElem?, hil] using h0
    have hni : ¬ listed.getD i false = true := by simp [hil, h0']
    have hXeq : ∀ k, (listed.setIfInBounds i true).getD k false = true ↔ (k = i ∨ listed.getD k false = true) := fun k => by
      by_cases hk : k = i
      · subst hk; simp [hil]
      · rw [getD_set_ne false (Ne.symm hk)]; simp [hk]
    have hX' : co ops fun k => k = i ∨ listed.getD k false = true := fun j oj hj hx e he hb => by
      rcases hx with rfl | hx
      · rw [hj] at ho; cases ho; exact .inr (hed e he hb)
      · exact .inr (hX j oj hj hx e he hb)
    have hXs : co ops fun k => (listed.setIfInBounds i true).getD k false = true := fun j oj hj hx e he hb => (hXeq _).2 (hX' j oj hj ((hXeq _).1 hx) e he hb)
    have hun' : bK (listed.setIfInBounds i true) ≤ fuel := by
      have key : ∀ (l : List Bool) (i : Nat), l[i]? = some false → ((l.set i true).filter (! ·)).length + 1 = (l.filter (! ·)).length := fun l => by
        induction l with
        | nil => intro i h; simp at h
        | cons x l ih =>
          intro i h
          cases i with
          | zero => simp at h; subst h; simp
          | succ i =>
            have := ih i (by simpa using h)
            cases x <;> simp at this ⊢ <;> omega
      have := key listed.toList i (by simp [hil, h0'])
      unfold bK at hun ⊢
      simp only [Array.toList_setIfInBounds]
      omega
    have hnext : ∀ a' w', JX w0 N ops objs σ (fun k => k = i ∨ listed.getD k false = true) a' w' → wpAny P .any ops Q fuel (listed.setIfInBounds i true) a' w' := fun a' w' hJ' =>
      ih _ a' w' (by simpa using hsz) hun' hXs ⟨hJ'.defers, hJ'.size, hJ'.mem, fun t k hk h1 h2 v hv => hJ'.cut t k hk (fun m hm hw => (hXeq m).1 (h1 m hm hw)) (fun m hm hw hx => h2 m hm hw ((hXeq m).2 hx)) v hv⟩
    obtain ⟨d, tv, hd, hdN, hσi, hcase⟩ := hσ i o ho
    have hguard : ∀ j b c dj, o.guard = some (j, b) → (ops[j]?).bind (·.dst) = some dj → lk dj (σ i) = some (.bool c) → yielded ops a.tmps j = some c := fun j b c dj h1 h2 h3 => by
      have hl : dj ∈ o.looksAt ops := by unfold Oper.looksAt; rw [h1]; simp [h2]
      exact eW h2 (qy hok hJ hX ho hni hX' hl h3).bool_inv
    unfold wpOp
    rw [ho]
    rcases hcase with ⟨hg, hy⟩ | ⟨hg, rfl⟩
    · have hw : Region.wanted o (yielded ops a.tmps) = true := by
        rcases hg with hg | ⟨j, b, dj, h1, h2, h3⟩
        · simp [Region.wanted, hg]
        · simp [Region.wanted, h1, hguard j b b dj h1 h2 h3]
      simp only [hw, if_true]
      refine .inl (hy a w _ Q hJ.mem (fun x hx v hv => ?_) fun v w' hr hsw hst => ?_)
      · cases x with
        | tmp t =>
          have hl : t ∈ o.looksAt ops := by
            unfold Oper.looksAt
            exact List.mem_append_left _ (List.mem_filterMap.2 ⟨.tmp t, hx, rfl⟩)
          exact qy hok hJ hX ho hni hX' hl hv
        | const u => exact iN hv
        | func f => simp only [ev, Option.some.injEq] at hv; subst hv; exact .fn f [] #[] rfl (by simp)
        | global g => cases hv
      · rw [hd]
        exact hnext _ _ (uY hok hJ hX ho hni hd hdN hσ' hσi hr hsw hst)
    · have hw : Region.wanted o (yielded ops a.tmps) = false := by
        rcases hg with ⟨j, b, dj, h1, h2, h3⟩ | ⟨j, c, dj, h1, h2, h3⟩
        · cases b <;> simp [Region.wanted, h1, hguard j _ _ dj h1 h2 h3]
        · have hl : dj ∈ o.looksAt ops := by unfold Oper.looksAt; rw [h1]; simp [h2]
          simp [Region.wanted, h1, dZ h2 (qy hok hJ hX ho hni hX' hl h3).undef_inv]
      simp only [hw, Bool.false_eq_true, if_false]
      rw [hd]
      exact hnext _ _ (uY hok hJ hX ho hni hd hdN hσ' hσi (.tup [] #[] rfl (by simp)) hJ.mem (fA _ _))

theorem aF {id : Nat} {l : List Oper} {env : Env} (hm : P.follows .mixedOrders = true) (hok : cC l.toArray = true) (h : DR P w0 N l.toArray objs (fun env' => AQ w0 N Q .normal env' objs) l env) : AW P w0 N (.region id l.toArray true) Q env objs := ⟨fun a w hs => by
  obtain ⟨σ, h1, h2, h3⟩ := rJ h
  have hrep : ∀ i, (Array.replicate l.toArray.size false).getD i false = false := fun i => by
    rcases Nat.lt_or_ge i l.toArray.size with h | h
    · simp at h; simp [h]
    · simp at h; simp [Array.getD_eq_getD_getElem?, h]
  refine wp_region_any hm (tC hok (σ := σ) (fun k o hk => h3 k o (by simpa using hk)) (by simpa using h2) _ _ _ _ (by simp) (by simp [bK]) (fun j oj _ hx => nomatch (hrep j).symm.trans hx) ⟨hs.defers, hs.size, ?_, fun t k hk h4 h5 v hv => ?_⟩)
  · exact hs.mem.grow ⟨hs.mem.below.os, hs.mem.below.tape, hs.mem.below.output, hs.mem.below.size, hs.mem.below.block⟩ (Nat.le_refl _) (fun _ _ => rfl)
  · -- no writer of t stands before the cut
    have hk0 : ∀ m, m ≤ k → lk t (σ m) = lk t (σ 0) := fun m => by
      induction m with
      | zero => intro _; rfl
      | succ m ih =>
        intro hm2
        have hml : m < l.length := by simp at hk; omega
        obtain ⟨d, tv, e1, _, e2, _⟩ := h3 m l[m] (List.getElem?_eq_getElem hml)
        rw [e2, bL, if_neg]
        · exact ih (by omega)
        · intro e
          have := h4 m (by omega) (by unfold bY; simp [hml, e1, e])
          rw [hrep] at this; cases this
    rw [hk0 k (Nat.le_refl _), h1 t] at hv
    have hst : gT w objs { w with drawn := w.drawn + 1 } objs := ⟨fun _ _ _ => rfl, fun _ _ h => h, fun _ _ _ rows _ _ h => ⟨⟨rows, h⟩, rfl⟩, Nat.le_refl _, fun h => h⟩
    exact (hs.env t v hv).step hst⟩
end

def zF (l : List UInt8) : List (List TV) := l.map fun b => [TV.int .u8 (b.toNat : Int)]
def bv (l : List Int) : List (List TV) := l.map fun n => [TV.int .i64 n]
def cL (l : List ByteArray) : List (List TV) := l.map fun s => [TV.str s]
theorem db (l : List UInt8) : (zF l).length = l.length := by simp [zF]
theorem aS (l : List Int) : (bv l).length = l.length := by simp [bv]
theorem da (l : List ByteArray) : (cL l).length = l.length := by simp [cL]
theorem mG (l : List Int) (k : Nat) (n : Int) : (bv l).set k [TV.int .i64 n] = bv (l.set k n) := by simp [bv, List.map_set]
theorem f8 {l : List Int} {k : Nat} (h : k < l.length) : (bv l)[k]? = some [TV.int .i64 (l[k]'h)] := bg h
theorem jP {l : List ByteArray} {k : Nat} (h : k < l.length) : (cL l)[k]? = some [TV.str (l[k]'h)] := bg h
theorem jn (l : List Int) : (bv l).flatten = l.map (TV.int .i64) := by
  induction l with
  | nil => rfl
  | cons x l ih => simp only [bv, List.map_cons, List.flatten_cons] at *; rw [ih]; rfl
theorem hU (l : List Int) : ∀ t ∈ (bv l).flatten, t.flat = true := by
  rw [jn]; intro t ht; obtain ⟨n, _, rfl⟩ := List.mem_map.1 ht; rfl
section
variable {P : Program} {w0 : World} {N : Nat} {Q : Exit → Act → World → Prop} {env : Env} {objs : bp} {o : Oper}
end
def eU (ops : Array Oper) (k : Nat) : Bool :=
  let B := Region.before ops
  (List.range ops.size).all fun j => Nat.blt j k || (List.range j).all fun i => (B.getD j 0).testBit i
section
variable {P : Program} {w0 : World} {N : Nat} {Q : Exit → Act → World → Prop} {objs : bp} {ops : Array Oper} {env : Env}
theorem fj {k : Nat} (h : eU ops k = true) {j i : Nat} (hj : j < ops.size) (hk : k ≤ j) (hi : i < j) : ((Region.before ops).getD j 0).testBit i = true := by
  unfold eU at h
  have h1 := List.all_eq_true.1 h j (List.mem_range.2 hj)
  simp only [Bool.or_eq_true] at h1
  rcases h1 with h1 | h1
  · rw [Nat.blt_eq] at h1; omega
  · exact List.all_eq_true.1 h1 i (List.mem_range.2 hi)

theorem sj (hok : cC ops = true) {k : Nat} (htl : eU ops k = true) : ∀ (n m : Nat), m + n = ops.size → k ≤ m → ∀ (fuel : Nat) (listed : Array Bool) (a : Act) (w : World), listed.size = ops.size → n ≤ fuel → (∀ i, i < ops.size → (listed.getD i false = true ↔ i < m)) →
    wpList P ops Q (ops.toList.drop m) a w → wpAny P .any ops Q fuel listed a w := by
  intro n
  induction n with
  | zero =>
    intro m hm hkm fuel listed a w hsz hf hl h
    rw [List.drop_of_length_le (by simp; omega)] at h
    have hr : Region.ready .any ops listed = [] := by
      cases hrd : Region.ready .any ops listed with
      | nil => rfl
      | cons j r =>
        exfalso
        have hj : j ∈ Region.ready .any ops listed := by rw [hrd]; exact List.mem_cons_self
        obtain ⟨h0, o, ho, _⟩ := mem_ready.1 hj
        have hjl : j < ops.size := (Array.getElem?_eq_some_iff.1 ho).1
        have := (hl j hjl).2 (by omega)
        rw [Array.getD_eq_getD_getElem?, Array.getElem?_eq_getElem (by omega)] at this h0
        simp only [Option.getD_some] at this h0
        rw [this] at h0; cases h0
    have hq : Q .normal a w := h
    cases fuel with
    | zero => exact ⟨hr, hq⟩
    | succ fuel => exact ⟨fun _ => hq, fun i hi => by rw [hr] at hi; cases hi⟩
  | succ n ih =>
    intro m hm hkm fuel listed a w hsz hf hl h
    cases fuel with
    | zero => omega
    | succ fuel =>
    have hmlt : m < ops.size := by omega
    have hom : ops[m]? = some ops[m] := by simp [hmlt]
    have hX : ∀ i, i < ops.size → i < m → listed.getD i false = true := fun i hi him => (hl i hi).2 him
    have hready : m ∈ Region.ready .any ops listed := mem_ready.2 ⟨by
      have h1 : listed.getD m false ≠ true := fun h => by have := (hl m hmlt).1 h; omega
      rw [Array.getD_eq_getD_getElem?, Array.getElem?_eq_getElem (by omega)] at h1 ⊢
      simpa using h1, _, hom, fun e he hb => by
      have := (bR hok hom).1 e he hb
      exact hX e.on (by omega) this⟩
    refine ⟨fun hr => (by rw [hr] at hready; cases hready), fun i hi => ?_⟩
    obtain ⟨h0, o, ho, hed⟩ := mem_ready.1 hi
    have hil : i < ops.size := (Array.getElem?_eq_some_iff.1 ho).1
    have hnl : ¬ listed.getD i false = true := by
      rw [Array.getD_eq_getD_getElem?, Array.getElem?_eq_getElem (by omega)] at h0 ⊢
      simp only [Option.getD_some] at h0 ⊢
      rw [h0]; simp
    have him : m ≤ i := Nat.le_of_not_lt fun hlt => hnl (hX i hil hlt)
    have hie : i = m := by
      rcases Nat.eq_or_lt_of_le him with e | hlt
      · exact e.symm
      · exfalso
        have hb := fj htl hil (by omega) hlt
        obtain ⟨e, he, hb2, h3⟩ := ((bR hok ho).2 m _ hlt hom).1 hb
        have hel := hed e he hb2
        have hes := (bR hok ho).1 e he hb2
        have := (hl e.on (by omega)).1 hel
        omega
    subst hie
    rw [hom] at ho
    cases ho
    have hdrop : ops.toList.drop i = ops[i] :: ops.toList.drop (i + 1) := by
      rw [List.drop_eq_getElem_cons (by simpa using hmlt)]; simp
    rw [hdrop] at h
    have hnext : ∀ a w, wpList P ops Q (ops.toList.drop (i + 1)) a w → wpAny P .any ops Q fuel (listed.setIfInBounds i true) a w := fun a w hw => by
      refine ih (i + 1) (by omega) (by omega) fuel _ a w (by simpa using hsz) (by omega) (fun j hj => ?_) hw
      by_cases hji : j = i
      · subst hji; simp [Array.getD_eq_getD_getElem?, hsz, hj]
      · rw [getD_set_ne false (Ne.symm hji), hl j hj]; omega
    unfold wpOp
    rw [hom]
    dsimp only
    unfold wpList at h
    split at h
    · rename_i hw
      rw [if_pos hw]
      exact h.imp (Oper.wp_mono hnext) id
    · rename_i hw
      rw [if_neg hw]
      exact hnext _ _ h

structure JY (w0 : World) (N : Nat) (ops : Array Oper) (objs : bp) (σ : Nat → Env) (k : Nat) (X : Nat → Prop) (a : Act) (w : World) : Prop where
  defers : a.defers = []
  size : a.tmps.size = N
  mem : cV w0 objs w
  cut : ∀ t c, c ≤ k → (∀ i, i < c → bY ops i t → X i) → (∀ i, c ≤ i → i < k → bY ops i t → ¬ X i) → ∀ v, lk t (σ c) = some v → Rep w objs v (a.tmps.getD t undef)
theorem gN (hok : cC ops = true) {k : Nat} (hk : k ≤ ops.size) {σ : Nat → Env} {X : Nat → Prop} {a : Act} {w : World} (hJ : JY w0 N ops objs σ k X a w) (hX : co ops X) (_hXk : ∀ i, X i → i < k) {i : Nat} {o : Oper} (hi : ops[i]? = some o) (hik : i < k) (hni : ¬ X i) (hX' : co ops fun k => k = i ∨ X k) {t : Nat} (ht : t ∈ o.looksAt ops) {v : TV} (hv : lk t (σ i) = some v) : Rep w objs v (a.tmps.getD t undef) := by
  refine hJ.cut t i (Nat.le_of_lt hik) (fun k hk hw => ?_) (fun k hk hkk hw hx => ?_) v hv
  · obtain ⟨ok, h1, h2⟩ := Option.bind_eq_some_iff.1 hw
    have := eu hok h1 hi hk (gy h2 ht) hX' (.inl rfl)
    rcases this with h | h
    · omega
    · exact h
  · obtain ⟨ok, h1, h2⟩ := Option.bind_eq_some_iff.1 hw
    rcases Nat.lt_or_ge i k with h | h
    · exact hni (eu hok hi h1 h (fB ht h2) hX hx)
    · exact hni ((Nat.le_antisymm h hk) ▸ hx)
theorem np (hok : cC ops = true) {k : Nat} (hk : k ≤ ops.size) {σ : Nat → Env} {X : Nat → Prop} {a : Act} {w w' : World} (hJ : JY w0 N ops objs σ k X a w) (hX : co ops X) (_hXk : ∀ i, X i → i < k) {i d : Nat} {o : Oper} {tv : TV} {v : Value} (hi : ops[i]? = some o) (hik : i < k) (hni : ¬ X i) (hd : o.dst = some d) (hdN : d < N)
    (hσ : ∀ i o, i < k → ops[i]? = some o → gw P w0 N ops objs o (σ i) (σ (i + 1))) (hσi : ∀ t, lk t (σ (i + 1)) = lk t ((d, tv) :: σ i)) (hr : Rep w' objs tv v) (hw : cV w0 objs w') (hst : gT w objs w' objs) : JY w0 N ops objs σ k (fun k => k = i ∨ X k) (a.put (some d) v) w' := by
  refine ⟨hJ.defers, by simp [Act.put, hJ.size], hw, fun t c hc h1 h2 u hu => ?_⟩
  show Rep w' objs u ((a.tmps.setIfInBounds d v).getD t undef)
  rw [eF (by rw [hJ.size]; exact hdN)]
  by_cases hdt : d = t
  · subst hdt
    rw [if_pos rfl]
    have hwi : bY ops i d := by unfold bY; rw [hi]; exact hd
    have hic : i < c := Nat.lt_of_not_le fun h => h2 i h hik hwi (.inl rfl)
    have hlast : ∀ m, i + 1 ≤ m → m ≤ c → lk d (σ m) = some tv := fun m => by
      induction m with
      | zero => intro h; omega
      | succ m ih =>
        intro hm1 hm2
        rcases Nat.eq_or_lt_of_le hm1 with h | h
        · have : m = i := by omega
          subst this; rw [hσi, bL, if_pos rfl]
        · have hm : m < ops.size := by omega
          have hom : ops[m]? = some ops[m] := by simp [hm]
          obtain ⟨dm, tm, e1, _, e2, _⟩ := hσ m _ (by omega) hom
          rw [e2, bL, if_neg]
          · exact ih (by omega) (by omega)
          · intro e
            subst e
            have hwm : bY ops m dm := by unfold bY; rw [hom]; exact e1
            rcases h1 m (by omega) hwm with h3 | h3
            · omega
            · exact hni (eu hok hi hom (by omega) (dL hd e1) hX h3)
    rw [hlast c hic (Nat.le_refl _)] at hu
    simp only [Option.some.injEq] at hu
    subst hu; exact hr
  · rw [if_neg hdt]
    refine (hJ.cut t c hc (fun m hm hwm => ?_) (fun m hm hmk hwm hx => h2 m hm hmk hwm (.inr hx)) u hu).step hst
    rcases h1 m hm hwm with h3 | h3
    · subst h3
      unfold bY at hwm
      rw [hi] at hwm
      simp only [Option.bind_some, hd, Option.some.injEq] at hwm
      exact absurd hwm hdt
    · exact h3
theorem ib (hok : cC ops = true) {k : Nat} (hk : k ≤ ops.size) (htl : eU ops k = true) {σ : Nat → Env} (hQ : AL P w0 N ops Q (ops.toList.drop k) (σ k) objs) {fuel : Nat} {listed : Array Bool} {a : Act} {w : World} (hsz : listed.size = ops.size) (hun : bK listed ≤ fuel) (hXk : ∀ i, listed.getD i false = true → i < k)
    (hall : ∀ j, j < k → listed.getD j false = true) (hJ : JY w0 N ops objs σ k (fun i => listed.getD i false = true) a w) : wpAny P .any ops Q fuel listed a w := by
  refine sj hok htl (ops.size - k) k (by omega) (Nat.le_refl _) fuel listed a w hsz ?_ (fun i hi => ⟨hXk i, hall i⟩) (hQ.run a w ⟨hJ.defers, hJ.size, hJ.mem, fun t v hv => hJ.cut t k (Nat.le_refl _) (fun i hi _ => hall i hi) (fun i hi hik => by omega) v hv⟩)
  unfold bK at hun
  rw [← List.take_append_drop k listed.toList, List.filter_append, List.length_append] at hun
  have hd : (listed.toList.drop k).filter (! ·) = listed.toList.drop k := by
    rw [List.filter_eq_self]
    intro x hx
    obtain ⟨j, hj, rfl⟩ := List.getElem_of_mem hx
    rw [List.getElem_drop]
    simp only [List.length_drop, Array.length_toList] at hj
    have hnl : ¬ listed.getD (k + j) false = true := fun h => by have := hXk _ h; omega
    rw [Array.getD_eq_getD_getElem?, Array.getElem?_eq_getElem (by omega)] at hnl
    simpa using hnl
  rw [hd] at hun
  simp only [List.length_drop, Array.length_toList] at hun
  omega
theorem sX (hok : cC ops = true) {k : Nat} (hk : k ≤ ops.size) (htl : eU ops k = true) {σ : Nat → Env} (hσ : ∀ i o, i < k → ops[i]? = some o → gw P w0 N ops objs o (σ i) (σ (i + 1))) (_hnw : ∀ i o d, k ≤ i → ops[i]? = some o → o.dst = some d → True) (hQ : AL P w0 N ops Q (ops.toList.drop k) (σ k) objs) :
    ∀ (fuel : Nat) (listed : Array Bool) (a : Act) (w : World), listed.size = ops.size → bK listed ≤ fuel → (∀ i, listed.getD i false = true → i < k) → co ops (fun i => listed.getD i false = true) → JY w0 N ops objs σ k (fun i => listed.getD i false = true) a w → wpAny P .any ops Q fuel listed a w := by
  intro fuel
  induction fuel with
  | zero =>
    intro listed a w hsz hun hXk hX hJ
    by_cases hall : ∀ j, j < k → listed.getD j false = true
    · exact ib hok hk htl hQ hsz hun hXk hall hJ
    · exfalso
      apply hall
      intro j hj
      cases hb : listed.getD j false with
      | true => rfl
      | false =>
        exfalso
        have hjl : j < listed.size := by omega
        have : listed[j] ∈ listed.toList.filter (! ·) := List.mem_filter.2 ⟨by simp, by
          simp only [Array.getD_eq_getD_getElem?, Array.getElem?_eq_getElem hjl, Option.getD_some] at hb; simp [hb]⟩
        have := List.length_pos_of_mem this
        unfold bK at hun; omega
  | succ fuel ih =>
    intro listed a w hsz hun hXk hX hJ
    by_cases hall : ∀ j, j < k → listed.getD j false = true
    · exact ib hok hk htl hQ hsz hun hXk hall hJ
    have hsome : ∃ j, j < k ∧ ¬ listed.getD j false = true := by
      refine Classical.byContradiction fun hn => hall fun j hj => Classical.byContradiction fun h => hn ⟨j, hj, h⟩
    refine ⟨fun hr => ?_, fun i hi => ?_⟩
    · exfalso
      have hall2 : ∀ j, j < ops.size → listed.getD j false = true := by
        intro j
        induction j using Nat.strongRecOn with
        | _ j ih =>
          intro hj
          cases hb : listed.getD j false with
          | true => rfl
          | false =>
            have hoj : ops[j]? = some ops[j] := by simp [hj]
            have hmem : j ∈ Region.ready .any ops listed := mem_ready.2 ⟨by
              have hjl : j < listed.size := by omega
              simp only [Array.getD_eq_getD_getElem?, Array.getElem?_eq_getElem hjl, Option.getD_some] at hb ⊢; exact hb, _, hoj, fun e he hbd => ih e.on ((bR hok hoj).1 e he hbd) (Nat.lt_trans ((bR hok hoj).1 e he hbd) hj)⟩
            rw [hr] at hmem; cases hmem
      obtain ⟨j, hj, hnj⟩ := hsome
      exact hnj (hall2 j (by omega))
    · obtain ⟨h0, o, ho, hed⟩ := mem_ready.1 hi
      have hisz : i < ops.size := (Array.getElem?_eq_some_iff.1 ho).1
      have hil : i < listed.size := by rw [hsz]; exact hisz
      have h0' : listed[i] = false := by simpa [Array.getD_eq_getD_getElem?, hil] using h0
      have hni : ¬ listed.getD i false = true := by simp [hil, h0']
      have hXeq : ∀ k, (listed.setIfInBounds i true).getD k false = true ↔ (k = i ∨ listed.getD k false = true) := fun k => by
        by_cases hk : k = i
        · subst hk; simp [hil]
        · rw [getD_set_ne false (Ne.symm hk)]; simp [hk]
      have hX' : co ops fun k => k = i ∨ listed.getD k false = true := fun j oj hj hx e he hb => by
        rcases hx with rfl | hx
        · rw [hj] at ho; cases ho; exact .inr (hed e he hb)
        · exact .inr (hX j oj hj hx e he hb)
      have hik : i < k := Nat.lt_of_not_le fun hge => by
        obtain ⟨j, hj, hnj⟩ := hsome
        have := cQ hok hX' i hisz (.inl rfl) j (by omega) (fj htl hisz hge (by omega))
        rcases this with h | h
        · omega
        · exact hnj h
      have hXs : co ops fun k => (listed.setIfInBounds i true).getD k false = true := fun j oj hj hx e he hb => (hXeq _).2 (hX' j oj hj ((hXeq _).1 hx) e he hb)
      have hun' : bK (listed.setIfInBounds i true) ≤ fuel := by
        have key : ∀ (l : List Bool) (i : Nat), l[i]? = some false → ((l.set i true).filter (! ·)).length + 1 = (l.filter (! ·)).length := fun l => by
          induction l with
          | nil => intro i h; simp at h
          | cons x l ih =>
            intro i h
            cases i with
            | zero => simp at h; subst h; simp
            | succ i =>
              have := ih i (by simpa using h)
              cases x <;> simp at this ⊢ <;> omega
        have := key listed.toList i (by simp [hil, h0'])
        unfold bK at hun ⊢
        simp only [Array.toList_setIfInBounds]
        omega
      have hnext : ∀ a' w', JY w0 N ops objs σ k (fun k => k = i ∨ listed.getD k false = true) a' w' → wpAny P .any ops Q fuel (listed.setIfInBounds i true) a' w' := fun a' w' hJ' =>
        ih _ a' w' (by simpa using hsz) hun' (fun j hj => ((hXeq j).1 hj).elim (fun e => e ▸ hik) (hXk j)) hXs ⟨hJ'.defers, hJ'.size, hJ'.mem, fun t k hk h1 h2 v hv => hJ'.cut t k hk (fun m hm hw => (hXeq m).1 (h1 m hm hw)) (fun m hm hmk hw hx => h2 m hm hmk hw ((hXeq m).2 hx)) v hv⟩
      obtain ⟨d, tv, hd, hdN, hσi, hcase⟩ := hσ i o hik ho
      have hguard : ∀ j b c dj, o.guard = some (j, b) → (ops[j]?).bind (·.dst) = some dj → lk dj (σ i) = some (.bool c) → yielded ops a.tmps j = some c := fun j b c dj h1 h2 h3 => by
        have hl : dj ∈ o.looksAt ops := by unfold Oper.looksAt; rw [h1]; simp [h2]
        exact eW h2 (gN hok hk hJ hX hXk ho hik hni hX' hl h3).bool_inv
      unfold wpOp
      rw [ho]
      rcases hcase with ⟨hg, hy⟩ | ⟨hg, rfl⟩
      · have hw : Region.wanted o (yielded ops a.tmps) = true := by
          rcases hg with hg | ⟨j, b, dj, h1, h2, h3⟩
          · simp [Region.wanted, hg]
          · simp [Region.wanted, h1, hguard j b b dj h1 h2 h3]
        simp only [hw, if_true]
        refine .inl (hy a w _ Q hJ.mem (fun x hx v hv => ?_) fun v w' hr hsw hst => ?_)
        · cases x with
          | tmp t =>
            have hl : t ∈ o.looksAt ops := by
              unfold Oper.looksAt
              exact List.mem_append_left _ (List.mem_filterMap.2 ⟨.tmp t, hx, rfl⟩)
            exact gN hok hk hJ hX hXk ho hik hni hX' hl hv
          | const u => exact iN hv
          | func f => simp only [ev, Option.some.injEq] at hv; subst hv; exact .fn f [] #[] rfl (by simp)
          | global g => cases hv
        · rw [hd]
          exact hnext _ _ (np hok hk hJ hX hXk ho hik hni hd hdN hσ hσi hr hsw hst)
      · have hw : Region.wanted o (yielded ops a.tmps) = false := by
          rcases hg with ⟨j, b, dj, h1, h2, h3⟩ | ⟨j, c, dj, h1, h2, h3⟩
          · cases b <;> simp [Region.wanted, h1, hguard j _ _ dj h1 h2 h3]
          · have hl : dj ∈ o.looksAt ops := by unfold Oper.looksAt; rw [h1]; simp [h2]
            simp [Region.wanted, h1, dZ h2 (gN hok hk hJ hX hXk ho hik hni hX' hl h3).undef_inv]
        simp only [hw, Bool.false_eq_true, if_false]
        rw [hd]
        exact hnext _ _ (np hok hk hJ hX hXk ho hik hni hd hdN hσ hσi (.tup [] #[] rfl (by simp)) hJ.mem (fA _ _))

inductive Cut : Nat → List Oper → List Oper → List Oper → Prop
  | zero (l : List Oper) : Cut 0 l [] l
  | succ (n : Nat) (x : Oper) (l l1 l2 : List Oper) (h : Cut n l l1 l2) : Cut (n + 1) (x :: l) (x :: l1) l2
theorem Cut.eq {n : Nat} {l l1 l2 : List Oper} (h : Cut n l l1 l2) : l1 = l.take n ∧ l2 = l.drop n ∧ n ≤ l.length := by
  induction h with
  | zero l => simp
  | succ n x l l1 l2 h ih => obtain ⟨h1, h2, h3⟩ := ih; subst h1; subst h2; simp; exact h3
theorem mc (k : Nat) {id : Nat} {l l1 l2 : List Oper} {env : Env} (hm : P.follows .mixedOrders = true) (hok : cC l.toArray = true) (htl : eU l.toArray k = true) (hc : Cut k l l1 l2) (h : DR P w0 N l.toArray objs (fun env' => AL P w0 N l.toArray Q l2 env' objs) l1 env) : AW P w0 N (.region id l.toArray true) Q env objs := ⟨fun a w hs => by
  obtain ⟨e1, e2, hkl⟩ := hc.eq
  subst e1; subst e2
  obtain ⟨σ, h1, h2, h3⟩ := rJ h
  rw [List.length_take, Nat.min_eq_left hkl] at h2
  have hrep : ∀ i, (Array.replicate l.toArray.size false).getD i false = false := fun i => by
    rcases Nat.lt_or_ge i l.toArray.size with h | h
    · simp at h; simp [h]
    · simp at h; simp [Array.getD_eq_getD_getElem?, h]
  have h3' : ∀ i o, i < k → l[i]? = some o → gw P w0 N l.toArray objs o (σ i) (σ (i + 1)) := fun i o hi ho => h3 i o (by rw [List.getElem?_take, if_pos hi]; exact ho)
  refine wp_region_any hm (sX hok (k := k) (by simpa using hkl) htl (σ := σ) (fun i o hi hk => h3' i o hi (by simpa using hk)) (fun _ _ _ _ _ _ => trivial) (by simpa using h2) _ _ _ _ (by simp) (by simp [bK]) (fun i hi => by rw [hrep] at hi; cases hi) (fun j oj _ hx => nomatch (hrep j).symm.trans hx) ⟨hs.defers, hs.size, ?_, fun t c hc h4 h5 v hv => ?_⟩)
  · exact hs.mem.grow ⟨hs.mem.below.os, hs.mem.below.tape, hs.mem.below.output, hs.mem.below.size, hs.mem.below.block⟩ (Nat.le_refl _) (fun _ _ => rfl)
  · have hk0 : ∀ m, m ≤ c → lk t (σ m) = lk t (σ 0) := fun m => by
      induction m with
      | zero => intro _; rfl
      | succ m ih =>
        intro hm2
        have hml : m < l.length := by omega
        obtain ⟨d, tv, e1, _, e2, _⟩ := h3' m l[m] (by omega) (List.getElem?_eq_getElem hml)
        rw [e2, bL, if_neg]
        · exact ih (by omega)
        · intro e
          have := h4 m (by omega) (by unfold bY; simp [hml, e1, e])
          rw [hrep] at this; cases this
    rw [hk0 c (Nat.le_refl _), h1 t] at hv
    have hst : gT w objs { w with drawn := w.drawn + 1 } objs := ⟨fun _ _ _ => rfl, fun _ _ h => h, fun _ _ _ rows _ _ h => ⟨⟨rows, h⟩, rfl⟩, Nat.le_refl _, fun h => h⟩
    exact (hs.env t v hv).step hst⟩
end
section
variable {P : Program} {w0 : World} {N : Nat} {Q : Exit → Act → World → Prop} {env : Env} {objs : bp} {ops : Array Oper} {rest : List Oper} {d T0 : Nat} {pos : String} {af : Array Edge} {g : Option (Nat × Bool)} {K : Env → Prop}
theorem aN (h : AQ w0 N Q .normal env objs) : DR P w0 N ops objs (fun env2 => AQ w0 N Q .normal env2 objs) [] env := .nil env h
theorem pL {l2 : List Oper} {ops2 : Array Oper} (h : AL P w0 N ops2 Q l2 env objs) : DR P w0 N ops objs (fun env2 => AL P w0 N ops2 Q l2 env2 objs) [] env := .nil env h
structure DO (P : Program) (w0 : World) (N : Nat) (ops : Array Oper) (objs : bp) (K : Env → Prop) (o : Oper) (rest : List Oper) (env : Env) : Prop where
  run : zm ops env o → DR P w0 N ops objs K (o :: rest) env
theorem aE {o : Oper} (hg : o.guard = none) (h : DO P w0 N ops objs K o rest env) : DR P w0 N ops objs K (o :: rest) env := h.run (.inl hg)
theorem aX {o : Oper} {j dj : Nat} {b : Bool} {v : TV} (hg : o.guard = some (j, b)) (hj : (ops[j]?).bind (·.dst) = some dj) (hv : lk dj env = some v) (he : v = .bool b) (h : DO P w0 N ops objs K o rest env) : DR P w0 N ops objs K (o :: rest) env := h.run (.inr ⟨j, b, dj, hg, hj, by rw [hv, he]⟩)
theorem aV {o : Oper} {d dj j : Nat} {b c : Bool} {v : TV} (hg : o.guard = some (j, c)) (hj : (ops[j]?).bind (·.dst) = some dj) (hb : lk dj env = some v) (hv : v = .bool b) (hc : c = !b) (hd : o.dst = some d) (hN : Nat.blt d N = true) (h : DR P w0 N ops objs K rest ((d, .tup []) :: env)) : DR P w0 N ops objs K (o :: rest) env := .skip _ _ _ _ hd hN (.inl ⟨j, b, dj, by rw [hg, hc], hj, by rw [hb, hv]⟩) h
theorem jJ {o : Oper} {d dj j : Nat} {c : Bool} {v : TV} (hg : o.guard = some (j, c)) (hj : (ops[j]?).bind (·.dst) = some dj) (hb : lk dj env = some v) (hv : v = .tup []) (hd : o.dst = some d) (hN : Nat.blt d N = true) (h : DR P w0 N ops objs K rest ((d, .tup []) :: env)) : DR P w0 N ops objs K (o :: rest) env := .skip _ _ _ _ hd hN (.inr ⟨j, c, dj, hg, hj, by rw [hb, hv]⟩) h
theorem bJ {o : Oper} {j dj : Nat} {b : Bool} {p : Prop} {i : Decidable p} {v : TV} (_hg : o.guard = some (j, b)) (_hj : (ops[j]?).bind (·.dst) = some dj) (hv : lk dj env = some v) (he : v = .bool (@decide p i)) (ht : p → DR P w0 N ops objs K (o :: rest) ((dj, .bool true) :: env)) (hf : ¬ p → DR P w0 N ops objs K (o :: rest) ((dj, .bool false) :: env)) : DR P w0 N ops objs K (o :: rest) env := by
  by_cases h : p
  · exact .know _ _ dj v _ hv (by rw [he]; simp [h]) (ht h)
  · exact .know _ _ dj v _ hv (by rw [he]; simp [h]) (hf h)
theorem cF {o : Oper} {j dj : Nat} {b : Bool} {p : Prop} {i : Decidable p} {v : TV} (hg : o.guard = some (j, b)) (hj : (ops[j]?).bind (·.dst) = some dj) (hv : lk dj env = some v) (he : v = .bool (@decide p i)) (hp : p) (ht : DR P w0 N ops objs K (o :: rest) ((dj, .bool true) :: env)) : DR P w0 N ops objs K (o :: rest) env := bJ hg hj hv he (fun _ => ht) (fun h => absurd hp h)
theorem bW {o : Oper} {j dj : Nat} {b : Bool} {p : Prop} {i : Decidable p} {v : TV} (hg : o.guard = some (j, b)) (hj : (ops[j]?).bind (·.dst) = some dj) (hv : lk dj env = some v) (he : v = .bool (@decide p i)) (hp : ¬ p) (hf : DR P w0 N ops objs K (o :: rest) ((dj, .bool false) :: env)) : DR P w0 N ops objs K (o :: rest) env := bJ hg hj hv he (fun h => absurd h hp) (fun _ => hf)
theorem dD {o : Oper} {j dj : Nat} {b c : Bool} {v : TV} (_hg : o.guard = some (j, b)) (_hj : (ops[j]?).bind (·.dst) = some dj) (hv : lk dj env = some v) (he : v = .bool c) (ht : c = true → DR P w0 N ops objs K (o :: rest) ((dj, .bool true) :: env)) (hf : c = false → DR P w0 N ops objs K (o :: rest) ((dj, .bool false) :: env)) : DR P w0 N ops objs K (o :: rest) env := by
  cases c
  · exact .know _ _ dj v _ hv he (hf rfl)
  · exact .know _ _ dj v _ hv he (ht rfl)
theorem iz {T : TypeId} {x : Operand} {out : List TV} {f : Nat} {l : List TV} (hN : Nat.blt d N = true) (_hA : agT T = true) (hT : iy P T = true) (hi : (P.info? T).isSome = true) (hs : P.cellsOf T = szT T) (hx : ev env x = some (.cp f l)) (htk : er (szT T) (l) out) (h : DR P w0 N ops objs K rest ((d, .agg out) :: env)) : DO P w0 N ops objs K ⟨some d, .load T x, T0, pos, af, g⟩ rest env := ⟨fun hgr => .run _ _ _ _ _ rfl hN hgr (eL rfl hT hi hs hx (fun _ => .cp f l) htk) h⟩
theorem iA {T : TypeId} {x : Operand} {out : List TV} {s b off : Nat} {cells : List TV} (hN : Nat.blt d N = true) (_hA : agT T = true) (hT : iy P T = true) (hi : (P.info? T).isSome = true) (hs : P.cellsOf T = szT T) (hx : ev env x = some (.mp s b off)) (hm : (s, b, ca.box cells) ∈ objs) (htk : er (szT T) (cells.drop off) out) (h : DR P w0 N ops objs K rest ((d, .agg out) :: env)) : DO P w0 N ops objs K ⟨some d, .load T x, T0, pos, af, g⟩ rest env := ⟨fun hgr => .run _ _ _ _ _ rfl hN hgr (eL rfl hT hi hs hx (fun _ => .mp s b off cells hm) htk) h⟩
theorem zq {T : TypeId} {n m : Nat} {ps : List (Nat × Operand)} {rows : List (List TV)} (hN : Nat.blt d N = true) (hev : evL env ps 0 = some rows) (hT : P.underlying T = some (.slice (P.elem T))) (hI : (cJ P (P.elem T)).isSome = true) (_hs : esT T = some m) (hm : P.cellsOf (P.elem T) = m) (hm0 : Nat.blt 0 m = true) (hn : rows.length = n) (hbig : Nat.ble (n * m) 16777216 = true) (hall : (rows.all fun r => Nat.beq r.length m) = true) (h : DR P w0 N ops objs K rest ((d, .sl w0.heap.size m rows) :: env)) : DO P w0 N ops objs K ⟨some d, .buildSlice T n ps.toArray, T0, pos, af, g⟩ rest env := ⟨fun hgr => .run _ _ _ _ _ rfl hN hgr (x2 rfl hT hI hm hm0 hev hn hbig hall) h⟩
theorem wt {G : World → Prop} {f : Nat} {xs : List Operand} {ts : Array TypeId} {args : List TV} {r : Nat → TV} (hN : Nat.blt d N = true) (hc : fD P f = true) (hargs : dU env objs xs args) (hG : G w0) (hst : aY G) (hct : Ct P G f args r) (h : DR P w0 N ops objs K rest ((d, r w0.heap.size) :: env)) : DO P w0 N ops objs K ⟨some d, .call { callee := .value (.func f), args := xs.toArray, argTypes := ts }, T0, pos, af, g⟩ rest env := ⟨fun hgr => .run _ _ _ _ _ rfl hN hgr (tn rfl hc hargs hct hG hst) h⟩
theorem xr {T : TypeId} {zs : List TV} (hN : Nat.blt d N = true) (_he : zT T = zs) (hz : cJ P T = some zs) (h : ∀ ss b, AL P w0 N ops Q rest ((d, .mp ss b 0) :: env) ((ss, b, .box zs) :: objs)) : AO P w0 N ops Q ⟨some d, .alloc T, T0, pos, af, g⟩ rest env objs := vS rfl rfl hN hz h
theorem vC {T : TypeId} {n m : Nat} {ps : List (Nat × Operand)} {rows : List (List TV)} (hN : Nat.blt d N = true) (hev : evL env ps 0 = some rows) (hT : P.underlying T = some (.slice (P.elem T))) (hI : (cJ P (P.elem T)).isSome = true) (_hs : esT T = some m) (hm : P.cellsOf (P.elem T) = m) (hm0 : Nat.blt 0 m = true) (hn : rows.length = n) (hbig : Nat.ble (n * m) 16777216 = true) (hall : (rows.all fun r => Nat.beq r.length m) = true) (h : ∀ ss b, AL P w0 N ops Q rest ((d, .ms ss b 0 n) :: env) ((ss, b, .row m rows) :: objs)) : AO P w0 N ops Q ⟨some d, .buildSlice T n ps.toArray, T0, pos, af, g⟩ rest env objs := yn rfl rfl hN hT hI hm hm0 hev hn hbig hall h
theorem sS {T : TypeId} {x v : Operand} {s b off : Nat} {tv : TV} {cells vs cells2 : List TV} {objs2 : bp} (hx : ev env x = some (.mp s b off)) (hv : ev env v = some tv) (hc : ed tv = some vs) (hi : (P.info? T).isSome = true) (_hm : (s, b, ca.box cells) ∈ objs) (hsp : de cells off vs cells2) (hu : Upd (s, b, .box cells) (s, b, .box cells2) objs objs2) (hsz : P.cellsOf T = vs.length) (h : AL P w0 N ops Q rest env objs2) : AO P w0 N ops Q ⟨none, .store T x v, T0, pos, af, g⟩ rest env objs := pJ rfl rfl hx hv hc hi hsz hu hsp h
theorem sb {T : TypeId} {x v : Operand} {s b m j off : Nat} {tv : TV} {vs r r2 : List TV} {rows rows2 : List (List TV)} {objs2 : bp} (hx : ev env x = some (.me s b m j off)) (hv : ev env v = some tv) (hc : ed tv = some vs) (hi : (P.info? T).isSome = true) (_hm : (s, b, ca.row m rows) ∈ objs) (hr : rows[j]? = some r) (hsp : de r off vs r2) (hsz : P.cellsOf T = vs.length) (hrows : rows.set j r2 = rows2) (hu : Upd (s, b, .row m rows) (s, b, .row m rows2) objs objs2) (h : AL P w0 N ops Q rest env objs2) : AO P w0 N ops Q ⟨none, .store T x v, T0, pos, af, g⟩ rest env objs := pS rfl rfl hx hv hc hi hsz hu hr hsp hrows h
theorem fg {objsOf : Nat → bp} {T s b len n m : Nat} {x y : Operand} {f : Nat} {rows rows2 news : List (List TV)} (hN : Nat.blt d N = true) (hx : ev env x = some (.ms s b 0 len)) (hy : ev env y = some (.sl f m news)) (hT : nY P T m = true) (_hm : (s, b, ca.row m rows) ∈ objs) (hl : rows.length = len) (hn : news.length = n) (hbig : len + n ≤ 1000000000) (hrows : rows ++ news = rows2) (hu : ∀ b2, Upd (s, b, .row m rows) (s, b2, .row m rows2) objs (objsOf b2)) (h : ∀ b2, AL P w0 N ops Q rest ((d, .ms s b2 0 (len + n)) :: env) (objsOf b2)) : AO P w0 N ops Q ⟨some d, .call { callee := .builtin .append, args := #[x, y], argTypes := #[T, T] }, T0, pos, af, g⟩ rest env objs := uL rfl rfl hN hx hy hT (by omega) hn hbig (by rw [← hl, List.take_length]; exact hrows) hu h
end
section
variable {P : Program} {w0 : World} {N : Nat} {Q : Exit → Act → World → Prop} {env : Env} {objs : bp} {o : Oper}
def gj (P : Program) (T : Nat) : Option (List (Nat × Nat)) := match P.underlying T with
  | some (.struct fields) => fields.toList.mapM fun f => (P.info? f.type).map fun i => (f.offset, i.size)
  | _ => none
inductive TB (P : Program) (env : Env) (T : Nat) : List (Nat × Operand) → List TV → List TV → Prop
  | nil (l : List TV) : TB P env T [] l l
  | cons (i : Nat) (x : Operand) (r : List (Nat × Operand)) (l l1 l2 : List TV) (tv : TV) (vs : List TV) (hx : ev env x = some tv) (hc : ed tv = some vs) (hs : de l (ofT T i) vs l1) (hF : (gj P T).bind (·[i]?) = some (ofT T i, vs.length)) (hr : TB P env T r l1 l2) : TB P env T ((i, x) :: r) l l2
theorem wX {w : World} {T : Nat} (a : Act) {places : List (Nat × Nat)} (hp : gj P T = some places) {ps : List (Nat × Operand)} {l l2 : List TV} (h : TB P env T ps l l2) : ∀ (cs : Array Value), cs.size = l.length → (∀ (i : Nat) (t : TV) (u : Value), l[i]? = some t → cs[i]? = some u → Rep w objs t u) → (∀ t ∈ l, t.isCell = true) →
    (∀ p ∈ ps, ∀ v, ev env p.2 = some v → Rep w objs v (a.eval p.2)) → ∃ r, Instr.fill (places.toArray[·]?) cs (ps.map fun p => (p.1, a.eval p.2)) = some r ∧ r.size = l2.length ∧ (∀ (i : Nat) (t : TV) (u : Value), l2[i]? = some t → r[i]? = some u → Rep w objs t u) ∧ ∀ t ∈ l2, t.isCell = true := by
  induction h with
  | nil l => exact fun cs h1 h2 h3 _ => ⟨cs, rfl, h1, h2, h3⟩
  | cons i x r l l1 l2 tv vs hx hc hs hF hr ih =>
    intro cs h1 h2 h3 hop
    obtain ⟨g1, g2, g3⟩ := fW (show Rep w objs tv (a.eval x) from hop (i, x) (by simp) tv hx) hc
    obtain ⟨p1, p2, p3⟩ := hs.spec
    rw [hp] at hF
    simp only [Option.bind_some] at hF
    obtain ⟨f1, f2⟩ := Great.foldl_set (ofT T i) (a.eval x).cells.toList 0 cs
    have hsame : (a.eval x).cells.zipIdx.foldl (fun cs (c, j) => cs.setIfInBounds (ofT T i + j) c) cs = ((a.eval x).cells.toList.zipIdx 0).foldl (fun cs (x : Value × Nat) => cs.setIfInBounds (ofT T i + x.2) x.1) cs := by
      rw [← Array.foldl_toList, Array.toList_zipIdx]
    obtain ⟨r', e1, e2, e3⟩ := ih (((a.eval x).cells.toList.zipIdx 0).foldl (fun cs (x : Value × Nat) => cs.setIfInBounds (ofT T i + x.2) x.1) cs) (by rw [f1, h1, p2]) (fun k t u ht hu => by
      rw [f2] at hu
      rw [p3] at ht
      by_cases hin : ofT T i ≤ k ∧ k < ofT T i + vs.length
      · rw [if_pos hin] at ht
        rw [if_pos ⟨by omega, by simp; omega, by omega⟩] at hu
        exact g2 _ t u ht (by simpa using hu)
      · rw [if_neg hin] at ht
        rw [if_neg (by simp; omega)] at hu
        exact h2 k t u ht hu) (fun t ht => by
      obtain ⟨k, hk, rfl⟩ := List.getElem_of_mem ht
      have h5 := p3 k
      rw [List.getElem?_eq_getElem hk] at h5
      split at h5
      · exact g3 _ (List.mem_of_getElem? h5.symm)
      · exact h3 _ (List.mem_of_getElem? h5.symm)) (fun p hp => hop p (by simp [hp]))
    refine ⟨r', ?_, e2, e3⟩
    simp only [List.map_cons, Instr.fill]
    have hpl : places.toArray[i]? = some (ofT T i, vs.length) := by simpa using hF
    rw [hpl]
    simp only
    rw [if_neg (by simp; omega), hsame]
    exact e1
theorem tL {T : TypeId} {ps : List (Nat × Operand)} {l : List TV} (ho : o.op = .build T ps.toArray) (hz : cJ P T = some (zT T)) (hp : (gj P T).isSome = true) (hb : TB P env T ps (zT T) l) : bs P w0 env objs o (.agg l) := a6 fun a w hw hop => by
  obtain ⟨places, hp⟩ := Option.isSome_iff_exists.1 hp
  have hz0 := hz
  unfold cJ at hz
  cases hi : P.info? T with
  | none => rw [hi] at hz; cases hz
  | some it =>
  rw [hi] at hz
  simp only [Option.bind_some] at hz
  cases hzz : it.zero with
  | none => rw [hzz] at hz; cases hz
  | some z =>
  rw [hzz] at hz
  simp only [Option.bind_some] at hz
  have htv := ja (w := w) (objs := objs) hz
  obtain ⟨r, e1, e2, e3, e4⟩ := wX (w := w) (objs := objs) a hp hb z.cells (by simpa using htv.1.1.symm) (fun i t u ht hu => htv.2 i t u ht (by simpa using hu)) htv.1.2 (fun p hpm v hv => hop p.2 (by
    simp only [ho, Op.operands, List.toList_toArray]; exact List.mem_map.2 ⟨p, hpm, rfl⟩) v hv)
  refine ⟨.agg r, ?_, .agg l r e4 e2.symm e3⟩
  simp only [execOp, ho]
  refine cq (run_build w T _ r ?_)
  unfold gj at hp
  unfold Program.built
  cases hu : P.underlying T with
  | none => rw [hu] at hp; cases hp
  | some d =>
    rw [hu] at hp
    cases d <;> first | (cases hp; done) | skip
    simp only [hi, hzz, hp]
    simp only [List.map_toArray]
    exact e1
variable {ops : Array Oper} {rest : List Oper} {d T0 : Nat} {pos : String} {af : Array Edge} {g : Option (Nat × Bool)}
theorem wP {T : TypeId} {ps : List (Nat × Operand)} {zs l : List TV} (hN : Nat.blt d N = true) (he : zT T = zs) (hb : TB P env T ps zs l) (hz : cJ P T = some (zT T)) (hp : (gj P T).isSome = true) (h : AL P w0 N ops Q rest ((d, .agg l) :: env) objs) : AO P w0 N ops Q ⟨some d, .build T ps.toArray, T0, pos, af, g⟩ rest env objs := sf rfl hN (tL rfl hz hp (by rw [he]; exact hb)) h
end
section
variable {P : Program} {w0 : World} {N : Nat} {Q : Exit → Act → World → Prop} {env : Env} {objs : bp} {o : Oper}
theorem rX {T : TypeId} {x lo : Operand} {s b off len m : Nat} {rows : List (List TV)} {k1 : IntKind} {n : Int} {i : Nat} (ho : o.op = .slice T x (some lo) none none) (hx : ev env x = some (.ms s b off len)) (hlo : ev env lo = some (.int k1 n))
    (hobj : (s, b, ca.row m rows) ∈ objs) (hT : P.underlying T = some (.slice (P.elem T))) (hI : (P.info? (P.elem T)).isSome = true) (hm : P.cellsOf (P.elem T) = m) (hn : n = (i : Int)) (hi : i ≤ len) :
    bs P w0 env objs o (.ms s b (off + i) (len - i)) := a6 fun a w hw hop => by
  have h0 := hop x (ea ho) _ hx
  have h1 := (hop lo (by simp [ho, Op.operands]) _ hlo).int_inv
  have huniq : ∀ m' rows', (s, b, ca.row m' rows') ∈ objs → m' = m := fun m' rows' h' => by
    have key : ∀ (l : bp), List.Pairwise (fun (x y : Nat × Nat × ca) => x.1 ≠ y.1 ∧ (x.2.1 ≠ y.2.1 ∨ x.2.1 = 0)) l → (s, b, ca.row m rows) ∈ l → (s, b, ca.row m' rows') ∈ l → m' = m := fun l => by
      induction l with
      | nil => intro _ h; simp at h
      | cons z l ih =>
        intro hp h1 h2
        obtain ⟨g1, g2⟩ := List.pairwise_cons.1 hp
        rcases List.mem_cons.1 h1 with e1 | h1'
        · rcases List.mem_cons.1 h2 with e2 | h2'
          · rw [← e1] at e2
            simp only [Prod.mk.injEq, ca.row.injEq] at e2
            exact e2.2.2.1
          · exact absurd (by rw [← e1]) (g1 _ h2').1
        · rcases List.mem_cons.1 h2 with e2 | h2'
          · exact absurd (by rw [← e2]) (g1 _ h1').1
          · exact ih g2 h1' h2'
    exact key objs hw.sites hobj h'
  generalize hv : a.eval x = v at h0
  cases h0 with
  | ms s b off len v h =>
    have hor := h.or
    obtain ⟨⟨hb, hmk, _⟩, _⟩ := h
    cases hie : P.info? (P.elem T) with
    | none => rw [hie] at hI; cases hI
    | some ie =>
    rcases hor m rows hobj with ⟨e0, e1, e2, e3⟩ | ⟨hb0, q, c, e, nn, h2, h3, h4, h5, h6⟩
    · subst e0; subst e1; subst e2; subst e3
      obtain rfl : i = 0 := by omega
      refine ⟨.slice none 0 0, ?_, .ms s 0 0 0 _ (.mk ⟨hb, hmk, none, 0, by simp⟩ (fun _ _ _ => .inl ⟨rfl, rfl, rfl, rfl⟩) (fun _ => ⟨rfl, rfl, rfl⟩))⟩
      simp only [execOp, ho, h1, hv, Option.map_some, Option.map_none]
      refine cq ?_
      rw [run_sliceAt_slice w T _ _ _ _ hT, run_slice_l w T none 0 0 hT k1 n (by omega) (by omega), run_sizeOf w hie]
      subst hn
      simp [Result.andThen_ok, sliced]
    · subst h2
      refine ⟨.slice (if c = i then some ⟨b, q, none⟩ else some ⟨b, q + i * m, none⟩) (len - i) (c - i), ?_, .ms s b (off + i) (len - i) _ (.mk ⟨hb, hmk, _, _, rfl⟩ (fun m' rows' hm' => .inr ⟨hb0, if c = i then q else q + i * m, c - i, e, nn, ?_, by omega, h4, ?_, fun hor => ?_⟩) (fun h0 => absurd h0 hb0))⟩
      · simp only [execOp, ho, h1, hv, Option.map_some, Option.map_none]
        refine cq ?_
        rw [run_sliceAt_slice w T _ _ _ _ hT, run_slice_l w T _ len c hT k1 n (by omega) (by omega), run_sizeOf w hie, hm]
        subst hn
        simp [Result.andThen_ok, sliced, Addr.add_lit]
      · split <;> rfl
      · obtain rfl := huniq m' rows' hm'
        rw [h5]; congr 1; omega
      · obtain rfl := huniq m' rows' hm'
        by_cases hc : c = i
        · rw [if_pos hc]
          have : off = 0 := by omega
          have h7 := h6 (.inr this)
          rw [h7]; congr 1; omega
        · rw [if_neg hc]
          have h7 := h6 (.inl (by omega))
          rw [h7, Nat.add_mul]
theorem sC {ops : Array Oper} {rest : List Oper} {d T0 : Nat} {pos : String} {af : Array Edge} {g : Option (Nat × Bool)} {T : TypeId} {x lo : Operand} {s b off len m : Nat} {rows : List (List TV)} {k1 : IntKind} {n : Int} {i : Nat} (hN : Nat.blt d N = true) (hx : ev env x = some (.ms s b off len)) (hlo : ev env lo = some (.int k1 n))
    (hobj : (s, b, ca.row m rows) ∈ objs) (hT : P.underlying T = some (.slice (P.elem T))) (hI : (P.info? (P.elem T)).isSome = true) (hm : P.cellsOf (P.elem T) = m) (hn : n = (i : Int)) (hi : i ≤ len) (h : AL P w0 N ops Q rest ((d, .ms s b (off + i) (len - i)) :: env) objs) :
    AO P w0 N ops Q ⟨some d, .slice T x (some lo) none none, T0, pos, af, g⟩ rest env objs := sf rfl hN (rX rfl hx hlo hobj hT hI hm hn hi) h
theorem rA {zs : List TV} {m : Nat} (hm : zs.length = m) (hm0 : 0 < m) : ∀ (n j : Nat) (t : TV), (List.replicate n zs).flatten[j]? = some t → j < n * m ∧ zs[j % m]? = some t
  | 0, j, t, h => by simp at h
  | n + 1, j, t, h => by
    rw [List.replicate_succ, List.flatten_cons] at h
    by_cases hj : j < m
    · rw [List.getElem?_append_left (by omega)] at h
      rw [Nat.mod_eq_of_lt hj]
      refine ⟨?_, h⟩
      rw [Nat.succ_mul]; omega
    · rw [List.getElem?_append_right (by omega), hm] at h
      obtain ⟨h1, h2⟩ := rA hm hm0 n (j - m) t h
      refine ⟨by rw [Nat.succ_mul]; omega, ?_⟩
      rw [Nat.mod_eq_sub_mod (by omega)]; exact h2
def xq (P : Program) (T m : Nat) : Bool := match P.info? (P.elem T) with
  | some i => Nat.beq i.size m && Nat.ble i.bytes 1024
  | none => false
theorem wN {ops : Array Oper} {rest : List Oper} {d : Nat} {T : TypeId} {x : Operand} {k : IntKind} {mi : Int} {n m : Nat} {zs : List TV} (ho : o.op = .makeSlice T x x) (hd : o.dst = some d) (hN : Nat.blt d N = true) (hx : ev env x = some (.int k mi)) (hn : mi = (n : Int))
    (hT : P.underlying T = some (.slice (P.elem T))) (hz : cJ P (P.elem T) = some zs) (hm : zs.length = m) (hm0 : Nat.blt 0 m = true) (hB : xq P T m = true) (hbig : n ≤ 1000000000)
    (h : ∀ ss b, AL P w0 N ops Q rest ((d, .ms ss b 0 n) :: env) ((ss, b, .row m (List.replicate n zs)) :: objs)) : AO P w0 N ops Q o rest env objs := ⟨fun a w K hs hK => by
    obtain ⟨ss, hf⟩ := fp objs
    have hm0' : 0 < m := Nat.blt_eq ▸ hm0
    have hv := (dY hs hx).int_inv
    unfold cJ at hz
    cases hie : P.info? (P.elem T) with
    | none => rw [hie] at hz; cases hz
    | some i =>
    rw [hie] at hz
    simp only [Option.bind_some] at hz
    cases hzz : i.zero with
    | none => rw [hzz] at hz; cases hz
    | some z =>
    rw [hzz] at hz
    simp only [Option.bind_some] at hz
    have hB' : i.size = m ∧ i.bytes ≤ 1024 := by
      unfold xq at hB
      rw [hie] at hB
      simp only [Bool.and_eq_true] at hB
      exact ⟨Nat.eq_of_beq_eq_true hB.1, Nat.le_of_ble_eq_true hB.2⟩
    have hrep := fun (w : World) (objs : bp) => ja (w := w) (objs := objs) hz
    have hzl : z.cells.size = m := by
      have := (hrep w []).1.1
      rw [← hm, this]; simp
    have hbytes : (i.bytes : Int) * (n : Int) ≤ 281474976710656 := by
      have h1 : i.bytes * n ≤ 1024 * 1000000000 := Nat.mul_le_mul hB'.2 hbig
      have h2 : ((i.bytes * n : Nat) : Int) ≤ ((1024 * 1000000000 : Nat) : Int) := Int.ofNat_le.2 h1
      rw [Int.natCast_mul] at h2
      omega
    have hst := fun cs => f4 hs.mem cs (P.elem T) ss (.row m (List.replicate n zs))
    have hrun : (execOp a.eval o).run P w = .ok (.value (.slice (some ⟨w.heap.size, 0, none⟩) n n)) (w.alloc (.cells (madeCells z.cells (n * m)) (P.elem T))) := by
      simp only [execOp, ho, hv, hn]
      refine cq ?_
      rw [run_make w T (P.elem T) i z hT hie hzz k k (n : Int) (n : Int) (by omega) (by omega) hbytes (by omega), hB'.1]
      simp
    unfold Oper.wp
    rw [hrun]
    refine hK _ _ ?_
    rw [hd]
    have hb0 : w.heap.size ≠ 0 := Nat.ne_of_gt (Nat.lt_of_lt_of_le hs.mem.pos hs.mem.below.size)
    have hcs : (madeCells z.cells (n * m)).size = n * m := size_madeCells _ _
    refine (h ss w.heap.size).run _ _ (hs.putNew hN (.ms _ _ _ _ _ (.mk ⟨by simp, fY hs.mem #[] 0 ss _, _, _, rfl⟩ (fun m' rows' hm' => .inr ⟨hb0, 0, n, P.elem T, n * m, rfl, Nat.le_refl _, by unfold World.shape?; rw [heap_alloc_new]; simp [hcs], ?_, fun _ => by simp⟩) (fun h0 => absurd h0 hb0))) (hs.mem.newObj hf ⟨⟨hm0', fun t ht => ?_⟩, fun r hr => by rw [List.eq_of_mem_replicate hr]; exact hm, .inr ⟨hs.mem.below.size, madeCells z.cells (n * m), P.elem T, n, heap_alloc_new w _, hcs, by simp, by simp only [maxLen]; omega, fun j t hj => ?_⟩⟩) (hst _))
    · rcases List.mem_cons.1 hm' with he | hm'
      · simp only [Prod.mk.injEq, ca.row.injEq] at he; rw [he.2.2.1]; simp
      · exact absurd (cK hs.mem hm') (Nat.lt_irrefl _)
    · obtain ⟨r, hr, htr⟩ := List.mem_flatten.1 ht
      rw [List.eq_of_mem_replicate hr] at htr
      exact (hrep w []).1.2 t htr
    · obtain ⟨h1, h2⟩ := rA hm hm0' n j t hj
      have hjm : j % m < z.cells.size := by rw [hzl]; exact Nat.mod_lt _ hm0'
      refine ⟨z.cells[j % m], ?_, (hrep _ _).2 (j % m) t _ h2 (by simp [hjm])⟩
      unfold madeCells
      rw [Array.getElem?_map, Array.getElem?_range]
      simp [h1, hzl]
      exact getElem!_pos z.cells (j % m) hjm⟩
theorem yD {ops : Array Oper} {rest : List Oper} {d T0 : Nat} {pos : String} {af : Array Edge} {g : Option (Nat × Bool)} {T : TypeId} {x : Operand} {k : IntKind} {mi : Int} {n m : Nat} {zs : List TV} (hN : Nat.blt d N = true) (hx : ev env x = some (.int k mi)) (_he : ezT T = zs) (hn : mi = (n : Int))
    (hT : P.underlying T = some (.slice (P.elem T))) (hz : cJ P (P.elem T) = some zs) (hm : zs.length = m) (hm0 : Nat.blt 0 m = true) (hB : xq P T m = true) (hbig : n ≤ 1000000000)
    (h : ∀ ss b, AL P w0 N ops Q rest ((d, .ms ss b 0 n) :: env) ((ss, b, .row m (List.replicate n zs)) :: objs)) : AO P w0 N ops Q ⟨some d, .makeSlice T x x, T0, pos, af, g⟩ rest env objs := wN rfl rfl hN hx hn hT hz hm hm0 hB hbig h
end
end Go.Proofs.YthpdkhejeookhaaGreatDoor
