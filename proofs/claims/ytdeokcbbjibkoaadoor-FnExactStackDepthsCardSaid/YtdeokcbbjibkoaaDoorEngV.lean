/- The abstract walk, part 13: a struct written out. -/
import Derived.Test.YtdeokcbbjibkoaaDoorEngU
namespace Go.Proofs.YtdeokcbbjibkoaaDoor
open Go Go.RowKit
section
variable {P : Program} {w0 : World} {N : Nat} {Q : Exit → Act → World → Prop} {env : Env} {objs : Objs} {o : Oper}
def placesOf (P : Program) (T : Nat) : Option (List (Nat × Nat)) := match P.underlying T with
  | some (.struct fields) => fields.toList.mapM fun f => (P.info? f.type).map fun i => (f.offset, i.size)
  | _ => none
inductive TB (P : Program) (env : Env) (T : Nat) : List (Nat × Operand) → List TV → List TV → Prop
  | nil (l : List TV) : TB P env T [] l l
  | cons (i : Nat) (x : Operand) (r : List (Nat × Operand)) (l l1 l2 : List TV) (tv : TV) (vs : List TV) (hx : ev env x = some tv) (hc : tvCells tv = some vs) (hs : Splice l (ofT T i) vs l1) (hF : (placesOf P T).bind (·[i]?) = some (ofT T i, vs.length)) (hr : TB P env T r l1 l2) : TB P env T ((i, x) :: r) l l2
theorem tb_fill {w : World} {T : Nat} (a : Act) {places : List (Nat × Nat)} (hp : placesOf P T = some places) {ps : List (Nat × Operand)} {l l2 : List TV} (h : TB P env T ps l l2) : ∀ (cs : Array Value), cs.size = l.length → (∀ (i : Nat) (t : TV) (u : Value), l[i]? = some t → cs[i]? = some u → Rep w objs t u) → (∀ t ∈ l, t.isCell = true) →
    (∀ p ∈ ps, ∀ v, ev env p.2 = some v → Rep w objs v (a.eval p.2)) → ∃ r, Instr.fill (places.toArray[·]?) cs (ps.map fun p => (p.1, a.eval p.2)) = some r ∧ r.size = l2.length ∧ (∀ (i : Nat) (t : TV) (u : Value), l2[i]? = some t → r[i]? = some u → Rep w objs t u) ∧ ∀ t ∈ l2, t.isCell = true := by
  induction h with
  | nil l => exact fun cs h1 h2 h3 _ => ⟨cs, rfl, h1, h2, h3⟩
  | cons i x r l l1 l2 tv vs hx hc hs hF hr ih =>
    intro cs h1 h2 h3 hop
    obtain ⟨g1, g2, g3⟩ := rep_cells (show Rep w objs tv (a.eval x) from hop (i, x) (by simp) tv hx) hc
    obtain ⟨p1, p2, p3⟩ := hs.spec
    rw [hp] at hF
    simp only [Option.bind_some] at hF
    obtain ⟨f1, f2⟩ := Great.foldl_set (ofT T i) (a.eval x).cells.toList 0 cs
    have hsame : (a.eval x).cells.zipIdx.foldl (fun cs (c, j) => cs.setIfInBounds (ofT T i + j) c) cs = ((a.eval x).cells.toList.zipIdx 0).foldl (fun cs (x : Value × Nat) => cs.setIfInBounds (ofT T i + x.2) x.1) cs := by
      rw [← Array.foldl_toList, Array.toList_zipIdx]
    obtain ⟨r', e1, e2, e3⟩ := ih (((a.eval x).cells.toList.zipIdx 0).foldl (fun cs (x : Value × Nat) => cs.setIfInBounds (ofT T i + x.2) x.1) cs) (by rw [f1, h1, p2]) (fun k t u ht hu => by
      rw [f2] at hu
      rw [p3] at ht
      by_cases hin : ofT T i ≤ k ∧ k < ofT T i + vs.length
      · rw [if_pos hin] at ht
        rw [if_pos ⟨by omega, by simp; omega, by omega⟩] at hu
        exact g2 _ t u ht (by simpa using hu)
      · rw [if_neg hin] at ht
        rw [if_neg (by simp; omega)] at hu
        exact h2 k t u ht hu) (fun t ht => by
      obtain ⟨k, hk, rfl⟩ := List.getElem_of_mem ht
      have h5 := p3 k
      rw [List.getElem?_eq_getElem hk] at h5
      split at h5
      · exact g3 _ (List.mem_of_getElem? h5.symm)
      · exact h3 _ (List.mem_of_getElem? h5.symm)) (fun p hp => hop p (by simp [hp]))
    refine ⟨r', ?_, e2, e3⟩
    simp only [List.map_cons, Instr.fill]
    have hpl : places.toArray[i]? = some (ofT T i, vs.length) := by simpa using hF
    rw [hpl]
    simp only
    rw [if_neg (by simp; omega), hsame]
    exact e1
theorem y_build {T : TypeId} {ps : List (Nat × Operand)} {l : List TV} (ho : o.op = .build T ps.toArray) (hz : zeroOk P T = some (zT T)) (hp : (placesOf P T).isSome = true) (hb : TB P env T ps (zT T) l) : Yields P w0 env objs o (.agg l) := yields_same fun a w hw hop => by
  obtain ⟨places, hp⟩ := Option.isSome_iff_exists.1 hp
  have hz0 := hz
  unfold zeroOk at hz
  cases hi : P.info? T with
  | none => rw [hi] at hz; cases hz
  | some it =>
  rw [hi] at hz
  simp only [Option.bind_some] at hz
  cases hzz : it.zero with
  | none => rw [hzz] at hz; cases hz
  | some z =>
  rw [hzz] at hz
  simp only [Option.bind_some] at hz
  have htv := tvL_rep (w := w) (objs := objs) hz
  obtain ⟨r, e1, e2, e3, e4⟩ := tb_fill (w := w) (objs := objs) a hp hb z.cells (by simpa using htv.1.1.symm) (fun i t u ht hu => htv.2 i t u ht (by simpa using hu)) htv.1.2 (fun p hpm v hv => hop p.2 (by
    simp only [ho, Op.operands, List.toList_toArray]; exact List.mem_map.2 ⟨p, hpm, rfl⟩) v hv)
  refine ⟨.agg r, ?_, .agg l r e4 e2.symm e3⟩
  simp only [execOp, ho]
  refine exec_v (run_build w T _ r ?_)
  unfold placesOf at hp
  unfold Program.built
  cases hu : P.underlying T with
  | none => rw [hu] at hp; cases hp
  | some d =>
    rw [hu] at hp
    cases d <;> first | (cases hp; done) | skip
    simp only [hi, hzz, hp]
    simp only [List.map_toArray]
    exact e1
theorem Fin.aggFlat {B L : Nat} {l l' : List TV} (h : ∀ t ∈ l, t.flat = true) (e : l = l') : Fin B objs L (.agg l) (.agg l') := by
  subst e
  exact .agg l l rfl fun j t t' h1 h2 => by rw [h1] at h2; cases h2; exact .flat (h t (List.mem_of_getElem? h1))
variable {ops : Array Oper} {rest : List Oper} {d T0 : Nat} {pos : String} {af : Array Edge} {g : Option (Nat × Bool)}
theorem o_build {T : TypeId} {ps : List (Nat × Operand)} {zs l : List TV} (hN : Nat.blt d N = true) (he : zT T = zs) (hb : TB P env T ps zs l) (hz : zeroOk P T = some (zT T)) (hp : (placesOf P T).isSome = true) (h : AL P w0 N ops Q rest ((d, .agg l) :: env) objs) : AO P w0 N ops Q ⟨some d, .build T ps.toArray, T0, pos, af, g⟩ rest env objs := ao_q rfl hN (y_build rfl hz hp (by rw [he]; exact hb)) h
end
end Go.Proofs.YtdeokcbbjibkoaaDoor
