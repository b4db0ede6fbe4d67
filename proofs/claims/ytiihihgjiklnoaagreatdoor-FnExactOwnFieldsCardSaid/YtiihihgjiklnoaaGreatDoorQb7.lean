/- Part 7 of the proof: the texts EngO, EngR, EngS, EngR2, EngU, EngV, EngW, EngX, EngY, EngZ, EngK, EngL, EngM, EngAE, MkT, EngAG. -/
import Derived.Test.YtiihihgjiklnoaaGreatDoorQb3
import Derived.Laws.MakeOwn
import Derived.Laws.StructEq
import Derived.Test.YtiihihgjiklnoaaGreatDoorQb5
import Derived.Test.YtiihihgjiklnoaaGreatDoorQb4
import Derived.Deep.RegionHeld3
/- The abstract walk, part 9: the rules with the operation written in the conclusion, by program. -/
namespace Go.Proofs.YtiihihgjiklnoaaGreatDoor
open Go Go.RowKit
section
variable {P : Program} {w0 : World} {N : Nat} {Q : Exit → Act → World → Prop} {env : Env} {objs : aI} {ops : Array Oper} {rest : List Oper} {d T0 : Nat} {pos : String} {af : Array Edge} {g : Option (Nat × Bool)}
theorem vd {x : Operand} {tv : TV} (hN : Nat.blt d N = true) (hx : ev env x = some tv) (h : AL P w0 N ops Q rest ((d, tv) :: env) objs) : AO P w0 N ops Q ⟨some d, .move x, T0, pos, af, g⟩ rest env objs := uM rfl hN (aa0 rfl hx) h
theorem lJ {x : Operand} {tv : TV} (hN : Nat.blt d N = true) (hx : ev env x = some tv) (h : AL P w0 N ops Q rest ((d, tv) :: env) objs) : AO P w0 N ops Q ⟨some d, .assign x, T0, pos, af, g⟩ rest env objs := uM rfl hN (vr rfl hx) h
theorem acY {T : TypeId} {x : Operand} {tv : TV} {l : List TV} (hN : Nat.blt d N = true) (hx : ev env x = some tv) (hl : e9 tv = some l) (h : AL P w0 N ops Q rest ((d, .cp w0.heap.size l) :: env) objs) : AO P w0 N ops Q ⟨some d, .box T x, T0, pos, af, g⟩ rest env objs := uM rfl hN (adp rfl hx hl) h
theorem ady {T : TypeId} {n m : Nat} {ps : List (Nat × Operand)} {rows : List (List TV)} (hN : Nat.blt d N = true) (hev : evL env ps 0 = some rows) (hT : P.underlying T = some (.slice (P.elem T))) (hI : (cF P (P.elem T)).isSome = true) (_hs : esT T = some m) (hm : P.cellsOf (P.elem T) = m) (hm0 : Nat.blt 0 m = true) (hn : rows.length = n) (hbig : Nat.ble (n * m) 16777216 = true) (hall : (rows.all fun r => Nat.beq r.length m) = true) (h : AL P w0 N ops Q rest ((d, .sl w0.heap.size m rows) :: env) objs) : AO P w0 N ops Q ⟨some d, .buildSlice T n ps.toArray, T0, pos, af, g⟩ rest env objs := uM rfl hN (acH rfl hT hI hm hm0 hev hn hbig hall) h
theorem fN {G : World → Prop} {f : Nat} {xs : List Operand} {ts : Array TypeId} {args : List TV} {r : Nat → TV} (hN : Nat.blt d N = true) (hc : fW P f = true) (hargs : cf env objs xs args) (hG : G w0) (hst : az G) (hct : Ct P G f args r) (h : AL P w0 N ops Q rest ((d, r w0.heap.size) :: env) objs) : AO P w0 N ops Q ⟨some d, .call { callee := .value (.func f), args := xs.toArray, argTypes := ts }, T0, pos, af, g⟩ rest env objs := uM rfl hN (vH rfl hc hargs hct hG hst) h
end

def cD (ops : Array Oper) : Bool :=
  let B := Region.before ops
  (List.range ops.size).all fun j => match ops[j]? with
    | none => false
    | some oj => (oj.after.all fun e => !Region.binds .any e || Nat.blt e.on j) &&
      (List.range j).all fun i => match ops[i]? with
        | none => false
        | some oi =>
          (!(B.getD j 0).testBit i || oj.after.any fun e => Region.binds .any e && (Nat.beq e.on i || (Nat.blt i e.on && (B.getD e.on 0).testBit i))) &&
          (oi.apart ops oj || (B.getD j 0).testBit i)
section
variable {P : Program} {w0 : World} {N : Nat} {Q : Exit → Act → World → Prop} {objs : aI} {ops : Array Oper}

theorem bS (h : cD ops = true) {j : Nat} {oj : Oper} (hj : ops[j]? = some oj) : (∀ e ∈ oj.after, Region.binds .any e = true → e.on < j) ∧
    ∀ i oi, i < j → ops[i]? = some oi → (((Region.before ops).getD j 0).testBit i = true → ∃ e ∈ oj.after, Region.binds .any e = true ∧ (e.on = i ∨ (i < e.on ∧ ((Region.before ops).getD e.on 0).testBit i = true))) ∧ (oi.apart ops oj = true ∨ ((Region.before ops).getD j 0).testBit i = true) := by
  have hlt : j < ops.size := (Array.getElem?_eq_some_iff.1 hj).1
  unfold cD at h
  have h1 := List.all_eq_true.1 h j (List.mem_range.2 hlt)
  simp only [hj, Bool.and_eq_true] at h1
  obtain ⟨h2, h3⟩ := h1
  refine ⟨fun e he hb => ?_, fun i oi hij hi => ?_⟩
  · have := Array.all_eq_true_iff_forall_mem.1 h2 e he
    rw [hb] at this
    simpa [Nat.blt_eq] using this
  · have h4 := List.all_eq_true.1 h3 i (List.mem_range.2 hij)
    simp only [hi, Bool.and_eq_true, Bool.or_eq_true, Bool.not_eq_true'] at h4
    refine ⟨fun hb => ?_, h4.2⟩
    rcases h4.1 with h5 | h5
    · rw [h5] at hb; cases hb
    · obtain ⟨k, hk, h6⟩ := Array.any_eq_true.1 h5
      simp only [Bool.and_eq_true, Bool.or_eq_true] at h6
      exact ⟨_, Array.getElem_mem hk, h6.1, h6.2.imp Nat.eq_of_beq_eq_true fun h => ⟨by simpa [Nat.blt_eq] using h.1, h.2⟩⟩

def cB (ops : Array Oper) (X : Nat → Prop) : Prop := ∀ j oj, ops[j]? = some oj → X j → ∀ e ∈ oj.after, Region.binds .any e = true → X e.on
theorem dh (h : cD ops = true) {X : Nat → Prop} (hX : cB ops X) : ∀ j, j < ops.size → X j → ∀ i, i < j → ((Region.before ops).getD j 0).testBit i = true → X i := by
  intro j
  induction j using Nat.strongRecOn with
  | _ j ih =>
    intro hj hx i hij hb
    have hoj : ops[j]? = some ops[j] := by simp [hj]
    have hoi : ops[i]? = some ops[i] := by simp [show i < ops.size by omega]
    obtain ⟨h1, h2⟩ := bS h hoj
    obtain ⟨e, he, hb2, h3⟩ := (h2 i _ hij hoi).1 hb
    have hxe := hX j _ hoj hx e he hb2
    have hej := h1 e he hb2
    rcases h3 with rfl | ⟨h4, h3⟩
    · exact hxe
    · exact ih e.on hej (by omega) hxe i h4 h3

def adg (ops : Array Oper) (env : Env) (o : Oper) : Prop := o.guard = none ∨ ∃ j b d, o.guard = some (j, b) ∧ (ops[j]?).bind (·.dst) = some d ∧ lk d env = some (.bool b)
def acO (ops : Array Oper) (env : Env) (o : Oper) : Prop := (∃ j b d, o.guard = some (j, !b) ∧ (ops[j]?).bind (·.dst) = some d ∧ lk d env = some (.bool b)) ∨ ∃ j c d, o.guard = some (j, c) ∧ (ops[j]?).bind (·.dst) = some d ∧ lk d env = some (.tup [])
inductive DR (P : Program) (w0 : World) (N : Nat) (ops : Array Oper) (objs : aI) (K : Env → Prop) : List Oper → Env → Prop
  | nil (env : Env) (h : K env) : DR P w0 N ops objs K [] env
  | run (o : Oper) (rest : List Oper) (env : Env) (d : Nat) (tv : TV) (hd : o.dst = some d) (hN : Nat.blt d N = true) (hg : adg ops env o) (hy : aS P w0 env objs o tv) (h : DR P w0 N ops objs K rest ((d, tv) :: env)) : DR P w0 N ops objs K (o :: rest) env
  | skip (o : Oper) (rest : List Oper) (env : Env) (d : Nat) (hd : o.dst = some d) (hN : Nat.blt d N = true) (hg : acO ops env o) (h : DR P w0 N ops objs K rest ((d, .tup []) :: env)) : DR P w0 N ops objs K (o :: rest) env
  | know (rest : List Oper) (env : Env) (t : Nat) (v v' : TV) (hv : lk t env = some v) (he : v = v') (h : DR P w0 N ops objs K rest ((t, v') :: env)) : DR P w0 N ops objs K rest env

def iX (P : Program) (w0 : World) (N : Nat) (ops : Array Oper) (objs : aI) (o : Oper) (env env' : Env) : Prop :=
  ∃ d tv, o.dst = some d ∧ d < N ∧ (∀ t, lk t env' = lk t ((d, tv) :: env)) ∧ ((adg ops env o ∧ aS P w0 env objs o tv) ∨ (acO ops env o ∧ tv = .tup []))
theorem vq {K : Env → Prop} {l : List Oper} {env : Env} (h : DR P w0 N ops objs K l env) : ∃ σ : Nat → Env, (∀ t, lk t (σ 0) = lk t env) ∧ K (σ l.length) ∧ ∀ k o, l[k]? = some o → iX P w0 N ops objs o (σ k) (σ (k + 1)) := by
  induction h with
  | nil env h => exact ⟨fun _ => env, fun _ => rfl, h, by simp⟩
  | run o rest env d tv hd hN hg hy h ih =>
    obtain ⟨σ, h1, h2, h3⟩ := ih
    refine ⟨fun k => match k with | 0 => env | k + 1 => σ k, fun _ => rfl, h2, fun k o' hk => ?_⟩
    cases k with
    | zero => simp at hk; subst hk; exact ⟨d, tv, hd, Nat.blt_eq ▸ hN, h1, .inl ⟨hg, hy⟩⟩
    | succ k => exact h3 k o' (by simpa using hk)
  | skip o rest env d hd hN hg h ih =>
    obtain ⟨σ, h1, h2, h3⟩ := ih
    refine ⟨fun k => match k with | 0 => env | k + 1 => σ k, fun _ => rfl, h2, fun k o' hk => ?_⟩
    cases k with
    | zero => simp at hk; subst hk; exact ⟨d, .tup [], hd, Nat.blt_eq ▸ hN, h1, .inr ⟨hg, rfl⟩⟩
    | succ k => exact h3 k o' (by simpa using hk)
  | know rest env t v v' hv he h ih =>
    obtain ⟨σ, h1, h2, h3⟩ := ih
    refine ⟨σ, fun x => ?_, h2, h3⟩
    rw [h1, bI]
    split
    · rename_i e; subst e; rw [hv, he]
    · rfl

def ce (ops : Array Oper) (i t : Nat) : Prop := (ops[i]?).bind (·.dst) = some t
structure JX (w0 : World) (N : Nat) (ops : Array Oper) (objs : aI) (σ : Nat → Env) (X : Nat → Prop) (a : Act) (w : World) : Prop where
  defers : a.defers = []
  size : a.tmps.size = N
  mem : du w0 objs w
  cut : ∀ t k, k ≤ ops.size → (∀ i, i < k → ce ops i t → X i) → (∀ i, k ≤ i → ce ops i t → ¬ X i) → ∀ v, lk t (σ k) = some v → Rep w objs v (a.tmps.getD t undef)

theorem fB (hok : cD ops = true) {i j : Nat} {oi oj : Oper} (hi : ops[i]? = some oi) (hj : ops[j]? = some oj) (hij : i < j) (hna : ¬ oi.apart ops oj = true) {X : Nat → Prop} (hX : cB ops X) (hx : X j) : X i := by
  have h := ((bS hok hj).2 i oi hij hi).2
  exact dh hok hX j (Array.getElem?_eq_some_iff.1 hj).1 hx i hij (h.resolve_left hna)
theorem i7 {x y : Oper} {t : Nat} (hx : x.dst = some t) (hy : t ∈ y.looksAt ops) : ¬ x.apart ops y = true := fun h => by
  unfold Oper.apart at h
  rw [hx] at h
  simp only [Bool.and_eq_true, Bool.not_eq_true'] at h
  rw [List.contains_iff_mem.2 hy] at h
  simp at h
theorem ig {x y : Oper} {t : Nat} (hx : t ∈ x.looksAt ops) (hy : y.dst = some t) : ¬ x.apart ops y = true := fun h => by
  unfold Oper.apart at h
  rw [hy] at h
  simp only [Bool.and_eq_true, Bool.not_eq_true'] at h
  rw [List.contains_iff_mem.2 hx] at h
  simp at h
theorem eD {x y : Oper} {t : Nat} (hx : x.dst = some t) (hy : y.dst = some t) : ¬ x.apart ops y = true := fun h => by
  unfold Oper.apart at h
  rw [hx, hy] at h
  simp at h

theorem ue (hok : cD ops = true) {σ : Nat → Env} {X : Nat → Prop} {a : Act} {w : World} (hJ : JX w0 N ops objs σ X a w) (hX : cB ops X) {i : Nat} {o : Oper} (hi : ops[i]? = some o) (hni : ¬ X i) (hX' : cB ops fun k => k = i ∨ X k) {t : Nat} (ht : t ∈ o.looksAt ops) {v : TV} (hv : lk t (σ i) = some v) : Rep w objs v (a.tmps.getD t undef) := by
  refine hJ.cut t i (Nat.le_of_lt (Array.getElem?_eq_some_iff.1 hi).1) (fun k hk hw => ?_) (fun k hk hw hx => ?_) v hv
  · obtain ⟨ok, h1, h2⟩ := Option.bind_eq_some_iff.1 hw
    have := fB hok h1 hi hk (i7 h2 ht) hX' (.inl rfl)
    rcases this with h | h
    · omega
    · exact h
  · obtain ⟨ok, h1, h2⟩ := Option.bind_eq_some_iff.1 hw
    rcases Nat.lt_or_ge i k with h | h
    · exact hni (fB hok hi h1 h (ig ht h2) hX hx)
    · exact hni ((Nat.le_antisymm h hk) ▸ hx)
theorem yG (hok : cD ops = true) {σ : Nat → Env} {X : Nat → Prop} {a : Act} {w w' : World} (hJ : JX w0 N ops objs σ X a w) (hX : cB ops X) {i d : Nat} {o : Oper} {tv : TV} {v : Value} (hi : ops[i]? = some o) (hni : ¬ X i) (hd : o.dst = some d) (hdN : d < N)
    (hσ : ∀ k o, ops[k]? = some o → ∃ d tv, o.dst = some d ∧ ∀ t, lk t (σ (k + 1)) = lk t ((d, tv) :: σ k)) (hσi : ∀ t, lk t (σ (i + 1)) = lk t ((d, tv) :: σ i)) (hr : Rep w' objs tv v) (hw : du w0 objs w') (hst : jz w objs w' objs) : JX w0 N ops objs σ (fun k => k = i ∨ X k) (a.put (some d) v) w' := by
  refine ⟨hJ.defers, by simp [Act.put, hJ.size], hw, fun t k hk h1 h2 u hu => ?_⟩
  show Rep w' objs u ((a.tmps.setIfInBounds d v).getD t undef)
  rw [fu (by rw [hJ.size]; exact hdN)]
  by_cases hdt : d = t
  · subst hdt
    rw [if_pos rfl]
    have hwi : ce ops i d := by unfold ce; rw [hi]; exact hd
    have hik : i < k := Nat.lt_of_not_le fun h => h2 i h hwi (.inl rfl)
    -- nobody else writes between
    have hlast : ∀ m, i + 1 ≤ m → m ≤ k → lk d (σ m) = some tv := fun m => by
      induction m with
      | zero => intro h; omega
      | succ m ih =>
        intro hm1 hm2
        rcases Nat.eq_or_lt_of_le hm1 with h | h
        · have : m = i := by omega
          subst this; rw [hσi, bI, if_pos rfl]
        · have hm : m < ops.size := by omega
          have hom : ops[m]? = some ops[m] := by simp [hm]
          obtain ⟨dm, tm, e1, e2⟩ := hσ m _ hom
          rw [e2, bI, if_neg]
          · exact ih (by omega) (by omega)
          · intro e
            subst e
            have hwm : ce ops m dm := by unfold ce; rw [hom]; exact e1
            rcases h1 m (by omega) hwm with h3 | h3
            · omega
            · exact hni (fB hok hi hom (by omega) (eD hd e1) hX h3)
    rw [hlast k hik (Nat.le_refl _)] at hu
    simp only [Option.some.injEq] at hu
    subst hu; exact hr
  · rw [if_neg hdt]
    refine (hJ.cut t k hk (fun m hm hwm => ?_) (fun m hm hwm hx => h2 m hm hwm (.inr hx)) u hu).step hst
    rcases h1 m hm hwm with h3 | h3
    · subst h3
      unfold ce at hwm
      rw [hi] at hwm
      simp only [Option.bind_some, hd, Option.some.injEq] at hwm
      exact absurd hwm hdt
    · exact h3

def bG (listed : Array Bool) : Nat := (listed.toList.filter (! ·)).length
theorem xE (hok : cD ops = true) {σ : Nat → Env} (hσ : ∀ k o, ops[k]? = some o → iX P w0 N ops objs o (σ k) (σ (k + 1))) (hQ : AQ w0 N Q .normal (σ ops.size) objs) :
    ∀ (fuel : Nat) (listed : Array Bool) (a : Act) (w : World), listed.size = ops.size → bG listed ≤ fuel → cB ops (fun i => listed.getD i false = true) → JX w0 N ops objs σ (fun i => listed.getD i false = true) a w → wpAny P .any ops Q fuel listed a w := by
  have hσ' : ∀ k o, ops[k]? = some o → ∃ d tv, o.dst = some d ∧ ∀ t, lk t (σ (k + 1)) = lk t ((d, tv) :: σ k) := fun k o hk => by
    obtain ⟨d, tv, h1, _, h2, _⟩ := hσ k o hk; exact ⟨d, tv, h1, h2⟩
  -- when nothing comes up, all has been carried out
  have hend : ∀ (listed : Array Bool) (a : Act) (w : World), listed.size = ops.size → JX w0 N ops objs σ (fun i => listed.getD i false = true) a w → Region.ready .any ops listed = [] → Q .normal a w := by
    intro listed a w hsz hJ hr
    have hall : ∀ j, j < ops.size → listed.getD j false = true := by
      intro j
      induction j using Nat.strongRecOn with
      | _ j ih =>
        intro hj
        cases hb : listed.getD j false with
        | true => rfl
        | false =>
          have hoj : ops[j]? = some ops[j] := by simp [hj]
          have hmem : j ∈ Region.ready .any ops listed := mem_ready.2 ⟨by
            have hjl : j < listed.size := by omega
            simp only [Array.getD_eq_getD_getElem?, Array.getElem?_eq_getElem hjl, Option.getD_some] at hb ⊢; exact hb, _, hoj, fun e he hbd => ih e.on ((bS hok hoj).1 e he hbd) (Nat.lt_trans ((bS hok hoj).1 e he hbd) hj)⟩
          rw [hr] at hmem; cases hmem
    refine hQ.run a w ⟨hJ.defers, hJ.size, hJ.mem, fun t v hv => hJ.cut t ops.size (Nat.le_refl _) (fun i hi _ => hall i hi) (fun i hi hw => ?_) v hv⟩
    unfold ce at hw
    rw [Array.getElem?_eq_none hi] at hw
    cases hw
  intro fuel
  induction fuel with
  | zero =>
    intro listed a w hsz hun hX hJ
    have hr : Region.ready .any ops listed = [] := by
      cases hrd : Region.ready .any ops listed with
      | nil => rfl
      | cons j r =>
        exfalso
        have hj : j ∈ Region.ready .any ops listed := by rw [hrd]; exact List.mem_cons_self
        obtain ⟨h0, o, ho, _⟩ := mem_ready.1 hj
        have hjl : j < listed.size := by rw [hsz]; exact (Array.getElem?_eq_some_iff.1 ho).1
        have : listed[j] ∈ listed.toList.filter (! ·) := List.mem_filter.2 ⟨by simp, by
          simp only [Array.getD_eq_getD_getElem?, Array.getElem?_eq_getElem hjl, Option.getD_some] at h0; simp [h0]⟩
        have := List.length_pos_of_mem this
        unfold bG at hun; omega
    exact ⟨hr, hend listed a w hsz hJ hr⟩
  | succ fuel ih =>
    intro listed a w hsz hun hX hJ
    refine ⟨fun hr => hend listed a w hsz hJ hr, fun i hi => ?_⟩
    obtain ⟨h0, o, ho, hed⟩ := mem_ready.1 hi
    have hil : i < listed.size := by rw [hsz]; exact (Array.getElem?_eq_some_iff.1 ho).1
    have h0' : listed[i] = false := by simpa [Array.getD_eq_getD_getElem?, hil] using h0
    have hni : ¬ listed.getD i false = true := by simp [hil, h0']
    have hXeq : ∀ k, (listed.setIfInBounds i true).getD k false = true ↔ (k = i ∨ listed.getD k false = true) := fun k => by
      by_cases hk : k = i
      · subst hk; simp [hil]
      · rw [getD_set_ne false (Ne.symm hk)]; simp [hk]
    have hX' : cB ops fun k => k = i ∨ listed.getD k false = true := fun j oj hj hx e he hb => by
      rcases hx with rfl | hx
      · rw [hj] at ho; cases ho; exact .inr (hed e he hb)
      · exact .inr (hX j oj hj hx e he hb)
    have hXs : cB ops fun k => (listed.setIfInBounds i true).getD k false = true := fun j oj hj hx e he hb => (hXeq _).2 (hX' j oj hj ((hXeq _).1 hx) e he hb)
    have hun' : bG (listed.setIfInBounds i true) ≤ fuel := by
      have key : ∀ (l : List Bool) (i : Nat), l[i]? = some false → ((l.set i true).filter (! ·)).length + 1 = (l.filter (! ·)).length := fun l => by
        induction l with
        | nil => intro i h; simp at h
        | cons x l ih =>
          intro i h
          cases i with
          | zero => simp at h; subst h; simp
          | succ i =>
            have := ih i (by simpa using h)
            cases x <;> simp at this ⊢ <;> omega
      have := key listed.toList i (by simp [hil, h0'])
      unfold bG at hun ⊢
      simp only [Array.toList_setIfInBounds]
      omega
    have hnext : ∀ a' w', JX w0 N ops objs σ (fun k => k = i ∨ listed.getD k false = true) a' w' → wpAny P .any ops Q fuel (listed.setIfInBounds i true) a' w' := fun a' w' hJ' =>
      ih _ a' w' (by simpa using hsz) hun' hXs ⟨hJ'.defers, hJ'.size, hJ'.mem, fun t k hk h1 h2 v hv => hJ'.cut t k hk (fun m hm hw => (hXeq m).1 (h1 m hm hw)) (fun m hm hw hx => h2 m hm hw ((hXeq m).2 hx)) v hv⟩
    obtain ⟨d, tv, hd, hdN, hσi, hcase⟩ := hσ i o ho
    have hguard : ∀ j b c dj, o.guard = some (j, b) → (ops[j]?).bind (·.dst) = some dj → lk dj (σ i) = some (.bool c) → yielded ops a.tmps j = some c := fun j b c dj h1 h2 h3 => by
      have hl : dj ∈ o.looksAt ops := by unfold Oper.looksAt; rw [h1]; simp [h2]
      exact fP h2 (ue hok hJ hX ho hni hX' hl h3).bool_inv
    unfold wpOp
    rw [ho]
    rcases hcase with ⟨hg, hy⟩ | ⟨hg, rfl⟩
    · have hw : Region.wanted o (yielded ops a.tmps) = true := by
        rcases hg with hg | ⟨j, b, dj, h1, h2, h3⟩
        · simp [Region.wanted, hg]
        · simp [Region.wanted, h1, hguard j b b dj h1 h2 h3]
      simp only [hw, if_true]
      refine .inl (hy a w _ Q hJ.mem (fun x hx v hv => ?_) fun v w' hr hsw hst => ?_)
      · cases x with
        | tmp t =>
          have hl : t ∈ o.looksAt ops := by
            unfold Oper.looksAt
            exact List.mem_append_left _ (List.mem_filterMap.2 ⟨.tmp t, hx, rfl⟩)
          exact ue hok hJ hX ho hni hX' hl hv
        | const u => exact j6 hv
        | func f => simp only [ev, Option.some.injEq] at hv; subst hv; exact .fn f [] #[] rfl (by simp)
        | global g => cases hv
      · rw [hd]
        exact hnext _ _ (yG hok hJ hX ho hni hd hdN hσ' hσi hr hsw hst)
    · have hw : Region.wanted o (yielded ops a.tmps) = false := by
        rcases hg with ⟨j, b, dj, h1, h2, h3⟩ | ⟨j, c, dj, h1, h2, h3⟩
        · cases b <;> simp [Region.wanted, h1, hguard j _ _ dj h1 h2 h3]
        · have hl : dj ∈ o.looksAt ops := by unfold Oper.looksAt; rw [h1]; simp [h2]
          simp [Region.wanted, h1, eU h2 (ue hok hJ hX ho hni hX' hl h3).undef_inv]
      simp only [hw, Bool.false_eq_true, if_false]
      rw [hd]
      exact hnext _ _ (yG hok hJ hX ho hni hd hdN hσ' hσi (.tup [] #[] rfl (by simp)) hJ.mem (gQ _ _))

theorem f8 {id : Nat} {l : List Oper} {env : Env} (hm : P.follows .mixedOrders = true) (hok : cD l.toArray = true) (h : DR P w0 N l.toArray objs (fun env' => AQ w0 N Q .normal env' objs) l env) : AW P w0 N (.region id l.toArray true) Q env objs := ⟨fun a w hs => by
  obtain ⟨σ, h1, h2, h3⟩ := vq h
  have hrep : ∀ i, (Array.replicate l.toArray.size false).getD i false = false := fun i => by
    rcases Nat.lt_or_ge i l.toArray.size with h | h
    · simp at h; simp [h]
    · simp at h; simp [Array.getD_eq_getD_getElem?, h]
  refine wp_region_any hm (xE hok (σ := σ) (fun k o hk => h3 k o (by simpa using hk)) (by simpa using h2) _ _ _ _ (by simp) (by simp [bG]) (fun j oj _ hx => nomatch (hrep j).symm.trans hx) ⟨hs.defers, hs.size, ?_, fun t k hk h4 h5 v hv => ?_⟩)
  · exact hs.mem.grow ⟨hs.mem.below.os, hs.mem.below.tape, hs.mem.below.output, hs.mem.below.size, hs.mem.below.block⟩ (Nat.le_refl _) (fun _ _ => rfl)
  · -- no writer of t stands before the cut
    have hk0 : ∀ m, m ≤ k → lk t (σ m) = lk t (σ 0) := fun m => by
      induction m with
      | zero => intro _; rfl
      | succ m ih =>
        intro hm2
        have hml : m < l.length := by simp at hk; omega
        obtain ⟨d, tv, e1, _, e2, _⟩ := h3 m l[m] (List.getElem?_eq_getElem hml)
        rw [e2, bI, if_neg]
        · exact ih (by omega)
        · intro e
          have := h4 m (by omega) (by unfold ce; simp [hml, e1, e])
          rw [hrep] at this; cases this
    rw [hk0 k (Nat.le_refl _), h1 t] at hv
    have hst : jz w objs { w with drawn := w.drawn + 1 } objs := ⟨fun _ _ _ => rfl, fun _ _ h => h, fun _ _ _ rows _ _ h => ⟨⟨rows, h⟩, rfl⟩, Nat.le_refl _, fun h => h⟩
    exact (hs.env t v hv).step hst⟩
end

def adI (l : List UInt8) : List (List TV) := l.map fun b => [TV.int .u8 (b.toNat : Int)]
def aO (l : List Int) : List (List TV) := l.map fun n => [TV.int .i64 n]
def bE (l : List ByteArray) : List (List TV) := l.map fun s => [TV.str s]
theorem aP (l : List UInt8) : (adI l).length = l.length := by simp [adI]
theorem aq (l : List Int) : (aO l).length = l.length := by simp [aO]
theorem aQ (l : List ByteArray) : (bE l).length = l.length := by simp [bE]
theorem rf (l : List Int) (n : Int) : aO l ++ [[TV.int .i64 n]] = aO (l ++ [n]) := by simp [aO]
theorem pR (l : List Int) (k : Nat) (n : Int) : (aO l).set k [TV.int .i64 n] = aO (l.set k n) := by simp [aO, List.map_set]
theorem iG {l : List Int} {k : Nat} (h : k < l.length) : (aO l)[k]? = some [TV.int .i64 (l[k]'h)] := aH h
theorem lQ {l : List ByteArray} {k : Nat} (h : k < l.length) : (bE l)[k]? = some [TV.str (l[k]'h)] := aH h
theorem kW (l : List Int) : (aO l).flatten = l.map (TV.int .i64) := by
  induction l with
  | nil => rfl
  | cons x l ih => simp only [aO, List.map_cons, List.flatten_cons] at *; rw [ih]; rfl
theorem sI (l : List ByteArray) : (bE l).flatten = l.map TV.str := by
  induction l with
  | nil => rfl
  | cons x l ih => simp only [bE, List.map_cons, List.flatten_cons] at *; rw [ih]; rfl
theorem j2 (l : List Int) : ∀ t ∈ (aO l).flatten, t.flat = true := by
  rw [kW]; intro t ht; obtain ⟨n, _, rfl⟩ := List.mem_map.1 ht; rfl
theorem ry (l : List ByteArray) : ∀ t ∈ (bE l).flatten, t.flat = true := by
  rw [sI]; intro t ht; obtain ⟨n, _, rfl⟩ := List.mem_map.1 ht; rfl

section
variable {P : Program} {w0 : World} {N : Nat} {Q : Exit → Act → World → Prop} {env : Env} {objs : aI} {o : Oper}
end
def fQ (ops : Array Oper) (k : Nat) : Bool :=
  let B := Region.before ops
  (List.range ops.size).all fun j => Nat.blt j k || (List.range j).all fun i => (B.getD j 0).testBit i
section
variable {P : Program} {w0 : World} {N : Nat} {Q : Exit → Act → World → Prop} {objs : aI} {ops : Array Oper} {env : Env}
theorem f7 {k : Nat} (h : fQ ops k = true) {j i : Nat} (hj : j < ops.size) (hk : k ≤ j) (hi : i < j) : ((Region.before ops).getD j 0).testBit i = true := by
  unfold fQ at h
  have h1 := List.all_eq_true.1 h j (List.mem_range.2 hj)
  simp only [Bool.or_eq_true] at h1
  rcases h1 with h1 | h1
  · rw [Nat.blt_eq] at h1; omega
  · exact List.all_eq_true.1 h1 i (List.mem_range.2 hi)

theorem vL (hok : cD ops = true) {k : Nat} (htl : fQ ops k = true) : ∀ (n m : Nat), m + n = ops.size → k ≤ m → ∀ (fuel : Nat) (listed : Array Bool) (a : Act) (w : World), listed.size = ops.size → n ≤ fuel → (∀ i, i < ops.size → (listed.getD i false = true ↔ i < m)) →
    wpList P ops Q (ops.toList.drop m) a w → wpAny P .any ops Q fuel listed a w := by
  intro n
  induction n with
  | zero =>
    intro m hm hkm fuel listed a w hsz hf hl h
    rw [List.drop_of_length_le (by simp; omega)] at h
    have hr : Region.ready .any ops listed = [] := by
      cases hrd : Region.ready .any ops listed with
      | nil => rfl
      | cons j r =>
        exfalso
        have hj : j ∈ Region.ready .any ops listed := by rw [hrd]; exact List.mem_cons_self
        obtain ⟨h0, o, ho, _⟩ := mem_ready.1 hj
        have hjl : j < ops.size := (Array.getElem?_eq_some_iff.1 ho).1
        have := (hl j hjl).2 (by omega)
        rw [Array.getD_eq_getD_getElem?, Array.getElem?_eq_getElem (by omega)] at this h0
        simp only [Option.getD_some] at this h0
        rw [this] at h0; cases h0
    have hq : Q .normal a w := h
    cases fuel with
    | zero => exact ⟨hr, hq⟩
    | succ fuel => exact ⟨fun _ => hq, fun i hi => by rw [hr] at hi; cases hi⟩
  | succ n ih =>
    intro m hm hkm fuel listed a w hsz hf hl h
    cases fuel with
    | zero => omega
    | succ fuel =>
    have hmlt : m < ops.size := by omega
    have hom : ops[m]? = some ops[m] := by simp [hmlt]
    have hX : ∀ i, i < ops.size → i < m → listed.getD i false = true := fun i hi him => (hl i hi).2 him
    have hready : m ∈ Region.ready .any ops listed := mem_ready.2 ⟨by
      have h1 : listed.getD m false ≠ true := fun h => by have := (hl m hmlt).1 h; omega
      rw [Array.getD_eq_getD_getElem?, Array.getElem?_eq_getElem (by omega)] at h1 ⊢
      simpa using h1, _, hom, fun e he hb => by
      have := (bS hok hom).1 e he hb
      exact hX e.on (by omega) this⟩
    refine ⟨fun hr => (by rw [hr] at hready; cases hready), fun i hi => ?_⟩
    obtain ⟨h0, o, ho, hed⟩ := mem_ready.1 hi
    have hil : i < ops.size := (Array.getElem?_eq_some_iff.1 ho).1
    have hnl : ¬ listed.getD i false = true := by
      rw [Array.getD_eq_getD_getElem?, Array.getElem?_eq_getElem (by omega)] at h0 ⊢
      simp only [Option.getD_some] at h0 ⊢
      rw [h0]; simp
    have him : m ≤ i := Nat.le_of_not_lt fun hlt => hnl (hX i hil hlt)
    have hie : i = m := by
      rcases Nat.eq_or_lt_of_le him with e | hlt
      · exact e.symm
      · exfalso
        have hb := f7 htl hil (by omega) hlt
        obtain ⟨e, he, hb2, h3⟩ := ((bS hok ho).2 m _ hlt hom).1 hb
        have hel := hed e he hb2
        have hes := (bS hok ho).1 e he hb2
        have := (hl e.on (by omega)).1 hel
        omega
    subst hie
    rw [hom] at ho
    cases ho
    have hdrop : ops.toList.drop i = ops[i] :: ops.toList.drop (i + 1) := by
      rw [List.drop_eq_getElem_cons (by simpa using hmlt)]; simp
    rw [hdrop] at h
    have hnext : ∀ a w, wpList P ops Q (ops.toList.drop (i + 1)) a w → wpAny P .any ops Q fuel (listed.setIfInBounds i true) a w := fun a w hw => by
      refine ih (i + 1) (by omega) (by omega) fuel _ a w (by simpa using hsz) (by omega) (fun j hj => ?_) hw
      by_cases hji : j = i
      · subst hji; simp [Array.getD_eq_getD_getElem?, hsz, hj]
      · rw [getD_set_ne false (Ne.symm hji), hl j hj]; omega
    unfold wpOp
    rw [hom]
    dsimp only
    unfold wpList at h
    split at h
    · rename_i hw
      rw [if_pos hw]
      exact h.imp (Oper.wp_mono hnext) id
    · rename_i hw
      rw [if_neg hw]
      exact hnext _ _ h

structure JY (w0 : World) (N : Nat) (ops : Array Oper) (objs : aI) (σ : Nat → Env) (k : Nat) (X : Nat → Prop) (a : Act) (w : World) : Prop where
  defers : a.defers = []
  size : a.tmps.size = N
  mem : du w0 objs w
  cut : ∀ t c, c ≤ k → (∀ i, i < c → ce ops i t → X i) → (∀ i, c ≤ i → i < k → ce ops i t → ¬ X i) → ∀ v, lk t (σ c) = some v → Rep w objs v (a.tmps.getD t undef)
theorem jx (hok : cD ops = true) {k : Nat} (_hk : k ≤ ops.size) {σ : Nat → Env} {X : Nat → Prop} {a : Act} {w : World} (hJ : JY w0 N ops objs σ k X a w) (hX : cB ops X) (_hXk : ∀ i, X i → i < k) {i : Nat} {o : Oper} (hi : ops[i]? = some o) (hik : i < k) (hni : ¬ X i) (hX' : cB ops fun k => k = i ∨ X k) {t : Nat} (ht : t ∈ o.looksAt ops) {v : TV} (hv : lk t (σ i) = some v) : Rep w objs v (a.tmps.getD t undef) := by
  refine hJ.cut t i (Nat.le_of_lt hik) (fun k hk hw => ?_) (fun k hk hkk hw hx => ?_) v hv
  · obtain ⟨ok, h1, h2⟩ := Option.bind_eq_some_iff.1 hw
    have := fB hok h1 hi hk (i7 h2 ht) hX' (.inl rfl)
    rcases this with h | h
    · omega
    · exact h
  · obtain ⟨ok, h1, h2⟩ := Option.bind_eq_some_iff.1 hw
    rcases Nat.lt_or_ge i k with h | h
    · exact hni (fB hok hi h1 h (ig ht h2) hX hx)
    · exact hni ((Nat.le_antisymm h hk) ▸ hx)
theorem qw (hok : cD ops = true) {k : Nat} (hk : k ≤ ops.size) {σ : Nat → Env} {X : Nat → Prop} {a : Act} {w w' : World} (hJ : JY w0 N ops objs σ k X a w) (hX : cB ops X) (_hXk : ∀ i, X i → i < k) {i d : Nat} {o : Oper} {tv : TV} {v : Value} (hi : ops[i]? = some o) (hik : i < k) (hni : ¬ X i) (hd : o.dst = some d) (hdN : d < N)
    (hσ : ∀ i o, i < k → ops[i]? = some o → iX P w0 N ops objs o (σ i) (σ (i + 1))) (hσi : ∀ t, lk t (σ (i + 1)) = lk t ((d, tv) :: σ i)) (hr : Rep w' objs tv v) (hw : du w0 objs w') (hst : jz w objs w' objs) : JY w0 N ops objs σ k (fun k => k = i ∨ X k) (a.put (some d) v) w' := by
  refine ⟨hJ.defers, by simp [Act.put, hJ.size], hw, fun t c hc h1 h2 u hu => ?_⟩
  show Rep w' objs u ((a.tmps.setIfInBounds d v).getD t undef)
  rw [fu (by rw [hJ.size]; exact hdN)]
  by_cases hdt : d = t
  · subst hdt
    rw [if_pos rfl]
    have hwi : ce ops i d := by unfold ce; rw [hi]; exact hd
    have hic : i < c := Nat.lt_of_not_le fun h => h2 i h hik hwi (.inl rfl)
    have hlast : ∀ m, i + 1 ≤ m → m ≤ c → lk d (σ m) = some tv := fun m => by
      induction m with
      | zero => intro h; omega
      | succ m ih =>
        intro hm1 hm2
        rcases Nat.eq_or_lt_of_le hm1 with h | h
        · have : m = i := by omega
          subst this; rw [hσi, bI, if_pos rfl]
        · have hm : m < ops.size := by omega
          have hom : ops[m]? = some ops[m] := by simp [hm]
          obtain ⟨dm, tm, e1, _, e2, _⟩ := hσ m _ (by omega) hom
          rw [e2, bI, if_neg]
          · exact ih (by omega) (by omega)
          · intro e
            subst e
            have hwm : ce ops m dm := by unfold ce; rw [hom]; exact e1
            rcases h1 m (by omega) hwm with h3 | h3
            · omega
            · exact hni (fB hok hi hom (by omega) (eD hd e1) hX h3)
    rw [hlast c hic (Nat.le_refl _)] at hu
    simp only [Option.some.injEq] at hu
    subst hu; exact hr
  · rw [if_neg hdt]
    refine (hJ.cut t c hc (fun m hm hwm => ?_) (fun m hm hmk hwm hx => h2 m hm hmk hwm (.inr hx)) u hu).step hst
    rcases h1 m hm hwm with h3 | h3
    · subst h3
      unfold ce at hwm
      rw [hi] at hwm
      simp only [Option.bind_some, hd, Option.some.injEq] at hwm
      exact absurd hwm hdt
    · exact h3
theorem kg (hok : cD ops = true) {k : Nat} (hk : k ≤ ops.size) (htl : fQ ops k = true) {σ : Nat → Env} (hQ : AL P w0 N ops Q (ops.toList.drop k) (σ k) objs) {fuel : Nat} {listed : Array Bool} {a : Act} {w : World} (hsz : listed.size = ops.size) (hun : bG listed ≤ fuel) (hXk : ∀ i, listed.getD i false = true → i < k)
    (hall : ∀ j, j < k → listed.getD j false = true) (hJ : JY w0 N ops objs σ k (fun i => listed.getD i false = true) a w) : wpAny P .any ops Q fuel listed a w := by
  refine vL hok htl (ops.size - k) k (by omega) (Nat.le_refl _) fuel listed a w hsz ?_ (fun i hi => ⟨hXk i, hall i⟩) (hQ.run a w ⟨hJ.defers, hJ.size, hJ.mem, fun t v hv => hJ.cut t k (Nat.le_refl _) (fun i hi _ => hall i hi) (fun i hi hik => by omega) v hv⟩)
  unfold bG at hun
  rw [← List.take_append_drop k listed.toList, List.filter_append, List.length_append] at hun
  have hd : (listed.toList.drop k).filter (! ·) = listed.toList.drop k := by
    rw [List.filter_eq_self]
    intro x hx
    obtain ⟨j, hj, rfl⟩ := List.getElem_of_mem hx
    rw [List.getElem_drop]
    simp only [List.length_drop, Array.length_toList] at hj
    have hnl : ¬ listed.getD (k + j) false = true := fun h => by have := hXk _ h; omega
    rw [Array.getD_eq_getD_getElem?, Array.getElem?_eq_getElem (by omega)] at hnl
    simpa using hnl
  rw [hd] at hun
  simp only [List.length_drop, Array.length_toList] at hun
  omega
theorem wy (hok : cD ops = true) {k : Nat} (hk : k ≤ ops.size) (htl : fQ ops k = true) {σ : Nat → Env} (hσ : ∀ i o, i < k → ops[i]? = some o → iX P w0 N ops objs o (σ i) (σ (i + 1))) (_hnw : ∀ i o d, k ≤ i → ops[i]? = some o → o.dst = some d → True) (hQ : AL P w0 N ops Q (ops.toList.drop k) (σ k) objs) :
    ∀ (fuel : Nat) (listed : Array Bool) (a : Act) (w : World), listed.size = ops.size → bG listed ≤ fuel → (∀ i, listed.getD i false = true → i < k) → cB ops (fun i => listed.getD i false = true) → JY w0 N ops objs σ k (fun i => listed.getD i false = true) a w → wpAny P .any ops Q fuel listed a w := by
  intro fuel
  induction fuel with
  | zero =>
    intro listed a w hsz hun hXk hX hJ
    by_cases hall : ∀ j, j < k → listed.getD j false = true
    · exact kg hok hk htl hQ hsz hun hXk hall hJ
    · exfalso
      apply hall
      intro j hj
      cases hb : listed.getD j false with
      | true => rfl
      | false =>
        exfalso
        have hjl : j < listed.size := by omega
        have : listed[j] ∈ listed.toList.filter (! ·) := List.mem_filter.2 ⟨by simp, by
          simp only [Array.getD_eq_getD_getElem?, Array.getElem?_eq_getElem hjl, Option.getD_some] at hb; simp [hb]⟩
        have := List.length_pos_of_mem this
        unfold bG at hun; omega
  | succ fuel ih =>
    intro listed a w hsz hun hXk hX hJ
    by_cases hall : ∀ j, j < k → listed.getD j false = true
    · exact kg hok hk htl hQ hsz hun hXk hall hJ
    have hsome : ∃ j, j < k ∧ ¬ listed.getD j false = true := by
      refine Classical.byContradiction fun hn => hall fun j hj => Classical.byContradiction fun h => hn ⟨j, hj, h⟩
    refine ⟨fun hr => ?_, fun i hi => ?_⟩
    · exfalso
      have hall2 : ∀ j, j < ops.size → listed.getD j false = true := by
        intro j
        induction j using Nat.strongRecOn with
        | _ j ih =>
          intro hj
          cases hb : listed.getD j false with
          | true => rfl
          | false =>
            have hoj : ops[j]? = some ops[j] := by simp [hj]
            have hmem : j ∈ Region.ready .any ops listed := mem_ready.2 ⟨by
              have hjl : j < listed.size := by omega
              simp only [Array.getD_eq_getD_getElem?, Array.getElem?_eq_getElem hjl, Option.getD_some] at hb ⊢; exact hb, _, hoj, fun e he hbd => ih e.on ((bS hok hoj).1 e he hbd) (Nat.lt_trans ((bS hok hoj).1 e he hbd) hj)⟩
            rw [hr] at hmem; cases hmem
      obtain ⟨j, hj, hnj⟩ := hsome
      exact hnj (hall2 j (by omega))
    · obtain ⟨h0, o, ho, hed⟩ := mem_ready.1 hi
      have hisz : i < ops.size := (Array.getElem?_eq_some_iff.1 ho).1
      have hil : i < listed.size := by rw [hsz]; exact hisz
      have h0' : listed[i] = false := by simpa [Array.getD_eq_getD_getElem?, hil] using h0
      have hni : ¬ listed.getD i false = true := by simp [hil, h0']
      have hXeq : ∀ k, (listed.setIfInBounds i true).getD k false = true ↔ (k = i ∨ listed.getD k false = true) := fun k => by
        by_cases hk : k = i
        · subst hk; simp [hil]
        · rw [getD_set_ne false (Ne.symm hk)]; simp [hk]
      have hX' : cB ops fun k => k = i ∨ listed.getD k false = true := fun j oj hj hx e he hb => by
        rcases hx with rfl | hx
        · rw [hj] at ho; cases ho; exact .inr (hed e he hb)
        · exact .inr (hX j oj hj hx e he hb)
      have hik : i < k := Nat.lt_of_not_le fun hge => by
        obtain ⟨j, hj, hnj⟩ := hsome
        have := dh hok hX' i hisz (.inl rfl) j (by omega) (f7 htl hisz hge (by omega))
        rcases this with h | h
        · omega
        · exact hnj h
      have hXs : cB ops fun k => (listed.setIfInBounds i true).getD k false = true := fun j oj hj hx e he hb => (hXeq _).2 (hX' j oj hj ((hXeq _).1 hx) e he hb)
      have hun' : bG (listed.setIfInBounds i true) ≤ fuel := by
        have key : ∀ (l : List Bool) (i : Nat), l[i]? = some false → ((l.set i true).filter (! ·)).length + 1 = (l.filter (! ·)).length := fun l => by
          induction l with
          | nil => intro i h; simp at h
          | cons x l ih =>
            intro i h
            cases i with
            | zero => simp at h; subst h; simp
            | succ i =>
              have := ih i (by simpa using h)
              cases x <;> simp at this ⊢ <;> omega
        have := key listed.toList i (by simp [hil, h0'])
        unfold bG at hun ⊢
        simp only [Array.toList_setIfInBounds]
        omega
      have hnext : ∀ a' w', JY w0 N ops objs σ k (fun k => k = i ∨ listed.getD k false = true) a' w' → wpAny P .any ops Q fuel (listed.setIfInBounds i true) a' w' := fun a' w' hJ' =>
        ih _ a' w' (by simpa using hsz) hun' (fun j hj => ((hXeq j).1 hj).elim (fun e => e ▸ hik) (hXk j)) hXs ⟨hJ'.defers, hJ'.size, hJ'.mem, fun t k hk h1 h2 v hv => hJ'.cut t k hk (fun m hm hw => (hXeq m).1 (h1 m hm hw)) (fun m hm hmk hw hx => h2 m hm hmk hw ((hXeq m).2 hx)) v hv⟩
      obtain ⟨d, tv, hd, hdN, hσi, hcase⟩ := hσ i o hik ho
      have hguard : ∀ j b c dj, o.guard = some (j, b) → (ops[j]?).bind (·.dst) = some dj → lk dj (σ i) = some (.bool c) → yielded ops a.tmps j = some c := fun j b c dj h1 h2 h3 => by
        have hl : dj ∈ o.looksAt ops := by unfold Oper.looksAt; rw [h1]; simp [h2]
        exact fP h2 (jx hok hk hJ hX hXk ho hik hni hX' hl h3).bool_inv
      unfold wpOp
      rw [ho]
      rcases hcase with ⟨hg, hy⟩ | ⟨hg, rfl⟩
      · have hw : Region.wanted o (yielded ops a.tmps) = true := by
          rcases hg with hg | ⟨j, b, dj, h1, h2, h3⟩
          · simp [Region.wanted, hg]
          · simp [Region.wanted, h1, hguard j b b dj h1 h2 h3]
        simp only [hw, if_true]
        refine .inl (hy a w _ Q hJ.mem (fun x hx v hv => ?_) fun v w' hr hsw hst => ?_)
        · cases x with
          | tmp t =>
            have hl : t ∈ o.looksAt ops := by
              unfold Oper.looksAt
              exact List.mem_append_left _ (List.mem_filterMap.2 ⟨.tmp t, hx, rfl⟩)
            exact jx hok hk hJ hX hXk ho hik hni hX' hl hv
          | const u => exact j6 hv
          | func f => simp only [ev, Option.some.injEq] at hv; subst hv; exact .fn f [] #[] rfl (by simp)
          | global g => cases hv
        · rw [hd]
          exact hnext _ _ (qw hok hk hJ hX hXk ho hik hni hd hdN hσ hσi hr hsw hst)
      · have hw : Region.wanted o (yielded ops a.tmps) = false := by
          rcases hg with ⟨j, b, dj, h1, h2, h3⟩ | ⟨j, c, dj, h1, h2, h3⟩
          · cases b <;> simp [Region.wanted, h1, hguard j _ _ dj h1 h2 h3]
          · have hl : dj ∈ o.looksAt ops := by unfold Oper.looksAt; rw [h1]; simp [h2]
            simp [Region.wanted, h1, eU h2 (jx hok hk hJ hX hXk ho hik hni hX' hl h3).undef_inv]
        simp only [hw, Bool.false_eq_true, if_false]
        rw [hd]
        exact hnext _ _ (qw hok hk hJ hX hXk ho hik hni hd hdN hσ hσi (.tup [] #[] rfl (by simp)) hJ.mem (gQ _ _))

inductive Cut : Nat → List Oper → List Oper → List Oper → Prop
  | zero (l : List Oper) : Cut 0 l [] l
  | succ (n : Nat) (x : Oper) (l l1 l2 : List Oper) (h : Cut n l l1 l2) : Cut (n + 1) (x :: l) (x :: l1) l2
theorem Cut.eq {n : Nat} {l l1 l2 : List Oper} (h : Cut n l l1 l2) : l1 = l.take n ∧ l2 = l.drop n ∧ n ≤ l.length := by
  induction h with
  | zero l => simp
  | succ n x l l1 l2 h ih => obtain ⟨h1, h2, h3⟩ := ih; subst h1; subst h2; simp; exact h3
theorem pA (k : Nat) {id : Nat} {l l1 l2 : List Oper} {env : Env} (hm : P.follows .mixedOrders = true) (hok : cD l.toArray = true) (htl : fQ l.toArray k = true) (hc : Cut k l l1 l2) (h : DR P w0 N l.toArray objs (fun env' => AL P w0 N l.toArray Q l2 env' objs) l1 env) : AW P w0 N (.region id l.toArray true) Q env objs := ⟨fun a w hs => by
  obtain ⟨e1, e2, hkl⟩ := hc.eq
  subst e1; subst e2
  obtain ⟨σ, h1, h2, h3⟩ := vq h
  rw [List.length_take, Nat.min_eq_left hkl] at h2
  have hrep : ∀ i, (Array.replicate l.toArray.size false).getD i false = false := fun i => by
    rcases Nat.lt_or_ge i l.toArray.size with h | h
    · simp at h; simp [h]
    · simp at h; simp [Array.getD_eq_getD_getElem?, h]
  have h3' : ∀ i o, i < k → l[i]? = some o → iX P w0 N l.toArray objs o (σ i) (σ (i + 1)) := fun i o hi ho => h3 i o (by rw [List.getElem?_take, if_pos hi]; exact ho)
  refine wp_region_any hm (wy hok (k := k) (by simpa using hkl) htl (σ := σ) (fun i o hi hk => h3' i o hi (by simpa using hk)) (fun _ _ _ _ _ _ => trivial) (by simpa using h2) _ _ _ _ (by simp) (by simp [bG]) (fun i hi => by rw [hrep] at hi; cases hi) (fun j oj _ hx => nomatch (hrep j).symm.trans hx) ⟨hs.defers, hs.size, ?_, fun t c hc h4 h5 v hv => ?_⟩)
  · exact hs.mem.grow ⟨hs.mem.below.os, hs.mem.below.tape, hs.mem.below.output, hs.mem.below.size, hs.mem.below.block⟩ (Nat.le_refl _) (fun _ _ => rfl)
  · have hk0 : ∀ m, m ≤ c → lk t (σ m) = lk t (σ 0) := fun m => by
      induction m with
      | zero => intro _; rfl
      | succ m ih =>
        intro hm2
        have hml : m < l.length := by omega
        obtain ⟨d, tv, e1, _, e2, _⟩ := h3' m l[m] (by omega) (List.getElem?_eq_getElem hml)
        rw [e2, bI, if_neg]
        · exact ih (by omega)
        · intro e
          have := h4 m (by omega) (by unfold ce; simp [hml, e1, e])
          rw [hrep] at this; cases this
    rw [hk0 c (Nat.le_refl _), h1 t] at hv
    have hst : jz w objs { w with drawn := w.drawn + 1 } objs := ⟨fun _ _ _ => rfl, fun _ _ h => h, fun _ _ _ rows _ _ h => ⟨⟨rows, h⟩, rfl⟩, Nat.le_refl _, fun h => h⟩
    exact (hs.env t v hv).step hst⟩
end
section
variable {P : Program} {w0 : World} {N : Nat} {Q : Exit → Act → World → Prop} {env : Env} {objs : aI} {ops : Array Oper} {rest : List Oper} {d T0 : Nat} {pos : String} {af : Array Edge} {g : Option (Nat × Bool)} {K : Env → Prop}
theorem kf (h : AQ w0 N Q .normal env objs) : DR P w0 N ops objs (fun env2 => AQ w0 N Q .normal env2 objs) [] env := .nil env h
theorem gA {l2 : List Oper} {ops2 : Array Oper} (h : AL P w0 N ops2 Q l2 env objs) : DR P w0 N ops objs (fun env2 => AL P w0 N ops2 Q l2 env2 objs) [] env := .nil env h
structure DO (P : Program) (w0 : World) (N : Nat) (ops : Array Oper) (objs : aI) (K : Env → Prop) (o : Oper) (rest : List Oper) (env : Env) : Prop where
  run : adg ops env o → DR P w0 N ops objs K (o :: rest) env
theorem gB {o : Oper} (hg : o.guard = none) (h : DO P w0 N ops objs K o rest env) : DR P w0 N ops objs K (o :: rest) env := h.run (.inl hg)
theorem jM {o : Oper} {j dj : Nat} {b : Bool} {v : TV} (hg : o.guard = some (j, b)) (hj : (ops[j]?).bind (·.dst) = some dj) (hv : lk dj env = some v) (he : v = .bool b) (h : DO P w0 N ops objs K o rest env) : DR P w0 N ops objs K (o :: rest) env := h.run (.inr ⟨j, b, dj, hg, hj, by rw [hv, he]⟩)
theorem gz {o : Oper} {d dj j : Nat} {b c : Bool} {v : TV} (hg : o.guard = some (j, c)) (hj : (ops[j]?).bind (·.dst) = some dj) (hb : lk dj env = some v) (hv : v = .bool b) (hc : c = !b) (hd : o.dst = some d) (hN : Nat.blt d N = true) (h : DR P w0 N ops objs K rest ((d, .tup []) :: env)) : DR P w0 N ops objs K (o :: rest) env := .skip _ _ _ _ hd hN (.inl ⟨j, b, dj, by rw [hg, hc], hj, by rw [hb, hv]⟩) h
theorem eW {o : Oper} {d dj j : Nat} {c : Bool} {v : TV} (hg : o.guard = some (j, c)) (hj : (ops[j]?).bind (·.dst) = some dj) (hb : lk dj env = some v) (hv : v = .tup []) (hd : o.dst = some d) (hN : Nat.blt d N = true) (h : DR P w0 N ops objs K rest ((d, .tup []) :: env)) : DR P w0 N ops objs K (o :: rest) env := .skip _ _ _ _ hd hN (.inr ⟨j, c, dj, hg, hj, by rw [hb, hv]⟩) h
theorem eG {o : Oper} {j dj : Nat} {b : Bool} {p : Prop} {i : Decidable p} {v : TV} (_hg : o.guard = some (j, b)) (_hj : (ops[j]?).bind (·.dst) = some dj) (hv : lk dj env = some v) (he : v = .bool (@decide p i)) (ht : p → DR P w0 N ops objs K (o :: rest) ((dj, .bool true) :: env)) (hf : ¬ p → DR P w0 N ops objs K (o :: rest) ((dj, .bool false) :: env)) : DR P w0 N ops objs K (o :: rest) env := by
  by_cases h : p
  · exact .know _ _ dj v _ hv (by rw [he]; simp [h]) (ht h)
  · exact .know _ _ dj v _ hv (by rw [he]; simp [h]) (hf h)
theorem pO {o : Oper} {j dj : Nat} {b : Bool} {p : Prop} {i : Decidable p} {v : TV} (hg : o.guard = some (j, b)) (hj : (ops[j]?).bind (·.dst) = some dj) (hv : lk dj env = some v) (he : v = .bool (@decide p i)) (hp : p) (ht : DR P w0 N ops objs K (o :: rest) ((dj, .bool true) :: env)) : DR P w0 N ops objs K (o :: rest) env := eG hg hj hv he (fun _ => ht) (fun h => absurd hp h)
theorem qx {o : Oper} {j dj : Nat} {b : Bool} {p : Prop} {i : Decidable p} {v : TV} (hg : o.guard = some (j, b)) (hj : (ops[j]?).bind (·.dst) = some dj) (hv : lk dj env = some v) (he : v = .bool (@decide p i)) (hp : ¬ p) (hf : DR P w0 N ops objs K (o :: rest) ((dj, .bool false) :: env)) : DR P w0 N ops objs K (o :: rest) env := eG hg hj hv he (fun h => absurd h hp) (fun _ => hf)
theorem et {o : Oper} {j dj : Nat} {b c : Bool} {v : TV} (_hg : o.guard = some (j, b)) (_hj : (ops[j]?).bind (·.dst) = some dj) (hv : lk dj env = some v) (he : v = .bool c) (ht : c = true → DR P w0 N ops objs K (o :: rest) ((dj, .bool true) :: env)) (hf : c = false → DR P w0 N ops objs K (o :: rest) ((dj, .bool false) :: env)) : DR P w0 N ops objs K (o :: rest) env := by
  cases c
  · exact .know _ _ dj v _ hv he (hf rfl)
  · exact .know _ _ dj v _ hv he (ht rfl)
theorem qK {T : TypeId} {x : Operand} {out : List TV} {f : Nat} {l : List TV} (hN : Nat.blt d N = true) (_hA : agT T = true) (hT : iY P T = true) (hi : (P.info? T).isSome = true) (hs : P.cellsOf T = szT T) (hx : ev env x = some (.cp f l)) (htk : fr (szT T) (l) out) (h : DR P w0 N ops objs K rest ((d, .agg out) :: env)) : DO P w0 N ops objs K ⟨some d, .load T x, T0, pos, af, g⟩ rest env := ⟨fun hgr => .run _ _ _ _ _ rfl hN hgr (eZ rfl hT hi hs hx (fun _ => .cp f l) htk) h⟩
theorem pT {T : TypeId} {x : Operand} {out : List TV} {s b off : Nat} {cells : List TV} (hN : Nat.blt d N = true) (_hA : agT T = true) (hT : iY P T = true) (hi : (P.info? T).isSome = true) (hs : P.cellsOf T = szT T) (hx : ev env x = some (.mp s b off)) (hm : (s, b, bu.box cells) ∈ objs) (htk : fr (szT T) (cells.drop off) out) (h : DR P w0 N ops objs K rest ((d, .agg out) :: env)) : DO P w0 N ops objs K ⟨some d, .load T x, T0, pos, af, g⟩ rest env := ⟨fun hgr => .run _ _ _ _ _ rfl hN hgr (eZ rfl hT hi hs hx (fun _ => .mp s b off cells hm) htk) h⟩
theorem ql {T : TypeId} {x : Operand} {out : List TV} {s b m j off : Nat} {rows : List (List TV)} {r0 : List TV} (hN : Nat.blt d N = true) (_hA : agT T = true) (hT : iY P T = true) (hi : (P.info? T).isSome = true) (hs : P.cellsOf T = szT T) (hx : ev env x = some (.me s b m j off)) (hm : (s, b, bu.row m rows) ∈ objs) (hr : rows[j]? = some r0) (htk : fr (szT T) (r0.drop off) out) (h : DR P w0 N ops objs K rest ((d, .agg out) :: env)) : DO P w0 N ops objs K ⟨some d, .load T x, T0, pos, af, g⟩ rest env := ⟨fun hgr => .run _ _ _ _ _ rfl hN hgr (eZ rfl hT hi hs hx (fun _ => .me s b m j off rows r0 hm hr) htk) h⟩
theorem ac9 {T : TypeId} {n m : Nat} {ps : List (Nat × Operand)} {rows : List (List TV)} (hN : Nat.blt d N = true) (hev : evL env ps 0 = some rows) (hT : P.underlying T = some (.slice (P.elem T))) (hI : (cF P (P.elem T)).isSome = true) (_hs : esT T = some m) (hm : P.cellsOf (P.elem T) = m) (hm0 : Nat.blt 0 m = true) (hn : rows.length = n) (hbig : Nat.ble (n * m) 16777216 = true) (hall : (rows.all fun r => Nat.beq r.length m) = true) (h : DR P w0 N ops objs K rest ((d, .sl w0.heap.size m rows) :: env)) : DO P w0 N ops objs K ⟨some d, .buildSlice T n ps.toArray, T0, pos, af, g⟩ rest env := ⟨fun hgr => .run _ _ _ _ _ rfl hN hgr (acH rfl hT hI hm hm0 hev hn hbig hall) h⟩
theorem xW {G : World → Prop} {f : Nat} {xs : List Operand} {ts : Array TypeId} {args : List TV} {r : Nat → TV} (hN : Nat.blt d N = true) (hc : fW P f = true) (hargs : cf env objs xs args) (hG : G w0) (hst : az G) (hct : Ct P G f args r) (h : DR P w0 N ops objs K rest ((d, r w0.heap.size) :: env)) : DO P w0 N ops objs K ⟨some d, .call { callee := .value (.func f), args := xs.toArray, argTypes := ts }, T0, pos, af, g⟩ rest env := ⟨fun hgr => .run _ _ _ _ _ rfl hN hgr (vH rfl hc hargs hct hG hst) h⟩
theorem abi {T : TypeId} {zs : List TV} (hN : Nat.blt d N = true) (_he : zT T = zs) (hz : cF P T = some zs) (h : ∀ ss b, AL P w0 N ops Q rest ((d, .mp ss b 0) :: env) ((ss, b, .box zs) :: objs)) : AO P w0 N ops Q ⟨some d, .alloc T, T0, pos, af, g⟩ rest env objs := z6 rfl rfl hN hz h
theorem p9 {T : TypeId} {n m : Nat} {ps : List (Nat × Operand)} {rows : List (List TV)} (hN : Nat.blt d N = true) (hev : evL env ps 0 = some rows) (hT : P.underlying T = some (.slice (P.elem T))) (hI : (cF P (P.elem T)).isSome = true) (_hs : esT T = some m) (hm : P.cellsOf (P.elem T) = m) (hm0 : Nat.blt 0 m = true) (hn : rows.length = n) (hbig : Nat.ble (n * m) 16777216 = true) (hall : (rows.all fun r => Nat.beq r.length m) = true) (h : ∀ ss b, AL P w0 N ops Q rest ((d, .ms ss b 0 n) :: env) ((ss, b, .row m rows) :: objs)) : AO P w0 N ops Q ⟨some d, .buildSlice T n ps.toArray, T0, pos, af, g⟩ rest env objs := acE rfl rfl hN hT hI hm hm0 hev hn hbig hall h
theorem wv {T : TypeId} {x v : Operand} {s b off : Nat} {tv : TV} {cells vs cells2 : List TV} {objs2 : aI} (hx : ev env x = some (.mp s b off)) (hv : ev env v = some tv) (hc : e9 tv = some vs) (hi : (P.info? T).isSome = true) (_hm : (s, b, bu.box cells) ∈ objs) (hsp : cz cells off vs cells2) (hu : Upd (s, b, .box cells) (s, b, .box cells2) objs objs2) (hsz : P.cellsOf T = vs.length) (h : AL P w0 N ops Q rest env objs2) : AO P w0 N ops Q ⟨none, .store T x v, T0, pos, af, g⟩ rest env objs := tI rfl rfl hx hv hc hi hsz hu hsp h
theorem wl {T : TypeId} {x v : Operand} {s b m j off : Nat} {tv : TV} {vs r r2 : List TV} {rows rows2 : List (List TV)} {objs2 : aI} (hx : ev env x = some (.me s b m j off)) (hv : ev env v = some tv) (hc : e9 tv = some vs) (hi : (P.info? T).isSome = true) (_hm : (s, b, bu.row m rows) ∈ objs) (hr : rows[j]? = some r) (hsp : cz r off vs r2) (hsz : P.cellsOf T = vs.length) (hrows : rows.set j r2 = rows2) (hu : Upd (s, b, .row m rows) (s, b, .row m rows2) objs objs2) (h : AL P w0 N ops Q rest env objs2) : AO P w0 N ops Q ⟨none, .store T x v, T0, pos, af, g⟩ rest env objs := tx rfl rfl hx hv hc hi hsz hu hr hsp hrows h
theorem eT {objsOf : Nat → aI} {T s b len n m : Nat} {x y : Operand} {f : Nat} {rows rows2 news : List (List TV)} (hN : Nat.blt d N = true) (hx : ev env x = some (.ms s b 0 len)) (hy : ev env y = some (.sl f m news)) (hT : mq P T m = true) (_hm : (s, b, bu.row m rows) ∈ objs) (hl : rows.length = len) (hn : news.length = n) (hbig : len + n ≤ 1000000000) (hrows : rows ++ news = rows2) (hu : ∀ b2, Upd (s, b, .row m rows) (s, b2, .row m rows2) objs (objsOf b2)) (h : ∀ b2, AL P w0 N ops Q rest ((d, .ms s b2 0 (len + n)) :: env) (objsOf b2)) : AO P w0 N ops Q ⟨some d, .call { callee := .builtin .append, args := #[x, y], argTypes := #[T, T] }, T0, pos, af, g⟩ rest env objs := xx rfl rfl hN hx hy hT (by omega) hn hbig (by rw [← hl, List.take_length]; exact hrows) hu h
end
section
variable {P : Program} {w0 : World} {N : Nat} {Q : Exit → Act → World → Prop} {env : Env} {objs : aI} {o : Oper}
def gI (P : Program) (T : Nat) : Option (List (Nat × Nat)) := match P.underlying T with
  | some (.struct fields) => fields.toList.mapM fun f => (P.info? f.type).map fun i => (f.offset, i.size)
  | _ => none
inductive TB (P : Program) (env : Env) (T : Nat) : List (Nat × Operand) → List TV → List TV → Prop
  | nil (l : List TV) : TB P env T [] l l
  | cons (i : Nat) (x : Operand) (r : List (Nat × Operand)) (l l1 l2 : List TV) (tv : TV) (vs : List TV) (hx : ev env x = some tv) (hc : e9 tv = some vs) (hs : cz l (ofT T i) vs l1) (hF : (gI P T).bind (·[i]?) = some (ofT T i, vs.length)) (hr : TB P env T r l1 l2) : TB P env T ((i, x) :: r) l l2
theorem abW {w : World} {T : Nat} (a : Act) {places : List (Nat × Nat)} (hp : gI P T = some places) {ps : List (Nat × Operand)} {l l2 : List TV} (h : TB P env T ps l l2) : ∀ (cs : Array Value), cs.size = l.length → (∀ (i : Nat) (t : TV) (u : Value), l[i]? = some t → cs[i]? = some u → Rep w objs t u) → (∀ t ∈ l, t.isCell = true) →
    (∀ p ∈ ps, ∀ v, ev env p.2 = some v → Rep w objs v (a.eval p.2)) → ∃ r, Instr.fill (places.toArray[·]?) cs (ps.map fun p => (p.1, a.eval p.2)) = some r ∧ r.size = l2.length ∧ (∀ (i : Nat) (t : TV) (u : Value), l2[i]? = some t → r[i]? = some u → Rep w objs t u) ∧ ∀ t ∈ l2, t.isCell = true := by
  induction h with
  | nil l => exact fun cs h1 h2 h3 _ => ⟨cs, rfl, h1, h2, h3⟩
  | cons i x r l l1 l2 tv vs hx hc hs hF hr ih =>
    intro cs h1 h2 h3 hop
    obtain ⟨g1, g2, g3⟩ := ik (show Rep w objs tv (a.eval x) from hop (i, x) (by simp) tv hx) hc
    obtain ⟨p1, p2, p3⟩ := hs.spec
    rw [hp] at hF
    simp only [Option.bind_some] at hF
    obtain ⟨f1, f2⟩ := Great.foldl_set (ofT T i) (a.eval x).cells.toList 0 cs
    have hsame : (a.eval x).cells.zipIdx.foldl (fun cs (c, j) => cs.setIfInBounds (ofT T i + j) c) cs = ((a.eval x).cells.toList.zipIdx 0).foldl (fun cs (x : Value × Nat) => cs.setIfInBounds (ofT T i + x.2) x.1) cs := by
      rw [← Array.foldl_toList, Array.toList_zipIdx]
    obtain ⟨r', e1, e2, e3⟩ := ih (((a.eval x).cells.toList.zipIdx 0).foldl (fun cs (x : Value × Nat) => cs.setIfInBounds (ofT T i + x.2) x.1) cs) (by rw [f1, h1, p2]) (fun k t u ht hu => by
      rw [f2] at hu
      rw [p3] at ht
      by_cases hin : ofT T i ≤ k ∧ k < ofT T i + vs.length
      · rw [if_pos hin] at ht
        rw [if_pos ⟨by omega, by simp; omega, by omega⟩] at hu
        exact g2 _ t u ht (by simpa using hu)
      · rw [if_neg hin] at ht
        rw [if_neg (by simp; omega)] at hu
        exact h2 k t u ht hu) (fun t ht => by
      obtain ⟨k, hk, rfl⟩ := List.getElem_of_mem ht
      have h5 := p3 k
      rw [List.getElem?_eq_getElem hk] at h5
      split at h5
      · exact g3 _ (List.mem_of_getElem? h5.symm)
      · exact h3 _ (List.mem_of_getElem? h5.symm)) (fun p hp => hop p (by simp [hp]))
    refine ⟨r', ?_, e2, e3⟩
    simp only [List.map_cons, Instr.fill]
    have hpl : places.toArray[i]? = some (ofT T i, vs.length) := by simpa using hF
    rw [hpl]
    simp only
    rw [if_neg (by simp; omega), hsame]
    exact e1
theorem uq {T : TypeId} {ps : List (Nat × Operand)} {l : List TV} (ho : o.op = .build T ps.toArray) (hz : cF P T = some (zT T)) (hp : (gI P T).isSome = true) (hb : TB P env T ps (zT T) l) : aS P w0 env objs o (.agg l) := aL fun a w hw hop => by
  obtain ⟨places, hp⟩ := Option.isSome_iff_exists.1 hp
  have hz0 := hz
  unfold cF at hz
  cases hi : P.info? T with
  | none => rw [hi] at hz; cases hz
  | some it =>
  rw [hi] at hz
  simp only [Option.bind_some] at hz
  cases hzz : it.zero with
  | none => rw [hzz] at hz; cases hz
  | some z =>
  rw [hzz] at hz
  simp only [Option.bind_some] at hz
  have htv := kt (w := w) (objs := objs) hz
  obtain ⟨r, e1, e2, e3, e4⟩ := abW (w := w) (objs := objs) a hp hb z.cells (by simpa using htv.1.1.symm) (fun i t u ht hu => htv.2 i t u ht (by simpa using hu)) htv.1.2 (fun p hpm v hv => hop p.2 (by
    simp only [ho, Op.operands, List.toList_toArray]; exact List.mem_map.2 ⟨p, hpm, rfl⟩) v hv)
  refine ⟨.agg r, ?_, .agg l r e4 e2.symm e3⟩
  simp only [execOp, ho]
  refine cy (run_build w T _ r ?_)
  unfold gI at hp
  unfold Program.built
  cases hu : P.underlying T with
  | none => rw [hu] at hp; cases hp
  | some d =>
    rw [hu] at hp
    cases d <;> first | (cases hp; done) | skip
    simp only [hi, hzz, hp]
    simp only [List.map_toArray]
    exact e1
variable {ops : Array Oper} {rest : List Oper} {d T0 : Nat} {pos : String} {af : Array Edge} {g : Option (Nat × Bool)}
theorem aa9 {T : TypeId} {ps : List (Nat × Operand)} {zs l : List TV} (hN : Nat.blt d N = true) (he : zT T = zs) (hb : TB P env T ps zs l) (hz : cF P T = some (zT T)) (hp : (gI P T).isSome = true) (h : AL P w0 N ops Q rest ((d, .agg l) :: env) objs) : AO P w0 N ops Q ⟨some d, .build T ps.toArray, T0, pos, af, g⟩ rest env objs := uM rfl hN (uq rfl hz hp (by rw [he]; exact hb)) h
end
section
variable {P : Program} {w0 : World} {N : Nat} {Q : Exit → Act → World → Prop} {env : Env} {objs : aI} {o : Oper}
theorem wZ {T : TypeId} {x lo : Operand} {s b off len m : Nat} {rows : List (List TV)} {k1 : IntKind} {n : Int} {i : Nat} (ho : o.op = .slice T x (some lo) none none) (hx : ev env x = some (.ms s b off len)) (hlo : ev env lo = some (.int k1 n))
    (hobj : (s, b, bu.row m rows) ∈ objs) (hT : P.underlying T = some (.slice (P.elem T))) (hI : (P.info? (P.elem T)).isSome = true) (hm : P.cellsOf (P.elem T) = m) (hn : n = (i : Int)) (hi : i ≤ len) :
    aS P w0 env objs o (.ms s b (off + i) (len - i)) := aL fun a w hw hop => by
  have h0 := hop x (e6 ho) _ hx
  have h1 := (hop lo (by simp [ho, Op.operands]) _ hlo).int_inv
  have huniq : ∀ m' rows', (s, b, bu.row m' rows') ∈ objs → m' = m := fun m' rows' h' => by
    have key : ∀ (l : aI), List.Pairwise (fun (x y : Nat × Nat × bu) => x.1 ≠ y.1 ∧ (x.2.1 ≠ y.2.1 ∨ x.2.1 = 0)) l → (s, b, bu.row m rows) ∈ l → (s, b, bu.row m' rows') ∈ l → m' = m := fun l => by
      induction l with
      | nil => intro _ h; simp at h
      | cons z l ih =>
        intro hp h1 h2
        obtain ⟨g1, g2⟩ := List.pairwise_cons.1 hp
        rcases List.mem_cons.1 h1 with e1 | h1'
        · rcases List.mem_cons.1 h2 with e2 | h2'
          · rw [← e1] at e2
            simp only [Prod.mk.injEq, bu.row.injEq] at e2
            exact e2.2.2.1
          · exact absurd (by rw [← e1]) (g1 _ h2').1
        · rcases List.mem_cons.1 h2 with e2 | h2'
          · exact absurd (by rw [← e2]) (g1 _ h1').1
          · exact ih g2 h1' h2'
    exact key objs hw.sites hobj h'
  generalize hv : a.eval x = v at h0
  cases h0 with
  | ms s b off len v h =>
    have hor := h.or
    obtain ⟨⟨hb, hmk, _⟩, _⟩ := h
    cases hie : P.info? (P.elem T) with
    | none => rw [hie] at hI; cases hI
    | some ie =>
    rcases hor m rows hobj with ⟨e0, e1, e2, e3⟩ | ⟨hb0, q, c, e, nn, h2, h3, h4, h5, h6⟩
    · subst e0; subst e1; subst e2; subst e3
      obtain rfl : i = 0 := by omega
      refine ⟨.slice none 0 0, ?_, .ms s 0 0 0 _ (.mk ⟨hb, hmk, none, 0, by simp⟩ (fun _ _ _ => .inl ⟨rfl, rfl, rfl, rfl⟩) (fun _ => ⟨rfl, rfl, rfl⟩))⟩
      simp only [execOp, ho, h1, hv, Option.map_some, Option.map_none]
      refine cy ?_
      rw [run_sliceAt_slice w T _ _ _ _ hT, run_slice_l w T none 0 0 hT k1 n (by omega) (by omega), run_sizeOf w hie]
      subst hn
      simp [Result.andThen_ok, sliced]
    · subst h2
      refine ⟨.slice (if c = i then some ⟨b, q, none⟩ else some ⟨b, q + i * m, none⟩) (len - i) (c - i), ?_, .ms s b (off + i) (len - i) _ (.mk ⟨hb, hmk, _, _, rfl⟩ (fun m' rows' hm' => .inr ⟨hb0, if c = i then q else q + i * m, c - i, e, nn, ?_, by omega, h4, ?_, fun hor => ?_⟩) (fun h0 => absurd h0 hb0))⟩
      · simp only [execOp, ho, h1, hv, Option.map_some, Option.map_none]
        refine cy ?_
        rw [run_sliceAt_slice w T _ _ _ _ hT, run_slice_l w T _ len c hT k1 n (by omega) (by omega), run_sizeOf w hie, hm]
        subst hn
        simp [Result.andThen_ok, sliced, Addr.add_lit]
      · split <;> rfl
      · obtain rfl := huniq m' rows' hm'
        rw [h5]; congr 1; omega
      · obtain rfl := huniq m' rows' hm'
        by_cases hc : c = i
        · rw [if_pos hc]
          have : off = 0 := by omega
          have h7 := h6 (.inr this)
          rw [h7]; congr 1; omega
        · rw [if_neg hc]
          have h7 := h6 (.inl (by omega))
          rw [h7, Nat.add_mul]
theorem wd {ops : Array Oper} {rest : List Oper} {d T0 : Nat} {pos : String} {af : Array Edge} {g : Option (Nat × Bool)} {T : TypeId} {x lo : Operand} {s b off len m : Nat} {rows : List (List TV)} {k1 : IntKind} {n : Int} {i : Nat} (hN : Nat.blt d N = true) (hx : ev env x = some (.ms s b off len)) (hlo : ev env lo = some (.int k1 n))
    (hobj : (s, b, bu.row m rows) ∈ objs) (hT : P.underlying T = some (.slice (P.elem T))) (hI : (P.info? (P.elem T)).isSome = true) (hm : P.cellsOf (P.elem T) = m) (hn : n = (i : Int)) (hi : i ≤ len) (h : AL P w0 N ops Q rest ((d, .ms s b (off + i) (len - i)) :: env) objs) :
    AO P w0 N ops Q ⟨some d, .slice T x (some lo) none none, T0, pos, af, g⟩ rest env objs := uM rfl hN (wZ rfl hx hlo hobj hT hI hm hn hi) h
theorem vA {zs : List TV} {m : Nat} (hm : zs.length = m) (hm0 : 0 < m) : ∀ (n j : Nat) (t : TV), (List.replicate n zs).flatten[j]? = some t → j < n * m ∧ zs[j % m]? = some t
  | 0, j, t, h => by simp at h
  | n + 1, j, t, h => by
    rw [List.replicate_succ, List.flatten_cons] at h
    by_cases hj : j < m
    · rw [List.getElem?_append_left (by omega)] at h
      rw [Nat.mod_eq_of_lt hj]
      refine ⟨?_, h⟩
      rw [Nat.succ_mul]; omega
    · rw [List.getElem?_append_right (by omega), hm] at h
      obtain ⟨h1, h2⟩ := vA hm hm0 n (j - m) t h
      refine ⟨by rw [Nat.succ_mul]; omega, ?_⟩
      rw [Nat.mod_eq_sub_mod (by omega)]; exact h2
def abf (P : Program) (T m : Nat) : Bool := match P.info? (P.elem T) with
  | some i => Nat.beq i.size m && Nat.ble i.bytes 1024
  | none => false
theorem abe {ops : Array Oper} {rest : List Oper} {d : Nat} {T : TypeId} {x : Operand} {k : IntKind} {mi : Int} {n m : Nat} {zs : List TV} (ho : o.op = .makeSlice T x x) (hd : o.dst = some d) (hN : Nat.blt d N = true) (hx : ev env x = some (.int k mi)) (hn : mi = (n : Int))
    (hT : P.underlying T = some (.slice (P.elem T))) (hz : cF P (P.elem T) = some zs) (hm : zs.length = m) (hm0 : Nat.blt 0 m = true) (hB : abf P T m = true) (hbig : n ≤ 1000000000)
    (h : ∀ ss b, AL P w0 N ops Q rest ((d, .ms ss b 0 n) :: env) ((ss, b, .row m (List.replicate n zs)) :: objs)) : AO P w0 N ops Q o rest env objs := ⟨fun a w K hs hK => by
    obtain ⟨ss, hf⟩ := fy objs
    have hm0' : 0 < m := Nat.blt_eq ▸ hm0
    have hv := (eR hs hx).int_inv
    unfold cF at hz
    cases hie : P.info? (P.elem T) with
    | none => rw [hie] at hz; cases hz
    | some i =>
    rw [hie] at hz
    simp only [Option.bind_some] at hz
    cases hzz : i.zero with
    | none => rw [hzz] at hz; cases hz
    | some z =>
    rw [hzz] at hz
    simp only [Option.bind_some] at hz
    have hB' : i.size = m ∧ i.bytes ≤ 1024 := by
      unfold abf at hB
      rw [hie] at hB
      simp only [Bool.and_eq_true] at hB
      exact ⟨Nat.eq_of_beq_eq_true hB.1, Nat.le_of_ble_eq_true hB.2⟩
    have hrep := fun (w : World) (objs : aI) => kt (w := w) (objs := objs) hz
    have hzl : z.cells.size = m := by
      have := (hrep w []).1.1
      rw [← hm, this]; simp
    have hbytes : (i.bytes : Int) * (n : Int) ≤ 281474976710656 := by
      have h1 : i.bytes * n ≤ 1024 * 1000000000 := Nat.mul_le_mul hB'.2 hbig
      have h2 : ((i.bytes * n : Nat) : Int) ≤ ((1024 * 1000000000 : Nat) : Int) := Int.ofNat_le.2 h1
      rw [Int.natCast_mul] at h2
      omega
    have hst := fun cs => gc hs.mem cs (P.elem T) ss (.row m (List.replicate n zs))
    have hrun : (execOp a.eval o).run P w = .ok (.value (.slice (some ⟨w.heap.size, 0, none⟩) n n)) (w.alloc (.cells (madeCells z.cells (n * m)) (P.elem T))) := by
      simp only [execOp, ho, hv, hn]
      refine cy ?_
      rw [run_make w T (P.elem T) i z hT hie hzz k k (n : Int) (n : Int) (by omega) (by omega) hbytes (by omega), hB'.1]
      simp
    unfold Oper.wp
    rw [hrun]
    refine hK _ _ ?_
    rw [hd]
    have hb0 : w.heap.size ≠ 0 := Nat.ne_of_gt (Nat.lt_of_lt_of_le hs.mem.pos hs.mem.below.size)
    have hcs : (madeCells z.cells (n * m)).size = n * m := size_madeCells _ _
    refine (h ss w.heap.size).run _ _ (hs.putNew hN (.ms _ _ _ _ _ (.mk ⟨by simp, fL hs.mem #[] 0 ss _, _, _, rfl⟩ (fun m' rows' hm' => .inr ⟨hb0, 0, n, P.elem T, n * m, rfl, Nat.le_refl _, by unfold World.shape?; rw [heap_alloc_new]; simp [hcs], ?_, fun _ => by simp⟩) (fun h0 => absurd h0 hb0))) (hs.mem.newObj hf ⟨⟨hm0', fun t ht => ?_⟩, fun r hr => by rw [List.eq_of_mem_replicate hr]; exact hm, .inr ⟨hs.mem.below.size, madeCells z.cells (n * m), P.elem T, n, heap_alloc_new w _, hcs, by simp, by simp only [maxLen]; omega, fun j t hj => ?_⟩⟩) (hst _))
    · rcases List.mem_cons.1 hm' with he | hm'
      · simp only [Prod.mk.injEq, bu.row.injEq] at he; rw [he.2.2.1]; simp
      · exact absurd (da hs.mem hm') (Nat.lt_irrefl _)
    · obtain ⟨r, hr, htr⟩ := List.mem_flatten.1 ht
      rw [List.eq_of_mem_replicate hr] at htr
      exact (hrep w []).1.2 t htr
    · obtain ⟨h1, h2⟩ := vA hm hm0' n j t hj
      have hjm : j % m < z.cells.size := by rw [hzl]; exact Nat.mod_lt _ hm0'
      refine ⟨z.cells[j % m], ?_, (hrep _ _).2 (j % m) t _ h2 (by simp [hjm])⟩
      unfold madeCells
      rw [Array.getElem?_map, Array.getElem?_range]
      simp [h1, hzl]
      exact getElem!_pos z.cells (j % m) hjm⟩
theorem acb {ops : Array Oper} {rest : List Oper} {d T0 : Nat} {pos : String} {af : Array Edge} {g : Option (Nat × Bool)} {T : TypeId} {x : Operand} {k : IntKind} {mi : Int} {n m : Nat} {zs : List TV} (hN : Nat.blt d N = true) (hx : ev env x = some (.int k mi)) (_he : ezT T = zs) (hn : mi = (n : Int))
    (hT : P.underlying T = some (.slice (P.elem T))) (hz : cF P (P.elem T) = some zs) (hm : zs.length = m) (hm0 : Nat.blt 0 m = true) (hB : abf P T m = true) (hbig : n ≤ 1000000000)
    (h : ∀ ss b, AL P w0 N ops Q rest ((d, .ms ss b 0 n) :: env) ((ss, b, .row m (List.replicate n zs)) :: objs)) : AO P w0 N ops Q ⟨some d, .makeSlice T x x, T0, pos, af, g⟩ rest env objs := abe rfl rfl hN hx hn hT hz hm hm0 hB hbig h
end
section
variable {P : Program} {w0 : World} {N : Nat} {Q : Exit → Act → World → Prop} {env : Env} {objs objs' : aI}
theorem Sim.pick {a : Act} {w : World} (h : Sim w0 N env objs a w) (k : dg objs' objs) : Sim w0 N env objs' a w := h.weak ⟨fun _ _ h => h, k⟩
theorem cP {ops : Array Oper} {rest : List Oper} (k : dg objs' objs) (h : AL P w0 N ops Q rest env objs') : AL P w0 N ops Q rest env objs := ⟨fun a w hs => h.run a w (hs.pick k)⟩
theorem uN {ops : Array Oper} {rest : List Oper} (k : objs = objs') (h : AL P w0 N ops Q rest env objs') : AL P w0 N ops Q rest env objs := k ▸ h

structure adk (p : Prop) : Prop where
  go : p
theorem ru {id : Nat} {ops : Array Oper} {b : Bool} {y : Code} (h : adk (AW P w0 N (.seq (.region id ops b) y) Q env objs)) : AW P w0 N (.seq (.region id ops b) y) Q env objs := h.go
theorem bD {ops : Array Oper} {rest : List Oper} {l : aI} (h : AL P w0 N ops Q rest env l) : AL P w0 N ops Q rest env ([] ++ l) := h
theorem br {ops : Array Oper} {rest : List Oper} {x : Nat × Nat × bu} {l : aI} (h : AL P w0 N ops Q rest env (x :: l)) : AL P w0 N ops Q rest env ([x] ++ l) := h
theorem xB {ops : Array Oper} {rest : List Oper} {x y : Nat × Nat × bu} {l : aI} (h : AL P w0 N ops Q rest env (x :: y :: l)) : AL P w0 N ops Q rest env ([x, y] ++ l) := h
theorem vP {objsOf : Nat → List (List TV) → aI} {ops : Array Oper} {rest : List Oper} {d T0 : Nat} {pos : String} {af : Array Edge} {g : Option (Nat × Bool)} {T s b off len n m : Nat} {x y : Operand} {f : Nat} {rows live news : List (List TV)} (hN : Nat.blt d N = true) (hx : ev env x = some (.ms s b off len)) (hy : ev env y = some (.sl f m news)) (hT : mq P T m = true) (_hm : (s, b, bu.row m rows) ∈ objs)
    (hlive : (rows.drop off).take len = live) (hl : off + len ≤ rows.length) (hn : news.length = n) (hbig : len + n ≤ 1000000000) (hu : ∀ b2 pre, Upd (s, b, .row m rows) (s, b2, .row m (pre ++ (live ++ news))) objs (objsOf b2 pre)) (h : ∀ b2 pre, AL P w0 N ops Q rest ((d, .ms s b2 pre.length (len + n)) :: env) (objsOf b2 pre)) :
    AO P w0 N ops Q ⟨some d, .call { callee := .builtin .append, args := #[x, y], argTypes := #[T, T] }, T0, pos, af, g⟩ rest env objs := tV rfl rfl hN hx hy hT hl hn hbig hlive hu fun b2 pre _ => h b2 pre
inductive iO (env : Env) : List Nat → Env → Prop
  | nil : iO env [] []
  | cons (t : Nat) (v : TV) (l : List Nat) (e : Env) (h : lk t env = some v) (hr : iO env l e) : iO env (t :: l) ((t, v) :: e)
theorem iO.weak {l : List Nat} {e : Env} (h : iO env l e) : ∀ t v, lk t e = some v → lk t env = some v := by
  induction h with
  | nil => exact dw.envNil
  | cons t v l e h hr ih => exact dw.envCons h ih
theorem xC {t : Nat} : ∀ {e1 e2 : Env} {v : TV}, lk t (e1 ++ e2) = some v → lk t e1 = some v ∨ lk t e2 = some v
  | [], _, _, h => .inr h
  | (s, u) :: r, e2, v, h => by
    rw [List.cons_append, bI] at h
    rw [bI]
    split at h
    · rename_i e; rw [if_pos e]; exact .inl h
    · rename_i e; rw [if_neg e]; exact xC h
theorem dw.of (new : Env) {e1 : Env} (h1 : ∀ t v, lk t new = some v → lk t env = some v) (h2 : ∀ t v, lk t e1 = some v → lk t env = some v) (hp : dg objs' objs) : dw env objs (new ++ e1) objs' :=
  ⟨fun t v h => (xC h).elim (h1 t v) (h2 t v), hp⟩
theorem aj {X : Type} {body : Code} (keep : List Nat) (new : X → Env) (O : X → aI) (I : X → Prop) (μ : X → Nat) (x0 : X) (h0 : I x0) {e1 : Env} (hk : iO env keep e1) (hw : ∀ t v, lk t (new x0) = some v → lk t env = some v) (hp : dg (O x0) objs)
    (round : ∀ x, I x → AW P w0 N body (Exit.then (adx w0 N (fun x => new x ++ e1) O I μ (μ x)) Q) (new x ++ e1) (O x)) : AW P w0 N (.loop body) Q env objs :=
  aby (fun x => new x ++ e1) O I μ x0 h0 (.of _ hw hk.weak hp) round
theorem qV {id : Nat} {c : Code} (h : adk (AW P w0 N (.block id c) Q env objs)) : AW P w0 N (.block id c) Q env objs := h.go
theorem fc {X : Type} {x z : Code} (keep : List Nat) (new : X → Env) (O : X → aI) (I : X → Prop) {e1 : Env} (hk : iO env keep e1) (h1 : AW P w0 N x (Exit.then (adH w0 N (fun x => new x ++ e1) O I) Q) env objs) (h2 : ∀ y, I y → AW P w0 N z Q (new y ++ e1) (O y)) : AW P w0 N x (Exit.then (z.wp P Q) Q) env objs := ⟨fun a w hs => by
  have _ := hk
  refine wp_mono (h1.run a w hs) fun e a' w' hq => ?_
  cases e with
  | normal =>
    obtain ⟨y, hy, hs'⟩ := hq
    exact (h2 y hy).run a' w' hs'
  | exit id => exact hq
  | goto l => exact hq
  | ret => exact hq
  | panic c => exact hq
  | outgrown => exact hq⟩

theorem acW {t : Nat} {env : Env} {s b off m n : Nat} (h : lk t env = some (.ms s b off m)) (e : m = n) : lk t env = some (.ms s b off n) := e ▸ h
theorem acv {t : Nat} {env : Env} {s b off m off' n : Nat} (h : lk t env = some (.ms s b off m)) (e0 : off = off') (e : m = n) : lk t env = some (.ms s b off' n) := e0 ▸ e ▸ h
inductive xa (s b : Nat) (o : bu) : aI → aI → Prop
  | head (l : aI) : xa s b o ((s, b, o) :: l) l
  | tail (s' b' : Nat) (o' : bu) (l l' : aI) (h : xa s b o l l') : xa s b o ((s', b', o') :: l) ((s', b', o') :: l')
theorem xa.del {s b : Nat} {o : bu} {l l' : aI} (h : xa s b o l l') : Del (s, b, o) l l' := by
  induction h with
  | head l => exact .head l
  | tail s' b' o' l l' h ih => exact .tail _ _ _ ih
theorem dg.consE {s b : Nat} {o o' : bu} {l l1 objs : aI} (hd : xa s b o' objs l1) (h : o = o') (k : dg l l1) : dg ((s, b, o) :: l) objs := h ▸ .cons hd.del k

theorem va (w : World) (ss m : Nat) (hm : 0 < m) : jz w objs w ((ss, 0, .row m []) :: objs) :=
  ⟨fun _ _ _ => rfl, fun b _ ha => ⟨ha.1, by
    obtain ⟨h0, s, o, hm⟩ := ha
    rcases List.mem_cons.1 hm with he | hm
    · simp only [Prod.mk.injEq] at he; omega
    · exact ⟨s, o, hm⟩⟩, fun s b m' rows _ hb hm' => by
    rcases List.mem_cons.1 hm' with he | hm'
    · simp only [Prod.mk.injEq] at he; omega
    · exact ⟨⟨rows, hm'⟩, rfl⟩, Nat.le_refl _, fun hk => by
    rcases List.mem_cons.1 hk with he | hk
    · simp only [dz, Prod.mk.injEq, bu.row.injEq] at he; omega
    · exact hk⟩
theorem du.nil {w : World} (hw : du w0 objs w) {ss m : Nat} (hm : 0 < m) (hs : ∀ x ∈ objs, x.1 ≠ ss) : du w0 ((ss, 0, .row m []) :: objs) w :=
  ⟨hw.below, hw.pos, fun s b o h => by
    rcases List.mem_cons.1 h with he | h
    · simp only [Prod.mk.injEq] at he
      obtain ⟨rfl, rfl, rfl⟩ := he
      exact ⟨⟨hm, by simp⟩, by simp, .inl ⟨rfl, rfl⟩⟩
    · exact (hw.obj s b o h).step (va w ss m hm) rfl, List.pairwise_cons.2 ⟨fun y hy => ⟨(hs y hy).symm, .inr rfl⟩, hw.sites⟩⟩
theorem Sim.nil {a : Act} {w : World} (h : Sim w0 N env objs a w) {t : Nat} (m : Nat) (hm : 0 < m) (ht : lk t env = some .nils) : ∃ ss, Sim w0 N ((t, .ms ss 0 0 0) :: env) ((ss, 0, .row m []) :: objs) a w := by
  obtain ⟨ss, hss⟩ := fy objs
  have hpos : 0 < w.heap.size := Nat.lt_of_lt_of_le h.mem.pos h.mem.below.size
  have hw := h.mem.nil hm hss
  refine ⟨ss, h.defers, h.size, hw, fun t' v hv => ?_⟩
  rw [bI] at hv
  split at hv
  · rename_i e
    subst e
    simp only [Option.some.injEq] at hv
    subst hv
    have h1 := h.env _ _ ht
    generalize a.tmps.getD t undef = u at h1
    cases h1
    exact .ms ss 0 0 0 _ (.mk ⟨hpos, hw.noMark, none, 0, rfl⟩ (fun _ _ _ => .inl ⟨rfl, rfl, rfl, rfl⟩) fun _ => ⟨rfl, rfl, rfl⟩)
  · exact (h.env t' v hv).step (va w ss m hm)
theorem db {x : Exit} (t m : Nat) (hm : 0 < m) (ht : lk t env = some .nils) (h : ∀ ss, AQ w0 N Q x ((t, .ms ss 0 0 0) :: env) ((ss, 0, .row m []) :: objs)) : AQ w0 N Q x env objs := ⟨fun a w hs => by
  obtain ⟨ss, h1⟩ := hs.nil m hm ht
  exact (h ss).run a w h1⟩
end

def CtM (P : Program) (G : World → Prop) (f : FuncId) (args : List TV) (objs : aI) {Y : Type} (I : Y → Prop) (O : Y → aI) (r : Y → TV) : Prop :=
  ∀ (w0 w : World) (R : aI) (gs : List (TV × Value)) (vs : Array Value), G w0 → du w0 (objs ++ R) w → Rep w (objs ++ R) (.gh gs) undef → vs.size = args.length → (∀ (i : Nat) (t : TV) (v : Value), args[i]? = some t → vs[i]? = some v → Rep w (objs ++ R) t v) →
    Calls P f vs w fun e w' => ∃ v y, e = .returned v ∧ I y ∧ du w0 (O y ++ R) w' ∧ Rep w' (O y ++ R) (.gh gs) undef ∧ Rep w' (O y ++ R) (r y) v
inductive te : aI → aI → aI → Prop
  | nil (R : aI) : te [] R R
  | cons (x : Nat × Nat × bu) (l R l' : aI) (h : te l R l') : te (x :: l) R (x :: l')
  | app (l R : aI) : te l R (l ++ R)
theorem te.eq {l R l' : aI} (h : te l R l') : l ++ R = l' := by
  induction h with
  | nil R => rfl
  | cons x l R l' h ih => rw [List.cons_append, ih]
  | app l R => rfl
theorem te.inv0 {R l : aI} (h : te [] R l) : R = l := h.eq
theorem te.inv1 {x : Nat × Nat × bu} {R l : aI} (h : te [x] R l) : l = x :: R := h.eq.symm
def acr (w0 : World) (R : aI) (gs : List (TV × Value)) {Y : Type} (I : Y → Prop) (O : Y → aI) (r : Y → TV) : Ending → World → Prop := fun e w' =>
  ∃ v y, e = .returned v ∧ I y ∧ du w0 (O y ++ R) w' ∧ Rep w' (O y ++ R) (.gh gs) undef ∧ Rep w' (O y ++ R) (r y) v
theorem aC {P : Program} {G : World → Prop} {f : FuncId} {fn : Func} {c : Code} {args : List TV} {objs : aI} {Y : Type} {I : Y → Prop} {O : Y → aI} {r : Y → TV} {N : Nat} {env : Env} (hf : P.funcs[f]? = some fn) (hb : fn.body = some c) (hn : fn.ntmps = N) (hN : Nat.ble args.length N = true) (hN2 : Nat.ble N 1000000 = true) (he : o5 0 args = env)
    (h : ∀ w0 R gs objsR, G w0 → te objs R objsR → AW P w0 N c (bodyPost P fn (acr w0 R gs I O r)) (env ++ [(1000000, .gh gs)]) objsR) : CtM P G f args objs I O r := fun w0 w R gs vs hG hw hgs hsz hrep => by
  have hN := Nat.le_of_ble_eq_true hN
  have hN2 := Nat.le_of_ble_eq_true hN2
  subst he
  refine calls_of_wp hf hb ((h w0 R gs (objs ++ R) hG (.app _ _)).run _ w ⟨rfl, ?_, hw, fun t v hv => ?_⟩)
  · simp [hn, hsz]; omega
  · rcases xC hv with hv | hv
    · obtain ⟨_, h2⟩ := lV hv
      rw [Nat.sub_zero] at h2
      have hlt : t < vs.size := by rw [hsz]; exact (List.getElem?_eq_some_iff.1 h2).1
      have : (vs ++ Array.replicate (fn.ntmps - vs.size) undef).getD t undef = vs[t] := by simp [Array.getElem?_append_left hlt, hlt]
      rw [this]
      exact hrep t v _ h2 (by simp [hlt])
    · rw [bI] at hv
      split at hv
      · simp only [Option.some.injEq] at hv
        subst hv
        cases hgs with
        | gh l v h => exact .gh gs _ h
      · simp [lk] at hv

section
variable {P : Program} {w0 : World} {N : Nat} {Q : Exit → Act → World → Prop} {env : Env} {objs objs' : aI} {o : Oper}

theorem vu {fn : Func} {R : aI} {gs : List (TV × Value)} {Y : Type} {I : Y → Prop} {O : Y → aI} {r : Y → TV} {x : Exit} (hx : x = .normal ∨ x = .ret) {a : Act} {w : World} (hs : Sim w0 N env objs a w) (y : Y) (hI : I y) (hg : lk 1000000 env = some (.gh gs)) (hp : dg (O y ++ R) objs) {v : Value} (hr : (results fn a.tmps).run P w = .ok v w) (hv : Rep w objs (r y) v) : bodyPost P fn (acr w0 R gs I O r) x a w := by
  have h1 : acr w0 R gs I O r (.returned v) w := by
    have h2 := hs.env _ _ hg
    refine ⟨v, y, rfl, hI, hs.mem.sub hp, ?_, hv.step (f3 hp w)⟩
    generalize a.tmps.getD 1000000 undef = u at h2
    cases h2 with
    | gh l v h => exact .gh gs _ fun i t u hi => (h i t u hi).step (f3 hp w)
  rcases hx with rfl | rfl
  · exact ⟨hs.defers, v, hr, h1⟩
  · exact ⟨hs.defers, v, hr, h1⟩
section
variable {fn : Func} {R : aI} {gs : List (TV × Value)} {Y : Type} {I : Y → Prop} {O : Y → aI} {r : Y → TV} {x : Exit}
theorem av {r1 : ResultVar} {t1 : TV} (hx : x = .normal ∨ x = .ret) (hres : fn.results = #[r1]) (y : Y) (hI : I y) (hg : lk 1000000 env = some (.gh gs)) {l : aI} (ho : te (O y) R l) (hp : dg l objs) (h1 : RV P env objs r1 t1) (hr : r y = t1) : AQ w0 N (bodyPost P fn (acr w0 R gs I O r)) x env objs := ⟨fun a w hs => by
  obtain ⟨v1, e1, g1⟩ := jQ hs h1
  refine vu hx hs y hI hg (ho.eq ▸ hp) (v := v1) ?_ (by rw [hr]; exact g1)
  have : results fn a.tmps = (#[r1].mapM (rT a.tmps)) >>= fun vs => pure (if h : vs.size = 1 then vs[0] else .tuple vs) := by rw [← hres]; rfl
  rw [this]
  simp [e1]⟩
theorem dp {r1 r2 : ResultVar} {t1 t2 : TV} (hx : x = .normal ∨ x = .ret) (hres : fn.results = #[r1, r2]) (y : Y) (hI : I y) (hg : lk 1000000 env = some (.gh gs)) {l : aI} (ho : te (O y) R l) (hp : dg l objs) (h1 : RV P env objs r1 t1) (h2 : RV P env objs r2 t2) (hr : r y = .tup [t1, t2]) : AQ w0 N (bodyPost P fn (acr w0 R gs I O r)) x env objs := ⟨fun a w hs => by
  obtain ⟨v1, e1, g1⟩ := jQ hs h1
  obtain ⟨v2, e2, g2⟩ := jQ hs h2
  refine vu hx hs y hI hg (ho.eq ▸ hp) (v := .tuple #[v1, v2]) ?_ (by rw [hr]; exact uP g1 g2)
  have : results fn a.tmps = (#[r1, r2].mapM (rT a.tmps)) >>= fun vs => pure (if h : vs.size = 1 then vs[0] else .tuple vs) := by rw [← hres]; rfl
  rw [this]
  simp [Sem.run_bind, e1, e2]⟩
end

inductive aD (env : Env) : List Operand → List TV → Prop
  | nil : aD env [] []
  | cons (x : Operand) (xs : List Operand) (t : TV) (ts : List TV) (h : ev env x = some t) (hr : aD env xs ts) : aD env (x :: xs) (t :: ts)
theorem yV {w : World} {a : Act} {xs : List Operand} {ts : List TV} (h : aD env xs ts) (hop : ∀ x ∈ xs, ∀ v, ev env x = some v → Rep w objs v (a.eval x)) : (xs.map a.eval).length = ts.length ∧ ∀ (i : Nat) (t : TV) (v : Value), ts[i]? = some t → (xs.map a.eval)[i]? = some v → Rep w objs t v := by
  induction h with
  | nil => simp
  | cons x xs t ts h hr ih =>
    obtain ⟨h1, h2⟩ := ih (fun y hy => hop y (by simp [hy]))
    refine ⟨by simpa using h1, fun i u v hu hv' => ?_⟩
    cases i with
    | zero => simp at hu hv'; subst hu; subst hv'; exact hop x (by simp) t h
    | succ i => exact h2 i u v (by simpa using hu) (by simpa using hv')

def qT (env : Env) (a : Act) : List (TV × Value) := env.map fun p => ((lk p.1 env).getD .top, a.tmps.getD p.1 undef)
theorem aaV {t : Nat} : ∀ {env : Env} {v : TV}, lk t env = some v → ∃ u, (t, u) ∈ env
  | [], _, h => by simp [lk] at h
  | (s, u) :: r, v, h => by
    rw [bI] at h
    split at h
    · rename_i e; subst e; exact ⟨u, List.mem_cons_self⟩
    · obtain ⟨u', h'⟩ := aaV h; exact ⟨u', List.mem_cons_of_mem _ h'⟩
theorem aa2 {t : Nat} : ∀ {env : Env} {u : TV}, (t, u) ∈ env → ∃ v, lk t env = some v
  | [], _, h => by simp at h
  | (s, u) :: r, u', h => by
    rw [bI]
    by_cases e : s = t
    · exact ⟨u, by rw [if_pos e]⟩
    · rw [if_neg e]
      rcases List.mem_cons.1 h with he | h
      · simp only [Prod.mk.injEq] at he; exact absurd he.1.symm e
      · exact aa2 h
theorem wH {a : Act} {w : World} (hs : Sim w0 N env objs a w) : Rep w objs (.gh (qT env a)) undef := .gh _ _ fun i t u hi => by
  unfold qT at hi
  rw [List.getElem?_map] at hi
  obtain ⟨p, hp, he⟩ := Option.map_eq_some_iff.1 hi
  simp only [Prod.mk.injEq] at he
  obtain ⟨v, hv⟩ := aa2 (List.mem_of_getElem? hp)
  rw [hv, Option.getD_some] at he
  rw [← he.1, ← he.2]
  exact hs.env _ _ hv
theorem vZ {a : Act} {w' : World} (h : Rep w' objs' (.gh (qT env a)) undef) : ∀ t v, lk t env = some v → Rep w' objs' v (a.tmps.getD t undef) := fun t v hv => by
  obtain ⟨u, hu⟩ := aaV hv
  obtain ⟨i, hi, he⟩ := List.getElem_of_mem hu
  cases h with
  | gh l v' h =>
    refine h i v _ ?_
    unfold qT
    rw [List.getElem?_map, List.getElem?_eq_getElem hi, Option.map_some, he]
    simp [hv]
theorem aad {G : World → Prop} {ops : Array Oper} {rest : List Oper} {f : Nat} {xs : List Operand} {ts : Array TypeId} {args : List TV} {objsC R : aI} {Y : Type} {I : Y → Prop} {O : Y → aI} {r : Y → TV} (ho : o.op = .call { callee := .value (.func f), args := xs.toArray, argTypes := ts }) (hc : fW P f = true) (hargs : aD env xs args)
    (hct : CtM P G f args objsC I O r) (hG : G w0) (hap : te objsC R objs) (hpk : ∀ y, I y → ∀ v w' a, Sim w0 N env (O y ++ R) a w' → Rep w' (O y ++ R) (r y) v → wpList P ops Q rest (a.put o.dst v) w') : AO P w0 N ops Q o rest env objs := ⟨fun a w K hs hK => by
  have heq := hap.eq
  subst heq
  obtain ⟨h1, h2⟩ := yV (objs := objsC ++ R) (w := w) (a := a) hargs (fun x _ v hv => eR hs hv)
  unfold Oper.wp
  rw [jV ho hc]
  refine (hct w0 w R (qT env a) (xs.map a.eval).toArray hG hs.mem (wH hs) (by simpa using h1) (fun i t v ht hv => h2 i t v ht (by simpa using hv))).mono ?_
  rintro e w' ⟨v, y, rfl, hI, hw', hg, hr⟩
  exact hK _ _ (hpk y hI v w' a ⟨hs.defers, hs.size, hw', vZ hg⟩ hr)⟩
theorem yt {a : Act} {w' : World} (hs : Sim w0 N env objs a w') {d : Nat} (hd : Nat.blt d N = true) {tv : TV} {v : Value} (hr : Rep w' objs tv v) : Sim w0 N ((d, tv) :: env) objs (a.put (some d) v) w' := hs.putNew hd hr hs.mem (gQ _ _)
theorem aF {G : World → Prop} {ops : Array Oper} {rest : List Oper} {d T0 : Nat} {pos : String} {af : Array Edge} {g : Option (Nat × Bool)} {f : Nat} {xs : List Operand} {ts : Array TypeId} {args : List TV} {objsC R : aI} {Y : Type} {I : Y → Prop} {O : Y → aI} {r : Y → TV} (hN : Nat.blt d N = true) (hc : fW P f = true) (hargs : aD env xs args)
    (hG : G w0) (hct : CtM P G f args objsC I O r) (hap : te objsC R objs) (h : ∀ y, I y → AL P w0 N ops Q rest ((d, r y) :: env) (O y ++ R)) : AO P w0 N ops Q ⟨some d, .call { callee := .value (.func f), args := xs.toArray, argTypes := ts }, T0, pos, af, g⟩ rest env objs :=
  aad rfl hc hargs hct hG hap fun y hI _v _w' _a hs hr => (h y hI).run _ _ (yt hs hN hr)
end

inductive gx (objs : aI) : TV → Prop
  | flat (t : TV) (h : t.flat = true) : gx objs t
  | nils : gx objs .nils
  | ms (s b off len m : Nat) (rows : List (List TV)) (hm : (s, b, bu.row m rows) ∈ objs) : gx objs (.ms s b off len)
  | agg (l : List TV) (h : ∀ t ∈ l, gx objs t) : gx objs (.agg l)
  | tup (l : List TV) (h : ∀ t ∈ l, gx objs t) : gx objs (.tup l)
def fS (objs : aI) : bu → Prop
  | .row _ rows => ∀ t ∈ rows.flatten, gx objs t
  | .box cells => ∀ t ∈ cells, gx objs t
  | .void => False
  | .iter _ _ => False
def ly (objs : aI) : aI := objs.map fun x => (x.1, 0, bu.void)
theorem kh {objs : aI} {x : Nat × Nat × bu} (h : x ∈ ly objs) : ∃ y ∈ objs, x = (y.1, 0, bu.void) := by
  obtain ⟨y, hy, rfl⟩ := List.mem_map.1 h
  exact ⟨y, hy, rfl⟩
theorem ub {objs : aI} (h : List.Pairwise em objs) : List.Pairwise em (ly objs) := by
  unfold ly
  rw [List.pairwise_map]
  exact h.imp fun h => ⟨h.1, .inr rfl⟩
section
variable {P : Program} {w0 : World} {N : Nat} {Q : Exit → Act → World → Prop} {env : Env} {objs objs' : aI} {o : Oper}
theorem oW (w : World) (l : aI) : jz w [] w (ly l) :=
  ⟨fun _ _ _ => rfl, fun b _ ha => by
    obtain ⟨h0, s, o, hm⟩ := ha
    obtain ⟨y, _, he⟩ := kh hm
    simp only [Prod.mk.injEq] at he
    exact absurd he.2.1 h0, fun s b m rows _ hb hm => by
    obtain ⟨y, _, he⟩ := kh hm
    simp only [Prod.mk.injEq] at he
    exact absurd he.2.1 hb, Nat.le_refl _, fun hk => by
    obtain ⟨y, _, he⟩ := kh hk
    simp [dz] at he⟩
theorem oN {w : World} (hw : du w0 objs w) : du w (ly objs) w :=
  ⟨Below.refl _ _, Nat.lt_of_lt_of_le hw.pos hw.below.size, fun s b o hm => by
    obtain ⟨y, _, he⟩ := kh hm
    simp only [Prod.mk.injEq] at he
    obtain ⟨rfl, rfl, rfl⟩ := he
    rfl, ub hw.sites⟩

theorem aaw {w : World} {objs objs' : aI} {t : TV} {v : Value} (hf : t.flat = true) (h : Rep w objs t v) : Rep w objs' t v := by
  cases h with
  | int k n => exact .int k n
  | bool b => exact .bool b
  | str s => exact .str s
  | nilp => exact .nilp
  | _ => cases hf
theorem jN {w w' : World} {O : aI} (hD : du w (O ++ ly objs) w') (hO : ∀ s b o, (s, b, o) ∈ O → fS O o) {s b : Nat} {o : bu} (hm : (s, b, o) ∈ O) : b = 0 ∨ w.heap.size ≤ b := by
  have h1 := hD.obj s b o (List.mem_append_left _ hm)
  have h2 := hO s b o hm
  cases o with
  | row m rows => exact h1.2.2.imp (fun h => h.1) (fun h => h.1)
  | box cells => exact .inr h1.1.1
  | void => exact absurd h2 id
  | iter _ _ => exact absurd h2 id
theorem qF {w w' : World} {O : aI} (hw : du w0 objs w) (hD : du w (O ++ ly objs) w') (hO : ∀ s b o, (s, b, o) ∈ O → fS O o) {t : TV} {v : Value} (hn : gx O t) (h : Rep w' (O ++ ly objs) t v) : Rep w' (O ++ objs) t v := by
  induction hn generalizing v with
  | flat t hf => exact aaw hf h
  | nils => cases h; exact .nils
  | ms s b off len m rows hm =>
    cases h with
    | ms _ _ _ _ _ h =>
      obtain ⟨⟨h1, h2, h3⟩, h4, h5⟩ := h
      refine .ms _ _ _ _ _ ⟨⟨h1, fun hk => ?_, h3⟩, h4, fun m' rows' hb hm' => ?_⟩
      · rcases List.mem_append.1 hk with hk | hk
        · exact h2 (List.mem_append_left _ hk)
        · exact hw.noMark hk
      · rcases List.mem_append.1 hm' with hm' | hm'
        · exact h5 m' rows' hb (List.mem_append_left _ hm')
        · have := da hw hm'
          rcases jN hD hO hm with e | e
          · exact absurd e hb
          · omega
  | agg l hl ih =>
    cases h with
    | agg l vs hi h1 h2 => exact .agg l vs hi h1 fun i t v ht hv => ih t (List.mem_of_getElem? ht) (h2 i t v ht hv)
  | tup l hl ih =>
    cases h with
    | tup l vs h1 h2 => exact .tup l vs h1 fun i t v ht hv => ih t (List.mem_of_getElem? ht) (h2 i t v ht hv)
theorem qr {w w' : World} {O : aI} (_hw : du w0 objs w) (hD : du w (O ++ ly objs) w') (hO : ∀ s b o, (s, b, o) ∈ O → fS O o) : jz w objs w' (O ++ objs) :=
  ⟨fun b hb _ => hD.below.block b hb, fun b hb ha => by
    obtain ⟨h0, s, o, hm⟩ := ha
    rcases List.mem_append.1 hm with hm | hm
    · rcases jN hD hO hm with e | e
      · exact absurd e h0
      · omega
    · exact ⟨h0, s, o, hm⟩, fun s b m rows hb h0 hm => by
    rcases List.mem_append.1 hm with hm | hm
    · rcases jN hD hO hm with e | e
      · exact absurd e h0
      · omega
    · exact ⟨⟨rows, hm⟩, fO (hD.below.block b hb)⟩, hD.below.size, fun hk => by
    rcases List.mem_append.1 hk with hk | hk
    · exact absurd (List.mem_append_left _ hk) hD.noMark
    · exact hk⟩
theorem vB {w w' : World} {O : aI} (hw : du w0 objs w) (hD : du w (O ++ ly objs) w') (hO : ∀ s b o, (s, b, o) ∈ O → fS O o) : du w0 (O ++ objs) w' := by
  have hst := qr hw hD hO
  have hle := hw.below.size
  refine ⟨hw.below.trans (hD.below.mono hle), hw.pos, fun s b o hm => ?_, ?_⟩
  · rcases List.mem_append.1 hm with hm | hm
    · have h1 := hD.obj s b o (List.mem_append_left _ hm)
      have h2 := hO s b o hm
      cases o with
      | row m rows =>
        refine ⟨h1.1, h1.2.1, h1.2.2.imp id fun ⟨g1, cur, e, cap, g2, g3, g4, g5, g6⟩ => ⟨Nat.le_trans hle g1, cur, e, cap, g2, g3, g4, g5, fun j t hj => ?_⟩⟩
        obtain ⟨v, g7, g8⟩ := g6 j t hj
        exact ⟨v, g7, qF hw hD hO (h2 t (List.mem_of_getElem? hj)) g8⟩
      | box cells =>
        obtain ⟨⟨g1, g0⟩, cur, e, g2, g3, g6⟩ := h1
        refine ⟨⟨Nat.le_trans hle g1, g0⟩, cur, e, g2, g3, fun j t hj => ?_⟩
        obtain ⟨v, g7, g8⟩ := g6 j t hj
        exact ⟨v, g7, qF hw hD hO (h2 t (List.mem_of_getElem? hj)) g8⟩
      | void => exact absurd h2 id
      | iter _ _ => exact absurd h2 id
    · exact (hw.obj s b o hm).step hst (hD.below.block b (da hw hm))
  · obtain ⟨p1, _, p3⟩ := List.pairwise_append.1 hD.sites
    refine List.pairwise_append.2 ⟨p1, hw.sites, fun x hx y hy => ?_⟩
    refine ⟨(p3 x hx (y.1, 0, .void) (List.mem_map.2 ⟨y, hy, rfl⟩)).1, ?_⟩
    rcases jN hD hO (s := x.1) (b := x.2.1) (o := x.2.2) hx with e | e
    · exact .inr e
    · have := da (s := y.1) (b := y.2.1) (ob := y.2.2) hw hy
      exact .inl (by omega)
theorem aap {G : World → Prop} {ops : Array Oper} {rest : List Oper} {f : Nat} {xs : List Operand} {ts : Array TypeId} {args : List TV} {Y : Type} {I : Y → Prop} {O : Y → aI} {r : Y → TV} (ho : o.op = .call { callee := .value (.func f), args := xs.toArray, argTypes := ts }) (hc : fW P f = true) (hargs : cf env objs xs args)
    (hct : CtM P G f args [] I O r) (hG : G w0) (hst : az G) (hnew : ∀ y, I y → (∀ s b o, (s, b, o) ∈ O y → fS (O y) o) ∧ gx (O y) (r y)) (h : ∀ y, I y → ∀ v w' a, Sim w0 N env (O y ++ objs) a w' → Rep w' (O y ++ objs) (r y) v → wpList P ops Q rest (a.put o.dst v) w') : AO P w0 N ops Q o rest env objs := ⟨fun a w K hs hK => by
  obtain ⟨h1, h2⟩ := lK hs.mem (a := a) hargs (fun x _ v hv => eR hs hv)
  unfold Oper.wp
  rw [jV ho hc]
  have hw := oN hs.mem
  refine (hct w w (ly objs) [] (xs.map a.eval).toArray (hst.below _ _ hG hs.mem.below) (by simpa using hw) (.gh _ _ (by simp)) (by simpa using h1) (fun i t v ht hv => ?_)).mono ?_
  · exact (h2 i t v ht (by simpa using hv)).step (by simpa using oW w objs)
  · rintro e w' ⟨v, y, rfl, hI, hw', _, hr⟩
    obtain ⟨n1, n2⟩ := hnew y hI
    have hst' := qr hs.mem hw' n1
    exact hK _ _ (h y hI v w' a ⟨hs.defers, hs.size, vB hs.mem hw' n1, fun t u hu => (hs.env t u hu).step hst'⟩ (qF hs.mem hw' n1 n2 hr))⟩
theorem abo {G : World → Prop} {ops : Array Oper} {rest : List Oper} {d T0 : Nat} {pos : String} {af : Array Edge} {g : Option (Nat × Bool)} {f : Nat} {xs : List Operand} {ts : Array TypeId} {args : List TV} {r : Nat → TV} (hN : Nat.blt d N = true) (hc : fW P f = true) (hG : G w0) (hst : az G) (hct : Ct P G f args r) (hargs : cf env objs xs args)
    (h : AL P w0 N ops Q rest ((d, r w0.heap.size) :: env) objs) : AO P w0 N ops Q ⟨some d, .call { callee := .value (.func f), args := xs.toArray, argTypes := ts }, T0, pos, af, g⟩ rest env objs := uM rfl hN (vH rfl hc hargs hct hG hst) h
theorem ed {G : World → Prop} {ops : Array Oper} {rest : List Oper} {d T0 : Nat} {pos : String} {af : Array Edge} {g : Option (Nat × Bool)} {f : Nat} {xs : List Operand} {ts : Array TypeId} {args : List TV} {Y : Type} {I : Y → Prop} {O : Y → aI} {r : Y → TV} (hN : Nat.blt d N = true) (hc : fW P f = true)
    (hG : G w0) (hst : az G) (hct : CtM P G f args [] I O r) (hargs : cf env objs xs args) (hnew : ∀ y, I y → (∀ s b o, (s, b, o) ∈ O y → fS (O y) o) ∧ gx (O y) (r y)) (h : ∀ y, I y → AL P w0 N ops Q rest ((d, r y) :: env) (O y ++ objs)) : AO P w0 N ops Q ⟨some d, .call { callee := .value (.func f), args := xs.toArray, argTypes := ts }, T0, pos, af, g⟩ rest env objs :=
  aap rfl hc hargs hct hG hst hnew fun y hI _v _w' _a hs hr => (h y hI).run _ _ (yt hs hN hr)
theorem x3 {G : World → Prop} {K : Env → Prop} {ops : Array Oper} {rest : List Oper} {d T0 : Nat} {pos : String} {af : Array Edge} {g : Option (Nat × Bool)} {f : Nat} {xs : List Operand} {ts : Array TypeId} {args : List TV} {r : Nat → TV} (hN : Nat.blt d N = true) (hc : fW P f = true) (hG : G w0) (hst : az G) (hct : Ct P G f args r) (hargs : cf env objs xs args)
    (h : DR P w0 N ops objs K rest ((d, r w0.heap.size) :: env)) : DO P w0 N ops objs K ⟨some d, .call { callee := .value (.func f), args := xs.toArray, argTypes := ts }, T0, pos, af, g⟩ rest env := ⟨fun hgr => .run _ _ _ _ _ rfl hN hgr (vH rfl hc hargs hct hG hst) h⟩
theorem ci.msAll {s b len m : Nat} {rows : List (List TV)} (hm : (s, b, bu.row m rows) ∈ objs) (hl : rows.length = len) : ci objs (.ms s b 0 len) (.sl 0 m rows) := by
  subst hl
  exact .msSame hm (by omega) (by simp)
theorem lP {objs : aI} {rows : List (List TV)} (h : ∀ t ∈ rows.flatten, t.flat = true) : ∀ t ∈ rows.flatten, gx objs t := fun t ht => .flat t (h t ht)

end
section
variable {P : Program} {w0 : World} {N : Nat} {Q : Exit → Act → World → Prop} {env : Env} {objs objs' : aI} {o : Oper}
theorem abQ {K : Env → Prop} {ops : Array Oper} {rest : List Oper} {d T0 : Nat} {pos : String} {af : Array Edge} {g : Option (Nat × Bool)} {T : TypeId} {ps : List (Nat × Operand)} {zs l : List TV} (hN : Nat.blt d N = true) (he : zT T = zs) (hb : TB P env T ps zs l) (hz : cF P T = some (zT T)) (hp : (gI P T).isSome = true)
    (h : DR P w0 N ops objs K rest ((d, .agg l) :: env)) : DO P w0 N ops objs K ⟨some d, .build T ps.toArray, T0, pos, af, g⟩ rest env := ⟨fun hgr => .run _ _ _ _ _ rfl hN hgr (uq rfl hz hp (he ▸ hb)) h⟩
end
section
variable {P : Program} {w0 : World} {N : Nat} {Q : Exit → Act → World → Prop} {env : Env} {objs objs' : aI} {o : Oper}
inductive Evs (env : Env) : List Operand → List TV → Prop
  | nil : Evs env [] []
  | cons (x : Operand) (xs : List Operand) (t : TV) (ts : List TV) (h : ev env x = some t) (hr : Evs env xs ts) : Evs env (x :: xs) (t :: ts)
theorem abs {w : World} {a : Act} {xs : List Operand} {l : List TV} (h : Evs env xs l) (hop : ∀ x ∈ xs, ∀ v, ev env x = some v → Rep w objs v (a.eval x)) : l.length = xs.length ∧ ∀ (i : Nat) (t : TV) (v : Value), l[i]? = some t → (xs.map a.eval)[i]? = some v → Rep w objs t v := by
  induction h with
  | nil => simp
  | cons x xs t ts h hr ih =>
    obtain ⟨h1, h2⟩ := ih (fun y hy => hop y (by simp [hy]))
    refine ⟨by simpa using h1, fun i u v hu hv => ?_⟩
    cases i with
    | zero => simp at hu hv; subst hu; subst hv; exact hop x (by simp) t h
    | succ i => exact h2 i u v (by simpa using hu) (by simpa using hv)
theorem vV {f : Nat} {xs : List Operand} {l : List TV} (ho : o.op = .makeFunc (.func f) #[] xs.toArray) (hx : Evs env xs l) : aS P w0 env objs o (.fn f l) := aL fun a w hw hop => by
  obtain ⟨h1, h2⟩ := abs (objs := objs) (w := w) (a := a) hx (fun x hx v hv => hop x (by simp [ho, Op.operands, hx]) v hv)
  refine ⟨.func (.func f) #[] (xs.map a.eval).toArray, ?_, .fn f l _ (by simpa using h1) (fun i t v ht hv => h2 i t v ht (by simpa using hv))⟩
  simp only [execOp, ho]
  refine cy ?_
  simp [Instr.makeFunc, Sem.run_pure, List.map_toArray]
inductive jb (objs : aI) : List TV → List TV → Prop
  | nil : jb objs [] []
  | cons (t t' : TV) (l l' : List TV) (h : ci objs t t') (hr : jb objs l l') : jb objs (t :: l) (t' :: l')
theorem xV {l l' : List TV} (h : jb objs l l') : l'.length = l.length ∧ ∀ (i : Nat) (t t' : TV), l[i]? = some t → l'[i]? = some t' → ci objs t t' := by
  induction h with
  | nil => simp
  | cons t t' l l' h hr ih =>
    refine ⟨by simpa using ih.1, fun i u u' hu hu' => ?_⟩
    cases i with
    | zero => simp at hu hu'; subst hu; subst hu'; exact h
    | succ i => exact ih.2 i u u' (by simpa using hu) (by simpa using hu')
theorem wq {f : Nat} {x : Operand} {xs : List Operand} {vs : Array Value} {ts : Array TypeId} (ho : o.op = .call { callee := .value x, args := xs.toArray, argTypes := ts }) (hc : fW P f = true) (a : Act) (w : World) (hx : a.eval x = .func (.func f) #[] vs) : (execOp a.eval o).run P w = .ok (.enter f ((xs.map a.eval).toArray ++ vs)) w := by
  simp only [execOp, ho, resolve, hx, Sem.run_bind, Sem.run_pure, Result.andThen_ok, Deferred.ofValue, invoke]
  simp [kR hc, List.map_toArray]
theorem yM {G : World → Prop} {f : Nat} {x : Operand} {xs : List Operand} {ts : Array TypeId} {l l' args : List TV} {r : Nat → TV} (ho : o.op = .call { callee := .value x, args := xs.toArray, argTypes := ts }) (hx : ev env x = some (.fn f l)) (hc : fW P f = true) (hargs : cf env objs xs args) (hl : jb objs l l')
    (hct : Ct P G f (args ++ l') r) (hG : G w0) (hst : az G) : aS P w0 env objs o (r w0.heap.size) := fun a w K Q hw hop hK => by
  obtain ⟨h1, h2⟩ := lK hw (a := a) hargs (fun x hx v hv => hop x (by simp [ho, Op.operands, Call.operands, hx]) v hv)
  have hfn := hop x (by simp [ho, Op.operands, Call.operands]) _ hx
  generalize hv : a.eval x = v at hfn
  cases hfn with
  | fn f l vs g1 g2 =>
    obtain ⟨g3, g4⟩ := xV hl
    unfold Oper.wp
    rw [wq ho hc a w hv]
    refine (hct w _ (Nat.lt_of_lt_of_le hw.pos hw.below.size) (hst.below _ _ hG hw.below) (by simp at h1; simp; omega) (fun i t v ht hv' => ?_)).mono ?_
    · rw [List.length_map] at h1
      by_cases hi : i < args.length
      · rw [List.getElem?_append_left hi] at ht
        rw [Array.getElem?_append_left (by simp; omega)] at hv'
        exact h2 i t v ht (by simpa using hv')
      · rw [List.getElem?_append_right (by omega)] at ht
        rw [Array.getElem?_append_right (by simp; omega)] at hv'
        simp only [List.size_toArray, List.length_map] at hv'
        rw [h1] at hv'
        obtain ⟨t0, h5⟩ := dq g3 ht
        exact ve hw (g4 _ _ _ h5 ht) (g2 _ _ _ h5 hv')
    · rintro e w' ⟨v, rfl, hb, hr⟩
      have hk : ∀ b, b < w.heap.size → w'.heap[b]? = w.heap[b]? := fun b hlt => hb.block b hlt
      have hbel : Below w0.heap.size w0 w' := hw.below.trans (hb.mono hw.below.size)
      exact hK v w' (Rep.ofOld (fun b ha => by obtain ⟨_, s, ob, hm⟩ := ha; exact da hw hm) (hr _ hw.below.size)) (hw.grow hbel hb.size hk) (jP objs hb.size hk)
theorem vY {w : World} (hw : du w0 objs w) {s b m : Nat} {rows : List (List TV)} (hm : (s, b, bu.row m rows) ∈ objs) {v : Value} (hr : Rep w objs (.ms s b 0 rows.length) v) (hp : dg objs' objs) (hna : ¬ nQ objs' b) : Rep w objs' (.sl w0.heap.size m rows) v := by
  obtain ⟨⟨hm0, hci⟩, hmm, hor⟩ := hw.obj s b _ hm
  rcases (rN hr).or m rows hm with ⟨_, _, hlen, rfl⟩ | ⟨hb0, q, c, e, k, rfl, hlc, hsh, hk, ho⟩
  · have : rows = [] := List.eq_nil_of_length_eq_zero hlen
    subst this
    exact .sl _ m [] none 0 (Nat.le_refl _) (by simp) (by simp) (by simp) (fun _ => undef) (by simp) (by simp)
  · rcases hor with ⟨h0, _⟩ | ⟨hB, cur, e', cap, h3, h4, h5, h6, h7⟩
    · exact absurd h0 hb0
    have hcm : c ≤ maxLen := by
      have h8 : w.shape? b = some (e', cur.size) := by unfold World.shape?; rw [h3]
      rw [h8] at hsh
      simp only [Option.some.injEq, Prod.mk.injEq] at hsh
      have h9 : cap * m = (0 + c) * m := by omega
      have := Nat.eq_of_mul_eq_mul_right hm0 h9
      omega
    have hq : q = 0 := by simpa using ho (.inr rfl)
    subst hq
    have key : ∀ j, ∃ u, ∀ t', rows.flatten[j]? = some t' → w.cell? ⟨b, 0 + j, none⟩ = some u ∧ Rep w objs' t' u := fun j => by
      cases hj : rows.flatten[j]? with
      | none => exact ⟨undef, fun t' ht => by cases ht⟩
      | some t =>
        obtain ⟨u, p1, p2⟩ := h7 _ t hj
        exact ⟨u, fun t' ht => by cases ht; exact ⟨by rw [cell_of_row w b _ cur e' (0, 0) h3, Nat.zero_add]; exact p1, p2.step (f3 hp w)⟩⟩
    exact .sl _ m rows (some ⟨b, 0, none⟩) c hlc hcm hmm hci (fun j => Classical.choose (key j)) (fun j t hj => ⟨b, 0, rfl, ⟨hB, hna⟩, (Classical.choose_spec (key j) t hj).1⟩) (fun j t hj => (Classical.choose_spec (key j) t hj).2)
theorem Sim.freeze {a : Act} {w : World} (hs : Sim w0 N env objs a w) {t s b m n : Nat} {rows : List (List TV)} (hx : lk t env = some (.ms s b 0 n)) (hn : rows.length = n) (hd : xa s b (.row m rows) objs objs') : Sim w0 N ((t, .sl w0.heap.size m rows) :: env) objs' a w := by
  subst hn
  have hdel : dg ((s, b, .row m rows) :: objs') objs := .perm hd.del.perm
  have hp : dg objs' objs := (dg.drop (.refl _)).trans hdel
  have hmem : (s, b, bu.row m rows) ∈ objs := hdel.mem _ List.mem_cons_self
  have hpw := hdel.sites hs.mem.sites
  have hna : ¬ nQ objs' b := fun ha => by
    obtain ⟨h0, s', o', hm'⟩ := ha
    have := (List.pairwise_cons.1 hpw).1 _ hm'
    rcases this.2 with h | h
    · exact h rfl
    · exact h0 h
  have hs' := hs.pick hp
  refine ⟨hs'.defers, hs'.size, hs'.mem, fun t' v hv => ?_⟩
  rw [bI] at hv
  split at hv
  · rename_i he
    subst he
    cases hv
    exact vY hs.mem hmem (hs.env t _ hx) hp hna
  · exact hs'.env t' v hv
theorem xX {x : Exit} {t s b m n : Nat} {rows : List (List TV)} (hx : lk t env = some (.ms s b 0 n)) (hn : rows.length = n) (hd : xa s b (.row m rows) objs objs') (h : AQ w0 N Q x ((t, .sl w0.heap.size m rows) :: env) objs') : AQ w0 N Q x env objs := ⟨fun a w hs => h.run a w (hs.freeze hx hn hd)⟩
theorem m3 {c : Code} {t s b m n : Nat} {rows : List (List TV)} (hx : lk t env = some (.ms s b 0 n)) (hn : rows.length = n) (hd : xa s b (.row m rows) objs objs') (h : AW P w0 N c Q ((t, .sl w0.heap.size m rows) :: env) objs') : AW P w0 N c Q env objs := ⟨fun a w hs => h.run a w (hs.freeze hx hn hd)⟩
theorem cg {m n : Nat} (h : n ≤ m) : ((m : Int) - (n : Int)) = ((m - n : Nat) : Int) := by omega
theorem kX {T : TypeId} {x hi : Operand} {f m : Nat} {rows : List (List TV)} {k1 : IntKind} {n : Int} {j : Nat} (ho : o.op = .slice T x none (some hi) none) (hx : ev env x = some (.sl f m rows)) (hhi : ev env hi = some (.int k1 n))
    (hT : P.underlying T = some (.slice (P.elem T))) (hI : (P.info? (P.elem T)).isSome = true) (hn : n = (j : Int)) (hj : j ≤ rows.length) : aS P w0 env objs o (.sl f m (rows.take j)) := aL fun a w hw hop => by
  have h0 := hop x (e6 ho) _ hx
  have h1 := (hop hi (by simp [ho, Op.operands]) _ hhi).int_inv
  generalize hv : a.eval x = v at h0
  obtain ⟨A, c, rfl, g1, g2, g3, g4, g5⟩ := jD h0
  have hlen : (rows.take j).length = j := by simp; omega
  cases hie : P.info? (P.elem T) with
  | none => rw [hie] at hI; cases hI
  | some ie =>
  have hfl : ∀ (q : Nat) (t : TV), (rows.take j).flatten[q]? = some t → rows.flatten[q]? = some t := fun q t hq => by
    rw [dS g3, List.getElem?_take] at hq
    split at hq
    · exact hq
    · cases hq
  have key : ∀ q, ∃ u, ∀ t, (rows.take j).flatten[q]? = some t → (∃ b o, A = some ⟨b, o, none⟩ ∧ ZZ objs f b ∧ w.cell? ⟨b, o + q, none⟩ = some u) ∧ Rep w objs t u := fun q => by
    cases hq : (rows.take j).flatten[q]? with
    | none => exact ⟨undef, fun t ht => by cases ht⟩
    | some t =>
      obtain ⟨b, o, u, p1, p2, p3, p4⟩ := g5 q t (hfl q t hq)
      exact ⟨u, fun t' ht => by cases ht; exact ⟨⟨b, o, p1, p2, p3⟩, p4⟩⟩
  have hr := Rep.sl (w := w) (objs := objs) f m (rows.take j) A c (by omega) g2 (fun r hr => g3 r (List.mem_of_mem_take hr)) (fun t ht => by
      obtain ⟨r, h2, h3⟩ := List.mem_flatten.1 ht
      exact g4 t (List.mem_flatten.2 ⟨r, List.mem_of_mem_take h2, h3⟩)) (fun q => Classical.choose (key q)) (fun q t hq => ((Classical.choose_spec (key q)) t hq).1) (fun q t hq => ((Classical.choose_spec (key q)) t hq).2)
  rw [hlen] at hr
  refine ⟨.slice A j c, ?_, hr⟩
  simp only [execOp, ho, h1, hv, Option.map_some, Option.map_none]
  refine cy ?_
  rw [run_sliceAt_slice w T _ _ _ _ hT, run_slice_h w T _ rows.length c hT k1 n (by omega) (by omega), run_sizeOf w hie]
  subst hn
  cases A <;> simp [Result.andThen_ok, sliced, Addr.add]
theorem gV {T : TypeId} {x lo : Operand} {f m : Nat} {rows : List (List TV)} {k1 : IntKind} {n : Int} {j : Nat} (ho : o.op = .slice T x (some lo) none none) (hx : ev env x = some (.sl f m rows)) (hlo : ev env lo = some (.int k1 n))
    (hT : P.underlying T = some (.slice (P.elem T))) (hI : (P.info? (P.elem T)).isSome = true) (hm : P.cellsOf (P.elem T) = m) (hn : n = (j : Int)) (hj : j ≤ rows.length) : aS P w0 env objs o (.sl f m (rows.drop j)) := aL fun a w hw hop => by
  have h0 := hop x (e6 ho) _ hx
  have h1 := (hop lo (by simp [ho, Op.operands]) _ hlo).int_inv
  generalize hv : a.eval x = v at h0
  obtain ⟨A, c, rfl, g1, g2, g3, g4, g5⟩ := jD h0
  have hlen : (rows.drop j).length = rows.length - j := by simp
  cases hie : P.info? (P.elem T) with
  | none => rw [hie] at hI; cases hI
  | some ie =>
  have hfl : ∀ (q : Nat) (t : TV), (rows.drop j).flatten[q]? = some t → rows.flatten[j * m + q]? = some t := fun q t hq => by
    rw [fC g3, List.getElem?_drop] at hq
    exact hq
  have key : ∀ q, ∃ u, ∀ t, (rows.drop j).flatten[q]? = some t → (∃ b o, (if c = j then A else A.map (·.add (j * m))) = some ⟨b, o, none⟩ ∧ ZZ objs f b ∧ w.cell? ⟨b, o + q, none⟩ = some u) ∧ Rep w objs t u := fun q => by
    cases hq : (rows.drop j).flatten[q]? with
    | none => exact ⟨undef, fun t ht => by cases ht⟩
    | some t =>
      obtain ⟨b, o, u, p1, p2, p3, p4⟩ := g5 _ t (hfl q t hq)
      refine ⟨u, fun t' ht => by
        cases ht
        refine ⟨⟨b, o + j * m, ?_, p2, by rw [Nat.add_assoc]; exact p3⟩, p4⟩
        have hcj : c ≠ j := fun hc => by
          rw [List.drop_of_length_le (by omega)] at hq
          simp at hq
        rw [if_neg hcj, p1]
        simp [Addr.add_lit]⟩
  have hr := Rep.sl (w := w) (objs := objs) f m (rows.drop j) (if c = j then A else A.map (·.add (j * m))) (c - j) (by omega) (by omega) (fun r hr => g3 r (List.mem_of_mem_drop hr)) (fun t ht => by
      obtain ⟨r, h2, h3⟩ := List.mem_flatten.1 ht
      exact g4 t (List.mem_flatten.2 ⟨r, List.mem_of_mem_drop h2, h3⟩)) (fun q => Classical.choose (key q)) (fun q t hq => ((Classical.choose_spec (key q)) t hq).1) (fun q t hq => ((Classical.choose_spec (key q)) t hq).2)
  rw [hlen] at hr
  refine ⟨_, ?_, hr⟩
  simp only [execOp, ho, h1, hv, Option.map_some, Option.map_none]
  refine cy ?_
  rw [run_sliceAt_slice w T _ _ _ _ hT, run_slice_l w T _ rows.length c hT k1 n (by omega) (by omega), run_sizeOf w hie, hm]
  subst hn
  simp [Result.andThen_ok, sliced]
variable {ops : Array Oper} {rest : List Oper} {d T0 : Nat} {pos : String} {af : Array Edge} {g : Option (Nat × Bool)} {K : Env → Prop}
theorem ws {f : Nat} {xs : List Operand} {l : List TV} (hN : Nat.blt d N = true) (hx : Evs env xs l) (h : AL P w0 N ops Q rest ((d, .fn f l) :: env) objs) : AO P w0 N ops Q ⟨some d, .makeFunc (.func f) #[] xs.toArray, T0, pos, af, g⟩ rest env objs := uM rfl hN (vV rfl hx) h
theorem tC {G : World → Prop} {t f : Nat} {xs : List Operand} {ts : Array TypeId} {l l' args all : List TV} {r : Nat → TV} (hN : Nat.blt d N = true) (hx : lk t env = some (.fn f l)) (hc : fW P f = true) (hG : G w0) (hst : az G) (hargs : cf env objs xs args) (hl : jb objs l l') (ha : args ++ l' = all) (hct : Ct P G f all r)
    (h : AL P w0 N ops Q rest ((d, r w0.heap.size) :: env) objs) : AO P w0 N ops Q ⟨some d, .call { callee := .value (.tmp t), args := xs.toArray, argTypes := ts }, T0, pos, af, g⟩ rest env objs := uM rfl hN (yM (x := .tmp t) rfl hx hc hargs hl (ha ▸ hct) hG hst) h
theorem ab0 {G : World → Prop} {t f : Nat} {xs : List Operand} {ts : Array TypeId} {l l' args all : List TV} {r : Nat → TV} (hN : Nat.blt d N = true) (hx : lk t env = some (.fn f l)) (hc : fW P f = true) (hG : G w0) (hst : az G) (hargs : cf env objs xs args) (hl : jb objs l l') (ha : args ++ l' = all) (hct : Ct P G f all r)
    (h : DR P w0 N ops objs K rest ((d, r w0.heap.size) :: env)) : DO P w0 N ops objs K ⟨some d, .call { callee := .value (.tmp t), args := xs.toArray, argTypes := ts }, T0, pos, af, g⟩ rest env := ⟨fun hgr => .run _ _ _ _ _ rfl hN hgr (yM (x := .tmp t) rfl hx hc hargs hl (ha ▸ hct) hG hst) h⟩
theorem ri {T : TypeId} {x hi : Operand} {f m : Nat} {rows rows2 : List (List TV)} {k1 : IntKind} {n : Int} {j : Nat} (hN : Nat.blt d N = true) (hx : ev env x = some (.sl f m rows)) (hhi : ev env hi = some (.int k1 n)) (hT : P.underlying T = some (.slice (P.elem T))) (hI : (P.info? (P.elem T)).isSome = true) (hn : n = (j : Int)) (hj : j ≤ rows.length) (he : rows.take j = rows2) (h : AL P w0 N ops Q rest ((d, .sl f m rows2) :: env) objs) : AO P w0 N ops Q ⟨some d, .slice T x none (some hi) none, T0, pos, af, g⟩ rest env objs := uM rfl hN (he ▸ kX rfl hx hhi hT hI hn hj) h
theorem si {T : TypeId} {x hi : Operand} {f m : Nat} {rows rows2 : List (List TV)} {k1 : IntKind} {n : Int} {j : Nat} (hN : Nat.blt d N = true) (hx : ev env x = some (.sl f m rows)) (hhi : ev env hi = some (.int k1 n)) (hT : P.underlying T = some (.slice (P.elem T))) (hI : (P.info? (P.elem T)).isSome = true) (hn : n = (j : Int)) (hj : j ≤ rows.length) (he : rows.take j = rows2) (h : DR P w0 N ops objs K rest ((d, .sl f m rows2) :: env)) : DO P w0 N ops objs K ⟨some d, .slice T x none (some hi) none, T0, pos, af, g⟩ rest env := ⟨fun hgr => .run _ _ _ _ _ rfl hN hgr (he ▸ kX rfl hx hhi hT hI hn hj) h⟩
theorem rE {T : TypeId} {x lo : Operand} {f m : Nat} {rows rows2 : List (List TV)} {k1 : IntKind} {n : Int} {j : Nat} (hN : Nat.blt d N = true) (hx : ev env x = some (.sl f m rows)) (hlo : ev env lo = some (.int k1 n)) (hT : P.underlying T = some (.slice (P.elem T))) (hI : (P.info? (P.elem T)).isSome = true) (hm : P.cellsOf (P.elem T) = m) (hn : n = (j : Int)) (hj : j ≤ rows.length) (he : rows.drop j = rows2) (h : AL P w0 N ops Q rest ((d, .sl f m rows2) :: env) objs) : AO P w0 N ops Q ⟨some d, .slice T x (some lo) none none, T0, pos, af, g⟩ rest env objs := uM rfl hN (he ▸ gV rfl hx hlo hT hI hm hn hj) h
end
section
variable {P : Program} {w0 : World} {N : Nat} {Q : Exit → Act → World → Prop} {env : Env} {objs objs' : aI}
theorem kr {ops : Array Oper} {o : Oper} {rest : List Oper} (k : dg objs' objs) (h : AO P w0 N ops Q o rest env objs') : AO P w0 N ops Q o rest env objs := ⟨fun a w K hs hK => h.run a w K (hs.pick k) hK⟩
end
def eqC : TV → TV → Bool
  | .int _ m, .int _ n => decide (m = n)
  | .str s, .str u => decide (s = u)
  | .bool b, .bool c => b == c
  | _, _ => false
def eqL : List TV → List TV → Bool
  | t :: ts, u :: us => eqC t u && eqL ts us
  | _, _ => true
def adK (P : Program) (f : Field) (i : Nat) (t u : TV) : Bool :=
  Nat.beq f.offset i && (f.name != "_") && gY P f.type && (match t, u, P.underlying f.type with
    | .int k _, .int k' _, some (.int _) => decide (k = k')
    | .str _, .str _, some .string => true
    | .bool _, .bool _, some .bool => true
    | _, _, _ => false)
def aaW (P : Program) : Nat → List Field → List TV → List TV → Bool
  | _, [], [], [] => true
  | i, f :: fs, t :: ts, u :: us => adK P f i t u && aaW P (i + 1) fs ts us
  | _, _, _, _ => false
theorem jO {P : Program} {w : World} {t : TypeId} {xs : Array Value} {i : Nat} {v : Value} (h : gY P t = true) (hv : xs[i]? = some v) : (part t xs i).run P w = .ok v w := by
  have hi : i < xs.size := (Array.getElem?_eq_some_iff.1 hv).1
  have he : xs[i] = v := (Array.getElem?_eq_some_iff.1 hv).2
  simp only [part, Sem.run_bind, gn h, Result.andThen_ok]
  simp [hi, he, Sem.run_pure]
theorem ll {P : Program} {w : World} {objs : aI} (d : Nat) (xs ys : Array Value) : ∀ (fs : List Field) (i : Nat) (ts us : List TV), aaW P i fs ts us = true →
    (∀ j t, ts[j]? = some t → ∃ v, xs[i + j]? = some v ∧ Rep w objs t v) → (∀ j t, us[j]? = some t → ∃ v, ys[i + j]? = some v ∧ Rep w objs t v) →
    (Op.eqFields (d + 1) xs ys fs).run P w = .ok (eqL ts us) w
  | [], i, [], [], _, _, _ => rfl
  | f :: fs, i, t :: ts, u :: us, h, hx, hy => by
    simp only [aaW, adK, Bool.and_eq_true] at h
    obtain ⟨⟨⟨⟨h1, h2⟩, h3⟩, h4⟩, h5⟩ := h
    have h1 := Nat.eq_of_beq_eq_true h1
    obtain ⟨v, hv, hr⟩ := hx 0 t rfl
    obtain ⟨v', hv', hr'⟩ := hy 0 u rfl
    have ih := ll (P := P) (w := w) (objs := objs) d xs ys fs (i + 1) ts us h5 (fun j t' hj => by
      have := hx (j + 1) t' (by simpa using hj)
      rwa [show i + (j + 1) = i + 1 + j by omega] at this) (fun j t' hj => by
      have := hy (j + 1) t' (by simpa using hj)
      rwa [show i + (j + 1) = i + 1 + j by omega] at this)
    rw [Nat.add_zero] at hv hv'
    have hn : f.name ≠ "_" := by simpa using h2
    have he : (Op.equalIn (d + 1) f.type v v').run P w = .ok (eqC t u) w := by
      split at h4
      · rename_i k m k' n hk hu
        have hkk : k = k' := of_decide_eq_true h4
        subst hkk
        rw [hr.int_inv, hr'.int_inv, run_equalIn_int w d f.type k _ m n hu]
        rw [show eqC (.int k m) (.int k n) = decide (m = n) from rfl, ac1]
      · rename_i s s' hu
        rw [hr.str_inv, hr'.str_inv, run_equalIn_string w d f.type s s' hu, ng]; rfl
      · rename_i b c hu
        rw [hr.bool_inv, hr'.bool_inv, run_equalIn_bool' w d f.type b c hu]; rfl
      · cases h4
    simp only [Op.eqFields, if_pos hn, Sem.run_bind, h1, jO h3 hv, jO h3 hv', Result.andThen_ok, he, eqL]
    cases hq : eqC t u
    · simp [Sem.run_pure]
    · simp [ih]
  | [], i, _ :: _, _, h, _, _ => by simp [aaW] at h
  | [], i, [], _ :: _, h, _, _ => by simp [aaW] at h
  | _ :: _, i, [], _, h, _, _ => by simp [aaW] at h
  | _ :: _, i, _ :: _, [], h, _, _ => by simp [aaW] at h
def aa3 (P : Program) (T : TypeId) (l l' : List TV) : Bool :=
  (match P.underlying T with | some (.struct _) => true | _ => false) && !P.stoodInHeld T && !P.eqGuardType P.depth T && aaW P 0 (P.fieldsOf T).toList l l'
section
variable {P : Program} {w0 : World} {N : Nat} {env : Env} {objs : aI} {o : Oper}
theorem o9 {w : World} {T : TypeId} {l l' : List TV} {vs vs' : Array Value} (hT : aa3 P T l l' = true) (h1 : Rep w objs (.agg l) (.agg vs)) (h2 : Rep w objs (.agg l') (.agg vs')) : (Op.equalIn 10000 T (.agg vs) (.agg vs')).run P w = .ok (eqL l l') w := by
  simp only [aa3, Bool.and_eq_true, Bool.not_eq_true'] at hT
  obtain ⟨⟨⟨g1, g2⟩, _⟩, g4⟩ := hT
  have hu : P.underlying T = some (.struct (P.fieldsOf T)) := by
    unfold Program.fieldsOf
    split at g1
    · rename_i fs hf; rw [hf]
    · cases g1
  rw [show (10000 : Nat) = 9998 + 1 + 1 from rfl, run_equalIn_agg w (9998 + 1) T _ _ hu g2]
  have key : ∀ {l : List TV} {vs : Array Value}, Rep w objs (.agg l) (.agg vs) → ∀ j t, l[j]? = some t → ∃ v, vs[0 + j]? = some v ∧ Rep w objs t v := fun h j t hj => by
    cases h with
    | agg _ _ hi hl hr =>
      have hjl := (List.getElem?_eq_some_iff.1 hj).1
      rw [hl] at hjl
      exact ⟨_, by rw [Nat.zero_add]; exact Array.getElem?_eq_getElem hjl, hr j t _ hj (Array.getElem?_eq_getElem hjl)⟩
  exact ll 9998 _ _ _ 0 l l' g4 (key h1) (key h2)
theorem pV {w : World} {l : List TV} {v : Value} (h : Rep w objs (.agg l) v) : ∃ vs, v = .agg vs := by cases h; exact ⟨_, rfl⟩
section
variable {T t2 : TypeId} {x y : Operand} {l l' : List TV}
theorem abr (ho : o.op = .binOp .eql T x y t2) (hx : ev env x = some (.agg l)) (hy : ev env y = some (.agg l')) (hT : aa3 P T l l' = true) : aS P w0 env objs o (.bool (eqL l l')) := aL fun a w _ hop => by
  have h1 := hop x (by simp [ho, Op.operands]) _ hx
  have h2 := hop y (by simp [ho, Op.operands]) _ hy
  obtain ⟨vs, hv⟩ := pV h1
  obtain ⟨vs', hv'⟩ := pV h2
  rw [hv] at h1
  rw [hv'] at h2
  have hg : P.eqGuardType P.depth T = false := by
    simp only [aa3, Bool.and_eq_true, Bool.not_eq_true'] at hT
    exact hT.1.2
  refine ⟨.bool (eqL l l'), ?_, .bool _⟩
  simp only [execOp, ho, hv, hv']
  refine cy ?_
  simp only [Sem.run_bind, run_eqGuard_agg w _ T x y vs vs' hg, Result.andThen_ok, run_eql_struct, o9 hT h1 h2]
theorem abP (ho : o.op = .binOp .neq T x y t2) (hx : ev env x = some (.agg l)) (hy : ev env y = some (.agg l')) (hT : aa3 P T l l' = true) : aS P w0 env objs o (.bool (!(eqL l l'))) := aL fun a w _ hop => by
  have h1 := hop x (by simp [ho, Op.operands]) _ hx
  have h2 := hop y (by simp [ho, Op.operands]) _ hy
  obtain ⟨vs, hv⟩ := pV h1
  obtain ⟨vs', hv'⟩ := pV h2
  rw [hv] at h1
  rw [hv'] at h2
  have hg : P.eqGuardType P.depth T = false := by
    simp only [aa3, Bool.and_eq_true, Bool.not_eq_true'] at hT
    exact hT.1.2
  refine ⟨.bool (!(eqL l l')), ?_, .bool _⟩
  simp only [execOp, ho, hv, hv']
  refine cy ?_
  simp only [Sem.run_bind, run_eqGuard_agg w _ T x y vs vs' hg, Result.andThen_ok, run_neq_struct, o9 hT h1 h2]
end
section
variable {Q : Exit → Act → World → Prop} {ops : Array Oper} {rest : List Oper} {d T0 : Nat} {pos : String} {af : Array Edge} {g : Option (Nat × Bool)} {T t2 : TypeId} {x y : Operand} {l l' : List TV}
variable {K : Env → Prop}
end
end
def iR (n : Int) : ByteArray := ⟨(109 :: Lib.itoa n).toArray⟩
set_option maxHeartbeats 400000 in
set_option maxRecDepth 8000 in
theorem sF (n : Int) (w : World) (h0 : 0 ≤ n) (h1 : n ≤ 9000000000000000000) : Calls Tryz.prog 96 #[.int .i64 n] w fun e w' => e = .returned (.string (iR n)) ∧ Below w.heap.size w w' := by
  by_cases hz : n = 0
  · subst hz
    go_enter Tryz.func96, Tryz.ntmps96
    go_wp2
    go_ret
    exact ⟨kG (by decide +kernel), Below.refl _ _⟩
  have Hlen := Lib.hid (vX (u := n.natAbs) (by omega))
  have HP := Lib.hid (zW hz)
  have hpos : 0 < n := by omega
  have hle : ¬ n ≤ 0 := by omega
  go_enter Tryz.func96, Tryz.ntmps96
  go_wp2
  go_loopw [0, 3] (fun nv ov wr => ∃ (m : Nat) (s : ByteArray), nv = .int .i64 (m : Int) ∧ ov = .string s ∧ m ≤ 9000000000000000000 ∧ pre m ++ s.data.toList = pre n.natAbs ∧ Below w.heap.size w wr) (fun nv _ _ => (intOf nv).natAbs)
  case atStart => exact ⟨n.natAbs, _, by rw [show ((n.natAbs : Nat) : Int) = n by omega], rfl, by omega, by simp, Below.refl _ _⟩
  case round =>
    obtain ⟨m, s, rfl, rfl, hm1, hr, hb⟩ := hrel
    have hsz : s.size ≤ 19 := by
      have := congrArg List.length hr
      rw [List.length_append, bv] at this
      have := Hlen.out
      omega
    have Hr := Lib.hid hr
    clear hr
    by_cases hm : m = 0
    · subst hm
      go_wp2
      go_ret
      refine ⟨kG ?_, hb⟩
      have h2 := Hr.out
      rw [show pre 0 = [] from rfl, List.nil_append] at h2
      refine lH ?_
      rw [ByteArray.data_append, Array.toList_append, h2]
      have h3 := HP.out
      rw [if_neg (by omega)] at h3
      have h4 : Lib.itoa n = pre n.natAbs := congrArg (fun b : ByteArray => b.data.toList) h3
      show _ = 109 :: Lib.itoa n
      rw [h4]; rfl
    · have hd9 : m % 10 ≤ 9 := by omega
      have hp := zB (u := m) hm
      generalize hd : m % 10 = d at hd9 hp
      have hdi : (m : Int) % 10 = (d : Int) := by omega
      have hdq : ((m / 10 : Nat) : Int) = (m : Int) / 10 := by omega
      obtain ⟨b, hbd⟩ : ∃ b, UInt8.ofNat (48 + d) = b := ⟨_, rfl⟩
      rw [hbd] at hp
      have Hp := Lib.hid hp
      have hcv := zr 246 5 wr (48 + d) (by omega) (48 + (d : Int)) (by omega) Tryz.underlying246 Tryz.underlying5
      rw [hbd] at hcv
      have Hdq := Lib.hid hdq
      clear hp hd hbd hdq
      have hnext : pre (m / 10) ++ ((⟨#[b]⟩ : ByteArray) ++ s).data.toList = pre n.natAbs := by
        rw [← Hr.out, Hp.out, ByteArray.data_append, Array.toList_append, List.append_assoc]
      have Hn := Lib.hid hnext
      clear hnext
      have hbel : ∀ o, Below w.heap.size w (wr.alloc o) := fun o => hb.trans (((Below.refl _ _).alloc (Nat.le_refl _) o).mono hb.size)
      have hm0 : (0 : Int) < (m : Int) := by omega
      clear hb
      go_wp2
      go_roundw
      case rel => exact ⟨m / 10, _, by rw [Hdq.out], rfl, by omega, Hn.out, hbel _⟩
      case measure => simp [intOf]; omega

theorem bX {G : World → Prop} (n : Int) (h0 : 0 ≤ n) (h1 : n ≤ 9000000000000000000) : Ct Tryz.prog G 96 [.int .i64 n] (fun _ => .str (iR n)) := wO fun w _ => sF n w h0 h1
section
variable {P : Program} {w0 : World} {N : Nat} {Q : Exit → Act → World → Prop} {env : Env} {objs : aI}
end
end Go.Proofs.YtiihihgjiklnoaaGreatDoor
