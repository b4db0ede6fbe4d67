/- Part 25 of the proof: the texts EngAB. -/
import Derived.Test.YtiihihgjiklnoaaGreatDoorPart16
/- The abstract walk, part 21: a region that draws its order in which memory is made, again and again. -/
namespace Go.Proofs.YtiihihgjiklnoaaGreatDoor
open Go Go.RowKit
/-- What a making of memory settles: where it lies. -/
inductive Yu where
  | no
  | one (a b : Nat)
  | many (l : List (Nat × Nat))
  | pair (x y : Yu)
def Pt : Type := Nat → Yu
def Pt.put (p : Pt) (i : Nat) (y : Yu) : Pt := fun j => if j = i then y else p j
theorem Pt.put_ne {p : Pt} {i j : Nat} {y : Yu} (h : j ≠ i) : p.put i y j = p j := if_neg h
theorem Pt.put_eq {p : Pt} {i : Nat} {y : Yu} : p.put i y i = y := if_pos rfl
/-- Operation m comes ahead of c in every order, or is c. -/
def Ahead (ops : Array Oper) (c m : Nat) : Prop := m = c ∨ (m < c ∧ ((Region.before ops).getD c 0).testBit m = true)
def IndT {α : Type} (ops : Array Oper) (c : Nat) (T : Pt → α) : Prop := ∀ p p' : Pt, (∀ m, Ahead ops c m → p m = p' m) → T p = T p'
/-- An operation that makes memory: from what it consumes (C) it gives new objects, whatever else is owned. -/
def MkW (P : Program) (w0 : World) (env : Env) (o : Oper) (C R : Objs) (I : Yu → Prop) (O : Yu → Objs) (T : Yu → TV) : Prop :=
  ∀ (a : Act) (w : World) (K : Act → World → Prop) (Q : Exit → Act → World → Prop), SimW w0 (C ++ R) w → (∀ x ∈ o.op.operands.toList, ∀ v, ev env x = some v → Rep w (C ++ R) v (a.eval x)) →
    (∀ y v w', I y → SimW w0 (O y ++ R) w' → Step w (C ++ R) w' (O y ++ R) → Rep w' (O y ++ R) (T y) v → K (a.put o.dst v) w') → o.wp P a w K Q
/-- The makers of a region: what each gives, what it consumes, what is known then. -/
structure Mks where
  on : Nat → Bool
  O : Nat → Pt → Objs
  src : Nat → Option Nat
  I : Nat → Yu → Prop
def Mks.cons (M : Mks) (c : Nat) (p : Pt) : Objs := match M.src c with
  | some i => M.O i p
  | none => []
section
variable {P : Program} {w0 : World} {N : Nat} {Q : Exit → Act → World → Prop} {objs : Objs} {ops : Array Oper}
/-- What is known of the region's operation c. -/
def OpM (P : Program) (w0 : World) (N : Nat) (ops : Array Oper) (objs : Objs) (M : Mks) (σ : Pt → Nat → Env) (c : Nat) (o : Oper) : Prop :=
  ∃ T, o.guard = none ∧ ((∃ d, o.dst = some d ∧ d < N ∧ ∀ p t, lk t (σ p (c + 1)) = lk t ((d, T p) :: σ p c)) ∨ (o.dst = none ∧ ∀ p t, lk t (σ p (c + 1)) = lk t (σ p c))) ∧ IndT ops c T ∧
    ((M.on c = false ∧ M.src c = none ∧ ∀ p R, (∀ x ∈ objs, x ∈ R) → Yields P w0 (σ p c) R o (T p)) ∨
     (M.on c = true ∧ IndT ops c (M.O c) ∧ (∀ i, M.src c = some i → i ≠ c ∧ (i < ops.size → Ahead ops c i) ∧ M.on i = true) ∧
       ∀ p R, (∀ x ∈ objs, x ∈ R) → MkW P w0 (σ p c) o (M.cons c p) R (M.I c) (fun y => M.O c (p.put c y)) (fun y => T (p.put c y))))
/-- A chain of environments. -/
def Chain (N : Nat) (ops : Array Oper) (k : Nat) (σ : Nat → Env) : Prop := ∀ i o, i < k → ops[i]? = some o → (∃ d tv, o.dst = some d ∧ d < N ∧ ∀ t, lk t (σ (i + 1)) = lk t ((d, tv) :: σ i)) ∨ (o.dst = none ∧ ∀ t, lk t (σ (i + 1)) = lk t (σ i))
theorem jy_stepC {objs' : Objs} (hok : drawOk ops = true) {k : Nat} (hk : k ≤ ops.size) {σ : Nat → Env} {X : Nat → Prop} {a : Act} {w w' : World} (hJ : JY w0 N ops objs σ k X a w) (hX : Closed ops X) {i d : Nat} {o : Oper} {tv : TV} {v : Value} (hi : ops[i]? = some o) (hik : i < k) (hni : ¬ X i) (hd : o.dst = some d) (hdN : d < N)
    (hσ : Chain N ops k σ) (hσi : ∀ t, lk t (σ (i + 1)) = lk t ((d, tv) :: σ i)) (hr : Rep w' objs' tv v) (hw : SimW w0 objs' w') (hst : Step w objs w' objs') : JY w0 N ops objs' σ k (fun k => k = i ∨ X k) (a.put (some d) v) w' := by
  refine ⟨hJ.defers, by simp [Act.put, hJ.size], hw, fun t c hc h1 h2 u hu => ?_⟩
  show Rep w' objs' u ((a.tmps.setIfInBounds d v).getD t undef)
  rw [getD_set (by rw [hJ.size]; exact hdN)]
  by_cases hdt : d = t
  · subst hdt
    rw [if_pos rfl]
    have hwi : Writes ops i d := by unfold Writes; rw [hi]; exact hd
    have hic : i < c := Nat.lt_of_not_le fun h => h2 i h hik hwi (.inl rfl)
    have hlast : ∀ m, i + 1 ≤ m → m ≤ c → lk d (σ m) = some tv := fun m => by
      induction m with
      | zero => intro h; omega
      | succ m ih =>
        intro hm1 hm2
        rcases Nat.eq_or_lt_of_le hm1 with h | h
        · have : m = i := by omega
          subst this; rw [hσi, lk_cons, if_pos rfl]
        · have hm : m < ops.size := by omega
          have hom : ops[m]? = some ops[m] := by simp [hm]
          rcases hσ m _ (by omega) hom with ⟨dm, tm, e1, _, e2⟩ | ⟨_, e2⟩
          · rw [e2, lk_cons, if_neg]
            · exact ih (by omega) (by omega)
            · intro e
              subst e
              have hwm : Writes ops m dm := by unfold Writes; rw [hom]; exact e1
              rcases h1 m (by omega) hwm with h3 | h3
              · omega
              · exact hni (apart_or hok hi hom (by omega) (not_apart_both hd e1) hX h3)
          · rw [e2]; exact ih (by omega) (by omega)
    rw [hlast c hic (Nat.le_refl _)] at hu
    simp only [Option.some.injEq] at hu
    subst hu; exact hr
  · rw [if_neg hdt]
    refine (hJ.cut t c hc (fun m hm hwm => ?_) (fun m hm hmk hwm hx => h2 m hm hmk hwm (.inr hx)) u hu).step hst
    rcases h1 m hm hwm with h3 | h3
    · subst h3
      unfold Writes at hwm
      rw [hi] at hwm
      simp only [Option.bind_some, hd, Option.some.injEq] at hwm
      exact absurd hwm hdt
    · exact h3
theorem jy_stepN {objs' : Objs} {k : Nat} {σ : Nat → Env} {X : Nat → Prop} {a : Act} {w w' : World} (hJ : JY w0 N ops objs σ k X a w) {i : Nat} {o : Oper} (hi : ops[i]? = some o) (hd : o.dst = none) (hw : SimW w0 objs' w') (hst : Step w objs w' objs') : JY w0 N ops objs' σ k (fun k => k = i ∨ X k) a w' :=
  ⟨hJ.defers, hJ.size, hw, fun t c hc h1 h2 u hu => (hJ.cut t c hc (fun m hm hwm => (h1 m hm hwm).resolve_left fun e => by
    subst e
    unfold Writes at hwm
    rw [hi] at hwm
    simp only [Option.bind_some, hd] at hwm
    cases hwm) (fun m hm hmk hwm hx => h2 m hm hmk hwm (.inr hx)) u hu).step hst⟩
theorem JY.pick {objs' : Objs} {σ : Nat → Env} {k : Nat} {X : Nat → Prop} {a : Act} {w : World} (h : JY w0 N ops objs σ k X a w) (hp : Pick objs' objs) : JY w0 N ops objs' σ k X a w :=
  ⟨h.defers, h.size, h.mem.sub hp, fun t c hc h1 h2 v hv => (h.cut t c hc h1 h2 v hv).step (step_sub hp w)⟩
/-- What is executed does not look at what is not. -/
theorem sigma_put (hok : drawOk ops = true) {k : Nat} (hk : k ≤ ops.size) {M : Mks} {σ : Pt → Nat → Env} (h0 : ∀ p p' t, lk t (σ p 0) = lk t (σ p' 0)) (hop : ∀ c o, c < k → ops[c]? = some o → OpM P w0 N ops objs M σ c o) {X : Nat → Prop} (hX : Closed ops X) {i : Nat} (hni : ¬ X i) (p : Pt) (y : Yu) (t : Nat) : ∀ c, c ≤ k → (∀ m, m < c → Writes ops m t → X m) → lk t (σ (p.put i y) c) = lk t (σ p c)
  | 0, _, _ => h0 _ _ _
  | c + 1, hc, hw => by
    have hcs : c < ops.size := by omega
    have hoc : ops[c]? = some ops[c] := by simp [hcs]
    obtain ⟨T, _, hs, hT, _⟩ := hop c _ (by omega) hoc
    rcases hs with ⟨d, hd, _, hs⟩ | ⟨_, hs⟩
    · rw [hs, hs, lk_cons, lk_cons]
      split
      · rename_i hdt
        have hXc : X c := hw c (Nat.lt_succ_self c) (by unfold Writes; rw [hoc]; exact hdt ▸ hd)
        rw [hT (p.put i y) p fun m hm => Pt.put_ne fun e => ?_]
        subst e
        rcases hm with h | ⟨h1, h2⟩
        · exact hni (h ▸ hXc)
        · exact hni (closed_reach hok hX c hcs hXc m h1 h2)
      · exact sigma_put hok hk h0 hop hX hni p y t c (by omega) fun m hm => hw m (by omega)
    · rw [hs, hs]
      exact sigma_put hok hk h0 hop hX hni p y t c (by omega) fun m hm => hw m (by omega)
theorem JY.put (hok : drawOk ops = true) {k : Nat} (hk : k ≤ ops.size) {M : Mks} {σ : Pt → Nat → Env} (h0 : ∀ p p' t, lk t (σ p 0) = lk t (σ p' 0)) (hop : ∀ c o, c < k → ops[c]? = some o → OpM P w0 N ops objs M σ c o) {X : Nat → Prop} (hX : Closed ops X) {i : Nat} (hni : ¬ X i) {p : Pt} (y : Yu) {objs' : Objs} {a : Act} {w : World} (h : JY w0 N ops objs' (σ p) k X a w) : JY w0 N ops objs' (σ (p.put i y)) k X a w :=
  ⟨h.defers, h.size, h.mem, fun t c hc h1 h2 v hv => by
    rw [sigma_put hok hk h0 hop hX hni p y t c hc h1] at hv
    exact h.cut t c hc h1 h2 v hv⟩
/-- The objects that the makers among X gave (or that were there before: places behind the region's) and that none of X consumed. -/
def Live (M : Mks) (n k : Nat) (X : Nat → Prop) (i : Nat) : Prop := (i < n → X i) ∧ M.on i = true ∧ ∀ c, c < k → M.src c = some i → ¬ X c
def MO (M : Mks) (objs : Objs) (n k : Nat) (X : Nat → Prop) (p : Pt) (objs' : Objs) : Prop := ∃ l : List Nat, l.Nodup ∧ (∀ i, i ∈ l ↔ Live M n k X i) ∧ objs' = l.flatMap (fun i => M.O i p) ++ objs
theorem MO.sub {M : Mks} {n k : Nat} {X : Nat → Prop} {p : Pt} {objs' : Objs} (h : MO M objs n k X p objs') : ∀ x ∈ objs, x ∈ objs' := fun x hx => by
  obtain ⟨l, _, _, rfl⟩ := h
  exact List.mem_append_right _ hx
/-- The state of the region when X has been carried out. -/
def JM (w0 : World) (N : Nat) (ops : Array Oper) (objs : Objs) (M : Mks) (σ : Pt → Nat → Env) (k : Nat) (X : Nat → Prop) (a : Act) (w : World) : Prop :=
  ∃ p objs', MO M objs ops.size k X p objs' ∧ JY w0 N ops objs' (σ p) k X a w ∧ ∀ i, i < k → X i → M.on i = true → M.I i (p i)
theorem JM.congr {M : Mks} {σ : Pt → Nat → Env} {k : Nat} {X Y : Nat → Prop} {a : Act} {w : World} (h : JM w0 N ops objs M σ k X a w) (hXY : ∀ i, Y i ↔ X i) : JM w0 N ops objs M σ k Y a w := by
  have : Y = X := funext fun i => propext (hXY i)
  rw [this]; exact h
theorem chain_of {M : Mks} {k : Nat} {σ : Pt → Nat → Env} (hop : ∀ c o, c < k → ops[c]? = some o → OpM P w0 N ops objs M σ c o) (p : Pt) : Chain N ops k (σ p) := fun i o hi ho => by
  obtain ⟨T, _, h, _⟩ := hop i o hi ho
  rcases h with ⟨d, h1, h2, h3⟩ | ⟨h1, h3⟩
  · exact .inl ⟨d, T p, h1, h2, h3 p⟩
  · exact .inr ⟨h1, h3 p⟩
/-- One operation of many, in whatever order. -/
theorem jm_op (hok : drawOk ops = true) {k : Nat} (hk : k ≤ ops.size) {M : Mks} {σ : Pt → Nat → Env} (h0 : ∀ p p' t, lk t (σ p 0) = lk t (σ p' 0)) (hop : ∀ c o, c < k → ops[c]? = some o → OpM P w0 N ops objs M σ c o) (hinj : ∀ c c' i, c < k → c' < k → M.src c = some i → M.src c' = some i → c = c') (hps : ∀ j, ¬ j < ops.size → ∀ p p', M.O j p = M.O j p')
    {X : Nat → Prop} {a : Act} {w : World} (hJ : JM w0 N ops objs M σ k X a w) (hX : Closed ops X) (hXk : ∀ i, X i → i < k) {i : Nat} {o : Oper} (ho : ops[i]? = some o) (hik : i < k) (hni : ¬ X i) (hX' : Closed ops fun k => k = i ∨ X k)
    {K : Act → World → Prop} (hnext : ∀ a' w', JM w0 N ops objs M σ k (fun k => k = i ∨ X k) a' w' → K a' w') : wpOp P ops Q i K a w := by
  obtain ⟨p, objs', hMO, hJY, hI⟩ := hJ
  obtain ⟨T, hg, hs, hT, hcase⟩ := hop i o hik ho
  have hput : ∀ {objs1 objs2 : Objs} {p' : Pt} {v : Value} {w' : World}, JY w0 N ops objs1 (σ p') k X a w → Rep w' objs2 (T p') v → SimW w0 objs2 w' → Step w objs1 w' objs2 → JY w0 N ops objs2 (σ p') k (fun k => k = i ∨ X k) (a.put o.dst v) w' := fun {objs1 objs2 p' v w'} hJ hr hsw hst => by
    rcases hs with ⟨d, hd, hdN, hs⟩ | ⟨hd, _⟩
    · rw [hd]; exact jy_stepC hok hk hJ hX ho hik hni hd hdN (chain_of hop p') (hs p') hr hsw hst
    · rw [hd]; exact jy_stepN hJ ho hd hsw hst
  have hiz : i < ops.size := by omega
  have hread : ∀ {objs2 : Objs} (_ : JY w0 N ops objs2 (σ p) k X a w) (x : Operand), x ∈ o.op.operands.toList → ∀ v, ev (σ p i) x = some v → Rep w objs2 v (a.eval x) := fun hJ2 x hx v hv => by
    cases x with
    | tmp t =>
      have hl : t ∈ o.looksAt ops := by
        unfold Oper.looksAt
        exact List.mem_append_left _ (List.mem_filterMap.2 ⟨.tmp t, hx, rfl⟩)
      exact jy_read hok hk hJ2 hX hXk ho hik hni hX' hl hv
    | const u => exact tvOf_rep hv
    | func f => simp only [ev, Option.some.injEq] at hv; subst hv; exact .fn f [] #[] rfl (by simp)
    | global g => cases hv
  have hw : Region.wanted o (yielded ops a.tmps) = true := by simp [Region.wanted, hg]
  unfold wpOp
  rw [ho]
  simp only [hw, if_true]
  have hbef : ∀ m, Ahead ops i m → m ≠ i → X m := fun m hm hne => by
    rcases hm with h | ⟨h1, h2⟩
    · exact absurd h hne
    · rcases closed_reach hok hX' i hiz (.inl rfl) m h1 h2 with h | h
      · exact absurd h hne
      · exact h
  have hnb : ∀ c, X c → ¬ Ahead ops c i := fun c hc hm => by
    rcases hm with h | ⟨h1, h2⟩
    · exact hni (h ▸ hc)
    · exact hni (closed_reach hok hX c (Nat.lt_of_lt_of_le (hXk c hc) hk) hc i h1 h2)
  rcases hcase with ⟨hmk, hsrc, hy⟩ | ⟨hmk, hO, hsrc, hmake⟩
  · refine .inl (hy p objs' hMO.sub a w _ Q hJY.mem (hread hJY) fun v w' hr hsw hst => ?_)
    refine hnext _ _ ⟨p, objs', ?_, hput hJY hr hsw hst, fun j hj hx hm => ?_⟩
    · obtain ⟨l, h1, h2, h3⟩ := hMO
      refine ⟨l, h1, fun j => (h2 j).trans ?_, h3⟩
      unfold Live
      constructor
      · rintro ⟨e2, e3, e4⟩
        refine ⟨fun h => .inr (e2 h), e3, fun c hc hsc hx => ?_⟩
        rcases hx with rfl | hx
        · rw [hsrc] at hsc; cases hsc
        · exact e4 c hc hsc hx
      · rintro ⟨e2, e3, e4⟩
        exact ⟨fun h => (e2 h).resolve_left fun e => (by subst e; rw [hmk] at e3; cases e3), e3, fun c hc hsc hx => e4 c hc hsc (.inr hx)⟩
    · rcases hx with rfl | hx
      · rw [hmk] at hm; cases hm
      · exact hI j hj hx hm
  · obtain ⟨l, hnd, hl, rfl⟩ := hMO
    -- what stays
    have hstay : ∃ l2 : List Nat, l2.Nodup ∧ (∀ j, j ∈ l2 ↔ Live M ops.size k X j ∧ M.src i ≠ some j) ∧ (l.flatMap (fun i => M.O i p)).Perm (M.cons i p ++ l2.flatMap fun i => M.O i p) := by
      unfold Mks.cons
      cases hsc : M.src i with
      | none => exact ⟨l, hnd, fun j => by rw [hl]; simp, .refl _⟩
      | some s =>
        obtain ⟨hne, hah, hms⟩ := hsrc s hsc
        have hsl : s ∈ l := (hl s).2 ⟨fun h => hbef s (hah h) hne, hms, fun c hc hc2 hx => hni (hinj c i s hc hik hc2 hsc ▸ hx)⟩
        refine ⟨l.erase s, hnd.erase s, fun j => ?_, ?_⟩
        · rw [hnd.mem_erase_iff, hl]
          constructor
          · rintro ⟨e1, e2⟩; exact ⟨e2, fun h => e1 (Option.some.inj h).symm⟩
          · rintro ⟨e1, e2⟩; exact ⟨fun h => e2 (by rw [h]), e1⟩
        · have := (List.perm_cons_erase hsl).flatMap_right fun i => M.O i p
          rwa [List.flatMap_cons] at this
    obtain ⟨l2, hnd2, hl2, hperm⟩ := hstay
    have hpk : Pick (M.cons i p ++ (l2.flatMap (fun i => M.O i p) ++ objs)) (l.flatMap (fun i => M.O i p) ++ objs) := .perm (by
      rw [← List.append_assoc]
      exact (hperm.append_right objs).symm)
    have hJ2 := hJY.pick hpk
    refine .inl (hmake p (l2.flatMap (fun i => M.O i p) ++ objs) (fun x hx => List.mem_append_right _ hx) a w _ Q hJ2.mem (hread hJ2) fun y v w' hIy hsw hst hr => ?_)
    have heq : l2.flatMap (fun j => M.O j (p.put i y)) = l2.flatMap fun j => M.O j p := by
      have : ∀ l3 : List Nat, (∀ j ∈ l3, j ∈ l2) → l3.flatMap (fun j => M.O j (p.put i y)) = l3.flatMap fun j => M.O j p := fun l3 => by
        induction l3 with
        | nil => intro _; rfl
        | cons j r ih =>
          intro h
          have hlj := ((hl2 j).1 (h j List.mem_cons_self)).1
          rw [List.flatMap_cons, List.flatMap_cons, ih fun x hx => h x (List.mem_cons_of_mem _ hx)]
          by_cases hjs : j < ops.size
          · have hoj : ops[j]? = some ops[j] := by simp [hjs]
            have hXj := hlj.1 hjs
            obtain ⟨_, _, _, _, hcj⟩ := hop j _ (hXk j hXj) hoj
            have hOj : IndT ops j (M.O j) := by
              rcases hcj with ⟨e, _⟩ | ⟨_, e, _⟩
              · rw [hlj.2.1] at e; cases e
              · exact e
            rw [hOj (p.put i y) p fun m hm => Pt.put_ne fun e => hnb j hXj (e ▸ hm)]
          · rw [hps j hjs (p.put i y) p]
      exact this l2 fun _ h => h
    refine hnext _ _ ⟨p.put i y, M.O i (p.put i y) ++ (l2.flatMap (fun i => M.O i p) ++ objs), ?_, hput (hJ2.put hok hk h0 hop hX hni y) hr hsw hst, fun j hj hx hm => ?_⟩
    · refine ⟨i :: l2, List.nodup_cons.2 ⟨fun h => hni (((hl2 i).1 h).1.1 hiz), hnd2⟩, fun j => ?_, by rw [List.flatMap_cons, heq, List.append_assoc]⟩
      rw [List.mem_cons, hl2]
      unfold Live
      constructor
      · rintro (rfl | ⟨⟨e2, e3, e4⟩, e5⟩)
        · refine ⟨fun _ => .inl rfl, hmk, fun c hc hsc hx => ?_⟩
          have hcs : c < ops.size := by omega
          have hoc : ops[c]? = some ops[c] := by simp [hcs]
          obtain ⟨_, _, _, _, hcc⟩ := hop c _ hc hoc
          rcases hcc with ⟨_, e, _⟩ | ⟨_, _, e, _⟩
          · rw [hsc] at e; cases e
          · obtain ⟨e1, e2, _⟩ := e j hsc
            rcases hx with rfl | hx
            · exact e1 rfl
            · exact hnb c hx (e2 hiz)
        · refine ⟨fun h => .inr (e2 h), e3, fun c hc hsc hx => ?_⟩
          rcases hx with rfl | hx
          · exact e5 hsc
          · exact e4 c hc hsc hx
      · rintro ⟨e2, e3, e4⟩
        by_cases hji : j = i
        · exact .inl hji
        · exact .inr ⟨⟨fun h => (e2 h).resolve_left hji, e3, fun c hc hsc hx => e4 c hc hsc (.inr hx)⟩, fun h => e4 i hik h (.inl rfl)⟩
    · rcases hx with rfl | hx
      · rw [Pt.put_eq]; exact hIy
      · rw [Pt.put_ne (fun e : j = i => hni (e ▸ hx))]
        exact hI j hj hx hm
theorem jm_start (hok : drawOk ops = true) {k : Nat} (hk : k ≤ ops.size) (htl : tailOk ops k = true) {M : Mks} {σ : Pt → Nat → Env} (_hop : ∀ c o, c < k → ops[c]? = some o → OpM P w0 N ops objs M σ c o) {ms : List Nat} (hms : ms.Nodup) (hmem : ∀ i, i ∈ ms ↔ Live M ops.size k (· < k) i)
    (hQ : ∀ p : Pt, (∀ i, i < k → M.on i = true → M.I i (p i)) → AL P w0 N ops Q (ops.toList.drop k) (σ p k) (ms.flatMap (fun i => M.O i p) ++ objs)) {fuel : Nat} {listed : Array Bool} {a : Act} {w : World} (hsz : listed.size = ops.size) (hun : unlisted listed ≤ fuel) (hXk : ∀ i, listed.getD i false = true → i < k)
    (hall : ∀ j, j < k → listed.getD j false = true) (hJ : JM w0 N ops objs M σ k (fun i => listed.getD i false = true) a w) : wpAny P .any ops Q fuel listed a w := by
  obtain ⟨p, objs', ⟨l, hnd, hl, rfl⟩, hJY, hI⟩ := hJ
  have hp : ms.Perm l := (List.perm_ext_iff_of_nodup hms hnd).2 fun i => by
    rw [hmem, hl]
    unfold Live
    exact ⟨fun ⟨e2, e3, e4⟩ => ⟨fun h => hall i (e2 h), e3, fun c hc hs _ => e4 c hc hs hc⟩, fun ⟨e2, e3, e4⟩ => ⟨fun h => hXk i (e2 h), e3, fun c hc hs _ => e4 c hc hs (hall c hc)⟩⟩
  exact seq_start hok hk htl (hQ p fun i hi hm => hI i hi (hall i hi) hm) hsz hun hXk hall (hJY.pick (.perm ((hp.flatMap_right fun i => M.O i p).append_right objs)))
theorem any_of_jm (hok : drawOk ops = true) {k : Nat} (hk : k ≤ ops.size) (htl : tailOk ops k = true) {M : Mks} {σ : Pt → Nat → Env} (hz : ∀ p p' t, lk t (σ p 0) = lk t (σ p' 0)) (hop : ∀ c o, c < k → ops[c]? = some o → OpM P w0 N ops objs M σ c o) (hinj : ∀ c c' i, c < k → c' < k → M.src c = some i → M.src c' = some i → c = c') (hps : ∀ j, ¬ j < ops.size → ∀ p p', M.O j p = M.O j p')
    {ms : List Nat} (hms : ms.Nodup) (hmem : ∀ i, i ∈ ms ↔ Live M ops.size k (· < k) i) (hQ : ∀ p : Pt, (∀ i, i < k → M.on i = true → M.I i (p i)) → AL P w0 N ops Q (ops.toList.drop k) (σ p k) (ms.flatMap (fun i => M.O i p) ++ objs)) :
    ∀ (fuel : Nat) (listed : Array Bool) (a : Act) (w : World), listed.size = ops.size → unlisted listed ≤ fuel → (∀ i, listed.getD i false = true → i < k) → Closed ops (fun i => listed.getD i false = true) → JM w0 N ops objs M σ k (fun i => listed.getD i false = true) a w → wpAny P .any ops Q fuel listed a w := by
  intro fuel
  induction fuel with
  | zero =>
    intro listed a w hsz hun hXk hX hJ
    by_cases hall : ∀ j, j < k → listed.getD j false = true
    · exact jm_start hok hk htl hop hms hmem hQ hsz hun hXk hall hJ
    · exfalso
      apply hall
      intro j hj
      cases hb : listed.getD j false with
      | true => rfl
      | false =>
        exfalso
        have hjl : j < listed.size := by omega
        have : listed[j] ∈ listed.toList.filter (! ·) := List.mem_filter.2 ⟨by simp, by
          simp only [Array.getD_eq_getD_getElem?, Array.getElem?_eq_getElem hjl, Option.getD_some] at hb; simp [hb]⟩
        have := List.length_pos_of_mem this
        unfold unlisted at hun; omega
  | succ fuel ih =>
    intro listed a w hsz hun hXk hX hJ
    by_cases hall : ∀ j, j < k → listed.getD j false = true
    · exact jm_start hok hk htl hop hms hmem hQ hsz hun hXk hall hJ
    have hsome : ∃ j, j < k ∧ ¬ listed.getD j false = true := by
      refine Classical.byContradiction fun hn => hall fun j hj => Classical.byContradiction fun h => hn ⟨j, hj, h⟩
    refine ⟨fun hr => ?_, fun i hi => ?_⟩
    · exfalso
      have hall2 : ∀ j, j < ops.size → listed.getD j false = true := by
        intro j
        induction j using Nat.strongRecOn with
        | _ j ih =>
          intro hj
          cases hb : listed.getD j false with
          | true => rfl
          | false =>
            have hoj : ops[j]? = some ops[j] := by simp [hj]
            have hmem : j ∈ Region.ready .any ops listed := mem_ready.2 ⟨by
              have hjl : j < listed.size := by omega
              simp only [Array.getD_eq_getD_getElem?, Array.getElem?_eq_getElem hjl, Option.getD_some] at hb ⊢; exact hb, _, hoj, fun e he hbd => ih e.on ((drawOk_spec hok hoj).1 e he hbd) (Nat.lt_trans ((drawOk_spec hok hoj).1 e he hbd) hj)⟩
            rw [hr] at hmem; cases hmem
      obtain ⟨j, hj, hnj⟩ := hsome
      exact hnj (hall2 j (by omega))
    · obtain ⟨h0, o, ho, hed⟩ := mem_ready.1 hi
      have hisz : i < ops.size := (Array.getElem?_eq_some_iff.1 ho).1
      have hil : i < listed.size := by rw [hsz]; exact hisz
      have h0' : listed[i] = false := by simpa [Array.getD_eq_getD_getElem?, hil] using h0
      have hni : ¬ listed.getD i false = true := by simp [hil, h0']
      have hXeq : ∀ k, (listed.setIfInBounds i true).getD k false = true ↔ (k = i ∨ listed.getD k false = true) := fun k => by
        by_cases hk : k = i
        · subst hk; simp [hil]
        · rw [getD_set_ne false (Ne.symm hk)]; simp [hk]
      have hX' : Closed ops fun k => k = i ∨ listed.getD k false = true := fun j oj hj hx e he hb => by
        rcases hx with rfl | hx
        · rw [hj] at ho; cases ho; exact .inr (hed e he hb)
        · exact .inr (hX j oj hj hx e he hb)
      have hik : i < k := Nat.lt_of_not_le fun hge => by
        obtain ⟨j, hj, hnj⟩ := hsome
        have := closed_reach hok hX' i hisz (.inl rfl) j (by omega) (tailOk_spec htl hisz hge (by omega))
        rcases this with h | h
        · omega
        · exact hnj h
      have hXs : Closed ops fun k => (listed.setIfInBounds i true).getD k false = true := fun j oj hj hx e he hb => (hXeq _).2 (hX' j oj hj ((hXeq _).1 hx) e he hb)
      have hun' : unlisted (listed.setIfInBounds i true) ≤ fuel := by
        have key : ∀ (l : List Bool) (i : Nat), l[i]? = some false → ((l.set i true).filter (! ·)).length + 1 = (l.filter (! ·)).length := fun l => by
          induction l with
          | nil => intro i h; simp at h
          | cons x l ih =>
            intro i h
            cases i with
            | zero => simp at h; subst h; simp
            | succ i =>
              have := ih i (by simpa using h)
              cases x <;> simp at this ⊢ <;> omega
        have := key listed.toList i (by simp [hil, h0'])
        unfold unlisted at hun ⊢
        simp only [Array.toList_setIfInBounds]
        omega
      have hnext : ∀ a' w', JM w0 N ops objs M σ k (fun k => k = i ∨ listed.getD k false = true) a' w' → wpAny P .any ops Q fuel (listed.setIfInBounds i true) a' w' := fun a' w' hJ' =>
        ih _ a' w' (by simpa using hsz) hun' (fun j hj => ((hXeq j).1 hj).elim (fun e => e ▸ hik) (hXk j)) hXs (hJ'.congr hXeq)
      exact jm_op hok hk hz hop hinj hps hJ hX hXk ho hik hni hX' hnext
end
end Go.Proofs.YtiihihgjiklnoaaGreatDoor
