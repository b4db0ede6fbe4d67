/- Part 16 of the proof: the texts EngAB, EngAC, EngAD, EngAF. -/
import Derived.Test.YtiihihgjiklnoaaGreatDoorQb10
import Derived.Test.YtiihihgjiklnoaaGreatDoorQb7
/- The abstract walk, part 21: a region that draws its order in which memory is made, again and again. -/
namespace Go.Proofs.YtiihihgjiklnoaaGreatDoor
open Go Go.RowKit
inductive Yu where
  | no
  | one (a b : Nat)
  | many (l : List (Nat × Nat))
  | pair (x y : Yu)
def Pt : Type := Nat → Yu
def Pt.put (p : Pt) (i : Nat) (y : Yu) : Pt := fun j => if j = i then y else p j
theorem Pt.put_ne {p : Pt} {i j : Nat} {y : Yu} (h : j ≠ i) : p.put i y j = p j := if_neg h
theorem Pt.put_eq {p : Pt} {i : Nat} {y : Yu} : p.put i y i = y := if_pos rfl
def rp (ops : Array Oper) (c m : Nat) : Prop := m = c ∨ (m < c ∧ ((Region.before ops).getD c 0).testBit m = true)
def zg {α : Type} (ops : Array Oper) (c : Nat) (T : Pt → α) : Prop := ∀ p p' : Pt, (∀ m, rp ops c m → p m = p' m) → T p = T p'
def MkW (P : Program) (w0 : World) (env : Env) (o : Oper) (C R : aI) (I : Yu → Prop) (O : Yu → aI) (T : Yu → TV) : Prop :=
  ∀ (a : Act) (w : World) (K : Act → World → Prop) (Q : Exit → Act → World → Prop), du w0 (C ++ R) w → (∀ x ∈ o.op.operands.toList, ∀ v, ev env x = some v → Rep w (C ++ R) v (a.eval x)) →
    (∀ y v w', I y → du w0 (O y ++ R) w' → jz w (C ++ R) w' (O y ++ R) → Rep w' (O y ++ R) (T y) v → K (a.put o.dst v) w') → o.wp P a w K Q
structure Mks where
  on : Nat → Bool
  O : Nat → Pt → aI
  src : Nat → Option Nat
  I : Nat → Yu → Prop
def Mks.cons (M : Mks) (c : Nat) (p : Pt) : aI := match M.src c with
  | some i => M.O i p
  | none => []
section
variable {P : Program} {w0 : World} {N : Nat} {Q : Exit → Act → World → Prop} {objs : aI} {ops : Array Oper}
def OpM (P : Program) (w0 : World) (N : Nat) (ops : Array Oper) (objs : aI) (M : Mks) (σ : Pt → Nat → Env) (c : Nat) (o : Oper) : Prop :=
  ∃ T, o.guard = none ∧ ((∃ d, o.dst = some d ∧ d < N ∧ ∀ p t, lk t (σ p (c + 1)) = lk t ((d, T p) :: σ p c)) ∨ (o.dst = none ∧ ∀ p t, lk t (σ p (c + 1)) = lk t (σ p c))) ∧ zg ops c T ∧
    ((M.on c = false ∧ M.src c = none ∧ ∀ p R, (∀ x ∈ objs, x ∈ R) → aS P w0 (σ p c) R o (T p)) ∨
     (M.on c = true ∧ zg ops c (M.O c) ∧ (∀ i, M.src c = some i → i ≠ c ∧ (i < ops.size → rp ops c i) ∧ M.on i = true) ∧
       ∀ p R, (∀ x ∈ objs, x ∈ R) → MkW P w0 (σ p c) o (M.cons c p) R (M.I c) (fun y => M.O c (p.put c y)) (fun y => T (p.put c y))))
def acn (N : Nat) (ops : Array Oper) (k : Nat) (σ : Nat → Env) : Prop := ∀ i o, i < k → ops[i]? = some o → (∃ d tv, o.dst = some d ∧ d < N ∧ ∀ t, lk t (σ (i + 1)) = lk t ((d, tv) :: σ i)) ∨ (o.dst = none ∧ ∀ t, lk t (σ (i + 1)) = lk t (σ i))
theorem aaG {objs' : aI} (hok : cD ops = true) {k : Nat} (hk : k ≤ ops.size) {σ : Nat → Env} {X : Nat → Prop} {a : Act} {w w' : World} (hJ : JY w0 N ops objs σ k X a w) (hX : cB ops X) {i d : Nat} {o : Oper} {tv : TV} {v : Value} (hi : ops[i]? = some o) (hik : i < k) (hni : ¬ X i) (hd : o.dst = some d) (hdN : d < N)
    (hσ : acn N ops k σ) (hσi : ∀ t, lk t (σ (i + 1)) = lk t ((d, tv) :: σ i)) (hr : Rep w' objs' tv v) (hw : du w0 objs' w') (hst : jz w objs w' objs') : JY w0 N ops objs' σ k (fun k => k = i ∨ X k) (a.put (some d) v) w' := by
  refine ⟨hJ.defers, by simp [Act.put, hJ.size], hw, fun t c hc h1 h2 u hu => ?_⟩
  show Rep w' objs' u ((a.tmps.setIfInBounds d v).getD t undef)
  rw [fu (by rw [hJ.size]; exact hdN)]
  by_cases hdt : d = t
  · subst hdt
    rw [if_pos rfl]
    have hwi : ce ops i d := by unfold ce; rw [hi]; exact hd
    have hic : i < c := Nat.lt_of_not_le fun h => h2 i h hik hwi (.inl rfl)
    have hlast : ∀ m, i + 1 ≤ m → m ≤ c → lk d (σ m) = some tv := fun m => by
      induction m with
      | zero => intro h; omega
      | succ m ih =>
        intro hm1 hm2
        rcases Nat.eq_or_lt_of_le hm1 with h | h
        · have : m = i := by omega
          subst this; rw [hσi, bI, if_pos rfl]
        · have hm : m < ops.size := by omega
          have hom : ops[m]? = some ops[m] := by simp [hm]
          rcases hσ m _ (by omega) hom with ⟨dm, tm, e1, _, e2⟩ | ⟨_, e2⟩
          · rw [e2, bI, if_neg]
            · exact ih (by omega) (by omega)
            · intro e
              subst e
              have hwm : ce ops m dm := by unfold ce; rw [hom]; exact e1
              rcases h1 m (by omega) hwm with h3 | h3
              · omega
              · exact hni (fB hok hi hom (by omega) (eD hd e1) hX h3)
          · rw [e2]; exact ih (by omega) (by omega)
    rw [hlast c hic (Nat.le_refl _)] at hu
    simp only [Option.some.injEq] at hu
    subst hu; exact hr
  · rw [if_neg hdt]
    refine (hJ.cut t c hc (fun m hm hwm => ?_) (fun m hm hmk hwm hx => h2 m hm hmk hwm (.inr hx)) u hu).step hst
    rcases h1 m hm hwm with h3 | h3
    · subst h3
      unfold ce at hwm
      rw [hi] at hwm
      simp only [Option.bind_some, hd, Option.some.injEq] at hwm
      exact absurd hwm hdt
    · exact h3
theorem aai {objs' : aI} {k : Nat} {σ : Nat → Env} {X : Nat → Prop} {a : Act} {w w' : World} (hJ : JY w0 N ops objs σ k X a w) {i : Nat} {o : Oper} (hi : ops[i]? = some o) (hd : o.dst = none) (hw : du w0 objs' w') (hst : jz w objs w' objs') : JY w0 N ops objs' σ k (fun k => k = i ∨ X k) a w' :=
  ⟨hJ.defers, hJ.size, hw, fun t c hc h1 h2 u hu => (hJ.cut t c hc (fun m hm hwm => (h1 m hm hwm).resolve_left fun e => by
    subst e
    unfold ce at hwm
    rw [hi] at hwm
    simp only [Option.bind_some, hd] at hwm
    cases hwm) (fun m hm hmk hwm hx => h2 m hm hmk hwm (.inr hx)) u hu).step hst⟩
theorem JY.pick {objs' : aI} {σ : Nat → Env} {k : Nat} {X : Nat → Prop} {a : Act} {w : World} (h : JY w0 N ops objs σ k X a w) (hp : dg objs' objs) : JY w0 N ops objs' σ k X a w :=
  ⟨h.defers, h.size, h.mem.sub hp, fun t c hc h1 h2 v hv => (h.cut t c hc h1 h2 v hv).step (f3 hp w)⟩
theorem lW (hok : cD ops = true) {k : Nat} (hk : k ≤ ops.size) {M : Mks} {σ : Pt → Nat → Env} (h0 : ∀ p p' t, lk t (σ p 0) = lk t (σ p' 0)) (hop : ∀ c o, c < k → ops[c]? = some o → OpM P w0 N ops objs M σ c o) {X : Nat → Prop} (hX : cB ops X) {i : Nat} (hni : ¬ X i) (p : Pt) (y : Yu) (t : Nat) : ∀ c, c ≤ k → (∀ m, m < c → ce ops m t → X m) → lk t (σ (p.put i y) c) = lk t (σ p c)
  | 0, _, _ => h0 _ _ _
  | c + 1, hc, hw => by
    have hcs : c < ops.size := by omega
    have hoc : ops[c]? = some ops[c] := by simp [hcs]
    obtain ⟨T, _, hs, hT, _⟩ := hop c _ (by omega) hoc
    rcases hs with ⟨d, hd, _, hs⟩ | ⟨_, hs⟩
    · rw [hs, hs, bI, bI]
      split
      · rename_i hdt
        have hXc : X c := hw c (Nat.lt_succ_self c) (by unfold ce; rw [hoc]; exact hdt ▸ hd)
        rw [hT (p.put i y) p fun m hm => Pt.put_ne fun e => ?_]
        subst e
        rcases hm with h | ⟨h1, h2⟩
        · exact hni (h ▸ hXc)
        · exact hni (dh hok hX c hcs hXc m h1 h2)
      · exact lW hok hk h0 hop hX hni p y t c (by omega) fun m hm => hw m (by omega)
    · rw [hs, hs]
      exact lW hok hk h0 hop hX hni p y t c (by omega) fun m hm => hw m (by omega)
theorem JY.put (hok : cD ops = true) {k : Nat} (hk : k ≤ ops.size) {M : Mks} {σ : Pt → Nat → Env} (h0 : ∀ p p' t, lk t (σ p 0) = lk t (σ p' 0)) (hop : ∀ c o, c < k → ops[c]? = some o → OpM P w0 N ops objs M σ c o) {X : Nat → Prop} (hX : cB ops X) {i : Nat} (hni : ¬ X i) {p : Pt} (y : Yu) {objs' : aI} {a : Act} {w : World} (h : JY w0 N ops objs' (σ p) k X a w) : JY w0 N ops objs' (σ (p.put i y)) k X a w :=
  ⟨h.defers, h.size, h.mem, fun t c hc h1 h2 v hv => by
    rw [lW hok hk h0 hop hX hni p y t c hc h1] at hv
    exact h.cut t c hc h1 h2 v hv⟩
def zP (M : Mks) (n k : Nat) (X : Nat → Prop) (i : Nat) : Prop := (i < n → X i) ∧ M.on i = true ∧ ∀ c, c < k → M.src c = some i → ¬ X c
def MO (M : Mks) (objs : aI) (n k : Nat) (X : Nat → Prop) (p : Pt) (objs' : aI) : Prop := ∃ l : List Nat, l.Nodup ∧ (∀ i, i ∈ l ↔ zP M n k X i) ∧ objs' = l.flatMap (fun i => M.O i p) ++ objs
theorem MO.sub {M : Mks} {n k : Nat} {X : Nat → Prop} {p : Pt} {objs' : aI} (h : MO M objs n k X p objs') : ∀ x ∈ objs, x ∈ objs' := fun x hx => by
  obtain ⟨l, _, _, rfl⟩ := h
  exact List.mem_append_right _ hx
def JM (w0 : World) (N : Nat) (ops : Array Oper) (objs : aI) (M : Mks) (σ : Pt → Nat → Env) (k : Nat) (X : Nat → Prop) (a : Act) (w : World) : Prop :=
  ∃ p objs', MO M objs ops.size k X p objs' ∧ JY w0 N ops objs' (σ p) k X a w ∧ ∀ i, i < k → X i → M.on i = true → M.I i (p i)
theorem JM.congr {M : Mks} {σ : Pt → Nat → Env} {k : Nat} {X Y : Nat → Prop} {a : Act} {w : World} (h : JM w0 N ops objs M σ k X a w) (hXY : ∀ i, Y i ↔ X i) : JM w0 N ops objs M σ k Y a w := by
  have : Y = X := funext fun i => propext (hXY i)
  rw [this]; exact h
theorem aaD {M : Mks} {k : Nat} {σ : Pt → Nat → Env} (hop : ∀ c o, c < k → ops[c]? = some o → OpM P w0 N ops objs M σ c o) (p : Pt) : acn N ops k (σ p) := fun i o hi ho => by
  obtain ⟨T, _, h, _⟩ := hop i o hi ho
  rcases h with ⟨d, h1, h2, h3⟩ | ⟨h1, h3⟩
  · exact .inl ⟨d, T p, h1, h2, h3 p⟩
  · exact .inr ⟨h1, h3 p⟩
theorem ada (hok : cD ops = true) {k : Nat} (hk : k ≤ ops.size) {M : Mks} {σ : Pt → Nat → Env} (h0 : ∀ p p' t, lk t (σ p 0) = lk t (σ p' 0)) (hop : ∀ c o, c < k → ops[c]? = some o → OpM P w0 N ops objs M σ c o) (hinj : ∀ c c' i, c < k → c' < k → M.src c = some i → M.src c' = some i → c = c') (hps : ∀ j, ¬ j < ops.size → ∀ p p', M.O j p = M.O j p')
    {X : Nat → Prop} {a : Act} {w : World} (hJ : JM w0 N ops objs M σ k X a w) (hX : cB ops X) (hXk : ∀ i, X i → i < k) {i : Nat} {o : Oper} (ho : ops[i]? = some o) (hik : i < k) (hni : ¬ X i) (hX' : cB ops fun k => k = i ∨ X k)
    {K : Act → World → Prop} (hnext : ∀ a' w', JM w0 N ops objs M σ k (fun k => k = i ∨ X k) a' w' → K a' w') : wpOp P ops Q i K a w := by
  obtain ⟨p, objs', hMO, hJY, hI⟩ := hJ
  obtain ⟨T, hg, hs, hT, hcase⟩ := hop i o hik ho
  have hput : ∀ {objs1 objs2 : aI} {p' : Pt} {v : Value} {w' : World}, JY w0 N ops objs1 (σ p') k X a w → Rep w' objs2 (T p') v → du w0 objs2 w' → jz w objs1 w' objs2 → JY w0 N ops objs2 (σ p') k (fun k => k = i ∨ X k) (a.put o.dst v) w' := fun {objs1 objs2 p' v w'} hJ hr hsw hst => by
    rcases hs with ⟨d, hd, hdN, hs⟩ | ⟨hd, _⟩
    · rw [hd]; exact aaG hok hk hJ hX ho hik hni hd hdN (aaD hop p') (hs p') hr hsw hst
    · rw [hd]; exact aai hJ ho hd hsw hst
  have hiz : i < ops.size := by omega
  have hread : ∀ {objs2 : aI} (_ : JY w0 N ops objs2 (σ p) k X a w) (x : Operand), x ∈ o.op.operands.toList → ∀ v, ev (σ p i) x = some v → Rep w objs2 v (a.eval x) := fun hJ2 x hx v hv => by
    cases x with
    | tmp t =>
      have hl : t ∈ o.looksAt ops := by
        unfold Oper.looksAt
        exact List.mem_append_left _ (List.mem_filterMap.2 ⟨.tmp t, hx, rfl⟩)
      exact jx hok hk hJ2 hX hXk ho hik hni hX' hl hv
    | const u => exact j6 hv
    | func f => simp only [ev, Option.some.injEq] at hv; subst hv; exact .fn f [] #[] rfl (by simp)
    | global g => cases hv
  have hw : Region.wanted o (yielded ops a.tmps) = true := by simp [Region.wanted, hg]
  unfold wpOp
  rw [ho]
  simp only [hw, if_true]
  have hbef : ∀ m, rp ops i m → m ≠ i → X m := fun m hm hne => by
    rcases hm with h | ⟨h1, h2⟩
    · exact absurd h hne
    · rcases dh hok hX' i hiz (.inl rfl) m h1 h2 with h | h
      · exact absurd h hne
      · exact h
  have hnb : ∀ c, X c → ¬ rp ops c i := fun c hc hm => by
    rcases hm with h | ⟨h1, h2⟩
    · exact hni (h ▸ hc)
    · exact hni (dh hok hX c (Nat.lt_of_lt_of_le (hXk c hc) hk) hc i h1 h2)
  rcases hcase with ⟨hmk, hsrc, hy⟩ | ⟨hmk, hO, hsrc, hmake⟩
  · refine .inl (hy p objs' hMO.sub a w _ Q hJY.mem (hread hJY) fun v w' hr hsw hst => ?_)
    refine hnext _ _ ⟨p, objs', ?_, hput hJY hr hsw hst, fun j hj hx hm => ?_⟩
    · obtain ⟨l, h1, h2, h3⟩ := hMO
      refine ⟨l, h1, fun j => (h2 j).trans ?_, h3⟩
      unfold zP
      constructor
      · rintro ⟨e2, e3, e4⟩
        refine ⟨fun h => .inr (e2 h), e3, fun c hc hsc hx => ?_⟩
        rcases hx with rfl | hx
        · rw [hsrc] at hsc; cases hsc
        · exact e4 c hc hsc hx
      · rintro ⟨e2, e3, e4⟩
        exact ⟨fun h => (e2 h).resolve_left fun e => (by subst e; rw [hmk] at e3; cases e3), e3, fun c hc hsc hx => e4 c hc hsc (.inr hx)⟩
    · rcases hx with rfl | hx
      · rw [hmk] at hm; cases hm
      · exact hI j hj hx hm
  · obtain ⟨l, hnd, hl, rfl⟩ := hMO
    -- what stays
    have hstay : ∃ l2 : List Nat, l2.Nodup ∧ (∀ j, j ∈ l2 ↔ zP M ops.size k X j ∧ M.src i ≠ some j) ∧ (l.flatMap (fun i => M.O i p)).Perm (M.cons i p ++ l2.flatMap fun i => M.O i p) := by
      unfold Mks.cons
      cases hsc : M.src i with
      | none => exact ⟨l, hnd, fun j => by rw [hl]; simp, .refl _⟩
      | some s =>
        obtain ⟨hne, hah, hms⟩ := hsrc s hsc
        have hsl : s ∈ l := (hl s).2 ⟨fun h => hbef s (hah h) hne, hms, fun c hc hc2 hx => hni (hinj c i s hc hik hc2 hsc ▸ hx)⟩
        refine ⟨l.erase s, hnd.erase s, fun j => ?_, ?_⟩
        · rw [hnd.mem_erase_iff, hl]
          constructor
          · rintro ⟨e1, e2⟩; exact ⟨e2, fun h => e1 (Option.some.inj h).symm⟩
          · rintro ⟨e1, e2⟩; exact ⟨fun h => e2 (by rw [h]), e1⟩
        · have := (List.perm_cons_erase hsl).flatMap_right fun i => M.O i p
          rwa [List.flatMap_cons] at this
    obtain ⟨l2, hnd2, hl2, hperm⟩ := hstay
    have hpk : dg (M.cons i p ++ (l2.flatMap (fun i => M.O i p) ++ objs)) (l.flatMap (fun i => M.O i p) ++ objs) := .perm (by
      rw [← List.append_assoc]
      exact (hperm.append_right objs).symm)
    have hJ2 := hJY.pick hpk
    refine .inl (hmake p (l2.flatMap (fun i => M.O i p) ++ objs) (fun x hx => List.mem_append_right _ hx) a w _ Q hJ2.mem (hread hJ2) fun y v w' hIy hsw hst hr => ?_)
    have heq : l2.flatMap (fun j => M.O j (p.put i y)) = l2.flatMap fun j => M.O j p := by
      have : ∀ l3 : List Nat, (∀ j ∈ l3, j ∈ l2) → l3.flatMap (fun j => M.O j (p.put i y)) = l3.flatMap fun j => M.O j p := fun l3 => by
        induction l3 with
        | nil => intro _; rfl
        | cons j r ih =>
          intro h
          have hlj := ((hl2 j).1 (h j List.mem_cons_self)).1
          rw [List.flatMap_cons, List.flatMap_cons, ih fun x hx => h x (List.mem_cons_of_mem _ hx)]
          by_cases hjs : j < ops.size
          · have hoj : ops[j]? = some ops[j] := by simp [hjs]
            have hXj := hlj.1 hjs
            obtain ⟨_, _, _, _, hcj⟩ := hop j _ (hXk j hXj) hoj
            have hOj : zg ops j (M.O j) := by
              rcases hcj with ⟨e, _⟩ | ⟨_, e, _⟩
              · rw [hlj.2.1] at e; cases e
              · exact e
            rw [hOj (p.put i y) p fun m hm => Pt.put_ne fun e => hnb j hXj (e ▸ hm)]
          · rw [hps j hjs (p.put i y) p]
      exact this l2 fun _ h => h
    refine hnext _ _ ⟨p.put i y, M.O i (p.put i y) ++ (l2.flatMap (fun i => M.O i p) ++ objs), ?_, hput (hJ2.put hok hk h0 hop hX hni y) hr hsw hst, fun j hj hx hm => ?_⟩
    · refine ⟨i :: l2, List.nodup_cons.2 ⟨fun h => hni (((hl2 i).1 h).1.1 hiz), hnd2⟩, fun j => ?_, by rw [List.flatMap_cons, heq, List.append_assoc]⟩
      rw [List.mem_cons, hl2]
      unfold zP
      constructor
      · rintro (rfl | ⟨⟨e2, e3, e4⟩, e5⟩)
        · refine ⟨fun _ => .inl rfl, hmk, fun c hc hsc hx => ?_⟩
          have hcs : c < ops.size := by omega
          have hoc : ops[c]? = some ops[c] := by simp [hcs]
          obtain ⟨_, _, _, _, hcc⟩ := hop c _ hc hoc
          rcases hcc with ⟨_, e, _⟩ | ⟨_, _, e, _⟩
          · rw [hsc] at e; cases e
          · obtain ⟨e1, e2, _⟩ := e j hsc
            rcases hx with rfl | hx
            · exact e1 rfl
            · exact hnb c hx (e2 hiz)
        · refine ⟨fun h => .inr (e2 h), e3, fun c hc hsc hx => ?_⟩
          rcases hx with rfl | hx
          · exact e5 hsc
          · exact e4 c hc hsc hx
      · rintro ⟨e2, e3, e4⟩
        by_cases hji : j = i
        · exact .inl hji
        · exact .inr ⟨⟨fun h => (e2 h).resolve_left hji, e3, fun c hc hsc hx => e4 c hc hsc (.inr hx)⟩, fun h => e4 i hik h (.inl rfl)⟩
    · rcases hx with rfl | hx
      · rw [Pt.put_eq]; exact hIy
      · rw [Pt.put_ne (fun e : j = i => hni (e ▸ hx))]
        exact hI j hj hx hm
theorem uW (hok : cD ops = true) {k : Nat} (hk : k ≤ ops.size) (htl : fQ ops k = true) {M : Mks} {σ : Pt → Nat → Env} (_hop : ∀ c o, c < k → ops[c]? = some o → OpM P w0 N ops objs M σ c o) {ms : List Nat} (hms : ms.Nodup) (hmem : ∀ i, i ∈ ms ↔ zP M ops.size k (· < k) i)
    (hQ : ∀ p : Pt, (∀ i, i < k → M.on i = true → M.I i (p i)) → AL P w0 N ops Q (ops.toList.drop k) (σ p k) (ms.flatMap (fun i => M.O i p) ++ objs)) {fuel : Nat} {listed : Array Bool} {a : Act} {w : World} (hsz : listed.size = ops.size) (hun : bG listed ≤ fuel) (hXk : ∀ i, listed.getD i false = true → i < k)
    (hall : ∀ j, j < k → listed.getD j false = true) (hJ : JM w0 N ops objs M σ k (fun i => listed.getD i false = true) a w) : wpAny P .any ops Q fuel listed a w := by
  obtain ⟨p, objs', ⟨l, hnd, hl, rfl⟩, hJY, hI⟩ := hJ
  have hp : ms.Perm l := (List.perm_ext_iff_of_nodup hms hnd).2 fun i => by
    rw [hmem, hl]
    unfold zP
    exact ⟨fun ⟨e2, e3, e4⟩ => ⟨fun h => hall i (e2 h), e3, fun c hc hs _ => e4 c hc hs hc⟩, fun ⟨e2, e3, e4⟩ => ⟨fun h => hXk i (e2 h), e3, fun c hc hs _ => e4 c hc hs (hall c hc)⟩⟩
  exact kg hok hk htl (hQ p fun i hi hm => hI i hi (hall i hi) hm) hsz hun hXk hall (hJY.pick (.perm ((hp.flatMap_right fun i => M.O i p).append_right objs)))
theorem xQ (hok : cD ops = true) {k : Nat} (hk : k ≤ ops.size) (htl : fQ ops k = true) {M : Mks} {σ : Pt → Nat → Env} (hz : ∀ p p' t, lk t (σ p 0) = lk t (σ p' 0)) (hop : ∀ c o, c < k → ops[c]? = some o → OpM P w0 N ops objs M σ c o) (hinj : ∀ c c' i, c < k → c' < k → M.src c = some i → M.src c' = some i → c = c') (hps : ∀ j, ¬ j < ops.size → ∀ p p', M.O j p = M.O j p')
    {ms : List Nat} (hms : ms.Nodup) (hmem : ∀ i, i ∈ ms ↔ zP M ops.size k (· < k) i) (hQ : ∀ p : Pt, (∀ i, i < k → M.on i = true → M.I i (p i)) → AL P w0 N ops Q (ops.toList.drop k) (σ p k) (ms.flatMap (fun i => M.O i p) ++ objs)) :
    ∀ (fuel : Nat) (listed : Array Bool) (a : Act) (w : World), listed.size = ops.size → bG listed ≤ fuel → (∀ i, listed.getD i false = true → i < k) → cB ops (fun i => listed.getD i false = true) → JM w0 N ops objs M σ k (fun i => listed.getD i false = true) a w → wpAny P .any ops Q fuel listed a w := by
  intro fuel
  induction fuel with
  | zero =>
    intro listed a w hsz hun hXk hX hJ
    by_cases hall : ∀ j, j < k → listed.getD j false = true
    · exact uW hok hk htl hop hms hmem hQ hsz hun hXk hall hJ
    · exfalso
      apply hall
      intro j hj
      cases hb : listed.getD j false with
      | true => rfl
      | false =>
        exfalso
        have hjl : j < listed.size := by omega
        have : listed[j] ∈ listed.toList.filter (! ·) := List.mem_filter.2 ⟨by simp, by
          simp only [Array.getD_eq_getD_getElem?, Array.getElem?_eq_getElem hjl, Option.getD_some] at hb; simp [hb]⟩
        have := List.length_pos_of_mem this
        unfold bG at hun; omega
  | succ fuel ih =>
    intro listed a w hsz hun hXk hX hJ
    by_cases hall : ∀ j, j < k → listed.getD j false = true
    · exact uW hok hk htl hop hms hmem hQ hsz hun hXk hall hJ
    have hsome : ∃ j, j < k ∧ ¬ listed.getD j false = true := by
      refine Classical.byContradiction fun hn => hall fun j hj => Classical.byContradiction fun h => hn ⟨j, hj, h⟩
    refine ⟨fun hr => ?_, fun i hi => ?_⟩
    · exfalso
      have hall2 : ∀ j, j < ops.size → listed.getD j false = true := by
        intro j
        induction j using Nat.strongRecOn with
        | _ j ih =>
          intro hj
          cases hb : listed.getD j false with
          | true => rfl
          | false =>
            have hoj : ops[j]? = some ops[j] := by simp [hj]
            have hmem : j ∈ Region.ready .any ops listed := mem_ready.2 ⟨by
              have hjl : j < listed.size := by omega
              simp only [Array.getD_eq_getD_getElem?, Array.getElem?_eq_getElem hjl, Option.getD_some] at hb ⊢; exact hb, _, hoj, fun e he hbd => ih e.on ((bS hok hoj).1 e he hbd) (Nat.lt_trans ((bS hok hoj).1 e he hbd) hj)⟩
            rw [hr] at hmem; cases hmem
      obtain ⟨j, hj, hnj⟩ := hsome
      exact hnj (hall2 j (by omega))
    · obtain ⟨h0, o, ho, hed⟩ := mem_ready.1 hi
      have hisz : i < ops.size := (Array.getElem?_eq_some_iff.1 ho).1
      have hil : i < listed.size := by rw [hsz]; exact hisz
      have h0' : listed[i] = false := by simpa [Array.getD_eq_getD_getElem?, hil] using h0
      have hni : ¬ listed.getD i false = true := by simp [hil, h0']
      have hXeq : ∀ k, (listed.setIfInBounds i true).getD k false = true ↔ (k = i ∨ listed.getD k false = true) := fun k => by
        by_cases hk : k = i
        · subst hk; simp [hil]
        · rw [getD_set_ne false (Ne.symm hk)]; simp [hk]
      have hX' : cB ops fun k => k = i ∨ listed.getD k false = true := fun j oj hj hx e he hb => by
        rcases hx with rfl | hx
        · rw [hj] at ho; cases ho; exact .inr (hed e he hb)
        · exact .inr (hX j oj hj hx e he hb)
      have hik : i < k := Nat.lt_of_not_le fun hge => by
        obtain ⟨j, hj, hnj⟩ := hsome
        have := dh hok hX' i hisz (.inl rfl) j (by omega) (f7 htl hisz hge (by omega))
        rcases this with h | h
        · omega
        · exact hnj h
      have hXs : cB ops fun k => (listed.setIfInBounds i true).getD k false = true := fun j oj hj hx e he hb => (hXeq _).2 (hX' j oj hj ((hXeq _).1 hx) e he hb)
      have hun' : bG (listed.setIfInBounds i true) ≤ fuel := by
        have key : ∀ (l : List Bool) (i : Nat), l[i]? = some false → ((l.set i true).filter (! ·)).length + 1 = (l.filter (! ·)).length := fun l => by
          induction l with
          | nil => intro i h; simp at h
          | cons x l ih =>
            intro i h
            cases i with
            | zero => simp at h; subst h; simp
            | succ i =>
              have := ih i (by simpa using h)
              cases x <;> simp at this ⊢ <;> omega
        have := key listed.toList i (by simp [hil, h0'])
        unfold bG at hun ⊢
        simp only [Array.toList_setIfInBounds]
        omega
      have hnext : ∀ a' w', JM w0 N ops objs M σ k (fun k => k = i ∨ listed.getD k false = true) a' w' → wpAny P .any ops Q fuel (listed.setIfInBounds i true) a' w' := fun a' w' hJ' =>
        ih _ a' w' (by simpa using hsz) hun' (fun j hj => ((hXeq j).1 hj).elim (fun e => e ▸ hik) (hXk j)) hXs (hJ'.congr hXeq)
      exact ada hok hk hz hop hinj hps hJ hX hXk ho hik hni hX' hnext
end
def pt0 : Pt := fun _ => .no
structure Mki where
  idx : Nat
  O : Pt → aI
  src : Option Nat
  I : Yu → Prop
def fnd (L : List Mki) (i : Nat) : Option Mki := L.find? fun m => Nat.beq m.idx i
def Mks.of (L : List Mki) : Mks where
  on i := (fnd L i).isSome
  O i p := match fnd L i with | some m => m.O p | none => []
  src i := (fnd L i).bind (·.src)
  I i y := match fnd L i with | some m => m.I y | none => True
def aaH (L : List Mki) (src : Option Nat) (p : Pt) : aI := match src with
  | some i => (Mks.of L).O i p
  | none => []
def qj (L : List Mki) : List Mki := L.filter fun m => L.all fun m' => !(match m'.src with | some i => Nat.beq i m.idx | none => false)
structure MWf (L : List Mki) (c : Nat) : Prop where
  lt : ∀ m ∈ L, m.idx < c ∨ 1000000 ≤ m.idx
  pw : L.Pairwise fun a b => a.idx ≠ b.idx ∧ ∀ i, a.src = some i → b.src ≠ some i
theorem vp {L : List Mki} {i : Nat} (h : ∀ m ∈ L, m.idx ≠ i) : fnd L i = none := List.find?_eq_none.2 fun m hm => by
  rw [wn (h m hm)]; decide
theorem pD {new L : List Mki} {c i : Nat} (hn : ∀ m ∈ new, c ≤ m.idx ∧ m.idx < 1000000) (hi : i < c ∨ 1000000 ≤ i) : fnd (new ++ L) i = fnd L i := by
  unfold fnd
  rw [List.find?_append]
  have : new.find? (fun m => Nat.beq m.idx i) = none := vp fun m hm => by have := hn m hm; omega
  rw [this]; rfl
theorem iw {L : List Mki} {i : Nat} {m : Mki} (h : fnd L i = some m) : m ∈ L ∧ m.idx = i := ⟨List.mem_of_find?_eq_some h, by
  have := List.find?_some h
  exact Nat.eq_of_beq_eq_true this⟩
theorem uU {L : List Mki} {c : Nat} (h : MWf L c) {m : Mki} (hm : m ∈ L) : fnd L m.idx = some m := by
  have hp := h.pw
  clear h
  induction L with
  | nil => cases hm
  | cons x r ih =>
    obtain ⟨h1, h2⟩ := List.pairwise_cons.1 hp
    unfold fnd
    rw [List.find?_cons]
    rcases List.mem_cons.1 hm with rfl | hm
    · have : Nat.beq m.idx m.idx = true := Nat.beq_refl _
      simp only [this]
    · have hne : x.idx ≠ m.idx := (h1 m hm).1
      simp only [wn hne]
      exact ih hm h2
section
variable {P : Program} {w0 : World} {N : Nat} {Q : Exit → Act → World → Prop} {objs : aI} {ops : Array Oper}
inductive DM (P : Program) (w0 : World) (N : Nat) (ops : Array Oper) (objs : aI) (K : List Mki → (Pt → Env) → Prop) : Nat → List Mki → List Oper → (Pt → Env) → Prop
  | nil (c : Nat) (L : List Mki) (E : Pt → Env) (h : K L E) : DM P w0 N ops objs K c L [] E
  | run (c : Nat) (L : List Mki) (o : Oper) (rest : List Oper) (E : Pt → Env) (d : Nat) (T : Pt → TV) (hd : o.dst = some d) (hN : Nat.blt d N = true) (hg : o.guard = none) (hi : zg ops c T) (hy : ∀ p R, (∀ x ∈ objs, x ∈ R) → aS P w0 (E p) R o (T p))
      (h : DM P w0 N ops objs K (c + 1) L rest (fun p => (d, T p) :: E p)) : DM P w0 N ops objs K c L (o :: rest) E
  | make (c : Nat) (L : List Mki) (o : Oper) (rest : List Oper) (E : Pt → Env) (d : Nat) (O : Pt → aI) (src : Option Nat) (I : Yu → Prop) (T : Pt → TV) (hd : o.dst = some d) (hN : Nat.blt d N = true) (hg : o.guard = none) (hi : zg ops c T) (hO : zg ops c O)
      (hs : ∀ i, src = some i → (i < ops.size → rp ops c i) ∧ (fnd L i).isSome = true ∧ ∀ m ∈ L, m.src ≠ some i) (hm : ∀ p R, (∀ x ∈ objs, x ∈ R) → MkW P w0 (E p) o (aaH L src p) R I (fun y => O (p.put c y)) (fun y => T (p.put c y)))
      (h : DM P w0 N ops objs K (c + 1) (⟨c, O, src, I⟩ :: L) rest (fun p => (d, T p) :: E p)) : DM P w0 N ops objs K c L (o :: rest) E
  | makeN (c : Nat) (L : List Mki) (o : Oper) (rest : List Oper) (E : Pt → Env) (O : Pt → aI) (src : Option Nat) (I : Yu → Prop) (T : Pt → TV) (hd : o.dst = none) (hg : o.guard = none) (hi : zg ops c T) (hO : zg ops c O)
      (hs : ∀ i, src = some i → (i < ops.size → rp ops c i) ∧ (fnd L i).isSome = true ∧ ∀ m ∈ L, m.src ≠ some i) (hm : ∀ p R, (∀ x ∈ objs, x ∈ R) → MkW P w0 (E p) o (aaH L src p) R I (fun y => O (p.put c y)) (fun y => T (p.put c y)))
      (h : DM P w0 N ops objs K (c + 1) (⟨c, O, src, I⟩ :: L) rest E) : DM P w0 N ops objs K c L (o :: rest) E
theorem OpM.congr {M : Mks} {σ σ' : Pt → Nat → Env} {c : Nat} {o : Oper} (h : OpM P w0 N ops objs M σ c o) (h1 : ∀ p, σ' p c = σ p c) (h2 : ∀ p, σ' p (c + 1) = σ p (c + 1)) : OpM P w0 N ops objs M σ' c o := by
  unfold OpM at h ⊢
  simpa only [h1, h2] using h
theorem aaj {K : List Mki → (Pt → Env) → Prop} {c : Nat} {L : List Mki} {l : List Oper} {E : Pt → Env} (h : DM P w0 N ops objs K c L l E) (hL : MWf L c) (hbig : c + l.length < 1000000) : ∃ (σ : Pt → Nat → Env) (new : List Mki) (Ef : Pt → Env), K (new ++ L) Ef ∧ (∀ m ∈ new, c ≤ m.idx ∧ m.idx < 1000000) ∧ MWf (new ++ L) (c + l.length) ∧ (∀ p, σ p c = E p) ∧ (∀ p, σ p (c + l.length) = Ef p) ∧ ∀ j o, l[j]? = some o → OpM P w0 N ops objs (Mks.of (new ++ L)) σ (c + j) o := by
  induction h with
  | nil c L E h => exact ⟨fun p _ => E p, [], E, h, by simp, hL, fun _ => rfl, fun _ => rfl, by simp⟩
  | run c L o rest E d T hd hN hg hi hy h ih =>
    obtain ⟨σ, new, Ef, h1, h2, h3, h4, h5, h6⟩ := ih ⟨fun m hm => (hL.lt m hm).imp Nat.lt_succ_of_lt id, hL.pw⟩ (by rw [List.length_cons] at hbig; omega)
    rw [List.length_cons] at hbig
    have hfn : fnd (new ++ L) c = none := vp fun m hm => by
      rcases List.mem_append.1 hm with hm | hm
      · have := h2 m hm; omega
      · have := hL.lt m hm; omega
    refine ⟨fun p i => if i = c then E p else σ p i, new, Ef, h1, fun m hm => by have := h2 m hm; omega, by rw [List.length_cons, show c + (rest.length + 1) = c + 1 + rest.length by omega]; exact h3, fun p => if_pos rfl, fun p => ?_, fun j o' hj => ?_⟩
    · dsimp only
      rw [if_neg (by simp), List.length_cons, show c + (rest.length + 1) = c + 1 + rest.length by omega]; exact h5 p
    · cases j with
      | zero =>
        simp only [List.getElem?_cons_zero, Option.some.injEq] at hj
        subst hj
        refine ⟨T, hg, .inl ⟨d, hd, Nat.blt_eq ▸ hN, fun p t => ?_⟩, hi, .inl ⟨by show (fnd (new ++ L) (c + 0)).isSome = false; rw [Nat.add_zero, hfn]; rfl, by show (fnd (new ++ L) (c + 0)).bind _ = none; rw [Nat.add_zero, hfn]; rfl, fun p R hR => ?_⟩⟩
        · dsimp only
          rw [if_neg (by omega), if_pos (by omega), Nat.add_zero, h4 p]
        · dsimp only
          rw [if_pos (by omega)]
          exact hy p R hR
      | succ j =>
        have := h6 j o' (by simpa using hj)
        rw [show c + 1 + j = c + (j + 1) by omega] at this
        exact this.congr (fun p => if_neg (by omega)) fun p => if_neg (by omega)
  | make c L o rest E d O src I T hd hN hg hi hO hs hm h ih =>
    obtain ⟨σ, new, Ef, h1, h2, h3, h4, h5, h6⟩ := ih ⟨fun m hm => by
      rcases List.mem_cons.1 hm with rfl | hm
      · exact .inl (Nat.lt_succ_self _)
      · exact (hL.lt m hm).imp Nat.lt_succ_of_lt id, List.pairwise_cons.2 ⟨fun m hm => ⟨by rw [List.length_cons] at hbig; have := hL.lt m hm; dsimp only; omega, fun i hi2 => (hs i hi2).2.2 m hm⟩, hL.pw⟩⟩ (by rw [List.length_cons] at hbig; omega)
    rw [List.length_cons] at hbig
    have happ : new ++ (⟨c, O, src, I⟩ :: L) = (new ++ [⟨c, O, src, I⟩]) ++ L := by simp
    have hfn : fnd (new ++ (⟨c, O, src, I⟩ :: L)) c = some ⟨c, O, src, I⟩ := by
      rw [pD (c := c + 1) h2 (.inl (Nat.lt_succ_self c))]
      unfold fnd
      rw [List.find?_cons]
      have : Nat.beq c c = true := Nat.beq_refl _
      simp only [this]
    have hfl : ∀ i, (i < c ∨ 1000000 ≤ i) → fnd (new ++ (⟨c, O, src, I⟩ :: L)) i = fnd L i := fun i hic => by
      rw [pD (c := c + 1) h2 (by omega)]
      unfold fnd
      rw [List.find?_cons]
      have : Nat.beq c i = false := wn (by omega)
      simp only [this]
    refine ⟨fun p i => if i = c then E p else σ p i, new ++ [⟨c, O, src, I⟩], Ef, happ ▸ h1, fun m hm => ?_, by rw [List.length_cons, show c + (rest.length + 1) = c + 1 + rest.length by omega]; exact happ ▸ h3, fun p => if_pos rfl, fun p => ?_, fun j o' hj => ?_⟩
    · rcases List.mem_append.1 hm with hm | hm
      · have := h2 m hm; omega
      · simp only [List.mem_singleton] at hm
        subst hm; exact ⟨Nat.le_refl _, by dsimp only; omega⟩
    · dsimp only
      rw [if_neg (by simp), List.length_cons, show c + (rest.length + 1) = c + 1 + rest.length by omega]; exact h5 p
    · rw [← happ]
      cases j with
      | zero =>
        simp only [List.getElem?_cons_zero, Option.some.injEq] at hj
        subst hj
        have hOc : (Mks.of (new ++ (⟨c, O, src, I⟩ :: L))).O c = O := by
          funext p
          show (match fnd (new ++ (⟨c, O, src, I⟩ :: L)) c with | some m => m.O p | none => []) = _
          rw [hfn]
        have hsc : (Mks.of (new ++ (⟨c, O, src, I⟩ :: L))).src c = src := by
          show (fnd (new ++ (⟨c, O, src, I⟩ :: L)) c).bind _ = _
          rw [hfn]; rfl
        have hIc : (Mks.of (new ++ (⟨c, O, src, I⟩ :: L))).I c = I := by
          funext y
          show (match fnd (new ++ (⟨c, O, src, I⟩ :: L)) c with | some m => m.I y | none => True) = _
          rw [hfn]
        rw [Nat.add_zero]
        refine ⟨T, hg, .inl ⟨d, hd, Nat.blt_eq ▸ hN, fun p t => ?_⟩, hi, .inr ⟨by show (fnd (new ++ (⟨c, O, src, I⟩ :: L)) c).isSome = true; rw [hfn]; rfl, by rw [hOc]; exact hO, fun i hi2 => ?_, fun p R hR => ?_⟩⟩
        · dsimp only
          rw [if_neg (by omega), if_pos rfl, h4 p]
        · rw [hsc] at hi2
          obtain ⟨e1, e2, _⟩ := hs i hi2
          have hic : i < c ∨ 1000000 ≤ i := by
            obtain ⟨m, hm⟩ := Option.isSome_iff_exists.1 e2
            obtain ⟨g1, g2⟩ := iw hm
            have := hL.lt m g1
            omega
          exact ⟨by omega, e1, by show (fnd (new ++ (⟨c, O, src, I⟩ :: L)) i).isSome = true; rw [hfl i hic]; exact e2⟩
        · dsimp only
          rw [if_pos rfl, hOc, hIc]
          have hcons : (Mks.of (new ++ (⟨c, O, src, I⟩ :: L))).cons c p = aaH L src p := by
            unfold Mks.cons aaH
            rw [hsc]
            cases hsr : src with
            | none => rfl
            | some i =>
              have hic : i < c ∨ 1000000 ≤ i := by
                obtain ⟨_, e2, _⟩ := hs i hsr
                obtain ⟨m, hm⟩ := Option.isSome_iff_exists.1 e2
                obtain ⟨g1, g2⟩ := iw hm
                have := hL.lt m g1
                omega
              rw [hsr] at hfl
              show (match fnd (new ++ (⟨c, O, some i, I⟩ :: L)) i with | some m => m.O p | none => []) = (match fnd L i with | some m => m.O p | none => [])
              rw [hfl i hic]
          rw [hcons]
          exact hm p R hR
      | succ j =>
        have := h6 j o' (by simpa using hj)
        rw [show c + 1 + j = c + (j + 1) by omega] at this
        exact this.congr (fun p => if_neg (by omega)) fun p => if_neg (by omega)
  | makeN c L o rest E O src I T hd hg hi hO hs hm h ih =>
    obtain ⟨σ, new, Ef, h1, h2, h3, h4, h5, h6⟩ := ih ⟨fun m hm => by
      rcases List.mem_cons.1 hm with rfl | hm
      · exact .inl (Nat.lt_succ_self _)
      · exact (hL.lt m hm).imp Nat.lt_succ_of_lt id, List.pairwise_cons.2 ⟨fun m hm => ⟨by rw [List.length_cons] at hbig; have := hL.lt m hm; dsimp only; omega, fun i hi2 => (hs i hi2).2.2 m hm⟩, hL.pw⟩⟩ (by rw [List.length_cons] at hbig; omega)
    rw [List.length_cons] at hbig
    have happ : new ++ (⟨c, O, src, I⟩ :: L) = (new ++ [⟨c, O, src, I⟩]) ++ L := by simp
    have hfn : fnd (new ++ (⟨c, O, src, I⟩ :: L)) c = some ⟨c, O, src, I⟩ := by
      rw [pD (c := c + 1) h2 (.inl (Nat.lt_succ_self c))]
      unfold fnd
      rw [List.find?_cons]
      have : Nat.beq c c = true := Nat.beq_refl _
      simp only [this]
    have hfl : ∀ i, (i < c ∨ 1000000 ≤ i) → fnd (new ++ (⟨c, O, src, I⟩ :: L)) i = fnd L i := fun i hic => by
      rw [pD (c := c + 1) h2 (by omega)]
      unfold fnd
      rw [List.find?_cons]
      have : Nat.beq c i = false := wn (by omega)
      simp only [this]
    refine ⟨fun p i => if i = c then E p else σ p i, new ++ [⟨c, O, src, I⟩], Ef, happ ▸ h1, fun m hm => ?_, by rw [List.length_cons, show c + (rest.length + 1) = c + 1 + rest.length by omega]; exact happ ▸ h3, fun p => if_pos rfl, fun p => ?_, fun j o' hj => ?_⟩
    · rcases List.mem_append.1 hm with hm | hm
      · have := h2 m hm; omega
      · simp only [List.mem_singleton] at hm
        subst hm; exact ⟨Nat.le_refl _, by dsimp only; omega⟩
    · dsimp only
      rw [if_neg (by simp), List.length_cons, show c + (rest.length + 1) = c + 1 + rest.length by omega]; exact h5 p
    · rw [← happ]
      cases j with
      | zero =>
        simp only [List.getElem?_cons_zero, Option.some.injEq] at hj
        subst hj
        have hOc : (Mks.of (new ++ (⟨c, O, src, I⟩ :: L))).O c = O := by
          funext p
          show (match fnd (new ++ (⟨c, O, src, I⟩ :: L)) c with | some m => m.O p | none => []) = _
          rw [hfn]
        have hsc : (Mks.of (new ++ (⟨c, O, src, I⟩ :: L))).src c = src := by
          show (fnd (new ++ (⟨c, O, src, I⟩ :: L)) c).bind _ = _
          rw [hfn]; rfl
        have hIc : (Mks.of (new ++ (⟨c, O, src, I⟩ :: L))).I c = I := by
          funext y
          show (match fnd (new ++ (⟨c, O, src, I⟩ :: L)) c with | some m => m.I y | none => True) = _
          rw [hfn]
        rw [Nat.add_zero]
        refine ⟨T, hg, .inr ⟨hd, fun p t => ?_⟩, hi, .inr ⟨by show (fnd (new ++ (⟨c, O, src, I⟩ :: L)) c).isSome = true; rw [hfn]; rfl, by rw [hOc]; exact hO, fun i hi2 => ?_, fun p R hR => ?_⟩⟩
        · dsimp only
          rw [if_neg (by omega), if_pos rfl, h4 p]
        · rw [hsc] at hi2
          obtain ⟨e1, e2, _⟩ := hs i hi2
          have hic : i < c ∨ 1000000 ≤ i := by
            obtain ⟨m, hm⟩ := Option.isSome_iff_exists.1 e2
            obtain ⟨g1, g2⟩ := iw hm
            have := hL.lt m g1
            omega
          exact ⟨by omega, e1, by show (fnd (new ++ (⟨c, O, src, I⟩ :: L)) i).isSome = true; rw [hfl i hic]; exact e2⟩
        · dsimp only
          rw [if_pos rfl, hOc, hIc]
          have hcons : (Mks.of (new ++ (⟨c, O, src, I⟩ :: L))).cons c p = aaH L src p := by
            unfold Mks.cons aaH
            rw [hsc]
            cases hsr : src with
            | none => rfl
            | some i =>
              have hic : i < c ∨ 1000000 ≤ i := by
                obtain ⟨_, e2, _⟩ := hs i hsr
                obtain ⟨m, hm⟩ := Option.isSome_iff_exists.1 e2
                obtain ⟨g1, g2⟩ := iw hm
                have := hL.lt m g1
                omega
              rw [hsr] at hfl
              show (match fnd (new ++ (⟨c, O, some i, I⟩ :: L)) i with | some m => m.O p | none => []) = (match fnd L i with | some m => m.O p | none => [])
              rw [hfl i hic]
          rw [hcons]
          exact hm p R hR
      | succ j =>
        have := h6 j o' (by simpa using hj)
        rw [show c + 1 + j = c + (j + 1) by omega] at this
        exact this.congr (fun p => if_neg (by omega)) fun p => if_neg (by omega)
theorem aah (L0 : List Mki) (k : Nat) {id : Nat} {l l1 l2 : List Oper} {env : Env} (hm : P.follows .mixedOrders = true) (hok : cD l.toArray = true) (htl : fQ l.toArray k = true) (hbl : Nat.blt l.length 1000000 = true) (hc : Cut k l l1 l2) (hL0 : MWf L0 0) (hcon : ∀ m ∈ L0, m.src = none ∧ (∀ p p', m.O p = m.O p') ∧ ∀ y, m.I y)
    (h : DM P w0 N l.toArray objs (fun L E => ∀ p : Pt, (∀ m ∈ L, m.I (p m.idx)) → AL P w0 N l.toArray Q l2 (E p) ((qj L).flatMap (fun m => m.O p) ++ objs)) 0 L0 l1 (fun _ => env)) : AW P w0 N (.region id l.toArray true) Q env (L0.flatMap (fun m => m.O pt0) ++ objs) := ⟨fun a w hs => by
  obtain ⟨e1, e2, hkl⟩ := hc.eq
  have hbl : l.length < 1000000 := Nat.blt_eq ▸ hbl
  have hl1 : l1.length = k := by rw [e1, List.length_take]; omega
  obtain ⟨σ, new0, Ef, h1, hnew, h3, h4, h5, h6⟩ := aaj h hL0 (by omega)
  rw [hl1, Nat.zero_add] at h5 h3
  have hnk : ∀ m ∈ new0, m.idx < k := fun m hm => by
    have := h3.lt m (List.mem_append_left _ hm)
    have := hnew m hm
    omega
  have hL0i : ∀ m ∈ L0, 1000000 ≤ m.idx := fun m hm => by have := hL0.lt m hm; omega
  have hmemL : ∀ m, m ∈ new0 ++ L0 → ¬ m.idx < k → m ∈ L0 := fun m hm hk => by
    rcases List.mem_append.1 hm with h | h
    · exact absurd (hnk m h) hk
    · exact h
  have hL0m : ∀ m ∈ L0, m ∈ new0 ++ L0 := fun m hm => List.mem_append_right _ hm
  generalize new0 ++ L0 = new at h1 h3 h6 hmemL hL0m
  have hop : ∀ c o, c < k → l.toArray[c]? = some o → OpM P w0 N l.toArray objs (Mks.of new) σ c o := fun c o hck ho => by
    have := h6 c o (by rw [e1, List.getElem?_take, if_pos hck]; simpa using ho)
    rwa [Nat.zero_add] at this
  have hrep : ∀ i, (Array.replicate l.toArray.size false).getD i false = false := fun i => by
    rcases Nat.lt_or_ge i l.toArray.size with h | h
    · simp at h; simp [h]
    · simp at h; simp [Array.getD_eq_getD_getElem?, h]
  have hsrc : ∀ {c i : Nat}, (Mks.of new).src c = some i → ∃ m ∈ new, m.idx = c ∧ m.src = some i := fun {c i} hci => by
    obtain ⟨m, hm, hmi⟩ := Option.bind_eq_some_iff.1 hci
    obtain ⟨g1, g2⟩ := iw hm
    exact ⟨m, g1, g2, hmi⟩
  have hOof : ∀ {m : Mki} (_ : m ∈ new) (p : Pt), (Mks.of new).O m.idx p = m.O p := fun {m} hm p => by
    show (match fnd new m.idx with | some m => m.O p | none => []) = _
    rw [uU h3 hm]
  have hon : ∀ {m : Mki} (_ : m ∈ new), (Mks.of new).on m.idx = true := fun {m} hm => by
    show (fnd new m.idx).isSome = true
    rw [uU h3 hm]; rfl
  have hfla : ∀ (p : Pt) (l3 : List Mki), (∀ m ∈ l3, m ∈ new) → (l3.map (·.idx)).flatMap (fun i => (Mks.of new).O i p) = l3.flatMap fun m => m.O p := fun p l3 => by
    induction l3 with
    | nil => intro _; rfl
    | cons x r ih =>
      intro hx
      rw [List.map_cons, List.flatMap_cons, List.flatMap_cons, ih fun y hy => hx y (List.mem_cons_of_mem _ hy), hOof (hx x List.mem_cons_self)]
  have hnd : (qj new).Pairwise fun a b => a.idx ≠ b.idx := (h3.pw.imp fun h => h.1).filter _
  refine wp_region_any hm (xQ (objs := objs) hok (k := k) (by simp; omega) htl (M := Mks.of new) (σ := σ) (fun p p' t => by rw [h4, h4]) hop (fun c c' i hck hck' hsc hsc' => ?_) (fun j hj p p' => ?_) (ms := (qj new).map (·.idx)) (List.Pairwise.map _ (fun a b h => h) hnd) (fun i => ?_) (fun p hI => ?_) _ _ _ _ (by simp) (by simp [bG]) (fun i hi => by rw [hrep] at hi; cases hi) (fun j oj _ hx => nomatch (hrep j).symm.trans hx) ⟨pt0, L0.flatMap (fun m => m.O pt0) ++ objs, ⟨L0.map (·.idx), List.Pairwise.map _ (fun a b h => h) (hL0.pw.imp fun h => h.1), fun i => ?_, by rw [hfla pt0 L0 hL0m]⟩, ⟨hs.defers, hs.size, ?_, fun t c hc' h7 h8 v hv => ?_⟩, fun i _ hx => nomatch (hrep i).symm.trans hx⟩)
  · obtain ⟨m, g1, g2, g3⟩ := hsrc hsc
    obtain ⟨m', g1', g2', g3'⟩ := hsrc hsc'
    refine Classical.byContradiction fun hne => ?_
    obtain ⟨x, hx, rfl⟩ := List.getElem_of_mem g1
    obtain ⟨y, hy, rfl⟩ := List.getElem_of_mem g1'
    have hne : x ≠ y := fun e => by subst e; omega
    rcases Nat.lt_or_gt_of_ne hne with hxy | hxy
    · exact (List.pairwise_iff_getElem.1 h3.pw x y hx hy hxy).2 i g3 g3'
    · exact (List.pairwise_iff_getElem.1 h3.pw y x hy hx hxy).2 i g3' g3
  · show (match fnd new j with | some m => m.O p | none => []) = (match fnd new j with | some m => m.O p' | none => [])
    cases hf : fnd new j with
    | none => rfl
    | some m =>
      obtain ⟨g1, g2⟩ := iw hf
      exact (hcon m (hmemL m g1 (by simp at hj; omega))).2.1 p p'
  · unfold zP
    rw [List.mem_map]
    constructor
    · rintro ⟨m, hm, rfl⟩
      obtain ⟨g1, g2⟩ := List.mem_filter.1 hm
      refine ⟨fun hlt => ?_, hon g1, fun c hck hsc _ => ?_⟩
      · have := h3.lt m g1
        simp at hlt
        omega
      · obtain ⟨m', g1', _, g3'⟩ := hsrc hsc
        have := List.all_eq_true.1 g2 m' g1'
        simp only [g3', Nat.beq_refl, Bool.not_true] at this
        cases this
    · rintro ⟨hik, hon2, hno⟩
      obtain ⟨m, hm⟩ := Option.isSome_iff_exists.1 (show (fnd new i).isSome = true from hon2)
      obtain ⟨g1, rfl⟩ := iw hm
      refine ⟨m, List.mem_filter.2 ⟨g1, List.all_eq_true.2 fun m' hm' => ?_⟩, rfl⟩
      cases hsr : m'.src with
      | none => rfl
      | some j =>
        have hne : j ≠ m.idx := fun e => by
          subst e
          have hlt : m'.idx < k := Classical.byContradiction fun hk => by
            have := (hcon m' (hmemL m' hm' hk)).1
            rw [hsr] at this; cases this
          exact hno m'.idx hlt (by show (fnd new m'.idx).bind _ = _; rw [uU h3 hm']; exact hsr) hlt
        simp only [wn hne, Bool.not_false]
  · have hd2 : l.toArray.toList.drop k = l2 := by simpa using e2.symm
    rw [hd2, h5, hfla p (qj new) fun m hm => (List.mem_filter.1 hm).1]
    refine h1 p fun m hm => ?_
    by_cases hlt : m.idx < k
    · have := hI m.idx hlt (hon hm)
      have e : (Mks.of new).I m.idx = m.I := by
        funext y
        show (match fnd new m.idx with | some m => m.I y | none => True) = _
        rw [uU h3 hm]
      rwa [e] at this
    · exact (hcon m (hmemL m hm hlt)).2.2 _
  · unfold zP
    rw [List.mem_map]
    constructor
    · rintro ⟨m, hm, rfl⟩
      have := hL0i m hm
      exact ⟨fun h => by simp at h; omega, hon (hL0m m hm), fun c _ _ hx => nomatch (hrep c).symm.trans hx⟩
    · rintro ⟨hx, hon2, _⟩
      obtain ⟨m, hm⟩ := Option.isSome_iff_exists.1 (show (fnd new i).isSome = true from hon2)
      obtain ⟨g1, rfl⟩ := iw hm
      exact ⟨m, hmemL m g1 (fun hlt => nomatch (hrep _).symm.trans (hx (by simp; omega))), rfl⟩
  · exact hs.mem.grow ⟨hs.mem.below.os, hs.mem.below.tape, hs.mem.below.output, hs.mem.below.size, hs.mem.below.block⟩ (Nat.le_refl _) (fun _ _ => rfl)
  · have hk0 : ∀ m, m ≤ c → lk t (σ pt0 m) = lk t (σ pt0 0) := fun m => by
      induction m with
      | zero => intro _; rfl
      | succ m ih =>
        intro hm2
        have hml : m < l.length := by omega
        obtain ⟨T, _, g, _⟩ := hop m l[m] (by omega) (by simp [hml])
        rcases g with ⟨d, g1, _, g2⟩ | ⟨_, g2⟩
        · rw [g2, bI, if_neg]
          · exact ih (by omega)
          · intro e
            have := h7 m (by omega) (by unfold ce; simp [hml, g1, e])
            rw [hrep] at this; cases this
        · rw [g2]; exact ih (by omega)
    rw [hk0 c (Nat.le_refl _), h4] at hv
    have hst : jz w (L0.flatMap (fun m => m.O pt0) ++ objs) { w with drawn := w.drawn + 1 } (L0.flatMap (fun m => m.O pt0) ++ objs) := ⟨fun _ _ _ => rfl, fun _ _ h => h, fun _ _ _ rows _ _ h => ⟨⟨rows, h⟩, rfl⟩, Nat.le_refl _, fun h => h⟩
    exact (hs.env t v hv).step hst⟩
theorem lI (k : Nat) {id : Nat} {l l1 l2 : List Oper} {env : Env} (hm : P.follows .mixedOrders = true) (hok : cD l.toArray = true) (htl : fQ l.toArray k = true) (hbl : Nat.blt l.length 1000000 = true) (hc : Cut k l l1 l2)
    (h : DM P w0 N l.toArray objs (fun L E => ∀ p : Pt, (∀ m ∈ L, m.I (p m.idx)) → AL P w0 N l.toArray Q l2 (E p) ((qj L).flatMap (fun m => m.O p) ++ objs)) 0 [] l1 (fun _ => env)) : AW P w0 N (.region id l.toArray true) Q env objs :=
  aah [] k hm hok htl hbl hc ⟨by simp, .nil⟩ (by simp) h
end
def Yu.a : Yu → Nat
  | .one a _ => a
  | _ => 0
def Yu.b : Yu → Nat
  | .one _ b => b
  | _ => 0
class Enc (Y : Type) where
  enc : Y → Yu
  dec : Yu → Y
  eq : ∀ y, dec (enc y) = y
instance : Enc (Nat × Nat) := ⟨fun y => .one y.1 y.2, fun y => (y.a, y.b), fun _ => rfl⟩
instance : Enc (List (Nat × Nat)) := ⟨.many, fun y => match y with | .many l => l | _ => [], fun _ => rfl⟩
instance {A B : Type} [Enc A] [Enc B] : Enc (A × B) := ⟨fun y => .pair (Enc.enc y.1) (Enc.enc y.2), fun y => match y with | .pair a b => (Enc.dec a, Enc.dec b) | _ => (Enc.dec .no, Enc.dec .no), fun y => by simp [Enc.eq]⟩
section
variable {P : Program} {w0 : World} {N : Nat} {Q : Exit → Act → World → Prop} {objs R : aI} {ops : Array Oper} {env : Env} {dd : Option Nat} {T0 : Nat} {pos : String} {af : Array Edge} {g : Option (Nat × Bool)}
theorem uE {a : Act} {w : World} {l : List Operand} (h : ∀ x ∈ l, ∀ v, ev env x = some v → Rep w objs v (a.eval x)) {x : Operand} (hx : x ∈ l) {v : TV} (hv : ev env x = some v) : Rep w objs v (a.eval x) := h x hx v hv
theorem aat {T : TypeId} {zs : List TV} (hz : cF P T = some zs) : MkW P w0 env ⟨dd, .alloc T, T0, pos, af, g⟩ [] R (fun _ => True) (fun y => [(y.a, y.b, .box zs)]) (fun y => .mp y.a y.b 0) := fun a w K Q hw _ hK =>
  uX rfl hz (by simpa using hw) fun ss b v w' h1 h2 h3 => hK (.one ss b) v w' trivial h2 h3 h1
theorem acA {T : TypeId} {n m : Nat} {ps : List (Nat × Operand)} {rows : List (List TV)} (hT : P.underlying T = some (.slice (P.elem T))) (hI : (cF P (P.elem T)).isSome = true) (hm : P.cellsOf (P.elem T) = m) (hm0 : Nat.blt 0 m = true) (hev : evL env ps 0 = some rows) (hn : rows.length = n) (hbig : Nat.ble (n * m) 16777216 = true) (hall : (rows.all fun r => Nat.beq r.length m) = true) :
    MkW P w0 env ⟨dd, .buildSlice T n ps.toArray, T0, pos, af, g⟩ [] R (fun _ => True) (fun y => [(y.a, y.b, .row m rows)]) (fun y => .ms y.a y.b 0 n) := fun a w K Q hw hop hK => by
  obtain ⟨ss, hf⟩ := fy ([] ++ R)
  have hm0' : 0 < m := Nat.blt_eq ▸ hm0
  have hall' : ∀ r ∈ rows, r.length = m := fun r hr => Nat.eq_of_beq_eq_true (List.all_eq_true.1 hall r hr)
  have hst := fun cs => gc hw cs (P.elem T) ss (.row m rows)
  obtain ⟨cs, h1, h2, h3⟩ := sQ (o := ⟨dd, .buildSlice T n ps.toArray, T0, pos, af, g⟩) rfl hT hI hm hm0 hn hbig a hev hall' (fun p hp v hv => uE hop (by simpa [Op.operands] using ⟨p.1, hp⟩) hv)
  unfold Oper.wp
  rw [h1]
  have hnm : n ≤ maxLen := by
    have := Nat.le_of_ble_eq_true hbig
    have h4 : n * 1 ≤ n * m := Nat.mul_le_mul_left _ hm0'
    simp only [maxLen]; omega
  have hb0 : w.heap.size ≠ 0 := Nat.ne_of_gt (Nat.lt_of_lt_of_le hw.pos hw.below.size)
  refine hK (.one ss w.heap.size) _ _ trivial (hw.newObj hf ⟨⟨hm0', h2.2⟩, hall', .inr ⟨hw.below.size, cs, P.elem T, n, heap_alloc_new w _, h2.1, by omega, hnm, fun j t hj => ?_⟩⟩) (hst cs) (.ms _ _ _ _ _ (.mk ⟨by simp [Yu.b], fL hw #[] 0 ss _, _, _, rfl⟩ (fun m' rows' hm' => .inr ⟨hb0, 0, n, P.elem T, n * m, rfl, Nat.le_refl _, by unfold World.shape?; simp only [Yu.b]; rw [heap_alloc_new]; simp [h2.1], ?_, fun _ => by simp⟩) (fun h0 => absurd h0 hb0)))
  · obtain ⟨v, h4, h5⟩ := h3 j t hj
    exact ⟨v, h4, h5.step (hst cs)⟩
  · rcases List.mem_cons.1 hm' with he | hm'
    · simp only [Prod.mk.injEq, bu.row.injEq] at he; rw [he.2.2.1]; simp
    · exact absurd (da hw hm') (Nat.lt_irrefl _)
theorem yq {T s b len n m : Nat} {x y : Operand} {f : Nat} {rows rows2 news : List (List TV)} (hx : ev env x = some (.ms s b 0 len)) (hy : ev env y = some (.sl f m news)) (hT : mq P T m = true) (hl : rows.length = len) (hn : news.length = n) (hbig : len + n ≤ 1000000000) (hrows : rows ++ news = rows2) :
    MkW P w0 env ⟨dd, .call { callee := .builtin .append, args := #[x, y], argTypes := #[T, T] }, T0, pos, af, g⟩ [(s, b, .row m rows)] R (fun _ => True) (fun y => [(s, y.b, .row m rows2)]) (fun y => .ms s y.b 0 (len + n)) := fun a w K Q hw hop hK => by
  subst hrows
  subst hn
  have hu : ∀ b', Upd (s, b, .row m rows) (s, b', .row m (rows ++ news)) ([(s, b, .row m rows)] ++ R) ([(s, b', .row m (rows ++ news))] ++ R) := fun b' => .head R
  have hmem := (hu 0).mem
  have hex := uE hop (x := x) (by simp [Op.operands, Call.operands]) hx
  have hey := uE hop (x := y) (by simp [Op.operands, Call.operands]) hy
  obtain ⟨b', off', pre, v', w', hr, hE⟩ := qv (P := P) (ty := T0) hw hmem hex hey hT (by omega) rfl hbig
  have hpre : pre = [] := List.eq_nil_of_length_eq_zero (by rw [hE.prelen]; exact hE.zero rfl)
  have hoff : off' = 0 := hE.zero rfl
  subst hpre; subst hoff
  obtain ⟨⟨hm0, hci⟩, hm, _⟩ := hw.obj s b _ hmem
  obtain ⟨_, _, _, _, _, g3, g4, _⟩ := jD hey
  unfold Oper.wp
  rw [i9 (o := ⟨dd, .call { callee := .builtin .append, args := #[x, y], argTypes := #[T, T] }, T0, pos, af, g⟩) rfl hr]
  have hst := j3 (m := m) hw (hu b') hE.size hE.keep hE.blk (fun rows' _ => ⟨rows, rfl⟩) (fun m' rows' he => by simp only [bu.row.injEq] at he; exact he.1.symm) hE.shape (by simp only [dz, ne_eq, Prod.mk.injEq, bu.row.injEq]; omega)
  have hobj := hE.obj
  simp only [List.nil_append, List.drop_zero] at hobj
  rw [← hl, List.take_length] at hobj
  refine hK (.one s b') v' w' trivial (hw.upd (hu b') hE.below hE.keep hE.blk hst ⟨⟨hm0, fun t ht => ?_⟩, fun r hr => ?_, hobj.imp id fun ⟨h1, cur, e, cap, h2, h3, h4, h5, h6⟩ => ⟨h1, cur, e, cap, h2, h3, h4, h5, fun j t hj => ?_⟩⟩) hst (.ms s b' _ _ _ (.mk ⟨hE.lt, fun hm' => hw.noMark (hst.mark hm'), ?_⟩ (fun m' rows' hm' => ?_) (fun h0 => ?_)))
  · simp only [List.flatten_append, List.mem_append] at ht
    rcases ht with ht | ht
    · exact hci t ht
    · exact g4 t ht
  · simp only [List.mem_append] at hr
    rcases hr with hr | hr
    · exact hm r hr
    · exact g3 r hr
  · rcases hE.val with ⟨_, _, h0, h1⟩ | ⟨_, q, c, e, k, h1, _⟩
    · exact ⟨none, 0, by rw [h0]; exact h1⟩
    · exact ⟨_, _, h1⟩
  · rcases (hu b').other hw.sites _ hm' with he | ⟨_, hne, _⟩
    · simp only [Prod.mk.injEq, bu.row.injEq] at he
      obtain ⟨_, _, rfl, _⟩ := he
      exact hE.val
    · exact absurd rfl hne
  · rcases hE.val with ⟨_, h1, h2, h3⟩ | ⟨h1, _⟩
    · exact ⟨h1, h2, h3⟩
    · exact absurd h0 h1
  · obtain ⟨u, p1, p2⟩ := h6 j t hj
    exact ⟨u, p1, p2.step hst⟩
theorem ci.mono {objs' : aI} (hs : ∀ x ∈ objs, x ∈ objs') {t t' : TV} (h : ci objs t t') : ci objs' t t' := by
  induction h with
  | same t => exact .same t
  | nils m => exact .nils m
  | ms s b off len m rows live rows' hm hle hlive hl h ih => exact .ms s b off len m rows live rows' (hs _ hm) hle hlive hl ih
  | mp s b off cells l' hm hl h ih => exact .mp s b off cells l' (hs _ hm) hl ih
  | me s b m k j rows r l' hm hr hl h ih => exact .me s b m k j rows r l' (hs _ hm) hr hl ih
  | agg l l' hl h ih => exact .agg l l' hl ih
  | sl f m rows rows' hl h ih => exact .sl f m rows rows' hl ih
  | cp0 f l => exact .cp0 f l
  | cut t l l' h hp ih => exact .cut t l l' ih hp
theorem cf.mono {objs' : aI} (hs : ∀ x ∈ objs, x ∈ objs') {xs : List Operand} {ts : List TV} (h : cf env objs xs ts) : cf env objs' xs ts := by
  induction h with
  | nil => exact .nil
  | cons x xs t t' ts h hv hr ih => exact .cons x xs t t' ts h (hv.mono hs) ih
theorem abX {G : World → Prop} {f : Nat} {xs : List Operand} {ts : Array TypeId} {args : List TV} {Y : Type} [Enc Y] {I : Y → Prop} {O : Y → aI} {r : Y → TV} (hc : fW P f = true) (hct : CtM P G f args [] I O r) (hargs : cf env objs xs args) (hR : ∀ x ∈ objs, x ∈ R)
    (hG : G w0) (hst : az G) (hnew : ∀ y, I y → (∀ s b o, (s, b, o) ∈ O y → fS (O y) o) ∧ gx (O y) (r y)) :
    MkW P w0 env ⟨dd, .call { callee := .value (.func f), args := xs.toArray, argTypes := ts }, T0, pos, af, g⟩ [] R (fun y => I (Enc.dec y)) (fun y => O (Enc.dec y)) (fun y => r (Enc.dec y)) := fun a w K Q hw0 hop hK => by
  have hw : du w0 R w := by simpa using hw0
  obtain ⟨h1, h2⟩ := lK hw (a := a) (hargs.mono hR) (fun x hx v hv => uE hop (by simp only [Op.operands, Call.operands]; simp [hx]) hv)
  unfold Oper.wp
  rw [jV (o := ⟨dd, .call { callee := .value (.func f), args := xs.toArray, argTypes := ts }, T0, pos, af, g⟩) rfl hc]
  have hwv := oN hw
  refine (hct w w (ly R) [] (xs.map a.eval).toArray (hst.below _ _ hG hw.below) (by simpa using hwv) (.gh _ _ (by simp)) (by simpa using h1) (fun i t v ht hv => ?_)).mono ?_
  · exact (h2 i t v ht (by simpa using hv)).step (by simpa using oW w R)
  · rintro e w' ⟨v, y, rfl, hI, hw', _, hr⟩
    obtain ⟨n1, n2⟩ := hnew y hI
    have hst' := qr hw hw' n1
    exact hK (Enc.enc y) v w' (by dsimp only; rw [Enc.eq]; exact hI) (by dsimp only; rw [Enc.eq]; exact vB hw hw' n1) (by dsimp only; rw [Enc.eq]; exact hst') (by dsimp only; rw [Enc.eq]; exact qF hw hw' n1 n2 hr)
end
theorem ab7 {α : Type} {ops : Array Oper} {c : Nat} (f : Yu → α) : zg ops c (fun p => f (p c)) := fun p p' h => by
  show f (p c) = f (p' c)
  rw [h c (.inl rfl)]
theorem mz (L : List Mki) (p : Pt) : aaH L none p = [] := rfl
theorem ah_ {A : Prop} (h : A := by (first | exact .inl rfl | exact .inr ⟨by decide, by kernel_rfl⟩ | fail)) : A := h
theorem zk {A : Prop} (h : A := by (first | (intro p p' h; rfl) | (intro p p' h; (try dsimp only); (repeat rw [h _ ah_])) | fail)) : A := h
section
variable {P : Program} {w0 : World} {N : Nat} {Q : Exit → Act → World → Prop} {objs : aI} {ops : Array Oper} {K : List Mki → (Pt → Env) → Prop} {c : Nat} {L : List Mki} {rest : List Oper} {E : Pt → Env} {d T0 : Nat} {pos : String} {af : Array Edge}
theorem m_q {op : Op} {T : Pt → TV} (hy : ∀ p R, (∀ x ∈ objs, x ∈ R) → Yd P w0 (E p) R ⟨some d, op, T0, pos, af, none⟩ (T p)) (hN : Nat.blt d N = true) (hi : zg ops c T) (h : DM P w0 N ops objs K (c + 1) L rest (fun p => (d, T p) :: E p)) : DM P w0 N ops objs K c L (⟨some d, op, T0, pos, af, none⟩ :: rest) E :=
  .run c L _ rest E d T rfl hN rfl hi (fun p R hR => (hy p R hR).go) h
theorem p7 {T : TypeId} {ps : List (Nat × Operand)} {zs : List TV} {l : Pt → List TV} (he : zT T = zs) (hb : ∀ p, TB P (E p) T ps zs (l p)) (hN : Nat.blt d N = true) (hz : cF P T = some (zT T)) (hp : (gI P T).isSome = true) (hi : zg ops c l)
    (h : DM P w0 N ops objs K (c + 1) L rest (fun p => (d, .agg (l p)) :: E p)) : DM P w0 N ops objs K c L (⟨some d, .build T ps.toArray, T0, pos, af, none⟩ :: rest) E :=
  .run c L _ rest E d (fun p => .agg (l p)) rfl hN rfl (fun p p' h => by show TV.agg (l p) = _; rw [hi p p' h]) (fun p R hR => uq rfl hz hp (by rw [he]; exact hb p)) h
theorem yY {T : TypeId} {zs : List TV} (hN : Nat.blt d N = true) (_he : zT T = zs) (hz : cF P T = some zs)
    (h : DM P w0 N ops objs K (c + 1) (⟨c, fun p => [((p c).a, (p c).b, .box zs)], none, fun _ => True⟩ :: L) rest (fun p => (d, .mp (p c).a (p c).b 0) :: E p)) : DM P w0 N ops objs K c L (⟨some d, .alloc T, T0, pos, af, none⟩ :: rest) E :=
  .make c L _ rest E d (fun p => [((p c).a, (p c).b, .box zs)]) none (fun _ => True) (fun p => .mp (p c).a (p c).b 0) rfl hN rfl (ab7 fun y => TV.mp y.a y.b 0) (ab7 fun y => [(y.a, y.b, bu.box zs)]) (fun _ h => by cases h) (fun p R hR => by
    have := aat (P := P) (w0 := w0) (env := E p) (R := R) (dd := some d) (T0 := T0) (pos := pos) (af := af) (g := none) hz
    simpa only [Pt.put_eq, mz] using this) h
theorem ads {T n m : Nat} {ps : List (Nat × Operand)} {rows : List (List TV)} (hev : ∀ p, evL (E p) ps 0 = some rows) (hN : Nat.blt d N = true) (hT : P.underlying T = some (.slice (P.elem T))) (hI : (cF P (P.elem T)).isSome = true) (_hs : esT T = some m) (hm : P.cellsOf (P.elem T) = m) (hm0 : Nat.blt 0 m = true) (hn : rows.length = n) (hbig : Nat.ble (n * m) 16777216 = true) (hall : (rows.all fun r => Nat.beq r.length m) = true)
    (h : DM P w0 N ops objs K (c + 1) (⟨c, fun p => [((p c).a, (p c).b, .row m rows)], none, fun _ => True⟩ :: L) rest (fun p => (d, .ms (p c).a (p c).b 0 n) :: E p)) : DM P w0 N ops objs K c L (⟨some d, .buildSlice T n ps.toArray, T0, pos, af, none⟩ :: rest) E :=
  .make c L _ rest E d (fun p => [((p c).a, (p c).b, .row m rows)]) none (fun _ => True) (fun p => .ms (p c).a (p c).b 0 n) rfl hN rfl (ab7 fun y => TV.ms y.a y.b 0 n) (ab7 fun y => [(y.a, y.b, bu.row m rows)]) (fun _ h => by cases h) (fun p R hR => by
    have := acA (P := P) (w0 := w0) (env := E p) (R := R) (dd := some d) (T0 := T0) (pos := pos) (af := af) (g := none) hT hI hm hm0 (hev p) hn hbig hall
    simpa only [Pt.put_eq, mz] using this) h
theorem ac6 {T i len n m f : Nat} {x y : Operand} {rows rows2 news : List (List TV)} (hx : ∀ p, ev (E p) x = some (.ms (p i).a (p i).b 0 len)) (hy : ∀ p, ev (E p) y = some (.sl f m news)) (hN : Nat.blt d N = true) (hT : mq P T m = true) (hsr : ∀ p, aaH L (some i) p = [((p i).a, (p i).b, .row m rows)]) (hl : rows.length = len) (hn : news.length = n) (hbig : len + n ≤ 1000000000) (hrows : rows ++ news = rows2)
    (hah : i ≠ c ∧ rp ops c i) (hfn : (fnd L i).isSome = true) (huse : ∀ m ∈ L, m.src ≠ some i)
    (h : DM P w0 N ops objs K (c + 1) (⟨c, fun p => [((p i).a, (p c).b, .row m rows2)], some i, fun _ => True⟩ :: L) rest (fun p => (d, .ms (p i).a (p c).b 0 (len + n)) :: E p)) : DM P w0 N ops objs K c L (⟨some d, .call { callee := .builtin .append, args := #[x, y], argTypes := #[T, T] }, T0, pos, af, none⟩ :: rest) E :=
  .make c L _ rest E d (fun p => [((p i).a, (p c).b, .row m rows2)]) (some i) (fun _ => True) (fun p => .ms (p i).a (p c).b 0 (len + n)) rfl hN rfl (fun p p' h => by show TV.ms (p i).a (p c).b 0 _ = TV.ms (p' i).a (p' c).b 0 _; rw [h c (.inl rfl), h i hah.2]) (fun p p' h => by show [((p i).a, (p c).b, bu.row m rows2)] = [((p' i).a, (p' c).b, bu.row m rows2)]; rw [h c (.inl rfl), h i hah.2])
    (fun j hj => by cases hj; exact ⟨fun _ => hah.2, hfn, huse⟩) (fun p R hR => by
    have := yq (P := P) (w0 := w0) (env := E p) (R := R) (dd := some d) (T0 := T0) (pos := pos) (af := af) (g := none) (hx p) (hy p) hT hl hn hbig hrows
    rw [hsr p]
    simpa only [Pt.put_eq, Pt.put_ne hah.1] using this) h
theorem acF {T i n m f : Nat} {x y : Operand} {news : List (List TV)} (hx : ∀ p, ev (E p) x = some (.ms (p i).a (p i).b 0 0)) (hy : ∀ p, ev (E p) y = some (.sl f m news)) (hN : Nat.blt d N = true) (hT : mq P T m = true) (hsr : ∀ p, aaH L (some i) p = [((p i).a, (p i).b, .row m [])]) (hn : news.length = n) (hbig : n ≤ 1000000000)
    (hah : i ≠ c ∧ rp ops c i) (hfn : (fnd L i).isSome = true) (huse : ∀ m ∈ L, m.src ≠ some i)
    (h : DM P w0 N ops objs K (c + 1) (⟨c, fun p => [((p i).a, (p c).b, .row m news)], some i, fun _ => True⟩ :: L) rest (fun p => (d, .ms (p i).a (p c).b 0 n) :: E p)) : DM P w0 N ops objs K c L (⟨some d, .call { callee := .builtin .append, args := #[x, y], argTypes := #[T, T] }, T0, pos, af, none⟩ :: rest) E :=
  ac6 hx hy hN hT hsr rfl hn (by omega) (List.nil_append _) hah hfn huse (by simpa only [Nat.zero_add] using h)
theorem acd {G : World → Prop} {f : Nat} {xs : List Operand} {ts : Array TypeId} {args : List TV} {Y : Type} [Enc Y] {I : Y → Prop} {O : Y → aI} {r : Y → TV} (hG : G w0) (hst : az G) (hct : CtM P G f args [] I O r) (hN : Nat.blt d N = true) (hc : fW P f = true) (hargs : ∀ p, cf (E p) objs xs args) (hnew : ∀ y, I y → (∀ s b o, (s, b, o) ∈ O y → fS (O y) o) ∧ gx (O y) (r y))
    (h : DM P w0 N ops objs K (c + 1) (⟨c, fun p => O (Enc.dec (p c)), none, fun y => I (Enc.dec y)⟩ :: L) rest (fun p => (d, r (Enc.dec (p c))) :: E p)) : DM P w0 N ops objs K c L (⟨some d, .call { callee := .value (.func f), args := xs.toArray, argTypes := ts }, T0, pos, af, none⟩ :: rest) E :=
  .make c L _ rest E d (fun p => O (Enc.dec (p c))) none (fun y => I (Enc.dec y)) (fun p => r (Enc.dec (p c))) rfl hN rfl (ab7 fun y => r (Enc.dec y)) (ab7 fun y => O (Enc.dec y)) (fun _ h => by cases h) (fun p R hR => by
    have := abX (P := P) (w0 := w0) (env := E p) (R := R) (dd := some d) (T0 := T0) (pos := pos) (af := af) (g := none) (ts := ts) hc hct (hargs p) hR hG hst hnew
    simpa only [Pt.put_eq, mz] using this) h
end
theorem mX {P : Program} {w0 : World} {N : Nat} {Q : Exit → Act → World → Prop} {env : Env} {objs : aI} {ops : Array Oper} {rest : List Oper} {d T0 : Nat} {pos : String} {af : Array Edge} {g : Option (Nat × Bool)} {objsOf : Nat → aI} {T s b n m : Nat} {x y : Operand} {f : Nat} {news : List (List TV)} (hN : Nat.blt d N = true) (hx : ev env x = some (.ms s b 0 0)) (hy : ev env y = some (.sl f m news)) (hT : mq P T m = true) (hm : (s, b, bu.row m []) ∈ objs) (hn : news.length = n) (hbig : n ≤ 1000000000) (hu : ∀ b2, Upd (s, b, .row m []) (s, b2, .row m news) objs (objsOf b2)) (h : ∀ b2, AL P w0 N ops Q rest ((d, .ms s b2 0 n) :: env) (objsOf b2)) : AO P w0 N ops Q ⟨some d, .call { callee := .builtin .append, args := #[x, y], argTypes := #[T, T] }, T0, pos, af, g⟩ rest env objs :=
  eT hN hx hy hT hm rfl hn (by omega) (List.nil_append _) hu (fun b2 => by simpa only [Nat.zero_add] using h b2)
theorem ym_ {A : Prop} (h : A := by (first | (intro p R hR; (try dsimp only); (first | ((with_reducible first | apply yv | apply pX | apply gE); rfl) | ((with_reducible apply uR); rfl; (with_reducible rfl); rfl) | ((with_reducible apply uT); rfl; (with_reducible rfl); rfl) | ((with_reducible apply qW); rfl; kernel_rfl; rfl; (exact hR _ mm_); (first | (with_reducible assumption) | (refine aH ?_; omega) | (refine fi ?_; simp only [List.length_set, List.length_map]; omega) | exact rfl | assumption); rfl) | ((with_reducible apply ny); rfl; kernel_rfl; rfl; rfl) | ((with_reducible apply rL); rfl; kernel_rfl; rfl; (exact hR _ mm_); rfl) | ((with_reducible apply jy); rfl; kernel_rfl; rfl) | ((with_reducible apply jq); rfl; rfl; kernel_rfl; kernel_rfl; kernel_rfl; rfl; (first | (with_reducible first | exact rfl | exact mC | exact nw | exact mr | exact mF) | exact rfl | exact cg (by omega) | omega); (first | (with_reducible assumption) | (refine aH ?_; omega) | (refine fi ?_; simp only [List.length_set, List.length_map]; omega) | exact rfl | assumption)) | ((with_reducible apply iU); rfl; rfl; (exact hR _ mm_); kernel_rfl; kernel_rfl; kernel_rfl; (first | (with_reducible first | exact rfl | exact mC | exact nw | exact mr | exact mF) | exact rfl | exact cg (by omega) | omega); (first | assumption | omega); (first | with_reducible exact Nat.zero_add _ | rfl)) | ((with_reducible apply ug); rfl; kernel_rfl) | ((with_reducible apply qM); rfl; kernel_rfl; (first | exact List.length_map _ | rfl)) | ((with_reducible apply vE); rfl; kernel_rfl) | ((with_reducible apply oC); rfl; kernel_rfl) | ((with_reducible first | apply abY | apply ab4 | apply abM | apply abI | apply abq | apply abv | apply lX | apply adM | apply aci); rfl; rfl) | ((with_reducible first | apply abG | apply abK | apply abg); rfl; rfl; (first | ((with_reducible first | refine aaR ?_ | refine aa6 ?_ | refine aa7 ?_ | refine rJ ?_ | refine IntWalk.i64_in _ ?_ | refine aaM _ ?_); omega) | ((with_reducible refine IntWalk.i64_in _ ?_); omega) | (with_reducible assumption) | exact rfl)) | ((with_reducible apply nf); rfl; rfl; kernel_rfl; (first | (with_reducible first | exact rfl | exact mC | exact nw | exact mr | exact mF) | exact rfl | exact cg (by omega) | omega); (first | assumption | omega)) | ((with_reducible apply ya); rfl; (with_reducible rfl)) | ((with_reducible apply yD); rfl; (with_reducible rfl)) | ((with_reducible apply acQ); rfl; (with_reducible rfl)) | ((with_reducible apply yy); rfl; (with_reducible rfl)) | ((with_reducible first | apply xr | apply xO); rfl; rfl) | ((with_reducible apply kE); rfl; rfl; kernel_rfl; kernel_rfl; (first | ((with_reducible first | refine aaR ?_ | refine aa6 ?_ | refine aa7 ?_ | refine rJ ?_ | refine IntWalk.i64_in _ ?_ | refine aaM _ ?_); omega) | ((with_reducible refine IntWalk.i64_in _ ?_); omega) | (with_reducible assumption) | exact rfl)) | ((with_reducible apply jI); rfl; (exact hR _ mm_)) | ((with_reducible apply jY); rfl; (exact hR _ mm_); (first | (with_reducible assumption) | (refine aH ?_; omega) | (refine fi ?_; simp only [List.length_set, List.length_map]; omega) | exact rfl | assumption)) | ((with_reducible apply jX); rfl; kernel_rfl; kernel_rfl; kernel_rfl; rfl; (exact hR _ mm_); (first | (with_reducible assumption) | (refine aH ?_; omega) | (refine fi ?_; simp only [List.length_set, List.length_map]; omega) | exact rfl | assumption); (first | exact .zero _ | exact .succ _ _ _ _ (.zero _) | exact .succ _ _ _ _ (.succ _ _ _ _ (.zero _)) | exact .succ _ _ _ _ (.succ _ _ _ _ (.succ _ _ _ _ (.zero _))) | exact .succ _ _ _ _ (.succ _ _ _ _ (.succ _ _ _ _ (.succ _ _ _ _ (.zero _)))) | (repeat (first | exact .zero _ | apply fr.succ)))) | ((with_reducible apply gj); rfl; kernel_rfl; kernel_rfl; kernel_rfl; rfl; (first | exact .zero _ | exact .succ _ _ _ _ (.zero _) | exact .succ _ _ _ _ (.succ _ _ _ _ (.zero _)) | exact .succ _ _ _ _ (.succ _ _ _ _ (.succ _ _ _ _ (.zero _))) | exact .succ _ _ _ _ (.succ _ _ _ _ (.succ _ _ _ _ (.succ _ _ _ _ (.zero _)))) | (repeat (first | exact .zero _ | apply fr.succ)))) | ((with_reducible apply j9); rfl; kernel_rfl; kernel_rfl; kernel_rfl; rfl; (exact hR _ mm_); (first | exact .zero _ | exact .succ _ _ _ _ (.zero _) | exact .succ _ _ _ _ (.succ _ _ _ _ (.zero _)) | exact .succ _ _ _ _ (.succ _ _ _ _ (.succ _ _ _ _ (.zero _))) | exact .succ _ _ _ _ (.succ _ _ _ _ (.succ _ _ _ _ (.succ _ _ _ _ (.zero _)))) | (repeat (first | exact .zero _ | apply fr.succ)))) | ((with_reducible apply y9); rfl; kernel_rfl; kernel_rfl; rfl) | ((with_reducible apply oK); rfl; rfl; rfl; kernel_rfl; (first | (with_reducible first | exact rfl | exact mC | exact nw | exact mr | exact mF) | exact rfl | exact cg (by omega) | omega); (first | (with_reducible first | exact rfl | exact mC | exact nw | exact mr | exact mF) | exact rfl | exact cg (by omega) | omega); (first | assumption | omega); (first | assumption | omega)) | ((with_reducible apply re); rfl; rfl; kernel_rfl; (first | (with_reducible first | exact rfl | exact mC | exact nw | exact mr | exact mF) | exact rfl | exact cg (by omega) | omega); (first | assumption | omega)) | ((with_reducible apply rk); rfl; rfl; kernel_rfl; (first | (with_reducible first | exact rfl | exact mC | exact nw | exact mr | exact mF) | exact rfl | exact cg (by omega) | omega); (first | assumption | omega)) | ((with_reducible apply acs); rfl; rfl; omega; (first | ((with_reducible first | refine aaR ?_ | refine aa6 ?_ | refine aa7 ?_ | refine rJ ?_ | refine IntWalk.i64_in _ ?_ | refine aaM _ ?_); omega) | ((with_reducible refine IntWalk.i64_in _ ?_); omega) | (with_reducible assumption) | exact rfl)) | ((with_reducible apply acM); rfl; rfl; omega; exact rfl) | ((with_reducible apply xA); rfl; rfl; (first | assumption | omega)) | ((with_reducible first | apply yS | apply yw); rfl; rfl; kernel_rfl) | ((with_reducible apply aco); rfl; rfl; omega) | ((with_reducible first | apply yk | apply yE); rfl; rfl; kernel_rfl))) | fail)) : A := h
end Go.Proofs.YtiihihgjiklnoaaGreatDoor
