/- Part 26 of the proof: the texts EngAC, EngAD. -/
import Derived.Test.YtiihihgjiklnoaaGreatDoorPart25
import Derived.Test.YtiihihgjiklnoaaGreatDoorPart15
import Derived.Test.YtiihihgjiklnoaaGreatDoorPart17
/- The abstract walk, part 22: a region that draws its order in which memory is made: the rules. -/
namespace Go.Proofs.YtiihihgjiklnoaaGreatDoor
open Go Go.RowKit
def pt0 : Pt := fun _ => .no
structure Mki where
  idx : Nat
  O : Pt → Objs
  src : Option Nat
  I : Yu → Prop
def fnd (L : List Mki) (i : Nat) : Option Mki := L.find? fun m => Nat.beq m.idx i
def Mks.of (L : List Mki) : Mks where
  on i := (fnd L i).isSome
  O i p := match fnd L i with | some m => m.O p | none => []
  src i := (fnd L i).bind (·.src)
  I i y := match fnd L i with | some m => m.I y | none => True
def srcO (L : List Mki) (src : Option Nat) (p : Pt) : Objs := match src with
  | some i => (Mks.of L).O i p
  | none => []
def liveL (L : List Mki) : List Mki := L.filter fun m => L.all fun m' => !(match m'.src with | some i => Nat.beq i m.idx | none => false)
structure MWf (L : List Mki) (c : Nat) : Prop where
  lt : ∀ m ∈ L, m.idx < c ∨ 1000000 ≤ m.idx
  pw : L.Pairwise fun a b => a.idx ≠ b.idx ∧ ∀ i, a.src = some i → b.src ≠ some i
theorem fnd_none {L : List Mki} {i : Nat} (h : ∀ m ∈ L, m.idx ≠ i) : fnd L i = none := List.find?_eq_none.2 fun m hm => by
  rw [beq_f (h m hm)]; decide
theorem fnd_new {new L : List Mki} {c i : Nat} (hn : ∀ m ∈ new, c ≤ m.idx ∧ m.idx < 1000000) (hi : i < c ∨ 1000000 ≤ i) : fnd (new ++ L) i = fnd L i := by
  unfold fnd
  rw [List.find?_append]
  have : new.find? (fun m => Nat.beq m.idx i) = none := fnd_none fun m hm => by have := hn m hm; omega
  rw [this]; rfl
theorem fnd_mem {L : List Mki} {i : Nat} {m : Mki} (h : fnd L i = some m) : m ∈ L ∧ m.idx = i := ⟨List.mem_of_find?_eq_some h, by
  have := List.find?_some h
  exact Nat.eq_of_beq_eq_true this⟩
theorem fnd_of {L : List Mki} {c : Nat} (h : MWf L c) {m : Mki} (hm : m ∈ L) : fnd L m.idx = some m := by
  have hp := h.pw
  clear h
  induction L with
  | nil => cases hm
  | cons x r ih =>
    obtain ⟨h1, h2⟩ := List.pairwise_cons.1 hp
    unfold fnd
    rw [List.find?_cons]
    rcases List.mem_cons.1 hm with rfl | hm
    · have : Nat.beq m.idx m.idx = true := Nat.beq_refl _
      simp only [this]
    · have hne : x.idx ≠ m.idx := (h1 m hm).1
      simp only [beq_f hne]
      exact ih hm h2
section
variable {P : Program} {w0 : World} {N : Nat} {Q : Exit → Act → World → Prop} {objs : Objs} {ops : Array Oper}
inductive DM (P : Program) (w0 : World) (N : Nat) (ops : Array Oper) (objs : Objs) (K : List Mki → (Pt → Env) → Prop) : Nat → List Mki → List Oper → (Pt → Env) → Prop
  | nil (c : Nat) (L : List Mki) (E : Pt → Env) (h : K L E) : DM P w0 N ops objs K c L [] E
  | run (c : Nat) (L : List Mki) (o : Oper) (rest : List Oper) (E : Pt → Env) (d : Nat) (T : Pt → TV) (hd : o.dst = some d) (hN : Nat.blt d N = true) (hg : o.guard = none) (hi : IndT ops c T) (hy : ∀ p R, (∀ x ∈ objs, x ∈ R) → Yields P w0 (E p) R o (T p))
      (h : DM P w0 N ops objs K (c + 1) L rest (fun p => (d, T p) :: E p)) : DM P w0 N ops objs K c L (o :: rest) E
  | make (c : Nat) (L : List Mki) (o : Oper) (rest : List Oper) (E : Pt → Env) (d : Nat) (O : Pt → Objs) (src : Option Nat) (I : Yu → Prop) (T : Pt → TV) (hd : o.dst = some d) (hN : Nat.blt d N = true) (hg : o.guard = none) (hi : IndT ops c T) (hO : IndT ops c O)
      (hs : ∀ i, src = some i → (i < ops.size → Ahead ops c i) ∧ (fnd L i).isSome = true ∧ ∀ m ∈ L, m.src ≠ some i) (hm : ∀ p R, (∀ x ∈ objs, x ∈ R) → MkW P w0 (E p) o (srcO L src p) R I (fun y => O (p.put c y)) (fun y => T (p.put c y)))
      (h : DM P w0 N ops objs K (c + 1) (⟨c, O, src, I⟩ :: L) rest (fun p => (d, T p) :: E p)) : DM P w0 N ops objs K c L (o :: rest) E
  | makeN (c : Nat) (L : List Mki) (o : Oper) (rest : List Oper) (E : Pt → Env) (O : Pt → Objs) (src : Option Nat) (I : Yu → Prop) (T : Pt → TV) (hd : o.dst = none) (hg : o.guard = none) (hi : IndT ops c T) (hO : IndT ops c O)
      (hs : ∀ i, src = some i → (i < ops.size → Ahead ops c i) ∧ (fnd L i).isSome = true ∧ ∀ m ∈ L, m.src ≠ some i) (hm : ∀ p R, (∀ x ∈ objs, x ∈ R) → MkW P w0 (E p) o (srcO L src p) R I (fun y => O (p.put c y)) (fun y => T (p.put c y)))
      (h : DM P w0 N ops objs K (c + 1) (⟨c, O, src, I⟩ :: L) rest E) : DM P w0 N ops objs K c L (o :: rest) E
theorem OpM.congr {M : Mks} {σ σ' : Pt → Nat → Env} {c : Nat} {o : Oper} (h : OpM P w0 N ops objs M σ c o) (h1 : ∀ p, σ' p c = σ p c) (h2 : ∀ p, σ' p (c + 1) = σ p (c + 1)) : OpM P w0 N ops objs M σ' c o := by
  unfold OpM at h ⊢
  simpa only [h1, h2] using h
theorem dm_steps {K : List Mki → (Pt → Env) → Prop} {c : Nat} {L : List Mki} {l : List Oper} {E : Pt → Env} (h : DM P w0 N ops objs K c L l E) (hL : MWf L c) (hbig : c + l.length < 1000000) : ∃ (σ : Pt → Nat → Env) (new : List Mki) (Ef : Pt → Env), K (new ++ L) Ef ∧ (∀ m ∈ new, c ≤ m.idx ∧ m.idx < 1000000) ∧ MWf (new ++ L) (c + l.length) ∧ (∀ p, σ p c = E p) ∧ (∀ p, σ p (c + l.length) = Ef p) ∧ ∀ j o, l[j]? = some o → OpM P w0 N ops objs (Mks.of (new ++ L)) σ (c + j) o := by
  induction h with
  | nil c L E h => exact ⟨fun p _ => E p, [], E, h, by simp, hL, fun _ => rfl, fun _ => rfl, by simp⟩
  | run c L o rest E d T hd hN hg hi hy h ih =>
    obtain ⟨σ, new, Ef, h1, h2, h3, h4, h5, h6⟩ := ih ⟨fun m hm => (hL.lt m hm).imp Nat.lt_succ_of_lt id, hL.pw⟩ (by rw [List.length_cons] at hbig; omega)
    rw [List.length_cons] at hbig
    have hfn : fnd (new ++ L) c = none := fnd_none fun m hm => by
      rcases List.mem_append.1 hm with hm | hm
      · have := h2 m hm; omega
      · have := hL.lt m hm; omega
    refine ⟨fun p i => if i = c then E p else σ p i, new, Ef, h1, fun m hm => by have := h2 m hm; omega, by rw [List.length_cons, show c + (rest.length + 1) = c + 1 + rest.length by omega]; exact h3, fun p => if_pos rfl, fun p => ?_, fun j o' hj => ?_⟩
    · dsimp only
      rw [if_neg (by simp), List.length_cons, show c + (rest.length + 1) = c + 1 + rest.length by omega]; exact h5 p
    · cases j with
      | zero =>
        simp only [List.getElem?_cons_zero, Option.some.injEq] at hj
        subst hj
        refine ⟨T, hg, .inl ⟨d, hd, Nat.blt_eq ▸ hN, fun p t => ?_⟩, hi, .inl ⟨by show (fnd (new ++ L) (c + 0)).isSome = false; rw [Nat.add_zero, hfn]; rfl, by show (fnd (new ++ L) (c + 0)).bind _ = none; rw [Nat.add_zero, hfn]; rfl, fun p R hR => ?_⟩⟩
        · dsimp only
          rw [if_neg (by omega), if_pos (by omega), Nat.add_zero, h4 p]
        · dsimp only
          rw [if_pos (by omega)]
          exact hy p R hR
      | succ j =>
        have := h6 j o' (by simpa using hj)
        rw [show c + 1 + j = c + (j + 1) by omega] at this
        exact this.congr (fun p => if_neg (by omega)) fun p => if_neg (by omega)
  | make c L o rest E d O src I T hd hN hg hi hO hs hm h ih =>
    obtain ⟨σ, new, Ef, h1, h2, h3, h4, h5, h6⟩ := ih ⟨fun m hm => by
      rcases List.mem_cons.1 hm with rfl | hm
      · exact .inl (Nat.lt_succ_self _)
      · exact (hL.lt m hm).imp Nat.lt_succ_of_lt id, List.pairwise_cons.2 ⟨fun m hm => ⟨by rw [List.length_cons] at hbig; have := hL.lt m hm; dsimp only; omega, fun i hi2 => (hs i hi2).2.2 m hm⟩, hL.pw⟩⟩ (by rw [List.length_cons] at hbig; omega)
    rw [List.length_cons] at hbig
    have happ : new ++ (⟨c, O, src, I⟩ :: L) = (new ++ [⟨c, O, src, I⟩]) ++ L := by simp
    have hfn : fnd (new ++ (⟨c, O, src, I⟩ :: L)) c = some ⟨c, O, src, I⟩ := by
      rw [fnd_new (c := c + 1) h2 (.inl (Nat.lt_succ_self c))]
      unfold fnd
      rw [List.find?_cons]
      have : Nat.beq c c = true := Nat.beq_refl _
      simp only [this]
    have hfl : ∀ i, (i < c ∨ 1000000 ≤ i) → fnd (new ++ (⟨c, O, src, I⟩ :: L)) i = fnd L i := fun i hic => by
      rw [fnd_new (c := c + 1) h2 (by omega)]
      unfold fnd
      rw [List.find?_cons]
      have : Nat.beq c i = false := beq_f (by omega)
      simp only [this]
    refine ⟨fun p i => if i = c then E p else σ p i, new ++ [⟨c, O, src, I⟩], Ef, happ ▸ h1, fun m hm => ?_, by rw [List.length_cons, show c + (rest.length + 1) = c + 1 + rest.length by omega]; exact happ ▸ h3, fun p => if_pos rfl, fun p => ?_, fun j o' hj => ?_⟩
    · rcases List.mem_append.1 hm with hm | hm
      · have := h2 m hm; omega
      · simp only [List.mem_singleton] at hm
        subst hm; exact ⟨Nat.le_refl _, by dsimp only; omega⟩
    · dsimp only
      rw [if_neg (by simp), List.length_cons, show c + (rest.length + 1) = c + 1 + rest.length by omega]; exact h5 p
    · rw [← happ]
      cases j with
      | zero =>
        simp only [List.getElem?_cons_zero, Option.some.injEq] at hj
        subst hj
        have hOc : (Mks.of (new ++ (⟨c, O, src, I⟩ :: L))).O c = O := by
          funext p
          show (match fnd (new ++ (⟨c, O, src, I⟩ :: L)) c with | some m => m.O p | none => []) = _
          rw [hfn]
        have hsc : (Mks.of (new ++ (⟨c, O, src, I⟩ :: L))).src c = src := by
          show (fnd (new ++ (⟨c, O, src, I⟩ :: L)) c).bind _ = _
          rw [hfn]; rfl
        have hIc : (Mks.of (new ++ (⟨c, O, src, I⟩ :: L))).I c = I := by
          funext y
          show (match fnd (new ++ (⟨c, O, src, I⟩ :: L)) c with | some m => m.I y | none => True) = _
          rw [hfn]
        rw [Nat.add_zero]
        refine ⟨T, hg, .inl ⟨d, hd, Nat.blt_eq ▸ hN, fun p t => ?_⟩, hi, .inr ⟨by show (fnd (new ++ (⟨c, O, src, I⟩ :: L)) c).isSome = true; rw [hfn]; rfl, by rw [hOc]; exact hO, fun i hi2 => ?_, fun p R hR => ?_⟩⟩
        · dsimp only
          rw [if_neg (by omega), if_pos rfl, h4 p]
        · rw [hsc] at hi2
          obtain ⟨e1, e2, _⟩ := hs i hi2
          have hic : i < c ∨ 1000000 ≤ i := by
            obtain ⟨m, hm⟩ := Option.isSome_iff_exists.1 e2
            obtain ⟨g1, g2⟩ := fnd_mem hm
            have := hL.lt m g1
            omega
          exact ⟨by omega, e1, by show (fnd (new ++ (⟨c, O, src, I⟩ :: L)) i).isSome = true; rw [hfl i hic]; exact e2⟩
        · dsimp only
          rw [if_pos rfl, hOc, hIc]
          have hcons : (Mks.of (new ++ (⟨c, O, src, I⟩ :: L))).cons c p = srcO L src p := by
            unfold Mks.cons srcO
            rw [hsc]
            cases hsr : src with
            | none => rfl
            | some i =>
              have hic : i < c ∨ 1000000 ≤ i := by
                obtain ⟨_, e2, _⟩ := hs i hsr
                obtain ⟨m, hm⟩ := Option.isSome_iff_exists.1 e2
                obtain ⟨g1, g2⟩ := fnd_mem hm
                have := hL.lt m g1
                omega
              rw [hsr] at hfl
              show (match fnd (new ++ (⟨c, O, some i, I⟩ :: L)) i with | some m => m.O p | none => []) = (match fnd L i with | some m => m.O p | none => [])
              rw [hfl i hic]
          rw [hcons]
          exact hm p R hR
      | succ j =>
        have := h6 j o' (by simpa using hj)
        rw [show c + 1 + j = c + (j + 1) by omega] at this
        exact this.congr (fun p => if_neg (by omega)) fun p => if_neg (by omega)
  | makeN c L o rest E O src I T hd hg hi hO hs hm h ih =>
    obtain ⟨σ, new, Ef, h1, h2, h3, h4, h5, h6⟩ := ih ⟨fun m hm => by
      rcases List.mem_cons.1 hm with rfl | hm
      · exact .inl (Nat.lt_succ_self _)
      · exact (hL.lt m hm).imp Nat.lt_succ_of_lt id, List.pairwise_cons.2 ⟨fun m hm => ⟨by rw [List.length_cons] at hbig; have := hL.lt m hm; dsimp only; omega, fun i hi2 => (hs i hi2).2.2 m hm⟩, hL.pw⟩⟩ (by rw [List.length_cons] at hbig; omega)
    rw [List.length_cons] at hbig
    have happ : new ++ (⟨c, O, src, I⟩ :: L) = (new ++ [⟨c, O, src, I⟩]) ++ L := by simp
    have hfn : fnd (new ++ (⟨c, O, src, I⟩ :: L)) c = some ⟨c, O, src, I⟩ := by
      rw [fnd_new (c := c + 1) h2 (.inl (Nat.lt_succ_self c))]
      unfold fnd
      rw [List.find?_cons]
      have : Nat.beq c c = true := Nat.beq_refl _
      simp only [this]
    have hfl : ∀ i, (i < c ∨ 1000000 ≤ i) → fnd (new ++ (⟨c, O, src, I⟩ :: L)) i = fnd L i := fun i hic => by
      rw [fnd_new (c := c + 1) h2 (by omega)]
      unfold fnd
      rw [List.find?_cons]
      have : Nat.beq c i = false := beq_f (by omega)
      simp only [this]
    refine ⟨fun p i => if i = c then E p else σ p i, new ++ [⟨c, O, src, I⟩], Ef, happ ▸ h1, fun m hm => ?_, by rw [List.length_cons, show c + (rest.length + 1) = c + 1 + rest.length by omega]; exact happ ▸ h3, fun p => if_pos rfl, fun p => ?_, fun j o' hj => ?_⟩
    · rcases List.mem_append.1 hm with hm | hm
      · have := h2 m hm; omega
      · simp only [List.mem_singleton] at hm
        subst hm; exact ⟨Nat.le_refl _, by dsimp only; omega⟩
    · dsimp only
      rw [if_neg (by simp), List.length_cons, show c + (rest.length + 1) = c + 1 + rest.length by omega]; exact h5 p
    · rw [← happ]
      cases j with
      | zero =>
        simp only [List.getElem?_cons_zero, Option.some.injEq] at hj
        subst hj
        have hOc : (Mks.of (new ++ (⟨c, O, src, I⟩ :: L))).O c = O := by
          funext p
          show (match fnd (new ++ (⟨c, O, src, I⟩ :: L)) c with | some m => m.O p | none => []) = _
          rw [hfn]
        have hsc : (Mks.of (new ++ (⟨c, O, src, I⟩ :: L))).src c = src := by
          show (fnd (new ++ (⟨c, O, src, I⟩ :: L)) c).bind _ = _
          rw [hfn]; rfl
        have hIc : (Mks.of (new ++ (⟨c, O, src, I⟩ :: L))).I c = I := by
          funext y
          show (match fnd (new ++ (⟨c, O, src, I⟩ :: L)) c with | some m => m.I y | none => True) = _
          rw [hfn]
        rw [Nat.add_zero]
        refine ⟨T, hg, .inr ⟨hd, fun p t => ?_⟩, hi, .inr ⟨by show (fnd (new ++ (⟨c, O, src, I⟩ :: L)) c).isSome = true; rw [hfn]; rfl, by rw [hOc]; exact hO, fun i hi2 => ?_, fun p R hR => ?_⟩⟩
        · dsimp only
          rw [if_neg (by omega), if_pos rfl, h4 p]
        · rw [hsc] at hi2
          obtain ⟨e1, e2, _⟩ := hs i hi2
          have hic : i < c ∨ 1000000 ≤ i := by
            obtain ⟨m, hm⟩ := Option.isSome_iff_exists.1 e2
            obtain ⟨g1, g2⟩ := fnd_mem hm
            have := hL.lt m g1
            omega
          exact ⟨by omega, e1, by show (fnd (new ++ (⟨c, O, src, I⟩ :: L)) i).isSome = true; rw [hfl i hic]; exact e2⟩
        · dsimp only
          rw [if_pos rfl, hOc, hIc]
          have hcons : (Mks.of (new ++ (⟨c, O, src, I⟩ :: L))).cons c p = srcO L src p := by
            unfold Mks.cons srcO
            rw [hsc]
            cases hsr : src with
            | none => rfl
            | some i =>
              have hic : i < c ∨ 1000000 ≤ i := by
                obtain ⟨_, e2, _⟩ := hs i hsr
                obtain ⟨m, hm⟩ := Option.isSome_iff_exists.1 e2
                obtain ⟨g1, g2⟩ := fnd_mem hm
                have := hL.lt m g1
                omega
              rw [hsr] at hfl
              show (match fnd (new ++ (⟨c, O, some i, I⟩ :: L)) i with | some m => m.O p | none => []) = (match fnd L i with | some m => m.O p | none => [])
              rw [hfl i hic]
          rw [hcons]
          exact hm p R hR
      | succ j =>
        have := h6 j o' (by simpa using hj)
        rw [show c + 1 + j = c + (j + 1) by omega] at this
        exact this.congr (fun p => if_neg (by omega)) fun p => if_neg (by omega)
/-- A region that draws its order: quiet operations and makings of memory (l1), then the rest in order. L0: what was there before and may be consumed. -/
theorem aw_drawG (L0 : List Mki) (k : Nat) {id : Nat} {l l1 l2 : List Oper} {env : Env} (hm : P.follows .mixedOrders = true) (hok : drawOk l.toArray = true) (htl : tailOk l.toArray k = true) (hbl : Nat.blt l.length 1000000 = true) (hc : Cut k l l1 l2) (hL0 : MWf L0 0) (hcon : ∀ m ∈ L0, m.src = none ∧ (∀ p p', m.O p = m.O p') ∧ ∀ y, m.I y)
    (h : DM P w0 N l.toArray objs (fun L E => ∀ p : Pt, (∀ m ∈ L, m.I (p m.idx)) → AL P w0 N l.toArray Q l2 (E p) ((liveL L).flatMap (fun m => m.O p) ++ objs)) 0 L0 l1 (fun _ => env)) : AW P w0 N (.region id l.toArray true) Q env (L0.flatMap (fun m => m.O pt0) ++ objs) := ⟨fun a w hs => by
  obtain ⟨e1, e2, hkl⟩ := hc.eq
  have hbl : l.length < 1000000 := Nat.blt_eq ▸ hbl
  have hl1 : l1.length = k := by rw [e1, List.length_take]; omega
  obtain ⟨σ, new0, Ef, h1, hnew, h3, h4, h5, h6⟩ := dm_steps h hL0 (by omega)
  rw [hl1, Nat.zero_add] at h5 h3
  have hnk : ∀ m ∈ new0, m.idx < k := fun m hm => by
    have := h3.lt m (List.mem_append_left _ hm)
    have := hnew m hm
    omega
  have hL0i : ∀ m ∈ L0, 1000000 ≤ m.idx := fun m hm => by have := hL0.lt m hm; omega
  have hmemL : ∀ m, m ∈ new0 ++ L0 → ¬ m.idx < k → m ∈ L0 := fun m hm hk => by
    rcases List.mem_append.1 hm with h | h
    · exact absurd (hnk m h) hk
    · exact h
  have hL0m : ∀ m ∈ L0, m ∈ new0 ++ L0 := fun m hm => List.mem_append_right _ hm
  generalize new0 ++ L0 = new at h1 h3 h6 hmemL hL0m
  have hop : ∀ c o, c < k → l.toArray[c]? = some o → OpM P w0 N l.toArray objs (Mks.of new) σ c o := fun c o hck ho => by
    have := h6 c o (by rw [e1, List.getElem?_take, if_pos hck]; simpa using ho)
    rwa [Nat.zero_add] at this
  have hrep : ∀ i, (Array.replicate l.toArray.size false).getD i false = false := fun i => by
    rcases Nat.lt_or_ge i l.toArray.size with h | h
    · simp at h; simp [h]
    · simp at h; simp [Array.getD_eq_getD_getElem?, h]
  have hsrc : ∀ {c i : Nat}, (Mks.of new).src c = some i → ∃ m ∈ new, m.idx = c ∧ m.src = some i := fun {c i} hci => by
    obtain ⟨m, hm, hmi⟩ := Option.bind_eq_some_iff.1 hci
    obtain ⟨g1, g2⟩ := fnd_mem hm
    exact ⟨m, g1, g2, hmi⟩
  have hOof : ∀ {m : Mki} (_ : m ∈ new) (p : Pt), (Mks.of new).O m.idx p = m.O p := fun {m} hm p => by
    show (match fnd new m.idx with | some m => m.O p | none => []) = _
    rw [fnd_of h3 hm]
  have hon : ∀ {m : Mki} (_ : m ∈ new), (Mks.of new).on m.idx = true := fun {m} hm => by
    show (fnd new m.idx).isSome = true
    rw [fnd_of h3 hm]; rfl
  have hfla : ∀ (p : Pt) (l3 : List Mki), (∀ m ∈ l3, m ∈ new) → (l3.map (·.idx)).flatMap (fun i => (Mks.of new).O i p) = l3.flatMap fun m => m.O p := fun p l3 => by
    induction l3 with
    | nil => intro _; rfl
    | cons x r ih =>
      intro hx
      rw [List.map_cons, List.flatMap_cons, List.flatMap_cons, ih fun y hy => hx y (List.mem_cons_of_mem _ hy), hOof (hx x List.mem_cons_self)]
  have hnd : (liveL new).Pairwise fun a b => a.idx ≠ b.idx := (h3.pw.imp fun h => h.1).filter _
  refine wp_region_any hm (any_of_jm (objs := objs) hok (k := k) (by simp; omega) htl (M := Mks.of new) (σ := σ) (fun p p' t => by rw [h4, h4]) hop (fun c c' i hck hck' hsc hsc' => ?_) (fun j hj p p' => ?_) (ms := (liveL new).map (·.idx)) (List.Pairwise.map _ (fun a b h => h) hnd) (fun i => ?_) (fun p hI => ?_) _ _ _ _ (by simp) (by simp [unlisted]) (fun i hi => by rw [hrep] at hi; cases hi) (fun j oj _ hx => nomatch (hrep j).symm.trans hx) ⟨pt0, L0.flatMap (fun m => m.O pt0) ++ objs, ⟨L0.map (·.idx), List.Pairwise.map _ (fun a b h => h) (hL0.pw.imp fun h => h.1), fun i => ?_, by rw [hfla pt0 L0 hL0m]⟩, ⟨hs.defers, hs.size, ?_, fun t c hc' h7 h8 v hv => ?_⟩, fun i _ hx => nomatch (hrep i).symm.trans hx⟩)
  · obtain ⟨m, g1, g2, g3⟩ := hsrc hsc
    obtain ⟨m', g1', g2', g3'⟩ := hsrc hsc'
    refine Classical.byContradiction fun hne => ?_
    obtain ⟨x, hx, rfl⟩ := List.getElem_of_mem g1
    obtain ⟨y, hy, rfl⟩ := List.getElem_of_mem g1'
    have hne : x ≠ y := fun e => by subst e; omega
    rcases Nat.lt_or_gt_of_ne hne with hxy | hxy
    · exact (List.pairwise_iff_getElem.1 h3.pw x y hx hy hxy).2 i g3 g3'
    · exact (List.pairwise_iff_getElem.1 h3.pw y x hy hx hxy).2 i g3' g3
  · show (match fnd new j with | some m => m.O p | none => []) = (match fnd new j with | some m => m.O p' | none => [])
    cases hf : fnd new j with
    | none => rfl
    | some m =>
      obtain ⟨g1, g2⟩ := fnd_mem hf
      exact (hcon m (hmemL m g1 (by simp at hj; omega))).2.1 p p'
  · unfold Live
    rw [List.mem_map]
    constructor
    · rintro ⟨m, hm, rfl⟩
      obtain ⟨g1, g2⟩ := List.mem_filter.1 hm
      refine ⟨fun hlt => ?_, hon g1, fun c hck hsc _ => ?_⟩
      · have := h3.lt m g1
        simp at hlt
        omega
      · obtain ⟨m', g1', _, g3'⟩ := hsrc hsc
        have := List.all_eq_true.1 g2 m' g1'
        simp only [g3', Nat.beq_refl, Bool.not_true] at this
        cases this
    · rintro ⟨hik, hon2, hno⟩
      obtain ⟨m, hm⟩ := Option.isSome_iff_exists.1 (show (fnd new i).isSome = true from hon2)
      obtain ⟨g1, rfl⟩ := fnd_mem hm
      refine ⟨m, List.mem_filter.2 ⟨g1, List.all_eq_true.2 fun m' hm' => ?_⟩, rfl⟩
      cases hsr : m'.src with
      | none => rfl
      | some j =>
        have hne : j ≠ m.idx := fun e => by
          subst e
          have hlt : m'.idx < k := Classical.byContradiction fun hk => by
            have := (hcon m' (hmemL m' hm' hk)).1
            rw [hsr] at this; cases this
          exact hno m'.idx hlt (by show (fnd new m'.idx).bind _ = _; rw [fnd_of h3 hm']; exact hsr) hlt
        simp only [beq_f hne, Bool.not_false]
  · have hd2 : l.toArray.toList.drop k = l2 := by simpa using e2.symm
    rw [hd2, h5, hfla p (liveL new) fun m hm => (List.mem_filter.1 hm).1]
    refine h1 p fun m hm => ?_
    by_cases hlt : m.idx < k
    · have := hI m.idx hlt (hon hm)
      have e : (Mks.of new).I m.idx = m.I := by
        funext y
        show (match fnd new m.idx with | some m => m.I y | none => True) = _
        rw [fnd_of h3 hm]
      rwa [e] at this
    · exact (hcon m (hmemL m hm hlt)).2.2 _
  · unfold Live
    rw [List.mem_map]
    constructor
    · rintro ⟨m, hm, rfl⟩
      have := hL0i m hm
      exact ⟨fun h => by simp at h; omega, hon (hL0m m hm), fun c _ _ hx => nomatch (hrep c).symm.trans hx⟩
    · rintro ⟨hx, hon2, _⟩
      obtain ⟨m, hm⟩ := Option.isSome_iff_exists.1 (show (fnd new i).isSome = true from hon2)
      obtain ⟨g1, rfl⟩ := fnd_mem hm
      exact ⟨m, hmemL m g1 (fun hlt => nomatch (hrep _).symm.trans (hx (by simp; omega))), rfl⟩
  · exact hs.mem.grow ⟨hs.mem.below.os, hs.mem.below.tape, hs.mem.below.output, hs.mem.below.size, hs.mem.below.block⟩ (Nat.le_refl _) (fun _ _ => rfl)
  · have hk0 : ∀ m, m ≤ c → lk t (σ pt0 m) = lk t (σ pt0 0) := fun m => by
      induction m with
      | zero => intro _; rfl
      | succ m ih =>
        intro hm2
        have hml : m < l.length := by omega
        obtain ⟨T, _, g, _⟩ := hop m l[m] (by omega) (by simp [hml])
        rcases g with ⟨d, g1, _, g2⟩ | ⟨_, g2⟩
        · rw [g2, lk_cons, if_neg]
          · exact ih (by omega)
          · intro e
            have := h7 m (by omega) (by unfold Writes; simp [hml, g1, e])
            rw [hrep] at this; cases this
        · rw [g2]; exact ih (by omega)
    rw [hk0 c (Nat.le_refl _), h4] at hv
    have hst : Step w (L0.flatMap (fun m => m.O pt0) ++ objs) { w with drawn := w.drawn + 1 } (L0.flatMap (fun m => m.O pt0) ++ objs) := ⟨fun _ _ _ => rfl, fun _ _ h => h, fun _ _ _ rows _ _ h => ⟨⟨rows, h⟩, rfl⟩, Nat.le_refl _, fun h => h⟩
    exact (hs.env t v hv).step hst⟩
theorem aw_drawM (k : Nat) {id : Nat} {l l1 l2 : List Oper} {env : Env} (hm : P.follows .mixedOrders = true) (hok : drawOk l.toArray = true) (htl : tailOk l.toArray k = true) (hbl : Nat.blt l.length 1000000 = true) (hc : Cut k l l1 l2)
    (h : DM P w0 N l.toArray objs (fun L E => ∀ p : Pt, (∀ m ∈ L, m.I (p m.idx)) → AL P w0 N l.toArray Q l2 (E p) ((liveL L).flatMap (fun m => m.O p) ++ objs)) 0 [] l1 (fun _ => env)) : AW P w0 N (.region id l.toArray true) Q env objs :=
  aw_drawG [] k hm hok htl hbl hc ⟨by simp, .nil⟩ (by simp) h
/-- The same, where one object that was there before may be consumed (place 1000000). -/
theorem aw_drawC (k : Nat) {id : Nat} {l l1 l2 : List Oper} {env : Env} {x : Nat × Nat × TObj} (hm : P.follows .mixedOrders = true) (hok : drawOk l.toArray = true) (htl : tailOk l.toArray k = true) (hbl : Nat.blt l.length 1000000 = true) (hc : Cut k l l1 l2)
    (h : DM P w0 N l.toArray objs (fun L E => ∀ p : Pt, (∀ m ∈ L, m.I (p m.idx)) → AL P w0 N l.toArray Q l2 (E p) ((liveL L).flatMap (fun m => m.O p) ++ objs)) 0 [⟨1000000, fun _ => [x], none, fun _ => True⟩] l1 (fun _ => env)) : AW P w0 N (.region id l.toArray true) Q env (x :: objs) :=
  aw_drawG [⟨1000000, fun _ => [x], none, fun _ => True⟩] k hm hok htl hbl hc ⟨fun m hm => by simp only [List.mem_singleton] at hm; subst hm; exact .inr (Nat.le_refl _), List.pairwise_singleton _ _⟩ (fun m hm => by simp only [List.mem_singleton] at hm; subst hm; exact ⟨rfl, fun _ _ => rfl, fun _ => trivial⟩) h
end
end Go.Proofs.YtiihihgjiklnoaaGreatDoor
/- The abstract walk, part 23: what makes memory in a region that draws its order. -/
namespace Go.Proofs.YtiihihgjiklnoaaGreatDoor
open Go Go.RowKit
def Yu.a : Yu → Nat
  | .one a _ => a
  | _ => 0
def Yu.b : Yu → Nat
  | .one _ b => b
  | _ => 0
/-- How the places of a contract's result are written down. -/
class Enc (Y : Type) where
  enc : Y → Yu
  dec : Yu → Y
  eq : ∀ y, dec (enc y) = y
instance : Enc (Nat × Nat) := ⟨fun y => .one y.1 y.2, fun y => (y.a, y.b), fun _ => rfl⟩
instance : Enc (List (Nat × Nat)) := ⟨.many, fun y => match y with | .many l => l | _ => [], fun _ => rfl⟩
instance {A B : Type} [Enc A] [Enc B] : Enc (A × B) := ⟨fun y => .pair (Enc.enc y.1) (Enc.enc y.2), fun y => match y with | .pair a b => (Enc.dec a, Enc.dec b) | _ => (Enc.dec .no, Enc.dec .no), fun y => by simp [Enc.eq]⟩
section
variable {P : Program} {w0 : World} {N : Nat} {Q : Exit → Act → World → Prop} {objs R : Objs} {ops : Array Oper} {env : Env} {dd : Option Nat} {T0 : Nat} {pos : String} {af : Array Edge} {g : Option (Nat × Bool)}
theorem ev_mem {a : Act} {w : World} {l : List Operand} (h : ∀ x ∈ l, ∀ v, ev env x = some v → Rep w objs v (a.eval x)) {x : Operand} (hx : x ∈ l) {v : TV} (hv : ev env x = some v) : Rep w objs v (a.eval x) := h x hx v hv
theorem mk_alloc {T : TypeId} {zs : List TV} (hz : zeroOk P T = some zs) : MkW P w0 env ⟨dd, .alloc T, T0, pos, af, g⟩ [] R (fun _ => True) (fun y => [(y.a, y.b, .box zs)]) (fun y => .mp y.a y.b 0) := fun a w K Q hw _ hK =>
  alloc_wp rfl hz (by simpa using hw) fun ss b v w' h1 h2 h3 => hK (.one ss b) v w' trivial h2 h3 h1
theorem mk_lit {T : TypeId} {n m : Nat} {ps : List (Nat × Operand)} {rows : List (List TV)} (hT : P.underlying T = some (.slice (P.elem T))) (hI : (zeroOk P (P.elem T)).isSome = true) (hm : P.cellsOf (P.elem T) = m) (hm0 : Nat.blt 0 m = true) (hev : evL env ps 0 = some rows) (hn : rows.length = n) (hbig : Nat.ble (n * m) 16777216 = true) (hall : (rows.all fun r => Nat.beq r.length m) = true) :
    MkW P w0 env ⟨dd, .buildSlice T n ps.toArray, T0, pos, af, g⟩ [] R (fun _ => True) (fun y => [(y.a, y.b, .row m rows)]) (fun y => .ms y.a y.b 0 n) := fun a w K Q hw hop hK => by
  obtain ⟨ss, hf⟩ := site_new ([] ++ R)
  have hm0' : 0 < m := Nat.blt_eq ▸ hm0
  have hall' : ∀ r ∈ rows, r.length = m := fun r hr => Nat.eq_of_beq_eq_true (List.all_eq_true.1 hall r hr)
  have hst := fun cs => step_new hw cs (P.elem T) ss (.row m rows)
  obtain ⟨cs, h1, h2, h3⟩ := run_lit (o := ⟨dd, .buildSlice T n ps.toArray, T0, pos, af, g⟩) rfl hT hI hm hm0 hn hbig a hev hall' (fun p hp v hv => ev_mem hop (by simpa [Op.operands] using ⟨p.1, hp⟩) hv)
  unfold Oper.wp
  rw [h1]
  have hnm : n ≤ maxLen := by
    have := Nat.le_of_ble_eq_true hbig
    have h4 : n * 1 ≤ n * m := Nat.mul_le_mul_left _ hm0'
    simp only [maxLen]; omega
  have hb0 : w.heap.size ≠ 0 := Nat.ne_of_gt (Nat.lt_of_lt_of_le hw.pos hw.below.size)
  refine hK (.one ss w.heap.size) _ _ trivial (hw.newObj hf ⟨⟨hm0', h2.2⟩, hall', .inr ⟨hw.below.size, cs, P.elem T, n, heap_alloc_new w _, h2.1, by omega, hnm, fun j t hj => ?_⟩⟩) (hst cs) (.ms _ _ _ _ _ (.mk ⟨by simp [Yu.b], noMark_new hw #[] 0 ss _, _, _, rfl⟩ (fun m' rows' hm' => .inr ⟨hb0, 0, n, P.elem T, n * m, rfl, Nat.le_refl _, by unfold World.shape?; simp only [Yu.b]; rw [heap_alloc_new]; simp [h2.1], ?_, fun _ => by simp⟩) (fun h0 => absurd h0 hb0)))
  · obtain ⟨v, h4, h5⟩ := h3 j t hj
    exact ⟨v, h4, h5.step (hst cs)⟩
  · rcases List.mem_cons.1 hm' with he | hm'
    · simp only [Prod.mk.injEq, TObj.row.injEq] at he; rw [he.2.2.1]; simp
    · exact absurd (objs_lt hw hm') (Nat.lt_irrefl _)
theorem mk_append {T s b len n m : Nat} {x y : Operand} {f : Nat} {rows rows2 news : List (List TV)} (hx : ev env x = some (.ms s b 0 len)) (hy : ev env y = some (.sl f m news)) (hT : appOk P T m = true) (hl : rows.length = len) (hn : news.length = n) (hbig : len + n ≤ 1000000000) (hrows : rows ++ news = rows2) :
    MkW P w0 env ⟨dd, .call { callee := .builtin .append, args := #[x, y], argTypes := #[T, T] }, T0, pos, af, g⟩ [(s, b, .row m rows)] R (fun _ => True) (fun y => [(s, y.b, .row m rows2)]) (fun y => .ms s y.b 0 (len + n)) := fun a w K Q hw hop hK => by
  subst hrows
  subst hn
  have hu : ∀ b', Upd (s, b, .row m rows) (s, b', .row m (rows ++ news)) ([(s, b, .row m rows)] ++ R) ([(s, b', .row m (rows ++ news))] ++ R) := fun b' => .head R
  have hmem := (hu 0).mem
  have hex := ev_mem hop (x := x) (by simp [Op.operands, Call.operands]) hx
  have hey := ev_mem hop (x := y) (by simp [Op.operands, Call.operands]) hy
  obtain ⟨b', off', pre, v', w', hr, hE⟩ := app_core (P := P) (ty := T0) hw hmem hex hey hT (by omega) rfl hbig
  have hpre : pre = [] := List.eq_nil_of_length_eq_zero (by rw [hE.prelen]; exact hE.zero rfl)
  have hoff : off' = 0 := hE.zero rfl
  subst hpre; subst hoff
  obtain ⟨⟨hm0, hci⟩, hm, _⟩ := hw.obj s b _ hmem
  obtain ⟨_, _, _, _, _, g3, g4, _⟩ := rep_sl hey
  unfold Oper.wp
  rw [exec_append (o := ⟨dd, .call { callee := .builtin .append, args := #[x, y], argTypes := #[T, T] }, T0, pos, af, g⟩) rfl hr]
  have hst := step_upd (m := m) hw (hu b') hE.size hE.keep hE.blk (fun rows' _ => ⟨rows, rfl⟩) (fun m' rows' he => by simp only [TObj.row.injEq] at he; exact he.1.symm) hE.shape (by simp only [marker, ne_eq, Prod.mk.injEq, TObj.row.injEq]; omega)
  have hobj := hE.obj
  simp only [List.nil_append, List.drop_zero] at hobj
  rw [← hl, List.take_length] at hobj
  refine hK (.one s b') v' w' trivial (hw.upd (hu b') hE.below hE.keep hE.blk hst ⟨⟨hm0, fun t ht => ?_⟩, fun r hr => ?_, hobj.imp id fun ⟨h1, cur, e, cap, h2, h3, h4, h5, h6⟩ => ⟨h1, cur, e, cap, h2, h3, h4, h5, fun j t hj => ?_⟩⟩) hst (.ms s b' _ _ _ (.mk ⟨hE.lt, fun hm' => hw.noMark (hst.mark hm'), ?_⟩ (fun m' rows' hm' => ?_) (fun h0 => ?_)))
  · simp only [List.flatten_append, List.mem_append] at ht
    rcases ht with ht | ht
    · exact hci t ht
    · exact g4 t ht
  · simp only [List.mem_append] at hr
    rcases hr with hr | hr
    · exact hm r hr
    · exact g3 r hr
  · rcases hE.val with ⟨_, _, h0, h1⟩ | ⟨_, q, c, e, k, h1, _⟩
    · exact ⟨none, 0, by rw [h0]; exact h1⟩
    · exact ⟨_, _, h1⟩
  · rcases (hu b').other hw.sites _ hm' with he | ⟨_, hne, _⟩
    · simp only [Prod.mk.injEq, TObj.row.injEq] at he
      obtain ⟨_, _, rfl, _⟩ := he
      exact hE.val
    · exact absurd rfl hne
  · rcases hE.val with ⟨_, h1, h2, h3⟩ | ⟨h1, _⟩
    · exact ⟨h1, h2, h3⟩
    · exact absurd h0 h1
  · obtain ⟨u, p1, p2⟩ := h6 j t hj
    exact ⟨u, p1, p2.step hst⟩
theorem View.mono {objs' : Objs} (hs : ∀ x ∈ objs, x ∈ objs') {t t' : TV} (h : View objs t t') : View objs' t t' := by
  induction h with
  | same t => exact .same t
  | nils m => exact .nils m
  | ms s b off len m rows live rows' hm hle hlive hl h ih => exact .ms s b off len m rows live rows' (hs _ hm) hle hlive hl ih
  | mp s b off cells l' hm hl h ih => exact .mp s b off cells l' (hs _ hm) hl ih
  | me s b m k j rows r l' hm hr hl h ih => exact .me s b m k j rows r l' (hs _ hm) hr hl ih
  | agg l l' hl h ih => exact .agg l l' hl ih
  | sl f m rows rows' hl h ih => exact .sl f m rows rows' hl ih
  | cp0 f l => exact .cp0 f l
  | cut t l l' h hp ih => exact .cut t l l' ih hp
theorem Args.mono {objs' : Objs} (hs : ∀ x ∈ objs, x ∈ objs') {xs : List Operand} {ts : List TV} (h : Args env objs xs ts) : Args env objs' xs ts := by
  induction h with
  | nil => exact .nil
  | cons x xs t t' ts h hv hr ih => exact .cons x xs t t' ts h (hv.mono hs) ih
theorem mk_call {G : World → Prop} {f : Nat} {xs : List Operand} {ts : Array TypeId} {args : List TV} {Y : Type} [Enc Y] {I : Y → Prop} {O : Y → Objs} {r : Y → TV} (hc : callB P f = true) (hct : CtM P G f args [] I O r) (hargs : Args env objs xs args) (hR : ∀ x ∈ objs, x ∈ R)
    (hG : G w0) (hst : Stable G) (hnew : ∀ y, I y → (∀ s b o, (s, b, o) ∈ O y → ObjNew (O y) o) ∧ NewOk (O y) (r y)) :
    MkW P w0 env ⟨dd, .call { callee := .value (.func f), args := xs.toArray, argTypes := ts }, T0, pos, af, g⟩ [] R (fun y => I (Enc.dec y)) (fun y => O (Enc.dec y)) (fun y => r (Enc.dec y)) := fun a w K Q hw0 hop hK => by
  have hw : SimW w0 R w := by simpa using hw0
  obtain ⟨h1, h2⟩ := args_rep hw (a := a) (hargs.mono hR) (fun x hx v hv => ev_mem hop (by simp only [Op.operands, Call.operands]; simp [hx]) hv)
  unfold Oper.wp
  rw [exec_call (o := ⟨dd, .call { callee := .value (.func f), args := xs.toArray, argTypes := ts }, T0, pos, af, g⟩) rfl hc]
  have hwv := simW_voids hw
  refine (hct w w (voids R) [] (xs.map a.eval).toArray (hst.below _ _ hG hw.below) (by simpa using hwv) (.gh _ _ (by simp)) (by simpa using h1) (fun i t v ht hv => ?_)).mono ?_
  · exact (h2 i t v ht (by simpa using hv)).step (by simpa using step_voids w R)
  · rintro e w' ⟨v, y, rfl, hI, hw', _, hr⟩
    obtain ⟨n1, n2⟩ := hnew y hI
    have hst' := new_step hw hw' n1
    exact hK (Enc.enc y) v w' (by dsimp only; rw [Enc.eq]; exact hI) (by dsimp only; rw [Enc.eq]; exact new_simW hw hw' n1) (by dsimp only; rw [Enc.eq]; exact hst') (by dsimp only; rw [Enc.eq]; exact new_rep hw hw' n1 n2 hr)
end
end Go.Proofs.YtiihihgjiklnoaaGreatDoor
